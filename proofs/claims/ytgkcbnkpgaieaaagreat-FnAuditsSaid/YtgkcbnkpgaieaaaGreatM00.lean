/-
  Part of the proof: the machine, what functions compute, and the plain laws.
-/
import Derived.Calls
import Derived.Orders
import Derived.Below
import Derived.Laws.Cells
import Derived.Laws.CopyRow
import Derived.Laws.Strings
import Derived.DeepKeys
import Derived.Laws.StructEq
import Derived.Laws.BytesString
import Derived.Great.BuildSlice
import Derived.Maps.AppendAt
import Derived.Laws.MakeOwn
import Derived.Deep.AppendSrc
namespace Gv
open Go
/-- Pure data: an element of a slice is the list of its cells. -/
inductive D where
 |int (k:IntKind) (n:Int)
 |bool (b:Bool)
 |str (s:List UInt8)
 |sl (sz:Nat) (xs:List (List D))
  /-- a cell's value, whatever it is -/
 |raw (u:Value)
def cellAt (h:Array Obj) (b o:Nat):Option Value:=
 match h[b]? with
 |some (.cells c _ _)=>c[o]?
 |_=>none
theorem cell_eq (w:World) (b o:Nat):w.cell? ⟨b,o,none⟩=cellAt w.heap b o:=by
 unfold World.cell? cellAt
 cases w.heap[b]? with
 |none=>rfl
 |some x=>cases x<;>rfl
theorem cellAt_congr {h h':Array Obj} {b:Nat} (e:h'[b]?=h[b]?) (o:Nat):cellAt h' b o=cellAt h b o:=by
 unfold cellAt;rw [e]
/-- Block b is a row of cells that may be written, at least n of them. -/
def roomy (h:Array Obj) (b n:Nat):Prop:=∃ cs e,h[b]?=some (.cells cs e (0,0))∧n≤cs.size
mutual
/-- The value v is the datum, the slices' blocks are the footprint. 'o': the slices are owned: their capacity may be written too. -/
def rep (h:Array Obj) (o:Bool):D→Value→List Nat→Prop
 |.int k n,v,F=>v=.int k n∧F=[]∧k.min≤n∧n≤k.max
 |.bool b,v,F=>v=.bool b∧F=[]
 |.str s,v,F=>v=.string ⟨s.toArray⟩∧F=[]∧s.length≤maxLen
 |.raw u,v,F=>v=u∧F=[]∧u.oneCell'=true∧u.cells=#[u]
 |.sl sz xs,v,F=>∃ a c,v=.slice a xs.length c∧xs.length≤c∧c≤maxLen ∧
   ((xs=[]∧F=[]∧(o=true→c=0)) ∨
    ∃ b f G,a=some ⟨b,f,none⟩∧F=b::G∧b < h.size∧repE h o b f sz xs G∧(o=true→0 < c∧roomy h b (f + c * sz)))
def repC (h:Array Obj) (o:Bool) (b:Nat):Nat→List D→List Nat→Prop
 |_,[],G=>G=[]
 |f,d::ds,G=>∃ v G1 G2,G=G1++G2∧cellAt h b f=some v∧rep h o d v G1∧repC h o b (f + 1) ds G2
def repE (h:Array Obj) (o:Bool) (b:Nat):Nat→Nat→List (List D)→List Nat→Prop
 |_,_,[],G=>G=[]
 |f,sz,c::cs,G=>∃ G1 G2,G=G1++G2∧c.length=sz∧repC h o b f c G1∧repE h o b (f + sz) sz cs G2
end
theorem roomy.mono {h h':Array Obj} {b n:Nat} (e:h'[b]?=h[b]?) (r:roomy h b n):roomy h' b n:=by
 obtain ⟨cs,t,h1,h2⟩:=r
 exact ⟨cs,t,by rw [e];exact h1,h2⟩
theorem roomy.lt {h:Array Obj} {b n:Nat} (r:roomy h b n):b < h.size:=by
 obtain ⟨cs,t,h1,_⟩:=r
 rcases Nat.lt_or_ge b h.size with h'|h'
 ·exact h'
 ·rw [Array.getElem?_eq_none h'] at h1;cases h1
mutual
theorem rep_mono {h h':Array Obj} {o:Bool} (hs:h.size≤h'.size):∀ (d:D) (v:Value) (F:List Nat),(∀ b ∈ F,h'[b]?=h[b]?)→rep h o d v F→rep h' o d v F
 |.int k n,v,F,_,r=>by simpa [rep] using r
 |.bool b,v,F,_,r=>by simpa [rep] using r
 |.str s,v,F,_,r=>by simpa [rep] using r
 |.raw u,v,F,_,r=>by simpa [rep] using r
 |.sl sz xs,v,F,hF,r=>by
  simp only [rep] at r ⊢
  obtain ⟨a,c,h1,h2,h3,h4⟩:=r
  refine ⟨a,c,h1,h2,h3,?_⟩
  rcases h4 with h4|⟨b,f,G,e1,e2,e3,e4,e5⟩
  ·exact .inl h4
  ·subst e2
   exact .inr ⟨b,f,G,e1,rfl,by omega,repE_mono hs xs b f sz G (hF b (by simp)) (fun g hg=>hF g (by simp [hg])) e4,fun ho=>⟨(e5 ho).1,(e5 ho).2.mono (hF b (by simp))⟩⟩
theorem repC_mono {h h':Array Obj} {o:Bool} (hs:h.size≤h'.size):∀ (ds:List D) (b f:Nat) (G:List Nat),h'[b]?=h[b]?→(∀ g ∈ G,h'[g]?=h[g]?)→repC h o b f ds G→repC h' o b f ds G
 |[],_,_,_,_,_,r=>by simpa [repC] using r
 |d::ds,b,f,G,hb,hG,r=>by
  simp only [repC] at r ⊢
  obtain ⟨v,G1,G2,e1,e2,e3,e4⟩:=r
  subst e1
  exact ⟨v,G1,G2,rfl,by rw [cellAt_congr hb];exact e2,rep_mono hs d v G1 (fun g hg=>hG g (by simp [hg])) e3,repC_mono hs ds b (f + 1) G2 hb (fun g hg=>hG g (by simp [hg])) e4⟩
theorem repE_mono {h h':Array Obj} {o:Bool} (hs:h.size≤h'.size):∀ (cs:List (List D)) (b f sz:Nat) (G:List Nat),h'[b]?=h[b]?→(∀ g ∈ G,h'[g]?=h[g]?)→repE h o b f sz cs G→repE h' o b f sz cs G
 |[],_,_,_,_,_,_,r=>by simpa [repE] using r
 |c::cs,b,f,sz,G,hb,hG,r=>by
  simp only [repE] at r ⊢
  obtain ⟨G1,G2,e1,e2,e3,e4⟩:=r
  subst e1
  exact ⟨G1,G2,rfl,e2,repC_mono hs c b f G1 hb (fun g hg=>hG g (by simp [hg])) e3,repE_mono hs cs b (f + sz) sz G2 hb (fun g hg=>hG g (by simp [hg])) e4⟩
end
mutual
theorem rep_lt {h:Array Obj} {o:Bool}:∀ (d:D) (v:Value) (F:List Nat),rep h o d v F→∀ b ∈ F,b < h.size
 |.int k n,v,F,r=>by simp only [rep] at r;simp [r.2.1]
 |.bool b,v,F,r=>by simp only [rep] at r;simp [r.2]
 |.str s,v,F,r=>by simp only [rep] at r;simp [r.2.1]
 |.raw u,v,F,r=>by simp only [rep] at r;simp [r.2.1]
 |.sl sz xs,v,F,r=>by
  simp only [rep] at r
  obtain ⟨a,c,h1,h2,h3,h4⟩:=r
  rcases h4 with h4|⟨b,f,G,e1,e2,e3,e4,e5⟩
  ·simp [h4.2.1]
  ·subst e2
   intro g hg
   rcases List.mem_cons.1 hg with rfl|hg
   ·exact e3
   ·exact repE_lt xs b f sz G e4 g hg
theorem repC_lt {h:Array Obj} {o:Bool}:∀ (ds:List D) (b f:Nat) (G:List Nat),repC h o b f ds G→∀ g ∈ G,g < h.size
 |[],_,_,_,r=>by simp only [repC] at r;simp [r]
 |d::ds,b,f,G,r=>by
  simp only [repC] at r
  obtain ⟨v,G1,G2,e1,e2,e3,e4⟩:=r
  subst e1
  intro g hg
  rcases List.mem_append.1 hg with hg|hg
  ·exact rep_lt d v G1 e3 g hg
  ·exact repC_lt ds b (f + 1) G2 e4 g hg
theorem repE_lt {h:Array Obj} {o:Bool}:∀ (cs:List (List D)) (b f sz:Nat) (G:List Nat),repE h o b f sz cs G→∀ g ∈ G,g < h.size
 |[],_,_,_,_,r=>by simp only [repE] at r;simp [r]
 |c::cs,b,f,sz,G,r=>by
  simp only [repE] at r
  obtain ⟨G1,G2,e1,e2,e3,e4⟩:=r
  subst e1
  intro g hg
  rcases List.mem_append.1 hg with hg|hg
  ·exact repC_lt c b f G1 e3 g hg
  ·exact repE_lt cs b (f + sz) sz G2 e4 g hg
end
mutual
/-- Owned is more than readable. -/
theorem rep_false {h:Array Obj}:∀ (d:D) (v:Value) (F:List Nat),rep h true d v F→rep h false d v F
 |.int k n,v,F,r=>by simpa [rep] using r
 |.bool b,v,F,r=>by simpa [rep] using r
 |.str s,v,F,r=>by simpa [rep] using r
 |.raw u,v,F,r=>by simpa [rep] using r
 |.sl sz xs,v,F,r=>by
  simp only [rep] at r ⊢
  obtain ⟨a,c,h1,h2,h3,h4⟩:=r
  refine ⟨a,c,h1,h2,h3,?_⟩
  rcases h4 with h4|⟨b,f,G,e1,e2,e3,e4,e5⟩
  ·exact .inl ⟨h4.1,h4.2.1,fun e=>by cases e⟩
  ·exact .inr ⟨b,f,G,e1,e2,e3,repE_false xs b f sz G e4,fun e=>by cases e⟩
theorem repC_false {h:Array Obj}:∀ (ds:List D) (b f:Nat) (G:List Nat),repC h true b f ds G→repC h false b f ds G
 |[],_,_,_,r=>by simpa [repC] using r
 |d::ds,b,f,G,r=>by
  simp only [repC] at r ⊢
  obtain ⟨v,G1,G2,e1,e2,e3,e4⟩:=r
  exact ⟨v,G1,G2,e1,e2,rep_false d v G1 e3,repC_false ds b (f + 1) G2 e4⟩
theorem repE_false {h:Array Obj}:∀ (cs:List (List D)) (b f sz:Nat) (G:List Nat),repE h true b f sz cs G→repE h false b f sz cs G
 |[],_,_,_,_,r=>by simpa [repE] using r
 |c::cs,b,f,sz,G,r=>by
  simp only [repE] at r ⊢
  obtain ⟨G1,G2,e1,e2,e3,e4⟩:=r
  exact ⟨G1,G2,e1,e2,repC_false c b f G1 e3,repE_false cs b (f + sz) sz G2 e4⟩
end
theorem repC_append {h:Array Obj} {o:Bool} {b:Nat}:∀ (ds es:List D) (f:Nat) (G:List Nat),repC h o b f (ds++es) G↔∃ G1 G2,G=G1++G2∧repC h o b f ds G1∧repC h o b (f + ds.length) es G2
 |[],es,f,G=>by
  simp only [List.nil_append,repC,List.length_nil,Nat.add_zero]
  exact ⟨fun r=>⟨[],G,rfl,rfl,r⟩,fun ⟨G1,G2,e,e1,r⟩=>by subst e1;rw [e];exact r⟩
 |d::ds,es,f,G=>by
  simp only [List.cons_append,repC,List.length_cons]
  constructor
  ·rintro ⟨v,G1,G2,rfl,e2,e3,e4⟩
   obtain ⟨H1,H2,rfl,k1,k2⟩:=(repC_append ds es (f + 1) G2).1 e4
   exact ⟨G1++H1,H2,by simp,⟨v,G1,H1,rfl,e2,e3,k1⟩,by rw [show f + (ds.length + 1)=f + 1 + ds.length from by omega];exact k2⟩
  ·rintro ⟨G1,G2,rfl,⟨v,H1,H2,rfl,e2,e3,e4⟩,k⟩
   refine ⟨v,H1,H2++G2,by simp,e2,e3,(repC_append ds es (f + 1) _).2 ⟨H2,G2,rfl,e4,?_⟩⟩
   rw [show f + 1 + ds.length=f + (ds.length + 1) from by omega];exact k
theorem repE_append {h:Array Obj} {o:Bool} {b sz:Nat}:∀ (cs ds:List (List D)) (f:Nat) (G:List Nat),repE h o b f sz (cs++ds) G↔∃ G1 G2,G=G1++G2∧repE h o b f sz cs G1∧repE h o b (f + cs.length * sz) sz ds G2
 |[],ds,f,G=>by
  simp only [List.nil_append,repE,List.length_nil,Nat.zero_mul,Nat.add_zero]
  exact ⟨fun r=>⟨[],G,rfl,rfl,r⟩,fun ⟨G1,G2,e,e1,r⟩=>by subst e1;rw [e];exact r⟩
 |c::cs,ds,f,G=>by
  simp only [List.cons_append,repE,List.length_cons]
  have hf:f + sz + cs.length * sz=f + (cs.length + 1) * sz:=by rw [Nat.add_mul];omega
  constructor
  ·rintro ⟨G1,G2,rfl,e2,e3,e4⟩
   obtain ⟨H1,H2,rfl,k1,k2⟩:=(repE_append cs ds (f + sz) G2).1 e4
   exact ⟨G1++H1,H2,by simp,⟨G1,H1,rfl,e2,e3,k1⟩,by rw [← hf];exact k2⟩
  ·rintro ⟨G1,G2,rfl,⟨H1,H2,rfl,e2,e3,e4⟩,k⟩
   exact ⟨H1,H2++G2,by simp,e2,e3,(repE_append cs ds (f + sz) _).2 ⟨H2,G2,rfl,e4,by rw [hf];exact k⟩⟩
/-- The i-th element of a row. -/
theorem repE_at {h:Array Obj} {o:Bool} {b sz:Nat} {cs:List (List D)} {f:Nat} {G:List Nat} (r:repE h o b f sz cs G) {i:Nat} {c:List D} (hi:cs[i]?=some c) :
  ∃ G1 Gi G2,G=G1++(Gi++G2)∧c.length=sz∧repE h o b f sz (cs.take i) G1∧repC h o b (f + i * sz) c Gi∧repE h o b (f + (i + 1) * sz) sz (cs.drop (i + 1)) G2:=by
 have hlt:i < cs.length:=(List.getElem?_eq_some_iff.1 hi).1
 have hc:cs[i]=c:=(List.getElem?_eq_some_iff.1 hi).2
 have e:cs=cs.take i++(c::cs.drop (i + 1)):=by
  rw [← hc,List.getElem_cons_drop,List.take_append_drop]
 rw [e] at r
 obtain ⟨G1,G2,rfl,r1,r2⟩:=(repE_append _ _ _ _).1 r
 simp only [repE] at r2
 obtain ⟨H1,H2,rfl,e2,e3,e4⟩:=r2
 have hl:(cs.take i).length=i:=by simp;omega
 rw [hl] at e3 e4
 refine ⟨G1,H1,H2,rfl,e2,r1,e3,?_⟩
 rw [Nat.add_mul,Nat.one_mul,← Nat.add_assoc];exact e4
/-- Cells of one element, all of them, as values. -/
theorem repC_vals {h:Array Obj} {o:Bool} {b:Nat}:∀ (ds:List D) (f:Nat) (G:List Nat),repC h o b f ds G→∃ us:List Value,us.length=ds.length∧(∀ (j:Nat) (u:Value),us[j]?=some u→cellAt h b (f + j)=some u) ∧
  (∀ (j:Nat) (d:D) (u:Value),ds[j]?=some d→us[j]?=some u→∃ Gj,(∀ g ∈ Gj,g ∈ G)∧rep h o d u Gj)
 |[],f,G,r=>⟨[],rfl,by simp,by simp⟩
 |d::ds,f,G,r=>by
  simp only [repC] at r
  obtain ⟨v,G1,G2,rfl,e2,e3,e4⟩:=r
  obtain ⟨us,h1,h2,h3⟩:=repC_vals ds (f + 1) G2 e4
  refine ⟨v::us,by simp [h1],?_,?_⟩
  ·intro j u hj
   cases j with
   |zero=>simp at hj;subst hj;simpa using e2
   |succ j=>
    have:=h2 j u (by simpa using hj)
    rw [show f + (j + 1)=f + 1 + j from by omega];exact this
  ·intro j d' u hd hu
   cases j with
   |zero=>simp at hd hu;subst hd;subst hu;exact ⟨G1,fun g hg=>by simp [hg],e3⟩
   |succ j=>
    obtain ⟨Gj,k1,k2⟩:=h3 j d' u (by simpa using hd) (by simpa using hu)
    exact ⟨Gj,fun g hg=>by simp [k1 g hg],k2⟩
theorem oneCell_rep {h:Array Obj} {o:Bool} {d:D} {v:Value} {F:List Nat} (r:rep h o d v F):v.oneCell'=true:=by
 cases d<;>simp only [rep] at r
 ·rw [r.1];rfl
 ·rw [r.1];rfl
 ·rw [r.1];rfl
 ·obtain ⟨a,c,h1,_⟩:=r;rw [h1];rfl
 ·rw [r.1];exact r.2.2.1
def D.flat:D→Bool
 |.sl _ _=>false
 |_=>true
def flatE (xs:List (List D)):Bool:=xs.all fun c=>c.all D.flat
/-- No slice at all. -/
def D.plain:D→Bool
 |.sl _ _=>false
 |.raw _=>false
 |_=>true
theorem rep_flat {h:Array Obj} {o:Bool} {d:D} {v:Value} {F:List Nat} (hf:d.flat=true) (r:rep h o d v F):F=[]:=by
 cases d<;>simp only [rep] at r
 ·exact r.2.1
 ·exact r.2
 ·exact r.2.1
 ·simp [D.flat] at hf
 ·exact r.2.1
theorem rep_flat_any {h h':Array Obj} {o o':Bool} {d:D} {v:Value} {F:List Nat} (hf:d.flat=true) (r:rep h o d v F):rep h' o' d v F:=by
 cases d<;>simp only [rep] at r ⊢
 ·exact r
 ·exact r
 ·exact r
 ·simp [D.flat] at hf
 ·exact r
theorem repC_flat {h:Array Obj} {o:Bool} {b:Nat}:∀ (ds:List D) (f:Nat) (G:List Nat),ds.all D.flat=true→repC h o b f ds G→G=[]
 |[],_,_,_,r=>by simpa [repC] using r
 |d::ds,f,G,hf,r=>by
  simp only [repC] at r
  obtain ⟨v,G1,G2,rfl,e2,e3,e4⟩:=r
  simp only [List.all_cons,Bool.and_eq_true] at hf
  rw [rep_flat hf.1 e3,repC_flat ds (f + 1) G2 hf.2 e4];rfl
theorem repE_flat {h:Array Obj} {o:Bool} {b:Nat}:∀ (cs:List (List D)) (f sz:Nat) (G:List Nat),flatE cs=true→repE h o b f sz cs G→G=[]
 |[],_,_,_,_,r=>by simpa [repE] using r
 |c::cs,f,sz,G,hf,r=>by
  simp only [repE] at r
  obtain ⟨G1,G2,rfl,e2,e3,e4⟩:=r
  simp only [flatE,List.all_cons,Bool.and_eq_true] at hf
  rw [repC_flat c f G1 hf.1 e3,repE_flat cs (f + sz) sz G2 hf.2 e4];rfl
theorem repC_flat_true {h:Array Obj} {o:Bool} {b:Nat}:∀ (ds:List D) (f:Nat) (G:List Nat),ds.all D.flat=true→repC h o b f ds G→repC h true b f ds []
 |[],_,_,_,r=>by simp [repC]
 |d::ds,f,G,hf,r=>by
  simp only [repC] at r ⊢
  obtain ⟨v,G1,G2,rfl,e2,e3,e4⟩:=r
  simp only [List.all_cons,Bool.and_eq_true] at hf
  have h1:=rep_flat hf.1 e3;subst h1
  exact ⟨v,[],[],rfl,e2,rep_flat_any hf.1 e3,repC_flat_true ds (f + 1) G2 hf.2 e4⟩
theorem repE_flat_true {h:Array Obj} {o:Bool} {b:Nat}:∀ (cs:List (List D)) (f sz:Nat) (G:List Nat),flatE cs=true→repE h o b f sz cs G→repE h true b f sz cs []
 |[],_,_,_,_,r=>by simp [repE]
 |c::cs,f,sz,G,hf,r=>by
  simp only [repE] at r ⊢
  obtain ⟨G1,G2,rfl,e2,e3,e4⟩:=r
  simp only [flatE,List.all_cons,Bool.and_eq_true] at hf
  exact ⟨[],[],rfl,e2,repC_flat_true c f G1 hf.1 e3,repE_flat_true cs (f + sz) sz G2 hf.2 e4⟩
/-- A row that was copied cell by cell to another place reads as the same data. -/
theorem repC_copy {h h':Array Obj} {o:Bool} {b b':Nat}:∀ (ds:List D) (f f':Nat) (G:List Nat),h.size≤h'.size→(∀ g ∈ G,h'[g]?=h[g]?)→(∀ j,j < ds.length→cellAt h' b' (f' + j)=cellAt h b (f + j))→
  repC h o b f ds G→repC h' o b' f' ds G
 |[],_,_,_,_,_,_,r=>by simpa [repC] using r
 |d::ds,f,f',G,hs,hG,hc,r=>by
  simp only [repC] at r ⊢
  obtain ⟨v,G1,G2,rfl,e2,e3,e4⟩:=r
  refine ⟨v,G1,G2,rfl,?_,rep_mono hs d v G1 (fun g hg=>hG g (by simp [hg])) e3,repC_copy ds (f + 1) (f' + 1) G2 hs (fun g hg=>hG g (by simp [hg])) ?_ e4⟩
  ·have:=hc 0 (by simp);simpa [e2] using this
  ·intro j hj
   have:=hc (j + 1) (by simp;omega)
   rw [show f' + 1 + j=f' + (j + 1) from by omega,show f + 1 + j=f + (j + 1) from by omega];exact this
theorem repE_copy {h h':Array Obj} {o:Bool} {b b':Nat}:∀ (cs:List (List D)) (f f' sz:Nat) (G:List Nat),h.size≤h'.size→(∀ g ∈ G,h'[g]?=h[g]?)→(∀ j,j < cs.length * sz→cellAt h' b' (f' + j)=cellAt h b (f + j))→
  repE h o b f sz cs G→repE h' o b' f' sz cs G
 |[],_,_,_,_,_,_,_,r=>by simpa [repE] using r
 |c::cs,f,f',sz,G,hs,hG,hc,r=>by
  simp only [repE] at r ⊢
  obtain ⟨G1,G2,rfl,e2,e3,e4⟩:=r
  have hm:(c::cs).length * sz=sz + cs.length * sz:=by rw [List.length_cons,Nat.add_mul];omega
  refine ⟨G1,G2,rfl,e2,repC_copy c f f' G1 hs (fun g hg=>hG g (by simp [hg])) (fun j hj=>hc j (by omega)) e3,repE_copy cs (f + sz) (f' + sz) sz G2 hs (fun g hg=>hG g (by simp [hg])) ?_ e4⟩
  intro j hj
  have:=hc (sz + j) (by omega)
  rw [show f' + sz + j=f' + (sz + j) from by omega,show f + sz + j=f + (sz + j) from by omega];exact this
/-- Package-level variables whose content is known: arrays of scalars that nobody writes. -/
def globs:List (Nat×List D):=[]
theorem globs_flat:∀ p ∈ globs,p.2.all D.flat=true:=by
 have h:globs.all (fun p=>p.2.all D.flat)=true:=rfl
 exact List.all_eq_true.1 h
/-- Variables of which it is known what their cells are, to the letter. Each stands in 'globs' too (there, it may be, with no cells). -/
def gVars:List (Nat×(Array Value→Prop)):=[]
theorem gVars_globs:∀ q ∈ gVars,∃ p ∈ globs,p.1=q.1:=by
 have h:gVars.all (fun q=>globs.any (fun p=>p.1 == q.1))=true:=rfl
 intro q hq
 have h2:=List.all_eq_true.1 h q hq
 obtain ⟨p,hp,e⟩:=List.any_eq_true.1 h2
 exact ⟨p,hp,by simpa using e⟩
def XOk (h:Array Obj):Prop:=∀ q ∈ gVars,∃ cs e fr,h[q.1]?=some (.cells cs e fr)∧q.2 cs
theorem XOk.mono {h h':Array Obj} (g:XOk h) (hb:∀ p ∈ globs,h'[p.1]?=h[p.1]?):XOk h':=fun q hq=>by
 obtain ⟨p,hp,e⟩:=gVars_globs q hq
 obtain ⟨cs,t,fr,h1,h2⟩:=g q hq
 exact ⟨cs,t,fr,by rw [← e,hb p hp,e];exact h1,h2⟩
def GOk (h:Array Obj):Prop:=(∀ p ∈ globs,p.1 < h.size∧repC h false p.1 0 p.2 [])∧XOk h
theorem GOk.mono {h h':Array Obj} (g:GOk h) (hs:h.size≤h'.size) (hb:∀ p ∈ globs,h'[p.1]?=h[p.1]?):GOk h':=⟨fun p hp=>by
 obtain ⟨h1,h2⟩:=g.1 p hp
 exact ⟨Nat.lt_of_lt_of_le h1 hs,repC_mono hs p.2 p.1 0 [] (hb p hp) (by simp) h2⟩,g.2.mono hb⟩
/-- Abstract values. -/
inductive V where
 |junk
 |d (x:D)
 |nils (sz:Nat)
 |agg (vs:List V)
 |ptr (id idx off:Nat)
 |rp (cells:List D) (off:Nat)
 |sl (id off len:Nat)
 |fn (f:FuncId) (caps:List V)
 |tup (vs:List V)
 |gd (c:Bool) (v:V)
/-- Entries of the abstract heap. -/
inductive H where
 |dead
 |box (cells:List V)
 |arr (sz:Nat) (xs:List (List D)) (nf:Bool)
 |ro (sz:Nat) (xs:List (List D))
  /-- owned whole, and nobody looks into it -/
 |cln (sz:Nat) (xs:List (List D))
  /-- such a one, of which one element is open: its slices are entries of their own -/
 |win (sz:Nat) (pre:List (List D)) (cells:List V) (post:List (List D))
def H.live:H→Bool
 |.box _=>true
 |.arr _ _ _=>true
 |.cln _ _=>true
 |.win _ _ _ _=>true
 |_=>false
/-- It owns its elements' blocks. -/
def H.own:H→Bool
 |.arr _ _ true=>true
 |.cln _ _=>true
 |.win _ _ _ _=>true
 |_=>false
/-- Nobody looks into its elements' blocks. -/
def H.shut:H→Bool
 |.cln _ _=>true
 |.win _ _ _ _=>true
 |_=>false
theorem H.own_live {x:H} (h:x.own=true):x.live=true:=by
 cases x<;>first|rfl|(rename_i nf;cases nf<;>first|rfl|cases h)|cases h
theorem H.shut_own {x:H} (h:x.shut=true):x.own=true:=by
 cases x<;>first|rfl|cases h
/-- Where an entry lies. -/
structure Blk where
 blk:Option Nat
 off:Nat
 cap:Nat
 sz:Nat
 nest:List Nat
abbrev Phi:=Nat→Option Blk
def hget (hs:List H) (i:Nat):H:=hs.getD i .dead
/-- Block b is the entry's own, or one that nobody looks into. -/
def TopOf (x:H) (β:Blk) (b:Nat):Prop:=(x.live=true∧β.blk=some b)∨(x.shut=true∧b ∈ β.nest)
def NotTop (φ:Phi) (hs:List H) (b:Nat):Prop:=∀ i β,φ i=some β→¬ TopOf (hget hs i) β b
mutual
def VRel (φ:Phi) (T:Nat→Prop) (h:Array Obj):V→Value→Prop
 |.junk,_=>True
 |.d x,u=>∃ F,rep h false x u F∧∀ b ∈ F,T b
 |.nils _,u=>u=.slice none 0 0
 |.agg vs,u=>∃ us:Array Value,u=.agg us∧VRels φ T h vs us.toList
 |.ptr id idx off,u=>∃ β b,φ id=some β∧β.blk=some b∧u=.pointer (some ⟨b,β.off + idx * β.sz + off,none⟩)
 |.rp cells off,u=>∃ b f G,u=.pointer (some ⟨b,f + off,none⟩)∧b < h.size∧T b∧repC h false b f cells G∧∀ g ∈ G,T g
 |.sl id off len,u=>∃ β a c,φ id=some β∧u=.slice a len c∧c≤maxLen∧((c=0∧len=0∧off=β.cap)∨∃ b,β.blk=some b∧a=some ⟨b,β.off + off * β.sz,none⟩∧len≤c∧off + c=β.cap)
 |.fn f caps,u=>∃ us:Array Value,u=.func (.func f) #[] us∧VRels φ T h caps us.toList
 |.tup vs,u=>∃ us:Array Value,u=.tuple us∧VRels φ T h vs us.toList
 |.gd c v,u=>(c=true→VRel φ T h v u)∧(c=false→u=undef)
def VRels (φ:Phi) (T:Nat→Prop) (h:Array Obj):List V→List Value→Prop
 |[],us=>us=[]
 |v::vs,us=>∃ u us',us=u::us'∧VRel φ T h v u∧VRels φ T h vs us'
end
def HRel (φ:Phi) (T:Nat→Prop) (h:Array Obj) (β:Blk):H→Prop
 |.dead=>True
 |.box cells=>∃ b cs e,β.blk=some b∧β.off=0∧h[b]?=some (.cells cs e (0,0))∧VRels φ T h cells cs.toList
 |.arr sz xs nf=>β.sz=sz∧((β.blk=none∧xs=[]∧β.cap=0∧β.nest=[]) ∨
   ∃ b G,β.blk=some b∧xs.length≤β.cap∧roomy h b (β.off + β.cap * sz)∧repE h nf b β.off sz xs G∧(nf=true→G=β.nest)∧(nf=false→∀ g ∈ G,T g))
 |.ro sz xs=>β.sz=sz∧(xs=[]∨∃ b G,β.blk=some b∧T b∧b < h.size∧repE h false b β.off sz xs G∧∀ g ∈ G,T g)
 |.cln sz xs=>β.sz=sz∧((β.blk=none∧xs=[]∧β.cap=0∧β.nest=[]) ∨
   ∃ b,β.blk=some b∧xs.length≤β.cap∧roomy h b (β.off + β.cap * sz)∧repE h true b β.off sz xs β.nest)
 |.win sz pre cells post=>β.sz=sz∧cells.length=sz∧∃ b G1 G2 us,β.blk=some b∧pre.length + 1 + post.length≤β.cap∧roomy h b (β.off + β.cap * sz)∧β.nest=G1++G2 ∧
   repE h true b β.off sz pre G1∧VRels φ T h cells us∧(∀ (j:Nat) (u:Value),us[j]?=some u→cellAt h b (β.off + pre.length * sz + j)=some u)∧repE h true b (β.off + (pre.length + 1) * sz) sz post G2
/-- What an entry owns: its block; the blocks of its elements' slices. -/
def Owns (φ:Phi) (hs:List H) (i b:Nat):Prop:=
 ∃ β,φ i=some β∧(((hget hs i).live=true∧β.blk=some b)∨((hget hs i).own=true∧b ∈ β.nest))
theorem TopOf.owns {φ:Phi} {hs:List H} {i:Nat} {β:Blk} {b:Nat} (e:φ i=some β) (h:TopOf (hget hs i) β b):Owns φ hs i b:=
 ⟨β,e,h.imp id fun h=>⟨H.shut_own h.1,h.2⟩⟩
/-- Outside of M the world is as it was; no row grows shorter. -/
structure Bel (M:Nat→Prop) (w w':World):Prop where
 os:w'.os=w.os
 tape:w'.tape=w.tape
 output:w'.output=w.output
 size:w.heap.size≤w'.heap.size
 block:∀ k,¬ M k→w'.heap[k]?=w.heap[k]?
 room:∀ b n,roomy w.heap b n→roomy w'.heap b n
theorem Bel.refl (M:Nat→Prop) (w:World):Bel M w w:=⟨rfl,rfl,rfl,Nat.le_refl _,fun _ _=>rfl,fun _ _ h=>h⟩
theorem Bel.trans {M:Nat→Prop} {a b c:World} (h:Bel M a b) (k:Bel M b c):Bel M a c:=
 ⟨k.os.trans h.os,k.tape.trans h.tape,k.output.trans h.output,Nat.le_trans h.size k.size,fun i hi=>(k.block i hi).trans (h.block i hi),fun b n r=>k.room b n (h.room b n r)⟩
theorem Bel.mono {M M':Nat→Prop} {w w':World} (h:Bel M w w') (hM:∀ k,M k→M' k):Bel M' w w':=
 ⟨h.os,h.tape,h.output,h.size,fun k hk=>h.block k fun e=>hk (hM k e),h.room⟩
theorem Bel.drew {M:Nat→Prop} {a w:World} (h:Bel M a w):Bel M a w.drew:=⟨h.os,h.tape,h.output,h.size,h.block,h.room⟩
structure St where
 tmps:List V
 heap:List H
/-- The known variables, as values that are kept. -/
def gPairs:List (V×Value):=globs.map fun p=>(.rp p.2 0,.pointer (some ⟨p.1,0,none⟩))
structure R (B:Nat→Prop) (w0:World) (Dm:Nat→Prop) (φ:Phi) (σ:St) (kp:List (V×Value)) (a:Act) (w:World):Prop where
 tm:VRels φ (NotTop φ σ.heap) w.heap σ.tmps a.tmps.toList
 kp:∀ p ∈ gPairs++kp,VRel φ (NotTop φ σ.heap) w.heap p.1 p.2
 hp:∀ i,hget σ.heap i=.dead∨∃ β,φ i=some β∧HRel φ (NotTop φ σ.heap) w.heap β (hget σ.heap i)
 o1:∀ i j b,Owns φ σ.heap i b→Owns φ σ.heap j b→i=j
 o2:∀ i β,φ i=some β→(hget σ.heap i).own=true→β.nest.Nodup∧∀ b,β.blk=some b→b ∉ β.nest
 o3:∀ i b,Owns φ σ.heap i b→B b
 dm:∀ i β,φ i=some β→Dm i
 bel:Bel B w0 w
 bs:∀ k,w.heap.size≤k→B k
 de:a.defers=[]
 gb:(∀ p ∈ globs,¬ B p.1)∧XOk w0.heap
section
variable {φ:Phi} {T:Nat→Prop} {h:Array Obj}
theorem VRels_len:∀ (vs:List V) (us:List Value),VRels φ T h vs us→us.length=vs.length
 |[],us,r=>by simp only [VRels] at r;rw [r];rfl
 |v::vs,us,r=>by
  simp only [VRels] at r
  obtain ⟨u,us',rfl,_,r2⟩:=r
  simp [VRels_len vs us' r2]
theorem VRels_at:∀ (vs:List V) (us:List Value),VRels φ T h vs us→∀ (t:Nat) (v:V),vs[t]?=some v→∃ u,us[t]?=some u∧VRel φ T h v u
 |[],_,_,t,v,e=>by simp at e
 |v::vs,us,r,t,v',e=>by
  simp only [VRels] at r
  obtain ⟨u,us',rfl,r1,r2⟩:=r
  cases t with
  |zero=>simp at e;subst e;exact ⟨u,by simp,r1⟩
  |succ t=>exact VRels_at vs us' r2 t v' (by simpa using e)
theorem VRels_mk:∀ (vs:List V) (us:List Value),us.length=vs.length→(∀ (t:Nat) (v:V) (u:Value),vs[t]?=some v→us[t]?=some u→VRel φ T h v u)→VRels φ T h vs us
 |[],us,e,_=>by simp only [VRels];exact List.eq_nil_of_length_eq_zero (by simpa using e)
 |v::vs,us,e,r=>by
  cases us with
  |nil=>simp at e
  |cons u us=>
   simp only [VRels]
   exact ⟨u,us,rfl,r 0 v u rfl rfl,VRels_mk vs us (by simpa using e) fun t v' u' hv hu=>r (t + 1) v' u' (by simpa using hv) (by simpa using hu)⟩
theorem VRels_set {vs:List V} {us:List Value} (r:VRels φ T h vs us) {v:V} {u:Value} (hv:VRel φ T h v u) (t:Nat):VRels φ T h (vs.set t v) (us.set t u):=by
 refine VRels_mk _ _ (by simp [VRels_len _ _ r]) fun i v' u' e1 e2=>?_
 rw [List.getElem?_set] at e1 e2
 by_cases hi:t=i
 ·subst hi
  simp only [if_true] at e1 e2
  split at e1
  ·split at e2
   ·cases e1;cases e2;exact hv
   ·cases e2
  ·cases e1
 ·simp only [hi,if_false] at e1 e2
  obtain ⟨u'',k1,k2⟩:=VRels_at _ _ r i v' e1
  rw [k1] at e2;cases e2;exact k2
theorem VRels_append {vs vs':List V} {us us':List Value} (r:VRels φ T h vs us) (r':VRels φ T h vs' us'):VRels φ T h (vs++vs') (us++us'):=by
 induction vs generalizing us with
 |nil=>simp only [VRels] at r;subst r;simpa using r'
 |cons v vs ih=>
  simp only [VRels] at r
  obtain ⟨u,us1,rfl,r1,r2⟩:=r
  simp only [List.cons_append,VRels]
  exact ⟨u,us1++us',rfl,r1,ih r2⟩
theorem VRels_take {vs:List V} {us:List Value} (r:VRels φ T h vs us) (n:Nat):VRels φ T h (vs.take n) (us.take n):=by
 refine VRels_mk _ _ (by simp [VRels_len _ _ r]) fun i v u e1 e2=>?_
 rw [List.getElem?_take] at e1 e2
 split at e1
 ·rename_i hi
  rw [if_pos hi] at e2
  obtain ⟨u',k1,k2⟩:=VRels_at _ _ r i v e1
  rw [k1] at e2;cases e2;exact k2
 ·cases e1
theorem VRels_drop {vs:List V} {us:List Value} (r:VRels φ T h vs us) (n:Nat):VRels φ T h (vs.drop n) (us.drop n):=by
 refine VRels_mk _ _ (by simp [VRels_len _ _ r]) fun i v u e1 e2=>?_
 rw [List.getElem?_drop] at e1 e2
 obtain ⟨u',k1,k2⟩:=VRels_at _ _ r (n + i) v e1
 rw [k1] at e2;cases e2;exact k2
theorem VRels_replicate {v:V} {u:Value} (r:VRel φ T h v u) (n:Nat):VRels φ T h (List.replicate n v) (List.replicate n u):=by
 induction n with
 |zero=>simp [VRels]
 |succ n ih=>simp only [List.replicate_succ,VRels];exact ⟨u,_,rfl,r,ih⟩
end
/-- The same places. -/
def Le (φ φ':Phi):Prop:=∀ i β,φ i=some β→∃ β',φ' i=some β'∧β'.blk=β.blk∧β'.off=β.off∧β'.cap=β.cap∧β'.sz=β.sz
theorem Le.refl (φ:Phi):Le φ φ:=fun _ β e=>⟨β,e,rfl,rfl,rfl,rfl⟩
/-- What must stay for a value to stay what it is. -/
structure Keep (φ φ':Phi) (T T':Nat→Prop) (h h':Array Obj):Prop where
 hφ:Le φ φ'
 hT:∀ b,b < h.size→T b→T' b
 hH:∀ b,b < h.size→T b→h'[b]?=h[b]?
 hs:h.size≤h'.size
section
variable {φ φ':Phi} {T T':Nat→Prop} {h h':Array Obj}
mutual
theorem VRel_keep (K:Keep φ φ' T T' h h'):∀ (v:V) (u:Value),VRel φ T h v u→VRel φ' T' h' v u
 |.junk,_,_=>by simp [VRel]
 |.d x,u,r=>by
  simp only [VRel] at r ⊢
  obtain ⟨F,r1,r2⟩:=r
  have hl:=rep_lt x u F r1
  exact ⟨F,rep_mono K.hs x u F (fun b hb=>K.hH b (hl b hb) (r2 b hb)) r1,fun b hb=>K.hT b (hl b hb) (r2 b hb)⟩
 |.nils _,_,r=>by simpa [VRel] using r
 |.agg vs,u,r=>by
  simp only [VRel] at r ⊢
  obtain ⟨us,r1,r2⟩:=r
  exact ⟨us,r1,VRels_keep K vs us.toList r2⟩
 |.ptr id idx off,u,r=>by
  simp only [VRel] at r ⊢
  obtain ⟨β,b,r1,r2,r3⟩:=r
  obtain ⟨β',k1,k2,k3,k4,k5⟩:=K.hφ id β r1
  exact ⟨β',b,k1,by rw [k2];exact r2,by rw [k3,k5];exact r3⟩
 |.rp cells off,u,r=>by
  simp only [VRel] at r ⊢
  obtain ⟨b,f,G,r1,r2,r3,r4,r5⟩:=r
  have hl:=repC_lt cells b f G r4
  exact ⟨b,f,G,r1,Nat.lt_of_lt_of_le r2 K.hs,K.hT b r2 r3,repC_mono K.hs cells b f G (K.hH b r2 r3) (fun g hg=>K.hH g (hl g hg) (r5 g hg)) r4,fun g hg=>K.hT g (hl g hg) (r5 g hg)⟩
 |.sl id off len,u,r=>by
  simp only [VRel] at r ⊢
  obtain ⟨β,a,c,r1,r2,r3,r4⟩:=r
  obtain ⟨β',k1,k2,k3,k4,k5⟩:=K.hφ id β r1
  refine ⟨β',a,c,k1,r2,r3,?_⟩
  rcases r4 with r4|⟨b,r4,r5,r6,r7⟩
  ·exact .inl ⟨r4.1,r4.2.1,by rw [k4];exact r4.2.2⟩
  ·exact .inr ⟨b,by rw [k2];exact r4,by rw [k3,k5];exact r5,r6,by rw [k4];exact r7⟩
 |.fn f caps,u,r=>by
  simp only [VRel] at r ⊢
  obtain ⟨us,r1,r2⟩:=r
  exact ⟨us,r1,VRels_keep K caps us.toList r2⟩
 |.tup vs,u,r=>by
  simp only [VRel] at r ⊢
  obtain ⟨us,r1,r2⟩:=r
  exact ⟨us,r1,VRels_keep K vs us.toList r2⟩
 |.gd c v,u,r=>by
  simp only [VRel] at r ⊢
  exact ⟨fun e=>VRel_keep K v u (r.1 e),r.2⟩
theorem VRels_keep (K:Keep φ φ' T T' h h'):∀ (vs:List V) (us:List Value),VRels φ T h vs us→VRels φ' T' h' vs us
 |[],us,r=>by simpa [VRels] using r
 |v::vs,us,r=>by
  simp only [VRels] at r ⊢
  obtain ⟨u,us',r1,r2,r3⟩:=r
  exact ⟨u,us',r1,VRel_keep K v u r2,VRels_keep K vs us' r3⟩
end
/-- An entry whose own block (and, where it owns them, whose elements' blocks) stay as they were. -/
theorem HRel_keep (K:Keep φ φ' T T' h h') {β:Blk} {x:H} (r:HRel φ T h β x) (hb:∀ b,x.live=true→β.blk=some b→h'[b]?=h[b]?) (hn:∀ b,x.own=true→b ∈ β.nest→h'[b]?=h[b]?):HRel φ' T' h' β x:=by
 cases x with
 |dead=>trivial
 |box cells=>
  simp only [HRel] at r ⊢
  obtain ⟨b,cs,e,r1,r2,r3,r4⟩:=r
  exact ⟨b,cs,e,r1,r2,by rw [hb b rfl r1];exact r3,VRels_keep K cells cs.toList r4⟩
 |arr sz xs nf=>
  simp only [HRel] at r ⊢
  obtain ⟨e,r⟩:=r
  refine ⟨e,?_⟩
  rcases r with r|⟨b,G,r1,r2,r3,r4,r5,r6⟩
  ·exact .inl r
  ·have hl:=repE_lt xs b β.off sz G r4
   refine .inr ⟨b,G,r1,r2,r3.mono (hb b rfl r1),?_,r5,fun k g hg=>K.hT g (hl g hg) (r6 k g hg)⟩
   refine repE_mono K.hs xs b β.off sz G (hb b rfl r1) (fun g hg=>?_) r4
   cases nf with
   |true=>exact hn g rfl (r5 rfl ▸ hg)
   |false=>exact K.hH g (hl g hg) (r6 rfl g hg)
 |ro sz xs=>
  simp only [HRel] at r ⊢
  obtain ⟨e,r⟩:=r
  refine ⟨e,?_⟩
  rcases r with r|⟨b,G,r1,r2,r3,r4,r5⟩
  ·exact .inl r
  ·have hl:=repE_lt xs b β.off sz G r4
   exact .inr ⟨b,G,r1,K.hT b r3 r2,Nat.lt_of_lt_of_le r3 K.hs,repE_mono K.hs xs b β.off sz G (K.hH b r3 r2) (fun g hg=>K.hH g (hl g hg) (r5 g hg)) r4,fun g hg=>K.hT g (hl g hg) (r5 g hg)⟩
 |cln sz xs=>
  simp only [HRel] at r ⊢
  obtain ⟨e,r⟩:=r
  refine ⟨e,?_⟩
  rcases r with r|⟨b,r1,r2,r3,r4⟩
  ·exact .inl r
  ·exact .inr ⟨b,r1,r2,r3.mono (hb b rfl r1),repE_mono K.hs xs b β.off sz _ (hb b rfl r1) (fun g hg=>hn g rfl hg) r4⟩
 |win sz pre cells post=>
  simp only [HRel] at r ⊢
  obtain ⟨e,hc,b,G1,G2,us,r1,r2,r3,r4,r5,r6,r7,r8⟩:=r
  refine ⟨e,hc,b,G1,G2,us,r1,r2,r3.mono (hb b rfl r1),r4,?_,VRels_keep K cells us r6,fun j u hj=>?_,?_⟩
  ·exact repE_mono K.hs pre b β.off sz G1 (hb b rfl r1) (fun g hg=>hn g rfl (by rw [r4];simp [hg])) r5
  ·rw [cellAt_congr (hb b rfl r1)];exact r7 j u hj
  ·exact repE_mono K.hs post b _ sz G2 (hb b rfl r1) (fun g hg=>hn g rfl (by rw [r4];simp [hg])) r8
end
theorem Owns.lt {B:Nat→Prop} {w0:World} {Dm:Nat→Prop} {φ:Phi} {σ:St} {kp:List (V×Value)} {a:Act} {w:World} (r:R B w0 Dm φ σ kp a w) {i b:Nat} (ho:Owns φ σ.heap i b):b < w.heap.size:=by
 obtain ⟨β,e,ho⟩:=ho
 rcases r.hp i with hd|⟨β',e',hr⟩
 ·rw [hd] at ho
  rcases ho with ⟨h1,_⟩|⟨h1,_⟩<;>cases h1
 ·rw [e] at e';cases e'
  rcases ho with ⟨h1,h2⟩|⟨h1,h2⟩
  ·cases hx:hget σ.heap i with
   |dead=>rw [hx] at h1;cases h1
   |ro sz xs=>rw [hx] at h1;cases h1
   |box cells=>
    rw [hx] at hr;simp only [HRel] at hr
    obtain ⟨b',cs,t,r1,r2,r3,r4⟩:=hr
    rw [h2] at r1;cases r1
    exact roomy.lt ⟨cs,t,r3,Nat.zero_le _⟩
   |arr sz xs nf=>
    rw [hx] at hr;simp only [HRel] at hr
    rcases hr.2 with hr|⟨b',G,r1,r2,r3,r4,r5,r6⟩
    ·rw [h2] at hr;cases hr.1
    ·rw [h2] at r1;cases r1
     exact r3.lt
   |cln sz xs=>
    rw [hx] at hr;simp only [HRel] at hr
    rcases hr.2 with hr|⟨b',r1,r2,r3,r4⟩
    ·rw [h2] at hr;cases hr.1
    ·rw [h2] at r1;cases r1
     exact r3.lt
   |win sz pre cells post=>
    rw [hx] at hr;simp only [HRel] at hr
    obtain ⟨_,_,b',G1,G2,us,r1,r2,r3,r4⟩:=hr
    rw [h2] at r1;cases r1
    exact r3.lt
  ·cases hx:hget σ.heap i with
   |dead=>rw [hx] at h1;cases h1
   |ro sz xs=>rw [hx] at h1;cases h1
   |box cells=>rw [hx] at h1;cases h1
   |arr sz xs nf=>
    cases nf with
    |false=>rw [hx] at h1;cases h1
    |true=>
     rw [hx] at hr;simp only [HRel] at hr
     rcases hr.2 with hr|⟨b',G,r1,r2,r3,r4,r5,r6⟩
     ·rw [hr.2.2.2] at h2;cases h2
     ·exact repE_lt xs b' β.off sz G r4 b ((r5 trivial) ▸ h2)
   |cln sz xs=>
    rw [hx] at hr;simp only [HRel] at hr
    rcases hr.2 with hr|⟨b',r1,r2,r3,r4⟩
    ·rw [hr.2.2.2] at h2;cases h2
    ·exact repE_lt xs b' β.off sz _ r4 b h2
   |win sz pre cells post=>
    rw [hx] at hr;simp only [HRel] at hr
    obtain ⟨_,_,b',G1,G2,us,r1,r2,r3,r4,r5,r6,r7,r8⟩:=hr
    rw [r4] at h2
    rcases List.mem_append.1 h2 with h2|h2
    ·exact repE_lt pre b' β.off sz _ r5 b h2
    ·exact repE_lt post b' _ sz _ r8 b h2
theorem notTop_of_nest {B:Nat→Prop} {w0:World} {Dm:Nat→Prop} {φ:Phi} {σ:St} {kp:List (V×Value)} {a:Act} {w:World} (r:R B w0 Dm φ σ kp a w) {i:Nat} {β:Blk} (e:φ i=some β)
  (hx:(hget σ.heap i).own=true) (hs:(hget σ.heap i).shut=false) {b:Nat} (hb:b ∈ β.nest):NotTop φ σ.heap b:=by
 intro j β' e' ht
 have:=r.o1 i j b ⟨β,e,.inr ⟨hx,hb⟩⟩ (TopOf.owns e' ht)
 subst this
 rw [e] at e';cases e'
 rcases ht with ⟨_,he⟩|⟨hl,_⟩
 ·exact (r.o2 i β e hx).2 b he hb
 ·rw [hs] at hl;cases hl
/-- THE MASTER LAW OF CHANGE. 'S': the entries that may have turned or are new. -/
theorem R_change {B:Nat→Prop} {w0:World} {Dm:Nat→Prop} {φ:Phi} {σ:St} {kp:List (V×Value)} {a:Act} {w:World} (r:R B w0 Dm φ σ kp a w)
  (S:Nat→Prop) (Dm':Nat→Prop) (φ':Phi) (hs':List H) (w':World)
  (k1:∀ i,¬ S i→hget hs' i=hget σ.heap i∧φ' i=φ i)
  (k2:Le φ φ')
  (k3:w.heap.size≤w'.heap.size)
  (k4:∀ b,b < w.heap.size→(∀ i,S i→∀ β,φ i=some β→¬ TopOf (hget σ.heap i) β b)→w'.heap[b]?=w.heap[b]?)
  (k5:∀ i,S i→∀ b,Owns φ' hs' i b→w.heap.size≤b∨∃ j,S j∧Owns φ σ.heap j b)
  (k5':∀ i,S i→∀ β',φ' i=some β'→∀ b,TopOf (hget hs' i) β' b→w.heap.size≤b∨∃ j β,S j∧φ j=some β∧TopOf (hget σ.heap j) β b)
  (k6:∀ i j b,S i→S j→Owns φ' hs' i b→Owns φ' hs' j b→i=j)
  (k7:∀ i β,S i→φ' i=some β→(hget hs' i).own=true→β.nest.Nodup∧∀ b,β.blk=some b→b ∉ β.nest)
  (k8:∀ i,S i→hget hs' i=.dead∨∃ β,φ' i=some β∧HRel φ' (NotTop φ' hs') w'.heap β (hget hs' i))
  (k9:∀ i β,φ' i=some β→Dm' i)
  (k10:Bel B w0 w') :
  R B w0 Dm' φ' ⟨σ.tmps,hs'⟩ kp a w':=by
 have hT:∀ b,b < w.heap.size→NotTop φ σ.heap b→NotTop φ' hs' b:=by
  intro b hb ht i β' e' he
  by_cases hi:S i
  ·rcases k5' i hi β' e' b he with h1|⟨j,β,h1,h2,h3⟩
   ·omega
   ·exact ht j β h2 h3
  ·obtain ⟨e1,e2⟩:=k1 i hi
   exact ht i β' (e2 ▸ e') (e1 ▸ he)
 have hH:∀ b,b < w.heap.size→NotTop φ σ.heap b→w'.heap[b]?=w.heap[b]?:=fun b hb ht=>k4 b hb fun i _ β e=>ht i β e
 have hown:∀ i b,¬ S i→Owns φ' hs' i b→Owns φ σ.heap i b:=by
  intro i b hi ho
  obtain ⟨e1,e2⟩:=k1 i hi
  unfold Owns at ho ⊢
  rw [e1,e2] at ho;exact ho
 have K:Keep φ φ' (NotTop φ σ.heap) (NotTop φ' hs') w.heap w'.heap:=⟨k2,hT,hH,k3⟩
 refine ⟨VRels_keep K _ _ r.tm,fun p hp=>VRel_keep K _ _ (r.kp p hp),fun i=>?_,fun i j b hi hj=>?_,fun i β e hx=>?_,fun i b ho=>?_,k9,k10,fun k hk=>r.bs k (Nat.le_trans k3 hk),r.de,r.gb⟩
 ·by_cases hi:S i
  ·exact k8 i hi
  ·obtain ⟨e1,e2⟩:=k1 i hi
   simp only [e1,e2]
   rcases r.hp i with hd|⟨β,e,hr⟩
   ·exact .inl hd
   ·refine .inr ⟨β,e,HRel_keep K hr (fun b hl hb=>?_) (fun b hx hb=>?_)⟩
    ·refine k4 b (Owns.lt r ⟨β,e,.inl ⟨hl,hb⟩⟩) fun j hj β' e' ht'=>?_
     have:=r.o1 i j b ⟨β,e,.inl ⟨hl,hb⟩⟩ (TopOf.owns e' ht')
     exact hi (this ▸ hj)
    ·refine k4 b (Owns.lt r ⟨β,e,.inr ⟨hx,hb⟩⟩) fun j hj β' e' ht'=>?_
     have:=r.o1 i j b ⟨β,e,.inr ⟨hx,hb⟩⟩ (TopOf.owns e' ht')
     exact hi (this ▸ hj)
 ·by_cases hSi:S i<;>by_cases hSj:S j
  ·exact k6 i j b hSi hSj hi hj
  ·have h2:=hown j b hSj hj
   rcases k5 i hSi b hi with h1|⟨k,h1,h3⟩
   ·have:=Owns.lt r h2;omega
   ·exact absurd (r.o1 k j b h3 h2 ▸ h1) hSj
  ·have h2:=hown i b hSi hi
   rcases k5 j hSj b hj with h1|⟨k,h1,h3⟩
   ·have:=Owns.lt r h2;omega
   ·exact absurd (r.o1 k i b h3 h2 ▸ h1) hSi
  ·exact r.o1 i j b (hown i b hSi hi) (hown j b hSj hj)
 ·by_cases hi:S i
  ·exact k7 i β hi e hx
  ·obtain ⟨e1,e2⟩:=k1 i hi
   simp only [e1,e2] at hx e
   exact r.o2 i β e hx
 ·by_cases hi:S i
  ·rcases k5 i hi b ho with h1|⟨j,h1,h2⟩
   ·exact r.bs _ h1
   ·exact r.o3 j b h2
  ·exact r.o3 i b (hown i b hi ho)
/-- A temporary is written. -/
theorem R_put {B:Nat→Prop} {w0:World} {Dm:Nat→Prop} {φ:Phi} {σ:St} {kp:List (V×Value)} {a:Act} {w:World} (r:R B w0 Dm φ σ kp a w) (dst:Option Tmp) {v:V} {u:Value}
  (hv:VRel φ (NotTop φ σ.heap) w.heap v u):R B w0 Dm φ ⟨match dst with|some t=>σ.tmps.set t v|none=>σ.tmps,σ.heap⟩ kp (a.put dst u) w:=by
 cases dst with
 |none=>exact r
 |some t=>
  refine ⟨?_,r.kp,r.hp,r.o1,r.o2,r.o3,r.dm,r.bel,r.bs,r.de,r.gb⟩
  have:=VRels_set r.tm hv t
  simpa [Act.put] using this
theorem hget_set (hs:List H) (n i:Nat) (x:H) (hn:n < hs.length):hget (hs.set n x) i=if i=n then x else hget hs i:=by
 unfold hget
 simp only [List.getD_eq_getElem?_getD,List.getElem?_set]
 by_cases hi:n=i
 ·subst hi;simp [hn]
 ·have:¬ i=n:=fun e=>hi e.symm
  simp [hi,this]
/-- A draw moves nothing that the relation sees. -/
theorem R_drew {B:Nat→Prop} {w0:World} {Dm:Nat→Prop} {φ:Phi} {σ:St} {kp:List (V×Value)} {a:Act} {w w':World} (r:R B w0 Dm φ σ kp a w) (hh:w'.heap=w.heap) (hb:Bel B w0 w'):R B w0 Dm φ σ kp a w':=
 ⟨by rw [hh];exact r.tm,by rw [hh];exact r.kp,by rw [hh];exact r.hp,r.o1,r.o2,r.o3,r.dm,hb,by rw [hh];exact r.bs,r.de,r.gb⟩
def tyI (P:Program) (T:TypeId):Option (Nat×Bool):=
 match P.info? T,P.underlying T with
 |some i,some d=>some (i.size,match d with|.struct _|.array _ _=>true|_=>false)
 |_,_=>none
/-- A slice type: its element's type, size, bytes. -/
def elI (P:Program) (T:TypeId):Option (TypeId×Nat×Nat):=
 match P.underlying T with
 |some (.slice e)=>(P.info? e).map fun i=>(e,i.size,i.bytes)
 |_=>none
/-- An array type: its length, its element's size. -/
def arI (P:Program) (T:TypeId):Option (Nat×Nat):=
 match P.underlying T with
 |some (.array n e)=>(P.info? e).map fun i=>(n,i.size)
 |_=>none
/-- A struct's field: its offset. -/
def fdI (P:Program) (S f:Nat):Option Nat:=
 match P.underlying S with
 |some (.struct fs)=>
  match fs[f]? with
  |some fd=>
   match P.info? fd.type with
   |some i=>if i.size=0 then none else some fd.offset
   |none=>none
  |none=>none
 |_=>none
def isStrI (P:Program) (T:TypeId):Bool:=match P.underlying T with|some .string=>true|_=>false
def intI (P:Program) (T:TypeId):Option IntKind:=match P.underlying T with|some (.int k)=>some k|_=>none
def litOk (k:IntKind) (n:Int):Bool:=decide (k.min≤n) && decide (n≤k.max)
def ofVal:Value→V
 |.int k n=>if litOk k n then .d (.int k n) else .junk
 |.bool b=>.d (.bool b)
 |.string s=>if s.data.toList.length≤maxLen then .d (.str s.data.toList) else .junk
 |.slice none 0 0=>.nils 0
 |_=>.junk
theorem ofVal_rel {φ:Phi} {T:Nat→Prop} {h:Array Obj} (u:Value):VRel φ T h (ofVal u) u:=by
 unfold ofVal
 split
 ·split
  ·rename_i k n hk
   simp only [litOk,Bool.and_eq_true,decide_eq_true_eq] at hk
   exact ⟨[],⟨rfl,rfl,hk.1,hk.2⟩,by simp⟩
  ·trivial
 ·rename_i b
  exact ⟨[],⟨rfl,rfl⟩,by simp⟩
 ·split
  ·rename_i s hs
   exact ⟨[],⟨rfl,rfl,hs⟩,by simp⟩
  ·trivial
 ·simp [VRel]
 ·trivial
def St.ev (σ:St):Operand→V
 |.tmp t=>σ.tmps.getD t .junk
 |.const v=>ofVal v
 |.func f=>.fn f []
 |.global g=>match globs.find? (fun p=>p.1 == g) with|some p=>.rp p.2 0|none=>.junk
section
variable {B:Nat→Prop} {w0:World} {Dm:Nat→Prop} {φ:Phi} {σ:St} {kp:List (V×Value)} {a:Act} {w:World}
theorem ev_rel (r:R B w0 Dm φ σ kp a w) (x:Operand):VRel φ (NotTop φ σ.heap) w.heap (σ.ev x) (a.eval x):=by
 cases x with
 |tmp t=>
  simp only [St.ev,Act.eval,List.getD_eq_getElem?_getD]
  cases ht:σ.tmps[t]? with
  |none=>simp [VRel]
  |some v=>
   obtain ⟨u,h1,h2⟩:=VRels_at _ _ r.tm t v ht
   rw [Array.getElem?_toList] at h1
   simpa [h1] using h2
 |const v=>exact ofVal_rel v
 |func f=>simp only [St.ev,Act.eval,VRel];exact ⟨#[],rfl,by simp [VRels]⟩
 |global g=>
  simp only [St.ev]
  split
  ·rename_i p hp
   have h1:=List.find?_some hp
   have h2:=List.mem_of_find?_eq_some hp
   have:=r.kp (.rp p.2 0,.pointer (some ⟨p.1,0,none⟩)) (List.mem_append_left _ (List.mem_map.2 ⟨p,h2,rfl⟩))
   have e:p.1=g:=by simpa using h1
   rw [e] at this
   exact this
  ·simp [VRel]
theorem R.gok (r:R B w0 Dm φ σ kp a w):GOk w.heap:=⟨fun p hp=>by
 have:=r.kp (.rp p.2 0,.pointer (some ⟨p.1,0,none⟩)) (List.mem_append_left _ (List.mem_map.2 ⟨p,hp,rfl⟩))
 simp only [VRel] at this
 obtain ⟨b,f,G,e,h1,_,h2,_⟩:=this
 cases e
 have hG:=repC_flat _ _ _ (globs_flat p hp) h2
 subst hG
 exact ⟨h1,h2⟩,r.gb.2.mono fun p hp=>r.bel.block p.1 (r.gb.1 p hp)⟩
/-- The known variables in any relation in which no entry lies there. -/
theorem gPairs_rel {φ:Phi} {T:Nat→Prop} {h:Array Obj} (g:GOk h) (hT:∀ p ∈ globs,T p.1):∀ p ∈ gPairs,VRel φ T h p.1 p.2:=by
 intro p hp
 obtain ⟨q,hq,rfl⟩:=List.mem_map.1 hp
 obtain ⟨h1,h2⟩:=g.1 q hq
 simp only [VRel]
 exact ⟨q.1,0,[],rfl,h1,hT q hq,h2,by simp⟩
end
structure Res where
 v:V
 new:List H
 upd:List (Nat×H)
def hput (hs:List H) (i:Nat) (x:H):List H:=
 if i < hs.length then hs.set i x else hs++List.replicate (i - hs.length) .dead++[x]
theorem hget_hput (hs:List H) (i:Nat) (x:H) (j:Nat):hget (hput hs i x) j=if j=i then x else hget hs j:=by
 unfold hput
 split
 ·rename_i hi;exact hget_set hs i j x hi
 ·rename_i hi
  unfold hget
  simp only [List.getD_eq_getElem?_getD,List.append_assoc,List.getElem?_append]
  by_cases hj:j=i
  ·subst hj
   simp [hi]
  ·simp only [hj,if_false,List.length_replicate]
   by_cases h1:j < hs.length
   ·simp [h1]
   ·simp only [h1,if_false,List.getElem?_eq_none (Nat.le_of_not_lt h1)]
    by_cases h2:j - hs.length < i - hs.length
    ·simp [h2]
    ·have:1≤j - hs.length - (i - hs.length):=by omega
     simp [h2,List.getElem?_eq_none,this]
def hnew:List H→Nat→List H→List H
 |hs,_,[]=>hs
 |hs,n,x::xs=>hnew (hput hs n x) (n + 1) xs
def hupd:List H→List (Nat×H)→List H
 |hs,[]=>hs
 |hs,(i,x)::r=>hupd (hput hs i x) r
theorem hget_hnew:∀ (xs:List H) (hs:List H) (n j:Nat),hget (hnew hs n xs) j=if n≤j∧j < n + xs.length then xs.getD (j - n) .dead else hget hs j
 |[],hs,n,j=>by
  have:¬ (n≤j∧j < n + ([]:List H).length):=by simp only [List.length_nil];omega
  rw [if_neg this];rfl
 |x::xs,hs,n,j=>by
  rw [hnew,hget_hnew xs (hput hs n x) (n + 1) j,hget_hput]
  by_cases h1:n + 1≤j∧j < n + 1 + xs.length
  ·rw [if_pos h1,if_pos (by simp only [List.length_cons];omega)]
   rw [show j - n=(j - (n + 1)) + 1 from by omega];simp [List.getD]
  ·rw [if_neg h1]
   by_cases h2:j=n
   ·subst h2;rw [if_pos rfl,if_pos (by simp)];simp
   ·rw [if_neg h2,if_neg (by simp only [List.length_cons];omega)]
def St.app (σ:St) (dst:Option Tmp) (n:Nat) (r:Res):St:=
 ⟨match dst with|some t=>σ.tmps.set t r.v|none=>σ.tmps,hupd (hnew σ.heap n r.new) r.upd⟩
/-- Less is known in σ. -/
def St.le (σ σ':St):Prop:=
 (∀ (t:Nat) (v:V),σ.tmps[t]?=some v→v=V.junk∨σ'.tmps[t]?=some v)∧∀ i,hget σ.heap i=.dead∨hget σ'.heap i=hget σ.heap i
theorem St.le.refl (σ:St):σ.le σ:=⟨fun _ _ h=>.inr h,fun _=>.inr rfl⟩
theorem St.le.ev {σ σ':St} (h:σ.le σ') (x:Operand):σ.ev x=.junk∨σ'.ev x=σ.ev x:=by
 cases x with
 |tmp t=>
  simp only [St.ev,List.getD_eq_getElem?_getD]
  cases ht:σ.tmps[t]? with
  |none=>exact .inl rfl
  |some v=>
   rcases h.1 t v ht with rfl|h2
   ·exact .inl rfl
   ·exact .inr (by rw [h2])
 |const v=>exact .inr rfl
 |func f=>exact .inr rfl
 |global g=>exact .inr rfl
/-- In whatever richer state, in whatever world: the operation (if its guard holds) ends, with this result. -/
def OpOK (P:Program) (o:Oper) (g:Bool) (σ:St) (n:Nat) (r:Res):Prop:=
 ∀ σ':St,σ.le σ'→(∀ i,n≤i→i < n + r.new.length→hget σ'.heap i=.dead)→
 ∀ (B:Nat→Prop) (w0:World) (Dm:Nat→Prop) (φ:Phi) (kp:List (V×Value)) (a:Act) (w:World),(∀ i,n≤i→i < n + r.new.length→¬ Dm i)→R B w0 Dm φ σ' kp a w→g=true→
 ∀ (K:Act→World→Prop) (Q:Exit→Act→World→Prop),
  (∀ u w' φ',R B w0 (fun i=>Dm i∨(n≤i∧i < n + r.new.length)) φ' (σ'.app o.dst n r) kp (a.put o.dst u) w'→K (a.put o.dst u) w')→o.wp P a w K Q
/-- What an operand is, under a guard: a value that holds under a condition is taken if the guard gives the condition. -/
def evg (g:Bool) (v:V) (K:V→Prop):Prop:=
 match v with
 |.gd c v=>(g=true→c=true)∧K v
 |v=>K v
/-- An operation that only computes a value of what its operands are. -/
theorem OpOK_val {P:Program} {o:Oper} {g:Bool} {σ:St} {n:Nat} {v:V}
  (h:∀ σ':St,σ.le σ'→∀ (B:Nat→Prop) (w0:World) (Dm:Nat→Prop) (φ:Phi) (kp:List (V×Value)) (a:Act) (w:World),R B w0 Dm φ σ' kp a w→g=true→
   ∃ u,(execOp a.eval o).run P w=.ok (.value u) w∧VRel φ (NotTop φ σ'.heap) w.heap v u):OpOK P o g σ n ⟨v,[],[]⟩:=by
 intro σ' hle _ B w0 Dm φ kp a w _ hR hg K Q hK
 obtain ⟨u,h1,h2⟩:=h σ' hle B w0 Dm φ kp a w hR hg
 unfold Oper.wp
 rw [h1,Oper.upon_value]
 refine hK u w φ ?_
 have hr:=R_put hR o.dst h2
 refine ⟨hr.tm,hr.kp,hr.hp,hr.o1,hr.o2,hr.o3,fun i β e=>.inl (hr.dm i β e),hr.bel,hr.bs,hr.de,hr.gb⟩
/-- What evg gives: the operand's own value, in the concrete frame. -/
theorem evg_rel {g:Bool} {v:V} {K:V→Prop} (h:evg g v K):∃ v',K v'∧∀ (φ:Phi) (T:Nat→Prop) (hp:Array Obj) (u:Value),g=true→VRel φ T hp v u→VRel φ T hp v' u:=by
 unfold evg at h
 split at h
 ·rename_i c v'
  exact ⟨v',h.2,fun φ T hp u hg hr=>by simp only [VRel] at hr;exact hr.1 (h.1 hg)⟩
 ·exact ⟨v,h,fun _ _ _ _ _ hr=>hr⟩
/-- The operand in a richer state. -/
theorem ev_le {σ σ':St} {B:Nat→Prop} {w0:World} {Dm:Nat→Prop} {φ:Phi} {kp:List (V×Value)} {a:Act} {w:World} (hle:σ.le σ') (r:R B w0 Dm φ σ' kp a w) (x:Operand) :
  VRel φ (NotTop φ σ'.heap) w.heap (σ.ev x) (a.eval x):=by
 rcases hle.ev x with h|h
 ·rw [h];trivial
 ·rw [← h];exact ev_rel r x
def fixT (P:Program) (T:TypeId):V→V
 |.nils s=>.nils (match elI P T with|some (_,sz,_)=>sz|none=>s)
 |v=>v
theorem fixT_rel {P:Program} {T:TypeId} {φ:Phi} {T':Nat→Prop} {h:Array Obj} {v:V} {u:Value} (r:VRel φ T' h v u):VRel φ T' h (fixT P T v) u:=by
 cases v<;>first|exact r|(simp only [fixT,VRel] at r ⊢;exact r)
/-- The cells of a value. -/
def V.cells:V→List V
 |.agg vs=>vs
 |v=>[v]
/-- Values that may lie in a cell. -/
def V.oneB:V→Bool
 |.d _|.nils _|.ptr _ _ _|.rp _ _|.sl _ _ _|.fn _ _=>true
 |_=>false
theorem oneB_cells {φ:Phi} {T:Nat→Prop} {h:Array Obj} {v:V} {u:Value} (hb:v.oneB=true) (r:VRel φ T h v u):u.oneCell'=true∧u.cells=#[u]:=by
 cases v<;>simp only [V.oneB] at hb<;>simp only [VRel] at r
 case d x=>
  obtain ⟨F,r1,_⟩:=r
  have:=oneCell_rep r1
  refine ⟨this,?_⟩
  cases u<;>first|rfl|(simp [Value.oneCell'] at this)
 case nils s=>subst r;exact ⟨rfl,rfl⟩
 case ptr id idx off=>obtain ⟨β,b,_,_,r⟩:=r;subst r;exact ⟨rfl,rfl⟩
 case rp cells off=>obtain ⟨b,f,G,r,_⟩:=r;subst r;exact ⟨rfl,rfl⟩
 case sl id off len=>obtain ⟨β,a,c,_,r,_⟩:=r;subst r;exact ⟨rfl,rfl⟩
 case fn f caps=>obtain ⟨us,r,_⟩:=r;subst r;exact ⟨rfl,rfl⟩
 all_goals cases hb
/-- The cells of a value that is an aggregate of such, or one such. -/
def V.cellsOk:V→Bool
 |.agg vs=>vs.all V.oneB
 |v=>v.oneB
theorem cells_rel {φ:Phi} {T:Nat→Prop} {h:Array Obj} {v:V} {u:Value} (hb:v.cellsOk=true) (r:VRel φ T h v u):VRels φ T h v.cells u.cells.toList∧∀ x ∈ u.cells.toList,x.oneCell'=true:=by
 cases v with
 |agg vs=>
  simp only [VRel] at r
  obtain ⟨us,rfl,r⟩:=r
  simp only [V.cellsOk,List.all_eq_true] at hb
  refine ⟨r,fun x hx=>?_⟩
  obtain ⟨j,hj,rfl⟩:=List.getElem_of_mem hx
  have hl:=VRels_len _ _ r
  obtain ⟨x',h1,h2⟩:=VRels_at _ _ r j (vs[j]'(by simp only [Value.cells] at hj;omega)) (List.getElem?_eq_getElem _)
  simp only [Value.cells] at hj ⊢
  rw [List.getElem?_eq_getElem hj] at h1
  cases h1
  exact (oneB_cells (hb _ (List.getElem_mem _)) h2).1
 |d x=>exact ⟨by rw [(oneB_cells rfl r).2];simp only [V.cells,VRels];exact ⟨_,_,rfl,r,rfl⟩,by rw [(oneB_cells rfl r).2];simpa using (oneB_cells rfl r).1⟩
 |nils x=>exact ⟨by rw [(oneB_cells rfl r).2];simp only [V.cells,VRels];exact ⟨_,_,rfl,r,rfl⟩,by rw [(oneB_cells rfl r).2];simpa using (oneB_cells rfl r).1⟩
 |ptr x y z=>exact ⟨by rw [(oneB_cells rfl r).2];simp only [V.cells,VRels];exact ⟨_,_,rfl,r,rfl⟩,by rw [(oneB_cells rfl r).2];simpa using (oneB_cells rfl r).1⟩
 |rp x y=>exact ⟨by rw [(oneB_cells rfl r).2];simp only [V.cells,VRels];exact ⟨_,_,rfl,r,rfl⟩,by rw [(oneB_cells rfl r).2];simpa using (oneB_cells rfl r).1⟩
 |sl x y z=>exact ⟨by rw [(oneB_cells rfl r).2];simp only [V.cells,VRels];exact ⟨_,_,rfl,r,rfl⟩,by rw [(oneB_cells rfl r).2];simpa using (oneB_cells rfl r).1⟩
 |fn x y=>exact ⟨by rw [(oneB_cells rfl r).2];simp only [V.cells,VRels];exact ⟨_,_,rfl,r,rfl⟩,by rw [(oneB_cells rfl r).2];simpa using (oneB_cells rfl r).1⟩
 |junk=>cases hb
 |tup x=>cases hb
 |gd x y=>cases hb
theorem wrap_range (k:IntKind) (n:Int):k.min≤k.wrap n∧k.wrap n≤k.max:=by
 cases k<;>simp only [IntKind.min,IntKind.max,IntKind.wrap,IntKind.bits,IntKind.signed]<;>simp<;>(try split)<;>omega
theorem k_range (k:IntKind):k.min≤0∧0≤k.max:=by
 cases k<;>simp [IntKind.min,IntKind.max,IntKind.bits,IntKind.signed]
theorem tmod_range {k:IntKind} {x y:Int} (h:k.min≤x∧x≤k.max):k.min≤x.tmod y∧x.tmod y≤k.max:=by
 have hk:=k_range k
 rcases Int.le_total 0 x with h0|h0
 ·have h1:=Int.tmod_nonneg y h0
  have h2:x.tmod y≤x:=by
   have:=Int.natAbs_tmod x y
   have h3:x.natAbs % y.natAbs≤x.natAbs:=Nat.mod_le _ _
   omega
  omega
 ·have h1:x.tmod y≤0:=by
   have:=Int.tmod_nonneg (a:=-x) y (by omega)
   rw [Int.neg_tmod] at this;omega
  have h2:x≤x.tmod y:=by
   have:=Int.natAbs_tmod x y
   have h3:x.natAbs % y.natAbs≤x.natAbs:=Nat.mod_le _ _
   omega
  omega
theorem fdiv_range {k:IntKind} {x:Int} {n:Nat} (h:k.min≤x∧x≤k.max):k.min≤x.fdiv (2 ^ n)∧x.fdiv (2 ^ n)≤k.max:=by
 have hk:=k_range k
 have hp:(0:Int) < 2 ^ n:=Int.pow_pos (by omega)
 have he:x.fdiv (2 ^ n)=x / (2 ^ n):=Int.fdiv_eq_ediv_of_nonneg x (by omega)
 rw [he]
 rcases Int.le_total 0 x with h0|h0
 ·have h1:0≤x / 2 ^ n:=Int.ediv_nonneg h0 (by omega)
  have h2:x / 2 ^ n≤x:=Int.ediv_le_self _ h0
  omega
 ·have h1:x / 2 ^ n≤0:=by
   have:=Int.ediv_le_ediv hp h0
   simpa using this
  have h2:x≤x / 2 ^ n:=by
   rw [Int.le_ediv_iff_mul_le hp]
   have:x * (2 ^ n - 1)≤0:=Int.mul_nonpos_of_nonpos_of_nonneg h0 (by omega)
   rw [Int.mul_sub] at this;omega
  omega
/-- What a bit operation gives. -/
def bitI (op:BinOp) (k:IntKind) (x y:Int):Int:=
 let a:=BitVec.ofInt k.bits x
 let b:=BitVec.ofInt k.bits y
 k.wrap (match op with
  |.and=>(a &&& b).toNat
  |.or=>(a ||| b).toNat
  |.xor=>(a ^^^ b).toNat
  |_=>(a &&& ~~~b).toNat)
def dB (b:Bool):V:=.d (.bool b)
def dI (k:IntKind) (n:Int):V:=.d (.int k n)
def dS (s:List UInt8):V:=.d (.str s)
/-- Two integers of one kind: what must hold, and the value. -/
def binI (op:BinOp) (k:IntKind) (x y:Int):Option (Prop×V):=
 match op with
 |.add=>some (True,.d (.int k (k.wrap (x + y))))
 |.sub=>some (True,.d (.int k (k.wrap (x - y))))
 |.mul=>some (True,.d (.int k (k.wrap (x * y))))
 |.quo=>some (y≠0,.d (.int k (k.wrap (x.tdiv y))))
 |.rem=>some (y≠0,.d (.int k (x.tmod y)))
 |.and=>some (True,.d (.int k (bitI .and k x y)))
 |.or=>some (True,.d (.int k (bitI .or k x y)))
 |.xor=>some (True,.d (.int k (bitI .xor k x y)))
 |.eql=>some (True,.d (.bool (x == y)))
 |.neq=>some (True,.d (.bool (x != y)))
 |.lss=>some (True,.d (.bool (decide (x < y))))
 |.leq=>some (True,.d (.bool (decide (x≤y))))
 |.gtr=>some (True,.d (.bool (decide (y < x))))
 |.geq=>some (True,.d (.bool (decide (y≤x))))
 |_=>none
/-- A shift. -/
def shI (op:BinOp) (k:IntKind) (x y:Int):Option (Prop×V):=
 match op with
 |.shl=>some (0≤y,.d (.int k (k.wrap (x * 2 ^ min y.toNat k.bits))))
 |.shr=>some (0≤y,.d (.int k (x.fdiv (2 ^ min y.toNat k.bits))))
 |_=>none
def binS (op:BinOp) (x y:List UInt8):Option (Prop×V):=
 match op with
 |.add=>some (x.length + y.length≤maxLen,.d (.str (x++y)))
 |.eql=>some (True,.d (.bool (x == y)))
 |.neq=>some (True,.d (.bool (x != y)))
 |_=>none
/-- The comparison of two scalars, as a cell of a struct. -/
def eqD:D→D→Option Bool
 |.int k x,.int k' y=>if k=k' then some (decide (x=y)) else none
 |.bool x,.bool y=>some (decide (x=y))
 |.str x,.str y=>some (decide (x=y))
 |_,_=>none
section
variable {φ:Phi} {T:Nat→Prop} {h:Array Obj}
theorem rel_int {k:IntKind} {n:Int} {u:Value} (r:VRel φ T h (.d (.int k n)) u):u=.int k n∧k.min≤n∧n≤k.max:=by
 simp only [VRel,rep] at r
 obtain ⟨F,⟨r1,_,r2,r3⟩,_⟩:=r
 exact ⟨r1,r2,r3⟩
theorem rel_bool {b:Bool} {u:Value} (r:VRel φ T h (.d (.bool b)) u):u=.bool b:=by
 simp only [VRel,rep] at r
 obtain ⟨F,⟨r1,_⟩,_⟩:=r
 exact r1
theorem rel_str {s:List UInt8} {u:Value} (r:VRel φ T h (.d (.str s)) u):u=.string ⟨s.toArray⟩∧s.length≤maxLen:=by
 simp only [VRel,rep] at r
 obtain ⟨F,⟨r1,_,r2⟩,_⟩:=r
 exact ⟨r1,r2⟩
theorem mk_int {k:IntKind} {n:Int} (h1:k.min≤n∧n≤k.max):VRel φ T h (.d (.int k n)) (.int k n):=by
 simp only [VRel,rep];exact ⟨[],⟨trivial,rfl,h1.1,h1.2⟩,by simp⟩
theorem mk_bool (b:Bool):VRel φ T h (.d (.bool b)) (.bool b):=by
 simp only [VRel,rep];exact ⟨[],⟨trivial,rfl⟩,by simp⟩
theorem mk_str {s:List UInt8} (h1:s.length≤maxLen):VRel φ T h (.d (.str s)) (.string ⟨s.toArray⟩):=by
 simp only [VRel,rep];exact ⟨[],⟨trivial,rfl,h1⟩,by simp⟩
end
theorem bytes_append (x y:List UInt8):(⟨x.toArray⟩:ByteArray)++(⟨y.toArray⟩:ByteArray)=⟨(x++y).toArray⟩:=by
 apply ByteArray.ext
 simp [ByteArray.data_append]
theorem toList_mk (x:List UInt8):(⟨x.toArray⟩:ByteArray).toList=x:=by
 rw [Go.ByteArray.toList_eq]
section
variable {P:Program} {w:World} {φ:Phi} {T:Nat→Prop} {h:Array Obj}
theorem binI_run {op:BinOp} {k:IntKind} {x y:Int} {p:Prop} {v:V} (hx:k.min≤x∧x≤k.max) (hE:binI op k x y=some (p,v)) (hp:p) (t:TypeId) :
  ∃ u,(binOp op t (.int k x) (.int k y)).run P w=.ok u w∧VRel φ T h v u:=by
 cases op<;>simp only [binI,Option.some.injEq,Prod.mk.injEq,reduceCtorEq] at hE<;>obtain ⟨rfl,rfl⟩:=hE
 case add=>exact ⟨_,by simp [binOp,Op.intArith],mk_int (wrap_range _ _)⟩
 case sub=>exact ⟨_,by simp [binOp,Op.intArith],mk_int (wrap_range _ _)⟩
 case mul=>exact ⟨_,by simp [binOp,Op.intArith],mk_int (wrap_range _ _)⟩
 case quo=>exact ⟨_,by simp [binOp,Op.intDiv,hp],mk_int (wrap_range _ _)⟩
 case rem=>exact ⟨_,by simp [binOp,Op.intDiv,hp],mk_int (tmod_range hx)⟩
 case and=>exact ⟨_,by simp [binOp,Op.intBits,bitI],mk_int (wrap_range _ _)⟩
 case or=>exact ⟨_,by simp [binOp,Op.intBits,bitI],mk_int (wrap_range _ _)⟩
 case xor=>exact ⟨_,by simp [binOp,Op.intBits,bitI],mk_int (wrap_range _ _)⟩
 all_goals exact ⟨_,by simp [binOp,Op.intCmp],mk_bool _⟩
theorem shI_run {op:BinOp} {k k':IntKind} {x y:Int} {p:Prop} {v:V} (hx:k.min≤x∧x≤k.max) (hE:shI op k x y=some (p,v)) (hp:p) (t:TypeId) :
  ∃ u,(binOp op t (.int k x) (.int k' y)).run P w=.ok u w∧VRel φ T h v u:=by
 cases op<;>simp only [shI,Option.some.injEq,Prod.mk.injEq,reduceCtorEq] at hE<;>obtain ⟨rfl,rfl⟩:=hE
 case shl=>exact ⟨_,by simp [binOp,Op.shift,Int.not_lt.2 hp],mk_int (wrap_range _ _)⟩
 case shr=>exact ⟨_,by simp [binOp,Op.shift,Int.not_lt.2 hp],mk_int (fdiv_range hx)⟩
theorem binS_run {op:BinOp} {x y:List UInt8} {p:Prop} {v:V} (hE:binS op x y=some (p,v)) (hp:p) (t:TypeId) :
  ∃ u,(binOp op t (.string ⟨x.toArray⟩) (.string ⟨y.toArray⟩)).run P w=.ok u w∧VRel φ T h v u:=by
 cases op<;>simp only [binS,Option.some.injEq,Prod.mk.injEq,reduceCtorEq] at hE<;>obtain ⟨rfl,rfl⟩:=hE
 case add=>
  refine ⟨_,?_,mk_str (by simpa using hp)⟩
  have h1:¬ (((⟨x.toArray⟩:ByteArray).size + (⟨y.toArray⟩:ByteArray).size:Nat):Int) > IntKind.i64.max:=by
   have h2:(⟨x.toArray⟩:ByteArray).size=x.length:=by simp [ByteArray.size]
   have h3:(⟨y.toArray⟩:ByteArray).size=y.length:=by simp [ByteArray.size]
   have h5:IntKind.i64.max=9223372036854775807:=by decide
   rw [h2,h3,h5];simp only [maxLen] at hp;omega
  simp only [binOp,Op.stringOp]
  rw [if_neg h1,bytes_append];rfl
 case eql=>exact ⟨_,by simp only [binOp,Op.stringOp,toList_mk];rfl,mk_bool _⟩
 case neq=>exact ⟨_,by simp only [binOp,Op.stringOp,toList_mk];rfl,mk_bool _⟩
end
def asB (v:V) (K:Bool→Prop):Prop:=match v with|.d (.bool b)=>K b|_=>False
def asI (v:V) (K:IntKind→Int→Prop):Prop:=match v with|.d (.int k n)=>K k n|_=>False
theorem asB_inv {v:V} {K:Bool→Prop} (h:asB v K):∃ b,v=.d (.bool b)∧K b:=by
 unfold asB at h;split at h
 ·exact ⟨_,rfl,h⟩
 ·exact h.elim
theorem asI_inv {v:V} {K:IntKind→Int→Prop} (h:asI v K):∃ k n,v=.d (.int k n)∧K k n:=by
 unfold asI at h;split at h
 ·exact ⟨_,_,rfl,h⟩
 ·exact h.elim
variable {P:Program} {o:Oper} {g:Bool} {σ:St} {n:Nat} {K:Res→Prop}
/-- A value, nothing else. -/
def rv (v:V):Res:=⟨v,[],[]⟩
theorem ok_move {x:Operand} (ho:o.op=.move x∨o.op=.assign x) (h:evg g (σ.ev x) fun v=>K (rv (fixT P o.type v))):∃ r,OpOK P o g σ n r∧K r:=by
 obtain ⟨v,hK,hr⟩:=evg_rel h
 refine ⟨_,OpOK_val fun σ' hle B w0 Dm φ kp a w r hg=>⟨a.eval x,?_,fixT_rel (hr _ _ _ _ hg (ev_le hle r x))⟩,hK⟩
 rcases ho with ho|ho<;>(unfold execOp;rw [ho];rfl)
def pickE (g:Bool) (c a b:V) (K:V→Prop):Prop:=
 evg g c fun c=>asB c fun x=>evg (g && x) a fun a=>asB a fun y=>evg (g && !x) b fun b=>asB b fun z=>K (dB (bif x then y else z))
theorem ok_pick {c x y:Operand} (ho:o.op=.pick c x y) (h:pickE g (σ.ev c) (σ.ev x) (σ.ev y) fun v=>K (rv v)):∃ r,OpOK P o g σ n r∧K r:=by
 obtain ⟨c',h,hc⟩:=evg_rel h
 obtain ⟨b,rfl,h⟩:=asB_inv h
 obtain ⟨x',h,hx⟩:=evg_rel h
 obtain ⟨bx,rfl,h⟩:=asB_inv h
 obtain ⟨y',h,hy⟩:=evg_rel h
 obtain ⟨bz,rfl,h⟩:=asB_inv h
 refine ⟨_,OpOK_val fun σ' hle B w0 Dm φ kp a w r hg=>?_,h⟩
 have e1:=rel_bool (hc _ _ _ _ hg (ev_le hle r c))
 cases b with
 |true=>
  have e2:=rel_bool (hx _ _ _ _ (by simp [hg]) (ev_le hle r x))
  exact ⟨.bool bx,by unfold execOp;rw [ho];simp [e1,e2,asBool],mk_bool _⟩
 |false=>
  have e2:=rel_bool (hy _ _ _ _ (by simp [hg]) (ev_le hle r y))
  exact ⟨.bool bz,by unfold execOp;rw [ho];simp [e1,e2,asBool],mk_bool _⟩
/-- Two structs (or arrays) of scalars: cell by cell. -/
def eqCells:List V→List V→Option Bool
 |[],[]=>some true
 |.d x::xs,.d y::ys=>match eqD x y,eqCells xs ys with|some a,some b=>some (a && b)|_,_=>none
 |_,_=>none
/-- The kinds of cells that are compared. -/
inductive CK where
 |i (k:IntKind)
 |b
 |s
def Fit1:CK→Value→Prop
 |.i q,.int q' n=>q'=q∧q.min≤n∧n≤q.max
 |.b,.bool _=>True
 |.s,.string s=>s.size≤maxLen
 |_,_=>False
def FitL:List CK→List Value→Prop
 |[],us=>us=[]
 |k::ks,us=>∃ u us',us=u::us'∧Fit1 k u∧FitL ks us'
def litV:Value→Lit
 |.int q n=>.int q n
 |.bool b=>.bool b
 |.string s=>.string s.data.toList
 |_=>.bool false
theorem FitL_len:∀ {ks:List CK} {us:List Value},FitL ks us→us.length=ks.length
 |[],us,h=>by simp only [FitL] at h;rw [h];rfl
 |k::ks,us,h=>by
  simp only [FitL] at h
  obtain ⟨u,us',rfl,_,h⟩:=h
  simp [FitL_len h]
theorem FitL_append:∀ {ks ls:List CK} {us:List Value},FitL (ks++ls) us→FitL ks (us.take ks.length)∧FitL ls (us.drop ks.length)
 |[],ls,us,h=>by simpa [FitL] using h
 |k::ks,ls,us,h=>by
  simp only [List.cons_append,FitL] at h
  obtain ⟨u,us',rfl,h1,h⟩:=h
  obtain ⟨h2,h3⟩:=FitL_append h
  exact ⟨⟨u,us'.take ks.length,by simp,h1,h2⟩,by simpa using h3⟩
def shpF (P:Program) (g:TypeId→Option (List CK)):Nat→List Field→Option (List CK)
 |_,[]=>some []
 |off,f::fs=>
  match g f.type with
  |some ks=>if f.offset=off∧P.cellsOf f.type=ks.length then (shpF P g (off + ks.length) fs).map (ks++·) else none
  |none=>none
/-- The cells of a type, where they lie one behind the other. -/
def shp (P:Program):Nat→TypeId→Option (List CK)
 |0,_=>none
 |d + 1,t=>
  match P.underlying t with
  |some .bool=>some [.b]
  |some (.int q)=>some [.i q]
  |some .string=>some [.s]
  |some (.struct fs)=>
   match shpF P (shp P d) 0 fs.toList with
   |some ks => if P.cellsOf t = ks.length ∧ fs.all (·.name != "_") = true then some ks else none
   |none=>none
  |some (.array n e)=>
   match shp P d e with
   |some ks=>if P.cellsOf e=ks.length∧P.cellsOf t=n * ks.length then some (List.replicate n ks).flatten else none
   |none=>none
  |_=>none
theorem mapM_all {α β:Type} {g:α→Option β} {h:α→β}:∀ (l:List α),(∀ x ∈ l,g x=some (h x))→l.mapM g=some (l.map h)
 |[],_=>rfl
 |x::l,e=>by
  rw [List.mapM_cons,e x (by simp),mapM_all l fun y hy=>e y (by simp [hy])];rfl
theorem FitL_rep {ks:List CK}:∀ (n:Nat) (us:List Value),FitL (List.replicate n ks).flatten us→us.length=n * ks.length∧(∀ i,i < n→FitL ks ((us.drop (i * ks.length)).take ks.length)) ∧
  ((List.range n).map fun i=>((us.drop (i * ks.length)).take ks.length).map litV).flatten=us.map litV
 |0,us,h=>by
  have:us=[]:=by simpa [FitL] using h
  subst this;simp
 |n + 1,us,h=>by
  rw [List.replicate_succ,List.flatten_cons] at h
  obtain ⟨h1,h2⟩:=FitL_append h
  obtain ⟨h3,h4,h5⟩:=FitL_rep n _ h2
  have hl:=FitL_len h
  rw [List.length_append] at hl
  have h3':=h3
  rw [List.length_drop] at h3
  have hk:ks.length≤us.length:=by omega
  refine ⟨by rw [Nat.add_mul];omega,fun i hi=>?_,?_⟩
  ·cases i with
   |zero=>simpa using h1
   |succ i=>
    have:=h4 i (by omega)
    rwa [List.drop_drop,show ks.length + i * ks.length=(i + 1) * ks.length from by rw [Nat.add_mul];omega] at this
  ·rw [List.range_succ_eq_map,List.map_cons,List.flatten_cons,List.map_map]
   have:((fun i=>((us.drop (i * ks.length)).take ks.length).map litV) ∘ Nat.succ)=fun i=>(((us.drop ks.length).drop (i * ks.length)).take ks.length).map litV:=by
    funext i
    simp only [Function.comp,List.drop_drop,Nat.succ_eq_add_one]
    rw [show ks.length + i * ks.length=(i + 1) * ks.length from by rw [Nat.add_mul];omega]
   rw [this,h5,Nat.zero_mul,List.drop_zero,← List.map_append,List.take_append_drop]
theorem shpF_lits {P:Program} {g:TypeId→Option (List CK)} {d:Nat} (hg:∀ t ks us,g t=some ks→FitL ks us→P.keyLits d t us=some (us.map litV)) (cs:List Value):∀ (fs:List Field) (off:Nat) (ks:List CK),
  shpF P g off fs=some ks→FitL ks (cs.drop off)→∃ ls,fs.mapM (fun f=>P.keyLits d f.type ((cs.drop f.offset).take (P.cellsOf f.type)))=some ls∧ls.flatten=(cs.drop off).map litV
 |[],off,ks,h,hf=>by
  simp only [shpF,Option.some.injEq] at h;subst h
  simp only [FitL] at hf
  exact ⟨[],rfl,by rw [hf];rfl⟩
 |f::fs,off,ks,h,hf=>by
  simp only [shpF] at h
  split at h
  ·rename_i k1 hk1
   split at h
   ·rename_i hc
    cases hr:shpF P g (off + k1.length) fs with
    |none=>rw [hr] at h;cases h
    |some k2=>
     rw [hr] at h
     simp only [Option.map_some,Option.some.injEq] at h;subst h
     obtain ⟨h1,h2⟩:=FitL_append hf
     rw [List.drop_drop] at h2
     obtain ⟨ls,h3,h4⟩:=shpF_lits hg cs fs (off + k1.length) k2 hr h2
     refine ⟨((cs.drop off).take k1.length).map litV::ls,?_,?_⟩
     ·rw [List.mapM_cons,hc.1,hc.2,hg _ _ _ hk1 h1,h3];rfl
     ·rw [List.flatten_cons,h4,← List.drop_drop,← List.map_append,List.take_append_drop]
   ·cases h
  ·cases h
theorem shp_lits {P:Program}:∀ (d:Nat) (t:TypeId) (ks:List CK) (us:List Value),shp P d t=some ks→FitL ks us→P.keyLits d t us=some (us.map litV)
 |0,t,ks,us,h,_=>by simp [shp] at h
 |d + 1,t,ks,us,h,hf=>by
  have one:∀ k,ks=[k]→∃ u,us=[u]∧Fit1 k u:=by
   rintro k rfl
   simp only [FitL] at hf
   obtain ⟨u,us',rfl,h1,h2⟩:=hf
   exact ⟨u,by rw [h2],h1⟩
  unfold shp at h
  unfold Program.keyLits
  split at h
  ·rename_i hu
   cases h
   obtain ⟨u,rfl,h1⟩:=one _ rfl
   cases u<;>simp only [Fit1] at h1
   simp [hu,litV]
  ·rename_i q hu
   cases h
   obtain ⟨u,rfl,h1⟩:=one _ rfl
   cases u<;>simp only [Fit1] at h1
   obtain ⟨rfl,h1,h2⟩:=h1
   simp [hu,litV,Lit.wf,h1,h2]
  ·rename_i hu
   cases h
   obtain ⟨u,rfl,h1⟩:=one _ rfl
   cases u<;>simp only [Fit1] at h1
   simp [hu,litV,h1]
  ·rename_i fs hu
   split at h
   ·rename_i k1 hk1
    split at h
    ·rename_i hc
     cases h
     obtain ⟨ls,h3,h4⟩:=shpF_lits (d:=d) (fun t ks us=>shp_lits d t ks us) us fs.toList 0 _ hk1 (by simpa using hf)
     have hl:=FitL_len hf
     simp only [hu]
     rw [if_pos ⟨by omega,hc.2⟩,h3]
     simp [h4]
    ·cases h
   ·cases h
  ·rename_i n e hu
   split at h
   ·rename_i k1 hk1
    split at h
    ·rename_i hc
     cases h
     obtain ⟨h1,h2,h3⟩:=FitL_rep n us hf
     simp only [hu]
     rw [if_pos (by omega),mapM_all (h:=fun i=>((us.drop (i * k1.length)).take k1.length).map litV) _ fun i hi=>by
      rw [hc.1]
      exact shp_lits d e k1 _ hk1 (h2 i (by simpa using hi))]
     simp only [Option.map_some,h3]
    ·cases h
   ·cases h
  ·cases h
/-- The type's '==' is cell by cell. -/
def EqOK (P:Program) (T:TypeId) (ks:List CK):Prop:=
 ∀ (us ws:List Value) (b:Bool) (x y:Operand) (w:World),FitL ks us→FitL ks ws→(b=true↔us.map litV=ws.map litV)→
  (do eqGuard .eql T x y (.agg us.toArray) (.agg ws.toArray);binOp .eql T (.agg us.toArray) (.agg ws.toArray)).run P w=.ok (.bool b) w ∧
  (do eqGuard .neq T x y (.agg us.toArray) (.agg ws.toArray);binOp .neq T (.agg us.toArray) (.agg ws.toArray)).run P w=.ok (.bool !b) w
theorem EqOK_of {P:Program} {T:TypeId} {ks:List CK} (h1:shp P 100 T=some ks) (h2:P.eqGuardType P.depth T=false) (h3:P.keyTypeAt 100 T=true) (h4:(match P.underlying T with|some (.struct _)|some (.array _ _)=>true|_=>false)=true) (h5:P.cellsOf T=ks.length):EqOK P T ks:=by
 intro us ws b x y w hu hw hb
 have hfu:∀ vs:List Value,FitL ks vs→Value.formed P T (.agg vs.toArray)=true:=by
  intro vs hv
  have:=FitL_len hv
  unfold Value.formed
  simp only
  split at h4<;>first|(simp only [*];simp [this])|cases h4
 obtain ⟨r,hr,hr2⟩:=run_equalIn_deep (P:=P) 9900 100 T h3 w 100 100 (.agg us.toArray) (.agg ws.toArray) _ _ (hfu us hu) (hfu ws hw) (shp_lits 100 T ks _ h1 (by simpa [Value.cells] using hu)) (shp_lits 100 T ks _ h1 (by simpa [Value.cells] using hw))
 have hrb:r=b:=by
  simp only [Value.cells] at hr2
  rw [Bool.eq_iff_iff,hr2,hb]
 subst hrb
 constructor
 ·simp only [Sem.run_bind,run_eqGuard_agg w _ T x y _ _ h2,Result.andThen_ok,run_eql_struct]
  rw [show (10000:Nat)=9900 + 100 from rfl,hr];rfl
 ·simp only [Sem.run_bind,run_eqGuard_agg w _ T x y _ _ h2,Result.andThen_ok,run_neq_struct]
  rw [show (10000:Nat)=9900 + 100 from rfl,hr];rfl
def kindsV:List V→List CK
 |[]=>[]
 |.d (.int k _)::xs=>.i k::kindsV xs
 |.d (.str _)::xs=>.s::kindsV xs
 |_::xs=>.b::kindsV xs
def isBoolI (P:Program) (T:TypeId):Bool:=match P.underlying T with|some .bool=>true|_=>false
def isPtrI (P:Program) (T:TypeId):Bool:=
 match P.underlying T with
 |some (.pointer e)=>match P.info? e with|some i=>i.size != 0|none=>false
 |_=>false
theorem isPtrI_some {T:TypeId} (h:isPtrI P T=true):∃ e i,P.underlying T=some (.pointer e)∧P.info? e=some i∧i.size≠0:=by
 unfold isPtrI at h
 split at h
 ·rename_i e hu
  split at h
  ·rename_i i hi
   exact ⟨e,i,hu,hi,by simpa using h⟩
  ·cases h
 ·cases h
theorem run_eql_ptr {T:TypeId} (b f f':Nat) (w:World) (h:isPtrI P T=true):(binOp .eql T (.pointer (some ⟨b,f,none⟩)) (.pointer (some ⟨b,f',none⟩))).run P w=.ok (.bool (decide (f=f'))) w:=by
 obtain ⟨e,i,hu,hi,hs⟩:=isPtrI_some h
 have h2:∀ d:Nat,(Op.equalIn (d + 1) T (.pointer (some ⟨b,f,none⟩)) (.pointer (some ⟨b,f',none⟩))).run P w=.ok (decide (f=f')) w:=fun d=>by
  have he:((⟨b,f,none⟩:Addr) == ⟨b,f',none⟩)=decide (f=f'):=by
   rw [Bool.eq_iff_iff];simp
  have hz:(Go.sizeOf e).run P w=Result.ok i.size w:=by simp [Go.sizeOf,typeInfo,hi]
  simp [Op.equalIn,run_underlying hu,hz,hs,sameAddr,he]
 simp only [binOp]
 simp [Op.equal,Op.maxDepth,h2 9999]
def binE (P:Program) (op:BinOp) (T:TypeId) (x y:V):Option (Prop×V):=
 match x,y with
 |.d (.int k a),.d (.int k' b)=>
  match op with
  |.shl=>shI .shl k a b
  |.shr=>shI .shr k a b
  |op=>if k=k' then binI op k a b else none
 |.d (.str a),.d (.str b)=>binS op a b
 |.d (.bool a),.d (.bool b)=>
  match op with
  |.eql=>if isBoolI P T then some (True,dB (a == b)) else none
  |.neq=>if isBoolI P T then some (True,dB (a != b)) else none
  |_=>none
 |.agg xs,.agg ys=>
  match op,eqCells xs ys with
  |.eql,some b=>some (EqOK P T (kindsV xs),dB b)
  |.neq,some b=>some (EqOK P T (kindsV xs),dB !b)
  |_,_=>none
 |.ptr id idx off,.ptr id' idx' off'=>
  match op with
  |.eql=>if id=id'∧idx=idx'∧isPtrI P T=true then some (True,dB (decide (off=off'))) else none
  |_=>none
 |_,_=>none
def withR (r:Option (Prop×V)) (K:V→Prop):Prop:=match r with|some (p,v)=>p∧K v|none=>False
theorem withR_inv {r:Option (Prop×V)} {K:V→Prop} (h:withR r K):∃ p v,r=some (p,v)∧p∧K v:=by
 unfold withR at h;split at h
 ·exact ⟨_,_,rfl,h.1,h.2⟩
 ·exact h.elim
theorem eqCells_vals {φ:Phi} {T:Nat→Prop} {h:Array Obj}:∀ (xs ys:List V) (b:Bool) (us ws:List Value),eqCells xs ys=some b→VRels φ T h xs us→VRels φ T h ys ws→(b=true↔us.map litV=ws.map litV)∧FitL (kindsV xs) us∧FitL (kindsV xs) ws
 |[],[],b,us,ws,e,r,r'=>by
  simp only [VRels] at r r';subst r;subst r'
  simp only [eqCells,Option.some.injEq] at e;subst e;simp [kindsV,FitL]
 |[],y::ys,b,us,ws,e,_,_=>by cases e
 |x::xs,[],b,us,ws,e,_,_=>by cases x<;>cases e
 |x::xs,y::ys,b,us,ws,e,r,r'=>by
  simp only [VRels] at r r'
  obtain ⟨u,us',rfl,r1,r2⟩:=r
  obtain ⟨v,ws',rfl,r1',r2'⟩:=r'
  cases x with
  |d dx=>
   cases y with
   |d dy=>
    simp only [eqCells] at e
    split at e
    ·rename_i a b' e1 e2
     obtain ⟨ih,ihl,ihr⟩:=eqCells_vals xs ys b' us' ws' e2 r2 r2'
     cases e
     cases dx<;>cases dy<;>simp only [eqD] at e1<;>first|(cases e1;done)|skip
     ·split at e1
      ·rename_i hk;subst hk
       have k1:=rel_int r1;have k2:=rel_int r1'
       rw [k1.1,k2.1];cases e1;simp only [kindsV,FitL,List.map_cons,litV]
       exact ⟨by simp [ih],⟨_,_,rfl,⟨rfl,k1.2⟩,ihl⟩,⟨_,_,rfl,⟨rfl,k2.2⟩,ihr⟩⟩
      ·cases e1
     ·rw [rel_bool r1,rel_bool r1'];cases e1;simp only [kindsV,FitL,List.map_cons,litV]
      exact ⟨by simp [ih],⟨_,_,rfl,trivial,ihl⟩,⟨_,_,rfl,trivial,ihr⟩⟩
     ·have k1:=rel_str r1;have k2:=rel_str r1'
      rw [k1.1,k2.1];cases e1;simp only [kindsV,FitL,List.map_cons,litV]
      exact ⟨by simp [ih],⟨_,_,rfl,by simpa [Fit1,ByteArray.size] using k1.2,ihl⟩,⟨_,_,rfl,by simpa [Fit1,ByteArray.size] using k2.2,ihr⟩⟩
    ·cases e
   |_=>cases e
  |_=>cases e
theorem rel_agg {φ:Phi} {T:Nat→Prop} {h:Array Obj} {vs:List V} {u:Value} (r:VRel φ T h (.agg vs) u):∃ us:Array Value,u=.agg us∧VRels φ T h vs us.toList:=by
 simpa only [VRel] using r
theorem run_equalIn_bool (d:Nat) {T:TypeId} (a b:Bool) (w:World) (hu:P.underlying T=some .bool):(Op.equalIn (d + 1) T (.bool a) (.bool b)).run P w=.ok (a == b) w:=by
 simp [Op.equalIn,run_underlying hu]
theorem run_eql_bool {T:TypeId} (a b:Bool) (w:World) (hu:P.underlying T=some .bool):(binOp .eql T (.bool a) (.bool b)).run P w=.ok (.bool (a == b)) w:=by
 simp only [binOp]
 simp [Op.equal,Op.maxDepth,run_equalIn_bool 9999 a b w hu]
theorem run_neq_bool {T:TypeId} (a b:Bool) (w:World) (hu:P.underlying T=some .bool):(binOp .neq T (.bool a) (.bool b)).run P w=.ok (.bool (a != b)) w:=by
 simp only [binOp]
 simp [Op.equal,Op.maxDepth,run_equalIn_bool 9999 a b w hu,bne]
theorem binE_run {op:BinOp} {T:TypeId} {x y:V} {p:Prop} {v:V} (hE:binE P op T x y=some (p,v)) (hp:p) {φ:Phi} {T0:Nat→Prop} {h:Array Obj} {u u':Value} (rx:VRel φ T0 h x u) (ry:VRel φ T0 h y u')
  (ox oy:Operand) (w:World):∃ z,(do eqGuard op T ox oy u u';binOp op T u u').run P w=.ok z w∧VRel φ T0 h v z:=by
 have guardI:∀ (op:BinOp) (a b:Value),(∀ cs ds,¬ (a=.agg cs∧b=.agg ds))→¬ (a=.nilIface∧b=.nilIface)→(eqGuard op T ox oy a b).run P w=.ok () w:=by
  intro op a b h1 h2
  unfold eqGuard
  cases op<;>simp<;>(split<;>first|rfl|(exact absurd ⟨rfl,rfl⟩ h2)|(exact absurd ⟨rfl,rfl⟩ (h1 _ _)))
 unfold binE at hE
 split at hE
 ·rename_i k p' k' q
  have e1:=rel_int rx;have e2:=rel_int ry
  rw [e1.1,e2.1]
  have hg:=guardI op (.int k p') (.int k' q) (fun _ _ h=>by cases h.1) (fun h=>by cases h.1)
  simp only [Sem.run_bind,hg,Result.andThen_ok]
  split at hE
  ·exact shI_run e1.2 hE hp T
  ·exact shI_run e1.2 hE hp T
  ·split at hE
   ·rename_i hk;subst hk;exact binI_run e1.2 hE hp T
   ·cases hE
 ·rename_i a b
  have e1:=rel_str rx;have e2:=rel_str ry
  rw [e1.1,e2.1]
  have hg:=guardI op (.string ⟨a.toArray⟩) (.string ⟨b.toArray⟩) (fun _ _ h=>by cases h.1) (fun h=>by cases h.1)
  simp only [Sem.run_bind,hg,Result.andThen_ok]
  exact binS_run hE hp T
 ·rename_i a b
  have e1:=rel_bool rx;have e2:=rel_bool ry
  rw [e1,e2]
  have hg:=guardI op (.bool a) (.bool b) (fun _ _ h=>by cases h.1) (fun h=>by cases h.1)
  simp only [Sem.run_bind,hg,Result.andThen_ok]
  split at hE
  ·split at hE
   ·rename_i hb
    simp only [Option.some.injEq,Prod.mk.injEq] at hE
    obtain ⟨_,rfl⟩:=hE
    have hu:P.underlying T=some .bool:=by unfold isBoolI at hb;split at hb<;>first|assumption|cases hb
    exact ⟨.bool (a == b),run_eql_bool a b w hu,mk_bool _⟩
   ·cases hE
  ·split at hE
   ·rename_i hb
    simp only [Option.some.injEq,Prod.mk.injEq] at hE
    obtain ⟨_,rfl⟩:=hE
    have hu:P.underlying T=some .bool:=by unfold isBoolI at hb;split at hb<;>first|assumption|cases hb
    exact ⟨.bool (a != b),run_neq_bool a b w hu,mk_bool _⟩
   ·cases hE
  ·cases hE
 ·rename_i xs ys
  obtain ⟨us,rfl,r1⟩:=rel_agg rx
  obtain ⟨ws,rfl,r2⟩:=rel_agg ry
  split at hE
  ·rename_i b he
   simp only [Option.some.injEq,Prod.mk.injEq] at hE
   obtain ⟨rfl,rfl⟩:=hE
   obtain ⟨e1,e2,e3⟩:=eqCells_vals _ _ _ _ _ he r1 r2
   have:=(hp us.toList ws.toList b ox oy w e2 e3 e1).1
   exact ⟨_,this,mk_bool _⟩
  ·rename_i b he
   simp only [Option.some.injEq,Prod.mk.injEq] at hE
   obtain ⟨rfl,rfl⟩:=hE
   obtain ⟨e1,e2,e3⟩:=eqCells_vals _ _ _ _ _ he r1 r2
   have:=(hp us.toList ws.toList b ox oy w e2 e3 e1).2
   exact ⟨_,this,mk_bool _⟩
  ·cases hE
 ·rename_i id idx off id' idx' off'
  split at hE
  ·split at hE
   ·rename_i hc
    obtain ⟨rfl,rfl,hc⟩:=hc
    simp only [Option.some.injEq,Prod.mk.injEq] at hE
    obtain ⟨_,rfl⟩:=hE
    simp only [VRel] at rx ry
    obtain ⟨β,b,q1,q2,q3⟩:=rx
    obtain ⟨β',b',k1,k2,k3⟩:=ry
    rw [q1] at k1;cases k1
    rw [q2] at k2;cases k2
    rw [q3,k3]
    have hg:=guardI .eql (.pointer (some ⟨b,β.off + idx * β.sz + off,none⟩)) (.pointer (some ⟨b,β.off + idx * β.sz + off',none⟩)) (fun _ _ h=>by cases h.1) (fun h=>by cases h.1)
    simp only [Sem.run_bind,hg,Result.andThen_ok]
    have e:decide (off=off')=decide (β.off + idx * β.sz + off=β.off + idx * β.sz + off'):=by
     rw [decide_eq_decide];omega
    rw [e]
    exact ⟨_,run_eql_ptr b _ _ w hc,mk_bool _⟩
   ·cases hE
  ·cases hE
 ·cases hE
theorem ok_bin {op:BinOp} {T T':TypeId} {x y:Operand} (ho:o.op=.binOp op T x y T')
  (h:evg g (σ.ev x) fun a=>evg g (σ.ev y) fun b=>withR (binE P op T a b) fun v=>K (rv v)):∃ r,OpOK P o g σ n r∧K r:=by
 obtain ⟨va,h,hx⟩:=evg_rel h
 obtain ⟨vb,h,hy⟩:=evg_rel h
 obtain ⟨p,v,hE,hp,hK⟩:=withR_inv h
 refine ⟨_,OpOK_val fun σ' hle B w0 Dm φ kp a w r hg=>?_,hK⟩
 obtain ⟨z,h1,h2⟩:=binE_run hE hp (hx _ _ _ _ hg (ev_le hle r x)) (hy _ _ _ _ hg (ev_le hle r y)) x y w
 refine ⟨z,?_,h2⟩
 unfold execOp
 simp only [ho,Sem.run_bind,h1,Result.andThen_ok]
 rfl
variable {P:Program} {o:Oper} {g:Bool} {σ:St} {n:Nat} {K:Res→Prop}
def unE (op:UnOp) (v:V):Option V:=
 match op,v with
 |.not,.d (.bool b)=>some (dB !b)
 |.neg,.d (.int k x)=>some (dI k (k.wrap (0 - x)))
 |_,_=>none
def withO (r:Option V) (K:V→Prop):Prop:=match r with|some v=>K v|none=>False
theorem withO_inv {r:Option V} {K:V→Prop} (h:withO r K):∃ v,r=some v∧K v:=by
 unfold withO at h;split at h
 ·exact ⟨_,rfl,h⟩
 ·exact h.elim
theorem ok_un {op:UnOp} {T:TypeId} {x:Operand} (ho:o.op=.unOp op T x) (h:evg g (σ.ev x) fun a=>withO (unE op a) fun v=>K (rv v)):∃ r,OpOK P o g σ n r∧K r:=by
 obtain ⟨va,h,hx⟩:=evg_rel h
 obtain ⟨v,hE,hK⟩:=withO_inv h
 refine ⟨_,OpOK_val fun σ' hle B w0 Dm φ kp a w r hg=>?_,hK⟩
 have rx:=hx _ _ _ _ hg (ev_le hle r x)
 unfold unE at hE
 split at hE
 ·cases hE;exact ⟨.bool _,by unfold execOp;rw [ho];simp [rel_bool rx,Op.unary],mk_bool _⟩
 ·cases hE;exact ⟨.int _ _,by unfold execOp;rw [ho];simp [(rel_int rx).1,Op.unary,Op.intArith],mk_int (wrap_range _ _)⟩
 ·cases hE
/-- The length of a value. -/
def lenE (P:Program) (T:TypeId) (v:V):Option Nat:=
 match v with
 |.d (.str s)=>if isStrI P T then some s.length else none
 |.d (.sl _ xs)=>if (elI P T).isSome then some xs.length else none
 |.nils _=>if (elI P T).isSome then some 0 else none
 |.sl _ _ len=>if (elI P T).isSome then some len else none
 |_=>none
theorem elI_some {T:TypeId} {e sz by_:Nat} (h:elI P T=some (e,sz,by_)):∃ i,P.underlying T=some (.slice e)∧P.info? e=some i∧i.size=sz∧i.bytes=by_:=by
 unfold elI at h
 split at h
 ·rename_i e' hu
  cases hi:P.info? e' with
  |none=>rw [hi] at h;cases h
  |some i=>
   rw [hi] at h
   simp only [Option.map_some,Option.some.injEq,Prod.mk.injEq] at h
   obtain ⟨rfl,rfl,rfl⟩:=h
   exact ⟨i,hu,hi,rfl,rfl⟩
 ·cases h
theorem isStrI_true {T:TypeId} (h:isStrI P T=true):P.underlying T=some .string:=by
 unfold isStrI at h;split at h<;>first|assumption|cases h
theorem intI_some {T:TypeId} {k:IntKind} (h:intI P T=some k):P.underlying T=some (.int k):=by
 unfold intI at h;split at h
 ·cases h;assumption
 ·cases h
theorem rel_sl {φ:Phi} {T:Nat→Prop} {h:Array Obj} {id off len:Nat} {u:Value} (r:VRel φ T h (.sl id off len) u) :
  ∃ β a c,φ id=some β∧u=.slice a len c∧len≤c∧c≤maxLen∧((c=0∧len=0∧off=β.cap)∨∃ b,β.blk=some b∧a=some ⟨b,β.off + off * β.sz,none⟩∧off + c=β.cap):=by
 simp only [VRel] at r
 obtain ⟨β,a,c,h1,h2,h3,h4⟩:=r
 rcases h4 with h4|⟨b,h4,h5,h6,h7⟩
 ·exact ⟨β,a,c,h1,h2,by omega,h3,.inl h4⟩
 ·exact ⟨β,a,c,h1,h2,h6,h3,.inr ⟨b,h4,h5,h7⟩⟩
theorem rel_dsl {φ:Phi} {T:Nat→Prop} {h:Array Obj} {sz:Nat} {xs:List (List D)} {u:Value} (r:VRel φ T h (.d (.sl sz xs)) u) :
  ∃ a c,u=.slice a xs.length c∧xs.length≤c∧c≤maxLen∧(xs=[]∨∃ b f G,a=some ⟨b,f,none⟩∧b < h.size∧T b∧repE h false b f sz xs G∧∀ g ∈ G,T g):=by
 simp only [VRel,rep] at r
 obtain ⟨F,⟨a,c,h1,h2,h3,h4⟩,hT⟩:=r
 refine ⟨a,c,h1,h2,h3,?_⟩
 rcases h4 with h4|⟨b,f,G,e1,e2,e3,e4,_⟩
 ·exact .inl h4.1
 ·subst e2
  exact .inr ⟨b,f,G,e1,e3,hT b (by simp),e4,fun g hg=>hT g (by simp [hg])⟩
theorem mk_len {φ:Phi} {T:Nat→Prop} {h:Array Obj} {m:Nat} (hm:m≤maxLen):VRel φ T h (dI .i64 m) (goInt m):=by
 refine mk_int ⟨?_,?_⟩
 ·have:IntKind.i64.min=-9223372036854775808:=by decide
  rw [this];omega
 ·have:IntKind.i64.max=9223372036854775807:=by decide
  rw [this];simp only [maxLen] at hm;omega
theorem ok_len {c:Call} {x:Operand} {T:TypeId} (ho:o.op=.call c) (hc:c={ callee:=.builtin .len,args:=#[x],argTypes:=#[T] })
  (h:evg g (σ.ev x) fun a=>match lenE P T a with|some m=>K (rv (dI .i64 m))|none=>False):∃ r,OpOK P o g σ n r∧K r:=by
 subst hc
 obtain ⟨va,h,hx⟩:=evg_rel h
 split at h
 ·rename_i m hm
  refine ⟨_,OpOK_val fun σ' hle B w0 Dm φ kp a w r hg=>?_,h⟩
  have rx:=hx _ _ _ _ hg (ev_le hle r x)
  have hs:∀ {e sz by_:Nat} {ad:Option Addr} {l cp:Nat},elI P T=some (e,sz,by_)→a.eval x=.slice ad l cp→(execOp a.eval o).run P w=.ok (.value (goInt l)) w:=by
   intro e sz by_ ad l cp he hu
   obtain ⟨i,hu',_⟩:=elI_some he
   unfold execOp;rw [ho]
   simp [resolve,invoke,builtin,Builtin.len_,run_underlying hu',hu]
  unfold lenE at hm
  split at hm
  ·split at hm
   ·rename_i s hs'
    cases hm
    have e1:=rel_str rx
    refine ⟨goInt s.length,?_,mk_len e1.2⟩
    unfold execOp;rw [ho]
    have:(⟨s.toArray⟩:ByteArray).size=s.length:=by simp [ByteArray.size]
    simp [resolve,invoke,builtin,Builtin.len_,run_underlying (isStrI_true hs'),e1.1,this]
   ·cases hm
  ·split at hm
   ·rename_i sz xs he
    cases hm
    obtain ⟨ad,cp,e1,e2,e3,_⟩:=rel_dsl rx
    obtain ⟨⟨e,s,by_⟩,he⟩:=Option.isSome_iff_exists.1 he
    exact ⟨_,hs he e1,mk_len (by omega)⟩
   ·cases hm
  ·split at hm
   ·rename_i sz he
    cases hm
    obtain ⟨⟨e,s,by_⟩,he⟩:=Option.isSome_iff_exists.1 he
    simp only [VRel] at rx
    exact ⟨_,hs he rx,mk_len (by decide)⟩
   ·cases hm
  ·split at hm
   ·rename_i id off len he
    cases hm
    obtain ⟨β,ad,cp,_,e1,e2,e3,_⟩:=rel_sl rx
    obtain ⟨⟨e,s,by_⟩,he⟩:=Option.isSome_iff_exists.1 he
    exact ⟨_,hs he e1,mk_len (by omega)⟩
   ·cases hm
  ·cases hm
 ·exact h.elim
def extE (v:V) (i:Nat):Option V:=match v with|.tup vs=>vs[i]?|_=>none
theorem ok_ext {x:Operand} {i:Nat} (ho:o.op=.extract x i) (h:evg g (σ.ev x) fun a=>withO (extE a i) fun v=>K (rv v)):∃ r,OpOK P o g σ n r∧K r:=by
 obtain ⟨va,h,hx⟩:=evg_rel h
 obtain ⟨v,hE,hK⟩:=withO_inv h
 refine ⟨_,OpOK_val fun σ' hle B w0 Dm φ kp a w r hg=>?_,hK⟩
 have rx:=hx _ _ _ _ hg (ev_le hle r x)
 unfold extE at hE
 split at hE
 ·simp only [VRel] at rx
  obtain ⟨us,e1,r1⟩:=rx
  obtain ⟨u,e2,r2⟩:=VRels_at _ _ r1 i v hE
  rw [Array.getElem?_toList] at e2
  exact ⟨u,by unfold execOp;rw [ho];simp [e1,Instr.extract,e2],r2⟩
 ·cases hE
def ptrE (v:V):Bool:=match v with|.ptr _ _ _|.rp _ _=>true|_=>false
theorem rel_ptrE {φ:Phi} {T:Nat→Prop} {h:Array Obj} {v:V} {u:Value} (hv:ptrE v=true) (r:VRel φ T h v u):∃ b f,u=.pointer (some ⟨b,f,none⟩):=by
 unfold ptrE at hv
 split at hv
 ·simp only [VRel] at r;obtain ⟨β,b,_,_,r⟩:=r;exact ⟨_,_,r⟩
 ·simp only [VRel] at r;obtain ⟨b,f,G,r,_⟩:=r;exact ⟨_,_,r⟩
 ·cases hv
theorem ok_nilCheck {x:Operand} (ho:o.op=.nilCheck x) (h:evg g (σ.ev x) fun a=>ptrE a=true∧K (rv a)):∃ r,OpOK P o g σ n r∧K r:=by
 obtain ⟨va,h,hx⟩:=evg_rel h
 refine ⟨_,OpOK_val fun σ' hle B w0 Dm φ kp a w r hg=>?_,h.2⟩
 have rx:=hx _ _ _ _ hg (ev_le hle r x)
 obtain ⟨b,f,e⟩:=rel_ptrE h.1 rx
 exact ⟨a.eval x,by unfold execOp;rw [ho];simp [e],rx⟩
def faE (P:Program) (S:TypeId) (f:Nat) (v:V):Option V:=
 match fdI P S f,v with
 |some d,.ptr id idx off=>some (.ptr id idx (off + d))
 |some d,.rp cells off=>some (.rp cells (off + d))
 |_,_=>none
theorem add_lit (b f m:Nat):(⟨b,f,none⟩:Addr).add m=⟨b,f + m,none⟩:=by
 unfold Addr.add;split<;>simp_all
theorem ok_fieldAddr {S:TypeId} {x:Operand} {f:Nat} (ho:o.op=.fieldAddr S x f) (h:evg g (σ.ev x) fun a=>withO (faE P S f a) fun v=>K (rv v)):∃ r,OpOK P o g σ n r∧K r:=by
 obtain ⟨va,h,hx⟩:=evg_rel h
 obtain ⟨v,hE,hK⟩:=withO_inv h
 refine ⟨_,OpOK_val fun σ' hle B w0 Dm φ kp a w r hg=>?_,hK⟩
 have rx:=hx _ _ _ _ hg (ev_le hle r x)
 unfold faE at hE
 have key:∀ {d b p:Nat},fdI P S f=some d→a.eval x=.pointer (some ⟨b,p,none⟩)→(execOp a.eval o).run P w=.ok (.value (.pointer (some ⟨b,p + d,none⟩))) w:=by
  intro d b p hd hu
  unfold fdI at hd
  split at hd
  ·rename_i fs hS
   split at hd
   ·rename_i fd hfd
    split at hd
    ·rename_i i hi
     split at hd
     ·cases hd
     ·rename_i hz
      cases hd
      unfold execOp;rw [ho]
      have h1:(Go.sizeOf fd.type).run P w=Result.ok i.size w:=by simp [Go.sizeOf,typeInfo,hi]
      simp [Instr.fieldAt,run_underlying hS,hfd,hu,Instr.sureAddr,fieldPlace,h1,hz,add_lit]
    ·cases hd
   ·cases hd
  ·cases hd
 split at hE
 ·rename_i d id idx off hd
  cases hE
  simp only [VRel] at rx
  obtain ⟨β,b,e1,e2,e3⟩:=rx
  exact ⟨_,key hd e3,by simp only [VRel];exact ⟨β,b,e1,e2,by simp [Nat.add_assoc]⟩⟩
 ·rename_i d cells off hd
  cases hE
  simp only [VRel] at rx
  obtain ⟨b,p,G,e1,e2⟩:=rx
  exact ⟨_,key hd e1,by simp only [VRel];exact ⟨b,p,G,by simp [Nat.add_assoc],e2⟩⟩
 ·cases hE
variable {P:Program} {o:Oper} {g:Bool} {σ:St} {n:Nat} {K:Res→Prop}
/-- The elements of an entry, if it is an array. -/
def H.els:H→Option (Nat×List (List D))
 |.arr sz xs _=>some (sz,xs)
 |.ro sz xs=>some (sz,xs)
 |_=>none
/-- The size of an array's elements. -/
def H.esz:H→Option Nat
 |.arr sz _ _=>some sz
 |.ro sz _=>some sz
 |.cln sz _=>some sz
 |.win sz _ _ _=>some sz
 |_=>none
/-- The address of an element. -/
def iaE (P:Program) (hs:List H) (T:TypeId) (x:V) (i:Int):Option (Prop×V):=
 match x with
 |.sl id off len=>
  match elI P T,(hget hs id).esz with
  |some (_,sz,_),some sz'=>if sz=sz' then some (0≤i∧i < len,.ptr id (off + i.toNat) 0) else none
  |some (_,sz,_),none=>match hget hs id with|.box _=>if sz=1∧off=0 then some (0≤i∧i < len,.ptr id 0 i.toNat) else none|_=>none
  |_,_=>none
 |.d (.sl sz' xs)=>
  match elI P T with
  |some (_,sz,_)=>if sz=sz' then some (0≤i∧i.toNat < xs.length,.rp ((xs[i.toNat]?).getD []) 0) else none
  |none=>none
 |.ptr id idx off=>
  match arI P T with
  |some (len,sz)=>some (0≤i∧i < len,.ptr id idx (off + i.toNat * sz))
  |none=>none
 |.rp cells off=>
  match arI P T with
  |some (len,sz)=>some (0≤i∧i < len,.rp cells (off + i.toNat * sz))
  |none=>none
 |_=>none
theorem els_sz {φ:Phi} {T:Nat→Prop} {h:Array Obj} {β:Blk} {x:H} {sz:Nat} {xs:List (List D)} (he:x.els=some (sz,xs)) (r:HRel φ T h β x):β.sz=sz:=by
 cases x<;>simp only [H.els,reduceCtorEq,Option.some.injEq,Prod.mk.injEq] at he
 ·simp only [HRel] at r;rw [r.1,he.1]
 ·simp only [HRel] at r;rw [r.1,he.1]
theorem esz_sz {φ:Phi} {T:Nat→Prop} {h:Array Obj} {β:Blk} {x:H} {sz:Nat} (he:x.esz=some sz) (r:HRel φ T h β x):β.sz=sz:=by
 cases x<;>simp only [H.esz,reduceCtorEq,Option.some.injEq] at he<;>(simp only [HRel] at r;rw [r.1,he])
theorem esz_le {σ σ':St} (hle:σ.le σ') {id:Nat} {p:Nat} (he:(hget σ.heap id).esz=some p):(hget σ'.heap id).esz=some p:=by
 rcases hle.2 id with h|h
 ·rw [h] at he;cases he
 ·rw [h];exact he
theorem heap_rel' {B:Nat→Prop} {w0:World} {Dm:Nat→Prop} {φ:Phi} {kp:List (V×Value)} {a:Act} {w:World} {σ:St} (r:R B w0 Dm φ σ kp a w) {id:Nat} {p:Nat} (he:(hget σ.heap id).esz=some p) :
  ∃ β,φ id=some β∧HRel φ (NotTop φ σ.heap) w.heap β (hget σ.heap id):=by
 rcases r.hp id with h|h
 ·rw [h] at he;cases he
 ·exact h
theorem els_le {σ σ':St} (hle:σ.le σ') {id:Nat} {p:Nat×List (List D)} (he:(hget σ.heap id).els=some p):(hget σ'.heap id).els=some p:=by
 rcases hle.2 id with h|h
 ·rw [h] at he;cases he
 ·rw [h];exact he
theorem heap_rel {B:Nat→Prop} {w0:World} {Dm:Nat→Prop} {φ:Phi} {kp:List (V×Value)} {a:Act} {w:World} {σ:St} (r:R B w0 Dm φ σ kp a w) {id:Nat} {p:Nat×List (List D)} (he:(hget σ.heap id).els=some p) :
  ∃ β,φ id=some β∧HRel φ (NotTop φ σ.heap) w.heap β (hget σ.heap id):=by
 rcases r.hp id with h|h
 ·rw [h] at he;cases he
 ·exact h
theorem arI_some {T:TypeId} {l sz:Nat} (h:arI P T=some (l,sz)):∃ e i,P.underlying T=some (.array l e)∧P.info? e=some i∧i.size=sz:=by
 unfold arI at h
 split at h
 ·rename_i n' e' hu
  cases hi:P.info? e' with
  |none=>rw [hi] at h;cases h
  |some i=>
   rw [hi] at h
   simp only [Option.map_some,Option.some.injEq,Prod.mk.injEq] at h
   obtain ⟨rfl,rfl⟩:=h
   exact ⟨e',i,hu,hi,rfl⟩
 ·cases h
theorem ok_indexAddr {T:TypeId} {x ix:Operand} (ho:o.op=.indexAddr T x ix)
  (h:evg g (σ.ev x) fun a=>evg g (σ.ev ix) fun b=>asI b fun _ i=>withR (iaE P σ.heap T a i) fun v=>K (rv v)):∃ r,OpOK P o g σ n r∧K r:=by
 obtain ⟨va,h,hx⟩:=evg_rel h
 obtain ⟨vb,h,hy⟩:=evg_rel h
 obtain ⟨k,i,rfl,h⟩:=asI_inv h
 obtain ⟨p,v,hE,hp,hK⟩:=withR_inv h
 refine ⟨_,OpOK_val fun σ' hle B w0 Dm φ kp a w r hg=>?_,hK⟩
 have rx:=hx _ _ _ _ hg (ev_le hle r x)
 have ry:=rel_int (hy _ _ _ _ hg (ev_le hle r ix))
 have slice:∀ {e sz by_:Nat} {b f len cp:Nat},elI P T=some (e,sz,by_)→a.eval x=.slice (some ⟨b,f,none⟩) len cp→0≤i→i < len→
   (execOp a.eval o).run P w=.ok (.value (.pointer (some ⟨b,f + i.toNat * sz,none⟩))) w:=by
  intro e sz by_ b f len cp he hu h0 h1
  obtain ⟨inf,hu',hi,hs,_⟩:=elI_some he
  unfold execOp;rw [ho]
  have hsz:(Go.sizeOf e).run P w=Result.ok sz w:=by simp [Go.sizeOf,typeInfo,hi,hs]
  simp [Instr.indexAt,run_underlying hu',hu,ry.1,asIntOf,h0,h1,hsz,add_lit]
 have array:∀ {l sz b f:Nat},arI P T=some (l,sz)→a.eval x=.pointer (some ⟨b,f,none⟩)→0≤i→i < l→(execOp a.eval o).run P w=.ok (.value (.pointer (some ⟨b,f + i.toNat * sz,none⟩))) w:=by
  intro l sz b f he hu h0 h1
  obtain ⟨e,inf,hu',hi,hs⟩:=arI_some he
  unfold execOp;rw [ho]
  have hsz:(Go.sizeOf e).run P w=Result.ok sz w:=by simp [Go.sizeOf,typeInfo,hi,hs]
  simp [Instr.indexAt,run_underlying hu',hu,ry.1,asIntOf,h0,h1,hsz,add_lit,Instr.sureAddr]
 unfold iaE at hE
 split at hE
 ·rename_i id off len
  split at hE
  ·rename_i e sz by_ sz' he hel
   split at hE
   ·rename_i hsz;subst hsz
    simp only [Option.some.injEq,Prod.mk.injEq] at hE
    obtain ⟨rfl,rfl⟩:=hE
    obtain ⟨β,ad,c,e1,e2,e3,e4,e5⟩:=rel_sl rx
    obtain ⟨β',e1',hr⟩:=heap_rel' r (esz_le hle hel)
    rw [e1] at e1';cases e1'
    have hs:=esz_sz (esz_le hle hel) hr
    rcases e5 with e5|⟨b,e5,e6,e7⟩
    ·have:=hp.2;omega
    ·subst e6
     refine ⟨_,slice he e2 hp.1 hp.2,?_⟩
     simp only [VRel]
     refine ⟨β,b,e1,e5,?_⟩
     rw [hs,Nat.add_mul];simp [Nat.add_assoc]
   ·cases hE
  ·rename_i e sz by_ he hnone
   split at hE
   ·rename_i cells hbox
    split at hE
    ·rename_i hc
     obtain ⟨rfl,rfl⟩:=hc
     simp only [Option.some.injEq,Prod.mk.injEq] at hE
     obtain ⟨rfl,rfl⟩:=hE
     obtain ⟨β,ad,c,e1,e2,e3,e4,e5⟩:=rel_sl rx
     rcases e5 with e5|⟨b,e5,e6,e7⟩
     ·have:=hp.2;omega
     ·subst e6
      refine ⟨_,slice he e2 hp.1 hp.2,?_⟩
      simp only [VRel]
      exact ⟨β,b,e1,e5,by simp⟩
    ·cases hE
   ·cases hE
  ·cases hE
 ·rename_i sz' xs
  split at hE
  ·rename_i e sz by_ he
   split at hE
   ·rename_i hsz;subst hsz
    simp only [Option.some.injEq,Prod.mk.injEq] at hE
    obtain ⟨rfl,rfl⟩:=hE
    obtain ⟨ad,c,e1,e2,e3,e4⟩:=rel_dsl rx
    rcases e4 with e4|⟨b,f,G,e4,e5,e6,e7,e8⟩
    ·subst e4;simp at hp
    ·subst e4
     have hlt:=hp.2
     obtain ⟨G1,Gi,G2,rfl,k1,_,k2,_⟩:=repE_at e7 (List.getElem?_eq_getElem hlt)
     refine ⟨_,slice he e1 hp.1 (by omega),?_⟩
     simp only [VRel]
     refine ⟨b,f + i.toNat * sz,Gi,by simp,e5,e6,?_,fun g hg=>e8 g (by simp [hg])⟩
     rw [List.getElem?_eq_getElem hlt];exact k2
   ·cases hE
  ·cases hE
 ·rename_i id idx off
  split at hE
  ·rename_i len sz he
   simp only [Option.some.injEq,Prod.mk.injEq] at hE
   obtain ⟨rfl,rfl⟩:=hE
   simp only [VRel] at rx
   obtain ⟨β,b,e1,e2,e3⟩:=rx
   exact ⟨_,array he e3 hp.1 hp.2,by simp only [VRel];exact ⟨β,b,e1,e2,by simp [Nat.add_assoc]⟩⟩
  ·cases hE
 ·rename_i cells off
  split at hE
  ·rename_i len sz he
   simp only [Option.some.injEq,Prod.mk.injEq] at hE
   obtain ⟨rfl,rfl⟩:=hE
   simp only [VRel] at rx
   obtain ⟨b,f,G,e1,e2⟩:=rx
   exact ⟨_,array he e1 hp.1 hp.2,by simp only [VRel];exact ⟨b,f,G,by simp [Nat.add_assoc],e2⟩⟩
  ·cases hE
 ·cases hE
def mkV (ag:Bool) (vs:List V):V:=if ag then .agg vs else vs.headD .junk
def loadE (P:Program) (hs:List H) (T:TypeId) (x:V):Option (Prop×V):=
 match tyI P T,x with
 |some (sz,ag),.ptr id idx off=>
  match hget hs id with
  |.box cells=>some (idx=0∧off + sz≤cells.length∧(ag=false→sz=1),mkV ag ((cells.drop off).take sz))
  |.arr _ xs _=>some (idx < xs.length∧off + sz≤((xs[idx]?).getD []).length∧(ag=false→sz=1),mkV ag (((((xs[idx]?).getD []).drop off).take sz).map V.d))
  |.ro _ xs=>some (idx < xs.length∧off + sz≤((xs[idx]?).getD []).length∧(ag=false→sz=1),mkV ag (((((xs[idx]?).getD []).drop off).take sz).map V.d))
  |.win _ pre cells _=>some (idx=pre.length∧off + sz≤cells.length∧(ag=false→sz=1),mkV ag ((cells.drop off).take sz))
  |_=>none
 |some (sz,ag),.rp cells off=>some (off + sz≤cells.length∧(ag=false→sz=1),mkV ag (((cells.drop off).take sz).map V.d))
 |_,_=>none
theorem tyI_some {T:TypeId} {sz:Nat} {ag:Bool} (h:tyI P T=some (sz,ag)):∃ i,P.info? T=some i∧i.size=sz∧∀ w,(isAgg T).run P w=.ok ag w:=by
 unfold tyI at h
 split at h
 ·rename_i i d h1 h2
  simp only [Option.some.injEq,Prod.mk.injEq] at h
  obtain ⟨rfl,rfl⟩:=h
  refine ⟨i,h1,rfl,fun w=>?_⟩
  unfold isAgg
  simp only [Sem.run_bind,run_underlying h2,Result.andThen_ok]
  cases d<;>rfl
 ·cases h
/-- Cells at a place, loaded as a variable of a type. -/
theorem run_load {T:TypeId} {sz:Nat} {ag:Bool} (h:tyI P T=some (sz,ag)) {w:World} {b f:Nat} {us:List Value} (hl:us.length=sz) (h1:ag=false→sz=1) (hc:∀ (j:Nat) (u:Value),us[j]?=some u→cellAt w.heap b (f + j)=some u) :
  (loadVar T ⟨b,f,none⟩).run P w=.ok (if ag then .agg us.toArray else us.headD undef) w:=by
 obtain ⟨i,hi,hs,hag⟩:=tyI_some h
 unfold loadVar
 simp only [Sem.run_bind,hag,Result.andThen_ok]
 cases ag with
 |true=>
  have:=run_loadCells_list (P:=P) w ⟨b,f,none⟩ us (fun j v hj=>by rw [add_lit,cell_eq];exact hc j v hj)
  simp [Go.sizeOf,typeInfo,hi,hs,← hl,this]
 |false=>
  have hsz:=h1 rfl
  match us,hl,hsz with
  |[u],_,_=>
   have h0:=hc 0 u rfl
   rw [Nat.add_zero,← cell_eq] at h0
   simp [h0]
theorem mkV_rel {φ:Phi} {T:Nat→Prop} {h:Array Obj} {ag:Bool} {vs:List V} {us:List Value} {sz:Nat} (hl:us.length=sz) (h1:ag=false→sz=1) (r:VRels φ T h vs us) :
  VRel φ T h (mkV ag vs) (if ag then .agg us.toArray else us.headD undef):=by
 cases ag with
 |true=>simp only [mkV,if_true,VRel];exact ⟨us.toArray,rfl,r⟩
 |false=>
  have hsz:=h1 rfl
  match us,hl,hsz with
  |[u],_,_=>
   cases vs with
   |nil=>simp only [VRels] at r;cases r
   |cons v vs=>
    simp only [VRels] at r
    obtain ⟨u',us',e,r1,r2⟩:=r
    cases e
    simpa [mkV] using r1
theorem repC_VRels {φ:Phi} {T:Nat→Prop} {h:Array Obj} {b:Nat}:∀ (ds:List D) (f:Nat) (G:List Nat),repC h false b f ds G→(∀ g ∈ G,T g)→∃ us:List Value,us.length=ds.length∧VRels φ T h (ds.map V.d) us∧∀ (j:Nat) (u:Value),us[j]?=some u→cellAt h b (f + j)=some u
 |[],_,_,_,_=>⟨[],rfl,by simp [VRels],by simp⟩
 |d::ds,f,G,r,hT=>by
  simp only [repC] at r
  obtain ⟨v,G1,G2,rfl,e2,e3,e4⟩:=r
  obtain ⟨us,k1,k2,k3⟩:=repC_VRels ds (f + 1) G2 e4 (fun g hg=>hT g (by simp [hg]))
  refine ⟨v::us,by simp [k1],?_,fun j u hj=>?_⟩
  ·simp only [List.map_cons,VRels,VRel]
   exact ⟨v,us,rfl,⟨G1,e3,fun g hg=>hT g (by simp [hg])⟩,k2⟩
  ·cases j with
   |zero=>simp at hj;subst hj;simpa using e2
   |succ j=>rw [show f + (j + 1)=f + 1 + j from by omega];exact k3 j u (by simpa using hj)
theorem cells_window {h:Array Obj} {b f:Nat} {us:List Value} (hc:∀ (j:Nat) (u:Value),us[j]?=some u→cellAt h b (f + j)=some u) (off sz:Nat) :
  ∀ (j:Nat) (u:Value),((us.drop off).take sz)[j]?=some u→cellAt h b (f + off + j)=some u:=by
 intro j u hj
 rw [List.getElem?_take] at hj
 split at hj
 ·rw [List.getElem?_drop] at hj
  rw [Nat.add_assoc];exact hc _ _ hj
 ·cases hj
/-- What an array's entry says of one element (owned or not): readable cells. -/
theorem els_cells {B:Nat→Prop} {w0:World} {Dm:Nat→Prop} {φ:Phi} {kp:List (V×Value)} {a:Act} {w:World} {σ:St} (r:R B w0 Dm φ σ kp a w) {id:Nat} {sz:Nat} {xs:List (List D)} (he:(hget σ.heap id).els=some (sz,xs))
  {β:Blk} (hb:φ id=some β) {idx:Nat} (hi:idx < xs.length):∃ b,β.blk=some b∧∃ us:List Value,us.length=((xs[idx]?).getD []).length∧VRels φ (NotTop φ σ.heap) w.heap (((xs[idx]?).getD []).map V.d) us ∧
   ∀ (j:Nat) (u:Value),us[j]?=some u→cellAt w.heap b (β.off + idx * β.sz + j)=some u:=by
 obtain ⟨β',e1,hr⟩:=heap_rel r he
 rw [hb] at e1;cases e1
 have hsz:=els_sz he hr
 have hge:xs[idx]?=some xs[idx]:=List.getElem?_eq_getElem hi
 rw [hge]
 cases hx:hget σ.heap id with
 |dead=>rw [hx] at he;cases he
 |box cells=>rw [hx] at he;cases he
 |cln _ _=>rw [hx] at he;cases he
 |win _ _ _ _=>rw [hx] at he;cases he
 |arr sz' xs' nf=>
  rw [hx] at he hr
  simp only [H.els,Option.some.injEq,Prod.mk.injEq] at he
  obtain ⟨rfl,rfl⟩:=he
  simp only [HRel] at hr
  rcases hr.2 with hr|⟨b,G,r1,r2,r3,r4,r5,r6⟩
  ·rw [hr.2.1] at hi;simp at hi
  ·obtain ⟨G1,Gi,G2,rfl,k1,_,k2,_⟩:=repE_at r4 hge
   have hT:∀ g ∈ Gi,NotTop φ σ.heap g:=by
    intro g hg
    cases nf with
    |true=>exact notTop_of_nest r hb (by rw [hx];rfl) (by rw [hx];rfl) (by rw [← r5 rfl];simp [hg])
    |false=>exact r6 rfl g (by simp [hg])
   have k2':repC w.heap false b (β.off + idx * sz') (xs'[idx]) Gi:=by
    cases nf with
    |true=>exact repC_false _ _ _ _ k2
    |false=>exact k2
   obtain ⟨us,u1,u2,u3⟩:=repC_VRels (φ:=φ) _ _ _ k2' hT
   exact ⟨b,r1,us,u1,u2,by rw [hsz];exact u3⟩
 |ro sz' xs'=>
  rw [hx] at he hr
  simp only [H.els,Option.some.injEq,Prod.mk.injEq] at he
  obtain ⟨rfl,rfl⟩:=he
  simp only [HRel] at hr
  rcases hr.2 with hr|⟨b,G,r1,r2,r3,r4,r5⟩
  ·rw [hr] at hi;simp at hi
  ·obtain ⟨G1,Gi,G2,rfl,k1,_,k2,_⟩:=repE_at r4 hge
   obtain ⟨us,u1,u2,u3⟩:=repC_VRels (φ:=φ) _ _ _ k2 (fun g hg=>r5 g (by simp [hg]))
   exact ⟨b,r1,us,u1,u2,by rw [hsz];exact u3⟩
theorem load_core {T:TypeId} {B:Nat→Prop} {w0:World} {Dm:Nat→Prop} {φ:Phi} {kp:List (V×Value)} {a:Act} {w:World} {σ σ':St} (hle:σ.le σ') (r:R B w0 Dm φ σ' kp a w) {va v:V} {p:Prop} (hE:loadE P σ.heap T va=some (p,v)) (hp:p)
  {ux:Value} (rx:VRel φ (NotTop φ σ'.heap) w.heap va ux):∃ b f u,ux=.pointer (some ⟨b,f,none⟩)∧(loadVar T ⟨b,f,none⟩).run P w=.ok u w∧VRel φ (NotTop φ σ'.heap) w.heap v u:=by
 have fin:∀ {sz:Nat} {ag:Bool} {b f off:Nat} {vs:List V} {us:List Value},tyI P T=some (sz,ag)→(ag=false→sz=1)→off + sz≤us.length→VRels φ (NotTop φ σ'.heap) w.heap vs us→
   (∀ (j:Nat) (u:Value),us[j]?=some u→cellAt w.heap b (f + j)=some u)→ux=.pointer (some ⟨b,f + off,none⟩)→
   ∃ b f u,ux=.pointer (some ⟨b,f,none⟩)∧(loadVar T ⟨b,f,none⟩).run P w=.ok u w∧VRel φ (NotTop φ σ'.heap) w.heap (mkV ag ((vs.drop off).take sz)) u:=by
  intro sz ag b f off vs us hty h1 hle' hv hc hu
  have hl:((us.drop off).take sz).length=sz:=by simp;omega
  refine ⟨_,_,_,hu,run_load hty hl h1 (cells_window hc off sz),?_⟩
  exact mkV_rel hl h1 (VRels_take (VRels_drop hv off) sz)
 unfold loadE at hE
 split at hE
 ·rename_i sz ag id idx off hty
  simp only [VRel] at rx
  obtain ⟨β,b,e1,e2,e3⟩:=rx
  have hh:=hle.2 id
  split at hE
  ·rename_i cells hc
   simp only [Option.some.injEq,Prod.mk.injEq] at hE
   obtain ⟨rfl,rfl⟩:=hE
   have hc':hget σ'.heap id=.box cells:=by
    rcases hh with hh|hh
    ·rw [hc] at hh;cases hh
    ·rw [hh,hc]
   rcases r.hp id with hd|⟨β',e1',hr⟩
   ·rw [hc'] at hd;cases hd
   ·rw [e1] at e1';cases e1'
    rw [hc'] at hr;simp only [HRel] at hr
    obtain ⟨b',cs,t,r1,r2,r3,r4⟩:=hr
    rw [e2] at r1;cases r1
    obtain ⟨p1,p2,p3⟩:=hp
    have hlen:=VRels_len _ _ r4
    refine fin (b:=b) (f:=0) hty p3 (by rw [hlen];exact p2) r4 (fun j u hj=>?_) (by rw [e3,p1,r2];simp)
    unfold cellAt;rw [r3];simpa using hj
  ·rename_i sz' xs nf hc
   simp only [Option.some.injEq,Prod.mk.injEq] at hE
   obtain ⟨rfl,rfl⟩:=hE
   have hc':(hget σ'.heap id).els=some (sz',xs):=els_le hle (by rw [hc];rfl)
   obtain ⟨p1,p2,p3⟩:=hp
   obtain ⟨b',k1,us,k2,k3,k4⟩:=els_cells r hc' e1 p1
   rw [e2] at k1;cases k1
   have:=fin (b:=b) (f:=β.off + idx * β.sz) hty p3 (by rw [k2];exact p2) k3 k4 e3
   rw [List.map_take,List.map_drop];exact this
  ·rename_i sz' xs hc
   simp only [Option.some.injEq,Prod.mk.injEq] at hE
   obtain ⟨rfl,rfl⟩:=hE
   have hc':(hget σ'.heap id).els=some (sz',xs):=els_le hle (by rw [hc];rfl)
   obtain ⟨p1,p2,p3⟩:=hp
   obtain ⟨b',k1,us,k2,k3,k4⟩:=els_cells r hc' e1 p1
   rw [e2] at k1;cases k1
   have:=fin (b:=b) (f:=β.off + idx * β.sz) hty p3 (by rw [k2];exact p2) k3 k4 e3
   rw [List.map_take,List.map_drop];exact this
  ·rename_i sz' pre cells post hc
   simp only [Option.some.injEq,Prod.mk.injEq] at hE
   obtain ⟨rfl,rfl⟩:=hE
   have hc':hget σ'.heap id=.win sz' pre cells post:=by
    rcases hh with hh|hh
    ·rw [hc] at hh;cases hh
    ·rw [hh,hc]
   rcases r.hp id with hd|⟨β',e1',hr⟩
   ·rw [hc'] at hd;cases hd
   ·rw [e1] at e1';cases e1'
    rw [hc'] at hr;simp only [HRel] at hr
    obtain ⟨hs,hcl,b',G1,G2,us,r1,r2,r3,r4,r5,r6,r7,r8⟩:=hr
    rw [e2] at r1;cases r1
    obtain ⟨p1,p2,p3⟩:=hp
    have hlen:=VRels_len _ _ r6
    exact fin (b:=b) (f:=β.off + pre.length * sz') hty p3 (by rw [hlen];exact p2) r6 r7 (by rw [e3,p1,hs])
  ·cases hE
 ·rename_i sz ag cells off hty
  simp only [Option.some.injEq,Prod.mk.injEq] at hE
  obtain ⟨rfl,rfl⟩:=hE
  simp only [VRel] at rx
  obtain ⟨b,f,G,e1,e2,e3,e4,e5⟩:=rx
  obtain ⟨us,u1,u2,u3⟩:=repC_VRels (φ:=φ) _ _ _ e4 e5
  have:=fin (b:=b) (f:=f) hty hp.2 (by rw [u1];exact hp.1) u2 u3 e1
  rw [List.map_take,List.map_drop];exact this
 ·cases hE
theorem ok_load {T:TypeId} {x:Operand} (ho:o.op=.load T x) (h:evg g (σ.ev x) fun a=>withR (loadE P σ.heap T a) fun v=>K (rv v)):∃ r,OpOK P o g σ n r∧K r:=by
 obtain ⟨va,h,hx⟩:=evg_rel h
 obtain ⟨p,v,hE,hp,hK⟩:=withR_inv h
 refine ⟨_,OpOK_val fun σ' hle B w0 Dm φ kp a w r hg=>?_,hK⟩
 obtain ⟨b,f,u,hu,hl,hv⟩:=load_core hle r hE hp (hx _ _ _ _ hg (ev_le hle r x))
 refine ⟨u,?_,hv⟩
 unfold execOp;rw [ho]
 simp [Instr.loadAt,hu,Instr.sureAddr,hl]
variable {P:Program} {o:Oper} {g:Bool} {σ:St} {n:Nat} {K:Res→Prop}
def ixE (P:Program) (T:TypeId) (x:V) (i:Int):Option (Prop×V):=
 match x with
 |.d (.str s)=>if isStrI P T then some (0≤i∧i.toNat < s.length,dI .u8 ((s[i.toNat]?).getD 0).toNat) else none
 |.agg vs=>
  match P.underlying T with
  |some (.array len e)=>if tyI P e=some (1,false) then some (0≤i∧i < len∧i.toNat < vs.length,(vs[i.toNat]?).getD .junk) else none
  |_=>none
 |_=>none
theorem u8_range (b:UInt8):IntKind.u8.min≤(b.toNat:Int)∧(b.toNat:Int)≤IntKind.u8.max:=by
 have h:=b.toNat_lt
 have h1:IntKind.u8.min=0:=by decide
 have h2:IntKind.u8.max=255:=by decide
 rw [h1,h2];omega
theorem ok_index {T:TypeId} {x ix:Operand} (ho:o.op=.index T x ix)
  (h:evg g (σ.ev x) fun a=>evg g (σ.ev ix) fun b=>asI b fun _ i=>withR (ixE P T a i) fun v=>K (rv v)):∃ r,OpOK P o g σ n r∧K r:=by
 obtain ⟨va,h1,hx⟩:=evg_rel h
 obtain ⟨vb,h2,hy⟩:=evg_rel h1
 obtain ⟨k,i,rfl,h3⟩:=asI_inv h2
 obtain ⟨p,v,hE,hp,hK⟩:=withR_inv h3
 clear h h1 h2 h3
 refine ⟨_,OpOK_val fun σ' hle B w0 Dm φ kp a w r hg=>?_,hK⟩
 have rx:=hx _ _ _ _ hg (ev_le hle r x)
 have ry:=rel_int (hy _ _ _ _ hg (ev_le hle r ix))
 unfold ixE at hE
 split at hE
 ·rename_i s
  split at hE
  ·rename_i hs
   simp only [Option.some.injEq,Prod.mk.injEq] at hE
   obtain ⟨rfl,rfl⟩:=hE
   have e1:=rel_str rx
   have hlt:=hp.2
   refine ⟨.int .u8 (s[i.toNat]'hlt).toNat,?_,?_⟩
   ·unfold execOp;rw [ho]
    have hb:(⟨s.toArray⟩:ByteArray)[i.toNat]?=some (s[i.toNat]'hlt):=by
     have hsz:i.toNat < (⟨s.toArray⟩:ByteArray).size:=by simpa [ByteArray.size] using hlt
     rw [getElem?_pos (⟨s.toArray⟩:ByteArray) i.toNat hsz];rfl
    simp [Instr.index,run_underlying (isStrI_true hs),e1.1,ry.1,asIntOf,hp.1,hb]
   ·rw [List.getElem?_eq_getElem hlt];exact mk_int (u8_range _)
  ·cases hE
 ·rename_i vs
  split at hE
  ·rename_i len e hu
   split at hE
   ·rename_i hty
    simp only [Option.some.injEq,Prod.mk.injEq] at hE
    obtain ⟨rfl,rfl⟩:=hE
    obtain ⟨us,e1,r1⟩:=rel_agg rx
    have hlt:=hp.2.2
    obtain ⟨u,u1,u2⟩:=VRels_at _ _ r1 i.toNat _ (List.getElem?_eq_getElem hlt)
    refine ⟨u,?_,by rw [List.getElem?_eq_getElem hlt];exact u2⟩
    obtain ⟨inf,hi,hs,hag⟩:=tyI_some hty
    unfold execOp;rw [ho]
    rw [Array.getElem?_toList] at u1
    simp [Instr.index,run_underlying hu,e1,ry.1,asIntOf,hp.1,hp.2.1,part,hag,Go.sizeOf,typeInfo,hi,hs,u1]
   ·cases hE
  ·cases hE
 ·cases hE
theorem run_sliceBounds (isS:Bool) (len cap:Nat) (lo hi:Option Value) (l h:Nat) (w:World) (hl:lo=none∧l=0∨∃ k,lo=some (.int k l)) (hh:hi=none∧h=len∨∃ k,hi=some (.int k h))
  (h1:l≤h) (h2:h≤cap):(Instr.sliceBounds isS len cap lo hi none).run P w=.ok (l,h,cap) w:=by
 have sb:∀ (k:IntKind) (x y:Nat) (c:BoundsCode),x≤y→(Instr.sliceBound (.int k x) y c).run P w=.ok x w:=by
  intro k x y c hxy
  simp [Instr.sliceBound,asIntOf,hxy]
 unfold Instr.sliceBounds
 rcases hl with ⟨rfl,rfl⟩|⟨k,rfl⟩<;>rcases hh with ⟨rfl,rfl⟩|⟨k',rfl⟩
 ·simp
 ·simp [sb _ _ _ _ h2]
 ·simp [sb _ _ _ _ h1]
 ·simp [sb _ _ _ _ h2,sb _ _ _ _ h1]
/-- How far an array reaches beyond a slice's end. -/
def reachE (x:H) (k:Nat):Prop:=match x with|.arr _ xs true=>k≤xs.length|_=>False
/-- A cut from l up to h. -/
def cutE (P:Program) (hs:List H) (T:TypeId) (x:V) (l h:Nat):Option (Prop×V):=
 match x with
 |.d (.str s)=>if isStrI P T then some (l≤h∧h≤s.length,dS ((s.drop l).take (h - l))) else none
 |.sl id off len=>
  match elI P T,(hget hs id).els with
  |some (_,sz,_),some (sz',_)=>if sz=sz' then some (l≤h∧(h≤len∨reachE (hget hs id) (off + h)),.sl id (off + l) (h - l)) else none
  |_,_=>none
 |.d (.sl sz' xs)=>
  match elI P T with
  |some (_,sz,_)=>if sz=sz' then some (l≤h∧h≤xs.length,.d (.sl sz' ((xs.drop l).take (h - l)))) else none
  |none=>none
 |.nils s=>if (elI P T).isSome then some (l=0∧h=0,.nils s) else none
 |_=>none
def lenOfV (x:V):Nat:=match x with|.d (.str s)=>s.length|.d (.sl _ xs)=>xs.length|.sl _ _ len=>len|_=>0
/-- The bounds: written, or left out. -/
def bndE (g:Bool) (σ:St) (d:Nat) (x:Option Operand) (K:Nat→Prop):Prop:=
 match x with
 |none=>K d
 |some x=>evg g (σ.ev x) fun v=>asI v fun _ i=>0≤i∧K i.toNat
theorem bndE_inv {d:Nat} {x:Option Operand} {K:Nat→Prop} (h:bndE g σ d x K):∃ l:Nat,K l∧∀ {σ':St} {B:Nat→Prop} {w0:World} {Dm:Nat→Prop} {φ:Phi} {kp:List (V×Value)} {a:Act} {w:World},σ.le σ'→R B w0 Dm φ σ' kp a w→g=true→
  (x=none∧l=d∨∃ k y,x=some y∧a.eval y=.int k l):=by
 unfold bndE at h
 split at h
 ·exact ⟨d,h,fun _ _ _=>.inl ⟨rfl,rfl⟩⟩
 ·rename_i y
  obtain ⟨v,h,hy⟩:=evg_rel h
  obtain ⟨k,i,rfl,h0,hK⟩:=asI_inv h
  refine ⟨i.toNat,hK,fun hle r hg=>.inr ⟨k,y,rfl,?_⟩⟩
  have:=rel_int (hy _ _ _ _ hg (ev_le hle r y))
  rw [this.1,Int.toNat_of_nonneg h0]
theorem extract_list (s:List UInt8) (l h:Nat):(⟨s.toArray⟩:ByteArray).extract l h=⟨((s.drop l).take (h - l)).toArray⟩:=by
 apply ByteArray.ext
 apply Array.ext'
 simp [ByteArray.data_extract,List.extract]
theorem ok_slice {T:TypeId} {x:Operand} {lo hi:Option Operand} (ho:o.op=.slice T x lo hi none)
  (h:evg g (σ.ev x) fun a=>bndE g σ 0 lo fun l=>bndE g σ (lenOfV a) hi fun h=>withR (cutE P σ.heap T a l h) fun v=>K (rv v)):∃ r,OpOK P o g σ n r∧K r:=by
 obtain ⟨va,h1,hx⟩:=evg_rel h
 obtain ⟨l,h2,hl⟩:=bndE_inv h1
 obtain ⟨m,h3,hm⟩:=bndE_inv h2
 obtain ⟨p,v,hE,hp,hK⟩:=withR_inv h3
 clear h h1 h2 h3
 refine ⟨_,OpOK_val fun σ' hle B w0 Dm φ kp a w r hg=>?_,hK⟩
 have rx:=hx _ _ _ _ hg (ev_le hle r x)
 have rl:=hl hle r hg
 have rm:=hm hle r hg
 have bl:(lo.map a.eval)=none∧l=0∨∃ k,(lo.map a.eval)=some (.int k l):=by
  rcases rl with ⟨rfl,rfl⟩|⟨k,y,rfl,e⟩
  ·exact .inl ⟨rfl,rfl⟩
  ·exact .inr ⟨k,by simp [e]⟩
 have bm:(hi.map a.eval)=none∧m=lenOfV va∨∃ k,(hi.map a.eval)=some (.int k m):=by
  rcases rm with ⟨rfl,rfl⟩|⟨k,y,rfl,e⟩
  ·exact .inl ⟨rfl,rfl⟩
  ·exact .inr ⟨k,by simp [e]⟩
 have slc:∀ {e sz by_:Nat} {ad:Option Addr} {len cp:Nat},elI P T=some (e,sz,by_)→a.eval x=.slice ad len cp→lenOfV va=len→l≤m→m≤cp→
   (execOp a.eval o).run P w=.ok (.value (.slice (if cp=l then ad else ad.map (·.add (l * sz))) (m - l) (cp - l))) w:=by
  intro e sz by_ ad len cp he hu hlen h1 h2
  obtain ⟨inf,hu',hi',hs,_⟩:=elI_some he
  have hsz:(Go.sizeOf e).run P w=Result.ok sz w:=by simp [Go.sizeOf,typeInfo,hi',hs]
  have hb:=run_sliceBounds (P:=P) true len cp (lo.map a.eval) (hi.map a.eval) l m w bl (by rw [hlen] at bm;exact bm) h1 h2
  unfold execOp;rw [ho]
  simp [Instr.sliceAt,Instr.slice,run_underlying hu',hu,hb,hsz]
 unfold cutE at hE
 split at hE
 ·rename_i s
  split at hE
  ·rename_i hs
   simp only [Option.some.injEq,Prod.mk.injEq] at hE
   obtain ⟨rfl,rfl⟩:=hE
   have e1:=rel_str rx
   have hsz:(⟨s.toArray⟩:ByteArray).size=s.length:=by simp [ByteArray.size]
   have hb:=run_sliceBounds (P:=P) false s.length s.length (lo.map a.eval) (hi.map a.eval) l m w bl bm hp.1 hp.2
   refine ⟨.string ⟨((s.drop l).take (m - l)).toArray⟩,?_,mk_str (by simp;omega)⟩
   unfold execOp;rw [ho]
   simp [Instr.sliceAt,Instr.slice,run_underlying (isStrI_true hs),e1.1,hsz,hb,extract_list]
  ·cases hE
 ·rename_i id off len
  split at hE
  ·rename_i e sz by_ sz' xs he hel
   split at hE
   ·rename_i hsz;subst hsz
    simp only [Option.some.injEq,Prod.mk.injEq] at hE
    obtain ⟨rfl,rfl⟩:=hE
    obtain ⟨β,ad,c,e1,e2,e3,e4,e5⟩:=rel_sl rx
    obtain ⟨β',e1',hr⟩:=heap_rel r (els_le hle hel)
    rw [e1] at e1';cases e1'
    have hs:=els_sz (els_le hle hel) hr
    have hmc:m≤c:=by
     rcases hp.2 with hp|hp
     ·omega
     ·unfold reachE at hp
      split at hp
      ·rename_i s' xs' hx0
       have hx':hget σ'.heap id=.arr s' xs' true:=by
        rcases hle.2 id with hh|hh
        ·rw [hx0] at hh;cases hh
        ·rw [hh,hx0]
       rw [hx'] at hr;simp only [HRel] at hr
       have hcap:off + c=β.cap:=by
        rcases e5 with e5|⟨_,_,_,e5⟩
        ·omega
        ·exact e5
       rcases hr.2 with hr|⟨_,_,_,hr,_⟩
       ·rw [hr.2.1] at hp;simp at hp;omega
       ·omega
      ·exact hp.elim
    refine ⟨_,slc he e2 rfl hp.1 hmc,?_⟩
    simp only [VRel]
    refine ⟨β,_,c - l,e1,rfl,by omega,?_⟩
    by_cases hcl:c=l
    ·exact .inl ⟨by omega,by omega⟩
    ·rcases e5 with e5|⟨b,e5,e6,e7⟩
     ·exfalso;omega
     ·subst e6
      refine .inr ⟨b,e5,?_,by omega,by omega⟩
      rw [if_neg hcl]
      simp only [Option.map_some,add_lit,hs]
      rw [Nat.add_mul,← Nat.add_assoc]
   ·cases hE
  ·cases hE
 ·rename_i sz' xs
  split at hE
  ·rename_i e sz by_ he
   split at hE
   ·rename_i hsz;subst hsz
    simp only [Option.some.injEq,Prod.mk.injEq] at hE
    obtain ⟨rfl,rfl⟩:=hE
    obtain ⟨ad,c,e1,e2,e3,e4⟩:=rel_dsl rx
    have hlen:((xs.drop l).take (m - l)).length=m - l:=by simp;omega
    refine ⟨_,slc he e1 rfl hp.1 (by omega),?_⟩
    simp only [VRel,rep]
    by_cases hne:(xs.drop l).take (m - l)=[]
    ·have hml:m - l=0:=by rw [← hlen,hne];rfl
     exact ⟨[],⟨_,c - l,by rw [hlen],by omega,by omega,.inl ⟨hne,rfl,fun h=>by cases h⟩⟩,by simp⟩
    ·rcases e4 with e4|⟨b,f,G,e4,e5,e6,e7,e8⟩
     ·subst e4;simp at hne
     ·subst e4
      have hml:0 < m - l:=by rw [← hlen];exact List.length_pos_iff.2 hne
      have hsplit:xs=xs.take l++((xs.drop l).take (m - l)++(xs.drop l).drop (m - l)):=by rw [List.take_append_drop,List.take_append_drop]
      rw [hsplit] at e7
      obtain ⟨G1,G2,rfl,k1,k2⟩:=(repE_append _ _ _ _).1 e7
      obtain ⟨G3,G4,rfl,k3,k4⟩:=(repE_append _ _ _ _).1 k2
      have htl:(xs.take l).length=l:=by simp;omega
      rw [htl] at k3
      refine ⟨b::G3,⟨_,c - l,by rw [hlen],by omega,by omega,.inr ⟨b,f + l * sz,G3,?_,rfl,e5,k3,fun h=>by cases h⟩⟩,?_⟩
      ·have hcl:¬ c=l:=by omega
       rw [if_neg hcl];simp [add_lit]
      ·intro y hy
       rcases List.mem_cons.1 hy with rfl|hy
       ·exact e6
       ·exact e8 y (by simp [hy])
   ·cases hE
  ·cases hE
 ·rename_i s
  split at hE
  ·rename_i he
   simp only [Option.some.injEq,Prod.mk.injEq] at hE
   obtain ⟨rfl,rfl⟩:=hE
   obtain ⟨⟨e,sz,by_⟩,he⟩:=Option.isSome_iff_exists.1 he
   simp only [VRel] at rx
   have hh:=slc he rx rfl (by omega) (by omega)
   obtain ⟨rfl,rfl⟩:=hp
   refine ⟨_,hh,?_⟩
   simp [VRel]
  ·cases hE
 ·cases hE
/-- A cut with a bound on the capacity, that nobody asks for: the bounds hold. -/
def cut3E (P:Program) (T:TypeId) (x:V) (l h m:Nat):Option (Prop×V):=
 match x with
 |.sl _ _ len=>if (elI P T).isSome then some (l≤h∧h≤m∧m≤len,.junk) else none
 |_=>none
theorem ok_slice3 {T:TypeId} {x lo hi mx:Operand} (ho:o.op=.slice T x (some lo) (some hi) (some mx))
  (h:evg g (σ.ev x) fun a=>bndE g σ 0 (some lo) fun l=>bndE g σ 0 (some hi) fun h=>bndE g σ 0 (some mx) fun m=>withR (cut3E P T a l h m) fun v=>K (rv v)):∃ r,OpOK P o g σ n r∧K r:=by
 obtain ⟨va,h1,hx⟩:=evg_rel h
 obtain ⟨l,h2,hl⟩:=bndE_inv h1
 obtain ⟨m,h3,hm⟩:=bndE_inv h2
 obtain ⟨q,h4,hq⟩:=bndE_inv h3
 obtain ⟨p,v,hE,hp,hK⟩:=withR_inv h4
 clear h h1 h2 h3 h4
 refine ⟨_,OpOK_val fun σ' hle B w0 Dm φ kp a w r hg=>?_,hK⟩
 have rx:=hx _ _ _ _ hg (ev_le hle r x)
 have some_:∀ {z:Operand} {d t:Nat},((some z=none∧t=d)∨∃ k y,some z=some y∧a.eval y=.int k t)→∃ k,a.eval z=.int k t:=by
  rintro z d t (⟨h,_⟩|⟨k,y,h,e⟩)
  ·cases h
  ·cases h;exact ⟨k,e⟩
 obtain ⟨k1,el⟩:=some_ (hl hle r hg)
 obtain ⟨k2,em⟩:=some_ (hm hle r hg)
 obtain ⟨k3,eq⟩:=some_ (hq hle r hg)
 unfold cut3E at hE
 split at hE
 ·rename_i id off len
  split at hE
  ·rename_i hs
   simp only [Option.some.injEq,Prod.mk.injEq] at hE
   obtain ⟨rfl,rfl⟩:=hE
   obtain ⟨p1,p2,p3⟩:=hp
   obtain ⟨⟨e,sz,by_⟩,he⟩:=Option.isSome_iff_exists.1 hs
   obtain ⟨inf,hu',hi',hs,_⟩:=elI_some he
   have hsz:(Go.sizeOf e).run P w=Result.ok sz w:=by simp [Go.sizeOf,typeInfo,hi',hs]
   obtain ⟨β,ad,c,e1,e2,e3,e4,e5⟩:=rel_sl rx
   have sb:∀ (k:IntKind) (x y:Nat) (c:BoundsCode),x≤y→(Instr.sliceBound (.int k x) y c).run P w=.ok x w:=by
    intro k x y c hxy
    simp [Instr.sliceBound,asIntOf,hxy]
   have hb:(Instr.sliceBounds true len c (some (.int k1 l)) (some (.int k2 m)) (some (.int k3 q))).run P w=.ok (l,m,q) w:=by
    unfold Instr.sliceBounds
    simp [sb _ _ _ _ (show q≤c by omega),sb _ _ _ _ p2,sb _ _ _ _ p1]
   refine ⟨.slice (if q=l then ad else ad.map (·.add (l * sz))) (m - l) (q - l),?_,by simp only [VRel]⟩
   unfold execOp;rw [ho]
   simp [Instr.sliceAt,Instr.slice,run_underlying hu',el,em,eq,e2,hb,hsz]
  ·cases hE
 ·cases hE
variable {P:Program} {o:Oper} {g:Bool} {σ:St} {n:Nat} {K:Res→Prop}
def byte1:List D→Option UInt8
 |[.int .u8 n]=>some (UInt8.ofNat n.toNat)
 |_=>none
def bytesL:List (List D)→Option (List UInt8)
 |[]=>some []
 |c::cs=>match byte1 c,bytesL cs with|some b,some r=>some (b::r)|_,_=>none
/-- The elements that a slice shows. -/
def elsOf (hs:List H) (x:V):Option (Nat×List (List D)):=
 match x with
 |.sl id off len=>match (hget hs id).els with|some (sz,xs)=>if off + len≤xs.length then some (sz,(xs.drop off).take len) else none|none=>none
 |.d (.sl sz xs)=>some (sz,xs)
 |.nils sz=>some (sz,[])
 |_=>none
/-- They lie there, readable. -/
theorem elsOf_rel {B:Nat→Prop} {w0:World} {Dm:Nat→Prop} {φ:Phi} {kp:List (V×Value)} {a:Act} {w:World} {σ σ':St} (hle:σ.le σ') (r:R B w0 Dm φ σ' kp a w) {x:V} {sz:Nat} {xs:List (List D)} (he:elsOf σ.heap x=some (sz,xs))
  {u:Value} (rx:VRel φ (NotTop φ σ'.heap) w.heap x u):∃ ad c,u=.slice ad xs.length c∧xs.length≤c∧c≤maxLen ∧
   (xs=[]∨∃ b f G,ad=some ⟨b,f,none⟩∧b < w.heap.size∧repE w.heap false b f sz xs G∧∀ g ∈ G,NotTop φ σ'.heap g):=by
 unfold elsOf at he
 split at he
 ·rename_i id off len
  split at he
  ·rename_i sz' ys hel
   split at he
   ·rename_i hb
    simp only [Option.some.injEq,Prod.mk.injEq] at he
    obtain ⟨rfl,rfl⟩:=he
    obtain ⟨β,ad,c,e1,e2,e3,e4,e5⟩:=rel_sl rx
    have hel':=els_le hle hel
    obtain ⟨β',e1',hr⟩:=heap_rel r hel'
    rw [e1] at e1';cases e1'
    have hs:=els_sz hel' hr
    have hlen:((ys.drop off).take len).length=len:=by simp;omega
    refine ⟨ad,c,by rw [hlen];exact e2,by omega,e4,?_⟩
    by_cases hne:(ys.drop off).take len=[]
    ·exact .inl hne
    ·have hpos:0 < len:=by rw [← hlen];exact List.length_pos_iff.2 hne
     rcases e5 with e5|⟨b,e5,e6,e7⟩
     ·omega
     ·subst e6
      have hsplit:ys=ys.take off++((ys.drop off).take len++(ys.drop off).drop len):=by rw [List.take_append_drop,List.take_append_drop]
      have htl:(ys.take off).length=off:=by simp;omega
      have key:∀ {bl:Bool} {G:List Nat},repE w.heap bl b β.off sz' ys G→∃ G',(∀ g ∈ G',g ∈ G)∧repE w.heap bl b (β.off + off * sz') sz' ((ys.drop off).take len) G':=by
       intro bl G hG
       rw [hsplit] at hG
       obtain ⟨G1,G2,rfl,k1,k2⟩:=(repE_append _ _ _ _).1 hG
       obtain ⟨G3,G4,rfl,k3,k4⟩:=(repE_append _ _ _ _).1 k2
       rw [htl] at k3
       exact ⟨G3,fun y hy=>by simp [hy],k3⟩
      cases hx:hget σ'.heap id with
      |dead=>rw [hx] at hel';cases hel'
      |box cells=>rw [hx] at hel';cases hel'
      |cln _ _=>rw [hx] at hel';cases hel'
      |win _ _ _ _=>rw [hx] at hel';cases hel'
      |arr sz2 ys2 nf=>
       rw [hx] at hel' hr
       simp only [H.els,Option.some.injEq,Prod.mk.injEq] at hel'
       obtain ⟨rfl,rfl⟩:=hel'
       simp only [HRel] at hr
       rcases hr.2 with hr|⟨b',G,r1,r2,r3,r4,r5,r6⟩
       ·rw [hr.2.1] at hb;simp at hb;omega
       ·rw [e5] at r1;cases r1
        obtain ⟨G',g1,g2⟩:=key r4
        refine .inr ⟨b,_,G',rfl,r3.lt,?_,fun g hg=>?_⟩
        ·rw [hs]
         cases nf with
         |true=>exact repE_false _ _ _ _ _ g2
         |false=>exact g2
        ·cases nf with
         |true=>exact notTop_of_nest r e1 (by rw [hx];rfl) (by rw [hx];rfl) (by rw [← r5 rfl];exact g1 g hg)
         |false=>exact r6 rfl g (g1 g hg)
      |ro sz2 ys2=>
       rw [hx] at hel' hr
       simp only [H.els,Option.some.injEq,Prod.mk.injEq] at hel'
       obtain ⟨rfl,rfl⟩:=hel'
       simp only [HRel] at hr
       rcases hr.2 with hr|⟨b',G,r1,r2,r3,r4,r5⟩
       ·rw [hr] at hb;simp at hb;omega
       ·rw [e5] at r1;cases r1
        obtain ⟨G',g1,g2⟩:=key r4
        exact .inr ⟨b,_,G',rfl,r3,by rw [hs];exact g2,fun g hg=>r5 g (g1 g hg)⟩
   ·cases he
  ·cases he
 ·simp only [Option.some.injEq,Prod.mk.injEq] at he
  obtain ⟨rfl,rfl⟩:=he
  obtain ⟨ad,c,e1,e2,e3,e4⟩:=rel_dsl rx
  refine ⟨ad,c,e1,e2,e3,?_⟩
  rcases e4 with e4|⟨b,f,G,e4,e5,e6,e7,e8⟩
  ·exact .inl e4
  ·exact .inr ⟨b,f,G,e4,e5,e7,e8⟩
 ·simp only [Option.some.injEq,Prod.mk.injEq] at he
  obtain ⟨rfl,rfl⟩:=he
  simp only [VRel] at rx
  exact ⟨none,0,rx,by simp,by decide,.inl rfl⟩
 ·cases he
theorem bytes_cells {h:Array Obj} {b:Nat}:∀ (cs:List (List D)) (s:List UInt8) (f:Nat) (G:List Nat),bytesL cs=some s→repE h false b f 1 cs G→
  s.length=cs.length∧∀ (j:Nat) (c:UInt8),s[j]?=some c→∃ n:Int,cellAt h b (f + j)=some (.int .u8 n)∧UInt8.ofNat n.toNat=c
 |[],s,f,G,e,_=>by simp only [bytesL,Option.some.injEq] at e;subst e;simp
 |c::cs,s,f,G,e,r=>by
  simp only [bytesL] at e
  split at e
  ·rename_i b' r' e1 e2
   cases e
   simp only [repE] at r
   obtain ⟨G1,G2,rfl,k1,k2,k3⟩:=r
   obtain ⟨ih1,ih2⟩:=bytes_cells cs r' (f + 1) G2 e2 k3
   refine ⟨by simp [ih1],fun j x hj=>?_⟩
   cases j with
   |zero=>
    simp at hj;subst hj
    unfold byte1 at e1
    split at e1
    ·rename_i m
     cases e1
     simp only [repC] at k2
     obtain ⟨v,H1,H2,_,c1,c2,_⟩:=k2
     simp only [rep] at c2
     exact ⟨m,by rw [Nat.add_zero,c1,c2.1],rfl⟩
    ·cases e1
   |succ j=>
    have:=ih2 j x (by simpa using hj)
    rw [show f + (j + 1)=f + 1 + j from by omega];exact this
  ·cases e
theorem push_fold:∀ (ns:List Int) (s:ByteArray),ns.foldl (fun r n=>r.push (UInt8.ofNat n.toNat)) s=⟨(s.data.toList++ns.map fun n=>UInt8.ofNat n.toNat).toArray⟩
 |[],s=>by simp
 |m::ns,s=>by
  rw [List.foldl_cons,push_fold ns]
  simp [ByteArray.push]
def cvE (P:Program) (hs:List H) (src dst:TypeId) (x:V):Option (Prop×V):=
 match x with
 |.d (.int _ n)=>
  match intI P src,intI P dst with
  |some _,some k=>some (True,dI k (k.wrap n))
  |_,_=>none
 |.d (.str s)=>if isStrI P src && isStrI P dst then some (True,dS s) else none
 |x=>
  match elI P src,elsOf hs x with
  |some (e,1,_),some (1,xs)=>if intI P e=some .u8 && isStrI P dst then some ((bytesL xs).isSome=true,dS ((bytesL xs).getD [])) else none
  |some (e,1,_),some (_,[])=>if intI P e=some .u8 && isStrI P dst then some (True,dS []) else none
  |_,_=>none
theorem bytes_run {w:World} {src dst e:TypeId} {s by_:Nat} (he:elI P src=some (e,s,by_)) (hk:(intI P e=some .u8 && isStrI P dst)=true) {ad:Option Addr} {c:Nat} {xs:List (List D)} {t:List UInt8} (ht:bytesL xs=some t)
  (h:xs=[]∨∃ b f G,ad=some ⟨b,f,none⟩∧repE w.heap false b f 1 xs G):(convert src dst (.slice ad xs.length c)).run P w=.ok (.string ⟨t.toArray⟩) w:=by
 simp only [Bool.and_eq_true,decide_eq_true_eq] at hk
 obtain ⟨inf,hu,_⟩:=elI_some he
 rw [run_convert_bytes_string w src dst e _ _ _ hu (intI_some hk.1) (isStrI_true hk.2)]
 have nil:∀ (ad:Option Addr) (c:Nat),(Conv.bytesToString (.slice ad 0 c)).run P w=.ok (.string ⟨#[]⟩) w:=by
  intro ad c
  cases ad with
  |none=>rfl
  |some ad=>exact run_bytesToString w ad 0 c [] (by simp [loadCells,loadCellsFrom])
 rcases h with rfl|⟨b,f,G,rfl,h⟩
 ·simp only [bytesL,Option.some.injEq] at ht;subst ht
  exact nil ad c
 ·obtain ⟨h1,h2⟩:=bytes_cells _ _ _ _ ht h
  have hex:∃ ns:List Int,ns.length=xs.length∧(∀ (j:Nat) (n:Int),ns[j]?=some n→cellAt w.heap b (f + j)=some (.int .u8 n))∧ns.map (fun n=>UInt8.ofNat n.toNat)=t:=by
   clear ht h
   have:∀ (t:List UInt8) (f:Nat),(∀ (j:Nat) (c:UInt8),t[j]?=some c→∃ n:Int,cellAt w.heap b (f + j)=some (.int .u8 n)∧UInt8.ofNat n.toNat=c)→
     ∃ ns:List Int,ns.length=t.length∧(∀ (j:Nat) (n:Int),ns[j]?=some n→cellAt w.heap b (f + j)=some (.int .u8 n))∧ns.map (fun n=>UInt8.ofNat n.toNat)=t:=by
    intro t
    induction t with
    |nil=>exact fun f _=>⟨[],rfl,by simp,rfl⟩
    |cons c t ih=>
     intro f h
     obtain ⟨m,m1,m2⟩:=h 0 c rfl
     obtain ⟨ns,n1,n2,n3⟩:=ih (f + 1) (fun j c hj=>by have:=h (j + 1) c (by simpa using hj);rw [show f + 1 + j=f + (j + 1) from by omega];exact this)
     refine ⟨m::ns,by simp [n1],fun j n hj=>?_,by simp [m2,n3]⟩
     cases j with
     |zero=>simp at hj;subst hj;exact m1
     |succ j=>rw [show f + (j + 1)=f + 1 + j from by omega];exact n2 j n (by simpa using hj)
   obtain ⟨ns,n1,n2,n3⟩:=this t f h2
   exact ⟨ns,by rw [n1,h1],n2,n3⟩
  obtain ⟨ns,n1,n2,n3⟩:=hex
  have hl:=run_loadCells_list (P:=P) w ⟨b,f,none⟩ (ns.map (Value.int .u8)) (fun j v hj=>by
   rw [add_lit,cell_eq]
   rw [List.getElem?_map] at hj
   cases hn:ns[j]? with
   |none=>rw [hn] at hj;cases hj
   |some m=>rw [hn] at hj;cases hj;exact n2 j m hn)
  rw [List.length_map,n1] at hl
  rw [run_bytesToString w _ _ c ns hl,push_fold,n3]
  rfl
theorem ok_convert {src dst:TypeId} {x:Operand} (ho:o.op=.convert src dst x) (h:evg g (σ.ev x) fun a=>withR (cvE P σ.heap src dst a) fun v=>K (rv v)):∃ r,OpOK P o g σ n r∧K r:=by
 obtain ⟨va,h1,hx⟩:=evg_rel h
 obtain ⟨p,v,hE,hp,hK⟩:=withR_inv h1
 clear h h1
 refine ⟨_,OpOK_val fun σ' hle B w0 Dm φ kp a w r hg=>?_,hK⟩
 have rx:=hx _ _ _ _ hg (ev_le hle r x)
 have hex:∀ {u:Value},(convert src dst (a.eval x)).run P w=.ok u w→(execOp a.eval o).run P w=.ok (.value u) w:=by
  intro u hu
  unfold execOp;rw [ho];simp [hu]
 unfold cvE at hE
 split at hE
 ·rename_i k m
  split at hE
  ·rename_i k1 k2 h1 h2
   simp only [Option.some.injEq,Prod.mk.injEq] at hE
   obtain ⟨_,rfl⟩:=hE
   refine ⟨_,hex (u:=.int k2 (k2.wrap m)) ?_,mk_int (wrap_range _ _)⟩
   rw [(rel_int rx).1]
   simp [convert,run_underlying (intI_some h1),run_underlying (intI_some h2),Conv.intToInt]
  ·cases hE
 ·split at hE
  ·rename_i s hs
   simp only [Option.some.injEq,Prod.mk.injEq] at hE
   obtain ⟨_,rfl⟩:=hE
   simp only [Bool.and_eq_true] at hs
   have e1:=rel_str rx
   refine ⟨_,hex (u:=.string ⟨s.toArray⟩) ?_,mk_str e1.2⟩
   rw [e1.1]
   simp [convert,run_underlying (isStrI_true hs.1),run_underlying (isStrI_true hs.2)]
  ·cases hE
 ·split at hE
  ·rename_i e by_ xs he hel
   split at hE
   ·rename_i hk
    simp only [Option.some.injEq,Prod.mk.injEq] at hE
    obtain ⟨rfl,rfl⟩:=hE
    obtain ⟨t,ht⟩:=Option.isSome_iff_exists.1 hp
    obtain ⟨ad,c,e1,e2,e3,e4⟩:=elsOf_rel hle r hel rx
    have e4':xs=[]∨∃ b f G,ad=some ⟨b,f,none⟩∧repE w.heap false b f 1 xs G:=by
     rcases e4 with e4|⟨b,f,G,e4,_,e5,_⟩
     ·exact .inl e4
     ·exact .inr ⟨b,f,G,e4,e5⟩
    have hrun:=bytes_run (w:=w) (dst:=dst) he hk ht (ad:=ad) (c:=c) e4'
    refine ⟨_,hex (u:=.string ⟨t.toArray⟩) (by rw [e1];exact hrun),?_⟩
    have hlen:t.length=xs.length:=by
     rcases e4 with rfl|⟨b,f,G,e4,_,e5,_⟩
     ·simp only [bytesL,Option.some.injEq] at ht;subst ht;rfl
     ·exact (bytes_cells _ _ _ _ ht e5).1
    rw [ht];exact mk_str (by simp;omega)
   ·cases hE
  ·rename_i e by_ s _ he hel
   split at hE
   ·rename_i hk
    simp only [Option.some.injEq,Prod.mk.injEq] at hE
    obtain ⟨_,rfl⟩:=hE
    obtain ⟨ad,c,e1,e2,e3,e4⟩:=elsOf_rel hle r hel rx
    have hrun:=bytes_run (w:=w) (dst:=dst) he hk (xs:=[]) (t:=[]) rfl (ad:=ad) (c:=c) (.inl rfl)
    exact ⟨_,hex (by rw [e1];exact hrun),mk_str (by decide)⟩
   ·cases hE
  ·cases hE
def splice {α:Type} (l:List α) (off:Nat) (vs:List α):List α:=l.take off++(vs++l.drop (off + vs.length))
theorem splice_len {α:Type} {l:List α} {off:Nat} {vs:List α} (h:off + vs.length≤l.length):(splice l off vs).length=l.length:=by
 simp [splice];omega
theorem VRels_splice {φ:Phi} {T:Nat→Prop} {h:Array Obj} {cs vs:List V} {us ws:List Value} (r:VRels φ T h cs us) (r':VRels φ T h vs ws) (off:Nat):VRels φ T h (splice cs off vs) (splice us off ws):=by
 unfold splice
 rw [VRels_len _ _ r']
 exact VRels_append (VRels_take r off) (VRels_append r' (VRels_drop r _))
theorem fold_set:∀ (vs:List Value) (k off:Nat) (cells:Array Value),off + k + vs.length≤cells.size→
  (vs.zipIdx k).foldl (fun cs (c,j)=>cs.setIfInBounds (off + j) c) cells=(splice cells.toList (off + k) vs).toArray
 |[],k,off,cells,_=>by simp [splice]
 |v::vs,k,off,cells,h=>by
  simp only [List.length_cons] at h
  rw [List.zipIdx_cons,List.foldl_cons,fold_set vs (k + 1) off _ (by simp;omega)]
  have hi:off + k < cells.toList.length:=by simp;omega
  have e:=list_seg_step cells.toList (off + k) v vs (by simp;omega)
  congr 1
  unfold splice
  simpa [Array.toList_setIfInBounds,Nat.add_assoc] using e
/-- Parts laid into the cells of an aggregate. -/
def vfill (pl:Nat→Option (Nat×Nat)):List V→List (Nat×V)→Option (List V)
 |cells,[]=>some cells
 |cells,(i,v)::r=>
  match pl i with
  |some (off,sz)=>if v.cells.length=sz∧off + sz≤cells.length∧v.cellsOk=true then vfill pl (splice cells off v.cells) r else none
  |none=>none
def partsRel (φ:Phi) (T:Nat→Prop) (h:Array Obj):List (Nat×V)→List (Nat×Value)→Prop
 |[],us=>us=[]
 |(i,v)::r,us=>∃ u us',us=(i,u)::us'∧VRel φ T h v u∧partsRel φ T h r us'
theorem vfill_rel {φ:Phi} {T:Nat→Prop} {h:Array Obj} (pl:Nat→Option (Nat×Nat)):∀ (parts:List (Nat×V)) (cells cells':List V) (us:List Value) (ps:List (Nat×Value)),vfill pl cells parts=some cells'→VRels φ T h cells us→partsRel φ T h parts ps→
  ∃ us':List Value,Instr.fill pl us.toArray ps=some us'.toArray∧VRels φ T h cells' us'
 |[],cells,cells',us,ps,e,r,rp=>by
  simp only [vfill,Option.some.injEq] at e;subst e
  simp only [partsRel] at rp;subst rp
  exact ⟨us,rfl,r⟩
 |(i,v)::parts,cells,cells',us,ps,e,r,rp=>by
  simp only [partsRel] at rp
  obtain ⟨u,ps',rfl,rv,rp⟩:=rp
  simp only [vfill] at e
  split at e
  ·rename_i off sz hpl
   split at e
   ·rename_i hb
    have hc:=(cells_rel hb.2.2 rv).1
    have hl:=VRels_len _ _ hc
    have hl':=VRels_len _ _ r
    obtain ⟨us',k1,k2⟩:=vfill_rel pl parts _ cells' _ ps' e (VRels_splice r hc off) rp
    refine ⟨us',?_,k2⟩
    rw [← k1]
    have hsz:u.cells.size=sz:=by rw [← Array.length_toList,hl];exact hb.1
    have hno:¬ (u.cells.size≠sz∨off + u.cells.size > us.toArray.size):=by
     have:=hb.2.1
     simp only [List.size_toArray,hsz];omega
    have hno':(decide (u.cells.size≠sz) || decide (off + u.cells.size > us.toArray.size))=false:=by
     rw [Bool.eq_false_iff];intro hh;exact hno (by simpa using hh)
    simp only [Instr.fill,hpl,hno',Bool.false_eq_true,if_false]
    congr 1
    have:=fold_set u.cells.toList 0 off us.toArray (by
     have:=hb.2.1
     simp only [Nat.add_zero,Array.length_toList,List.size_toArray,hsz];omega)
    simp only [Nat.add_zero] at this
    rw [← this,← Array.foldl_toList,Array.toList_zipIdx]
   ·cases e
  ·cases e
/-- The places of a struct's fields, of an array's elements. -/
def plI (P:Program) (T:TypeId):Option (Nat→Option (Nat×Nat)):=
 match P.underlying T with
 |some (.array _ e)=>(P.info? e).map fun i=>fun j=>some (j * i.size,i.size)
 |some (.struct fs)=>(fs.toList.mapM fun f=>(P.info? f.type).map fun i=>(f.offset,i.size)).map fun l=>fun j=>l[j]?
 |_=>none
def szsI (P:Program):Nat→TypeId→List Nat
 |0,_=>[]
 |f + 1,T=>
  match P.underlying T with
  |some (.array n e)=>(List.replicate n (szsI P f e)).flatten
  |some (.struct fs)=>(fs.toList.map fun x=>szsI P f x.type).flatten
  |some (.slice e)=>[P.cellsOf e]
  |_=>[0]
def reSz:V→Nat→V
 |.nils _,s=>.nils s
 |v,_=>v
/-- The cells of a type's zero value. -/
def zrI (P:Program) (T:TypeId):Option (List V):=
 match P.info? T with
 |some i=>
  match i.zero with
  |some z=>
   let l:=List.zipWith reSz (z.cells.toList.map ofVal) (szsI P 8 T)
   if l.length=z.cells.toList.length then some l else none
  |none=>none
 |none=>none
theorem zrI_rel {T:TypeId} {vs:List V} (h:zrI P T=some vs):∃ i z,P.info? T=some i∧i.zero=some z∧∀ (φ:Phi) (T':Nat→Prop) (hp:Array Obj),VRels φ T' hp vs z.cells.toList:=by
 unfold zrI at h
 split at h
 ·rename_i i hi
  split at h
  ·rename_i z hz
   simp only at h
   split at h
   ·rename_i hl
    cases h
    refine ⟨i,z,hi,hz,fun φ T' hp=>VRels_mk _ _ hl.symm fun t v u e1 e2=>?_⟩
    rw [List.getElem?_zipWith] at e1
    rw [List.getElem?_map,e2] at e1
    simp only [Option.map_some] at e1
    cases hs:(szsI P 8 T)[t]? with
    |none=>rw [hs] at e1;cases e1
    |some s=>
     rw [hs] at e1
     cases e1
     have:=ofVal_rel (φ:=φ) (T:=T') (h:=hp) u
     cases hv:ofVal u<;>rw [hv] at this<;>first|exact this|(simp only [reSz,VRel] at this ⊢;exact this)
   ·cases h
  ·cases h
 ·cases h
def evParts (g:Bool) (σ:St):List (Nat×Operand)→(List (Nat×V)→Prop)→Prop
 |[],K=>K []
 |(i,x)::r,K=>evg g (σ.ev x) fun v=>evParts g σ r fun vs=>K ((i,v)::vs)
theorem evParts_inv:∀ (ps:List (Nat×Operand)) (K:List (Nat×V)→Prop),evParts g σ ps K→∃ vs,K vs∧∀ {σ':St} {B:Nat→Prop} {w0:World} {Dm:Nat→Prop} {φ:Phi} {kp:List (V×Value)} {a:Act} {w:World},σ.le σ'→R B w0 Dm φ σ' kp a w→g=true→
  partsRel φ (NotTop φ σ'.heap) w.heap vs (ps.map fun (i,x)=>(i,a.eval x))
 |[],K,h=>⟨[],h,fun _ _ _=>by simp [partsRel]⟩
 |(i,x)::ps,K,h=>by
  simp only [evParts] at h
  obtain ⟨v,h1,hx⟩:=evg_rel h
  obtain ⟨vs,hK,hr⟩:=evParts_inv ps _ h1
  refine ⟨(i,v)::vs,hK,fun hle r hg=>?_⟩
  simp only [List.map_cons,partsRel]
  exact ⟨_,_,rfl,hx _ _ _ _ hg (ev_le hle r x),hr hle r hg⟩
def bldE (P:Program) (T:TypeId) (parts:List (Nat×V)):Option V:=
 match plI P T,zrI P T with
 |some pl,some z=>(vfill pl z parts).map V.agg
 |_,_=>none
theorem ok_build {T:TypeId} {parts:Array (Nat×Operand)} (ho:o.op=.build T parts) (h:evParts g σ parts.toList fun ps=>withO (bldE P T ps) fun v=>K (rv v)):∃ r,OpOK P o g σ n r∧K r:=by
 obtain ⟨ps,h1,hx⟩:=evParts_inv _ _ h
 obtain ⟨v,hE,hK⟩:=withO_inv h1
 clear h h1
 refine ⟨_,OpOK_val fun σ' hle B w0 Dm φ kp a w r hg=>?_,hK⟩
 unfold bldE at hE
 split at hE
 ·rename_i pl z hpl hz
  cases hf:vfill pl z ps with
  |none=>rw [hf] at hE;cases hE
  |some cells=>
   rw [hf] at hE;cases hE
   obtain ⟨i,zv,hi,hzv,hzr⟩:=zrI_rel hz
   obtain ⟨us,k1,k2⟩:=vfill_rel (φ:=φ) (T:=NotTop φ σ'.heap) (h:=w.heap) pl ps z cells _ _ hf (hzr _ _ _) (hx hle r hg)
   have hb:P.built T (parts.map fun (i,x)=>(i,a.eval x)).toList=some us.toArray:=by
    unfold Program.built
    unfold plI at hpl
    simp only [Array.toArray_toList] at k1
    split at hpl
    ·rename_i nn e hu
     cases hie:P.info? e with
     |none=>rw [hie] at hpl;cases hpl
     |some ie=>
      rw [hie] at hpl;cases hpl
      simp only [hi,hu,hzv,hie,Array.toList_map]
      exact k1
    ·rename_i fs hu
     cases hp:fs.toList.mapM (fun f=>(P.info? f.type).map fun i=>(f.offset,i.size)) with
     |none=>rw [hp] at hpl;cases hpl
     |some places=>
      rw [hp] at hpl;cases hpl
      simp only [hi,hu,hzv,hp,Array.toList_map]
      simpa using k1
    ·cases hpl
   refine ⟨.agg us.toArray,?_,by simp only [VRel];exact ⟨us.toArray,rfl,by simpa using k2⟩⟩
   unfold execOp;rw [ho]
   have:=run_build (P:=P) w T (parts.map fun (i,x)=>(i,a.eval x)) us.toArray hb
   simp [this]
 ·cases hE
variable {P:Program} {o:Oper} {g:Bool} {σ:St} {n:Nat} {K:Res→Prop}
def phiSet (φ:Phi) (n:Nat) (β:Blk):Phi:=fun i=>if i=n then some β else φ i
section
variable {B:Nat→Prop} {w0:World} {Dm:Nat→Prop} {φ:Phi} {kp:List (V×Value)} {a:Act} {w:World}
/-- A new block that holds a variable. -/
theorem R_boxc (cp sz:Nat) (r:R B w0 Dm φ σ kp a w) {n:Nat} (hd:hget σ.heap n=.dead) (hn:¬ Dm n) {cells:List V} {cs:Array Value} {e:TypeId} (hc:VRels φ (NotTop φ σ.heap) w.heap cells cs.toList) {w':World}
  (hh:w'.heap=w.heap.push (.cells cs e)) (hb:Bel B w0 w') :
  R B w0 (fun i=>Dm i∨(n≤i∧i < n + 1)) (phiSet φ n ⟨some w.heap.size,0,cp,sz,[]⟩) ⟨σ.tmps,hput σ.heap n (.box cells)⟩ kp a w':=by
 have hφn:φ n=none:=by
  cases h:φ n with
  |none=>rfl
  |some β=>exact absurd (r.dm n β h) hn
 have hnew:w'.heap[w.heap.size]?=some (.cells cs e (0,0)):=by rw [hh];simp
 have hle:Le φ (phiSet φ n ⟨some w.heap.size,0,cp,sz,[]⟩):=fun i β hi=>by
  have:i≠n:=fun e=>by subst e;rw [hφn] at hi;cases hi
  exact ⟨β,by simp [phiSet,this,hi],rfl,rfl,rfl,rfl⟩
 have hold:∀ b,b < w.heap.size→w'.heap[b]?=w.heap[b]?:=fun b hb=>by rw [hh,Array.getElem?_push];simp [Nat.ne_of_lt hb]
 have hT:∀ b,b < w.heap.size→NotTop φ σ.heap b→NotTop (phiSet φ n ⟨some w.heap.size,0,cp,sz,[]⟩) (hput σ.heap n (.box cells)) b:=by
  intro b hb ht i β hi he
  rw [hget_hput] at he
  by_cases h:i=n
  ·subst h;simp only [phiSet,if_true,Option.some.injEq] at hi;subst hi
   rcases he with ⟨_,he⟩|⟨_,he⟩
   ·simp only [Option.some.injEq] at he;omega
   ·cases he
  ·simp only [h,if_false] at he
   exact ht i β (by simpa [phiSet,h] using hi) he
 refine R_change r (fun i=>i=n) _ _ _ w' (fun i hi=>⟨by rw [hget_hput];simp [hi],by simp [phiSet,hi]⟩) hle (by rw [hh];simp) (fun b hb _=>hold b hb) ?_ ?_ (fun i j b hi hj _ _=>hi.trans hj.symm) ?_ ?_ ?_ hb
 ·rintro i rfl b ⟨β,h1,h2⟩
  simp only [phiSet,if_true,Option.some.injEq] at h1;subst h1
  rcases h2 with ⟨_,h2⟩|⟨_,h2⟩
  ·simp only [Option.some.injEq] at h2;exact .inl (by omega)
  ·cases h2
 ·rintro i rfl β h1 b h2
  simp only [phiSet,if_true,Option.some.injEq] at h1;subst h1
  rcases h2 with ⟨_,h2⟩|⟨_,h2⟩
  ·simp only [Option.some.injEq] at h2;exact .inl (by omega)
  ·cases h2
 ·rintro i β rfl _ hx
  rw [hget_hput,if_pos rfl] at hx;cases hx
 ·rintro i rfl
  refine .inr ⟨⟨some w.heap.size,0,cp,sz,[]⟩,by simp [phiSet],?_⟩
  rw [hget_hput,if_pos rfl]
  exact ⟨_,cs,e,rfl,rfl,hnew,VRels_keep ⟨hle,hT,fun b hb _=>hold b hb,by rw [hh];simp⟩ _ _ hc⟩
 ·intro i β hi
  by_cases h:i=n
  ·exact .inr ⟨by omega,by omega⟩
  ·exact .inl (r.dm i β (by simpa [phiSet,h] using hi))
theorem R_box (r:R B w0 Dm φ σ kp a w) {n:Nat} (hd:hget σ.heap n=.dead) (hn:¬ Dm n) {cells:List V} {cs:Array Value} {e:TypeId} (hc:VRels φ (NotTop φ σ.heap) w.heap cells cs.toList) {w':World}
  (hh:w'.heap=w.heap.push (.cells cs e)) (hb:Bel B w0 w') :
  R B w0 (fun i=>Dm i∨(n≤i∧i < n + 1)) (phiSet φ n ⟨some w.heap.size,0,0,0,[]⟩) ⟨σ.tmps,hput σ.heap n (.box cells)⟩ kp a w':=R_boxc 0 0 r hd hn hc hh hb
/-- A value as a datum of an element, with the owned slices that it takes over. -/
def toD (hs:List H) (v:V):Option (D×List Nat):=
 match v with
 |.d x=>if x.flat then some (x,[]) else none
 |.nils s=>some (.sl s [],[])
 |.sl id off len=>match hget hs id with|.arr sz xs true=>if off + len≤xs.length then some (.sl sz ((xs.drop off).take len),[id]) else none|_=>none
 |_=>none
def toDs (hs:List H):List V→Option (List D×List Nat)
 |[]=>some ([],[])
 |v::vs=>match toD hs v,toDs hs vs with|some (d,i),some (ds,is)=>some (d::ds,i++is)|_,_=>none
/-- The elements of an entry that owns them. -/
def H.mine:H→Option (Nat×List (List D))
 |.arr sz xs true=>some (sz,xs)
 |.cln sz xs=>some (sz,xs)
 |_=>none
theorem H.mine_own {x:H} {p:Nat×List (List D)} (h:x.mine=some p):x.own=true∧x.live=true:=by
 cases x<;>first|exact ⟨rfl,rfl⟩|(rename_i nf;cases nf<;>first|exact ⟨rfl,rfl⟩|cases h)|cases h
theorem mine_rel {φ:Phi} {T:Nat→Prop} {h:Array Obj} {β:Blk} {x:H} {sz:Nat} {xs:List (List D)} (he:x.mine=some (sz,xs)) (r:HRel φ T h β x):β.sz=sz∧((β.blk=none∧xs=[]∧β.cap=0∧β.nest=[]) ∨
  ∃ b,β.blk=some b∧xs.length≤β.cap∧roomy h b (β.off + β.cap * sz)∧repE h true b β.off sz xs β.nest):=by
 cases x with
 |arr sz' xs' nf=>
  cases nf with
  |false=>cases he
  |true=>
   simp only [H.mine,Option.some.injEq,Prod.mk.injEq] at he
   obtain ⟨rfl,rfl⟩:=he
   simp only [HRel] at r
   obtain ⟨r0,r⟩:=r
   refine ⟨r0,r.imp id ?_⟩
   rintro ⟨b,G,r1,r2,r3,r4,r5,r6⟩
   exact ⟨b,r1,r2,r3,(r5 trivial) ▸ r4⟩
 |cln sz' xs'=>
  simp only [H.mine,Option.some.injEq,Prod.mk.injEq] at he
  obtain ⟨rfl,rfl⟩:=he
  simpa only [HRel] using r
 |_=>cases he
/-- An owned slice, as owned data. -/
theorem own_rep' (r:R B w0 Dm φ σ kp a w) {id off len:Nat} {sz:Nat} {xs:List (List D)} (hx:(hget σ.heap id).mine=some (sz,xs)) (hl:off + len≤xs.length) {u:Value} (ru:VRel φ (NotTop φ σ.heap) w.heap (.sl id off len) u) :
  ∃ F,rep w.heap true (.sl sz ((xs.drop off).take len)) u F∧F.Nodup∧∀ b ∈ F,Owns φ σ.heap id b:=by
 obtain ⟨β,ad,c,e1,e2,e3,e4,e5⟩:=rel_sl ru
 rcases r.hp id with hd|⟨β',e1',hr⟩
 ·rw [hd] at hx;cases hx
 ·rw [e1] at e1';cases e1'
  obtain ⟨hs,hr⟩:=mine_rel hx hr
  obtain ⟨hown,hlive⟩:=H.mine_own hx
  have hlen:((xs.drop off).take len).length=len:=by simp;omega
  simp only [rep]
  by_cases hne:len=0
  ·have h0:(xs.drop off).take len=[]:=List.eq_nil_of_length_eq_zero (by omega)
   rcases e5 with e5|⟨b,e5,e6,e7⟩
   ·exact ⟨[],⟨ad,c,by rw [hlen];exact e2,by omega,e4,.inl ⟨h0,rfl,fun _=>e5.1⟩⟩,List.nodup_nil,by simp⟩
   ·rcases hr with hr|⟨b',r1,r2,r3,r4⟩
    ·rw [e5] at hr;cases hr.1
    ·rw [e5] at r1;cases r1
     rcases Nat.eq_zero_or_pos c with hc0|hc0
     ·exact ⟨[],⟨ad,c,by rw [hlen];exact e2,by omega,e4,.inl ⟨h0,rfl,fun _=>hc0⟩⟩,List.nodup_nil,by simp⟩
     refine ⟨[b],⟨ad,c,by rw [hlen];exact e2,by omega,e4,.inr ⟨b,_,[],e6,rfl,r3.lt,by rw [h0];simp [repE],fun _=>⟨hc0,?_⟩⟩⟩,by simp,?_⟩
     ·obtain ⟨cs,t,c1,c2⟩:=r3
      refine ⟨cs,t,c1,Nat.le_trans ?_ c2⟩
      rw [hs,Nat.add_assoc,← Nat.add_mul]
      exact Nat.add_le_add_left (Nat.mul_le_mul_right _ (Nat.le_of_eq e7)) _
     ·intro x hx';simp only [List.mem_singleton] at hx';subst hx'
      exact ⟨β,e1,.inl ⟨hlive,e5⟩⟩
  ·rcases e5 with e5|⟨b,e5,e6,e7⟩
   ·omega
   ·rcases hr with hr|⟨b',r1,r2,r3,r4⟩
    ·rw [hr.2.1] at hl;simp at hl;omega
    ·rw [e5] at r1;cases r1
     generalize hG:β.nest=G at r4
     have hsplit:xs=xs.take off++((xs.drop off).take len++(xs.drop off).drop len):=by rw [List.take_append_drop,List.take_append_drop]
     have htl:(xs.take off).length=off:=by simp;omega
     rw [hsplit] at r4
     obtain ⟨G1,G2,rfl,k1,k2⟩:=(repE_append _ _ _ _).1 r4
     obtain ⟨G3,G4,rfl,k3,k4⟩:=(repE_append _ _ _ _).1 k2
     rw [htl] at k3
     have ho2:=r.o2 id β e1 hown
     rw [hG] at ho2
     refine ⟨b::G3,⟨ad,c,by rw [hlen];exact e2,by omega,e4,.inr ⟨b,_,G3,e6,rfl,r3.lt,by rw [hs];exact k3,fun _=>⟨by omega,?_⟩⟩⟩,?_,?_⟩
     ·obtain ⟨cs,t,c1,c2⟩:=r3
      refine ⟨cs,t,c1,Nat.le_trans ?_ c2⟩
      rw [hs,Nat.add_assoc,← Nat.add_mul]
      exact Nat.add_le_add_left (Nat.mul_le_mul_right _ (Nat.le_of_eq e7)) _
     ·refine List.nodup_cons.2 ⟨fun hb=>ho2.2 b e5 (by simp [hb]),?_⟩
      have:=ho2.1
      rw [List.nodup_append] at this
      have:=this.2.1
      rw [List.nodup_append] at this
      exact this.1
     ·intro x hx'
      rcases List.mem_cons.1 hx' with rfl|hx'
      ·exact ⟨β,e1,.inl ⟨hlive,e5⟩⟩
      ·exact ⟨β,e1,.inr ⟨hown,by rw [hG];simp [hx']⟩⟩
theorem own_rep (r:R B w0 Dm φ σ kp a w) {id off len:Nat} {sz:Nat} {xs:List (List D)} (hx:hget σ.heap id=.arr sz xs true) (hl:off + len≤xs.length) {u:Value} (ru:VRel φ (NotTop φ σ.heap) w.heap (.sl id off len) u) :
  ∃ F,rep w.heap true (.sl sz ((xs.drop off).take len)) u F∧F.Nodup∧∀ b ∈ F,Owns φ σ.heap id b:=own_rep' r (by rw [hx];rfl) hl ru
theorem toD_rel (r:R B w0 Dm φ σ kp a w) {v:V} {d:D} {ids:List Nat} (h:toD σ.heap v=some (d,ids)) {u:Value} (ru:VRel φ (NotTop φ σ.heap) w.heap v u) :
  ∃ F,rep w.heap true d u F∧F.Nodup∧(∀ b ∈ F,∃ id ∈ ids,Owns φ σ.heap id b)∧∀ id ∈ ids,∃ sz xs,hget σ.heap id=.arr sz xs true:=by
 unfold toD at h
 split at h
 ·split at h
  ·rename_i x hf
   simp only [Option.some.injEq,Prod.mk.injEq] at h
   obtain ⟨rfl,rfl⟩:=h
   simp only [VRel] at ru
   obtain ⟨F,r1,_⟩:=ru
   have:=rep_flat hf r1;subst this
   exact ⟨[],rep_flat_any hf r1,List.nodup_nil,by simp,by simp⟩
  ·cases h
 ·simp only [Option.some.injEq,Prod.mk.injEq] at h
  obtain ⟨rfl,rfl⟩:=h
  simp only [VRel] at ru
  subst ru
  exact ⟨[],⟨none,0,rfl,by simp,by decide,.inl ⟨rfl,rfl,fun _=>rfl⟩⟩,List.nodup_nil,by simp,by simp⟩
 ·rename_i id off len
  split at h
  ·rename_i sz xs hx
   split at h
   ·rename_i hl
    simp only [Option.some.injEq,Prod.mk.injEq] at h
    obtain ⟨rfl,rfl⟩:=h
    obtain ⟨F,k1,k2,k3⟩:=own_rep r hx hl ru
    exact ⟨F,k1,k2,fun b hb=>⟨id,by simp,k3 b hb⟩,by simp [hx]⟩
   ·cases h
  ·cases h
 ·cases h
theorem hget_hupd:∀ (upd:List (Nat×H)) (hs:List H) (i:Nat),(∃ x,(i,x) ∈ upd∧hget (hupd hs upd) i=x)∨((∀ x,(i,x) ∉ upd)∧hget (hupd hs upd) i=hget hs i)
 |[],hs,i=>.inr ⟨by simp,rfl⟩
 |(j,y)::r,hs,i=>by
  rw [hupd]
  rcases hget_hupd r (hput hs j y) i with ⟨x,h1,h2⟩|⟨h1,h2⟩
  ·exact .inl ⟨x,by simp [h1],h2⟩
  ·rw [hget_hput] at h2
   by_cases h:i=j
   ·subst h;rw [if_pos rfl] at h2;exact .inl ⟨y,by simp,h2⟩
   ·rw [if_neg h] at h2
    exact .inr ⟨fun x hx=>by
     rcases List.mem_cons.1 hx with hx|hx
     ·cases hx;exact h rfl
     ·exact h1 x hx,h2⟩
theorem R_mk (r:R B w0 Dm φ σ kp a w) {n:Nat} (hd:hget σ.heap n=.dead) (hn:¬ Dm n) {upd:List (Nat×H)} (hnd:(upd.map (·.1)).Nodup)
  (hu:∀ p ∈ upd,∃ sz xs,hget σ.heap p.1=.arr sz xs true∧(p.2=.dead∨p.2=.ro sz xs)) {β:Blk} {sz:Nat} {xs:List (List D)} (hsz:β.sz=sz) {w':World} (hs:w.heap.size≤w'.heap.size) (hb:Bel B w0 w')
  (hkeep:∀ b,b < w.heap.size→(∀ p ∈ upd,p.2=.dead→∀ β',φ p.1=some β'→β'.blk≠some b)→w'.heap[b]?=w.heap[b]?)
  (hrel:(β.blk=none∧xs=[]∧β.cap=0∧β.nest=[])∨∃ b,β.blk=some b∧xs.length≤β.cap∧roomy w'.heap b (β.off + β.cap * sz)∧repE w'.heap true b β.off sz xs β.nest)
  (htop:∀ b,β.blk=some b→w.heap.size≤b∨∃ p ∈ upd,p.2=.dead∧∃ β',φ p.1=some β'∧β'.blk=some b)
  (hnest:∀ b ∈ β.nest,w.heap.size≤b∨∃ p ∈ upd,Owns φ σ.heap p.1 b) (hndn:β.nest.Nodup) (hbn:∀ b,β.blk=some b→b ∉ β.nest) :
  R B w0 (fun i=>Dm i∨(n≤i∧i < n + 1)) (phiSet φ n β) ⟨σ.tmps,hupd (hput σ.heap n (.arr sz xs true)) upd⟩ kp a w':=by
 have hφn:φ n=none:=by
  cases h:φ n with
  |none=>rfl
  |some β=>exact absurd (r.dm n β h) hn
 have hnu:∀ x,(n,x) ∉ upd:=fun x hx=>by
  obtain ⟨s,ys,h1,_⟩:=hu _ hx
  rw [hd] at h1;cases h1
 have hle:Le φ (phiSet φ n β):=fun i β' hi=>by
  have:i≠n:=fun e=>by subst e;rw [hφn] at hi;cases hi
  exact ⟨β',by simp [phiSet,this,hi],rfl,rfl,rfl,rfl⟩
 have hn':hget (hupd (hput σ.heap n (.arr sz xs true)) upd) n=.arr sz xs true:=by
  rcases hget_hupd upd (hput σ.heap n (.arr sz xs true)) n with ⟨x,h1,_⟩|⟨_,h2⟩
  ·exact absurd h1 (hnu x)
  ·rw [h2,hget_hput,if_pos rfl]
 have hin:∀ i x,(i,x) ∈ upd→hget (hupd (hput σ.heap n (.arr sz xs true)) upd) i=x:=by
  intro i x hx
  rcases hget_hupd upd (hput σ.heap n (.arr sz xs true)) i with ⟨y,h1,h2⟩|⟨h1,_⟩
  ·have:y=x:=by
    have hp:List.Pairwise (fun p q=>p.1≠q.1) upd:=by simpa [List.Nodup,List.pairwise_map] using hnd
    by_cases hxy:y=x
    ·exact hxy
    ·exfalso
     have:=List.Pairwise.forall_of_forall_of_flip (R:=fun p q:Nat×H=>p=q∨p.1≠q.1) (l:=upd) (fun p _=>.inl rfl) (hp.imp fun h=>.inr h) (hp.imp fun h=>.inr (Ne.symm h)) h1 hx
     rcases this with this|this
     ·cases this;exact hxy rfl
     ·exact this rfl
   rw [h2,this]
  ·exact absurd hx (h1 x)
 have hout:∀ i,i≠n→(∀ x,(i,x) ∉ upd)→hget (hupd (hput σ.heap n (.arr sz xs true)) upd) i=hget σ.heap i:=by
  intro i hi hx
  rcases hget_hupd upd (hput σ.heap n (.arr sz xs true)) i with ⟨y,h1,h2⟩|⟨_,h2⟩
  ·exact absurd h1 (hx y)
  ·rw [h2,hget_hput,if_neg hi]
 have hphi:∀ i,i≠n→phiSet φ n β i=φ i:=fun i hi=>by simp [phiSet,hi]
 have hroN:∀ i x,(i,x) ∈ upd→x.live=false∧x.own=false:=by
  intro i x hx
  obtain ⟨s,ys,_,h2⟩:=hu _ hx
  rcases h2 with h2|h2<;>simp only at h2<;>subst h2<;>exact ⟨rfl,rfl⟩
 have hroT:∀ i x,(i,x) ∈ upd→∀ β' b,¬ TopOf x β' b:=by
  intro i x hx β' b ht
  rcases ht with ⟨h,_⟩|⟨h,_⟩
  ·rw [(hroN i x hx).1] at h;cases h
  ·have:=H.shut_own h;rw [(hroN i x hx).2] at this;cases this
 have hown':∀ i,(i=n∨∃ x,(i,x) ∈ upd)→∀ b,Owns (phiSet φ n β) (hupd (hput σ.heap n (.arr sz xs true)) upd) i b→i=n∧(β.blk=some b∨b ∈ β.nest):=by
  rintro i (rfl|⟨x,hx⟩) b ⟨β',h1,h2⟩
  ·simp only [phiSet,if_true,Option.some.injEq] at h1;subst h1
   refine ⟨rfl,?_⟩
   rcases h2 with ⟨_,h2⟩|⟨_,h2⟩
   ·exact .inl h2
   ·exact .inr h2
  ·rw [hin i x hx] at h2
   obtain ⟨k1,k2⟩:=hroN i x hx
   rcases h2 with ⟨h2,_⟩|⟨h2,_⟩
   ·rw [k1] at h2;cases h2
   ·rw [k2] at h2;cases h2
 have hOwnTop:∀ p ∈ upd,∀ β' b,φ p.1=some β'→β'.blk=some b→Owns φ σ.heap p.1 b:=by
  intro p hp β' b h1 h2
  obtain ⟨s,ys,h3,_⟩:=hu p hp
  exact ⟨β',h1,.inl ⟨by rw [h3];rfl,h2⟩⟩
 have hTn:∀ b,b < w.heap.size→NotTop φ σ.heap b→NotTop (phiSet φ n β) (hupd (hput σ.heap n (.arr sz xs true)) upd) b:=by
  intro b hb' ht i β' hi he
  by_cases h:i=n
  ·subst h;simp only [phiSet,if_true,Option.some.injEq] at hi;subst hi
   rw [hn'] at he
   rcases he with ⟨_,he⟩|⟨he,_⟩
   ·rcases htop b he with h1|⟨p,hp,_,β',h1,h2⟩
    ·omega
    ·obtain ⟨s,ys,h3,_⟩:=hu p hp
     exact ht p.1 β' h1 (.inl ⟨by rw [h3];rfl,h2⟩)
   ·cases he
  ·rw [hphi i h] at hi
   by_cases hx:∃ x,(i,x) ∈ upd
   ·obtain ⟨x,hx⟩:=hx
    rw [hin i x hx] at he;exact hroT i x hx _ _ he
   ·rw [hout i h (fun x hx'=>hx ⟨x,hx'⟩)] at he
    exact ht i β' hi he
 refine R_change r (fun i=>i=n∨∃ x,(i,x) ∈ upd) _ _ _ w' (fun i hi=>?_) hle hs (fun b hb' ht=>?_) (fun i hi b ho=>?_) (fun i hi β' h1 b h2=>?_) (fun i j b hi hj h1 h2=>?_) (fun i β' hi h1 hx=>?_) (fun i hi=>?_) (fun i β' hi=>?_) hb
 ·exact ⟨hout i (fun e=>hi (.inl e)) (fun x hx=>hi (.inr ⟨x,hx⟩)),hphi i (fun e=>hi (.inl e))⟩
 ·refine hkeep b hb' fun p hp _ β' h1 h2=>?_
  obtain ⟨s,ys,h3,_⟩:=hu p hp
  exact ht p.1 (.inr ⟨p.2,hp⟩) β' h1 (.inl ⟨by rw [h3];rfl,h2⟩)
 ·obtain ⟨rfl,h1⟩:=hown' i hi b ho
  rcases h1 with h1|h1
  ·rcases htop b h1 with h2|⟨p,hp,_,β',h2,h3⟩
   ·exact .inl h2
   ·exact .inr ⟨p.1,.inr ⟨p.2,hp⟩,hOwnTop p hp β' b h2 h3⟩
  ·rcases hnest b h1 with h2|⟨p,hp,h2⟩
   ·exact .inl h2
   ·exact .inr ⟨p.1,.inr ⟨p.2,hp⟩,h2⟩
 ·have ho:Owns (phiSet φ n β) (hupd (hput σ.heap n (.arr sz xs true)) upd) i b:=TopOf.owns h1 h2
  obtain ⟨rfl,_⟩:=hown' i hi b ho
  simp only [phiSet,if_true,Option.some.injEq] at h1;subst h1
  rw [hn'] at h2
  rcases h2 with ⟨_,h2⟩|⟨h2,_⟩
  ·rcases htop b h2 with h3|⟨p,hp,_,β',h3,h4⟩
   ·exact .inl h3
   ·obtain ⟨s,ys,h5,_⟩:=hu p hp
    exact .inr ⟨p.1,β',.inr ⟨p.2,hp⟩,h3,.inl ⟨by rw [h5];rfl,h4⟩⟩
  ·cases h2
 ·rw [(hown' i hi b h1).1,(hown' j hj b h2).1]
 ·rcases hi with rfl|⟨x,hx'⟩
  ·simp only [phiSet,if_true,Option.some.injEq] at h1;subst h1
   exact ⟨hndn,hbn⟩
  ·rw [hin i x hx',(hroN i x hx').2] at hx;cases hx
 ·rcases hi with rfl|⟨x,hx⟩
  ·refine .inr ⟨β,by simp [phiSet],?_⟩
   rw [hn']
   refine ⟨hsz,?_⟩
   rcases hrel with h1|⟨b,h1,h2,h3,h4⟩
   ·exact .inl h1
   ·exact .inr ⟨b,β.nest,h1,h2,h3,h4,fun _=>rfl,fun h=>by cases h⟩
  ·rw [hin i x hx]
   obtain ⟨s,ys,h1,h2⟩:=hu _ hx
   rcases h2 with h2|h2
   ·exact .inl h2
   ·simp only at h2 h1;subst h2
    have hin':i≠n:=fun e=>by subst e;exact hnu _ hx
    rcases r.hp i with hd'|⟨β',e1,hr⟩
    ·rw [h1] at hd';cases hd'
    ·refine .inr ⟨β',by rw [hphi i hin'];exact e1,?_⟩
     rw [h1] at hr
     obtain ⟨hr1,hr⟩:=hr
     refine ⟨hr1,?_⟩
     rcases hr with hr|⟨b,G,r1,r2,r3,r4,r5,r6⟩
     ·exact .inl hr.2.1
     ·have hG:=r5 rfl
      have hob:Owns φ σ.heap i b:=⟨β',e1,.inl ⟨by rw [h1];rfl,r1⟩⟩
      have hog:∀ g ∈ G,Owns φ σ.heap i g:=fun g hg=>⟨β',e1,.inr ⟨by rw [h1];rfl,hG ▸ hg⟩⟩
      have hk:∀ c,Owns φ σ.heap i c→w'.heap[c]?=w.heap[c]?:=by
       intro c hc
       refine hkeep c (Owns.lt r hc) fun p hp hpd β2 q1 q2=>?_
       have:=r.o1 i p.1 c hc (hOwnTop p hp β2 c q1 q2)
       have h3:=hin p.1 p.2 hp
       rw [← this,hin i _ hx,hpd] at h3;cases h3
      have hT:∀ c,Owns φ σ.heap i c→NotTop (phiSet φ n β) (hupd (hput σ.heap n (.arr sz xs true)) upd) c∨∃ b',β.blk=some b'∧b'=c:=by
       intro c hc
       by_cases hbc:β.blk=some c
       ·exact .inr ⟨c,hbc,rfl⟩
       ·refine .inl fun j β2 hj he=>?_
        by_cases h:j=n
        ·subst h;simp only [phiSet,if_true,Option.some.injEq] at hj;subst hj
         rw [hn'] at he
         rcases he with ⟨_,he⟩|⟨he,_⟩
         ·exact hbc he
         ·cases he
        ·rw [hphi j h] at hj
         by_cases hxj:∃ x,(j,x) ∈ upd
         ·obtain ⟨x,hxj⟩:=hxj
          rw [hin j x hxj] at he;exact hroT j x hxj _ _ he
         ·rw [hout j h (fun x hx'=>hxj ⟨x,hx'⟩)] at he
          have:=r.o1 i j c hc (TopOf.owns hj he)
          exact hxj ⟨_,this ▸ hx⟩
      have hT':∀ c,Owns φ σ.heap i c→NotTop (phiSet φ n β) (hupd (hput σ.heap n (.arr sz xs true)) upd) c:=by
       intro c hc
       rcases hT c hc with h|⟨b',q1,rfl⟩
       ·exact h
       ·exfalso
        rcases htop b' q1 with h3|⟨p,hp,hpd,β2,q2,q3⟩
        ·have:=Owns.lt r hc;omega
        ·have:=r.o1 i p.1 b' hc (hOwnTop p hp β2 b' q2 q3)
         have h3:=hin p.1 p.2 hp
         rw [← this,hin i _ hx,hpd] at h3;cases h3
      exact .inr ⟨b,G,r1,hT' b hob,Nat.lt_of_lt_of_le r3.lt hs,repE_mono hs ys b β'.off s G (hk b hob) (fun g hg=>hk g (hog g hg)) (repE_false _ _ _ _ _ r4),fun g hg=>hT' g (hog g hg)⟩
 ·by_cases h:i=n
  ·exact .inr ⟨by omega,by omega⟩
  ·exact .inl (r.dm i β' (by rw [← hphi i h];exact hi))
/-- An array whose elements are written, out of what is consumed. -/
theorem R_set (r:R B w0 Dm φ σ kp a w) {n:Nat} {upd:List (Nat×H)} (hnd:(upd.map (·.1)).Nodup)
  (hu:∀ p ∈ upd,∃ sz xs,hget σ.heap p.1=.arr sz xs true∧(p.2=.dead∨p.2=.ro sz xs)) {β β0:Blk} {s0:Nat} {ys0:List (List D)} (e0:φ n=some β0) (h0:hget σ.heap n=.arr s0 ys0 true) (hpl:β.blk=β0.blk∧β.off=β0.off∧β.cap=β0.cap∧β.sz=β0.sz) (hnu:∀ x,(n,x) ∉ upd) {sz:Nat} {xs:List (List D)} (hsz:β.sz=sz) {w':World} (hs:w.heap.size≤w'.heap.size) (hb:Bel B w0 w')
  (hkeep:∀ b,b < w.heap.size→β0.blk≠some b→(∀ p ∈ upd,p.2=.dead→∀ β',φ p.1=some β'→β'.blk≠some b)→w'.heap[b]?=w.heap[b]?)
  (hrel:(β.blk=none∧xs=[]∧β.cap=0∧β.nest=[])∨∃ b,β.blk=some b∧xs.length≤β.cap∧roomy w'.heap b (β.off + β.cap * sz)∧repE w'.heap true b β.off sz xs β.nest)
  (hnest:∀ b ∈ β.nest,Owns φ σ.heap n b∨∃ p ∈ upd,Owns φ σ.heap p.1 b) (hndn:β.nest.Nodup) (hbn:∀ b,β.blk=some b→b ∉ β.nest) :
  R B w0 Dm (phiSet φ n β) ⟨σ.tmps,hupd (hput σ.heap n (.arr sz xs true)) upd⟩ kp a w':=by
 have hle:Le φ (phiSet φ n β):=fun i β' hi=>by
  by_cases h:i=n
  ·subst h;rw [e0] at hi;cases hi
   exact ⟨β,by simp [phiSet],hpl.1,hpl.2.1,hpl.2.2.1,hpl.2.2.2⟩
  ·exact ⟨β',by simp [phiSet,h,hi],rfl,rfl,rfl,rfl⟩
 have hn':hget (hupd (hput σ.heap n (.arr sz xs true)) upd) n=.arr sz xs true:=by
  rcases hget_hupd upd (hput σ.heap n (.arr sz xs true)) n with ⟨x,h1,_⟩|⟨_,h2⟩
  ·exact absurd h1 (hnu x)
  ·rw [h2,hget_hput,if_pos rfl]
 have hin:∀ i x,(i,x) ∈ upd→hget (hupd (hput σ.heap n (.arr sz xs true)) upd) i=x:=by
  intro i x hx
  rcases hget_hupd upd (hput σ.heap n (.arr sz xs true)) i with ⟨y,h1,h2⟩|⟨h1,_⟩
  ·have:y=x:=by
    have hp:List.Pairwise (fun p q=>p.1≠q.1) upd:=by simpa [List.Nodup,List.pairwise_map] using hnd
    by_cases hxy:y=x
    ·exact hxy
    ·exfalso
     have:=List.Pairwise.forall_of_forall_of_flip (R:=fun p q:Nat×H=>p=q∨p.1≠q.1) (l:=upd) (fun p _=>.inl rfl) (hp.imp fun h=>.inr h) (hp.imp fun h=>.inr (Ne.symm h)) h1 hx
     rcases this with this|this
     ·cases this;exact hxy rfl
     ·exact this rfl
   rw [h2,this]
  ·exact absurd hx (h1 x)
 have hout:∀ i,i≠n→(∀ x,(i,x) ∉ upd)→hget (hupd (hput σ.heap n (.arr sz xs true)) upd) i=hget σ.heap i:=by
  intro i hi hx
  rcases hget_hupd upd (hput σ.heap n (.arr sz xs true)) i with ⟨y,h1,h2⟩|⟨_,h2⟩
  ·exact absurd h1 (hx y)
  ·rw [h2,hget_hput,if_neg hi]
 have hphi:∀ i,i≠n→phiSet φ n β i=φ i:=fun i hi=>by simp [phiSet,hi]
 have hroN:∀ i x,(i,x) ∈ upd→x.live=false∧x.own=false:=by
  intro i x hx
  obtain ⟨s,ys,_,h2⟩:=hu _ hx
  rcases h2 with h2|h2<;>simp only at h2<;>subst h2<;>exact ⟨rfl,rfl⟩
 have hroT:∀ i x,(i,x) ∈ upd→∀ β' b,¬ TopOf x β' b:=by
  intro i x hx β' b ht
  rcases ht with ⟨h,_⟩|⟨h,_⟩
  ·rw [(hroN i x hx).1] at h;cases h
  ·have:=H.shut_own h;rw [(hroN i x hx).2] at this;cases this
 have hown':∀ i,(i=n∨∃ x,(i,x) ∈ upd)→∀ b,Owns (phiSet φ n β) (hupd (hput σ.heap n (.arr sz xs true)) upd) i b→i=n∧(β.blk=some b∨b ∈ β.nest):=by
  rintro i (rfl|⟨x,hx⟩) b ⟨β',h1,h2⟩
  ·simp only [phiSet,if_true,Option.some.injEq] at h1;subst h1
   refine ⟨rfl,?_⟩
   rcases h2 with ⟨_,h2⟩|⟨_,h2⟩
   ·exact .inl h2
   ·exact .inr h2
  ·rw [hin i x hx] at h2
   obtain ⟨k1,k2⟩:=hroN i x hx
   rcases h2 with ⟨h2,_⟩|⟨h2,_⟩
   ·rw [k1] at h2;cases h2
   ·rw [k2] at h2;cases h2
 have hOwnTop:∀ p ∈ upd,∀ β' b,φ p.1=some β'→β'.blk=some b→Owns φ σ.heap p.1 b:=by
  intro p hp β' b h1 h2
  obtain ⟨s,ys,h3,_⟩:=hu p hp
  exact ⟨β',h1,.inl ⟨by rw [h3];rfl,h2⟩⟩
 have hTn:∀ b,b < w.heap.size→NotTop φ σ.heap b→NotTop (phiSet φ n β) (hupd (hput σ.heap n (.arr sz xs true)) upd) b:=by
  intro b hb' ht i β' hi he
  by_cases h:i=n
  ·subst h;simp only [phiSet,if_true,Option.some.injEq] at hi;subst hi
   rw [hn'] at he
   rcases he with ⟨_,he⟩|⟨he,_⟩
   ·exact ht i β0 e0 (.inl ⟨by rw [h0];rfl,hpl.1 ▸ he⟩)
   ·cases he
  ·rw [hphi i h] at hi
   by_cases hx:∃ x,(i,x) ∈ upd
   ·obtain ⟨x,hx⟩:=hx
    rw [hin i x hx] at he;exact hroT i x hx _ _ he
   ·rw [hout i h (fun x hx'=>hx ⟨x,hx'⟩)] at he
    exact ht i β' hi he
 refine R_change r (fun i=>i=n∨∃ x,(i,x) ∈ upd) _ _ _ w' (fun i hi=>?_) hle hs (fun b hb' ht=>?_) (fun i hi b ho=>?_) (fun i hi β' h1 b h2=>?_) (fun i j b hi hj h1 h2=>?_) (fun i β' hi h1 hx=>?_) (fun i hi=>?_) (fun i β' hi=>?_) hb
 ·exact ⟨hout i (fun e=>hi (.inl e)) (fun x hx=>hi (.inr ⟨x,hx⟩)),hphi i (fun e=>hi (.inl e))⟩
 ·refine hkeep b hb' (fun hbl=>ht n (.inl rfl) β0 e0 (.inl ⟨by rw [h0];rfl,hbl⟩)) fun p hp _ β' h1 h2=>?_
  obtain ⟨s,ys,h3,_⟩:=hu p hp
  exact ht p.1 (.inr ⟨p.2,hp⟩) β' h1 (.inl ⟨by rw [h3];rfl,h2⟩)
 ·obtain ⟨rfl,h1⟩:=hown' i hi b ho
  rcases h1 with h1|h1
  ·exact .inr ⟨i,.inl rfl,β0,e0,.inl ⟨by rw [h0];rfl,hpl.1 ▸ h1⟩⟩
  ·rcases hnest b h1 with h2|⟨p,hp,h2⟩
   ·exact .inr ⟨i,.inl rfl,h2⟩
   ·exact .inr ⟨p.1,.inr ⟨p.2,hp⟩,h2⟩
 ·have ho:Owns (phiSet φ n β) (hupd (hput σ.heap n (.arr sz xs true)) upd) i b:=TopOf.owns h1 h2
  obtain ⟨rfl,_⟩:=hown' i hi b ho
  simp only [phiSet,if_true,Option.some.injEq] at h1;subst h1
  rw [hn'] at h2
  rcases h2 with ⟨_,h2⟩|⟨h2,_⟩
  ·exact .inr ⟨i,β0,.inl rfl,e0,.inl ⟨by rw [h0];rfl,hpl.1 ▸ h2⟩⟩
  ·cases h2
 ·rw [(hown' i hi b h1).1,(hown' j hj b h2).1]
 ·rcases hi with rfl|⟨x,hx'⟩
  ·simp only [phiSet,if_true,Option.some.injEq] at h1;subst h1
   exact ⟨hndn,hbn⟩
  ·rw [hin i x hx',(hroN i x hx').2] at hx;cases hx
 ·rcases hi with rfl|⟨x,hx⟩
  ·refine .inr ⟨β,by simp [phiSet],?_⟩
   rw [hn']
   refine ⟨hsz,?_⟩
   rcases hrel with h1|⟨b,h1,h2,h3,h4⟩
   ·exact .inl h1
   ·exact .inr ⟨b,β.nest,h1,h2,h3,h4,fun _=>rfl,fun h=>by cases h⟩
  ·rw [hin i x hx]
   obtain ⟨s,ys,h1,h2⟩:=hu _ hx
   rcases h2 with h2|h2
   ·exact .inl h2
   ·simp only at h2 h1;subst h2
    have hin':i≠n:=fun e=>by subst e;exact hnu _ hx
    rcases r.hp i with hd'|⟨β',e1,hr⟩
    ·rw [h1] at hd';cases hd'
    ·refine .inr ⟨β',by rw [hphi i hin'];exact e1,?_⟩
     rw [h1] at hr
     obtain ⟨hr1,hr⟩:=hr
     refine ⟨hr1,?_⟩
     rcases hr with hr|⟨b,G,r1,r2,r3,r4,r5,r6⟩
     ·exact .inl hr.2.1
     ·have hG:=r5 rfl
      have hob:Owns φ σ.heap i b:=⟨β',e1,.inl ⟨by rw [h1];rfl,r1⟩⟩
      have hog:∀ g ∈ G,Owns φ σ.heap i g:=fun g hg=>⟨β',e1,.inr ⟨by rw [h1];rfl,hG ▸ hg⟩⟩
      have hk:∀ c,Owns φ σ.heap i c→w'.heap[c]?=w.heap[c]?:=by
       intro c hc
       refine hkeep c (Owns.lt r hc) (fun hc0=>hin' (r.o1 i n c hc ⟨β0,e0,.inl ⟨by rw [h0];rfl,hc0⟩⟩)) fun p hp hpd β2 q1 q2=>?_
       have:=r.o1 i p.1 c hc (hOwnTop p hp β2 c q1 q2)
       have h3:=hin p.1 p.2 hp
       rw [← this,hin i _ hx,hpd] at h3;cases h3
      have hT:∀ c,Owns φ σ.heap i c→NotTop (phiSet φ n β) (hupd (hput σ.heap n (.arr sz xs true)) upd) c∨∃ b',β.blk=some b'∧b'=c:=by
       intro c hc
       by_cases hbc:β.blk=some c
       ·exact .inr ⟨c,hbc,rfl⟩
       ·refine .inl fun j β2 hj he=>?_
        by_cases h:j=n
        ·subst h;simp only [phiSet,if_true,Option.some.injEq] at hj;subst hj
         rw [hn'] at he
         rcases he with ⟨_,he⟩|⟨he,_⟩
         ·exact hbc he
         ·cases he
        ·rw [hphi j h] at hj
         by_cases hxj:∃ x,(j,x) ∈ upd
         ·obtain ⟨x,hxj⟩:=hxj
          rw [hin j x hxj] at he;exact hroT j x hxj _ _ he
         ·rw [hout j h (fun x hx'=>hxj ⟨x,hx'⟩)] at he
          have:=r.o1 i j c hc (TopOf.owns hj he)
          exact hxj ⟨_,this ▸ hx⟩
      have hT':∀ c,Owns φ σ.heap i c→NotTop (phiSet φ n β) (hupd (hput σ.heap n (.arr sz xs true)) upd) c:=by
       intro c hc
       rcases hT c hc with h|⟨b',q1,rfl⟩
       ·exact h
       ·exfalso
        exact hin' (r.o1 i n b' hc ⟨β0,e0,.inl ⟨by rw [h0];rfl,hpl.1 ▸ q1⟩⟩)
      exact .inr ⟨b,G,r1,hT' b hob,Nat.lt_of_lt_of_le r3.lt hs,repE_mono hs ys b β'.off s G (hk b hob) (fun g hg=>hk g (hog g hg)) (repE_false _ _ _ _ _ r4),fun g hg=>hT' g (hog g hg)⟩
 ·by_cases h:i=n
  ·subst h;exact r.dm i β0 e0
  ·exact r.dm i β' (by rw [← hphi i h];exact hi)
end
variable {P:Program} {o:Oper} {g:Bool} {σ:St} {n:Nat} {K:Res→Prop}
section
variable {B:Nat→Prop} {w0:World} {Dm:Nat→Prop} {φ:Phi} {kp:List (V×Value)} {a:Act} {w:World}
/-- A box's cells are written. -/
theorem R_setbox (r:R B w0 Dm φ σ kp a w) {id:Nat} {β:Blk} (e0:φ id=some β) {cells cells':List V} (h0:hget σ.heap id=.box cells) {b:Nat} (hb0:β.blk=some b) {cs':Array Value} {e:TypeId} {w':World}
  (hc:VRels φ (NotTop φ σ.heap) w.heap cells' cs'.toList) (hw:w'.heap[b]?=some (.cells cs' e (0,0))) (hk:∀ c,c≠b→w'.heap[c]?=w.heap[c]?) (hs:w'.heap.size=w.heap.size) (hb:Bel B w0 w') :
  R B w0 Dm φ ⟨σ.tmps,hput σ.heap id (.box cells')⟩ kp a w':=by
 have hT:∀ c,NotTop φ σ.heap c→NotTop φ (hput σ.heap id (.box cells')) c:=by
  intro c ht i β' hi he
  rw [hget_hput] at he
  by_cases h:i=id
  ·subst h;rw [if_pos rfl] at he
   rcases he with ⟨_,he⟩|⟨he,_⟩
   ·exact ht i β' hi (.inl ⟨by rw [h0];rfl,he⟩)
   ·cases he
  ·rw [if_neg h] at he;exact ht i β' hi he
 have hnt:∀ c,NotTop φ σ.heap c→c≠b:=fun c ht hcb=>by subst hcb;exact ht id β e0 (.inl ⟨by rw [h0];rfl,hb0⟩)
 refine R_change r (fun i=>i=id) _ _ _ w' (fun i hi=>⟨by rw [hget_hput,if_neg hi],rfl⟩) (Le.refl φ) (by omega) (fun c _ ht=>hk c fun hcb=>?_) ?_ ?_ (fun i j b hi hj _ _=>hi.trans hj.symm) ?_ ?_ r.dm hb
 ·subst hcb;exact ht id rfl β e0 (.inl ⟨by rw [h0];rfl,hb0⟩)
 ·rintro i rfl c ⟨β',h1,h2⟩
  rw [e0] at h1;cases h1
  rw [hget_hput,if_pos rfl] at h2
  rcases h2 with ⟨_,h2⟩|⟨h2,_⟩
  ·exact .inr ⟨i,rfl,β,e0,.inl ⟨by rw [h0];rfl,h2⟩⟩
  ·cases h2
 ·rintro i rfl β' h1 c h2
  rw [e0] at h1;cases h1
  rw [hget_hput,if_pos rfl] at h2
  rcases h2 with ⟨_,h2⟩|⟨h2,_⟩
  ·exact .inr ⟨i,β,rfl,e0,.inl ⟨by rw [h0];rfl,h2⟩⟩
  ·cases h2
 ·rintro i β' rfl _ hx
  rw [hget_hput,if_pos rfl] at hx;cases hx
 ·rintro i rfl
  refine .inr ⟨β,e0,?_⟩
  rw [hget_hput,if_pos rfl]
  have h00:β.off=0:=by
   rcases r.hp i with hd|⟨β',e1,hr⟩
   ·rw [h0] at hd;cases hd
   ·rw [e0] at e1;cases e1
    rw [h0] at hr;obtain ⟨_,_,_,_,h,_⟩:=hr;exact h
  exact ⟨b,cs',e,hb0,h00,hw,VRels_keep ⟨Le.refl φ,fun c _ ht=>hT c ht,fun c _ ht=>hk c (hnt c ht),by omega⟩ _ _ hc⟩
end
theorem below_alloc {B:Nat→Prop} {w0 w:World} (h:Bel B w0 w) (hB:∀ k,w.heap.size≤k→B k) (o:Obj):Bel B w0 (w.alloc o):=
 h.trans ⟨rfl,rfl,rfl,by simp,fun k hk=>RowKit.Below.heap_alloc _ _ _ (by
  rcases Nat.lt_or_ge k w.heap.size with h|h
  ·exact h
  ·exact absurd (hB k h) hk),fun b n r=>r.mono (RowKit.Below.heap_alloc _ _ _ r.lt)⟩
theorem R_dm {B:Nat→Prop} {w0:World} {Dm Dm':Nat→Prop} {φ:Phi} {kp:List (V×Value)} {a:Act} {w:World} (r:R B w0 Dm φ σ kp a w) (h:∀ i,Dm i→Dm' i):R B w0 Dm' φ σ kp a w:=
 ⟨r.tm,r.kp,r.hp,r.o1,r.o2,r.o3,fun i β e=>h i (r.dm i β e),r.bel,r.bs,r.de,r.gb⟩
theorem mk_ptr {φ:Phi} {T:Nat→Prop} {h:Array Obj} {n b:Nat}:VRel (phiSet φ n ⟨some b,0,0,0,[]⟩) T h (.ptr n 0 0) (.pointer (some ⟨b,0,none⟩)):=by
 simp only [VRel];exact ⟨⟨some b,0,0,0,[]⟩,b,by simp [phiSet],rfl,by simp⟩
/-- An operation that makes a variable. -/
theorem OpOK_box {cells:List V} {cs:Act→Array Value} {e:TypeId} (hrun:∀ (a:Act) (w:World),(execOp a.eval o).run P w=.ok (.value (.pointer (some ⟨w.heap.size,0,none⟩))) (w.alloc (.cells (cs a) e)))
  (hrel:∀ {σ':St} {B:Nat→Prop} {w0:World} {Dm:Nat→Prop} {φ:Phi} {kp:List (V×Value)} {a:Act} {w:World},σ.le σ'→R B w0 Dm φ σ' kp a w→g=true→VRels φ (NotTop φ σ'.heap) w.heap cells (cs a).toList) :
  OpOK P o g σ n ⟨.ptr n 0 0,[.box cells],[]⟩:=by
 intro σ' hle hd B w0 Dm φ kp a w hDm hR hg K Q hK
 unfold Oper.wp
 rw [hrun,Oper.upon_value]
 have h1:=R_box hR (n:=n) (hd n (Nat.le_refl _) (by simp)) (hDm n (Nat.le_refl _) (by simp)) (hrel hle hR hg) (w':=w.alloc (.cells (cs a) e)) rfl (below_alloc hR.bel hR.bs _)
 exact hK _ _ _ (R_put h1 o.dst mk_ptr)
theorem ok_alloc {T:TypeId} (ho:o.op=.alloc T) (h:match zrI P T with|some cells=>K ⟨.ptr n 0 0,[.box cells],[]⟩|none=>False):∃ r,OpOK P o g σ n r∧K r:=by
 split at h
 ·rename_i cells hz
  obtain ⟨i,z,hi,hzv,hr⟩:=zrI_rel hz
  refine ⟨_,OpOK_box (cs:=fun _=>z.cells) (e:=T) (fun a w=>?_) (fun _ _ _=>hr _ _ _),h⟩
  unfold execOp;rw [ho]
  simp [Instr.alloc,zeroValue,typeInfo,hi,hzv,newVar,newRow]
 ·exact h.elim
theorem ok_box {T:TypeId} {x:Operand} (ho:o.op=.box T x) (h:evg g (σ.ev x) fun v=>v.cellsOk=true∧K ⟨.ptr n 0 0,[.box v.cells],[]⟩):∃ r,OpOK P o g σ n r∧K r:=by
 obtain ⟨v,h1,hx⟩:=evg_rel h
 refine ⟨_,OpOK_box (cs:=fun a=>(a.eval x).cells) (e:=T) (fun a w=>?_) (fun hle r hg=>(cells_rel h1.1 (hx _ _ _ _ hg (ev_le hle r x))).1),h1.2⟩
 unfold execOp;rw [ho]
 simp [Instr.box,newVar,newRow]
/-- What a store leaves: the entry's new content, what is consumed. -/
def storeE (P:Program) (hs:List H) (T:TypeId) (p v:V):Option (Prop×List (Nat×H)):=
 match tyI P T,p with
 |some (sz,_),.ptr id idx off=>
  match hget hs id with
  |.box cells=>some (idx=0∧v.cellsOk=true∧v.cells.length=sz∧off + sz≤cells.length,[(id,.box (splice cells off v.cells))])
  |.arr s xs true=>
   match toDs hs v.cells with
   |some (ds,ids)=>some (v.cellsOk=true∧v.cells.length=sz∧idx < xs.length∧off + sz≤((xs[idx]?).getD []).length∧ids.Nodup∧id ∉ ids,(id,.arr s (xs.set idx (splice ((xs[idx]?).getD []) off ds)) true)::ids.map fun i=>(i,match hget hs i with|.arr s ys _=>.ro s ys|x=>x))
   |none=>none
  |.win s pre cells post=>some (idx=pre.length∧v.cellsOk=true∧v.cells.length=sz∧off + sz≤cells.length,[(id,.win s pre (splice cells off v.cells) post)])
  |_=>none
 |_,_=>none
/-- Owned data of values, one by one. -/
def reps (h:Array Obj) (o:Bool):List D→List Value→List Nat→Prop
 |[],us,G=>us=[]∧G=[]
 |d::ds,us,G=>∃ u us' G1 G2,us=u::us'∧G=G1++G2∧rep h o d u G1∧reps h o ds us' G2
theorem reps_repC {h:Array Obj} {o:Bool} {b:Nat}:∀ (ds:List D) (us:List Value) (f:Nat) (G:List Nat),reps h o ds us G→(∀ (j:Nat) (u:Value),us[j]?=some u→cellAt h b (f + j)=some u)→repC h o b f ds G
 |[],us,f,G,r,_=>by simp only [reps] at r;simpa [repC] using r.2
 |d::ds,us,f,G,r,hc=>by
  simp only [reps] at r
  obtain ⟨u,us',G1,G2,rfl,rfl,r1,r2⟩:=r
  simp only [repC]
  refine ⟨u,G1,G2,rfl,by simpa using hc 0 u rfl,r1,reps_repC ds us' (f + 1) G2 r2 fun j v hj=>?_⟩
  rw [show f + 1 + j=f + (j + 1) from by omega];exact hc (j + 1) v (by simpa using hj)
theorem reps_mono {h h':Array Obj} {o:Bool} (hs:h.size≤h'.size):∀ (ds:List D) (us:List Value) (G:List Nat),(∀ g ∈ G,h'[g]?=h[g]?)→reps h o ds us G→reps h' o ds us G
 |[],us,G,_,r=>by simpa [reps] using r
 |d::ds,us,G,hG,r=>by
  simp only [reps] at r ⊢
  obtain ⟨u,us',G1,G2,rfl,rfl,r1,r2⟩:=r
  exact ⟨u,us',G1,G2,rfl,rfl,rep_mono hs d u G1 (fun g hg=>hG g (by simp [hg])) r1,reps_mono hs ds us' G2 (fun g hg=>hG g (by simp [hg])) r2⟩
theorem reps_len {h:Array Obj} {o:Bool}:∀ (ds:List D) (us:List Value) (G:List Nat),reps h o ds us G→us.length=ds.length
 |[],us,G,r=>by simp only [reps] at r;rw [r.1];rfl
 |d::ds,us,G,r=>by
  simp only [reps] at r
  obtain ⟨u,us',G1,G2,rfl,rfl,r1,r2⟩:=r
  simp [reps_len ds us' G2 r2]
section
variable {B:Nat→Prop} {w0:World} {Dm:Nat→Prop} {φ:Phi} {kp:List (V×Value)} {a:Act} {w:World}
theorem toDs_rel (r:R B w0 Dm φ σ kp a w):∀ (vs:List V) (ds:List D) (ids:List Nat) (us:List Value),toDs σ.heap vs=some (ds,ids)→ids.Nodup→VRels φ (NotTop φ σ.heap) w.heap vs us→
  ∃ G,reps w.heap true ds us G∧G.Nodup∧(∀ b ∈ G,∃ id ∈ ids,Owns φ σ.heap id b)∧∀ id ∈ ids,∃ sz xs,hget σ.heap id=.arr sz xs true
 |[],ds,ids,us,e,_,rv=>by
  simp only [toDs,Option.some.injEq,Prod.mk.injEq] at e
  obtain ⟨rfl,rfl⟩:=e
  simp only [VRels] at rv;subst rv
  exact ⟨[],by simp [reps],List.nodup_nil,by simp,by simp⟩
 |v::vs,ds,ids,us,e,hnd,rv=>by
  simp only [VRels] at rv
  obtain ⟨u,us',rfl,rv1,rv2⟩:=rv
  simp only [toDs] at e
  split at e
  ·rename_i d i ds' is e1 e2
   simp only [Option.some.injEq,Prod.mk.injEq] at e
   obtain ⟨rfl,rfl⟩:=e
   rw [List.nodup_append] at hnd
   obtain ⟨F,f1,f2,f3,f4⟩:=toD_rel r e1 rv1
   obtain ⟨G,g1,g2,g3,g4⟩:=toDs_rel r vs ds' is us' e2 hnd.2.1 rv2
   refine ⟨F++G,?_,?_,?_,?_⟩
   ·simp only [reps];exact ⟨u,us',F,G,rfl,rfl,f1,g1⟩
   ·rw [List.nodup_append]
    refine ⟨f2,g2,fun x hx y hy hxy=>?_⟩
    subst hxy
    obtain ⟨p,p1,p2⟩:=f3 x hx
    obtain ⟨q,q1,q2⟩:=g3 x hy
    have:=r.o1 p q x p2 q2
    exact hnd.2.2 p p1 q q1 this
   ·intro b hb
    rcases List.mem_append.1 hb with hb|hb
    ·obtain ⟨p,p1,p2⟩:=f3 b hb;exact ⟨p,by simp [p1],p2⟩
    ·obtain ⟨p,p1,p2⟩:=g3 b hb;exact ⟨p,by simp [p1],p2⟩
   ·intro p hp
    rcases List.mem_append.1 hp with hp|hp
    ·exact f4 p hp
    ·exact g4 p hp
  ·cases e
end
/-- A struct's cells written into a block at a place. -/
theorem run_store {T:TypeId} {sz:Nat} {ag:Bool} (h:tyI P T=some (sz,ag)) {w:World} {b f:Nat} {cs:Array Value} {e:TypeId} (hb:w.heap[b]?=some (.cells cs e (0,0))) {u:Value} (hl:u.cells.size=sz) (hf:f + sz≤cs.size) (h1:∀ x ∈ u.cells.toList,x.oneCell'=true) :
  (storeVar T ⟨b,f,none⟩ u).run P w=.ok () (w.setRow b (splice cs.toList f u.cells.toList).toArray):=by
 obtain ⟨i,hi,hs,_⟩:=tyI_some h
 have:=run_storeCells_at P b f e u.cells.toList 0 cs w hb (by simp;omega) h1
 simp only [Nat.add_zero,List.append_assoc] at this
 simp [storeVar,Go.sizeOf,typeInfo,hi,hs,hl,this,splice]
theorem setRow_size (w:World) (b:Nat) (cs:Array Value):(w.setRow b cs).heap.size=w.heap.size:=by simp [World.setRow]
theorem below_row {B:Nat→Prop} {b:Nat} {w0 w:World} (h:Bel B w0 w) (hb:B b) {old cs:Array Value} {e:TypeId} {fr:Nat×Nat} (hg:w.heap[b]?=some (.cells old e fr)) (hl:old.size≤cs.size):Bel B w0 (w.setRow b cs):=
 h.trans ⟨rfl,rfl,rfl,by simp [World.setRow],fun k hk=>setRow_other w b k cs (fun e=>hk (e ▸ hb)),fun k n r=>by
  by_cases hk:k=b
  ·subst hk
   obtain ⟨c,t,h1,h2⟩:=r
   rw [hg] at h1;cases h1
   exact ⟨cs,e,setRow_heap w k old cs e (0,0) hg,Nat.le_trans h2 hl⟩
  ·exact r.mono (setRow_other w b k cs hk)⟩
variable {P:Program} {o:Oper} {g:Bool} {σ:St} {n:Nat} {K:Res→Prop}
theorem splice_split {α:Type} (c:List α) (off m:Nat):c=c.take off++((c.drop off).take m++c.drop (off + m)):=by
 have h1:=(List.take_append_drop off c).symm
 have h2:=(List.take_append_drop m (c.drop off)).symm
 rw [List.drop_drop] at h2
 rw [← h2];exact h1
/-- An element with some of its cells written anew. -/
theorem repC_splice {h h':Array Obj} {b f off:Nat} {c ds:List D} {G Gd:List Nat} (r:repC h true b f c G) (hl:off + ds.length≤c.length) (hs:h.size≤h'.size) (hG:∀ g ∈ G,h'[g]?=h[g]?)
  (hout:∀ j,j < off∨off + ds.length≤j→cellAt h' b (f + j)=cellAt h b (f + j)) (rd:repC h' true b (f + off) ds Gd) :
  ∃ Ga Gm Gb,G=Ga++(Gm++Gb)∧repC h' true b f (splice c off ds) (Ga++(Gd++Gb)):=by
 rw [splice_split c off ds.length] at r
 obtain ⟨Ga,G2,rfl,r1,r2⟩:=(repC_append _ _ _ _).1 r
 obtain ⟨Gm,Gb,rfl,r3,r4⟩:=(repC_append _ _ _ _).1 r2
 have l1:(c.take off).length=off:=by simp;omega
 have l2:((c.drop off).take ds.length).length=ds.length:=by simp;omega
 rw [l1] at r3 r4
 rw [l2] at r4
 refine ⟨Ga,Gm,Gb,rfl,(repC_append _ _ _ _).2 ⟨Ga,Gd++Gb,rfl,?_,(repC_append _ _ _ _).2 ⟨Gd,Gb,rfl,by rw [l1];exact rd,?_⟩⟩⟩
 ·exact repC_copy _ f f Ga hs (fun x hx=>hG x (by simp [hx])) (fun j hj=>hout j (.inl (by omega))) r1
 ·rw [l1]
  refine repC_copy _ _ _ Gb hs (fun x hx=>hG x (by simp [hx])) (fun j hj=>?_) r4
  rw [Nat.add_assoc,Nat.add_assoc]
  exact hout _ (.inr (by omega))
theorem take_set_drop {α:Type} (xs:List α) (i:Nat) (c:α) (h:i < xs.length):xs.set i c=xs.take i++(c::xs.drop (i + 1)):=by
 rw [List.set_eq_take_append_cons_drop,if_pos h]
theorem toD_ids {hs:List H} {v:V} {d:D} {ids:List Nat} (h:toD hs v=some (d,ids)):∀ i ∈ ids,∃ s ys,hget hs i=.arr s ys true:=by
 unfold toD at h
 split at h
 ·split at h
  ·simp only [Option.some.injEq,Prod.mk.injEq] at h;obtain ⟨_,rfl⟩:=h;simp
  ·cases h
 ·simp only [Option.some.injEq,Prod.mk.injEq] at h;obtain ⟨_,rfl⟩:=h;simp
 ·rename_i id off len
  split at h
  ·rename_i sz xs hx
   split at h
   ·simp only [Option.some.injEq,Prod.mk.injEq] at h;obtain ⟨_,rfl⟩:=h
    intro i hi;simp only [List.mem_singleton] at hi;subst hi;exact ⟨_,_,hx⟩
   ·cases h
  ·cases h
 ·cases h
theorem toDs_ids {hs:List H}:∀ (vs:List V) (ds:List D) (ids:List Nat),toDs hs vs=some (ds,ids)→∀ i ∈ ids,∃ s ys,hget hs i=.arr s ys true
 |[],ds,ids,h=>by simp only [toDs,Option.some.injEq,Prod.mk.injEq] at h;obtain ⟨_,rfl⟩:=h;simp
 |v::vs,ds,ids,h=>by
  simp only [toDs] at h
  split at h
  ·rename_i d i ds' is e1 e2
   simp only [Option.some.injEq,Prod.mk.injEq] at h
   obtain ⟨_,rfl⟩:=h
   intro j hj
   rcases List.mem_append.1 hj with hj|hj
   ·exact toD_ids e1 j hj
   ·exact toDs_ids vs ds' is e2 j hj
  ·cases h
theorem toD_le {σ σ':St} (hle:σ.le σ') {v:V} {r:D×List Nat} (h:toD σ.heap v=some r):toD σ'.heap v=some r:=by
 cases v<;>simp only [toD] at h ⊢<;>try exact h
 rename_i id off len
 split at h
 ·rename_i sz xs hx
  rcases hle.2 id with hh|hh
  ·rw [hx] at hh;cases hh
  ·rw [hh,hx];exact h
 ·cases h
theorem toDs_le {σ σ':St} (hle:σ.le σ'):∀ (vs:List V) (r:List D×List Nat),toDs σ.heap vs=some r→toDs σ'.heap vs=some r
 |[],_,h=>h
 |v::vs,r,h=>by
  simp only [toDs] at h ⊢
  split at h
  ·rename_i d i ds' is e1 e2
   rw [toD_le hle e1,toDs_le hle vs _ e2];exact h
  ·cases h
theorem cellAt_row {w:World} {b f:Nat} {cs:Array Value} {e:TypeId} (hb:w.heap[b]?=some (.cells cs e (0,0))) {us:List Value} (hl:f + us.length≤cs.size) (j:Nat) :
  cellAt (w.setRow b (splice cs.toList f us).toArray).heap b j=if f≤j∧j < f + us.length then us[j - f]? else cellAt w.heap b j:=by
 have hnew:=setRow_heap w b cs (splice cs.toList f us).toArray e (0,0) hb
 unfold cellAt
 rw [hnew,hb]
 simp only [List.getElem?_toArray]
 unfold splice
 have htl:(cs.toList.take f).length=f:=by simp;omega
 by_cases h1:j < f
 ·rw [List.getElem?_append_left (by omega),if_neg (by omega),List.getElem?_take,if_pos h1,Array.getElem?_toList]
 ·rw [List.getElem?_append_right (by omega),htl]
  by_cases h2:j < f + us.length
  ·rw [if_pos ⟨by omega,h2⟩,List.getElem?_append_left (by omega)]
  ·rw [if_neg (by omega),List.getElem?_append_right (by omega),List.getElem?_drop,Array.getElem?_toList]
   congr 1;omega
theorem splice_get {l:List Value} {off:Nat} {vs:List Value} (h:off + vs.length≤l.length) (j:Nat):(splice l off vs)[j]?=if off≤j∧j < off + vs.length then vs[j - off]? else l[j]?:=by
 unfold splice
 have htl:(l.take off).length=off:=by simp;omega
 by_cases h1:j < off
 ·rw [List.getElem?_append_left (by omega),if_neg (by omega),List.getElem?_take,if_pos h1]
 ·rw [List.getElem?_append_right (by omega),htl]
  by_cases h2:j < off + vs.length
  ·rw [if_pos ⟨by omega,h2⟩,List.getElem?_append_left (by omega)]
  ·rw [if_neg (by omega),List.getElem?_append_right (by omega),List.getElem?_drop]
   congr 1;omega
theorem splice_size {cs:Array Value} {f:Nat} {us:List Value} (h:f + us.length≤cs.size):cs.size≤(splice cs.toList f us).toArray.size:=by
 have:=splice_len (l:=cs.toList) (off:=f) (vs:=us) (by simpa using h)
 simp only [List.size_toArray,this,Array.length_toList];exact Nat.le_refl _
theorem ok_store {T:TypeId} {p x:Operand} (ho:o.op=.store T p x)
  (h:evg g (σ.ev p) fun q=>evg g (σ.ev x) fun v=>match storeE P σ.heap T q (fixT P T v) with|some (c,upd)=>c∧K ⟨.junk,[],upd⟩|none=>False):∃ r,OpOK P o g σ n r∧K r:=by
 obtain ⟨q,h1,hp⟩:=evg_rel h
 obtain ⟨v,h2,hx⟩:=evg_rel h1
 clear h h1
 split at h2
 ·rename_i c upd hE
  obtain ⟨hc,hK⟩:=h2
  refine ⟨_,?_,hK⟩
  intro σ' hle _ B w0 Dm φ kp a w _ hR hg K' Q hK'
  have rp:=hp _ _ _ _ hg (ev_le hle hR p)
  have rx:VRel φ (NotTop φ σ'.heap) w.heap (fixT P T v) (a.eval x):=fixT_rel (hx _ _ _ _ hg (ev_le hle hR x))
  generalize fixT P T v=v' at hE rx
  clear hp hx
  have fin:∀ (w':World) (φ':Phi),(storeVar T (match a.eval p with|.pointer (some ad)=>ad|_=>⟨0,0,none⟩) (a.eval x)).run P w=.ok () w'→(∃ ad,a.eval p=.pointer (some ad))→
    R B w0 Dm φ' ⟨σ'.tmps,hupd σ'.heap upd⟩ kp a w'→o.wp P a w K' Q:=by
   rintro w' φ' hrun ⟨ad,had⟩ hR'
   have hex:(execOp a.eval o).run P w=.ok .skip w':=by
    rw [had] at hrun
    unfold execOp;rw [ho]
    simp [Instr.storeAt,had,Instr.sureAddr,hrun]
   unfold Oper.wp
   rw [hex,Oper.upon_skip]
   exact hK' undef w' φ' (R_put (R_dm hR' fun i hi=>.inl hi) o.dst (v:=.junk) (by simp [VRel]))
  unfold storeE at hE
  split at hE
  ·rename_i sz ag id idx off hty
   simp only [VRel] at rp
   obtain ⟨β,b,e1,e2,e3⟩:=rp
   have hh:=hle.2 id
   split at hE
   ·
    rename_i cells hcell
    simp only [Option.some.injEq,Prod.mk.injEq] at hE
    obtain ⟨rfl,rfl⟩:=hE
    obtain ⟨c1,c2,c3,c4⟩:=hc
    have hc':hget σ'.heap id=.box cells:=by
     rcases hh with hh|hh
     ·rw [hcell] at hh;cases hh
     ·rw [hh,hcell]
    rcases hR.hp id with hd|⟨β',e1',hr⟩
    ·rw [hc'] at hd;cases hd
    ·rw [e1] at e1';cases e1'
     rw [hc'] at hr
     obtain ⟨b',cs,e,r1,r2,r3,r4⟩:=hr
     rw [e2] at r1;cases r1
     obtain ⟨k1,k2⟩:=cells_rel c2 rx
     have hlv:=VRels_len _ _ k1
     have hlc:=VRels_len _ _ r4
     have hsz:(a.eval x).cells.size=sz:=by rw [← Array.length_toList,hlv];exact c3
     have hoff:β.off + idx * β.sz + off=off:=by rw [r2,c1];simp
     rw [hoff] at e3
     have hrun:=run_store hty r3 hsz (f:=off) (by rw [← Array.length_toList,hlc];exact c4) k2
     have hnew:=setRow_heap w b cs (splice cs.toList off (a.eval x).cells.toList).toArray e (0,0) r3
     have hB:B b:=hR.o3 id b ⟨β,e1,.inl ⟨by rw [hc'];rfl,e2⟩⟩
     refine fin _ φ (by rw [e3];exact hrun) ⟨_,e3⟩ ?_
     exact R_setbox hR e1 hc' e2 (cells':=splice cells off v'.cells) (by simpa using VRels_splice r4 k1 off) hnew (fun c hcb=>setRow_other w b c _ hcb) (setRow_size _ _ _) (below_row hR.bel hB r3 (splice_size (by rw [Array.length_toList,hsz,← Array.length_toList (xs:=cs),hlc];exact c4)))
   ·
    rename_i s xs hcell
    split at hE
    ·rename_i ds ids hds
     simp only [Option.some.injEq,Prod.mk.injEq] at hE
     obtain ⟨rfl,rfl⟩:=hE
     obtain ⟨c1,c2,c3,c4,c5,c6⟩:=hc
     have hc':hget σ'.heap id=.arr s xs true:=by
      rcases hh with hh|hh
      ·rw [hcell] at hh;cases hh
      ·rw [hh,hcell]
     rcases hR.hp id with hd|⟨β',e1',hr⟩
     ·rw [hc'] at hd;cases hd
     ·rw [e1] at e1';cases e1'
      rw [hc'] at hr
      obtain ⟨hsz,hr⟩:=hr
      rcases hr with hr|⟨b',G,r1,r2,r3,r4,r5,r6⟩
      ·rw [hr.2.1] at c3;simp at c3
      ·rw [e2] at r1;cases r1
       have hG:=r5 rfl
       obtain ⟨cs,e,q1,q2⟩:=r3
       obtain ⟨k1,k2⟩:=cells_rel c1 rx
       have hlv:=VRels_len _ _ k1
       have hus:(a.eval x).cells.size=sz:=by rw [← Array.length_toList,hlv];exact c2
       obtain ⟨Gd,d1,d2,d3,d4⟩:=toDs_rel hR _ _ _ _ (toDs_le hle _ _ hds) c5 k1
       have hdl:ds.length=sz:=by rw [← reps_len _ _ _ d1,hlv];exact c2
       obtain ⟨c,hci⟩:∃ c,xs[idx]?=some c:=⟨_,List.getElem?_eq_getElem c3⟩
       simp only [hci,Option.getD_some] at c4 fin
       obtain ⟨G1,Gi,G2,hGs,m1,m2,m3,m4⟩:=repE_at r4 hci
       have hf:β.off + idx * s + off + sz≤cs.size:=by
        have h3:(idx + 1) * s≤β.cap * s:=Nat.mul_le_mul_right _ (by omega)
        rw [Nat.add_mul] at h3;omega
       rw [hsz] at e3
       have hrun:=run_store hty q1 hus (f:=β.off + idx * s + off) hf k2
       have hul:(a.eval x).cells.toList.length=sz:=by rw [Array.length_toList];exact hus
       have hcell':=cellAt_row q1 (us:=(a.eval x).cells.toList) (f:=β.off + idx * s + off) (by rw [hul];exact hf)
       generalize hw':w.setRow b (splice cs.toList (β.off + idx * s + off) (a.eval x).cells.toList).toArray=w' at hrun hcell'
       have hsize:w'.heap.size=w.heap.size:=by rw [← hw'];exact setRow_size _ _ _
       have hother:∀ c,c≠b→w'.heap[c]?=w.heap[c]?:=fun c hcb=>by rw [← hw'];exact setRow_other w b c _ hcb
       have hnew:w'.heap[b]?=some (.cells (splice cs.toList (β.off + idx * s + off) (a.eval x).cells.toList).toArray e (0,0)):=by rw [← hw'];exact setRow_heap w b cs _ e (0,0) q1
       have hob:Owns φ σ'.heap id b:=⟨β,e1,.inl ⟨by rw [hc'];rfl,e2⟩⟩
       have hB:B b:=hR.o3 id b hob
       have hogi:∀ g ∈ G,Owns φ σ'.heap id g:=fun g hg=>⟨β,e1,.inr ⟨by rw [hc'];rfl,hG ▸ hg⟩⟩
       have ho2:=hR.o2 id β e1 (by rw [hc'];rfl)
       rw [← hG] at ho2
       have hgb:∀ g ∈ G,g≠b:=fun g hg hgb=>ho2.2 b e2 (hgb ▸ hg)
       have hdb:∀ g ∈ Gd,g≠b:=fun g hg hgb=>by
        obtain ⟨i,i1,i2⟩:=d3 g hg
        have:=hR.o1 i id b (hgb ▸ i2) hob
        exact c6 (this ▸ i1)
       have hkG:∀ g ∈ G,w'.heap[g]?=w.heap[g]?:=fun g hg=>hother g (hgb g hg)
       have hkD:∀ g ∈ Gd,w'.heap[g]?=w.heap[g]?:=fun g hg=>hother g (hdb g hg)
       have hrd:repC w'.heap true b (β.off + idx * s + off) ds Gd:=reps_repC _ _ _ _ (reps_mono (by omega) _ _ _ hkD d1) fun j u hj=>by
        have hjl:j < (a.eval x).cells.toList.length:=(List.getElem?_eq_some_iff.1 hj).1
        rw [hcell',if_pos ⟨by omega,by omega⟩]
        rw [show β.off + idx * s + off + j - (β.off + idx * s + off)=j from by omega];exact hj
       rw [hGs] at hkG
       obtain ⟨Ga,Gm,Gb,hGi,n1⟩:=repC_splice (h':=w'.heap) (off:=off) m3 (by rw [hdl];exact c4) (by omega) (fun g hg=>hkG g (by simp [hg])) (fun j hj=>by
        rw [hcell',if_neg (by rw [hul,← hdl];omega)]) hrd
       have hset:repE w'.heap true b β.off s (xs.set idx (splice c off ds)) (G1++((Ga++(Gd++Gb))++G2)):=by
        rw [take_set_drop xs idx _ c3]
        have htl:(xs.take idx).length=idx:=by simp;omega
        refine (repE_append _ _ _ _).2 ⟨G1,_,rfl,?_,?_⟩
        ·refine repE_copy _ _ _ _ _ (by omega) (fun g hg=>hkG g (by simp [hg])) (fun j hj=>?_) m2
         rw [htl] at hj
         rw [hcell',if_neg (by omega)]
        ·rw [htl]
         simp only [repE]
         refine ⟨_,_,rfl,by rw [splice_len (by rw [hdl];exact c4)];exact m1,n1,?_⟩
         have h4:β.off + idx * s + s=β.off + (idx + 1) * s:=by rw [Nat.add_mul];omega
         rw [h4]
         refine repE_copy _ _ _ _ _ (by omega) (fun g hg=>hkG g (by simp [hg])) (fun j hj=>?_) m4
         rw [hcell',if_neg (by rw [← h4,hul];omega)]
       have hids:=toDs_ids _ _ _ hds
       refine fin w' (phiSet φ id { β with nest:=G1++((Ga++(Gd++Gb))++G2) }) (by rw [e3];exact hrun) ⟨_,e3⟩ ?_
       have hnd2:(G1++((Ga++(Gm++Gb))++G2)).Nodup:=by rw [← hGi,← hGs];exact ho2.1
       have hdisj:∀ x ∈ Gd,x ∉ G:=fun y hy hyG=>by
        obtain ⟨i,i1,i2⟩:=d3 y hy
        have:=hR.o1 i id y i2 (hogi y hyG)
        exact c6 (this ▸ i1)
       rw [hGs,hGi] at hdisj hogi
       refine R_set hR (n:=id) (β:={ β with nest:=G1++((Ga++(Gd++Gb))++G2) }) (β0:=β) (upd:=ids.map fun i=>(i,match hget σ.heap i with|.arr s ys _=>.ro s ys|x=>x)) ?_ ?_ e1 hc' ⟨rfl,rfl,rfl,rfl⟩ ?_ hsz (by omega) ?_ ?_ ?_ ?_ ?_ ?_
       ·rw [List.map_map]
        have:((fun x:Nat×H=>x.1) ∘ fun i=>(i,match hget σ.heap i with|.arr s ys _=>H.ro s ys|x=>x))=(fun i:Nat=>i):=rfl
        rw [this,List.map_id'];exact c5
       ·intro p hp
        obtain ⟨i,i1,rfl⟩:=List.mem_map.1 hp
        obtain ⟨s',ys',i2⟩:=hids i i1
        obtain ⟨s2,ys2,i3⟩:=d4 i i1
        refine ⟨s2,ys2,i3,.inr ?_⟩
        rcases hle.2 i with h5|h5
        ·rw [i2] at h5;cases h5
        ·rw [← h5,i3]
       ·intro y hy
        obtain ⟨i,i1,i2⟩:=List.mem_map.1 hy
        simp only [Prod.mk.injEq] at i2
        exact c6 (i2.1 ▸ i1)
       ·rw [← hw'];exact below_row hR.bel hB q1 (splice_size (by rw [hul];exact hf))
       ·intro c' _ hne _
        exact hother c' fun hcb=>hne (hcb ▸ e2)
       ·exact .inr ⟨b,e2,by simpa using r2,⟨_,e,hnew,by
         have:(splice cs.toList (β.off + idx * s + off) (a.eval x).cells.toList).length=cs.toList.length:=splice_len (by rw [hul];simpa using hf)
         simp only [List.size_toArray,this,Array.length_toList];exact q2⟩,hset⟩
       ·intro g hg
        simp only [List.mem_append] at hg
        rcases hg with hg|(hg|hg|hg)|hg
        ·exact .inl (hogi g (by simp [hg]))
        ·exact .inl (hogi g (by simp [hg]))
        ·obtain ⟨i,i1,i2⟩:=d3 g hg
         exact .inr ⟨(i,_),List.mem_map.2 ⟨i,i1,rfl⟩,i2⟩
        ·exact .inl (hogi g (by simp [hg]))
        ·exact .inl (hogi g (by simp [hg]))
       ·simp only [List.nodup_append,List.mem_append] at hnd2 hdisj ⊢
        grind
       ·intro b' hb'
        simp only at hb'
        rw [e2] at hb';cases hb'
        intro hb2
        simp only [List.mem_append] at hb2
        rcases hb2 with hg|(hg|hg|hg)|hg
        ·exact hgb _ (by rw [hGs,hGi];simp [hg]) rfl
        ·exact hgb _ (by rw [hGs,hGi];simp [hg]) rfl
        ·exact hdb _ hg rfl
        ·exact hgb _ (by rw [hGs,hGi];simp [hg]) rfl
        ·exact hgb _ (by rw [hGs,hGi];simp [hg]) rfl
    ·cases hE
   ·
    rename_i s pre cells post hcell
    simp only [Option.some.injEq,Prod.mk.injEq] at hE
    obtain ⟨rfl,rfl⟩:=hE
    obtain ⟨c1,c2,c3,c4⟩:=hc
    have hc':hget σ'.heap id=.win s pre cells post:=by
     rcases hh with hh|hh
     ·rw [hcell] at hh;cases hh
     ·rw [hh,hcell]
    rcases hR.hp id with hd|⟨β',e1',hr⟩
    ·rw [hc'] at hd;cases hd
    ·rw [e1] at e1';cases e1'
     rw [hc'] at hr
     obtain ⟨hs,hcl,b',G1,G2,us,r1,r2,r3,r4,r5,r6,r7,r8⟩:=hr
     rw [e2] at r1;cases r1
     obtain ⟨cs,e,q1,q2⟩:=r3
     obtain ⟨k1,k2⟩:=cells_rel c2 rx
     have hlv:=VRels_len _ _ k1
     have hlc:=VRels_len _ _ r6
     have hsz:(a.eval x).cells.size=sz:=by rw [← Array.length_toList,hlv];exact c3
     have hf:β.off + pre.length * s + off + sz≤cs.size:=by
      have h3:(pre.length + 1) * s≤β.cap * s:=Nat.mul_le_mul_right _ (by omega)
      rw [Nat.add_mul] at h3;omega
     rw [c1,hs] at e3
     have hrun:=run_store hty q1 hsz (f:=β.off + pre.length * s + off) hf k2
     have hul:(a.eval x).cells.toList.length=sz:=by rw [Array.length_toList];exact hsz
     have hcell':=cellAt_row q1 (us:=(a.eval x).cells.toList) (f:=β.off + pre.length * s + off) (by rw [hul];exact hf)
     generalize hw':w.setRow b (splice cs.toList (β.off + pre.length * s + off) (a.eval x).cells.toList).toArray=w' at hrun hcell'
     have hsize:w'.heap.size=w.heap.size:=by rw [← hw'];exact setRow_size _ _ _
     have hother:∀ c,c≠b→w'.heap[c]?=w.heap[c]?:=fun c hcb=>by rw [← hw'];exact setRow_other w b c _ hcb
     have hnew:w'.heap[b]?=some (.cells (splice cs.toList (β.off + pre.length * s + off) (a.eval x).cells.toList).toArray e (0,0)):=by rw [← hw'];exact setRow_heap w b cs _ e (0,0) q1
     have hB:B b:=hR.o3 id b ⟨β,e1,.inl ⟨by rw [hc'];rfl,e2⟩⟩
     have ho2:=hR.o2 id β e1 (by rw [hc'];rfl)
     have hgb:∀ g ∈ β.nest,w'.heap[g]?=w.heap[g]?:=fun g hg=>hother g fun hgb=>ho2.2 b e2 (hgb ▸ hg)
     rw [r4] at hgb
     have hT:∀ c,NotTop φ σ'.heap c→NotTop φ (hput σ'.heap id (.win s pre (splice cells off v'.cells) post)) c:=by
      intro c ht i β' hi he
      rw [hget_hput] at he
      by_cases h:i=id
      ·subst h;rw [if_pos rfl] at he
       exact ht i β' hi (by rw [hc'];exact he)
      ·rw [if_neg h] at he;exact ht i β' hi he
     have hnt:∀ c,NotTop φ σ'.heap c→c≠b:=fun c ht hcb=>by subst hcb;exact ht id β e1 (.inl ⟨by rw [hc'];rfl,e2⟩)
     refine fin _ φ (by rw [e3];exact hrun) ⟨_,e3⟩ ?_
     refine R_change hR (fun i=>i=id) _ _ _ w' (fun i hi=>⟨by show hget (hput σ'.heap id _) i=_;rw [hget_hput,if_neg hi],rfl⟩) (Le.refl φ) (by omega) (fun c _ ht=>hother c fun hcb=>?_) ?_ ?_ (fun i j b hi hj _ _=>hi.trans hj.symm) ?_ ?_ hR.dm
      (by rw [← hw'];exact below_row hR.bel hB q1 (splice_size (by rw [hul];exact hf)))
     ·subst hcb;exact ht id rfl β e1 (.inl ⟨by rw [hc'];rfl,e2⟩)
     ·rintro i rfl c ⟨β',h1,h2⟩
      rw [e1] at h1;cases h1
      change (((hget (hput σ'.heap i _) i).live=true∧_)∨((hget (hput σ'.heap i _) i).own=true∧_)) at h2
      rw [hget_hput,if_pos rfl] at h2
      exact .inr ⟨i,rfl,β,e1,by rw [hc'];exact h2⟩
     ·rintro i rfl β' h1 c h2
      rw [e1] at h1;cases h1
      change TopOf (hget (hput σ'.heap i _) i) β c at h2
      rw [hget_hput,if_pos rfl] at h2
      exact .inr ⟨i,β,rfl,e1,by rw [hc'];exact h2⟩
     ·rintro i β' rfl h1 _
      rw [e1] at h1;cases h1
      exact ho2
     ·rintro i rfl
      refine .inr ⟨β,e1,?_⟩
      show HRel φ (NotTop φ (hput σ'.heap i _)) w'.heap β (hget (hput σ'.heap i _) i)
      rw [hget_hput,if_pos rfl]
      have hvk:∀ (vs:List V) (us:List Value),VRels φ (NotTop φ σ'.heap) w.heap vs us→VRels φ (NotTop φ (hput σ'.heap i (.win s pre (splice cells off v'.cells) post))) w'.heap vs us:=
       fun vs us hv=>VRels_keep ⟨Le.refl φ,fun c _ ht=>hT c ht,fun c _ ht=>hother c (hnt c ht),by omega⟩ _ _ hv
      refine ⟨hs,?_,b,G1,G2,splice us off (a.eval x).cells.toList,e2,r2,⟨_,e,hnew,?_⟩,r4,?_,hvk _ _ (VRels_splice r6 k1 off),fun j u hj=>?_,?_⟩
      ·rw [splice_len (by rw [c3];omega)];exact hcl
      ·have:(splice cs.toList (β.off + pre.length * s + off) (a.eval x).cells.toList).length=cs.toList.length:=splice_len (by rw [hul];simpa using hf)
       simp only [List.size_toArray,this,Array.length_toList];exact q2
      ·refine repE_copy _ _ _ _ _ (by omega) (fun g hg=>hgb g (by simp [hg])) (fun j hj=>?_) r5
       rw [hcell',if_neg (by omega)]
      ·rw [hcell',hul]
       have hus:off + sz≤us.length:=by rw [hlc];exact c4
       have hsp:=splice_get (l:=us) (off:=off) (vs:=(a.eval x).cells.toList) (by rw [hul];exact hus) j
       rw [hsp,hul] at hj
       by_cases hin:off≤j∧j < off + sz
       ·rw [if_pos hin] at hj
        rw [if_pos (by omega),show β.off + pre.length * s + j - (β.off + pre.length * s + off)=j - off from by omega]
        exact hj
       ·rw [if_neg hin] at hj
        rw [if_neg (by omega)]
        exact r7 j u hj
      ·refine repE_copy _ _ _ _ _ (by omega) (fun g hg=>hgb g (by simp [hg])) (fun j hj=>?_) r8
       rw [hcell',if_neg (by rw [hul,Nat.add_mul];omega)]
   ·cases hE
  ·cases hE
 ·exact h2.elim
variable {P:Program} {o:Oper} {g:Bool} {σ:St} {n:Nat} {K:Res→Prop}
/-- A row's cells as values. -/
theorem repE_vals {h:Array Obj} {bl:Bool} {b:Nat}:∀ (cs:List (List D)) (f sz:Nat) (G:List Nat),repE h bl b f sz cs G→∃ us:List Value,us.length=cs.length * sz∧(∀ (j:Nat) (u:Value),us[j]?=some u→cellAt h b (f + j)=some u)∧∀ u ∈ us,u.oneCell'=true
 |[],f,sz,G,_=>⟨[],by simp,by simp,by simp⟩
 |c::cs,f,sz,G,r=>by
  simp only [repE] at r
  obtain ⟨G1,G2,rfl,e2,e3,e4⟩:=r
  obtain ⟨us,u1,u2,u3⟩:=repC_vals c f G1 e3
  obtain ⟨vs,v1,v2,v3⟩:=repE_vals cs (f + sz) sz G2 e4
  refine ⟨us++vs,by rw [List.length_append,u1,v1,e2,List.length_cons,Nat.add_mul];omega,fun j u hj=>?_,fun u hu=>?_⟩
  ·rw [List.getElem?_append] at hj
   split at hj
   ·exact u2 j u hj
   ·rename_i hge
    have:=v2 _ u hj
    rw [show f + sz + (j - us.length)=f + j from by rw [u1,e2] at *;omega] at this
    exact this
  ·rcases List.mem_append.1 hu with hu|hu
   ·obtain ⟨j,hj,rfl⟩:=List.getElem_of_mem hu
    obtain ⟨Gj,_,k2⟩:=u3 j c[j] us[j] (List.getElem?_eq_getElem (by omega)) (List.getElem?_eq_getElem hj)
    exact oneCell_rep k2
   ·exact v3 u hu
theorem run_append_room' {w:World} (t ty e:TypeId) (i:TypeInfo) (ht:P.underlying t=some (.slice e)) (hi:P.info? e=some i) (b f sLen sCap:Nat) (cur:Array Value) (te:TypeId) (hg:w.heap[b]?=some (.cells cur te (0,0)))
  (m:Nat) (src:Value) (news:List Value) (hl:Builtin.lenOf src=(pure m:Sem Nat)) (hf:(Builtin.firstCells i.size m src).run P w=.ok news.toArray w) (h1:∀ u ∈ news,u.oneCell'=true) (hroom:sLen + m≤sCap) (hfit:f + sLen * i.size + news.length≤cur.size) :
  (Builtin.append_ #[t,t] ty #[.slice (some ⟨b,f,none⟩) sLen sCap,src]).run P w=.ok (.slice (some ⟨b,f,none⟩) (sLen + m) sCap) (w.setRow b (splice cur.toList (f + sLen * i.size) news).toArray):=by
 have hst:=run_storeCells_at P b (f + sLen * i.size) te news 0 cur w hg (by simpa using hfit) h1
 simp only [Nat.add_zero,List.append_assoc] at hst
 simp [Builtin.append_,run_underlying ht,Go.sizeOf,typeInfo,hi,hl,hroom,hf,add_lit,hst,splice]
/-- The source's cells. -/
theorem src_cells {w:World} {ad:Option Addr} {c sz:Nat} {ys:List (List D)} {bl:Bool} (h:ys=[]∨∃ b f G,ad=some ⟨b,f,none⟩∧repE w.heap bl b f sz ys G) :
  ∃ news:List Value,news.length=ys.length * sz∧(∀ w':World,w'.heap=w.heap→(Builtin.firstCells sz ys.length (.slice ad ys.length c)).run P w'=.ok news.toArray w')∧(∀ u ∈ news,u.oneCell'=true) ∧
   (ys≠[]→∃ b f,ad=some ⟨b,f,none⟩∧∀ (j:Nat) (u:Value),news[j]?=some u→cellAt w.heap b (f + j)=some u):=by
 by_cases hne:ys=[]
 ·subst hne
  refine ⟨[],by simp,fun w' _=>?_,by simp,fun h=>absurd rfl h⟩
  cases ad with
  |none=>rfl
  |some ad=>simp [Builtin.firstCells,loadCells,loadCellsFrom]
 ·rcases h with h|⟨b,f,G,rfl,h⟩
  ·exact absurd h hne
  ·obtain ⟨us,u1,u2,u3⟩:=repE_vals _ _ _ _ h
   refine ⟨us,u1,fun w' hw'=>?_,u3,fun _=>⟨b,f,rfl,u2⟩⟩
   have:=run_loadCells_list (P:=P) w' ⟨b,f,none⟩ us (fun j v hj=>by rw [add_lit,cell_eq,hw'];exact u2 j v hj)
   rw [u1] at this
   simpa [Builtin.firstCells] using this
section
variable {B:Nat→Prop} {w0:World} {Dm:Nat→Prop} {φ:Phi} {kp:List (V×Value)} {a:Act} {w:World}
/-- An array made of what lay elsewhere: a new block, whose first cells are these. -/
theorem grown_rep {w':World} {cs:Array Value} {e:TypeId} {b f sz:Nat} {zs:List (List D)} {G:List Nat} {off:Nat} (hh:w'.heap=w.heap.push (.cells cs e)) (hz:repE w.heap true b f sz zs G)
  (hc:∀ j,j < zs.length * sz→cs[off + j]?=cellAt w.heap b (f + j)) (hG:∀ g ∈ G,g < w.heap.size):repE w'.heap true w.heap.size off sz zs G:=by
 refine repE_copy zs f off sz G (by rw [hh];simp) (fun g hg=>?_) (fun j hj=>?_) hz
 ·rw [hh,Array.getElem?_push];simp [Nat.ne_of_lt (hG g hg)]
 ·rw [← hc j hj]
  unfold cellAt
  rw [hh];simp
/-- What is consumed by a source: nothing (its elements are flat), or its own array. -/
def srcE (hs:List H) (sz:Nat) (y:V):Option (List (List D)×List (Nat×H)):=
 match elsOf hs y with
 |some (sz',ys)=>
  if sz'=sz then
   if flatE ys then some (ys,[])
   else match y with
    |.sl id _ _=>match hget hs id with|.arr s zs true=>some (ys,[(id,.ro s zs)])|_=>none
    |_=>none
  else none
 |none=>none
theorem srcE_rel {σ':St} (hle:σ.le σ') (r:R B w0 Dm φ σ' kp a w) {sz:Nat} {y:V} {ys:List (List D)} {cons:List (Nat×H)} (he:srcE σ.heap sz y=some (ys,cons)) {u:Value} (ru:VRel φ (NotTop φ σ'.heap) w.heap y u) :
  ∃ ad c Gs,u=.slice ad ys.length c∧ys.length≤c∧(ys=[]∧Gs=[]∨∃ b f,ad=some ⟨b,f,none⟩∧b < w.heap.size∧repE w.heap true b f sz ys Gs∧∀ k β,φ k=some β→β.blk=some b→(hget σ'.heap k).live=true→∃ off l,y=.sl k off l)∧Gs.Nodup ∧
   (∀ g ∈ Gs,∃ p ∈ cons,Owns φ σ'.heap p.1 g)∧(cons.map (·.1)).Nodup∧(∀ p ∈ cons,∃ s zs,hget σ'.heap p.1=.arr s zs true∧p.2=.ro s zs)∧∀ p ∈ cons,∃ off l,y=.sl p.1 off l:=by
 unfold srcE at he
 split at he
 ·rename_i sz' ys' hel
  split at he
  ·rename_i hsz;subst hsz
   obtain ⟨ad,c,e1,e2,e3,e4⟩:=elsOf_rel hle r hel ru
   have hother:∀ {b f:Nat},ad=some ⟨b,f,none⟩→ys'≠[]→∀ k β,φ k=some β→β.blk=some b→(hget σ'.heap k).live=true→∃ off l,y=.sl k off l:=by
    intro b f had hne k β hk hb hlive
    cases y with
    |sl id off l=>
     obtain ⟨β',ad',c',q1,q2,q3,q4,q5⟩:=rel_sl ru
     rw [e1] at q2
     simp only [Value.slice.injEq] at q2
     rcases q5 with q5|⟨b',q5,q6,q7⟩
     ·exfalso
      have:ys'.length=0:=by omega
      exact hne (List.eq_nil_of_length_eq_zero this)
     ·rw [← q2.1,had] at q6
      simp only [Option.some.injEq,Addr.mk.injEq] at q6
      rw [← q6.1] at q5
      have hels:∃ q,(hget σ.heap id).els=some q:=by
       simp only [elsOf] at hel
       split at hel
       ·exact ⟨_,by assumption⟩
       ·cases hel
      obtain ⟨q,hels⟩:=hels
      have hx:=els_le hle hels
      obtain ⟨β2,p1,p2⟩:=heap_rel r hx
      rw [q1] at p1;cases p1
      cases hh:hget σ'.heap id with
      |dead=>rw [hh] at hx;cases hx
      |box cells=>rw [hh] at hx;cases hx
      |cln _ _=>rw [hh] at hx;cases hx
      |win _ _ _ _=>rw [hh] at hx;cases hx
      |arr s zs nf=>
       have:=r.o1 k id b ⟨β,hk,.inl ⟨hlive,hb⟩⟩ ⟨β',q1,.inl ⟨by rw [hh];rfl,q5⟩⟩
       exact ⟨off,l,by rw [this]⟩
      |ro s zs=>
       rw [hh] at p2
       obtain ⟨_,p2⟩:=p2
       rcases p2 with p2|⟨b2,G,t1,t2,t3,t4,t5⟩
       ·exfalso
        subst p2
        rw [hh] at hx
        simp only [H.els,Option.some.injEq] at hx
        subst hx
        simp only [elsOf,hels] at hel
        split at hel
        ·simp only [Option.some.injEq,Prod.mk.injEq] at hel
         exact hne (by rw [← hel.2];simp)
        ·cases hel
       ·rw [q5] at t1;cases t1
        exact (t2 k β hk (.inl ⟨hlive,hb⟩)).elim
    |d x=>
     cases x with
     |sl s zs=>
      obtain ⟨ad',c',q1,q2,q3,q4⟩:=rel_dsl ru
      rw [e1] at q1
      simp only [Value.slice.injEq] at q1
      rcases q4 with q4|⟨b',f',G,q4,q5,q6,q7,q8⟩
      ·simp only [elsOf,Option.some.injEq,Prod.mk.injEq] at hel
       exact absurd (hel.2 ▸ q4) hne
      ·rw [← q1.1,had] at q4
       simp only [Option.some.injEq,Addr.mk.injEq] at q4
       exact ((q4.1 ▸ q6) k β hk (.inl ⟨hlive,hb⟩)).elim
     |_=>simp [elsOf] at hel
    |nils s=>
     simp only [elsOf,Option.some.injEq,Prod.mk.injEq] at hel
     exact absurd hel.2.symm hne
    |_=>simp [elsOf] at hel
   split at he
   ·rename_i hf
    simp only [Option.some.injEq,Prod.mk.injEq] at he
    obtain ⟨rfl,rfl⟩:=he
    refine ⟨ad,c,[],e1,e2,?_,List.nodup_nil,by simp,by simp,by simp,by simp⟩
    rcases e4 with e4|⟨b,f,G,e4,e5,e6,e7⟩
    ·exact .inl ⟨e4,rfl⟩
    ·by_cases hne:ys'=[]
     ·exact .inl ⟨hne,rfl⟩
     ·exact .inr ⟨b,f,e4,e5,repE_flat_true _ _ _ _ hf e6,hother e4 hne⟩
   ·split at he
    ·rename_i id off l
     split at he
     ·rename_i s zs hx
      simp only [Option.some.injEq,Prod.mk.injEq] at he
      obtain ⟨rfl,rfl⟩:=he
      have hx':hget σ'.heap id=.arr s zs true:=by
       rcases hle.2 id with hh|hh
       ·rw [hx] at hh;cases hh
       ·rw [hh,hx]
      simp only [elsOf,hx,H.els] at hel
      split at hel
      ·rename_i hb
       simp only [Option.some.injEq,Prod.mk.injEq] at hel
       obtain ⟨rfl,rfl⟩:=hel
       obtain ⟨F,f1,f2,f3⟩:=own_rep r hx' hb ru
       simp only [rep] at f1
       obtain ⟨ad',c',g1,g2,g3,g4⟩:=f1
       refine ⟨ad',c',F.tail,g1,g2,?_,?_,?_,by simp,by simp [hx'],by simp⟩
       ·rw [e1] at g1
        simp only [Value.slice.injEq,true_and] at g1
        rcases g4 with g4|⟨b,f,G,k1,k2,k3,k4,k5⟩
        ·exact .inl ⟨g4.1,by rw [g4.2.1];rfl⟩
        ·subst k2
         by_cases hne:(zs.drop off).take l=[]
         ·rw [hne] at k4;simp only [repE] at k4;subst k4
          exact .inl ⟨hne,rfl⟩
         ·exact .inr ⟨b,f,k1,k3,k4,hother (g1.1.trans k1) hne⟩
       ·exact f2.sublist (List.tail_sublist F)
       ·intro x hx2
        exact ⟨_,List.mem_singleton.2 rfl,f3 x (List.mem_of_mem_tail hx2)⟩
      ·cases hel
     ·cases he
    ·cases he
  ·cases he
 ·cases he
end
def srcNot (id:Nat) (y:V):Bool:=match y with|.sl k _ _=>k != id|_=>true
/-- What append makes: the elements, what is consumed. -/
def apE (P:Program) (hs:List H) (T:TypeId) (x y:V) (n:Nat):Option (Prop×Res):=
 match elI P T with
 |none=>none
 |some (e,sz,by_)=>
  match srcE hs sz y with
  |none=>none
  |some (ys,cons)=>
   match x with
   |.nils _=>some ((zrI P e).map List.length=some sz∧0 < by_∧ys.length * by_≤140737488355328,⟨.sl n 0 ys.length,[.arr sz ys true],cons⟩)
   |.sl id 0 len=>
    match hget hs id with
    |.arr s xs true=>if s=sz then some ((zrI P e).map List.length=some sz∧0 < by_∧len=xs.length∧(xs.length + ys.length) * by_≤140737488355328∧srcNot id y=true,⟨.sl n 0 (xs.length + ys.length),[.arr sz (xs++ys) true],(id,.dead)::cons⟩) else none
    |_=>none
   |_=>none
section
variable {B:Nat→Prop} {w0:World} {Dm:Nat→Prop} {φ:Phi} {kp:List (V×Value)} {a:Act} {w:World}
/-- The base: nothing, or an array of the call's own. -/
structure Base (σ':St) (φ:Phi) (w:World) (sz:Nat) (xs:List (List D)) (upd:List (Nat×H)) (ad:Option Addr) (c:Nat) (G:List Nat):Prop where
 len:xs.length≤c
 mx:c≤maxLen
 nd:G.Nodup
 own:∀ g ∈ G,∃ p ∈ upd,Owns φ σ'.heap p.1 g
 up:upd=[]∨∃ id s ys,upd=[(id,.dead)]∧hget σ'.heap id=.arr s ys true
 at_:(c=0∧xs=[]∧G=[])∨∃ id β b,upd=[(id,.dead)]∧φ id=some β∧β.blk=some b∧ad=some ⟨b,β.off,none⟩∧c=β.cap∧β.sz=sz∧roomy w.heap b (β.off + β.cap * sz)∧repE w.heap true b β.off sz xs G∧b ∉ G
theorem append_nop {t ty e:TypeId} {i:TypeInfo} (ht:P.underlying t=some (.slice e)) (hi:P.info? e=some i) (ad ad':Option Addr) (c':Nat) (w:World) :
  (Builtin.append_ #[t,t] ty #[.slice ad 0 0,.slice ad' 0 c']).run P w=.ok (.slice ad 0 0) w:=by
 have hf:(Builtin.firstCells i.size 0 (.slice ad' 0 c')).run P w=.ok #[] w:=by
  cases ad' with
  |none=>rfl
  |some ad=>simp [Builtin.firstCells,loadCells,loadCellsFrom]
 have hs:(Go.sizeOf e).run P w=Result.ok i.size w:=by simp [Go.sizeOf,typeInfo,hi]
 have hl:(Builtin.lenOf (.slice ad' 0 c')).run P w=.ok 0 w:=rfl
 cases ad<;>simp [Builtin.append_,run_underlying ht,hs,hl,hf,storeCells]
theorem append_core {σ':St} (hR:R B w0 Dm φ σ' kp a w) {n:Nat} (hd:hget σ'.heap n=.dead) (hn:¬ Dm n) {T ty e:TypeId} {i:TypeInfo} {z:Value} (ht:P.underlying T=some (.slice e)) (hi:P.info? e=some i) (hz:i.zero=some z)
  (hzs:z.cells.size=i.size) (hby:0 < i.bytes) {xs ys:List (List D)} (hfit:(xs.length + ys.length) * i.bytes≤140737488355328) {upd cons:List (Nat×H)} {ad ad':Option Addr} {c c':Nat} {G Gs:List Nat} (bs:Base σ' φ w i.size xs upd ad c G)
  (hsrc:ys=[]∧Gs=[]∨∃ b f,ad'=some ⟨b,f,none⟩∧b < w.heap.size∧repE w.heap true b f i.size ys Gs) (gnd:Gs.Nodup) (gown:∀ g ∈ Gs,∃ p ∈ cons,Owns φ σ'.heap p.1 g) (cnd:(cons.map (·.1)).Nodup)
  (cin:∀ p ∈ cons,∃ s zs,hget σ'.heap p.1=.arr s zs true∧p.2=.ro s zs) (cdis:∀ p ∈ cons,∀ q ∈ upd,p.1≠q.1) (hna:∀ b f,ad'=some ⟨b,f,none⟩→ys≠[]→∀ q ∈ upd,∀ β,φ q.1=some β→β.blk≠some b) :
  ∃ w' φ' u,(Builtin.append_ #[T,T] ty #[.slice ad xs.length c,.slice ad' ys.length c']).run P w=.ok u w' ∧
   R B w0 (fun i=>Dm i∨(n≤i∧i < n + 1)) φ' ⟨σ'.tmps,hupd (hput σ'.heap n (.arr i.size (xs++ys) true)) (upd++cons)⟩ kp a w'∧∀ T' h',VRel φ' T' h' (.sl n 0 (xs.length + ys.length)) u:=by
 have hlm:xs.length + ys.length≤maxLen:=by
  have:(xs.length + ys.length) * 1≤(xs.length + ys.length) * i.bytes:=Nat.mul_le_mul_left _ hby
  simp only [maxLen];omega
 have hud:∀ p ∈ upd,p.2=.dead∧∃ s ys,hget σ'.heap p.1=.arr s ys true:=by
  intro p hp
  rcases bs.up with h|⟨id,s,ys',h,h2⟩
  ·rw [h] at hp;cases hp
  ·rw [h] at hp;simp only [List.mem_singleton] at hp;subst hp;exact ⟨rfl,s,ys',h2⟩
 have hnd:((upd++cons).map (·.1)).Nodup:=by
  rw [List.map_append]
  refine List.nodup_append.2 ⟨?_,cnd,?_⟩
  ·rcases bs.up with h|⟨id,s,ys',h,h2⟩<;>rw [h]<;>simp
  ·intro x hx y hy hxy
   obtain ⟨p,hp,rfl⟩:=List.mem_map.1 hx
   obtain ⟨q,hq,rfl⟩:=List.mem_map.1 hy
   exact cdis q hq p hp hxy.symm
 have hu:∀ p ∈ upd++cons,∃ sz xs,hget σ'.heap p.1=.arr sz xs true∧(p.2=.dead∨p.2=.ro sz xs):=by
  intro p hp
  rcases List.mem_append.1 hp with hp|hp
  ·obtain ⟨h1,s,ys',h2⟩:=hud p hp;exact ⟨s,ys',h2,.inl h1⟩
  ·obtain ⟨s,zs,h1,h2⟩:=cin p hp;exact ⟨s,zs,h1,.inr h2⟩
 have gdis:∀ x ∈ G,∀ y ∈ Gs,x≠y:=by
  rintro x hx y hy rfl
  obtain ⟨p,p1,p2⟩:=bs.own x hx
  obtain ⟨q,q1,q2⟩:=gown x hy
  exact cdis q q1 p p1 (hR.o1 _ _ _ q2 p2)
 have hGlt:∀ g ∈ G,g < w.heap.size:=fun g hg=>by obtain ⟨p,_,p2⟩:=bs.own g hg;exact Owns.lt hR p2
 have hGslt:∀ g ∈ Gs,g < w.heap.size:=fun g hg=>by obtain ⟨p,_,p2⟩:=gown g hg;exact Owns.lt hR p2
 have hnodup:(G++Gs).Nodup:=List.nodup_append.2 ⟨bs.nd,gnd,gdis⟩
 have hnest:∀ b ∈ G++Gs,w.heap.size≤b∨∃ p ∈ upd++cons,Owns φ σ'.heap p.1 b:=by
  intro b hb
  rcases List.mem_append.1 hb with hb|hb
  ·obtain ⟨p,p1,p2⟩:=bs.own b hb;exact .inr ⟨p,List.mem_append_left _ p1,p2⟩
  ·obtain ⟨p,p1,p2⟩:=gown b hb;exact .inr ⟨p,List.mem_append_right _ p1,p2⟩
 have hsrc':ys=[]∨∃ b f G,ad'=some ⟨b,f,none⟩∧repE w.heap true b f i.size ys G:=by
  rcases hsrc with h|⟨b,f,h1,_,h2⟩
  ·exact .inl h.1
  ·exact .inr ⟨b,f,Gs,h1,h2⟩
 obtain ⟨news,n1,n2,n3,n4⟩:=src_cells (P:=P) (c:=c') hsrc'
 by_cases hroom:xs.length + ys.length≤c
 ·rcases bs.at_ with ⟨h1,h2,h3⟩|⟨id,β,b,b1,b2,b3,b4,b5,b6,b7,b8,b9⟩
  ·subst h1;subst h2;subst h3
   have h4:ys=[]:=List.eq_nil_of_length_eq_zero (by simp at hroom;simpa using hroom)
   subst h4
   have hGs:Gs=[]:=by
    rcases hsrc with h|⟨b,f,_,_,h⟩
    ·exact h.2
    ·simpa [repE] using h
   refine ⟨w,phiSet φ n ⟨none,0,0,i.size,[]⟩,.slice ad 0 0,append_nop ht hi ad ad' c' w,?_,fun T' h'=>?_⟩
   ·exact R_mk hR hd hn hnd hu rfl (Nat.le_refl _) hR.bel (fun _ _ _=>rfl) (.inl ⟨rfl,rfl,rfl,rfl⟩) (fun b hb=>by cases hb) (fun b hb=>by cases hb) List.nodup_nil (fun b hb=>by cases hb)
   ·simp only [VRel]
    exact ⟨⟨none,0,0,i.size,[]⟩,ad,0,by simp [phiSet],rfl,by decide,.inl ⟨rfl,rfl,rfl⟩⟩
  ·subst b4
   obtain ⟨cs,te,r1,r2⟩:=b7
   have hmul:(xs.length + ys.length) * i.size≤β.cap * i.size:=Nat.mul_le_mul_right _ (Nat.le_trans hroom (Nat.le_of_eq b5))
   have hsplit:(xs.length + ys.length) * i.size=xs.length * i.size + ys.length * i.size:=Nat.add_mul _ _ _
   have hfit':β.off + xs.length * i.size + news.length≤cs.size:=by rw [n1];omega
   have hrun:=run_append_room' (P:=P) (w:=w) T ty e i ht hi b β.off xs.length c cs te r1 ys.length (.slice ad' ys.length c') news rfl (n2 w rfl) n3 hroom hfit'
   have hidm:(id,H.dead) ∈ upd:=by rw [b1];simp
   obtain ⟨_,si,yi,hidarr⟩:=hud _ hidm
   have hob:Owns φ σ'.heap id b:=⟨β,b2,.inl ⟨by rw [hidarr];rfl,b3⟩⟩
   have hoth:∀ b',b'≠b→(w.setRow b (splice cs.toList (β.off + xs.length * i.size) news).toArray).heap[b']?=w.heap[b']?:=fun b' hb'=>setRow_other w b b' _ hb'
   have hcell:=cellAt_row (f:=β.off + xs.length * i.size) r1 hfit'
   have hGb:∀ g ∈ G++Gs,g≠b:=by
    rintro g hg rfl
    rcases List.mem_append.1 hg with hg|hg
    ·exact b9 hg
    ·obtain ⟨p,p1,p2⟩:=gown g hg
     exact cdis p p1 _ hidm (hR.o1 _ _ _ p2 hob)
   refine ⟨_,phiSet φ n { β with nest:=G++Gs },_,hrun,?_,fun T' h'=>?_⟩
   ·refine R_mk hR hd hn hnd hu (β:={ β with nest:=G++Gs }) b6 (by rw [setRow_size];exact Nat.le_refl _) (below_row hR.bel (hR.o3 _ _ hob) r1 (splice_size hfit')) (fun b' _ hb'=>hoth b' fun e=>?_) (.inr ⟨b,b3,?_,?_,?_⟩) (fun b' hb'=>.inr ⟨(id,.dead),List.mem_append_left _ hidm,rfl,β,b2,hb'⟩) hnest hnodup (fun b' hb' hb2=>?_)
    ·exact hb' (id,.dead) (List.mem_append_left _ hidm) rfl β b2 (e ▸ b3)
    ·simp only [List.length_append];omega
    ·refine ⟨_,te,setRow_heap w b cs _ te (0,0) r1,?_⟩
     have:=splice_len (l:=cs.toList) (off:=β.off + xs.length * i.size) (vs:=news) (by simpa using hfit')
     simp only [List.size_toArray,this,Array.length_toList];exact r2
    ·refine (repE_append _ _ _ _).2 ⟨G,Gs,rfl,?_,?_⟩
     ·change repE _ true b β.off i.size xs G
      refine repE_copy xs β.off β.off i.size G (by rw [setRow_size];exact Nat.le_refl _) (fun g hg=>hoth g (hGb g (by simp [hg]))) (fun j hj=>?_) b8
      rw [hcell,if_neg (by omega)]
     ·rcases hsrc with ⟨rfl,rfl⟩|⟨b',f',s1,s2,s3⟩
      ·simp [repE]
      ·change repE _ true b (β.off + xs.length * i.size) i.size ys Gs
       refine repE_copy ys f' _ i.size Gs (by rw [setRow_size];exact Nat.le_refl _) (fun g hg=>hoth g (hGb g (by simp [hg]))) (fun j hj=>?_) s3
       rw [hcell,if_pos ⟨by omega,by rw [n1];omega⟩,show β.off + xs.length * i.size + j - (β.off + xs.length * i.size)=j from by omega]
       have hne:ys≠[]:=fun h=>by rw [h] at hj;simp at hj
       obtain ⟨b2',f2',t1,t2⟩:=n4 hne
       rw [s1] at t1;simp only [Option.some.injEq,Addr.mk.injEq] at t1
       obtain ⟨rfl,rfl,_⟩:=t1
       have hj':j < news.length:=by rw [n1];exact hj
       rw [t2 j news[j] (List.getElem?_eq_getElem hj'),List.getElem?_eq_getElem hj']
    ·simp only at hb' hb2
     rw [b3] at hb';cases hb'
     exact hGb _ hb2 rfl
   ·simp only [VRel]
    refine ⟨{ β with nest:=G++Gs },_,c,by simp [phiSet],rfl,bs.mx,.inr ⟨b,b3,by simp,hroom,by simpa using b5⟩⟩
 ·have hbase:xs=[]∨∃ b f G,ad=some ⟨b,f,none⟩∧repE w.heap true b f i.size xs G:=by
   rcases bs.at_ with ⟨h1,h2,h3⟩|⟨id,β,b,b1,b2,b3,b4,b5,b6,b7,b8,b9⟩
   ·exact .inl h2
   ·exact .inr ⟨b,_,G,b4,b8⟩
  obtain ⟨olds,o1,o2,o3,o4⟩:=src_cells (P:=P) (c:=c) hbase
  have hkind:∃ e',P.underlying T=some (.slice e'):=⟨e,ht⟩
  have hS:Src P i.size T (.slice ad' ys.length c') ys.length news w:=⟨.inl hkind,fun _=>rfl,n2 w rfl,n2 w.drew rfl,n1,n3⟩
  have hrun:=run_append_grow_src (P:=P) w T T ty e i z ht hi hz ad xs.length c olds (o2 w.drew rfl) _ ys.length news hS (by omega) (by simp only [maxLen] at hlm;omega) (growslice_fits (by omega) hfit)
  have hge:=grownCap_ge w (xs.length + ys.length) c e
  have hle:=grownCap_le_maxLen w (xs.length + ys.length) c e hlm
  generalize grownCap w (xs.length + ys.length) c e=gc at hrun hge hle
  have hheap:(w.drew.alloc (.cells ((olds++news).toArray++Builtin.zeroCells z.cells (gc - (xs.length + ys.length))) e)).heap=w.heap.push (.cells ((olds++news).toArray++Builtin.zeroCells z.cells (gc - (xs.length + ys.length))) e):=rfl
  have hcells:∀ j,j < (olds++news).length→((olds++news).toArray++Builtin.zeroCells z.cells (gc - (xs.length + ys.length)))[j]?=(olds++news)[j]?:=by
   intro j hj
   rw [Array.getElem?_append_left (by simpa using hj)];simp
  refine ⟨_,phiSet φ n ⟨some w.heap.size,0,gc,i.size,G++Gs⟩,_,hrun,?_,fun T' h'=>?_⟩
  ·refine R_mk hR hd hn hnd hu rfl (by rw [hheap];simp) ((below_alloc (hR.bel.drew) hR.bs _)) (fun b' hb' _=>by rw [hheap,Array.getElem?_push];simp [Nat.ne_of_lt hb']) (.inr ⟨w.heap.size,rfl,?_,?_,?_⟩) (fun b' hb'=>.inl (by cases hb';exact Nat.le_refl _)) hnest hnodup (fun b' hb' hb2=>?_)
   ·simp only [List.length_append];exact hge
   ·refine ⟨((olds++news).toArray++Builtin.zeroCells z.cells (gc - (xs.length + ys.length))),e,by rw [hheap];simp,?_⟩
    simp only [Array.size_append,List.size_toArray,List.length_append,o1,n1,size_zeroCells,hzs,Nat.zero_add]
    rw [← Nat.add_mul,← Nat.add_mul]
    exact Nat.mul_le_mul_right _ (show gc≤_ from by omega)
   ·refine (repE_append _ _ _ _).2 ⟨G,Gs,rfl,?_,?_⟩
    ·rcases bs.at_ with ⟨h1,rfl,rfl⟩|⟨id,β,b,b1,b2,b3,b4,b5,b6,b7,b8,b9⟩
     ·simp [repE]
     ·refine grown_rep hheap b8 (fun j hj=>?_) hGlt
      have hne:xs≠[]:=fun h=>by rw [h] at hj;simp at hj
      obtain ⟨b2',f2',t1,t2⟩:=o4 hne
      rw [b4] at t1;simp only [Option.some.injEq,Addr.mk.injEq] at t1
      obtain ⟨rfl,rfl,_⟩:=t1
      have hj':j < olds.length:=by rw [o1];exact hj
      rw [Nat.zero_add,hcells j (by simp;omega),List.getElem?_append_left hj',List.getElem?_eq_getElem hj',t2 j olds[j] (List.getElem?_eq_getElem hj')]
    ·rcases hsrc with ⟨rfl,rfl⟩|⟨b',f',s1,s2,s3⟩
     ·simp [repE]
     ·change repE _ true _ (0 + xs.length * i.size) i.size ys Gs
      refine grown_rep hheap s3 (fun j hj=>?_) hGslt
      have hne:ys≠[]:=fun h=>by rw [h] at hj;simp at hj
      obtain ⟨b2',f2',t1,t2⟩:=n4 hne
      rw [s1] at t1;simp only [Option.some.injEq,Addr.mk.injEq] at t1
      obtain ⟨rfl,rfl,_⟩:=t1
      have hj':j < news.length:=by rw [n1];exact hj
      rw [hcells _ (by simp;omega),List.getElem?_append_right (by omega),show 0 + xs.length * i.size + j - olds.length=j from by omega,List.getElem?_eq_getElem hj',t2 j news[j] (List.getElem?_eq_getElem hj')]
   ·simp only at hb' hb2
    cases hb'
    rcases List.mem_append.1 hb2 with h|h
    ·exact Nat.lt_irrefl _ (hGlt _ h)
    ·exact Nat.lt_irrefl _ (hGslt _ h)
  ·simp only [VRel]
   exact ⟨⟨some w.heap.size,0,gc,i.size,G++Gs⟩,_,gc,by simp [phiSet],rfl,hle,.inr ⟨w.heap.size,rfl,by simp,hge,by simp⟩⟩
end
theorem ok_append {c:Call} {x y:Operand} {T:TypeId} (ho:o.op=.call c) (hc:c={ callee:=.builtin .append,args:=#[x,y],argTypes:=#[T,T] })
  (h:evg g (σ.ev x) fun a=>evg g (σ.ev y) fun b=>match apE P σ.heap T a b n with|some (p,r)=>p∧K r|none=>False):∃ r,OpOK P o g σ n r∧K r:=by
 subst hc
 obtain ⟨va,h1,hx⟩:=evg_rel h
 obtain ⟨vb,h2,hy⟩:=evg_rel h1
 clear h h1
 split at h2
 ·rename_i p r hE
  obtain ⟨hp,hK⟩:=h2
  refine ⟨r,?_,hK⟩
  intro σ' hle hd B w0 Dm φ kp a w hDm hR hg Q1 Q2 hk
  have rx:=hx _ _ _ _ hg (ev_le hle hR x)
  have ry:=hy _ _ _ _ hg (ev_le hle hR y)
  unfold apE at hE
  split at hE
  ·cases hE
  ·rename_i e sz by_ hel
   obtain ⟨i,ht,hi,hsz,hby⟩:=elI_some hel
   split at hE
   ·cases hE
   ·rename_i ys cons hsrc
    obtain ⟨ad',c',Gs,s1,s2,s3,s4,s5,s6,s7,s8⟩:=srcE_rel hle hR hsrc ry
    have key:∀ {xs:List (List D)} {upd:List (Nat×H)} {ad:Option Addr} {c:Nat} {G:List Nat},(zrI P e).map List.length=some sz→0 < by_→(xs.length + ys.length) * by_≤140737488355328→a.eval x=.slice ad xs.length c→Base σ' φ w sz xs upd ad c G→
      (∀ q ∈ upd,∀ off l,vb≠.sl q.1 off l)→(∀ q ∈ upd,(hget σ'.heap q.1).live=true)→r=⟨.sl n 0 (xs.length + ys.length),[.arr sz (xs++ys) true],upd++cons⟩→o.wp P a w Q1 Q2:=by
     intro xs upd ad c G hz hb hf hu hbase hq hql hr
     subst hr
     cases hzr:zrI P e with
     |none=>rw [hzr] at hz;cases hz
     |some vs=>
      rw [hzr] at hz
      obtain ⟨i',z,hi',hz1,hz2⟩:=zrI_rel hzr
      rw [hi] at hi';cases hi'
      have hzl:z.cells.size=i.size:=by
       have:=VRels_len _ _ (hz2 φ (fun _=>True) #[])
       simp only [Option.map_some,Option.some.injEq] at hz
       rw [hsz,← hz,← this];simp
      subst hsz
      obtain ⟨w',φ',u,e1,e2,e3⟩:=append_core (P:=P) (ty:=o.type) hR (n:=n) (hd n (Nat.le_refl _) (by simp)) (hDm n (Nat.le_refl _) (by simp)) ht hi hz1 hzl (by rw [hby];exact hb) (by rw [hby];exact hf) hbase (ad':=ad') (c':=c') (Gs:=Gs)
       (by
        rcases s3 with s3|⟨b,f,t1,t2,t3,_⟩
        ·exact .inl s3
        ·exact .inr ⟨b,f,t1,t2,t3⟩) s4 s5 s6 s7
       (fun p hp q hq' he=>by
        obtain ⟨off,l,h1⟩:=s8 p hp
        exact hq q hq' off l (by rw [h1,he]))
       (fun b f h1 h2 q hq' β h3 h4=>by
        rcases s3 with s3|⟨b',f',t1,t2,t3,t4⟩
        ·exact h2 s3.1
        ·rw [t1] at h1;simp only [Option.some.injEq,Addr.mk.injEq] at h1
         obtain ⟨off,l,h5⟩:=t4 q.1 β h3 (by rw [h1.1];exact h4) (hql q hq')
         exact hq q hq' off l h5)
      unfold Oper.wp
      have hrun:(execOp a.eval o).run P w=.ok (.value u) w':=by
       unfold execOp;rw [ho]
       simp [resolve,invoke,builtin,hu,s1,e1]
      rw [hrun,Oper.upon_value]
      exact hk _ _ _ (R_put e2 o.dst (e3 _ _))
    split at hE
    ·rename_i s
     simp only [Option.some.injEq,Prod.mk.injEq] at hE
     obtain ⟨rfl,rfl⟩:=hE
     simp only [VRel] at rx
     refine key (xs:=[]) (upd:=[]) (G:=[]) hp.1 hp.2.1 (by simpa using hp.2.2) rx ⟨by simp,by decide,List.nodup_nil,by simp,.inl rfl,.inl ⟨rfl,rfl,rfl⟩⟩ (by simp) (by simp) (by simp)
    ·rename_i id len
     split at hE
     ·rename_i s xs hx0
      split at hE
      ·rename_i hs;subst hs
       simp only [Option.some.injEq,Prod.mk.injEq] at hE
       obtain ⟨rfl,rfl⟩:=hE
       obtain ⟨p1,p2,p3,p4,p5⟩:=hp
       have hx':hget σ'.heap id=.arr s xs true:=by
        rcases hle.2 id with hh|hh
        ·rw [hx0] at hh;cases hh
        ·rw [hh,hx0]
       obtain ⟨β,ad,cc,q1,q2,q3,q4,q5⟩:=rel_sl rx
       have hbase:∃ G,Base σ' φ w s xs [(id,.dead)] ad cc G:=by
        have hup:([(id,H.dead)]:List (Nat×H))=[]∨∃ id' s ys,[(id,H.dead)]=[(id',H.dead)]∧hget σ'.heap id'=.arr s ys true:=.inr ⟨id,s,xs,rfl,hx'⟩
        have hnil:cc=0∧len=0→∃ G,Base σ' φ w s xs [(id,.dead)] ad cc G:=fun h0=>
         ⟨[],by omega,q4,List.nodup_nil,by simp,hup,.inl ⟨h0.1,List.eq_nil_of_length_eq_zero (by omega),rfl⟩⟩
        rcases q5 with q5|⟨b,q5,q6,q7⟩
        ·exact hnil ⟨q5.1,q5.2.1⟩
        ·rcases hR.hp id with hd'|⟨β',e1,hr⟩
         ·rw [hx'] at hd';cases hd'
         ·rw [q1] at e1;cases e1
          rw [hx'] at hr;simp only [HRel] at hr
          obtain ⟨hr1,hr⟩:=hr
          rcases hr with hr|⟨b',G,r1,r2,r3,r4,r5,r6⟩
          ·rw [q5] at hr;cases hr.1
          ·rw [q5] at r1;cases r1
           have ho2:=hR.o2 id β q1 (by rw [hx'];rfl)
           have hGn:=r5 trivial
           refine ⟨G,by omega,q4,by rw [hGn];exact ho2.1,fun g hg=>⟨_,List.mem_singleton.2 rfl,β,q1,.inr ⟨by rw [hx'];rfl,by rw [← hGn];exact hg⟩⟩,hup,.inr ⟨id,β,b,rfl,q1,q5,by rw [q6];simp,by omega,hr1,r3,r4,by rw [hGn];exact ho2.2 b q5⟩⟩
       obtain ⟨G,hbase⟩:=hbase
       refine key p1 p2 p4 (by rw [← p3];exact q2) hbase ?_ ?_ rfl
       ·intro q hq off l hv
        simp only [List.mem_singleton] at hq;subst hq
        subst hv
        simp [srcNot] at p5
       ·intro q hq
        simp only [List.mem_singleton] at hq;subst hq
        rw [hx'];rfl
      ·cases hE
     ·cases hE
    ·cases hE
 ·exact h2.elim
variable {P:Program} {o:Oper} {g:Bool} {σ:St} {n:Nat} {K:Res→Prop}
def chunk (sz:Nat):Nat→List D→List (List D)
 |0,_=>[]
 |k + 1,ds=>ds.take sz::chunk sz k (ds.drop sz)
theorem chunk_length (sz:Nat):∀ (k:Nat) (ds:List D),(chunk sz k ds).length=k
 |0,_=>rfl
 |k + 1,ds=>by simp [chunk,chunk_length sz k]
theorem repC_chunk {h:Array Obj} {bl:Bool} {b sz:Nat}:∀ (k f:Nat) (ds:List D) (G:List Nat),ds.length=k * sz→repC h bl b f ds G→repE h bl b f sz (chunk sz k ds) G
 |0,f,ds,G,hl,r=>by
  have:ds=[]:=List.eq_nil_of_length_eq_zero (by simpa using hl)
  subst this
  simpa [chunk,repE,repC] using r
 |k + 1,f,ds,G,hl,r=>by
  rw [Nat.add_mul,Nat.one_mul] at hl
  have e:ds=ds.take sz++ds.drop sz:=(List.take_append_drop sz ds).symm
  rw [e] at r
  obtain ⟨G1,G2,rfl,r1,r2⟩:=(repC_append _ _ _ _).1 r
  have hl1:(ds.take sz).length=sz:=by simp;omega
  rw [hl1] at r2
  simp only [chunk,repE]
  exact ⟨G1,G2,rfl,hl1,r1,repC_chunk k (f + sz) _ G2 (by simp;omega) r2⟩
/-- The elements that parts make, all of them given in order. -/
def bsE (P:Program) (hs:List H) (T:TypeId) (len:Nat) (parts:List (Nat×V)) (n:Nat):Option (Prop×Res):=
 match elI P T with
 |some (e,sz,_)=>
  match vfill (fun i=>some (i * sz,sz)) (List.replicate (len * sz) .junk) parts with
  |some cells=>
   match toDs hs cells with
   |some (ds,ids)=>some ((zrI P e).isSome=true∧ds.length=len * sz∧ids.Nodup∧len * sz≤16777216∧len≤maxLen,⟨.sl n 0 len,[.arr sz (chunk sz len ds) true],ids.map fun i=>(i,match hget hs i with|.arr s ys _=>.ro s ys|x=>x)⟩)
   |none=>some (((zrI P e).isSome=true∧sz=1)∧len≤16777216∧len≤maxLen,⟨.sl n 0 len,[.box cells],[]⟩)
  |none=>none
 |none=>none
theorem rels_junk {φ:Phi} {T:Nat→Prop} {h:Array Obj} (us:List Value):VRels φ T h (List.replicate us.length .junk) us:=by
 refine VRels_mk _ _ (by simp) fun t v u e1 e2=>?_
 rw [List.getElem?_replicate] at e1
 split at e1
 ·cases e1;simp [VRel]
 ·cases e1
theorem run_bs (w:World) {t e:TypeId} (len:Nat) (parts:Array (Nat×Value)) {ie:TypeInfo} {z:Value} (hu:P.underlying t=some (.slice e)) (hie:P.info? e=some ie) (hz:ie.zero=some z)
  (hsmall:len * ie.size≤16777216):∃ us:List Value,us.length=len * ie.size∧∀ cells,Instr.fill (fun i=>some (i * ie.size,ie.size)) us.toArray parts.toList=some cells→
  (Instr.buildSlice t len parts).run P w=.ok (.slice (some ⟨w.heap.size,0,none⟩) len len) (w.alloc (.cells cells e)):=by
 by_cases h0:len * ie.size=0
 ·refine ⟨[],by simp [h0],fun cells h1=>?_⟩
  have hs:(Go.sizeOf e).run P w=Result.ok ie.size w:=by simp [Go.sizeOf,typeInfo,hie]
  simp [Instr.buildSlice,run_underlying hu,hs,h0,Array.range_zero',h1,newRow]
 ·refine ⟨((Array.range (len * ie.size)).map (z.cells[· % z.cells.size]!)).toList,by simp,fun cells h=>?_⟩
  exact run_buildSlice w t e len parts cells ie z hu hie hz (by omega) h0 (by rw [← h,Array.toArray_toList])
section
variable {B:Nat→Prop} {w0:World} {Dm:Nat→Prop} {φ:Phi} {kp:List (V×Value)} {a:Act} {w:World}
/-- A new array in a new block. -/
theorem new_arr {σ':St} (hR:R B w0 Dm φ σ' kp a w) {n:Nat} (hd:hget σ'.heap n=.dead) (hn:¬ Dm n) {upd:List (Nat×H)} (hnd:(upd.map (·.1)).Nodup)
  (hu:∀ p ∈ upd,∃ sz xs,hget σ'.heap p.1=.arr sz xs true∧p.2=.ro sz xs) {cs:Array Value} {e:TypeId} {sz:Nat} {xs:List (List D)} {G:List Nat} (hcs:cs.size=xs.length * sz)
  (hrep:repE (w.heap.push (.cells cs e)) true w.heap.size 0 sz xs G) (gnd:G.Nodup) (gown:∀ b ∈ G,∃ p ∈ upd,Owns φ σ'.heap p.1 b) (hmx:xs.length≤maxLen) :
  ∃ φ',R B w0 (fun i=>Dm i∨(n≤i∧i < n + 1)) φ' ⟨σ'.tmps,hupd (hput σ'.heap n (.arr sz xs true)) upd⟩ kp a (w.alloc (.cells cs e)) ∧
   ∀ T' h',VRel φ' T' h' (.sl n 0 xs.length) (.slice (some ⟨w.heap.size,0,none⟩) xs.length xs.length):=by
 have hheap:(w.alloc (.cells cs e)).heap=w.heap.push (.cells cs e):=rfl
 have hGlt:∀ b ∈ G,b < w.heap.size:=fun b hb=>by obtain ⟨p,_,h⟩:=gown b hb;exact Owns.lt hR h
 refine ⟨phiSet φ n ⟨some w.heap.size,0,xs.length,sz,G⟩,?_,fun T' h'=>?_⟩
 ·refine R_mk hR hd hn hnd (fun p hp=>by obtain ⟨s,ys,h1,h2⟩:=hu p hp;exact ⟨s,ys,h1,.inr h2⟩) rfl (by rw [hheap];simp) (below_alloc hR.bel hR.bs _) (fun b' hb' _=>by rw [hheap,Array.getElem?_push];simp [Nat.ne_of_lt hb']) (.inr ⟨w.heap.size,rfl,Nat.le_refl _,?_,?_⟩) (fun b' hb'=>.inl (by cases hb';exact Nat.le_refl _))
   (fun b hb=>.inr (gown b hb)) gnd (fun b' hb' hb2=>?_)
  ·exact ⟨cs,e,by rw [hheap];simp,by simp [hcs]⟩
  ·rw [hheap];exact hrep
  ·simp only at hb' hb2
   cases hb'
   exact Nat.lt_irrefl _ (hGlt _ hb2)
 ·simp only [VRel]
  exact ⟨⟨some w.heap.size,0,xs.length,sz,G⟩,_,xs.length,by simp [phiSet],rfl,hmx,.inr ⟨w.heap.size,rfl,by simp,Nat.le_refl _,by simp⟩⟩
end
theorem ok_buildSlice {T:TypeId} {len:Nat} {parts:Array (Nat×Operand)} (ho:o.op=.buildSlice T len parts) (h:evParts g σ parts.toList fun ps=>match bsE P σ.heap T len ps n with|some (p,r)=>p∧K r|none=>False) :
  ∃ r,OpOK P o g σ n r∧K r:=by
 obtain ⟨ps,h1,hx⟩:=evParts_inv _ _ h
 clear h
 split at h1
 ·rename_i p r hE
  obtain ⟨hp,hK⟩:=h1
  unfold bsE at hE
  split at hE
  ·rename_i e sz by_ hel
   split at hE
   ·rename_i cells hf
    split at hE
    ·rename_i ds ids hds
     simp only [Option.some.injEq,Prod.mk.injEq] at hE
     obtain ⟨rfl,rfl⟩:=hE
     obtain ⟨p1,p2,p3,p4,p5⟩:=hp
     refine ⟨_,?_,hK⟩
     intro σ' hle hd B w0 Dm φ kp a w hDm hR hg Q1 Q2 hk
     obtain ⟨i,hu,hi,hsz,_⟩:=elI_some hel
     subst hsz
     obtain ⟨vs,hzr⟩:=Option.isSome_iff_exists.1 p1
     obtain ⟨i',z,hi',hz1,_⟩:=zrI_rel hzr
     rw [hi] at hi';cases hi'
     have hps:=hx hle hR hg
     obtain ⟨us,hus,hrun⟩:=run_bs (P:=P) w len (parts.map fun (j,x)=>(j,a.eval x)) hu hi hz1 p4
     obtain ⟨us',k1,k2⟩:=vfill_rel _ ps _ _ us _ hf (by rw [← hus];exact rels_junk us) hps
     have hrun:=hrun us'.toArray (by rw [Array.toList_map];exact k1)
     obtain ⟨G,g1,g2,g3,g4⟩:=toDs_rel hR cells ds ids us' (toDs_le hle _ _ hds) p3 k2
     have hl:us'.length=ds.length:=reps_len _ _ _ g1
     have hup:∀ p ∈ ids.map (fun i=>(i,match hget σ.heap i with|.arr s ys _=>H.ro s ys|x=>x)),∃ sz xs,hget σ'.heap p.1=.arr sz xs true∧p.2=.ro sz xs:=by
      intro p hp
      obtain ⟨j,j1,rfl⟩:=List.mem_map.1 hp
      obtain ⟨s,ys,q⟩:=toDs_ids _ _ _ hds j j1
      refine ⟨s,ys,?_,by simp only [q]⟩
      rcases hle.2 j with hh|hh
      ·rw [q] at hh;cases hh
      ·rw [hh,q]
     obtain ⟨φ',e1,e2⟩:=new_arr (cs:=us'.toArray) (e:=e) (sz:=i.size) (xs:=chunk i.size len ds) (G:=G) hR (n:=n) (hd n (Nat.le_refl _) (by simp)) (hDm n (Nat.le_refl _) (by simp))
      (upd:=ids.map (fun i=>(i,match hget σ.heap i with|.arr s ys _=>H.ro s ys|x=>x))) (by
       rw [List.map_map]
       have:((fun x:Nat×H=>x.1) ∘ fun i=>(i,match hget σ.heap i with|.arr s ys _=>H.ro s ys|x=>x))=(fun i:Nat=>i):=rfl
       rw [this,List.map_id'];exact p3) hup (by simp [chunk_length,hl,p2])
      (by
       refine repC_chunk len 0 ds G p2 (reps_repC ds us' 0 G (reps_mono (by simp) ds us' G (fun x hx=>?_) g1) fun j u hj=>?_)
       ·obtain ⟨q,q1,q2⟩:=g3 x hx
        rw [Array.getElem?_push];simp [Nat.ne_of_lt (Owns.lt hR q2)]
       ·unfold cellAt;simp [hj]) g2
      (fun x hx=>by
       obtain ⟨q,q1,q2⟩:=g3 x hx
       exact ⟨_,List.mem_map.2 ⟨q,q1,rfl⟩,q2⟩) (by rw [chunk_length];exact p5)
     unfold Oper.wp
     have hex:(execOp a.eval o).run P w=.ok (.value (.slice (some ⟨w.heap.size,0,none⟩) len len)) (w.alloc (.cells us'.toArray e)):=by
      unfold execOp;rw [ho];simp [hrun]
     rw [hex,Oper.upon_value]
     rw [chunk_length] at e2
     exact hk _ _ _ (R_put e1 o.dst (e2 _ _))
    ·simp only [Option.some.injEq,Prod.mk.injEq] at hE
     obtain ⟨rfl,rfl⟩:=hE
     obtain ⟨⟨p1,p3⟩,p4,p5⟩:=hp
     subst p3
     refine ⟨_,?_,hK⟩
     intro σ' hle hd B w0 Dm φ kp a w hDm hR hg Q1 Q2 hk
     obtain ⟨i,hu,hi,hsz,_⟩:=elI_some hel
     obtain ⟨vs,hzr⟩:=Option.isSome_iff_exists.1 p1
     obtain ⟨i',z,hi',hz1,_⟩:=zrI_rel hzr
     rw [hi] at hi';cases hi'
     have hps:=hx hle hR hg
     obtain ⟨us,hus,hrun⟩:=run_bs (P:=P) w len (parts.map fun (j,x)=>(j,a.eval x)) hu hi hz1 (by rw [hsz];omega)
     rw [hsz] at hus hrun
     obtain ⟨us',k1,k2⟩:=vfill_rel _ ps _ _ us _ hf (by rw [← hus];exact rels_junk us) hps
     have hrun:=hrun us'.toArray (by rw [Array.toList_map];exact k1)
     have h1:=R_boxc len 1 hR (n:=n) (hd n (Nat.le_refl _) (by simp)) (hDm n (Nat.le_refl _) (by simp)) (cells:=cells) (cs:=us'.toArray) (e:=e) k2 (w':=w.alloc (.cells us'.toArray e)) rfl (below_alloc hR.bel hR.bs _)
     unfold Oper.wp
     have hex:(execOp a.eval o).run P w=.ok (.value (.slice (some ⟨w.heap.size,0,none⟩) len len)) (w.alloc (.cells us'.toArray e)):=by
      unfold execOp;rw [ho];simp [hrun]
     rw [hex,Oper.upon_value]
     refine hk _ _ _ (R_put h1 o.dst ?_)
     simp only [VRel]
     exact ⟨⟨some w.heap.size,0,len,1,[]⟩,_,len,by simp [phiSet],rfl,p5,.inr ⟨w.heap.size,rfl,by simp,Nat.le_refl _,by simp⟩⟩
   ·cases hE
  ·cases hE
 ·exact h1.elim
def zD:V→Option D
 |.d x=>if x.flat then some x else none
 |.nils s=>some (.sl s [])
 |_=>none
def zDs:List V→Option (List D)
 |[]=>some []
 |v::vs=>match zD v,zDs vs with|some d,some ds=>some (d::ds)|_,_=>none
theorem zDs_rel {φ:Phi} {T:Nat→Prop} {h h':Array Obj} {bl:Bool}:∀ (vs:List V) (ds:List D) (us:List Value),zDs vs=some ds→VRels φ T h vs us→reps h' bl ds us []
 |[],ds,us,e,r=>by
  simp only [zDs,Option.some.injEq] at e;subst e
  simp only [VRels] at r;subst r
  simp [reps]
 |v::vs,ds,us,e,r=>by
  simp only [VRels] at r
  obtain ⟨u,us',rfl,r1,r2⟩:=r
  simp only [zDs] at e
  split at e
  ·rename_i d ds' e1 e2
   cases e
   simp only [reps]
   refine ⟨u,us',[],[],rfl,rfl,?_,zDs_rel vs ds' us' e2 r2⟩
   unfold zD at e1
   split at e1
   ·split at e1
    ·rename_i x hf
     cases e1
     simp only [VRel] at r1
     obtain ⟨F,r1,_⟩:=r1
     have:=rep_flat hf r1;subst this
     exact rep_flat_any hf r1
    ·cases e1
   ·cases e1
    simp only [VRel] at r1
    subst r1
    exact ⟨none,0,rfl,by simp,by decide,.inl ⟨rfl,rfl,fun _=>rfl⟩⟩
   ·cases e1
  ·cases e
theorem rep_many {h:Array Obj} {b sz:Nat} {ds:List D} (hl:ds.length=sz):∀ (m f:Nat),(∀ i,i < m→repC h true b (f + i * sz) ds [])→repE h true b f sz (List.replicate m ds) []
 |0,f,_=>by simp [repE]
 |m + 1,f,r=>by
  rw [List.replicate_succ]
  simp only [repE]
  refine ⟨[],[],rfl,hl,by simpa using r 0 (by omega),rep_many hl m (f + sz) fun i hi=>?_⟩
  have:=r (i + 1) (by omega)
  rw [Nat.add_mul,Nat.one_mul] at this
  rw [show f + sz + i * sz=f + (i * sz + sz) from by omega];exact this
def mkE (P:Program) (T:TypeId) (i:Int) (n:Nat):Option (Prop×Res):=
 match elI P T with
 |some (e,sz,by_)=>
  match zrI P e with
  |some zs=>
   match zDs zs with
   |some ds=>some (ds.length=sz∧0 < sz∧0≤i∧(by_:Int) * i≤281474976710656∧i.toNat≤maxLen,⟨.sl n 0 i.toNat,[.arr sz (List.replicate i.toNat ds) true],[]⟩)
   |none=>none
  |none=>none
 |none=>none
theorem ok_makeSlice {T:TypeId} {x:Operand} (ho:o.op=.makeSlice T x x) (h:evg g (σ.ev x) fun v=>asI v fun _ i=>match mkE P T i n with|some (p,r)=>p∧K r|none=>False):∃ r,OpOK P o g σ n r∧K r:=by
 obtain ⟨va,h1,hx⟩:=evg_rel h
 obtain ⟨k,c,rfl,h1⟩:=asI_inv h1
 simp only [asI] at h1
 split at h1
 ·rename_i p r hE
  obtain ⟨hp,hK⟩:=h1
  unfold mkE at hE
  split at hE
  ·rename_i e sz by_ hel
   split at hE
   ·rename_i zs hzr
    split at hE
    ·rename_i ds hds
     simp only [Option.some.injEq,Prod.mk.injEq] at hE
     obtain ⟨rfl,rfl⟩:=hE
     obtain ⟨p1,p2,p3,p4,p5⟩:=hp
     refine ⟨_,?_,hK⟩
     intro σ' hle hd B w0 Dm φ kp a w hDm hR hg Q1 Q2 hk
     obtain ⟨i,hu,hi,hsz,hby⟩:=elI_some hel
     subst hsz;subst hby
     obtain ⟨i',z,hi',hz1,hz2⟩:=zrI_rel hzr
     rw [hi] at hi';cases hi'
     have hreps:=fun h':Array Obj=>zDs_rel (h':=h') (bl:=true) _ _ _ hds (hz2 φ (fun _=>True) #[])
     have hzl:z.cells.size=i.size:=by rw [← Array.length_toList,reps_len _ _ _ (hreps #[]),p1]
     have rx:=(rel_int (hx _ _ _ _ hg (ev_le hle hR x))).1
     have hmk:=run_make (P:=P) w T e i z hu hi hz1 k k c c p3 (Int.le_refl _) p4 (by simp only [maxLen] at p5;omega)
     obtain ⟨φ',e1,e2⟩:=new_arr (cs:=madeCells z.cells (c.toNat * i.size)) (e:=e) (sz:=i.size) (xs:=List.replicate c.toNat ds) (G:=[]) hR (n:=n) (hd n (Nat.le_refl _) (by simp)) (hDm n (Nat.le_refl _) (by simp))
      (upd:=[]) (by simp) (by simp) (by simp [size_madeCells])
      (by
       refine rep_many p1 c.toNat 0 fun m hm=>reps_repC ds z.cells.toList _ [] (hreps _) fun j u hj=>?_
       have hjl:j < i.size:=by
        rw [← hzl]
        rcases Nat.lt_or_ge j z.cells.size with h|h
        ·exact h
        ·rw [List.getElem?_eq_none (by simpa using h)] at hj;cases hj
       have hlt:m * i.size + j < c.toNat * i.size:=by
        have:(m + 1) * i.size≤c.toNat * i.size:=Nat.mul_le_mul_right _ hm
        rw [Nat.add_mul] at this;omega
       have hmod:(m * i.size + j) % z.cells.size=j:=by rw [hzl,Nat.mul_comm,Nat.mul_add_mod,Nat.mod_eq_of_lt hjl]
       have hj':j < z.cells.size:=by rw [hzl];exact hjl
       unfold cellAt
       simp [madeCells,hlt,hmod]
       rw [Array.getElem?_toList] at hj
       rw [Array.getElem?_eq_getElem hj'] at hj
       rw [getElem!_pos z.cells j hj']
       exact Option.some.inj hj) List.nodup_nil (by simp) (by simpa using p5)
     unfold Oper.wp
     have hex:(execOp a.eval o).run P w=.ok (.value (.slice (some ⟨w.heap.size,0,none⟩) c.toNat c.toNat)) (w.alloc (.cells (madeCells z.cells (c.toNat * i.size)) e)):=by
      unfold execOp;rw [ho];simp [rx,hmk]
     rw [hex,Oper.upon_value]
     rw [List.length_replicate] at e2
     exact hk _ _ _ (R_put e1 o.dst (e2 _ _))
    ·cases hE
   ·cases hE
  ·cases hE
 ·exact h1.elim
theorem ok_min {c:Call} {x y:Operand} {T U:TypeId} (ho:o.op=.call c) (hc:c={ callee:=.builtin .min,args:=#[x,y],argTypes:=#[T,U] })
  (h:evg g (σ.ev x) fun a=>evg g (σ.ev y) fun b=>asI a fun k i=>asI b fun k' j=>k=k'∧K (rv (dI k (if j < i then j else i)))):∃ r,OpOK P o g σ n r∧K r:=by
 subst hc
 obtain ⟨va,h1,hx⟩:=evg_rel h
 obtain ⟨vb,h2,hy⟩:=evg_rel h1
 obtain ⟨k,i,rfl,h2⟩:=asI_inv h2
 simp only [asI] at h2
 obtain ⟨k',j,rfl,h2⟩:=asI_inv h2
 obtain ⟨rfl,hK⟩:=h2
 refine ⟨_,OpOK_val fun σ' hle B w0 Dm φ kp a w r hg=>⟨.int k (if j < i then j else i),?_,?_⟩,hK⟩
 ·have rx:=rel_int (hx _ _ _ _ hg (ev_le hle r x))
  have ry:=rel_int (hy _ _ _ _ hg (ev_le hle r y))
  unfold execOp;rw [ho]
  simp [resolve,invoke,builtin,Builtin.min_,Builtin.min2,rx.1,ry.1]
 ·have rx:=rel_int (hx _ _ _ _ hg (ev_le hle r x))
  have ry:=rel_int (hy _ _ _ _ hg (ev_le hle r y))
  exact mk_int (by split<;>omega)
theorem ok_max {c:Call} {x y:Operand} {T U:TypeId} (ho:o.op=.call c) (hc:c={ callee:=.builtin .max,args:=#[x,y],argTypes:=#[T,U] })
  (h:evg g (σ.ev x) fun a=>evg g (σ.ev y) fun b=>asI a fun k i=>asI b fun k' j=>k=k'∧K (rv (dI k (if j > i then j else i)))):∃ r,OpOK P o g σ n r∧K r:=by
 subst hc
 obtain ⟨va,h1,hx⟩:=evg_rel h
 obtain ⟨vb,h2,hy⟩:=evg_rel h1
 obtain ⟨k,i,rfl,h2⟩:=asI_inv h2
 simp only [asI] at h2
 obtain ⟨k',j,rfl,h2⟩:=asI_inv h2
 obtain ⟨rfl,hK⟩:=h2
 refine ⟨_,OpOK_val fun σ' hle B w0 Dm φ kp a w r hg=>⟨.int k (if j > i then j else i),?_,?_⟩,hK⟩
 ·have rx:=rel_int (hx _ _ _ _ hg (ev_le hle r x))
  have ry:=rel_int (hy _ _ _ _ hg (ev_le hle r y))
  unfold execOp;rw [ho]
  simp [resolve,invoke,builtin,Builtin.max_,Builtin.max2,rx.1,ry.1]
 ·have rx:=rel_int (hx _ _ _ _ hg (ev_le hle r x))
  have ry:=rel_int (hy _ _ _ _ hg (ev_le hle r y))
  exact mk_int (by split<;>omega)
def evs (g:Bool) (σ:St):List Operand→(List V→Prop)→Prop
 |[],K=>K []
 |x::r,K=>evg g (σ.ev x) fun v=>evs g σ r fun vs=>K (v::vs)
theorem evs_inv:∀ (xs:List Operand) (K:List V→Prop),evs g σ xs K→∃ vs,K vs∧∀ {σ':St} {B:Nat→Prop} {w0:World} {Dm:Nat→Prop} {φ:Phi} {kp:List (V×Value)} {a:Act} {w:World},σ.le σ'→R B w0 Dm φ σ' kp a w→g=true→
  VRels φ (NotTop φ σ'.heap) w.heap vs (xs.map a.eval)
 |[],K,h=>⟨[],h,fun _ _ _=>by simp [VRels]⟩
 |x::xs,K,h=>by
  simp only [evs] at h
  obtain ⟨v,h1,hx⟩:=evg_rel h
  obtain ⟨vs,hK,hr⟩:=evs_inv xs _ h1
  refine ⟨v::vs,hK,fun hle r hg=>?_⟩
  simp only [List.map_cons,VRels]
  exact ⟨_,_,rfl,hx _ _ _ _ hg (ev_le hle r x),hr hle r hg⟩
theorem ok_makeFunc {f:FuncId} {caps:Array Operand} (ho:o.op=.makeFunc (.func f) #[] caps) (h:evs g σ caps.toList fun vs=>K (rv (.fn f vs))):∃ r,OpOK P o g σ n r∧K r:=by
 obtain ⟨vs,hK,hx⟩:=evs_inv _ _ h
 refine ⟨_,OpOK_val fun σ' hle B w0 Dm φ kp a w r hg=>?_,hK⟩
 refine ⟨.func (.func f) #[] (caps.map a.eval),by unfold execOp;rw [ho];simp [Instr.makeFunc],?_⟩
 simp only [VRel]
 exact ⟨_,rfl,by simpa using hx hle r hg⟩
section
variable {B:Nat→Prop} {w0:World} {Dm:Nat→Prop} {φ:Phi} {kp:List (V×Value)} {a:Act} {w:World} {σ:St}
/-- Some rows are written anew. -/
theorem R_rows (r:R B w0 Dm φ σ kp a w) {id:Nat} {β:Blk} {b s k:Nat} {xs ys:List (List D)} (e0:φ id=some β) (h0:hget σ.heap id=.arr s xs true) (hx:flatE xs=true) (hb:β.blk=some b) (hk:k + ys.length≤xs.length) {us:List Value} (hul:us.length=ys.length * s)
  (hrep:∀ h':Array Obj,w.heap.size≤h'.size→(∀ j,j < us.length→cellAt h' b (β.off + k * s + j)=us[j]?)→repE h' true b (β.off + k * s) s ys []) :
  ∃ cs te,w.heap[b]?=some (.cells cs te (0,0))∧β.off + k * s + us.length≤cs.size ∧
   R B w0 Dm (phiSet φ id { β with nest:=[] }) ⟨σ.tmps,hput σ.heap id (.arr s (xs.take k++(ys++xs.drop (k + ys.length))) true)⟩ kp a (w.setRow b (splice cs.toList (β.off + k * s) us).toArray):=by
 rcases r.hp id with hd|⟨β',e1,hr⟩
 ·rw [h0] at hd;cases hd
 ·rw [e0] at e1;cases e1
  rw [h0] at hr;simp only [HRel] at hr
  obtain ⟨hs,hr⟩:=hr
  rcases hr with hr|⟨b',G,r1,r2,r3,r4,r5,_⟩
  ·rw [hb] at hr;cases hr.1
  ·rw [hb] at r1;cases r1
   have hG:=repE_flat _ _ _ _ hx r4
   subst hG
   obtain ⟨cs,te,q1,q2⟩:=r3
   have hmul:(k + ys.length) * s≤β.cap * s:=Nat.mul_le_mul_right _ (by omega)
   have hadd:(k + ys.length) * s=k * s + ys.length * s:=Nat.add_mul _ _ _
   have hf:β.off + k * s + us.length≤cs.size:=by rw [hul];omega
   have hcell:=cellAt_row (f:=β.off + k * s) q1 hf
   have hsz:(w.setRow b (splice cs.toList (β.off + k * s) us).toArray).heap.size=w.heap.size:=setRow_size _ _ _
   have hB:B b:=r.o3 id b ⟨β,e0,.inl ⟨by rw [h0];rfl,hb⟩⟩
   have h1:=r4
   have h2:=r4
   rw [← List.take_append_drop k xs] at h1
   rw [← List.take_append_drop (k + ys.length) xs] at h2
   obtain ⟨Ga,Gb,ga,a1,a2⟩:=(repE_append _ _ _ _).1 h1
   obtain ⟨Gc,Gd,gc,c1,c2⟩:=(repE_append _ _ _ _).1 h2
   obtain ⟨rfl,rfl⟩:=List.append_eq_nil_iff.1 ga.symm
   obtain ⟨rfl,rfl⟩:=List.append_eq_nil_iff.1 gc.symm
   have htk:(xs.take k).length=k:=by simp;omega
   have htk2:(xs.take (k + ys.length)).length=k + ys.length:=by simp;omega
   rw [htk2,hadd] at c2
   refine ⟨cs,te,q1,hf,?_⟩
   have:=R_set r (n:=id) (β:={ β with nest:=[] }) (β0:=β) (upd:=[]) (by simp) (by simp) e0 h0 ⟨rfl,rfl,rfl,rfl⟩ (by simp) (sz:=s) (xs:=xs.take k++(ys++xs.drop (k + ys.length))) hs (Nat.le_of_eq hsz.symm) (below_row r.bel hB q1 (splice_size hf))
    (fun c _ hne _=>setRow_other w b c _ fun hcb=>hne (hcb ▸ hb))
    (.inr ⟨b,hb,by simp;omega,⟨_,te,setRow_heap w b cs _ te (0,0) q1,by
     have:=splice_len (l:=cs.toList) (off:=β.off + k * s) (vs:=us) (by simpa using hf)
     simp only [List.size_toArray,this,Array.length_toList];exact q2⟩,by
     refine (repE_append _ _ _ _).2 ⟨[],[],rfl,?_,(repE_append _ _ _ _).2 ⟨[],[],rfl,?_,?_⟩⟩
     ·refine repE_copy _ _ _ _ _ (Nat.le_of_eq hsz.symm) (by simp) (fun j hj=>?_) a1
      rw [htk] at hj
      show cellAt _ b (β.off + j)=_
      rw [hcell,if_neg (by omega)]
     ·rw [htk]
      refine hrep _ (Nat.le_of_eq hsz.symm) fun j hj=>?_
      rw [hcell,if_pos (by omega),show β.off + k * s + j - (β.off + k * s)=j from by omega]
     ·rw [htk]
      show repE _ true b (β.off + k * s + ys.length * s) s _ []
      refine repE_copy _ _ _ _ _ (Nat.le_of_eq hsz.symm) (by simp) (fun j hj=>?_) c2
      rw [hcell,if_neg (by rw [hul];omega),Nat.add_assoc β.off]⟩)
    (by simp) List.nodup_nil (by simp)
   exact this
end
variable {P:Program} {o:Oper} {g:Bool} {σ:St} {n:Nat} {K:Res→Prop}
/-- append within one array: what lies from j on moves to i. -/
def inE (P:Program) (hs:List H) (T:TypeId) (x y:V):Option (Prop×Res):=
 match x,y with
 |.sl id 0 i,.sl id' j l=>
  if id=id' then
   match elI P T,hget hs id with
   |some (_,sz,_),.arr s xs true=>if s=sz then some (flatE xs=true∧i + l≤xs.length∧j + l≤xs.length∧0 < xs.length,⟨.sl id 0 (i + l),[],[(id,.arr s (xs.take i++((xs.drop j).take l++xs.drop (i + l))) true)]⟩) else none
   |_,_=>none
  else none
 |_,_=>none
theorem ok_inplace {c:Call} {x y:Operand} {T:TypeId} (ho:o.op=.call c) (hc:c={ callee:=.builtin .append,args:=#[x,y],argTypes:=#[T,T] })
  (h:evg g (σ.ev x) fun a=>evg g (σ.ev y) fun b=>match inE P σ.heap T a b with|some (p,r)=>p∧K r|none=>False):∃ r,OpOK P o g σ n r∧K r:=by
 subst hc
 obtain ⟨va,h1,hx⟩:=evg_rel h
 obtain ⟨vb,h2,hy⟩:=evg_rel h1
 clear h h1
 split at h2
 ·rename_i p r hE
  obtain ⟨hp,hK⟩:=h2
  refine ⟨r,?_,hK⟩
  intro σ' hle hd B w0 Dm φ kp a w hDm hR hg Q1 Q2 hk
  have rx:=hx _ _ _ _ hg (ev_le hle hR x)
  have ry:=hy _ _ _ _ hg (ev_le hle hR y)
  unfold inE at hE
  split at hE
  ·rename_i id i id' j l
   split at hE
   ·rename_i hid;subst hid
    split at hE
    ·rename_i e sz by_ s xs hel hx0
     split at hE
     ·rename_i hs;subst hs
      simp only [Option.some.injEq,Prod.mk.injEq] at hE
      obtain ⟨rfl,rfl⟩:=hE
      obtain ⟨p1,p2,p3,p4⟩:=hp
      obtain ⟨inf,ht,hi,hsz,hby⟩:=elI_some hel
      have hx':hget σ'.heap id=.arr s xs true:=by
       rcases hle.2 id with hh|hh
       ·rw [hx0] at hh;cases hh
       ·rw [hh,hx0]
      obtain ⟨β,ad,cc,q1,q2,q3,q4,q5⟩:=rel_sl rx
      obtain ⟨β',ad',cc',t1,t2,t3,t4,t5⟩:=rel_sl ry
      rw [q1] at t1;cases t1
      rcases hR.hp id with hd'|⟨β',e1,hr⟩
      ·rw [hx'] at hd';cases hd'
      ·rw [q1] at e1;cases e1
       rw [hx'] at hr;simp only [HRel] at hr
       obtain ⟨hr1,hr⟩:=hr
       have hne:xs≠[]:=fun h=>by rw [h] at p4;simp at p4
       rcases hr with hr|⟨b,G,r1,r2,r3,r4,r5,r6⟩
       ·exact absurd hr.2.1 hne
       ·have hG:=repE_flat _ _ _ _ p1 r4
        subst hG
        obtain ⟨b2,u1,u2,u3⟩:∃ b,β.blk=some b∧ad=some ⟨b,β.off + 0 * β.sz,none⟩∧0 + cc=β.cap:=by
         rcases q5 with q5|q5
         ·omega
         ·exact q5
        rw [r1] at u1;cases u1
        rw [Nat.zero_mul,Nat.add_zero] at u2
        subst u2
        have hyl:((xs.drop j).take l).length=l:=by simp;omega
        have hsub:repE w.heap true b (β.off + j * s) s ((xs.drop j).take l) []:=by
         have h1:=r4
         rw [← List.take_append_drop j xs] at h1
         obtain ⟨Ga,Gb,ga,_,a2⟩:=(repE_append _ _ _ _).1 h1
         obtain ⟨rfl,rfl⟩:=List.append_eq_nil_iff.1 ga.symm
         rw [← List.take_append_drop l (xs.drop j)] at a2
         obtain ⟨Ga,Gb,ga,a3,_⟩:=(repE_append _ _ _ _).1 a2
         obtain ⟨rfl,rfl⟩:=List.append_eq_nil_iff.1 ga.symm
         have:(xs.take j).length=j:=by simp;omega
         rw [this] at a3;exact a3
        have hsrc:(xs.drop j).take l=[]∨∃ b f G,ad'=some ⟨b,f,none⟩∧repE w.heap true b f s ((xs.drop j).take l) G:=by
         rcases t5 with t5|⟨b3,v1,v2,_⟩
         ·exact .inl (List.eq_nil_of_length_eq_zero (by rw [hyl];exact t5.2.1))
         ·rw [r1] at v1;cases v1
          exact .inr ⟨b,_,[],v2,by rw [hr1];exact hsub⟩
        obtain ⟨news,n1,n2,n3,n4⟩:=src_cells (P:=P) (c:=cc') hsrc
        rw [hyl] at n2
        have hrows:=R_rows hR (k:=i) (ys:=(xs.drop j).take l) (us:=news) q1 hx' p1 r1 (by rw [hyl];exact p2) n1 (fun h' hs' hc=>by
         by_cases hl:(xs.drop j).take l=[]
         ·rw [hl];simp [repE]
         ·obtain ⟨b3,f3,v1,v2⟩:=n4 hl
          rcases t5 with t5|⟨b4,v3,v4,_⟩
          ·exact absurd (List.eq_nil_of_length_eq_zero (by rw [hyl];exact t5.2.1)) hl
          ·rw [r1] at v3;cases v3
           rw [v4] at v1;simp only [Option.some.injEq,Addr.mk.injEq] at v1
           obtain ⟨rfl,rfl,_⟩:=v1
           refine repE_copy _ _ _ _ _ hs' (by simp) (fun m hm=>?_) hsub
           have hm':m < news.length:=by rw [n1];exact hm
           rw [hc m hm',← hr1,v2 m news[m] (List.getElem?_eq_getElem hm'),List.getElem?_eq_getElem hm'])
        rw [hyl] at hrows
        obtain ⟨cs,te,z1,z2,z3⟩:=hrows
        have hroom:i + l≤cc:=by omega
        have hrun:=run_append_room' (P:=P) (w:=w) T o.type e inf ht hi b β.off i cc cs te z1 l (.slice ad' l cc') news rfl (by rw [hsz];exact n2 w rfl) n3 hroom (by rw [hsz];exact z2)
        rw [hsz] at hrun
        unfold Oper.wp
        have hex:(execOp a.eval o).run P w=.ok (.value (.slice (some ⟨b,β.off,none⟩) (i + l) cc)) (w.setRow b (splice cs.toList (β.off + i * s) news).toArray):=by
         unfold execOp;rw [ho]
         simp [resolve,invoke,builtin,q2,t2,hrun]
        rw [hex,Oper.upon_value]
        have:=R_put z3 o.dst (v:=.sl id 0 (i + l)) (u:=.slice (some ⟨b,β.off,none⟩) (i + l) cc) (by
         simp only [VRel]
         exact ⟨{ β with nest:=[] },_,cc,by simp [phiSet],rfl,q4,.inr ⟨b,r1,by simp,hroom,u3⟩⟩)
        exact hk _ _ _ (R_dm this fun i h=>.inl h)
     ·cases hE
    ·cases hE
   ·cases hE
  ·cases hE
 ·exact h2.elim
def clrE (P:Program) (hs:List H) (T:TypeId) (x:V):Option (Prop×Res):=
 match x with
 |.sl id off len=>
  match elI P T,hget hs id with
  |some (e,sz,_),.arr s xs true=>
   match zrI P e with
   |some zs=>
    match zDs zs with
    |some ds=>if s=sz then some (flatE xs=true∧off + len≤xs.length∧0 < len∧ds.length=sz,⟨.junk,[],[(id,.arr s (xs.take off++(List.replicate len ds++xs.drop (off + len))) true)]⟩) else none
    |none=>none
   |none=>none
  |_,_=>none
 |_=>none
theorem ok_clear {c:Call} {x:Operand} {T:TypeId} (ho:o.op=.call c) (hc:c={ callee:=.builtin .clear,args:=#[x],argTypes:=#[T] })
  (h:evg g (σ.ev x) fun a=>match clrE P σ.heap T a with|some (p,r)=>p∧K r|none=>False):∃ r,OpOK P o g σ n r∧K r:=by
 subst hc
 obtain ⟨va,h2,hx⟩:=evg_rel h
 clear h
 split at h2
 ·rename_i p r hE
  obtain ⟨hp,hK⟩:=h2
  refine ⟨r,?_,hK⟩
  intro σ' hle hd B w0 Dm φ kp a w hDm hR hg Q1 Q2 hk
  have rx:=hx _ _ _ _ hg (ev_le hle hR x)
  unfold clrE at hE
  split at hE
  ·rename_i id off len
   split at hE
   ·rename_i e sz by_ s xs hel hx0
    split at hE
    ·rename_i zs hzr
     split at hE
     ·rename_i ds hds
      split at hE
      ·rename_i hs;subst hs
       simp only [Option.some.injEq,Prod.mk.injEq] at hE
       obtain ⟨rfl,rfl⟩:=hE
       obtain ⟨p1,p2,p3,p4⟩:=hp
       obtain ⟨inf,ht,hi,hsz,hby⟩:=elI_some hel
       obtain ⟨i',z,hi',hz1,hz2⟩:=zrI_rel hzr
       rw [hi] at hi';cases hi'
       have hreps:=fun h':Array Obj=>zDs_rel (h':=h') (bl:=true) _ _ _ hds (hz2 φ (fun _=>True) #[])
       have hzl:z.cells.size=s:=by rw [← Array.length_toList,reps_len _ _ _ (hreps #[]),p4]
       have hx':hget σ'.heap id=.arr s xs true:=by
        rcases hle.2 id with hh|hh
        ·rw [hx0] at hh;cases hh
        ·rw [hh,hx0]
       obtain ⟨β,ad,cc,q1,q2,q3,q4,q5⟩:=rel_sl rx
       obtain ⟨b,u1,u2,u3⟩:∃ b,β.blk=some b∧ad=some ⟨b,β.off + off * β.sz,none⟩∧off + cc=β.cap:=by
        rcases q5 with q5|q5
        ·omega
        ·exact q5
       have hr1:β.sz=s:=by
        rcases hR.hp id with hd'|⟨β',e1,hr⟩
        ·rw [hx'] at hd';cases hd'
        ·rw [q1] at e1;cases e1
         rw [hx'] at hr;simp only [HRel] at hr
         exact hr.1
       rw [hr1] at u2
       subst u2
       have hrl:(List.replicate len ds).length=len:=List.length_replicate
       have hnl:(Builtin.zeroCells z.cells len).toList.length=len * s:=by rw [Array.length_toList,size_zeroCells,hzl]
       have hget:∀ m j,m < len→j < s→(Builtin.zeroCells z.cells len).toList[m * s + j]?=z.cells[j]?:=by
        intro m j hm hj
        have hlt:m * s + j < len * s:=by
         have:(m + 1) * s≤len * s:=Nat.mul_le_mul_right _ hm
         rw [Nat.add_mul] at this;omega
        have hmod:(m * s + j) % s=j:=by rw [Nat.mul_comm,Nat.mul_add_mod,Nat.mod_eq_of_lt hj]
        have hj':j < z.cells.size:=by rw [hzl];exact hj
        have hlt':m * s + j < len * z.cells.size:=by rw [hzl];exact hlt
        unfold Builtin.zeroCells
        rw [Array.getElem?_toList,Array.getElem?_map,Array.getElem?_range,if_pos hlt']
        simp only [Option.map_some,hzl,hmod]
        rw [getElem!_pos z.cells j hj',Array.getElem?_eq_getElem hj']
       have hrows:=R_rows hR (k:=off) (ys:=List.replicate len ds) (us:=(Builtin.zeroCells z.cells len).toList) q1 hx' p1 u1 (by rw [hrl];exact p2) (by rw [hrl];exact hnl) (fun h' hs' hc=>by
        refine rep_many p4 len _ fun m hm=>reps_repC ds z.cells.toList _ [] (hreps _) fun j u hj=>?_
        have hjl:j < s:=by
         rw [← hzl]
         rcases Nat.lt_or_ge j z.cells.size with h|h
         ·exact h
         ·rw [List.getElem?_eq_none (by simpa using h)] at hj;cases hj
        have hlt:m * s + j < (Builtin.zeroCells z.cells len).toList.length:=by
         rw [hnl]
         have:(m + 1) * s≤len * s:=Nat.mul_le_mul_right _ hm
         rw [Nat.add_mul] at this;omega
        have:=hc _ hlt
        rw [hget m j hm hjl] at this
        rw [Nat.add_assoc (β.off + off * s),this,← Array.getElem?_toList];exact hj)
       rw [hrl] at hrows
       obtain ⟨cs,te,z1,z2,z3⟩:=hrows
       have hone:∀ v ∈ (Builtin.zeroCells z.cells len).toList,v.oneCell'=true:=by
        intro v hv
        obtain ⟨t,ht',rfl⟩:=List.getElem_of_mem hv
        have hs0:0 < s:=by
         rcases Nat.eq_zero_or_pos s with h|h
         ·rw [hnl,h,Nat.mul_zero] at ht';omega
         ·exact h
        have h1:t=(t / s) * s + t % s:=by rw [Nat.mul_comm];exact (Nat.div_add_mod t s).symm
        have h2:t / s < len:=Nat.div_lt_of_lt_mul (by rw [Nat.mul_comm,← hnl];exact ht')
        have h3:=hget (t / s) (t % s) h2 (Nat.mod_lt _ hs0)
        rw [← h1,List.getElem?_eq_getElem ht'] at h3
        have hj':t % s < z.cells.toList.length:=by rw [Array.length_toList,hzl];exact Nat.mod_lt _ hs0
        rw [← Array.getElem?_toList,List.getElem?_eq_getElem hj'] at h3
        rw [Option.some.inj h3]
        have hrc:repC #[.cells z.cells 0 (0,0)] true 0 0 ds []:=reps_repC ds z.cells.toList 0 [] (hreps _) fun j u hj=>by
         simp [cellAt];rw [Array.getElem?_toList] at hj;exact hj
        obtain ⟨us,k1,k2⟩:=repC_vals ds 0 [] hrc
        have hlu:t % s < us.length:=by rw [k1,p4];exact Nat.mod_lt _ hs0
        have:=k2.1 (t % s) us[t % s] (List.getElem?_eq_getElem hlu)
        obtain ⟨Gj,_,k3⟩:=k2.2 (t % s) ds[t % s] us[t % s] (List.getElem?_eq_getElem (by rw [p4];exact Nat.mod_lt _ hs0)) (List.getElem?_eq_getElem hlu)
        have hz:z.cells.toList[t % s]=us[t % s]:=by
         have h4:=this
         simp [cellAt] at h4
         have h5:z.cells.toList[t % s]?=some us[t % s]:=by rw [Array.getElem?_toList];exact h4
         rw [List.getElem?_eq_getElem hj'] at h5
         exact Option.some.inj h5
        rw [hz]
        exact oneCell_rep k3
       have hst:=run_storeCells_at P b (β.off + off * s) te (Builtin.zeroCells z.cells len).toList 0 cs w z1 (by simpa using z2) hone
       simp only [Nat.add_zero,List.append_assoc] at hst
       unfold Oper.wp
       have hex:(execOp a.eval o).run P w=.ok (.value (.tuple #[])) (w.setRow b (splice cs.toList (β.off + off * s) (Builtin.zeroCells z.cells len).toList).toArray):=by
        unfold execOp;rw [ho]
        obtain ⟨m,rfl⟩:∃ m,len=m + 1:=⟨len - 1,by omega⟩
        simp [resolve,invoke,builtin,q2,Builtin.clear_,run_underlying ht,zeroValue,typeInfo,hi,hz1,hst,splice]
       rw [hex,Oper.upon_value]
       have:=R_put z3 o.dst (v:=.junk) (u:=.tuple #[]) (by simp only [VRel])
       exact hk _ _ _ (R_dm this fun i h=>.inl h)
      ·cases hE
     ·cases hE
    ·cases hE
   ·cases hE
  ·cases hE
 ·exact h2.elim
/-- append: within one array; or onto an array of the call's own; or onto nil. -/
def apI (P:Program) (hs:List H) (T:TypeId) (x y:V) (n:Nat):Option (Prop×Res):=
 match inE P hs T x y with
 |some r=>some r
 |none=>apE P hs T x y n
theorem evg_at {g:Bool} {v:V} {K:V→Prop} (h:evg g v K):∃ v',K v'∧∀ K':V→Prop,K' v'→evg g v K':=by
 unfold evg at h ⊢
 split at h
 ·exact ⟨_,h.2,fun K' h'=>⟨h.1,h'⟩⟩
 ·exact ⟨_,h,fun K' h'=>h'⟩
theorem ok_append2 {c:Call} {x y:Operand} {T:TypeId} (ho:o.op=.call c) (hc:c={ callee:=.builtin .append,args:=#[x,y],argTypes:=#[T,T] })
  (h:evg g (σ.ev x) fun a=>evg g (σ.ev y) fun b=>match apI P σ.heap T a b n with|some (p,r)=>p∧K r|none=>False):∃ r,OpOK P o g σ n r∧K r:=by
 obtain ⟨a,h1,ha⟩:=evg_at h
 obtain ⟨b,h2,hb⟩:=evg_at h1
 cases hi:inE P σ.heap T a b with
 |none=>
  refine ok_append ho hc (ha _ (hb _ ?_))
  unfold apI at h2
  rw [hi] at h2
  exact h2
 |some r=>
  refine ok_inplace ho hc (ha _ (hb _ ?_))
  unfold apI at h2
  rw [hi] at h2
  rw [hi]
  exact h2
/-- What is handed over: a cell, or a struct of cells. -/
inductive AD where
 |one (d:D)
 |agg (ds:List D)
def arep (h:Array Obj) (o:Bool):AD→Value→List Nat→Prop
 |.one d,u,F=>rep h o d u F
 |.agg ds,u,F=>∃ us:Array Value,u=.agg us∧reps h o ds us.toList F
def areps (h:Array Obj) (o:Bool):List AD→List Value→List Nat→Prop
 |[],us,F=>us=[]∧F=[]
 |a::as,us,F=>∃ u us' F1 F2,us=u::us'∧F=F1++F2∧arep h o a u F1∧areps h o as us' F2
def trep (h:Array Obj) (o:Bool) (rs:List AD) (v:Value) (F:List Nat):Prop:=
 match rs with
 |[r]=>arep h o r v F
 |rs=>∃ us:Array Value,v=.tuple us∧areps h o rs us.toList F
/-- What calling f leads to. -/
def Does (P:Program) (f:FuncId) (us:Array Value) (w:World) (R:Value→World→Prop):Prop:=
 match (callFunc f us).run P w with
 |.ok (.enter g as) w'=>Calls P g as w' fun e w''=>match e with|.returned v=>R v w''|_=>False
 |.ok (.value v) w'=>R v w'
 |.ok (.row row as) w'=>Rows P row as w' R
 |_=>False
theorem Does.mono {P:Program} {f:FuncId} {us:Array Value} {w:World} {R R':Value→World→Prop} (h:Does P f us w R) (hr:∀ v w',R v w'→R' v w'):Does P f us w R':=by
 unfold Does at *
 split at h
 ·exact Calls.mono h fun e w'' he=>by cases e<;>first|exact hr _ _ he|exact he.elim
 ·exact hr _ _ h
 ·exact Rows.mono h hr
 ·exact h.elim
/-- A function with a body. -/
theorem Does.enter {P:Program} {f:FuncId} {us:Array Value} {w:World} {R:Value→World→Prop} (hrun:(callFunc f us).run P w=.ok (.enter f us) w)
  (h:Calls P f us w fun e w'=>match e with|.returned v=>R v w'|_=>False):Does P f us w R:=by
 unfold Does
 rw [hrun];exact h
/-- THE LAW OF A FUNCTION that reads its arguments, changes nothing that was there, and gives new memory. -/
def PureCall (P:Program) (f:FuncId) (args res:List AD):Prop:=
 ∀ (w:World) (us:List Value) (F:List Nat),GOk w.heap→areps w.heap false args us F→Does P f us.toArray w fun v w'=>
  ∃ F',Bel (fun b=>w.heap.size≤b) w w'∧trep w'.heap true res v F'∧F'.Nodup∧∀ b ∈ F',w.heap.size≤b
def clnOf (hs:List H) (id off len:Nat):Option (Nat×List (List D)):=
 match hget hs id with
 |.cln sz xs=>if off + len≤xs.length then some (sz,(xs.drop off).take len) else none
 |_=>elsOf hs (.sl id off len)
def toRD (hs:List H) (v:V):Option D:=
 match v with
 |.d x=>some x
 |.nils s=>some (.sl s [])
 |.sl id off len=>match clnOf hs id off len with|some (sz,xs)=>some (.sl sz xs)|none=>none
 |_=>none
def toRDs (hs:List H):List V→Option (List D)
 |[]=>some []
 |v::vs=>match toRD hs v,toRDs hs vs with|some d,some ds=>some (d::ds)|_,_=>none
def toAD (hs:List H) (v:V):Option AD:=
 match v with
 |.agg vs=>(toRDs hs vs).map .agg
 |v=>(toRD hs v).map .one
def toADs (hs:List H):List V→Option (List AD)
 |[]=>some []
 |v::vs=>match toAD hs v,toADs hs vs with|some d,some ds=>some (d::ds)|_,_=>none
section
variable {B:Nat→Prop} {w0:World} {Dm:Nat→Prop} {φ:Phi} {kp:List (V×Value)} {a:Act} {w:World} {σ σ':St}
theorem toRD_rel (hle:σ.le σ') (r:R B w0 Dm φ σ' kp a w) {v:V} {d:D} (h:toRD σ.heap v=some d) {u:Value} (ru:VRel φ (NotTop φ σ'.heap) w.heap v u):∃ F,rep w.heap false d u F:=by
 unfold toRD at h
 split at h
 ·cases h
  simp only [VRel] at ru
  obtain ⟨F,r1,_⟩:=ru
  exact ⟨F,r1⟩
 ·cases h
  simp only [VRel] at ru
  subst ru
  exact ⟨[],none,0,rfl,by simp,by decide,.inl ⟨rfl,rfl,fun e=>by cases e⟩⟩
 ·rename_i id off len
  split at h
  ·rename_i sz xs hel
   cases h
   unfold clnOf at hel
   split at hel
   ·rename_i sz' ys hx
    split at hel
    ·rename_i hl
     simp only [Option.some.injEq,Prod.mk.injEq] at hel
     obtain ⟨rfl,rfl⟩:=hel
     have hx':hget σ'.heap id=.cln sz' ys:=by
      rcases hle.2 id with hh|hh
      ·rw [hx] at hh;cases hh
      ·rw [hh,hx]
     obtain ⟨F,f1,_⟩:=own_rep' r (id:=id) (by rw [hx'];rfl) hl ru
     exact ⟨F,rep_false _ _ _ f1⟩
    ·cases hel
   obtain ⟨ad,c,e1,e2,e3,e4⟩:=elsOf_rel hle r hel ru
   simp only [rep]
   rcases e4 with e4|⟨b,f,G,e4,e5,e6,e7⟩
   ·exact ⟨[],ad,c,e1,e2,e3,.inl ⟨e4,rfl,fun e=>by cases e⟩⟩
   ·exact ⟨b::G,ad,c,e1,e2,e3,.inr ⟨b,f,G,e4,rfl,e5,e6,fun e=>by cases e⟩⟩
  ·cases h
 ·cases h
theorem toRDs_rel (hle:σ.le σ') (r:R B w0 Dm φ σ' kp a w):∀ (vs:List V) (ds:List D) (us:List Value),toRDs σ.heap vs=some ds→VRels φ (NotTop φ σ'.heap) w.heap vs us→∃ F,reps w.heap false ds us F
 |[],ds,us,h,ru=>by
  simp only [toRDs,Option.some.injEq] at h;subst h
  simp only [VRels] at ru;subst ru
  exact ⟨[],rfl,rfl⟩
 |v::vs,ds,us,h,ru=>by
  simp only [VRels] at ru
  obtain ⟨u,us',rfl,r1,r2⟩:=ru
  simp only [toRDs] at h
  split at h
  ·rename_i d ds' e1 e2
   cases h
   obtain ⟨F1,f1⟩:=toRD_rel hle r e1 r1
   obtain ⟨F2,f2⟩:=toRDs_rel hle r vs ds' us' e2 r2
   exact ⟨F1++F2,u,us',F1,F2,rfl,rfl,f1,f2⟩
  ·cases h
theorem toAD_rel (hle:σ.le σ') (r:R B w0 Dm φ σ' kp a w) {v:V} {d:AD} (h:toAD σ.heap v=some d) {u:Value} (ru:VRel φ (NotTop φ σ'.heap) w.heap v u):∃ F,arep w.heap false d u F:=by
 unfold toAD at h
 split at h
 ·rename_i vs
  cases hd:toRDs σ.heap vs with
  |none=>rw [hd] at h;cases h
  |some ds=>
   rw [hd] at h;cases h
   obtain ⟨us,rfl,r1⟩:=rel_agg ru
   obtain ⟨F,f⟩:=toRDs_rel hle r vs ds _ hd r1
   exact ⟨F,us,rfl,f⟩
 ·cases hd:toRD σ.heap v with
  |none=>rw [hd] at h;cases h
  |some x=>
   rw [hd] at h;cases h
   exact toRD_rel hle r hd ru
theorem toADs_rel (hle:σ.le σ') (r:R B w0 Dm φ σ' kp a w):∀ (vs:List V) (ds:List AD) (us:List Value),toADs σ.heap vs=some ds→VRels φ (NotTop φ σ'.heap) w.heap vs us→∃ F,areps w.heap false ds us F
 |[],ds,us,h,ru=>by
  simp only [toADs,Option.some.injEq] at h;subst h
  simp only [VRels] at ru;subst ru
  exact ⟨[],rfl,rfl⟩
 |v::vs,ds,us,h,ru=>by
  simp only [VRels] at ru
  obtain ⟨u,us',rfl,r1,r2⟩:=ru
  simp only [toADs] at h
  split at h
  ·rename_i d ds' e1 e2
   cases h
   obtain ⟨F1,f1⟩:=toAD_rel hle r e1 r1
   obtain ⟨F2,f2⟩:=toADs_rel hle r vs ds' us' e2 r2
   exact ⟨F1++F2,u,us',F1,F2,rfl,rfl,f1,f2⟩
  ·cases h
end
def rV (d:D) (n:Nat):V:=match d with|.sl _ xs=>.sl n 0 xs.length|d=>.d d
def rH (d:D):List H:=match d with|.sl sz xs=>[.arr sz xs true]|_=>[]
def rVs:List D→Nat→List V
 |[],_=>[]
 |d::ds,n=>rV d n::rVs ds (n + (rH d).length)
def rHs:List D→List H
 |[]=>[]
 |d::ds=>rH d++rHs ds
def aV:AD→Nat→V
 |.one d,n=>rV d n
 |.agg ds,n=>.agg (rVs ds n)
def aH:AD→List H
 |.one d=>rH d
 |.agg ds=>rHs ds
def aVs:List AD→Nat→List V
 |[],_=>[]
 |d::ds,n=>aV d n::aVs ds (n + (aH d).length)
def aHs:List AD→List H
 |[]=>[]
 |d::ds=>aH d++aHs ds
def tV (rs:List AD) (n:Nat):V:=match rs with|[r]=>aV r n|rs=>.tup (aVs rs n)
def foot (β:Blk):List Nat:=β.blk.toList++β.nest
/-- Entries that lie so, whatever else is there. -/
def Lies (h:Array Obj) (bl:List Blk) (hs:List H) (F:List Nat):Prop:=
 bl.length=hs.length∧bl.flatMap foot=F∧(∀ (i:Nat) (β:Blk) (x:H),bl[i]?=some β→hs[i]?=some x→∀ φ T,HRel φ T h β x)∧∀ x ∈ hs,∃ sz xs,x=.arr sz xs true
/-- The places of the new entries. -/
def At (φ:Phi) (n:Nat) (bl:List Blk):Prop:=∀ (i:Nat) (β:Blk),bl[i]?=some β→φ (n + i)=some β
theorem Lies.append {h:Array Obj} {b1 b2:List Blk} {h1 h2:List H} {F1 F2:List Nat} (l1:Lies h b1 h1 F1) (l2:Lies h b2 h2 F2):Lies h (b1++b2) (h1++h2) (F1++F2):=by
 obtain ⟨a1,a2,a3,a4⟩:=l1
 obtain ⟨c1,c2,c3,c4⟩:=l2
 refine ⟨by simp [a1,c1],by simp [a2,c2],fun i β x e1 e2=>?_,fun x hx=>?_⟩
 ·rw [List.getElem?_append] at e1 e2
  by_cases hi:i < b1.length
  ·rw [if_pos hi] at e1;rw [if_pos (a1 ▸ hi)] at e2;exact a3 i β x e1 e2
  ·rw [if_neg hi] at e1;rw [if_neg (a1 ▸ hi),← a1] at e2;exact c3 _ β x e1 e2
 ·rcases List.mem_append.1 hx with hx|hx
  ·exact a4 x hx
  ·exact c4 x hx
theorem At.left {φ:Phi} {n:Nat} {b1 b2:List Blk} (h:At φ n (b1++b2)):At φ n b1:=fun i β e=>h i β (by
 rw [List.getElem?_append_left (by
  rcases Nat.lt_or_ge i b1.length with h|h
  ·exact h
  ·rw [List.getElem?_eq_none h] at e;cases e)];exact e)
theorem At.right {φ:Phi} {n:Nat} {b1 b2:List Blk} (h:At φ n (b1++b2)):At φ (n + b1.length) b2:=fun i β e=>by
 rw [Nat.add_assoc]
 exact h (b1.length + i) β (by rw [List.getElem?_append_right (by omega),Nat.add_sub_cancel_left];exact e)
theorem rV_rel {h:Array Obj} {d:D} {u:Value} {F:List Nat} (r:rep h true d u F):∃ bl,Lies h bl (rH d) F∧∀ φ n T,At φ n bl→VRel φ T h (rV d n) u:=by
 cases d with
 |sl sz xs=>
  simp only [rep] at r
  obtain ⟨ad,c,rfl,h2,h3,h4⟩:=r
  rcases h4 with ⟨rfl,rfl,h4⟩|⟨b,f,G,rfl,rfl,h5,h6,h7⟩
  ·refine ⟨[⟨none,0,0,sz,[]⟩],⟨rfl,rfl,fun i β x e1 e2 φ T=>?_,by simp [rH]⟩,fun φ n T hA=>?_⟩
   ·cases i with
    |zero=>
     simp [rH] at e1 e2;subst e1;subst e2
     simp [HRel]
    |succ i=>simp at e1
   ·simp only [rV,VRel]
    exact ⟨_,ad,c,hA 0 _ rfl,rfl,h3,.inl ⟨h4 trivial,rfl,rfl⟩⟩
  ·refine ⟨[⟨some b,f,c,sz,G⟩],⟨rfl,by simp [foot],fun i β x e1 e2 φ T=>?_,by simp [rH]⟩,fun φ n T hA=>?_⟩
   ·cases i with
    |zero=>
     simp [rH] at e1 e2;subst e1;subst e2
     simp only [HRel]
     exact ⟨trivial,.inr ⟨b,G,rfl,h2,(h7 trivial).2,h6,fun _=>rfl,fun h=>by cases h⟩⟩
    |succ i=>simp at e1
   ·simp only [rV,VRel]
    exact ⟨_,_,c,hA 0 _ rfl,rfl,h3,.inr ⟨b,rfl,by simp,h2,by simp⟩⟩
 |_=>
  have hF:=rep_flat rfl r
  subst hF
  refine ⟨[],⟨rfl,rfl,by simp,by simp [rH]⟩,fun φ n T _=>?_⟩
  simp only [rV,VRel]
  exact ⟨[],rep_flat_any rfl r,by simp⟩
theorem rVs_rel {h:Array Obj}:∀ (ds:List D) (us:List Value) (F:List Nat),reps h true ds us F→∃ bl,Lies h bl (rHs ds) F∧∀ φ n T,At φ n bl→VRels φ T h (rVs ds n) us
 |[],us,F,r=>by
  simp only [reps] at r
  obtain ⟨rfl,rfl⟩:=r
  exact ⟨[],⟨rfl,rfl,by simp,by simp [rHs]⟩,fun _ _ _ _=>by simp [rVs,VRels]⟩
 |d::ds,us,F,r=>by
  simp only [reps] at r
  obtain ⟨u,us',F1,F2,rfl,rfl,r1,r2⟩:=r
  obtain ⟨b1,l1,v1⟩:=rV_rel r1
  obtain ⟨b2,l2,v2⟩:=rVs_rel ds us' F2 r2
  refine ⟨b1++b2,l1.append l2,fun φ n T hA=>?_⟩
  simp only [rVs,VRels]
  refine ⟨u,us',rfl,v1 φ n T hA.left,v2 φ _ T ?_⟩
  rw [← l1.1];exact hA.right
theorem aV_rel {h:Array Obj} {d:AD} {u:Value} {F:List Nat} (r:arep h true d u F):∃ bl,Lies h bl (aH d) F∧∀ φ n T,At φ n bl→VRel φ T h (aV d n) u:=by
 cases d with
 |one d=>exact rV_rel r
 |agg ds=>
  obtain ⟨us,rfl,r⟩:=r
  obtain ⟨bl,l,v⟩:=rVs_rel ds _ F r
  refine ⟨bl,l,fun φ n T hA=>?_⟩
  simp only [aV,VRel]
  exact ⟨us,rfl,v φ n T hA⟩
theorem aVs_rel {h:Array Obj}:∀ (ds:List AD) (us:List Value) (F:List Nat),areps h true ds us F→∃ bl,Lies h bl (aHs ds) F∧∀ φ n T,At φ n bl→VRels φ T h (aVs ds n) us
 |[],us,F,r=>by
  simp only [areps] at r
  obtain ⟨rfl,rfl⟩:=r
  exact ⟨[],⟨rfl,rfl,by simp,by simp [aHs]⟩,fun _ _ _ _=>by simp [aVs,VRels]⟩
 |d::ds,us,F,r=>by
  simp only [areps] at r
  obtain ⟨u,us',F1,F2,rfl,rfl,r1,r2⟩:=r
  obtain ⟨b1,l1,v1⟩:=aV_rel r1
  obtain ⟨b2,l2,v2⟩:=aVs_rel ds us' F2 r2
  refine ⟨b1++b2,l1.append l2,fun φ n T hA=>?_⟩
  simp only [aVs,VRels]
  refine ⟨u,us',rfl,v1 φ n T hA.left,v2 φ _ T ?_⟩
  rw [← l1.1];exact hA.right
theorem tV_rel {h:Array Obj} {rs:List AD} {u:Value} {F:List Nat} (r:trep h true rs u F):∃ bl,Lies h bl (aHs rs) F∧∀ φ n T,At φ n bl→VRel φ T h (tV rs n) u:=by
 unfold trep at r
 split at r
 ·rename_i x
  obtain ⟨bl,l,v⟩:=aV_rel r
  exact ⟨bl,by simpa [aHs] using l,fun φ n T hA=>v φ n T hA⟩
 ·rename_i hne
  obtain ⟨us,rfl,r⟩:=r
  obtain ⟨bl,l,v⟩:=aVs_rel _ _ F r
  refine ⟨bl,l,fun φ n T hA=>?_⟩
  have:tV rs n=.tup (aVs rs n):=by unfold tV;split<;>first|rfl|(rename_i y;exact absurd rfl (hne y))
  rw [this];simp only [VRel]
  exact ⟨us,rfl,v φ n T hA⟩
/-- The same, looked into by nobody. -/
def H.toCln:H→H
 |.arr sz xs true=>.cln sz xs
 |x=>x
theorem Lies.cln {h:Array Obj} {bl:List Blk} {hs:List H} {F:List Nat} (l:Lies h bl hs F):bl.length=(hs.map H.toCln).length∧bl.flatMap foot=F∧(∀ (i:Nat) (β:Blk) (x:H),bl[i]?=some β→(hs.map H.toCln)[i]?=some x→∀ φ T,HRel φ T h β x):=by
 obtain ⟨l1,l2,l3,_⟩:=l
 refine ⟨by simp [l1],l2,fun i β x e1 e2 φ T=>?_⟩
 rw [List.getElem?_map] at e2
 cases hx:hs[i]? with
 |none=>rw [hx] at e2;cases e2
 |some y=>
  rw [hx] at e2
  simp only [Option.map_some,Option.some.injEq] at e2
  subst e2
  have:=l3 i β y e1 hx φ T
  unfold H.toCln
  split
  ·rename_i sz xs
   have:=mine_rel (x:=.arr sz xs true) rfl this
   simpa only [HRel] using this
  ·exact this
theorem flat_inj {F:List Nat}:∀ (bl:List Blk),bl.flatMap foot=F→F.Nodup→∀ (i j:Nat) (β γ:Blk) (b:Nat),bl[i]?=some β→bl[j]?=some γ→b ∈ foot β→b ∈ foot γ→i=j:=by
 intro bl
 induction bl generalizing F with
 |nil=>intro _ _ i j β γ b e;simp at e
 |cons x xs ih=>
  intro e hn i j β γ b e1 e2 h1 h2
  subst e
  rw [List.flatMap_cons,List.nodup_append] at hn
  have hmem:∀ (k:Nat) (δ:Blk),xs[k]?=some δ→b ∈ foot δ→b ∈ xs.flatMap foot:=fun k δ hk hb=>List.mem_flatMap.2 ⟨δ,List.mem_of_getElem? hk,hb⟩
  cases i with
  |zero=>
   cases j with
   |zero=>rfl
   |succ j=>
    simp at e1 e2;subst e1
    exact absurd rfl (hn.2.2 b h1 b (hmem j γ e2 h2))
  |succ i=>
   cases j with
   |zero=>
    simp at e1 e2;subst e2
    exact absurd rfl (hn.2.2 b h2 b (hmem i β e1 h1))
   |succ j=>
    simp at e1 e2
    rw [ih rfl hn.2.1 i j β γ b e1 e2 h1 h2]
theorem flat_nodup {F:List Nat}:∀ (bl:List Blk),bl.flatMap foot=F→F.Nodup→∀ β ∈ bl,(foot β).Nodup:=by
 intro bl
 induction bl generalizing F with
 |nil=>simp
 |cons x xs ih=>
  intro e hn β hb
  subst e
  rw [List.flatMap_cons,List.nodup_append] at hn
  rcases List.mem_cons.1 hb with rfl|hb
  ·exact hn.1
  ·exact ih rfl hn.2.1 β hb
section
variable {B:Nat→Prop} {w0:World} {Dm:Nat→Prop} {φ:Phi} {kp:List (V×Value)} {a:Act} {w:World} {σ:St}
/-- New entries, of memory that a call gave. -/
theorem R_news (r:R B w0 Dm φ σ kp a w) {n:Nat} {bl:List Blk} {hs:List H} {F:List Nat} {w':World} (hn:∀ i,n≤i→i < n + hs.length→¬ Dm i)
  (hb:Bel (fun b=>w.heap.size≤b) w w') (hl:bl.length=hs.length∧bl.flatMap foot=F∧(∀ (i:Nat) (β:Blk) (x:H),bl[i]?=some β→hs[i]?=some x→∀ φ T,HRel φ T w'.heap β x)) (hnd:F.Nodup) (hnew:∀ b ∈ F,w.heap.size≤b) :
  ∃ φ',At φ' n bl∧R B w0 (fun i=>Dm i∨(n≤i∧i < n + hs.length)) φ' ⟨σ.tmps,Gv.hnew σ.heap n hs⟩ kp a w':=by
 obtain ⟨l1,l2,l3⟩:=hl
 have hφ:∀ i,n≤i→i < n + hs.length→φ i=none:=fun i h1 h2=>by
  cases h:φ i with
  |none=>rfl
  |some β=>exact absurd (r.dm i β h) (hn i h1 h2)
 let φ':Phi:=fun i=>if n≤i∧i < n + hs.length then bl[i - n]? else φ i
 have hin:∀ i,n≤i∧i < n + hs.length→φ' i=bl[i - n]?:=fun i h=>if_pos h
 have hout:∀ i,¬ (n≤i∧i < n + hs.length)→φ' i=φ i:=fun i h=>if_neg h
 have hgi:∀ i,n≤i∧i < n + hs.length→∃ x,hs[i - n]?=some x∧hget (Gv.hnew σ.heap n hs) i=x:=by
  intro i h
  have hlt:i - n < hs.length:=by omega
  refine ⟨hs[i - n],List.getElem?_eq_getElem hlt,?_⟩
  rw [hget_hnew,if_pos h,List.getD_eq_getElem?_getD,List.getElem?_eq_getElem hlt];rfl
 have hgo:∀ i,¬ (n≤i∧i < n + hs.length)→hget (Gv.hnew σ.heap n hs) i=hget σ.heap i:=fun i h=>by rw [hget_hnew,if_neg h]
 have hown:∀ i,n≤i∧i < n + hs.length→∀ b,Owns φ' (Gv.hnew σ.heap n hs) i b→∃ β,bl[i - n]?=some β∧b ∈ foot β:=by
  rintro i h b ⟨β,e1,e2⟩
  rw [hin i h] at e1
  refine ⟨β,e1,?_⟩
  unfold foot
  rcases e2 with ⟨_,e2⟩|⟨_,e2⟩
  ·simp [e2]
  ·simp [e2]
 have hbF:∀ (i:Nat) (β:Blk) (b:Nat),bl[i]?=some β→b ∈ foot β→w.heap.size≤b:=fun i β b h1 h2=>hnew b (by rw [← l2];exact List.mem_flatMap.2 ⟨β,List.mem_of_getElem? h1,h2⟩)
 refine ⟨φ',fun i β hi=>?_,R_change r (fun i=>n≤i∧i < n + hs.length) _ φ' _ w' (fun i hi=>⟨hgo i hi,hout i hi⟩) (fun i β hi=>?_) hb.size (fun b hb' _=>hb.block b (by omega)) (fun i hi b ho=>?_) (fun i hi β' h1 b h2=>?_)
  (fun i j b hi hj h1 h2=>?_) (fun i β hi h1 _=>?_) (fun i hi=>?_) (fun i β hi=>?_) (r.bel.trans (hb.mono fun k hk=>r.bs k hk))⟩
 ·have hlt:i < bl.length:=by
   rcases Nat.lt_or_ge i bl.length with h|h
   ·exact h
   ·rw [List.getElem?_eq_none h] at hi;cases hi
  rw [hin (n + i) ⟨by omega,by omega⟩,Nat.add_sub_cancel_left];exact hi
 ·by_cases h:n≤i∧i < n + hs.length
  ·rw [hφ i h.1 h.2] at hi;cases hi
  ·exact ⟨β,by rw [hout i h];exact hi,rfl,rfl,rfl,rfl⟩
 ·obtain ⟨β,e1,e2⟩:=hown i hi b ho
  exact .inl (hbF _ β b e1 e2)
 ·rw [hin i hi] at h1
  refine .inl (hbF _ β' b h1 ?_)
  unfold foot
  rcases h2 with ⟨_,h2⟩|⟨_,h2⟩<;>simp [h2]
 ·obtain ⟨β,e1,e2⟩:=hown i hi b h1
  obtain ⟨γ,f1,f2⟩:=hown j hj b h2
  have:=flat_inj bl l2 hnd _ _ β γ b e1 f1 e2 f2
  omega
 ·rw [hin i hi] at h1
  have:=flat_nodup bl l2 hnd β (List.mem_of_getElem? h1)
  unfold foot at this
  rw [List.nodup_append] at this
  refine ⟨this.2.1,fun b hb' hb2=>this.2.2 b (by simp [hb']) b hb2 rfl⟩
 ·right
  obtain ⟨x,h1,h2⟩:=hgi i hi
  have hlt:i - n < bl.length:=by omega
  refine ⟨bl[i - n],by rw [hin i hi];exact List.getElem?_eq_getElem hlt,?_⟩
  rw [h2]
  exact l3 _ _ _ (List.getElem?_eq_getElem hlt) h1 _ _
 ·by_cases h:n≤i∧i < n + hs.length
  ·exact .inr h
  ·rw [hout i h] at hi;exact .inl (r.dm i β hi)
end
variable {P:Program} {o:Oper} {g:Bool} {σ:St} {n:Nat} {K:Res→Prop}
/-- A call of a function whose law is known. -/
theorem ok_call' {c:Call} {f:FuncId} {xs:Array Operand} {ts:Array TypeId} (ho:o.op=.call c) {x:Operand} (hc:c={ callee:=.value x,args:=xs,argTypes:=ts }) (hf:∀ {σ':St} {B:Nat→Prop} {w0:World} {Dm:Nat→Prop} {φ:Phi} {kp:List (V×Value)} {a:Act} {w:World},σ.le σ'→R B w0 Dm φ σ' kp a w→g=true→a.eval x=.func (.func f) #[] #[])
  {vs:List V} (hx:∀ {σ':St} {B:Nat→Prop} {w0:World} {Dm:Nat→Prop} {φ:Phi} {kp:List (V×Value)} {a:Act} {w:World},σ.le σ'→R B w0 Dm φ σ' kp a w→g=true→VRels φ (NotTop φ σ'.heap) w.heap vs (xs.toList.map a.eval))
  {as rs:List AD} (hE:toADs σ.heap vs=some as) (hpc:PureCall P f as rs) (hK:K ⟨tV rs n,aHs rs,[]⟩):∃ r,OpOK P o g σ n r∧K r:=by
 subst hc
 refine ⟨_,?_,hK⟩
 intro σ' hle _ B w0 Dm φ kp a w hDm hR hg Q1 Q2 hk
 have hv:=hx hle hR hg
 obtain ⟨F,hF⟩:=toADs_rel hle hR vs as _ hE hv
 have hcall:=hpc w _ F hR.gok hF
 unfold Oper.wp
 have hrun:(execOp a.eval o).run P w=(callFunc f (xs.map a.eval)).run P w:=by
  unfold execOp;rw [ho]
  have hfx:=hf hle hR hg
  simp [resolve,hfx,Deferred.ofValue,invoke]
 rw [hrun]
 have hxs:(xs.toList.map a.eval).toArray=xs.map a.eval:=by rw [← Array.toList_map,Array.toArray_toList]
 rw [hxs] at hcall
 have fin:∀ v w',(∃ F',Bel (fun b=>w.heap.size≤b) w w'∧trep w'.heap true rs v F'∧F'.Nodup∧∀ b ∈ F',w.heap.size≤b)→Q1 (a.put o.dst v) w':=by
  rintro v w' ⟨F',e1,e2,e3,e4⟩
  obtain ⟨bl,l1,l2⟩:=tV_rel e2
  obtain ⟨φ',hA,hR'⟩:=R_news hR hDm e1 ⟨l1.1,l1.2.1,l1.2.2.1⟩ e3 e4
  exact hk v w' φ' (R_put hR' o.dst (l2 φ' n _ hA))
 unfold Does at hcall
 split at hcall
 ·rename_i h1;rw [h1,Oper.upon_enter]
  refine Calls.mono hcall fun e w' he=>?_
  cases e with
  |returned v=>exact fin v w' he
  |panicked c=>exact he.elim
  |outgrown=>exact he.elim
 ·rename_i h1;rw [h1,Oper.upon_value];exact fin _ _ hcall
 ·rename_i h1;rw [h1,Oper.upon_row];exact Rows.mono hcall fin
 ·exact hcall.elim
/-- Such a call, whose results nobody looks into. -/
theorem ok_callc {c:Call} {f:FuncId} {xs:Array Operand} {ts:Array TypeId} (ho:o.op=.call c) {x:Operand} (hc:c={ callee:=.value x,args:=xs,argTypes:=ts }) (hf:∀ {σ':St} {B:Nat→Prop} {w0:World} {Dm:Nat→Prop} {φ:Phi} {kp:List (V×Value)} {a:Act} {w:World},σ.le σ'→R B w0 Dm φ σ' kp a w→g=true→a.eval x=.func (.func f) #[] #[])
  {vs:List V} (hx:∀ {σ':St} {B:Nat→Prop} {w0:World} {Dm:Nat→Prop} {φ:Phi} {kp:List (V×Value)} {a:Act} {w:World},σ.le σ'→R B w0 Dm φ σ' kp a w→g=true→VRels φ (NotTop φ σ'.heap) w.heap vs (xs.toList.map a.eval))
  {as rs:List AD} (hE:toADs σ.heap vs=some as) (hpc:PureCall P f as rs) (hK:K ⟨tV rs n,(aHs rs).map H.toCln,[]⟩):∃ r,OpOK P o g σ n r∧K r:=by
 subst hc
 refine ⟨_,?_,hK⟩
 intro σ' hle _ B w0 Dm φ kp a w hDm hR hg Q1 Q2 hk
 have hv:=hx hle hR hg
 obtain ⟨F,hF⟩:=toADs_rel hle hR vs as _ hE hv
 have hcall:=hpc w _ F hR.gok hF
 unfold Oper.wp
 have hrun:(execOp a.eval o).run P w=(callFunc f (xs.map a.eval)).run P w:=by
  unfold execOp;rw [ho]
  have hfx:=hf hle hR hg
  simp [resolve,hfx,Deferred.ofValue,invoke]
 rw [hrun]
 have hxs:(xs.toList.map a.eval).toArray=xs.map a.eval:=by rw [← Array.toList_map,Array.toArray_toList]
 rw [hxs] at hcall
 have fin:∀ v w',(∃ F',Bel (fun b=>w.heap.size≤b) w w'∧trep w'.heap true rs v F'∧F'.Nodup∧∀ b ∈ F',w.heap.size≤b)→Q1 (a.put o.dst v) w':=by
  rintro v w' ⟨F',e1,e2,e3,e4⟩
  obtain ⟨bl,l1,l2⟩:=tV_rel e2
  obtain ⟨φ',hA,hR'⟩:=R_news hR hDm e1 l1.cln e3 e4
  exact hk v w' φ' (R_put hR' o.dst (l2 φ' n _ hA))
 unfold Does at hcall
 split at hcall
 ·rename_i h1;rw [h1,Oper.upon_enter]
  refine Calls.mono hcall fun e w' he=>?_
  cases e with
  |returned v=>exact fin v w' he
  |panicked c=>exact he.elim
  |outgrown=>exact he.elim
 ·rename_i h1;rw [h1,Oper.upon_value];exact fin _ _ hcall
 ·rename_i h1;rw [h1,Oper.upon_row];exact Rows.mono hcall fin
 ·exact hcall.elim
/-- What is owned, looked into or not. -/
def toX (hs:List H) (v:V):Option (D×List Nat):=
 match v with
 |.sl id off len=>match hget hs id with|.cln sz xs=>if off + len≤xs.length then some (.sl sz ((xs.drop off).take len),[id]) else none|_=>toD hs (.sl id off len)
 |v=>toD hs v
def toXs (hs:List H):List V→Option (List D×List Nat)
 |[]=>some ([],[])
 |v::vs=>match toX hs v,toXs hs vs with|some (d,i),some (ds,is)=>some (d::ds,i++is)|_,_=>none
section
variable {B:Nat→Prop} {w0:World} {Dm:Nat→Prop} {φ:Phi} {kp:List (V×Value)} {a:Act} {w:World} {σ:St}
theorem toX_rel (r:R B w0 Dm φ σ kp a w) {v:V} {d:D} {ids:List Nat} (h:toX σ.heap v=some (d,ids)) {u:Value} (ru:VRel φ (NotTop φ σ.heap) w.heap v u) :
  ∃ F,rep w.heap true d u F∧F.Nodup∧(∀ b ∈ F,∃ id ∈ ids,Owns φ σ.heap id b)∧∀ id ∈ ids,(hget σ.heap id).own=true:=by
 unfold toX at h
 split at h
 ·rename_i id off len
  split at h
  ·rename_i sz xs hx
   split at h
   ·rename_i hl
    simp only [Option.some.injEq,Prod.mk.injEq] at h
    obtain ⟨rfl,rfl⟩:=h
    obtain ⟨F,f1,f2,f3⟩:=own_rep' r (id:=id) (by rw [hx];rfl) hl ru
    refine ⟨F,f1,f2,fun b hb=>⟨id,by simp,f3 b hb⟩,fun i hi=>?_⟩
    simp only [List.mem_singleton] at hi;subst hi;rw [hx];rfl
   ·cases h
  ·obtain ⟨F,f1,f2,f3,f4⟩:=toD_rel r h ru
   exact ⟨F,f1,f2,f3,fun i hi=>by obtain ⟨s,ys,e⟩:=f4 i hi;rw [e];rfl⟩
 ·obtain ⟨F,f1,f2,f3,f4⟩:=toD_rel r h ru
  exact ⟨F,f1,f2,f3,fun i hi=>by obtain ⟨s,ys,e⟩:=f4 i hi;rw [e];rfl⟩
theorem toXs_rel (r:R B w0 Dm φ σ kp a w):∀ (vs:List V) (ds:List D) (ids:List Nat) (us:List Value),toXs σ.heap vs=some (ds,ids)→ids.Nodup→VRels φ (NotTop φ σ.heap) w.heap vs us→
  ∃ G,reps w.heap true ds us G∧G.Nodup∧(∀ b ∈ G,∃ id ∈ ids,Owns φ σ.heap id b)
 |[],ds,ids,us,e,_,rv=>by
  simp only [toXs,Option.some.injEq,Prod.mk.injEq] at e
  obtain ⟨rfl,rfl⟩:=e
  simp only [VRels] at rv;subst rv
  exact ⟨[],by simp [reps],List.nodup_nil,by simp⟩
 |v::vs,ds,ids,us,e,hnd,rv=>by
  simp only [VRels] at rv
  obtain ⟨u,us',rfl,rv1,rv2⟩:=rv
  simp only [toXs] at e
  split at e
  ·rename_i d i ds' is e1 e2
   simp only [Option.some.injEq,Prod.mk.injEq] at e
   obtain ⟨rfl,rfl⟩:=e
   rw [List.nodup_append] at hnd
   obtain ⟨F,f1,f2,f3,f4⟩:=toX_rel r e1 rv1
   obtain ⟨G,g1,g2,g3⟩:=toXs_rel r vs ds' is us' e2 hnd.2.1 rv2
   refine ⟨F++G,?_,?_,?_⟩
   ·simp only [reps];exact ⟨u,us',F,G,rfl,rfl,f1,g1⟩
   ·rw [List.nodup_append]
    refine ⟨f2,g2,fun x hx y hy hxy=>?_⟩
    subst hxy
    obtain ⟨p,p1,p2⟩:=f3 x hx
    obtain ⟨q,q1,q2⟩:=g3 x hy
    have:=r.o1 p q x p2 q2
    exact hnd.2.2 p p1 q q1 this
   ·intro b hb
    rcases List.mem_append.1 hb with hb|hb
    ·obtain ⟨p,p1,p2⟩:=f3 b hb;exact ⟨p,by simp [p1],p2⟩
    ·obtain ⟨p,p1,p2⟩:=g3 b hb;exact ⟨p,by simp [p1],p2⟩
  ·cases e
end
def toOA (hs:List H) (v:V):Option (AD×List Nat):=
 match v with
 |.agg vs=>(toXs hs vs).map fun (ds,ids)=>(.agg ds,ids)
 |v=>(toX hs v).map fun (d,ids)=>(.one d,ids)
def toOAs (hs:List H):List V→Option (List AD×List Nat)
 |[]=>some ([],[])
 |v::vs=>match toOA hs v,toOAs hs vs with|some (d,i),some (ds,is)=>some (d::ds,i++is)|_,_=>none
section
variable {B:Nat→Prop} {w0:World} {Dm:Nat→Prop} {φ:Phi} {kp:List (V×Value)} {a:Act} {w:World} {σ:St}
theorem toOA_rel (r:R B w0 Dm φ σ kp a w) {v:V} {d:AD} {ids:List Nat} (h:toOA σ.heap v=some (d,ids)) (hn:ids.Nodup) {u:Value} (ru:VRel φ (NotTop φ σ.heap) w.heap v u) :
  ∃ F,arep w.heap true d u F∧F.Nodup∧∀ b ∈ F,∃ id ∈ ids,Owns φ σ.heap id b:=by
 unfold toOA at h
 split at h
 ·rename_i vs
  cases hd:toXs σ.heap vs with
  |none=>rw [hd] at h;cases h
  |some p=>
   obtain ⟨ds,is⟩:=p
   rw [hd] at h
   simp only [Option.map_some,Option.some.injEq,Prod.mk.injEq] at h
   obtain ⟨rfl,rfl⟩:=h
   obtain ⟨us,rfl,r1⟩:=rel_agg ru
   obtain ⟨G,g1,g2,g3⟩:=toXs_rel r vs ds is _ hd hn r1
   exact ⟨G,⟨us,rfl,g1⟩,g2,g3⟩
 ·cases hd:toX σ.heap v with
  |none=>rw [hd] at h;cases h
  |some p=>
   obtain ⟨ds,is⟩:=p
   rw [hd] at h
   simp only [Option.map_some,Option.some.injEq,Prod.mk.injEq] at h
   obtain ⟨rfl,rfl⟩:=h
   obtain ⟨G,g1,g2,g3,_⟩:=toX_rel r hd ru
   exact ⟨G,g1,g2,g3⟩
theorem toOAs_rel (r:R B w0 Dm φ σ kp a w):∀ (vs:List V) (ds:List AD) (ids:List Nat) (us:List Value),toOAs σ.heap vs=some (ds,ids)→ids.Nodup→VRels φ (NotTop φ σ.heap) w.heap vs us→
  ∃ F,areps w.heap true ds us F∧F.Nodup∧∀ b ∈ F,∃ id ∈ ids,Owns φ σ.heap id b
 |[],ds,ids,us,e,_,rv=>by
  simp only [toOAs,Option.some.injEq,Prod.mk.injEq] at e
  obtain ⟨rfl,rfl⟩:=e
  simp only [VRels] at rv;subst rv
  exact ⟨[],⟨rfl,rfl⟩,List.nodup_nil,by simp⟩
 |v::vs,ds,ids,us,e,hnd,rv=>by
  simp only [VRels] at rv
  obtain ⟨u,us',rfl,rv1,rv2⟩:=rv
  simp only [toOAs] at e
  split at e
  ·rename_i d i ds' is e1 e2
   simp only [Option.some.injEq,Prod.mk.injEq] at e
   obtain ⟨rfl,rfl⟩:=e
   rw [List.nodup_append] at hnd
   obtain ⟨F,f1,f2,f3⟩:=toOA_rel r e1 hnd.1 rv1
   obtain ⟨G,g1,g2,g3⟩:=toOAs_rel r vs ds' is us' e2 hnd.2.1 rv2
   refine ⟨F++G,⟨u,us',F,G,rfl,rfl,f1,g1⟩,?_,?_⟩
   ·rw [List.nodup_append]
    refine ⟨f2,g2,fun x hx y hy hxy=>?_⟩
    subst hxy
    obtain ⟨p,p1,p2⟩:=f3 x hx
    obtain ⟨q,q1,q2⟩:=g3 x hy
    exact hnd.2.2 p p1 q q1 (r.o1 p q x p2 q2)
   ·intro b hb
    rcases List.mem_append.1 hb with hb|hb
    ·obtain ⟨p,p1,p2⟩:=f3 b hb;exact ⟨p,by simp [p1],p2⟩
    ·obtain ⟨p,p1,p2⟩:=g3 b hb;exact ⟨p,by simp [p1],p2⟩
  ·cases e
end
/-- A written entry: what it is now, where it lies now, its footprint before and after. -/
structure It1 where
 q:Nat×H
 β:Blk
 F:List Nat
 F':List Nat
/-- What is known of a written entry. -/
structure UpdOK (σ':St) (φ:Phi) (h':Array Obj) (it:It1):Prop where
 ow:∀ b ∈ it.F,Owns φ σ'.heap it.q.1 b
 pl:∃ β,φ it.q.1=some β∧it.β.blk=β.blk∧it.β.off=β.off∧it.β.cap=β.cap∧it.β.sz=β.sz
 hr:∀ φ T,HRel φ T h' it.β it.q.2
 fp:(it.F=[]∧it.F'=[]∧it.β.nest=[])∨∃ b G,it.β.blk=some b∧it.F=b::G∧it.F'=b::it.β.nest
 live:(hget σ'.heap it.q.1).live=true
 kind:(it.q.2.shut=false∧it.β.nest=[]∧∀ β,φ it.q.1=some β→β.nest=[])∨(hget σ'.heap it.q.1).shut=true
section
variable {B:Nat→Prop} {w0:World} {Dm:Nat→Prop} {φ:Phi} {kp:List (V×Value)} {a:Act} {w:World} {σ σ':St}
/-- The footprints, one after the other. -/
def UpdL (σ':St) (φ:Phi) (h':Array Obj) (upd:List (Nat×H)) (F F':List Nat):Prop:=
 ∃ its:List It1,its.map It1.q=upd∧its.flatMap It1.F=F∧its.flatMap It1.F'=F'∧∀ it ∈ its,UpdOK σ' φ h' it
theorem UpdL.nil:UpdL σ' φ w.heap [] [] []:=⟨[],rfl,rfl,rfl,by simp⟩
theorem UpdL.append {h':Array Obj} {u1 u2:List (Nat×H)} {F1 F2 F1' F2':List Nat} (h1:UpdL σ' φ h' u1 F1 F1') (h2:UpdL σ' φ h' u2 F2 F2'):UpdL σ' φ h' (u1++u2) (F1++F2) (F1'++F2'):=by
 obtain ⟨i1,a1,a2,a3,a4⟩:=h1
 obtain ⟨i2,b1,b2,b3,b4⟩:=h2
 refine ⟨i1++i2,by rw [List.map_append,a1,b1],by rw [List.flatMap_append,a2,b2],by rw [List.flatMap_append,a3,b3],fun it hit=>?_⟩
 rcases List.mem_append.1 hit with hit|hit
 ·exact a4 it hit
 ·exact b4 it hit
end
variable {P:Program} {o:Oper} {g:Bool} {σ:St} {n:Nat} {K:Res→Prop}
section
variable {B:Nat→Prop} {w0:World} {Dm:Nat→Prop} {φ:Phi} {kp:List (V×Value)} {a:Act} {w:World} {σ:St}
end
section
variable {P:Program} {o:Oper} {g:Bool} {σ:St} {n:Nat} {K:Res→Prop}
end
end Gv
