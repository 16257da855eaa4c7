/-
  Part of the proof: the machine, what functions compute, and the plain laws.
-/
import Derived.Calls
import Derived.Orders
import Derived.Below
import Derived.Laws.Cells
import Derived.Laws.CopyRow
import Derived.Laws.Strings
import Derived.DeepKeys
import Derived.Laws.StructEq
import Derived.Laws.BytesString
import Derived.Great.BuildSlice
import Derived.Maps.AppendAt
import Derived.Laws.MakeOwn
import Derived.Deep.AppendSrc
set_option maxHeartbeats 80000000
set_option maxRecDepth 100000
namespace Gv
open Go
open _root_.Option.some renaming inj->aAO,injEq->aAM
open _root_.Nat renaming lt_or_ge->asv,add_zero->ao_,zero_mul->aAf,add_mul->arT,one_mul->aAm,add_assoc->arH,lt_of_lt_of_le->asD,le_trans->arP,ne_of_lt->auE,eq_zero_or_pos->azZ,add_le_add_left->azV,mul_le_mul_right->ase,le_of_eq->asN,zero_add->asA,lt_irrefl->azW,mul_comm->azJ,mul_add_mod->aAq,mod_eq_of_lt->asb,mod_lt->azK,add_sub_cancel_left->asJ
open _root_.List renaming mem_cons->rD,getElem?_eq_some_iff->aj_,take_append_drop->ad_,all_cons->as_,all_eq_true->ae_,eq_nil_of_length_eq_zero->arL,getElem?_set->atD,getElem?_take->ati,getElem?_drop->atj,replicate->ea,replicate_succ->atu,mem_append_left->asm,mem_map->aa_,append_assoc->ah_,getElem?_append->aus,length_replicate->asz,getElem?_eq_none->arX,getElem_of_mem->asn,mapM_cons->azQ,flatten_cons->atr,drop_drop->atH,map_map->auf,map_append->arO,map_take->av_,map_drop->atQ,length_pos_iff->aq_,foldl_cons->An,getElem?_map->ats,size_toArray->arQ,nodup_nil->asd,mem_singleton->jn,nodup_append->al_,Pairwise->aAv,Nodup->aAL,pairwise_map->auK,getElem?_append_left->arF,getElem?_append_right->ak_,map_id'->aAC,length->asy,append_eq_nil_iff->asx,flatMap_cons->arM,mem_flatMap->asK,mem_of_getElem?->arW,flatMap_append->ash
open _root_.Array renaming getElem?_toList->ac_,length_toList->an_,toArray_toList->asH,toList_map->atx,getElem?_push->atv,getElem?_eq_getElem->arZ
open _root_.Go.Value renaming cells->auJ,formed->aAA
open _root_.Go.IntKind renaming min->aAG,max->aAH,bits->aue,signed->atG,i64->arV,u8->aso
open _root_.Int renaming le_total->aAy,tmod_nonneg->atc,natAbs_tmod->aAp
open _root_.ByteArray renaming ext->aAu,size->atw
open _root_.Go.ByteArray renaming toList_eq->aAz
open _root_.Option renaming map_some->asj,isSome_iff_exists->asf
open _root_.Bool renaming eq_iff_iff->asa
open _root_.Go renaming sizeOf->asw
open _root_.UInt8 renaming ofNat->ass
open _root_.List.Pairwise renaming forall_of_forall_of_flip->atI
open _root_.Go.World renaming setRow->aAB
open _root_.Go.Value.slice renaming injEq->auL
theorem ω{p:Prop}(h:p:=by omega):p:=h
theorem ξ{p:Prop}(h:p:=by simp):p:=h
theorem ζ{p:Prop}(h:p:=by decide):p:=h
theorem ψ{p:Prop}(h:p:=by rfl):p:=h
theorem arn{i n:Nat}(h:i=n:=by omega):decide ((i:Int)<(n:Int))=false/\i=n:=⟨decide_eq_false ω,h⟩
theorem aro{i n:Nat}(h:i<n:=by omega):decide ((i:Int)<(n:Int)):=decide_eq_true ω
theorem I{α:Type _}{β:Type _}{xs:List α}(f:α->β):(List.map f xs).length=xs.length:=List.length_map f
theorem aF(n:Nat):((n:Int)).toNat=n:=Int.toNat_natCast n
theorem cy{α:Type _}{l:List α}{i:Nat}(h:i<l.length):l[i]?=some l[i]:=List.getElem?_eq_getElem h
theorem bn{p:Prop}[Decidable p](h:¬p):decide p=false:=decide_eq_false h
theorem br{p:Prop}[Decidable p](h:p):decide p:=decide_eq_true h
theorem cY{p:Prop}[Decidable p](h:decide p):p:=of_decide_eq_true h
theorem de{p:Prop}[Decidable p](h:decide p=false):¬p:=of_decide_eq_false h
theorem cx{α:Type _}{a:α}{xs ys:List α}:(a::xs)++ys=a::(xs++ys):=List.cons_append
theorem cv{α:Type _}(xs:List α):[]++xs=xs:=List.nil_append xs
theorem da{α:Type _}{l:List α}:l.take l.length=l:=List.take_length
theorem bZ{α:Type _}{a b:α}(h:some a=some b):a=b:=aAO h
theorem cc{α:Type _}(a b:α):(some a=some b)=(a=b):=aAM a b
theorem bm(a b:Bool):((a&&b)=true)=(a/\b=true):=Bool.and_eq_true a b
theorem bH{p:Prop}[Decidable p]:(decide p=true)=p:=decide_eq_true_eq
theorem eC{p:Prop}{_:Decidable p}:decide p=false↔¬p:=decide_eq_false_iff_not
theorem gh{α:Type _}{x:α}{xs:List α}{d:α}:(x::xs).getD 0 d=x:=List.getD_cons_zero
theorem gm{α:Type _}{x:α}{xs:List α}{n:Nat}{d:α}:(x::xs).getD (n+1) d=xs.getD n d:=List.getD_cons_succ
theorem dT{α:Type _}{β:Type _}(a:α)(b:β)(c:α)(d:β):((a,b)=(c,d))=(a=c/\b=d):=Prod.mk.injEq a b c d
theorem e0{α:Type _}{a:α}{l:List α}:(a::l).length=l.length+1:=List.length_cons
theorem eK{α:Type _}{l:List α}{n:Nat}(h:n<l.length):l[n]∈l:=List.getElem_mem h
theorem e7{α:Type _}{a:α}{s t:List α}:a∈s++t↔a∈s\/a∈t:=List.mem_append
theorem eh{α:Type _}{as bs:List α}:(as++bs).length=as.length+bs.length:=List.length_append
theorem g1{α:Type _}:([]:List α).length=0:=List.length_nil
theorem b7:(!false):=Bool.not_false
theorem bz:(!true)=false:=Bool.not_true
theorem eA{α:Type _}{i:Nat}{l:List α}(h:l.length<=i):l.take i=l:=List.take_of_length_le h
theorem kf{α:Type _}{a:α}{l:List α}:(a::l)[0]?=some a:=List.getElem?_cons_zero
theorem nc{α:Type _}{a:α}{i:Nat}{l:List α}:(a::l)[i+1]?=l[i]?:=List.getElem?_cons_succ
theorem lU{α:Type _}{l:List α}{i:Nat}{a:α}:l.getD i a=l[i]?.getD a:=List.getD_eq_getElem?_getD
theorem gO{α:Type _}{l:List α}{i:Nat}:l.take (i+1)=l.take i++l[i]?.toList:=List.take_add_one
theorem mU{a:Int}(h:0<=a):∃n:Nat,a=n:=Int.eq_ofNat_of_zero_le h
theorem kk{α:Type _}{a b:α}:(some a).getD b=a:=rfl
theorem d4{α:Type _}{a b:α}:cond true a b=a:=rfl
theorem eF{α:Type _}{a b:α}:cond false a b=b:=rfl
theorem fe{α:Type _}{β:Type _}{f:α->β}{a:α}{l:List α}:(a::l).map f=f a::l.map f:=rfl
theorem iW(h:Decidable False):@decide False h=false:=decide_false h
theorem hS(h:Decidable True):@decide True h:=decide_true h
theorem ix{α:Type _}(as:List α):as++[]=as:=List.append_nil as
theorem gM:(0:Int).toNat=0:=rfl
theorem fH(n:Nat):n<=n:=Nat.le_refl n
theorem ed{a b c:Prop}:(a/\b)/\c↔a/\(b/\c):=and_assoc
inductive D where
 |int (k:IntKind) (n:Int)
 |bool (b:Bool)
 |str (s:List UInt8)
 |sl (sz:Nat) (xs:List (List D))
  /-- a au7 value, au8 it gG -/
 |AX (u:Value)
def cellAt(h:Array Obj)(b o:Nat):Option Value:=
 match h[b]? with
 |some (.cells c _ _)=>c[o]?
 |_=>none
theorem cell_eq(w:World)(b o:Nat):w.cell? ⟨b,o,none⟩=cellAt w.heap b o:=by
 unfold World.cell? cellAt
 cases w.heap[b]? with
 |none=>rfl
 |some x=>cases x<;>rfl
theorem Zt{h h':Array Obj}{b:Nat}(e:h'[b]?=h[b]?)(o:Nat):cellAt h' b o=cellAt h b o:=by
 unfold cellAt;rw[e]
def ph(h:Array Obj)(b n:Nat):Prop:=∃cs e,h[b]?=some (.cells cs e (0,0))/\n<=cs.size
mutual
def rep(h:Array Obj)(o:Bool):D->Value->List Nat->Prop
 |.int k n,v,F=>v=.int k n/\F=[]/\k.min<=n/\n<=k.max
 |.bool b,v,F=>v=.bool b/\F=[]
 |.str s,v,F=>v=.string ⟨s.toArray⟩/\F=[]/\s.length<=maxLen
 |.AX u,v,F=>v=u/\F=[]/\u.oneCell'/\u.cells=#[u]
 |.sl sz xs,v,F=>∃a c,v=.slice a xs.length c/\xs.length<=c/\c<=maxLen/\
   ((xs=[]/\F=[]/\(o->c=0))\/
    ∃b f G,a=some ⟨b,f,none⟩/\F=b::G/\b<h.size/\repE h o b f sz xs G/\(o->0<c/\ph h b (f+c * sz)))
def repC(h:Array Obj)(o:Bool)(b:Nat):Nat->List D->List Nat->Prop
 |_,[],G=>G=[]
 |f,d::ds,G=>∃v cE cw,G=cE++cw/\cellAt h b f=some v/\rep h o d v cE/\repC h o b (f+1) ds cw
def repE(h:Array Obj)(o:Bool)(b:Nat):Nat->Nat->List (List D)->List Nat->Prop
 |_,_,[],G=>G=[]
 |f,sz,c::cs,G=>∃cE cw,G=cE++cw/\c.length=sz/\repC h o b f c cE/\repE h o b (f+sz) sz cs cw
end
theorem ph.mono{h h':Array Obj}{b n:Nat}(e:h'[b]?=h[b]?)(r:ph h b n):ph h' b n:=by
 obtain⟨cs,t,h1,h2⟩:=r;exact⟨cs,t,by rw[e];exact h1,h2⟩
theorem ph.lt{h:Array Obj}{b n:Nat}(r:ph h b n):b<h.size:=by
 obtain⟨cs,t,h1,_⟩:=r;rcases asv b h.size with h'|h'
 ·exact h'
 rw[Array.getElem?_eq_none h']at h1;cases h1
mutual
theorem Ii{h h':Array Obj}{o:Bool}(hs:h.size<=h'.size):∀(d:D) (v:Value) (F:List Nat),(∀b∈F,h'[b]?=h[b]?)->rep h o d v F->rep h' o d v F
 |.int k n,v,F,_,r=>by simpa [rep]using r
 |.bool b,v,F,_,r=>by simpa [rep]using r
 |.str s,v,F,_,r=>by simpa [rep]using r
 |.AX u,v,F,_,r=>by simpa [rep]using r
 |.sl sz xs,v,F,bG,r=>by
  simp only[rep]at r⊢;obtain⟨a,c,h1,h2,ao,aH⟩:=r;refine⟨a,c,h1,h2,ao,?_⟩;rcases aH with aH|⟨b,f,G,ak,ar,a4,bP,di⟩
  ·exact .inl aH
  subst ar;exact .inr ⟨b,f,G,ak,rfl,by omega,Bb hs xs b f sz G (bG b ξ) (λg hg=>bG g (by simp[hg])) bP,λaG=>⟨(di aG).1,(di aG).2.mono (bG b ξ)⟩⟩
theorem MW{h h':Array Obj}{o:Bool}(hs:h.size<=h'.size):∀(ds:List D) (b f:Nat) (G:List Nat),h'[b]?=h[b]?->(∀g∈G,h'[g]?=h[g]?)->repC h o b f ds G->repC h' o b f ds G
 |[],_,_,_,_,_,r=>by simpa [repC]using r
 |d::ds,b,f,G,hb,bY,r=>by
  simp only[repC]at r⊢;obtain⟨v,cE,cw,ak,ar,a4,bP⟩:=r;subst ak;exact⟨v,cE,cw,rfl,by rw[Zt hb];exact ar,Ii hs d v cE (λg hg=>bY g (by simp[hg])) a4,MW hs ds b (f+1) cw hb (λg hg=>bY g (by simp[hg])) bP⟩
theorem Bb{h h':Array Obj}{o:Bool}(hs:h.size<=h'.size):∀(cs:List (List D)) (b f sz:Nat) (G:List Nat),h'[b]?=h[b]?->(∀g∈G,h'[g]?=h[g]?)->repE h o b f sz cs G->repE h' o b f sz cs G
 |[],_,_,_,_,_,_,r=>by simpa [repE]using r
 |c::cs,b,f,sz,G,hb,bY,r=>by
  simp only[repE]at r⊢;obtain⟨cE,cw,ak,ar,a4,bP⟩:=r;subst ak;exact⟨cE,cw,rfl,ar,MW hs c b f cE hb (λg hg=>bY g (by simp[hg])) a4,Bb hs cs b (f+sz) sz cw hb (λg hg=>bY g (by simp[hg])) bP⟩
end
mutual
theorem Zu{h:Array Obj}{o:Bool}:∀(d:D) (v:Value) (F:List Nat),rep h o d v F->∀b∈F,b<h.size
 |.int k n,v,F,r=>by simp only[rep]at r;simp[r.2.1]
 |.bool b,v,F,r=>by simp only[rep]at r;simp[r.2]
 |.str s,v,F,r=>by simp only[rep]at r;simp[r.2.1]
 |.AX u,v,F,r=>by simp only[rep]at r;simp[r.2.1]
 |.sl sz xs,v,F,r=>by
  simp only[rep]at r;obtain⟨a,c,h1,h2,ao,aH⟩:=r;rcases aH with aH|⟨b,f,G,ak,ar,a4,bP,di⟩
  ·simp[aH.2.1]
  subst ar;intro g hg;rcases rD.1 hg with rfl|hg
  ·exact a4
  exact CJ xs b f sz G bP g hg
theorem RV{h:Array Obj}{o:Bool}:∀(ds:List D) (b f:Nat) (G:List Nat),repC h o b f ds G->∀g∈G,g<h.size
 |[],_,_,_,r=>by simp only[repC]at r;simp[r]
 |d::ds,b,f,G,r=>by
  simp only[repC]at r;obtain⟨v,cE,cw,ak,ar,a4,bP⟩:=r;subst ak;intro g hg;rcases e7.1 hg with hg|hg
  ·exact Zu d v cE a4 g hg
  exact RV ds b (f+1) cw bP g hg
theorem CJ{h:Array Obj}{o:Bool}:∀(cs:List (List D)) (b f sz:Nat) (G:List Nat),repE h o b f sz cs G->∀g∈G,g<h.size
 |[],_,_,_,_,r=>by simp only[repE]at r;simp[r]
 |c::cs,b,f,sz,G,r=>by
  simp only[repE]at r;obtain⟨cE,cw,ak,ar,a4,bP⟩:=r;subst ak;intro g hg;rcases e7.1 hg with hg|hg
  ·exact RV c b f cE a4 g hg
  exact CJ cs b (f+sz) sz cw bP g hg
end
mutual
theorem Y0{h:Array Obj}:∀(d:D) (v:Value) (F:List Nat),rep h true d v F->rep h false d v F
 |.int k n,v,F,r=>by simpa [rep]using r
 |.bool b,v,F,r=>by simpa [rep]using r
 |.str s,v,F,r=>by simpa [rep]using r
 |.AX u,v,F,r=>by simpa [rep]using r
 |.sl sz xs,v,F,r=>by
  simp only[rep]at r⊢;obtain⟨a,c,h1,h2,ao,aH⟩:=r;refine⟨a,c,h1,h2,ao,?_⟩;rcases aH with aH|⟨b,f,G,ak,ar,a4,bP,di⟩
  ·exact .inl ⟨aH.1,aH.2.1,λe=>by cases e⟩
  exact .inr ⟨b,f,G,ak,ar,a4,Ji xs b f sz G bP,λe=>by cases e⟩
theorem RW{h:Array Obj}:∀(ds:List D) (b f:Nat) (G:List Nat),repC h true b f ds G->repC h false b f ds G
 |[],_,_,_,r=>by simpa [repC]using r
 |d::ds,b,f,G,r=>by
  simp only[repC]at r⊢;obtain⟨v,cE,cw,ak,ar,a4,bP⟩:=r;exact⟨v,cE,cw,ak,ar,Y0 d v cE a4,RW ds b (f+1) cw bP⟩
theorem Ji{h:Array Obj}:∀(cs:List (List D)) (b f sz:Nat) (G:List Nat),repE h true b f sz cs G->repE h false b f sz cs G
 |[],_,_,_,_,r=>by simpa [repE]using r
 |c::cs,b,f,sz,G,r=>by
  simp only[repE]at r⊢;obtain⟨cE,cw,ak,ar,a4,bP⟩:=r;exact⟨cE,cw,ak,ar,RW c b f cE a4,Ji cs b (f+sz) sz cw bP⟩
end
theorem Et{h:Array Obj}{o:Bool}{b:Nat}:∀(ds GI:List D) (f:Nat) (G:List Nat),repC h o b f (ds++GI) G↔∃cE cw,G=cE++cw/\repC h o b f ds cE/\repC h o b (f+ds.length) GI cw
 |[],GI,f,G=>by
  simp only[cv,repC,g1,ao_];exact⟨λr=>⟨[],G,rfl,rfl,r⟩,λ⟨cE,cw,e,ak,r⟩=>by subst ak;rw[e];exact r⟩
 |d::ds,GI,f,G=>by
  simp only[cx,repC,e0];constructor
  ·rintro⟨v,cE,cw,rfl,ar,a4,bP⟩;obtain⟨xJ,xK,rfl,k1,k2⟩:=(Et ds GI (f+1) cw).1 bP;exact⟨cE++xJ,xK,by simp,⟨v,cE,xJ,rfl,ar,a4,k1⟩,by rw[show f+(ds.length+1)=f+1+ds.length from by omega];exact k2⟩
  rintro⟨cE,cw,rfl,⟨v,xJ,xK,rfl,ar,a4,bP⟩,k⟩;refine⟨v,xJ,xK++cw,by simp,ar,a4,(Et ds GI (f+1) _).2 ⟨xK,cw,rfl,bP,?_⟩⟩;rw[show f+1+ds.length=f+(ds.length+1)from by omega];exact k
theorem repE_append{h:Array Obj}{o:Bool}{b sz:Nat}:∀(cs ds:List (List D)) (f:Nat) (G:List Nat),repE h o b f sz (cs++ds) G↔∃cE cw,G=cE++cw/\repE h o b f sz cs cE/\repE h o b (f+cs.length * sz) sz ds cw
 |[],ds,f,G=>by
  simp only[cv,repE,g1,aAf,ao_];exact⟨λr=>⟨[],G,rfl,rfl,r⟩,λ⟨cE,cw,e,ak,r⟩=>by subst ak;rw[e];exact r⟩
 |c::cs,ds,f,G=>by
  simp only[cx,repE,e0];have hf:f+sz+cs.length * sz=f+(cs.length+1) * sz:=by rw[arT];omega
  constructor
  ·rintro⟨cE,cw,rfl,ar,a4,bP⟩;obtain⟨xJ,xK,rfl,k1,k2⟩:=(repE_append cs ds (f+sz) cw).1 bP;exact⟨cE++xJ,xK,by simp,⟨cE,xJ,rfl,ar,a4,k1⟩,by rw[<-hf];exact k2⟩
  rintro⟨cE,cw,rfl,⟨xJ,xK,rfl,ar,a4,bP⟩,k⟩;exact⟨xJ,xK++cw,by simp,ar,a4,(repE_append cs ds (f+sz) _).2 ⟨xK,cw,rfl,bP,by rw[hf];exact k⟩⟩
theorem Je{h:Array Obj}{o:Bool}{b sz:Nat}{cs:List (List D)}{f:Nat}{G:List Nat}(r:repE h o b f sz cs G){i:Nat}{c:List D}(hi:cs[i]?=some c) :
  ∃cE qg cw,G=cE++(qg++cw)/\c.length=sz/\repE h o b f sz (cs.take i) cE/\repC h o b (f+i * sz) c qg/\repE h o b (f+(i+1) * sz) sz (cs.drop (i+1)) cw:=by
 have hlt:i<cs.length:=(aj_.1 hi).1;have hc:cs[i]=c:=(aj_.1 hi).2;have e:cs=cs.take i++(c::cs.drop (i+1)):=by
  rw[<-hc,List.getElem_cons_drop,ad_]
 rw[e]at r;obtain⟨cE,cw,rfl,aZ,bA⟩:=(repE_append _ _ _ _).1 r;simp only[repE]at bA;obtain⟨xJ,xK,rfl,ar,a4,bP⟩:=bA;have hl:(cs.take i).length=i:=by simp;omega
 rw[hl]at a4 bP;refine⟨cE,xJ,xK,rfl,ar,aZ,a4,?_⟩;rw[arT,aAm,<-arH];exact bP
theorem Rs{h:Array Obj}{o:Bool}{b:Nat}:∀(ds:List D) (f:Nat) (G:List Nat),repC h o b f ds G->∃us:List Value,us.length=ds.length/\(∀(j:Nat) (u:Value),us[j]?=some u->cellAt h b (f+j)=some u)/\
  (∀(j:Nat) (d:D) (u:Value),ds[j]?=some d->us[j]?=some u->∃Gl,(∀g∈Gl,g∈G)/\rep h o d u Gl)
 |[],f,G,r=>⟨[],rfl,by simp,by simp⟩
 |d::ds,f,G,r=>by
  simp only[repC]at r;obtain⟨v,cE,cw,rfl,ar,a4,bP⟩:=r;obtain⟨us,h1,h2,ao⟩:=Rs ds (f+1) cw bP;refine⟨v::us,by simp[h1],?_,?_⟩
  ·intro j u aI
   cases j with
   |zero=>simp at aI;subst aI;simpa using ar
   |succ j=>
    have:=h2 j u (by simpa using aI);rw[show f+(j+1)=f+1+j from by omega];exact this
  intro j ajG u hd hu
  cases j with
  |zero=>simp at hd hu;subst hd;subst hu;exact⟨cE,λg hg=>by simp[hg],a4⟩
  |succ j=>
   obtain⟨Gl,k1,k2⟩:=ao j ajG u (by simpa using hd) (by simpa using hu);exact⟨Gl,λg hg=>by simp[k1 g hg],k2⟩
theorem Rt{h:Array Obj}{o:Bool}{d:D}{v:Value}{F:List Nat}(r:rep h o d v F):v.oneCell':=by
 cases d<;>simp only[rep]at r
 ·rw[r.1];rfl
 ·rw[r.1];rfl
 ·rw[r.1];rfl
 ·obtain⟨a,c,h1,_⟩:=r;rw[h1];rfl
 rw[r.1];exact r.2.2.1
def D.flat:D->Bool
 |.sl _ _=>false
 |_=>true
def hP(xs:List (List D)):Bool:=xs.all λc=>c.all D.flat
def D.plain:D->Bool
 |.sl _ _=>false
 |.AX _=>false
 |_=>true
theorem I8{h:Array Obj}{o:Bool}{d:D}{v:Value}{F:List Nat}(hf:d.flat)(r:rep h o d v F):F=[]:=by
 cases d<;>simp only[rep]at r
 ·exact r.2.1
 ·exact r.2
 ·exact r.2.1
 ·simp[D.flat]at hf
 exact r.2.1
theorem MM{h h':Array Obj}{o o':Bool}{d:D}{v:Value}{F:List Nat}(hf:d.flat)(r:rep h o d v F):rep h' o' d v F:=by
 cases d<;>simp only[rep]at r⊢
 ·exact r
 ·exact r
 ·exact r
 ·simp[D.flat]at hf
 exact r
theorem RX{h:Array Obj}{o:Bool}{b:Nat}:∀(ds:List D) (f:Nat) (G:List Nat),ds.all D.flat->repC h o b f ds G->G=[]
 |[],_,_,_,r=>by simpa [repC]using r
 |d::ds,f,G,hf,r=>by
  simp only[repC]at r;obtain⟨v,cE,cw,rfl,ar,a4,bP⟩:=r;simp only[as_,bm]at hf;rw[I8 hf.1 a4,RX ds (f+1) cw hf.2 bP];rfl
theorem Iq{h:Array Obj}{o:Bool}{b:Nat}:∀(cs:List (List D)) (f sz:Nat) (G:List Nat),hP cs->repE h o b f sz cs G->G=[]
 |[],_,_,_,_,r=>by simpa [repE]using r
 |c::cs,f,sz,G,hf,r=>by
  simp only[repE]at r;obtain⟨cE,cw,rfl,ar,a4,bP⟩:=r;simp only[hP,as_,bm]at hf;rw[RX c f cE hf.1 a4,Iq cs (f+sz) sz cw hf.2 bP];rfl
theorem Zv{h:Array Obj}{o:Bool}{b:Nat}:∀(ds:List D) (f:Nat) (G:List Nat),ds.all D.flat->repC h o b f ds G->repC h true b f ds []
 |[],_,_,_,r=>by simp[repC]
 |d::ds,f,G,hf,r=>by
  simp only[repC]at r⊢;obtain⟨v,cE,cw,rfl,ar,a4,bP⟩:=r;simp only[as_,bm]at hf;have h1:=I8 hf.1 a4;subst h1;exact⟨v,[],[],rfl,ar,MM hf.1 a4,Zv ds (f+1) cw hf.2 bP⟩
theorem YP{h:Array Obj}{o:Bool}{b:Nat}:∀(cs:List (List D)) (f sz:Nat) (G:List Nat),hP cs->repE h o b f sz cs G->repE h true b f sz cs []
 |[],_,_,_,_,r=>by simp[repE]
 |c::cs,f,sz,G,hf,r=>by
  simp only[repE]at r⊢;obtain⟨cE,cw,rfl,ar,a4,bP⟩:=r;simp only[hP,as_,bm]at hf;exact⟨[],[],rfl,ar,Zv c f cE hf.1 a4,YP cs (f+sz) sz cw hf.2 bP⟩
theorem MX{h h':Array Obj}{o:Bool}{b ey:Nat}:∀(ds:List D) (f jb:Nat) (G:List Nat),h.size<=h'.size->(∀g∈G,h'[g]?=h[g]?)->(∀j,j<ds.length->cellAt h' ey (jb+j)=cellAt h b (f+j))->
  repC h o b f ds G->repC h' o ey jb ds G
 |[],_,_,_,_,_,_,r=>by simpa [repC]using r
 |d::ds,f,jb,G,hs,bY,hc,r=>by
  simp only[repC]at r⊢;obtain⟨v,cE,cw,rfl,ar,a4,bP⟩:=r;refine⟨v,cE,cw,rfl,?_,Ii hs d v cE (λg hg=>bY g (by simp[hg])) a4,MX ds (f+1) (jb+1) cw hs (λg hg=>bY g (by simp[hg])) ?_ bP⟩
  ·have:=hc 0 ξ;simpa [ar]using this
  intro j aI;have:=hc (j+1) (by simp;omega);rw[show jb+1+j=jb+(j+1)from by omega,show f+1+j=f+(j+1)from by omega];exact this
theorem yG{h h':Array Obj}{o:Bool}{b ey:Nat}:∀(cs:List (List D)) (f jb sz:Nat) (G:List Nat),h.size<=h'.size->(∀g∈G,h'[g]?=h[g]?)->(∀j,j<cs.length * sz->cellAt h' ey (jb+j)=cellAt h b (f+j))->
  repE h o b f sz cs G->repE h' o ey jb sz cs G
 |[],_,_,_,_,_,_,_,r=>by simpa [repE]using r
 |c::cs,f,jb,sz,G,hs,bY,hc,r=>by
  simp only[repE]at r⊢;obtain⟨cE,cw,rfl,ar,a4,bP⟩:=r;have hm:(c::cs).length * sz=sz+cs.length * sz:=by rw[e0,arT];omega
  refine⟨cE,cw,rfl,ar,MX c f jb cE hs (λg hg=>bY g (by simp[hg])) (λj aI=>hc j ω) a4,yG cs (f+sz) (jb+sz) sz cw hs (λg hg=>bY g (by simp[hg])) ?_ bP⟩;intro j aI;have:=hc (sz+j) ω;rw[show jb+sz+j=jb+(sz+j)from by omega,show f+sz+j=f+(sz+j)from by omega];exact this
def yN:List (Nat×List D):=[]
theorem ajH:∀p∈yN,p.2.all D.flat:=by
 have h:yN.all (λp=>p.2.all D.flat)=true:=rfl;exact ae_.1 h
def RY:List (Nat×(Array Value->Prop)):=[]
theorem ajI:∀q∈RY,∃p∈yN,p.1=q.1:=by
 have h:RY.all (λq=>yN.any (λp=>p.1 == q.1))=true:=rfl;intro q hq;have h2:=ae_.1 h q hq;obtain⟨p,hp,e⟩:=List.any_eq_true.1 h2;exact⟨p,hp,by simpa using e⟩
def FV(h:Array Obj):Prop:=∀q∈RY,∃cs e b2,h[q.1]?=some (.cells cs e b2)/\q.2 cs
theorem FV.mono{h h':Array Obj}(g:FV h)(hb:∀p∈yN,h'[p.1]?=h[p.1]?):FV h':=λq hq=>by
 obtain⟨p,hp,e⟩:=ajI q hq;obtain⟨cs,t,b2,h1,h2⟩:=g q hq;exact⟨cs,t,b2,by rw[<-e,hb p hp,e];exact h1,h2⟩
def GOk(h:Array Obj):Prop:=(∀p∈yN,p.1<h.size/\repC h false p.1 0 p.2 [])/\FV h
theorem GOk.mono{h h':Array Obj}(g:GOk h)(hs:h.size<=h'.size)(hb:∀p∈yN,h'[p.1]?=h[p.1]?):GOk h':=⟨λp hp=>by
 obtain⟨h1,h2⟩:=g.1 p hp;exact⟨asD h1 hs,MW hs p.2 p.1 0 [] (hb p hp) ξ h2⟩,g.2.mono hb⟩
inductive V where
 |an
 |d (x:D)
 |eg (sz:Nat)
 |agg (vs:List V)
 |ptr (id cC off:Nat)
 |gF (cells:List D) (off:Nat)
 |sl (id off len:Nat)
 |fn (f:FuncId) (gd:List V)
 |e8 (vs:List V)
 |b9 (c:Bool) (v:V)
inductive H where
 |ek
 |box (cells:List V)
 |ay (sz:Nat) (xs:List (List D)) (ma:Bool)
 |lk (sz:Nat) (xs:List (List D))
  /-- ayh ayi, and ayj ayk ayl it -/
 |aj (sz:Nat) (xs:List (List D))
  /-- aym a one, of ayn one ayo gG open: e3 ayp ayq ayr of ays own -/
 |h3 (sz:Nat) (pre:List (List D)) (cells:List V) (post:List (List D))
def H.qe:H->Bool
 |.box _=>true
 |.ay _ _ _=>true
 |.aj _ _=>true
 |.h3 _ _ _ _=>true
 |_=>false
def H.own:H->Bool
 |.ay _ _ true=>true
 |.aj _ _=>true
 |.h3 _ _ _ _=>true
 |_=>false
def H.B_:H->Bool
 |.aj _ _=>true
 |.h3 _ _ _ _=>true
 |_=>false
theorem H.LN{x:H}(h:x.own):x.qe:=by
 cases x<;>first|rfl|(rename_i ma;cases ma<;>first|rfl|cases h)|cases h
theorem H.Ik{x:H}(h:x.B_):x.own:=by
 cases x<;>first|rfl|cases h
structure h5 where
 fz:Option Nat
 off:Nat
 cap:Nat
 sz:Nat
 eb:List Nat
abbrev c5:=Nat->Option h5
def a6(hs:List H)(i:Nat):H:=hs.getD i .ek
def nt(x:H)(β:h5)(b:Nat):Prop:=(x.qe/\β.fz=some b)\/(x.B_/\b∈β.eb)
def dq(φ:c5)(hs:List H)(b:Nat):Prop:=∀i β,φ i=some β->¬nt (a6 hs i) β b
mutual
def VRel(φ:c5)(T:Nat->Prop)(h:Array Obj):V->Value->Prop
 |.an,_=>True
 |.d x,u=>∃F,rep h false x u F/\∀b∈F,T b
 |.eg _,u=>u=.slice none 0 0
 |.agg vs,u=>∃us:Array Value,u=.agg us/\VRels φ T h vs us.toList
 |.ptr id cC off,u=>∃β b,φ id=some β/\β.fz=some b/\u=.pointer (some ⟨b,β.off+cC * β.sz+off,none⟩)
 |.gF cells off,u=>∃b f G,u=.pointer (some ⟨b,f+off,none⟩)/\b<h.size/\T b/\repC h false b f cells G/\∀g∈G,T g
 |.sl id off len,u=>∃β a c,φ id=some β/\u=.slice a len c/\c<=maxLen/\((c=0/\len=0/\off=β.cap)\/∃b,β.fz=some b/\a=some ⟨b,β.off+off * β.sz,none⟩/\len<=c/\off+c=β.cap)
 |.fn f gd,u=>∃us:Array Value,u=.func (.func f) #[] us/\VRels φ T h gd us.toList
 |.e8 vs,u=>∃us:Array Value,u=.tuple us/\VRels φ T h vs us.toList
 |.b9 c v,u=>(c->VRel φ T h v u)/\(c=false->u=undef)
def VRels(φ:c5)(T:Nat->Prop)(h:Array Obj):List V->List Value->Prop
 |[],us=>us=[]
 |v::vs,us=>∃u c6,us=u::c6/\VRel φ T h v u/\VRels φ T h vs c6
end
def eR(φ:c5)(T:Nat->Prop)(h:Array Obj)(β:h5):H->Prop
 |.ek=>True
 |.box cells=>∃b cs e,β.fz=some b/\β.off=0/\h[b]?=some (.cells cs e (0,0))/\VRels φ T h cells cs.toList
 |.ay sz xs ma=>β.sz=sz/\((β.fz=none/\xs=[]/\β.cap=0/\β.eb=[])\/
   ∃b G,β.fz=some b/\xs.length<=β.cap/\ph h b (β.off+β.cap * sz)/\repE h ma b β.off sz xs G/\(ma->G=β.eb)/\(ma=false->∀g∈G,T g))
 |.lk sz xs=>β.sz=sz/\(xs=[]\/∃b G,β.fz=some b/\T b/\b<h.size/\repE h false b β.off sz xs G/\∀g∈G,T g)
 |.aj sz xs=>β.sz=sz/\((β.fz=none/\xs=[]/\β.cap=0/\β.eb=[])\/
   ∃b,β.fz=some b/\xs.length<=β.cap/\ph h b (β.off+β.cap * sz)/\repE h true b β.off sz xs β.eb)
 |.h3 sz pre cells post=>β.sz=sz/\cells.length=sz/\∃b cE cw us,β.fz=some b/\pre.length+1+post.length<=β.cap/\ph h b (β.off+β.cap * sz)/\β.eb=cE++cw/\
   repE h true b β.off sz pre cE/\VRels φ T h cells us/\(∀(j:Nat) (u:Value),us[j]?=some u->cellAt h b (β.off+pre.length * sz+j)=some u)/\repE h true b (β.off+(pre.length+1) * sz) sz post cw
def d_(φ:c5)(hs:List H)(i b:Nat):Prop:=
 ∃β,φ i=some β/\(((a6 hs i).qe/\β.fz=some b)\/((a6 hs i).own/\b∈β.eb))
theorem nt.A'{φ:c5}{hs:List H}{i:Nat}{β:h5}{b:Nat}(e:φ i=some β)(h:nt (a6 hs i) β b):d_ φ hs i b:=
 ⟨β,e,h.imp id λh=>⟨H.Ik h.1,h.2⟩⟩
structure Bel(s0:Nat->Prop)(w w':World):Prop where
 os:w'.os=w.os
 tape:w'.tape=w.tape
 output:w'.output=w.output
 size:w.heap.size<=w'.heap.size
 block:∀k,¬s0 k->w'.heap[k]?=w.heap[k]?
 room:∀b n,ph w.heap b n->ph w'.heap b n
theorem Bel.refl(s0:Nat->Prop)(w:World):Bel s0 w w:=⟨rfl,rfl,rfl,fH _,λ_ _=>rfl,λ_ _ h=>h⟩
theorem Bel.trans{s0:Nat->Prop}{a b c:World}(h:Bel s0 a b)(k:Bel s0 b c):Bel s0 a c:=
 ⟨k.os.trans h.os,k.tape.trans h.tape,k.output.trans h.output,arP h.size k.size,λi hi=>(k.block i hi).trans (h.block i hi),λb n r=>k.room b n (h.room b n r)⟩
theorem Bel.mono{s0 ZG:Nat->Prop}{w w':World}(h:Bel s0 w w')(xM:∀k,s0 k->ZG k):Bel ZG w w':=
 ⟨h.os,h.tape,h.output,h.size,λk hk=>h.block k λe=>hk (xM k e),h.room⟩
theorem Bel.drew{s0:Nat->Prop}{a w:World}(h:Bel s0 a w):Bel s0 a w.drew:=⟨h.os,h.tape,h.output,h.size,h.block,h.room⟩
structure St where
 tmps:List V
 heap:List H
def ZH:List (V×Value):=yN.map λp=>(.gF p.2 0,.pointer (some ⟨p.1,0,none⟩))
structure R(B:Nat->Prop)(w0:World)(a0:Nat->Prop)(φ:c5)(σ:St)(kp:List (V×Value))(a:Act)(w:World):Prop where
 jA:VRels φ (dq φ σ.heap) w.heap σ.tmps a.tmps.toList
 kp:∀p∈ZH++kp,VRel φ (dq φ σ.heap) w.heap p.1 p.2
 hp:∀i,a6 σ.heap i=.ek\/∃β,φ i=some β/\eR φ (dq φ σ.heap) w.heap β (a6 σ.heap i)
 dQ:∀i j b,d_ φ σ.heap i b->d_ φ σ.heap j b->i=j
 eI:∀i β,φ i=some β->(a6 σ.heap i).own->β.eb.Nodup/\∀b,β.fz=some b->b∉β.eb
 gH:∀i b,d_ φ σ.heap i b->B b
 iS:∀i β,φ i=some β->a0 i
 hR:Bel B w0 w
 bs:∀k,w.heap.size<=k->B k
 pg:a.defers=[]
 np:(∀p∈yN,¬B p.1)/\FV w0.heap
section
variable {φ:c5} {T:Nat->Prop} {h:Array Obj}
theorem mG:∀(vs:List V) (us:List Value),VRels φ T h vs us->us.length=vs.length
 |[],us,r=>by simp only[VRels]at r;rw[r];rfl
 |v::vs,us,r=>by
  simp only[VRels]at r;obtain⟨u,c6,rfl,_,bA⟩:=r;simp[mG vs c6 bA]
theorem yM:∀(vs:List V) (us:List Value),VRels φ T h vs us->∀(t:Nat) (v:V),vs[t]?=some v->∃u,us[t]?=some u/\VRel φ T h v u
 |[],_,_,t,v,e=>by simp at e
 |v::vs,us,r,t,gX,e=>by
  simp only[VRels]at r;obtain⟨u,c6,rfl,aZ,bA⟩:=r
  cases t with
  |zero=>simp at e;subst e;exact⟨u,by simp,aZ⟩
  |succ t=>exact yM vs c6 bA t gX (by simpa using e)
theorem CE:∀(vs:List V) (us:List Value),us.length=vs.length->(∀(t:Nat) (v:V) (u:Value),vs[t]?=some v->us[t]?=some u->VRel φ T h v u)->VRels φ T h vs us
 |[],us,e,_=>by simp only[VRels];exact arL (by simpa using e)
 |v::vs,us,e,r=>by
  cases us with
  |nil=>simp at e
  |cons u us=>
   simp only[VRels];exact⟨u,us,rfl,r 0 v u rfl rfl,CE vs us (by simpa using e) λt gX zW hv hu=>r (t+1) gX zW (by simpa using hv) (by simpa using hu)⟩
theorem ajU{vs:List V}{us:List Value}(r:VRels φ T h vs us){v:V}{u:Value}(hv:VRel φ T h v u)(t:Nat):VRels φ T h (vs.set t v) (us.set t u):=by
 refine CE _ _ (by simp[mG _ _ r]) λi gX zW ak ar=>?_;rw[atD]at ak ar;by_cases hi:t=i
 ·subst hi;simp only[if_true]at ak ar;split at ak
  ·split at ar
   ·cases ak;cases ar;exact hv
   cases ar
  cases ak
 simp only[hi,if_false]at ak ar;obtain⟨ayt,k1,k2⟩:=yM _ _ r i gX ak;rw[k1]at ar;cases ar;exact k2
theorem GG{vs vs':List V}{us c6:List Value}(r:VRels φ T h vs us)(dR:VRels φ T h vs' c6):VRels φ T h (vs++vs') (us++c6):=by
 induction vs generalizing us with
 |nil=>simp only[VRels]at r;subst r;simpa using dR
 |cons v vs c_=>
  simp only[VRels]at r;obtain⟨u,Xt,rfl,aZ,bA⟩:=r;simp only[cx,VRels];exact⟨u,Xt++c6,rfl,aZ,c_ bA⟩
theorem ZI{vs:List V}{us:List Value}(r:VRels φ T h vs us)(n:Nat):VRels φ T h (vs.take n) (us.take n):=by
 refine CE _ _ (by simp[mG _ _ r]) λi v u ak ar=>?_;rw[ati]at ak ar;split at ak
 ·rename_i hi;rw[if_pos hi]at ar;obtain⟨zW,k1,k2⟩:=yM _ _ r i v ak;rw[k1]at ar;cases ar;exact k2
 cases ak
theorem ZJ{vs:List V}{us:List Value}(r:VRels φ T h vs us)(n:Nat):VRels φ T h (vs.drop n) (us.drop n):=by
 refine CE _ _ (by simp[mG _ _ r]) λi v u ak ar=>?_;rw[atj]at ak ar;obtain⟨zW,k1,k2⟩:=yM _ _ r (n+i) v ak;rw[k1]at ar;cases ar;exact k2
theorem R7{v:V}{u:Value}(r:VRel φ T h v u)(n:Nat):VRels φ T h (ea n v) (ea n u):=by
 induction n with
 |zero=>simp[VRels]
 |succ n c_=>simp only[atu,VRels];exact⟨u,_,rfl,r,c_⟩
end
def p6(φ du:c5):Prop:=∀i β,φ i=some β->∃bF,du i=some bF/\bF.fz=β.fz/\bF.off=β.off/\bF.cap=β.cap/\bF.sz=β.sz
theorem p6.refl(φ:c5):p6 φ φ:=λ_ β e=>⟨β,e,rfl,rfl,rfl,rfl⟩
structure FU(φ du:c5)(T hQ:Nat->Prop)(h h':Array Obj):Prop where
 Gr:p6 φ du
 cR:∀b,b<h.size->T b->hQ b
 ep:∀b,b<h.size->T b->h'[b]?=h[b]?
 hs:h.size<=h'.size
section
variable {φ du:c5} {T hQ:Nat->Prop} {h h':Array Obj}
mutual
theorem Io(K:FU φ du T hQ h h'):∀(v:V) (u:Value),VRel φ T h v u->VRel du hQ h' v u
 |.an,_,_=>by simp[VRel]
 |.d x,u,r=>by
  simp only[VRel]at r⊢;obtain⟨F,aZ,bA⟩:=r;have hl:=Zu x u F aZ;exact⟨F,Ii K.hs x u F (λb hb=>K.ep b (hl b hb) (bA b hb)) aZ,λb hb=>K.cR b (hl b hb) (bA b hb)⟩
 |.eg _,_,r=>by simpa [VRel]using r
 |.agg vs,u,r=>by
  simp only[VRel]at r⊢;obtain⟨us,aZ,bA⟩:=r;exact⟨us,aZ,xo K vs us.toList bA⟩
 |.ptr id cC off,u,r=>by
  simp only[VRel]at r⊢;obtain⟨β,b,aZ,bA,c9⟩:=r;obtain⟨bF,k1,k2,dd,il,ka⟩:=K.Gr id β aZ;exact⟨bF,b,k1,by rw[k2];exact bA,by rw[dd,ka];exact c9⟩
 |.gF cells off,u,r=>by
  simp only[VRel]at r⊢;obtain⟨b,f,G,aZ,bA,c9,dn,fZ⟩:=r;have hl:=RV cells b f G dn;exact⟨b,f,G,aZ,asD bA K.hs,K.cR b bA c9,MW K.hs cells b f G (K.ep b bA c9) (λg hg=>K.ep g (hl g hg) (fZ g hg)) dn,λg hg=>K.cR g (hl g hg) (fZ g hg)⟩
 |.sl id off len,u,r=>by
  simp only[VRel]at r⊢;obtain⟨β,a,c,aZ,bA,c9,dn⟩:=r;obtain⟨bF,k1,k2,dd,il,ka⟩:=K.Gr id β aZ;refine⟨bF,a,c,k1,bA,c9,?_⟩;rcases dn with dn|⟨b,dn,fZ,ji,sF⟩
  ·exact .inl ⟨dn.1,dn.2.1,by rw[il];exact dn.2.2⟩
  exact .inr ⟨b,by rw[k2];exact dn,by rw[dd,ka];exact fZ,ji,by rw[il];exact sF⟩
 |.fn f gd,u,r=>by
  simp only[VRel]at r⊢;obtain⟨us,aZ,bA⟩:=r;exact⟨us,aZ,xo K gd us.toList bA⟩
 |.e8 vs,u,r=>by
  simp only[VRel]at r⊢;obtain⟨us,aZ,bA⟩:=r;exact⟨us,aZ,xo K vs us.toList bA⟩
 |.b9 c v,u,r=>by
  simp only[VRel]at r⊢;exact⟨λe=>Io K v u (r.1 e),r.2⟩
theorem xo(K:FU φ du T hQ h h'):∀(vs:List V) (us:List Value),VRels φ T h vs us->VRels du hQ h' vs us
 |[],us,r=>by simpa [VRels]using r
 |v::vs,us,r=>by
  simp only[VRels]at r⊢;obtain⟨u,c6,aZ,bA,c9⟩:=r;exact⟨u,c6,aZ,Io K v u bA,xo K vs c6 c9⟩
end
theorem QA(K:FU φ du T hQ h h'){β:h5}{x:H}(r:eR φ T h β x)(hb:∀b,x.qe->β.fz=some b->h'[b]?=h[b]?)(hn:∀b,x.own->b∈β.eb->h'[b]?=h[b]?):eR du hQ h' β x:=by
 cases x with
 |ek=>trivial
 |box cells=>
  simp only[eR]at r⊢;obtain⟨b,cs,e,aZ,bA,c9,dn⟩:=r;exact⟨b,cs,e,aZ,bA,by rw[hb b rfl aZ];exact c9,xo K cells cs.toList dn⟩
 |ay sz xs ma=>
  simp only[eR]at r⊢;obtain⟨e,r⟩:=r;refine⟨e,?_⟩;rcases r with r|⟨b,G,aZ,bA,c9,dn,fZ,ji⟩
  ·exact .inl r
  have hl:=CJ xs b β.off sz G dn;refine .inr ⟨b,G,aZ,bA,c9.mono (hb b rfl aZ),?_,fZ,λk g hg=>K.cR g (hl g hg) (ji k g hg)⟩;refine Bb K.hs xs b β.off sz G (hb b rfl aZ) (λg hg=>?_) dn;cases ma
  ·exact K.ep g (hl g hg) (ji rfl g hg)
  exact hn g rfl (fZ rfl▸hg)
 |lk sz xs=>
  simp only[eR]at r⊢;obtain⟨e,r⟩:=r;refine⟨e,?_⟩;rcases r with r|⟨b,G,aZ,bA,c9,dn,fZ⟩
  ·exact .inl r
  have hl:=CJ xs b β.off sz G dn;exact .inr ⟨b,G,aZ,K.cR b c9 bA,asD c9 K.hs,Bb K.hs xs b β.off sz G (K.ep b c9 bA) (λg hg=>K.ep g (hl g hg) (fZ g hg)) dn,λg hg=>K.cR g (hl g hg) (fZ g hg)⟩
 |aj sz xs=>
  simp only[eR]at r⊢;obtain⟨e,r⟩:=r;refine⟨e,?_⟩;rcases r with r|⟨b,aZ,bA,c9,dn⟩
  ·exact .inl r
  exact .inr ⟨b,aZ,bA,c9.mono (hb b rfl aZ),Bb K.hs xs b β.off sz _ (hb b rfl aZ) (λg hg=>hn g rfl hg) dn⟩
 |h3 sz pre cells post=>
  simp only[eR]at r⊢;obtain⟨e,hc,b,cE,cw,us,aZ,bA,c9,dn,fZ,ji,sF,yu⟩:=r;refine⟨e,hc,b,cE,cw,us,aZ,bA,c9.mono (hb b rfl aZ),dn,?_,xo K cells us ji,λj u aI=>?_,?_⟩
  ·exact Bb K.hs pre b β.off sz cE (hb b rfl aZ) (λg hg=>hn g rfl (by rw[dn];simp[hg])) fZ
  ·rw[Zt (hb b rfl aZ)];exact sF j u aI
  exact Bb K.hs post b _ sz cw (hb b rfl aZ) (λg hg=>hn g rfl (by rw[dn];simp[hg])) yu
end
theorem d_.lt{B:Nat->Prop}{w0:World}{a0:Nat->Prop}{φ:c5}{σ:St}{kp:List (V×Value)}{a:Act}{w:World}(r:R B w0 a0 φ σ kp a w){i b:Nat}(aG:d_ φ σ.heap i b):b<w.heap.size:=by
 obtain⟨β,e,aG⟩:=aG;rcases r.hp i with hd|⟨bF,e',hr⟩
 ·rw[hd]at aG;rcases aG with ⟨h1,_⟩|⟨h1,_⟩<;>cases h1
 rw[e]at e';cases e';rcases aG with ⟨h1,h2⟩|⟨h1,h2⟩
 ·cases hx:a6 σ.heap i with
  |ek=>rw[hx]at h1;cases h1
  |lk sz xs=>rw[hx]at h1;cases h1
  |box cells=>
   rw[hx]at hr;simp only[eR]at hr;obtain⟨ey,cs,t,aZ,bA,c9,dn⟩:=hr;rw[h2]at aZ;cases aZ;exact ph.lt ⟨cs,t,c9,Nat.zero_le _⟩
  |ay sz xs ma=>
   rw[hx]at hr;simp only[eR]at hr;rcases hr.2 with hr|⟨ey,G,aZ,bA,c9,dn,fZ,ji⟩
   ·rw[h2]at hr;cases hr.1
   rw[h2]at aZ;cases aZ;exact c9.lt
  |aj sz xs=>
   rw[hx]at hr;simp only[eR]at hr;rcases hr.2 with hr|⟨ey,aZ,bA,c9,dn⟩
   ·rw[h2]at hr;cases hr.1
   rw[h2]at aZ;cases aZ;exact c9.lt
  |h3 sz pre cells post=>
   rw[hx]at hr;simp only[eR]at hr;obtain⟨_,_,ey,cE,cw,us,aZ,bA,c9,dn⟩:=hr;rw[h2]at aZ;cases aZ;exact c9.lt
 ·cases hx:a6 σ.heap i with
  |ek=>rw[hx]at h1;cases h1
  |lk sz xs=>rw[hx]at h1;cases h1
  |box cells=>rw[hx]at h1;cases h1
  |ay sz xs ma=>
   cases ma
   ·rw[hx]at h1;cases h1
   rw[hx]at hr;simp only[eR]at hr;rcases hr.2 with hr|⟨ey,G,aZ,bA,c9,dn,fZ,ji⟩
   ·rw[hr.2.2.2]at h2;cases h2
   exact CJ xs ey β.off sz G dn b ((fZ trivial)▸h2)
  |aj sz xs=>
   rw[hx]at hr;simp only[eR]at hr;rcases hr.2 with hr|⟨ey,aZ,bA,c9,dn⟩
   ·rw[hr.2.2.2]at h2;cases h2
   exact CJ xs ey β.off sz _ dn b h2
  |h3 sz pre cells post=>
   rw[hx]at hr;simp only[eR]at hr;obtain⟨_,_,ey,cE,cw,us,aZ,bA,c9,dn,fZ,ji,sF,yu⟩:=hr;rw[dn]at h2;rcases e7.1 h2 with h2|h2
   ·exact CJ pre ey β.off sz _ fZ b h2
   exact CJ post ey _ sz _ yu b h2
theorem ZK{B:Nat->Prop}{w0:World}{a0:Nat->Prop}{φ:c5}{σ:St}{kp:List (V×Value)}{a:Act}{w:World}(r:R B w0 a0 φ σ kp a w){i:Nat}{β:h5}(e:φ i=some β)
  (hx:(a6 σ.heap i).own) (hs:(a6 σ.heap i).B_=false) {b:Nat} (hb:b∈β.eb):dq φ σ.heap b:=by
 intro j bF e' ht;have:=r.dQ i j b ⟨β,e,.inr ⟨hx,hb⟩⟩ (nt.A' e' ht);subst this;rw[e]at e';cases e';rcases ht with ⟨_,he⟩|⟨hl,_⟩
 ·exact(r.eI i β e hx).2 b he hb
 rw[hs]at hl;cases hl
theorem A6{B:Nat->Prop}{w0:World}{a0:Nat->Prop}{φ:c5}{σ:St}{kp:List (V×Value)}{a:Act}{w:World}(r:R B w0 a0 φ σ kp a w)
  (S:Nat->Prop) (Cz:Nat->Prop) (du:c5) (hs':List H) (w':World)
  (k1:∀i,¬S i->a6 hs' i=a6 σ.heap i/\du i=φ i)
  (k2:p6 φ du)
  (dd:w.heap.size<=w'.heap.size)
  (il:∀b,b<w.heap.size->(∀i,S i->∀β,φ i=some β->¬nt (a6 σ.heap i) β b)->w'.heap[b]?=w.heap[b]?)
  (ka:∀i,S i->∀b,d_ du hs' i b->w.heap.size<=b\/∃j,S j/\d_ φ σ.heap j b)
  (ajV:∀i,S i->∀bF,du i=some bF->∀b,nt (a6 hs' i) bF b->w.heap.size<=b\/∃j β,S j/\φ j=some β/\nt (a6 σ.heap j) β b)
  (Ew:∀i j b,S i->S j->d_ du hs' i b->d_ du hs' j b->i=j)
  (Jt:∀i β,S i->du i=some β->(a6 hs' i).own->β.eb.Nodup/\∀b,β.fz=some b->b∉β.eb)
  (Ex:∀i,S i->a6 hs' i=.ek\/∃β,du i=some β/\eR du (dq du hs') w'.heap β (a6 hs' i))
  (Ju:∀i β,du i=some β->Cz i)
  (ajW:Bel B w0 w') :
  R B w0 Cz du ⟨σ.tmps,hs'⟩ kp a w':=by
 have cR:∀b,b<w.heap.size->dq φ σ.heap b->dq du hs' b:=by
  intro b hb ht i bF e' he;by_cases hi:S i
  ·rcases ajV i hi bF e' b he with h1|⟨j,β,h1,h2,ao⟩
   ·omega
   exact ht j β h2 ao
  obtain⟨ak,ar⟩:=k1 i hi;exact ht i bF (ar▸e') (ak▸he)
 have ep:∀b,b<w.heap.size->dq φ σ.heap b->w'.heap[b]?=w.heap[b]?:=λb hb ht=>il b hb λi _ β e=>ht i β e;have kZ:∀i b,¬S i->d_ du hs' i b->d_ φ σ.heap i b:=by
  intro i b hi aG;obtain⟨ak,ar⟩:=k1 i hi;unfold d_ at aG⊢;rw[ak,ar]at aG;exact aG
 have K:FU φ du (dq φ σ.heap) (dq du hs') w.heap w'.heap:=⟨k2,cR,ep,dd⟩;refine⟨xo K _ _ r.jA,λp hp=>Io K _ _ (r.kp p hp),λi=>?_,λi j b hi aI=>?_,λi β e hx=>?_,λi b aG=>?_,Ju,ajW,λk hk=>r.bs k (arP dd hk),r.pg,r.np⟩
 ·by_cases hi:S i
  ·exact Ex i hi
  obtain⟨ak,ar⟩:=k1 i hi;simp only[ak,ar];rcases r.hp i with hd|⟨β,e,hr⟩
  ·exact .inl hd
  refine .inr ⟨β,e,QA K hr (λb hl hb=>?_) (λb hx hb=>?_)⟩
  ·refine il b (d_.lt r ⟨β,e,.inl ⟨hl,hb⟩⟩) λj aI bF e' ox=>?_;have:=r.dQ i j b ⟨β,e,.inl ⟨hl,hb⟩⟩ (nt.A' e' ox);exact hi (this▸aI)
  refine il b (d_.lt r ⟨β,e,.inr ⟨hx,hb⟩⟩) λj aI bF e' ox=>?_;have:=r.dQ i j b ⟨β,e,.inr ⟨hx,hb⟩⟩ (nt.A' e' ox);exact hi (this▸aI)
 ·by_cases Jv:S i<;>by_cases Jw:S j
  ·exact Ew i j b Jv Jw hi aI
  ·have h2:=kZ j b Jw aI;rcases ka i Jv b hi with h1|⟨k,h1,ao⟩
   ·have:=d_.lt r h2;omega
   exact absurd (r.dQ k j b ao h2▸h1) Jw
  ·have h2:=kZ i b Jv hi;rcases ka j Jw b aI with h1|⟨k,h1,ao⟩
   ·have:=d_.lt r h2;omega
   exact absurd (r.dQ k i b ao h2▸h1) Jv
  exact r.dQ i j b (kZ i b Jv hi) (kZ j b Jw aI)
 ·by_cases hi:S i
  ·exact Jt i β hi e hx
  obtain⟨ak,ar⟩:=k1 i hi;simp only[ak,ar]at hx e;exact r.eI i β e hx
 by_cases hi:S i
 ·rcases ka i hi b aG with h1|⟨j,h1,h2⟩
  ·exact r.bs _ h1
  exact r.gH j b h2
 exact r.gH i b (kZ i b hi aG)
theorem o1{B:Nat->Prop}{w0:World}{a0:Nat->Prop}{φ:c5}{σ:St}{kp:List (V×Value)}{a:Act}{w:World}(r:R B w0 a0 φ σ kp a w)(dst:Option Tmp){v:V}{u:Value}
  (hv:VRel φ (dq φ σ.heap) w.heap v u):R B w0 a0 φ ⟨match dst with|some t=>σ.tmps.set t v|none=>σ.tmps,σ.heap⟩ kp (a.put dst u) w:=by
 cases dst with
 |none=>exact r
 |some t=>
  refine⟨?_,r.kp,r.hp,r.dQ,r.eI,r.gH,r.iS,r.hR,r.bs,r.pg,r.np⟩;have:=ajU r.jA hv t;simpa [Act.put]using this
theorem ajX(hs:List H)(n i:Nat)(x:H)(hn:n<hs.length):a6 (hs.set n x) i=if i=n then x else a6 hs i:=by
 unfold a6;simp only[lU,atD];by_cases hi:n=i
 ·subst hi;simp[hn]
 have:¬i=n:=λe=>hi e.symm;simp[hi,this]
theorem YK{B:Nat->Prop}{w0:World}{a0:Nat->Prop}{φ:c5}{σ:St}{kp:List (V×Value)}{a:Act}{w w':World}(r:R B w0 a0 φ σ kp a w)(hh:w'.heap=w.heap)(hb:Bel B w0 w'):R B w0 a0 φ σ kp a w':=
 ⟨by rw[hh];exact r.jA,by rw[hh];exact r.kp,by rw[hh];exact r.hp,r.dQ,r.eI,r.gH,r.iS,hb,by rw[hh];exact r.bs,r.pg,r.np⟩
def tyI(P:Program)(T:TypeId):Option (Nat×Bool):=
 match P.info? T,P.underlying T with
 |some i,some d=>some (i.size,match d with|.struct _|.array _ _=>true|_=>false)
 |_,_=>none
def elI(P:Program)(T:TypeId):Option (TypeId×Nat×Nat):=
 match P.underlying T with
 |some (.slice e)=>(P.info? e).map λi=>(e,i.size,i.bytes)
 |_=>none
def arI(P:Program)(T:TypeId):Option (Nat×Nat):=
 match P.underlying T with
 |some (.array n e)=>(P.info? e).map λi=>(n,i.size)
 |_=>none
def fdI(P:Program)(S f:Nat):Option Nat:=
 match P.underlying S with
 |some (.struct fs)=>
  match fs[f]? with
  |some M6=>
   match P.info? M6.type with
   |some i=>if i.size=0 then none else some M6.offset
   |none=>none
  |none=>none
 |_=>none
def isStrI(P:Program)(T:TypeId):Bool:=match P.underlying T with|some .string=>true|_=>false
def intI(P:Program)(T:TypeId):Option IntKind:=match P.underlying T with|some (.int k)=>some k|_=>none
def MY(k:IntKind)(n:Int):Bool:=decide (k.min<=n)&&decide (n<=k.max)
def ofVal:Value->V
 |.int k n=>if MY k n then .d (.int k n)else .an
 |.bool b=>.d (.bool b)
 |.string s=>if s.data.toList.length<=maxLen then .d (.str s.data.toList)else .an
 |.slice none 0 0=>.eg 0
 |_=>.an
theorem ZT{φ:c5}{T:Nat->Prop}{h:Array Obj}(u:Value):VRel φ T h (ofVal u) u:=by
 unfold ofVal;split
 ·split
  ·rename_i k n hk;simp only[MY,bm,bH]at hk;exact⟨[],⟨rfl,rfl,hk.1,hk.2⟩,by simp⟩
  trivial
 ·rename_i b;exact⟨[],⟨rfl,rfl⟩,by simp⟩
 ·split
  ·rename_i s hs;exact⟨[],⟨rfl,rfl,hs⟩,by simp⟩
  trivial
 ·simp[VRel]
 trivial
def St.ev(σ:St):Operand->V
 |.tmp t=>σ.tmps.getD t .an
 |.const v=>ofVal v
 |.func f=>.fn f []
 |.global g=>match yN.find? (λp=>p.1 == g)with|some p=>.gF p.2 0|none=>.an
section
variable {B:Nat->Prop} {w0:World} {a0:Nat->Prop} {φ:c5} {σ:St} {kp:List (V×Value)} {a:Act} {w:World}
theorem Ce(r:R B w0 a0 φ σ kp a w)(x:Operand):VRel φ (dq φ σ.heap) w.heap (σ.ev x) (a.eval x):=by
 cases x with
 |tmp t=>
  simp only[St.ev,Act.eval,lU]
  cases ht:σ.tmps[t]? with
  |none=>simp[VRel]
  |some v=>
   obtain⟨u,h1,h2⟩:=yM _ _ r.jA t v ht;rw[ac_]at h1;simpa [h1]using h2
 |const v=>exact ZT v
 |func f=>simp only[St.ev,Act.eval,VRel];exact⟨#[],rfl,by simp[VRels]⟩
 |global g=>
  simp only[St.ev];split
  ·rename_i p hp;have h1:=List.find?_some hp;have h2:=List.mem_of_find?_eq_some hp;have:=r.kp (.gF p.2 0,.pointer (some ⟨p.1,0,none⟩)) (asm _ (aa_.2 ⟨p,h2,rfl⟩));have e:p.1=g:=by simpa using h1
   rw[e]at this;exact this
  simp[VRel]
theorem R.RJ(r:R B w0 a0 φ σ kp a w):GOk w.heap:=⟨λp hp=>by
 have:=r.kp (.gF p.2 0,.pointer (some ⟨p.1,0,none⟩)) (asm _ (aa_.2 ⟨p,hp,rfl⟩));simp only[VRel]at this;obtain⟨b,f,G,e,h1,_,h2,_⟩:=this;cases e
 have bY:=RX _ _ _ (ajH p hp) h2;subst bY;exact⟨h1,h2⟩,r.np.2.mono λp hp=>r.hR.block p.1 (r.np.1 p hp)⟩
theorem aj3{φ:c5}{T:Nat->Prop}{h:Array Obj}(g:GOk h)(cR:∀p∈yN,T p.1):∀p∈ZH,VRel φ T h p.1 p.2:=by
 intro p hp;obtain⟨q,hq,rfl⟩:=aa_.1 hp;obtain⟨h1,h2⟩:=g.1 q hq;simp only[VRel];exact⟨q.1,0,[],rfl,h1,cR q hq,h2,by simp⟩
end
structure fL where
 v:V
 new:List H
 upd:List (Nat×H)
def cF(hs:List H)(i:Nat)(x:H):List H:=
 if i<hs.length then hs.set i x else hs++ea (i-hs.length) .ek++[x]
theorem jh(hs:List H)(i:Nat)(x:H)(j:Nat):a6 (cF hs i x) j=if j=i then x else a6 hs j:=by
 unfold cF;split
 ·rename_i hi;exact ajX hs i j x hi
 rename_i hi;unfold a6;simp only[lU,ah_,aus];by_cases aI:j=i
 ·subst aI;simp[hi]
 simp only[aI,if_false,asz];by_cases h1:j<hs.length
 ·simp[h1]
 simp only[h1,if_false,arX (Nat.le_of_not_lt h1)];by_cases h2:j-hs.length<i-hs.length
 ·simp[h2]
 have:1<=j-hs.length-(i-hs.length):=by omega
 simp[h2,arX,this]
def hnew:List H->Nat->List H->List H
 |hs,_,[]=>hs
 |hs,n,x::xs=>hnew (cF hs n x) (n+1) xs
def hupd:List H->List (Nat×H)->List H
 |hs,[]=>hs
 |hs,(i,x)::r=>hupd (cF hs i x) r
theorem Ec:∀(xs:List H) (hs:List H) (n j:Nat),a6 (hnew hs n xs) j=if n<=j/\j<n+xs.length then xs.getD (j-n) .ek else a6 hs j
 |[],hs,n,j=>by
  have:¬(n<=j/\j<n+([]:List H).length):=by simp only[g1];omega
  rw[if_neg this];rfl
 |x::xs,hs,n,j=>by
  rw[hnew,Ec xs (cF hs n x) (n+1) j,jh];by_cases h1:n+1<=j/\j<n+1+xs.length
  ·rw[if_pos h1,if_pos (by simp only[e0];omega)];rw[show j-n=(j-(n+1))+1 from by omega];simp[List.getD]
  rw[if_neg h1];by_cases h2:j=n
  ·subst h2;rw[if_pos rfl,if_pos ξ];simp
  rw[if_neg h2,if_neg (by simp only[e0];omega)]
def St.d7(σ:St)(dst:Option Tmp)(n:Nat)(r:fL):St:=
 ⟨match dst with|some t=>σ.tmps.set t r.v|none=>σ.tmps,hupd (hnew σ.heap n r.new) r.upd⟩
def St.le(σ σ':St):Prop:=
 (∀(t:Nat) (v:V),σ.tmps[t]?=some v->v=V.an\/σ'.tmps[t]?=some v)/\∀i,a6 σ.heap i=.ek\/a6 σ'.heap i=a6 σ.heap i
theorem St.le.refl(σ:St):σ.le σ:=⟨λ_ _ h=>.inr h,λ_=>.inr rfl⟩
theorem St.le.ev{σ σ':St}(h:σ.le σ')(x:Operand):σ.ev x=.an\/σ'.ev x=σ.ev x:=by
 cases x with
 |tmp t=>
  simp only[St.ev,lU]
  cases ht:σ.tmps[t]? with
  |none=>exact .inl rfl
  |some v=>
   rcases h.1 t v ht with rfl|h2
   ·exact .inl rfl
   exact .inr (by rw[h2])
 |const v=>exact .inr rfl
 |func f=>exact .inr rfl
 |global g=>exact .inr rfl
def iY(P:Program)(o:Oper)(g:Bool)(σ:St)(n:Nat)(r:fL):Prop:=
 ∀σ':St,σ.le σ'->(∀i,n<=i->i<n+r.new.length->a6 σ'.heap i=.ek)->
 ∀(B:Nat->Prop) (w0:World) (a0:Nat->Prop) (φ:c5) (kp:List (V×Value)) (a:Act) (w:World),(∀i,n<=i->i<n+r.new.length->¬a0 i)->R B w0 a0 φ σ' kp a w->g->
 ∀(K:Act->World->Prop) (Q:Exit->Act->World->Prop),
  (∀u w' du,R B w0 (λi=>a0 i\/(n<=i/\i<n+r.new.length)) du (σ'.d7 o.dst n r) kp (a.put o.dst u) w'->K (a.put o.dst u) w')->o.wp P a w K Q
def evg(g:Bool)(v:V)(K:V->Prop):Prop:=
 match v with
 |.b9 c v=>(g->c=true)/\K v
 |v=>K v
theorem o6{P:Program}{o:Oper}{g:Bool}{σ:St}{n:Nat}{v:V}
  (h:∀σ':St,σ.le σ'->∀(B:Nat->Prop) (w0:World) (a0:Nat->Prop) (φ:c5) (kp:List (V×Value)) (a:Act) (w:World),R B w0 a0 φ σ' kp a w->g->
   ∃u,(execOp a.eval o).run P w=.ok (.value u) w/\VRel φ (dq φ σ'.heap) w.heap v u):iY P o g σ n ⟨v,[],[]⟩:=by
 intro σ' bu _ B w0 a0 φ kp a w _ a1 hg K Q cg;obtain⟨u,h1,h2⟩:=h σ' bu B w0 a0 φ kp a w a1 hg;unfold Oper.wp;rw[h1,Oper.upon_value];refine cg u w φ ?_;have hr:=o1 a1 o.dst h2;refine⟨hr.jA,hr.kp,hr.hp,hr.dQ,hr.eI,hr.gH,λi β e=>.inl (hr.iS i β e),hr.hR,hr.bs,hr.pg,hr.np⟩
theorem hX{g:Bool}{v:V}{K:V->Prop}(h:evg g v K):∃gX,K gX/\∀(φ:c5) (T:Nat->Prop) (hp:Array Obj) (u:Value),g->VRel φ T hp v u->VRel φ T hp gX u:=by
 unfold evg at h;split at h
 ·rename_i c gX;exact⟨gX,h.2,λφ T hp u hg hr=>by simp only[VRel]at hr;exact hr.1 (h.1 hg)⟩
 exact⟨v,h,λ_ _ _ _ _ hr=>hr⟩
theorem g'{σ σ':St}{B:Nat->Prop}{w0:World}{a0:Nat->Prop}{φ:c5}{kp:List (V×Value)}{a:Act}{w:World}(bu:σ.le σ')(r:R B w0 a0 φ σ' kp a w)(x:Operand) :
  VRel φ (dq φ σ'.heap) w.heap (σ.ev x) (a.eval x):=by
 rcases bu.ev x with h|h
 ·rw[h];trivial
 rw[<-h];exact Ce r x
def m7(P:Program)(T:TypeId):V->V
 |.eg s=>.eg (match elI P T with|some (_,sz,_)=>sz|none=>s)
 |v=>v
theorem ZU{P:Program}{T:TypeId}{φ:c5}{hQ:Nat->Prop}{h:Array Obj}{v:V}{u:Value}(r:VRel φ hQ h v u):VRel φ hQ h (m7 P T v) u:=by
 cases v<;>first|exact r|(simp only[m7,VRel]at r⊢;exact r)
def V.cells:V->List V
 |.agg vs=>vs
 |v=>[v]
def V.oneB:V->Bool
 |.d _|.eg _|.ptr _ _ _|.gF _ _|.sl _ _ _|.fn _ _=>true
 |_=>false
theorem oC{φ:c5}{T:Nat->Prop}{h:Array Obj}{v:V}{u:Value}(hb:v.oneB)(r:VRel φ T h v u):u.oneCell'/\u.cells=#[u]:=by
 cases v<;>simp only[V.oneB]at hb<;>simp only[VRel]at r
 case d x=>
  obtain⟨F,aZ,_⟩:=r;have:=Rt aZ;refine⟨this,?_⟩;cases u<;>first|rfl|(simp[Value.oneCell']at this)
 case eg s=>subst r;exact⟨rfl,rfl⟩
 case ptr id cC off=>obtain⟨β,b,_,_,r⟩:=r;subst r;exact⟨rfl,rfl⟩
 case gF cells off=>obtain⟨b,f,G,r,_⟩:=r;subst r;exact⟨rfl,rfl⟩
 case sl id off len=>obtain⟨β,a,c,_,r,_⟩:=r;subst r;exact⟨rfl,rfl⟩
 case fn f gd=>obtain⟨us,r,_⟩:=r;subst r;exact⟨rfl,rfl⟩
 all_goals cases hb
def V.zV:V->Bool
 |.agg vs=>vs.all V.oneB
 |v=>v.oneB
theorem Js{φ:c5}{T:Nat->Prop}{h:Array Obj}{v:V}{u:Value}(hb:v.zV)(r:VRel φ T h v u):VRels φ T h v.cells u.cells.toList/\∀x∈u.cells.toList,x.oneCell':=by
 cases v with
 |agg vs=>
  simp only[VRel]at r;obtain⟨us,rfl,r⟩:=r;simp only[V.zV,ae_]at hb;refine⟨r,λx hx=>?_⟩;obtain⟨j,aI,rfl⟩:=asn hx;have hl:=mG _ _ r;obtain⟨nK,h1,h2⟩:=yM _ _ r j (vs[j]'(by simp only[auJ]at aI;omega)) (cy _);simp only[auJ]at aI⊢;rw[cy aI]at h1;cases h1
  exact(oC (hb _ (eK _)) h2).1
 |d x=>exact⟨by rw[(oC rfl r).2];simp only[V.cells,VRels];exact⟨_,_,rfl,r,rfl⟩,by rw[(oC rfl r).2];simpa using(oC rfl r).1⟩
 |eg x=>exact⟨by rw[(oC rfl r).2];simp only[V.cells,VRels];exact⟨_,_,rfl,r,rfl⟩,by rw[(oC rfl r).2];simpa using(oC rfl r).1⟩
 |ptr x y z=>exact⟨by rw[(oC rfl r).2];simp only[V.cells,VRels];exact⟨_,_,rfl,r,rfl⟩,by rw[(oC rfl r).2];simpa using(oC rfl r).1⟩
 |gF x y=>exact⟨by rw[(oC rfl r).2];simp only[V.cells,VRels];exact⟨_,_,rfl,r,rfl⟩,by rw[(oC rfl r).2];simpa using(oC rfl r).1⟩
 |sl x y z=>exact⟨by rw[(oC rfl r).2];simp only[V.cells,VRels];exact⟨_,_,rfl,r,rfl⟩,by rw[(oC rfl r).2];simpa using(oC rfl r).1⟩
 |fn x y=>exact⟨by rw[(oC rfl r).2];simp only[V.cells,VRels];exact⟨_,_,rfl,r,rfl⟩,by rw[(oC rfl r).2];simpa using(oC rfl r).1⟩
 |an=>cases hb
 |e8 x=>cases hb
 |b9 x y=>cases hb
theorem z2(k:IntKind)(n:Int):k.min<=k.wrap n/\k.wrap n<=k.max:=by
 cases k<;>simp only[aAG,aAH,IntKind.wrap,aue,atG]<;>simp<;>(try split)<;>omega
theorem aaj(k:IntKind):k.min<=0/\0<=k.max:=by
 cases k<;>simp[aAG,aAH,aue,atG]
theorem akY{k:IntKind}{x y:Int}(h:k.min<=x/\x<=k.max):k.min<=x.tmod y/\x.tmod y<=k.max:=by
 have hk:=aaj k;rcases aAy 0 x with h0|h0
 ·have h1:=atc y h0;have h2:x.tmod y<=x:=by
   have:=aAp x y;have ao:x.natAbs % y.natAbs<=x.natAbs:=Nat.mod_le _ _;omega
  omega
 ·have h1:x.tmod y<=0:=by
   have:=atc (a:=-x) y ω;rw[Int.neg_tmod]at this;omega
  have h2:x<=x.tmod y:=by
   have:=aAp x y;have ao:x.natAbs % y.natAbs<=x.natAbs:=Nat.mod_le _ _;omega
  omega
theorem akZ{k:IntKind}{x:Int}{n:Nat}(h:k.min<=x/\x<=k.max):k.min<=x.fdiv (2^n)/\x.fdiv (2^n)<=k.max:=by
 have hk:=aaj k;have hp:(0:Int)<2^n:=Int.pow_pos ω;have he:x.fdiv (2^n)=x / (2^n):=Int.fdiv_eq_ediv_of_nonneg x ω;rw[he];rcases aAy 0 x with h0|h0
 ·have h1:0<=x / 2^n:=Int.ediv_nonneg h0 ω;have h2:x / 2^n<=x:=Int.ediv_le_self _ h0;omega
 have h1:x / 2^n<=0:=by
  have:=Int.ediv_le_ediv hp h0;simpa using this
 have h2:x<=x / 2^n:=by
  rw[Int.le_ediv_iff_mul_le hp];have:x * (2^n-1)<=0:=Int.mul_nonpos_of_nonpos_of_nonneg h0 ω;rw[Int.mul_sub]at this;omega
 omega
def bitI(op:BinOp)(k:IntKind)(x y:Int):Int:=
 let a:=BitVec.ofInt k.bits x
 let b:=BitVec.ofInt k.bits y
 k.wrap (match op with
  |.and=>(a &&& b).toNat
  |.or=>(a ||| b).toNat
  |.xor=>(a ^^^ b).toNat
  |_=>(a &&& ~~~b).toNat)
def Bc(b:Bool):V:=.d (.bool b)
def rQ(k:IntKind)(n:Int):V:=.d (.int k n)
def Jj(s:List UInt8):V:=.d (.str s)
def binI(op:BinOp)(k:IntKind)(x y:Int):Option (Prop×V):=
 match op with
 |.add=>some (True,.d (.int k (k.wrap (x+y))))
 |.sub=>some (True,.d (.int k (k.wrap (x-y))))
 |.mul=>some (True,.d (.int k (k.wrap (x * y))))
 |.quo=>some (y≠0,.d (.int k (k.wrap (x.tdiv y))))
 |.rem=>some (y≠0,.d (.int k (x.tmod y)))
 |.and=>some (True,.d (.int k (bitI .and k x y)))
 |.or=>some (True,.d (.int k (bitI .or k x y)))
 |.xor=>some (True,.d (.int k (bitI .xor k x y)))
 |.eql=>some (True,.d (.bool (x == y)))
 |.neq=>some (True,.d (.bool (x != y)))
 |.lss=>some (True,.d (.bool (decide (x<y))))
 |.leq=>some (True,.d (.bool (decide (x<=y))))
 |.gtr=>some (True,.d (.bool (decide (y<x))))
 |.geq=>some (True,.d (.bool (decide (y<=x))))
 |_=>none
def shI(op:BinOp)(k:IntKind)(x y:Int):Option (Prop×V):=
 match op with
 |.shl=>some (0<=y,.d (.int k (k.wrap (x * 2^min y.toNat k.bits))))
 |.shr=>some (0<=y,.d (.int k (x.fdiv (2^min y.toNat k.bits))))
 |_=>none
def binS(op:BinOp)(x y:List UInt8):Option (Prop×V):=
 match op with
 |.add=>some (x.length+y.length<=maxLen,.d (.str (x++y)))
 |.eql=>some (True,.d (.bool (x == y)))
 |.neq=>some (True,.d (.bool (x != y)))
 |_=>none
def eqD:D->D->Option Bool
 |.int k x,.int l1 y=>if k=l1 then some (decide (x=y))else none
 |.bool x,.bool y=>some (decide (x=y))
 |.str x,.str y=>some (decide (x=y))
 |_,_=>none
section
variable {φ:c5} {T:Nat->Prop} {h:Array Obj}
theorem o5{k:IntKind}{n:Int}{u:Value}(r:VRel φ T h (.d (.int k n)) u):u=.int k n/\k.min<=n/\n<=k.max:=by
 simp only[VRel,rep]at r;obtain⟨F,⟨aZ,_,bA,c9⟩,_⟩:=r;exact⟨aZ,bA,c9⟩
theorem pw{b:Bool}{u:Value}(r:VRel φ T h (.d (.bool b)) u):u=.bool b:=by
 simp only[VRel,rep]at r;obtain⟨F,⟨aZ,_⟩,_⟩:=r;exact aZ
theorem CS{s:List UInt8}{u:Value}(r:VRel φ T h (.d (.str s)) u):u=.string ⟨s.toArray⟩/\s.length<=maxLen:=by
 simp only[VRel,rep]at r;obtain⟨F,⟨aZ,_,bA⟩,_⟩:=r;exact⟨aZ,bA⟩
theorem qh{k:IntKind}{n:Int}(h1:k.min<=n/\n<=k.max):VRel φ T h (.d (.int k n)) (.int k n):=by
 simp only[VRel,rep];exact⟨[],⟨trivial,rfl,h1.1,h1.2⟩,by simp⟩
theorem yV(b:Bool):VRel φ T h (.d (.bool b)) (.bool b):=by
 simp only[VRel,rep];exact⟨[],⟨trivial,rfl⟩,by simp⟩
theorem JC{s:List UInt8}(h1:s.length<=maxLen):VRel φ T h (.d (.str s)) (.string ⟨s.toArray⟩):=by
 simp only[VRel,rep];exact⟨[],⟨trivial,rfl,h1⟩,by simp⟩
end
theorem ak0(x y:List UInt8):(⟨x.toArray⟩:ByteArray)++(⟨y.toArray⟩:ByteArray)=⟨(x++y).toArray⟩:=by
 apply aAu;simp[ByteArray.data_append]
theorem aak(x:List UInt8):(⟨x.toArray⟩:ByteArray).toList=x:=by
 rw[aAz]
section
variable {P:Program} {w:World} {φ:c5} {T:Nat->Prop} {h:Array Obj}
theorem ake{op:BinOp}{k:IntKind}{x y:Int}{p:Prop}{v:V}(hx:k.min<=x/\x<=k.max)(ah:binI op k x y=some (p,v))(hp:p)(t:TypeId) :
  ∃u,(binOp op t (.int k x) (.int k y)).run P w=.ok u w/\VRel φ T h v u:=by
 cases op<;>simp only[binI,cc,dT,reduceCtorEq]at ah<;>obtain⟨rfl,rfl⟩:=ah
 case add=>exact⟨_,by simp[binOp,Op.intArith],qh (z2 _ _)⟩
 case sub=>exact⟨_,by simp[binOp,Op.intArith],qh (z2 _ _)⟩
 case mul=>exact⟨_,by simp[binOp,Op.intArith],qh (z2 _ _)⟩
 case quo=>exact⟨_,by simp[binOp,Op.intDiv,hp],qh (z2 _ _)⟩
 case rem=>exact⟨_,by simp[binOp,Op.intDiv,hp],qh (akY hx)⟩
 case and=>exact⟨_,by simp[binOp,Op.intBits,bitI],qh (z2 _ _)⟩
 case or=>exact⟨_,by simp[binOp,Op.intBits,bitI],qh (z2 _ _)⟩
 case xor=>exact⟨_,by simp[binOp,Op.intBits,bitI],qh (z2 _ _)⟩
 all_goals exact⟨_,by simp[binOp,Op.intCmp],yV _⟩
theorem Z0{op:BinOp}{k l1:IntKind}{x y:Int}{p:Prop}{v:V}(hx:k.min<=x/\x<=k.max)(ah:shI op k x y=some (p,v))(hp:p)(t:TypeId) :
  ∃u,(binOp op t (.int k x) (.int l1 y)).run P w=.ok u w/\VRel φ T h v u:=by
 cases op<;>simp only[shI,cc,dT,reduceCtorEq]at ah<;>obtain⟨rfl,rfl⟩:=ah
 case shl=>exact⟨_,by simp[binOp,Op.shift,Int.not_lt.2 hp],qh (z2 _ _)⟩
 case shr=>exact⟨_,by simp[binOp,Op.shift,Int.not_lt.2 hp],qh (akZ hx)⟩
theorem akf{op:BinOp}{x y:List UInt8}{p:Prop}{v:V}(ah:binS op x y=some (p,v))(hp:p)(t:TypeId) :
  ∃u,(binOp op t (.string ⟨x.toArray⟩) (.string ⟨y.toArray⟩)).run P w=.ok u w/\VRel φ T h v u:=by
 cases op<;>simp only[binS,cc,dT,reduceCtorEq]at ah<;>obtain⟨rfl,rfl⟩:=ah
 case add=>
  refine⟨_,?_,JC (by simpa using hp)⟩;have h1:¬(((⟨x.toArray⟩:ByteArray).size+(⟨y.toArray⟩:ByteArray).size:Nat):Int)>arV.max:=by
   have h2:(⟨x.toArray⟩:ByteArray).size=x.length:=by simp[atw]
   have ao:(⟨y.toArray⟩:ByteArray).size=y.length:=by simp[atw]
   have bR:arV.max=9223372036854775807:=by decide
   rw[h2,ao,bR];simp only[maxLen]at hp;omega
  simp only[binOp,Op.stringOp];rw[if_neg h1,ak0];rfl
 case eql=>exact⟨_,by simp only[binOp,Op.stringOp,aak];rfl,yV _⟩
 case neq=>exact⟨_,by simp only[binOp,Op.stringOp,aak];rfl,yV _⟩
end
def asB(v:V)(K:Bool->Prop):Prop:=match v with|.d (.bool b)=>K b|_=>False
def asI(v:V)(K:IntKind->Int->Prop):Prop:=match v with|.d (.int k n)=>K k n|_=>False
theorem M7{v:V}{K:Bool->Prop}(h:asB v K):∃b,v=.d (.bool b)/\K b:=by
 unfold asB at h;split at h
 ·exact⟨_,rfl,h⟩
 exact h.elim
theorem CP{v:V}{K:IntKind->Int->Prop}(h:asI v K):∃k n,v=.d (.int k n)/\K k n:=by
 unfold asI at h;split at h
 ·exact⟨_,_,rfl,h⟩
 exact h.elim
variable {P:Program} {o:Oper} {g:Bool} {σ:St} {n:Nat} {K:fL->Prop}
def dr(v:V):fL:=⟨v,[],[]⟩
theorem Zd{x:Operand}(aG:o.op=.move x\/o.op=.assign x)(h:evg g (σ.ev x) λv=>K (dr (m7 P o.type v))):∃r,iY P o g σ n r/\K r:=by
 obtain⟨v,cg,hr⟩:=hX h;refine⟨_,o6 λσ' bu B w0 a0 φ kp a w r hg=>⟨a.eval x,?_,ZU (hr _ _ _ _ hg (g' bu r x))⟩,cg⟩;rcases aG with aG|aG<;>(unfold execOp;rw[aG];rfl)
def El(g:Bool)(c a b:V)(K:V->Prop):Prop:=
 evg g c λc=>asB c λx=>evg (g&&x) a λa=>asB a λy=>evg (g&&!x) b λb=>asB b λz=>K (Bc (bif x then y else z))
theorem ajd{c x y:Operand}(aG:o.op=.pick c x y)(h:El g (σ.ev c) (σ.ev x) (σ.ev y) λv=>K (dr v)):∃r,iY P o g σ n r/\K r:=by
 obtain⟨c',h,hc⟩:=hX h;obtain⟨b,rfl,h⟩:=M7 h;obtain⟨nK,h,hx⟩:=hX h;obtain⟨aj4,rfl,h⟩:=M7 h;obtain⟨ayw,h,hy⟩:=hX h;obtain⟨aj5,rfl,h⟩:=M7 h;refine⟨_,o6 λσ' bu B w0 a0 φ kp a w r hg=>?_,h⟩;have ak:=pw (hc _ _ _ _ hg (g' bu r c));cases b
 ·have ar:=pw (hy _ _ _ _ (by simp[hg]) (g' bu r y));exact⟨.bool aj5,by unfold execOp;rw[aG];simp[ak,ar,asBool],yV _⟩
 have ar:=pw (hx _ _ _ _ (by simp[hg]) (g' bu r x));exact⟨.bool aj4,by unfold execOp;rw[aG];simp[ak,ar,asBool],yV _⟩
def eqCells:List V->List V->Option Bool
 |[],[]=>some true
 |.d x::xs,.d y::ys=>match eqD x y,eqCells xs ys with|some a,some b=>some (a&&b)|_,_=>none
 |_,_=>none
inductive rT where
 |i (k:IntKind)
 |b
 |s
def Fit1:rT->Value->Prop
 |.i q,.int D1 n=>D1=q/\q.min<=n/\n<=q.max
 |.b,.bool _=>True
 |.s,.string s=>s.size<=maxLen
 |_,_=>False
def FitL:List rT->List Value->Prop
 |[],us=>us=[]
 |k::d3,us=>∃u c6,us=u::c6/\Fit1 k u/\FitL d3 c6
def litV:Value->Lit
 |.int q n=>.int q n
 |.bool b=>.bool b
 |.string s=>.string s.data.toList
 |_=>.bool false
theorem M8:∀{d3:List rT} {us:List Value},FitL d3 us->us.length=d3.length
 |[],us,h=>by simp only[FitL]at h;rw[h];rfl
 |k::d3,us,h=>by
  simp only[FitL]at h;obtain⟨u,c6,rfl,_,h⟩:=h;simp[M8 h]
theorem Se:∀{d3 nL:List rT} {us:List Value},FitL (d3++nL) us->FitL d3 (us.take d3.length)/\FitL nL (us.drop d3.length)
 |[],nL,us,h=>by simpa [FitL]using h
 |k::d3,nL,us,h=>by
  simp only[cx,FitL]at h;obtain⟨u,c6,rfl,h1,h⟩:=h;obtain⟨h2,ao⟩:=Se h;exact⟨⟨u,c6.take d3.length,by simp,h1,h2⟩,by simpa using ao⟩
def shpF(P:Program)(g:TypeId->Option (List rT)):Nat->List Field->Option (List rT)
 |_,[]=>some []
 |off,f::fs=>
  match g f.type with
  |some d3=>if f.offset=off/\P.cellsOf f.type=d3.length then(shpF P g (off+d3.length) fs).map (d3++·)else none
  |none=>none
def shp(P:Program):Nat->TypeId->Option (List rT)
 |0,_=>none
 |d+1,t=>
  match P.underlying t with
  |some .bool=>some [.b]
  |some (.int q)=>some [.i q]
  |some .string=>some [.s]
  |some (.struct fs)=>
   match shpF P (shp P d) 0 fs.toList with
   |some d3 => if P.cellsOf t = d3.length /\ fs.all (·.name != "_") = true then some d3 else none
   |none=>none
  |some (.array n e)=>
   match shp P d e with
   |some d3=>if P.cellsOf e=d3.length/\P.cellsOf t=n * d3.length then some (ea n d3).flatten else none
   |none=>none
  |_=>none
theorem ZV{α β:Type}{g:α->Option β}{h:α->β}:∀(l:List α),(∀x∈l,g x=some (h x))->l.mapM g=some (l.map h)
 |[],_=>rfl
 |x::l,e=>by
  rw[azQ,e x ξ,ZV l λy hy=>e y (by simp[hy])];rfl
theorem ZW{d3:List rT}:∀(n:Nat) (us:List Value),FitL (ea n d3).flatten us->us.length=n * d3.length/\(∀i,i<n->FitL d3 ((us.drop (i * d3.length)).take d3.length))/\
  ((List.range n).map λi=>((us.drop (i * d3.length)).take d3.length).map litV).flatten=us.map litV
 |0,us,h=>by
  have:us=[]:=by simpa [FitL]using h
  subst this;simp
 |n+1,us,h=>by
  rw[atu,atr]at h;obtain⟨h1,h2⟩:=Se h;obtain⟨ao,aH,bR⟩:=ZW n _ h2;have hl:=M8 h;rw[eh]at hl;have GP:=ao;rw[List.length_drop]at ao;have hk:d3.length<=us.length:=by omega
  refine⟨by rw[arT];omega,λi hi=>?_,?_⟩
  ·cases i with
   |zero=>simpa using h1
   |succ i=>
    have:=aH i ω
    rwa [atH,show d3.length+i * d3.length=(i+1) * d3.length from by rw[arT];omega]at this
  ·rw[List.range_succ_eq_map,fe,atr,auf];have:((λi=>((us.drop (i * d3.length)).take d3.length).map litV)∘Nat.succ)=λi=>(((us.drop d3.length).drop (i * d3.length)).take d3.length).map litV:=by
    funext i
    simp only[Function.comp,atH,Nat.succ_eq_add_one];rw[show d3.length+i * d3.length=(i+1) * d3.length from by rw[arT];omega]
   rw[this,bR,aAf,List.drop_zero,<-arO,ad_]
theorem ZX{P:Program}{g:TypeId->Option (List rT)}{d:Nat}(hg:∀t d3 us,g t=some d3->FitL d3 us->P.keyLits d t us=some (us.map litV))(cs:List Value):∀(fs:List Field) (off:Nat) (d3:List rT),
  shpF P g off fs=some d3->FitL d3 (cs.drop off)->∃nL,fs.mapM (λf=>P.keyLits d f.type ((cs.drop f.offset).take (P.cellsOf f.type)))=some nL/\nL.flatten=(cs.drop off).map litV
 |[],off,d3,h,hf=>by
  simp only[shpF,cc]at h;subst h;simp only[FitL]at hf;exact⟨[],rfl,by rw[hf];rfl⟩
 |f::fs,off,d3,h,hf=>by
  simp only[shpF]at h;split at h
  ·rename_i k1 pS;split at h
   ·rename_i hc
    cases hr:shpF P g (off+k1.length) fs with
    |none=>rw[hr]at h;cases h
    |some k2=>
     rw[hr]at h;simp only[asj,cc]at h;subst h;obtain⟨h1,h2⟩:=Se hf;rw[atH]at h2;obtain⟨nL,ao,aH⟩:=ZX hg cs fs (off+k1.length) k2 hr h2;refine⟨((cs.drop off).take k1.length).map litV::nL,?_,?_⟩
     ·rw[azQ,hc.1,hc.2,hg _ _ _ pS h1,ao];rfl
     rw[atr,aH,<-atH,<-arO,ad_]
   cases h
  cases h
theorem M9{P:Program}:∀(d:Nat) (t:TypeId) (d3:List rT) (us:List Value),shp P d t=some d3->FitL d3 us->P.keyLits d t us=some (us.map litV)
 |0,t,d3,us,h,_=>by simp[shp]at h
 |d+1,t,d3,us,h,hf=>by
  have one:∀k,d3=[k]->∃u,us=[u]/\Fit1 k u:=by
   rintro k rfl;simp only[FitL]at hf;obtain⟨u,c6,rfl,h1,h2⟩:=hf;exact⟨u,by rw[h2],h1⟩
  unfold shp at h;unfold Program.keyLits;split at h
  ·rename_i hu;cases h
   obtain⟨u,rfl,h1⟩:=one _ rfl;cases u<;>simp only[Fit1]at h1
   simp[hu,litV]
  ·rename_i q hu;cases h
   obtain⟨u,rfl,h1⟩:=one _ rfl;cases u<;>simp only[Fit1]at h1
   obtain⟨rfl,h1,h2⟩:=h1;simp[hu,litV,Lit.wf,h1,h2]
  ·rename_i hu;cases h
   obtain⟨u,rfl,h1⟩:=one _ rfl;cases u<;>simp only[Fit1]at h1
   simp[hu,litV,h1]
  ·rename_i fs hu;split at h
   ·rename_i k1 pS;split at h
    ·rename_i hc;cases h
     obtain⟨nL,ao,aH⟩:=ZX (d:=d) (λt d3 us=>M9 d t d3 us) us fs.toList 0 _ pS (by simpa using hf);have hl:=M8 hf;simp only[hu];rw[if_pos ⟨by omega,hc.2⟩,ao];simp[aH]
    cases h
   cases h
  ·rename_i n e hu;split at h
   ·rename_i k1 pS;split at h
    ·rename_i hc;cases h
     obtain⟨h1,h2,ao⟩:=ZW n us hf;simp only[hu];rw[if_pos ω,ZV (h:=λi=>((us.drop (i * k1.length)).take k1.length).map litV) _ λi hi=>by
      rw[hc.1];exact M9 d e k1 _ pS (h2 i (by simpa using hi))]
     simp only[asj,ao]
    cases h
   cases h
  cases h
def qP(P:Program)(T:TypeId)(d3:List rT):Prop:=
 ∀(us jW:List Value) (b:Bool) (x y:Operand) (w:World),FitL d3 us->FitL d3 jW->(b↔us.map litV=jW.map litV)->
  (do eqGuard .eql T x y (.agg us.toArray) (.agg jW.toArray);binOp .eql T (.agg us.toArray) (.agg jW.toArray)).run P w=.ok (.bool b) w/\
  (do eqGuard .neq T x y (.agg us.toArray) (.agg jW.toArray);binOp .neq T (.agg us.toArray) (.agg jW.toArray)).run P w=.ok (.bool !b) w
theorem EqOK_of{P:Program}{T:TypeId}{d3:List rT}(h1:shp P 100 T=some d3)(h2:P.eqGuardType P.depth T=false)(ao:P.keyTypeAt 100 T)(aH:(match P.underlying T with|some (.struct _)|some (.array _ _)=>true|_=>false)=true)(bR:P.cellsOf T=d3.length):qP P T d3:=by
 intro us jW b x y w hu hw hb;have ZY:∀vs:List Value,FitL d3 vs->aAA P T (.agg vs.toArray):=by
  intro vs hv;have:=M8 hv;unfold aAA;simp only;split at aH<;>first|(simp only[*];simp[this])|cases aH
 obtain⟨r,hr,AF⟩:=run_equalIn_deep (P:=P) 9900 100 T ao w 100 100 (.agg us.toArray) (.agg jW.toArray) _ _ (ZY us hu) (ZY jW hw) (M9 100 T d3 _ h1 (by simpa [auJ]using hu)) (M9 100 T d3 _ h1 (by simpa [auJ]using hw));have aj6:r=b:=by
  simp only[auJ]at AF;rw[asa,AF,hb]
 subst aj6;constructor
 ·simp only[Sem.run_bind,run_eqGuard_agg w _ T x y _ _ h2,Result.andThen_ok,run_eql_struct];rw[show(10000:Nat)=9900+100 from rfl,hr];rfl
 simp only[Sem.run_bind,run_eqGuard_agg w _ T x y _ _ h2,Result.andThen_ok,run_neq_struct];rw[show(10000:Nat)=9900+100 from rfl,hr];rfl
def kindsV:List V->List rT
 |[]=>[]
 |.d (.int k _)::xs=>.i k::kindsV xs
 |.d (.str _)::xs=>.s::kindsV xs
 |_::xs=>.b::kindsV xs
def isBoolI(P:Program)(T:TypeId):Bool:=match P.underlying T with|some .bool=>true|_=>false
def isPtrI(P:Program)(T:TypeId):Bool:=
 match P.underlying T with
 |some (.pointer e)=>match P.info? e with|some i=>i.size != 0|none=>false
 |_=>false
theorem aj7{T:TypeId}(h:isPtrI P T):∃e i,P.underlying T=some (.pointer e)/\P.info? e=some i/\i.size≠0:=by
 unfold isPtrI at h;split at h
 ·rename_i e hu;split at h
  ·rename_i i hi;exact⟨e,i,hu,hi,by simpa using h⟩
  cases h
 cases h
theorem aj8{T:TypeId}(b f jb:Nat)(w:World)(h:isPtrI P T):(binOp .eql T (.pointer (some ⟨b,f,none⟩)) (.pointer (some ⟨b,jb,none⟩))).run P w=.ok (.bool (decide (f=jb))) w:=by
 obtain⟨e,i,hu,hi,hs⟩:=aj7 h;have h2:∀d:Nat,(Op.equalIn (d+1) T (.pointer (some ⟨b,f,none⟩)) (.pointer (some ⟨b,jb,none⟩))).run P w=.ok (decide (f=jb)) w:=λd=>by
  have he:((⟨b,f,none⟩:Addr) == ⟨b,jb,none⟩)=decide (f=jb):=by
   rw[asa];simp
  have hz:(asw e).run P w=Result.ok i.size w:=by simp[asw,typeInfo,hi]
  simp[Op.equalIn,run_underlying hu,hz,hs,sameAddr,he]
 simp only[binOp];simp[Op.equal,Op.maxDepth,h2 9999]
def binE(P:Program)(op:BinOp)(T:TypeId)(x y:V):Option (Prop×V):=
 match x,y with
 |.d (.int k a),.d (.int l1 b)=>
  match op with
  |.shl=>shI .shl k a b
  |.shr=>shI .shr k a b
  |op=>if k=l1 then binI op k a b else none
 |.d (.str a),.d (.str b)=>binS op a b
 |.d (.bool a),.d (.bool b)=>
  match op with
  |.eql=>if isBoolI P T then some (True,Bc (a == b))else none
  |.neq=>if isBoolI P T then some (True,Bc (a != b))else none
  |_=>none
 |.agg xs,.agg ys=>
  match op,eqCells xs ys with
  |.eql,some b=>some (qP P T (kindsV xs),Bc b)
  |.neq,some b=>some (qP P T (kindsV xs),Bc !b)
  |_,_=>none
 |.ptr id cC off,.ptr rO ZZ CM=>
  match op with
  |.eql=>if id=rO/\cC=ZZ/\isPtrI P T=true then some (True,Bc (decide (off=CM)))else none
  |_=>none
 |_,_=>none
def withR(r:Option (Prop×V))(K:V->Prop):Prop:=match r with|some (p,v)=>p/\K v|none=>False
theorem CR{r:Option (Prop×V)}{K:V->Prop}(h:withR r K):∃p v,r=some (p,v)/\p/\K v:=by
 unfold withR at h;split at h
 ·exact⟨_,_,rfl,h.1,h.2⟩
 exact h.elim
theorem Sf{φ:c5}{T:Nat->Prop}{h:Array Obj}:∀(xs ys:List V) (b:Bool) (us jW:List Value),eqCells xs ys=some b->VRels φ T h xs us->VRels φ T h ys jW->(b↔us.map litV=jW.map litV)/\FitL (kindsV xs) us/\FitL (kindsV xs) jW
 |[],[],b,us,jW,e,r,dR=>by
  simp only[VRels]at r dR;subst r;subst dR;simp only[eqCells,cc]at e;subst e;simp[kindsV,FitL]
 |[],y::ys,b,us,jW,e,_,_=>by cases e
 |x::xs,[],b,us,jW,e,_,_=>by cases x<;>cases e
 |x::xs,y::ys,b,us,jW,e,r,dR=>by
  simp only[VRels]at r dR;obtain⟨u,c6,rfl,aZ,bA⟩:=r;obtain⟨v,aj9,rfl,Sg,aka⟩:=dR
  cases x with
  |d akb=>
   cases y with
   |d akc=>
    simp only[eqCells]at e;split at e
    ·rename_i a ey ak ar;obtain⟨c_,Sh,Si⟩:=Sf xs ys ey c6 aj9 ar bA aka;cases e
     cases akb<;>cases akc<;>simp only[eqD]at ak<;>first|(cases ak;done)|skip
     ·split at ak
      ·rename_i hk;subst hk;have k1:=o5 aZ;have k2:=o5 Sg;rw[k1.1,k2.1];cases ak;simp only[kindsV,FitL,fe,litV];exact⟨by simp[c_],⟨_,_,rfl,⟨rfl,k1.2⟩,Sh⟩,⟨_,_,rfl,⟨rfl,k2.2⟩,Si⟩⟩
      cases ak
     ·rw[pw aZ,pw Sg];cases ak;simp only[kindsV,FitL,fe,litV];exact⟨by simp[c_],⟨_,_,rfl,trivial,Sh⟩,⟨_,_,rfl,trivial,Si⟩⟩
     have k1:=CS aZ;have k2:=CS Sg;rw[k1.1,k2.1];cases ak;simp only[kindsV,FitL,fe,litV];exact⟨by simp[c_],⟨_,_,rfl,by simpa [Fit1,atw]using k1.2,Sh⟩,⟨_,_,rfl,by simpa [Fit1,atw]using k2.2,Si⟩⟩
    cases e
   |_=>cases e
  |_=>cases e
theorem I5{φ:c5}{T:Nat->Prop}{h:Array Obj}{vs:List V}{u:Value}(r:VRel φ T h (.agg vs) u):∃us:Array Value,u=.agg us/\VRels φ T h vs us.toList:=by
 simpa only[VRel]using r
theorem run_equalIn_bool(d:Nat){T:TypeId}(a b:Bool)(w:World)(hu:P.underlying T=some .bool):(Op.equalIn (d+1) T (.bool a) (.bool b)).run P w=.ok (a == b) w:=by
 simp[Op.equalIn,run_underlying hu]
theorem run_eql_bool{T:TypeId}(a b:Bool)(w:World)(hu:P.underlying T=some .bool):(binOp .eql T (.bool a) (.bool b)).run P w=.ok (.bool (a == b)) w:=by
 simp only[binOp];simp[Op.equal,Op.maxDepth,run_equalIn_bool 9999 a b w hu]
theorem run_neq_bool{T:TypeId}(a b:Bool)(w:World)(hu:P.underlying T=some .bool):(binOp .neq T (.bool a) (.bool b)).run P w=.ok (.bool (a != b)) w:=by
 simp only[binOp];simp[Op.equal,Op.maxDepth,run_equalIn_bool 9999 a b w hu,bne]
theorem akd{op:BinOp}{T:TypeId}{x y:V}{p:Prop}{v:V}(ah:binE P op T x y=some (p,v))(hp:p){φ:c5}{Sj:Nat->Prop}{h:Array Obj}{u zW:Value}(dY:VRel φ Sj h x u)(mF:VRel φ Sj h y zW)
  (M_ z1:Operand) (w:World):∃z,(do eqGuard op T M_ z1 u zW;binOp op T u zW).run P w=.ok z w/\VRel φ Sj h v z:=by
 have M':∀(op:BinOp) (a b:Value),(∀cs ds,¬(a=.agg cs/\b=.agg ds))->¬(a=.nilIface/\b=.nilIface)->(eqGuard op T M_ z1 a b).run P w=.ok () w:=by
  intro op a b h1 h2;unfold eqGuard;cases op<;>simp<;>(split<;>first|rfl|(exact absurd ⟨rfl,rfl⟩ h2)|(exact absurd ⟨rfl,rfl⟩ (h1 _ _)))
 unfold binE at ah;split at ah
 ·rename_i k Jz l1 q;have ak:=o5 dY;have ar:=o5 mF;rw[ak.1,ar.1];have hg:=M' op (.int k Jz) (.int l1 q) (λ_ _ h=>by cases h.1) (λh=>by cases h.1);simp only[Sem.run_bind,hg,Result.andThen_ok];split at ah
  ·exact Z0 ak.2 ah hp T
  ·exact Z0 ak.2 ah hp T
  split at ah
  ·rename_i hk;subst hk;exact ake ak.2 ah hp T
  cases ah
 ·rename_i a b;have ak:=CS dY;have ar:=CS mF;rw[ak.1,ar.1];have hg:=M' op (.string ⟨a.toArray⟩) (.string ⟨b.toArray⟩) (λ_ _ h=>by cases h.1) (λh=>by cases h.1);simp only[Sem.run_bind,hg,Result.andThen_ok];exact akf ah hp T
 ·rename_i a b;have ak:=pw dY;have ar:=pw mF;rw[ak,ar];have hg:=M' op (.bool a) (.bool b) (λ_ _ h=>by cases h.1) (λh=>by cases h.1);simp only[Sem.run_bind,hg,Result.andThen_ok];split at ah
  ·split at ah
   ·rename_i hb;simp only[cc,dT]at ah;obtain⟨_,rfl⟩:=ah;have hu:P.underlying T=some .bool:=by unfold isBoolI at hb;split at hb<;>first|assumption|cases hb
    exact⟨.bool (a == b),run_eql_bool a b w hu,yV _⟩
   cases ah
  ·split at ah
   ·rename_i hb;simp only[cc,dT]at ah;obtain⟨_,rfl⟩:=ah;have hu:P.underlying T=some .bool:=by unfold isBoolI at hb;split at hb<;>first|assumption|cases hb
    exact⟨.bool (a != b),run_neq_bool a b w hu,yV _⟩
   cases ah
  cases ah
 ·rename_i xs ys;obtain⟨us,rfl,aZ⟩:=I5 dY;obtain⟨jW,rfl,bA⟩:=I5 mF;split at ah
  ·rename_i b he;simp only[cc,dT]at ah;obtain⟨rfl,rfl⟩:=ah;obtain⟨ak,ar,a4⟩:=Sf _ _ _ _ _ he aZ bA;have:=(hp us.toList jW.toList b M_ z1 w ar a4 ak).1;exact⟨_,this,yV _⟩
  ·rename_i b he;simp only[cc,dT]at ah;obtain⟨rfl,rfl⟩:=ah;obtain⟨ak,ar,a4⟩:=Sf _ _ _ _ _ he aZ bA;have:=(hp us.toList jW.toList b M_ z1 w ar a4 ak).2;exact⟨_,this,yV _⟩
  cases ah
 ·rename_i id cC off rO ZZ CM;split at ah
  ·split at ah
   ·rename_i hc;obtain⟨rfl,rfl,hc⟩:=hc;simp only[cc,dT]at ah;obtain⟨_,rfl⟩:=ah;simp only[VRel]at dY mF;obtain⟨β,b,dh,bO,cz⟩:=dY;obtain⟨bF,ey,k1,k2,dd⟩:=mF;rw[dh]at k1;cases k1;rw[bO]at k2;cases k2;rw[cz,dd];have hg:=M' .eql (.pointer (some ⟨b,β.off+cC * β.sz+off,none⟩)) (.pointer (some ⟨b,β.off+cC * β.sz+CM,none⟩)) (λ_ _ h=>by cases h.1) (λh=>by cases h.1);simp only[Sem.run_bind,hg,Result.andThen_ok];have e:decide (off=CM)=decide (β.off+cC * β.sz+off=β.off+cC * β.sz+CM):=by
     rw[decide_eq_decide];omega
    rw[e];exact⟨_,aj8 b _ _ w hc,yV _⟩
   ·cases ah
  cases ah
 cases ah
theorem aje{op:BinOp}{T hQ:TypeId}{x y:Operand}(aG:o.op=.binOp op T x y hQ)
  (h:evg g (σ.ev x) λa=>evg g (σ.ev y) λb=>withR (binE P op T a b) λv=>K (dr v)):∃r,iY P o g σ n r/\K r:=by
 obtain⟨m6,h,hx⟩:=hX h;obtain⟨Ej,h,hy⟩:=hX h;obtain⟨p,v,ah,hp,cg⟩:=CR h;refine⟨_,o6 λσ' bu B w0 a0 φ kp a w r hg=>?_,cg⟩;obtain⟨z,h1,h2⟩:=akd ah hp (hx _ _ _ _ hg (g' bu r x)) (hy _ _ _ _ hg (g' bu r y)) x y w;refine⟨z,?_,h2⟩;unfold execOp;simp only[aG,Sem.run_bind,h1,Result.andThen_ok];rfl
variable {P:Program} {o:Oper} {g:Bool} {σ:St} {n:Nat} {K:fL->Prop}
def unE(op:UnOp)(v:V):Option V:=
 match op,v with
 |.not,.d (.bool b)=>some (Bc !b)
 |.neg,.d (.int k x)=>some (rQ k (k.wrap (0-x)))
 |_,_=>none
def withO(r:Option V)(K:V->Prop):Prop:=match r with|some v=>K v|none=>False
theorem Na{r:Option V}{K:V->Prop}(h:withO r K):∃v,r=some v/\K v:=by
 unfold withO at h;split at h
 ·exact⟨_,rfl,h⟩
 exact h.elim
theorem ajf{op:UnOp}{T:TypeId}{x:Operand}(aG:o.op=.unOp op T x)(h:evg g (σ.ev x) λa=>withO (unE op a) λv=>K (dr v)):∃r,iY P o g σ n r/\K r:=by
 obtain⟨m6,h,hx⟩:=hX h;obtain⟨v,ah,cg⟩:=Na h;refine⟨_,o6 λσ' bu B w0 a0 φ kp a w r hg=>?_,cg⟩;have dY:=hx _ _ _ _ hg (g' bu r x);unfold unE at ah;split at ah
 ·cases ah;exact⟨.bool _,by unfold execOp;rw[aG];simp[pw dY,Op.unary],yV _⟩
 ·cases ah;exact⟨.int _ _,by unfold execOp;rw[aG];simp[(o5 dY).1,Op.unary,Op.intArith],qh (z2 _ _)⟩
 cases ah
def lenE(P:Program)(T:TypeId)(v:V):Option Nat:=
 match v with
 |.d (.str s)=>if isStrI P T then some s.length else none
 |.d (.sl _ xs)=>if(elI P T).isSome then some xs.length else none
 |.eg _=>if(elI P T).isSome then some 0 else none
 |.sl _ _ len=>if(elI P T).isSome then some len else none
 |_=>none
theorem yI{T:TypeId}{e sz hU:Nat}(h:elI P T=some (e,sz,hU)):∃i,P.underlying T=some (.slice e)/\P.info? e=some i/\i.size=sz/\i.bytes=hU:=by
 unfold elI at h;split at h
 ·rename_i e' hu
  cases hi:P.info? e' with
  |none=>rw[hi]at h;cases h
  |some i=>
   rw[hi]at h;simp only[asj,cc,dT]at h;obtain⟨rfl,rfl,rfl⟩:=h;exact⟨i,hu,hi,rfl,rfl⟩
 cases h
theorem GQ{T:TypeId}(h:isStrI P T):P.underlying T=some .string:=by
 unfold isStrI at h;split at h<;>first|assumption|cases h
theorem Sk{T:TypeId}{k:IntKind}(h:intI P T=some k):P.underlying T=some (.int k):=by
 unfold intI at h;split at h
 ·cases h;assumption
 cases h
theorem xD{φ:c5}{T:Nat->Prop}{h:Array Obj}{id off len:Nat}{u:Value}(r:VRel φ T h (.sl id off len) u) :
  ∃β a c,φ id=some β/\u=.slice a len c/\len<=c/\c<=maxLen/\((c=0/\len=0/\off=β.cap)\/∃b,β.fz=some b/\a=some ⟨b,β.off+off * β.sz,none⟩/\off+c=β.cap):=by
 simp only[VRel]at r;obtain⟨β,a,c,h1,h2,ao,aH⟩:=r;rcases aH with aH|⟨b,aH,bR,eQ,i'⟩
 ·exact⟨β,a,c,h1,h2,by omega,ao,.inl aH⟩
 exact⟨β,a,c,h1,h2,eQ,ao,.inr ⟨b,aH,bR,i'⟩⟩
theorem I0{φ:c5}{T:Nat->Prop}{h:Array Obj}{sz:Nat}{xs:List (List D)}{u:Value}(r:VRel φ T h (.d (.sl sz xs)) u) :
  ∃a c,u=.slice a xs.length c/\xs.length<=c/\c<=maxLen/\(xs=[]\/∃b f G,a=some ⟨b,f,none⟩/\b<h.size/\T b/\repE h false b f sz xs G/\∀g∈G,T g):=by
 simp only[VRel,rep]at r;obtain⟨F,⟨a,c,h1,h2,ao,aH⟩,cR⟩:=r;refine⟨a,c,h1,h2,ao,?_⟩;rcases aH with aH|⟨b,f,G,ak,ar,a4,bP,_⟩
 ·exact .inl aH.1
 subst ar;exact .inr ⟨b,f,G,ak,a4,cR b ξ,bP,λg hg=>cR g (by simp[hg])⟩
theorem Nb{φ:c5}{T:Nat->Prop}{h:Array Obj}{m:Nat}(hm:m<=maxLen):VRel φ T h (rQ .i64 m) (goInt m):=by
 refine qh ⟨?_,?_⟩
 ·have:arV.min=-9223372036854775808:=by decide
  rw[this];omega
 have:arV.max=9223372036854775807:=by decide
 rw[this];simp only[maxLen]at hm;omega
theorem ok_len{c:Call}{x:Operand}{T:TypeId}(aG:o.op=.call c)(hc:c={callee:=.builtin .len,args:=#[x],argTypes:=#[T]})
  (h:evg g (σ.ev x) λa=>match lenE P T a with|some m=>K (dr (rQ .i64 m))|none=>False):∃r,iY P o g σ n r/\K r:=by
 subst hc;obtain⟨m6,h,hx⟩:=hX h;split at h
 ·rename_i m hm;refine⟨_,o6 λσ' bu B w0 a0 φ kp a w r hg=>?_,h⟩;have dY:=hx _ _ _ _ hg (g' bu r x);have hs:∀{e sz hU:Nat} {ad:Option Addr} {l oA:Nat},elI P T=some (e,sz,hU)->a.eval x=.slice ad l oA->(execOp a.eval o).run P w=.ok (.value (goInt l)) w:=by
   intro e sz hU ad l oA he hu;obtain⟨i,qb,_⟩:=yI he;unfold execOp;rw[aG];simp[resolve,invoke,builtin,Builtin.len_,run_underlying qb,hu]
  unfold lenE at hm;split at hm
  ·split at hm
   ·rename_i s hs';cases hm
    have ak:=CS dY;refine⟨goInt s.length,?_,Nb ak.2⟩;unfold execOp;rw[aG];have:(⟨s.toArray⟩:ByteArray).size=s.length:=by simp[atw]
    simp[resolve,invoke,builtin,Builtin.len_,run_underlying (GQ hs'),ak.1,this]
   cases hm
  ·split at hm
   ·rename_i sz xs he;cases hm
    obtain⟨ad,oA,ak,ar,a4,_⟩:=I0 dY;obtain⟨⟨e,s,hU⟩,he⟩:=asf.1 he;exact⟨_,hs he ak,Nb ω⟩
   cases hm
  ·split at hm
   ·rename_i sz he;cases hm
    obtain⟨⟨e,s,hU⟩,he⟩:=asf.1 he;simp only[VRel]at dY;exact⟨_,hs he dY,Nb ζ⟩
   cases hm
  ·split at hm
   ·rename_i id off len he;cases hm
    obtain⟨β,ad,oA,_,ak,ar,a4,_⟩:=xD dY;obtain⟨⟨e,s,hU⟩,he⟩:=asf.1 he;exact⟨_,hs he ak,Nb ω⟩
   cases hm
  cases hm
 ·exact h.elim
def extE(v:V)(i:Nat):Option V:=match v with|.e8 vs=>vs[i]?|_=>none
theorem ajg{x:Operand}{i:Nat}(aG:o.op=.extract x i)(h:evg g (σ.ev x) λa=>withO (extE a i) λv=>K (dr v)):∃r,iY P o g σ n r/\K r:=by
 obtain⟨m6,h,hx⟩:=hX h;obtain⟨v,ah,cg⟩:=Na h;refine⟨_,o6 λσ' bu B w0 a0 φ kp a w r hg=>?_,cg⟩;have dY:=hx _ _ _ _ hg (g' bu r x);unfold extE at ah;split at ah
 ·simp only[VRel]at dY;obtain⟨us,ak,aZ⟩:=dY;obtain⟨u,ar,bA⟩:=yM _ _ aZ i v ah;rw[ac_]at ar;exact⟨u,by unfold execOp;rw[aG];simp[ak,Instr.extract,ar],bA⟩
 cases ah
def ptrE(v:V):Bool:=match v with|.ptr _ _ _|.gF _ _=>true|_=>false
theorem akg{φ:c5}{T:Nat->Prop}{h:Array Obj}{v:V}{u:Value}(hv:ptrE v)(r:VRel φ T h v u):∃b f,u=.pointer (some ⟨b,f,none⟩):=by
 unfold ptrE at hv;split at hv
 ·simp only[VRel]at r;obtain⟨β,b,_,_,r⟩:=r;exact⟨_,_,r⟩
 ·simp only[VRel]at r;obtain⟨b,f,G,r,_⟩:=r;exact⟨_,_,r⟩
 cases hv
theorem ajh{x:Operand}(aG:o.op=.nilCheck x)(h:evg g (σ.ev x) λa=>ptrE a/\K (dr a)):∃r,iY P o g σ n r/\K r:=by
 obtain⟨m6,h,hx⟩:=hX h;refine⟨_,o6 λσ' bu B w0 a0 φ kp a w r hg=>?_,h.2⟩;have dY:=hx _ _ _ _ hg (g' bu r x);obtain⟨b,f,e⟩:=akg h.1 dY;exact⟨a.eval x,by unfold execOp;rw[aG];simp[e],dY⟩
def faE(P:Program)(S:TypeId)(f:Nat)(v:V):Option V:=
 match fdI P S f,v with
 |some d,.ptr id cC off=>some (.ptr id cC (off+d))
 |some d,.gF cells off=>some (.gF cells (off+d))
 |_,_=>none
theorem add_lit(b f m:Nat):(⟨b,f,none⟩:Addr).add m=⟨b,f+m,none⟩:=by
 unfold Addr.add;split<;>simp_all
theorem aji{S:TypeId}{x:Operand}{f:Nat}(aG:o.op=.fieldAddr S x f)(h:evg g (σ.ev x) λa=>withO (faE P S f a) λv=>K (dr v)):∃r,iY P o g σ n r/\K r:=by
 obtain⟨m6,h,hx⟩:=hX h;obtain⟨v,ah,cg⟩:=Na h;refine⟨_,o6 λσ' bu B w0 a0 φ kp a w r hg=>?_,cg⟩;have dY:=hx _ _ _ _ hg (g' bu r x);unfold faE at ah;have key:∀{d b p:Nat},fdI P S f=some d->a.eval x=.pointer (some ⟨b,p,none⟩)->(execOp a.eval o).run P w=.ok (.value (.pointer (some ⟨b,p+d,none⟩))) w:=by
  intro d b p hd hu;unfold fdI at hd;split at hd
  ·rename_i fs a5;split at hd
   ·rename_i M6 rh;split at hd
    ·rename_i i hi;split at hd
     ·cases hd
     rename_i hz;cases hd
     unfold execOp;rw[aG];have h1:(asw M6.type).run P w=Result.ok i.size w:=by simp[asw,typeInfo,hi]
     simp[Instr.fieldAt,run_underlying a5,rh,hu,Instr.sureAddr,fieldPlace,h1,hz,add_lit]
    cases hd
   cases hd
  cases hd
 split at ah
 ·rename_i d id cC off hd;cases ah
  simp only[VRel]at dY;obtain⟨β,b,ak,ar,a4⟩:=dY;exact⟨_,key hd a4,by simp only[VRel];exact⟨β,b,ak,ar,by simp[arH]⟩⟩
 ·rename_i d cells off hd;cases ah
  simp only[VRel]at dY;obtain⟨b,p,G,ak,ar⟩:=dY;exact⟨_,key hd ak,by simp only[VRel];exact⟨b,p,G,by simp[arH],ar⟩⟩
 cases ah
variable {P:Program} {o:Oper} {g:Bool} {σ:St} {n:Nat} {K:fL->Prop}
def H.els:H->Option (Nat×List (List D))
 |.ay sz xs _=>some (sz,xs)
 |.lk sz xs=>some (sz,xs)
 |_=>none
def H.esz:H->Option Nat
 |.ay sz _ _=>some sz
 |.lk sz _=>some sz
 |.aj sz _=>some sz
 |.h3 sz _ _ _=>some sz
 |_=>none
def iaE(P:Program)(hs:List H)(T:TypeId)(x:V)(i:Int):Option (Prop×V):=
 match x with
 |.sl id off len=>
  match elI P T,(a6 hs id).esz with
  |some (_,sz,_),some jm=>if sz=jm then some (0<=i/\i<len,.ptr id (off+i.toNat) 0)else none
  |some (_,sz,_),none=>match a6 hs id with|.box _=>if sz=1/\off=0 then some (0<=i/\i<len,.ptr id 0 i.toNat)else none|_=>none
  |_,_=>none
 |.d (.sl jm xs)=>
  match elI P T with
  |some (_,sz,_)=>if sz=jm then some (0<=i/\i.toNat<xs.length,.gF ((xs[i.toNat]?).getD []) 0)else none
  |none=>none
 |.ptr id cC off=>
  match arI P T with
  |some (len,sz)=>some (0<=i/\i<len,.ptr id cC (off+i.toNat * sz))
  |none=>none
 |.gF cells off=>
  match arI P T with
  |some (len,sz)=>some (0<=i/\i<len,.gF cells (off+i.toNat * sz))
  |none=>none
 |_=>none
theorem Sl{φ:c5}{T:Nat->Prop}{h:Array Obj}{β:h5}{x:H}{sz:Nat}{xs:List (List D)}(he:x.els=some (sz,xs))(r:eR φ T h β x):β.sz=sz:=by
 cases x<;>simp only[H.els,reduceCtorEq,cc,dT]at he
 ·simp only[eR]at r;rw[r.1,he.1]
 simp only[eR]at r;rw[r.1,he.1]
theorem akh{φ:c5}{T:Nat->Prop}{h:Array Obj}{β:h5}{x:H}{sz:Nat}(he:x.esz=some sz)(r:eR φ T h β x):β.sz=sz:=by
 cases x<;>simp only[H.esz,reduceCtorEq,cc]at he<;>(simp only[eR]at r;rw[r.1,he])
theorem Z1{σ σ':St}(bu:σ.le σ'){id:Nat}{p:Nat}(he:(a6 σ.heap id).esz=some p):(a6 σ'.heap id).esz=some p:=by
 rcases bu.2 id with h|h
 ·rw[h]at he;cases he
 rw[h];exact he
theorem aki{B:Nat->Prop}{w0:World}{a0:Nat->Prop}{φ:c5}{kp:List (V×Value)}{a:Act}{w:World}{σ:St}(r:R B w0 a0 φ σ kp a w){id:Nat}{p:Nat}(he:(a6 σ.heap id).esz=some p) :
  ∃β,φ id=some β/\eR φ (dq φ σ.heap) w.heap β (a6 σ.heap id):=by
 rcases r.hp id with h|h
 ·rw[h]at he;cases he
 exact h
theorem Gp{σ σ':St}(bu:σ.le σ'){id:Nat}{p:Nat×List (List D)}(he:(a6 σ.heap id).els=some p):(a6 σ'.heap id).els=some p:=by
 rcases bu.2 id with h|h
 ·rw[h]at he;cases he
 rw[h];exact he
theorem MB{B:Nat->Prop}{w0:World}{a0:Nat->Prop}{φ:c5}{kp:List (V×Value)}{a:Act}{w:World}{σ:St}(r:R B w0 a0 φ σ kp a w){id:Nat}{p:Nat×List (List D)}(he:(a6 σ.heap id).els=some p) :
  ∃β,φ id=some β/\eR φ (dq φ σ.heap) w.heap β (a6 σ.heap id):=by
 rcases r.hp id with h|h
 ·rw[h]at he;cases he
 exact h
theorem akj{T:TypeId}{l sz:Nat}(h:arI P T=some (l,sz)):∃e i,P.underlying T=some (.array l e)/\P.info? e=some i/\i.size=sz:=by
 unfold arI at h;split at h
 ·rename_i ayx e' hu
  cases hi:P.info? e' with
  |none=>rw[hi]at h;cases h
  |some i=>
   rw[hi]at h;simp only[asj,cc,dT]at h;obtain⟨rfl,rfl⟩:=h;exact⟨e',i,hu,hi,rfl⟩
 cases h
theorem ajj{T:TypeId}{x mc:Operand}(aG:o.op=.indexAddr T x mc)
  (h:evg g (σ.ev x) λa=>evg g (σ.ev mc) λb=>asI b λ_ i=>withR (iaE P σ.heap T a i) λv=>K (dr v)):∃r,iY P o g σ n r/\K r:=by
 obtain⟨m6,h,hx⟩:=hX h;obtain⟨Ej,h,hy⟩:=hX h;obtain⟨k,i,rfl,h⟩:=CP h;obtain⟨p,v,ah,hp,cg⟩:=CR h;refine⟨_,o6 λσ' bu B w0 a0 φ kp a w r hg=>?_,cg⟩;have dY:=hx _ _ _ _ hg (g' bu r x);have mF:=o5 (hy _ _ _ _ hg (g' bu r mc));have slice:∀{e sz hU:Nat} {b f len oA:Nat},elI P T=some (e,sz,hU)->a.eval x=.slice (some ⟨b,f,none⟩) len oA->0<=i->i<len->
   (execOp a.eval o).run P w=.ok (.value (.pointer (some ⟨b,f+i.toNat * sz,none⟩))) w:=by
  intro e sz hU b f len oA he hu h0 h1;obtain⟨k3,qb,hi,hs,_⟩:=yI he;unfold execOp;rw[aG];have dM:(asw e).run P w=Result.ok sz w:=by simp[asw,typeInfo,hi,hs]
  simp[Instr.indexAt,run_underlying qb,hu,mF.1,asIntOf,h0,h1,dM,add_lit]
 have array:∀{l sz b f:Nat},arI P T=some (l,sz)->a.eval x=.pointer (some ⟨b,f,none⟩)->0<=i->i<l->(execOp a.eval o).run P w=.ok (.value (.pointer (some ⟨b,f+i.toNat * sz,none⟩))) w:=by
  intro l sz b f he hu h0 h1;obtain⟨e,k3,qb,hi,hs⟩:=akj he;unfold execOp;rw[aG];have dM:(asw e).run P w=Result.ok sz w:=by simp[asw,typeInfo,hi,hs]
  simp[Instr.indexAt,run_underlying qb,hu,mF.1,asIntOf,h0,h1,dM,add_lit,Instr.sureAddr]
 unfold iaE at ah;split at ah
 ·rename_i id off len;split at ah
  ·rename_i e sz hU jm he hel;split at ah
   ·rename_i dM;subst dM;simp only[cc,dT]at ah;obtain⟨rfl,rfl⟩:=ah;obtain⟨β,ad,c,ak,ar,a4,bP,di⟩:=xD dY;obtain⟨bF,iq,hr⟩:=aki r (Z1 bu hel);rw[ak]at iq;cases iq;have hs:=akh (Z1 bu hel) hr;rcases di with di|⟨b,di,lO,qf⟩
    ·have:=hp.2;omega
    subst lO;refine⟨_,slice he ar hp.1 hp.2,?_⟩;simp only[VRel];refine⟨β,b,ak,di,?_⟩;rw[hs,arT];simp[arH]
   cases ah
  ·rename_i e sz hU he ayy;split at ah
   ·rename_i cells ayz;split at ah
    ·rename_i hc;obtain⟨rfl,rfl⟩:=hc;simp only[cc,dT]at ah;obtain⟨rfl,rfl⟩:=ah;obtain⟨β,ad,c,ak,ar,a4,bP,di⟩:=xD dY;rcases di with di|⟨b,di,lO,qf⟩
     ·have:=hp.2;omega
     subst lO;refine⟨_,slice he ar hp.1 hp.2,?_⟩;simp only[VRel];exact⟨β,b,ak,di,by simp⟩
    cases ah
   cases ah
  cases ah
 ·rename_i jm xs;split at ah
  ·rename_i e sz hU he;split at ah
   ·rename_i dM;subst dM;simp only[cc,dT]at ah;obtain⟨rfl,rfl⟩:=ah;obtain⟨ad,c,ak,ar,a4,bP⟩:=I0 dY;rcases bP with bP|⟨b,f,G,bP,di,lO,qf,JA⟩
    ·subst bP;simp at hp
    subst bP;have hlt:=hp.2;obtain⟨cE,qg,cw,rfl,k1,_,k2,_⟩:=Je qf (cy hlt);refine⟨_,slice he ak hp.1 ω,?_⟩;simp only[VRel];refine⟨b,f+i.toNat * sz,qg,by simp,di,lO,?_,λg hg=>JA g (by simp[hg])⟩;rw[cy hlt];exact k2
   cases ah
  cases ah
 ·rename_i id cC off;split at ah
  ·rename_i len sz he;simp only[cc,dT]at ah;obtain⟨rfl,rfl⟩:=ah;simp only[VRel]at dY;obtain⟨β,b,ak,ar,a4⟩:=dY;exact⟨_,array he a4 hp.1 hp.2,by simp only[VRel];exact⟨β,b,ak,ar,by simp[arH]⟩⟩
  cases ah
 ·rename_i cells off;split at ah
  ·rename_i len sz he;simp only[cc,dT]at ah;obtain⟨rfl,rfl⟩:=ah;simp only[VRel]at dY;obtain⟨b,f,G,ak,ar⟩:=dY;exact⟨_,array he ak hp.1 hp.2,by simp only[VRel];exact⟨b,f,G,by simp[arH],ar⟩⟩
  cases ah
 cases ah
def zZ(iG:Bool)(vs:List V):V:=if iG then .agg vs else vs.headD .an
def loadE(P:Program)(hs:List H)(T:TypeId)(x:V):Option (Prop×V):=
 match tyI P T,x with
 |some (sz,iG),.ptr id cC off=>
  match a6 hs id with
  |.box cells=>some (cC=0/\off+sz<=cells.length/\(iG=false->sz=1),zZ iG ((cells.drop off).take sz))
  |.ay _ xs _=>some (cC<xs.length/\off+sz<=((xs[cC]?).getD []).length/\(iG=false->sz=1),zZ iG (((((xs[cC]?).getD []).drop off).take sz).map V.d))
  |.lk _ xs=>some (cC<xs.length/\off+sz<=((xs[cC]?).getD []).length/\(iG=false->sz=1),zZ iG (((((xs[cC]?).getD []).drop off).take sz).map V.d))
  |.h3 _ pre cells _=>some (cC=pre.length/\off+sz<=cells.length/\(iG=false->sz=1),zZ iG ((cells.drop off).take sz))
  |_=>none
 |some (sz,iG),.gF cells off=>some (off+sz<=cells.length/\(iG=false->sz=1),zZ iG (((cells.drop off).take sz).map V.d))
 |_,_=>none
theorem R6{T:TypeId}{sz:Nat}{iG:Bool}(h:tyI P T=some (sz,iG)):∃i,P.info? T=some i/\i.size=sz/\∀w,(isAgg T).run P w=.ok iG w:=by
 unfold tyI at h;split at h
 ·rename_i i d h1 h2;simp only[cc,dT]at h;obtain⟨rfl,rfl⟩:=h;refine⟨i,h1,rfl,λw=>?_⟩;unfold isAgg;simp only[Sem.run_bind,run_underlying h2,Result.andThen_ok];cases d<;>rfl
 cases h
theorem run_load{T:TypeId}{sz:Nat}{iG:Bool}(h:tyI P T=some (sz,iG)){w:World}{b f:Nat}{us:List Value}(hl:us.length=sz)(h1:iG=false->sz=1)(hc:∀(j:Nat) (u:Value),us[j]?=some u->cellAt w.heap b (f+j)=some u) :
  (loadVar T ⟨b,f,none⟩).run P w=.ok (if iG then .agg us.toArray else us.headD undef) w:=by
 obtain⟨i,hi,hs,Sm⟩:=R6 h;unfold loadVar;simp only[Sem.run_bind,Sm,Result.andThen_ok];cases iG
 ·have dM:=h1 rfl
  match us,hl,dM with
  |[u],_,_=>
   have h0:=hc 0 u rfl;rw[ao_,<-cell_eq]at h0;simp[h0]
 have:=run_loadCells_list (P:=P) w ⟨b,f,none⟩ us (λj v aI=>by rw[add_lit,cell_eq];exact hc j v aI);simp[asw,typeInfo,hi,hs,<-hl,this]
theorem akk{φ:c5}{T:Nat->Prop}{h:Array Obj}{iG:Bool}{vs:List V}{us:List Value}{sz:Nat}(hl:us.length=sz)(h1:iG=false->sz=1)(r:VRels φ T h vs us) :
  VRel φ T h (zZ iG vs) (if iG then .agg us.toArray else us.headD undef):=by
 cases iG
 ·have dM:=h1 rfl
  match us,hl,dM with
  |[u],_,_=>
   cases vs with
   |nil=>simp only[VRels]at r;cases r
   |cons v vs=>
    simp only[VRels]at r;obtain⟨zW,c6,e,aZ,bA⟩:=r;cases e
    simpa [zZ]using aZ
 simp only[zZ,if_true,VRel];exact⟨us.toArray,rfl,r⟩
theorem Nc{φ:c5}{T:Nat->Prop}{h:Array Obj}{b:Nat}:∀(ds:List D) (f:Nat) (G:List Nat),repC h false b f ds G->(∀g∈G,T g)->∃us:List Value,us.length=ds.length/\VRels φ T h (ds.map V.d) us/\∀(j:Nat) (u:Value),us[j]?=some u->cellAt h b (f+j)=some u
 |[],_,_,_,_=>⟨[],rfl,by simp[VRels],by simp⟩
 |d::ds,f,G,r,cR=>by
  simp only[repC]at r;obtain⟨v,cE,cw,rfl,ar,a4,bP⟩:=r;obtain⟨us,k1,k2,dd⟩:=Nc ds (f+1) cw bP (λg hg=>cR g (by simp[hg]));refine⟨v::us,by simp[k1],?_,λj u aI=>?_⟩
  ·simp only[fe,VRels,VRel];exact⟨v,us,rfl,⟨cE,a4,λg hg=>cR g (by simp[hg])⟩,k2⟩
  cases j with
  |zero=>simp at aI;subst aI;simpa using ar
  |succ j=>rw[show f+(j+1)=f+1+j from by omega];exact dd j u (by simpa using aI)
theorem akl{h:Array Obj}{b f:Nat}{us:List Value}(hc:∀(j:Nat) (u:Value),us[j]?=some u->cellAt h b (f+j)=some u)(off sz:Nat) :
  ∀(j:Nat) (u:Value),((us.drop off).take sz)[j]?=some u->cellAt h b (f+off+j)=some u:=by
 intro j u aI;rw[ati]at aI;split at aI
 ·rw[atj]at aI;rw[arH];exact hc _ _ aI
 cases aI
theorem Z2{B:Nat->Prop}{w0:World}{a0:Nat->Prop}{φ:c5}{kp:List (V×Value)}{a:Act}{w:World}{σ:St}(r:R B w0 a0 φ σ kp a w){id:Nat}{sz:Nat}{xs:List (List D)}(he:(a6 σ.heap id).els=some (sz,xs))
  {β:h5} (hb:φ id=some β) {cC:Nat} (hi:cC<xs.length):∃b,β.fz=some b/\∃us:List Value,us.length=((xs[cC]?).getD []).length/\VRels φ (dq φ σ.heap) w.heap (((xs[cC]?).getD []).map V.d) us/\
   ∀(j:Nat) (u:Value),us[j]?=some u->cellAt w.heap b (β.off+cC * β.sz+j)=some u:=by
 obtain⟨bF,ak,hr⟩:=MB r he;rw[hb]at ak;cases ak;have dM:=Sl he hr;have qL:xs[cC]?=some xs[cC]:=cy hi;rw[qL]
 cases hx:a6 σ.heap id with
 |ek=>rw[hx]at he;cases he
 |box cells=>rw[hx]at he;cases he
 |aj _ _=>rw[hx]at he;cases he
 |h3 _ _ _ _=>rw[hx]at he;cases he
 |ay jm oB ma=>
  rw[hx]at he hr;simp only[H.els,cc,dT]at he;obtain⟨rfl,rfl⟩:=he;simp only[eR]at hr;rcases hr.2 with hr|⟨b,G,aZ,bA,c9,dn,fZ,ji⟩
  ·rw[hr.2.1]at hi;simp at hi
  obtain⟨cE,qg,cw,rfl,k1,_,k2,_⟩:=Je dn qL;have cR:∀g∈qg,dq φ σ.heap g:=by
   intro g hg;cases ma
   ·exact ji rfl g (by simp[hg])
   exact ZK r hb (by rw[hx];rfl) (by rw[hx];rfl) (by rw[<-fZ rfl];simp[hg])
  have akm:repC w.heap false b (β.off+cC * jm) (oB[cC]) qg:=by
   cases ma
   ·exact k2
   exact RW _ _ _ _ k2
  obtain⟨us,g_,h6,oY⟩:=Nc (φ:=φ) _ _ _ akm cR;exact⟨b,aZ,us,g_,h6,by rw[dM];exact oY⟩
 |lk jm oB=>
  rw[hx]at he hr;simp only[H.els,cc,dT]at he;obtain⟨rfl,rfl⟩:=he;simp only[eR]at hr;rcases hr.2 with hr|⟨b,G,aZ,bA,c9,dn,fZ⟩
  ·rw[hr]at hi;simp at hi
  obtain⟨cE,qg,cw,rfl,k1,_,k2,_⟩:=Je dn qL;obtain⟨us,g_,h6,oY⟩:=Nc (φ:=φ) _ _ _ k2 (λg hg=>fZ g (by simp[hg]));exact⟨b,aZ,us,g_,h6,by rw[dM];exact oY⟩
theorem Z3{T:TypeId}{B:Nat->Prop}{w0:World}{a0:Nat->Prop}{φ:c5}{kp:List (V×Value)}{a:Act}{w:World}{σ σ':St}(bu:σ.le σ')(r:R B w0 a0 φ σ' kp a w){m6 v:V}{p:Prop}(ah:loadE P σ.heap T m6=some (p,v))(hp:p)
  {Nd:Value} (dY:VRel φ (dq φ σ'.heap) w.heap m6 Nd):∃b f u,Nd=.pointer (some ⟨b,f,none⟩)/\(loadVar T ⟨b,f,none⟩).run P w=.ok u w/\VRel φ (dq φ σ'.heap) w.heap v u:=by
 have aS:∀{sz:Nat} {iG:Bool} {b f off:Nat} {vs:List V} {us:List Value},tyI P T=some (sz,iG)->(iG=false->sz=1)->off+sz<=us.length->VRels φ (dq φ σ'.heap) w.heap vs us->
   (∀(j:Nat) (u:Value),us[j]?=some u->cellAt w.heap b (f+j)=some u)->Nd=.pointer (some ⟨b,f+off,none⟩)->
   ∃b f u,Nd=.pointer (some ⟨b,f,none⟩)/\(loadVar T ⟨b,f,none⟩).run P w=.ok u w/\VRel φ (dq φ σ'.heap) w.heap (zZ iG ((vs.drop off).take sz)) u:=by
  intro sz iG b f off vs us rU h1 ayA hv hc hu;have hl:((us.drop off).take sz).length=sz:=by simp;omega
  refine⟨_,_,_,hu,run_load rU hl h1 (akl hc off sz),?_⟩;exact akk hl h1 (ZI (ZJ hv off) sz)
 unfold loadE at ah;split at ah
 ·rename_i sz iG id cC off rU;simp only[VRel]at dY;obtain⟨β,b,ak,ar,a4⟩:=dY;have hh:=bu.2 id;split at ah
  ·rename_i cells hc;simp only[cc,dT]at ah;obtain⟨rfl,rfl⟩:=ah;have iX:a6 σ'.heap id=.box cells:=by
    rcases hh with hh|hh
    ·rw[hc]at hh;cases hh
    rw[hh,hc]
   rcases r.hp id with hd|⟨bF,iq,hr⟩
   ·rw[iX]at hd;cases hd
   rw[ak]at iq;cases iq;rw[iX]at hr;simp only[eR]at hr;obtain⟨ey,cs,t,aZ,bA,c9,dn⟩:=hr;rw[ar]at aZ;cases aZ;obtain⟨dP,dO,ih⟩:=hp;have fU:=mG _ _ dn;refine aS (b:=b) (f:=0) rU ih (by rw[fU];exact dO) dn (λj u aI=>?_) (by rw[a4,dP,bA];simp);unfold cellAt;rw[c9];simpa using aI
  ·rename_i jm xs ma hc;simp only[cc,dT]at ah;obtain⟨rfl,rfl⟩:=ah;have iX:(a6 σ'.heap id).els=some (jm,xs):=Gp bu (by rw[hc];rfl);obtain⟨dP,dO,ih⟩:=hp;obtain⟨ey,k1,us,k2,dd,il⟩:=Z2 r iX ak dP;rw[ar]at k1;cases k1;have:=aS (b:=b) (f:=β.off+cC * β.sz) rU ih (by rw[k2];exact dO) dd il a4;rw[av_,atQ];exact this
  ·rename_i jm xs hc;simp only[cc,dT]at ah;obtain⟨rfl,rfl⟩:=ah;have iX:(a6 σ'.heap id).els=some (jm,xs):=Gp bu (by rw[hc];rfl);obtain⟨dP,dO,ih⟩:=hp;obtain⟨ey,k1,us,k2,dd,il⟩:=Z2 r iX ak dP;rw[ar]at k1;cases k1;have:=aS (b:=b) (f:=β.off+cC * β.sz) rU ih (by rw[k2];exact dO) dd il a4;rw[av_,atQ];exact this
  ·rename_i jm pre cells post hc;simp only[cc,dT]at ah;obtain⟨rfl,rfl⟩:=ah;have iX:a6 σ'.heap id=.h3 jm pre cells post:=by
    rcases hh with hh|hh
    ·rw[hc]at hh;cases hh
    rw[hh,hc]
   rcases r.hp id with hd|⟨bF,iq,hr⟩
   ·rw[iX]at hd;cases hd
   rw[ak]at iq;cases iq;rw[iX]at hr;simp only[eR]at hr;obtain⟨hs,hcl,ey,cE,cw,us,aZ,bA,c9,dn,fZ,ji,sF,yu⟩:=hr;rw[ar]at aZ;cases aZ;obtain⟨dP,dO,ih⟩:=hp;have fU:=mG _ _ ji;exact aS (b:=b) (f:=β.off+pre.length * jm) rU ih (by rw[fU];exact dO) ji sF (by rw[a4,dP,hs])
  ·cases ah
 ·rename_i sz iG cells off rU;simp only[cc,dT]at ah;obtain⟨rfl,rfl⟩:=ah;simp only[VRel]at dY;obtain⟨b,f,G,ak,ar,a4,bP,di⟩:=dY;obtain⟨us,g_,h6,oY⟩:=Nc (φ:=φ) _ _ _ bP di;have:=aS (b:=b) (f:=f) rU hp.2 (by rw[g_];exact hp.1) h6 oY ak;rw[av_,atQ];exact this
 cases ah
theorem ajk{T:TypeId}{x:Operand}(aG:o.op=.load T x)(h:evg g (σ.ev x) λa=>withR (loadE P σ.heap T a) λv=>K (dr v)):∃r,iY P o g σ n r/\K r:=by
 obtain⟨m6,h,hx⟩:=hX h;obtain⟨p,v,ah,hp,cg⟩:=CR h;refine⟨_,o6 λσ' bu B w0 a0 φ kp a w r hg=>?_,cg⟩;obtain⟨b,f,u,hu,hl,hv⟩:=Z3 bu r ah hp (hx _ _ _ _ hg (g' bu r x));refine⟨u,?_,hv⟩;unfold execOp;rw[aG];simp[Instr.loadAt,hu,Instr.sureAddr,hl]
variable {P:Program} {o:Oper} {g:Bool} {σ:St} {n:Nat} {K:fL->Prop}
def ixE(P:Program)(T:TypeId)(x:V)(i:Int):Option (Prop×V):=
 match x with
 |.d (.str s)=>if isStrI P T then some (0<=i/\i.toNat<s.length,rQ .u8 ((s[i.toNat]?).getD 0).toNat)else none
 |.agg vs=>
  match P.underlying T with
  |some (.array len e)=>if tyI P e=some (1,false)then some (0<=i/\i<len/\i.toNat<vs.length,(vs[i.toNat]?).getD .an)else none
  |_=>none
 |_=>none
theorem akn(b:UInt8):aso.min<=(b.toNat:Int)/\(b.toNat:Int)<=aso.max:=by
 have h:=b.toNat_lt;have h1:aso.min=0:=by decide
 have h2:aso.max=255:=by decide
 rw[h1,h2];omega
theorem ajl{T:TypeId}{x mc:Operand}(aG:o.op=.index T x mc)
  (h:evg g (σ.ev x) λa=>evg g (σ.ev mc) λb=>asI b λ_ i=>withR (ixE P T a i) λv=>K (dr v)):∃r,iY P o g σ n r/\K r:=by
 obtain⟨m6,h1,hx⟩:=hX h;obtain⟨Ej,h2,hy⟩:=hX h1;obtain⟨k,i,rfl,ao⟩:=CP h2;obtain⟨p,v,ah,hp,cg⟩:=CR ao;clear h h1 h2 ao;refine⟨_,o6 λσ' bu B w0 a0 φ kp a w r hg=>?_,cg⟩;have dY:=hx _ _ _ _ hg (g' bu r x);have mF:=o5 (hy _ _ _ _ hg (g' bu r mc));unfold ixE at ah;split at ah
 ·rename_i s;split at ah
  ·rename_i hs;simp only[cc,dT]at ah;obtain⟨rfl,rfl⟩:=ah;have ak:=CS dY;have hlt:=hp.2;refine⟨.int .u8 (s[i.toNat]'hlt).toNat,?_,?_⟩
   ·unfold execOp;rw[aG];have hb:(⟨s.toArray⟩:ByteArray)[i.toNat]?=some (s[i.toNat]'hlt):=by
     have dM:i.toNat<(⟨s.toArray⟩:ByteArray).size:=by simpa [atw]using hlt
     rw[getElem?_pos (⟨s.toArray⟩:ByteArray) i.toNat dM];rfl
    simp[Instr.index,run_underlying (GQ hs),ak.1,mF.1,asIntOf,hp.1,hb]
   ·rw[cy hlt];exact qh (akn _)
  cases ah
 ·rename_i vs;split at ah
  ·rename_i len e hu;split at ah
   ·rename_i rU;simp only[cc,dT]at ah;obtain⟨rfl,rfl⟩:=ah;obtain⟨us,ak,aZ⟩:=I5 dY;have hlt:=hp.2.2;obtain⟨u,g_,h6⟩:=yM _ _ aZ i.toNat _ (cy hlt);refine⟨u,?_,by rw[cy hlt];exact h6⟩;obtain⟨k3,hi,hs,Sm⟩:=R6 rU;unfold execOp;rw[aG];rw[ac_]at g_;simp[Instr.index,run_underlying hu,ak,mF.1,asIntOf,hp.1,hp.2.1,part,Sm,asw,typeInfo,hi,hs,g_]
   cases ah
  cases ah
 cases ah
theorem Z4(ako:Bool)(len cap:Nat)(cr hi:Option Value)(l h:Nat)(w:World)(hl:cr=none/\l=0\/∃k,cr=some (.int k l))(hh:hi=none/\h=len\/∃k,hi=some (.int k h))
  (h1:l<=h) (h2:h<=cap):(Instr.sliceBounds ako len cap cr hi none).run P w=.ok (l,h,cap) w:=by
 have qU:∀(k:IntKind) (x y:Nat) (c:BoundsCode),x<=y->(Instr.sliceBound (.int k x) y c).run P w=.ok x w:=by
  intro k x y c pE;simp[Instr.sliceBound,asIntOf,pE]
 unfold Instr.sliceBounds;rcases hl with ⟨rfl,rfl⟩|⟨k,rfl⟩<;>rcases hh with ⟨rfl,rfl⟩|⟨l1,rfl⟩
 ·simp
 ·simp[qU _ _ _ _ h2]
 ·simp[qU _ _ _ _ h1]
 simp[qU _ _ _ _ h2,qU _ _ _ _ h1]
def reachE(x:H)(k:Nat):Prop:=match x with|.ay _ xs true=>k<=xs.length|_=>False
def cutE(P:Program)(hs:List H)(T:TypeId)(x:V)(l h:Nat):Option (Prop×V):=
 match x with
 |.d (.str s)=>if isStrI P T then some (l<=h/\h<=s.length,Jj ((s.drop l).take (h-l)))else none
 |.sl id off len=>
  match elI P T,(a6 hs id).els with
  |some (_,sz,_),some (jm,_)=>if sz=jm then some (l<=h/\(h<=len\/reachE (a6 hs id) (off+h)),.sl id (off+l) (h-l))else none
  |_,_=>none
 |.d (.sl jm xs)=>
  match elI P T with
  |some (_,sz,_)=>if sz=jm then some (l<=h/\h<=xs.length,.d (.sl jm ((xs.drop l).take (h-l))))else none
  |none=>none
 |.eg s=>if(elI P T).isSome then some (l=0/\h=0,.eg s)else none
 |_=>none
def Gw(x:V):Nat:=match x with|.d (.str s)=>s.length|.d (.sl _ xs)=>xs.length|.sl _ _ len=>len|_=>0
def bndE(g:Bool)(σ:St)(d:Nat)(x:Option Operand)(K:Nat->Prop):Prop:=
 match x with
 |none=>K d
 |some x=>evg g (σ.ev x) λv=>asI v λ_ i=>0<=i/\K i.toNat
theorem JB{d:Nat}{x:Option Operand}{K:Nat->Prop}(h:bndE g σ d x K):∃l:Nat,K l/\∀{σ':St} {B:Nat->Prop} {w0:World} {a0:Nat->Prop} {φ:c5} {kp:List (V×Value)} {a:Act} {w:World},σ.le σ'->R B w0 a0 φ σ' kp a w->g->
  (x=none/\l=d\/∃k y,x=some y/\a.eval y=.int k l):=by
 unfold bndE at h;split at h
 ·exact⟨d,h,λ_ _ _=>.inl ⟨rfl,rfl⟩⟩
 rename_i y;obtain⟨v,h,hy⟩:=hX h;obtain⟨k,i,rfl,h0,cg⟩:=CP h;refine⟨i.toNat,cg,λbu r hg=>.inr ⟨k,y,rfl,?_⟩⟩;have:=o5 (hy _ _ _ _ hg (g' bu r y));rw[this.1,Int.toNat_of_nonneg h0]
theorem akp(s:List UInt8)(l h:Nat):(⟨s.toArray⟩:ByteArray).extract l h=⟨((s.drop l).take (h-l)).toArray⟩:=by
 apply aAu;apply Array.ext';simp[ByteArray.data_extract,List.extract]
theorem ajm{T:TypeId}{x:Operand}{cr hi:Option Operand}(aG:o.op=.slice T x cr hi none)
  (h:evg g (σ.ev x) λa=>bndE g σ 0 cr λl=>bndE g σ (Gw a) hi λh=>withR (cutE P σ.heap T a l h) λv=>K (dr v)):∃r,iY P o g σ n r/\K r:=by
 obtain⟨m6,h1,hx⟩:=hX h;obtain⟨l,h2,hl⟩:=JB h1;obtain⟨m,ao,hm⟩:=JB h2;obtain⟨p,v,ah,hp,cg⟩:=CR ao;clear h h1 h2 ao;refine⟨_,o6 λσ' bu B w0 a0 φ kp a w r hg=>?_,cg⟩;have dY:=hx _ _ _ _ hg (g' bu r x);have yF:=hl bu r hg;have akq:=hm bu r hg;have bl:(cr.map a.eval)=none/\l=0\/∃k,(cr.map a.eval)=some (.int k l):=by
  rcases yF with ⟨rfl,rfl⟩|⟨k,y,rfl,e⟩
  ·exact .inl ⟨rfl,rfl⟩
  exact .inr ⟨k,by simp[e]⟩
 have Sn:(hi.map a.eval)=none/\m=Gw m6\/∃k,(hi.map a.eval)=some (.int k m):=by
  rcases akq with ⟨rfl,rfl⟩|⟨k,y,rfl,e⟩
  ·exact .inl ⟨rfl,rfl⟩
  exact .inr ⟨k,by simp[e]⟩
 have So:∀{e sz hU:Nat} {ad:Option Addr} {len oA:Nat},elI P T=some (e,sz,hU)->a.eval x=.slice ad len oA->Gw m6=len->l<=m->m<=oA->
   (execOp a.eval o).run P w=.ok (.value (.slice (if oA=l then ad else ad.map (·.add (l * sz))) (m-l) (oA-l))) w:=by
  intro e sz hU ad len oA he hu fU h1 h2;obtain⟨k3,qb,fw,hs,_⟩:=yI he;have dM:(asw e).run P w=Result.ok sz w:=by simp[asw,typeInfo,fw,hs]
  have hb:=Z4 (P:=P) true len oA (cr.map a.eval) (hi.map a.eval) l m w bl (by rw[fU]at Sn;exact Sn) h1 h2;unfold execOp;rw[aG];simp[Instr.sliceAt,Instr.slice,run_underlying qb,hu,hb,dM]
 unfold cutE at ah;split at ah
 ·rename_i s;split at ah
  ·rename_i hs;simp only[cc,dT]at ah;obtain⟨rfl,rfl⟩:=ah;have ak:=CS dY;have dM:(⟨s.toArray⟩:ByteArray).size=s.length:=by simp[atw]
   have hb:=Z4 (P:=P) false s.length s.length (cr.map a.eval) (hi.map a.eval) l m w bl Sn hp.1 hp.2;refine⟨.string ⟨((s.drop l).take (m-l)).toArray⟩,?_,JC (by simp;omega)⟩;unfold execOp;rw[aG];simp[Instr.sliceAt,Instr.slice,run_underlying (GQ hs),ak.1,dM,hb,akp]
  cases ah
 ·rename_i id off len;split at ah
  ·rename_i e sz hU jm xs he hel;split at ah
   ·rename_i dM;subst dM;simp only[cc,dT]at ah;obtain⟨rfl,rfl⟩:=ah;obtain⟨β,ad,c,ak,ar,a4,bP,di⟩:=xD dY;obtain⟨bF,iq,hr⟩:=MB r (Gp bu hel);rw[ak]at iq;cases iq;have hs:=Sl (Gp bu hel) hr;have akr:m<=c:=by
     rcases hp.2 with hp|hp
     ·omega
     unfold reachE at hp;split at hp
     ·rename_i z0 oB iZ;have g6:a6 σ'.heap id=.ay z0 oB true:=by
       rcases bu.2 id with hh|hh
       ·rw[iZ]at hh;cases hh
       rw[hh,iZ]
      rw[g6]at hr;simp only[eR]at hr;have ayB:off+c=β.cap:=by
       rcases di with di|⟨_,_,_,di⟩
       ·omega
       exact di
      rcases hr.2 with hr|⟨_,_,_,hr,_⟩
      ·rw[hr.2.1]at hp;simp at hp;omega
      omega
     ·exact hp.elim
    refine⟨_,So he ar rfl hp.1 akr,?_⟩;simp only[VRel];refine⟨β,_,c-l,ak,rfl,by omega,?_⟩;by_cases hcl:c=l
    ·exact .inl ⟨by omega,by omega⟩
    rcases di with di|⟨b,di,lO,qf⟩
    ·exfalso;omega
    subst lO;refine .inr ⟨b,di,?_,by omega,by omega⟩;rw[if_neg hcl];simp only[asj,add_lit,hs];rw[arT,<-arH]
   ·cases ah
  cases ah
 ·rename_i jm xs;split at ah
  ·rename_i e sz hU he;split at ah
   ·rename_i dM;subst dM;simp only[cc,dT]at ah;obtain⟨rfl,rfl⟩:=ah;obtain⟨ad,c,ak,ar,a4,bP⟩:=I0 dY;have fU:((xs.drop l).take (m-l)).length=m-l:=by simp;omega
    refine⟨_,So he ak rfl hp.1 ω,?_⟩;simp only[VRel,rep];by_cases hne:(xs.drop l).take (m-l)=[]
    ·have Z5:m-l=0:=by rw[<-fU,hne];rfl
     exact⟨[],⟨_,c-l,by rw[fU],by omega,by omega,.inl ⟨hne,rfl,λh=>by cases h⟩⟩,by simp⟩
    rcases bP with bP|⟨b,f,G,bP,di,lO,qf,JA⟩
    ·subst bP;simp at hne
    subst bP;have Z5:0<m-l:=by rw[<-fU];exact aq_.2 hne
    have Gq:xs=xs.take l++((xs.drop l).take (m-l)++(xs.drop l).drop (m-l)):=by rw[ad_,ad_]
    rw[Gq]at qf;obtain⟨cE,cw,rfl,k1,k2⟩:=(repE_append _ _ _ _).1 qf;obtain⟨Ca,QF,rfl,dd,il⟩:=(repE_append _ _ _ _).1 k2;have oz:(xs.take l).length=l:=by simp;omega
    rw[oz]at dd;refine⟨b::Ca,⟨_,c-l,by rw[fU],by omega,by omega,.inr ⟨b,f+l * sz,Ca,?_,rfl,di,dd,λh=>by cases h⟩⟩,?_⟩
    ·have hcl:¬c=l:=by omega
     rw[if_neg hcl];simp[add_lit]
    intro y hy;rcases rD.1 hy with rfl|hy
    ·exact lO
    exact JA y (by simp[hy])
   cases ah
  cases ah
 ·rename_i s;split at ah
  ·rename_i he;simp only[cc,dT]at ah;obtain⟨rfl,rfl⟩:=ah;obtain⟨⟨e,sz,hU⟩,he⟩:=asf.1 he;simp only[VRel]at dY;have hh:=So he dY rfl ω ω;obtain⟨rfl,rfl⟩:=hp;refine⟨_,hh,?_⟩;simp[VRel]
  cases ah
 cases ah
def cut3E(P:Program)(T:TypeId)(x:V)(l h m:Nat):Option (Prop×V):=
 match x with
 |.sl _ _ len=>if(elI P T).isSome then some (l<=h/\h<=m/\m<=len,.an)else none
 |_=>none
theorem ajs{T:TypeId}{x cr hi sR:Operand}(aG:o.op=.slice T x (some cr) (some hi) (some sR))
  (h:evg g (σ.ev x) λa=>bndE g σ 0 (some cr) λl=>bndE g σ 0 (some hi) λh=>bndE g σ 0 (some sR) λm=>withR (cut3E P T a l h m) λv=>K (dr v)):∃r,iY P o g σ n r/\K r:=by
 obtain⟨m6,h1,hx⟩:=hX h;obtain⟨l,h2,hl⟩:=JB h1;obtain⟨m,ao,hm⟩:=JB h2;obtain⟨q,aH,hq⟩:=JB ao;obtain⟨p,v,ah,hp,cg⟩:=CR aH;clear h h1 h2 ao aH;refine⟨_,o6 λσ' bu B w0 a0 φ kp a w r hg=>?_,cg⟩;have dY:=hx _ _ _ _ hg (g' bu r x);have Sp:∀{z:Operand} {d t:Nat},((some z=none/\t=d)\/∃k y,some z=some y/\a.eval y=.int k t)->∃k,a.eval z=.int k t:=by
  rintro z d t (⟨h,_⟩|⟨k,y,h,e⟩)
  ·cases h
  cases h;exact⟨k,e⟩
 obtain⟨k1,Ey⟩:=Sp (hl bu r hg);obtain⟨k2,em⟩:=Sp (hm bu r hg);obtain⟨dd,eq⟩:=Sp (hq bu r hg);unfold cut3E at ah;split at ah
 ·rename_i id off len;split at ah
  ·rename_i hs;simp only[cc,dT]at ah;obtain⟨rfl,rfl⟩:=ah;obtain⟨dP,dO,ih⟩:=hp;obtain⟨⟨e,sz,hU⟩,he⟩:=asf.1 hs;obtain⟨k3,qb,fw,hs,_⟩:=yI he;have dM:(asw e).run P w=Result.ok sz w:=by simp[asw,typeInfo,fw,hs]
   obtain⟨β,ad,c,ak,ar,a4,bP,di⟩:=xD dY;have qU:∀(k:IntKind) (x y:Nat) (c:BoundsCode),x<=y->(Instr.sliceBound (.int k x) y c).run P w=.ok x w:=by
    intro k x y c pE;simp[Instr.sliceBound,asIntOf,pE]
   have hb:(Instr.sliceBounds true len c (some (.int k1 l)) (some (.int k2 m)) (some (.int dd q))).run P w=.ok (l,m,q) w:=by
    unfold Instr.sliceBounds;simp[qU _ _ _ _ (show q<=c by omega),qU _ _ _ _ dO,qU _ _ _ _ dP]
   refine⟨.slice (if q=l then ad else ad.map (·.add (l * sz))) (m-l) (q-l),?_,by simp only[VRel]⟩;unfold execOp;rw[aG];simp[Instr.sliceAt,Instr.slice,run_underlying qb,Ey,em,eq,ar,hb,dM]
  cases ah
 cases ah
variable {P:Program} {o:Oper} {g:Bool} {σ:St} {n:Nat} {K:fL->Prop}
def byte1:List D->Option UInt8
 |[.int .u8 n]=>some (ass n.toNat)
 |_=>none
def bytesL:List (List D)->Option (List UInt8)
 |[]=>some []
 |c::cs=>match byte1 c,bytesL cs with|some b,some r=>some (b::r)|_,_=>none
def elsOf(hs:List H)(x:V):Option (Nat×List (List D)):=
 match x with
 |.sl id off len=>match(a6 hs id).els with|some (sz,xs)=>if off+len<=xs.length then some (sz,(xs.drop off).take len)else none|none=>none
 |.d (.sl sz xs)=>some (sz,xs)
 |.eg sz=>some (sz,[])
 |_=>none
theorem Mz{B:Nat->Prop}{w0:World}{a0:Nat->Prop}{φ:c5}{kp:List (V×Value)}{a:Act}{w:World}{σ σ':St}(bu:σ.le σ')(r:R B w0 a0 φ σ' kp a w){x:V}{sz:Nat}{xs:List (List D)}(he:elsOf σ.heap x=some (sz,xs))
  {u:Value} (dY:VRel φ (dq φ σ'.heap) w.heap x u):∃ad c,u=.slice ad xs.length c/\xs.length<=c/\c<=maxLen/\
   (xs=[]\/∃b f G,ad=some ⟨b,f,none⟩/\b<w.heap.size/\repE w.heap false b f sz xs G/\∀g∈G,dq φ σ'.heap g):=by
 unfold elsOf at he;split at he
 ·rename_i id off len;split at he
  ·rename_i jm ys hel;split at he
   ·rename_i hb;simp only[cc,dT]at he;obtain⟨rfl,rfl⟩:=he;obtain⟨β,ad,c,ak,ar,a4,bP,di⟩:=xD dY;have qi:=Gp bu hel;obtain⟨bF,iq,hr⟩:=MB r qi;rw[ak]at iq;cases iq;have hs:=Sl qi hr;have fU:((ys.drop off).take len).length=len:=by simp;omega
    refine⟨ad,c,by rw[fU];exact ar,by omega,bP,?_⟩;by_cases hne:(ys.drop off).take len=[]
    ·exact .inl hne
    have Ez:0<len:=by rw[<-fU];exact aq_.2 hne
    rcases di with di|⟨b,di,lO,qf⟩
    ·omega
    subst lO;have Gq:ys=ys.take off++((ys.drop off).take len++(ys.drop off).drop len):=by rw[ad_,ad_]
    have oz:(ys.take off).length=off:=by simp;omega
    have key:∀{bl:Bool} {G:List Nat},repE w.heap bl b β.off jm ys G->∃GR,(∀g∈GR,g∈G)/\repE w.heap bl b (β.off+off * jm) jm ((ys.drop off).take len) GR:=by
     intro bl G bY;rw[Gq]at bY;obtain⟨cE,cw,rfl,k1,k2⟩:=(repE_append _ _ _ _).1 bY;obtain⟨Ca,QF,rfl,dd,il⟩:=(repE_append _ _ _ _).1 k2;rw[oz]at dd;exact⟨Ca,λy hy=>by simp[hy],dd⟩
    cases hx:a6 σ'.heap id with
    |ek=>rw[hx]at qi;cases qi
    |box cells=>rw[hx]at qi;cases qi
    |aj _ _=>rw[hx]at qi;cases qi
    |h3 _ _ _ _=>rw[hx]at qi;cases qi
    |ay aks Sq ma=>
     rw[hx]at qi hr;simp only[H.els,cc,dT]at qi;obtain⟨rfl,rfl⟩:=qi;simp only[eR]at hr;rcases hr.2 with hr|⟨ey,G,aZ,bA,c9,dn,fZ,ji⟩
     ·rw[hr.2.1]at hb;simp at hb;omega
     rw[di]at aZ;cases aZ;obtain⟨GR,b5,b8⟩:=key dn;refine .inr ⟨b,_,GR,rfl,c9.lt,?_,λg hg=>?_⟩
     ·rw[hs];cases ma
      ·exact b8
      exact Ji _ _ _ _ _ b8
     cases ma
     ·exact ji rfl g (b5 g hg)
     exact ZK r ak (by rw[hx];rfl) (by rw[hx];rfl) (by rw[<-fZ rfl];exact b5 g hg)
    |lk aks Sq=>
     rw[hx]at qi hr;simp only[H.els,cc,dT]at qi;obtain⟨rfl,rfl⟩:=qi;simp only[eR]at hr;rcases hr.2 with hr|⟨ey,G,aZ,bA,c9,dn,fZ⟩
     ·rw[hr]at hb;simp at hb;omega
     rw[di]at aZ;cases aZ;obtain⟨GR,b5,b8⟩:=key dn;exact .inr ⟨b,_,GR,rfl,c9,by rw[hs];exact b8,λg hg=>fZ g (b5 g hg)⟩
   cases he
  cases he
 ·simp only[cc,dT]at he;obtain⟨rfl,rfl⟩:=he;obtain⟨ad,c,ak,ar,a4,bP⟩:=I0 dY;refine⟨ad,c,ak,ar,a4,?_⟩;rcases bP with bP|⟨b,f,G,bP,di,lO,qf,JA⟩
  ·exact .inl bP
  exact .inr ⟨b,f,G,bP,di,qf,JA⟩
 ·simp only[cc,dT]at he;obtain⟨rfl,rfl⟩:=he;simp only[VRel]at dY;exact⟨none,0,dY,by simp,by decide,.inl rfl⟩
 cases he
theorem Sr{h:Array Obj}{b:Nat}:∀(cs:List (List D)) (s:List UInt8) (f:Nat) (G:List Nat),bytesL cs=some s->repE h false b f 1 cs G->
  s.length=cs.length/\∀(j:Nat) (c:UInt8),s[j]?=some c->∃n:Int,cellAt h b (f+j)=some (.int .u8 n)/\ass n.toNat=c
 |[],s,f,G,e,_=>by simp only[bytesL,cc]at e;subst e;simp
 |c::cs,s,f,G,e,r=>by
  simp only[bytesL]at e;split at e
  ·rename_i ey dR ak ar;cases e
   simp only[repE]at r;obtain⟨cE,cw,rfl,k1,k2,dd⟩:=r;obtain⟨akt,aku⟩:=Sr cs dR (f+1) cw ar dd;refine⟨by simp[akt],λj x aI=>?_⟩
   cases j with
   |zero=>
    simp at aI;subst aI;unfold byte1 at ak;split at ak
    ·rename_i m;cases ak
     simp only[repC]at k2;obtain⟨v,xJ,xK,_,c1,cW,_⟩:=k2;simp only[rep]at cW;exact⟨m,by rw[ao_,c1,cW.1],rfl⟩
    cases ak
   |succ j=>
    have:=aku j x (by simpa using aI);rw[show f+(j+1)=f+1+j from by omega];exact this
  cases e
theorem Z6:∀(h_:List Int) (s:ByteArray),h_.foldl (λr n=>r.push (ass n.toNat)) s=⟨(s.data.toList++h_.map λn=>ass n.toNat).toArray⟩
 |[],s=>by simp
 |m::h_,s=>by
  rw[An,Z6 h_];simp[ByteArray.push]
def cvE(P:Program)(hs:List H)(oZ dst:TypeId)(x:V):Option (Prop×V):=
 match x with
 |.d (.int _ n)=>
  match intI P oZ,intI P dst with
  |some _,some k=>some (True,rQ k (k.wrap n))
  |_,_=>none
 |.d (.str s)=>if isStrI P oZ&&isStrI P dst then some (True,Jj s)else none
 |x=>
  match elI P oZ,elsOf hs x with
  |some (e,1,_),some (1,xs)=>if intI P e=some .u8&&isStrI P dst then some ((bytesL xs).isSome=true,Jj ((bytesL xs).getD []))else none
  |some (e,1,_),some (_,[])=>if intI P e=some .u8&&isStrI P dst then some (True,Jj [])else none
  |_,_=>none
theorem Z7{w:World}{oZ dst e:TypeId}{s hU:Nat}(he:elI P oZ=some (e,s,hU))(hk:(intI P e=some .u8&&isStrI P dst)){ad:Option Addr}{c:Nat}{xs:List (List D)}{t:List UInt8}(ht:bytesL xs=some t)
  (h:xs=[]\/∃b f G,ad=some ⟨b,f,none⟩/\repE w.heap false b f 1 xs G):(convert oZ dst (.slice ad xs.length c)).run P w=.ok (.string ⟨t.toArray⟩) w:=by
 simp only[bm,bH]at hk;obtain⟨k3,hu,_⟩:=yI he;rw[run_convert_bytes_string w oZ dst e _ _ _ hu (Sk hk.1) (GQ hk.2)];have nil:∀(ad:Option Addr) (c:Nat),(Conv.bytesToString (.slice ad 0 c)).run P w=.ok (.string ⟨#[]⟩) w:=by
  intro ad c
  cases ad with
  |none=>rfl
  |some ad=>exact run_bytesToString w ad 0 c [] (by simp[loadCells,loadCellsFrom])
 rcases h with rfl|⟨b,f,G,rfl,h⟩
 ·simp only[bytesL,cc]at ht;subst ht;exact nil ad c
 obtain⟨h1,h2⟩:=Sr _ _ _ _ ht h;have n':∃h_:List Int,h_.length=xs.length/\(∀(j:Nat) (n:Int),h_[j]?=some n->cellAt w.heap b (f+j)=some (.int .u8 n))/\h_.map (λn=>ass n.toNat)=t:=by
  clear ht h;have:∀(t:List UInt8) (f:Nat),(∀(j:Nat) (c:UInt8),t[j]?=some c->∃n:Int,cellAt w.heap b (f+j)=some (.int .u8 n)/\ass n.toNat=c)->
    ∃h_:List Int,h_.length=t.length/\(∀(j:Nat) (n:Int),h_[j]?=some n->cellAt w.heap b (f+j)=some (.int .u8 n))/\h_.map (λn=>ass n.toNat)=t:=by
   intro t
   induction t with
   |nil=>exact λf _=>⟨[],rfl,by simp,rfl⟩
   |cons c t c_=>
    intro f h;obtain⟨m,sX,xI⟩:=h 0 c rfl;obtain⟨h_,iM,lP,rm⟩:=c_ (f+1) (λj c aI=>by have:=h (j+1) c (by simpa using aI);rw[show f+1+j=f+(j+1)from by omega];exact this);refine⟨m::h_,by simp[iM],λj n aI=>?_,by simp[xI,rm]⟩
    cases j with
    |zero=>simp at aI;subst aI;exact sX
    |succ j=>rw[show f+(j+1)=f+1+j from by omega];exact lP j n (by simpa using aI)
  obtain⟨h_,iM,lP,rm⟩:=this t f h2;exact⟨h_,by rw[iM,h1],lP,rm⟩
 obtain⟨h_,iM,lP,rm⟩:=n';have hl:=run_loadCells_list (P:=P) w ⟨b,f,none⟩ (h_.map (Value.int .u8)) (λj v aI=>by
  rw[add_lit,cell_eq];rw[ats]at aI
  cases hn:h_[j]? with
  |none=>rw[hn]at aI;cases aI
  |some m=>rw[hn]at aI;cases aI;exact lP j m hn)
 rw[I,iM]at hl;rw[run_bytesToString w _ _ c h_ hl,Z6,rm];rfl
theorem ajn{oZ dst:TypeId}{x:Operand}(aG:o.op=.convert oZ dst x)(h:evg g (σ.ev x) λa=>withR (cvE P σ.heap oZ dst a) λv=>K (dr v)):∃r,iY P o g σ n r/\K r:=by
 obtain⟨m6,h1,hx⟩:=hX h;obtain⟨p,v,ah,hp,cg⟩:=CR h1;clear h h1;refine⟨_,o6 λσ' bu B w0 a0 φ kp a w r hg=>?_,cg⟩;have dY:=hx _ _ _ _ hg (g' bu r x);have n':∀{u:Value},(convert oZ dst (a.eval x)).run P w=.ok u w->(execOp a.eval o).run P w=.ok (.value u) w:=by
  intro u hu;unfold execOp;rw[aG];simp[hu]
 unfold cvE at ah;split at ah
 ·rename_i k m;split at ah
  ·rename_i k1 k2 h1 h2;simp only[cc,dT]at ah;obtain⟨_,rfl⟩:=ah;refine⟨_,n' (u:=.int k2 (k2.wrap m)) ?_,qh (z2 _ _)⟩;rw[(o5 dY).1];simp[convert,run_underlying (Sk h1),run_underlying (Sk h2),Conv.intToInt]
  cases ah
 ·split at ah
  ·rename_i s hs;simp only[cc,dT]at ah;obtain⟨_,rfl⟩:=ah;simp only[bm]at hs;have ak:=CS dY;refine⟨_,n' (u:=.string ⟨s.toArray⟩) ?_,JC ak.2⟩;rw[ak.1];simp[convert,run_underlying (GQ hs.1),run_underlying (GQ hs.2)]
  cases ah
 split at ah
 ·rename_i e hU xs he hel;split at ah
  ·rename_i hk;simp only[cc,dT]at ah;obtain⟨rfl,rfl⟩:=ah;obtain⟨t,ht⟩:=asf.1 hp;obtain⟨ad,c,ak,ar,a4,bP⟩:=Mz bu r hel dY;have akv:xs=[]\/∃b f G,ad=some ⟨b,f,none⟩/\repE w.heap false b f 1 xs G:=by
    rcases bP with bP|⟨b,f,G,bP,_,di,_⟩
    ·exact .inl bP
    exact .inr ⟨b,f,G,bP,di⟩
   have gW:=Z7 (w:=w) (dst:=dst) he hk ht (ad:=ad) (c:=c) akv;refine⟨_,n' (u:=.string ⟨t.toArray⟩) (by rw[ak];exact gW),?_⟩;have fU:t.length=xs.length:=by
    rcases bP with rfl|⟨b,f,G,bP,_,di,_⟩
    ·simp only[bytesL,cc]at ht;subst ht;rfl
    exact(Sr _ _ _ _ ht di).1
   rw[ht];exact JC (by simp;omega)
  ·cases ah
 ·rename_i e hU s _ he hel;split at ah
  ·rename_i hk;simp only[cc,dT]at ah;obtain⟨_,rfl⟩:=ah;obtain⟨ad,c,ak,ar,a4,bP⟩:=Mz bu r hel dY;have gW:=Z7 (w:=w) (dst:=dst) he hk (xs:=[]) (t:=[]) rfl (ad:=ad) (c:=c) (.inl rfl);exact⟨_,n' (by rw[ak];exact gW),JC ζ⟩
  cases ah
 cases ah
def g5{α:Type}(l:List α)(off:Nat)(vs:List α):List α:=l.take off++(vs++l.drop (off+vs.length))
theorem Ei{α:Type}{l:List α}{off:Nat}{vs:List α}(h:off+vs.length<=l.length):(g5 l off vs).length=l.length:=by
 simp[g5];omega
theorem Ss{φ:c5}{T:Nat->Prop}{h:Array Obj}{cs vs:List V}{us jW:List Value}(r:VRels φ T h cs us)(dR:VRels φ T h vs jW)(off:Nat):VRels φ T h (g5 cs off vs) (g5 us off jW):=by
 unfold g5;rw[mG _ _ dR];exact GG (ZI r off) (GG dR (ZJ r _))
theorem Z8:∀(vs:List Value) (k off:Nat) (cells:Array Value),off+k+vs.length<=cells.size->
  (vs.zipIdx k).foldl (λcs (c,j)=>cs.setIfInBounds (off+j) c) cells=(g5 cells.toList (off+k) vs).toArray
 |[],k,off,cells,_=>by simp[g5]
 |v::vs,k,off,cells,h=>by
  simp only[e0]at h;rw[List.zipIdx_cons,An,Z8 vs (k+1) off _ (by simp;omega)];have hi:off+k<cells.toList.length:=by simp;omega
  have e:=list_seg_step cells.toList (off+k) v vs (by simp;omega)
  congr 1
  unfold g5;simpa [Array.toList_setIfInBounds,arH]using e
def vfill(xG:Nat->Option (Nat×Nat)):List V->List (Nat×V)->Option (List V)
 |cells,[]=>some cells
 |cells,(i,v)::r=>
  match xG i with
  |some (off,sz)=>if v.cells.length=sz/\off+sz<=cells.length/\v.zV=true then vfill xG (g5 cells off v.cells) r else none
  |none=>none
def partsRel(φ:c5)(T:Nat->Prop)(h:Array Obj):List (Nat×V)->List (Nat×Value)->Prop
 |[],us=>us=[]
 |(i,v)::r,us=>∃u c6,us=(i,u)::c6/\VRel φ T h v u/\partsRel φ T h r c6
theorem M4{φ:c5}{T:Nat->Prop}{h:Array Obj}(xG:Nat->Option (Nat×Nat)):∀(hI:List (Nat×V)) (cells cells':List V) (us:List Value) (ps:List (Nat×Value)),vfill xG cells hI=some cells'->VRels φ T h cells us->partsRel φ T h hI ps->
  ∃c6:List Value,Instr.fill xG us.toArray ps=some c6.toArray/\VRels φ T h cells' c6
 |[],cells,cells',us,ps,e,r,gF=>by
  simp only[vfill,cc]at e;subst e;simp only[partsRel]at gF;subst gF;exact⟨us,rfl,r⟩
 |(i,v)::hI,cells,cells',us,ps,e,r,gF=>by
  simp only[partsRel]at gF;obtain⟨u,akw,rfl,dr,gF⟩:=gF;simp only[vfill]at e;split at e
  ·rename_i off sz gz;split at e
   ·rename_i hb;have hc:=(Js hb.2.2 dr).1;have hl:=mG _ _ hc;have sK:=mG _ _ r;obtain⟨c6,k1,k2⟩:=M4 xG hI _ cells' _ akw e (Ss r hc off) gF;refine⟨c6,?_,k2⟩;rw[<-k1];have dM:u.cells.size=sz:=by rw[<-an_,hl];exact hb.1
    have Su:¬(u.cells.size≠sz\/off+u.cells.size>us.toArray.size):=by
     have:=hb.2.1;simp only[arQ,dM];omega
    have akx:(decide (u.cells.size≠sz)||decide (off+u.cells.size>us.toArray.size))=false:=by
     rw[Bool.eq_false_iff];intro hh;exact Su (by simpa using hh)
    simp only[Instr.fill,gz,akx,Bool.false_eq_true,if_false]
    congr 1
    have:=Z8 u.cells.toList 0 off us.toArray (by
     have:=hb.2.1;simp only[ao_,an_,arQ,dM];omega)
    simp only[ao_]at this;rw[<-this,<-Array.foldl_toList,Array.toList_zipIdx]
   cases e
  cases e
def plI(P:Program)(T:TypeId):Option (Nat->Option (Nat×Nat)):=
 match P.underlying T with
 |some (.array _ e)=>(P.info? e).map λi=>λj=>some (j * i.size,i.size)
 |some (.struct fs)=>(fs.toList.mapM λf=>(P.info? f.type).map λi=>(f.offset,i.size)).map λl=>λj=>l[j]?
 |_=>none
def Nf(P:Program):Nat->TypeId->List Nat
 |0,_=>[]
 |f+1,T=>
  match P.underlying T with
  |some (.array n e)=>(ea n (Nf P f e)).flatten
  |some (.struct fs)=>(fs.toList.map λx=>Nf P f x.type).flatten
  |some (.slice e)=>[P.cellsOf e]
  |_=>[0]
def Z9:V->Nat->V
 |.eg _,s=>.eg s
 |v,_=>v
def zrI(P:Program)(T:TypeId):Option (List V):=
 match P.info? T with
 |some i=>
  match i.zero with
  |some z=>
   let l:=List.zipWith Z9 (z.cells.toList.map ofVal) (Nf P 8 T)
   if l.length=z.cells.toList.length then some l else none
  |none=>none
 |none=>none
theorem Ek{T:TypeId}{vs:List V}(h:zrI P T=some vs):∃i z,P.info? T=some i/\i.zero=some z/\∀(φ:c5) (hQ:Nat->Prop) (hp:Array Obj),VRels φ hQ hp vs z.cells.toList:=by
 unfold zrI at h;split at h
 ·rename_i i hi;split at h
  ·rename_i z hz;simp only at h;split at h
   ·rename_i hl;cases h
    refine⟨i,z,hi,hz,λφ hQ hp=>CE _ _ hl.symm λt v u ak ar=>?_⟩;rw[List.getElem?_zipWith]at ak;rw[ats,ar]at ak;simp only[asj]at ak
    cases hs:(Nf P 8 T)[t]? with
    |none=>rw[hs]at ak;cases ak
    |some s=>
     rw[hs]at ak;cases ak
     have:=ZT (φ:=φ) (T:=hQ) (h:=hp) u;cases hv:ofVal u<;>rw[hv]at this<;>first|exact this|(simp only[Z9,VRel]at this⊢;exact this)
   cases h
  cases h
 cases h
def evParts(g:Bool)(σ:St):List (Nat×Operand)->(List (Nat×V)->Prop)->Prop
 |[],K=>K []
 |(i,x)::r,K=>evg g (σ.ev x) λv=>evParts g σ r λvs=>K ((i,v)::vs)
theorem R9:∀(ps:List (Nat×Operand)) (K:List (Nat×V)->Prop),evParts g σ ps K->∃vs,K vs/\∀{σ':St} {B:Nat->Prop} {w0:World} {a0:Nat->Prop} {φ:c5} {kp:List (V×Value)} {a:Act} {w:World},σ.le σ'->R B w0 a0 φ σ' kp a w->g->
  partsRel φ (dq φ σ'.heap) w.heap vs (ps.map λ(i,x)=>(i,a.eval x))
 |[],K,h=>⟨[],h,λ_ _ _=>by simp[partsRel]⟩
 |(i,x)::ps,K,h=>by
  simp only[evParts]at h;obtain⟨v,h1,hx⟩:=hX h;obtain⟨vs,cg,hr⟩:=R9 ps _ h1;refine⟨(i,v)::vs,cg,λbu r hg=>?_⟩;simp only[fe,partsRel];exact⟨_,_,rfl,hx _ _ _ _ hg (g' bu r x),hr bu r hg⟩
def bldE(P:Program)(T:TypeId)(hI:List (Nat×V)):Option V:=
 match plI P T,zrI P T with
 |some xG,some z=>(vfill xG z hI).map V.agg
 |_,_=>none
theorem ajo{T:TypeId}{hI:Array (Nat×Operand)}(aG:o.op=.build T hI)(h:evParts g σ hI.toList λps=>withO (bldE P T ps) λv=>K (dr v)):∃r,iY P o g σ n r/\K r:=by
 obtain⟨ps,h1,hx⟩:=R9 _ _ h;obtain⟨v,ah,cg⟩:=Na h1;clear h h1;refine⟨_,o6 λσ' bu B w0 a0 φ kp a w r hg=>?_,cg⟩;unfold bldE at ah;split at ah
 ·rename_i xG z gz hz
  cases hf:vfill xG z ps with
  |none=>rw[hf]at ah;cases ah
  |some cells=>
   rw[hf]at ah;cases ah;obtain⟨i,ayC,hi,M1,sU⟩:=Ek hz;obtain⟨us,k1,k2⟩:=M4 (φ:=φ) (T:=dq φ σ'.heap) (h:=w.heap) xG ps z cells _ _ hf (sU _ _ _) (hx bu r hg);have hb:P.built T (hI.map λ(i,x)=>(i,a.eval x)).toList=some us.toArray:=by
    unfold Program.built;unfold plI at gz;simp only[asH]at k1;split at gz
    ·rename_i Ng e hu
     cases GN:P.info? e with
     |none=>rw[GN]at gz;cases gz
     |some yT=>
      rw[GN]at gz;cases gz;simp only[hi,hu,M1,GN,atx];exact k1
    ·rename_i fs hu;cases hp:fs.toList.mapM (λf=>(P.info? f.type).map λi=>(f.offset,i.size))with
     |none=>rw[hp]at gz;cases gz
     |some ayD=>
      rw[hp]at gz;cases gz;simp only[hi,hu,M1,hp,atx];simpa using k1
    cases gz
   refine⟨.agg us.toArray,?_,by simp only[VRel];exact⟨us.toArray,rfl,by simpa using k2⟩⟩;unfold execOp;rw[aG];have:=run_build (P:=P) w T (hI.map λ(i,x)=>(i,a.eval x)) us.toArray hb;simp[this]
 cases ah
variable {P:Program} {o:Oper} {g:Bool} {σ:St} {n:Nat} {K:fL->Prop}
def el(φ:c5)(n:Nat)(β:h5):c5:=λi=>if i=n then some β else φ i
section
variable {B:Nat->Prop} {w0:World} {a0:Nat->Prop} {φ:c5} {kp:List (V×Value)} {a:Act} {w:World}
theorem ZD(oA sz:Nat)(r:R B w0 a0 φ σ kp a w){n:Nat}(hd:a6 σ.heap n=.ek)(hn:¬a0 n){cells:List V}{cs:Array Value}{e:TypeId}(hc:VRels φ (dq φ σ.heap) w.heap cells cs.toList){w':World}
  (hh:w'.heap=w.heap.push (.cells cs e)) (hb:Bel B w0 w') :
  R B w0 (λi=>a0 i\/(n<=i/\i<n+1)) (el φ n ⟨some w.heap.size,0,oA,sz,[]⟩) ⟨σ.tmps,cF σ.heap n (.box cells)⟩ kp a w':=by
 have R2:φ n=none:=by
  cases h:φ n with
  |none=>rfl
  |some β=>exact absurd (r.iS n β h) hn
 have hnew:w'.heap[w.heap.size]?=some (.cells cs e (0,0)):=by rw[hh];simp
 have bu:p6 φ (el φ n ⟨some w.heap.size,0,oA,sz,[]⟩):=λi β hi=>by
  have:i≠n:=λe=>by subst e;rw[R2]at hi;cases hi
  exact⟨β,by simp[el,this,hi],rfl,rfl,rfl,rfl⟩
 have hold:∀b,b<w.heap.size->w'.heap[b]?=w.heap[b]?:=λb hb=>by rw[hh,atv];simp[auE hb]
 have cR:∀b,b<w.heap.size->dq φ σ.heap b->dq (el φ n ⟨some w.heap.size,0,oA,sz,[]⟩) (cF σ.heap n (.box cells)) b:=by
  intro b hb ht i β hi he;rw[jh]at he;by_cases h:i=n
  ·subst h;simp only[el,if_true,cc]at hi;subst hi;rcases he with ⟨_,he⟩|⟨_,he⟩
   ·simp only[cc]at he;omega
   cases he
  simp only[h,if_false]at he;exact ht i β (by simpa [el,h]using hi) he
 refine A6 r (λi=>i=n) _ _ _ w' (λi hi=>⟨by rw[jh];simp[hi],by simp[el,hi]⟩) bu (by rw[hh];simp) (λb hb _=>hold b hb) ?_ ?_ (λi j b hi aI _ _=>hi.trans aI.symm) ?_ ?_ ?_ hb
 ·rintro i rfl b ⟨β,h1,h2⟩;simp only[el,if_true,cc]at h1;subst h1;rcases h2 with ⟨_,h2⟩|⟨_,h2⟩
  ·simp only[cc]at h2;exact .inl ω
  cases h2
 ·rintro i rfl β h1 b h2;simp only[el,if_true,cc]at h1;subst h1;rcases h2 with ⟨_,h2⟩|⟨_,h2⟩
  ·simp only[cc]at h2;exact .inl ω
  cases h2
 ·rintro i β rfl _ hx;rw[jh,if_pos rfl]at hx;cases hx
 ·rintro i rfl;refine .inr ⟨⟨some w.heap.size,0,oA,sz,[]⟩,by simp[el],?_⟩;rw[jh,if_pos rfl];exact⟨_,cs,e,rfl,rfl,hnew,xo ⟨bu,cR,λb hb _=>hold b hb,by rw[hh];simp⟩ _ _ hc⟩
 intro i β hi;by_cases h:i=n
 ·exact .inr ⟨by omega,by omega⟩
 exact .inl (r.iS i β (by simpa [el,h]using hi))
theorem ajN(r:R B w0 a0 φ σ kp a w){n:Nat}(hd:a6 σ.heap n=.ek)(hn:¬a0 n){cells:List V}{cs:Array Value}{e:TypeId}(hc:VRels φ (dq φ σ.heap) w.heap cells cs.toList){w':World}
  (hh:w'.heap=w.heap.push (.cells cs e)) (hb:Bel B w0 w') :
  R B w0 (λi=>a0 i\/(n<=i/\i<n+1)) (el φ n ⟨some w.heap.size,0,0,0,[]⟩) ⟨σ.tmps,cF σ.heap n (.box cells)⟩ kp a w':=ZD 0 0 r hd hn hc hh hb
def toD(hs:List H)(v:V):Option (D×List Nat):=
 match v with
 |.d x=>if x.flat then some (x,[])else none
 |.eg s=>some (.sl s [],[])
 |.sl id off len=>match a6 hs id with|.ay sz xs true=>if off+len<=xs.length then some (.sl sz ((xs.drop off).take len),[id])else none|_=>none
 |_=>none
def toDs(hs:List H):List V->Option (List D×List Nat)
 |[]=>some ([],[])
 |v::vs=>match toD hs v,toDs hs vs with|some (d,i),some (ds,gG)=>some (d::ds,i++gG)|_,_=>none
def H.mine:H->Option (Nat×List (List D))
 |.ay sz xs true=>some (sz,xs)
 |.aj sz xs=>some (sz,xs)
 |_=>none
theorem H.ajO{x:H}{p:Nat×List (List D)}(h:x.mine=some p):x.own/\x.qe:=by
 cases x<;>first|exact⟨rfl,rfl⟩|(rename_i ma;cases ma<;>first|exact⟨rfl,rfl⟩|cases h)|cases h
theorem RG{φ:c5}{T:Nat->Prop}{h:Array Obj}{β:h5}{x:H}{sz:Nat}{xs:List (List D)}(he:x.mine=some (sz,xs))(r:eR φ T h β x):β.sz=sz/\((β.fz=none/\xs=[]/\β.cap=0/\β.eb=[])\/
  ∃b,β.fz=some b/\xs.length<=β.cap/\ph h b (β.off+β.cap * sz)/\repE h true b β.off sz xs β.eb):=by
 cases x with
 |ay jm oB ma=>
  cases ma
  ·cases he
  simp only[H.mine,cc,dT]at he;obtain⟨rfl,rfl⟩:=he;simp only[eR]at r;obtain⟨r0,r⟩:=r;refine⟨r0,r.imp id ?_⟩;rintro⟨b,G,aZ,bA,c9,dn,fZ,ji⟩;exact⟨b,aZ,bA,c9,(fZ trivial)▸dn⟩
 |aj jm oB=>
  simp only[H.mine,cc,dT]at he;obtain⟨rfl,rfl⟩:=he;simpa only[eR]using r
 |_=>cases he
theorem RD(r:R B w0 a0 φ σ kp a w){id off len:Nat}{sz:Nat}{xs:List (List D)}(hx:(a6 σ.heap id).mine=some (sz,xs))(hl:off+len<=xs.length){u:Value}(gV:VRel φ (dq φ σ.heap) w.heap (.sl id off len) u) :
  ∃F,rep w.heap true (.sl sz ((xs.drop off).take len)) u F/\F.Nodup/\∀b∈F,d_ φ σ.heap id b:=by
 obtain⟨β,ad,c,ak,ar,a4,bP,di⟩:=xD gV;rcases r.hp id with hd|⟨bF,iq,hr⟩
 ·rw[hd]at hx;cases hx
 rw[ak]at iq;cases iq;obtain⟨hs,hr⟩:=RG hx hr;obtain⟨kZ,Gn⟩:=H.ajO hx;have fU:((xs.drop off).take len).length=len:=by simp;omega
 simp only[rep];by_cases hne:len=0
 ·have h0:(xs.drop off).take len=[]:=arL ω;rcases di with di|⟨b,di,lO,qf⟩
  ·exact⟨[],⟨ad,c,by rw[fU];exact ar,by omega,bP,.inl ⟨h0,rfl,λ_=>di.1⟩⟩,asd,by simp⟩
  rcases hr with hr|⟨ey,aZ,bA,c9,dn⟩
  ·rw[di]at hr;cases hr.1
  rw[di]at aZ;cases aZ;rcases azZ c with GL|GL
  ·exact⟨[],⟨ad,c,by rw[fU];exact ar,by omega,bP,.inl ⟨h0,rfl,λ_=>GL⟩⟩,asd,by simp⟩
  refine⟨[b],⟨ad,c,by rw[fU];exact ar,by omega,bP,.inr ⟨b,_,[],lO,rfl,c9.lt,by rw[h0];simp[repE],λ_=>⟨GL,?_⟩⟩⟩,by simp,?_⟩
  ·obtain⟨cs,t,c1,cW⟩:=c9;refine⟨cs,t,c1,arP ?_ cW⟩;rw[hs,arH,<-arT];exact azV (ase _ (asN qf)) _
  intro x g6;simp only[jn]at g6;subst g6;exact⟨β,ak,.inl ⟨Gn,di⟩⟩
 rcases di with di|⟨b,di,lO,qf⟩
 ·omega
 rcases hr with hr|⟨ey,aZ,bA,c9,dn⟩
 ·rw[hr.2.1]at hl;simp at hl;omega
 rw[di]at aZ;cases aZ;generalize bY:β.eb=G at dn;have Gq:xs=xs.take off++((xs.drop off).take len++(xs.drop off).drop len):=by rw[ad_,ad_]
 have oz:(xs.take off).length=off:=by simp;omega
 rw[Gq]at dn;obtain⟨cE,cw,rfl,k1,k2⟩:=(repE_append _ _ _ _).1 dn;obtain⟨Ca,QF,rfl,dd,il⟩:=(repE_append _ _ _ _).1 k2;rw[oz]at dd;have j8:=r.eI id β ak kZ;rw[bY]at j8;refine⟨b::Ca,⟨ad,c,by rw[fU];exact ar,by omega,bP,.inr ⟨b,_,Ca,lO,rfl,c9.lt,by rw[hs];exact dd,λ_=>⟨by omega,?_⟩⟩⟩,?_,?_⟩
 ·obtain⟨cs,t,c1,cW⟩:=c9;refine⟨cs,t,c1,arP ?_ cW⟩;rw[hs,arH,<-arT];exact azV (ase _ (asN qf)) _
 ·refine List.nodup_cons.2 ⟨λhb=>j8.2 b di (by simp[hb]),?_⟩;have:=j8.1;rw[al_]at this;have:=this.2.1;rw[al_]at this;exact this.1
 intro x g6;rcases rD.1 g6 with rfl|g6
 ·exact⟨β,ak,.inl ⟨Gn,di⟩⟩
 exact⟨β,ak,.inr ⟨kZ,by rw[bY];simp[g6]⟩⟩
theorem YQ(r:R B w0 a0 φ σ kp a w){id off len:Nat}{sz:Nat}{xs:List (List D)}(hx:a6 σ.heap id=.ay sz xs true)(hl:off+len<=xs.length){u:Value}(gV:VRel φ (dq φ σ.heap) w.heap (.sl id off len) u) :
  ∃F,rep w.heap true (.sl sz ((xs.drop off).take len)) u F/\F.Nodup/\∀b∈F,d_ φ σ.heap id b:=RD r (by rw[hx];rfl) hl gV
theorem RL(r:R B w0 a0 φ σ kp a w){v:V}{d:D}{cH:List Nat}(h:toD σ.heap v=some (d,cH)){u:Value}(gV:VRel φ (dq φ σ.heap) w.heap v u) :
  ∃F,rep w.heap true d u F/\F.Nodup/\(∀b∈F,∃id∈cH,d_ φ σ.heap id b)/\∀id∈cH,∃sz xs,a6 σ.heap id=.ay sz xs true:=by
 unfold toD at h;split at h
 ·split at h
  ·rename_i x hf;simp only[cc,dT]at h;obtain⟨rfl,rfl⟩:=h;simp only[VRel]at gV;obtain⟨F,aZ,_⟩:=gV;have:=I8 hf aZ;subst this;exact⟨[],MM hf aZ,asd,by simp,by simp⟩
  cases h
 ·simp only[cc,dT]at h;obtain⟨rfl,rfl⟩:=h;simp only[VRel]at gV;subst gV;exact⟨[],⟨none,0,rfl,by simp,by decide,.inl ⟨rfl,rfl,λ_=>rfl⟩⟩,asd,by simp,by simp⟩
 ·rename_i id off len;split at h
  ·rename_i sz xs hx;split at h
   ·rename_i hl;simp only[cc,dT]at h;obtain⟨rfl,rfl⟩:=h;obtain⟨F,k1,k2,dd⟩:=YQ r hx hl gV;exact⟨F,k1,k2,λb hb=>⟨id,by simp,dd b hb⟩,by simp[hx]⟩
   cases h
  cases h
 cases h
theorem zY:∀(upd:List (Nat×H)) (hs:List H) (i:Nat),(∃x,(i,x)∈upd/\a6 (hupd hs upd) i=x)\/((∀x,(i,x)∉upd)/\a6 (hupd hs upd) i=a6 hs i)
 |[],hs,i=>.inr ⟨by simp,rfl⟩
 |(j,y)::r,hs,i=>by
  rw[hupd];rcases zY r (cF hs j y) i with ⟨x,h1,h2⟩|⟨h1,h2⟩
  ·exact .inl ⟨x,by simp[h1],h2⟩
  rw[jh]at h2;by_cases h:i=j
  ·subst h;rw[if_pos rfl]at h2;exact .inl ⟨y,by simp,h2⟩
  rw[if_neg h]at h2;exact .inr ⟨λx hx=>by
   rcases rD.1 hx with hx|hx
   ·cases hx;exact h rfl
   exact h1 x hx,h2⟩
theorem ME(r:R B w0 a0 φ σ kp a w){n:Nat}(hd:a6 σ.heap n=.ek)(hn:¬a0 n){upd:List (Nat×H)}(hnd:(upd.map (·.1)).Nodup)
  (hu:∀p∈upd,∃sz xs,a6 σ.heap p.1=.ay sz xs true/\(p.2=.ek\/p.2=.lk sz xs)) {β:h5} {sz:Nat} {xs:List (List D)} (dM:β.sz=sz) {w':World} (hs:w.heap.size<=w'.heap.size) (hb:Bel B w0 w')
  (D3:∀b,b<w.heap.size->(∀p∈upd,p.2=.ek->∀bF,φ p.1=some bF->bF.fz≠some b)->w'.heap[b]?=w.heap[b]?)
  (Bd:(β.fz=none/\xs=[]/\β.cap=0/\β.eb=[])\/∃b,β.fz=some b/\xs.length<=β.cap/\ph w'.heap b (β.off+β.cap * sz)/\repE w'.heap true b β.off sz xs β.eb)
  (GM:∀b,β.fz=some b->w.heap.size<=b\/∃p∈upd,p.2=.ek/\∃bF,φ p.1=some bF/\bF.fz=some b)
  (CC:∀b∈β.eb,w.heap.size<=b\/∃p∈upd,d_ φ σ.heap p.1 b) (R3:β.eb.Nodup) (R4:∀b,β.fz=some b->b∉β.eb) :
  R B w0 (λi=>a0 i\/(n<=i/\i<n+1)) (el φ n β) ⟨σ.tmps,hupd (cF σ.heap n (.ay sz xs true)) upd⟩ kp a w':=by
 have R2:φ n=none:=by
  cases h:φ n with
  |none=>rfl
  |some β=>exact absurd (r.iS n β h) hn
 have Jl:∀x,(n,x)∉upd:=λx hx=>by
  obtain⟨s,ys,h1,_⟩:=hu _ hx;rw[hd]at h1;cases h1
 have bu:p6 φ (el φ n β):=λi bF hi=>by
  have:i≠n:=λe=>by subst e;rw[R2]at hi;cases hi
  exact⟨bF,by simp[el,this,hi],rfl,rfl,rfl,rfl⟩
 have me:a6 (hupd (cF σ.heap n (.ay sz xs true)) upd) n=.ay sz xs true:=by
  rcases zY upd (cF σ.heap n (.ay sz xs true)) n with ⟨x,h1,_⟩|⟨_,h2⟩
  ·exact absurd h1 (Jl x)
  rw[h2,jh,if_pos rfl]
 have hin:∀i x,(i,x)∈upd->a6 (hupd (cF σ.heap n (.ay sz xs true)) upd) i=x:=by
  intro i x hx;rcases zY upd (cF σ.heap n (.ay sz xs true)) i with ⟨y,h1,h2⟩|⟨h1,_⟩
  ·have:y=x:=by
    have hp:aAv (λp q=>p.1≠q.1) upd:=by simpa [aAL,auK]using hnd
    by_cases pE:y=x
    ·exact pE
    exfalso;have:=atI (R:=λp q:Nat×H=>p=q\/p.1≠q.1) (l:=upd) (λp _=>.inl rfl) (hp.imp λh=>.inr h) (hp.imp λh=>.inr (Ne.symm h)) h1 hx;rcases this with this|this
    ·cases this;exact pE rfl
    exact this rfl
   rw[h2,this]
  ·exact absurd hx (h1 x)
 have pH:∀i,i≠n->(∀x,(i,x)∉upd)->a6 (hupd (cF σ.heap n (.ay sz xs true)) upd) i=a6 σ.heap i:=by
  intro i hi hx;rcases zY upd (cF σ.heap n (.ay sz xs true)) i with ⟨y,h1,h2⟩|⟨_,h2⟩
  ·exact absurd h1 (hx y)
  rw[h2,jh,if_neg hi]
 have yR:∀i,i≠n->el φ n β i=φ i:=λi hi=>by simp[el,hi]
 have Be:∀i x,(i,x)∈upd->x.qe=false/\x.own=false:=by
  intro i x hx;obtain⟨s,ys,_,h2⟩:=hu _ hx;rcases h2 with h2|h2<;>simp only at h2<;>subst h2<;>exact⟨rfl,rfl⟩
 have Jm:∀i x,(i,x)∈upd->∀bF b,¬nt x bF b:=by
  intro i x hx bF b ht;rcases ht with ⟨h,_⟩|⟨h,_⟩
  ·rw[(Be i x hx).1]at h;cases h
  have:=H.Ik h;rw[(Be i x hx).2]at this;cases this
 have Bf:∀i,(i=n\/∃x,(i,x)∈upd)->∀b,d_ (el φ n β) (hupd (cF σ.heap n (.ay sz xs true)) upd) i b->i=n/\(β.fz=some b\/b∈β.eb):=by
  rintro i (rfl|⟨x,hx⟩) b ⟨bF,h1,h2⟩
  ·simp only[el,if_true,cc]at h1;subst h1;refine⟨rfl,?_⟩;rcases h2 with ⟨_,h2⟩|⟨_,h2⟩
   ·exact .inl h2
   exact .inr h2
  rw[hin i x hx]at h2;obtain⟨k1,k2⟩:=Be i x hx;rcases h2 with ⟨h2,_⟩|⟨h2,_⟩
  ·rw[k1]at h2;cases h2
  rw[k2]at h2;cases h2
 have Jn:∀p∈upd,∀bF b,φ p.1=some bF->bF.fz=some b->d_ φ σ.heap p.1 b:=by
  intro p hp bF b h1 h2;obtain⟨s,ys,ao,_⟩:=hu p hp;exact⟨bF,h1,.inl ⟨by rw[ao];rfl,h2⟩⟩
 have ajP:∀b,b<w.heap.size->dq φ σ.heap b->dq (el φ n β) (hupd (cF σ.heap n (.ay sz xs true)) upd) b:=by
  intro b iF ht i bF hi he;by_cases h:i=n
  ·subst h;simp only[el,if_true,cc]at hi;subst hi;rw[me]at he;rcases he with ⟨_,he⟩|⟨he,_⟩
   ·rcases GM b he with h1|⟨p,hp,_,bF,h1,h2⟩
    ·omega
    obtain⟨s,ys,ao,_⟩:=hu p hp;exact ht p.1 bF h1 (.inl ⟨by rw[ao];rfl,h2⟩)
   cases he
  rw[yR i h]at hi;by_cases hx:∃x,(i,x)∈upd
  ·obtain⟨x,hx⟩:=hx;rw[hin i x hx]at he;exact Jm i x hx _ _ he
  rw[pH i h (λx g6=>hx ⟨x,g6⟩)]at he;exact ht i bF hi he
 refine A6 r (λi=>i=n\/∃x,(i,x)∈upd) _ _ _ w' (λi hi=>?_) bu hs (λb iF ht=>?_) (λi hi b aG=>?_) (λi hi bF h1 b h2=>?_) (λi j b hi aI h1 h2=>?_) (λi bF hi h1 hx=>?_) (λi hi=>?_) (λi bF hi=>?_) hb
 ·exact⟨pH i (λe=>hi (.inl e)) (λx hx=>hi (.inr ⟨x,hx⟩)),yR i (λe=>hi (.inl e))⟩
 ·refine D3 b iF λp hp _ bF h1 h2=>?_;obtain⟨s,ys,ao,_⟩:=hu p hp;exact ht p.1 (.inr ⟨p.2,hp⟩) bF h1 (.inl ⟨by rw[ao];rfl,h2⟩)
 ·obtain⟨rfl,h1⟩:=Bf i hi b aG;rcases h1 with h1|h1
  ·rcases GM b h1 with h2|⟨p,hp,_,bF,h2,ao⟩
   ·exact .inl h2
   exact .inr ⟨p.1,.inr ⟨p.2,hp⟩,Jn p hp bF b h2 ao⟩
  rcases CC b h1 with h2|⟨p,hp,h2⟩
  ·exact .inl h2
  exact .inr ⟨p.1,.inr ⟨p.2,hp⟩,h2⟩
 ·have aG:d_ (el φ n β) (hupd (cF σ.heap n (.ay sz xs true)) upd) i b:=nt.A' h1 h2;obtain⟨rfl,_⟩:=Bf i hi b aG;simp only[el,if_true,cc]at h1;subst h1;rw[me]at h2;rcases h2 with ⟨_,h2⟩|⟨h2,_⟩
  ·rcases GM b h2 with ao|⟨p,hp,_,bF,ao,aH⟩
   ·exact .inl ao
   obtain⟨s,ys,bR,_⟩:=hu p hp;exact .inr ⟨p.1,bF,.inr ⟨p.2,hp⟩,ao,.inl ⟨by rw[bR];rfl,aH⟩⟩
  cases h2
 ·rw[(Bf i hi b h1).1,(Bf j aI b h2).1]
 ·rcases hi with rfl|⟨x,g6⟩
  ·simp only[el,if_true,cc]at h1;subst h1;exact⟨R3,R4⟩
  rw[hin i x g6,(Be i x g6).2]at hx;cases hx
 ·rcases hi with rfl|⟨x,hx⟩
  ·refine .inr ⟨β,by simp[el],?_⟩;rw[me];refine⟨dM,?_⟩;rcases Bd with h1|⟨b,h1,h2,ao,aH⟩
   ·exact .inl h1
   exact .inr ⟨b,β.eb,h1,h2,ao,aH,λ_=>rfl,λh=>by cases h⟩
  rw[hin i x hx];obtain⟨s,ys,h1,h2⟩:=hu _ hx;rcases h2 with h2|h2
  ·exact .inl h2
  simp only at h2 h1;subst h2;have Jo:i≠n:=λe=>by subst e;exact Jl _ hx
  rcases r.hp i with je|⟨bF,ak,hr⟩
  ·rw[h1]at je;cases je
  refine .inr ⟨bF,by rw[yR i Jo];exact ak,?_⟩;rw[h1]at hr;obtain⟨sV,hr⟩:=hr;refine⟨sV,?_⟩;rcases hr with hr|⟨b,G,aZ,bA,c9,dn,fZ,ji⟩
  ·exact .inl hr.2.1
  have bY:=fZ rfl;have sT:d_ φ σ.heap i b:=⟨bF,ak,.inl ⟨by rw[h1];rfl,aZ⟩⟩;have Jp:∀g∈G,d_ φ σ.heap i g:=λg hg=>⟨bF,ak,.inr ⟨by rw[h1];rfl,bY▸hg⟩⟩;have hk:∀c,d_ φ σ.heap i c->w'.heap[c]?=w.heap[c]?:=by
   intro c hc;refine D3 c (d_.lt r hc) λp hp Jq jR dh bO=>?_;have:=r.dQ i p.1 c hc (Jn p hp jR c dh bO);have ao:=hin p.1 p.2 hp;rw[<-this,hin i _ hx,Jq]at ao;cases ao
  have cR:∀c,d_ φ σ.heap i c->dq (el φ n β) (hupd (cF σ.heap n (.ay sz xs true)) upd) c\/∃ey,β.fz=some ey/\ey=c:=by
   intro c hc;by_cases CO:β.fz=some c
   ·exact .inr ⟨c,CO,rfl⟩
   refine .inl λj jR aI he=>?_;by_cases h:j=n
   ·subst h;simp only[el,if_true,cc]at aI;subst aI;rw[me]at he;rcases he with ⟨_,he⟩|⟨he,_⟩
    ·exact CO he
    cases he
   rw[yR j h]at aI;by_cases ie:∃x,(j,x)∈upd
   ·obtain⟨x,ie⟩:=ie;rw[hin j x ie]at he;exact Jm j x ie _ _ he
   rw[pH j h (λx g6=>ie ⟨x,g6⟩)]at he;have:=r.dQ i j c hc (nt.A' aI he);exact ie ⟨_,this▸hx⟩
  have Jr:∀c,d_ φ σ.heap i c->dq (el φ n β) (hupd (cF σ.heap n (.ay sz xs true)) upd) c:=by
   intro c hc;rcases cR c hc with h|⟨ey,dh,rfl⟩
   ·exact h
   exfalso;rcases GM ey dh with ao|⟨p,hp,Jq,jR,bO,cz⟩
   ·have:=d_.lt r hc;omega
   have:=r.dQ i p.1 ey hc (Jn p hp jR ey bO cz);have ao:=hin p.1 p.2 hp;rw[<-this,hin i _ hx,Jq]at ao;cases ao
  exact .inr ⟨b,G,aZ,Jr b sT,asD c9.lt hs,Bb hs ys b bF.off s G (hk b sT) (λg hg=>hk g (Jp g hg)) (Ji _ _ _ _ _ dn),λg hg=>Jr g (Jp g hg)⟩
 by_cases h:i=n
 ·exact .inr ⟨by omega,by omega⟩
 exact .inl (r.iS i bF (by rw[<-yR i h];exact hi))
theorem ZE(r:R B w0 a0 φ σ kp a w){n:Nat}{upd:List (Nat×H)}(hnd:(upd.map (·.1)).Nodup)
  (hu:∀p∈upd,∃sz xs,a6 σ.heap p.1=.ay sz xs true/\(p.2=.ek\/p.2=.lk sz xs)) {β β0:h5} {jI:Nat} {ajQ:List (List D)} (c3:φ n=some β0) (h0:a6 σ.heap n=.ay jI ajQ true) (gz:β.fz=β0.fz/\β.off=β0.off/\β.cap=β0.cap/\β.sz=β0.sz) (Jl:∀x,(n,x)∉upd) {sz:Nat} {xs:List (List D)} (dM:β.sz=sz) {w':World} (hs:w.heap.size<=w'.heap.size) (hb:Bel B w0 w')
  (D3:∀b,b<w.heap.size->β0.fz≠some b->(∀p∈upd,p.2=.ek->∀bF,φ p.1=some bF->bF.fz≠some b)->w'.heap[b]?=w.heap[b]?)
  (Bd:(β.fz=none/\xs=[]/\β.cap=0/\β.eb=[])\/∃b,β.fz=some b/\xs.length<=β.cap/\ph w'.heap b (β.off+β.cap * sz)/\repE w'.heap true b β.off sz xs β.eb)
  (CC:∀b∈β.eb,d_ φ σ.heap n b\/∃p∈upd,d_ φ σ.heap p.1 b) (R3:β.eb.Nodup) (R4:∀b,β.fz=some b->b∉β.eb) :
  R B w0 a0 (el φ n β) ⟨σ.tmps,hupd (cF σ.heap n (.ay sz xs true)) upd⟩ kp a w':=by
 have bu:p6 φ (el φ n β):=λi bF hi=>by
  by_cases h:i=n
  ·subst h;rw[c3]at hi;cases hi;exact⟨β,by simp[el],gz.1,gz.2.1,gz.2.2.1,gz.2.2.2⟩
  exact⟨bF,by simp[el,h,hi],rfl,rfl,rfl,rfl⟩
 have me:a6 (hupd (cF σ.heap n (.ay sz xs true)) upd) n=.ay sz xs true:=by
  rcases zY upd (cF σ.heap n (.ay sz xs true)) n with ⟨x,h1,_⟩|⟨_,h2⟩
  ·exact absurd h1 (Jl x)
  rw[h2,jh,if_pos rfl]
 have hin:∀i x,(i,x)∈upd->a6 (hupd (cF σ.heap n (.ay sz xs true)) upd) i=x:=by
  intro i x hx;rcases zY upd (cF σ.heap n (.ay sz xs true)) i with ⟨y,h1,h2⟩|⟨h1,_⟩
  ·have:y=x:=by
    have hp:aAv (λp q=>p.1≠q.1) upd:=by simpa [aAL,auK]using hnd
    by_cases pE:y=x
    ·exact pE
    exfalso;have:=atI (R:=λp q:Nat×H=>p=q\/p.1≠q.1) (l:=upd) (λp _=>.inl rfl) (hp.imp λh=>.inr h) (hp.imp λh=>.inr (Ne.symm h)) h1 hx;rcases this with this|this
    ·cases this;exact pE rfl
    exact this rfl
   rw[h2,this]
  ·exact absurd hx (h1 x)
 have pH:∀i,i≠n->(∀x,(i,x)∉upd)->a6 (hupd (cF σ.heap n (.ay sz xs true)) upd) i=a6 σ.heap i:=by
  intro i hi hx;rcases zY upd (cF σ.heap n (.ay sz xs true)) i with ⟨y,h1,h2⟩|⟨_,h2⟩
  ·exact absurd h1 (hx y)
  rw[h2,jh,if_neg hi]
 have yR:∀i,i≠n->el φ n β i=φ i:=λi hi=>by simp[el,hi]
 have Be:∀i x,(i,x)∈upd->x.qe=false/\x.own=false:=by
  intro i x hx;obtain⟨s,ys,_,h2⟩:=hu _ hx;rcases h2 with h2|h2<;>simp only at h2<;>subst h2<;>exact⟨rfl,rfl⟩
 have Jm:∀i x,(i,x)∈upd->∀bF b,¬nt x bF b:=by
  intro i x hx bF b ht;rcases ht with ⟨h,_⟩|⟨h,_⟩
  ·rw[(Be i x hx).1]at h;cases h
  have:=H.Ik h;rw[(Be i x hx).2]at this;cases this
 have Bf:∀i,(i=n\/∃x,(i,x)∈upd)->∀b,d_ (el φ n β) (hupd (cF σ.heap n (.ay sz xs true)) upd) i b->i=n/\(β.fz=some b\/b∈β.eb):=by
  rintro i (rfl|⟨x,hx⟩) b ⟨bF,h1,h2⟩
  ·simp only[el,if_true,cc]at h1;subst h1;refine⟨rfl,?_⟩;rcases h2 with ⟨_,h2⟩|⟨_,h2⟩
   ·exact .inl h2
   exact .inr h2
  rw[hin i x hx]at h2;obtain⟨k1,k2⟩:=Be i x hx;rcases h2 with ⟨h2,_⟩|⟨h2,_⟩
  ·rw[k1]at h2;cases h2
  rw[k2]at h2;cases h2
 have Jn:∀p∈upd,∀bF b,φ p.1=some bF->bF.fz=some b->d_ φ σ.heap p.1 b:=by
  intro p hp bF b h1 h2;obtain⟨s,ys,ao,_⟩:=hu p hp;exact⟨bF,h1,.inl ⟨by rw[ao];rfl,h2⟩⟩
 have ajP:∀b,b<w.heap.size->dq φ σ.heap b->dq (el φ n β) (hupd (cF σ.heap n (.ay sz xs true)) upd) b:=by
  intro b iF ht i bF hi he;by_cases h:i=n
  ·subst h;simp only[el,if_true,cc]at hi;subst hi;rw[me]at he;rcases he with ⟨_,he⟩|⟨he,_⟩
   ·exact ht i β0 c3 (.inl ⟨by rw[h0];rfl,gz.1▸he⟩)
   cases he
  rw[yR i h]at hi;by_cases hx:∃x,(i,x)∈upd
  ·obtain⟨x,hx⟩:=hx;rw[hin i x hx]at he;exact Jm i x hx _ _ he
  rw[pH i h (λx g6=>hx ⟨x,g6⟩)]at he;exact ht i bF hi he
 refine A6 r (λi=>i=n\/∃x,(i,x)∈upd) _ _ _ w' (λi hi=>?_) bu hs (λb iF ht=>?_) (λi hi b aG=>?_) (λi hi bF h1 b h2=>?_) (λi j b hi aI h1 h2=>?_) (λi bF hi h1 hx=>?_) (λi hi=>?_) (λi bF hi=>?_) hb
 ·exact⟨pH i (λe=>hi (.inl e)) (λx hx=>hi (.inr ⟨x,hx⟩)),yR i (λe=>hi (.inl e))⟩
 ·refine D3 b iF (λsw=>ht n (.inl rfl) β0 c3 (.inl ⟨by rw[h0];rfl,sw⟩)) λp hp _ bF h1 h2=>?_;obtain⟨s,ys,ao,_⟩:=hu p hp;exact ht p.1 (.inr ⟨p.2,hp⟩) bF h1 (.inl ⟨by rw[ao];rfl,h2⟩)
 ·obtain⟨rfl,h1⟩:=Bf i hi b aG;rcases h1 with h1|h1
  ·exact .inr ⟨i,.inl rfl,β0,c3,.inl ⟨by rw[h0];rfl,gz.1▸h1⟩⟩
  rcases CC b h1 with h2|⟨p,hp,h2⟩
  ·exact .inr ⟨i,.inl rfl,h2⟩
  exact .inr ⟨p.1,.inr ⟨p.2,hp⟩,h2⟩
 ·have aG:d_ (el φ n β) (hupd (cF σ.heap n (.ay sz xs true)) upd) i b:=nt.A' h1 h2;obtain⟨rfl,_⟩:=Bf i hi b aG;simp only[el,if_true,cc]at h1;subst h1;rw[me]at h2;rcases h2 with ⟨_,h2⟩|⟨h2,_⟩
  ·exact .inr ⟨i,β0,.inl rfl,c3,.inl ⟨by rw[h0];rfl,gz.1▸h2⟩⟩
  cases h2
 ·rw[(Bf i hi b h1).1,(Bf j aI b h2).1]
 ·rcases hi with rfl|⟨x,g6⟩
  ·simp only[el,if_true,cc]at h1;subst h1;exact⟨R3,R4⟩
  rw[hin i x g6,(Be i x g6).2]at hx;cases hx
 ·rcases hi with rfl|⟨x,hx⟩
  ·refine .inr ⟨β,by simp[el],?_⟩;rw[me];refine⟨dM,?_⟩;rcases Bd with h1|⟨b,h1,h2,ao,aH⟩
   ·exact .inl h1
   exact .inr ⟨b,β.eb,h1,h2,ao,aH,λ_=>rfl,λh=>by cases h⟩
  rw[hin i x hx];obtain⟨s,ys,h1,h2⟩:=hu _ hx;rcases h2 with h2|h2
  ·exact .inl h2
  simp only at h2 h1;subst h2;have Jo:i≠n:=λe=>by subst e;exact Jl _ hx
  rcases r.hp i with je|⟨bF,ak,hr⟩
  ·rw[h1]at je;cases je
  refine .inr ⟨bF,by rw[yR i Jo];exact ak,?_⟩;rw[h1]at hr;obtain⟨sV,hr⟩:=hr;refine⟨sV,?_⟩;rcases hr with hr|⟨b,G,aZ,bA,c9,dn,fZ,ji⟩
  ·exact .inl hr.2.1
  have bY:=fZ rfl;have sT:d_ φ σ.heap i b:=⟨bF,ak,.inl ⟨by rw[h1];rfl,aZ⟩⟩;have Jp:∀g∈G,d_ φ σ.heap i g:=λg hg=>⟨bF,ak,.inr ⟨by rw[h1];rfl,bY▸hg⟩⟩;have hk:∀c,d_ φ σ.heap i c->w'.heap[c]?=w.heap[c]?:=by
   intro c hc;refine D3 c (d_.lt r hc) (λGL=>Jo (r.dQ i n c hc ⟨β0,c3,.inl ⟨by rw[h0];rfl,GL⟩⟩)) λp hp Jq jR dh bO=>?_;have:=r.dQ i p.1 c hc (Jn p hp jR c dh bO);have ao:=hin p.1 p.2 hp;rw[<-this,hin i _ hx,Jq]at ao;cases ao
  have cR:∀c,d_ φ σ.heap i c->dq (el φ n β) (hupd (cF σ.heap n (.ay sz xs true)) upd) c\/∃ey,β.fz=some ey/\ey=c:=by
   intro c hc;by_cases CO:β.fz=some c
   ·exact .inr ⟨c,CO,rfl⟩
   refine .inl λj jR aI he=>?_;by_cases h:j=n
   ·subst h;simp only[el,if_true,cc]at aI;subst aI;rw[me]at he;rcases he with ⟨_,he⟩|⟨he,_⟩
    ·exact CO he
    cases he
   rw[yR j h]at aI;by_cases ie:∃x,(j,x)∈upd
   ·obtain⟨x,ie⟩:=ie;rw[hin j x ie]at he;exact Jm j x ie _ _ he
   rw[pH j h (λx g6=>ie ⟨x,g6⟩)]at he;have:=r.dQ i j c hc (nt.A' aI he);exact ie ⟨_,this▸hx⟩
  have Jr:∀c,d_ φ σ.heap i c->dq (el φ n β) (hupd (cF σ.heap n (.ay sz xs true)) upd) c:=by
   intro c hc;rcases cR c hc with h|⟨ey,dh,rfl⟩
   ·exact h
   exfalso;exact Jo (r.dQ i n ey hc ⟨β0,c3,.inl ⟨by rw[h0];rfl,gz.1▸dh⟩⟩)
  exact .inr ⟨b,G,aZ,Jr b sT,asD c9.lt hs,Bb hs ys b bF.off s G (hk b sT) (λg hg=>hk g (Jp g hg)) (Ji _ _ _ _ _ dn),λg hg=>Jr g (Jp g hg)⟩
 by_cases h:i=n
 ·subst h;exact r.iS i β0 c3
 exact r.iS i bF (by rw[<-yR i h];exact hi)
end
variable {P:Program} {o:Oper} {g:Bool} {σ:St} {n:Nat} {K:fL->Prop}
section
variable {B:Nat->Prop} {w0:World} {a0:Nat->Prop} {φ:c5} {kp:List (V×Value)} {a:Act} {w:World}
theorem ajR(r:R B w0 a0 φ σ kp a w){id:Nat}{β:h5}(c3:φ id=some β){cells cells':List V}(h0:a6 σ.heap id=.box cells){b:Nat}(nU:β.fz=some b){GF:Array Value}{e:TypeId}{w':World}
  (hc:VRels φ (dq φ σ.heap) w.heap cells' GF.toList) (hw:w'.heap[b]?=some (.cells GF e (0,0))) (hk:∀c,c≠b->w'.heap[c]?=w.heap[c]?) (hs:w'.heap.size=w.heap.size) (hb:Bel B w0 w') :
  R B w0 a0 φ ⟨σ.tmps,cF σ.heap id (.box cells')⟩ kp a w':=by
 have cR:∀c,dq φ σ.heap c->dq φ (cF σ.heap id (.box cells')) c:=by
  intro c ht i bF hi he;rw[jh]at he;by_cases h:i=id
  ·subst h;rw[if_pos rfl]at he;rcases he with ⟨_,he⟩|⟨he,_⟩
   ·exact ht i bF hi (.inl ⟨by rw[h0];rfl,he⟩)
   cases he
  rw[if_neg h]at he;exact ht i bF hi he
 have Ev:∀c,dq φ σ.heap c->c≠b:=λc ht o4=>by subst o4;exact ht id β c3 (.inl ⟨by rw[h0];rfl,nU⟩)
 refine A6 r (λi=>i=id) _ _ _ w' (λi hi=>⟨by rw[jh,if_neg hi],rfl⟩) (p6.refl φ) ω (λc _ ht=>hk c λo4=>?_) ?_ ?_ (λi j b hi aI _ _=>hi.trans aI.symm) ?_ ?_ r.iS hb
 ·subst o4;exact ht id rfl β c3 (.inl ⟨by rw[h0];rfl,nU⟩)
 ·rintro i rfl c ⟨bF,h1,h2⟩;rw[c3]at h1;cases h1;rw[jh,if_pos rfl]at h2;rcases h2 with ⟨_,h2⟩|⟨h2,_⟩
  ·exact .inr ⟨i,rfl,β,c3,.inl ⟨by rw[h0];rfl,h2⟩⟩
  cases h2
 ·rintro i rfl bF h1 c h2;rw[c3]at h1;cases h1;rw[jh,if_pos rfl]at h2;rcases h2 with ⟨_,h2⟩|⟨h2,_⟩
  ·exact .inr ⟨i,β,rfl,c3,.inl ⟨by rw[h0];rfl,h2⟩⟩
  cases h2
 ·rintro i bF rfl _ hx;rw[jh,if_pos rfl]at hx;cases hx
 rintro i rfl;refine .inr ⟨β,c3,?_⟩;rw[jh,if_pos rfl];have ajS:β.off=0:=by
  rcases r.hp i with hd|⟨bF,ak,hr⟩
  ·rw[h0]at hd;cases hd
  rw[c3]at ak;cases ak;rw[h0]at hr;obtain⟨_,_,_,_,h,_⟩:=hr;exact h
 exact⟨b,GF,e,nU,ajS,hw,xo ⟨p6.refl φ,λc _ ht=>cR c ht,λc _ ht=>hk c (Ev c ht),by omega⟩ _ _ hc⟩
end
theorem MI{B:Nat->Prop}{w0 w:World}(h:Bel B w0 w)(hB:∀k,w.heap.size<=k->B k)(o:Obj):Bel B w0 (w.alloc o):=
 h.trans ⟨rfl,rfl,rfl,by simp,λk hk=>RowKit.Below.heap_alloc _ _ _ (by
  rcases asv k w.heap.size with h|h
  ·exact h
  exact absurd (hB k h) hk),λb n r=>r.mono (RowKit.Below.heap_alloc _ _ _ r.lt)⟩
theorem Jc{B:Nat->Prop}{w0:World}{a0 Cz:Nat->Prop}{φ:c5}{kp:List (V×Value)}{a:Act}{w:World}(r:R B w0 a0 φ σ kp a w)(h:∀i,a0 i->Cz i):R B w0 Cz φ σ kp a w:=
 ⟨r.jA,r.kp,r.hp,r.dQ,r.eI,r.gH,λi β e=>h i (r.iS i β e),r.hR,r.bs,r.pg,r.np⟩
theorem ajT{φ:c5}{T:Nat->Prop}{h:Array Obj}{n b:Nat}:VRel (el φ n ⟨some b,0,0,0,[]⟩) T h (.ptr n 0 0) (.pointer (some ⟨b,0,none⟩)):=by
 simp only[VRel];exact⟨⟨some b,0,0,0,[]⟩,b,by simp[el],rfl,by simp⟩
theorem ZF{cells:List V}{cs:Act->Array Value}{e:TypeId}(gW:∀(a:Act) (w:World),(execOp a.eval o).run P w=.ok (.value (.pointer (some ⟨w.heap.size,0,none⟩))) (w.alloc (.cells (cs a) e)))
  (Bd:∀{σ':St} {B:Nat->Prop} {w0:World} {a0:Nat->Prop} {φ:c5} {kp:List (V×Value)} {a:Act} {w:World},σ.le σ'->R B w0 a0 φ σ' kp a w->g->VRels φ (dq φ σ'.heap) w.heap cells (cs a).toList) :
  iY P o g σ n ⟨.ptr n 0 0,[.box cells],[]⟩:=by
 intro σ' bu hd B w0 a0 φ kp a w l0 a1 hg K Q cg;unfold Oper.wp;rw[gW,Oper.upon_value];have h1:=ajN a1 (n:=n) (hd n (fH _) ξ) (l0 n (fH _) ξ) (Bd bu a1 hg) (w':=w.alloc (.cells (cs a) e)) rfl (MI a1.hR a1.bs _);exact cg _ _ _ (o1 h1 o.dst ajT)
theorem ok_alloc{T:TypeId}(aG:o.op=.alloc T)(h:match zrI P T with|some cells=>K ⟨.ptr n 0 0,[.box cells],[]⟩|none=>False):∃r,iY P o g σ n r/\K r:=by
 split at h
 ·rename_i cells hz;obtain⟨i,z,hi,M1,hr⟩:=Ek hz;refine⟨_,ZF (cs:=λ_=>z.cells) (e:=T) (λa w=>?_) (λ_ _ _=>hr _ _ _),h⟩;unfold execOp;rw[aG];simp[Instr.alloc,zeroValue,typeInfo,hi,M1,newVar,newRow]
 exact h.elim
theorem ajp{T:TypeId}{x:Operand}(aG:o.op=.box T x)(h:evg g (σ.ev x) λv=>v.zV/\K ⟨.ptr n 0 0,[.box v.cells],[]⟩):∃r,iY P o g σ n r/\K r:=by
 obtain⟨v,h1,hx⟩:=hX h;refine⟨_,ZF (cs:=λa=>(a.eval x).cells) (e:=T) (λa w=>?_) (λbu r hg=>(Js h1.1 (hx _ _ _ _ hg (g' bu r x))).1),h1.2⟩;unfold execOp;rw[aG];simp[Instr.box,newVar,newRow]
def storeE(P:Program)(hs:List H)(T:TypeId)(p v:V):Option (Prop×List (Nat×H)):=
 match tyI P T,p with
 |some (sz,_),.ptr id cC off=>
  match a6 hs id with
  |.box cells=>some (cC=0/\v.zV/\v.cells.length=sz/\off+sz<=cells.length,[(id,.box (g5 cells off v.cells))])
  |.ay s xs true=>
   match toDs hs v.cells with
   |some (ds,cH)=>some (v.zV/\v.cells.length=sz/\cC<xs.length/\off+sz<=((xs[cC]?).getD []).length/\cH.Nodup/\id∉cH,(id,.ay s (xs.set cC (g5 ((xs[cC]?).getD []) off ds)) true)::cH.map λi=>(i,match a6 hs i with|.ay s ys _=>.lk s ys|x=>x))
   |none=>none
  |.h3 s pre cells post=>some (cC=pre.length/\v.zV/\v.cells.length=sz/\off+sz<=cells.length,[(id,.h3 s pre (g5 cells off v.cells) post)])
  |_=>none
 |_,_=>none
def reps(h:Array Obj)(o:Bool):List D->List Value->List Nat->Prop
 |[],us,G=>us=[]/\G=[]
 |d::ds,us,G=>∃u c6 cE cw,us=u::c6/\G=cE++cw/\rep h o d u cE/\reps h o ds c6 cw
theorem Er{h:Array Obj}{o:Bool}{b:Nat}:∀(ds:List D) (us:List Value) (f:Nat) (G:List Nat),reps h o ds us G->(∀(j:Nat) (u:Value),us[j]?=some u->cellAt h b (f+j)=some u)->repC h o b f ds G
 |[],us,f,G,r,_=>by simp only[reps]at r;simpa [repC]using r.2
 |d::ds,us,f,G,r,hc=>by
  simp only[reps]at r;obtain⟨u,c6,cE,cw,rfl,rfl,aZ,bA⟩:=r;simp only[repC];refine⟨u,cE,cw,rfl,by simpa using hc 0 u rfl,aZ,Er ds c6 (f+1) cw bA λj v aI=>?_⟩;rw[show f+1+j=f+(j+1)from by omega];exact hc (j+1) v (by simpa using aI)
theorem R5{h h':Array Obj}{o:Bool}(hs:h.size<=h'.size):∀(ds:List D) (us:List Value) (G:List Nat),(∀g∈G,h'[g]?=h[g]?)->reps h o ds us G->reps h' o ds us G
 |[],us,G,_,r=>by simpa [reps]using r
 |d::ds,us,G,bY,r=>by
  simp only[reps]at r⊢;obtain⟨u,c6,cE,cw,rfl,rfl,aZ,bA⟩:=r;exact⟨u,c6,cE,cw,rfl,rfl,Ii hs d u cE (λg hg=>bY g (by simp[hg])) aZ,R5 hs ds c6 cw (λg hg=>bY g (by simp[hg])) bA⟩
theorem Eo{h:Array Obj}{o:Bool}:∀(ds:List D) (us:List Value) (G:List Nat),reps h o ds us G->us.length=ds.length
 |[],us,G,r=>by simp only[reps]at r;rw[r.1];rfl
 |d::ds,us,G,r=>by
  simp only[reps]at r;obtain⟨u,c6,cE,cw,rfl,rfl,aZ,bA⟩:=r;simp[Eo ds c6 cw bA]
section
variable {B:Nat->Prop} {w0:World} {a0:Nat->Prop} {φ:c5} {kp:List (V×Value)} {a:Act} {w:World}
theorem MT(r:R B w0 a0 φ σ kp a w):∀(vs:List V) (ds:List D) (cH:List Nat) (us:List Value),toDs σ.heap vs=some (ds,cH)->cH.Nodup->VRels φ (dq φ σ.heap) w.heap vs us->
  ∃G,reps w.heap true ds us G/\G.Nodup/\(∀b∈G,∃id∈cH,d_ φ σ.heap id b)/\∀id∈cH,∃sz xs,a6 σ.heap id=.ay sz xs true
 |[],ds,cH,us,e,_,dr=>by
  simp only[toDs,cc,dT]at e;obtain⟨rfl,rfl⟩:=e;simp only[VRels]at dr;subst dr;exact⟨[],by simp[reps],asd,by simp,by simp⟩
 |v::vs,ds,cH,us,e,hnd,dr=>by
  simp only[VRels]at dr;obtain⟨u,c6,rfl,I9,I_⟩:=dr;simp only[toDs]at e;split at e
  ·rename_i d i rP gG ak ar;simp only[cc,dT]at e;obtain⟨rfl,rfl⟩:=e;rw[al_]at hnd;obtain⟨F,dG,e9,f3,DR⟩:=RL r ak I9;obtain⟨G,b5,b8,dI,lf⟩:=MT r vs rP gG c6 ar hnd.2.1 I_;refine⟨F++G,?_,?_,?_,?_⟩
   ·simp only[reps];exact⟨u,c6,F,G,rfl,rfl,dG,b5⟩
   ·rw[al_];refine⟨e9,b8,λx hx y hy pE=>?_⟩;subst pE;obtain⟨p,dP,dO⟩:=f3 x hx;obtain⟨q,dh,bO⟩:=dI x hy;have:=r.dQ p q x dO bO;exact hnd.2.2 p dP q dh this
   ·intro b hb;rcases e7.1 hb with hb|hb
    ·obtain⟨p,dP,dO⟩:=f3 b hb;exact⟨p,by simp[dP],dO⟩
    obtain⟨p,dP,dO⟩:=dI b hb;exact⟨p,by simp[dP],dO⟩
   intro p hp;rcases e7.1 hp with hp|hp
   ·exact DR p hp
   exact lf p hp
  cases e
end
theorem run_store{T:TypeId}{sz:Nat}{iG:Bool}(h:tyI P T=some (sz,iG)){w:World}{b f:Nat}{cs:Array Value}{e:TypeId}(hb:w.heap[b]?=some (.cells cs e (0,0))){u:Value}(hl:u.cells.size=sz)(hf:f+sz<=cs.size)(h1:∀x∈u.cells.toList,x.oneCell') :
  (storeVar T ⟨b,f,none⟩ u).run P w=.ok () (w.setRow b (g5 cs.toList f u.cells.toList).toArray):=by
 obtain⟨i,hi,hs,_⟩:=R6 h;have:=run_storeCells_at P b f e u.cells.toList 0 cs w hb (by simp;omega) h1;simp only[ao_,ah_]at this;simp[storeVar,asw,typeInfo,hi,hs,hl,this,g5]
theorem setRow_size(w:World)(b:Nat)(cs:Array Value):(w.setRow b cs).heap.size=w.heap.size:=by simp[aAB]
theorem I2{B:Nat->Prop}{b:Nat}{w0 w:World}(h:Bel B w0 w)(hb:B b){yS cs:Array Value}{e:TypeId}{b2:Nat×Nat}(hg:w.heap[b]?=some (.cells yS e b2))(hl:yS.size<=cs.size):Bel B w0 (w.setRow b cs):=
 h.trans ⟨rfl,rfl,rfl,by simp[aAB],λk hk=>setRow_other w b k cs (λe=>hk (e▸hb)),λk n r=>by
  by_cases hk:k=b
  ·subst hk;obtain⟨c,t,h1,h2⟩:=r;rw[hg]at h1;cases h1;exact⟨cs,e,setRow_heap w k yS cs e (0,0) hg,arP h2 hl⟩
  exact r.mono (setRow_other w b k cs hk)⟩
variable {P:Program} {o:Oper} {g:Bool} {σ:St} {n:Nat} {K:fL->Prop}
theorem akK{α:Type}(c:List α)(off m:Nat):c=c.take off++((c.drop off).take m++c.drop (off+m)):=by
 have h1:=(ad_ off c).symm;have h2:=(ad_ m (c.drop off)).symm;rw[atH]at h2;rw[<-h2];exact h1
theorem akL{h h':Array Obj}{b f off:Nat}{c ds:List D}{G lH:List Nat}(r:repC h true b f c G)(hl:off+ds.length<=c.length)(hs:h.size<=h'.size)(bY:∀g∈G,h'[g]?=h[g]?)
  (pH:∀j,j<off\/off+ds.length<=j->cellAt h' b (f+j)=cellAt h b (f+j)) (akM:repC h' true b (f+off) ds lH) :
  ∃rS JG qT,G=rS++(JG++qT)/\repC h' true b f (g5 c off ds) (rS++(lH++qT)):=by
 rw[akK c off ds.length]at r;obtain⟨rS,cw,rfl,aZ,bA⟩:=(Et _ _ _ _).1 r;obtain⟨JG,qT,rfl,c9,dn⟩:=(Et _ _ _ _).1 bA;have jk:(c.take off).length=off:=by simp;omega
 have lF:((c.drop off).take ds.length).length=ds.length:=by simp;omega
 rw[jk]at c9 dn;rw[lF]at dn;refine⟨rS,JG,qT,rfl,(Et _ _ _ _).2 ⟨rS,lH++qT,rfl,?_,(Et _ _ _ _).2 ⟨lH,qT,rfl,by rw[jk];exact akM,?_⟩⟩⟩
 ·exact MX _ f f rS hs (λx hx=>bY x (by simp[hx])) (λj aI=>pH j (.inl ω)) aZ
 rw[jk];refine MX _ _ _ qT hs (λx hx=>bY x (by simp[hx])) (λj aI=>?_) dn;rw[arH,arH];exact pH _ (.inr ω)
theorem akN{α:Type}(xs:List α)(i:Nat)(c:α)(h:i<xs.length):xs.set i c=xs.take i++(c::xs.drop (i+1)):=by
 rw[List.set_eq_take_append_cons_drop,if_pos h]
theorem akO{hs:List H}{v:V}{d:D}{cH:List Nat}(h:toD hs v=some (d,cH)):∀i∈cH,∃s ys,a6 hs i=.ay s ys true:=by
 unfold toD at h;split at h
 ·split at h
  ·simp only[cc,dT]at h;obtain⟨_,rfl⟩:=h;simp
  cases h
 ·simp only[cc,dT]at h;obtain⟨_,rfl⟩:=h;simp
 ·rename_i id off len;split at h
  ·rename_i sz xs hx;split at h
   ·simp only[cc,dT]at h;obtain⟨_,rfl⟩:=h;intro i hi;simp only[jn]at hi;subst hi;exact⟨_,_,hx⟩
   cases h
  cases h
 cases h
theorem R'{hs:List H}:∀(vs:List V) (ds:List D) (cH:List Nat),toDs hs vs=some (ds,cH)->∀i∈cH,∃s ys,a6 hs i=.ay s ys true
 |[],ds,cH,h=>by simp only[toDs,cc,dT]at h;obtain⟨_,rfl⟩:=h;simp
 |v::vs,ds,cH,h=>by
  simp only[toDs]at h;split at h
  ·rename_i d i rP gG ak ar;simp only[cc,dT]at h;obtain⟨_,rfl⟩:=h;intro j aI;rcases e7.1 aI with aI|aI
   ·exact akO ak j aI
   exact R' vs rP gG ar j aI
  cases h
theorem akP{σ σ':St}(bu:σ.le σ'){v:V}{r:D×List Nat}(h:toD σ.heap v=some r):toD σ'.heap v=some r:=by
 cases v<;>simp only[toD]at h⊢<;>try exact h
 rename_i id off len;split at h
 ·rename_i sz xs hx;rcases bu.2 id with hh|hh
  ·rw[hx]at hh;cases hh
  rw[hh,hx];exact h
 cases h
theorem R_{σ σ':St}(bu:σ.le σ'):∀(vs:List V) (r:List D×List Nat),toDs σ.heap vs=some r->toDs σ'.heap vs=some r
 |[],_,h=>h
 |v::vs,r,h=>by
  simp only[toDs]at h⊢;split at h
  ·rename_i d i rP gG ak ar;rw[akP bu ak,R_ bu vs _ ar];exact h
  cases h
theorem MH{w:World}{b f:Nat}{cs:Array Value}{e:TypeId}(hb:w.heap[b]?=some (.cells cs e (0,0))){us:List Value}(hl:f+us.length<=cs.size)(j:Nat) :
  cellAt (w.setRow b (g5 cs.toList f us).toArray).heap b j=if f<=j/\j<f+us.length then us[j-f]? else cellAt w.heap b j:=by
 have hnew:=setRow_heap w b cs (g5 cs.toList f us).toArray e (0,0) hb;unfold cellAt;rw[hnew,hb];simp only[List.getElem?_toArray];unfold g5;have oz:(cs.toList.take f).length=f:=by simp;omega
 by_cases h1:j<f
 ·rw[arF ω,if_neg ω,ati,if_pos h1,ac_]
 rw[ak_ ω,oz];by_cases h2:j<f+us.length
 ·rw[if_pos ⟨by omega,h2⟩,arF ω]
 rw[if_neg ω,ak_ ω,atj,ac_]
 congr 1;omega
theorem akQ{l:List Value}{off:Nat}{vs:List Value}(h:off+vs.length<=l.length)(j:Nat):(g5 l off vs)[j]?=if off<=j/\j<off+vs.length then vs[j-off]? else l[j]?:=by
 unfold g5;have oz:(l.take off).length=off:=by simp;omega
 by_cases h1:j<off
 ·rw[arF ω,if_neg ω,ati,if_pos h1]
 rw[ak_ ω,oz];by_cases h2:j<off+vs.length
 ·rw[if_pos ⟨by omega,h2⟩,arF ω]
 rw[if_neg ω,ak_ ω,atj]
 congr 1;omega
theorem I3{cs:Array Value}{f:Nat}{us:List Value}(h:f+us.length<=cs.size):cs.size<=(g5 cs.toList f us).toArray.size:=by
 have:=Ei (l:=cs.toList) (off:=f) (vs:=us) (by simpa using h);simp only[arQ,this,an_];exact fH _
theorem ok_store{T:TypeId}{p x:Operand}(aG:o.op=.store T p x)
  (h:evg g (σ.ev p) λq=>evg g (σ.ev x) λv=>match storeE P σ.heap T q (m7 P T v)with|some (c,upd)=>c/\K ⟨.an,[],upd⟩|none=>False):∃r,iY P o g σ n r/\K r:=by
 obtain⟨q,h1,hp⟩:=hX h;obtain⟨v,h2,hx⟩:=hX h1;clear h h1;split at h2
 ·rename_i c upd ah;obtain⟨hc,cg⟩:=h2;refine⟨_,?_,cg⟩;intro σ' bu _ B w0 a0 φ kp a w _ a1 hg ik Q Rr;have gF:=hp _ _ _ _ hg (g' bu a1 p);have dY:VRel φ (dq φ σ'.heap) w.heap (m7 P T v) (a.eval x):=ZU (hx _ _ _ _ hg (g' bu a1 x));generalize m7 P T v=gX at ah dY;clear hp hx;have aS:∀(w':World) (du:c5),(storeVar T (match a.eval p with|.pointer (some ad)=>ad|_=>⟨0,0,none⟩) (a.eval x)).run P w=.ok () w'->(∃ad,a.eval p=.pointer (some ad))->
    R B w0 a0 du ⟨σ'.tmps,hupd σ'.heap upd⟩ kp a w'->o.wp P a w ik Q:=by
   rintro w' du gW ⟨ad,IZ⟩ fO;have n':(execOp a.eval o).run P w=.ok .skip w':=by
    rw[IZ]at gW;unfold execOp;rw[aG];simp[Instr.storeAt,IZ,Instr.sureAddr,gW]
   unfold Oper.wp;rw[n',Oper.upon_skip];exact Rr undef w' du (o1 (Jc fO λi hi=>.inl hi) o.dst (v:=.an) (by simp[VRel]))
  unfold storeE at ah;split at ah
  ·rename_i sz iG id cC off rU;simp only[VRel]at gF;obtain⟨β,b,ak,ar,a4⟩:=gF;have hh:=bu.2 id;split at ah
   ·
    rename_i cells qQ;simp only[cc,dT]at ah;obtain⟨rfl,rfl⟩:=ah;obtain⟨c1,cW,gn,rE⟩:=hc;have iX:a6 σ'.heap id=.box cells:=by
     rcases hh with hh|hh
     ·rw[qQ]at hh;cases hh
     rw[hh,qQ]
    rcases a1.hp id with hd|⟨bF,iq,hr⟩
    ·rw[iX]at hd;cases hd
    rw[ak]at iq;cases iq;rw[iX]at hr;obtain⟨ey,cs,e,aZ,bA,c9,dn⟩:=hr;rw[ar]at aZ;cases aZ;obtain⟨k1,k2⟩:=Js cW dY;have GS:=mG _ _ k1;have JH:=mG _ _ dn;have dM:(a.eval x).cells.size=sz:=by rw[<-an_,GS];exact gn
    have akR:β.off+cC * β.sz+off=off:=by rw[bA,c1];simp
    rw[akR]at a4;have gW:=run_store rU c9 dM (f:=off) (by rw[<-an_,JH];exact rE) k2;have hnew:=setRow_heap w b cs (g5 cs.toList off (a.eval x).cells.toList).toArray e (0,0) c9;have hB:B b:=a1.gH id b ⟨β,ak,.inl ⟨by rw[iX];rfl,ar⟩⟩;refine aS _ φ (by rw[a4];exact gW) ⟨_,a4⟩ ?_;exact ajR a1 ak iX ar (cells':=g5 cells off gX.cells) (by simpa using Ss dn k1 off) hnew (λc o4=>setRow_other w b c _ o4) (setRow_size _ _ _) (I2 a1.hR hB c9 (I3 (by rw[an_,dM,<-an_ (xs:=cs),JH];exact rE)))
   ·
    rename_i s xs qQ;split at ah
    ·rename_i ds cH xr;simp only[cc,dT]at ah;obtain⟨rfl,rfl⟩:=ah;obtain⟨c1,cW,gn,rE,LR,LV⟩:=hc;have iX:a6 σ'.heap id=.ay s xs true:=by
      rcases hh with hh|hh
      ·rw[qQ]at hh;cases hh
      rw[hh,qQ]
     rcases a1.hp id with hd|⟨bF,iq,hr⟩
     ·rw[iX]at hd;cases hd
     rw[ak]at iq;cases iq;rw[iX]at hr;obtain⟨dM,hr⟩:=hr;rcases hr with hr|⟨ey,G,aZ,bA,c9,dn,fZ,ji⟩
     ·rw[hr.2.1]at gn;simp at gn
     rw[ar]at aZ;cases aZ;have bY:=fZ rfl;obtain⟨cs,e,dh,bO⟩:=c9;obtain⟨k1,k2⟩:=Js c1 dY;have GS:=mG _ _ k1;have yU:(a.eval x).cells.size=sz:=by rw[<-an_,GS];exact cW
     obtain⟨lH,gB,gC,lr,jv⟩:=MT a1 _ _ _ _ (R_ bu _ _ xr) LR k1;have yg:ds.length=sz:=by rw[<-Eo _ _ _ gB,GS];exact cW
     obtain⟨c,aah⟩:∃c,xs[cC]?=some c:=⟨_,cy gn⟩;simp only[aah,kk]at rE aS;obtain⟨cE,qg,cw,xp,sX,xI,Em,En⟩:=Je dn aah;have hf:β.off+cC * s+off+sz<=cs.size:=by
      have ao:(cC+1) * s<=β.cap * s:=ase _ ω;rw[arT]at ao;omega
     rw[dM]at a4;have gW:=run_store rU dh yU (f:=β.off+cC * s+off) hf k2;have o7:(a.eval x).cells.toList.length=sz:=by rw[an_];exact yU
     have z3:=MH dh (us:=(a.eval x).cells.toList) (f:=β.off+cC * s+off) (by rw[o7];exact hf);generalize xC:w.setRow b (g5 cs.toList (β.off+cC * s+off) (a.eval x).cells.toList).toArray=w' at gW z3;have akS:w'.heap.size=w.heap.size:=by rw[<-xC];exact setRow_size _ _ _
     have zR:∀c,c≠b->w'.heap[c]?=w.heap[c]?:=λc o4=>by rw[<-xC];exact setRow_other w b c _ o4
     have hnew:w'.heap[b]?=some (.cells (g5 cs.toList (β.off+cC * s+off) (a.eval x).cells.toList).toArray e (0,0)):=by rw[<-xC];exact setRow_heap w b cs _ e (0,0) dh
     have sT:d_ φ σ'.heap id b:=⟨β,ak,.inl ⟨by rw[iX];rfl,ar⟩⟩;have hB:B b:=a1.gH id b sT;have GU:∀g∈G,d_ φ σ'.heap id g:=λg hg=>⟨β,ak,.inr ⟨by rw[iX];rfl,bY▸hg⟩⟩;have j8:=a1.eI id β ak (by rw[iX];rfl);rw[<-bY]at j8;have qW:∀g∈G,g≠b:=λg hg qW=>j8.2 b ar (qW▸hg);have aai:∀g∈lH,g≠b:=λg hg qW=>by
      obtain⟨i,hE,fT⟩:=lr g hg;have:=a1.dQ i id b (qW▸fT) sT;exact LV (this▸hE)
     have Nn:∀g∈G,w'.heap[g]?=w.heap[g]?:=λg hg=>zR g (qW g hg);have akT:∀g∈lH,w'.heap[g]?=w.heap[g]?:=λg hg=>zR g (aai g hg);have Gk:repC w'.heap true b (β.off+cC * s+off) ds lH:=Er _ _ _ _ (R5 ω _ _ _ akT gB) λj u aI=>by
      have Bg:j<(a.eval x).cells.toList.length:=(aj_.1 aI).1;rw[z3,if_pos ⟨by omega,by omega⟩];rw[show β.off+cC * s+off+j-(β.off+cC * s+off)=j from by omega];exact aI
     rw[xp]at Nn;obtain⟨rS,JG,qT,A_,iM⟩:=akL (h':=w'.heap) (off:=off) Em (by rw[yg];exact rE) ω (λg hg=>Nn g (by simp[hg])) (λj aI=>by
      rw[z3,if_neg (by rw[o7,<-yg];omega)]) Gk
     have rN:repE w'.heap true b β.off s (xs.set cC (g5 c off ds)) (cE++((rS++(lH++qT))++cw)):=by
      rw[akN xs cC _ gn];have oz:(xs.take cC).length=cC:=by simp;omega
      refine(repE_append _ _ _ _).2 ⟨cE,_,rfl,?_,?_⟩
      ·refine yG _ _ _ _ _ ω (λg hg=>Nn g (by simp[hg])) (λj aI=>?_) xI;rw[oz]at aI;rw[z3,if_neg ω]
      rw[oz];simp only[repE];refine⟨_,_,rfl,by rw[Ei (by rw[yg];exact rE)];exact sX,iM,?_⟩;have aH:β.off+cC * s+s=β.off+(cC+1) * s:=by rw[arT];omega
      rw[aH];refine yG _ _ _ _ _ ω (λg hg=>Nn g (by simp[hg])) (λj aI=>?_) En;rw[z3,if_neg (by rw[<-aH,o7];omega)]
     have akU:=R' _ _ _ xr;refine aS w' (el φ id {β with eb:=cE++((rS++(lH++qT))++cw)}) (by rw[a4];exact gW) ⟨_,a4⟩ ?_;have akV:(cE++((rS++(JG++qT))++cw)).Nodup:=by rw[<-A_,<-xp];exact j8.1
     have Ms:∀x∈lH,x∉G:=λy hy akW=>by
      obtain⟨i,hE,fT⟩:=lr y hy;have:=a1.dQ i id y fT (GU y akW);exact LV (this▸hE)
     rw[xp,A_]at Ms GU;refine ZE a1 (n:=id) (β:={β with eb:=cE++((rS++(lH++qT))++cw)}) (β0:=β) (upd:=cH.map λi=>(i,match a6 σ.heap i with|.ay s ys _=>.lk s ys|x=>x)) ?_ ?_ ak iX ⟨rfl,rfl,rfl,rfl⟩ ?_ dM ω ?_ ?_ ?_ ?_ ?_ ?_
     ·rw[auf];have:((λx:Nat×H=>x.1)∘λi=>(i,match a6 σ.heap i with|.ay s ys _=>H.lk s ys|x=>x))=(λi:Nat=>i):=rfl;rw[this,aAC];exact LR
     ·intro p hp;obtain⟨i,hE,rfl⟩:=aa_.1 hp;obtain⟨z0,A5,fT⟩:=akU i hE;obtain⟨cT,Sq,gR⟩:=jv i hE;refine⟨cT,Sq,gR,.inr ?_⟩;rcases bu.2 i with bR|bR
      ·rw[fT]at bR;cases bR
      rw[<-bR,gR]
     ·intro y hy;obtain⟨i,hE,fT⟩:=aa_.1 hy;simp only[dT]at fT;exact LV (fT.1▸hE)
     ·rw[<-xC];exact I2 a1.hR hB dh (I3 (by rw[o7];exact hf))
     ·intro c' _ hne _;exact zR c' λo4=>hne (o4▸ar)
     ·exact .inr ⟨b,ar,by simpa using bA,⟨_,e,hnew,by
       have:(g5 cs.toList (β.off+cC * s+off) (a.eval x).cells.toList).length=cs.toList.length:=Ei (by rw[o7];simpa using hf);simp only[arQ,this,an_];exact bO⟩,rN⟩
     ·intro g hg;simp only[e7]at hg;rcases hg with hg|(hg|hg|hg)|hg
      ·exact .inl (GU g (by simp[hg]))
      ·exact .inl (GU g (by simp[hg]))
      ·obtain⟨i,hE,fT⟩:=lr g hg;exact .inr ⟨(i,_),aa_.2 ⟨i,hE,rfl⟩,fT⟩
      ·exact .inl (GU g (by simp[hg]))
      exact .inl (GU g (by simp[hg]))
     ·simp only[al_,e7]at akV Ms⊢;grind
     intro ey iF;simp only at iF;rw[ar]at iF;cases iF;intro nd;simp only[e7]at nd;rcases nd with hg|(hg|hg|hg)|hg
     ·exact qW _ (by rw[xp,A_];simp[hg]) rfl
     ·exact qW _ (by rw[xp,A_];simp[hg]) rfl
     ·exact aai _ hg rfl
     ·exact qW _ (by rw[xp,A_];simp[hg]) rfl
     exact qW _ (by rw[xp,A_];simp[hg]) rfl
    ·cases ah
   ·
    rename_i s pre cells post qQ;simp only[cc,dT]at ah;obtain⟨rfl,rfl⟩:=ah;obtain⟨c1,cW,gn,rE⟩:=hc;have iX:a6 σ'.heap id=.h3 s pre cells post:=by
     rcases hh with hh|hh
     ·rw[qQ]at hh;cases hh
     rw[hh,qQ]
    rcases a1.hp id with hd|⟨bF,iq,hr⟩
    ·rw[iX]at hd;cases hd
    rw[ak]at iq;cases iq;rw[iX]at hr;obtain⟨hs,hcl,ey,cE,cw,us,aZ,bA,c9,dn,fZ,ji,sF,yu⟩:=hr;rw[ar]at aZ;cases aZ;obtain⟨cs,e,dh,bO⟩:=c9;obtain⟨k1,k2⟩:=Js cW dY;have GS:=mG _ _ k1;have JH:=mG _ _ ji;have dM:(a.eval x).cells.size=sz:=by rw[<-an_,GS];exact gn
    have hf:β.off+pre.length * s+off+sz<=cs.size:=by
     have ao:(pre.length+1) * s<=β.cap * s:=ase _ ω;rw[arT]at ao;omega
    rw[c1,hs]at a4;have gW:=run_store rU dh dM (f:=β.off+pre.length * s+off) hf k2;have o7:(a.eval x).cells.toList.length=sz:=by rw[an_];exact dM
    have z3:=MH dh (us:=(a.eval x).cells.toList) (f:=β.off+pre.length * s+off) (by rw[o7];exact hf);generalize xC:w.setRow b (g5 cs.toList (β.off+pre.length * s+off) (a.eval x).cells.toList).toArray=w' at gW z3;have akS:w'.heap.size=w.heap.size:=by rw[<-xC];exact setRow_size _ _ _
    have zR:∀c,c≠b->w'.heap[c]?=w.heap[c]?:=λc o4=>by rw[<-xC];exact setRow_other w b c _ o4
    have hnew:w'.heap[b]?=some (.cells (g5 cs.toList (β.off+pre.length * s+off) (a.eval x).cells.toList).toArray e (0,0)):=by rw[<-xC];exact setRow_heap w b cs _ e (0,0) dh
    have hB:B b:=a1.gH id b ⟨β,ak,.inl ⟨by rw[iX];rfl,ar⟩⟩;have j8:=a1.eI id β ak (by rw[iX];rfl);have qW:∀g∈β.eb,w'.heap[g]?=w.heap[g]?:=λg hg=>zR g λqW=>j8.2 b ar (qW▸hg);rw[dn]at qW;have cR:∀c,dq φ σ'.heap c->dq φ (cF σ'.heap id (.h3 s pre (g5 cells off gX.cells) post)) c:=by
     intro c ht i bF hi he;rw[jh]at he;by_cases h:i=id
     ·subst h;rw[if_pos rfl]at he;exact ht i bF hi (by rw[iX];exact he)
     rw[if_neg h]at he;exact ht i bF hi he
    have Ev:∀c,dq φ σ'.heap c->c≠b:=λc ht o4=>by subst o4;exact ht id β ak (.inl ⟨by rw[iX];rfl,ar⟩)
    refine aS _ φ (by rw[a4];exact gW) ⟨_,a4⟩ ?_;refine A6 a1 (λi=>i=id) _ _ _ w' (λi hi=>⟨by show a6 (cF σ'.heap id _) i=_;rw[jh,if_neg hi],rfl⟩) (p6.refl φ) ω (λc _ ht=>zR c λo4=>?_) ?_ ?_ (λi j b hi aI _ _=>hi.trans aI.symm) ?_ ?_ a1.iS
     (by rw[<-xC];exact I2 a1.hR hB dh (I3 (by rw[o7];exact hf)))
    ·subst o4;exact ht id rfl β ak (.inl ⟨by rw[iX];rfl,ar⟩)
    ·rintro i rfl c ⟨bF,h1,h2⟩;rw[ak]at h1;cases h1;change (((a6 (cF σ'.heap i _) i).qe/\_)\/((a6 (cF σ'.heap i _) i).own/\_))at h2;rw[jh,if_pos rfl]at h2;exact .inr ⟨i,rfl,β,ak,by rw[iX];exact h2⟩
    ·rintro i rfl bF h1 c h2;rw[ak]at h1;cases h1;change nt (a6 (cF σ'.heap i _) i) β c at h2;rw[jh,if_pos rfl]at h2;exact .inr ⟨i,β,rfl,ak,by rw[iX];exact h2⟩
    ·rintro i bF rfl h1 _;rw[ak]at h1;cases h1;exact j8
    rintro i rfl;refine .inr ⟨β,ak,?_⟩
    show eR φ (dq φ (cF σ'.heap i _)) w'.heap β (a6 (cF σ'.heap i _) i)
    rw[jh,if_pos rfl];have akX:∀(vs:List V) (us:List Value),VRels φ (dq φ σ'.heap) w.heap vs us->VRels φ (dq φ (cF σ'.heap i (.h3 s pre (g5 cells off gX.cells) post))) w'.heap vs us:=
     λvs us hv=>xo ⟨p6.refl φ,λc _ ht=>cR c ht,λc _ ht=>zR c (Ev c ht),by omega⟩ _ _ hv
    refine⟨hs,?_,b,cE,cw,g5 us off (a.eval x).cells.toList,ar,bA,⟨_,e,hnew,?_⟩,dn,?_,akX _ _ (Ss ji k1 off),λj u aI=>?_,?_⟩
    ·rw[Ei (by rw[gn];omega)];exact hcl
    ·have:(g5 cs.toList (β.off+pre.length * s+off) (a.eval x).cells.toList).length=cs.toList.length:=Ei (by rw[o7];simpa using hf);simp only[arQ,this,an_];exact bO
    ·refine yG _ _ _ _ _ ω (λg hg=>qW g (by simp[hg])) (λj aI=>?_) fZ;rw[z3,if_neg ω]
    ·rw[z3,o7];have yU:off+sz<=us.length:=by rw[JH];exact rE
     have hsp:=akQ (l:=us) (off:=off) (vs:=(a.eval x).cells.toList) (by rw[o7];exact yU) j;rw[hsp,o7]at aI;by_cases hin:off<=j/\j<off+sz
     ·rw[if_pos hin]at aI;rw[if_pos ω,show β.off+pre.length * s+j-(β.off+pre.length * s+off)=j-off from by omega];exact aI
     rw[if_neg hin]at aI;rw[if_neg ω];exact sF j u aI
    refine yG _ _ _ _ _ ω (λg hg=>qW g (by simp[hg])) (λj aI=>?_) yu;rw[z3,if_neg (by rw[o7,arT];omega)]
   cases ah
  cases ah
 exact h2.elim
variable {P:Program} {o:Oper} {g:Bool} {σ:St} {n:Nat} {K:fL->Prop}
theorem YM{h:Array Obj}{bl:Bool}{b:Nat}:∀(cs:List (List D)) (f sz:Nat) (G:List Nat),repE h bl b f sz cs G->∃us:List Value,us.length=cs.length * sz/\(∀(j:Nat) (u:Value),us[j]?=some u->cellAt h b (f+j)=some u)/\∀u∈us,u.oneCell'=true
 |[],f,sz,G,_=>⟨[],by simp,by simp,by simp⟩
 |c::cs,f,sz,G,r=>by
  simp only[repE]at r;obtain⟨cE,cw,rfl,ar,a4,bP⟩:=r;obtain⟨us,g_,h6,oY⟩:=Rs c f cE a4;obtain⟨vs,n4,oT,Mx⟩:=YM cs (f+sz) sz cw bP;refine⟨us++vs,by rw[eh,g_,n4,ar,e0,arT];omega,λj u aI=>?_,λu hu=>?_⟩
  ·rw[aus]at aI;split at aI
   ·exact h6 j u aI
   rename_i qL;have:=oT _ u aI;rw[show f+sz+(j-us.length)=f+j from by rw[g_,ar]at *;omega]at this;exact this
  rcases e7.1 hu with hu|hu
  ·obtain⟨j,aI,rfl⟩:=asn hu;obtain⟨Gl,_,k2⟩:=oY j c[j] us[j] (cy ω) (cy aI);exact Rt k2
  exact Mx u hu
theorem YN{w:World}(t ty e:TypeId)(i:TypeInfo)(ht:P.underlying t=some (.slice e))(hi:P.info? e=some i)(b f Gm Ru:Nat)(My:Array Value)(qd:TypeId)(hg:w.heap[b]?=some (.cells My qd (0,0)))
  (m:Nat) (oZ:Value) (jl:List Value) (hl:Builtin.lenOf oZ=(pure m:Sem Nat)) (hf:(Builtin.firstCells i.size m oZ).run P w=.ok jl.toArray w) (h1:∀u∈jl,u.oneCell') (zQ:Gm+m<=Ru) (xu:f+Gm * i.size+jl.length<=My.size) :
  (Builtin.append_ #[t,t] ty #[.slice (some ⟨b,f,none⟩) Gm Ru,oZ]).run P w=.ok (.slice (some ⟨b,f,none⟩) (Gm+m) Ru) (w.setRow b (g5 My.toList (f+Gm * i.size) jl).toArray):=by
 have b4:=run_storeCells_at P b (f+Gm * i.size) qd jl 0 My w hg (by simpa using xu) h1;simp only[ao_,ah_]at b4;simp[Builtin.append_,run_underlying ht,asw,typeInfo,hi,hl,zQ,hf,add_lit,b4,g5]
theorem Rv{w:World}{ad:Option Addr}{c sz:Nat}{ys:List (List D)}{bl:Bool}(h:ys=[]\/∃b f G,ad=some ⟨b,f,none⟩/\repE w.heap bl b f sz ys G) :
  ∃jl:List Value,jl.length=ys.length * sz/\(∀w':World,w'.heap=w.heap->(Builtin.firstCells sz ys.length (.slice ad ys.length c)).run P w'=.ok jl.toArray w')/\(∀u∈jl,u.oneCell'=true)/\
   (ys≠[]->∃b f,ad=some ⟨b,f,none⟩/\∀(j:Nat) (u:Value),jl[j]?=some u->cellAt w.heap b (f+j)=some u):=by
 by_cases hne:ys=[]
 ·subst hne;refine⟨[],by simp,λw' _=>?_,by simp,λh=>absurd rfl h⟩
  cases ad with
  |none=>rfl
  |some ad=>simp[Builtin.firstCells,loadCells,loadCellsFrom]
 rcases h with h|⟨b,f,G,rfl,h⟩
 ·exact absurd h hne
 obtain⟨us,g_,h6,oY⟩:=YM _ _ _ _ h;refine⟨us,g_,λw' xC=>?_,oY,λ_=>⟨b,f,rfl,h6⟩⟩;have:=run_loadCells_list (P:=P) w' ⟨b,f,none⟩ us (λj v aI=>by rw[add_lit,cell_eq,xC];exact h6 j v aI);rw[g_]at this;simpa [Builtin.firstCells]using this
section
variable {B:Nat->Prop} {w0:World} {a0:Nat->Prop} {φ:c5} {kp:List (V×Value)} {a:Act} {w:World}
theorem YO{w':World}{cs:Array Value}{e:TypeId}{b f sz:Nat}{zs:List (List D)}{G:List Nat}{off:Nat}(hh:w'.heap=w.heap.push (.cells cs e))(hz:repE w.heap true b f sz zs G)
  (hc:∀j,j<zs.length * sz->cs[off+j]?=cellAt w.heap b (f+j)) (bY:∀g∈G,g<w.heap.size):repE w'.heap true w.heap.size off sz zs G:=by
 refine yG zs f off sz G (by rw[hh];simp) (λg hg=>?_) (λj aI=>?_) hz
 ·rw[hh,atv];simp[auE (bY g hg)]
 rw[<-hc j aI];unfold cellAt;rw[hh];simp
def srcE(hs:List H)(sz:Nat)(y:V):Option (List (List D)×List (Nat×H)):=
 match elsOf hs y with
 |some (jm,ys)=>
  if jm=sz then
   if hP ys then some (ys,[])
   else match y with
    |.sl id _ _=>match a6 hs id with|.ay s zs true=>some (ys,[(id,.lk s zs)])|_=>none
    |_=>none
  else none
 |none=>none
theorem aiR{σ':St}(bu:σ.le σ')(r:R B w0 a0 φ σ' kp a w){sz:Nat}{y:V}{ys:List (List D)}{cons:List (Nat×H)}(he:srcE σ.heap sz y=some (ys,cons)){u:Value}(gV:VRel φ (dq φ σ'.heap) w.heap y u) :
  ∃ad c Gs,u=.slice ad ys.length c/\ys.length<=c/\(ys=[]/\Gs=[]\/∃b f,ad=some ⟨b,f,none⟩/\b<w.heap.size/\repE w.heap true b f sz ys Gs/\∀k β,φ k=some β->β.fz=some b->(a6 σ'.heap k).qe->∃off l,y=.sl k off l)/\Gs.Nodup/\
   (∀g∈Gs,∃p∈cons,d_ φ σ'.heap p.1 g)/\(cons.map (·.1)).Nodup/\(∀p∈cons,∃s zs,a6 σ'.heap p.1=.ay s zs true/\p.2=.lk s zs)/\∀p∈cons,∃off l,y=.sl p.1 off l:=by
 unfold srcE at he;split at he
 ·rename_i jm A5 hel;split at he
  ·rename_i dM;subst dM;obtain⟨ad,c,ak,ar,a4,bP⟩:=Mz bu r hel gV;have zR:∀{b f:Nat},ad=some ⟨b,f,none⟩->A5≠[]->∀k β,φ k=some β->β.fz=some b->(a6 σ'.heap k).qe->∃off l,y=.sl k off l:=by
    intro b f IZ hne k β hk hb Gn
    cases y with
    |sl id off l=>
     obtain⟨bF,ad',c',dh,bO,cz,df,h8⟩:=xD gV;rw[ak]at bO;simp only[auL]at bO;rcases h8 with h8|⟨ey,h8,oW,IF⟩
     ·exfalso;have:A5.length=0:=by omega
      exact hne (arL this)
     rw[<-bO.1,IZ]at oW;simp only[cc,Addr.mk.injEq]at oW;rw[<-oW.1]at h8;have MA:∃q,(a6 σ.heap id).els=some q:=by
      simp only[elsOf]at hel;split at hel
      ·exact⟨_,by assumption⟩
      cases hel
     obtain⟨q,MA⟩:=MA;have hx:=Gp bu MA;obtain⟨jR,dP,dO⟩:=MB r hx;rw[dh]at dP;cases dP
     cases hh:a6 σ'.heap id with
     |ek=>rw[hh]at hx;cases hx
     |box cells=>rw[hh]at hx;cases hx
     |aj _ _=>rw[hh]at hx;cases hx
     |h3 _ _ _ _=>rw[hh]at hx;cases hx
     |ay s zs ma=>
      have:=r.dQ k id b ⟨β,hk,.inl ⟨Gn,hb⟩⟩ ⟨bF,dh,.inl ⟨by rw[hh];rfl,h8⟩⟩;exact⟨off,l,by rw[this]⟩
     |lk s zs=>
      rw[hh]at dO;obtain⟨_,dO⟩:=dO;rcases dO with dO|⟨eG,G,h9,hT,Cw,Cx,Eg⟩
      ·exfalso;subst dO;rw[hh]at hx;simp only[H.els,cc]at hx;subst hx;simp only[elsOf,MA]at hel;split at hel
       ·simp only[cc,dT]at hel;exact hne (by rw[<-hel.2];simp)
       cases hel
      rw[h8]at h9;cases h9;exact(hT k β hk (.inl ⟨Gn,hb⟩)).elim
    |d x=>
     cases x with
     |sl s zs=>
      obtain⟨ad',c',dh,bO,cz,df⟩:=I0 gV;rw[ak]at dh;simp only[auL]at dh;rcases df with df|⟨ey,jb,G,df,h8,oW,IF,Q8⟩
      ·simp only[elsOf,cc,dT]at hel;exact absurd (hel.2▸df) hne
      rw[<-dh.1,IZ]at df;simp only[cc,Addr.mk.injEq]at df;exact((df.1▸oW) k β hk (.inl ⟨Gn,hb⟩)).elim
     |_=>simp[elsOf]at hel
    |eg s=>
     simp only[elsOf,cc,dT]at hel;exact absurd hel.2.symm hne
    |_=>simp[elsOf]at hel
   split at he
   ·rename_i hf;simp only[cc,dT]at he;obtain⟨rfl,rfl⟩:=he;refine⟨ad,c,[],ak,ar,?_,asd,by simp,by simp,by simp,by simp⟩;rcases bP with bP|⟨b,f,G,bP,di,lO,qf⟩
    ·exact .inl ⟨bP,rfl⟩
    by_cases hne:A5=[]
    ·exact .inl ⟨hne,rfl⟩
    exact .inr ⟨b,f,bP,di,YP _ _ _ _ hf lO,zR bP hne⟩
   split at he
   ·rename_i id off l;split at he
    ·rename_i s zs hx;simp only[cc,dT]at he;obtain⟨rfl,rfl⟩:=he;have g6:a6 σ'.heap id=.ay s zs true:=by
      rcases bu.2 id with hh|hh
      ·rw[hx]at hh;cases hh
      rw[hh,hx]
     simp only[elsOf,hx,H.els]at hel;split at hel
     ·rename_i hb;simp only[cc,dT]at hel;obtain⟨rfl,rfl⟩:=hel;obtain⟨F,dG,e9,f3⟩:=YQ r g6 hb gV;simp only[rep]at dG;obtain⟨ad',c',b5,b8,dI,lf⟩:=dG;refine⟨ad',c',F.tail,b5,b8,?_,?_,?_,by simp,by simp[g6],by simp⟩
      ·rw[ak]at b5;simp only[auL,true_and]at b5;rcases lf with lf|⟨b,f,G,k1,k2,dd,il,ka⟩
       ·exact .inl ⟨lf.1,by rw[lf.2.1];rfl⟩
       subst k2;by_cases hne:(zs.drop off).take l=[]
       ·rw[hne]at il;simp only[repE]at il;subst il;exact .inl ⟨hne,rfl⟩
       exact .inr ⟨b,f,k1,dd,il,zR (b5.1.trans k1) hne⟩
      ·exact e9.sublist (List.tail_sublist F)
      intro x zG;exact⟨_,jn.2 rfl,f3 x (List.mem_of_mem_tail zG)⟩
     cases hel
    ·cases he
   cases he
  ·cases he
 cases he
end
def Rw(id:Nat)(y:V):Bool:=match y with|.sl k _ _=>k != id|_=>true
def apE(P:Program)(hs:List H)(T:TypeId)(x y:V)(n:Nat):Option (Prop×fL):=
 match elI P T with
 |none=>none
 |some (e,sz,hU)=>
  match srcE hs sz y with
  |none=>none
  |some (ys,cons)=>
   match x with
   |.eg _=>some ((zrI P e).map asy=some sz/\0<hU/\ys.length * hU<=140737488355328,⟨.sl n 0 ys.length,[.ay sz ys true],cons⟩)
   |.sl id 0 len=>
    match a6 hs id with
    |.ay s xs true=>if s=sz then some ((zrI P e).map asy=some sz/\0<hU/\len=xs.length/\(xs.length+ys.length) * hU<=140737488355328/\Rw id y=true,⟨.sl n 0 (xs.length+ys.length),[.ay sz (xs++ys) true],(id,.ek)::cons⟩)else none
    |_=>none
   |_=>none
section
variable {B:Nat->Prop} {w0:World} {a0:Nat->Prop} {φ:c5} {kp:List (V×Value)} {a:Act} {w:World}
structure MC(σ':St)(φ:c5)(w:World)(sz:Nat)(xs:List (List D))(upd:List (Nat×H))(ad:Option Addr)(c:Nat)(G:List Nat):Prop where
 len:xs.length<=c
 sR:c<=maxLen
 zH:G.Nodup
 own:∀g∈G,∃p∈upd,d_ φ σ'.heap p.1 g
 up:upd=[]\/∃id s ys,upd=[(id,.ek)]/\a6 σ'.heap id=.ay s ys true
 Rx:(c=0/\xs=[]/\G=[])\/∃id β b,upd=[(id,.ek)]/\φ id=some β/\β.fz=some b/\ad=some ⟨b,β.off,none⟩/\c=β.cap/\β.sz=sz/\ph w.heap b (β.off+β.cap * sz)/\repE w.heap true b β.off sz xs G/\b∉G
theorem aiS{t ty e:TypeId}{i:TypeInfo}(ht:P.underlying t=some (.slice e))(hi:P.info? e=some i)(ad ad':Option Addr)(c':Nat)(w:World) :
  (Builtin.append_ #[t,t] ty #[.slice ad 0 0,.slice ad' 0 c']).run P w=.ok (.slice ad 0 0) w:=by
 have hf:(Builtin.firstCells i.size 0 (.slice ad' 0 c')).run P w=.ok #[] w:=by
  cases ad' with
  |none=>rfl
  |some ad=>simp[Builtin.firstCells,loadCells,loadCellsFrom]
 have hs:(asw e).run P w=Result.ok i.size w:=by simp[asw,typeInfo,hi]
 have hl:(Builtin.lenOf (.slice ad' 0 c')).run P w=.ok 0 w:=rfl;cases ad<;>simp[Builtin.append_,run_underlying ht,hs,hl,hf,storeCells]
theorem aiT{σ':St}(a1:R B w0 a0 φ σ' kp a w){n:Nat}(hd:a6 σ'.heap n=.ek)(hn:¬a0 n){T ty e:TypeId}{i:TypeInfo}{z:Value}(ht:P.underlying T=some (.slice e))(hi:P.info? e=some i)(hz:i.zero=some z)
  (aiU:z.cells.size=i.size) (CA:0<i.bytes) {xs ys:List (List D)} (xu:(xs.length+ys.length) * i.bytes<=140737488355328) {upd cons:List (Nat×H)} {ad ad':Option Addr} {c c':Nat} {G Gs:List Nat} (bs:MC σ' φ w i.size xs upd ad c G)
  (CB:ys=[]/\Gs=[]\/∃b f,ad'=some ⟨b,f,none⟩/\b<w.heap.size/\repE w.heap true b f i.size ys Gs) (Ry:Gs.Nodup) (Eh:∀g∈Gs,∃p∈cons,d_ φ σ'.heap p.1 g) (aiV:(cons.map (·.1)).Nodup)
  (aiW:∀p∈cons,∃s zs,a6 σ'.heap p.1=.ay s zs true/\p.2=.lk s zs) (Rz:∀p∈cons,∀q∈upd,p.1≠q.1) (auZ:∀b f,ad'=some ⟨b,f,none⟩->ys≠[]->∀q∈upd,∀β,φ q.1=some β->β.fz≠some b) :
  ∃w' du u,(Builtin.append_ #[T,T] ty #[.slice ad xs.length c,.slice ad' ys.length c']).run P w=.ok u w'/\
   R B w0 (λi=>a0 i\/(n<=i/\i<n+1)) du ⟨σ'.tmps,hupd (cF σ'.heap n (.ay i.size (xs++ys) true)) (upd++cons)⟩ kp a w'/\∀hQ h',VRel du hQ h' (.sl n 0 (xs.length+ys.length)) u:=by
 have I1:xs.length+ys.length<=maxLen:=by
  have:(xs.length+ys.length) * 1<=(xs.length+ys.length) * i.bytes:=Nat.mul_le_mul_left _ CA;simp only[maxLen];omega
 have YR:∀p∈upd,p.2=.ek/\∃s ys,a6 σ'.heap p.1=.ay s ys true:=by
  intro p hp;rcases bs.up with h|⟨id,s,A5,h,h2⟩
  ·rw[h]at hp;cases hp
  rw[h]at hp;simp only[jn]at hp;subst hp;exact⟨rfl,s,A5,h2⟩
 have hnd:((upd++cons).map (·.1)).Nodup:=by
  rw[arO];refine al_.2 ⟨?_,aiV,?_⟩
  ·rcases bs.up with h|⟨id,s,A5,h,h2⟩<;>rw[h]<;>simp
  intro x hx y hy pE;obtain⟨p,hp,rfl⟩:=aa_.1 hx;obtain⟨q,hq,rfl⟩:=aa_.1 hy;exact Rz q hq p hp pE.symm
 have hu:∀p∈upd++cons,∃sz xs,a6 σ'.heap p.1=.ay sz xs true/\(p.2=.ek\/p.2=.lk sz xs):=by
  intro p hp;rcases e7.1 hp with hp|hp
  ·obtain⟨h1,s,A5,h2⟩:=YR p hp;exact⟨s,A5,h2,.inl h1⟩
  obtain⟨s,zs,h1,h2⟩:=aiW p hp;exact⟨s,zs,h1,.inr h2⟩
 have aiX:∀x∈G,∀y∈Gs,x≠y:=by
  rintro x hx y hy rfl;obtain⟨p,dP,dO⟩:=bs.own x hx;obtain⟨q,dh,bO⟩:=Eh x hy;exact Rz q dh p dP (a1.dQ _ _ _ bO dO)
 have MD:∀g∈G,g<w.heap.size:=λg hg=>by obtain⟨p,_,dO⟩:=bs.own g hg;exact d_.lt a1 dO
 have YS:∀g∈Gs,g<w.heap.size:=λg hg=>by obtain⟨p,_,dO⟩:=Eh g hg;exact d_.lt a1 dO
 have YT:(G++Gs).Nodup:=al_.2 ⟨bs.zH,Ry,aiX⟩;have CC:∀b∈G++Gs,w.heap.size<=b\/∃p∈upd++cons,d_ φ σ'.heap p.1 b:=by
  intro b hb;rcases e7.1 hb with hb|hb
  ·obtain⟨p,dP,dO⟩:=bs.own b hb;exact .inr ⟨p,asm _ dP,dO⟩
  obtain⟨p,dP,dO⟩:=Eh b hb;exact .inr ⟨p,List.mem_append_right _ dP,dO⟩
 have aiY:ys=[]\/∃b f G,ad'=some ⟨b,f,none⟩/\repE w.heap true b f i.size ys G:=by
  rcases CB with h|⟨b,f,h1,_,h2⟩
  ·exact .inl h.1
  exact .inr ⟨b,f,Gs,h1,h2⟩
 obtain⟨jl,iM,lP,rm,sS⟩:=Rv (P:=P) (c:=c') aiY;by_cases zQ:xs.length+ys.length<=c
 ·rcases bs.Rx with ⟨h1,h2,ao⟩|⟨id,β,b,eH,eG,eX,mW,jS,LU,LW,F1,AY⟩
  ·subst h1;subst h2;subst ao;have aH:ys=[]:=arL (by simp at zQ;simpa using zQ);subst aH;have xp:Gs=[]:=by
    rcases CB with h|⟨b,f,_,_,h⟩
    ·exact h.2
    simpa [repE]using h
   refine⟨w,el φ n ⟨none,0,0,i.size,[]⟩,.slice ad 0 0,aiS ht hi ad ad' c' w,?_,λhQ h'=>?_⟩
   ·exact ME a1 hd hn hnd hu rfl (fH _) a1.hR (λ_ _ _=>rfl) (.inl ⟨rfl,rfl,rfl,rfl⟩) (λb hb=>by cases hb) (λb hb=>by cases hb) asd (λb hb=>by cases hb)
   simp only[VRel];exact⟨⟨none,0,0,i.size,[]⟩,ad,0,by simp[el],rfl,by decide,.inl ⟨rfl,rfl,rfl⟩⟩
  ·subst mW;obtain⟨cs,qd,aZ,bA⟩:=LW;have aiZ:(xs.length+ys.length) * i.size<=β.cap * i.size:=ase _ (arP zQ (asN jS));have Gq:(xs.length+ys.length) * i.size=xs.length * i.size+ys.length * i.size:=arT _ _ _;have MF:β.off+xs.length * i.size+jl.length<=cs.size:=by rw[iM];omega
   have gW:=YN (P:=P) (w:=w) T ty e i ht hi b β.off xs.length c cs qd aZ ys.length (.slice ad' ys.length c') jl rfl (lP w rfl) rm zQ MF;have MG:(id,H.ek)∈upd:=by rw[eH];simp
   obtain⟨_,au0,au1,ai0⟩:=YR _ MG;have sT:d_ φ σ'.heap id b:=⟨β,eG,.inl ⟨by rw[ai0];rfl,eX⟩⟩;have RA:∀ey,ey≠b->(w.setRow b (g5 cs.toList (β.off+xs.length * i.size) jl).toArray).heap[ey]?=w.heap[ey]?:=λey iF=>setRow_other w b ey _ iF;have qQ:=MH (f:=β.off+xs.length * i.size) aZ MF;have RB:∀g∈G++Gs,g≠b:=by
    rintro g hg rfl;rcases e7.1 hg with hg|hg
    ·exact AY hg
    obtain⟨p,dP,dO⟩:=Eh g hg;exact Rz p dP _ MG (a1.dQ _ _ _ dO sT)
   refine⟨_,el φ n {β with eb:=G++Gs},_,gW,?_,λhQ h'=>?_⟩
   ·refine ME a1 hd hn hnd hu (β:={β with eb:=G++Gs}) LU (by rw[setRow_size];exact fH _) (I2 a1.hR (a1.gH _ _ sT) aZ (I3 MF)) (λey _ iF=>RA ey λe=>?_) (.inr ⟨b,eX,?_,?_,?_⟩) (λey iF=>.inr ⟨(id,.ek),asm _ MG,rfl,β,eG,iF⟩) CC YT (λey iF nd=>?_)
    ·exact iF (id,.ek) (asm _ MG) rfl β eG (e▸eX)
    ·simp only[eh];omega
    ·refine⟨_,qd,setRow_heap w b cs _ qd (0,0) aZ,?_⟩;have:=Ei (l:=cs.toList) (off:=β.off+xs.length * i.size) (vs:=jl) (by simpa using MF);simp only[arQ,this,an_];exact bA
    ·refine(repE_append _ _ _ _).2 ⟨G,Gs,rfl,?_,?_⟩
     ·change repE _ true b β.off i.size xs G;refine yG xs β.off β.off i.size G (by rw[setRow_size];exact fH _) (λg hg=>RA g (RB g (by simp[hg]))) (λj aI=>?_) F1;rw[qQ,if_neg ω]
     rcases CB with ⟨rfl,rfl⟩|⟨ey,jb,dW,cT,dS⟩
     ·simp[repE]
     change repE _ true b (β.off+xs.length * i.size) i.size ys Gs;refine yG ys jb _ i.size Gs (by rw[setRow_size];exact fH _) (λg hg=>RA g (RB g (by simp[hg]))) (λj aI=>?_) dS;rw[qQ,if_pos ⟨by omega,by rw[iM];omega⟩,show β.off+xs.length * i.size+j-(β.off+xs.length * i.size)=j from by omega];have hne:ys≠[]:=λh=>by rw[h]at aI;simp at aI
     obtain⟨YU,YV,h9,hT⟩:=sS hne;rw[dW]at h9;simp only[cc,Addr.mk.injEq]at h9;obtain⟨rfl,rfl,_⟩:=h9;have o0:j<jl.length:=by rw[iM];exact aI
     rw[hT j jl[j] (cy o0),cy o0]
    simp only at iF nd;rw[eX]at iF;cases iF;exact RB _ nd rfl
   simp only[VRel];refine⟨{β with eb:=G++Gs},_,c,by simp[el],rfl,bs.sR,.inr ⟨b,eX,by simp,zQ,by simpa using jS⟩⟩
 have yH:xs=[]\/∃b f G,ad=some ⟨b,f,none⟩/\repE w.heap true b f i.size xs G:=by
  rcases bs.Rx with ⟨h1,h2,ao⟩|⟨id,β,b,eH,eG,eX,mW,jS,LU,LW,F1,AY⟩
  ·exact .inl h2
  exact .inr ⟨b,_,G,mW,F1⟩
 obtain⟨zS,dQ,eI,gH,ai1⟩:=Rv (P:=P) (c:=c) yH;have ai2:∃e',P.underlying T=some (.slice e'):=⟨e,ht⟩;have a5:Src P i.size T (.slice ad' ys.length c') ys.length jl w:=⟨.inl ai2,λ_=>rfl,lP w rfl,lP w.drew rfl,iM,rm⟩;have gW:=run_append_grow_src (P:=P) w T T ty e i z ht hi hz ad xs.length c zS (eI w.drew rfl) _ ys.length jl a5 ω (by simp only[maxLen]at I1;omega) (growslice_fits ω xu);have qL:=grownCap_ge w (xs.length+ys.length) c e;have bu:=grownCap_le_maxLen w (xs.length+ys.length) c e I1;generalize grownCap w (xs.length+ys.length) c e=gc at gW qL bu;have zT:(w.drew.alloc (.cells ((zS++jl).toArray++Builtin.zeroCells z.cells (gc-(xs.length+ys.length))) e)).heap=w.heap.push (.cells ((zS++jl).toArray++Builtin.zeroCells z.cells (gc-(xs.length+ys.length))) e):=rfl;have YW:∀j,j<(zS++jl).length->((zS++jl).toArray++Builtin.zeroCells z.cells (gc-(xs.length+ys.length)))[j]?=(zS++jl)[j]?:=by
  intro j aI;rw[Array.getElem?_append_left (by simpa using aI)];simp
 refine⟨_,el φ n ⟨some w.heap.size,0,gc,i.size,G++Gs⟩,_,gW,?_,λhQ h'=>?_⟩
 ·refine ME a1 hd hn hnd hu rfl (by rw[zT];simp) ((MI (a1.hR.drew) a1.bs _)) (λey iF _=>by rw[zT,atv];simp[auE iF]) (.inr ⟨w.heap.size,rfl,?_,?_,?_⟩) (λey iF=>.inl (by cases iF;exact fH _)) CC YT (λey iF nd=>?_)
  ·simp only[eh];exact qL
  ·refine⟨((zS++jl).toArray++Builtin.zeroCells z.cells (gc-(xs.length+ys.length))),e,by rw[zT];simp,?_⟩;simp only[Array.size_append,arQ,eh,dQ,iM,size_zeroCells,aiU,asA];rw[<-arT,<-arT];exact ase _ (show gc<=_ from by omega)
  ·refine(repE_append _ _ _ _).2 ⟨G,Gs,rfl,?_,?_⟩
   ·rcases bs.Rx with ⟨h1,rfl,rfl⟩|⟨id,β,b,eH,eG,eX,mW,jS,LU,LW,F1,AY⟩
    ·simp[repE]
    refine YO zT F1 (λj aI=>?_) MD;have hne:xs≠[]:=λh=>by rw[h]at aI;simp at aI
    obtain⟨YU,YV,h9,hT⟩:=ai1 hne;rw[mW]at h9;simp only[cc,Addr.mk.injEq]at h9;obtain⟨rfl,rfl,_⟩:=h9;have o0:j<zS.length:=by rw[dQ];exact aI
    rw[asA,YW j (by simp;omega),arF o0,cy o0,hT j zS[j] (cy o0)]
   rcases CB with ⟨rfl,rfl⟩|⟨ey,jb,dW,cT,dS⟩
   ·simp[repE]
   change repE _ true _ (0+xs.length * i.size) i.size ys Gs;refine YO zT dS (λj aI=>?_) YS;have hne:ys≠[]:=λh=>by rw[h]at aI;simp at aI
   obtain⟨YU,YV,h9,hT⟩:=sS hne;rw[dW]at h9;simp only[cc,Addr.mk.injEq]at h9;obtain⟨rfl,rfl,_⟩:=h9;have o0:j<jl.length:=by rw[iM];exact aI
   rw[YW _ (by simp;omega),ak_ ω,show 0+xs.length * i.size+j-zS.length=j from by omega,cy o0,hT j jl[j] (cy o0)]
  simp only at iF nd;cases iF
  rcases e7.1 nd with h|h
  ·exact azW _ (MD _ h)
  exact azW _ (YS _ h)
 simp only[VRel];exact⟨⟨some w.heap.size,0,gc,i.size,G++Gs⟩,_,gc,by simp[el],rfl,bu,.inr ⟨w.heap.size,rfl,by simp,qL,by simp⟩⟩
end
theorem ok_append{c:Call}{x y:Operand}{T:TypeId}(aG:o.op=.call c)(hc:c={callee:=.builtin .append,args:=#[x,y],argTypes:=#[T,T]})
  (h:evg g (σ.ev x) λa=>evg g (σ.ev y) λb=>match apE P σ.heap T a b n with|some (p,r)=>p/\K r|none=>False):∃r,iY P o g σ n r/\K r:=by
 subst hc;obtain⟨m6,h1,hx⟩:=hX h;obtain⟨Ej,h2,hy⟩:=hX h1;clear h h1;split at h2
 ·rename_i p r ah;obtain⟨hp,cg⟩:=h2;refine⟨r,?_,cg⟩;intro σ' bu hd B w0 a0 φ kp a w l0 a1 hg pF qR hk;have dY:=hx _ _ _ _ hg (g' bu a1 x);have mF:=hy _ _ _ _ hg (g' bu a1 y);unfold apE at ah;split at ah
  ·cases ah
  rename_i e sz hU hel;obtain⟨i,ht,hi,dM,CA⟩:=yI hel;split at ah
  ·cases ah
  rename_i ys cons CB;obtain⟨ad',c',Gs,dW,cT,dS,eW,nb,nR,nS,nT⟩:=aiR bu a1 CB mF;have key:∀{xs:List (List D)} {upd:List (Nat×H)} {ad:Option Addr} {c:Nat} {G:List Nat},(zrI P e).map asy=some sz->0<hU->(xs.length+ys.length) * hU<=140737488355328->a.eval x=.slice ad xs.length c->MC σ' φ w sz xs upd ad c G->
    (∀q∈upd,∀off l,Ej≠.sl q.1 off l)->(∀q∈upd,(a6 σ'.heap q.1).qe=true)->r=⟨.sl n 0 (xs.length+ys.length),[.ay sz (xs++ys) true],upd++cons⟩->o.wp P a w pF qR:=by
   intro xs upd ad c G hz hb hf hu yH hq MJ hr;subst hr
   cases sU:zrI P e with
   |none=>rw[sU]at hz;cases hz
   |some vs=>
    rw[sU]at hz;obtain⟨eL,z,fw,mo,mT⟩:=Ek sU;rw[hi]at fw;cases fw;have xE:z.cells.size=i.size:=by
     have:=mG _ _ (mT φ (λ_=>True) #[]);simp only[asj,cc]at hz;rw[dM,<-hz,<-this];simp
    subst dM;obtain⟨w',du,u,ak,ar,a4⟩:=aiT (P:=P) (ty:=o.type) a1 (n:=n) (hd n (fH _) ξ) (l0 n (fH _) ξ) ht hi mo xE (by rw[CA];exact hb) (by rw[CA];exact hf) yH (ad':=ad') (c':=c') (Gs:=Gs)
     (by
      rcases dS with dS|⟨b,f,h9,hT,Cw,_⟩
      ·exact .inl dS
      exact .inr ⟨b,f,h9,hT,Cw⟩) eW nb nR nS
     (λp hp q si he=>by
      obtain⟨off,l,h1⟩:=nT p hp;exact hq q si off l (by rw[h1,he]))
     (λb f h1 h2 q si β ao aH=>by
      rcases dS with dS|⟨ey,jb,h9,hT,Cw,Cx⟩
      ·exact h2 dS.1
      rw[h9]at h1;simp only[cc,Addr.mk.injEq]at h1;obtain⟨off,l,bR⟩:=Cx q.1 β ao (by rw[h1.1];exact aH) (MJ q si);exact hq q si off l bR)
    unfold Oper.wp;have gW:(execOp a.eval o).run P w=.ok (.value u) w':=by
     unfold execOp;rw[aG];simp[resolve,invoke,builtin,hu,dW,ak]
    rw[gW,Oper.upon_value];exact hk _ _ _ (o1 ar o.dst (a4 _ _))
  split at ah
  ·rename_i s;simp only[cc,dT]at ah;obtain⟨rfl,rfl⟩:=ah;simp only[VRel]at dY;refine key (xs:=[]) (upd:=[]) (G:=[]) hp.1 hp.2.1 (by simpa using hp.2.2) dY ⟨by simp,by decide,asd,by simp,.inl rfl,.inl ⟨rfl,rfl,rfl⟩⟩ ξ ξ ξ
  ·rename_i id len;split at ah
   ·rename_i s xs iZ;split at ah
    ·rename_i hs;subst hs;simp only[cc,dT]at ah;obtain⟨rfl,rfl⟩:=ah;obtain⟨dP,dO,ih,mb,xF⟩:=hp;have g6:a6 σ'.heap id=.ay s xs true:=by
      rcases bu.2 id with hh|hh
      ·rw[iZ]at hh;cases hh
      rw[hh,iZ]
     obtain⟨β,ad,qS,dh,bO,cz,df,h8⟩:=xD dY;have yH:∃G,MC σ' φ w s xs [(id,.ek)] ad qS G:=by
      have F_:([(id,H.ek)]:List (Nat×H))=[]\/∃rO s ys,[(id,H.ek)]=[(rO,H.ek)]/\a6 σ'.heap rO=.ay s ys true:=.inr ⟨id,s,xs,rfl,g6⟩;have MK:qS=0/\len=0->∃G,MC σ' φ w s xs [(id,.ek)] ad qS G:=λh0=>
       ⟨[],by omega,df,asd,by simp,F_,.inl ⟨h0.1,arL ω,rfl⟩⟩
      rcases h8 with h8|⟨b,h8,oW,IF⟩
      ·exact MK ⟨h8.1,h8.2.1⟩
      rcases a1.hp id with je|⟨bF,ak,hr⟩
      ·rw[g6]at je;cases je
      rw[dh]at ak;cases ak;rw[g6]at hr;simp only[eR]at hr;obtain⟨sV,hr⟩:=hr;rcases hr with hr|⟨ey,G,aZ,bA,c9,dn,fZ,ji⟩
      ·rw[h8]at hr;cases hr.1
      rw[h8]at aZ;cases aZ;have j8:=a1.eI id β dh (by rw[g6];rfl);have RC:=fZ trivial;refine⟨G,by omega,df,by rw[RC];exact j8.1,λg hg=>⟨_,jn.2 rfl,β,dh,.inr ⟨by rw[g6];rfl,by rw[<-RC];exact hg⟩⟩,F_,.inr ⟨id,β,b,rfl,dh,h8,by rw[oW];simp,by omega,sV,c9,dn,by rw[RC];exact j8.2 b h8⟩⟩
     obtain⟨G,yH⟩:=yH;refine key dP dO mb (by rw[<-ih];exact bO) yH ?_ ?_ rfl
     ·intro q hq off l hv;simp only[jn]at hq;subst hq;subst hv;simp[Rw]at xF
     intro q hq;simp only[jn]at hq;subst hq;rw[g6];rfl
    ·cases ah
   cases ah
  cases ah
 exact h2.elim
variable {P:Program} {o:Oper} {g:Bool} {σ:St} {n:Nat} {K:fL->Prop}
def chunk(sz:Nat):Nat->List D->List (List D)
 |0,_=>[]
 |k+1,ds=>ds.take sz::chunk sz k (ds.drop sz)
theorem M3(sz:Nat):∀(k:Nat) (ds:List D),(chunk sz k ds).length=k
 |0,_=>rfl
 |k+1,ds=>by simp[chunk,M3 sz k]
theorem ZL{h:Array Obj}{bl:Bool}{b sz:Nat}:∀(k f:Nat) (ds:List D) (G:List Nat),ds.length=k * sz->repC h bl b f ds G->repE h bl b f sz (chunk sz k ds) G
 |0,f,ds,G,hl,r=>by
  have:ds=[]:=arL (by simpa using hl);subst this;simpa [chunk,repE,repC]using r
 |k+1,f,ds,G,hl,r=>by
  rw[arT,aAm]at hl;have e:ds=ds.take sz++ds.drop sz:=(ad_ sz ds).symm;rw[e]at r;obtain⟨cE,cw,rfl,aZ,bA⟩:=(Et _ _ _ _).1 r;have yq:(ds.take sz).length=sz:=by simp;omega
  rw[yq]at bA;simp only[chunk,repE];exact⟨cE,cw,rfl,yq,aZ,ZL k (f+sz) _ cw (by simp;omega) bA⟩
def bsE(P:Program)(hs:List H)(T:TypeId)(len:Nat)(hI:List (Nat×V))(n:Nat):Option (Prop×fL):=
 match elI P T with
 |some (e,sz,_)=>
  match vfill (λi=>some (i * sz,sz)) (ea (len * sz) .an) hI with
  |some cells=>
   match toDs hs cells with
   |some (ds,cH)=>some ((zrI P e).isSome/\ds.length=len * sz/\cH.Nodup/\len * sz<=16777216/\len<=maxLen,⟨.sl n 0 len,[.ay sz (chunk sz len ds) true],cH.map λi=>(i,match a6 hs i with|.ay s ys _=>.lk s ys|x=>x)⟩)
   |none=>some (((zrI P e).isSome/\sz=1)/\len<=16777216/\len<=maxLen,⟨.sl n 0 len,[.box cells],[]⟩)
  |none=>none
 |none=>none
theorem ZM{φ:c5}{T:Nat->Prop}{h:Array Obj}(us:List Value):VRels φ T h (ea us.length .an) us:=by
 refine CE _ _ ξ λt v u ak ar=>?_;rw[List.getElem?_replicate]at ak;split at ak
 ·cases ak;simp[VRel]
 cases ak
theorem ZN(w:World){t e:TypeId}(len:Nat)(hI:Array (Nat×Value)){yT:TypeInfo}{z:Value}(hu:P.underlying t=some (.slice e))(GN:P.info? e=some yT)(hz:yT.zero=some z)
  (ayu:len * yT.size<=16777216):∃us:List Value,us.length=len * yT.size/\∀cells,Instr.fill (λi=>some (i * yT.size,yT.size)) us.toArray hI.toList=some cells->
  (Instr.buildSlice t len hI).run P w=.ok (.slice (some ⟨w.heap.size,0,none⟩) len len) (w.alloc (.cells cells e)):=by
 by_cases h0:len * yT.size=0
 ·refine⟨[],by simp[h0],λcells h1=>?_⟩;have hs:(asw e).run P w=Result.ok yT.size w:=by simp[asw,typeInfo,GN]
  simp[Instr.buildSlice,run_underlying hu,hs,h0,Array.range_zero',h1,newRow]
 refine⟨((Array.range (len * yT.size)).map (z.cells[· % z.cells.size]!)).toList,by simp,λcells h=>?_⟩;exact run_buildSlice w t e len hI cells yT z hu GN hz ω h0 (by rw[<-h,asH])
section
variable {B:Nat->Prop} {w0:World} {a0:Nat->Prop} {φ:c5} {kp:List (V×Value)} {a:Act} {w:World}
theorem ZO{σ':St}(a1:R B w0 a0 φ σ' kp a w){n:Nat}(hd:a6 σ'.heap n=.ek)(hn:¬a0 n){upd:List (Nat×H)}(hnd:(upd.map (·.1)).Nodup)
  (hu:∀p∈upd,∃sz xs,a6 σ'.heap p.1=.ay sz xs true/\p.2=.lk sz xs) {cs:Array Value} {e:TypeId} {sz:Nat} {xs:List (List D)} {G:List Nat} (hcs:cs.size=xs.length * sz)
  (Il:repE (w.heap.push (.cells cs e)) true w.heap.size 0 sz xs G) (Ry:G.Nodup) (Eh:∀b∈G,∃p∈upd,d_ φ σ'.heap p.1 b) (R8:xs.length<=maxLen) :
  ∃du,R B w0 (λi=>a0 i\/(n<=i/\i<n+1)) du ⟨σ'.tmps,hupd (cF σ'.heap n (.ay sz xs true)) upd⟩ kp a (w.alloc (.cells cs e))/\
   ∀hQ h',VRel du hQ h' (.sl n 0 xs.length) (.slice (some ⟨w.heap.size,0,none⟩) xs.length xs.length):=by
 have zT:(w.alloc (.cells cs e)).heap=w.heap.push (.cells cs e):=rfl;have MD:∀b∈G,b<w.heap.size:=λb hb=>by obtain⟨p,_,h⟩:=Eh b hb;exact d_.lt a1 h
 refine⟨el φ n ⟨some w.heap.size,0,xs.length,sz,G⟩,?_,λhQ h'=>?_⟩
 ·refine ME a1 hd hn hnd (λp hp=>by obtain⟨s,ys,h1,h2⟩:=hu p hp;exact⟨s,ys,h1,.inr h2⟩) rfl (by rw[zT];simp) (MI a1.hR a1.bs _) (λey iF _=>by rw[zT,atv];simp[auE iF]) (.inr ⟨w.heap.size,rfl,fH _,?_,?_⟩) (λey iF=>.inl (by cases iF;exact fH _))
   (λb hb=>.inr (Eh b hb)) Ry (λey iF nd=>?_)
  ·exact⟨cs,e,by rw[zT];simp,by simp[hcs]⟩
  ·rw[zT];exact Il
  simp only at iF nd;cases iF
  exact azW _ (MD _ nd)
 simp only[VRel];exact⟨⟨some w.heap.size,0,xs.length,sz,G⟩,_,xs.length,by simp[el],rfl,R8,.inr ⟨w.heap.size,rfl,by simp,fH _,by simp⟩⟩
end
theorem ok_buildSlice{T:TypeId}{len:Nat}{hI:Array (Nat×Operand)}(aG:o.op=.buildSlice T len hI)(h:evParts g σ hI.toList λps=>match bsE P σ.heap T len ps n with|some (p,r)=>p/\K r|none=>False) :
  ∃r,iY P o g σ n r/\K r:=by
 obtain⟨ps,h1,hx⟩:=R9 _ _ h;clear h;split at h1
 ·rename_i p r ah;obtain⟨hp,cg⟩:=h1;unfold bsE at ah;split at ah
  ·rename_i e sz hU hel;split at ah
   ·rename_i cells hf;split at ah
    ·rename_i ds cH xr;simp only[cc,dT]at ah;obtain⟨rfl,rfl⟩:=ah;obtain⟨dP,dO,ih,mb,xF⟩:=hp;refine⟨_,?_,cg⟩;intro σ' bu hd B w0 a0 φ kp a w l0 a1 hg pF qR hk;obtain⟨i,hu,hi,dM,_⟩:=yI hel;subst dM;obtain⟨vs,sU⟩:=asf.1 dP;obtain⟨eL,z,fw,mo,_⟩:=Ek sU;rw[hi]at fw;cases fw;have hps:=hx bu a1 hg;obtain⟨us,yU,gW⟩:=ZN (P:=P) w len (hI.map λ(j,x)=>(j,a.eval x)) hu hi mo mb;obtain⟨c6,k1,k2⟩:=M4 _ ps _ _ us _ hf (by rw[<-yU];exact ZM us) hps;have gW:=gW c6.toArray (by rw[atx];exact k1);obtain⟨G,b5,b8,dI,lf⟩:=MT a1 cells ds cH c6 (R_ bu _ _ xr) ih k2;have hl:c6.length=ds.length:=Eo _ _ _ b5;have F_:∀p∈cH.map (λi=>(i,match a6 σ.heap i with|.ay s ys _=>H.lk s ys|x=>x)),∃sz xs,a6 σ'.heap p.1=.ay sz xs true/\p.2=.lk sz xs:=by
      intro p hp;obtain⟨j,Ep,rfl⟩:=aa_.1 hp;obtain⟨s,ys,q⟩:=R' _ _ _ xr j Ep;refine⟨s,ys,?_,by simp only[q]⟩;rcases bu.2 j with hh|hh
      ·rw[q]at hh;cases hh
      rw[hh,q]
     obtain⟨du,ak,ar⟩:=ZO (cs:=c6.toArray) (e:=e) (sz:=i.size) (xs:=chunk i.size len ds) (G:=G) a1 (n:=n) (hd n (fH _) ξ) (l0 n (fH _) ξ)
      (upd:=cH.map (λi=>(i,match a6 σ.heap i with|.ay s ys _=>H.lk s ys|x=>x))) (by
       rw[auf];have:((λx:Nat×H=>x.1)∘λi=>(i,match a6 σ.heap i with|.ay s ys _=>H.lk s ys|x=>x))=(λi:Nat=>i):=rfl;rw[this,aAC];exact ih) F_ (by simp[M3,hl,dO])
      (by
       refine ZL len 0 ds G dO (Er ds c6 0 G (R5 ξ ds c6 G (λx hx=>?_) b5) λj u aI=>?_)
       ·obtain⟨q,dh,bO⟩:=dI x hx;rw[atv];simp[auE (d_.lt a1 bO)]
       unfold cellAt;simp[aI]) b8
      (λx hx=>by
       obtain⟨q,dh,bO⟩:=dI x hx;exact⟨_,aa_.2 ⟨q,dh,rfl⟩,bO⟩) (by rw[M3];exact xF)
     unfold Oper.wp;have n':(execOp a.eval o).run P w=.ok (.value (.slice (some ⟨w.heap.size,0,none⟩) len len)) (w.alloc (.cells c6.toArray e)):=by
      unfold execOp;rw[aG];simp[gW]
     rw[n',Oper.upon_value];rw[M3]at ar;exact hk _ _ _ (o1 ak o.dst (ar _ _))
    ·simp only[cc,dT]at ah;obtain⟨rfl,rfl⟩:=ah;obtain⟨⟨dP,ih⟩,mb,xF⟩:=hp;subst ih;refine⟨_,?_,cg⟩;intro σ' bu hd B w0 a0 φ kp a w l0 a1 hg pF qR hk;obtain⟨i,hu,hi,dM,_⟩:=yI hel;obtain⟨vs,sU⟩:=asf.1 dP;obtain⟨eL,z,fw,mo,_⟩:=Ek sU;rw[hi]at fw;cases fw;have hps:=hx bu a1 hg;obtain⟨us,yU,gW⟩:=ZN (P:=P) w len (hI.map λ(j,x)=>(j,a.eval x)) hu hi mo (by rw[dM];omega);rw[dM]at yU gW;obtain⟨c6,k1,k2⟩:=M4 _ ps _ _ us _ hf (by rw[<-yU];exact ZM us) hps;have gW:=gW c6.toArray (by rw[atx];exact k1);have h1:=ZD len 1 a1 (n:=n) (hd n (fH _) ξ) (l0 n (fH _) ξ) (cells:=cells) (cs:=c6.toArray) (e:=e) k2 (w':=w.alloc (.cells c6.toArray e)) rfl (MI a1.hR a1.bs _);unfold Oper.wp;have n':(execOp a.eval o).run P w=.ok (.value (.slice (some ⟨w.heap.size,0,none⟩) len len)) (w.alloc (.cells c6.toArray e)):=by
      unfold execOp;rw[aG];simp[gW]
     rw[n',Oper.upon_value];refine hk _ _ _ (o1 h1 o.dst ?_);simp only[VRel];exact⟨⟨some w.heap.size,0,len,1,[]⟩,_,len,by simp[el],rfl,xF,.inr ⟨w.heap.size,rfl,by simp,fH _,by simp⟩⟩
   cases ah
  cases ah
 exact h1.elim
def zD:V->Option D
 |.d x=>if x.flat then some x else none
 |.eg s=>some (.sl s [])
 |_=>none
def zDs:List V->Option (List D)
 |[]=>some []
 |v::vs=>match zD v,zDs vs with|some d,some ds=>some (d::ds)|_,_=>none
theorem Sa{φ:c5}{T:Nat->Prop}{h h':Array Obj}{bl:Bool}:∀(vs:List V) (ds:List D) (us:List Value),zDs vs=some ds->VRels φ T h vs us->reps h' bl ds us []
 |[],ds,us,e,r=>by
  simp only[zDs,cc]at e;subst e;simp only[VRels]at r;subst r;simp[reps]
 |v::vs,ds,us,e,r=>by
  simp only[VRels]at r;obtain⟨u,c6,rfl,aZ,bA⟩:=r;simp only[zDs]at e;split at e
  ·rename_i d rP ak ar;cases e
   simp only[reps];refine⟨u,c6,[],[],rfl,rfl,?_,Sa vs rP c6 ar bA⟩;unfold zD at ak;split at ak
   ·split at ak
    ·rename_i x hf;cases ak
     simp only[VRel]at aZ;obtain⟨F,aZ,_⟩:=aZ;have:=I8 hf aZ;subst this;exact MM hf aZ
    cases ak
   ·cases ak
    simp only[VRel]at aZ;subst aZ;exact⟨none,0,rfl,by simp,by decide,.inl ⟨rfl,rfl,λ_=>rfl⟩⟩
   cases ak
  cases e
theorem Sb{h:Array Obj}{b sz:Nat}{ds:List D}(hl:ds.length=sz):∀(m f:Nat),(∀i,i<m->repC h true b (f+i * sz) ds [])->repE h true b f sz (ea m ds) []
 |0,f,_=>by simp[repE]
 |m+1,f,r=>by
  rw[atu];simp only[repE];refine⟨[],[],rfl,hl,by simpa using r 0 ω,Sb hl m (f+sz) λi hi=>?_⟩;have:=r (i+1) ω;rw[arT,aAm]at this;rw[show f+sz+i * sz=f+(i * sz+sz)from by omega];exact this
def mkE(P:Program)(T:TypeId)(i:Int)(n:Nat):Option (Prop×fL):=
 match elI P T with
 |some (e,sz,hU)=>
  match zrI P e with
  |some zs=>
   match zDs zs with
   |some ds=>some (ds.length=sz/\0<sz/\0<=i/\(hU:Int) * i<=281474976710656/\i.toNat<=maxLen,⟨.sl n 0 i.toNat,[.ay sz (ea i.toNat ds) true],[]⟩)
   |none=>none
  |none=>none
 |none=>none
theorem ajq{T:TypeId}{x:Operand}(aG:o.op=.makeSlice T x x)(h:evg g (σ.ev x) λv=>asI v λ_ i=>match mkE P T i n with|some (p,r)=>p/\K r|none=>False):∃r,iY P o g σ n r/\K r:=by
 obtain⟨m6,h1,hx⟩:=hX h;obtain⟨k,c,rfl,h1⟩:=CP h1;simp only[asI]at h1;split at h1
 ·rename_i p r ah;obtain⟨hp,cg⟩:=h1;unfold mkE at ah;split at ah
  ·rename_i e sz hU hel;split at ah
   ·rename_i zs sU;split at ah
    ·rename_i ds xr;simp only[cc,dT]at ah;obtain⟨rfl,rfl⟩:=ah;obtain⟨dP,dO,ih,mb,xF⟩:=hp;refine⟨_,?_,cg⟩;intro σ' bu hd B w0 a0 φ kp a w l0 a1 hg pF qR hk;obtain⟨i,hu,hi,dM,CA⟩:=yI hel;subst dM;subst CA;obtain⟨eL,z,fw,mo,mT⟩:=Ek sU;rw[hi]at fw;cases fw;have GO:=λh':Array Obj=>Sa (h':=h') (bl:=true) _ _ _ xr (mT φ (λ_=>True) #[]);have xE:z.cells.size=i.size:=by rw[<-an_,Eo _ _ _ (GO #[]),dP]
     have dY:=(o5 (hx _ _ _ _ hg (g' bu a1 x))).1;have rK:=run_make (P:=P) w T e i z hu hi mo k k c c ih (Int.le_refl _) mb (by simp only[maxLen]at xF;omega);obtain⟨du,ak,ar⟩:=ZO (cs:=madeCells z.cells (c.toNat * i.size)) (e:=e) (sz:=i.size) (xs:=ea c.toNat ds) (G:=[]) a1 (n:=n) (hd n (fH _) ξ) (l0 n (fH _) ξ)
      (upd:=[]) ξ ξ (by simp[size_madeCells])
      (by
       refine Sb dP c.toNat 0 λm hm=>Er ds z.cells.toList _ [] (GO _) λj u aI=>?_;have Bg:j<i.size:=by
        rw[<-xE];rcases asv j z.cells.size with h|h
        ·exact h
        rw[arX (by simpa using h)]at aI;cases aI
       have hlt:m * i.size+j<c.toNat * i.size:=by
        have:(m+1) * i.size<=c.toNat * i.size:=ase _ hm;rw[arT]at this;omega
       have AW:(m * i.size+j) % z.cells.size=j:=by rw[xE,azJ,aAq,asb Bg]
       have o0:j<z.cells.size:=by rw[xE];exact Bg
       unfold cellAt;simp[madeCells,hlt,AW];rw[ac_]at aI;rw[arZ o0]at aI;rw[getElem!_pos z.cells j o0];exact bZ aI) asd ξ (by simpa using xF)
     unfold Oper.wp;have n':(execOp a.eval o).run P w=.ok (.value (.slice (some ⟨w.heap.size,0,none⟩) c.toNat c.toNat)) (w.alloc (.cells (madeCells z.cells (c.toNat * i.size)) e)):=by
      unfold execOp;rw[aG];simp[dY,rK]
     rw[n',Oper.upon_value];rw[asz]at ar;exact hk _ _ _ (o1 ak o.dst (ar _ _))
    cases ah
   cases ah
  cases ah
 exact h1.elim
theorem ajb{c:Call}{x y:Operand}{T U:TypeId}(aG:o.op=.call c)(hc:c={callee:=.builtin .min,args:=#[x,y],argTypes:=#[T,U]})
  (h:evg g (σ.ev x) λa=>evg g (σ.ev y) λb=>asI a λk i=>asI b λl1 j=>k=l1/\K (dr (rQ k (if j<i then j else i)))):∃r,iY P o g σ n r/\K r:=by
 subst hc;obtain⟨m6,h1,hx⟩:=hX h;obtain⟨Ej,h2,hy⟩:=hX h1;obtain⟨k,i,rfl,h2⟩:=CP h2;simp only[asI]at h2;obtain⟨l1,j,rfl,h2⟩:=CP h2;obtain⟨rfl,cg⟩:=h2;refine⟨_,o6 λσ' bu B w0 a0 φ kp a w r hg=>⟨.int k (if j<i then j else i),?_,?_⟩,cg⟩
 ·have dY:=o5 (hx _ _ _ _ hg (g' bu r x));have mF:=o5 (hy _ _ _ _ hg (g' bu r y));unfold execOp;rw[aG];simp[resolve,invoke,builtin,Builtin.min_,Builtin.min2,dY.1,mF.1]
 have dY:=o5 (hx _ _ _ _ hg (g' bu r x));have mF:=o5 (hy _ _ _ _ hg (g' bu r y));exact qh (by split<;>omega)
theorem ajc{c:Call}{x y:Operand}{T U:TypeId}(aG:o.op=.call c)(hc:c={callee:=.builtin .max,args:=#[x,y],argTypes:=#[T,U]})
  (h:evg g (σ.ev x) λa=>evg g (σ.ev y) λb=>asI a λk i=>asI b λl1 j=>k=l1/\K (dr (rQ k (if j>i then j else i)))):∃r,iY P o g σ n r/\K r:=by
 subst hc;obtain⟨m6,h1,hx⟩:=hX h;obtain⟨Ej,h2,hy⟩:=hX h1;obtain⟨k,i,rfl,h2⟩:=CP h2;simp only[asI]at h2;obtain⟨l1,j,rfl,h2⟩:=CP h2;obtain⟨rfl,cg⟩:=h2;refine⟨_,o6 λσ' bu B w0 a0 φ kp a w r hg=>⟨.int k (if j>i then j else i),?_,?_⟩,cg⟩
 ·have dY:=o5 (hx _ _ _ _ hg (g' bu r x));have mF:=o5 (hy _ _ _ _ hg (g' bu r y));unfold execOp;rw[aG];simp[resolve,invoke,builtin,Builtin.max_,Builtin.max2,dY.1,mF.1]
 have dY:=o5 (hx _ _ _ _ hg (g' bu r x));have mF:=o5 (hy _ _ _ _ hg (g' bu r y));exact qh (by split<;>omega)
def evs(g:Bool)(σ:St):List Operand->(List V->Prop)->Prop
 |[],K=>K []
 |x::r,K=>evg g (σ.ev x) λv=>evs g σ r λvs=>K (v::vs)
theorem Jb:∀(xs:List Operand) (K:List V->Prop),evs g σ xs K->∃vs,K vs/\∀{σ':St} {B:Nat->Prop} {w0:World} {a0:Nat->Prop} {φ:c5} {kp:List (V×Value)} {a:Act} {w:World},σ.le σ'->R B w0 a0 φ σ' kp a w->g->
  VRels φ (dq φ σ'.heap) w.heap vs (xs.map a.eval)
 |[],K,h=>⟨[],h,λ_ _ _=>by simp[VRels]⟩
 |x::xs,K,h=>by
  simp only[evs]at h;obtain⟨v,h1,hx⟩:=hX h;obtain⟨vs,cg,hr⟩:=Jb xs _ h1;refine⟨v::vs,cg,λbu r hg=>?_⟩;simp only[fe,VRels];exact⟨_,_,rfl,hx _ _ _ _ hg (g' bu r x),hr bu r hg⟩
theorem ajr{f:FuncId}{gd:Array Operand}(aG:o.op=.makeFunc (.func f) #[] gd)(h:evs g σ gd.toList λvs=>K (dr (.fn f vs))):∃r,iY P o g σ n r/\K r:=by
 obtain⟨vs,cg,hx⟩:=Jb _ _ h;refine⟨_,o6 λσ' bu B w0 a0 φ kp a w r hg=>?_,cg⟩;refine⟨.func (.func f) #[] (gd.map a.eval),by unfold execOp;rw[aG];simp[Instr.makeFunc],?_⟩;simp only[VRel];exact⟨_,rfl,by simpa using hx bu r hg⟩
section
variable {B:Nat->Prop} {w0:World} {a0:Nat->Prop} {φ:c5} {kp:List (V×Value)} {a:Act} {w:World} {σ:St}
theorem ZP(r:R B w0 a0 φ σ kp a w){id:Nat}{β:h5}{b s k:Nat}{xs ys:List (List D)}(c3:φ id=some β)(h0:a6 σ.heap id=.ay s xs true)(hx:hP xs)(hb:β.fz=some b)(hk:k+ys.length<=xs.length){us:List Value}(o7:us.length=ys.length * s)
  (Il:∀h':Array Obj,w.heap.size<=h'.size->(∀j,j<us.length->cellAt h' b (β.off+k * s+j)=us[j]?)->repE h' true b (β.off+k * s) s ys []) :
  ∃cs qd,w.heap[b]?=some (.cells cs qd (0,0))/\β.off+k * s+us.length<=cs.size/\
   R B w0 a0 (el φ id {β with eb:=[]}) ⟨σ.tmps,cF σ.heap id (.ay s (xs.take k++(ys++xs.drop (k+ys.length))) true)⟩ kp a (w.setRow b (g5 cs.toList (β.off+k * s) us).toArray):=by
 rcases r.hp id with hd|⟨bF,ak,hr⟩
 ·rw[h0]at hd;cases hd
 rw[c3]at ak;cases ak;rw[h0]at hr;simp only[eR]at hr;obtain⟨hs,hr⟩:=hr;rcases hr with hr|⟨ey,G,aZ,bA,c9,dn,fZ,_⟩
 ·rw[hb]at hr;cases hr.1
 rw[hb]at aZ;cases aZ;have bY:=Iq _ _ _ _ hx dn;subst bY;obtain⟨cs,qd,dh,bO⟩:=c9;have aiZ:(k+ys.length) * s<=β.cap * s:=ase _ ω;have Sc:(k+ys.length) * s=k * s+ys.length * s:=arT _ _ _;have hf:β.off+k * s+us.length<=cs.size:=by rw[o7];omega
 have qQ:=MH (f:=β.off+k * s) dh hf;have dM:(w.setRow b (g5 cs.toList (β.off+k * s) us).toArray).heap.size=w.heap.size:=setRow_size _ _ _;have hB:B b:=r.gH id b ⟨β,c3,.inl ⟨by rw[h0];rfl,hb⟩⟩;have h1:=dn;have h2:=dn;rw[<-ad_ k xs]at h1;rw[<-ad_ (k+ys.length) xs]at h2;obtain⟨rS,qT,Jx,cA,db⟩:=(repE_append _ _ _ _).1 h1;obtain⟨ayv,lH,gc,c1,cW⟩:=(repE_append _ _ _ _).1 h2;obtain⟨rfl,rfl⟩:=asx.1 Jx.symm;obtain⟨rfl,rfl⟩:=asx.1 gc.symm;have l7:(xs.take k).length=k:=by simp;omega
 have ajY:(xs.take (k+ys.length)).length=k+ys.length:=by simp;omega
 rw[ajY,Sc]at cW;refine⟨cs,qd,dh,hf,?_⟩;have:=ZE r (n:=id) (β:={β with eb:=[]}) (β0:=β) (upd:=[]) ξ ξ c3 h0 ⟨rfl,rfl,rfl,rfl⟩ ξ (sz:=s) (xs:=xs.take k++(ys++xs.drop (k+ys.length))) hs (asN dM.symm) (I2 r.hR hB dh (I3 hf))
  (λc _ hne _=>setRow_other w b c _ λo4=>hne (o4▸hb))
  (.inr ⟨b,hb,by simp;omega,⟨_,qd,setRow_heap w b cs _ qd (0,0) dh,by
   have:=Ei (l:=cs.toList) (off:=β.off+k * s) (vs:=us) (by simpa using hf);simp only[arQ,this,an_];exact bO⟩,by
   refine(repE_append _ _ _ _).2 ⟨[],[],rfl,?_,(repE_append _ _ _ _).2 ⟨[],[],rfl,?_,?_⟩⟩
   ·refine yG _ _ _ _ _ (asN dM.symm) ξ (λj aI=>?_) cA;rw[l7]at aI
    show cellAt _ b (β.off+j)=_
    rw[qQ,if_neg ω]
   ·rw[l7];refine Il _ (asN dM.symm) λj aI=>?_;rw[qQ,if_pos ω,show β.off+k * s+j-(β.off+k * s)=j from by omega]
   rw[l7]
   show repE _ true b (β.off+k * s+ys.length * s) s _ []
   refine yG _ _ _ _ _ (asN dM.symm) ξ (λj aI=>?_) cW;rw[qQ,if_neg (by rw[o7];omega),arH β.off]⟩)
  ξ asd ξ
 exact this
end
variable {P:Program} {o:Oper} {g:Bool} {σ:St} {n:Nat} {K:fL->Prop}
def inE(P:Program)(hs:List H)(T:TypeId)(x y:V):Option (Prop×fL):=
 match x,y with
 |.sl id 0 i,.sl rO j l=>
  if id=rO then
   match elI P T,a6 hs id with
   |some (_,sz,_),.ay s xs true=>if s=sz then some (hP xs/\i+l<=xs.length/\j+l<=xs.length/\0<xs.length,⟨.sl id 0 (i+l),[],[(id,.ay s (xs.take i++((xs.drop j).take l++xs.drop (i+l))) true)]⟩)else none
   |_,_=>none
  else none
 |_,_=>none
theorem ok_inplace{c:Call}{x y:Operand}{T:TypeId}(aG:o.op=.call c)(hc:c={callee:=.builtin .append,args:=#[x,y],argTypes:=#[T,T]})
  (h:evg g (σ.ev x) λa=>evg g (σ.ev y) λb=>match inE P σ.heap T a b with|some (p,r)=>p/\K r|none=>False):∃r,iY P o g σ n r/\K r:=by
 subst hc;obtain⟨m6,h1,hx⟩:=hX h;obtain⟨Ej,h2,hy⟩:=hX h1;clear h h1;split at h2
 ·rename_i p r ah;obtain⟨hp,cg⟩:=h2;refine⟨r,?_,cg⟩;intro σ' bu hd B w0 a0 φ kp a w l0 a1 hg pF qR hk;have dY:=hx _ _ _ _ hg (g' bu a1 x);have mF:=hy _ _ _ _ hg (g' bu a1 y);unfold inE at ah;split at ah
  ·rename_i id i rO j l;split at ah
   ·rename_i cO;subst cO;split at ah
    ·rename_i e sz hU s xs hel iZ;split at ah
     ·rename_i hs;subst hs;simp only[cc,dT]at ah;obtain⟨rfl,rfl⟩:=ah;obtain⟨dP,dO,ih,mb⟩:=hp;obtain⟨k3,ht,hi,dM,CA⟩:=yI hel;have g6:a6 σ'.heap id=.ay s xs true:=by
       rcases bu.2 id with hh|hh
       ·rw[iZ]at hh;cases hh
       rw[hh,iZ]
      obtain⟨β,ad,qS,dh,bO,cz,df,h8⟩:=xD dY;obtain⟨bF,ad',ZQ,h9,hT,Cw,Cx,Eg⟩:=xD mF;rw[dh]at h9;cases h9;rcases a1.hp id with je|⟨bF,ak,hr⟩
      ·rw[g6]at je;cases je
      rw[dh]at ak;cases ak;rw[g6]at hr;simp only[eR]at hr;obtain⟨sV,hr⟩:=hr;have hne:xs≠[]:=λh=>by rw[h]at mb;simp at mb
      rcases hr with hr|⟨b,G,aZ,bA,c9,dn,fZ,ji⟩
      ·exact absurd hr.2.1 hne
      have bY:=Iq _ _ _ _ dP dn;subst bY;obtain⟨eG,g_,h6,oY⟩:∃b,β.fz=some b/\ad=some ⟨b,β.off+0 * β.sz,none⟩/\0+qS=β.cap:=by
       rcases h8 with h8|h8
       ·omega
       exact h8
      rw[aZ]at g_;cases g_;rw[aAf,ao_]at h6;subst h6;have BS:((xs.drop j).take l).length=l:=by simp;omega
      have CQ:repE w.heap true b (β.off+j * s) s ((xs.drop j).take l) []:=by
       have h1:=dn;rw[<-ad_ j xs]at h1;obtain⟨rS,qT,Jx,_,db⟩:=(repE_append _ _ _ _).1 h1;obtain⟨rfl,rfl⟩:=asx.1 Jx.symm;rw[<-ad_ l (xs.drop j)]at db;obtain⟨rS,qT,Jx,c0,_⟩:=(repE_append _ _ _ _).1 db;obtain⟨rfl,rfl⟩:=asx.1 Jx.symm;have:(xs.take j).length=j:=by simp;omega
       rw[this]at c0;exact c0
      have CB:(xs.drop j).take l=[]\/∃b f G,ad'=some ⟨b,f,none⟩/\repE w.heap true b f s ((xs.drop j).take l) G:=by
       rcases Eg with Eg|⟨eX,n4,oT,_⟩
       ·exact .inl (arL (by rw[BS];exact Eg.2.1))
       rw[aZ]at n4;cases n4;exact .inr ⟨b,_,[],oT,by rw[sV];exact CQ⟩
      obtain⟨jl,iM,lP,rm,sS⟩:=Rv (P:=P) (c:=ZQ) CB;rw[BS]at lP;have Jy:=ZP a1 (k:=i) (ys:=(xs.drop j).take l) (us:=jl) dh g6 dP aZ (by rw[BS];exact dO) iM (λh' hs' hc=>by
       by_cases hl:(xs.drop j).take l=[]
       ·rw[hl];simp[repE]
       obtain⟨eX,f3,n4,oT⟩:=sS hl;rcases Eg with Eg|⟨mW,Mx,ajZ,_⟩
       ·exact absurd (arL (by rw[BS];exact Eg.2.1)) hl
       rw[aZ]at Mx;cases Mx;rw[ajZ]at n4;simp only[cc,Addr.mk.injEq]at n4;obtain⟨rfl,rfl,_⟩:=n4;refine yG _ _ _ _ _ hs' ξ (λm hm=>?_) CQ;have Sd:m<jl.length:=by rw[iM];exact hm
       rw[hc m Sd,<-sV,oT m jl[m] (cy Sd),cy Sd])
      rw[BS]at Jy;obtain⟨cs,qd,qK,nI,AP⟩:=Jy;have zQ:i+l<=qS:=by omega
      have gW:=YN (P:=P) (w:=w) T o.type e k3 ht hi b β.off i qS cs qd qK l (.slice ad' l ZQ) jl rfl (by rw[dM];exact lP w rfl) rm zQ (by rw[dM];exact nI);rw[dM]at gW;unfold Oper.wp;have n':(execOp a.eval o).run P w=.ok (.value (.slice (some ⟨b,β.off,none⟩) (i+l) qS)) (w.setRow b (g5 cs.toList (β.off+i * s) jl).toArray):=by
       unfold execOp;rw[aG];simp[resolve,invoke,builtin,bO,hT,gW]
      rw[n',Oper.upon_value];have:=o1 AP o.dst (v:=.sl id 0 (i+l)) (u:=.slice (some ⟨b,β.off,none⟩) (i+l) qS) (by
       simp only[VRel];exact⟨{β with eb:=[]},_,qS,by simp[el],rfl,df,.inr ⟨b,aZ,by simp,zQ,oY⟩⟩)
      exact hk _ _ _ (Jc this λi h=>.inl h)
     ·cases ah
    cases ah
   cases ah
  cases ah
 exact h2.elim
def clrE(P:Program)(hs:List H)(T:TypeId)(x:V):Option (Prop×fL):=
 match x with
 |.sl id off len=>
  match elI P T,a6 hs id with
  |some (e,sz,_),.ay s xs true=>
   match zrI P e with
   |some zs=>
    match zDs zs with
    |some ds=>if s=sz then some (hP xs/\off+len<=xs.length/\0<len/\ds.length=sz,⟨.an,[],[(id,.ay s (xs.take off++(ea len ds++xs.drop (off+len))) true)]⟩)else none
    |none=>none
   |none=>none
  |_,_=>none
 |_=>none
theorem aja{c:Call}{x:Operand}{T:TypeId}(aG:o.op=.call c)(hc:c={callee:=.builtin .clear,args:=#[x],argTypes:=#[T]})
  (h:evg g (σ.ev x) λa=>match clrE P σ.heap T a with|some (p,r)=>p/\K r|none=>False):∃r,iY P o g σ n r/\K r:=by
 subst hc;obtain⟨m6,h2,hx⟩:=hX h;clear h;split at h2
 ·rename_i p r ah;obtain⟨hp,cg⟩:=h2;refine⟨r,?_,cg⟩;intro σ' bu hd B w0 a0 φ kp a w l0 a1 hg pF qR hk;have dY:=hx _ _ _ _ hg (g' bu a1 x);unfold clrE at ah;split at ah
  ·rename_i id off len;split at ah
   ·rename_i e sz hU s xs hel iZ;split at ah
    ·rename_i zs sU;split at ah
     ·rename_i ds xr;split at ah
      ·rename_i hs;subst hs;simp only[cc,dT]at ah;obtain⟨rfl,rfl⟩:=ah;obtain⟨dP,dO,ih,mb⟩:=hp;obtain⟨k3,ht,hi,dM,CA⟩:=yI hel;obtain⟨eL,z,fw,mo,mT⟩:=Ek sU;rw[hi]at fw;cases fw;have GO:=λh':Array Obj=>Sa (h':=h') (bl:=true) _ _ _ xr (mT φ (λ_=>True) #[]);have xE:z.cells.size=s:=by rw[<-an_,Eo _ _ _ (GO #[]),mb]
       have g6:a6 σ'.heap id=.ay s xs true:=by
        rcases bu.2 id with hh|hh
        ·rw[iZ]at hh;cases hh
        rw[hh,iZ]
       obtain⟨β,ad,qS,dh,bO,cz,df,h8⟩:=xD dY;obtain⟨b,g_,h6,oY⟩:∃b,β.fz=some b/\ad=some ⟨b,β.off+off * β.sz,none⟩/\off+qS=β.cap:=by
        rcases h8 with h8|h8
        ·omega
        exact h8
       have sV:β.sz=s:=by
        rcases a1.hp id with je|⟨bF,ak,hr⟩
        ·rw[g6]at je;cases je
        rw[dh]at ak;cases ak;rw[g6]at hr;simp only[eR]at hr;exact hr.1
       rw[sV]at h6;subst h6;have qG:(ea len ds).length=len:=asz;have M5:(Builtin.zeroCells z.cells len).toList.length=len * s:=by rw[an_,size_zeroCells,xE]
       have a6:∀m j,m<len->j<s->(Builtin.zeroCells z.cells len).toList[m * s+j]?=z.cells[j]?:=by
        intro m j hm aI;have hlt:m * s+j<len * s:=by
         have:(m+1) * s<=len * s:=ase _ hm;rw[arT]at this;omega
        have AW:(m * s+j) % s=j:=by rw[azJ,aAq,asb aI]
        have o0:j<z.cells.size:=by rw[xE];exact aI
        have aj0:m * s+j<len * z.cells.size:=by rw[xE];exact hlt
        unfold Builtin.zeroCells;rw[ac_,Array.getElem?_map,Array.getElem?_range,if_pos aj0];simp only[asj,xE,AW];rw[getElem!_pos z.cells j o0,arZ o0]
       have Jy:=ZP a1 (k:=off) (ys:=ea len ds) (us:=(Builtin.zeroCells z.cells len).toList) dh g6 dP g_ (by rw[qG];exact dO) (by rw[qG];exact M5) (λh' hs' hc=>by
        refine Sb mb len _ λm hm=>Er ds z.cells.toList _ [] (GO _) λj u aI=>?_;have Bg:j<s:=by
         rw[<-xE];rcases asv j z.cells.size with h|h
         ·exact h
         rw[arX (by simpa using h)]at aI;cases aI
        have hlt:m * s+j<(Builtin.zeroCells z.cells len).toList.length:=by
         rw[M5];have:(m+1) * s<=len * s:=ase _ hm;rw[arT]at this;omega
        have:=hc _ hlt;rw[a6 m j hm Bg]at this;rw[arH (β.off+off * s),this,<-ac_];exact aI)
       rw[qG]at Jy;obtain⟨cs,qd,qK,nI,AP⟩:=Jy;have aj1:∀v∈(Builtin.zeroCells z.cells len).toList,v.oneCell':=by
        intro v hv;obtain⟨t,ox,rfl⟩:=asn hv;have xN:0<s:=by
         rcases azZ s with h|h
         ·rw[M5,h,Nat.mul_zero]at ox;omega
         exact h
        have h1:t=(t / s) * s+t % s:=by rw[azJ];exact(Nat.div_add_mod t s).symm
        have h2:t / s<len:=Nat.div_lt_of_lt_mul (by rw[azJ,<-M5];exact ox);have ao:=a6 (t / s) (t % s) h2 (azK _ xN);rw[<-h1,cy ox]at ao;have o0:t % s<z.cells.toList.length:=by rw[an_,xE];exact azK _ xN
        rw[<-ac_,cy o0]at ao;rw[bZ ao];have aj2:repC #[.cells z.cells 0 (0,0)] true 0 0 ds []:=Er ds z.cells.toList 0 [] (GO _) λj u aI=>by
         simp[cellAt];rw[ac_]at aI;exact aI
        obtain⟨us,k1,k2⟩:=Rs ds 0 [] aj2;have ZR:t % s<us.length:=by rw[k1,mb];exact azK _ xN
        have:=k2.1 (t % s) us[t % s] (cy ZR);obtain⟨Gl,_,dd⟩:=k2.2 (t % s) ds[t % s] us[t % s] (cy (by rw[mb];exact azK _ xN)) (cy ZR);have hz:z.cells.toList[t % s]=us[t % s]:=by
         have aH:=this;simp[cellAt]at aH;have bR:z.cells.toList[t % s]?=some us[t % s]:=by rw[ac_];exact aH
         rw[cy o0]at bR;exact bZ bR
        rw[hz];exact Rt dd
       have b4:=run_storeCells_at P b (β.off+off * s) qd (Builtin.zeroCells z.cells len).toList 0 cs w qK (by simpa using nI) aj1;simp only[ao_,ah_]at b4;unfold Oper.wp;have n':(execOp a.eval o).run P w=.ok (.value (.tuple #[])) (w.setRow b (g5 cs.toList (β.off+off * s) (Builtin.zeroCells z.cells len).toList).toArray):=by
        unfold execOp;rw[aG];obtain⟨m,rfl⟩:∃m,len=m+1:=⟨len-1,by omega⟩;simp[resolve,invoke,builtin,bO,Builtin.clear_,run_underlying ht,zeroValue,typeInfo,hi,mo,b4,g5]
       rw[n',Oper.upon_value];have:=o1 AP o.dst (v:=.an) (u:=.tuple #[]) (by simp only[VRel]);exact hk _ _ _ (Jc this λi h=>.inl h)
      cases ah
     cases ah
    cases ah
   cases ah
  cases ah
 exact h2.elim
def Gu(P:Program)(hs:List H)(T:TypeId)(x y:V)(n:Nat):Option (Prop×fL):=
 match inE P hs T x y with
 |some r=>some r
 |none=>apE P hs T x y n
theorem ZS{g:Bool}{v:V}{K:V->Prop}(h:evg g v K):∃gX,K gX/\∀ik:V->Prop,ik gX->evg g v ik:=by
 unfold evg at h⊢;split at h
 ·exact⟨_,h.2,λik h'=>⟨h.1,h'⟩⟩
 exact⟨_,h,λik h'=>h'⟩
theorem ai9{c:Call}{x y:Operand}{T:TypeId}(aG:o.op=.call c)(hc:c={callee:=.builtin .append,args:=#[x,y],argTypes:=#[T,T]})
  (h:evg g (σ.ev x) λa=>evg g (σ.ev y) λb=>match Gu P σ.heap T a b n with|some (p,r)=>p/\K r|none=>False):∃r,iY P o g σ n r/\K r:=by
 obtain⟨a,h1,ha⟩:=ZS h;obtain⟨b,h2,hb⟩:=ZS h1
 cases hi:inE P σ.heap T a b with
 |none=>
  refine ok_append aG hc (ha _ (hb _ ?_));unfold Gu at h2;rw[hi]at h2;exact h2
 |some r=>
  refine ok_inplace aG hc (ha _ (hb _ ?_));unfold Gu at h2;rw[hi]at h2;rw[hi];exact h2
inductive AD where
 |one (d:D)
 |agg (ds:List D)
def I4(h:Array Obj)(o:Bool):AD->Value->List Nat->Prop
 |.one d,u,F=>rep h o d u F
 |.agg ds,u,F=>∃us:Array Value,u=.agg us/\reps h o ds us.toList F
def areps(h:Array Obj)(o:Bool):List AD->List Value->List Nat->Prop
 |[],us,F=>us=[]/\F=[]
 |a::as,us,F=>∃u c6 j9 iT,us=u::c6/\F=j9++iT/\I4 h o a u j9/\areps h o as c6 iT
def trep(h:Array Obj)(o:Bool)(rs:List AD)(v:Value)(F:List Nat):Prop:=
 match rs with
 |[r]=>I4 h o r v F
 |rs=>∃us:Array Value,v=.tuple us/\areps h o rs us.toList F
def Does(P:Program)(f:FuncId)(us:Array Value)(w:World)(R:Value->World->Prop):Prop:=
 match(callFunc f us).run P w with
 |.ok (.enter g as) w'=>Calls P g as w' λe YX=>match e with|.returned v=>R v YX|_=>False
 |.ok (.value v) w'=>R v w'
 |.ok (.row row as) w'=>Rows P row as w' R
 |_=>False
theorem Does.mono{P:Program}{f:FuncId}{us:Array Value}{w:World}{R YY:Value->World->Prop}(h:Does P f us w R)(hr:∀v w',R v w'->YY v w'):Does P f us w YY:=by
 unfold Does at *;split at h
 ·exact Calls.mono h λe YX he=>by cases e<;>first|exact hr _ _ he|exact he.elim
 ·exact hr _ _ h
 ·exact Rows.mono h hr
 exact h.elim
theorem Does.enter{P:Program}{f:FuncId}{us:Array Value}{w:World}{R:Value->World->Prop}(gW:(callFunc f us).run P w=.ok (.enter f us) w)
  (h:Calls P f us w λe w'=>match e with|.returned v=>R v w'|_=>False):Does P f us w R:=by
 unfold Does;rw[gW];exact h
def PureCall(P:Program)(f:FuncId)(args res:List AD):Prop:=
 ∀(w:World) (us:List Value) (F:List Nat),GOk w.heap->areps w.heap false args us F->Does P f us.toArray w λv w'=>
  ∃F',Bel (λb=>w.heap.size<=b) w w'/\trep w'.heap true res v F'/\F'.Nodup/\∀b∈F',w.heap.size<=b
def clnOf(hs:List H)(id off len:Nat):Option (Nat×List (List D)):=
 match a6 hs id with
 |.aj sz xs=>if off+len<=xs.length then some (sz,(xs.drop off).take len)else none
 |_=>elsOf hs (.sl id off len)
def toRD(hs:List H)(v:V):Option D:=
 match v with
 |.d x=>some x
 |.eg s=>some (.sl s [])
 |.sl id off len=>match clnOf hs id off len with|some (sz,xs)=>some (.sl sz xs)|none=>none
 |_=>none
def toRDs(hs:List H):List V->Option (List D)
 |[]=>some []
 |v::vs=>match toRD hs v,toRDs hs vs with|some d,some ds=>some (d::ds)|_,_=>none
def toAD(hs:List H)(v:V):Option AD:=
 match v with
 |.agg vs=>(toRDs hs vs).map .agg
 |v=>(toRD hs v).map .one
def toADs(hs:List H):List V->Option (List AD)
 |[]=>some []
 |v::vs=>match toAD hs v,toADs hs vs with|some d,some ds=>some (d::ds)|_,_=>none
section
variable {B:Nat->Prop} {w0:World} {a0:Nat->Prop} {φ:c5} {kp:List (V×Value)} {a:Act} {w:World} {σ σ':St}
theorem YZ(bu:σ.le σ')(r:R B w0 a0 φ σ' kp a w){v:V}{d:D}(h:toRD σ.heap v=some d){u:Value}(gV:VRel φ (dq φ σ'.heap) w.heap v u):∃F,rep w.heap false d u F:=by
 unfold toRD at h;split at h
 ·cases h
  simp only[VRel]at gV;obtain⟨F,aZ,_⟩:=gV;exact⟨F,aZ⟩
 ·cases h
  simp only[VRel]at gV;subst gV;exact⟨[],none,0,rfl,by simp,by decide,.inl ⟨rfl,rfl,λe=>by cases e⟩⟩
 ·rename_i id off len;split at h
  ·rename_i sz xs hel;cases h
   unfold clnOf at hel;split at hel
   ·rename_i jm ys hx;split at hel
    ·rename_i hl;simp only[cc,dT]at hel;obtain⟨rfl,rfl⟩:=hel;have g6:a6 σ'.heap id=.aj jm ys:=by
      rcases bu.2 id with hh|hh
      ·rw[hx]at hh;cases hh
      rw[hh,hx]
     obtain⟨F,dG,_⟩:=RD r (id:=id) (by rw[g6];rfl) hl gV;exact⟨F,Y0 _ _ _ dG⟩
    ·cases hel
   obtain⟨ad,c,ak,ar,a4,bP⟩:=Mz bu r hel gV;simp only[rep];rcases bP with bP|⟨b,f,G,bP,di,lO,qf⟩
   ·exact⟨[],ad,c,ak,ar,a4,.inl ⟨bP,rfl,λe=>by cases e⟩⟩
   exact⟨b::G,ad,c,ak,ar,a4,.inr ⟨b,f,G,bP,rfl,di,lO,λe=>by cases e⟩⟩
  cases h
 cases h
theorem Y1(bu:σ.le σ')(r:R B w0 a0 φ σ' kp a w):∀(vs:List V) (ds:List D) (us:List Value),toRDs σ.heap vs=some ds->VRels φ (dq φ σ'.heap) w.heap vs us->∃F,reps w.heap false ds us F
 |[],ds,us,h,gV=>by
  simp only[toRDs,cc]at h;subst h;simp only[VRels]at gV;subst gV;exact⟨[],rfl,rfl⟩
 |v::vs,ds,us,h,gV=>by
  simp only[VRels]at gV;obtain⟨u,c6,rfl,aZ,bA⟩:=gV;simp only[toRDs]at h;split at h
  ·rename_i d rP ak ar;cases h
   obtain⟨j9,dG⟩:=YZ bu r ak aZ;obtain⟨iT,e9⟩:=Y1 bu r vs rP c6 ar bA;exact⟨j9++iT,u,c6,j9,iT,rfl,rfl,dG,e9⟩
  cases h
theorem ai3(bu:σ.le σ')(r:R B w0 a0 φ σ' kp a w){v:V}{d:AD}(h:toAD σ.heap v=some d){u:Value}(gV:VRel φ (dq φ σ'.heap) w.heap v u):∃F,I4 w.heap false d u F:=by
 unfold toAD at h;split at h
 ·rename_i vs
  cases hd:toRDs σ.heap vs with
  |none=>rw[hd]at h;cases h
  |some ds=>
   rw[hd]at h;cases h;obtain⟨us,rfl,aZ⟩:=I5 gV;obtain⟨F,f⟩:=Y1 bu r vs ds _ hd aZ;exact⟨F,us,rfl,f⟩
 cases hd:toRD σ.heap v with
 |none=>rw[hd]at h;cases h
 |some x=>
  rw[hd]at h;cases h;exact YZ bu r hd gV
theorem ML(bu:σ.le σ')(r:R B w0 a0 φ σ' kp a w):∀(vs:List V) (ds:List AD) (us:List Value),toADs σ.heap vs=some ds->VRels φ (dq φ σ'.heap) w.heap vs us->∃F,areps w.heap false ds us F
 |[],ds,us,h,gV=>by
  simp only[toADs,cc]at h;subst h;simp only[VRels]at gV;subst gV;exact⟨[],rfl,rfl⟩
 |v::vs,ds,us,h,gV=>by
  simp only[VRels]at gV;obtain⟨u,c6,rfl,aZ,bA⟩:=gV;simp only[toADs]at h;split at h
  ·rename_i d rP ak ar;cases h
   obtain⟨j9,dG⟩:=ai3 bu r ak aZ;obtain⟨iT,e9⟩:=ML bu r vs rP c6 ar bA;exact⟨j9++iT,u,c6,j9,iT,rfl,rfl,dG,e9⟩
  cases h
end
def rV(d:D)(n:Nat):V:=match d with|.sl _ xs=>.sl n 0 xs.length|d=>.d d
def zU(d:D):List H:=match d with|.sl sz xs=>[.ay sz xs true]|_=>[]
def rVs:List D->Nat->List V
 |[],_=>[]
 |d::ds,n=>rV d n::rVs ds (n+(zU d).length)
def rHs:List D->List H
 |[]=>[]
 |d::ds=>zU d++rHs ds
def I6:AD->Nat->V
 |.one d,n=>rV d n
 |.agg ds,n=>.agg (rVs ds n)
def I7:AD->List H
 |.one d=>zU d
 |.agg ds=>rHs ds
def aVs:List AD->Nat->List V
 |[],_=>[]
 |d::ds,n=>I6 d n::aVs ds (n+(I7 d).length)
def aHs:List AD->List H
 |[]=>[]
 |d::ds=>I7 d++aHs ds
def pG(rs:List AD)(n:Nat):V:=match rs with|[r]=>I6 r n|rs=>.e8 (aVs rs n)
def n9(β:h5):List Nat:=β.fz.toList++β.eb
def yJ(h:Array Obj)(bl:List h5)(hs:List H)(F:List Nat):Prop:=
 bl.length=hs.length/\bl.flatMap n9=F/\(∀(i:Nat) (β:h5) (x:H),bl[i]?=some β->hs[i]?=some x->∀φ T,eR φ T h β x)/\∀x∈hs,∃sz xs,x=.ay sz xs true
def sW(φ:c5)(n:Nat)(bl:List h5):Prop:=∀(i:Nat) (β:h5),bl[i]?=some β->φ (n+i)=some β
theorem yJ.append{h:Array Obj}{eH eG:List h5}{h1 h2:List H}{j9 iT:List Nat}(jk:yJ h eH h1 j9)(lF:yJ h eG h2 iT):yJ h (eH++eG) (h1++h2) (j9++iT):=by
 obtain⟨cA,db,c0,eo⟩:=jk;obtain⟨c1,cW,gn,rE⟩:=lF;refine⟨by simp[cA,c1],by simp[db,cW],λi β x ak ar=>?_,λx hx=>?_⟩
 ·rw[aus]at ak ar;by_cases hi:i<eH.length
  ·rw[if_pos hi]at ak;rw[if_pos (cA▸hi)]at ar;exact c0 i β x ak ar
  rw[if_neg hi]at ak;rw[if_neg (cA▸hi),<-cA]at ar;exact gn _ β x ak ar
 rcases e7.1 hx with hx|hx
 ·exact eo x hx
 exact rE x hx
theorem sW.left{φ:c5}{n:Nat}{eH eG:List h5}(h:sW φ n (eH++eG)):sW φ n eH:=λi β e=>h i β (by
 rw[arF (by
  rcases asv i eH.length with h|h
  ·exact h
  rw[arX h]at e;cases e)];exact e)
theorem sW.right{φ:c5}{n:Nat}{eH eG:List h5}(h:sW φ n (eH++eG)):sW φ (n+eH.length) eG:=λi β e=>by
 rw[arH];exact h (eH.length+i) β (by rw[ak_ ω,asJ];exact e)
theorem Y2{h:Array Obj}{d:D}{u:Value}{F:List Nat}(r:rep h true d u F):∃bl,yJ h bl (zU d) F/\∀φ n T,sW φ n bl->VRel φ T h (rV d n) u:=by
 cases d with
 |sl sz xs=>
  simp only[rep]at r;obtain⟨ad,c,rfl,h2,ao,aH⟩:=r;rcases aH with ⟨rfl,rfl,aH⟩|⟨b,f,G,rfl,rfl,bR,eQ,i'⟩
  ·refine⟨[⟨none,0,0,sz,[]⟩],⟨rfl,rfl,λi β x ak ar φ T=>?_,by simp[zU]⟩,λφ n T hA=>?_⟩
   ·cases i with
    |zero=>
     simp[zU]at ak ar;subst ak;subst ar;simp[eR]
    |succ i=>simp at ak
   ·simp only[rV,VRel];exact⟨_,ad,c,hA 0 _ rfl,rfl,ao,.inl ⟨aH trivial,rfl,rfl⟩⟩
  refine⟨[⟨some b,f,c,sz,G⟩],⟨rfl,by simp[n9],λi β x ak ar φ T=>?_,by simp[zU]⟩,λφ n T hA=>?_⟩
  ·cases i with
   |zero=>
    simp[zU]at ak ar;subst ak;subst ar;simp only[eR];exact⟨trivial,.inr ⟨b,G,rfl,h2,(i' trivial).2,eQ,λ_=>rfl,λh=>by cases h⟩⟩
   |succ i=>simp at ak
  ·simp only[rV,VRel];exact⟨_,_,c,hA 0 _ rfl,rfl,ao,.inr ⟨b,rfl,by simp,h2,by simp⟩⟩
 |_=>
  have bG:=I8 rfl r;subst bG;refine⟨[],⟨rfl,rfl,by simp,by simp[zU]⟩,λφ n T _=>?_⟩;simp only[rV,VRel];exact⟨[],MM rfl r,by simp⟩
theorem RE{h:Array Obj}:∀(ds:List D) (us:List Value) (F:List Nat),reps h true ds us F->∃bl,yJ h bl (rHs ds) F/\∀φ n T,sW φ n bl->VRels φ T h (rVs ds n) us
 |[],us,F,r=>by
  simp only[reps]at r;obtain⟨rfl,rfl⟩:=r;exact⟨[],⟨rfl,rfl,by simp,by simp[rHs]⟩,λ_ _ _ _=>by simp[rVs,VRels]⟩
 |d::ds,us,F,r=>by
  simp only[reps]at r;obtain⟨u,c6,j9,iT,rfl,rfl,aZ,bA⟩:=r;obtain⟨eH,jk,n4⟩:=Y2 aZ;obtain⟨eG,lF,oT⟩:=RE ds c6 iT bA;refine⟨eH++eG,jk.append lF,λφ n T hA=>?_⟩;simp only[rVs,VRels];refine⟨u,c6,rfl,n4 φ n T hA.left,oT φ _ T ?_⟩;rw[<-jk.1];exact hA.right
theorem Y3{h:Array Obj}{d:AD}{u:Value}{F:List Nat}(r:I4 h true d u F):∃bl,yJ h bl (I7 d) F/\∀φ n T,sW φ n bl->VRel φ T h (I6 d n) u:=by
 cases d with
 |one d=>exact Y2 r
 |agg ds=>
  obtain⟨us,rfl,r⟩:=r;obtain⟨bl,l,v⟩:=RE ds _ F r;refine⟨bl,l,λφ n T hA=>?_⟩;simp only[I6,VRel];exact⟨us,rfl,v φ n T hA⟩
theorem Y4{h:Array Obj}:∀(ds:List AD) (us:List Value) (F:List Nat),areps h true ds us F->∃bl,yJ h bl (aHs ds) F/\∀φ n T,sW φ n bl->VRels φ T h (aVs ds n) us
 |[],us,F,r=>by
  simp only[areps]at r;obtain⟨rfl,rfl⟩:=r;exact⟨[],⟨rfl,rfl,by simp,by simp[aHs]⟩,λ_ _ _ _=>by simp[aVs,VRels]⟩
 |d::ds,us,F,r=>by
  simp only[areps]at r;obtain⟨u,c6,j9,iT,rfl,rfl,aZ,bA⟩:=r;obtain⟨eH,jk,n4⟩:=Y3 aZ;obtain⟨eG,lF,oT⟩:=Y4 ds c6 iT bA;refine⟨eH++eG,jk.append lF,λφ n T hA=>?_⟩;simp only[aVs,VRels];refine⟨u,c6,rfl,n4 φ n T hA.left,oT φ _ T ?_⟩;rw[<-jk.1];exact hA.right
theorem RF{h:Array Obj}{rs:List AD}{u:Value}{F:List Nat}(r:trep h true rs u F):∃bl,yJ h bl (aHs rs) F/\∀φ n T,sW φ n bl->VRel φ T h (pG rs n) u:=by
 unfold trep at r;split at r
 ·rename_i x;obtain⟨bl,l,v⟩:=Y3 r;exact⟨bl,by simpa [aHs]using l,λφ n T hA=>v φ n T hA⟩
 rename_i hne;obtain⟨us,rfl,r⟩:=r;obtain⟨bl,l,v⟩:=Y4 _ _ F r;refine⟨bl,l,λφ n T hA=>?_⟩;have:pG rs n=.e8 (aVs rs n):=by unfold pG;split<;>first|rfl|(rename_i y;exact absurd rfl (hne y))
 rw[this];simp only[VRel];exact⟨us,rfl,v φ n T hA⟩
def H.toCln:H->H
 |.ay sz xs true=>.aj sz xs
 |x=>x
theorem yJ.aj{h:Array Obj}{bl:List h5}{hs:List H}{F:List Nat}(l:yJ h bl hs F):bl.length=(hs.map H.toCln).length/\bl.flatMap n9=F/\(∀(i:Nat) (β:h5) (x:H),bl[i]?=some β->(hs.map H.toCln)[i]?=some x->∀φ T,eR φ T h β x):=by
 obtain⟨jk,lF,A3,_⟩:=l;refine⟨by simp[jk],lF,λi β x ak ar φ T=>?_⟩;rw[ats]at ar
 cases hx:hs[i]? with
 |none=>rw[hx]at ar;cases ar
 |some y=>
  rw[hx]at ar;simp only[asj,cc]at ar;subst ar;have:=A3 i β y ak hx φ T;unfold H.toCln;split
  ·rename_i sz xs;have:=RG (x:=.ay sz xs true) rfl this;simpa only[eR]using this
  exact this
theorem Y5{F:List Nat}:∀(bl:List h5),bl.flatMap n9=F->F.Nodup->∀(i j:Nat) (β CD:h5) (b:Nat),bl[i]?=some β->bl[j]?=some CD->b∈n9 β->b∈n9 CD->i=j:=by
 intro bl
 induction bl generalizing F with
 |nil=>intro _ _ i j β CD b e;simp at e
 |cons x xs c_=>
  intro e hn i j β CD b ak ar h1 h2;subst e;rw[arM,al_]at hn;have yK:∀(k:Nat) (MN:h5),xs[k]?=some MN->b∈n9 MN->b∈xs.flatMap n9:=λk MN hk hb=>asK.2 ⟨MN,arW hk,hb⟩
  cases i with
  |zero=>
   cases j with
   |zero=>rfl
   |succ j=>
    simp at ak ar;subst ak;exact absurd rfl (hn.2.2 b h1 b (yK j CD ar h2))
  |succ i=>
   cases j with
   |zero=>
    simp at ak ar;subst ar;exact absurd rfl (hn.2.2 b h2 b (yK i β ak h1))
   |succ j=>
    simp at ak ar;rw[c_ rfl hn.2.1 i j β CD b ak ar h1 h2]
theorem Y6{F:List Nat}:∀(bl:List h5),bl.flatMap n9=F->F.Nodup->∀β∈bl,(n9 β).Nodup:=by
 intro bl
 induction bl generalizing F with
 |nil=>simp
 |cons x xs c_=>
  intro e hn β hb;subst e;rw[arM,al_]at hn;rcases rD.1 hb with rfl|hb
  ·exact hn.1
  exact c_ rfl hn.2.1 β hb
section
variable {B:Nat->Prop} {w0:World} {a0:Nat->Prop} {φ:c5} {kp:List (V×Value)} {a:Act} {w:World} {σ:St}
theorem RH(r:R B w0 a0 φ σ kp a w){n:Nat}{bl:List h5}{hs:List H}{F:List Nat}{w':World}(hn:∀i,n<=i->i<n+hs.length->¬a0 i)
  (hb:Bel (λb=>w.heap.size<=b) w w') (hl:bl.length=hs.length/\bl.flatMap n9=F/\(∀(i:Nat) (β:h5) (x:H),bl[i]?=some β->hs[i]?=some x->∀φ T,eR φ T w'.heap β x)) (hnd:F.Nodup) (hnew:∀b∈F,w.heap.size<=b) :
  ∃du,sW du n bl/\R B w0 (λi=>a0 i\/(n<=i/\i<n+hs.length)) du ⟨σ.tmps,Gv.hnew σ.heap n hs⟩ kp a w':=by
 obtain⟨jk,lF,A3⟩:=hl;have Gr:∀i,n<=i->i<n+hs.length->φ i=none:=λi h1 h2=>by
  cases h:φ i with
  |none=>rfl
  |some β=>exact absurd (r.iS i β h) (hn i h1 h2)
 let du:c5:=λi=>if n<=i/\i<n+hs.length then bl[i-n]? else φ i
 have hin:∀i,n<=i/\i<n+hs.length->du i=bl[i-n]?:=λi h=>if_pos h;have pH:∀i,¬(n<=i/\i<n+hs.length)->du i=φ i:=λi h=>if_neg h;have ai4:∀i,n<=i/\i<n+hs.length->∃x,hs[i-n]?=some x/\a6 (Gv.hnew σ.heap n hs) i=x:=by
  intro i h;have hlt:i-n<hs.length:=by omega
  refine⟨hs[i-n],cy hlt,?_⟩;rw[Ec,if_pos h,lU,cy hlt];rfl
 have ai5:∀i,¬(n<=i/\i<n+hs.length)->a6 (Gv.hnew σ.heap n hs) i=a6 σ.heap i:=λi h=>by rw[Ec,if_neg h]
 have kZ:∀i,n<=i/\i<n+hs.length->∀b,d_ du (Gv.hnew σ.heap n hs) i b->∃β,bl[i-n]?=some β/\b∈n9 β:=by
  rintro i h b ⟨β,ak,ar⟩;rw[hin i h]at ak;refine⟨β,ak,?_⟩;unfold n9;rcases ar with ⟨_,ar⟩|⟨_,ar⟩
  ·simp[ar]
  simp[ar]
 have Y7:∀(i:Nat) (β:h5) (b:Nat),bl[i]?=some β->b∈n9 β->w.heap.size<=b:=λi β b h1 h2=>hnew b (by rw[<-lF];exact asK.2 ⟨β,arW h1,h2⟩);refine⟨du,λi β hi=>?_,A6 r (λi=>n<=i/\i<n+hs.length) _ du _ w' (λi hi=>⟨ai5 i hi,pH i hi⟩) (λi β hi=>?_) hb.size (λb iF _=>hb.block b ω) (λi hi b aG=>?_) (λi hi bF h1 b h2=>?_)
  (λi j b hi aI h1 h2=>?_) (λi β hi h1 _=>?_) (λi hi=>?_) (λi β hi=>?_) (r.hR.trans (hb.mono λk hk=>r.bs k hk))⟩
 ·have hlt:i<bl.length:=by
   rcases asv i bl.length with h|h
   ·exact h
   rw[arX h]at hi;cases hi
  rw[hin (n+i) ⟨by omega,by omega⟩,asJ];exact hi
 ·by_cases h:n<=i/\i<n+hs.length
  ·rw[Gr i h.1 h.2]at hi;cases hi
  exact⟨β,by rw[pH i h];exact hi,rfl,rfl,rfl,rfl⟩
 ·obtain⟨β,ak,ar⟩:=kZ i hi b aG;exact .inl (Y7 _ β b ak ar)
 ·rw[hin i hi]at h1;refine .inl (Y7 _ bF b h1 ?_);unfold n9;rcases h2 with ⟨_,h2⟩|⟨_,h2⟩<;>simp[h2]
 ·obtain⟨β,ak,ar⟩:=kZ i hi b h1;obtain⟨CD,dG,e9⟩:=kZ j aI b h2;have:=Y5 bl lF hnd _ _ β CD b ak dG ar e9;omega
 ·rw[hin i hi]at h1;have:=Y6 bl lF hnd β (arW h1);unfold n9 at this;rw[al_]at this;refine⟨this.2.1,λb iF nd=>this.2.2 b (by simp[iF]) b nd rfl⟩
 ·right;obtain⟨x,h1,h2⟩:=ai4 i hi;have hlt:i-n<bl.length:=by omega
  refine⟨bl[i-n],by rw[hin i hi];exact cy hlt,?_⟩;rw[h2];exact A3 _ _ _ (cy hlt) h1 _ _
 by_cases h:n<=i/\i<n+hs.length
 ·exact .inr h
 rw[pH i h]at hi;exact .inl (r.iS i β hi)
end
variable {P:Program} {o:Oper} {g:Bool} {σ:St} {n:Nat} {K:fL->Prop}
theorem RI{c:Call}{f:FuncId}{xs:Array Operand}{ts:Array TypeId}(aG:o.op=.call c){x:Operand}(hc:c={callee:=.value x,args:=xs,argTypes:=ts})(hf:∀{σ':St} {B:Nat->Prop} {w0:World} {a0:Nat->Prop} {φ:c5} {kp:List (V×Value)} {a:Act} {w:World},σ.le σ'->R B w0 a0 φ σ' kp a w->g->a.eval x=.func (.func f) #[] #[])
  {vs:List V} (hx:∀{σ':St} {B:Nat->Prop} {w0:World} {a0:Nat->Prop} {φ:c5} {kp:List (V×Value)} {a:Act} {w:World},σ.le σ'->R B w0 a0 φ σ' kp a w->g->VRels φ (dq φ σ'.heap) w.heap vs (xs.toList.map a.eval))
  {as rs:List AD} (ah:toADs σ.heap vs=some as) (A7:PureCall P f as rs) (cg:K ⟨pG rs n,aHs rs,[]⟩):∃r,iY P o g σ n r/\K r:=by
 subst hc;refine⟨_,?_,cg⟩;intro σ' bu _ B w0 a0 φ kp a w l0 a1 hg pF qR hk;have hv:=hx bu a1 hg;obtain⟨F,bG⟩:=ML bu a1 vs as _ ah hv;have hcall:=A7 w _ F a1.RJ bG;unfold Oper.wp;have gW:(execOp a.eval o).run P w=(callFunc f (xs.map a.eval)).run P w:=by
  unfold execOp;rw[aG];have RK:=hf bu a1 hg;simp[resolve,RK,Deferred.ofValue,invoke]
 rw[gW];have nH:(xs.toList.map a.eval).toArray=xs.map a.eval:=by rw[<-atx,asH]
 rw[nH]at hcall;have aS:∀v w',(∃F',Bel (λb=>w.heap.size<=b) w w'/\trep w'.heap true rs v F'/\F'.Nodup/\∀b∈F',w.heap.size<=b)->pF (a.put o.dst v) w':=by
  rintro v w' ⟨F',ak,ar,a4,bP⟩;obtain⟨bl,jk,lF⟩:=RF ar;obtain⟨du,hA,fO⟩:=RH a1 l0 ak ⟨jk.1,jk.2.1,jk.2.2.1⟩ a4 bP;exact hk v w' du (o1 fO o.dst (lF du n _ hA))
 unfold Does at hcall;split at hcall
 ·rename_i h1;rw[h1,Oper.upon_enter];refine Calls.mono hcall λe w' he=>?_
  cases e with
  |returned v=>exact aS v w' he
  |panicked c=>exact he.elim
  |outgrown=>exact he.elim
 ·rename_i h1;rw[h1,Oper.upon_value];exact aS _ _ hcall
 ·rename_i h1;rw[h1,Oper.upon_row];exact Rows.mono hcall aS
 exact hcall.elim
theorem MO{c:Call}{f:FuncId}{xs:Array Operand}{ts:Array TypeId}(aG:o.op=.call c){x:Operand}(hc:c={callee:=.value x,args:=xs,argTypes:=ts})(hf:∀{σ':St} {B:Nat->Prop} {w0:World} {a0:Nat->Prop} {φ:c5} {kp:List (V×Value)} {a:Act} {w:World},σ.le σ'->R B w0 a0 φ σ' kp a w->g->a.eval x=.func (.func f) #[] #[])
  {vs:List V} (hx:∀{σ':St} {B:Nat->Prop} {w0:World} {a0:Nat->Prop} {φ:c5} {kp:List (V×Value)} {a:Act} {w:World},σ.le σ'->R B w0 a0 φ σ' kp a w->g->VRels φ (dq φ σ'.heap) w.heap vs (xs.toList.map a.eval))
  {as rs:List AD} (ah:toADs σ.heap vs=some as) (A7:PureCall P f as rs) (cg:K ⟨pG rs n,(aHs rs).map H.toCln,[]⟩):∃r,iY P o g σ n r/\K r:=by
 subst hc;refine⟨_,?_,cg⟩;intro σ' bu _ B w0 a0 φ kp a w l0 a1 hg pF qR hk;have hv:=hx bu a1 hg;obtain⟨F,bG⟩:=ML bu a1 vs as _ ah hv;have hcall:=A7 w _ F a1.RJ bG;unfold Oper.wp;have gW:(execOp a.eval o).run P w=(callFunc f (xs.map a.eval)).run P w:=by
  unfold execOp;rw[aG];have RK:=hf bu a1 hg;simp[resolve,RK,Deferred.ofValue,invoke]
 rw[gW];have nH:(xs.toList.map a.eval).toArray=xs.map a.eval:=by rw[<-atx,asH]
 rw[nH]at hcall;have aS:∀v w',(∃F',Bel (λb=>w.heap.size<=b) w w'/\trep w'.heap true rs v F'/\F'.Nodup/\∀b∈F',w.heap.size<=b)->pF (a.put o.dst v) w':=by
  rintro v w' ⟨F',ak,ar,a4,bP⟩;obtain⟨bl,jk,lF⟩:=RF ar;obtain⟨du,hA,fO⟩:=RH a1 l0 ak jk.aj a4 bP;exact hk v w' du (o1 fO o.dst (lF du n _ hA))
 unfold Does at hcall;split at hcall
 ·rename_i h1;rw[h1,Oper.upon_enter];refine Calls.mono hcall λe w' he=>?_
  cases e with
  |returned v=>exact aS v w' he
  |panicked c=>exact he.elim
  |outgrown=>exact he.elim
 ·rename_i h1;rw[h1,Oper.upon_value];exact aS _ _ hcall
 ·rename_i h1;rw[h1,Oper.upon_row];exact Rows.mono hcall aS
 exact hcall.elim
def toX(hs:List H)(v:V):Option (D×List Nat):=
 match v with
 |.sl id off len=>match a6 hs id with|.aj sz xs=>if off+len<=xs.length then some (.sl sz ((xs.drop off).take len),[id])else none|_=>toD hs (.sl id off len)
 |v=>toD hs v
def toXs(hs:List H):List V->Option (List D×List Nat)
 |[]=>some ([],[])
 |v::vs=>match toX hs v,toXs hs vs with|some (d,i),some (ds,gG)=>some (d::ds,i++gG)|_,_=>none
section
variable {B:Nat->Prop} {w0:World} {a0:Nat->Prop} {φ:c5} {kp:List (V×Value)} {a:Act} {w:World} {σ:St}
theorem Y8(r:R B w0 a0 φ σ kp a w){v:V}{d:D}{cH:List Nat}(h:toX σ.heap v=some (d,cH)){u:Value}(gV:VRel φ (dq φ σ.heap) w.heap v u) :
  ∃F,rep w.heap true d u F/\F.Nodup/\(∀b∈F,∃id∈cH,d_ φ σ.heap id b)/\∀id∈cH,(a6 σ.heap id).own:=by
 unfold toX at h;split at h
 ·rename_i id off len;split at h
  ·rename_i sz xs hx;split at h
   ·rename_i hl;simp only[cc,dT]at h;obtain⟨rfl,rfl⟩:=h;obtain⟨F,dG,e9,f3⟩:=RD r (id:=id) (by rw[hx];rfl) hl gV;refine⟨F,dG,e9,λb hb=>⟨id,by simp,f3 b hb⟩,λi hi=>?_⟩;simp only[jn]at hi;subst hi;rw[hx];rfl
   cases h
  obtain⟨F,dG,e9,f3,DR⟩:=RL r h gV;exact⟨F,dG,e9,f3,λi hi=>by obtain⟨s,ys,e⟩:=DR i hi;rw[e];rfl⟩
 obtain⟨F,dG,e9,f3,DR⟩:=RL r h gV;exact⟨F,dG,e9,f3,λi hi=>by obtain⟨s,ys,e⟩:=DR i hi;rw[e];rfl⟩
theorem Y9(r:R B w0 a0 φ σ kp a w):∀(vs:List V) (ds:List D) (cH:List Nat) (us:List Value),toXs σ.heap vs=some (ds,cH)->cH.Nodup->VRels φ (dq φ σ.heap) w.heap vs us->
  ∃G,reps w.heap true ds us G/\G.Nodup/\(∀b∈G,∃id∈cH,d_ φ σ.heap id b)
 |[],ds,cH,us,e,_,dr=>by
  simp only[toXs,cc,dT]at e;obtain⟨rfl,rfl⟩:=e;simp only[VRels]at dr;subst dr;exact⟨[],by simp[reps],asd,by simp⟩
 |v::vs,ds,cH,us,e,hnd,dr=>by
  simp only[VRels]at dr;obtain⟨u,c6,rfl,I9,I_⟩:=dr;simp only[toXs]at e;split at e
  ·rename_i d i rP gG ak ar;simp only[cc,dT]at e;obtain⟨rfl,rfl⟩:=e;rw[al_]at hnd;obtain⟨F,dG,e9,f3,DR⟩:=Y8 r ak I9;obtain⟨G,b5,b8,dI⟩:=Y9 r vs rP gG c6 ar hnd.2.1 I_;refine⟨F++G,?_,?_,?_⟩
   ·simp only[reps];exact⟨u,c6,F,G,rfl,rfl,dG,b5⟩
   ·rw[al_];refine⟨e9,b8,λx hx y hy pE=>?_⟩;subst pE;obtain⟨p,dP,dO⟩:=f3 x hx;obtain⟨q,dh,bO⟩:=dI x hy;have:=r.dQ p q x dO bO;exact hnd.2.2 p dP q dh this
   intro b hb;rcases e7.1 hb with hb|hb
   ·obtain⟨p,dP,dO⟩:=f3 b hb;exact⟨p,by simp[dP],dO⟩
   obtain⟨p,dP,dO⟩:=dI b hb;exact⟨p,by simp[dP],dO⟩
  cases e
end
def MP(hs:List H)(v:V):Option (AD×List Nat):=
 match v with
 |.agg vs=>(toXs hs vs).map λ(ds,cH)=>(.agg ds,cH)
 |v=>(toX hs v).map λ(d,cH)=>(.one d,cH)
def toOAs(hs:List H):List V->Option (List AD×List Nat)
 |[]=>some ([],[])
 |v::vs=>match MP hs v,toOAs hs vs with|some (d,i),some (ds,gG)=>some (d::ds,i++gG)|_,_=>none
section
variable {B:Nat->Prop} {w0:World} {a0:Nat->Prop} {φ:c5} {kp:List (V×Value)} {a:Act} {w:World} {σ:St}
theorem ai6(r:R B w0 a0 φ σ kp a w){v:V}{d:AD}{cH:List Nat}(h:MP σ.heap v=some (d,cH))(hn:cH.Nodup){u:Value}(gV:VRel φ (dq φ σ.heap) w.heap v u) :
  ∃F,I4 w.heap true d u F/\F.Nodup/\∀b∈F,∃id∈cH,d_ φ σ.heap id b:=by
 unfold MP at h;split at h
 ·rename_i vs
  cases hd:toXs σ.heap vs with
  |none=>rw[hd]at h;cases h
  |some p=>
   obtain⟨ds,gG⟩:=p;rw[hd]at h;simp only[asj,cc,dT]at h;obtain⟨rfl,rfl⟩:=h;obtain⟨us,rfl,aZ⟩:=I5 gV;obtain⟨G,b5,b8,dI⟩:=Y9 r vs ds gG _ hd hn aZ;exact⟨G,⟨us,rfl,b5⟩,b8,dI⟩
 cases hd:toX σ.heap v with
 |none=>rw[hd]at h;cases h
 |some p=>
  obtain⟨ds,gG⟩:=p;rw[hd]at h;simp only[asj,cc,dT]at h;obtain⟨rfl,rfl⟩:=h;obtain⟨G,b5,b8,dI,_⟩:=Y8 r hd gV;exact⟨G,b5,b8,dI⟩
theorem Y_(r:R B w0 a0 φ σ kp a w):∀(vs:List V) (ds:List AD) (cH:List Nat) (us:List Value),toOAs σ.heap vs=some (ds,cH)->cH.Nodup->VRels φ (dq φ σ.heap) w.heap vs us->
  ∃F,areps w.heap true ds us F/\F.Nodup/\∀b∈F,∃id∈cH,d_ φ σ.heap id b
 |[],ds,cH,us,e,_,dr=>by
  simp only[toOAs,cc,dT]at e;obtain⟨rfl,rfl⟩:=e;simp only[VRels]at dr;subst dr;exact⟨[],⟨rfl,rfl⟩,asd,by simp⟩
 |v::vs,ds,cH,us,e,hnd,dr=>by
  simp only[VRels]at dr;obtain⟨u,c6,rfl,I9,I_⟩:=dr;simp only[toOAs]at e;split at e
  ·rename_i d i rP gG ak ar;simp only[cc,dT]at e;obtain⟨rfl,rfl⟩:=e;rw[al_]at hnd;obtain⟨F,dG,e9,f3⟩:=ai6 r ak hnd.1 I9;obtain⟨G,b5,b8,dI⟩:=Y_ r vs rP gG c6 ar hnd.2.1 I_;refine⟨F++G,⟨u,c6,F,G,rfl,rfl,dG,b5⟩,?_,?_⟩
   ·rw[al_];refine⟨e9,b8,λx hx y hy pE=>?_⟩;subst pE;obtain⟨p,dP,dO⟩:=f3 x hx;obtain⟨q,dh,bO⟩:=dI x hy;exact hnd.2.2 p dP q dh (r.dQ p q x dO bO)
   intro b hb;rcases e7.1 hb with hb|hb
   ·obtain⟨p,dP,dO⟩:=f3 b hb;exact⟨p,by simp[dP],dO⟩
   obtain⟨p,dP,dO⟩:=dI b hb;exact⟨p,by simp[dP],dO⟩
  cases e
end
structure I' where
 q:Nat×H
 β:h5
 F:List Nat
 F':List Nat
structure ai7(σ':St)(φ:c5)(h':Array Obj)(it:I'):Prop where
 au2:∀b∈it.F,d_ φ σ'.heap it.q.1 b
 xG:∃β,φ it.q.1=some β/\it.β.fz=β.fz/\it.β.off=β.off/\it.β.cap=β.cap/\it.β.sz=β.sz
 hr:∀φ T,eR φ T h' it.β it.q.2
 au3:(it.F=[]/\it.F'=[]/\it.β.eb=[])\/∃b G,it.β.fz=some b/\it.F=b::G/\it.F'=b::it.β.eb
 qe:(a6 σ'.heap it.q.1).qe=true
 aY:(it.q.2.B_=false/\it.β.eb=[]/\∀β,φ it.q.1=some β->β.eb=[])\/(a6 σ'.heap it.q.1).B_=true
section
variable {B:Nat->Prop} {w0:World} {a0:Nat->Prop} {φ:c5} {kp:List (V×Value)} {a:Act} {w:World} {σ σ':St}
def Gt(σ':St)(φ:c5)(h':Array Obj)(upd:List (Nat×H))(F F':List Nat):Prop:=
 ∃e3:List I',e3.map I'.q=upd/\e3.flatMap I'.F=F/\e3.flatMap I'.F'=F'/\∀it∈e3,ai7 σ' φ h' it
theorem Gt.nil:Gt σ' φ w.heap [] [] []:=⟨[],rfl,rfl,rfl,by simp⟩
theorem Gt.append{h':Array Obj}{g_ h6:List (Nat×H)}{j9 iT Y' Za:List Nat}(h1:Gt σ' φ h' g_ j9 Y')(h2:Gt σ' φ h' h6 iT Za):Gt σ' φ h' (g_++h6) (j9++iT) (Y'++Za):=by
 obtain⟨hE,cA,db,c0,eo⟩:=h1;obtain⟨fT,eH,eG,eX,mW⟩:=h2;refine⟨hE++fT,by rw[arO,cA,eH],by rw[ash,db,eG],by rw[ash,c0,eX],λit Ja=>?_⟩;rcases e7.1 Ja with Ja|Ja
 ·exact eo it Ja
 exact mW it Ja
end
variable {P:Program} {o:Oper} {g:Bool} {σ:St} {n:Nat} {K:fL->Prop}
section
variable {B:Nat->Prop} {w0:World} {a0:Nat->Prop} {φ:c5} {kp:List (V×Value)} {a:Act} {w:World} {σ:St}
end
section
variable {P:Program} {o:Oper} {g:Bool} {σ:St} {n:Nat} {K:fL->Prop}
end
end Gv
