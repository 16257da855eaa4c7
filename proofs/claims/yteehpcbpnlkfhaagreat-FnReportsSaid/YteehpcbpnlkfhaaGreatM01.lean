/-
  Part of the proof: the machine, what functions compute, and the plain laws.
-/
import Derived.Test.YteehpcbpnlkfhaaGreatM00
import Derived.Deep.LoopGhost
import GoSem.ClaimChange
set_option maxHeartbeats 80000000
set_option maxRecDepth 100000
namespace Gv
open Go
open _root_.Array renaming toArray_toList->asH,toList_eq_nil_iff->ax_,getElem?_toList->ac_,getElem?_eq_getElem->arZ,getD_eq_getD_getElem?->arU,getElem?_eq_some_iff->asO,replicate->atS,mapM_eq_mapM_toList->atO
open _root_.Nat renaming lt_or_ge->asv,add_zero->ao_,add_right_comm->atW,strongRecOn->azO,zero_add->asA,lt_or_gt_of_ne->az_
open _root_.List renaming getElem?_eq_none->arX,getElem?_set->atD,getElem?_eq_some_iff->aj_,nodup_append->al_,mem_of_getElem?->arW,mem_map->aa_,mem_cons->rD,mem_append_left->asm,mem_append_right->asW,range->pv,all_eq_true->ae_,mem_range->asl,any_eq_true->asX,eq_nil_of_length_eq_zero->arL,countP_cons_of_neg->aub,countP_cons_of_pos->aty,length->asy,getElem?_map->ats,ext_getElem?->au_,eq_nil_iff_forall_not_mem->asY,take_append_drop->ad_,mem_cons_of_mem->atb,replicate->ea,size_toArray->arQ,length_eq_one_iff->auh,replicate_succ->atu,map_nil->asi,all_nil->aAD,all_cons->as_,append->aAn
open _root_.List.cons renaming injEq->atR
open _root_.Bool renaming false_eq_true->ai_,or_eq_true->arG,not_eq_true'->ab_,and_eq_false_iff->arR,eq_iff_iff->asa
open _root_.Option renaming map_some->asj
open _root_.Go.IntKind renaming i64->arV,u8->aso
open _root_.UInt8 renaming ofNat->ass
variable {P:Program} {o:Oper} {g:Bool} {σ:St} {n:Nat} {K:fL->Prop}
def yL(r:Option (Prop×fL))(K:fL->Prop):Prop:=match r with|some (p,r)=>p/\K r|none=>False
def RM(r:Option Nat)(K:Nat->Prop):Prop:=match r with|some m=>K m|none=>False
def av(P:Program)(f:FuncId)(as:Option (List AD))(_:List H)(_:List V)(n:Nat)(K:fL->Prop):Prop:=
 (∃A8 rs,as=some A8/\PureCall P f A8 rs/\K ⟨pG rs n,aHs rs,[]⟩)\/
 (∃A8 rs,as=some A8/\PureCall P f A8 rs/\K ⟨pG rs n,(aHs rs).map H.toCln,[]⟩)
theorem av.intro{f:FuncId}{as rs:List AD}{hs:List H}{vs:List V}(h:PureCall P f as rs)(hk:K ⟨pG rs n,aHs rs,[]⟩):av P f (some as) hs vs n K:=.inl ⟨as,rs,rfl,h,hk⟩
theorem av.i{f:FuncId}{as rs:List AD}{hs:List H}{vs:List V}(hk:K ⟨pG rs n,aHs rs,[]⟩)(h:PureCall P f as rs:=by assumption):av P f (some as) hs vs n K:=av.intro h hk
def fnE(v:V)(K:FuncId->List V->Prop):Prop:=match v with|.fn f gd=>K f gd|_=>False
theorem Zb{v:V}{K:FuncId->List V->Prop}(h:fnE v K):∃f gd,v=.fn f gd/\K f gd:=by
 unfold fnE at h;split at h
 ·exact⟨_,_,rfl,h⟩
 exact h.elim
def callE(P:Program)(g:Bool)(σ:St)(n:Nat)(c:Callee)(xs:List Operand)(ts:List TypeId)(K:fL->Prop):Prop:=
 match c,xs,ts with
 |.builtin .len,[x],[T]=>evg g (σ.ev x) λa=>RM (lenE P T a) λm=>K (dr (rQ .i64 m))
 |.builtin .append,[x,y],[T,U]=>T=U/\evg g (σ.ev x) λa=>evg g (σ.ev y) λb=>yL (Gu P σ.heap T a b n) K
 |.builtin .clear,[x],[T]=>evg g (σ.ev x) λa=>yL (clrE P σ.heap T a) K
 |.builtin .min,[x,y],[_,_]=>evg g (σ.ev x) λa=>evg g (σ.ev y) λb=>asI a λk i=>asI b λl1 j=>k=l1/\K (dr (rQ k (if j<i then j else i)))
 |.builtin .max,[x,y],[_,_]=>evg g (σ.ev x) λa=>evg g (σ.ev y) λb=>asI a λk i=>asI b λl1 j=>k=l1/\K (dr (rQ k (if j>i then j else i)))
 |.value (.func f),xs,_=>evs g σ xs λvs=>av P f (toADs σ.heap vs) σ.heap vs n K
 |.value x,xs,_=>evg g (σ.ev x) λA9=>fnE A9 λf gd=>gd=[]/\evs g σ xs λvs=>av P f (toADs σ.heap vs) σ.heap vs n K
 |_,_,_=>False
def opE(P:Program)(g:Bool)(σ:St)(n:Nat)(o:Oper)(K:fL->Prop):Prop:=
 match o.op with
 |.move x=>evg g (σ.ev x) λv=>K (dr (m7 P o.type v))
 |.assign x=>evg g (σ.ev x) λv=>K (dr (m7 P o.type v))
 |.pick c x y=>El g (σ.ev c) (σ.ev x) (σ.ev y) λv=>K (dr v)
 |.binOp op T x y _=>evg g (σ.ev x) λa=>evg g (σ.ev y) λb=>withR (binE P op T a b) λv=>K (dr v)
 |.unOp op _ x=>evg g (σ.ev x) λa=>withO (unE op a) λv=>K (dr v)
 |.extract x i=>evg g (σ.ev x) λa=>withO (extE a i) λv=>K (dr v)
 |.nilCheck x=>evg g (σ.ev x) λa=>ptrE a/\K (dr a)
 |.fieldAddr S x f=>evg g (σ.ev x) λa=>withO (faE P S f a) λv=>K (dr v)
 |.indexAddr T x mc=>evg g (σ.ev x) λa=>evg g (σ.ev mc) λb=>asI b λ_ i=>withR (iaE P σ.heap T a i) λv=>K (dr v)
 |.load T x=>evg g (σ.ev x) λa=>withR (loadE P σ.heap T a) λv=>K (dr v)
 |.index T x mc=>evg g (σ.ev x) λa=>evg g (σ.ev mc) λb=>asI b λ_ i=>withR (ixE P T a i) λv=>K (dr v)
 |.slice T x cr hi none=>evg g (σ.ev x) λa=>bndE g σ 0 cr λl=>bndE g σ (Gw a) hi λh=>withR (cutE P σ.heap T a l h) λv=>K (dr v)
 |.convert oZ dst x=>evg g (σ.ev x) λa=>withR (cvE P σ.heap oZ dst a) λv=>K (dr v)
 |.build T hI=>evParts g σ hI.toList λps=>withO (bldE P T ps) λv=>K (dr v)
 |.alloc T=>withO ((zrI P T).map V.agg) λv=>K ⟨.ptr n 0 0,[.box v.cells],[]⟩
 |.box _ x=>evg g (σ.ev x) λv=>v.zV/\K ⟨.ptr n 0 0,[.box v.cells],[]⟩
 |.store T p x=>evg g (σ.ev p) λq=>evg g (σ.ev x) λv=>yL ((storeE P σ.heap T q (m7 P T v)).map λ(c,upd)=>(c,⟨.an,[],upd⟩)) K
 |.buildSlice T len hI=>evParts g σ hI.toList λps=>yL (bsE P σ.heap T len ps n) K
 |.makeSlice T x y=>x=y/\evg g (σ.ev x) λv=>asI v λ_ i=>yL (mkE P T i n) K
 |.makeFunc (.func f) ys gd=>ys.toList=[]/\evs g σ gd.toList λvs=>K (dr (.fn f vs))
 |.call c=>callE P g σ n c.callee c.args.toList c.argTypes.toList K
 |.slice T x (some cr) (some hi) (some sR)=>evg g (σ.ev x) λa=>bndE g σ 0 (some cr) λl=>bndE g σ 0 (some hi) λh=>bndE g σ 0 (some sR) λm=>withR (cut3E P T a l h m) λv=>K (dr v)
 |_=>False
theorem Zc{g:Bool}{v:V}{K ik:V->Prop}(h:evg g v K)(hk:∀v,K v->ik v):evg g v ik:=by
 unfold evg at *;split at h
 ·exact⟨h.1,hk _ h.2⟩
 exact hk _ h
theorem MQ{α:Type}{a:Array α}{x:α}(h:a.toList=[x]):a=#[x]:=by rw[<-asH (xs:=a),h]
theorem Gx{α:Type}{a:Array α}{x y:α}(h:a.toList=[x,y]):a=#[x,y]:=by rw[<-asH (xs:=a),h]
theorem ai8{c:Call}(aG:o.op=.call c)(h:callE P g σ n c.callee c.args.toList c.argTypes.toList K):∃r,iY P o g σ n r/\K r:=by
 obtain⟨au4,xs,ts⟩:=c;simp only at h;unfold callE at h;split at h
 ·rename_i x T h1 h2;refine ok_len aG (x:=x) (T:=T) (by rw[MQ h1,MQ h2]) h
 ·rename_i x y T U h1 h2;obtain⟨rfl,h⟩:=h;exact ai9 aG (x:=x) (y:=y) (T:=T) (by rw[Gx h1,Gx h2]) h
 ·rename_i x T h1 h2;exact aja aG (x:=x) (T:=T) (by rw[MQ h1,MQ h2]) h
 ·rename_i x y T U h1 h2;exact ajb aG (x:=x) (y:=y) (T:=T) (U:=U) (by rw[Gx h1,Gx h2]) h
 ·rename_i x y T U h1 h2;exact ajc aG (x:=x) (y:=y) (T:=T) (U:=U) (by rw[Gx h1,Gx h2]) h
 ·obtain⟨vs,h,hx⟩:=Jb _ _ h;rcases h with ⟨as,rs,h1,h2,ao⟩|⟨as,rs,h1,h2,ao⟩
  ·exact RI aG rfl (λ_ _ _=>rfl) hx h1 h2 ao
  exact MO aG rfl (λ_ _ _=>rfl) hx h1 h2 ao
 ·rename_i x _;obtain⟨A9,h',hf⟩:=hX h;obtain⟨f,gd,rfl,h'⟩:=Zb h';clear h;obtain⟨rfl,h⟩:=h';have Gy:∀{σ':St} {B:Nat->Prop} {w0:World} {a0:Nat->Prop} {φ:c5} {kp:List (V×Value)} {a:Act} {w:World},σ.le σ'->R B w0 a0 φ σ' kp a w->g->a.eval x=.func (.func f) #[] #[]:=by
   intro σ' B w0 a0 φ kp a w bu a1 hg;have:=hf _ _ _ _ hg (g' bu a1 x);simp only[VRel]at this;obtain⟨us,e,ar⟩:=this;simp only[VRels]at ar;rw[e];congr 1;exact ax_.1 ar
  obtain⟨vs,h,hx⟩:=Jb _ _ h;rcases h with ⟨as,rs,h1,h2,ao⟩|⟨as,rs,h1,h2,ao⟩
  ·exact RI aG rfl Gy hx h1 h2 ao
  exact MO aG rfl Gy hx h1 h2 ao
 ·exact h.elim
theorem Gz(h:opE P g σ n o K):∃r,iY P o g σ n r/\K r:=by
 unfold opE at h;split at h
 case h_1 x aG=>exact Zd (.inl aG) h
 case h_2 x aG=>exact Zd (.inr aG) h
 case h_3 c x y aG=>exact ajd aG h
 case h_4 op T x y hQ aG=>exact aje aG h
 case h_5 op T x aG=>exact ajf aG h
 case h_6 x i aG=>exact ajg aG h
 case h_7 x aG=>exact ajh aG h
 case h_8 S x f aG=>exact aji aG h
 case h_9 T x mc aG=>exact ajj aG h
 case h_10 T x aG=>exact ajk aG h
 case h_11 T x mc aG=>exact ajl aG h
 case h_12 T x cr hi aG=>exact ajm aG h
 case h_13 oZ dst x aG=>exact ajn aG h
 case h_14 T hI aG=>exact ajo aG h
 case h_15 T aG=>
  refine ok_alloc aG ?_
  cases hz:zrI P T with
  |none=>rw[hz]at h;exact h
  |some z=>rw[hz]at h;exact h
 case h_16 T x aG=>exact ajp aG h
 case h_17 T p x aG=>
  refine ok_store aG ?_;refine Zc h λq h=>Zc h λv h=>?_
  cases hs:storeE P σ.heap T q (m7 P T v)with
  |none=>rw[hs]at h;exact h
  |some p=>rw[hs]at h;exact h
 case h_18 T len hI aG=>exact ok_buildSlice aG h
 case h_19 T x y aG=>obtain⟨rfl,h⟩:=h;exact ajq aG h
 case h_20 f ys gd aG=>
  obtain⟨hy,h⟩:=h;have:ys=#[]:=by rw[<-asH (xs:=ys),hy]
  subst this;exact ajr aG h
 case h_21 c aG=>exact ai8 aG h
 case h_22 T x cr hi sR aG=>exact ajs aG h
 case h_23=>exact h.elim
def xH(P:Program)(g:Bool)(σ:St)(n:Nat)(o:Oper)(K:fL->Prop):Prop:=
 (g/\opE P true σ n o K)\/(g=false/\K (dr (.b9 false (.d (.bool false)))))\/opE P g σ n o λr=>r.new=[]/\r.upd=[]/\K (dr (.b9 g r.v))
theorem ajt(h:opE P true σ n o K):xH P true σ n o K:=.inl ⟨rfl,h⟩
theorem aju(h:K (dr (.b9 false (.d (.bool false))))):xH P false σ n o K:=.inr (.inl ⟨rfl,h⟩)
theorem Ze(h:opE P g σ n o λr=>r.new=[]/\r.upd=[]/\K (dr (.b9 g r.v))):xH P g σ n o K:=.inr (.inr h)
def stepE(P:Program)(aQ:List Oper)(σ:St)(n:Nat)(o:Oper)(K:fL->Prop):Prop:=
 match o.guard with
 |none=>opE P true σ n o K
 |some (j,mH)=>
  match(aQ[j]?).bind (·.dst)with
  |some d=>
   match σ.ev (.tmp d)with
   |.d (.bool b)=>xH P (b == mH) σ n o K
   |.b9 c (.d (.bool b))=>xH P (c&&(b == mH)) σ n o K
   |_=>False
  |none=>False
def Mn(P:Program)(aQ:Array Oper)(o:Oper)(σ:St)(n:Nat)(r:fL):Prop:=
 ∀σ':St,σ.le σ'->(∀i,n<=i->i<n+r.new.length->a6 σ'.heap i=.ek)->
 ∀(B:Nat->Prop) (w0:World) (a0:Nat->Prop) (φ:c5) (kp:List (V×Value)) (a:Act) (w:World),(∀i,n<=i->i<n+r.new.length->¬a0 i)->R B w0 a0 φ σ' kp a w->
 ∀(K:Act->World->Prop) (Q:Exit->Act->World->Prop),
  (∀u w' du,R B w0 (λi=>a0 i\/(n<=i/\i<n+r.new.length)) du (σ'.d7 o.dst n r) kp (a.put o.dst u) w'->K (a.put o.dst u) w')->
  if Region.wanted o (yielded aQ a.tmps)then o.wp P a w K Q\/(o.asks P a w/\LetsOut Q)else K (a.put o.dst undef) w
theorem ajv{B:Nat->Prop}{w0:World}{a0:Nat->Prop}{φ:c5}{σ:St}{kp:List (V×Value)}{a:Act}{w:World}(r:R B w0 a0 φ σ kp a w){ts:List V}(hl:ts.length=σ.tmps.length)
  (h:∀(t:Nat) (gX v:V) (u:Value),ts[t]?=some gX->σ.tmps[t]?=some v->VRel φ (dq φ σ.heap) w.heap v u->VRel φ (dq φ σ.heap) w.heap gX u):R B w0 a0 φ ⟨ts,σ.heap⟩ kp a w:=by
 refine⟨CE _ _ (by rw[mG _ _ r.jA,hl]) λt gX u ak ar=>?_,r.kp,r.hp,r.dQ,r.eI,r.gH,r.iS,r.hR,r.bs,r.pg,r.np⟩;have hlt:t<σ.tmps.length:=by
  rcases asv t ts.length with h|h
  ·omega
  rw[arX h]at ak;cases ak
 obtain⟨zW,k1,k2⟩:=yM _ _ r.jA t _ (cy hlt);rw[k1]at ar;cases ar;exact h t gX _ u ak (cy hlt) k2
theorem RN{B:Nat->Prop}{w0:World}{a0:Nat->Prop}{φ:c5}{σ:St}{kp:List (V×Value)}{a:Act}{w:World}{dst:Option Tmp}{v:V}{n:Nat}{hs:List H}{upd:List (Nat×H)}(r:R B w0 a0 φ (σ.d7 dst n ⟨v,hs,upd⟩) kp a w) :
  R B w0 a0 φ (σ.d7 dst n ⟨.b9 true v,hs,upd⟩) kp a w:=by
 cases dst with
 |none=>exact r
 |some d=>
  refine ajv r (by simp[St.d7]) λt gX au5 u ak ar hr=>?_;simp only[St.d7,atD]at ak ar;by_cases h:d=t
  ·subst h;simp only[if_true]at ak ar;split at ak
   ·cases ak
    rw[if_pos ‹_›]at ar;cases ar;simp only[VRel];exact⟨λ_=>hr,λh=>by cases h⟩
   cases ak
  simp only[h,if_false]at ak ar;rw[ak]at ar;cases ar;exact hr
theorem GA{B:Nat->Prop}{w0:World}{a0:Nat->Prop}{φ:c5}{σ σ':St}{kp:List (V×Value)}{a:Act}{w:World}(bu:σ.le σ')(r:R B w0 a0 φ σ' kp a w){d:Tmp}{v:V}(hv:σ.ev (.tmp d)=v)(aI:v≠.an) :
  ∃u,a.tmps[d]?=some u/\VRel φ (dq φ σ'.heap) w.heap v u:=by
 have he:=bu.ev (.tmp d);rw[hv]at he;rcases he with h|h
 ·exact absurd h aI
 simp only[St.ev,lU]at h
 cases ht:σ'.tmps[d]? with
 |none=>rw[ht]at h;exact absurd h.symm aI
 |some gX=>
  rw[ht]at h;simp only[kk]at h;subst h;obtain⟨u,k1,k2⟩:=yM _ _ r.jA d _ ht;rw[ac_]at k1;exact⟨u,k1,k2⟩
theorem GB{φ:c5}{T:Nat->Prop}{h:Array Obj}(v:V):VRel φ T h (.b9 false v) undef:=by
 simp only[VRel];exact⟨λh=>(Bool.noConfusion h),λ_=>trivial⟩
theorem Zf{aQ:Array Oper}(hw:∀{σ':St} {B:Nat->Prop} {w0:World} {a0:Nat->Prop} {φ:c5} {kp:List (V×Value)} {a:Act} {w:World},σ.le σ'->R B w0 a0 φ σ' kp a w->Region.wanted o (yielded aQ a.tmps)=g)
  (h:xH P g σ n o K):∃r,Mn P aQ o σ n r/\K r:=by
 rcases h with ⟨rfl,h⟩|⟨rfl,h⟩|h
 ·obtain⟨r,h1,h2⟩:=Gz h;refine⟨r,λσ' bu hd B w0 a0 φ kp a w l0 a1 pF qR hk=>?_,h2⟩;rw[if_pos (hw bu a1)];exact .inl (h1 σ' bu hd B w0 a0 φ kp a w l0 a1 rfl pF qR hk)
 ·refine⟨_,λσ' bu hd B w0 a0 φ kp a w l0 a1 pF qR hk=>?_,h⟩;rw[if_neg (by rw[hw bu a1];simp)];exact hk undef w φ (Jc (o1 a1 o.dst (GB _)) λi h=>.inl h)
 obtain⟨r,h1,h2,ao,aH⟩:=Gz h;refine⟨_,λσ' bu hd B w0 a0 φ kp a w l0 a1 pF qR hk=>?_,aH⟩;obtain⟨v,new,upd⟩:=r;simp only at h2 ao;subst h2;subst ao;cases g
 ·rw[if_neg (by rw[hw bu a1];simp)];exact hk undef w φ (Jc (o1 a1 o.dst (GB v)) λi h=>.inl h)
 rw[if_pos (hw bu a1)];refine .inl (h1 σ' bu hd B w0 a0 φ kp a w l0 a1 rfl pF qR λu w' du hr=>hk u w' du ?_);exact RN (σ:=σ') (v:=v) (dst:=o.dst) hr
theorem aiA{aQ:Array Oper}(h:stepE P aQ.toList σ n o K):∃r,Mn P aQ o σ n r/\K r:=by
 unfold stepE at h;split at h
 ·rename_i hg;obtain⟨r,h1,h2⟩:=Gz h;refine⟨r,λσ' bu hd B w0 a0 φ kp a w l0 a1 pF qR hk=>?_,h2⟩;rw[if_pos (by simp[Region.wanted,hg])];exact .inl (h1 σ' bu hd B w0 a0 φ kp a w l0 a1 rfl pF qR hk)
 rename_i j mH hg;split at h
 ·rename_i d hd;rw[ac_]at hd;split at h
  ·rename_i b hv;refine Zf (λbu a1=>?_) h;obtain⟨u,k1,k2⟩:=GA bu a1 hv ξ;rw[pw k2]at k1;simp[Region.wanted,hg,yielded,hd,k1]
  ·rename_i c b hv;refine Zf (fun {σ' B w0 a0 φ kp a w} bu a1=>?_) h;obtain⟨u,k1,k2⟩:=GA bu a1 hv ξ;simp only[VRel]at k2;cases c
   ·rw[k2.2 rfl]at k1;simp[Region.wanted,hg,yielded,hd,k1,undef]
   rw[pw (φ:=φ) (T:=dq φ σ'.heap) (h:=w.heap) (b:=b) (u:=u) (by simp only[VRel];exact k2.1 rfl)]at k1;simp[Region.wanted,hg,yielded,hd,k1]
  exact h.elim
 exact h.elim
def CF(v:V)(mH:Bool)(K:Bool->Prop):Prop:=
 match v with
 |.d (.bool b)=>K (b == mH)
 |.b9 c (.d (.bool b))=>K (c&&(b == mH))
 |_=>False
def zX(aQ:List Oper)(j:Nat)(K:Tmp->Prop):Prop:=match(aQ[j]?).bind (·.dst)with|some d=>K d|none=>False
def fX(B:Nat->Prop)(w0:World)(kp:List (V×Value))(σ:St)(a:Act)(w:World):Prop:=∃a0 φ,R B w0 a0 φ σ kp a w/\∀i,a0 i->i<σ.heap.length
def et(P:Program)(f:FuncId)(kv:List V)(hs:List H)(vs:List V)(K:V->List H->Prop):Prop:=
 ∀(B:Nat->Prop) (w0:World) (kp:List (V×Value)) (us:List Value) (w:World),kp.map (·.1)=kv->fX B w0 kp ⟨vs,hs⟩ ⟨us.toArray,[]⟩ w->
  Does P f us.toArray w λv w'=>∃x hs',K x hs'/\fX B w0 kp ⟨[x],hs'⟩ ⟨#[v],[]⟩ w'
def g9(ts:List V)(dst:Option Tmp)(v:V):List V:=match dst with|some d=>ts.set d v|none=>ts
theorem Jd(hs:List H)(i:Nat)(x:H):hs.length<=(cF hs i x).length/\i<(cF hs i x).length:=by
 unfold cF;split
 ·rename_i h;simp[h]
 rename_i h;simp;omega
theorem IY:∀(xs:List H) (hs:List H) (n:Nat),hs.length<=(hnew hs n xs).length/\(xs=[]\/n+xs.length<=(hnew hs n xs).length)
 |[],hs,n=>⟨fH _,.inl rfl⟩
 |x::xs,hs,n=>by
  have h1:=Jd hs n x;have h2:=IY xs (cF hs n x) (n+1);simp only[hnew,e0];refine⟨by omega,.inr ?_⟩;rcases h2.2 with rfl|h
  ·simp only[hnew,g1];omega
  omega
theorem Mt:∀(upd:List (Nat×H)) (hs:List H),hs.length<=(hupd hs upd).length
 |[],hs=>fH _
 |(i,x)::r,hs=>by
  have h1:=Jd hs i x;have h2:=Mt r (cF hs i x);simp only[hupd];omega
theorem zF{hs:List H}{i:Nat}(h:hs.length<=i):a6 hs i=.ek:=by
 unfold a6;rw[lU,arX h];rfl
theorem Zg{h:Array Obj}{o:Bool}{b:Nat}:∀(ds:List D) (f:Nat) (G:List Nat),repC h o b f ds G->∃us:List Value,reps h o ds us G/\∀(j:Nat) (u:Value),us[j]?=some u->cellAt h b (f+j)=some u
 |[],f,G,r=>by simp only[repC]at r;exact⟨[],⟨rfl,r⟩,by simp⟩
 |d::ds,f,G,r=>by
  simp only[repC]at r;obtain⟨v,cE,cw,rfl,ar,a4,bP⟩:=r;obtain⟨us,k1,k2⟩:=Zg ds (f+1) cw bP;refine⟨v::us,⟨v,us,cE,cw,rfl,rfl,a4,k1⟩,λj u aI=>?_⟩
  cases j with
  |zero=>simp at aI;subst aI;simpa using ar
  |succ j=>rw[show f+(j+1)=f+1+j from by omega];exact k2 j u (by simpa using aI)
theorem ajw{B:Nat->Prop}{w0:World}{kp:List (V×Value)}{σ:St}{a:Act}{w:World}(r:fX B w0 kp σ a w){id cC sz:Nat}{xs:List (List D)}{c:List D}(hx:a6 σ.heap id=.aj sz xs)(hc:xs[cC]?=some c) :
  fX B w0 kp ⟨σ.tmps,hnew (cF σ.heap id (.h3 sz (xs.take cC) (rVs c σ.heap.length) (xs.drop (cC+1)))) σ.heap.length (rHs c)⟩ a w:=by
 obtain⟨a0,φ,r,bD⟩:=r;have au6:id<σ.heap.length:=by
  rcases asv id σ.heap.length with h|h
  ·exact h
  rw[zF h]at hx;cases hx
 have hlt:cC<xs.length:=(aj_.1 hc).1;rcases r.hp id with hd|⟨β,ak,hr⟩
 ·rw[hx]at hd;cases hd
 rw[hx]at hr;simp only[eR]at hr;obtain⟨dM,hr⟩:=hr;rcases hr with hr|⟨b,aZ,bA,c9,dn⟩
 ·rw[hr.2.1]at hlt;simp at hlt
 obtain⟨cE,qg,cw,bY,sX,xI,Em,En⟩:=Je dn hc;obtain⟨us,g_,h6⟩:=Zg _ _ _ Em;obtain⟨bl,⟨jk,lF,A3,Md⟩,hv⟩:=RE c us qg g_;have j8:=r.eI id β ak (by rw[hx];rfl);rw[bY]at j8;have A_:qg.Nodup:=by
  have:=j8.1;rw[al_]at this;have:=this.2.1;rw[al_]at this;exact this.1
 have ajx:(cE++cw).Nodup:=by
  have:=j8.1;simp only[al_,e7]at this⊢;grind
 have Zh:∀x∈qg,x∉cE/\x∉cw:=by
  have:=j8.1;simp only[al_,e7]at this;grind
 let n:=σ.heap.length
 let du:c5:=λi=>if i=id then some {β with eb:=cE++cw}else if n<=i/\i<n+(rHs c).length then bl[i-n]? else φ i
 have Gr:∀i,n<=i->φ i=none:=λi h=>by
  cases h':φ i with
  |none=>rfl
  |some β=>have:=bD i (r.iS i β h');omega
 have CG:du id=some {β with eb:=cE++cw}:=if_pos rfl;have MR:∀i,n<=i/\i<n+(rHs c).length->du i=bl[i-n]?:=λi h=>by
  show(if i=id then _ else _)=_
  rw[if_neg ω,if_pos h]
 have RO:∀i,i≠id->¬(n<=i/\i<n+(rHs c).length)->du i=φ i:=λi h1 h2=>by
  show(if i=id then _ else _)=_
  rw[if_neg h1,if_neg h2]
 have Jf:a6 (hnew (cF σ.heap id (.h3 sz (xs.take cC) (rVs c σ.heap.length) (xs.drop (cC+1)))) σ.heap.length (rHs c)) id=.h3 sz (xs.take cC) (rVs c σ.heap.length) (xs.drop (cC+1)):=by
  rw[Ec,if_neg ω,jh,if_pos rfl]
 have Zi:∀i,n<=i/\i<n+(rHs c).length->∃x,(rHs c)[i-n]?=some x/\a6 (hnew (cF σ.heap id (.h3 sz (xs.take cC) (rVs c σ.heap.length) (xs.drop (cC+1)))) σ.heap.length (rHs c)) i=x:=by
  intro i h;have hl:i-n<(rHs c).length:=by omega
  refine⟨(rHs c)[i-n],cy hl,?_⟩;rw[Ec,if_pos h,lU,cy hl];rfl
 have Zj:∀i,i≠id->¬(n<=i/\i<n+(rHs c).length)->a6 (hnew (cF σ.heap id (.h3 sz (xs.take cC) (rVs c σ.heap.length) (xs.drop (cC+1)))) σ.heap.length (rHs c)) i=a6 σ.heap i:=by
  intro i h1 h2;rw[Ec,if_neg h2,jh,if_neg h1]
 have hA:sW du n bl:=λi bF e=>by
  have hl:i<bl.length:=by
   rcases asv i bl.length with h|h
   ·exact h
   rw[arX h]at e;cases e
  rw[MR (n+i) ⟨by omega,by omega⟩,Nat.add_sub_cancel_left];exact e
 have MS:∀(i:Nat) (bF:h5) (g:Nat),bl[i]?=some bF->g∈n9 bF->g∈qg:=λi bF g h1 h2=>by rw[<-lF];exact List.mem_flatMap.2 ⟨bF,arW h1,h2⟩
 generalize RP:hnew (cF σ.heap id (.h3 sz (xs.take cC) (rVs c σ.heap.length) (xs.drop (cC+1)))) σ.heap.length (rHs c)=hs' at Jf Zi Zj⊢;have kZ:∀i,(i=id\/(n<=i/\i<n+(rHs c).length))->∀g,d_ du hs' i g->(i=id/\(g=b\/g∈cE++cw))\/(i≠id/\∃bF,bl[i-n]?=some bF/\g∈n9 bF):=by
  rintro i hi g ⟨bF,ar,aG⟩;by_cases o2:i=id
  ·subst o2;rw[CG]at ar;cases ar;refine .inl ⟨rfl,?_⟩;rcases aG with ⟨_,aG⟩|⟨_,aG⟩
   ·simp only[aZ,cc]at aG;exact .inl aG.symm
   exact .inr aG
  have hi:=hi.resolve_left o2;rw[MR i hi]at ar;refine .inr ⟨o2,bF,ar,?_⟩;unfold n9;rcases aG with ⟨_,aG⟩|⟨_,aG⟩<;>simp[aG]
 have GC:∀g,(g=b\/g∈β.eb)->d_ φ σ.heap id g:=by
  intro g hg;rcases hg with rfl|hg
  ·exact⟨β,ak,.inl ⟨by rw[hx];rfl,aZ⟩⟩
  exact⟨β,ak,.inr ⟨by rw[hx];rfl,hg⟩⟩
 have ajy:∀g,(g=b\/g∈β.eb)->nt (a6 σ.heap id) β g:=by
  intro g hg;rw[hx];rcases hg with rfl|hg
  ·exact .inl ⟨rfl,aZ⟩
  exact .inr ⟨rfl,hg⟩
 have yK:∀g,(g∈cE++cw\/g∈qg)->g∈β.eb:=by
  intro g hg;rw[bY];simp only[e7]at hg⊢;grind
 have bu:p6 φ du:=λi bF hi=>by
  by_cases h:i=id
  ·subst h;rw[ak]at hi;cases hi;exact⟨_,CG,rfl,rfl,rfl,rfl⟩
  have:¬(n<=i/\i<n+(rHs c).length):=λh'=>by rw[Gr i h'.1]at hi;cases hi
  exact⟨bF,by rw[RO i h this];exact hi,rfl,rfl,rfl,rfl⟩
 refine⟨λi=>a0 i\/(n<=i/\i<n+(rHs c).length),du,A6 r (λi=>i=id\/(n<=i/\i<n+(rHs c).length)) _ du hs' w (λi hi=>⟨Zj i (λh=>hi (.inl h)) (λh=>hi (.inr h)),RO i (λh=>hi (.inl h)) (λh=>hi (.inr h))⟩) bu (fH _) (λ_ _ _=>rfl)
  (λi hi g aG=>?_) (λi hi bF ar g ht=>?_) (λi j g hi aI h1 h2=>?_) (λi bF hi ar _=>?_) (λi hi=>?_) (λi bF ar=>?_) r.hR,λi hi=>?_⟩
 ·right;refine⟨id,.inl rfl,GC g ?_⟩;rcases kZ i hi g aG with ⟨_,h|h⟩|⟨_,bF,h1,h2⟩
  ·exact .inl h
  ·exact .inr (yK g (.inl h))
  exact .inr (yK g (.inr (MS _ bF g h1 h2)))
 ·right;refine⟨id,β,.inl rfl,ak,ajy g ?_⟩;rcases kZ i hi g (nt.A' ar ht)with ⟨_,h|h⟩|⟨_,bF,h1,h2⟩
  ·exact .inl h
  ·exact .inr (yK g (.inl h))
  exact .inr (yK g (.inr (MS _ bF g h1 h2)))
 ·have nd:b∉qg:=λh=>j8.2 b aZ (by simp[h]);rcases kZ i hi g h1 with ⟨dh,bO⟩|⟨dh,Zk,bO,cz⟩<;>rcases kZ j aI g h2 with ⟨dP,dO⟩|⟨dP,jR,dO,ih⟩
  ·rw[dh,dP]
  ·exfalso;have:=MS _ jR g dO ih;rcases bO with rfl|bO
   ·exact nd this
   have bR:=Zh g this;rcases e7.1 bO with h|h
   ·exact bR.1 h
   exact bR.2 h
  ·exfalso;have:=MS _ Zk g bO cz;rcases dO with rfl|dO
   ·exact nd this
   have bR:=Zh g this;rcases e7.1 dO with h|h
   ·exact bR.1 h
   exact bR.2 h
  have:=Y5 bl lF A_ _ _ Zk jR g bO dO cz ih;have hi:=hi.resolve_left dh;have aI:=aI.resolve_left dP;omega
 ·by_cases o2:i=id
  ·subst o2;rw[CG]at ar;cases ar;refine⟨ajx,λg hg sY=>j8.2 g hg ?_⟩;simp only[e7]at sY⊢;grind
  have hi:=hi.resolve_left o2;rw[MR i hi]at ar;have:=Y6 bl lF A_ bF (arW ar);unfold n9 at this;rw[al_]at this;exact⟨this.2.1,λg hg sY=>this.2.2 g (by simp[hg]) g sY rfl⟩
 ·right;by_cases o2:i=id
  ·subst o2;refine⟨_,CG,?_⟩;rw[Jf];have oz:(xs.take cC).length=cC:=by simp;omega
   have hV:=hv du n (dq du hs') hA;refine⟨dM,?_,b,cE,cw,us,aZ,by rw[oz,List.length_drop];show cC+1+(xs.length-(cC+1))<=β.cap;omega,c9,rfl,xI,hV,λj u aI=>?_,?_⟩
   ·rw[<-mG _ _ hV,Eo _ _ _ g_];exact sX
   ·rw[oz];exact h6 j u aI
   rw[oz];exact En
  have hi:=hi.resolve_left o2;obtain⟨x,h1,h2⟩:=Zi i hi;have hl:i-n<bl.length:=by omega
  refine⟨bl[i-n],by rw[MR i hi];exact cy hl,?_⟩;rw[h2];exact A3 _ _ _ (cy hl) h1 _ _
 ·by_cases o2:i=id
  ·subst o2;exact .inl (r.iS i β ak)
  by_cases h:n<=i/\i<n+(rHs c).length
  ·exact .inr h
  rw[RO i o2 h]at ar;exact .inl (r.iS i bF ar)
 show i<hs'.length
 rw[<-RP];have k1:=IY (rHs c) (cF σ.heap id (.h3 sz (xs.take cC) (rVs c σ.heap.length) (xs.drop (cC+1)))) σ.heap.length;have k2:=Jd σ.heap id (.h3 sz (xs.take cC) (rVs c σ.heap.length) (xs.drop (cC+1)));rcases hi with hi|hi
 ·have:=bD i hi;omega
 rcases k1.2 with h|h
 ·rw[h]at hi;simp at hi;omega
 omega
theorem ajz{B:Nat->Prop}{w0:World}{kp:List (V×Value)}{σ:St}{a:Act}{w:World}(r:fX B w0 kp σ a w){id sz:Nat}{pre post:List (List D)}{cells:List V}{ds:List D}{cH:List Nat}(hx:a6 σ.heap id=.h3 sz pre cells post)(hd:toDs σ.heap cells=some (ds,cH))(hn:cH.Nodup)
  (hf:∀i∈cH,∃s ys,a6 σ.heap i=.ay s ys true/\hP ys):fX B w0 kp ⟨σ.tmps,hupd (cF σ.heap id (.aj sz (pre++ds::post))) (cH.map λi=>(i,H.ek))⟩ a w:=by
 obtain⟨a0,φ,r,bD⟩:=r;rcases r.hp id with je|⟨β,ak,hr⟩
 ·rw[hx]at je;cases je
 rw[hx]at hr;simp only[eR]at hr;obtain⟨dM,hcl,b,cE,cw,us,aZ,bA,c9,dn,fZ,ji,sF,yu⟩:=hr;obtain⟨lH,gB,gC,lr,jv⟩:=MT r _ _ _ _ hd hn ji;have j8:=r.eI id β ak (by rw[hx];rfl);have RQ:id∉cH:=λh=>by
  obtain⟨s,ys,h1,_⟩:=hf id h;rw[hx]at h1;cases h1
 have GC:∀g,(g=b\/g∈β.eb)->d_ φ σ.heap id g:=by
  intro g hg;rcases hg with rfl|hg
  ·exact⟨β,ak,.inl ⟨by rw[hx];rfl,aZ⟩⟩
  exact⟨β,ak,.inr ⟨by rw[hx];rfl,hg⟩⟩
 have ajA:∀i∈cH,∀bF,φ i=some bF->bF.eb=[]:=by
  intro i hi bF e;obtain⟨s,ys,h1,h2⟩:=hf i hi;rcases r.hp i with je|⟨jR,ar,hr⟩
  ·rw[h1]at je;cases je
  rw[e]at ar;cases ar;obtain⟨_,hr⟩:=RG (by rw[h1];rfl) hr;rcases hr with hr|⟨_,_,_,_,hr⟩
  ·exact hr.2.2.2
  exact Iq _ _ _ _ h2 hr
 have ajB:∀g∈lH,∃i∈cH,∃bF,φ i=some bF/\nt (a6 σ.heap i) bF g:=by
  intro g hg;obtain⟨i,hE,bF,ar,fT⟩:=lr g hg;refine⟨i,hE,bF,ar,?_⟩;rcases fT with fT|⟨_,fT⟩
  ·exact .inl fT
  rw[ajA i hE bF ar]at fT;cases fT
 have RR:∀g∈lH,g≠b/\g∉β.eb:=by
  intro g hg;obtain⟨i,hE,fT⟩:=lr g hg;constructor
  ·intro h;exact RQ (r.dQ i id g fT (GC g (.inl h))▸hE)
  intro h;exact RQ (r.dQ i id g fT (GC g (.inr h))▸hE)
 have hin:∀i∈cH,a6 (hupd (cF σ.heap id (.aj sz (pre++ds::post))) (cH.map λi=>(i,H.ek))) i=.ek:=by
  intro i hi;rcases zY (cH.map λi=>(i,H.ek)) (cF σ.heap id (.aj sz (pre++ds::post))) i with ⟨x,h1,h2⟩|⟨h1,_⟩
  ·obtain⟨j,_,aI⟩:=aa_.1 h1;simp only[dT]at aI;rw[h2,<-aI.2]
  exact absurd (aa_.2 ⟨i,hi,rfl⟩) (h1 .ek)
 have Jf:a6 (hupd (cF σ.heap id (.aj sz (pre++ds::post))) (cH.map λi=>(i,H.ek))) id=.aj sz (pre++ds::post):=by
  rcases zY (cH.map λi=>(i,H.ek)) (cF σ.heap id (.aj sz (pre++ds::post))) id with ⟨x,h1,_⟩|⟨_,h2⟩
  ·obtain⟨j,RS,aI⟩:=aa_.1 h1;simp only[dT]at aI;exact absurd (aI.1▸RS) RQ
  rw[h2,jh,if_pos rfl]
 have pH:∀i,i≠id->i∉cH->a6 (hupd (cF σ.heap id (.aj sz (pre++ds::post))) (cH.map λi=>(i,H.ek))) i=a6 σ.heap i:=by
  intro i h1 h2;rcases zY (cH.map λi=>(i,H.ek)) (cF σ.heap id (.aj sz (pre++ds::post))) i with ⟨x,ao,_⟩|⟨_,ao⟩
  ·obtain⟨j,RS,aI⟩:=aa_.1 ao;simp only[dT]at aI;exact absurd (aI.1▸RS) h2
  rw[ao,jh,if_neg h1]
 have CC:(cE++(lH++cw)).Nodup:=by
  have h1:=j8.1;rw[dn]at h1 RR;simp only[al_,e7]at h1 RR⊢;grind
 have yg:ds.length=sz:=by rw[<-Eo _ _ _ gB,mG _ _ ji];exact hcl
 have bu:p6 φ (el φ id {β with eb:=cE++(lH++cw)}):=λi bF hi=>by
  by_cases h:i=id
  ·subst h;rw[ak]at hi;cases hi;exact⟨{β with eb:=cE++(lH++cw)},by simp[el],rfl,rfl,rfl,rfl⟩
  exact⟨bF,by simp[el,h,hi],rfl,rfl,rfl,rfl⟩
 have CG:el φ id {β with eb:=cE++(lH++cw)} id=some {β with eb:=cE++(lH++cw)}:=by simp[el]
 generalize RP:hupd (cF σ.heap id (.aj sz (pre++ds::post))) (cH.map λi=>(i,H.ek))=hs' at hin Jf pH⊢;have kZ:∀i,(i=id\/i∈cH)->∀g,d_ (el φ id {β with eb:=cE++(lH++cw)}) hs' i g->i=id/\(g=b\/g∈β.eb\/g∈lH):=by
  rintro i hi g ⟨bF,ar,aG⟩;by_cases o2:i=id
  ·subst o2;rw[CG]at ar;cases ar;refine⟨rfl,?_⟩;rcases aG with ⟨_,aG⟩|⟨_,aG⟩
   ·simp only[aZ,cc]at aG;exact .inl aG.symm
   rw[dn];simp only[e7]at aG⊢;grind
  have hi:=hi.resolve_left o2;rw[hin i hi]at aG;rcases aG with ⟨aG,_⟩|⟨aG,_⟩<;>cases aG
 refine⟨a0,el φ id {β with eb:=cE++(lH++cw)},A6 r (λi=>i=id\/i∈cH) _ _ hs' w (λi hi=>⟨pH i (λh=>hi (.inl h)) (λh=>hi (.inr h)),if_neg (λh=>hi (.inl h))⟩) bu (fH _) (λ_ _ _=>rfl)
  (λi hi g aG=>?_) (λi hi bF ar g ht=>?_) (λi j g hi aI h1 h2=>?_) (λi bF hi ar _=>?_) (λi hi=>?_) (λi bF ar=>?_) r.hR,λi hi=>?_⟩
 ·right;obtain⟨_,h⟩:=kZ i hi g aG;rcases h with h|h|h
  ·exact⟨id,.inl rfl,GC g (.inl h)⟩
  ·exact⟨id,.inl rfl,GC g (.inr h)⟩
  obtain⟨j,Ep,Jg⟩:=lr g h;exact⟨j,.inr Ep,Jg⟩
 ·right;obtain⟨_,h⟩:=kZ i hi g (nt.A' ar ht);rcases h with h|h|h
  ·exact⟨id,β,.inl rfl,ak,by rw[hx];exact .inl ⟨rfl,by rw[aZ,h]⟩⟩
  ·exact⟨id,β,.inl rfl,ak,by rw[hx];exact .inr ⟨rfl,h⟩⟩
  obtain⟨j,Ep,jR,Jg,RT⟩:=ajB g h;exact⟨j,jR,.inr Ep,Jg,RT⟩
 ·rw[(kZ i hi g h1).1,(kZ j aI g h2).1]
 ·rcases hi with rfl|hi
  ·rw[CG]at ar;cases ar;refine⟨CC,λg hg sY=>?_⟩;have bR:=j8.2 g hg;rw[dn]at bR;simp only[aZ,cc]at hg;have eQ:g∈lH->False:=λh=>(RR g h).1 hg.symm;simp only[e7]at sY bR;grind
  rename_i aG;rw[hin i hi]at aG;cases aG
 ·rcases hi with rfl|hi
  ·right;refine⟨_,CG,?_⟩;rw[Jf];refine⟨dM,.inr ⟨b,aZ,by simp only[eh,e0];show pre.length+(post.length+1)<=β.cap;omega,c9,?_⟩⟩;refine(repE_append _ _ _ _).2 ⟨cE,lH++cw,rfl,fZ,?_⟩;simp only[repE];refine⟨lH,cw,rfl,yg,Er _ _ _ _ gB sF,?_⟩;have:β.off+pre.length * sz+sz=β.off+(pre.length+1) * sz:=by rw[Nat.add_mul];omega
   rw[this];exact yu
  exact .inl (hin i hi)
 ·by_cases o2:i=id
  ·subst o2;exact r.iS i β ak
  exact r.iS i bF (by simpa [el,o2]using ar)
 show i<hs'.length
 rw[<-RP];have k1:=Mt (cH.map λi=>(i,H.ek)) (cF σ.heap id (.aj sz (pre++ds::post)));have k2:=Jd σ.heap id (.aj sz (pre++ds::post));have:=bD i hi;omega
def sZ(σ σ':St):Prop:=σ'=σ\/
 (∃id cC sz xs c,a6 σ.heap id=.aj sz xs/\xs[cC]?=some c/\σ'=⟨σ.tmps,hnew (cF σ.heap id (.h3 sz (xs.take cC) (rVs c σ.heap.length) (xs.drop (cC+1)))) σ.heap.length (rHs c)⟩)\/
 ∃id sz pre cells post ds cH,a6 σ.heap id=.h3 sz pre cells post/\toDs σ.heap cells=some (ds,cH)/\cH.Nodup/\(∀i∈cH,∃s ys,a6 σ.heap i=.ay s ys true/\hP ys=true)/\σ'=⟨σ.tmps,hupd (cF σ.heap id (.aj sz (pre++ds::post))) (cH.map λi=>(i,H.ek))⟩
theorem sZ.refl(σ:St):sZ σ σ:=.inl rfl
theorem GD{B:Nat->Prop}{w0:World}{kp:List (V×Value)}{σ σ':St}{a:Act}{w:World}(h:sZ σ σ')(r:fX B w0 kp σ a w):fX B w0 kp σ' a w:=by
 rcases h with rfl|⟨id,cC,sz,xs,c,h1,h2,rfl⟩|⟨id,sz,pre,cells,post,ds,cH,h1,h2,ao,aH,rfl⟩
 ·exact r
 ·exact ajw r h1 h2
 exact ajz r h1 h2 ao aH
def CH:List V->List V->Prop
 |[],[]=>True
 |gX::vs',v::vs=>(gX=v\/gX=.an)/\CH vs' vs
 |_,_=>False
theorem Zl:∀vs:List V,CH vs vs
 |[]=>trivial
 |_::vs=>⟨.inl rfl,Zl vs⟩
theorem Zm:∀{vs' vs:List V},CH vs' vs->vs'.length=vs.length
 |[],[],_=>rfl
 |_::_,[],h=>h.elim
 |[],_::_,h=>h.elim
 |_::vs',_::vs,h=>by simp[Zm h.2]
theorem Zn:∀{vs' vs:List V} {us:List Value} {p:V×Value},CH vs' vs->p∈vs'.zip us->p.1=.an\/p∈vs.zip us
 |[],_,us,p,_,hp=>by simp at hp
 |_::_,[],_,_,h,_=>h.elim
 |_::_,_::_,[],p,_,hp=>by simp at hp
 |gX::vs',v::vs,u::us,p,h,hp=>by
  simp only[List.zip_cons_cons,rD]at hp⊢;rcases hp with rfl|hp
  ·rcases h.1 with e|e
   ·exact .inr (.inl (by rw[e]))
   exact .inl e
  rcases Zn h.2 hp with e|e
  ·exact .inl e
  exact .inr (.inr e)
def i3(d3:List Nat):Nat->List V->List V
 |_,[]=>[]
 |i,v::vs=>(bif d3.elem i then v else .an)::i3 d3 (i+1) vs
theorem RU(d3:List Nat):∀(i:Nat) (vs:List V),CH (i3 d3 i vs) vs
 |_,[]=>trivial
 |i,v::vs=>⟨by cases h:d3.elem i<;>simp,RU d3 (i+1) vs⟩
def af(P:Program)(kv:List V)(σ:St)(dst:Option Tmp)(f:FuncId)(gd:List V)(CI:Option (List AD))(vs:List V)(K:St->Prop):Prop:=
 (gd=[]/\((av P f CI σ.heap vs σ.heap.length λr=>K (σ.d7 dst σ.heap.length r))\/
  ∃as rs,CI=some as/\PureCall P f as rs/\∃o3,sZ (σ.d7 dst σ.heap.length ⟨pG rs σ.heap.length,(aHs rs).map H.toCln,[]⟩) o3/\K o3))\/
 ∃ts,CH ts σ.tmps/\et P f (ts++kv) σ.heap (vs++gd) λx hs=>K ⟨g9 ts dst x,hs⟩
def bareE(P:Program)(kv:List V)(σ:St)(o:Oper)(K:St->Prop):Prop:=
 match o.op with
 |.call ⟨.value x,xs,_⟩=>evg true (σ.ev x) λA9=>fnE A9 λf gd=>evs true σ xs.toList λvs=>af P kv σ o.dst f gd (toADs σ.heap vs) vs K
 |_=>opE P true σ σ.heap.length o λr=>K (σ.d7 o.dst σ.heap.length r)
def Ba(P:Program)(kv:List V)(g:Bool)(σ:St)(o:Oper)(K:St->Prop):Prop:=
 xH P g σ σ.heap.length o (λr=>K (σ.d7 o.dst σ.heap.length r))\/((g->bareE P kv σ o K)/\(g=false->K (σ.d7 o.dst σ.heap.length (dr (.b9 false (.d (.bool false)))))))
def yo(P:Program)(kv:List V)(aQ:List Oper)(σ:St)(o:Oper)(K:St->Prop):Prop:=
 match o.guard with
 |none=>bareE P kv σ o K
 |some (j,mH)=>zX aQ j λd=>CF (σ.ev (.tmp d)) mH λg=>Ba P kv g σ o K
def opsE(P:Program)(kv:List V)(aQ:List Oper):List Oper->St->(St->Prop)->Prop
 |[],σ,K=>K σ
 |o::bM,σ,K=>yo P kv aQ σ o λσ'=>opsE P kv aQ bM σ' K
theorem ajC(σ:St)(dst:Option Tmp)(r:fL):σ.heap.length+r.new.length<=(σ.d7 dst σ.heap.length r).heap.length:=by
 have h1:=IY r.new σ.heap σ.heap.length;have h2:=Mt r.upd (hnew σ.heap σ.heap.length r.new);simp only[St.d7];rcases h1.2 with h|h
 ·have ao:=h1.1;rw[h]at h2 ao⊢;simp only[g1];omega
 omega
theorem Jh{a0:Nat->Prop}{σ:St}{dst:Option Tmp}{r:fL}(bD:∀i,a0 i->i<σ.heap.length)(i:Nat)(hi:a0 i\/(σ.heap.length<=i/\i<σ.heap.length+r.new.length)):i<(σ.d7 dst σ.heap.length r).heap.length:=by
 have:=ajC σ dst r;rcases hi with hi|hi
 ·have:=bD i hi;omega
 omega
theorem ajD{B:Nat->Prop}{w0:World}{kp:List (V×Value)}{σ:St}{o:Oper}{K:St->Prop}{ik:Act->World->Prop}{Q:Exit->Act->World->Prop}{a:Act}{w:World}
  (h:opE P true σ σ.heap.length o λr=>K (σ.d7 o.dst σ.heap.length r)) (hr:fX B w0 kp σ a w) (hk:∀σ' u w',K σ'->fX B w0 kp σ' (a.put o.dst u) w'->ik (a.put o.dst u) w'):o.wp P a w ik Q:=by
 obtain⟨r,h1,h2⟩:=Gz h;obtain⟨a0,φ,a1,bD⟩:=hr;exact h1 σ (St.le.refl σ) (λi hi _=>zF hi) B w0 a0 φ kp a w (λi hi _ hd=>by have:=bD i hd;omega) a1 rfl ik Q λu w' du lX=>hk _ u w' h2 ⟨_,du,lX,Jh bD⟩
theorem ajE{B:Nat->Prop}{w0:World}{kp:List (V×Value)}{σ:St}{a:Act}{w:World}{vs ts:List V}{us:List Value}(aI:CH ts σ.tmps)(hr:fX B w0 kp σ a w)(hv:∀a0 φ,R B w0 a0 φ σ kp a w->VRels φ (dq φ σ.heap) w.heap vs us) :
  fX B w0 (ts.zip a.tmps.toList++kp) ⟨vs,σ.heap⟩ ⟨us.toArray,[]⟩ w:=by
 obtain⟨a0,φ,r,bD⟩:=hr;refine⟨a0,φ,⟨hv a0 φ r,λp hp=>?_,r.hp,r.dQ,r.eI,r.gH,r.iS,r.hR,r.bs,rfl,r.np⟩,bD⟩;rcases e7.1 hp with hp|hp
 ·exact r.kp p (asm _ hp)
 rcases e7.1 hp with hp|hp
 ·rcases Zn aI hp with e|hp
  ·rw[e];simp[VRel]
  obtain⟨j,aI,rfl⟩:=List.getElem_of_mem hp;have hl:=mG _ _ r.jA;simp only[List.length_zip]at aI;obtain⟨u,k1,k2⟩:=yM _ _ r.jA j _ (cy ω);rw[cy ω]at k1;rw[List.getElem_zip];cases k1;exact k2
 exact r.kp p (asW _ hp)
theorem ajF{B:Nat->Prop}{w0:World}{kp:List (V×Value)}{ts:List V}{us:Array Value}{hs:List H}{x:V}{v:Value}{w:World}(hl:us.toList.length=ts.length)(dst:Option Tmp)
  (hr:fX B w0 (ts.zip us.toList++kp) ⟨[x],hs⟩ ⟨#[v],[]⟩ w):fX B w0 kp ⟨g9 ts dst x,hs⟩ ((Act.mk us []).put dst v) w:=by
 obtain⟨a0,φ,r,bD⟩:=hr;have ht:VRels φ (dq φ hs) w.heap ts us.toList:=by
  refine CE _ _ hl λt gX u ak ar=>?_;have hlt:t<ts.length:=(aj_.1 ak).1;have:(gX,u)∈ts.zip us.toList:=by
   have ao:(ts.zip us.toList)[t]?=some (gX,u):=by rw[List.getElem?_zip_eq_some];exact⟨ak,ar⟩
   exact arW ao
  exact r.kp _ (asW _ (asm _ this))
 have hx:VRel φ (dq φ hs) w.heap x v:=by
  have:=r.jA;simp only[VRels]at this;obtain⟨u,c6,e,h1,_⟩:=this;cases e;exact h1
 have r0:R B w0 a0 φ ⟨ts,hs⟩ kp ⟨us,[]⟩ w:=⟨ht,λp hp=>r.kp p ((e7.1 hp).elim (asm _) λh=>asW _ (asW _ h)),r.hp,r.dQ,r.eI,r.gH,r.iS,r.hR,r.bs,rfl,r.np⟩;exact⟨a0,φ,by have:=o1 r0 dst hx;cases dst<;>exact this,bD⟩
theorem MU{B:Nat->Prop}{w0:World}{kp:List (V×Value)}{kv:List V}(b':kp.map (·.1)=kv){σ:St}{o:Oper}{K:St->Prop}{ik:Act->World->Prop}{Q:Exit->Act->World->Prop}{a:Act}{w:World}
  (h:bareE P kv σ o K) (hr:fX B w0 kp σ a w) (hk:∀σ' u w',K σ'->fX B w0 kp σ' (a.put o.dst u) w'->ik (a.put o.dst u) w'):o.wp P a w ik Q:=by
 unfold bareE at h;split at h
 ·rename_i x xs ts aG;obtain⟨A9,h,hf⟩:=hX h;obtain⟨f,gd,rfl,h⟩:=Zb h;obtain⟨vs,bR,hx⟩:=Jb _ _ h;clear h;unfold af at bR;rcases bR with ⟨rfl,eQ⟩|eQ
  ·have Gy:∀{σ':St} {B:Nat->Prop} {w0:World} {a0:Nat->Prop} {φ:c5} {kp:List (V×Value)} {a:Act} {w:World},σ.le σ'->R B w0 a0 φ σ' kp a w->true->a.eval x=.func (.func f) #[] #[]:=by
    intro σ' B w0 a0 φ kp a w bu a1 _;have:=hf _ _ _ _ rfl (g' bu a1 x);simp only[VRel]at this;obtain⟨us,e,ar⟩:=this;simp only[VRels]at ar;rw[e];congr 1;exact ax_.1 ar
   rcases eQ with eQ|⟨as,rs,dh,bO,o3,cz,df⟩
   rotate_left
   ·obtain⟨r,h1,h2⟩:=MO (K:=λr=>r=⟨pG rs σ.heap.length,(aHs rs).map H.toCln,[]⟩) (n:=σ.heap.length) (g:=true) (σ:=σ) aG rfl Gy hx dh bO rfl;subst h2;obtain⟨a0,φ,a1,bD⟩:=hr;exact h1 σ (St.le.refl σ) (λi hi _=>zF hi) B w0 a0 φ kp a w (λi hi _ hd=>by have:=bD i hd;omega) a1 rfl ik Q λu w' du lX=>hk o3 u w' df (GD cz ⟨_,du,lX,Jh bD⟩)
   have MV:∃r,iY P o true σ σ.heap.length r/\K (σ.d7 o.dst σ.heap.length r):=by
    rcases eQ with ⟨as,rs,h1,h2,ao⟩|⟨as,rs,h1,h2,ao⟩
    ·exact RI (K:=λr=>K (σ.d7 o.dst σ.heap.length r)) aG rfl Gy hx h1 h2 ao
    exact MO (K:=λr=>K (σ.d7 o.dst σ.heap.length r)) aG rfl Gy hx h1 h2 ao
   obtain⟨r,h1,h2⟩:=MV;obtain⟨a0,φ,a1,bD⟩:=hr;exact h1 σ (St.le.refl σ) (λi hi _=>zF hi) B w0 a0 φ kp a w (λi hi _ hd=>by have:=bD i hd;omega) a1 rfl ik Q λu w' du lX=>hk _ u w' h2 ⟨_,du,lX,Jh bD⟩
  ·obtain⟨ts,aI,eQ⟩:=eQ;obtain⟨a0,φ,a1,bD⟩:=hr;have Zo:=hf _ _ _ _ rfl (Ce a1 x);simp only[VRel]at Zo;obtain⟨cs,Zp,_⟩:=Zo;have hin:fX B w0 (ts.zip a.tmps.toList++kp) ⟨vs++gd,σ.heap⟩ ⟨(xs.toList.map a.eval++cs.toList).toArray,[]⟩ w:=by
    refine ajE aI ⟨a0,φ,a1,bD⟩ λCz du dR=>?_;have h1:=hx (St.le.refl σ) dR rfl;have h2:=hf _ _ _ _ rfl (Ce dR x);simp only[VRel]at h2;obtain⟨GF,Zq,ao⟩:=h2;rw[Zp]at Zq
    cases Zq
    exact GG h1 ao
   have hl:=(mG _ _ a1.jA).trans (Zm aI).symm;have GH:=eQ B w0 (ts.zip a.tmps.toList++kp) _ w (by rw[List.map_append,b',List.map_fst_zip ω]) hin;have gW:(execOp a.eval o).run P w=(callFunc f (xs.toList.map a.eval++cs.toList).toArray).run P w:=by
    unfold execOp;rw[aG];have:(xs.toList.map a.eval++cs.toList).toArray=xs.map a.eval++cs:=by
     apply Array.toList_inj.1;simp
    rw[this];simp[resolve,Zp,Deferred.ofValue,invoke]
   have Es:=a1.pg;have aS:∀v w',(∃x hs',K ⟨g9 ts o.dst x,hs'⟩/\fX B w0 (ts.zip a.tmps.toList++kp) ⟨[x],hs'⟩ ⟨#[v],[]⟩ w')->ik (a.put o.dst v) w':=by
    rintro v w' ⟨nK,hs',h1,h2⟩;refine hk _ v w' h1 ?_;have:=ajF hl o.dst h2;rw[show a=Act.mk a.tmps []from by cases a;simp only at Es;rw[Es]];exact this
   unfold Oper.wp;rw[gW];unfold Does at GH;split at GH
   ·rename_i h1;rw[h1,Oper.upon_enter];refine Calls.mono GH λe w' he=>?_
    cases e with
    |returned v=>exact aS v w' he
    |panicked c=>exact he.elim
    |outgrown=>exact he.elim
   ·rename_i h1;rw[h1,Oper.upon_value];exact aS _ _ GH
   ·rename_i h1;rw[h1,Oper.upon_row];exact Rows.mono GH aS
   exact GH.elim
 exact ajD h hr hk
theorem Zr{g:Bool}{σ:St}{n:Nat}{o:Oper}{K:fL->Prop}(h:xH P g σ n o K):(g->∃r,iY P o true σ n r/\∃v,K ⟨v,r.new,r.upd⟩/\(v=r.v\/v=.b9 true r.v))/\(g=false->∃v,K (dr (.b9 false v))):=by
 rcases h with ⟨rfl,h⟩|⟨rfl,h⟩|h
 ·obtain⟨r,h1,h2⟩:=Gz h;exact⟨λ_=>⟨r,h1,r.v,h2,.inl rfl⟩,λe=>(by cases e)⟩
 ·exact⟨λe=>(by cases e),λ_=>⟨_,h⟩⟩
 obtain⟨r,h1,h2,ao,aH⟩:=Gz h;obtain⟨v,new,upd⟩:=r;simp only at h2 ao aH;subst h2;subst ao;cases g
 ·exact⟨λe=>(by cases e),λ_=>⟨_,aH⟩⟩
 exact⟨λ_=>⟨_,h1,.b9 true v,aH,.inr rfl⟩,λe=>(by cases e)⟩
theorem Zs{aQ:Array Oper}{B:Nat->Prop}{w0:World}{kp:List (V×Value)}{kv:List V}(b':kp.map (·.1)=kv){Q:Exit->Act->World->Prop}{K:St->Prop}(m5:∀σ a w,K σ->fX B w0 kp σ a w->Q .normal a w) :
  ∀(l:List Oper) (cC:List Nat) (σ:St) (a:Act) (w:World),cC.map (aQ[·]?)=l.map some->opsE P kv aQ.toList l σ K->fX B w0 kp σ a w->wpOps P aQ Q cC a w
 |[],cC,σ,a,w,e,h,hr=>by
  have:cC=[]:=by simpa using e
  subst this;exact m5 σ a w h hr
 |o::l,[],σ,a,w,e,h,hr=>by simp at e
 |o::l,i::cC,σ,a,w,e,h,hr=>by
  simp only[fe,atR]at e;simp only[opsE]at h;simp only[wpOps,e.1];have next:∀σ' u w',opsE P kv aQ.toList l σ' K->fX B w0 kp σ' (a.put o.dst u) w'->wpOps P aQ Q cC (a.put o.dst u) w':=λσ' u w' h' lX=>Zs b' m5 l cC σ' _ w' e.2 h' lX
  unfold yo at h;split at h
  ·rename_i hg;rw[if_pos (by simp[Region.wanted,hg])];exact .inl (MU b' h hr next)
  rename_i j mH hg;unfold zX at h;split at h
  ·rename_i d hd;rw[ac_]at hd;have key:∀g,Region.wanted o (yielded aQ a.tmps)=g->Ba P kv g σ o (λσ'=>opsE P kv aQ.toList l σ' K)->
     if Region.wanted o (yielded aQ a.tmps)then o.wp P a w (wpOps P aQ Q cC) Q\/(o.asks P a w/\LetsOut Q)else wpOps P aQ Q cC (a.put o.dst undef) w:=by
    intro g hw hs;rw[hw];unfold Ba at hs;rcases hs with hs|hs
    ·obtain⟨dW,cT⟩:=Zr hs;cases g
     ·simp only[ai_,if_false];obtain⟨v,h2⟩:=cT rfl;obtain⟨a0,φ,a1,bD⟩:=hr;exact next _ undef w h2 ⟨_,φ,o1 a1 o.dst (GB v),λi hi=>by have:=bD i hi;simpa [St.d7,dr,hnew,hupd]using this⟩
     simp only[if_true];obtain⟨r,h1,v,h2,ao⟩:=dW rfl;obtain⟨a0,φ,a1,bD⟩:=hr;refine .inl (h1 σ (St.le.refl σ) (λi hi _=>zF hi) B w0 a0 φ kp a w (λi hi _ hd=>by have:=bD i hd;omega) a1 rfl _ _ λu w' du lX=>next _ u w' h2 ⟨_,du,?_,Jh (r:=⟨v,r.new,r.upd⟩) bD⟩);rcases ao with rfl|rfl
     ·exact lX
     exact RN (σ:=σ) (dst:=o.dst) lX
    cases g
    ·simp only[ai_,if_false];obtain⟨a0,φ,a1,bD⟩:=hr;exact next _ undef w (hs.2 rfl) ⟨_,φ,o1 a1 o.dst (GB _),λi hi=>by have:=bD i hi;simpa [St.d7,dr,hnew,hupd]using this⟩
    simp only[if_true];exact .inl (MU b' (hs.1 rfl) hr next)
   obtain⟨a0,φ,a1,bD⟩:=hr;unfold CF at h;split at h
   ·rename_i b hv;obtain⟨u,k1,k2⟩:=GA (St.le.refl σ) a1 hv ξ;rw[pw k2]at k1;exact key _ (by simp[Region.wanted,hg,yielded,hd,k1]) h
   ·rename_i c b hv;obtain⟨u,k1,k2⟩:=GA (St.le.refl σ) a1 hv ξ;simp only[VRel]at k2;refine key _ ?_ h;cases c
    ·rw[k2.2 rfl]at k1;simp[Region.wanted,hg,yielded,hd,k1,undef]
    rw[pw (φ:=φ) (T:=dq φ σ.heap) (h:=w.heap) (b:=b) (u:=u) (by simp only[VRel];exact k2.1 rfl)]at k1;simp[Region.wanted,hg,yielded,hd,k1]
   exact h.elim
  exact h.elim
theorem aiP{aQ:Array Oper}{B:Nat->Prop}{w0:World}{kp:List (V×Value)}{kv:List V}(b':kp.map (·.1)=kv){Q:Exit->Act->World->Prop}{K:St->Prop}{N:Act->World->Prop}{σ:St}{o:Oper}{a:Act}{w:World}(h:yo P kv aQ.toList σ o K)(hr:fX B w0 kp σ a w)
  (next:∀σ' u w',K σ'->fX B w0 kp σ' (a.put o.dst u) w'->N (a.put o.dst u) w') :
  if Region.wanted o (yielded aQ a.tmps)then o.wp P a w N Q\/(o.asks P a w/\LetsOut Q)else N (a.put o.dst undef) w:=by
 unfold yo at h;split at h
 ·rename_i hg;rw[if_pos (by simp[Region.wanted,hg])];exact .inl (MU b' h hr next)
 rename_i j mH hg;unfold zX at h;split at h
 ·rename_i d hd;rw[ac_]at hd;have key:∀g,Region.wanted o (yielded aQ a.tmps)=g->Ba P kv g σ o K->
    if Region.wanted o (yielded aQ a.tmps)then o.wp P a w N Q\/(o.asks P a w/\LetsOut Q)else N (a.put o.dst undef) w:=by
   intro g hw hs;rw[hw];unfold Ba at hs;rcases hs with hs|hs
   ·obtain⟨dW,cT⟩:=Zr hs;cases g
    ·simp only[ai_,if_false];obtain⟨v,h2⟩:=cT rfl;obtain⟨a0,φ,a1,bD⟩:=hr;exact next _ undef w h2 ⟨_,φ,o1 a1 o.dst (GB v),λi hi=>by have:=bD i hi;simpa [St.d7,dr,hnew,hupd]using this⟩
    simp only[if_true];obtain⟨r,h1,v,h2,ao⟩:=dW rfl;obtain⟨a0,φ,a1,bD⟩:=hr;refine .inl (h1 σ (St.le.refl σ) (λi hi _=>zF hi) B w0 a0 φ kp a w (λi hi _ hd=>by have:=bD i hd;omega) a1 rfl _ _ λu w' du lX=>next _ u w' h2 ⟨_,du,?_,Jh (r:=⟨v,r.new,r.upd⟩) bD⟩);rcases ao with rfl|rfl
    ·exact lX
    exact RN (σ:=σ) (dst:=o.dst) lX
   cases g
   ·simp only[ai_,if_false];obtain⟨a0,φ,a1,bD⟩:=hr;exact next _ undef w (hs.2 rfl) ⟨_,φ,o1 a1 o.dst (GB _),λi hi=>by have:=bD i hi;simpa [St.d7,dr,hnew,hupd]using this⟩
   simp only[if_true];exact .inl (MU b' (hs.1 rfl) hr next)
  obtain⟨a0,φ,a1,bD⟩:=hr;unfold CF at h;split at h
  ·rename_i b hv;obtain⟨u,k1,k2⟩:=GA (St.le.refl σ) a1 hv ξ;rw[pw k2]at k1;exact key _ (by simp[Region.wanted,hg,yielded,hd,k1]) h
  ·rename_i c b hv;obtain⟨u,k1,k2⟩:=GA (St.le.refl σ) a1 hv ξ;simp only[VRel]at k2;refine key _ ?_ h;cases c
   ·rw[k2.2 rfl]at k1;simp[Region.wanted,hg,yielded,hd,k1,undef]
   rw[pw (φ:=φ) (T:=dq φ σ.heap) (h:=w.heap) (b:=b) (u:=u) (by simp only[VRel];exact k2.1 rfl)]at k1;simp[Region.wanted,hg,yielded,hd,k1]
  exact h.elim
 exact h.elim
variable {P:Program}
abbrev ee:=Oper×Nat×fL
def yD(n:Nat)(r:fL)(id:Nat):Option H:=
 match(r.upd.reverse.find? (·.1 == id))with
 |some p=>some p.2
 |none=>if n<=id/\id<n+r.new.length then some (r.new.getD (id-n) .ek)else none
theorem Yg:∀(upd:List (Nat×H)) (hs:List H) (id:Nat),a6 (hupd hs upd) id=((upd.reverse.find? (·.1 == id)).map (·.2)).getD (a6 hs id)
 |[],hs,id=>rfl
 |(i,x)::r,hs,id=>by
  rw[hupd,Yg r (cF hs i x) id,jh];simp only[List.reverse_cons,List.find?_append];cases h:r.reverse.find? (·.1 == id)with
  |some p=>simp
  |none=>
   by_cases hi:i=id
   ·subst hi;simp
   have hb:(i == id)=false:=by simpa using hi
   have fw:¬id=i:=λe=>hi e.symm;simp[hb,fw]
theorem zO(σ:St)(dst:Option Tmp)(n:Nat)(r:fL)(id:Nat):a6 (σ.d7 dst n r).heap id=(yD n r id).getD (a6 σ.heap id):=by
 simp only[St.d7];rw[Yg,Ec];unfold yD;cases h:r.upd.reverse.find? (·.1 == id)with
 |some p=>simp
 |none=>
  by_cases hc:n<=id/\id<n+r.new.length
  ·simp[hc]
  simp[hc]
theorem Ct(σ:St)(dst:Option Tmp)(n:Nat)(r:fL)(t:Nat):(σ.d7 dst n r).tmps[t]?=if dst=some t then(if t<σ.tmps.length then some r.v else none)else σ.tmps[t]?:=by
 cases dst with
 |none=>simp[St.d7]
 |some d=>
  simp only[St.d7,atD,cc];by_cases h:d=t
  ·subst h;simp
  simp[h]
theorem Ed(σ:St)(dst:Option Tmp)(n:Nat)(r:fL):(σ.d7 dst n r).tmps.length=σ.tmps.length:=by
 cases dst<;>simp[St.d7]
def apS(S:Nat->Bool):Nat->List ee->St->St
 |_,[],σ=>σ
 |k,(o,n,r)::l,σ=>apS S (k+1) l (if S k then σ.d7 o.dst n r else σ)
theorem Yh(S:Nat->Bool):∀(l:List ee) (k:Nat) (σ:St),(apS S k l σ).tmps.length=σ.tmps.length
 |[],_,_=>rfl
 |(o,n,r)::l,k,σ=>by
  rw[apS,Yh S l];split
  ·exact Ed σ o.dst n r
  rfl
theorem Mk(S n3:Nat->Bool)(t:Nat):∀(l:List ee) (k:Nat) (σ σ':St),σ.tmps[t]?=σ'.tmps[t]?->σ.tmps.length=σ'.tmps.length->(∀(j:Nat) (x:ee),l[j]?=some x->x.1.dst=some t->S (k+j)=n3 (k+j))->(apS S k l σ).tmps[t]?=(apS n3 k l σ').tmps[t]?
 |[],_,_,_,h,_,_=>h
 |(o,n,r)::l,k,σ,σ',h,hl,aI=>by
  rw[apS,apS];have sK:∀b ey:Bool,(if b=true then σ.d7 o.dst n r else σ).tmps.length=(if ey=true then σ'.d7 o.dst n r else σ').tmps.length:=by
   intro b ey;cases b<;>cases ey<;>simp[Ed,hl]
  refine Mk S n3 t l (k+1) _ _ ?_ (sK _ _) λj x hx hd=>by
   have:=aI (j+1) x (by simpa using hx) hd;rw[show k+1+j=k+(j+1)from by omega];exact this
  by_cases hd:o.dst=some t
  ·have h0:=aI 0 (o,n,r) rfl hd;simp only[ao_]at h0;rw[h0];split
   ·rw[Ct,Ct,if_pos hd,if_pos hd,hl]
   exact h
  have h1:∀(b:Bool) (iE:St),(if b=true then iE.d7 o.dst n r else iE).tmps[t]?=iE.tmps[t]?:=by
   intro b iE;cases b
   ·rfl
   simp only[if_true];rw[Ct,if_neg hd]
  rw[h1,h1,h]
theorem IN(S n3:Nat->Bool)(id:Nat):∀(l:List ee) (k:Nat) (σ σ':St),a6 σ.heap id=a6 σ'.heap id->(∀(j:Nat) (x:ee),l[j]?=some x->yD x.2.1 x.2.2 id≠none->S (k+j)=n3 (k+j))->a6 (apS S k l σ).heap id=a6 (apS n3 k l σ').heap id
 |[],_,_,_,h,_=>h
 |(o,n,r)::l,k,σ,σ',h,aI=>by
  rw[apS,apS];refine IN S n3 id l (k+1) _ _ ?_ λj x hx hd=>by
   have:=aI (j+1) x (by simpa using hx) hd;rw[show k+1+j=k+(j+1)from by omega];exact this
  by_cases hd:yD n r id=none
  ·have h1:∀(b:Bool) (iE:St),a6 (if b=true then iE.d7 o.dst n r else iE).heap id=a6 iE.heap id:=by
    intro b iE;cases b
    ·rfl
    simp only[if_true];rw[zO,hd];rfl
   rw[h1,h1,h]
  ·have h0:=aI 0 (o,n,r) rfl hd;simp only[ao_]at h0;rw[h0];split
   ·rw[zO,zO,h]
   exact h
theorem Yi(S:Nat->Bool)(t:Nat):∀(l:List ee) (k:Nat) (σ:St) (i:Nat) (x:ee),l[i]?=some x->x.1.dst=some t->S (k+i)->(∀(j:Nat) (y:ee),i<j->l[j]?=some y->y.1.dst=some t->S (k+j)=false)->(apS S k l σ).tmps[t]?=if t<σ.tmps.length then some x.2.2.v else none
 |[],_,_,i,_,hi,_,_,_=>by simp at hi
 |(o,n,r)::l,k,σ,0,x,hi,hd,hs,hl=>by
  simp at hi;subst hi;rw[apS];simp only[ao_]at hs;rw[hs];have:=Mk S (λ_=>false) t l (k+1) (σ.d7 o.dst n r) (σ.d7 o.dst n r) rfl rfl λj y hy je=>by
   have:=hl (j+1) y ω (by simpa using hy) je;rw[show k+1+j=k+(j+1)from by omega];exact this
  simp only[if_true];rw[this];have cO:∀(l:List ee) (k:Nat) (iE:St),apS (λ_=>false) k l iE=iE:=by
   intro l
   induction l with
   |nil=>intro k iE;rfl
   |cons y l c_=>intro k iE;obtain⟨o,n,r⟩:=y;rw[apS];simpa using c_ (k+1) iE
  rw[cO,Ct,if_pos hd]
 |(o,n,r)::l,k,σ,i+1,x,hi,hd,hs,hl=>by
  rw[apS,Yi S t l (k+1) _ i x (by simpa using hi) hd (by rw[show k+1+i=k+(i+1)from by omega];exact hs) λj y oX hy je=>by
   have:=hl (j+1) y ω (by simpa using hy) je;rw[show k+1+j=k+(j+1)from by omega];exact this]
  split
  ·rw[Ed]
  rfl
theorem Yj(S:Nat->Bool)(id:Nat):∀(l:List ee) (k:Nat) (σ:St) (i:Nat) (x:ee) (y:H),l[i]?=some x->yD x.2.1 x.2.2 id=some y->S (k+i)->(∀(j:Nat) (z:ee),i<j->l[j]?=some z->yD z.2.1 z.2.2 id≠none->S (k+j)=false)->a6 (apS S k l σ).heap id=y
 |[],_,_,i,_,_,hi,_,_,_=>by simp at hi
 |(o,n,r)::l,k,σ,0,x,y,hi,hd,hs,hl=>by
  simp at hi;subst hi;rw[apS];simp only[ao_]at hs;rw[hs];have:=IN S (λ_=>false) id l (k+1) (σ.d7 o.dst n r) (σ.d7 o.dst n r) rfl λj y hy je=>by
   have:=hl (j+1) y ω (by simpa using hy) je;rw[show k+1+j=k+(j+1)from by omega];exact this
  simp only[if_true];rw[this];have cO:∀(l:List ee) (k:Nat) (iE:St),apS (λ_=>false) k l iE=iE:=by
   intro l
   induction l with
   |nil=>intro k iE;rfl
   |cons y l c_=>intro k iE;obtain⟨o,n,r⟩:=y;rw[apS];simpa using c_ (k+1) iE
  rw[cO,zO,hd];rfl
 |(o,n,r)::l,k,σ,i+1,x,y,hi,hd,hs,hl=>by
  rw[apS];exact Yj S id l (k+1) _ i x y (by simpa using hi) hd (by rw[show k+1+i=k+(i+1)from by omega];exact hs) λj z oX hz je=>by
   have:=hl (j+1) z ω (by simpa using hz) je;rw[show k+1+j=k+(j+1)from by omega];exact this
theorem Yk{B:Nat->Prop}{w0:World}{a0:Nat->Prop}{φ:c5}{ts ts':List V}{hs hs':List H}{kp:List (V×Value)}{a:Act}{w:World}(r:R B w0 a0 φ ⟨ts,hs⟩ kp a w)(ht:ts'=ts)(h:∀i,a6 hs' i=a6 hs i):R B w0 a0 φ ⟨ts',hs'⟩ kp a w:=by
 subst ht;have ak:dq φ hs'=dq φ hs:=by funext b;simp only[dq,h]
 have ar:∀i b,d_ φ hs' i b=d_ φ hs i b:=by intro i b;simp only[d_,h]
 refine⟨by simp only[ak];exact r.jA,by simp only[ak];exact r.kp,λi=>by simp only[ak,h];exact r.hp i,λi j b h1 h2=>?_,λi β e hx=>r.eI i β e (by simp only[h]at hx;exact hx),λi b h1=>r.gH i b (by rw[<-ar];exact h1),r.iS,r.hR,r.bs,r.pg,r.np⟩;simp only[ar]at h1 h2;exact r.dQ i j b h1 h2
inductive bK where
 |pre
 |dL
 |post
 deriving DecidableEq
abbrev bK.p:bK:=.post
abbrev bK.q:bK:=.pre
abbrev bK.u:bK:=.dL
def p'(dH:List (List bK))(i j:Nat):bK:=(dH.getD i []).getD j .post
def Ge(aQ:List Oper)(i j:Nat):Bool:=match aQ[i]? with|some o=>o.after.toList.any λe=>Region.binds .any e&&e.on == j|none=>false
def Gf(aQ:List Oper)(dH:List (List bK))(m i j:Nat):Bool:=
 (match p' dH i j with
  |.pre=>decide (j<i)&&(Ge aQ i j||(pv m).any λk=>Ge aQ i k&&decide (p' dH k j=.pre)&&decide (k<i))
  |.post=>decide (j=i)||decide (p' dH j i=.pre)
  |.dL=>decide (j≠i)&&decide (p' dH j i=.dL)) &&
 (decide (j=i)||match aQ[i]?,aQ[j]? with|some x,some y=>decide (x.dst=none)||decide (x.dst≠y.dst)|_,_=>true)
def xA(aQ:List Oper)(dH:List (List bK)):Bool:=
 decide (dH.length=aQ.length)&&(pv aQ.length).all λi=>((match aQ[i]? with|some o=>o.after.toList.all λe=>!Region.binds .any e||decide (e.on<i)|none=>true))&&(pv aQ.length).all λj=>Gf aQ dH aQ.length i j
theorem Ml{aQ:List Oper}{dH:List (List bK)}(h:xA aQ dH){i j:Nat}(hi:i<aQ.length)(aI:j<aQ.length):Gf aQ dH aQ.length i j:=by
 simp only[xA,bm,ae_,asl]at h;exact(h.2 i hi).2 j aI
theorem aiu{aQ:List Oper}{dH:List (List bK)}(h:xA aQ dH){i:Nat}{o:Oper}(hi:aQ[i]?=some o){e:Edge}(he:e∈o.after.toList)(hb:Region.binds .any e):e.on<i:=by
 have hlt:i<aQ.length:=(aj_.1 hi).1;simp only[xA,bm,ae_,asl]at h;have:=(h.2 i hlt).1;rw[hi]at this;simp only[ae_]at this;have:=this e he;simpa [hb]using this
theorem Yl{aQ:List Oper}{dH:List (List bK)}(h:xA aQ dH){i j:Nat}(hi:i<aQ.length)(aI:j<aQ.length)(hr:p' dH i j=.pre):j<i/\(Ge aQ i j\/∃k,Ge aQ i k/\p' dH k j=.pre/\k<i):=by
 have:=Ml h hi aI;unfold Gf at this;rw[hr]at this;simp only[bm,arG,bH,asX,asl]at this;refine⟨this.1.1,this.1.2.imp id ?_⟩;rintro⟨k,_,⟨h1,h2⟩,ao⟩;exact⟨k,h1,h2,ao⟩
theorem aiv{aQ:List Oper}{dH:List (List bK)}(h:xA aQ dH){i j:Nat}(hi:i<aQ.length)(aI:j<aQ.length)(hr:p' dH i j=.post):j=i\/p' dH j i=.pre:=by
 have:=Ml h hi aI;unfold Gf at this;rw[hr]at this;simp only[bm,arG,bH]at this;exact this.1
theorem aiw{aQ:List Oper}{dH:List (List bK)}(h:xA aQ dH){i j:Nat}(hi:i<aQ.length)(aI:j<aQ.length)(hr:p' dH i j=.dL):p' dH j i=.dL:=by
 have:=Ml h hi aI;unfold Gf at this;rw[hr]at this;simp only[bm,bH]at this;exact this.1.2
theorem aix{aQ:List Oper}{dH:List (List bK)}(h:xA aQ dH){i j:Nat}{x y:Oper}(hx:aQ[i]?=some x)(hy:aQ[j]?=some y)(hne:j≠i){d:Tmp}(hd:x.dst=some d):y.dst≠some d:=by
 have hi:i<aQ.length:=(aj_.1 hx).1;have aI:j<aQ.length:=(aj_.1 hy).1;have:=Ml h hi aI;unfold Gf at this;simp only[bm,arG,bH,hne,false_or,hx,hy,hd]at this;rcases this.2 with h1|h1
 ·cases h1
 exact λe=>h1 e.symm
def yE(ts:List V)(d:Option Tmp):List V:=match d with|some t=>ts.set t .an|none=>ts
def kilH:List H->List (Nat×H)->List H
 |hs,[]=>hs
 |hs,(i,_)::r=>kilH (cF hs i .ek) r
def mask:List bK->List ee->List Oper->St->St
 |.pre::row,(o,n,r)::l,bM,σ=>mask row l bM (σ.d7 o.dst n r)
 |.dL::row,(o,_,r)::l,bM,σ=>mask row l bM ⟨yE σ.tmps o.dst,kilH σ.heap r.upd⟩
 |.post::row,_::l,bM,σ=>mask row l bM σ
 |.dL::row,[],o::bM,σ=>mask row [] bM ⟨yE σ.tmps o.dst,σ.heap⟩
 |.pre::row,[],_::bM,σ=>mask row [] bM σ
 |.post::row,[],_::bM,σ=>mask row [] bM σ
 |[],_,_,σ=>σ
 |_::_,[],[],σ=>σ
theorem Rf:∀(upd:List (Nat×H)) (hs:List H) (id:Nat),a6 (kilH hs upd) id=.ek\/(a6 (kilH hs upd) id=a6 hs id/\∀x,(id,x)∉upd)
 |[],hs,id=>.inr ⟨rfl,by simp⟩
 |(i,y)::r,hs,id=>by
  rw[kilH];rcases Rf r (cF hs i .ek) id with h|⟨h1,h2⟩
  ·exact .inl h
  rw[jh]at h1;by_cases hi:id=i
  ·rw[if_pos hi]at h1;exact .inl h1
  rw[if_neg hi]at h1;exact .inr ⟨h1,λx hx=>by
   rcases rD.1 hx with hx|hx
   ·cases hx;exact hi rfl
   exact h2 x hx⟩
theorem Cu{n:Nat}{r:fL}{id:Nat}(h1:∀x,(id,x)∉r.upd)(h2:¬(n<=id/\id<n+r.new.length)):yD n r id=none:=by
 unfold yD;rw[if_neg h2];cases h:r.upd.reverse.find? (·.1 == id)with
 |none=>rfl
 |some p=>
  exfalso;have hm:=List.mem_of_find?_eq_some h;have hp:=List.find?_some h;simp only[beq_iff_eq]at hp;exact h1 p.2 (by rw[<-hp];simpa using hm)
def Asc:Nat->List ee->Prop
 |_,[]=>True
 |c,(_,n,r)::l=>n=c/\(∀p∈r.upd,p.1<n+r.new.length)/\Asc (c+r.new.length) l
structure Gg(mE qa:St):Prop where
 len:mE.tmps.length=qa.tmps.length
 jA:∀(t:Nat) (v:V),mE.tmps[t]?=some v->v=.an\/qa.tmps[t]?=some v
 hp:∀i,a6 mE.heap i=.ek\/a6 qa.heap i=a6 mE.heap i
theorem Gg.d7{mE qa:St}(h:Gg mE qa)(dst:Option Tmp)(n:Nat)(r:fL):Gg (mE.d7 dst n r) (qa.d7 dst n r):=by
 refine⟨by rw[Ed,Ed,h.len],λt v e=>?_,λi=>?_⟩
 ·rw[Ct]at e⊢;by_cases hd:dst=some t
  ·rw[if_pos hd]at e⊢;rw[<-h.len];exact .inr e
  rw[if_neg hd]at e⊢;exact h.jA t v e
 rw[zO,zO]
 cases yD n r i with
 |none=>exact h.hp i
 |some x=>exact .inr rfl
theorem Ym(ts:List V)(d:Option Tmp)(t:Nat)(v:V)(h:(yE ts d)[t]?=some v):v=.an\/(ts[t]?=some v/\d≠some t):=by
 cases d with
 |none=>exact .inr ⟨h,by simp⟩
 |some x=>
  simp only[yE,atD]at h;by_cases hx:x=t
  ·rw[if_pos hx]at h;split at h
   ·cases h;exact .inl rfl
   cases h
  rw[if_neg hx]at h;exact .inr ⟨h,λe=>hx (bZ e)⟩
theorem Yn(ts:List V)(d:Option Tmp):(yE ts d).length=ts.length:=by cases d<;>simp[yE]
theorem IP:∀(row:List bK) (bM:List Oper) (σ:St),(mask row [] bM σ).heap=σ.heap
 |[],[],_=>rfl
 |[],_::_,_=>rfl
 |.pre::_,[],_=>rfl
 |.dL::_,[],_=>rfl
 |.post::_,[],_=>rfl
 |.pre::row,_::bM,σ=>IP row bM σ
 |.dL::row,o::bM,σ=>IP row bM ⟨yE σ.tmps o.dst,σ.heap⟩
 |.post::row,_::bM,σ=>IP row bM σ
theorem Gh(S:Nat->Bool):∀(row:List bK) (l:List ee) (bM:List Oper) (tail:List ee) (k c:Nat) (mE qa:St),tail.map (·.1)=bM->row.length=l.length+bM.length->Asc c (l++tail)->Gg mE qa->(∀id,c<=id->a6 mE.heap id=.ek)->
  (∀j,row[j]?=some .pre->j<l.length/\S (k+j)=true)->(∀j,row[j]?=some .post->S (k+j)=false)->(∀(j:Nat) (x:ee),row[j]?=some .dL->l.length<=j->tail[j-l.length]?=some x->S (k+j)->∀p∈x.2.2.upd,a6 (mask row l bM mE).heap p.1=.ek)->
  Gg (mask row l bM mE) (apS S k (l++tail) qa)
 |[],l,bM,tail,k,c,mE,qa,ht,hl,_,h,_,_,_,_=>by
  have h1:l=[]:=arL (by simp at hl;omega);have h2:bM=[]:=arL (by simp at hl;omega);subst h1;subst h2;have ao:tail=[]:=by simpa using ht
  subst ao;simpa [mask,apS]using h
 |x::row,(o,n,r)::l,bM,tail,k,c,mE,qa,ht,hl,ha,h,hd,hp,hq,hu=>by
  simp only[cx,Asc]at ha;obtain⟨rfl,Mm,Cv⟩:=ha;rw[cx,apS];have zP:∀j,row[j]?=some .pre->j<l.length/\S (k+1+j):=λj aI=>by
   have:=hp (j+1) (by simpa using aI);rw[show k+1+j=k+(j+1)from by omega];exact⟨by simpa using this.1,this.2⟩
  have si:∀j,row[j]?=some .post->S (k+1+j)=false:=λj aI=>by
   have:=hq (j+1) (by simpa using aI);rw[show k+1+j=k+(j+1)from by omega];exact this
  have qb:∀(j:Nat) (nK:ee),row[j]?=some .dL->l.length<=j->tail[j-l.length]?=some nK->S (k+1+j)->∀p∈nK.2.2.upd,a6 (mask (x::row) ((o,n,r)::l) bM mE).heap p.1=.ek:=λj x h1 h2 ao aH=>by
   refine hu (j+1) x (by simpa using h1) (by simp;omega) ?_ (by rw[show k+(j+1)=k+1+j from by omega];exact aH);simpa using ao
  have Rg:∀id,n+r.new.length<=id->∀y,(id,y)∉r.upd:=λid cO y hy=>by have:=Mm _ hy;simp only at this;omega
  cases x with
  |pre=>
   have h0:=(hp 0 rfl).2;simp only[ao_]at h0;rw[h0];simp only[if_true,mask];refine Gh S row l bM tail (k+1) _ _ _ ht (by simpa [atW]using hl) Cv (h.d7 o.dst n r) (λid cO=>?_) zP si qb;rw[zO,Cu (Rg id cO) ω];exact hd id ω
  |dL=>
   simp only[mask];refine Gh S row l bM tail (k+1) _ _ _ ht (by simpa [atW]using hl) Cv ?_ (λid cO=>?_) zP si qb
   ·refine⟨?_,λt v e=>?_,λi=>?_⟩
    ·simp only[Yn];rw[h.len];split
     ·rw[Ed]
     rfl
    ·rcases Ym _ _ _ _ e with h1|⟨h1,h2⟩
     ·exact .inl h1
     split
     ·rw[Ct,if_neg h2];exact h.jA t v h1
     exact h.jA t v h1
    rcases Rf r.upd mE.heap i with h1|⟨h1,h2⟩
    ·exact .inl h1
    rw[h1];split
    ·by_cases hr:n<=i/\i<n+r.new.length
     ·exact .inl (hd i hr.1)
     rw[zO,Cu h2 hr];exact h.hp i
    exact h.hp i
   rcases Rf r.upd mE.heap id with h1|⟨h1,h2⟩
   ·exact h1
   rw[h1];exact hd id ω
  |post=>
   have h0:=hq 0 rfl;simp only[ao_]at h0;rw[h0];simp only[ai_,if_false,mask];exact Gh S row l bM tail (k+1) _ _ _ ht (by simpa [atW]using hl) Cv h (λid cO=>hd id ω) zP si qb
 |x::row,[],[],tail,k,c,mE,qa,ht,hl,_,_,_,_,_,_=>by simp at hl
 |x::row,[],o::bM,tail,k,c,mE,qa,ht,hl,ha,h,hd,hp,hq,hu=>by
  cases tail with
  |nil=>simp at ht
  |cons y tail=>
   obtain⟨o',n,r⟩:=y;simp only[fe,atR]at ht;obtain⟨rfl,ht⟩:=ht;simp only[cv,Asc]at ha;obtain⟨rfl,Mm,Cv⟩:=ha;simp only[cv,apS];have zP:∀j,row[j]?=some .pre->j<([]:List ee).length/\S (k+1+j):=λj aI=>by
    have:=(hp (j+1) (by simpa using aI)).1;simp at this
   have si:∀j,row[j]?=some .post->S (k+1+j)=false:=λj aI=>by
    have:=hq (j+1) (by simpa using aI);rw[show k+1+j=k+(j+1)from by omega];exact this
   have qb:∀(iE:St),iE.heap=mE.heap->∀(j:Nat) (nK:ee),row[j]?=some .dL->([]:List ee).length<=j->tail[j-([]:List ee).length]?=some nK->S (k+1+j)->∀p∈nK.2.2.upd,a6 (mask row [] bM iE).heap p.1=.ek:=λiE aiy j nK h1 h2 ao aH p hp=>by
    have:=hu (j+1) nK (by simpa using h1) ξ (by simpa using ao) (by rw[show k+(j+1)=k+1+j from by omega];exact aH) p hp;rw[IP]at this⊢;rw[aiy];exact this
   have sK:row.length=([]:List ee).length+bM.length:=by simp at hl⊢;omega
   have je:∀id,n+r.new.length<=id->a6 mE.heap id=.ek:=λid cO=>hd id ω
   cases x with
   |pre=>have:=(hp 0 rfl).1;simp at this
   |dL=>
    simp only[mask];have:=Gh S row [] bM tail (k+1) _ ⟨yE mE.tmps o'.dst,mE.heap⟩ (if S k=true then qa.d7 o'.dst n r else qa) ht sK (by simpa using Cv) ?_ je zP si (qb _ rfl)
    ·simpa using this
    refine⟨?_,λt v e=>?_,λi=>?_⟩
    ·simp only[Yn];rw[h.len];split
     ·rw[Ed]
     rfl
    ·rcases Ym _ _ _ _ e with h1|⟨h1,h2⟩
     ·exact .inl h1
     split
     ·rw[Ct,if_neg h2];exact h.jA t v h1
     exact h.jA t v h1
    split
    ·rename_i hs;have aiz:=hu 0 (o',n,r) rfl ξ ξ hs;by_cases hr:n<=i/\i<n+r.new.length
     ·exact .inl (hd i hr.1)
     by_cases hx:∃z,(i,z)∈r.upd
     ·obtain⟨z,hz⟩:=hx;have:=aiz (i,z) hz;rw[IP]at this;exact .inl this
     rw[zO,Cu (λz hz=>hx ⟨z,hz⟩) hr];exact h.hp i
    exact h.hp i
   |post=>
    have h0:=hq 0 rfl;simp only[ao_]at h0;rw[h0];simp only[ai_,if_false,mask];have:=Gh S row [] bM tail (k+1) _ mE qa ht sK (by simpa using Cv) h je zP si (qb _ rfl);simpa using this
def anyE(P:Program)(aQ:List Oper)(ff:St):List (List bK)->List Oper->List ee->Nat->(List ee->Prop)->Prop
 |row::dH,o::bM,l,n,K=>stepE P aQ (mask row l (o::bM) ff) n o λr=>anyE P aQ ff dH bM (l++[(o,n,r)]) (n+r.new.length) K
 |_,[],l,_,K=>K l
 |[],_::_,_,_,_=>False
def Rh:Nat->List ee->Prop
 |_,[]=>True
 |c,(_,n,r)::l=>n=c/\Rh (c+r.new.length) l
theorem Yo{aQ:Array Oper}{ff:St}:∀(bM:List Oper) (dH:List (List bK)) (l:List ee) (n:Nat) (K:List ee->Prop),anyE P aQ.toList ff dH bM l n K->
  ∃tail:List ee,tail.map (·.1)=bM/\K (l++tail)/\Rh n tail/\∀(j:Nat) (x:ee),tail[j]?=some x->∃row,dH[j]?=some row/\Mn P aQ x.1 (mask row (l++tail.take j) (bM.drop j) ff) x.2.1 x.2.2
 |[],dH,l,n,K,h=>by
  have:K l:=by cases dH<;>exact h
  exact⟨[],rfl,by simpa using this,trivial,by simp⟩
 |o::bM,[],l,n,K,h=>h.elim
 |o::bM,row::dH,l,n,K,h=>by
  simp only[anyE]at h;obtain⟨r,h1,h2⟩:=aiA h;obtain⟨tail,h9,hT,Cw,Cx⟩:=Yo bM dH _ _ K h2;refine⟨(o,n,r)::tail,by simp[h9],by simpa using hT,⟨rfl,Cw⟩,λj x aI=>?_⟩
  cases j with
  |zero=>simp at aI;subst aI;exact⟨row,rfl,by simpa using h1⟩
  |succ j=>
   obtain⟨IQ,k1,k2⟩:=Cx j x (by simpa using aI);exact⟨IQ,by simpa using k1,by simpa using k2⟩
def allPre:List bK->Bool
 |[]=>true
 |.pre::r=>allPre r
 |_::_=>false
def IS(b:Nat):List (Nat×H)->Prop
 |[]=>True
 |(i,_)::r=>i<b/\IS b r
def updE:List (List bK)->Nat->List ee->Prop
 |row::dH,i,(_,n,r)::l=>(match r.upd with|[]=>True|_::_=>allPre (row.take i))/\IS (n+r.new.length) r.upd/\updE dH (i+1) l
 |_,_,[]=>True
 |[],_,_::_=>False
def Cy(x:ee)(id:Nat):Bool:=!(decide (x.2.1<=id)&&decide (id<x.2.1+x.2.2.new.length))&&!(x.2.2.upd.any λq=>q.1 == id)
def Ri:H->Bool
 |.ek=>true
 |_=>false
def okR(ff:St)(cH:List Nat):List bK->List (List bK)->List ee->List ee->List Oper->Bool
 |r::row,xB::dH,pre,x::l,o::aQ=>(match r with|.pre=>true|_=>cH.all λid=>Ri (a6 (mask xB pre (o::aQ) ff).heap id)&&Cy x id)&&okR ff cH row dH (pre++[x]) l aQ
 |_,_,_,[],_=>true
 |_,_,_,_::_,_=>false
def Mo(ff:St)(row:List bK)(dH:List (List bK))(pre:List ee)(aQ:List Oper):List (Nat×H)->Bool
 |[]=>true
 |p::u=>okR ff (p.1::u.map (·.1)) row dH [] pre aQ
def IT(ff:St)(IU:List (List bK))(IV:List Oper):List (List bK)->List ee->List ee->Prop
 |row::dH,pre,(o,n,r)::l=>Mo ff row IU pre IV r.upd/\IS (n+r.new.length) r.upd/\IT ff IU IV dH (pre++[(o,n,r)]) l
 |_,_,[]=>True
 |[],_,_::_=>False
theorem Yp{x:H}(h:Ri x):x=.ek:=by cases x<;>first|rfl|cases h
theorem Yq{ff:St}{cH:List Nat}:∀{l:List ee} {row:List bK} {dH:List (List bK)} {pre:List ee} {aQ:List Oper},okR ff cH row dH pre l aQ->∀(k:Nat) (y:ee) (ρ:bK),l[k]?=some y->row[k]?=some ρ->ρ≠.pre->∀id∈cH,
  ∃xB,dH[k]?=some xB/\a6 (mask xB (pre++l.take k) (aQ.drop k) ff).heap id=.ek/\Cy y id=true
 |[],_,_,_,_,_,k,y,ρ,hy,_,_,_,_=>by simp at hy
 |x::l,[],_,_,_,h,_,_,_,_,_,_,_,_=>by simp[okR]at h
 |x::l,_::_,[],_,_,h,_,_,_,_,_,_,_,_=>by simp[okR]at h
 |x::l,_::_,_::_,_,[],h,_,_,_,_,_,_,_,_=>by simp[okR]at h
 |x::l,r::row,xB::dH,pre,o::aQ,h,k,y,ρ,hy,hr,hne,id,cO=>by
  simp only[okR,bm]at h
  cases k with
  |zero=>
   simp at hy hr;subst hy;subst hr;have h1:=h.1;refine⟨xB,rfl,?_⟩
   cases r with
   |pre=>exact absurd rfl hne
   |dL=>
    simp only[ae_,bm]at h1;obtain⟨ao,aH⟩:=h1 id cO;exact⟨by simpa using Yp ao,aH⟩
   |post=>
    simp only[ae_,bm]at h1;obtain⟨ao,aH⟩:=h1 id cO;exact⟨by simpa using Yp ao,aH⟩
  |succ k=>
   obtain⟨aiB,k1,k2,dd⟩:=Yq h.2 k y ρ (by simpa using hy) (by simpa using hr) hne id cO;exact⟨aiB,by simpa using k1,by simpa using k2,dd⟩
theorem Yr:∀{row:List bK},allPre row->∀(j:Nat) (x:bK),row[j]?=some x->x=.pre
 |[],_,j,x,h=>by simp at h
 |y::row,h,j,x,hx=>by
  cases y<;>simp only[allPre]at h
  ·cases j with
   |zero=>simp at hx;exact hx.symm
   |succ j=>exact Yr h j x (by simpa using hx)
  ·cases h
  cases h
theorem Rj{b:Nat}:∀{upd:List (Nat×H)},IS b upd->∀p∈upd,p.1<b
 |[],_,p,hp=>by cases hp
 |(i,x)::r,h,p,hp=>by
  rcases rD.1 hp with rfl|hp
  ·exact h.1
  exact Rj h.2 p hp
theorem Rk{ff:St}{IU:List (List bK)}{IV:List Oper}:∀{l:List ee} {dH:List (List bK)} {pre:List ee},IT ff IU IV dH pre l->∀(j:Nat) (x:ee),l[j]?=some x->∃row,dH[j]?=some row/\Mo ff row IU (pre++l.take j) IV x.2.2.upd/\∀p∈x.2.2.upd,p.1<x.2.1+x.2.2.new.length
 |[],_,_,_,j,x,h=>by simp at h
 |(o,n,r)::l,[],_,h,j,x,hx=>h.elim
 |(o,n,r)::l,row::dH,pre,h,j,x,hx=>by
  obtain⟨h1,h2,ao⟩:=h
  cases j with
  |zero=>simp at hx;subst hx;exact⟨row,rfl,by simpa using h1,Rj h2⟩
  |succ j=>
   obtain⟨IQ,k1,k2,dd⟩:=Rk ao j x (by simpa using hx);exact⟨IQ,by simpa using k1,by simpa using k2,dd⟩
theorem Rl:∀{l:List ee} {dH:List (List bK)} {i:Nat},updE dH i l->∀(j:Nat) (x:ee),l[j]?=some x->∃row,dH[j]?=some row/\(x.2.2.upd=[]\/∀k,k<i+j->k<row.length->row[k]?=some .pre)/\∀p∈x.2.2.upd,p.1<x.2.1+x.2.2.new.length
 |[],_,_,_,j,x,h=>by simp at h
 |(o,n,r)::l,[],i,h,j,x,hx=>h.elim
 |(o,n,r)::l,row::dH,i,h,j,x,hx=>by
  obtain⟨h1,h2,ao⟩:=h
  cases j with
  |zero=>
   simp at hx;subst hx;refine⟨row,rfl,?_,Rj h2⟩
   cases hu:r.upd with
   |nil=>exact .inl rfl
   |cons p ps=>
    rw[hu]at h1;right;intro k hk xe;have aiC:k<(row.take i).length:=by simp;omega
    have:=Yr h1 k _ (cy aiC);rw[cy xe];rw[List.getElem_take]at this;rw[this]
  |succ j=>
   obtain⟨IQ,k1,k2,dd⟩:=Rl ao j x (by simpa using hx);exact⟨IQ,by simpa using k1,k2.imp id λh k hk=>h k ω,dd⟩
theorem Ys{c:Nat}:∀{l:List ee},Rh c l->(∀(j:Nat) (x:ee),l[j]?=some x->∀p∈x.2.2.upd,p.1<x.2.1+x.2.2.new.length)->Asc c l
 |[],_,_=>trivial
 |(o,n,r)::l,h,hu=>⟨h.1,hu 0 (o,n,r) rfl,Ys h.2 λj x hx=>hu (j+1) x (by simpa using hx)⟩
theorem IW{c:Nat}:∀{l:List ee},Asc c l->∀(j:Nat) (x:ee),l[j]?=some x->c<=x.2.1/\(∀p∈x.2.2.upd,p.1<x.2.1+x.2.2.new.length)/\∀(k:Nat) (y:ee),j<k->l[k]?=some y->x.2.1+x.2.2.new.length<=y.2.1
 |[],_,j,x,h=>by simp at h
 |(o,n,r)::l,h,j,x,hx=>by
  obtain⟨rfl,h1,h2⟩:=h
  cases j with
  |zero=>
   simp at hx;subst hx;refine⟨fH _,h1,λk y hk hy=>?_⟩
   cases k with
   |zero=>omega
   |succ k=>exact(IW h2 k y (by simpa using hy)).1
  |succ j=>
   obtain⟨k1,k2,dd⟩:=IW h2 j x (by simpa using hx);refine⟨by omega,k2,λk y hk hy=>?_⟩
   cases k with
   |zero=>omega
   |succ k=>exact dd k y ω (by simpa using hy)
theorem Yt{p q:Nat->Bool}:∀(l:List Nat) (x:Nat),x∈l->(∀y,p y->q y=true)->q x->p x=false->l.countP p<l.countP q
 |[],x,h,_,_,_=>by cases h
 |y::l,x,h,Rm,hq,hp=>by
  have bu:l.countP p<=l.countP q:=List.countP_mono_left λz _=>Rm z;rcases rD.1 h with rfl|h
  ·rw[aub (by simp[hp]),aty hq];omega
  have:=Yt l x h Rm hq hp;by_cases hy:p y=true
  ·rw[aty hy,aty (Rm y hy)];omega
  rw[aub hy];by_cases Mp:q y=true
  ·rw[aty Mp];omega
  rw[aub Mp];exact this
structure Yu(P:Program)(aQ:Array Oper)(dH:List (List bK))(e3:List ee)(ff:St):Prop where
 Ee:xA aQ.toList dH=true
 fst:e3.map (·.1)=aQ.toList
 hH:Asc ff.heap.length e3
 upd:∀(i:Nat) (x:ee),e3[i]?=some x->∀p∈x.2.2.upd,∀(k:Nat) (y:ee),k<i->e3[k]?=some y->p' dH i k≠.pre->∃xB,dH[k]?=some xB/\a6 (mask xB (e3.take k) (aQ.toList.drop k) ff).heap p.1=.ek/\Cy y p.1=true
 yF:∀(i:Nat) (row:List bK),dH[i]?=some row->row.length=aQ.size
 step:∀(i:Nat) (x:ee),e3[i]?=some x->∃row,dH[i]?=some row/\Mn P aQ x.1 (mask row (e3.take i) (aQ.toList.drop i) ff) x.2.1 x.2.2
def Yv(aQ:Array Oper)(S:Nat->Bool):Prop:=∀i o,aQ[i]?=some o->S i->∀e∈o.after,Region.binds .any e->S e.on=true
theorem Yw{aQ:Array Oper}{dH:List (List bK)}(h:xA aQ.toList dH){S:Nat->Bool}(hc:Yv aQ S):∀(i:Nat),(∀e o,aQ[i]?=some o->e∈o.after->Region.binds .any e->S e.on=true)->∀j,i<aQ.size->j<aQ.size->p' dH i j=.pre->S j:=by
 intro i
 induction i using azO with
 |_ i c_=>
  intro he j hi aI hr;have Mq:∀k,Ge aQ.toList i k->S k:=by
   intro k hk;unfold Ge at hk;rw[ac_,arZ hi]at hk;simp only[asX,bm,beq_iff_eq]at hk;obtain⟨e,h1,h2,ao⟩:=hk;rw[<-ao];exact he e _ (arZ hi) (by simpa using h1) h2
  obtain⟨h1,h2|⟨k,h2,ao,aH⟩⟩:=Yl h (by simpa using hi) (by simpa using aI) hr
  ·exact Mq j h2
  have hk:=Mq k h2;exact c_ k aH (λe o aG DV hb=>hc k o aG hk e DV hb) j ω aI ao
section
variable {aQ:Array Oper} {dH:List (List bK)} {e3:List ee} {ff:St} {B:Nat->Prop} {w0:World} {kp:List (V×Value)} {Q:Exit->Act->World->Prop}
theorem aiD(G:Yu P aQ dH e3 ff)(m5:∀a w,(∃a0 φ,R B w0 a0 φ (apS (λ_=>true) 0 e3 ff) kp a w/\∀id,a0 id->id<ff.heap.length\/∃(j:Nat) (x:ee),e3[j]?=some x/\x.2.1<=id/\id<x.2.1+x.2.2.new.length)->Q .normal a w) :
  ∀(fuel:Nat) (er:Array Bool) (a:Act) (w:World),er.size=aQ.size->Yv aQ (λi=>er.getD i false)->(pv aQ.size).countP (λi=>!(er.getD i false))<=fuel->
   (∃a0 φ,R B w0 a0 φ (apS (λi=>er.getD i false) 0 e3 ff) kp a w/\∀id,a0 id->id<ff.heap.length\/∃(j:Nat) (x:ee),e3[j]?=some x/\er.getD j false/\x.2.1<=id/\id<x.2.1+x.2.2.new.length)->
   wpAny P .any aQ Q fuel er a w:=by
 have fU:e3.length=aQ.size:=by
  have:=congrArg asy G.fst;simpa using this
 have Rn:∀(i:Nat) (x:ee),e3[i]?=some x->aQ[i]?=some x.1:=by
  intro i x hx;have:=congrArg (·[i]?) G.fst;simp only[ats,hx,asj,ac_]at this;exact this.symm
 have qc:∀(er:Array Bool),er.size=aQ.size->Region.ready .any aQ er=[]->∀i,i<aQ.size->er.getD i false:=by
  intro er hs hr i
  induction i using azO with
  |_ i c_=>
   intro hi;by_cases h:er.getD i false=true
   ·exact h
   exfalso;have:i∈Region.ready .any aQ er:=by
    rw[mem_ready];refine⟨?_,aQ[i],arZ hi,λe he hb=>?_⟩
    ·have:i<er.size:=by omega
     simp only[arU,arZ this,kk]at h⊢;simpa using h
    have:=aiu G.Ee (i:=i) (o:=aQ[i]) (by simp[hi]) (e:=e) (by simpa using he) hb;exact c_ e.on this ω
   rw[hr]at this;cases this
 have Yx:∀(er:Array Bool) (a:Act) (w:World),er.size=aQ.size->Region.ready .any aQ er=[]->(∃a0 φ,R B w0 a0 φ (apS (λi=>er.getD i false) 0 e3 ff) kp a w/\∀id,a0 id->id<ff.heap.length\/∃(j:Nat) (x:ee),e3[j]?=some x/\er.getD j false/\x.2.1<=id/\id<x.2.1+x.2.2.new.length)->Q .normal a w:=by
  rintro er a w hs hr ⟨a0,φ,a1,bD⟩;refine m5 a w ⟨a0,φ,Yk a1 ?_ ?_,λid cO=>(bD id cO).imp (λh=>h) λ⟨j,x,h1,_,h2⟩=>⟨j,x,h1,h2⟩⟩
  ·apply au_;intro t;refine Mk _ _ t e3 0 ff ff rfl rfl λj x hx _=>?_;have aI:j<e3.length:=(aj_.1 hx).1;simp only[asA];exact(qc er hs hr j ω).symm
  intro id;refine IN _ _ id e3 0 ff ff rfl λj x hx _=>?_;have aI:j<e3.length:=(aj_.1 hx).1;simp only[asA];exact(qc er hs hr j ω).symm
 intro fuel
 induction fuel with
 |zero=>
  intro er a w hs hc sQ a1;have hr:Region.ready .any aQ er=[]:=by
   apply asY.2;intro i hi;obtain⟨h1,o,aG,_⟩:=mem_ready.1 hi;have hlt:i<aQ.size:=(asO.1 aG).1;have h2:(pv aQ.size).countP (λi=>!(er.getD i false))=0:=by omega
   have:=List.countP_eq_zero.1 h2 i (asl.2 hlt);have hl:i<er.size:=by omega
   simp only[arU,arZ hl,kk]at this h1;rw[h1]at this;simp at this
  exact⟨hr,Yx er a w hs hr a1⟩
 |succ fuel c_=>
  intro er a w hs hc sQ a1;refine⟨λhr=>Yx er a w hs hr a1,λi hi=>?_⟩;obtain⟨h1,o,aG,Gi⟩:=mem_ready.1 hi;have hlt:i<aQ.size:=(asO.1 aG).1;have hl:i<er.size:=by omega
  have Gj:er.getD i false=false:=by
   simp only[arU,arZ hl,kk]at h1⊢;exact h1
  have Ef:i<e3.length:=by omega
  have hx:e3[i]?=some e3[i]:=cy Ef;generalize e3[i]=x at hx;have aiE:x.1=o:=by have:=Rn i x hx;rw[aG]at this;exact(bZ this).symm
  obtain⟨row,IX,aiF⟩:=G.step i x hx;have qG:∀j y,row[j]?=some y->p' dH i j=y/\j<aQ.size:=by
   intro j y hy;refine⟨by unfold p';simp[IX,hy],?_⟩;have:=(aj_.1 hy).1;rw[G.yF i row IX]at this;exact this
  have Yy:∀j,row[j]?=some .pre->j<i/\er.getD j false:=by
   intro j aI;obtain⟨h2,ao⟩:=qG j _ aI;exact⟨(Yl G.Ee (by simpa using hlt) (by simpa using ao) h2).1,Yw G.Ee hc i (λe o' Mr he hb=>by rw[aG]at Mr;cases Mr;exact Gi e he hb) j hlt ao h2⟩
  have Yz:∀j,row[j]?=some .post->er.getD j false=false:=by
   intro j aI;obtain⟨h2,ao⟩:=qG j _ aI;rcases aiv G.Ee (by simpa using hlt) (by simpa using ao) h2 with aH|aH
   ·rw[aH];exact Gj
   cases hs':er.getD j false
   ·rfl
   have:=Yw G.Ee hc j (λe o' Mr he hb=>hc j o' Mr hs' e he hb) i ao hlt aH;rw[Gj]at this;cases this
  have YA:∀(j:Nat) (y:ee),row[j]?=some .dL->i<j->e3[j]?=some y->∀p∈y.2.2.upd,a6 (mask row (e3.take i) (aQ.toList.drop i) ff).heap p.1=.ek/\Cy x p.1:=by
   intro j y aI oX hy p hp;obtain⟨h2,ao⟩:=qG j _ aI;obtain⟨xB,b5,b8,dI⟩:=G.upd j y hy p hp i x oX hx (by
    rw[aiw G.Ee (by simpa using hlt) (by simpa using ao) h2];intro h;cases h)
   rw[IX]at b5;cases b5;exact⟨b8,dI⟩
  have YB:∀(j:Nat) (y:ee),i<j->e3[j]?=some y->er.getD j false->∀p∈y.2.2.upd,Cy x p.1:=by
   intro j y oX hy hs';have aI:j<aQ.size:=by have:=(aj_.1 hy).1;omega
   have aiG:j<row.length:=by rw[G.yF i row IX];exact aI
   have h2:row[j]?=some row[j]:=cy aiG;cases iX:row[j]with
   |pre=>rw[iX]at h2;have:=(Yy j h2).1;omega
   |post=>rw[iX]at h2;have:=Yz j h2;rw[this]at hs';cases hs'
   |dL=>rw[iX]at h2;exact λp hp=>(YA j y h2 oX hy p hp).2
  have bu:Gg (mask row (e3.take i) (aQ.toList.drop i) ff) (apS (λi=>er.getD i false) 0 e3 ff):=by
   have oz:(e3.take i).length=i:=by simp;omega
   have:=Gh (λi=>er.getD i false) row (e3.take i) (aQ.toList.drop i) (e3.drop i) 0 ff.heap.length ff ff (by rw[List.map_drop,G.fst]) (by rw[G.yF i row IX];simp;omega) (by rw[ad_];exact G.hH)
    ⟨rfl,λt v e=>.inr e,λi=>.inr rfl⟩ (λid cO=>by unfold a6;rw[lU,arX cO];rfl)
    (λj aI=>by rw[oz,asA];exact Yy j aI) (λj aI=>by rw[asA];exact Yz j aI)
    (λj y aI oX hy hs'=>by
     rw[oz]at oX hy;rw[asA]at hs';rw[List.getElem?_drop,show i+(j-i)=j from by omega]at hy;rcases asv i j with h|h
     ·exact λp hp=>(YA j y aI h hy p hp).1
     have:j=i:=by omega
     subst this;rw[Gj]at hs';cases hs')
   rw[ad_]at this;exact this
  obtain⟨a0,φ,fO,bD⟩:=a1;have n8:=IW G.hH i x hx;have Ms:∀(j:Nat) (y:ee) (id:Nat),j≠i->e3[j]?=some y->er.getD j false->x.2.1<=id->id<x.2.1+x.2.2.new.length->yD y.2.1 y.2.2 id=none:=by
   intro j y id ns hy hs' h2 ao;have YC:=IW G.hH j y hy;rcases az_ ns with h|h
   ·have aH:=YC.2.2 i x h hx;exact Cu (λz hz=>by have:=YC.2.1 _ hz;simp only at this;omega) ω
   have aH:=n8.2.2 j y h hy;refine Cu (λz hz=>?_) ω;have:=YB j y h hy hs' (id,z) hz;simp only[Cy,bm,ab_,arR,eC]at this;omega
  have Rg:∀id,x.2.1<=id->id<x.2.1+x.2.2.new.length->a6 (apS (λi=>er.getD i false) 0 e3 ff).heap id=.ek:=by
   intro id h2 ao;have:=IN (λi=>er.getD i false) (λ_=>false) id e3 0 ff ff rfl λj y hy hne=>by
    simp only[asA];cases hs':er.getD j false
    ·rfl
    exfalso;by_cases ns:j=i
    ·subst ns;rw[Gj]at hs';cases hs'
    exact hne (Ms j y id ns hy hs' h2 ao)
   rw[this];have cO:∀(l:List ee) (k:Nat) (iE:St),apS (λ_=>false) k l iE=iE:=by
    intro l
    induction l with
    |nil=>intro k iE;rfl
    |cons y l c_=>intro k iE;obtain⟨o,n,r⟩:=y;rw[apS];simpa using c_ (k+1) iE
   rw[cO];have:ff.heap.length<=id:=by have:=n8.1;omega
   unfold a6;rw[lU,arX this];rfl
  have l0:∀id,x.2.1<=id->id<x.2.1+x.2.2.new.length->¬a0 id:=by
   intro id h2 ao hd;rcases bD id hd with aH|⟨j,y,hy,hs',aH,bR⟩
   ·have:=n8.1;omega
   by_cases ns:j=i
   ·subst ns;rw[Gj]at hs';cases hs'
   rcases az_ ns with h|h
   ·have:=(IW G.hH j y hy).2.2 i x h hx;omega
   have:=n8.2.2 j y h hy;omega
  have rN:∀j,(er.setIfInBounds i true).getD j false=if j=i then true else er.getD j false:=by
   intro j;by_cases ns:j=i
   ·subst ns;rw[if_pos rfl];simp[hl]
   rw[if_neg ns];exact getD_set_ne false (Ne.symm ns)
  have hk:=aiF (apS (λi=>er.getD i false) 0 e3 ff) ⟨bu.jA,bu.hp⟩ Rg B w0 a0 φ kp a w l0 fO (wpAny P .any aQ Q fuel (er.setIfInBounds i true)) Q λu w' du lX=>by
   refine c_ _ _ w' (by simp[hs]) (λj aiH aI Ro e he hb=>?_) ?_ ⟨_,du,Yk lX ?_ ?_,λid cO=>?_⟩
   ·simp only[rN]at Ro⊢;by_cases YD:e.on=i
    ·rw[if_pos YD]
    rw[if_neg YD];by_cases ns:j=i
    ·subst ns;rw[aG]at aI;cases aI;exact Gi e he hb
    rw[if_neg ns]at Ro;exact hc j aiH aI Ro e he hb
   ·have:=Yt (p:=λj=>!((er.setIfInBounds i true).getD j false)) (q:=λj=>!(er.getD j false)) (pv aQ.size) i (asl.2 hlt) (λy hy=>by
     rw[rN]at hy;by_cases mq:y=i
     ·rw[if_pos mq]at hy;cases hy
     rw[if_neg mq]at hy;exact hy) (by rw[Gj];rfl) (by rw[rN,if_pos rfl];rfl)
    omega
   ·apply au_;intro t;have aiI:=Ct (apS (λi=>er.getD i false) 0 e3 ff) x.1.dst x.2.1 x.2.2 t;refine Eq.trans ?_ aiI.symm;by_cases hd:x.1.dst=some t
    ·rw[if_pos hd,Yh];refine Yi _ t e3 0 ff i x hx hd (by simp[rN]) λj y oX hy Rp=>?_;exfalso;exact aix G.Ee (i:=i) (j:=j) (x:=x.1) (y:=y.1) (by simp[Rn i x hx]) (by simp[Rn j y hy]) ω hd Rp
    rw[if_neg hd];refine Mk _ _ t e3 0 ff ff rfl rfl λj y hy Rp=>?_;simp only[asA,rN];by_cases ns:j=i
    ·subst ns;rw[hx]at hy;cases hy;exact absurd Rp hd
    rw[if_neg ns]
   ·intro id;refine Eq.trans ?_ (zO (apS (λi=>er.getD i false) 0 e3 ff) x.1.dst x.2.1 x.2.2 id).symm
    cases ht:yD x.2.1 x.2.2 id with
    |none=>
     refine IN _ _ id e3 0 ff ff rfl λj y hy hne=>?_;simp only[asA,rN];by_cases ns:j=i
     ·subst ns;rw[hx]at hy;cases hy;exact absurd ht hne
     rw[if_neg ns]
    |some z=>
     refine Yj _ id e3 0 ff i x z hx ht (by simp[rN]) λj y oX hy hne=>?_;simp only[asA,rN];rw[if_neg ω]
     cases hs':er.getD j false
     ·rfl
     exfalso;have hu:∀z,(id,z)∉y.2.2.upd:=λaiJ iO=>by
      have bR:=YB j y oX hy hs' (id,aiJ) iO;simp only[Cy,bm,ab_,arR,eC]at bR;rw[Cu (λq hq=>by
       have eQ:=List.any_eq_false.1 bR.2 (id,q) hq;simp at eQ) ω]at ht
      cases ht
     have aH:=n8.2.2 j y oX hy;have auY:id<x.2.1+x.2.2.new.length:=by
      rcases asv id (x.2.1+x.2.2.new.length)with h|h
      ·exact h
      rw[Cu (λz hz=>by have:=n8.2.1 _ hz;simp only at this;omega) ω]at ht;cases ht
     exact hne (Cu hu ω)
   rcases cO with cO|cO
   ·rcases bD id cO with aH|⟨j,y,hy,hs',aH⟩
    ·exact .inl aH
    exact .inr ⟨j,y,hy,by rw[rN];split<;>first|rfl|exact hs',aH⟩
   exact .inr ⟨i,x,hx,by rw[rN,if_pos rfl],cO⟩
  unfold wpOp;simp only[aG];rw[aiE]at hk;split at hk
  ·rename_i hw;rw[if_pos hw];exact hk
  rename_i hw;rw[if_neg hw];exact hk
end
def seqAp:List ee->St->St
 |[],σ=>σ
 |(o,n,r)::l,σ=>seqAp l (σ.d7 o.dst n r)
theorem YE:∀(l:List ee) (k:Nat) (σ:St),apS (λ_=>true) k l σ=seqAp l σ
 |[],_,_=>rfl
 |(o,n,r)::l,k,σ=>by rw[apS,seqAp];simpa using YE l (k+1) (σ.d7 o.dst n r)
theorem YF:∀(l:List ee) (c:Nat) (σ:St),Asc c l->c<=σ.heap.length->σ.heap.length<=(seqAp l σ).heap.length/\∀(j:Nat) (x:ee),l[j]?=some x->x.2.1+x.2.2.new.length<=(seqAp l σ).heap.length
 |[],_,_,_,_=>⟨fH _,by simp⟩
 |(o,n,r)::l,c,σ,ha,hc=>by
  obtain⟨rfl,h1,h2⟩:=ha;have yq:=IY r.new σ.heap n;have B':=Mt r.upd (hnew σ.heap n r.new);have Rq:σ.heap.length<=(σ.d7 o.dst n r).heap.length/\n+r.new.length<=(σ.d7 o.dst n r).heap.length:=by
   simp only[St.d7];refine⟨by omega,?_⟩;rcases yq.2 with h|h
   ·have ao:=yq.1;rw[h]at B' ao⊢;simp only[g1];omega
   omega
  obtain⟨k1,k2⟩:=YF l _ (σ.d7 o.dst n r) h2 Rq.2;simp only[seqAp];refine⟨by omega,λj x hx=>?_⟩
  cases j with
  |zero=>simp at hx;subst hx;simp only;omega
  |succ j=>exact k2 j x (by simpa using hx)
def YG(P:Program)(aQ:Array Oper)(σ:St)(K:St->Prop):Prop:=
 ∃dH,xA aQ.toList dH/\dH.all (λr=>r.length == aQ.size)=true/\anyE P aQ.toList σ dH aQ.toList [] σ.heap.length λe3=>(updE dH 0 e3\/IT σ dH aQ.toList dH [] e3)/\K (seqAp e3 σ)
theorem aiK{aQ:Array Oper}{B:Nat->Prop}{w0:World}{kp:List (V×Value)}{Q:Exit->Act->World->Prop}{K:St->Prop}(hm:P.follows .mixedOrders){id:Nat}(m5:∀σ a w,K σ->fX B w0 kp σ a w->Q .normal a w){σ:St}{a:Act}{w:World}
  (h:YG P aQ σ K) (hr:fX B w0 kp σ a w):(Code.region id aQ true).wp P Q a w:=by
 obtain⟨dH,h1,h2,ao⟩:=h;obtain⟨e3,h9,⟨hT,YH⟩,Cw,Cx⟩:=Yo _ _ _ _ _ ao;simp only[cv]at hT YH Cx;have fU:e3.length=aQ.size:=by
  have:=congrArg asy h9;simpa using this
 have qG:∀(i:Nat) (row:List bK),dH[i]?=some row->row.length=aQ.size:=λi row hi=>by
  have:=ae_.1 h2 row (arW hi);simpa using this
 have n8:Asc σ.heap.length e3:=Ys Cw λj x hx=>by
  rcases hT with hT|hT
  ·obtain⟨_,_,_,h⟩:=Rl hT j x hx;exact h
  obtain⟨_,_,_,h⟩:=Rk hT j x hx;exact h
 have G:Yu P aQ dH e3 σ:=⟨h1,h9,n8,λi x hx p hp k y hk hy hne=>by
  have YI:k<aQ.size:=by have:=(aj_.1 hy).1;omega
  rcases hT with hT|hT
  ·exfalso;obtain⟨row,k1,k2,_⟩:=Rl hT i x hx;rcases k2 with k2|k2
   ·rw[k2]at hp;cases hp
   have xe:k<row.length:=by rw[qG i row k1];exact YI
   have:=k2 k ω xe;apply hne;unfold p';simp[k1,this]
  obtain⟨row,k1,k2,_⟩:=Rk hT i x hx;have xe:k<row.length:=by rw[qG i row k1];exact YI
  have YJ:row[k]?=some row[k]:=cy xe;have aiL:row[k]≠.pre:=λh=>hne (by unfold p';simp[k1,YJ,h])
  cases hu:x.2.2.upd with
  |nil=>rw[hu]at hp;cases hp
  |cons q u=>
   rw[hu]at hp k2;simp only[Mo,cv]at k2;have aiM:(e3.take i)[k]?=some y:=by rw[List.getElem?_take,if_pos hk];exact hy
   obtain⟨xB,b5,b8,dI⟩:=Yq k2 k y _ aiM YJ aiL p.1 (by
    rcases rD.1 hp with rfl|hp
    ·simp
    exact atb _ (aa_.2 ⟨p,hp,rfl⟩))
   refine⟨xB,b5,?_,dI⟩;rw[cv,List.take_take,Nat.min_eq_left ω]at b8;exact b8,qG,Cx⟩
 obtain⟨a0,φ,a1,bD⟩:=hr;refine wp_region_any hm (aiD G (B:=B) (w0:=w0) (kp:=kp) (λa' w' hA=>?_) aQ.size (atS aQ.size false) a {w with drawn:=w.drawn+1} ξ (λi o aG hs=>?_) ?_ ⟨a0,φ,?_,λi hi=>.inl (bD i hi)⟩)
 ·obtain⟨Cz,du,fO,aiN⟩:=hA;rw[YE]at fO;have yi:=YF e3 _ σ n8 (fH _);refine m5 (seqAp e3 σ) a' w' YH ⟨Cz,du,fO,λi hi=>?_⟩;rcases aiN i hi with h|⟨j,x,hx,_,h⟩
  ·omega
  have:=yi.2 j x hx;omega
 ·exfalso;have hlt:i<aQ.size:=(asO.1 aG).1;simp[hlt]at hs
 ·refine Nat.le_trans (List.countP_le_length) ?_;simp
 have cO:∀(l:List ee) (k:Nat) (iE:St),apS (λi=>(atS aQ.size false).getD i false) k l iE=iE:=by
  intro l
  induction l with
  |nil=>intro k iE;rfl
  |cons y l c_=>
   intro k iE;obtain⟨o,n,r⟩:=y;rw[apS,c_];have:(atS aQ.size false).getD k false=false:=by
    by_cases hk:k<aQ.size<;>simp[hk]
   simp only[this];rfl
 rw[cO];exact YK a1 rfl a1.hR.drew
def rdyE(S:List Bool):List Oper->List Bool->List Bool->List (Oper×List Bool)
 |o::os,pre,false::post=>if o.after.toList.all (λe=>!Region.binds .any e||S.getD e.on false)=true then(o,pre++true::post)::rdyE S os (pre++[false]) post else rdyE S os (pre++[false]) post
 |_::os,pre,true::post=>rdyE S os (pre++[true]) post
 |_,_,_=>[]
def yn(l:List (Oper×List Bool))(F:Oper->List Bool->Prop):Prop:=
 match l with
 |[]=>True
 |x::r=>F x.1 x.2/\yn r F
def exE(P:Program)(kv:List V)(aQ:List Oper):Nat->List Bool->St->(St->Prop)->Prop
 |0,S,σ,K=>rdyE S aQ [] S=[]/\K σ
 |n+1,S,σ,K=>(rdyE S aQ [] S=[]->K σ)/\yn (rdyE S aQ [] S) λo n3=>yo P kv aQ σ o λσ'=>exE P kv aQ n n3 σ' K
theorem Mu{S:List Bool}:∀(os:List Oper) (pre post:List Bool) (i:Nat) (o:Oper),os[i]?=some o->post[i]?=some false->(∀e∈o.after,Region.binds .any e->S.getD e.on false=true)->(o,pre++post.set i true)∈rdyE S os pre post
 |[],_,_,i,o,h,_,_=>by simp at h
 |x::os,pre,[],i,o,_,h,_=>by simp at h
 |x::os,pre,p::post,0,o,h1,h2,ao=>by
  simp at h1 h2;subst h1;subst h2;rw[rdyE];have hc:(x.after.toList.all λe=>!Region.binds .any e||S.getD e.on false):=by
   rw[ae_];intro e he;cases hb:Region.binds .any e
   ·rfl
   simpa using ao e (by simpa using he) hb
  rw[if_pos hc];simp
 |x::os,pre,p::post,i+1,o,h1,h2,ao=>by
  have:=Mu os (pre++[p]) post i o (by simpa using h1) (by simpa using h2) ao;rw[List.append_assoc,List.singleton_append]at this;rw[List.set_cons_succ];cases p
  ·rw[rdyE];split
   ·exact atb _ this
   exact this
  rw[rdyE];exact this
theorem Mv{S:List Bool}:∀(os:List Oper) (pre post:List Bool) (x:Oper×List Bool),x∈rdyE S os pre post->∃(i:Nat),os[i]?=some x.1/\post[i]?=some false/\x.2=pre++post.set i true/\∀e∈x.1.after,Region.binds .any e->S.getD e.on false=true
 |[],_,_,x,h=>by simp[rdyE]at h
 |o::os,pre,[],x,h=>by simp[rdyE]at h
 |o::os,pre,p::post,x,h=>by
  have step:∀x,x∈rdyE S os (pre++[p]) post->∃(i:Nat),(o::os)[i]?=some x.1/\(p::post)[i]?=some false/\x.2=pre++(p::post).set i true/\∀e∈x.1.after,Region.binds .any e->S.getD e.on false:=by
   intro x hx;obtain⟨i,h1,h2,ao,aH⟩:=Mv os (pre++[p]) post x hx;exact⟨i+1,by simpa using h1,by simpa using h2,by rw[ao];simp,aH⟩
  cases p
  ·rw[rdyE]at h;split at h
   ·rename_i hc;rcases rD.1 h with rfl|h
    ·refine⟨0,rfl,rfl,by simp,λe he hb=>?_⟩;have:=ae_.1 hc e (by simpa using he);rw[hb]at this;simpa using this
    exact step x h
   exact step x h
  rw[rdyE]at h;exact step x h
theorem YL{F:Oper->List Bool->Prop}:∀{l:List (Oper×List Bool)},yn l F->∀x∈l,F x.1 x.2
 |[],_,x,hx=>by cases hx
 |y::l,h,x,hx=>by
  rcases rD.1 hx with rfl|hx
  ·exact h.1
  exact YL h.2 x hx
theorem aiO{aQ:Array Oper}{B:Nat->Prop}{w0:World}{kp:List (V×Value)}{kv:List V}(b':kp.map (·.1)=kv){Q:Exit->Act->World->Prop}{K:St->Prop}(m5:∀σ a w,K σ->fX B w0 kp σ a w->Q .normal a w) :
  ∀(n:Nat) (er:Array Bool) (σ:St) (a:Act) (w:World),er.size=aQ.size->exE P kv aQ.toList n er.toList σ K->fX B w0 kp σ a w->wpAny P .any aQ Q n er a w:=by
 have Gk:∀(er:Array Bool),er.size=aQ.size->Region.ready .any aQ er=[]->rdyE er.toList aQ.toList [] er.toList=[]:=by
  intro er hs hr;apply asY.2;intro x hx;obtain⟨i,h1,h2,_,aH⟩:=Mv _ _ _ x hx;have:i∈Region.ready .any aQ er:=by
   rw[mem_ready];refine⟨?_,x.1,by simpa using h1,λe he hb=>?_⟩
   ·rw[ac_]at h2;simp[arU,h2]
   have:=aH e he hb;rw[lU,ac_]at this;simpa [arU]using this
  rw[hr]at this;cases this
 intro n
 induction n with
 |zero=>
  intro er σ a w hs h hr;simp only[exE]at h;refine⟨?_,m5 σ a w h.2 hr⟩;apply asY.2;intro i hi;obtain⟨h1,o,aG,Gi⟩:=mem_ready.1 hi;have hlt:i<er.size:=by have:=(asO.1 aG).1;omega
  have hm:=Mu (S:=er.toList) aQ.toList [] er.toList i o (by simpa using aG) (by
   rw[ac_];simpa [arU,hlt]using h1) (λe he hb=>by
   have:=Gi e he hb;rw[lU,ac_];simpa [arU]using this)
  rw[h.1]at hm;cases hm
 |succ n c_=>
  intro er σ a w hs h hr;simp only[exE]at h;refine⟨λhe=>m5 σ a w (h.1 (Gk er hs he)) hr,λi hi=>?_⟩;obtain⟨h1,o,aG,Gi⟩:=mem_ready.1 hi;have hlt:i<er.size:=by have:=(asO.1 aG).1;omega
  have hm:=Mu (S:=er.toList) aQ.toList [] er.toList i o (by simpa using aG) (by
   rw[ac_];simpa [arU,hlt]using h1) (λe he hb=>by
   have:=Gi e he hb;rw[lU,ac_];simpa [arU]using this)
  have hx:=YL h.2 _ hm;simp only[cv]at hx;have:=aiP (Q:=Q) (N:=wpAny P .any aQ Q n (er.setIfInBounds i true)) b' hx hr λσ' u w' hk lX=>by
   refine c_ (er.setIfInBounds i true) σ' _ w' (by simpa using hs) ?_ lX;simpa using hk
  unfold wpOp;simp only[aG];exact this
def Gc(P:Program)(kv:List V)(aQ:Array Oper)(σ:St)(K:St->Prop):Prop:=
 YG P aQ σ K\/∃ik,(∀σ',ik σ'->K σ')/\exE P kv aQ.toList aQ.size (ea aQ.size false) σ ik
theorem aiQ{aQ:Array Oper}{B:Nat->Prop}{w0:World}{kp:List (V×Value)}{kv:List V}(b':kp.map (·.1)=kv){Q:Exit->Act->World->Prop}{K:St->Prop}(hm:P.follows .mixedOrders){id:Nat}(m5:∀σ a w,K σ->fX B w0 kp σ a w->Q .normal a w){σ:St}{a:Act}{w:World}
  (h:Gc P kv aQ σ K) (hr:fX B w0 kp σ a w):(Code.region id aQ true).wp P Q a w:=by
 rcases h with h|⟨ik,Mw,h⟩
 ·exact aiK hm m5 h hr
 refine wp_region_any hm (aiO b' (λσ a w Rr=>m5 σ a w (Mw σ Rr)) aQ.size (atS aQ.size false) σ a _ ξ (by simpa using h) ?_);obtain⟨a0,φ,a1,bD⟩:=hr;exact⟨a0,φ,YK a1 rfl a1.hR.drew,bD⟩
variable {P:Program}
def AH(t:Bool)(lD B:Prop):Prop:=(t->lD)/\(t=false->B)
def outE:List (Nat×(St->Prop))->Nat->St->Prop
 |[],_,_=>False
 |(i,K)::aw,id,σ=>if id=i then K σ else outE aw id σ
mutual
def ren(ρ:List Nat):V->V
 |.an=>.an
 |.d x=>.d x
 |.eg s=>.eg s
 |.agg vs=>.agg (rens ρ vs)
 |.ptr id cC off=>.ptr (ρ.getD id 0) cC off
 |.gF cells off=>.gF cells off
 |.sl id off len=>.sl (ρ.getD id 0) off len
 |.fn f gd=>.fn f (rens ρ gd)
 |.e8 vs=>.e8 (rens ρ vs)
 |.b9 c v=>.b9 c (ren ρ v)
def rens(ρ:List Nat):List V->List V
 |[]=>[]
 |v::vs=>ren ρ v::rens ρ vs
end
def vsee(ρ:List Nat)(gX v:V):Prop:=match gX with|.an=>True|gX=>ren ρ gX=v
def vsees(ρ:List Nat):List V->List V->Prop
 |[],[]=>True
 |gX::vs',v::vs=>vsee ρ gX v/\vsees ρ vs' vs
 |_,_=>False
def hsee(ρ:List Nat)(nK x:H):Prop:=
 match nK,x with
 |.ek,_=>True
 |.box GF,.box cs=>vsees ρ GF cs
 |.ay z0 oB aky,.ay s xs ma=>z0=s/\oB=xs/\aky=ma
 |.lk z0 oB,.lk s xs=>z0=s/\oB=xs
 |.aj z0 oB,.aj s xs=>z0=s/\oB=xs
 |_,_=>False
def hsees(ρ:List Nat)(hs:List H):List Nat->List H->Prop
 |[],[]=>True
 |i::gG,nK::oB=>hsee ρ nK (a6 hs i)/\hsees ρ hs gG oB
 |_,_=>False
structure akz(ρ:List Nat)(σ σ':St):Prop where
 zH:ρ.Nodup
 jA:vsees ρ σ'.tmps σ.tmps
 hp:hsees ρ σ.heap ρ σ'.heap
theorem Z_{ρ:List Nat}{hs:List H}:∀{gG:List Nat} {oB:List H},hsees ρ hs gG oB->oB.length=gG.length/\∀i,i<gG.length->hsee ρ (a6 oB i) (a6 hs (gG.getD i 0))
 |[],[],_=>⟨rfl,by simp⟩
 |[],_::_,h=>by simp[hsees]at h
 |_::_,[],h=>by simp[hsees]at h
 |i::gG,nK::oB,h=>by
  simp only[hsees]at h;obtain⟨h1,h2⟩:=h;obtain⟨k1,k2⟩:=Z_ h2;refine⟨by simp[k1],λj aI=>?_⟩
  cases j with
  |zero=>simpa [a6]using h1
  |succ j=>simpa [a6]using k2 j (by simpa using aI)
section
variable {φ:c5} {T hQ:Nat->Prop} {h:Array Obj} {ρ:List Nat}
def rW(φ:c5)(ρ:List Nat):c5:=λi=>if i<ρ.length then φ (ρ.getD i 0)else none
mutual
def vok(m:Nat):V->Prop
 |.ptr id _ _=>id<m
 |.sl id _ _=>id<m
 |.agg vs=>b3 m vs
 |.fn _ vs=>b3 m vs
 |.e8 vs=>b3 m vs
 |.b9 _ v=>vok m v
 |_=>True
def b3(m:Nat):List V->Prop
 |[]=>True
 |v::vs=>vok m v/\b3 m vs
end
mutual
theorem Nh(cR:∀b,T b->hQ b):∀(v:V) (u:Value),vok ρ.length v->VRel φ T h (ren ρ v) u->VRel (rW φ ρ) hQ h v u
 |.an,_,_,_=>by simp[VRel]
 |.d x,u,_,r=>by
  simp only[ren,VRel]at r⊢;obtain⟨F,aZ,bA⟩:=r;exact⟨F,aZ,λb hb=>cR b (bA b hb)⟩
 |.eg _,_,_,r=>by simpa [ren,VRel]using r
 |.agg vs,u,k,r=>by
  simp only[ren,VRel,vok]at r k⊢;obtain⟨us,aZ,bA⟩:=r;exact⟨us,aZ,Ni cR vs us.toList k bA⟩
 |.ptr id cC off,u,k,r=>by
  simp only[ren,VRel,vok]at r k⊢;obtain⟨β,b,aZ,bA,c9⟩:=r;exact⟨β,b,by simp only[rW,if_pos k];exact aZ,bA,c9⟩
 |.gF cells off,u,_,r=>by
  simp only[ren,VRel]at r⊢;obtain⟨b,f,G,aZ,bA,c9,dn,fZ⟩:=r;exact⟨b,f,G,aZ,bA,cR b c9,dn,λg hg=>cR g (fZ g hg)⟩
 |.sl id off len,u,k,r=>by
  simp only[ren,VRel,vok]at r k⊢;obtain⟨β,a,c,aZ,bA⟩:=r;exact⟨β,a,c,by simp only[rW,if_pos k];exact aZ,bA⟩
 |.fn f gd,u,k,r=>by
  simp only[ren,VRel,vok]at r k⊢;obtain⟨us,aZ,bA⟩:=r;exact⟨us,aZ,Ni cR gd us.toList k bA⟩
 |.e8 vs,u,k,r=>by
  simp only[ren,VRel,vok]at r k⊢;obtain⟨us,aZ,bA⟩:=r;exact⟨us,aZ,Ni cR vs us.toList k bA⟩
 |.b9 c v,u,k,r=>by
  simp only[ren,VRel,vok]at r k⊢;exact⟨λe=>Nh cR v u k (r.1 e),r.2⟩
theorem Ni(cR:∀b,T b->hQ b):∀(vs:List V) (us:List Value),b3 ρ.length vs->VRels φ T h (rens ρ vs) us->VRels (rW φ ρ) hQ h vs us
 |[],us,_,r=>by simpa [rens,VRels]using r
 |v::vs,us,k,r=>by
  simp only[rens,VRels,b3]at r k⊢;obtain⟨u,c6,aZ,bA,c9⟩:=r;exact⟨u,c6,aZ,Nh cR v u k.1 bA,Ni cR vs c6 k.2 c9⟩
end
theorem Z'(cR:∀b,T b->hQ b){gX v:V}{u:Value}(hs:vsee ρ gX v)(k:vok ρ.length gX)(r:VRel φ T h v u):VRel (rW φ ρ) hQ h gX u:=by
 unfold vsee at hs;split at hs
 ·simp[VRel]
 subst hs;exact Nh cR _ u k r
theorem Sw(cR:∀b,T b->hQ b):∀{vs' vs:List V} {us:List Value},vsees ρ vs' vs->b3 ρ.length vs'->VRels φ T h vs us->VRels (rW φ ρ) hQ h vs' us
 |[],[],us,_,_,r=>by simpa [VRels]using r
 |[],_::_,_,hs,_,_=>by simp[vsees]at hs
 |_::_,[],_,hs,_,_=>by simp[vsees]at hs
 |gX::vs',v::vs,us,hs,k,r=>by
  simp only[vsees,b3,VRels]at hs k r⊢;obtain⟨u,c6,rfl,aZ,bA⟩:=r;exact⟨u,c6,rfl,Z' cR hs.1 k.1 aZ,Sw cR hs.2 k.2 bA⟩
end
def hok(m:Nat):H->Prop
 |.box cs=>b3 m cs
 |_=>True
theorem Sx{ρ:List Nat}{nK x:H}(h:hsee ρ nK x):(nK.qe->x.qe=true)/\(nK.own->x.own=true)/\(nK.B_->x.B_=true):=by
 unfold hsee at h;split at h
 ·exact⟨λe=>(by cases e),λe=>(by cases e),λe=>(by cases e)⟩
 ·exact⟨λ_=>rfl,λe=>(by cases e),λe=>(by cases e)⟩
 ·obtain⟨rfl,rfl,rfl⟩:=h;exact⟨id,id,id⟩
 ·exact⟨λe=>(by cases e),λe=>(by cases e),λe=>(by cases e)⟩
 ·exact⟨λ_=>rfl,λ_=>rfl,λ_=>rfl⟩
 exact h.elim
theorem akA{B:Nat->Prop}{w0:World}{σ σ':St}{a:Act}{w:World}{ρ:List Nat}(hs:akz ρ σ σ')(h1:b3 σ'.heap.length σ'.tmps)(h2:∀x∈σ'.heap,hok σ'.heap.length x){kp:List (V×Value)}(JD:∀p∈kp,vsee ρ p.1 p.1/\vok σ'.heap.length p.1)(r:fX B w0 kp σ a w):fX B w0 kp σ' a w:=by
 obtain⟨a0,φ,r,_⟩:=r;obtain⟨hl,Nj⟩:=Z_ hs.hp;rw[hl]at h1 h2 JD;have ef:∀i,(a6 σ'.heap i).qe->i<ρ.length:=by
  intro i hi;rcases asv i σ'.heap.length with h|h
  ·omega
  rw[zF h]at hi;cases hi
 have GM:∀i β b,nt (a6 σ'.heap i) β b->i<ρ.length/\nt (a6 σ.heap (ρ.getD i 0)) β b:=by
  intro i β b ht;have hlt:i<ρ.length:=by
   rcases ht with ⟨h,_⟩|⟨h,_⟩
   ·exact ef i h
   exact ef i (H.LN (H.Ik h))
  obtain⟨dG,e9,f3⟩:=Sx (Nj i hlt);exact⟨hlt,ht.imp (λh=>⟨dG h.1,h.2⟩) (λh=>⟨f3 h.1,h.2⟩)⟩
 have cR:∀b,dq φ σ.heap b->dq (rW φ ρ) σ'.heap b:=by
  intro b ht i β e hi;obtain⟨hlt,sK⟩:=GM i β b hi;simp only[rW,if_pos hlt]at e;exact ht _ β e sK
 have akB:∀i,i<ρ.length->∀x,a6 σ'.heap i=x->hok ρ.length x:=by
  intro i hi x hx;have hlt:i<σ'.heap.length:=by omega
  have:x∈σ'.heap:=by
   rw[<-hx];unfold a6;rw[lU,cy hlt];simp
  exact h2 x this
 have akC:∀i j,i<ρ.length->j<ρ.length->ρ.getD i 0=ρ.getD j 0->i=j:=by
  intro i j hi aI e;rw[lU,lU,cy hi,cy aI]at e;have e:ρ[i]=ρ[j]:=by simpa using e
  have hp:=List.pairwise_iff_getElem.1 hs.zH;rcases Nat.lt_trichotomy i j with h|h|h
  ·exact absurd e (hp i j hi aI h)
  ·exact h
  exact absurd e.symm (hp j i aI hi h)
 have kZ:∀i b,d_ (rW φ ρ) σ'.heap i b->i<ρ.length/\d_ φ σ.heap (ρ.getD i 0) b:=by
  rintro i b ⟨β,e,h⟩;have hlt:i<ρ.length:=by
   rcases h with ⟨h,_⟩|⟨h,_⟩
   ·exact ef i h
   exact ef i (H.LN h)
  obtain⟨dG,e9,f3⟩:=Sx (Nj i hlt);simp only[rW,if_pos hlt]at e;exact⟨hlt,β,e,h.imp (λh=>⟨dG h.1,h.2⟩) (λh=>⟨e9 h.1,h.2⟩)⟩
 refine⟨λi=>i<ρ.length,rW φ ρ,⟨Sw cR hs.jA h1 r.jA,λp hp=>(by
  have ao:=r.kp p hp;rcases e7.1 hp with hp|hp
  ·obtain⟨q,_,rfl⟩:=aa_.1 hp;exact Nh (ρ:=ρ) cR (.gF q.2 0) _ trivial ao
  exact Z' cR (JD p hp).1 (JD p hp).2 ao),λi=>?_,λi j b hi aI=>?_,λi β e hx=>?_,λi b aG=>?_,λi β e=>?_,r.hR,r.bs,r.pg,r.np⟩,λi hi=>by rw[hl];exact hi⟩
 ·by_cases hlt:i<ρ.length
  ·have qV:=Nj i hlt;have aaa:=akB i hlt _ rfl;rcases r.hp (ρ.getD i 0)with hd|⟨β,e,hr⟩
   ·left;rw[hd]at qV;unfold hsee at qV;split at qV
    ·rename_i ak;exact ak
    ·rename_i ar;cases ar
    ·rename_i ar;cases ar
    ·rename_i ar;cases ar
    ·rename_i ar;cases ar
    exact qV.elim
   by_cases Sy:a6 σ'.heap i=.ek
   ·exact .inl Sy
   refine .inr ⟨β,by simp only[rW,if_pos hlt];exact e,?_⟩;generalize a6 σ'.heap i=nK at qV aaa Sy;generalize a6 σ.heap (ρ.getD i 0)=x at qV hr;unfold hsee at qV;split at qV
   ·exact absurd rfl Sy
   ·simp only[eR]at hr⊢;obtain⟨b,cs,t,aZ,bA,c9,dn⟩:=hr;exact⟨b,cs,t,aZ,bA,c9,Sw cR qV aaa dn⟩
   ·obtain⟨rfl,rfl,rfl⟩:=qV;simp only[eR]at hr⊢;obtain⟨bR,hr⟩:=hr;refine⟨bR,hr.imp id λ⟨b,G,aZ,bA,c9,dn,fZ,ji⟩=>⟨b,G,aZ,bA,c9,dn,fZ,λe g hg=>cR g (ji e g hg)⟩⟩
   ·obtain⟨rfl,rfl⟩:=qV;simp only[eR]at hr⊢;obtain⟨bR,hr⟩:=hr;refine⟨bR,hr.imp id λ⟨b,G,aZ,bA,c9,dn,fZ⟩=>⟨b,G,aZ,cR b bA,c9,dn,λg hg=>cR g (fZ g hg)⟩⟩
   ·obtain⟨rfl,rfl⟩:=qV;simpa only[eR]using hr
   exact qV.elim
  left;exact zF ω
 ·obtain⟨ao,aH⟩:=kZ i b hi;obtain⟨bR,eQ⟩:=kZ j b aI;exact akC i j ao bR (r.dQ _ _ b aH eQ)
 ·have hlt:=ef i (H.LN hx);simp only[rW,if_pos hlt]at e;exact r.eI _ β e ((Sx (Nj i hlt)).2.1 hx)
 ·exact r.gH _ b (kZ i b aG).2
 by_cases hlt:i<ρ.length
 ·exact hlt
 simp only[rW,if_neg hlt]at e;cases e
def oQ(m:Nat):List H->Prop
 |[]=>True
 |x::xs=>hok m x/\oQ m xs
theorem aab{m:Nat}:∀{xs:List H},oQ m xs->∀x∈xs,hok m x
 |[],_,x,hx=>by cases hx
 |y::ys,h,x,hx=>by
  rcases rD.1 hx with rfl|hx
  ·exact h.1
  exact aab h.2 x hx
def yc(ρ:List Nat)(m:Nat):List V->Prop
 |[]=>True
 |v::vs=>(vsee ρ v v/\vok m v)/\yc ρ m vs
theorem aac{ρ:List Nat}{m:Nat}:∀{kv:List V},yc ρ m kv->∀v∈kv,vsee ρ v v/\vok m v
 |[],_,x,hx=>by cases hx
 |y::ys,h,x,hx=>by
  rcases rD.1 hx with rfl|hx
  ·exact h.1
  exact aac h.2 x hx
def lz(kv:List V)(ρ:List Nat)(σ σ':St):Prop:=
 ρ.Nodup/\vsees ρ σ'.tmps σ.tmps/\hsees ρ σ.heap ρ σ'.heap/\b3 σ'.heap.length σ'.tmps/\oQ σ'.heap.length σ'.heap/\yc ρ σ'.heap.length kv
theorem D0{B:Nat->Prop}{w0:World}{kv:List V}{kp:List (V×Value)}{σ σ':St}{a:Act}{w:World}{ρ:List Nat}(b':kp.map (·.1)=kv)(h:lz kv ρ σ σ')(r:fX B w0 kp σ a w):fX B w0 kp σ' a w:=by
 obtain⟨h1,h2,ao,aH,bR,eQ⟩:=h;exact akA ⟨h1,h2,ao⟩ aH (aab bR) (λp hp=>aac eQ p.1 (by rw[<-b'];exact aa_.2 ⟨p,hp,rfl⟩)) r
def cb(kv:List V)(body:St->(St->Prop)->Prop)(σ:St):Prop:=
 ∃(α:Type) (hJ:α->St) (k0:α->Nat) (im:α->Prop) (x:α) (ρ:List Nat),im x/\lz kv ρ σ (hJ x)/\∀x,im x->∃md,sZ (hJ x) md/\body md λσ'=>∃o3,sZ σ' o3/\∃y yP,im y/\k0 y<k0 x/\lz kv yP o3 (hJ y)
def codeE(P:Program)(kv:List V):Code->St->(St->Prop)->List (Nat×(St->Prop))->(St->Prop)->Prop
 |.skip,σ,K,_,_=>K σ
 |.region _ aQ false,σ,K,_,_=>opsE P kv aQ.toList aQ.toList σ K
 |.region _ aQ true,σ,K,_,_=>Gc P kv aQ σ K
 |.seq a b,σ,K,aw,dc=>codeE P kv a σ (λσ'=>codeE P kv b σ' K aw dc) aw dc
 |.cond c a b,σ,K,aw,dc=>evg true (σ.ev c) λv=>asB v λt=>AH t (codeE P kv a σ K aw dc) (codeE P kv b σ K aw dc)
 |.block id c,σ,K,aw,dc=>codeE P kv c σ K ((id,K)::aw) dc
 |.exit id,σ,_,aw,_=>outE aw id σ
 |.ret,σ,_,_,dc=>dc σ
 |.loop c,σ,_,aw,dc=>cb kv (λσ ik=>codeE P kv c σ ik aw dc) σ
 |_,_,_,_,_=>False
def aad(B:Nat->Prop)(w0:World)(kp:List (V×Value))(Q:Exit->Act->World->Prop)(aw:List (Nat×(St->Prop))):Prop:=
 ∀id σ a w,outE aw id σ->fX B w0 kp σ a w->Q (.exit id) a w
theorem akD(aQ:Array Oper):(pv aQ.size).map (aQ[·]?)=aQ.toList.map some:=by
 apply au_;intro i;simp only[ats,ac_];by_cases h:i<aQ.size
 ·simp[h]
 simp[h]
theorem JE{B:Nat->Prop}{w0:World}{kp:List (V×Value)}{kv:List V}(b':kp.map (·.1)=kv)(hm:P.follows .mixedOrders):∀(c:Code) (σ:St) (K:St->Prop) (aw:List (Nat×(St->Prop))) (dc:St->Prop) (Q:Exit->Act->World->Prop) (a:Act) (w:World),
  (∀σ a w,K σ->fX B w0 kp σ a w->Q .normal a w)->aad B w0 kp Q aw->(∀σ a w,dc σ->fX B w0 kp σ a w->Q .ret a w)->codeE P kv c σ K aw dc->fX B w0 kp σ a w->c.wp P Q a w:=by
 intro c
 induction c with
 |skip=>intro σ K aw dc Q a w cg _ _ h r;exact wp_skip (cg σ a w h r)
 |region id aQ akE=>
  intro σ K aw dc Q a w cg _ _ h r;cases akE
  ·exact wp_region (Zs b' cg _ _ σ a w (akD aQ) h r)
  exact aiQ b' hm cg h r
 |seq x y Sz SA=>
  intro σ K aw dc Q a w cg dm a1 h r;refine wp_seq (Sz σ _ aw dc _ a w (λσ' a' w' h' dR=>?_) (λid σ' a' w' h' dR=>dm id σ' a' w' h' dR) (λσ' a' w' h' dR=>a1 σ' a' w' h' dR) h r);exact SA σ' K aw dc Q a' w' cg dm a1 h' dR
 |cond c x y Sz SA=>
  intro σ K aw dc Q a w cg dm a1 h r;simp only[codeE]at h;obtain⟨v,h,hv⟩:=hX h;obtain⟨t,rfl,h⟩:=M7 h;obtain⟨a0,φ,r0,bD⟩:=r;have hc:=pw (hv _ _ _ _ rfl (Ce r0 c));refine wp_cond hc ?_;cases t
  ·exact SA σ K aw dc Q a w cg dm a1 (h.2 rfl) ⟨a0,φ,r0,bD⟩
  exact Sz σ K aw dc Q a w cg dm a1 (h.1 rfl) ⟨a0,φ,r0,bD⟩
 |block id c c_=>
  intro σ K aw dc Q a w cg dm a1 h r;simp only[codeE]at h;refine wp_block (c_ σ K ((id,K)::aw) dc _ a w (λσ' a' w' h' dR=>cg σ' a' w' h' dR) (λrO σ' a' w' h' dR=>?_) (λσ' a' w' h' dR=>a1 σ' a' w' h' dR) h r);simp only[outE]at h';simp only[Exit.inBlock];by_cases hi:rO=id
  ·rw[if_pos hi];rw[if_pos hi]at h';exact cg σ' a' w' h' dR
  rw[if_neg hi];rw[if_neg hi]at h';exact dm rO σ' a' w' h' dR
 |exit id=>intro σ K aw dc Q a w _ dm _ h r;exact wp_exit (dm id σ a w h r)
 |ret=>intro σ K aw dc Q a w _ _ a1 h r;exact wp_ret (a1 σ a w h r)
 |loop c c_=>
  intro σ K aw dc Q a w cg dm a1 h r;simp only[codeE,cb]at h;obtain⟨α,hJ,k0,im,x,ρ,hp,hs,Eu⟩:=h;refine wp_loop_ghost (λn a w=>∃x,im x/\k0 x=n/\fX B w0 kp (hJ x) a w) (k0 x) ⟨x,hp,rfl,D0 b' hs r⟩ ?_;rintro n a w ⟨x,hp,rfl,r⟩;obtain⟨md,JF,akF⟩:=Eu x hp;refine c_ md _ aw dc _ a w (λσ' a' w' h' dR=>?_) (λid σ' a' w' h' dR=>dm id σ' a' w' h' dR) (λσ' a' w' h' dR=>a1 σ' a' w' h' dR) akF (GD JF r);obtain⟨o3,SB,y,yP,h1,h2,ao⟩:=h';exact⟨k0 y,h2,y,h1,rfl,D0 b' ao (GD SB dR)⟩
 |_=>intro σ K aw dc Q a w _ _ _ h;exact h.elim
def AD.xL:AD->V
 |.one d=>.d d
 |.agg ds=>.agg (ds.map V.d)
def rvE(P:Program)(σ:St)(r:ResultVar)(K:V->Prop):Prop:=
 match r with
 |.tmp t=>K (σ.ev (.tmp t))
 |.cell a T=>evg true (σ.ev (.tmp a)) λv=>withR (loadE P σ.heap T v) K
def rvsE(P:Program)(σ:St):List ResultVar->(List V->Prop)->Prop
 |[],K=>K []
 |r::rs,K=>rvE P σ r λv=>rvsE P σ rs λvs=>K (v::vs)
def outOA(r:Option (List AD×List Nat))(res:List AD):Prop:=match r with|some (as,cH)=>cH.Nodup/\as=res|none=>False
def ij(P:Program)(rs:List ResultVar)(res:List AD)(σ:St):Prop:=rvsE P σ rs λvs=>outOA (toOAs σ.heap vs) res
section
variable {B:Nat->Prop} {w0:World} {a0:Nat->Prop} {φ:c5} {kp:List (V×Value)} {a:Act} {w:World} {σ:St}
def Nk(tmps:Array Value)(x:ResultVar):Sem Value:=
 match x with
 |.tmp t=>pure (tmps.getD t undef)
 |.cell b t=>do loadVar t (<-asAddr (tmps.getD b undef))
theorem SC(fn:Func)(tmps:Array Value):results fn tmps=(do
  let vs <-fn.results.mapM (Nk tmps)
  pure (if h:vs.size=1 then vs[0]else .tuple vs)):=rfl
theorem akG(r:R B w0 a0 φ σ kp a w){x:ResultVar}{K:V->Prop}(h:rvE P σ x K):∃v u,K v/\VRel φ (dq φ σ.heap) w.heap v u/\
  (Nk a.tmps x).run P w=.ok u w:=by
 unfold rvE at h;split at h
 ·rename_i t;exact⟨_,_,h,Ce r (.tmp t),rfl⟩
 rename_i b T;obtain⟨m6,h,hx⟩:=hX h;obtain⟨p,v,ah,hp,cg⟩:=CR h;obtain⟨fz,f,u,hu,hl,hv⟩:=Z3 (St.le.refl σ) r ah hp (hx _ _ _ _ rfl (Ce r (.tmp b)));refine⟨v,u,cg,hv,?_⟩;simp only[Act.eval]at hu;simp only[Nk,Sem.run_bind,hu,asAddr];simp[hl]
theorem Nl(r:R B w0 a0 φ σ kp a w):∀(xs:List ResultVar) (K:List V->Prop),rvsE P σ xs K->∃vs us,K vs/\VRels φ (dq φ σ.heap) w.heap vs us/\
  (xs.mapM (Nk a.tmps)).run P w=.ok us w
 |[],K,h=>⟨[],[],h,by simp[VRels],by simp⟩
 |x::xs,K,h=>by
  simp only[rvsE]at h;obtain⟨v,u,h,hv,hu⟩:=akG r h;obtain⟨vs,us,h,qj,yU⟩:=Nl r xs _ h;refine⟨v::vs,u::us,h,by simp only[VRels];exact⟨u,us,rfl,hv,qj⟩,?_⟩;rw[List.mapM_cons];simp only[Sem.run_bind,hu,Result.andThen_ok,yU,Sem.run_pure]
theorem SD{fn:Func}(r:R B w0 a0 φ σ kp a w){res:List AD}(h:ij P fn.results.toList res σ):∃v F,(results fn a.tmps).run P w=.ok v w/\trep w.heap true res v F/\F.Nodup/\∀b∈F,B b/\b<w.heap.size:=by
 obtain⟨vs,us,h,hv,hu⟩:=Nl r _ _ h;unfold outOA at h;split at h
 ·rename_i as cH aG;obtain⟨hn,rfl⟩:=h;obtain⟨F,dG,e9,f3⟩:=Y_ r vs as cH us aG hn hv;refine⟨if h:us.length=1 then us[0]else .tuple us.toArray,F,?_,?_,e9,λb hb=>?_⟩
  ·rw[SC,atO];simp only[Sem.run_bind,Sem.run_map,hu];simp only[Result.andThen,arQ,Sem.run_pure];split<;>simp_all
  ·have hl:us.length=as.length:=by
    clear hu hv aG e9 f3 h
    induction as generalizing us F with
    |nil=>simp only[areps]at dG;simp[dG.1]
    |cons d ds c_=>
     simp only[areps]at dG;obtain⟨u,c6,j9,iT,rfl,rfl,aZ,bA⟩:=dG;simp[c_ c6 iT bA]
   unfold trep;split
   ·rename_i x;simp only[areps]at dG;obtain⟨u,c6,j9,iT,rfl,rfl,aZ,bA,rfl⟩:=dG;subst bA;simpa using aZ
   rename_i hne;refine⟨us.toArray,?_,dG⟩;rw[dif_neg];intro h1;rw[hl]at h1;obtain⟨x,hx⟩:=auh.1 h1;exact hne x hx
  ·obtain⟨id,_,aG⟩:=f3 b hb;exact⟨r.gH id b aG,d_.lt r aG⟩
 exact h.elim
end
mutual
def dOk:D->Prop
 |.int k n=>k.min<=n/\n<=k.max
 |.bool _=>True
 |.str s=>s.length<=maxLen
 |.AX _=>True
 |.sl _ xs=>xs.length<=maxLen/\eOk xs
def cOk:List D->Prop
 |[]=>True
 |d::ds=>dOk d/\cOk ds
def eOk:List (List D)->Prop
 |[]=>True
 |c::cs=>cOk c/\eOk cs
end
mutual
theorem SE{h:Array Obj}{o:Bool}:∀(d:D) (u:Value) (F:List Nat),rep h o d u F->dOk d
 |.int k n,u,F,r=>by simp only[rep]at r;simp only[dOk];exact r.2.2
 |.bool b,u,F,r=>by simp only[dOk]
 |.str s,u,F,r=>by simp only[rep]at r;simp only[dOk];exact r.2.2
 |.AX v,u,F,r=>by simp only[dOk]
 |.sl sz xs,u,F,r=>by
  simp only[rep]at r;obtain⟨a,c,h1,h2,ao,aH⟩:=r;simp only[dOk];refine⟨by omega,?_⟩;rcases aH with ⟨rfl,_⟩|⟨b,f,G,ak,ar,a4,bP,di⟩
  ·simp[eOk]
  exact aae xs b f sz G bP
theorem aaf{h:Array Obj}{o:Bool}:∀(ds:List D) (b f:Nat) (G:List Nat),repC h o b f ds G->cOk ds
 |[],_,_,_,_=>by simp[cOk]
 |d::ds,b,f,G,r=>by
  simp only[repC]at r;obtain⟨v,cE,cw,_,_,a4,bP⟩:=r;simp only[cOk];exact⟨SE d v cE a4,aaf ds b (f+1) cw bP⟩
theorem aae{h:Array Obj}{o:Bool}:∀(cs:List (List D)) (b f sz:Nat) (G:List Nat),repE h o b f sz cs G->eOk cs
 |[],_,_,_,_,_=>by simp[eOk]
 |c::cs,b,f,sz,G,r=>by
  simp only[repE]at r;obtain⟨cE,cw,_,_,a4,bP⟩:=r;simp only[eOk];exact⟨aaf c b f cE a4,aae cs b (f+sz) sz cw bP⟩
end
def akH:AD->Prop
 |.one d=>dOk d
 |.agg ds=>cOk ds
def yC:List AD->Prop
 |[]=>True
 |a::as=>akH a/\yC as
theorem Nm{h:Array Obj}{o:Bool}:∀(as:List AD) (us:List Value) (F:List Nat),areps h o as us F->yC as
 |[],_,_,_=>trivial
 |a::as,us,F,r=>by
  simp only[areps]at r;obtain⟨u,c6,j9,iT,rfl,rfl,aZ,bA⟩:=r;refine⟨?_,Nm as c6 iT bA⟩
  cases a with
  |one d=>exact SE d u j9 aZ
  |agg ds=>
   obtain⟨vs,_,aZ⟩:=aZ;have:∀(ds:List D) (us:List Value) (F:List Nat),reps h o ds us F->cOk ds:=by
    intro ds
    induction ds with
    |nil=>intro _ _ _;simp[cOk]
    |cons d ds c_=>
     intro us F r;simp only[reps]at r;obtain⟨u,c6,j9,iT,rfl,rfl,aZ,bA⟩:=r;simp only[cOk];exact⟨SE d u j9 aZ,c_ c6 iT bA⟩
   exact this ds _ _ aZ
theorem Q_:∀{ds:List D},cOk ds->∀d∈ds,dOk d
 |[],_,d,hd=>by cases hd
 |x::xs,h,d,hd=>by
  simp only[cOk]at h;rcases rD.1 hd with rfl|hd
  ·exact h.1
  exact Q_ h.2 d hd
theorem PT:∀{ds:List (List D)},eOk ds->∀d∈ds,cOk d
 |[],_,d,hd=>by cases hd
 |x::xs,h,d,hd=>by
  simp only[eOk]at h;rcases rD.1 hd with rfl|hd
  ·exact h.1
  exact PT h.2 d hd
theorem SF{w:World}{args:List AD}{us:List Value}{F:List Nat}(hg:GOk w.heap)(h:areps w.heap false args us F)(m:Nat)(kp:List (V×Value))(JD:∀p∈kp,∀φ T,VRel φ T w.heap p.1 p.2) :
  fX (λb=>w.heap.size<=b) w kp ⟨args.map AD.xL++ea m .an,[]⟩ ⟨us.toArray++atS m undef,[]⟩ w:=by
 have Ev:∀b,dq (λ_=>none) [] b:=λb i β e=>by cases e
 refine⟨λ_=>False,λ_=>none,⟨?_,λp hp=>(e7.1 hp).elim (aj3 hg (λ_ _=>Ev _) p) (λhp=>JD p hp _ _),λi=>.inl (zF ξ),λi j b hi=>?_,λi β e=>(by cases e),λi b hi=>?_,λi β e=>(by cases e),Bel.refl _ _,λk hk=>hk,rfl,λp hp hb=>by have:=(hg.1 p hp).1;omega,hg.2⟩,λi hi=>hi.elim⟩
 ·have akI:∀(ds:List D) (us:List Value) (F:List Nat),reps w.heap false ds us F->VRels (λ_=>none) (dq (λ_=>none) []) w.heap (ds.map V.d) us:=by
   intro ds
   induction ds with
   |nil=>intro us F r;simp only[reps]at r;simp[VRels,r.1]
   |cons d ds c_=>
    intro us F r;simp only[reps]at r;obtain⟨u,c6,j9,iT,rfl,rfl,aZ,bA⟩:=r;simp only[fe,VRels,VRel];exact⟨u,c6,rfl,⟨j9,aZ,λb _=>Ev b⟩,c_ c6 iT bA⟩
  have hargs:∀(args:List AD) (us:List Value) (F:List Nat),areps w.heap false args us F->VRels (λ_=>none) (dq (λ_=>none) []) w.heap (args.map AD.xL) us:=by
   intro args
   induction args with
   |nil=>intro us F r;simp only[areps]at r;simp[VRels,r.1]
   |cons d ds c_=>
    intro us F r;simp only[areps]at r;obtain⟨u,c6,j9,iT,rfl,rfl,aZ,bA⟩:=r;simp only[fe,VRels];refine⟨u,c6,rfl,?_,c_ c6 iT bA⟩
    cases d with
    |one d=>simp only[AD.xL,VRel];exact⟨j9,aZ,λb _=>Ev b⟩
    |agg ds=>
     obtain⟨vs,rfl,aZ⟩:=aZ;simp only[AD.xL,VRel];exact⟨vs,rfl,akI ds _ _ aZ⟩
  have:=GG (hargs args us F h) (R7 (φ:=λ_=>none) (T:=dq (λ_=>none) []) (h:=w.heap) (v:=.an) (u:=undef) (by simp[VRel]) m);simpa using this
 ·obtain⟨β,e,_⟩:=hi;cases e
 obtain⟨β,e,_⟩:=hi;cases e
theorem akJ{f:FuncId}{fn:Func}{c:Code}{args res:List AD}(hf:P.funcs[f]?=some fn)(hb:fn.body=some c)(hcall:∀(args:Array Value) (w:World),(callFunc f args).run P w=.ok (.enter f args) w)(hm:P.follows .mixedOrders){m:Nat}(hn:fn.ntmps-args.length=m)
  {rs:List ResultVar} (hr:fn.results.toList=rs) (h0:yC args->codeE P [] c ⟨args.map AD.xL++ea m .an,[]⟩ (ij P rs res) [] (ij P rs res)):PureCall P f args res:=by
 intro w us F hg ha;have h:=h0 (Nm _ _ _ ha);clear h0;subst hr;have fU:us.length=args.length:=by
  clear h hn
  induction args generalizing us F with
  |nil=>simp only[areps]at ha;simp[ha.1]
  |cons d ds c_=>
   simp only[areps]at ha;obtain⟨u,c6,j9,iT,rfl,rfl,aZ,bA⟩:=ha;simp[c_ c6 iT bA]
 have aS:∀(σ:St) (a:Act) (w':World),ij P fn.results.toList res σ->fX (λb=>w.heap.size<=b) w [] σ a w'->a.defers=[]/\∃v,(results fn a.tmps).run P w'=.ok v w'/\
   ∃F',Bel (λb=>w.heap.size<=b) w w'/\trep w'.heap true res v F'/\F'.Nodup/\∀b∈F',w.heap.size<=b:=by
  rintro σ a w' Bh ⟨a0,φ,r,_⟩;obtain⟨v,F',h1,h2,ao,aH⟩:=SD r Bh;exact⟨r.pg,v,h1,F',r.hR,h2,ao,λb hb=>(aH b hb).1⟩
 refine Does.enter (hcall _ _) (calls_of_wp hf hb ?_);refine JE (B:=λb=>w.heap.size<=b) (w0:=w) (kp:=[]) (kv:=[]) rfl hm c _ (ij P fn.results.toList res) [] (ij P fn.results.toList res) _ _ w (λσ a w' h' dR=>?_) (λid σ a w' h' _=>h'.elim) (λσ a w' h' dR=>?_) h ?_
 ·exact aS σ a w' h' dR
 ·exact aS σ a w' h' dR
 have:=SF hg ha m [] ξ;have hs:us.toArray.size=args.length:=by rw[arQ,fU]
 rw[hs,hn];exact this
theorem ajL{f:FuncId}{fn:Func}{c:Code}{args res:List AD}(hf:P.funcs[f]?=some fn)(hb:fn.body=some c)(hcall:∀(args:Array Value) (w:World),(callFunc f args).run P w=.ok (.enter f args) w)(hm:P.follows .mixedOrders){ts:List V}
  (hn:args.map AD.xL++ea (fn.ntmps-args.length) .an=ts) {rs:List ResultVar} (hr:fn.results.toList=rs) (h:yC args->codeE P [] c ⟨ts,[]⟩ (ij P rs res) [] (ij P rs res)):PureCall P f args res:=
 akJ hf hb hcall hm rfl hr (by rw[hn];exact h)
def ZC(r:Option (List AD×List Nat))(res:List AD):Prop:=r=some (res,[])
theorem SG{h:Array Obj}{o:Bool}:∀(args:List AD) (us:List Value) (F:List Nat) (n:Nat),areps h o args us F->us.length=args.length/\(aVs args n).length=args.length
 |[],us,F,n,r=>by simp only[areps]at r;simp[r.1,aVs]
 |d::ds,us,F,n,r=>by
  simp only[areps]at r;obtain⟨u,c6,j9,iT,rfl,rfl,aZ,bA⟩:=r;obtain⟨h1,h2⟩:=SG ds c6 iT (n+(I7 d).length) bA;simp[aVs,h1,h2]
def tupV(vs:List V):V:=match vs with|[v]=>v|vs=>.e8 vs
def yQ(P:Program)(rs:List ResultVar)(K:V->List H->Prop)(σ:St):Prop:=rvsE P σ rs λvs=>K (tupV vs) σ.heap
theorem aag{φ:c5}{T:Nat->Prop}{h:Array Obj}{vs:List V}{us:List Value}(r:VRels φ T h vs us):VRel φ T h (tupV vs) (if hl:us.length=1 then us[0]else .tuple us.toArray):=by
 have hl:=mG _ _ r;unfold tupV;split
 ·rename_i v;simp only[VRels]at r;obtain⟨u,c6,rfl,aZ,bA⟩:=r;subst bA;simpa using aZ
 rename_i hne;rw[dif_neg (λe=>by
  rw[hl]at e;obtain⟨x,hx⟩:=auh.1 e;exact hne x hx)]
 simp only[VRel];exact⟨_,rfl,r⟩
theorem ajM{f:FuncId}{fn:Func}{c:Code}{kv:List V}{hs:List H}{vs:List V}{K:V->List H->Prop}(hf:P.funcs[f]?=some fn)(hb:fn.body=some c)(hcall:∀(args:Array Value) (w:World),(callFunc f args).run P w=.ok (.enter f args) w)(hm:P.follows .mixedOrders){ts:List V}
  (hn:vs++ea (fn.ntmps-vs.length) .an=ts) {rs:List ResultVar} (hr:fn.results.toList=rs) (h:codeE P kv c ⟨ts,hs⟩ (yQ P rs K) [] (yQ P rs K)):et P f kv hs vs K:=by
 intro B w0 kp us w b' a1;subst hr;subst hn;have fU:us.length=vs.length:=by
  obtain⟨a0,φ,r,_⟩:=a1;have:=mG _ _ r.jA;simpa using this
 have aS:∀(σ:St) (a:Act) (w':World),yQ P fn.results.toList K σ->fX B w0 kp σ a w'->a.defers=[]/\∃v,(results fn a.tmps).run P w'=.ok v w'/\
   ∃x hs',K x hs'/\fX B w0 kp ⟨[x],hs'⟩ ⟨#[v],[]⟩ w':=by
  rintro σ a w' Bh ⟨a0,φ,r,bD⟩;obtain⟨xs,jW,b5,hv,hu⟩:=Nl r _ _ Bh;refine⟨r.pg,if h:jW.length=1 then jW[0]else .tuple jW.toArray,?_,_,_,b5,a0,φ,⟨?_,r.kp,r.hp,r.dQ,r.eI,r.gH,r.iS,r.hR,r.bs,rfl,r.np⟩,bD⟩
  ·rw[SC,atO];simp only[Sem.run_bind,Sem.run_map,hu];simp only[Result.andThen,arQ,Sem.run_pure];split<;>simp_all
  simp only[VRels];exact⟨_,_,rfl,aag hv,rfl⟩
 refine Does.enter (hcall _ _) (calls_of_wp hf hb ?_);refine JE (B:=B) (w0:=w0) (kp:=kp) (kv:=kv) b' hm c _ (yQ P fn.results.toList K) [] (yQ P fn.results.toList K) _ _ w (λσ a w' h' dR=>?_) (λid σ a w' h' _=>h'.elim) (λσ a w' h' dR=>?_) h ?_
 ·exact aS σ a w' h' dR
 ·exact aS σ a w' h' dR
 obtain⟨a0,φ,r,bD⟩:=a1;have hs':us.toArray.size=vs.length:=by rw[arQ,fU]
 refine⟨a0,φ,⟨?_,r.kp,r.hp,r.dQ,r.eI,r.gH,r.iS,r.hR,r.bs,rfl,r.np⟩,bD⟩;have:=GG r.jA (R7 (φ:=φ) (T:=dq φ hs) (h:=w.heap) (v:=.an) (u:=undef) (by simp[VRel]) (fn.ntmps-vs.length));rw[hs'];simpa using this
theorem et.mono{f:FuncId}{kv:List V}{hs:List H}{vs:List V}{K ik:V->List H->Prop}(h:et P f kv hs vs K)(hk:∀x hs',K x hs'->ik x hs'):et P f kv hs vs ik:=by
 intro B w0 kp us w b' a1;exact(h B w0 kp us w b' a1).mono λv w' ⟨x,hs',h1,h2⟩=>⟨x,hs',hk x hs' h1,h2⟩
variable {P:Program}
inductive yO{α:Type}(a:α):Type where
 |mk
theorem dg{a b:Prop}(h:a=b):a=b:=h
def b1{α:Type}(K:α->Prop)(_:yO K):α->Prop:=K
def CK(lD:Prop)(_:yO lD):Prop:=lD
def n_{α β:Type}(K:α->β->Prop)(_:yO K):α->β->Prop:=K
@[go_sem] theorem au9{α:Type}(K:α->Prop)(s:yO K)(x:α):b1 K s x=K x:=dg rfl
@[go_sem] theorem ava{α β:Type}(K:α->β->Prop)(s:yO K)(x:α)(y:β):n_ K s x y=K x y:=dg rfl
section
variable {g:Bool} {K:V->Prop}
@[go_sem] theorem avb(x:D):evg g (.d x) K=K (.d x):=dg rfl
@[go_sem] theorem avc(s:Nat):evg g (.eg s) K=K (.eg s):=dg rfl
@[go_sem] theorem avd(vs:List V):evg g (.agg vs) K=K (.agg vs):=dg rfl
@[go_sem] theorem ave(a b c:Nat):evg g (.ptr a b c) K=K (.ptr a b c):=dg rfl
@[go_sem] theorem avf(a:List D)(b:Nat):evg g (.gF a b) K=K (.gF a b):=dg rfl
@[go_sem] theorem avg(a b c:Nat):evg g (.sl a b c) K=K (.sl a b c):=dg rfl
@[go_sem] theorem avh(a:FuncId)(b:List V):evg g (.fn a b) K=K (.fn a b):=dg rfl
@[go_sem] theorem avi(a:List V):evg g (.e8 a) K=K (.e8 a):=dg rfl
@[go_sem] theorem avj(c:Bool)(v:V):evg g (.b9 c v) K=((g->c=true)/\K v):=dg rfl
@[go_sem] theorem avk:evg g .an K=K .an:=dg rfl
end
@[go_sem] theorem avl(b:Bool)(K:Bool->Prop):asB (.d (.bool b)) K=K b:=dg rfl
@[go_sem] theorem avm(k:IntKind)(n:Int)(K:IntKind->Int->Prop):asI (.d (.int k n)) K=K k n:=dg rfl
@[go_sem] theorem avn(p:Prop)(v:V)(K:V->Prop):withR (some (p,v)) K=(p/\K v):=dg rfl
@[go_sem] theorem avo(v:V)(K:V->Prop):withO (some v) K=K v:=dg rfl
@[go_sem] theorem avp(p:Prop)(r:fL)(K:fL->Prop):yL (some (p,r)) K=(p/\K r):=dg rfl
@[go_sem] theorem avq(n:Nat)(K:Nat->Prop):RM (some n) K=K n:=dg rfl
@[go_sem] theorem avr(lD B:Prop)(s:yO lD):AH true (CK lD s) B=lD:=by simp[AH,CK]
@[go_sem] theorem avs(lD B:Prop)(s:yO B):AH false lD (CK B s)=B:=by simp[AH,CK]
@[go_sem] theorem avt(n:Nat):ea (n+1) V.an=V.an::ea n V.an:=rfl
def nth:List V->Nat->V
 |[],_=>.an
 |v::_,0=>v
 |_::vs,n+1=>nth vs n
theorem Zw:∀(vs:List V) (n:Nat),vs.getD n .an=nth vs n
 |[],n=>by simp[nth]
 |v::vs,0=>by simp[nth]
 |v::vs,n+1=>by simpa [nth]using Zw vs n
@[go_sem] theorem avu(v:V)(vs:List V):nth (v::vs) 0=v:=rfl
@[go_sem] theorem avv(v:V)(vs:List V)(n:Nat):nth (v::vs) (n+1)=nth vs n:=rfl
@[go_sem] theorem avw(ts:List V)(hs:List H)(t:Nat):St.ev ⟨ts,hs⟩ (.tmp t)=nth ts t:=Zw ts t
@[go_sem] theorem avx(σ:St)(v:Value):σ.ev (.const v)=ofVal v:=rfl
@[go_sem] theorem avy(σ:St)(f:FuncId):σ.ev (.func f)=.fn f []:=rfl
@[go_sem] theorem avz(n:Int):ofVal (.int .i64 n)=if -9223372036854775808<=n/\n<=9223372036854775807 then .d (.int .i64 n)else .an:=by
 have h1:arV.min=-9223372036854775808:=by decide
 have h2:arV.max=9223372036854775807:=by decide
 simp only[ofVal,MY,h1,h2,bm,bH]
@[go_sem] theorem avA(n:Int):ofVal (.int .u8 n)=if 0<=n/\n<=255 then .d (.int .u8 n)else .an:=by
 have h1:aso.min=0:=by decide
 have h2:aso.max=255:=by decide
 simp only[ofVal,MY,h1,h2,bm,bH]
theorem Zx{n:Nat}(h:n<=1000000):n<=maxLen:=by simp only[maxLen];omega
@[go_sem] theorem avB(l:List UInt8)(h:l.length<=1000000):ofVal (.string ⟨l.toArray⟩)=.d (.str l):=by
 have:=Zx h;simp[ofVal,this]
@[go_sem] theorem avC(b:Bool):ofVal (.bool b)=.d (.bool b):=rfl
@[go_sem] theorem avD:ofVal (.slice none 0 0)=.eg 0:=rfl
@[go_sem] theorem F4(x:H)(hs:List H):a6 (x::hs) 0=x:=rfl
@[go_sem] theorem F5(x:H)(hs:List H)(n:Nat):a6 (x::hs) (n+1)=a6 hs n:=by simp[a6]
@[go_sem] theorem avE(n:Nat):a6 [] n=.ek:=by simp[a6]
@[go_sem] theorem avF(x:H):cF [] 0 x=[x]:=rfl
@[go_sem] theorem avG(n:Nat)(x:H):cF [] (n+1) x=.ek::cF [] n x:=by
 unfold cF;simp[atu]
@[go_sem] theorem ag4(y:H)(ys:List H)(x:H):cF (y::ys) 0 x=x::ys:=by
 unfold cF;simp
@[go_sem] theorem ag3(y:H)(ys:List H)(n:Nat)(x:H):cF (y::ys) (n+1) x=y::cF ys n x:=by
 unfold cF;by_cases h:n<ys.length
 ·simp[h]
 simp[h]
@[go_sem] theorem avH(hs:List H)(n:Nat):hnew hs n []=hs:=rfl
@[go_sem] theorem avI(hs:List H)(n:Nat)(x:H)(xs:List H):hnew hs n (x::xs)=hnew (cF hs n x) (n+1) xs:=rfl
@[go_sem] theorem avJ(hs:List H):hupd hs []=hs:=rfl
@[go_sem] theorem avK(hs:List H)(i:Nat)(x:H)(r:List (Nat×H)):hupd hs ((i,x)::r)=hupd (cF hs i x) r:=rfl
@[go_sem] theorem avL(ts:List V)(hs:List H)(d:Tmp)(n:Nat)(v:V):St.d7 ⟨ts,hs⟩ (some d) n (dr v)=⟨ts.set d v,hs⟩:=rfl
@[go_sem] theorem avM(ts:List V)(hs:List H)(n:Nat)(v:V):St.d7 ⟨ts,hs⟩ none n (dr v)=⟨ts,hs⟩:=rfl
@[go_sem] theorem avN(ts:List V)(hs:List H)(d:Tmp)(n:Nat)(v:V)(new:List H)(upd:List (Nat×H)):St.d7 ⟨ts,hs⟩ (some d) n ⟨v,new,upd⟩=⟨ts.set d v,hupd (hnew hs n new) upd⟩:=rfl
@[go_sem] theorem avO(ts:List V)(hs:List H)(n:Nat)(v:V)(new:List H)(upd:List (Nat×H)):St.d7 ⟨ts,hs⟩ none n ⟨v,new,upd⟩=⟨ts,hupd (hnew hs n new) upd⟩:=rfl
@[go_sem] theorem avP(v w:V)(vs:List V):(v::vs).set 0 w=w::vs:=rfl
@[go_sem] theorem avQ(v w:V)(vs:List V)(n:Nat):(v::vs).set (n+1) w=v::vs.set n w:=rfl
section
variable {kv:List V} {σ:St} {K:St->Prop} {aw:List (Nat×(St->Prop))} {dc:St->Prop}
@[go_sem] theorem avR:codeE P kv .skip σ K aw dc=K σ:=dg rfl
@[go_sem] theorem avS(id:Nat)(aQ:List Oper):codeE P kv (.region id aQ.toArray false) σ K aw dc=opsE P kv aQ aQ σ K:=by simp[codeE]
@[go_sem] theorem avT(id:Nat)(aQ:Array Oper):codeE P kv (.region id aQ true) σ K aw dc=Gc P kv aQ σ K:=dg rfl
@[go_sem] theorem ajJ(a b:Code):codeE P kv (.seq a b) σ K aw dc=codeE P kv a σ (b1 (λσ'=>codeE P kv b σ' K aw dc) .mk) aw dc:=dg rfl
@[go_sem] theorem avU(c:Operand)(a b:Code):codeE P kv (.cond c a b) σ K aw dc=evg true (σ.ev c) (b1 (λv=>asB v (b1 (λt=>AH t (CK (codeE P kv a σ K aw dc) .mk) (CK (codeE P kv b σ K aw dc) .mk)) .mk)) .mk):=dg rfl
@[go_sem] theorem avV(id:Nat)(c:Code):codeE P kv (.block id c) σ K aw dc=codeE P kv c σ K ((id,K)::aw) dc:=dg rfl
@[go_sem] theorem avW(id:Nat):codeE P kv (.exit id) σ K aw dc=outE aw id σ:=dg rfl
@[go_sem] theorem avX:codeE P kv .ret σ K aw dc=dc σ:=dg rfl
@[go_sem] theorem avY(c:Code):codeE P kv (.loop c) σ K aw dc=cb kv (n_ (λσ ik=>codeE P kv c σ ik aw dc) .mk) σ:=dg rfl
@[go_sem] theorem avZ(id:Nat):outE [] id σ=False:=dg rfl
@[go_sem] theorem av0(i:Nat)(id:Nat):outE ((i,K)::aw) id σ=if id=i then K σ else outE aw id σ:=dg rfl
end
section
variable {σ:St} {aQ:List Oper} {n:Nat} {K:fL->Prop}
@[go_sem] theorem av1(kv:List V)(K:St->Prop):opsE P kv aQ [] σ K=K σ:=dg rfl
@[go_sem] theorem av2(kv:List V)(o:Oper)(bM:List Oper)(K:St->Prop):opsE P kv aQ (o::bM) σ K=yo P kv aQ σ o (b1 (λσ'=>opsE P kv aQ bM σ' K) .mk):=dg rfl
@[go_sem] theorem av3(dst:Option Tmp)(op:Op)(T:TypeId)(ec:String)(after:Array Edge)(K:fL->Prop):stepE P aQ σ n ⟨dst,op,T,ec,after,none⟩ K=opE P true σ n ⟨dst,op,T,ec,after,none⟩ K:=dg rfl
end
@[go_sem] theorem av4(b mH:Bool)(K:Bool->Prop):CF (.d (.bool b)) mH K=K (b == mH):=dg rfl
@[go_sem] theorem av5(c b mH:Bool)(K:Bool->Prop):CF (.b9 c (.d (.bool b))) mH K=K (c&&(b == mH)):=dg rfl
@[go_sem] theorem av6(d:Tmp)(op:Op)(T:TypeId)(ec:String)(after:Array Edge)(g:Option (Nat×Bool))(aQ:List Oper)(K:Tmp->Prop):zX (⟨some d,op,T,ec,after,g⟩::aQ) 0 K=K d:=dg rfl
@[go_sem] theorem av7(o:Oper)(aQ:List Oper)(j:Nat)(K:Tmp->Prop):zX (o::aQ) (j+1) K=zX aQ j K:=by simp[zX]
@[go_sem] theorem av8{σ:St}{aQ:List Oper}{n:Nat}(dst:Option Tmp)(op:Op)(T:TypeId)(ec:String)(after:Array Edge)(j:Nat)(mH:Bool)(K:fL->Prop) :
  stepE P aQ σ n ⟨dst,op,T,ec,after,some (j,mH)⟩ K=zX aQ j (b1 (λd=>CF (σ.ev (.tmp d)) mH (b1 (λg=>xH P g σ n ⟨dst,op,T,ec,after,some (j,mH)⟩ K) .mk)) .mk):=by
 unfold stepE zX b1;simp only;cases h:(aQ[j]?).bind (·.dst)with
 |none=>rfl
 |some d=>
  simp only;generalize σ.ev (.tmp d)=v;unfold CF
  cases v with
  |d x=>cases x<;>rfl
  |b9 c v=>cases v with
   |d x=>cases x<;>rfl
   |_=>rfl
  |_=>rfl
section
variable {kv:List V} {σ:St} {aQ:List Oper} {dst:Option Tmp} {T:TypeId} {ec:String} {after:Array Edge} {K:St->Prop}
@[go_sem] theorem av9(op:Op)(j:Nat)(mH:Bool):yo P kv aQ σ ⟨dst,op,T,ec,after,some (j,mH)⟩ K=zX aQ j (b1 (λd=>CF (σ.ev (.tmp d)) mH (b1 (λg=>Ba P kv g σ ⟨dst,op,T,ec,after,some (j,mH)⟩ K) .mk)) .mk):=dg rfl
@[go_sem] theorem awa(op:Op):yo P kv aQ σ ⟨dst,op,T,ec,after,none⟩ K=bareE P kv σ ⟨dst,op,T,ec,after,none⟩ K:=dg rfl
@[go_sem] theorem awb(x:Operand)(b9:Option (Nat×Bool)):bareE P kv σ ⟨dst,.move x,T,ec,after,b9⟩ K=opE P true σ σ.heap.length ⟨dst,.move x,T,ec,after,b9⟩ (b1 (λr=>K (σ.d7 dst σ.heap.length r)) .mk):=dg rfl
@[go_sem] theorem awc(x:Operand)(b9:Option (Nat×Bool)):bareE P kv σ ⟨dst,.assign x,T,ec,after,b9⟩ K=opE P true σ σ.heap.length ⟨dst,.assign x,T,ec,after,b9⟩ (b1 (λr=>K (σ.d7 dst σ.heap.length r)) .mk):=dg rfl
@[go_sem] theorem awd(c x y:Operand)(b9:Option (Nat×Bool)):bareE P kv σ ⟨dst,.pick c x y,T,ec,after,b9⟩ K=opE P true σ σ.heap.length ⟨dst,.pick c x y,T,ec,after,b9⟩ (b1 (λr=>K (σ.d7 dst σ.heap.length r)) .mk):=dg rfl
@[go_sem] theorem awe(op:BinOp)(U Zy:TypeId)(x y:Operand)(b9:Option (Nat×Bool)):bareE P kv σ ⟨dst,.binOp op U x y Zy,T,ec,after,b9⟩ K=opE P true σ σ.heap.length ⟨dst,.binOp op U x y Zy,T,ec,after,b9⟩ (b1 (λr=>K (σ.d7 dst σ.heap.length r)) .mk):=dg rfl
@[go_sem] theorem awf(op:UnOp)(U:TypeId)(x:Operand)(b9:Option (Nat×Bool)):bareE P kv σ ⟨dst,.unOp op U x,T,ec,after,b9⟩ K=opE P true σ σ.heap.length ⟨dst,.unOp op U x,T,ec,after,b9⟩ (b1 (λr=>K (σ.d7 dst σ.heap.length r)) .mk):=dg rfl
@[go_sem] theorem awg(x:Operand)(i:Nat)(b9:Option (Nat×Bool)):bareE P kv σ ⟨dst,.extract x i,T,ec,after,b9⟩ K=opE P true σ σ.heap.length ⟨dst,.extract x i,T,ec,after,b9⟩ (b1 (λr=>K (σ.d7 dst σ.heap.length r)) .mk):=dg rfl
@[go_sem] theorem awh(x:Operand)(b9:Option (Nat×Bool)):bareE P kv σ ⟨dst,.nilCheck x,T,ec,after,b9⟩ K=opE P true σ σ.heap.length ⟨dst,.nilCheck x,T,ec,after,b9⟩ (b1 (λr=>K (σ.d7 dst σ.heap.length r)) .mk):=dg rfl
@[go_sem] theorem awi(S:TypeId)(x:Operand)(f:Nat)(b9:Option (Nat×Bool)):bareE P kv σ ⟨dst,.fieldAddr S x f,T,ec,after,b9⟩ K=opE P true σ σ.heap.length ⟨dst,.fieldAddr S x f,T,ec,after,b9⟩ (b1 (λr=>K (σ.d7 dst σ.heap.length r)) .mk):=dg rfl
@[go_sem] theorem awj(U:TypeId)(x mc:Operand)(b9:Option (Nat×Bool)):bareE P kv σ ⟨dst,.indexAddr U x mc,T,ec,after,b9⟩ K=opE P true σ σ.heap.length ⟨dst,.indexAddr U x mc,T,ec,after,b9⟩ (b1 (λr=>K (σ.d7 dst σ.heap.length r)) .mk):=dg rfl
@[go_sem] theorem awk(U:TypeId)(x:Operand)(b9:Option (Nat×Bool)):bareE P kv σ ⟨dst,.load U x,T,ec,after,b9⟩ K=opE P true σ σ.heap.length ⟨dst,.load U x,T,ec,after,b9⟩ (b1 (λr=>K (σ.d7 dst σ.heap.length r)) .mk):=dg rfl
@[go_sem] theorem awl(U:TypeId)(x mc:Operand)(b9:Option (Nat×Bool)):bareE P kv σ ⟨dst,.index U x mc,T,ec,after,b9⟩ K=opE P true σ σ.heap.length ⟨dst,.index U x mc,T,ec,after,b9⟩ (b1 (λr=>K (σ.d7 dst σ.heap.length r)) .mk):=dg rfl
@[go_sem] theorem awm(U:TypeId)(x:Operand)(cr hi sR:Option Operand)(b9:Option (Nat×Bool)):bareE P kv σ ⟨dst,.slice U x cr hi sR,T,ec,after,b9⟩ K=opE P true σ σ.heap.length ⟨dst,.slice U x cr hi sR,T,ec,after,b9⟩ (b1 (λr=>K (σ.d7 dst σ.heap.length r)) .mk):=dg rfl
@[go_sem] theorem awn(S U:TypeId)(x:Operand)(b9:Option (Nat×Bool)):bareE P kv σ ⟨dst,.convert S U x,T,ec,after,b9⟩ K=opE P true σ σ.heap.length ⟨dst,.convert S U x,T,ec,after,b9⟩ (b1 (λr=>K (σ.d7 dst σ.heap.length r)) .mk):=dg rfl
@[go_sem] theorem awo(U:TypeId)(hI:Array (Nat×Operand))(b9:Option (Nat×Bool)):bareE P kv σ ⟨dst,.build U hI,T,ec,after,b9⟩ K=opE P true σ σ.heap.length ⟨dst,.build U hI,T,ec,after,b9⟩ (b1 (λr=>K (σ.d7 dst σ.heap.length r)) .mk):=dg rfl
@[go_sem] theorem awp(U:TypeId)(b9:Option (Nat×Bool)):bareE P kv σ ⟨dst,.alloc U,T,ec,after,b9⟩ K=opE P true σ σ.heap.length ⟨dst,.alloc U,T,ec,after,b9⟩ (b1 (λr=>K (σ.d7 dst σ.heap.length r)) .mk):=dg rfl
@[go_sem] theorem awq(U:TypeId)(x:Operand)(b9:Option (Nat×Bool)):bareE P kv σ ⟨dst,.box U x,T,ec,after,b9⟩ K=opE P true σ σ.heap.length ⟨dst,.box U x,T,ec,after,b9⟩ (b1 (λr=>K (σ.d7 dst σ.heap.length r)) .mk):=dg rfl
@[go_sem] theorem awr(U:TypeId)(p x:Operand)(b9:Option (Nat×Bool)):bareE P kv σ ⟨dst,.store U p x,T,ec,after,b9⟩ K=opE P true σ σ.heap.length ⟨dst,.store U p x,T,ec,after,b9⟩ (b1 (λr=>K (σ.d7 dst σ.heap.length r)) .mk):=dg rfl
@[go_sem] theorem aws(U:TypeId)(len:Nat)(hI:Array (Nat×Operand))(b9:Option (Nat×Bool)):bareE P kv σ ⟨dst,.buildSlice U len hI,T,ec,after,b9⟩ K=opE P true σ σ.heap.length ⟨dst,.buildSlice U len hI,T,ec,after,b9⟩ (b1 (λr=>K (σ.d7 dst σ.heap.length r)) .mk):=dg rfl
@[go_sem] theorem awt(U:TypeId)(x y:Operand)(b9:Option (Nat×Bool)):bareE P kv σ ⟨dst,.makeSlice U x y,T,ec,after,b9⟩ K=opE P true σ σ.heap.length ⟨dst,.makeSlice U x y,T,ec,after,b9⟩ (b1 (λr=>K (σ.d7 dst σ.heap.length r)) .mk):=dg rfl
@[go_sem] theorem awu(f:Fn)(ys gd:Array Operand)(b9:Option (Nat×Bool)):bareE P kv σ ⟨dst,.makeFunc f ys gd,T,ec,after,b9⟩ K=opE P true σ σ.heap.length ⟨dst,.makeFunc f ys gd,T,ec,after,b9⟩ (b1 (λr=>K (σ.d7 dst σ.heap.length r)) .mk):=dg rfl
@[go_sem] theorem awv(b:Builtin)(xs:Array Operand)(ts:Array TypeId)(b9:Option (Nat×Bool)):bareE P kv σ ⟨dst,.call ⟨.builtin b,xs,ts⟩,T,ec,after,b9⟩ K=opE P true σ σ.heap.length ⟨dst,.call ⟨.builtin b,xs,ts⟩,T,ec,after,b9⟩ (b1 (λr=>K (σ.d7 dst σ.heap.length r)) .mk):=dg rfl
@[go_sem] theorem aww(x:Operand)(xs:List Operand)(ts:Array TypeId)(b9:Option (Nat×Bool)):bareE P kv σ ⟨dst,.call ⟨.value x,xs.toArray,ts⟩,T,ec,after,b9⟩ K=evg true (σ.ev x) (b1 (λA9=>fnE A9 (n_ (λf gd=>evs true σ xs (b1 (λvs=>af P kv σ dst f gd (toADs σ.heap vs) vs K) .mk)) .mk)) .mk):=dg rfl
@[go_sem] theorem awx(f:FuncId)(gd:List V)(K:FuncId->List V->Prop):fnE (.fn f gd) K=K f gd:=dg rfl
attribute [go_sem] g9
theorem af.intro{f:FuncId}{as rs:List AD}{vs:List V}(h:PureCall P f as rs)(hk:K (σ.d7 dst σ.heap.length ⟨pG rs σ.heap.length,aHs rs,[]⟩)):af P kv σ dst f [] (some as) vs K:=.inl ⟨rfl,.inl (.inl ⟨as,rs,rfl,h,hk⟩)⟩
theorem af.i{f:FuncId}{as rs:List AD}{vs:List V}(hk:K (σ.d7 dst σ.heap.length ⟨pG rs σ.heap.length,aHs rs,[]⟩))(h:PureCall P f as rs:=by assumption):af P kv σ dst f [] (some as) vs K:=af.intro h hk
theorem af.aj{f:FuncId}{as rs:List AD}{vs:List V}(h:PureCall P f as rs)(hk:K (σ.d7 dst σ.heap.length ⟨pG rs σ.heap.length,(aHs rs).map H.toCln,[]⟩)):af P kv σ dst f [] (some as) vs K:=.inl ⟨rfl,.inl (.inr ⟨as,rs,rfl,h,hk⟩)⟩
theorem af.j{f:FuncId}{as rs:List AD}{vs:List V}(hk:K (σ.d7 dst σ.heap.length ⟨pG rs σ.heap.length,(aHs rs).map H.toCln,[]⟩))(h:PureCall P f as rs:=by assumption):af P kv σ dst f [] (some as) vs K:=af.aj h hk
theorem af.inl{f:FuncId}{gd vs:List V}{CI:Option (List AD)}(h:et P f (σ.tmps++kv) σ.heap (vs++gd) (n_ (λx hs=>K ⟨g9 σ.tmps dst x,hs⟩) .mk)):af P kv σ dst f gd CI vs K:=.inr ⟨σ.tmps,Zl _,h⟩
theorem af.lp(d3:List Nat){f:FuncId}{gd vs ts:List V}{CI:Option (List AD)}(ht:i3 d3 0 σ.tmps=ts)(h:et P f (ts++kv) σ.heap (vs++gd) (n_ (λx hs=>K ⟨g9 ts dst x,hs⟩) .mk)):af P kv σ dst f gd CI vs K:=.inr ⟨ts,by rw[<-ht];exact RU d3 0 _,h⟩
theorem bo{g:Bool}{o:Oper}(h:opE P g σ σ.heap.length o (b1 (λr=>r.new=[]/\r.upd=[]/\K (σ.d7 o.dst σ.heap.length (dr (.b9 g r.v)))) .mk)):Ba P kv g σ o K:=.inl (Ze h)
theorem cG{o:Oper}(h:bareE P kv σ o K):Ba P kv true σ o K:=.inr ⟨λ_=>h,λe=>(by cases e)⟩
theorem dp{o:Oper}(h:K (σ.d7 o.dst σ.heap.length (dr (.b9 false (.d (.bool false)))))):Ba P kv false σ o K:=.inr ⟨λe=>(by cases e),λ_=>h⟩
end
section
variable {g:Bool} {σ:St} {n:Nat} {dst:Option Tmp} {T:TypeId} {ec:String} {after:Array Edge} {b9:Option (Nat×Bool)} {K:fL->Prop}
@[go_sem] theorem awy(x:Operand):opE P g σ n ⟨dst,.move x,T,ec,after,b9⟩ K=evg g (σ.ev x) (b1 (λv=>K (dr (m7 P T v))) .mk):=dg rfl
@[go_sem] theorem awz(x:Operand):opE P g σ n ⟨dst,.assign x,T,ec,after,b9⟩ K=evg g (σ.ev x) (b1 (λv=>K (dr (m7 P T v))) .mk):=dg rfl
@[go_sem] theorem awA(c x y:Operand):opE P g σ n ⟨dst,.pick c x y,T,ec,after,b9⟩ K=El g (σ.ev c) (σ.ev x) (σ.ev y) (b1 (λv=>K (dr v)) .mk):=dg rfl
@[go_sem] theorem awB(op:BinOp)(U CL:TypeId)(x y:Operand):opE P g σ n ⟨dst,.binOp op U x y CL,T,ec,after,b9⟩ K=evg g (σ.ev x) (b1 (λa=>evg g (σ.ev y) (b1 (λb=>withR (binE P op U a b) (b1 (λv=>K (dr v)) .mk)) .mk)) .mk):=dg rfl
@[go_sem] theorem awC(op:UnOp)(U:TypeId)(x:Operand):opE P g σ n ⟨dst,.unOp op U x,T,ec,after,b9⟩ K=evg g (σ.ev x) (b1 (λa=>withO (unE op a) (b1 (λv=>K (dr v)) .mk)) .mk):=dg rfl
@[go_sem] theorem awD(x:Operand)(i:Nat):opE P g σ n ⟨dst,.extract x i,T,ec,after,b9⟩ K=evg g (σ.ev x) (b1 (λa=>withO (extE a i) (b1 (λv=>K (dr v)) .mk)) .mk):=dg rfl
@[go_sem] theorem awE(x:Operand):opE P g σ n ⟨dst,.nilCheck x,T,ec,after,b9⟩ K=evg g (σ.ev x) (b1 (λa=>ptrE a/\K (dr a)) .mk):=dg rfl
@[go_sem] theorem awF(S:TypeId)(x:Operand)(f:Nat):opE P g σ n ⟨dst,.fieldAddr S x f,T,ec,after,b9⟩ K=evg g (σ.ev x) (b1 (λa=>withO (faE P S f a) (b1 (λv=>K (dr v)) .mk)) .mk):=dg rfl
@[go_sem] theorem awG(U:TypeId)(x mc:Operand):opE P g σ n ⟨dst,.indexAddr U x mc,T,ec,after,b9⟩ K=evg g (σ.ev x) (b1 (λa=>evg g (σ.ev mc) (b1 (λb=>asI b (n_ (λ_ i=>withR (iaE P σ.heap U a i) (b1 (λv=>K (dr v)) .mk)) .mk)) .mk)) .mk):=dg rfl
@[go_sem] theorem awH(U:TypeId)(x:Operand):opE P g σ n ⟨dst,.load U x,T,ec,after,b9⟩ K=evg g (σ.ev x) (b1 (λa=>withR (loadE P σ.heap U a) (b1 (λv=>K (dr v)) .mk)) .mk):=dg rfl
@[go_sem] theorem awI(U:TypeId)(x mc:Operand):opE P g σ n ⟨dst,.index U x mc,T,ec,after,b9⟩ K=evg g (σ.ev x) (b1 (λa=>evg g (σ.ev mc) (b1 (λb=>asI b (n_ (λ_ i=>withR (ixE P U a i) (b1 (λv=>K (dr v)) .mk)) .mk)) .mk)) .mk):=dg rfl
@[go_sem] theorem awJ(U:TypeId)(x:Operand)(cr hi:Option Operand):opE P g σ n ⟨dst,.slice U x cr hi none,T,ec,after,b9⟩ K=evg g (σ.ev x) (b1 (λa=>bndE g σ 0 cr (b1 (λl=>bndE g σ (Gw a) hi (b1 (λh=>withR (cutE P σ.heap U a l h) (b1 (λv=>K (dr v)) .mk)) .mk)) .mk)) .mk):=dg rfl
@[go_sem] theorem awK(S U:TypeId)(x:Operand):opE P g σ n ⟨dst,.convert S U x,T,ec,after,b9⟩ K=evg g (σ.ev x) (b1 (λa=>withR (cvE P σ.heap S U a) (b1 (λv=>K (dr v)) .mk)) .mk):=dg rfl
@[go_sem] theorem awL(U:TypeId)(hI:List (Nat×Operand)):opE P g σ n ⟨dst,.build U hI.toArray,T,ec,after,b9⟩ K=evParts g σ hI (b1 (λps=>withO (bldE P U ps) (b1 (λv=>K (dr v)) .mk)) .mk):=by simp[opE,b1]
@[go_sem] theorem awM(U:TypeId):opE P g σ n ⟨dst,.alloc U,T,ec,after,b9⟩ K=withO ((zrI P U).map V.agg) (b1 (λv=>K ⟨.ptr n 0 0,[.box v.cells],[]⟩) .mk):=dg rfl
@[go_sem] theorem awN(U:TypeId)(x:Operand):opE P g σ n ⟨dst,.box U x,T,ec,after,b9⟩ K=evg g (σ.ev x) (b1 (λv=>v.zV/\K ⟨.ptr n 0 0,[.box v.cells],[]⟩) .mk):=dg rfl
@[go_sem] theorem awO(U:TypeId)(p x:Operand):opE P g σ n ⟨dst,.store U p x,T,ec,after,b9⟩ K=evg g (σ.ev p) (b1 (λq=>evg g (σ.ev x) (b1 (λv=>yL ((storeE P σ.heap U q (m7 P U v)).map λ(c,upd)=>(c,⟨.an,[],upd⟩)) K) .mk)) .mk):=dg rfl
@[go_sem] theorem awP(U:TypeId)(len:Nat)(hI:List (Nat×Operand)):opE P g σ n ⟨dst,.buildSlice U len hI.toArray,T,ec,after,b9⟩ K=evParts g σ hI (b1 (λps=>yL (bsE P σ.heap U len ps n) K) .mk):=by simp[opE,b1]
@[go_sem] theorem awQ(U:TypeId)(x cr hi sR:Operand):opE P g σ n ⟨dst,.slice U x (some cr) (some hi) (some sR),T,ec,after,b9⟩ K=evg g (σ.ev x) (b1 (λa=>bndE g σ 0 (some cr) (b1 (λl=>bndE g σ 0 (some hi) (b1 (λh=>bndE g σ 0 (some sR) (b1 (λm=>withR (cut3E P U a l h m) (b1 (λv=>K (dr v)) .mk)) .mk)) .mk)) .mk)) .mk):=dg rfl
@[go_sem] theorem awR(U:TypeId)(x y:Operand):opE P g σ n ⟨dst,.makeSlice U x y,T,ec,after,b9⟩ K=(x=y/\evg g (σ.ev x) (b1 (λv=>asI v (n_ (λ_ i=>yL (mkE P U i n) K) .mk)) .mk)):=dg rfl
@[go_sem] theorem awS(f:FuncId)(gd:List Operand):opE P g σ n ⟨dst,.makeFunc (.func f) #[] gd.toArray,T,ec,after,b9⟩ K=evs g σ gd (b1 (λvs=>K (dr (.fn f vs))) .mk):=by simp[opE,b1]
@[go_sem] theorem awT(c:Callee)(xs:List Operand)(ts:List TypeId):opE P g σ n ⟨dst,.call ⟨c,xs.toArray,ts.toArray⟩,T,ec,after,b9⟩ K=callE P g σ n c xs ts K:=by simp only[opE]
@[go_sem] theorem awU(x:Operand)(U:TypeId):callE P g σ n (.builtin .len) [x] [U] K=evg g (σ.ev x) (b1 (λa=>RM (lenE P U a) (b1 (λm=>K (dr (rQ .i64 m))) .mk)) .mk):=dg rfl
@[go_sem] theorem awV(x y:Operand)(U CL:TypeId):callE P g σ n (.builtin .append) [x,y] [U,CL] K=(U=CL/\evg g (σ.ev x) (b1 (λa=>evg g (σ.ev y) (b1 (λb=>yL (Gu P σ.heap U a b n) K) .mk)) .mk)):=dg rfl
@[go_sem] theorem awW(x:Operand)(U:TypeId):callE P g σ n (.builtin .clear) [x] [U] K=evg g (σ.ev x) (b1 (λa=>yL (clrE P σ.heap U a) K) .mk):=dg rfl
@[go_sem] theorem awX(x y:Operand)(U CL:TypeId):callE P g σ n (.builtin .min) [x,y] [U,CL] K=evg g (σ.ev x) (b1 (λa=>evg g (σ.ev y) (b1 (λb=>asI a (n_ (λk i=>asI b (n_ (λl1 j=>k=l1/\K (dr (rQ k (if j<i then j else i)))) .mk)) .mk)) .mk)) .mk):=dg rfl
@[go_sem] theorem awY(x y:Operand)(U CL:TypeId):callE P g σ n (.builtin .max) [x,y] [U,CL] K=evg g (σ.ev x) (b1 (λa=>evg g (σ.ev y) (b1 (λb=>asI a (n_ (λk i=>asI b (n_ (λl1 j=>k=l1/\K (dr (rQ k (if j>i then j else i)))) .mk)) .mk)) .mk)) .mk):=dg rfl
@[go_sem] theorem awZ(t:Tmp)(xs:List Operand)(ts:List TypeId):callE P g σ n (.value (.tmp t)) xs ts K=evg g (σ.ev (.tmp t)) (b1 (λA9=>fnE A9 (n_ (λf gd=>gd=[]/\evs g σ xs (b1 (λvs=>av P f (toADs σ.heap vs) σ.heap vs n K) .mk)) .mk)) .mk):=by unfold callE;rfl
@[go_sem] theorem aw0(f:FuncId)(xs:List Operand)(ts:List TypeId):callE P g σ n (.value (.func f)) xs ts K=evs g σ xs (b1 (λvs=>av P f (toADs σ.heap vs) σ.heap vs n K) .mk):=by unfold callE;rfl
end
section
variable {g:Bool} {σ:St}
@[go_sem] theorem aw1(K:List V->Prop):evs g σ [] K=K []:=dg rfl
@[go_sem] theorem aw2(x:Operand)(xs:List Operand)(K:List V->Prop):evs g σ (x::xs) K=evg g (σ.ev x) (b1 (λv=>evs g σ xs (b1 (λvs=>K (v::vs)) .mk)) .mk):=dg rfl
@[go_sem] theorem aw3(K:List (Nat×V)->Prop):evParts g σ [] K=K []:=dg rfl
@[go_sem] theorem aw4(i:Nat)(x:Operand)(xs:List (Nat×Operand))(K:List (Nat×V)->Prop):evParts g σ ((i,x)::xs) K=evg g (σ.ev x) (b1 (λv=>evParts g σ xs (b1 (λvs=>K ((i,v)::vs)) .mk)) .mk):=dg rfl
@[go_sem] theorem aw5(d:Nat)(K:Nat->Prop):bndE g σ d none K=K d:=dg rfl
@[go_sem] theorem aw6(d:Nat)(x:Operand)(K:Nat->Prop):bndE g σ d (some x) K=evg g (σ.ev x) (b1 (λv=>asI v (n_ (λ_ i=>0<=i/\K i.toNat) .mk)) .mk):=dg rfl
@[go_sem] theorem aw7(K:List V->Prop):rvsE P σ [] K=K []:=dg rfl
@[go_sem] theorem aw8(r:ResultVar)(rs:List ResultVar)(K:List V->Prop):rvsE P σ (r::rs) K=rvE P σ r (b1 (λv=>rvsE P σ rs (b1 (λvs=>K (v::vs)) .mk)) .mk):=dg rfl
@[go_sem] theorem aw9(t:Tmp)(K:V->Prop):rvE P σ (.tmp t) K=K (σ.ev (.tmp t)):=dg rfl
@[go_sem] theorem axa(t:Tmp)(T:TypeId)(K:V->Prop):rvE P σ (.cell t T) K=evg true (σ.ev (.tmp t)) (b1 (λv=>withR (loadE P σ.heap T v) K) .mk):=dg rfl
@[go_sem] theorem axb(rs:List ResultVar)(res:List AD):ij P rs res σ=rvsE P σ rs (b1 (λvs=>outOA (toOAs σ.heap vs) res) .mk):=dg rfl
@[go_sem] theorem axc(as:List AD)(cH:List Nat)(res:List AD):outOA (some (as,cH)) res=(cH.Nodup/\as=res):=dg rfl
end
@[go_sem] theorem axd(T:TypeId)(x:D):m7 P T (.d x)=.d x:=rfl
@[go_sem] theorem axe(T:TypeId)(x:List V):m7 P T (.agg x)=.agg x:=rfl
@[go_sem] theorem axf(T:TypeId)(a b c:Nat):m7 P T (.ptr a b c)=.ptr a b c:=rfl
@[go_sem] theorem axg(T:TypeId)(a:List D)(b:Nat):m7 P T (.gF a b)=.gF a b:=rfl
@[go_sem] theorem axh(T:TypeId)(a b c:Nat):m7 P T (.sl a b c)=.sl a b c:=rfl
@[go_sem] theorem axi(T:TypeId)(a:FuncId)(b:List V):m7 P T (.fn a b)=.fn a b:=rfl
@[go_sem] theorem axj(T:TypeId)(b:List V):m7 P T (.e8 b)=.e8 b:=rfl
@[go_sem] theorem axk(T:TypeId)(c:Bool)(v:V):m7 P T (.b9 c v)=.b9 c v:=rfl
@[go_sem] theorem axl(T:TypeId):m7 P T .an=.an:=rfl
@[go_sem] theorem axm(T:TypeId)(s:Nat):m7 P T (.eg s)=.eg (match elI P T with|some (_,sz,_)=>sz|none=>s):=rfl
@[go_sem] theorem axn(g:Bool)(c a b:Bool)(K:V->Prop):El g (.d (.bool c)) (.d (.bool a)) (.d (.bool b)) K=K (.d (.bool (bif c then a else b))):=dg rfl
@[go_sem] theorem axo(g:Bool)(c a:Bool)(rR b:Bool)(K:V->Prop):El g (.d (.bool c)) (.d (.bool a)) (.b9 rR (.d (.bool b))) K=(((g&&!c)->rR=true)/\K (.d (.bool (bif c then a else b)))):=dg rfl
@[go_sem] theorem axp(g:Bool)(c a:Bool)(GJ b:Bool)(K:V->Prop):El g (.d (.bool c)) (.b9 GJ (.d (.bool a))) (.d (.bool b)) K=(((g&&c)->GJ=true)/\K (.d (.bool (bif c then a else b)))):=dg rfl
@[go_sem] theorem axq(g:Bool)(qS c:Bool)(a b:V)(K:V->Prop):El g (.b9 qS (.d (.bool c))) a b K=((g->qS=true)/\evg (g&&c) a (b1 (λa=>asB a (b1 (λy=>evg (g&&!c) b (b1 (λb=>asB b (b1 (λz=>K (.d (.bool (bif c then y else z)))) .mk)) .mk)) .mk)) .mk)):=dg rfl
@[go_sem] theorem axr(T:TypeId)(k:IntKind)(a b:Int):binE P .add T (.d (.int k a)) (.d (.int k b))=some (True,.d (.int k (k.wrap (a+b)))):=by simp[binE,binI]
@[go_sem] theorem axs(T:TypeId)(k:IntKind)(a b:Int):binE P .sub T (.d (.int k a)) (.d (.int k b))=some (True,.d (.int k (k.wrap (a-b)))):=by simp[binE,binI]
@[go_sem] theorem axt(T:TypeId)(k:IntKind)(a b:Int):binE P .mul T (.d (.int k a)) (.d (.int k b))=some (True,.d (.int k (k.wrap (a * b)))):=by simp[binE,binI]
@[go_sem] theorem axu(T:TypeId)(k:IntKind)(a b:Int):binE P .quo T (.d (.int k a)) (.d (.int k b))=some (b≠0,.d (.int k (k.wrap (a.tdiv b)))):=by simp[binE,binI]
@[go_sem] theorem axv(T:TypeId)(k:IntKind)(a b:Int):binE P .rem T (.d (.int k a)) (.d (.int k b))=some (b≠0,.d (.int k (a.tmod b))):=by simp[binE,binI]
@[go_sem] theorem axw(T:TypeId)(k:IntKind)(a b:Int):binE P .and T (.d (.int k a)) (.d (.int k b))=some (True,.d (.int k (bitI .and k a b))):=by simp[binE,binI]
@[go_sem] theorem axx(T:TypeId)(k:IntKind)(a b:Int):binE P .or T (.d (.int k a)) (.d (.int k b))=some (True,.d (.int k (bitI .or k a b))):=by simp[binE,binI]
@[go_sem] theorem axy(T:TypeId)(k:IntKind)(a b:Int):binE P .xor T (.d (.int k a)) (.d (.int k b))=some (True,.d (.int k (bitI .xor k a b))):=by simp[binE,binI]
@[go_sem] theorem axz(T:TypeId)(k:IntKind)(a b:Int):binE P .eql T (.d (.int k a)) (.d (.int k b))=some (True,.d (.bool (decide (a=b)))):=by simp[binE,binI];rfl
@[go_sem] theorem axA(T:TypeId)(k:IntKind)(a b:Int):binE P .neq T (.d (.int k a)) (.d (.int k b))=some (True,.d (.bool (decide (a≠b)))):=by simp[binE,binI,bne];rfl
@[go_sem] theorem axB(T:TypeId)(k:IntKind)(a b:Int):binE P .lss T (.d (.int k a)) (.d (.int k b))=some (True,.d (.bool (decide (a<b)))):=by simp[binE,binI]
@[go_sem] theorem axC(T:TypeId)(k:IntKind)(a b:Int):binE P .leq T (.d (.int k a)) (.d (.int k b))=some (True,.d (.bool (decide (a<=b)))):=by simp[binE,binI]
@[go_sem] theorem axD(T:TypeId)(k:IntKind)(a b:Int):binE P .gtr T (.d (.int k a)) (.d (.int k b))=some (True,.d (.bool (decide (b<a)))):=by simp[binE,binI]
@[go_sem] theorem axE(T:TypeId)(k:IntKind)(a b:Int):binE P .geq T (.d (.int k a)) (.d (.int k b))=some (True,.d (.bool (decide (b<=a)))):=by simp[binE,binI]
@[go_sem] theorem axF(T:TypeId)(k l1:IntKind)(a b:Int):binE P .shl T (.d (.int k a)) (.d (.int l1 b))=shI .shl k a b:=rfl
@[go_sem] theorem axG(T:TypeId)(k l1:IntKind)(a b:Int):binE P .shr T (.d (.int k a)) (.d (.int l1 b))=shI .shr k a b:=rfl
@[go_sem] theorem axH(T:TypeId)(a b:List UInt8):binE P .add T (.d (.str a)) (.d (.str b))=binS .add a b:=rfl
@[go_sem] theorem axI(T:TypeId)(a b:List UInt8):binE P .eql T (.d (.str a)) (.d (.str b))=binS .eql a b:=rfl
@[go_sem] theorem axJ(T:TypeId)(a b:List UInt8):binE P .neq T (.d (.str a)) (.d (.str b))=binS .neq a b:=rfl
@[go_sem] theorem axK(a b:List UInt8):binS .add a b=some (a.length+b.length<=maxLen,.d (.str (a++b))):=rfl
@[go_sem] theorem axL(a b:List UInt8):binS .eql a b=some (True,.d (.bool (decide (a=b)))):=by
 have:(a == b)=decide (a=b):=by rw[asa];simp
 simp only[binS,this]
@[go_sem] theorem axM(a b:List UInt8):binS .neq a b=some (True,.d (.bool (decide (a≠b)))):=by
 have:(a != b)=decide (a≠b):=by rw[asa];simp
 simp only[binS,this]
@[go_sem] theorem axN(T:TypeId)(a b:Bool):binE P .eql T (.d (.bool a)) (.d (.bool b))=if isBoolI P T then some (True,.d (.bool (a == b)))else none:=rfl
@[go_sem] theorem axO(T:TypeId)(a b:Bool):binE P .neq T (.d (.bool a)) (.d (.bool b))=if isBoolI P T then some (True,.d (.bool (a != b)))else none:=rfl
@[go_sem] theorem axP(T:TypeId)(xs ys:List V):binE P .eql T (.agg xs) (.agg ys)=(eqCells xs ys).map λb=>(qP P T (kindsV xs),.d (.bool b)):=by simp only[binE];cases eqCells xs ys<;>rfl
@[go_sem] theorem axQ(T:TypeId)(xs ys:List V):binE P .neq T (.agg xs) (.agg ys)=(eqCells xs ys).map λb=>(qP P T (kindsV xs),.d (.bool !b)):=by simp only[binE];cases eqCells xs ys<;>rfl
@[go_sem] theorem axR(T:TypeId)(id cC off CM:Nat):binE P .eql T (.ptr id cC off) (.ptr id cC CM)=if isPtrI P T=true then some (True,.d (.bool (decide (off=CM))))else none:=by simp[binE,Bc]
attribute [go_sem] eqCells eqD kindsV
@[go_sem] theorem axS(b:Bool):unE .not (.d (.bool b))=some (.d (.bool !b)):=rfl
@[go_sem] theorem axT(k:IntKind)(x:Int):unE .neg (.d (.int k x))=some (.d (.int k (k.wrap (0-x)))):=rfl
attribute [go_sem] bK.p bK.q bK.u rQ Bc Jj lenE extE ptrE faE iaE H.els zZ loadE ixE cutE cut3E reachE clrE Gu inE Gw cvE bldE V.cells V.zV V.oneB storeE toDs toD apE srcE elsOf bsE vfill mkE g5 chunk Rw D.flat D.plain toADs toAD toRDs toRD toOAs MP pG I6 aVs aHs I7 rV rVs zU rHs zDs zD AD.xL
attribute [go_sem] false_implies true_implies true_and and_true asj Option.map_none fe asi e0 g1 if_true if_false Option.isSome_some Option.isSome_none ai_ kk Option.getD_none ix cv cx List.drop_zero List.drop_succ_cons List.take_zero List.take_succ_cons List.headD_cons List.replicate_zero aAD as_ List.zipIdx_nil Bool.and_true Bool.true_and Bool.and_self Bool.false_and Bool.and_false List.nodup_nil reduceCtorEq asA hS iW eh List.length_replicate bz b7
@[go_sem] theorem axU:hP []:=rfl
@[go_sem] theorem axV(c:List D)(cs:List (List D)):hP (c::cs)=(c.all D.flat&&hP cs):=rfl
@[go_sem] theorem axW(cs ds:List (List D)):hP (cs++ds)=(hP cs&&hP ds):=by simp[hP]
theorem ajK{α:Type}(f:α->List D)(xs:List α):(xs.map f).take xs.length=xs.map f:=eA ξ
attribute [go_sem] ajK fH imp_self beq_true beq_false Bool.not_not
attribute [go_sem] Int.reduceLE Int.reduceLT Int.reduceNeg Int.reduceToNat Nat.reduceAdd Nat.reduceSub Nat.reduceMul Nat.reduceLT Nat.reduceLeDiff Nat.reduceEqDiff
@[go_sem] theorem axX(v:V):(dr v).v=v:=rfl
@[go_sem] theorem axY(v:V):(dr v).new=[]:=rfl
@[go_sem] theorem axZ(v:V):(dr v).upd=[]:=rfl
@[go_sem] theorem ax0:bytesL []=some []:=rfl
@[go_sem] theorem ax1(n:Int):bytesL [[.int .u8 n]]=some [ass n.toNat]:=rfl
@[go_sem] theorem ax2(n m:Int):bytesL [[.int .u8 n],[.int .u8 m]]=some [ass n.toNat,ass m.toNat]:=rfl
@[go_sem] theorem ax3{n:Nat}(h:n<=1000000):(n<=maxLen)=True:=eq_true (Zx h)
attribute [go_sem] d4 eF Int.reduceNe kf nc
theorem aif{f:FuncId}{fn:Func}{c:Code}{args res:List AD}(hf:P.funcs[f]?=some fn)(hb:fn.body=some c)(hcall:∀(args:Array Value) (w:World),(callFunc f args).run P w=.ok (.enter f args) w)(hm:P.follows .mixedOrders)(ts:List V)
  (hn:args.map AD.xL++ea (fn.ntmps-args.length) .an=ts) (rs:List ResultVar) (hr:fn.results.toList=rs) (h:yC args->codeE P [] c ⟨ts,[]⟩ (b1 (ij P rs res) .mk) [] (b1 (ij P rs res) .mk)):PureCall P f args res:=
 ajL hf hb hcall hm hn hr h
def aA:Nat->List V->List V
 |0,l=>l
 |n+1,l=>.an::aA n l
def Zz:Nat->bK
 |0=>.pre
 |1=>.dL
 |_+2=>.post
def RZ:Nat->Nat->List bK
 |0,_=>[]
 |n+1,c=>Zz (c % 3)::RZ n (c / 3)
def cB(n:Nat)(l:List Nat):List (List bK):=l.map (RZ n)
def Ea:List AD->Nat->List V
 |[],n=>aA n []
 |a::l,n=>a.xL::Ea l (n-1)
theorem ZA:∀(n:Nat),aA n []=ea n .an
 |0=>rfl
 |n+1=>by rw[aA,ZA n,atu]
theorem Rb:∀(l:List AD) (n:Nat),l.map AD.xL++ea (n-l.length) .an=Ea l n
 |[],n=>by simp[Ea,ZA]
 |a::l,n=>by
  have h:=Rb l (n-1);rw[fe,cx,e0,Ea,<-h,show n-(l.length+1)=n-1-l.length from by omega]
attribute [go_sem,simp] aA
attribute [go_sem] Ea Zz RZ cB Nat.reduceDiv Nat.reduceMod
theorem ae7{p:Prop}(h:p:=by first|omega|(exact⟨by omega,by omega⟩)|(simp only[maxLen];omega)|(simp;done)|(simp;omega)):p:=h
theorem au{p q:Prop}(k:q)(h:p:=by exact ae7):p/\q:=⟨h,k⟩
theorem mr{σ:St}{n:Nat}{o:Oper}{K:fL->Prop}(h:opE P true σ n o K):xH P true σ n o K:=ajt h
theorem lv{σ:St}{n:Nat}{o:Oper}{K:fL->Prop}(h:K (dr (.b9 false (.d (.bool false))))):xH P false σ n o K:=aju h
theorem fY{g:Bool}{σ:St}{n:Nat}{o:Oper}{K:fL->Prop}(h:opE P g σ n o (b1 (λr=>r.new=[]/\r.upd=[]/\K (dr (.b9 g r.v))) .mk)):xH P g σ n o K:=Ze h
theorem bX{t:Bool}{lD B:Prop}{s:yO lD}{z0:yO B}(h1:t->lD)(h2:t=false->B):AH t (CK lD s) (CK B z0):=⟨h1,h2⟩
theorem av.aj{f:FuncId}{as rs:List AD}{hs:List H}{vs:List V}{n:Nat}{K:fL->Prop}(h:PureCall P f as rs)(hk:K ⟨pG rs n,(aHs rs).map H.toCln,[]⟩):av P f (some as) hs vs n K:=.inr ⟨as,rs,rfl,h,hk⟩
theorem av.j{f:FuncId}{as rs:List AD}{hs:List H}{vs:List V}{n:Nat}{K:fL->Prop}(hk:K ⟨pG rs n,(aHs rs).map H.toCln,[]⟩)(h:PureCall P f as rs:=by assumption):av P f (some as) hs vs n K:=av.aj h hk
def bt{α:Type}(kv:List V)(hJ:α->St)(k0:α->Nat)(im:α->Prop)(x:α)(σ':St):Prop:=∃o3,sZ σ' o3/\∃y yP,im y/\k0 y<k0 x/\lz kv yP o3 (hJ y)
theorem bt.intro{α:Type}{kv:List V}{hJ:α->St}{k0:α->Nat}{im:α->Prop}{x:α}{σ':St}(y:α)(yP:List Nat)(h1:im y)(h2:k0 y<k0 x)(ao:lz kv yP σ' (hJ y)):bt kv hJ k0 im x σ':=⟨σ',sZ.refl σ',y,yP,h1,h2,ao⟩
theorem cb.intro{kv:List V}{body:St->(St->Prop)->Prop}{s:yO body}{σ:St}{α:Type}(hJ:α->St)(k0:α->Nat)(im:α->Prop)(x:α)(ρ:List Nat)(hp:im x)(hs:lz kv ρ σ (hJ x))
  (Eu:∀x,im x->body (hJ x) (b1 (bt kv hJ k0 im x) .mk)):cb kv (n_ body s) σ:=⟨α,hJ,k0,im,x,ρ,hp,hs,λx hx=>⟨hJ x,sZ.refl _,Eu x hx⟩⟩
def GK(id cC:Nat)(σ:St)(K:St->Prop):Prop:=
 match a6 σ.heap id with
 |.aj sz xs=>match xs[cC]? with
  |some c=>K ⟨σ.tmps,hnew (cF σ.heap id (.h3 sz (xs.take cC) (rVs c σ.heap.length) (xs.drop (cC+1)))) σ.heap.length (rHs c)⟩
  |none=>False
 |_=>False
def Jk(hs:List H):List Nat->Prop
 |[]=>True
 |i::gG=>(match a6 hs i with|.ay _ ys true=>hP ys=true|_=>False)/\Jk hs gG
def CN(id:Nat)(σ:St)(K:St->Prop):Prop:=
 match a6 σ.heap id with
 |.h3 sz pre cells post=>match toDs σ.heap cells with
  |some (ds,cH)=>cH.Nodup/\Jk σ.heap cH/\K ⟨σ.tmps,hupd (cF σ.heap id (.aj sz (pre++ds::post))) (cH.map λi=>(i,H.ek))⟩
  |none=>False
 |_=>False
theorem ZB{hs:List H}:∀{cH:List Nat},Jk hs cH->∀i∈cH,∃s ys,a6 hs i=.ay s ys true/\hP ys=true
 |[],_,i,h=>by cases h
 |j::gG,hc,i,h=>by
  simp only[Jk]at hc;rcases rD.1 h with rfl|h
  ·have h1:=hc.1;split at h1
   ·rename_i s ys e;exact⟨s,ys,e,h1⟩
   exact h1.elim
  exact ZB hc.2 i h
theorem R0{id cC:Nat}{σ:St}{K:St->Prop}(h:GK id cC σ K):∃md,sZ σ md/\K md:=by
 unfold GK at h;split at h
 ·rename_i sz xs hx;split at h
  ·rename_i c hc;exact⟨_,.inr (.inl ⟨id,cC,sz,xs,c,hx,hc,rfl⟩),h⟩
  exact h.elim
 exact h.elim
theorem MZ{id:Nat}{σ:St}{K:St->Prop}(h:CN id σ K):∃md,sZ σ md/\K md:=by
 unfold CN at h;split at h
 ·rename_i sz pre cells post hx;split at h
  ·rename_i ds cH hd;obtain⟨h1,h2,ao⟩:=h;exact⟨_,.inr (.inr ⟨id,sz,pre,cells,post,ds,cH,hx,hd,h1,ZB h2,rfl⟩),ao⟩
  exact h.elim
 exact h.elim
theorem af.F3{kv:List V}{σ:St}{dst:Option Tmp}{K:St->Prop}{f:FuncId}{vs:List V}{as rs:List AD}(id cC:Nat)(h:PureCall P f as rs)(hk:GK id cC (σ.d7 dst σ.heap.length ⟨pG rs σ.heap.length,(aHs rs).map H.toCln,[]⟩) (b1 K .mk)):af P kv σ dst f [] (some as) vs K:=by
 obtain⟨md,h1,h2⟩:=R0 hk;exact Or.inl ⟨rfl,Or.inr ⟨as,rs,rfl,h,md,h1,h2⟩⟩
theorem cb.h3{kv:List V}{body:St->(St->Prop)->Prop}{s:yO body}{σ:St}{α:Type}(hJ:α->St)(k0:α->Nat)(im:α->Prop)(x:α)(ρ:List Nat)(hp:im x)(hs:lz kv ρ σ (hJ x))
  (Eu:∀x,im x->body (hJ x) (b1 (bt kv hJ k0 im x) .mk)\/∃id cC,GK id cC (hJ x) (b1 (λmd=>body md (b1 (bt kv hJ k0 im x) .mk)) .mk)):cb kv (n_ body s) σ:=
 ⟨α,hJ,k0,im,x,ρ,hp,hs,λx hx=>by
  rcases Eu x hx with h|⟨id,cC,h⟩
  ·exact⟨hJ x,sZ.refl _,h⟩
  exact R0 h⟩
theorem bt.close{α:Type}{kv:List V}{hJ:α->St}{k0:α->Nat}{im:α->Prop}{x:α}{σ':St}(id:Nat)(y:α)(yP:List Nat)(h1:im y)(h2:k0 y<k0 x)(ao:CN id σ' (b1 (λo3=>lz kv yP o3 (hJ y)) .mk)):bt kv hJ k0 im x σ':=by
 obtain⟨o3,k1,k2⟩:=MZ ao;exact⟨o3,k1,y,yP,h1,h2,k2⟩
attribute [go_sem] GK CN Jk H.toCln H.esz toX toXs clnOf
attribute [go_sem] lz vsees vsee hsees hsee b3 vok oQ hok yc ren rens
theorem bw{n:Int}(h1:-9223372036854775808<=n)(h2:n<=9223372036854775807):arV.wrap n=n:=by
 rw[IntKind.wrap_i64];omega
theorem asc{i:Nat}(h:i<9223372036854775807:=by omega):arV.wrap ((i:Int)+1)=((i+1:Nat):Int):=by rw[bw]<;>omega
theorem R1{n:Int}(h1:0<=n)(h2:n<=255):aso.wrap n=n:=by
 simp only[IntKind.wrap,IntKind.signed,IntKind.bits];simp;omega
theorem a7{kv:List V}{aQ:List Oper}{σ:St}{K:St->Prop}(dH:List (List bK))(h1:xA aQ dH)(h2:dH.all (λr=>r.length == aQ.length)=true)
  (h:anyE P aQ σ dH aQ [] σ.heap.length (b1 (λe3=>(updE dH 0 e3\/IT σ dH aQ dH [] e3)/\K (seqAp e3 σ)) .mk)):Gc P kv aQ.toArray σ K:=.inl ⟨dH,h1,h2,h⟩
theorem lM{kv:List V}{aQ:List Oper}{σ:St}{K:St->Prop}(ik:St->Prop)(h:exE P kv aQ aQ.length (ea aQ.length false) σ ik)(hk:∀σ',ik σ'->K σ'):Gc P kv aQ.toArray σ K:=.inr ⟨ik,hk,by simpa using h⟩
theorem L4{kv:List V}{aQ:List Oper}{n:Nat}{S:List Bool}{σ:St}{K:St->Prop}(h:rdyE S aQ [] S=[])(hk:K σ):exE P kv aQ n S σ K:=by
 cases n with
 |zero=>exact⟨h,hk⟩
 |succ n=>refine⟨λ_=>hk,?_⟩;rw[h];trivial
theorem L3{kv:List V}{aQ:List Oper}{n:Nat}{S:List Bool}{σ:St}{K:St->Prop}{x:Oper×List Bool}{r:List (Oper×List Bool)}(e:rdyE S aQ [] S=x::r)(h:yn (x::r) λo n3=>yo P kv aQ σ o (b1 (λσ'=>exE P kv aQ n n3 σ' K) .mk)):exE P kv aQ (n+1) S σ K:=
 ⟨λq=>(by rw[e]at q;cases q),by rw[e];exact h⟩
theorem F7{F:Oper->List Bool->Prop}{o:Oper}{S:List Bool}{r:List (Oper×List Bool)}(h:F o S)(hr:yn r F):yn ((o,S)::r) F:=⟨h,hr⟩
theorem F6{F:Oper->List Bool->Prop}:yn [] F:=trivial
@[go_sem] theorem ax4(aQ:List Oper)(ff:St)(l:List ee)(n:Nat)(K:List ee->Prop):anyE P aQ ff [] [] l n K=K l:=dg rfl
@[go_sem] theorem ax5(aQ:List Oper)(ff:St)(row:List bK)(dH:List (List bK))(o:Oper)(bM:List Oper)(l:List ee)(n:Nat)(K:List ee->Prop) :
  anyE P aQ ff (row::dH) (o::bM) l n K=stepE P aQ (mask row l (o::bM) ff) n o (b1 (λr=>anyE P aQ ff dH bM (l++[(o,n,r)]) (n+r.new.length) K) .mk):=dg rfl
@[go_sem] theorem ax6(row:List bK)(o:Oper)(n:Nat)(r:fL)(l:List ee)(bM:List Oper)(σ:St):mask (.pre::row) ((o,n,r)::l) bM σ=mask row l bM (σ.d7 o.dst n r):=rfl
@[go_sem] theorem ax7(row:List bK)(o:Oper)(n:Nat)(r:fL)(l:List ee)(bM:List Oper)(σ:St):mask (.dL::row) ((o,n,r)::l) bM σ=mask row l bM ⟨yE σ.tmps o.dst,kilH σ.heap r.upd⟩:=rfl
@[go_sem] theorem ax8(row:List bK)(o:Oper)(bM:List Oper)(σ:St):mask (.dL::row) [] (o::bM) σ=mask row [] bM ⟨yE σ.tmps o.dst,σ.heap⟩:=rfl
@[go_sem] theorem ax9(row:List bK)(o:Oper)(bM:List Oper)(σ:St):mask (.post::row) [] (o::bM) σ=mask row [] bM σ:=rfl
@[go_sem] theorem aya(l:List ee)(bM:List Oper)(σ:St):mask [] l bM σ=σ:=by cases l<;>cases bM<;>rfl
attribute [go_sem] yE kilH updE allPre IS seqAp IT Mo okR Cy Ri as_ aAD fe asi true_or false_or
theorem gi{f:FuncId}{fn:Func}{c:Code}{kv:List V}{hs:List H}{vs:List V}{K:V->List H->Prop}{n:Nat}(hf:P.funcs[f]?=some fn)(hb:fn.body=some c)(hcall:∀(args:Array Value) (w:World),(callFunc f args).run P w=.ok (.enter f args) w)(hm:P.follows .mixedOrders)
  (hn:fn.ntmps=n) {rs:List ResultVar} (hr:fn.results.toList=rs) (h:codeE P kv c ⟨vs++ea (n-vs.length) .an,hs⟩ (b1 (yQ P rs (n_ K .mk)) .mk) [] (b1 (yQ P rs (n_ K .mk)) .mk)):et P f kv hs vs K:=
 ajM hf hb hcall hm (by rw[hn]) hr h
@[go_sem] theorem ayb(rs:List ResultVar)(K:V->List H->Prop)(σ:St):yQ P rs K σ=rvsE P σ rs (b1 (λvs=>K (tupV vs) σ.heap) .mk):=dg rfl
attribute [go_sem] tupV
@[go_sem] theorem ayc(as:List AD)(cH:List Nat)(res:List AD):ZC (some (as,cH)) res=(as=res/\cH=[]):=by simp[ZC]
def M0:List Nat->List (Nat×H)->Bool
 |[],[]=>true
 |i::gG,q::upd=>q.1 == i&&M0 gG upd
 |_,_=>false
@[go_sem] theorem ayd:M0 [] []:=rfl
@[go_sem] theorem aye(i:Nat)(gG:List Nat)(q:Nat×H)(upd:List (Nat×H)):M0 (i::gG) (q::upd)=(q.1 == i&&M0 gG upd):=rfl
attribute [go_sem] List.any_cons List.any_nil Bool.or_true Bool.true_or Bool.or_false Bool.false_or Nat.reduceBEq BEq.rfl beq_self_eq_true
@[go_sem] theorem ayf{α:Type}(a:α)(l m:List α):aAn (a::l) m=a::aAn l m:=rfl
@[go_sem] theorem ayg{α:Type}(m:List α):aAn [] m=m:=rfl
variable {P:Program}
section
variable {Sv:Type} {enc:TypeId×Value->Sv} {w:World} {sp:Nat->Bool} {held:Bool}
end
section
variable {Sv:Type} {enc:TypeId×Value->Sv} {w:World} {sp:Nat->Bool} {held:Bool}
end
end Gv
