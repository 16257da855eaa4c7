/-
  Part of the proof: the machine, what functions compute, and the plain laws.
-/
import Derived.Test.YtkmdnjjdcfkbcaaGreatM00
import Derived.Deep.LoopGhost
import GoSem.ClaimChange
set_option maxHeartbeats 80000000
set_option maxRecDepth 100000
namespace Gv
open Go
variable {P:Program} {o:Oper} {g:Bool} {σ:St} {n:Nat} {K:eD→Prop}
def wQ(r:Option (Prop×eD))(K:eD→Prop):Prop:=match r with|some (p,r)=>p∧K r|none=>False
def Mf(r:Option Nat)(K:Nat→Prop):Prop:=match r with|some m=>K m|none=>False
def au(P:Program)(f:FuncId)(as:Option (List AD))(_:List H)(_:List V)(n:Nat)(K:eD→Prop):Prop:=
 (∃yp rs,as=some yp∧PureCall P f yp rs∧K ⟨m4 rs n,aHs rs,[]⟩)∨
 (∃yp rs,as=some yp∧PureCall P f yp rs∧K ⟨m4 rs n,(aHs rs).map H.toCln,[]⟩)
theorem au.intro{f:FuncId}{as rs:List AD}{hs:List H}{vs:List V}(h:PureCall P f as rs)(hk:K ⟨m4 rs n,aHs rs,[]⟩):au P f (some as) hs vs n K:=.inl ⟨as,rs,rfl,h,hk⟩
def fnE(v:V)(K:FuncId→List V→Prop):Prop:=match v with|.fn f eZ=>K f eZ|_=>False
theorem SJ{v:V}{K:FuncId→List V→Prop}(h:fnE v K):∃f eZ,v=.fn f eZ∧K f eZ:=by
 unfold fnE at h;split at h
 ·exact⟨_,_,rfl,h⟩
 ·exact h.elim
def callE(P:Program)(g:Bool)(σ:St)(n:Nat)(c:Callee)(xs:List Operand)(ts:List TypeId)(K:eD→Prop):Prop:=
 match c,xs,ts with
 |.builtin .len,[x],[T]=>evg g (σ.ev x) fun a=>Mf (lenE P T a) fun m=>K (cJ (oQ .i64 m))
 |.builtin .append,[x,y],[T,U]=>T=U∧evg g (σ.ev x) fun a=>evg g (σ.ev y) fun b=>wQ (CJ P σ.heap T a b n) K
 |.builtin .clear,[x],[T]=>evg g (σ.ev x) fun a=>wQ (clrE P σ.heap T a) K
 |.builtin .min,[x,y],[_,_]=>evg g (σ.ev x) fun a=>evg g (σ.ev y) fun b=>asI a fun k i=>asI b fun iS j=>k=iS∧K (cJ (oQ k (if j<i then j else i)))
 |.builtin .max,[x,y],[_,_]=>evg g (σ.ev x) fun a=>evg g (σ.ev y) fun b=>asI a fun k i=>asI b fun iS j=>k=iS∧K (cJ (oQ k (if j>i then j else i)))
 |.value (.func f),xs,_=>evs g σ xs fun vs=>au P f (toADs σ.heap vs) σ.heap vs n K
 |.value x,xs,_=>evg g (σ.ev x) fun yq=>fnE yq fun f eZ=>eZ=[]∧evs g σ xs fun vs=>au P f (toADs σ.heap vs) σ.heap vs n K
 |_,_,_=>False
def opE(P:Program)(g:Bool)(σ:St)(n:Nat)(o:Oper)(K:eD→Prop):Prop:=
 match o.op with
 |.move x=>evg g (σ.ev x) fun v=>K (cJ (j7 P o.type v))
 |.assign x=>evg g (σ.ev x) fun v=>K (cJ (j7 P o.type v))
 |.pick c x y=>Bc g (σ.ev c) (σ.ev x) (σ.ev y) fun v=>K (cJ v)
 |.binOp op T x y _=>evg g (σ.ev x) fun a=>evg g (σ.ev y) fun b=>withR (binE P op T a b) fun v=>K (cJ v)
 |.unOp op _ x=>evg g (σ.ev x) fun a=>withO (unE op a) fun v=>K (cJ v)
 |.extract x i=>evg g (σ.ev x) fun a=>withO (extE a i) fun v=>K (cJ v)
 |.nilCheck x=>evg g (σ.ev x) fun a=>ptrE a=true∧K (cJ a)
 |.fieldAddr S x f=>evg g (σ.ev x) fun a=>withO (faE P S f a) fun v=>K (cJ v)
 |.indexAddr T x jo=>evg g (σ.ev x) fun a=>evg g (σ.ev jo) fun b=>asI b fun _ i=>withR (iaE P σ.heap T a i) fun v=>K (cJ v)
 |.load T x=>evg g (σ.ev x) fun a=>withR (loadE P σ.heap T a) fun v=>K (cJ v)
 |.index T x jo=>evg g (σ.ev x) fun a=>evg g (σ.ev jo) fun b=>asI b fun _ i=>withR (ixE P T a i) fun v=>K (cJ v)
 |.slice T x ca hi none=>evg g (σ.ev x) fun a=>bndE g σ 0 ca fun l=>bndE g σ (lenOfV a) hi fun h=>withR (cutE P σ.heap T a l h) fun v=>K (cJ v)
 |.convert mA dst x=>evg g (σ.ev x) fun a=>withR (cvE P σ.heap mA dst a) fun v=>K (cJ v)
 |.build T parts=>evParts g σ parts.toList fun ps=>withO (bldE P T ps) fun v=>K (cJ v)
 |.alloc T=>withO ((zrI P T).map V.agg) fun v=>K ⟨.ptr n 0 0,[.box v.cells],[]⟩
 |.box _ x=>evg g (σ.ev x) fun v=>v.wR=true∧K ⟨.ptr n 0 0,[.box v.cells],[]⟩
 |.store T p x=>evg g (σ.ev p) fun q=>evg g (σ.ev x) fun v=>wQ ((storeE P σ.heap T q (j7 P T v)).map fun(c,upd)=>(c,⟨.ak,[],upd⟩)) K
 |.buildSlice T len parts=>evParts g σ parts.toList fun ps=>wQ (bsE P σ.heap T len ps n) K
 |.makeSlice T x y=>x=y∧evg g (σ.ev x) fun v=>asI v fun _ i=>wQ (mkE P T i n) K
 |.makeFunc (.func f) ys eZ=>ys.toList=[]∧evs g σ eZ.toList fun vs=>K (cJ (.fn f vs))
 |.call c=>callE P g σ n c.callee c.args.toList c.argTypes.toList K
 |.slice T x (some ca) (some hi) (some wK)=>evg g (σ.ev x) fun a=>bndE g σ 0 (some ca) fun l=>bndE g σ 0 (some hi) fun h=>bndE g σ 0 (some wK) fun m=>withR (cut3E P T a l h m) fun v=>K (cJ v)
 |_=>False
theorem SK{g:Bool}{v:V}{K gp:V→Prop}(h:evg g v K)(hk:∀v,K v→gp v):evg g v gp:=by
 unfold evg at *;split at h
 ·exact⟨h.1,hk _ h.2⟩
 ·exact hk _ h
theorem H'{α:Type}{a:Array α}{x:α}(h:a.toList=[x]):a=#[x]:=by rw[←Array.toArray_toList (xs:=a),h]
theorem CK{α:Type}{a:Array α}{x y:α}(h:a.toList=[x,y]):a=#[x,y]:=by rw[←Array.toArray_toList (xs:=a),h]
theorem aaJ{c:Call}(av:o.op=.call c)(h:callE P g σ n c.callee c.args.toList c.argTypes.toList K):∃r,gP P o g σ n r∧K r:=by
 obtain⟨akW,xs,ts⟩:=c;simp only at h;unfold callE at h;split at h
 ·rename_i x T h1 h2;refine ok_len av (x:=x) (T:=T) (by rw[H' h1,H' h2]) h
 ·rename_i x y T U h1 h2;obtain⟨rfl,h⟩:=h;exact aaK av (x:=x) (y:=y) (T:=T) (by rw[CK h1,CK h2]) h
 ·rename_i x T h1 h2;exact aaL av (x:=x) (T:=T) (by rw[H' h1,H' h2]) h
 ·rename_i x y T U h1 h2;exact aaM av (x:=x) (y:=y) (T:=T) (U:=U) (by rw[CK h1,CK h2]) h
 ·rename_i x y T U h1 h2;exact aaN av (x:=x) (y:=y) (T:=T) (U:=U) (by rw[CK h1,CK h2]) h
 ·obtain⟨vs,h,hx⟩:=ES _ _ h;rcases h with ⟨as,rs,h1,h2,aj⟩|⟨as,rs,h1,h2,aj⟩
  ·exact Ma av rfl (fun _ _ _=>rfl) hx h1 h2 aj
  ·exact H9 av rfl (fun _ _ _=>rfl) hx h1 h2 aj
 ·rename_i x _;obtain⟨yq,h',hf⟩:=ga h;obtain⟨f,eZ,rfl,h'⟩:=SJ h';clear h;obtain⟨rfl,h⟩:=h';have zu:∀{σ':St} {B:Nat→Prop} {w0:World} {aK:Nat→Prop} {φ:cp} {kp:List (V×Value)} {a:Act} {w:World},σ.le σ'→R B w0 aK φ σ' kp a w→g=true→a.eval x=.func (.func f) #[] #[]:=by
   intro σ' B w0 aK φ kp a w aY aQ hg;have:=hf _ _ _ _ hg (fR aY aQ x);simp only[VRel]at this;obtain⟨us,e,ai⟩:=this;simp only[VRels]at ai;rw[e];congr 1;exact Array.toList_eq_nil_iff.1 ai
  obtain⟨vs,h,hx⟩:=ES _ _ h;rcases h with ⟨as,rs,h1,h2,aj⟩|⟨as,rs,h1,h2,aj⟩
  ·exact Ma av rfl zu hx h1 h2 aj
  ·exact H9 av rfl zu hx h1 h2 aj
 ·exact h.elim
theorem CL(h:opE P g σ n o K):∃r,gP P o g σ n r∧K r:=by
 unfold opE at h;split at h
 case h_1 x av=>exact SL (.inl av) h
 case h_2 x av=>exact SL (.inr av) h
 case h_3 c x y av=>exact aaO av h
 case h_4 op T x y gO av=>exact aaP av h
 case h_5 op T x av=>exact aaQ av h
 case h_6 x i av=>exact aaR av h
 case h_7 x av=>exact aaS av h
 case h_8 S x f av=>exact aaT av h
 case h_9 T x jo av=>exact aaU av h
 case h_10 T x av=>exact aaV av h
 case h_11 T x jo av=>exact aaW av h
 case h_12 T x ca hi av=>exact aaX av h
 case h_13 mA dst x av=>exact aaY av h
 case h_14 T parts av=>exact aaZ av h
 case h_15 T av=>
  refine ok_alloc av ?_
  cases hz:zrI P T with
  |none=>rw[hz]at h;exact h
  |some z=>rw[hz]at h;exact h
 case h_16 T x av=>exact aa0 av h
 case h_17 T p x av=>
  refine ok_store av ?_;refine SK h fun q h=>SK h fun v h=>?_
  cases hs:storeE P σ.heap T q (j7 P T v)with
  |none=>rw[hs]at h;exact h
  |some p=>rw[hs]at h;exact h
 case h_18 T len parts av=>exact ok_buildSlice av h
 case h_19 T x y av=>obtain⟨rfl,h⟩:=h;exact aa1 av h
 case h_20 f ys eZ av=>
  obtain⟨hy,h⟩:=h;have:ys=#[]:=by rw[←Array.toArray_toList (xs:=ys),hy]
  subst this;exact aa2 av h
 case h_21 c av=>exact aaJ av h
 case h_22 T x ca hi wK av=>exact aa3 av h
 case h_23=>exact h.elim
def uK(P:Program)(g:Bool)(σ:St)(n:Nat)(o:Oper)(K:eD→Prop):Prop:=
 (g=true∧opE P true σ n o K)∨(g=false∧K (cJ (.bC false (.d (.bool false)))))∨opE P g σ n o fun r=>r.new=[]∧r.upd=[]∧K (cJ (.bC g r.v))
theorem aa4(h:opE P true σ n o K):uK P true σ n o K:=.inl ⟨rfl,h⟩
theorem aa5(h:K (cJ (.bC false (.d (.bool false))))):uK P false σ n o K:=.inr (.inl ⟨rfl,h⟩)
theorem SM(h:opE P g σ n o fun r=>r.new=[]∧r.upd=[]∧K (cJ (.bC g r.v))):uK P g σ n o K:=.inr (.inr h)
def stepE(P:Program)(az:List Oper)(σ:St)(n:Nat)(o:Oper)(K:eD→Prop):Prop:=
 match o.guard with
 |none=>opE P true σ n o K
 |some (j,h6)=>
  match(az[j]?).bind (·.dst)with
  |some d=>
   match σ.ev (.tmp d)with
   |.d (.bool b)=>uK P (b == h6) σ n o K
   |.bC c (.d (.bool b))=>uK P (c&&(b == h6)) σ n o K
   |_=>False
  |none=>False
def HK(P:Program)(az:Array Oper)(o:Oper)(σ:St)(n:Nat)(r:eD):Prop:=
 ∀σ':St,σ.le σ'→(∀i,n≤i→i<n+r.new.length→aL σ'.heap i=.b')→
 ∀(B:Nat→Prop) (w0:World) (aK:Nat→Prop) (φ:cp) (kp:List (V×Value)) (a:Act) (w:World),(∀i,n≤i→i<n+r.new.length→¬aK i)→R B w0 aK φ σ' kp a w→
 ∀(K:Act→World→Prop) (Q:Exit→Act→World→Prop),
  (∀u w' cV,R B w0 (fun i=>aK i∨(n≤i∧i<n+r.new.length)) cV (σ'.de o.dst n r) kp (a.put o.dst u) w'→K (a.put o.dst u) w')→
  if Region.wanted o (yielded az a.tmps)then o.wp P a w K Q∨(o.asks P a w∧LetsOut Q)else K (a.put o.dst undef) w
theorem aa6{B:Nat→Prop}{w0:World}{aK:Nat→Prop}{φ:cp}{σ:St}{kp:List (V×Value)}{a:Act}{w:World}(r:R B w0 aK φ σ kp a w){ts:List V}(hl:ts.length=σ.tmps.length)
  (h:∀(t:Nat) (fK v:V) (u:Value),ts[t]?=some fK→σ.tmps[t]?=some v→VRel φ (cz φ σ.heap) w.heap v u→VRel φ (cz φ σ.heap) w.heap fK u):R B w0 aK φ ⟨ts,σ.heap⟩ kp a w:=by
 refine⟨zI _ _ (by rw[jR _ _ r.g8,hl]) fun t fK u ah ai=>?_,r.kp,r.hp,r.dJ,r.e9,r.e_,r.fU,r.fP,r.bs,r.mV,r.ko⟩;have hlt:t<σ.tmps.length:=by
  rcases Nat.lt_or_ge t ts.length with h|h
  ·omega
  ·rw[List.getElem?_eq_none h]at ah;cases ah
 obtain⟨wS,k1,k2⟩:=vG _ _ r.g8 t _ (b8 hlt);rw[k1]at ai;cases ai;exact h t fK _ u ah (b8 hlt) k2
theorem Mg{B:Nat→Prop}{w0:World}{aK:Nat→Prop}{φ:cp}{σ:St}{kp:List (V×Value)}{a:Act}{w:World}{dst:Option Tmp}{v:V}{n:Nat}{hs:List H}{upd:List (Nat×H)}(r:R B w0 aK φ (σ.de dst n ⟨v,hs,upd⟩) kp a w) :
  R B w0 aK φ (σ.de dst n ⟨.bC true v,hs,upd⟩) kp a w:=by
 cases dst with
 |none=>exact r
 |some d=>
  refine aa6 r (by simp[St.de]) fun t fK akX u ah ai hr=>?_;simp only[St.de,List.getElem?_set]at ah ai;by_cases h:d=t
  ·subst h;simp only[if_true]at ah ai;split at ah
   ·cases ah
    rw[if_pos (by assumption)]at ai;cases ai;simp only[VRel];exact⟨fun _=>hr,fun h=>by cases h⟩
   ·cases ah
  ·simp only[h,if_false]at ah ai;rw[ah]at ai;cases ai;exact hr
theorem CM{B:Nat→Prop}{w0:World}{aK:Nat→Prop}{φ:cp}{σ σ':St}{kp:List (V×Value)}{a:Act}{w:World}(aY:σ.le σ')(r:R B w0 aK φ σ' kp a w){d:Tmp}{v:V}(hv:σ.ev (.tmp d)=v)(al:v≠.ak) :
  ∃u,a.tmps[d]?=some u∧VRel φ (cz φ σ'.heap) w.heap v u:=by
 have he:=aY.ev (.tmp d);rw[hv]at he;rcases he with h|h
 ·exact absurd h al
 ·simp only[St.ev,ib]at h
  cases ht:σ'.tmps[d]? with
  |none=>rw[ht]at h;exact absurd h.symm al
  |some fK=>
   rw[ht]at h;simp only[Option.getD_some]at h;subst h;obtain⟨u,k1,k2⟩:=vG _ _ r.g8 d _ ht;rw[Array.getElem?_toList]at k1;exact⟨u,k1,k2⟩
theorem CN{φ:cp}{T:Nat→Prop}{h:Array Obj}(v:V):VRel φ T h (.bC false v) undef:=by
 simp only[VRel];exact⟨fun h=>(Bool.noConfusion h),fun _=>trivial⟩
theorem SN{az:Array Oper}(hw:∀{σ':St} {B:Nat→Prop} {w0:World} {aK:Nat→Prop} {φ:cp} {kp:List (V×Value)} {a:Act} {w:World},σ.le σ'→R B w0 aK φ σ' kp a w→Region.wanted o (yielded az a.tmps)=g)
  (h:uK P g σ n o K):∃r,HK P az o σ n r∧K r:=by
 rcases h with ⟨rfl,h⟩|⟨rfl,h⟩|h
 ·obtain⟨r,h1,h2⟩:=CL h;refine⟨r,fun σ' aY hd B w0 aK φ kp a w iR aQ m3 nW hk=>?_,h2⟩;rw[if_pos (hw aY aQ)];exact .inl (h1 σ' aY hd B w0 aK φ kp a w iR aQ rfl m3 nW hk)
 ·refine⟨_,fun σ' aY hd B w0 aK φ kp a w iR aQ m3 nW hk=>?_,h⟩;rw[if_neg (by rw[hw aY aQ];simp)];exact hk undef w φ (ET (mD aQ o.dst (CN _)) fun i h=>.inl h)
 ·obtain⟨r,h1,h2,aj,aE⟩:=CL h;refine⟨_,fun σ' aY hd B w0 aK φ kp a w iR aQ m3 nW hk=>?_,aE⟩;obtain⟨v,new,upd⟩:=r;simp only at h2 aj;subst h2;subst aj
  cases g with
  |true=>
   rw[if_pos (hw aY aQ)];refine .inl (h1 σ' aY hd B w0 aK φ kp a w iR aQ rfl m3 nW fun u w' cV hr=>hk u w' cV ?_);exact Mg (σ:=σ') (v:=v) (dst:=o.dst) hr
  |false=>
   rw[if_neg (by rw[hw aY aQ];simp)];exact hk undef w φ (ET (mD aQ o.dst (CN v)) fun i h=>.inl h)
theorem aae{az:Array Oper}(h:stepE P az.toList σ n o K):∃r,HK P az o σ n r∧K r:=by
 unfold stepE at h;split at h
 ·rename_i hg;obtain⟨r,h1,h2⟩:=CL h;refine⟨r,fun σ' aY hd B w0 aK φ kp a w iR aQ m3 nW hk=>?_,h2⟩;rw[if_pos (by simp[Region.wanted,hg])];exact .inl (h1 σ' aY hd B w0 aK φ kp a w iR aQ rfl m3 nW hk)
 ·rename_i j h6 hg;split at h
  ·rename_i d hd;rw[Array.getElem?_toList]at hd;split at h
   ·rename_i b hv;refine SN (fun aY aQ=>?_) h;obtain⟨u,k1,k2⟩:=CM aY aQ hv (by simp);rw[mY k2]at k1;simp[Region.wanted,hg,yielded,hd,k1]
   ·rename_i c b hv;refine SN (fun {σ' B w0 aK φ kp a w} aY aQ=>?_) h;obtain⟨u,k1,k2⟩:=CM aY aQ hv (by simp);simp only[VRel]at k2
    cases c with
    |true=>
     rw[mY (φ:=φ) (T:=cz φ σ'.heap) (h:=w.heap) (b:=b) (u:=u) (by simp only[VRel];exact k2.1 rfl)]at k1;simp[Region.wanted,hg,yielded,hd,k1]
    |false=>
     rw[k2.2 rfl]at k1;simp[Region.wanted,hg,yielded,hd,k1,undef]
   ·exact h.elim
  ·exact h.elim
def zJ(v:V)(h6:Bool)(K:Bool→Prop):Prop:=
 match v with
 |.d (.bool b)=>K (b == h6)
 |.bC c (.d (.bool b))=>K (c&&(b == h6))
 |_=>False
def wT(az:List Oper)(j:Nat)(K:Tmp→Prop):Prop:=match(az[j]?).bind (·.dst)with|some d=>K d|none=>False
def eQ(B:Nat→Prop)(w0:World)(kp:List (V×Value))(σ:St)(a:Act)(w:World):Prop:=∃aK φ,R B w0 aK φ σ kp a w∧∀i,aK i→i<σ.heap.length
def dx(P:Program)(f:FuncId)(kv:List V)(hs:List H)(vs:List V)(K:V→List H→Prop):Prop:=
 ∀(B:Nat→Prop) (w0:World) (kp:List (V×Value)) (us:List Value) (w:World),kp.map (·.1)=kv→eQ B w0 kp ⟨vs,hs⟩ ⟨us.toArray,[]⟩ w→
  Does P f us.toArray w fun v w'=>∃x hs',K x hs'∧eQ B w0 kp ⟨[x],hs'⟩ ⟨#[v],[]⟩ w'
def fT(ts:List V)(dst:Option Tmp)(v:V):List V:=match dst with|some d=>ts.set d v|none=>ts
theorem EU(hs:List H)(i:Nat)(x:H):hs.length≤(b_ hs i x).length∧i<(b_ hs i x).length:=by
 unfold b_;split
 ·rename_i h;simp[h]
 ·rename_i h;simp;omega
theorem ED:∀(xs:List H) (hs:List H) (n:Nat),hs.length≤(hnew hs n xs).length∧(xs=[]∨n+xs.length≤(hnew hs n xs).length)
 |[],hs,n=>⟨Nat.le_refl _,.inl rfl⟩
 |x::xs,hs,n=>by
  have h1:=EU hs n x;have h2:=ED xs (b_ hs n x) (n+1);simp only[hnew,eW];refine⟨by omega,.inr ?_⟩;rcases h2.2 with rfl|h
  ·simp only[hnew,ft];omega
  ·omega
theorem HP:∀(upd:List (Nat×H)) (hs:List H),hs.length≤(hupd hs upd).length
 |[],hs=>Nat.le_refl _
 |(i,x)::r,hs=>by
  have h1:=EU hs i x;have h2:=HP r (b_ hs i x);simp only[hupd];omega
theorem yr{hs:List H}{i:Nat}(h:hs.length≤i):aL hs i=.b':=by
 unfold aL;rw[ib,List.getElem?_eq_none h];rfl
theorem SO{h:Array Obj}{o:Bool}{b:Nat}:∀(ds:List D) (f:Nat) (G:List Nat),repC h o b f ds G→∃us:List Value,reps h o ds us G∧∀(j:Nat) (u:Value),us[j]?=some u→cellAt h b (f+j)=some u
 |[],f,G,r=>by simp only[repC]at r;exact⟨[],⟨rfl,r⟩,by simp⟩
 |d::ds,f,G,r=>by
  simp only[repC]at r;obtain⟨v,bQ,bq,rfl,ai,aX,br⟩:=r;obtain⟨us,k1,k2⟩:=SO ds (f+1) bq br;refine⟨v::us,⟨v,us,bQ,bq,rfl,rfl,aX,k1⟩,fun j u al=>?_⟩
  cases j with
  |zero=>simp at al;subst al;simpa using ai
  |succ j=>rw[show f+(j+1)=f+1+j from by omega];exact k2 j u (by simpa using al)
theorem aa7{B:Nat→Prop}{w0:World}{kp:List (V×Value)}{σ:St}{a:Act}{w:World}(r:eQ B w0 kp σ a w){id b0 sz:Nat}{xs:List (List D)}{c:List D}(hx:aL σ.heap id=.af sz xs)(hc:xs[b0]?=some c) :
  eQ B w0 kp ⟨σ.tmps,hnew (b_ σ.heap id (.g1 sz (xs.take b0) (rVs c σ.heap.length) (xs.drop (b0+1)))) σ.heap.length (rHs c)⟩ a w:=by
 obtain⟨aK,φ,r,b4⟩:=r;have akY:id<σ.heap.length:=by
  rcases Nat.lt_or_ge id σ.heap.length with h|h
  ·exact h
  ·rw[yr h]at hx;cases hx
 have hlt:b0<xs.length:=(List.getElem?_eq_some_iff.1 hc).1;rcases r.hp id with hd|⟨β,ah,hr⟩
 ·rw[hx]at hd;cases hd
 rw[hx]at hr;simp only[dX]at hr;obtain⟨cH,hr⟩:=hr;rcases hr with hr|⟨b,aM,bc,cq,cI⟩
 ·rw[hr.2.1]at hlt;simp at hlt
 obtain⟨bQ,nz,bq,bM,vH,zK,CO,Mh⟩:=EV cI hc;obtain⟨us,fk,gB⟩:=SO _ _ _ CO;obtain⟨bl,⟨gl,gW,oN,Eo⟩,hv⟩:=L8 c us nz fk;have gf:=r.e9 id β ah (by rw[hx];rfl);rw[bM]at gf;have wU:nz.Nodup:=by
  have:=gf.1;rw[List.nodup_append]at this;have:=this.2.1;rw[List.nodup_append]at this;exact this.1
 have aa8:(bQ++bq).Nodup:=by
  have:=gf.1;simp only[List.nodup_append,et]at this⊢;grind
 have SP:∀x∈nz,x∉bQ∧x∉bq:=by
  have:=gf.1;simp only[List.nodup_append,et]at this;grind
 let n:=σ.heap.length
 let cV:cp:=fun i=>if i=id then some {β with c_:=bQ++bq}else if n≤i∧i<n+(rHs c).length then bl[i-n]? else φ i
 have zH:∀i,n≤i→φ i=none:=fun i h=>by
  cases h':φ i with
  |none=>rfl
  |some β=>have:=b4 i (r.fU i β h');omega
 have zL:cV id=some {β with c_:=bQ++bq}:=if_pos rfl;have Ia:∀i,n≤i∧i<n+(rHs c).length→cV i=bl[i-n]?:=fun i h=>by
  show(if i=id then _ else _)=_
  rw[if_neg (by omega),if_pos h]
 have Mi:∀i,i≠id→¬(n≤i∧i<n+(rHs c).length)→cV i=φ i:=fun i h1 h2=>by
  show(if i=id then _ else _)=_
  rw[if_neg h1,if_neg h2]
 have EW:aL (hnew (b_ σ.heap id (.g1 sz (xs.take b0) (rVs c σ.heap.length) (xs.drop (b0+1)))) σ.heap.length (rHs c)) id=.g1 sz (xs.take b0) (rVs c σ.heap.length) (xs.drop (b0+1)):=by
  rw[A4,if_neg (by omega),hH,if_pos rfl]
 have SQ:∀i,n≤i∧i<n+(rHs c).length→∃x,(rHs c)[i-n]?=some x∧aL (hnew (b_ σ.heap id (.g1 sz (xs.take b0) (rVs c σ.heap.length) (xs.drop (b0+1)))) σ.heap.length (rHs c)) i=x:=by
  intro i h;have hl:i-n<(rHs c).length:=by omega
  refine⟨(rHs c)[i-n],b8 hl,?_⟩;rw[A4,if_pos h,ib,b8 hl];rfl
 have SR:∀i,i≠id→¬(n≤i∧i<n+(rHs c).length)→aL (hnew (b_ σ.heap id (.g1 sz (xs.take b0) (rVs c σ.heap.length) (xs.drop (b0+1)))) σ.heap.length (rHs c)) i=aL σ.heap i:=by
  intro i h1 h2;rw[A4,if_neg h2,hH,if_neg h1]
 have hA:pK cV n bl:=fun i a_ e=>by
  have hl:i<bl.length:=by
   rcases Nat.lt_or_ge i bl.length with h|h
   ·exact h
   ·rw[List.getElem?_eq_none h]at e;cases e
  rw[Ia (n+i) ⟨by omega,by omega⟩,Nat.add_sub_cancel_left];exact e
 have Ib:∀(i:Nat) (a_:gQ) (g:Nat),bl[i]?=some a_→g∈lM a_→g∈nz:=fun i a_ g h1 h2=>by rw[←gW];exact List.mem_flatMap.2 ⟨a_,List.mem_of_getElem? h1,h2⟩
 generalize Bd:hnew (b_ σ.heap id (.g1 sz (xs.take b0) (rVs c σ.heap.length) (xs.drop (b0+1)))) σ.heap.length (rHs c)=hs' at EW SQ SR⊢;have gq:∀i,(i=id∨(n≤i∧i<n+(rHs c).length))→∀g,c5 cV hs' i g→(i=id∧(g=b∨g∈bQ++bq))∨(i≠id∧∃a_,bl[i-n]?=some a_∧g∈lM a_):=by
  rintro i hi g ⟨a_,ai,av⟩;by_cases mE:i=id
  ·subst mE;rw[zL]at ai;cases ai;refine .inl ⟨rfl,?_⟩;rcases av with ⟨_,av⟩|⟨_,av⟩
   ·simp only[aM,bF]at av;exact .inl av.symm
   ·exact .inr av
  ·have hi:=hi.resolve_left mE;rw[Ia i hi]at ai;refine .inr ⟨mE,a_,ai,?_⟩;unfold lM;rcases av with ⟨_,av⟩|⟨_,av⟩<;>simp[av]
 have CP:∀g,(g=b∨g∈β.c_)→c5 φ σ.heap id g:=by
  intro g hg;rcases hg with rfl|hg
  ·exact⟨β,ah,.inl ⟨by rw[hx];rfl,aM⟩⟩
  ·exact⟨β,ah,.inr ⟨by rw[hx];rfl,hg⟩⟩
 have aa9:∀g,(g=b∨g∈β.c_)→jq (aL σ.heap id) β g:=by
  intro g hg;rw[hx];rcases hg with rfl|hg
  ·exact .inl ⟨rfl,aM⟩
  ·exact .inr ⟨rfl,hg⟩
 have Bb:∀g,(g∈bQ++bq∨g∈nz)→g∈β.c_:=by
  intro g hg;rw[bM];simp only[et]at hg⊢;grind
 have aY:nq φ cV:=fun i a_ hi=>by
  by_cases h:i=id
  ·subst h;rw[ah]at hi;cases hi;exact⟨_,zL,rfl,rfl,rfl,rfl⟩
  ·have:¬(n≤i∧i<n+(rHs c).length):=fun h'=>by rw[zH i h'.1]at hi;cases hi
   exact⟨a_,by rw[Mi i h this];exact hi,rfl,rfl,rfl,rfl⟩
 refine⟨fun i=>aK i∨(n≤i∧i<n+(rHs c).length),cV,wP r (fun i=>i=id∨(n≤i∧i<n+(rHs c).length)) _ cV hs' w (fun i hi=>⟨SR i (fun h=>hi (.inl h)) (fun h=>hi (.inr h)),Mi i (fun h=>hi (.inl h)) (fun h=>hi (.inr h))⟩) aY (Nat.le_refl _) (fun _ _ _=>rfl)
  (fun i hi g av=>?_) (fun i hi a_ ai g ht=>?_) (fun i j g hi al h1 h2=>?_) (fun i a_ hi ai _=>?_) (fun i hi=>?_) (fun i a_ ai=>?_) r.fP,fun i hi=>?_⟩
 ·right;refine⟨id,.inl rfl,CP g ?_⟩;rcases gq i hi g av with ⟨_,h|h⟩|⟨_,a_,h1,h2⟩
  ·exact .inl h
  ·exact .inr (Bb g (.inl h))
  ·exact .inr (Bb g (.inr (Ib _ a_ g h1 h2)))
 ·right;refine⟨id,β,.inl rfl,ah,aa9 g ?_⟩;rcases gq i hi g (jq.wV ai ht)with ⟨_,h|h⟩|⟨_,a_,h1,h2⟩
  ·exact .inl h
  ·exact .inr (Bb g (.inl h))
  ·exact .inr (Bb g (.inr (Ib _ a_ g h1 h2)))
 ·have jY:b∉nz:=fun h=>gf.2 b aM (by simp[h]);rcases gq i hi g h1 with ⟨cQ,bb⟩|⟨cQ,CQ,bb,bD⟩<;>rcases gq j al g h2 with ⟨dp,da⟩|⟨dp,jL,da,gk⟩
  ·rw[cQ,dp]
  ·exfalso;have:=Ib _ jL g da gk;rcases bb with rfl|bb
   ·exact jY this
   ·have b3:=SP g this;rcases et.1 bb with h|h
    ·exact b3.1 h
    ·exact b3.2 h
  ·exfalso;have:=Ib _ CQ g bb bD;rcases da with rfl|da
   ·exact jY this
   ·have b3:=SP g this;rcases et.1 da with h|h
    ·exact b3.1 h
    ·exact b3.2 h
  ·have:=SB bl gW wU _ _ CQ jL g bb da bD gk;have hi:=hi.resolve_left cQ;have al:=al.resolve_left dp;omega
 ·by_cases mE:i=id
  ·subst mE;rw[zL]at ai;cases ai;refine⟨aa8,fun g hg lN=>gf.2 g hg ?_⟩;simp only[et]at lN⊢;grind
  ·have hi:=hi.resolve_left mE;rw[Ia i hi]at ai;have:=SC bl gW wU a_ (List.mem_of_getElem? ai);unfold lM at this;rw[List.nodup_append]at this;exact⟨this.2.1,fun g hg lN=>this.2.2 g (by simp[hg]) g lN rfl⟩
 ·right;by_cases mE:i=id
  ·subst mE;refine⟨_,zL,?_⟩;rw[EW];have jk:(xs.take b0).length=b0:=by simp;omega
   have hV:=hv cV n (cz cV hs') hA;refine⟨cH,?_,b,bQ,bq,us,aM,by rw[jk,List.length_drop];show b0+1+(xs.length-(b0+1))≤β.cap;omega,cq,rfl,zK,hV,fun j u al=>?_,?_⟩
   ·rw[←jR _ _ hV,Be _ _ _ fk];exact vH
   ·rw[jk];exact gB j u al
   ·rw[jk];exact Mh
  ·have hi:=hi.resolve_left mE;obtain⟨x,h1,h2⟩:=SQ i hi;have hl:i-n<bl.length:=by omega
   refine⟨bl[i-n],by rw[Ia i hi];exact b8 hl,?_⟩;rw[h2];exact oN _ _ _ (b8 hl) h1 _ _
 ·by_cases mE:i=id
  ·subst mE;exact .inl (r.fU i β ah)
  ·by_cases h:n≤i∧i<n+(rHs c).length
   ·exact .inr h
   ·rw[Mi i mE h]at ai;exact .inl (r.fU i a_ ai)
 ·show i<hs'.length
  rw[←Bd];have k1:=ED (rHs c) (b_ σ.heap id (.g1 sz (xs.take b0) (rVs c σ.heap.length) (xs.drop (b0+1)))) σ.heap.length;have k2:=EU σ.heap id (.g1 sz (xs.take b0) (rVs c σ.heap.length) (xs.drop (b0+1)));rcases hi with hi|hi
  ·have:=b4 i hi;omega
  ·rcases k1.2 with h|h
   ·rw[h]at hi;simp at hi;omega
   ·omega
theorem aba{B:Nat→Prop}{w0:World}{kp:List (V×Value)}{σ:St}{a:Act}{w:World}(r:eQ B w0 kp σ a w){id sz:Nat}{pre post:List (List D)}{cells:List V}{ds:List D}{b9:List Nat}(hx:aL σ.heap id=.g1 sz pre cells post)(hd:toDs σ.heap cells=some (ds,b9))(hn:b9.Nodup)
  (hf:∀i∈b9,∃s ys,aL σ.heap i=.ar s ys true∧gy ys=true):eQ B w0 kp ⟨σ.tmps,hupd (b_ σ.heap id (.af sz (pre++ds::post))) (b9.map fun i=>(i,H.b'))⟩ a w:=by
 obtain⟨aK,φ,r,b4⟩:=r;rcases r.hp id with gX|⟨β,ah,hr⟩
 ·rw[hx]at gX;cases gX
 rw[hx]at hr;simp only[dX]at hr;obtain⟨cH,hcl,b,bQ,bq,us,aM,bc,cq,cI,fb,hT,wW,zM⟩:=hr;obtain⟨iz,eT,fW,iF,pL⟩:=Ic r _ _ _ _ hd hn hT;have gf:=r.e9 id β ah (by rw[hx];rfl);have Mj:id∉b9:=fun h=>by
  obtain⟨s,ys,h1,_⟩:=hf id h;rw[hx]at h1;cases h1
 have CP:∀g,(g=b∨g∈β.c_)→c5 φ σ.heap id g:=by
  intro g hg;rcases hg with rfl|hg
  ·exact⟨β,ah,.inl ⟨by rw[hx];rfl,aM⟩⟩
  ·exact⟨β,ah,.inr ⟨by rw[hx];rfl,hg⟩⟩
 have abb:∀i∈b9,∀a_,φ i=some a_→a_.c_=[]:=by
  intro i hi a_ e;obtain⟨s,ys,h1,h2⟩:=hf i hi;rcases r.hp i with gX|⟨jL,ai,hr⟩
  ·rw[h1]at gX;cases gX
  ·rw[e]at ai;cases ai;obtain⟨_,hr⟩:=L_ (by rw[h1];rfl) hr;rcases hr with hr|⟨_,_,_,_,hr⟩
   ·exact hr.2.2.2
   ·exact Eb _ _ _ _ h2 hr
 have abc:∀g∈iz,∃i∈b9,∃a_,φ i=some a_∧jq (aL σ.heap i) a_ g:=by
  intro g hg;obtain⟨i,fm,a_,ai,dM⟩:=iF g hg;refine⟨i,fm,a_,ai,?_⟩;rcases dM with dM|⟨_,dM⟩
  ·exact .inl dM
  ·rw[abb i fm a_ ai]at dM;cases dM
 have Mk:∀g∈iz,g≠b∧g∉β.c_:=by
  intro g hg;obtain⟨i,fm,dM⟩:=iF g hg;constructor
  ·intro h;exact Mj (r.dJ i id g dM (CP g (.inl h))▸fm)
  ·intro h;exact Mj (r.dJ i id g dM (CP g (.inr h))▸fm)
 have hin:∀i∈b9,aL (hupd (b_ σ.heap id (.af sz (pre++ds::post))) (b9.map fun i=>(i,H.b'))) i=.b':=by
  intro i hi;rcases wX (b9.map fun i=>(i,H.b')) (b_ σ.heap id (.af sz (pre++ds::post))) i with ⟨x,h1,h2⟩|⟨h1,_⟩
  ·obtain⟨j,_,al⟩:=List.mem_map.1 h1;simp only[c1]at al;rw[h2,←al.2]
  ·exact absurd (List.mem_map.2 ⟨i,hi,rfl⟩) (h1 .b')
 have EW:aL (hupd (b_ σ.heap id (.af sz (pre++ds::post))) (b9.map fun i=>(i,H.b'))) id=.af sz (pre++ds::post):=by
  rcases wX (b9.map fun i=>(i,H.b')) (b_ σ.heap id (.af sz (pre++ds::post))) id with ⟨x,h1,_⟩|⟨_,h2⟩
  ·obtain⟨j,Ml,al⟩:=List.mem_map.1 h1;simp only[c1]at al;exact absurd (al.1▸Ml) Mj
  ·rw[h2,hH,if_pos rfl]
 have m5:∀i,i≠id→i∉b9→aL (hupd (b_ σ.heap id (.af sz (pre++ds::post))) (b9.map fun i=>(i,H.b'))) i=aL σ.heap i:=by
  intro i h1 h2;rcases wX (b9.map fun i=>(i,H.b')) (b_ σ.heap id (.af sz (pre++ds::post))) i with ⟨x,aj,_⟩|⟨_,aj⟩
  ·obtain⟨j,Ml,al⟩:=List.mem_map.1 aj;simp only[c1]at al;exact absurd (al.1▸Ml) h2
  ·rw[aj,hH,if_neg h1]
 have zF:(bQ++(iz++bq)).Nodup:=by
  have h1:=gf.1;rw[cI]at h1 Mk;simp only[List.nodup_append,et]at h1 Mk⊢;grind
 have jZ:ds.length=sz:=by rw[←Be _ _ _ eT,jR _ _ hT];exact hcl
 have aY:nq φ (c6 φ id {β with c_:=bQ++(iz++bq)}):=fun i a_ hi=>by
  by_cases h:i=id
  ·subst h;rw[ah]at hi;cases hi;exact⟨{β with c_:=bQ++(iz++bq)},by simp[c6],rfl,rfl,rfl,rfl⟩
  ·exact⟨a_,by simp[c6,h,hi],rfl,rfl,rfl,rfl⟩
 have zL:c6 φ id {β with c_:=bQ++(iz++bq)} id=some {β with c_:=bQ++(iz++bq)}:=by simp[c6]
 generalize Bd:hupd (b_ σ.heap id (.af sz (pre++ds::post))) (b9.map fun i=>(i,H.b'))=hs' at hin EW m5⊢;have gq:∀i,(i=id∨i∈b9)→∀g,c5 (c6 φ id {β with c_:=bQ++(iz++bq)}) hs' i g→i=id∧(g=b∨g∈β.c_∨g∈iz):=by
  rintro i hi g ⟨a_,ai,av⟩;by_cases mE:i=id
  ·subst mE;rw[zL]at ai;cases ai;refine⟨rfl,?_⟩;rcases av with ⟨_,av⟩|⟨_,av⟩
   ·simp only[aM,bF]at av;exact .inl av.symm
   ·rw[cI];simp only[et]at av⊢;grind
  ·have hi:=hi.resolve_left mE;rw[hin i hi]at av;rcases av with ⟨av,_⟩|⟨av,_⟩<;>cases av
 refine⟨aK,c6 φ id {β with c_:=bQ++(iz++bq)},wP r (fun i=>i=id∨i∈b9) _ _ hs' w (fun i hi=>⟨m5 i (fun h=>hi (.inl h)) (fun h=>hi (.inr h)),if_neg (fun h=>hi (.inl h))⟩) aY (Nat.le_refl _) (fun _ _ _=>rfl)
  (fun i hi g av=>?_) (fun i hi a_ ai g ht=>?_) (fun i j g hi al h1 h2=>?_) (fun i a_ hi ai _=>?_) (fun i hi=>?_) (fun i a_ ai=>?_) r.fP,fun i hi=>?_⟩
 ·right;obtain⟨_,h⟩:=gq i hi g av;rcases h with h|h|h
  ·exact⟨id,.inl rfl,CP g (.inl h)⟩
  ·exact⟨id,.inl rfl,CP g (.inr h)⟩
  ·obtain⟨j,EX,Mm⟩:=iF g h;exact⟨j,.inr EX,Mm⟩
 ·right;obtain⟨_,h⟩:=gq i hi g (jq.wV ai ht);rcases h with h|h|h
  ·exact⟨id,β,.inl rfl,ah,by rw[hx];exact .inl ⟨rfl,by rw[aM,h]⟩⟩
  ·exact⟨id,β,.inl rfl,ah,by rw[hx];exact .inr ⟨rfl,h⟩⟩
  ·obtain⟨j,EX,jL,Mm,abd⟩:=abc g h;exact⟨j,jL,.inr EX,Mm,abd⟩
 ·rw[(gq i hi g h1).1,(gq j al g h2).1]
 ·rcases hi with rfl|hi
  ·rw[zL]at ai;cases ai;refine⟨zF,fun g hg lN=>?_⟩;have b3:=gf.2 g hg;rw[cI]at b3;simp only[aM,bF]at hg;have e2:g∈iz→False:=fun h=>(Mk g h).1 hg.symm;simp only[et]at lN b3;grind
  ·rename_i av;rw[hin i hi]at av;cases av
 ·rcases hi with rfl|hi
  ·right;refine⟨_,zL,?_⟩;rw[EW];refine⟨cH,.inr ⟨b,aM,by simp only[eG,eW];show pre.length+(post.length+1)≤β.cap;omega,cq,?_⟩⟩;refine(repE_append _ _ _ _).2 ⟨bQ,iz++bq,rfl,fb,?_⟩;simp only[repE];refine⟨iz,bq,rfl,jZ,Bf _ _ _ _ eT wW,?_⟩;have:β.off+pre.length * sz+sz=β.off+(pre.length+1) * sz:=by rw[Nat.add_mul];omega
   rw[this];exact zM
  ·exact .inl (hin i hi)
 ·by_cases mE:i=id
  ·subst mE;exact r.fU i β ah
  ·exact r.fU i a_ (by simpa [c6,mE]using ai)
 ·show i<hs'.length
  rw[←Bd];have k1:=HP (b9.map fun i=>(i,H.b')) (b_ σ.heap id (.af sz (pre++ds::post)));have k2:=EU σ.heap id (.af sz (pre++ds::post));have:=b4 i hi;omega
def pM(σ σ':St):Prop:=σ'=σ∨
 (∃id b0 sz xs c,aL σ.heap id=.af sz xs∧xs[b0]?=some c∧σ'=⟨σ.tmps,hnew (b_ σ.heap id (.g1 sz (xs.take b0) (rVs c σ.heap.length) (xs.drop (b0+1)))) σ.heap.length (rHs c)⟩)∨
 ∃id sz pre cells post ds b9,aL σ.heap id=.g1 sz pre cells post∧toDs σ.heap cells=some (ds,b9)∧b9.Nodup∧(∀i∈b9,∃s ys,aL σ.heap i=.ar s ys true∧gy ys=true)∧σ'=⟨σ.tmps,hupd (b_ σ.heap id (.af sz (pre++ds::post))) (b9.map fun i=>(i,H.b'))⟩
theorem pM.refl(σ:St):pM σ σ:=.inl rfl
theorem Ie{B:Nat→Prop}{w0:World}{kp:List (V×Value)}{σ σ':St}{a:Act}{w:World}(h:pM σ σ')(r:eQ B w0 kp σ a w):eQ B w0 kp σ' a w:=by
 rcases h with rfl|⟨id,b0,sz,xs,c,h1,h2,rfl⟩|⟨id,sz,pre,cells,post,ds,b9,h1,h2,aj,aE,rfl⟩
 ·exact r
 ·exact aa7 r h1 h2
 ·exact aba r h1 h2 aj aE
def Bg:List V→List V→Prop
 |[],[]=>True
 |fK::vs',v::vs=>(fK=v∨fK=.ak)∧Bg vs' vs
 |_,_=>False
theorem SS:∀vs:List V,Bg vs vs
 |[]=>trivial
 |_::vs=>⟨.inl rfl,SS vs⟩
theorem SU:∀{vs' vs:List V},Bg vs' vs→vs'.length=vs.length
 |[],[],_=>rfl
 |_::_,[],h=>h.elim
 |[],_::_,h=>h.elim
 |_::vs',_::vs,h=>by simp[SU h.2]
theorem SV:∀{vs' vs:List V} {us:List Value} {p:V×Value},Bg vs' vs→p∈vs'.zip us→p.1=.ak∨p∈vs.zip us
 |[],_,us,p,_,hp=>by simp at hp
 |_::_,[],_,_,h,_=>h.elim
 |_::_,_::_,[],p,_,hp=>by simp at hp
 |fK::vs',v::vs,u::us,p,h,hp=>by
  simp only[List.zip_cons_cons,List.mem_cons]at hp⊢;rcases hp with rfl|hp
  ·rcases h.1 with e|e
   ·exact .inr (.inl (by rw[e]))
   ·exact .inl e
  ·rcases SV h.2 hp with e|e
   ·exact .inl e
   ·exact .inr (.inr e)
def keepT(di:List Nat):Nat→List V→List V
 |_,[]=>[]
 |i,v::vs=>(bif di.elem i then v else .ak)::keepT di (i+1) vs
theorem SW(di:List Nat):∀(i:Nat) (vs:List V),Bg (keepT di i vs) vs
 |_,[]=>trivial
 |i,v::vs=>⟨by cases h:di.elem i<;>simp,SW di (i+1) vs⟩
def ab(P:Program)(kv:List V)(σ:St)(dst:Option Tmp)(f:FuncId)(eZ:List V)(yt:Option (List AD))(vs:List V)(K:St→Prop):Prop:=
 (eZ=[]∧((au P f yt σ.heap vs σ.heap.length fun r=>K (σ.de dst σ.heap.length r))∨
  ∃as rs,yt=some as∧PureCall P f as rs∧∃pN,pM (σ.de dst σ.heap.length ⟨m4 rs σ.heap.length,(aHs rs).map H.toCln,[]⟩) pN∧K pN))∨
 ∃ts,Bg ts σ.tmps∧dx P f (ts++kv) σ.heap (vs++eZ) fun x hs=>K ⟨fT ts dst x,hs⟩
def bareE(P:Program)(kv:List V)(σ:St)(o:Oper)(K:St→Prop):Prop:=
 match o.op with
 |.call ⟨.value x,xs,_⟩=>evg true (σ.ev x) fun yq=>fnE yq fun f eZ=>evs true σ xs.toList fun vs=>ab P kv σ o.dst f eZ (toADs σ.heap vs) vs K
 |_=>opE P true σ σ.heap.length o fun r=>K (σ.de o.dst σ.heap.length r)
def yu(P:Program)(kv:List V)(g:Bool)(σ:St)(o:Oper)(K:St→Prop):Prop:=
 uK P g σ σ.heap.length o (fun r=>K (σ.de o.dst σ.heap.length r))∨((g=true→bareE P kv σ o K)∧(g=false→K (σ.de o.dst σ.heap.length (cJ (.bC false (.d (.bool false)))))))
def vk(P:Program)(kv:List V)(az:List Oper)(σ:St)(o:Oper)(K:St→Prop):Prop:=
 match o.guard with
 |none=>bareE P kv σ o K
 |some (j,h6)=>wT az j fun d=>zJ (σ.ev (.tmp d)) h6 fun g=>yu P kv g σ o K
def opsE(P:Program)(kv:List V)(az:List Oper):List Oper→St→(St→Prop)→Prop
 |[],σ,K=>K σ
 |o::a6,σ,K=>vk P kv az σ o fun σ'=>opsE P kv az a6 σ' K
theorem abe(σ:St)(dst:Option Tmp)(r:eD):σ.heap.length+r.new.length≤(σ.de dst σ.heap.length r).heap.length:=by
 have h1:=ED r.new σ.heap σ.heap.length;have h2:=HP r.upd (hnew σ.heap σ.heap.length r.new);simp only[St.de];rcases h1.2 with h|h
 ·have aj:=h1.1;rw[h]at h2 aj⊢;simp only[ft];omega
 ·omega
theorem EY{aK:Nat→Prop}{σ:St}{dst:Option Tmp}{r:eD}(b4:∀i,aK i→i<σ.heap.length)(i:Nat)(hi:aK i∨(σ.heap.length≤i∧i<σ.heap.length+r.new.length)):i<(σ.de dst σ.heap.length r).heap.length:=by
 have:=abe σ dst r;rcases hi with hi|hi
 ·have:=b4 i hi;omega
 ·omega
theorem abf{B:Nat→Prop}{w0:World}{kp:List (V×Value)}{σ:St}{o:Oper}{K:St→Prop}{gp:Act→World→Prop}{Q:Exit→Act→World→Prop}{a:Act}{w:World}
  (h:opE P true σ σ.heap.length o fun r=>K (σ.de o.dst σ.heap.length r)) (hr:eQ B w0 kp σ a w) (hk:∀σ' u w',K σ'→eQ B w0 kp σ' (a.put o.dst u) w'→gp (a.put o.dst u) w'):o.wp P a w gp Q:=by
 obtain⟨r,h1,h2⟩:=CL h;obtain⟨aK,φ,aQ,b4⟩:=hr;exact h1 σ (St.le.refl σ) (fun i hi _=>yr hi) B w0 aK φ kp a w (fun i hi _ hd=>by have:=b4 i hd;omega) aQ rfl gp Q fun u w' cV jK=>hk _ u w' h2 ⟨_,cV,jK,EY b4⟩
theorem abg{B:Nat→Prop}{w0:World}{kp:List (V×Value)}{σ:St}{a:Act}{w:World}{vs ts:List V}{us:List Value}(al:Bg ts σ.tmps)(hr:eQ B w0 kp σ a w)(hv:∀aK φ,R B w0 aK φ σ kp a w→VRels φ (cz φ σ.heap) w.heap vs us) :
  eQ B w0 (ts.zip a.tmps.toList++kp) ⟨vs,σ.heap⟩ ⟨us.toArray,[]⟩ w:=by
 obtain⟨aK,φ,r,b4⟩:=hr;refine⟨aK,φ,⟨hv aK φ r,fun p hp=>?_,r.hp,r.dJ,r.e9,r.e_,r.fU,r.fP,r.bs,rfl,r.ko⟩,b4⟩;rcases et.1 hp with hp|hp
 ·exact r.kp p (List.mem_append_left _ hp)
 rcases et.1 hp with hp|hp
 ·rcases SV al hp with e|hp
  ·rw[e];simp[VRel]
  obtain⟨j,al,rfl⟩:=List.getElem_of_mem hp;have hl:=jR _ _ r.g8;simp only[List.length_zip]at al;obtain⟨u,k1,k2⟩:=vG _ _ r.g8 j _ (b8 (by omega));rw[b8 (by omega)]at k1;rw[List.getElem_zip]
  cases k1;exact k2
 ·exact r.kp p (List.mem_append_right _ hp)
theorem abh{B:Nat→Prop}{w0:World}{kp:List (V×Value)}{ts:List V}{us:Array Value}{hs:List H}{x:V}{v:Value}{w:World}(hl:us.toList.length=ts.length)(dst:Option Tmp)
  (hr:eQ B w0 (ts.zip us.toList++kp) ⟨[x],hs⟩ ⟨#[v],[]⟩ w):eQ B w0 kp ⟨fT ts dst x,hs⟩ ((Act.mk us []).put dst v) w:=by
 obtain⟨aK,φ,r,b4⟩:=hr;have ht:VRels φ (cz φ hs) w.heap ts us.toList:=by
  refine zI _ _ hl fun t fK u ah ai=>?_;have hlt:t<ts.length:=(List.getElem?_eq_some_iff.1 ah).1;have:(fK,u)∈ts.zip us.toList:=by
   have aj:(ts.zip us.toList)[t]?=some (fK,u):=by rw[List.getElem?_zip_eq_some];exact⟨ah,ai⟩
   exact List.mem_of_getElem? aj
  exact r.kp _ (List.mem_append_right _ (List.mem_append_left _ this))
 have hx:VRel φ (cz φ hs) w.heap x v:=by
  have:=r.g8;simp only[VRels]at this;obtain⟨u,ck,e,h1,_⟩:=this
  cases e;exact h1
 have r0:R B w0 aK φ ⟨ts,hs⟩ kp ⟨us,[]⟩ w:=⟨ht,fun p hp=>r.kp p ((et.1 hp).elim (List.mem_append_left _) fun h=>List.mem_append_right _ (List.mem_append_right _ h)),r.hp,r.dJ,r.e9,r.e_,r.fU,r.fP,r.bs,rfl,r.ko⟩;exact⟨aK,φ,by have:=mD r0 dst hx;cases dst<;>exact this,b4⟩
theorem Ig{B:Nat→Prop}{w0:World}{kp:List (V×Value)}{kv:List V}(bu:kp.map (·.1)=kv){σ:St}{o:Oper}{K:St→Prop}{gp:Act→World→Prop}{Q:Exit→Act→World→Prop}{a:Act}{w:World}
  (h:bareE P kv σ o K) (hr:eQ B w0 kp σ a w) (hk:∀σ' u w',K σ'→eQ B w0 kp σ' (a.put o.dst u) w'→gp (a.put o.dst u) w'):o.wp P a w gp Q:=by
 unfold bareE at h;split at h
 ·rename_i x xs ts av;obtain⟨yq,h,hf⟩:=ga h;obtain⟨f,eZ,rfl,h⟩:=SJ h;obtain⟨vs,b3,hx⟩:=ES _ _ h;clear h;unfold ab at b3;rcases b3 with ⟨rfl,e2⟩|e2
  ·have zu:∀{σ':St} {B:Nat→Prop} {w0:World} {aK:Nat→Prop} {φ:cp} {kp:List (V×Value)} {a:Act} {w:World},σ.le σ'→R B w0 aK φ σ' kp a w→true=true→a.eval x=.func (.func f) #[] #[]:=by
    intro σ' B w0 aK φ kp a w aY aQ _;have:=hf _ _ _ _ rfl (fR aY aQ x);simp only[VRel]at this;obtain⟨us,e,ai⟩:=this;simp only[VRels]at ai;rw[e];congr 1;exact Array.toList_eq_nil_iff.1 ai
   rcases e2 with e2|⟨as,rs,cQ,bb,pN,bD,bR⟩
   rotate_left
   ·obtain⟨r,h1,h2⟩:=H9 (K:=fun r=>r=⟨m4 rs σ.heap.length,(aHs rs).map H.toCln,[]⟩) (n:=σ.heap.length) (g:=true) (σ:=σ) av rfl zu hx cQ bb rfl;subst h2;obtain⟨aK,φ,aQ,b4⟩:=hr;exact h1 σ (St.le.refl σ) (fun i hi _=>yr hi) B w0 aK φ kp a w (fun i hi _ hd=>by have:=b4 i hd;omega) aQ rfl gp Q fun u w' cV jK=>hk pN u w' bR (Ie bD ⟨_,cV,jK,EY b4⟩)
   have Ih:∃r,gP P o true σ σ.heap.length r∧K (σ.de o.dst σ.heap.length r):=by
    rcases e2 with ⟨as,rs,h1,h2,aj⟩|⟨as,rs,h1,h2,aj⟩
    ·exact Ma (K:=fun r=>K (σ.de o.dst σ.heap.length r)) av rfl zu hx h1 h2 aj
    ·exact H9 (K:=fun r=>K (σ.de o.dst σ.heap.length r)) av rfl zu hx h1 h2 aj
   obtain⟨r,h1,h2⟩:=Ih;obtain⟨aK,φ,aQ,b4⟩:=hr;exact h1 σ (St.le.refl σ) (fun i hi _=>yr hi) B w0 aK φ kp a w (fun i hi _ hd=>by have:=b4 i hd;omega) aQ rfl gp Q fun u w' cV jK=>hk _ u w' h2 ⟨_,cV,jK,EY b4⟩
  ·obtain⟨ts,al,e2⟩:=e2;obtain⟨aK,φ,aQ,b4⟩:=hr;have SX:=hf _ _ _ _ rfl (yb aQ x);simp only[VRel]at SX;obtain⟨cs,SY,_⟩:=SX;have hin:eQ B w0 (ts.zip a.tmps.toList++kp) ⟨vs++eZ,σ.heap⟩ ⟨(xs.toList.map a.eval++cs.toList).toArray,[]⟩ w:=by
    refine abg al ⟨aK,φ,aQ,b4⟩ fun zz cV c4=>?_;have h1:=hx (St.le.refl σ) c4 rfl;have h2:=hf _ _ _ _ rfl (yb c4 x);simp only[VRel]at h2;obtain⟨CR,SZ,aj⟩:=h2;rw[SY]at SZ
    cases SZ
    exact CS h1 aj
   have hl:=(jR _ _ aQ.g8).trans (SU al).symm;have CT:=e2 B w0 (ts.zip a.tmps.toList++kp) _ w (by rw[List.map_append,bu,List.map_fst_zip (by omega)]) hin;have fa:(execOp a.eval o).run P w=(callFunc f (xs.toList.map a.eval++cs.toList).toArray).run P w:=by
    unfold execOp;rw[av];have:(xs.toList.map a.eval++cs.toList).toArray=xs.map a.eval++cs:=by
     apply Array.toList_inj.1;simp
    rw[this];simp[resolve,SY,Deferred.ofValue,invoke]
   have Bh:=aQ.mV;have a2:∀v w',(∃x hs',K ⟨fT ts o.dst x,hs'⟩∧eQ B w0 (ts.zip a.tmps.toList++kp) ⟨[x],hs'⟩ ⟨#[v],[]⟩ w')→gp (a.put o.dst v) w':=by
    rintro v w' ⟨kM,hs',h1,h2⟩;refine hk _ v w' h1 ?_;have:=abh hl o.dst h2;rw[show a=Act.mk a.tmps []from by cases a;simp only at Bh;rw[Bh]];exact this
   unfold Oper.wp;rw[fa];unfold Does at CT;split at CT
   ·rename_i h1;rw[h1,Oper.upon_enter];refine Calls.mono CT fun e w' he=>?_
    cases e with
    |returned v=>exact a2 v w' he
    |panicked c=>exact he.elim
    |outgrown=>exact he.elim
   ·rename_i h1;rw[h1,Oper.upon_value];exact a2 _ _ CT
   ·rename_i h1;rw[h1,Oper.upon_row];exact Rows.mono CT a2
   ·exact CT.elim
 ·exact abf h hr hk
theorem S0{g:Bool}{σ:St}{n:Nat}{o:Oper}{K:eD→Prop}(h:uK P g σ n o K):(g=true→∃r,gP P o true σ n r∧∃v,K ⟨v,r.new,r.upd⟩∧(v=r.v∨v=.bC true r.v))∧(g=false→∃v,K (cJ (.bC false v))):=by
 rcases h with ⟨rfl,h⟩|⟨rfl,h⟩|h
 ·obtain⟨r,h1,h2⟩:=CL h;exact⟨fun _=>⟨r,h1,r.v,h2,.inl rfl⟩,fun e=>(by cases e)⟩
 ·exact⟨fun e=>(by cases e),fun _=>⟨_,h⟩⟩
 ·obtain⟨r,h1,h2,aj,aE⟩:=CL h;obtain⟨v,new,upd⟩:=r;simp only at h2 aj aE;subst h2;subst aj
  cases g with
  |true=>exact⟨fun _=>⟨_,h1,.bC true v,aE,.inr rfl⟩,fun e=>(by cases e)⟩
  |false=>exact⟨fun e=>(by cases e),fun _=>⟨_,aE⟩⟩
theorem S1{az:Array Oper}{B:Nat→Prop}{w0:World}{kp:List (V×Value)}{kv:List V}(bu:kp.map (·.1)=kv){Q:Exit→Act→World→Prop}{K:St→Prop}(m1:∀σ a w,K σ→eQ B w0 kp σ a w→Q .normal a w) :
  ∀(l:List Oper) (b0:List Nat) (σ:St) (a:Act) (w:World),b0.map (az[·]?)=l.map some→opsE P kv az.toList l σ K→eQ B w0 kp σ a w→wpOps P az Q b0 a w
 |[],b0,σ,a,w,e,h,hr=>by
  have:b0=[]:=by simpa using e
  subst this;exact m1 σ a w h hr
 |o::l,[],σ,a,w,e,h,hr=>by simp at e
 |o::l,i::b0,σ,a,w,e,h,hr=>by
  simp only[List.map_cons,List.cons.injEq]at e;simp only[opsE]at h;simp only[wpOps,e.1];have next:∀σ' u w',opsE P kv az.toList l σ' K→eQ B w0 kp σ' (a.put o.dst u) w'→wpOps P az Q b0 (a.put o.dst u) w':=fun σ' u w' h' jK=>S1 bu m1 l b0 σ' _ w' e.2 h' jK
  unfold vk at h;split at h
  ·rename_i hg;rw[if_pos (by simp[Region.wanted,hg])];exact .inl (Ig bu h hr next)
  ·rename_i j h6 hg;unfold wT at h;split at h
   ·rename_i d hd;rw[Array.getElem?_toList]at hd;have key:∀g,Region.wanted o (yielded az a.tmps)=g→yu P kv g σ o (fun σ'=>opsE P kv az.toList l σ' K)→
      if Region.wanted o (yielded az a.tmps)then o.wp P a w (wpOps P az Q b0) Q∨(o.asks P a w∧LetsOut Q)else wpOps P az Q b0 (a.put o.dst undef) w:=by
     intro g hw hs;rw[hw];unfold yu at hs;rcases hs with hs|hs
     ·obtain⟨dy,dT⟩:=S0 hs
      cases g with
      |true=>
       simp only[if_true];obtain⟨r,h1,v,h2,aj⟩:=dy rfl;obtain⟨aK,φ,aQ,b4⟩:=hr;refine .inl (h1 σ (St.le.refl σ) (fun i hi _=>yr hi) B w0 aK φ kp a w (fun i hi _ hd=>by have:=b4 i hd;omega) aQ rfl _ _ fun u w' cV jK=>next _ u w' h2 ⟨_,cV,?_,EY (r:=⟨v,r.new,r.upd⟩) b4⟩);rcases aj with rfl|rfl
       ·exact jK
       ·exact Mg (σ:=σ) (dst:=o.dst) jK
      |false=>
       simp only[Bool.false_eq_true,if_false];obtain⟨v,h2⟩:=dT rfl;obtain⟨aK,φ,aQ,b4⟩:=hr;exact next _ undef w h2 ⟨_,φ,mD aQ o.dst (CN v),fun i hi=>by have:=b4 i hi;simpa [St.de,cJ,hnew,hupd]using this⟩
     ·cases g with
      |true=>simp only[if_true];exact .inl (Ig bu (hs.1 rfl) hr next)
      |false=>
       simp only[Bool.false_eq_true,if_false];obtain⟨aK,φ,aQ,b4⟩:=hr;exact next _ undef w (hs.2 rfl) ⟨_,φ,mD aQ o.dst (CN _),fun i hi=>by have:=b4 i hi;simpa [St.de,cJ,hnew,hupd]using this⟩
    obtain⟨aK,φ,aQ,b4⟩:=hr;unfold zJ at h;split at h
    ·rename_i b hv;obtain⟨u,k1,k2⟩:=CM (St.le.refl σ) aQ hv (by simp);rw[mY k2]at k1;exact key _ (by simp[Region.wanted,hg,yielded,hd,k1]) h
    ·rename_i c b hv;obtain⟨u,k1,k2⟩:=CM (St.le.refl σ) aQ hv (by simp);simp only[VRel]at k2;refine key _ ?_ h
     cases c with
     |true=>
      rw[mY (φ:=φ) (T:=cz φ σ.heap) (h:=w.heap) (b:=b) (u:=u) (by simp only[VRel];exact k2.1 rfl)]at k1;simp[Region.wanted,hg,yielded,hd,k1]
     |false=>
      rw[k2.2 rfl]at k1;simp[Region.wanted,hg,yielded,hd,k1,undef]
    ·exact h.elim
   ·exact h.elim
theorem aat{az:Array Oper}{B:Nat→Prop}{w0:World}{kp:List (V×Value)}{kv:List V}(bu:kp.map (·.1)=kv){Q:Exit→Act→World→Prop}{K:St→Prop}{N:Act→World→Prop}{σ:St}{o:Oper}{a:Act}{w:World}(h:vk P kv az.toList σ o K)(hr:eQ B w0 kp σ a w)
  (next:∀σ' u w',K σ'→eQ B w0 kp σ' (a.put o.dst u) w'→N (a.put o.dst u) w') :
  if Region.wanted o (yielded az a.tmps)then o.wp P a w N Q∨(o.asks P a w∧LetsOut Q)else N (a.put o.dst undef) w:=by
 unfold vk at h;split at h
 ·rename_i hg;rw[if_pos (by simp[Region.wanted,hg])];exact .inl (Ig bu h hr next)
 ·rename_i j h6 hg;unfold wT at h;split at h
  ·rename_i d hd;rw[Array.getElem?_toList]at hd;have key:∀g,Region.wanted o (yielded az a.tmps)=g→yu P kv g σ o K→
     if Region.wanted o (yielded az a.tmps)then o.wp P a w N Q∨(o.asks P a w∧LetsOut Q)else N (a.put o.dst undef) w:=by
    intro g hw hs;rw[hw];unfold yu at hs;rcases hs with hs|hs
    ·obtain⟨dy,dT⟩:=S0 hs
     cases g with
     |true=>
      simp only[if_true];obtain⟨r,h1,v,h2,aj⟩:=dy rfl;obtain⟨aK,φ,aQ,b4⟩:=hr;refine .inl (h1 σ (St.le.refl σ) (fun i hi _=>yr hi) B w0 aK φ kp a w (fun i hi _ hd=>by have:=b4 i hd;omega) aQ rfl _ _ fun u w' cV jK=>next _ u w' h2 ⟨_,cV,?_,EY (r:=⟨v,r.new,r.upd⟩) b4⟩);rcases aj with rfl|rfl
      ·exact jK
      ·exact Mg (σ:=σ) (dst:=o.dst) jK
     |false=>
      simp only[Bool.false_eq_true,if_false];obtain⟨v,h2⟩:=dT rfl;obtain⟨aK,φ,aQ,b4⟩:=hr;exact next _ undef w h2 ⟨_,φ,mD aQ o.dst (CN v),fun i hi=>by have:=b4 i hi;simpa [St.de,cJ,hnew,hupd]using this⟩
    ·cases g with
     |true=>simp only[if_true];exact .inl (Ig bu (hs.1 rfl) hr next)
     |false=>
      simp only[Bool.false_eq_true,if_false];obtain⟨aK,φ,aQ,b4⟩:=hr;exact next _ undef w (hs.2 rfl) ⟨_,φ,mD aQ o.dst (CN _),fun i hi=>by have:=b4 i hi;simpa [St.de,cJ,hnew,hupd]using this⟩
   obtain⟨aK,φ,aQ,b4⟩:=hr;unfold zJ at h;split at h
   ·rename_i b hv;obtain⟨u,k1,k2⟩:=CM (St.le.refl σ) aQ hv (by simp);rw[mY k2]at k1;exact key _ (by simp[Region.wanted,hg,yielded,hd,k1]) h
   ·rename_i c b hv;obtain⟨u,k1,k2⟩:=CM (St.le.refl σ) aQ hv (by simp);simp only[VRel]at k2;refine key _ ?_ h
    cases c with
    |true=>
     rw[mY (φ:=φ) (T:=cz φ σ.heap) (h:=w.heap) (b:=b) (u:=u) (by simp only[VRel];exact k2.1 rfl)]at k1;simp[Region.wanted,hg,yielded,hd,k1]
    |false=>
     rw[k2.2 rfl]at k1;simp[Region.wanted,hg,yielded,hd,k1,undef]
   ·exact h.elim
  ·exact h.elim
variable {P:Program}
abbrev dr:=Oper×Nat×eD
def vx(n:Nat)(r:eD)(id:Nat):Option H:=
 match(r.upd.reverse.find? (·.1 == id))with
 |some p=>some p.2
 |none=>if n≤id∧id<n+r.new.length then some (r.new.getD (id-n) .b')else none
theorem RN:∀(upd:List (Nat×H)) (hs:List H) (id:Nat),aL (hupd hs upd) id=((upd.reverse.find? (·.1 == id)).map (·.2)).getD (aL hs id)
 |[],hs,id=>rfl
 |(i,x)::r,hs,id=>by
  rw[hupd,RN r (b_ hs i x) id,hH];simp only[List.reverse_cons,List.find?_append]
  cases h:r.reverse.find? (·.1 == id)with
  |some p=>simp
  |none=>
   by_cases hi:i=id
   ·subst hi;simp
   ·have hb:(i == id)=false:=by simpa using hi
    have dC:¬id=i:=fun e=>hi e.symm;simp[hb,dC]
theorem wH(σ:St)(dst:Option Tmp)(n:Nat)(r:eD)(id:Nat):aL (σ.de dst n r).heap id=(vx n r id).getD (aL σ.heap id):=by
 simp only[St.de];rw[RN,A4];unfold vx
 cases h:r.upd.reverse.find? (·.1 == id)with
 |some p=>simp
 |none=>
  by_cases hc:n≤id∧id<n+r.new.length
  ·simp[hc]
  ·simp[hc]
theorem zv(σ:St)(dst:Option Tmp)(n:Nat)(r:eD)(t:Nat):(σ.de dst n r).tmps[t]?=if dst=some t then(if t<σ.tmps.length then some r.v else none)else σ.tmps[t]?:=by
 cases dst with
 |none=>simp[St.de]
 |some d=>
  simp only[St.de,List.getElem?_set,bF];by_cases h:d=t
  ·subst h;simp
  ·simp[h]
theorem A5(σ:St)(dst:Option Tmp)(n:Nat)(r:eD):(σ.de dst n r).tmps.length=σ.tmps.length:=by
 cases dst<;>simp[St.de]
def apS(S:Nat→Bool):Nat→List dr→St→St
 |_,[],σ=>σ
 |k,(o,n,r)::l,σ=>apS S (k+1) l (if S k then σ.de o.dst n r else σ)
theorem RO(S:Nat→Bool):∀(l:List dr) (k:Nat) (σ:St),(apS S k l σ).tmps.length=σ.tmps.length
 |[],_,_=>rfl
 |(o,n,r)::l,k,σ=>by
  rw[apS,RO S l];split
  ·exact A5 σ o.dst n r
  ·rfl
theorem HI(S lF:Nat→Bool)(t:Nat):∀(l:List dr) (k:Nat) (σ σ':St),σ.tmps[t]?=σ'.tmps[t]?→σ.tmps.length=σ'.tmps.length→(∀(j:Nat) (x:dr),l[j]?=some x→x.1.dst=some t→S (k+j)=lF (k+j))→(apS S k l σ).tmps[t]?=(apS lF k l σ').tmps[t]?
 |[],_,_,_,h,_,_=>h
 |(o,n,r)::l,k,σ,σ',h,hl,al=>by
  rw[apS,apS];have iP:∀b dE:Bool,(if b=true then σ.de o.dst n r else σ).tmps.length=(if dE=true then σ'.de o.dst n r else σ').tmps.length:=by
   intro b dE;cases b<;>cases dE<;>simp[A5,hl]
  refine HI S lF t l (k+1) _ _ ?_ (iP _ _) fun j x hx hd=>by
   have:=al (j+1) x (by simpa using hx) hd;rw[show k+1+j=k+(j+1)from by omega];exact this
  by_cases hd:o.dst=some t
  ·have h0:=al 0 (o,n,r) rfl hd;simp only[Nat.add_zero]at h0;rw[h0];split
   ·rw[zv,zv,if_pos hd,if_pos hd,hl]
   ·exact h
  ·have h1:∀(b:Bool) (gz:St),(if b=true then gz.de o.dst n r else gz).tmps[t]?=gz.tmps[t]?:=by
    intro b gz;cases b
    ·rfl
    ·simp only[if_true];rw[zv,if_neg hd]
   rw[h1,h1,h]
theorem Ew(S lF:Nat→Bool)(id:Nat):∀(l:List dr) (k:Nat) (σ σ':St),aL σ.heap id=aL σ'.heap id→(∀(j:Nat) (x:dr),l[j]?=some x→vx x.2.1 x.2.2 id≠none→S (k+j)=lF (k+j))→aL (apS S k l σ).heap id=aL (apS lF k l σ').heap id
 |[],_,_,_,h,_=>h
 |(o,n,r)::l,k,σ,σ',h,al=>by
  rw[apS,apS];refine Ew S lF id l (k+1) _ _ ?_ fun j x hx hd=>by
   have:=al (j+1) x (by simpa using hx) hd;rw[show k+1+j=k+(j+1)from by omega];exact this
  by_cases hd:vx n r id=none
  ·have h1:∀(b:Bool) (gz:St),aL (if b=true then gz.de o.dst n r else gz).heap id=aL gz.heap id:=by
    intro b gz;cases b
    ·rfl
    ·simp only[if_true];rw[wH,hd];rfl
   rw[h1,h1,h]
  ·have h0:=al 0 (o,n,r) rfl hd;simp only[Nat.add_zero]at h0;rw[h0];split
   ·rw[wH,wH,h]
   ·exact h
theorem RP(S:Nat→Bool)(t:Nat):∀(l:List dr) (k:Nat) (σ:St) (i:Nat) (x:dr),l[i]?=some x→x.1.dst=some t→S (k+i)=true→(∀(j:Nat) (y:dr),i<j→l[j]?=some y→y.1.dst=some t→S (k+j)=false)→(apS S k l σ).tmps[t]?=if t<σ.tmps.length then some x.2.2.v else none
 |[],_,_,i,_,hi,_,_,_=>by simp at hi
 |(o,n,r)::l,k,σ,0,x,hi,hd,hs,hl=>by
  simp at hi;subst hi;rw[apS];simp only[Nat.add_zero]at hs;rw[hs];have:=HI S (fun _=>false) t l (k+1) (σ.de o.dst n r) (σ.de o.dst n r) rfl rfl fun j y hy gX=>by
   have:=hl (j+1) y (by omega) (by simpa using hy) gX;rw[show k+1+j=k+(j+1)from by omega];exact this
  simp only[if_true];rw[this];have ec:∀(l:List dr) (k:Nat) (gz:St),apS (fun _=>false) k l gz=gz:=by
   intro l
   induction l with
   |nil=>intro k gz;rfl
   |cons y l dW=>intro k gz;obtain⟨o,n,r⟩:=y;rw[apS];simpa using dW (k+1) gz
  rw[ec,zv,if_pos hd]
 |(o,n,r)::l,k,σ,i+1,x,hi,hd,hs,hl=>by
  rw[apS,RP S t l (k+1) _ i x (by simpa using hi) hd (by rw[show k+1+i=k+(i+1)from by omega];exact hs) fun j y mz hy gX=>by
   have:=hl (j+1) y (by omega) (by simpa using hy) gX;rw[show k+1+j=k+(j+1)from by omega];exact this]
  split
  ·rw[A5]
  ·rfl
theorem RQ(S:Nat→Bool)(id:Nat):∀(l:List dr) (k:Nat) (σ:St) (i:Nat) (x:dr) (y:H),l[i]?=some x→vx x.2.1 x.2.2 id=some y→S (k+i)=true→(∀(j:Nat) (z:dr),i<j→l[j]?=some z→vx z.2.1 z.2.2 id≠none→S (k+j)=false)→aL (apS S k l σ).heap id=y
 |[],_,_,i,_,_,hi,_,_,_=>by simp at hi
 |(o,n,r)::l,k,σ,0,x,y,hi,hd,hs,hl=>by
  simp at hi;subst hi;rw[apS];simp only[Nat.add_zero]at hs;rw[hs];have:=Ew S (fun _=>false) id l (k+1) (σ.de o.dst n r) (σ.de o.dst n r) rfl fun j y hy gX=>by
   have:=hl (j+1) y (by omega) (by simpa using hy) gX;rw[show k+1+j=k+(j+1)from by omega];exact this
  simp only[if_true];rw[this];have ec:∀(l:List dr) (k:Nat) (gz:St),apS (fun _=>false) k l gz=gz:=by
   intro l
   induction l with
   |nil=>intro k gz;rfl
   |cons y l dW=>intro k gz;obtain⟨o,n,r⟩:=y;rw[apS];simpa using dW (k+1) gz
  rw[ec,wH,hd];rfl
 |(o,n,r)::l,k,σ,i+1,x,y,hi,hd,hs,hl=>by
  rw[apS];exact RQ S id l (k+1) _ i x y (by simpa using hi) hd (by rw[show k+1+i=k+(i+1)from by omega];exact hs) fun j z mz hz gX=>by
   have:=hl (j+1) z (by omega) (by simpa using hz) gX;rw[show k+1+j=k+(j+1)from by omega];exact this
theorem RR{B:Nat→Prop}{w0:World}{aK:Nat→Prop}{φ:cp}{ts ts':List V}{hs hs':List H}{kp:List (V×Value)}{a:Act}{w:World}(r:R B w0 aK φ ⟨ts,hs⟩ kp a w)(ht:ts'=ts)(h:∀i,aL hs' i=aL hs i):R B w0 aK φ ⟨ts',hs'⟩ kp a w:=by
 subst ht;have ah:cz φ hs'=cz φ hs:=by funext b;simp only[cz,h]
 have ai:∀i b,c5 φ hs' i b=c5 φ hs i b:=by intro i b;simp only[c5,h]
 refine⟨by simp only[ah];exact r.g8,by simp only[ah];exact r.kp,fun i=>by simp only[ah,h];exact r.hp i,fun i j b h1 h2=>?_,fun i β e hx=>r.e9 i β e (by simp only[h]at hx;exact hx),fun i b h1=>r.e_ i b (by rw[←ai];exact h1),r.fU,r.fP,r.bs,r.mV,r.ko⟩;simp only[ai]at h1 h2;exact r.dJ i j b h1 h2
inductive bH where
 |pre
 |dv
 |post
 deriving DecidableEq
abbrev bH.p:bH:=.post
abbrev bH.q:bH:=.pre
abbrev bH.u:bH:=.dv
def nv(rows:List (List bH))(i j:Nat):bH:=(rows.getD i []).getD j .post
def Cx(az:List Oper)(i j:Nat):Bool:=match az[i]? with|some o=>o.after.toList.any fun e=>Region.binds .any e&&e.on == j|none=>false
def Cy(az:List Oper)(rows:List (List bH))(m i j:Nat):Bool:=
 (match nv rows i j with
  |.pre=>decide (j<i)&&(Cx az i j||(List.range m).any fun k=>Cx az i k&&decide (nv rows k j=.pre)&&decide (k<i))
  |.post=>decide (j=i)||decide (nv rows j i=.pre)
  |.dv=>decide (j≠i)&&decide (nv rows j i=.dv)) &&
 (decide (j=i)||match az[i]?,az[j]? with|some x,some y=>decide (x.dst=none)||decide (x.dst≠y.dst)|_,_=>true)
def uA(az:List Oper)(rows:List (List bH)):Bool:=
 decide (rows.length=az.length)&&(List.range az.length).all fun i=>((match az[i]? with|some o=>o.after.toList.all fun e=>!Region.binds .any e||decide (e.on<i)|none=>true))&&(List.range az.length).all fun j=>Cy az rows az.length i j
theorem HJ{az:List Oper}{rows:List (List bH)}(h:uA az rows=true){i j:Nat}(hi:i<az.length)(al:j<az.length):Cy az rows az.length i j=true:=by
 simp only[uA,bP,List.all_eq_true,List.mem_range]at h;exact(h.2 i hi).2 j al
theorem Z_{az:List Oper}{rows:List (List bH)}(h:uA az rows=true){i:Nat}{o:Oper}(hi:az[i]?=some o){e:Edge}(he:e∈o.after.toList)(hb:Region.binds .any e=true):e.on<i:=by
 have hlt:i<az.length:=(List.getElem?_eq_some_iff.1 hi).1;simp only[uA,bP,List.all_eq_true,List.mem_range]at h;have:=(h.2 i hlt).1;rw[hi]at this;simp only[List.all_eq_true]at this;have:=this e he;simpa [hb]using this
theorem RS{az:List Oper}{rows:List (List bH)}(h:uA az rows=true){i j:Nat}(hi:i<az.length)(al:j<az.length)(hr:nv rows i j=.pre):j<i∧(Cx az i j=true∨∃k,Cx az i k=true∧nv rows k j=.pre∧k<i):=by
 have:=HJ h hi al;unfold Cy at this;rw[hr]at this;simp only[bP,Bool.or_eq_true,b2,List.any_eq_true,List.mem_range]at this;refine⟨this.1.1,this.1.2.imp id ?_⟩;rintro⟨k,_,⟨h1,h2⟩,aj⟩;exact⟨k,h1,h2,aj⟩
theorem Z'{az:List Oper}{rows:List (List bH)}(h:uA az rows=true){i j:Nat}(hi:i<az.length)(al:j<az.length)(hr:nv rows i j=.post):j=i∨nv rows j i=.pre:=by
 have:=HJ h hi al;unfold Cy at this;rw[hr]at this;simp only[bP,Bool.or_eq_true,b2]at this;exact this.1
theorem aaa{az:List Oper}{rows:List (List bH)}(h:uA az rows=true){i j:Nat}(hi:i<az.length)(al:j<az.length)(hr:nv rows i j=.dv):nv rows j i=.dv:=by
 have:=HJ h hi al;unfold Cy at this;rw[hr]at this;simp only[bP,b2]at this;exact this.1.2
theorem aab{az:List Oper}{rows:List (List bH)}(h:uA az rows=true){i j:Nat}{x y:Oper}(hx:az[i]?=some x)(hy:az[j]?=some y)(hne:j≠i){d:Tmp}(hd:x.dst=some d):y.dst≠some d:=by
 have hi:i<az.length:=(List.getElem?_eq_some_iff.1 hx).1;have al:j<az.length:=(List.getElem?_eq_some_iff.1 hy).1;have:=HJ h hi al;unfold Cy at this;simp only[bP,Bool.or_eq_true,b2,hne,false_or,hx,hy,hd]at this;rcases this.2 with h1|h1
 ·cases h1
 ·exact fun e=>h1 e.symm
def vy(ts:List V)(d:Option Tmp):List V:=match d with|some t=>ts.set t .ak|none=>ts
def kilH:List H→List (Nat×H)→List H
 |hs,[]=>hs
 |hs,(i,_)::r=>kilH (b_ hs i .b') r
def mask:List bH→List dr→List Oper→St→St
 |.pre::row,(o,n,r)::l,a6,σ=>mask row l a6 (σ.de o.dst n r)
 |.dv::row,(o,_,r)::l,a6,σ=>mask row l a6 ⟨vy σ.tmps o.dst,kilH σ.heap r.upd⟩
 |.post::row,_::l,a6,σ=>mask row l a6 σ
 |.dv::row,[],o::a6,σ=>mask row [] a6 ⟨vy σ.tmps o.dst,σ.heap⟩
 |.pre::row,[],_::a6,σ=>mask row [] a6 σ
 |.post::row,[],_::a6,σ=>mask row [] a6 σ
 |[],_,_,σ=>σ
 |_::_,[],[],σ=>σ
theorem LI:∀(upd:List (Nat×H)) (hs:List H) (id:Nat),aL (kilH hs upd) id=.b'∨(aL (kilH hs upd) id=aL hs id∧∀x,(id,x)∉upd)
 |[],hs,id=>.inr ⟨rfl,by simp⟩
 |(i,y)::r,hs,id=>by
  rw[kilH];rcases LI r (b_ hs i .b') id with h|⟨h1,h2⟩
  ·exact .inl h
  ·rw[hH]at h1;by_cases hi:id=i
   ·rw[if_pos hi]at h1;exact .inl h1
   ·rw[if_neg hi]at h1;exact .inr ⟨h1,fun x hx=>by
     rcases List.mem_cons.1 hx with hx|hx
     ·cases hx;exact hi rfl
     ·exact h2 x hx⟩
theorem zw{n:Nat}{r:eD}{id:Nat}(h1:∀x,(id,x)∉r.upd)(h2:¬(n≤id∧id<n+r.new.length)):vx n r id=none:=by
 unfold vx;rw[if_neg h2]
 cases h:r.upd.reverse.find? (·.1 == id)with
 |none=>rfl
 |some p=>
  exfalso;have hm:=List.mem_of_find?_eq_some h;have hp:=List.find?_some h;simp only[beq_iff_eq]at hp;exact h1 p.2 (by rw[←hp];simpa using hm)
def Asc:Nat→List dr→Prop
 |_,[]=>True
 |c,(_,n,r)::l=>n=c∧(∀p∈r.upd,p.1<n+r.new.length)∧Asc (c+r.new.length) l
structure Cz(jQ nw:St):Prop where
 len:jQ.tmps.length=nw.tmps.length
 g8:∀(t:Nat) (v:V),jQ.tmps[t]?=some v→v=.ak∨nw.tmps[t]?=some v
 hp:∀i,aL jQ.heap i=.b'∨aL nw.heap i=aL jQ.heap i
theorem Cz.de{jQ nw:St}(h:Cz jQ nw)(dst:Option Tmp)(n:Nat)(r:eD):Cz (jQ.de dst n r) (nw.de dst n r):=by
 refine⟨by rw[A5,A5,h.len],fun t v e=>?_,fun i=>?_⟩
 ·rw[zv]at e⊢;by_cases hd:dst=some t
  ·rw[if_pos hd]at e⊢;rw[←h.len];exact .inr e
  ·rw[if_neg hd]at e⊢;exact h.g8 t v e
 ·rw[wH,wH]
  cases vx n r i with
  |none=>exact h.hp i
  |some x=>exact .inr rfl
theorem RT(ts:List V)(d:Option Tmp)(t:Nat)(v:V)(h:(vy ts d)[t]?=some v):v=.ak∨(ts[t]?=some v∧d≠some t):=by
 cases d with
 |none=>exact .inr ⟨h,by simp⟩
 |some x=>
  simp only[vy,List.getElem?_set]at h;by_cases hx:x=t
  ·rw[if_pos hx]at h;split at h
   ·cases h;exact .inl rfl
   ·cases h
  ·rw[if_neg hx]at h;exact .inr ⟨h,fun e=>hx (aI e)⟩
theorem RU(ts:List V)(d:Option Tmp):(vy ts d).length=ts.length:=by cases d<;>simp[vy]
theorem Ex:∀(row:List bH) (a6:List Oper) (σ:St),(mask row [] a6 σ).heap=σ.heap
 |[],[],_=>rfl
 |[],_::_,_=>rfl
 |.pre::_,[],_=>rfl
 |.dv::_,[],_=>rfl
 |.post::_,[],_=>rfl
 |.pre::row,_::a6,σ=>Ex row a6 σ
 |.dv::row,o::a6,σ=>Ex row a6 ⟨vy σ.tmps o.dst,σ.heap⟩
 |.post::row,_::a6,σ=>Ex row a6 σ
theorem CA(S:Nat→Bool):∀(row:List bH) (l:List dr) (a6:List Oper) (tail:List dr) (k c:Nat) (jQ nw:St),tail.map (·.1)=a6→row.length=l.length+a6.length→Asc c (l++tail)→Cz jQ nw→(∀id,c≤id→aL jQ.heap id=.b')→
  (∀j,row[j]?=some .pre→j<l.length∧S (k+j)=true)→(∀j,row[j]?=some .post→S (k+j)=false)→(∀(j:Nat) (x:dr),row[j]?=some .dv→l.length≤j→tail[j-l.length]?=some x→S (k+j)=true→∀p∈x.2.2.upd,aL (mask row l a6 jQ).heap p.1=.b')→
  Cz (mask row l a6 jQ) (apS S k (l++tail) nw)
 |[],l,a6,tail,k,c,jQ,nw,ht,hl,_,h,_,_,_,_=>by
  have h1:l=[]:=List.eq_nil_of_length_eq_zero (by simp at hl;omega);have h2:a6=[]:=List.eq_nil_of_length_eq_zero (by simp at hl;omega);subst h1;subst h2;have aj:tail=[]:=by simpa using ht
  subst aj;simpa [mask,apS]using h
 |x::row,(o,n,r)::l,a6,tail,k,c,jQ,nw,ht,hl,ha,h,hd,hp,hq,hu=>by
  simp only[bB,Asc]at ha;obtain⟨rfl,RV,CB⟩:=ha;rw[bB,apS];have CC:∀j,row[j]?=some .pre→j<l.length∧S (k+1+j)=true:=fun j al=>by
   have:=hp (j+1) (by simpa using al);rw[show k+1+j=k+(j+1)from by omega];exact⟨by simpa using this.1,this.2⟩
  have pd:∀j,row[j]?=some .post→S (k+1+j)=false:=fun j al=>by
   have:=hq (j+1) (by simpa using al);rw[show k+1+j=k+(j+1)from by omega];exact this
  have nx:∀(j:Nat) (kM:dr),row[j]?=some .dv→l.length≤j→tail[j-l.length]?=some kM→S (k+1+j)=true→∀p∈kM.2.2.upd,aL (mask (x::row) ((o,n,r)::l) a6 jQ).heap p.1=.b':=fun j x h1 h2 aj aE=>by
   refine hu (j+1) x (by simpa using h1) (by simp;omega) ?_ (by rw[show k+(j+1)=k+1+j from by omega];exact aE);simpa using aj
  have uB:∀id,n+r.new.length≤id→∀y,(id,y)∉r.upd:=fun id ec y hy=>by have:=RV _ hy;simp only at this;omega
  cases x with
  |pre=>
   have h0:=(hp 0 rfl).2;simp only[Nat.add_zero]at h0;rw[h0];simp only[if_true,mask];refine CA S row l a6 tail (k+1) _ _ _ ht (by simpa [Nat.add_right_comm]using hl) CB (h.de o.dst n r) (fun id ec=>?_) CC pd nx;rw[wH,zw (uB id ec) (by omega)];exact hd id (by omega)
  |dv=>
   simp only[mask];refine CA S row l a6 tail (k+1) _ _ _ ht (by simpa [Nat.add_right_comm]using hl) CB ?_ (fun id ec=>?_) CC pd nx
   ·refine⟨?_,fun t v e=>?_,fun i=>?_⟩
    ·simp only[RU];rw[h.len];split
     ·rw[A5]
     ·rfl
    ·rcases RT _ _ _ _ e with h1|⟨h1,h2⟩
     ·exact .inl h1
     ·split
      ·rw[zv,if_neg h2];exact h.g8 t v h1
      ·exact h.g8 t v h1
    ·rcases LI r.upd jQ.heap i with h1|⟨h1,h2⟩
     ·exact .inl h1
     ·rw[h1];split
      ·by_cases hr:n≤i∧i<n+r.new.length
       ·exact .inl (hd i hr.1)
       ·rw[wH,zw h2 hr];exact h.hp i
      ·exact h.hp i
   ·rcases LI r.upd jQ.heap id with h1|⟨h1,h2⟩
    ·exact h1
    ·rw[h1];exact hd id (by omega)
  |post=>
   have h0:=hq 0 rfl;simp only[Nat.add_zero]at h0;rw[h0];simp only[Bool.false_eq_true,if_false,mask];exact CA S row l a6 tail (k+1) _ _ _ ht (by simpa [Nat.add_right_comm]using hl) CB h (fun id ec=>hd id (by omega)) CC pd nx
 |x::row,[],[],tail,k,c,jQ,nw,ht,hl,_,_,_,_,_,_=>by simp at hl
 |x::row,[],o::a6,tail,k,c,jQ,nw,ht,hl,ha,h,hd,hp,hq,hu=>by
  cases tail with
  |nil=>simp at ht
  |cons y tail=>
   obtain⟨o',n,r⟩:=y;simp only[List.map_cons,List.cons.injEq]at ht;obtain⟨rfl,ht⟩:=ht;simp only[bx,Asc]at ha;obtain⟨rfl,RV,CB⟩:=ha;simp only[bx,apS];have CC:∀j,row[j]?=some .pre→j<([]:List dr).length∧S (k+1+j)=true:=fun j al=>by
    have:=(hp (j+1) (by simpa using al)).1;simp at this
   have pd:∀j,row[j]?=some .post→S (k+1+j)=false:=fun j al=>by
    have:=hq (j+1) (by simpa using al);rw[show k+1+j=k+(j+1)from by omega];exact this
   have nx:∀(gz:St),gz.heap=jQ.heap→∀(j:Nat) (kM:dr),row[j]?=some .dv→([]:List dr).length≤j→tail[j-([]:List dr).length]?=some kM→S (k+1+j)=true→∀p∈kM.2.2.upd,aL (mask row [] a6 gz).heap p.1=.b':=fun gz aac j kM h1 h2 aj aE p hp=>by
    have:=hu (j+1) kM (by simpa using h1) (by simp) (by simpa using aj) (by rw[show k+(j+1)=k+1+j from by omega];exact aE) p hp;rw[Ex]at this⊢;rw[aac];exact this
   have iP:row.length=([]:List dr).length+a6.length:=by simp at hl⊢;omega
   have gX:∀id,n+r.new.length≤id→aL jQ.heap id=.b':=fun id ec=>hd id (by omega)
   cases x with
   |pre=>have:=(hp 0 rfl).1;simp at this
   |dv=>
    simp only[mask];have:=CA S row [] a6 tail (k+1) _ ⟨vy jQ.tmps o'.dst,jQ.heap⟩ (if S k=true then nw.de o'.dst n r else nw) ht iP (by simpa using CB) ?_ gX CC pd (nx _ rfl)
    ·simpa using this
    ·refine⟨?_,fun t v e=>?_,fun i=>?_⟩
     ·simp only[RU];rw[h.len];split
      ·rw[A5]
      ·rfl
     ·rcases RT _ _ _ _ e with h1|⟨h1,h2⟩
      ·exact .inl h1
      ·split
       ·rw[zv,if_neg h2];exact h.g8 t v h1
       ·exact h.g8 t v h1
     ·split
      ·rename_i hs;have aad:=hu 0 (o',n,r) rfl (by simp) (by simp) hs;by_cases hr:n≤i∧i<n+r.new.length
       ·exact .inl (hd i hr.1)
       ·by_cases hx:∃z,(i,z)∈r.upd
        ·obtain⟨z,hz⟩:=hx;have:=aad (i,z) hz;rw[Ex]at this;exact .inl this
        ·rw[wH,zw (fun z hz=>hx ⟨z,hz⟩) hr];exact h.hp i
      ·exact h.hp i
   |post=>
    have h0:=hq 0 rfl;simp only[Nat.add_zero]at h0;rw[h0];simp only[Bool.false_eq_true,if_false,mask];have:=CA S row [] a6 tail (k+1) _ jQ nw ht iP (by simpa using CB) h gX CC pd (nx _ rfl);simpa using this
def anyE(P:Program)(az:List Oper)(ed:St):List (List bH)→List Oper→List dr→Nat→(List dr→Prop)→Prop
 |row::rows,o::a6,l,n,K=>stepE P az (mask row l (o::a6) ed) n o fun r=>anyE P az ed rows a6 (l++[(o,n,r)]) (n+r.new.length) K
 |_,[],l,_,K=>K l
 |[],_::_,_,_,_=>False
def LJ:Nat→List dr→Prop
 |_,[]=>True
 |c,(_,n,r)::l=>n=c∧LJ (c+r.new.length) l
theorem RW{az:Array Oper}{ed:St}:∀(a6:List Oper) (rows:List (List bH)) (l:List dr) (n:Nat) (K:List dr→Prop),anyE P az.toList ed rows a6 l n K→
  ∃tail:List dr,tail.map (·.1)=a6∧K (l++tail)∧LJ n tail∧∀(j:Nat) (x:dr),tail[j]?=some x→∃row,rows[j]?=some row∧HK P az x.1 (mask row (l++tail.take j) (a6.drop j) ed) x.2.1 x.2.2
 |[],rows,l,n,K,h=>by
  have:K l:=by cases rows<;>exact h
  exact⟨[],rfl,by simpa using this,trivial,by simp⟩
 |o::a6,[],l,n,K,h=>h.elim
 |o::a6,row::rows,l,n,K,h=>by
  simp only[anyE]at h;obtain⟨r,h1,h2⟩:=aae h;obtain⟨tail,f_,gA,wI,zx⟩:=RW a6 rows _ _ K h2;refine⟨(o,n,r)::tail,by simp[f_],by simpa using gA,⟨rfl,wI⟩,fun j x al=>?_⟩
  cases j with
  |zero=>simp at al;subst al;exact⟨row,rfl,by simpa using h1⟩
  |succ j=>
   obtain⟨Ey,k1,k2⟩:=zx j x (by simpa using al);exact⟨Ey,by simpa using k1,by simpa using k2⟩
def allPre:List bH→Bool
 |[]=>true
 |.pre::r=>allPre r
 |_::_=>false
def ltE(b:Nat):List (Nat×H)→Prop
 |[]=>True
 |(i,_)::r=>i<b∧ltE b r
def updE:List (List bH)→Nat→List dr→Prop
 |row::rows,i,(_,n,r)::l=>(match r.upd with|[]=>True|_::_=>allPre (row.take i)=true)∧ltE (n+r.new.length) r.upd∧updE rows (i+1) l
 |_,_,[]=>True
 |[],_,_::_=>False
def zy(x:dr)(id:Nat):Bool:=!(decide (x.2.1≤id)&&decide (id<x.2.1+x.2.2.new.length))&&!(x.2.2.upd.any fun q=>q.1 == id)
def deadB:H→Bool
 |.b'=>true
 |_=>false
def okR(ed:St)(b9:List Nat):List bH→List (List bH)→List dr→List dr→List Oper→Bool
 |r::row,uC::rows,pre,x::l,o::az=>(match r with|.pre=>true|_=>b9.all fun id=>deadB (aL (mask uC pre (o::az) ed).heap id)&&zy x id)&&okR ed b9 row rows (pre++[x]) l az
 |_,_,_,[],_=>true
 |_,_,_,_::_,_=>false
def HL(ed:St)(row:List bH)(rows:List (List bH))(pre:List dr)(az:List Oper):List (Nat×H)→Bool
 |[]=>true
 |p::u=>okR ed (p.1::u.map (·.1)) row rows [] pre az
def upd2(ed:St)(Ez:List (List bH))(EA:List Oper):List (List bH)→List dr→List dr→Prop
 |row::rows,pre,(o,n,r)::l=>HL ed row Ez pre EA r.upd=true∧ltE (n+r.new.length) r.upd∧upd2 ed Ez EA rows (pre++[(o,n,r)]) l
 |_,_,[]=>True
 |[],_,_::_=>False
theorem RX{x:H}(h:deadB x=true):x=.b':=by cases x<;>first|rfl|cases h
theorem RY{ed:St}{b9:List Nat}:∀{l:List dr} {row:List bH} {rows:List (List bH)} {pre:List dr} {az:List Oper},okR ed b9 row rows pre l az=true→∀(k:Nat) (y:dr) (ρ:bH),l[k]?=some y→row[k]?=some ρ→ρ≠.pre→∀id∈b9,
  ∃uC,rows[k]?=some uC∧aL (mask uC (pre++l.take k) (az.drop k) ed).heap id=.b'∧zy y id=true
 |[],_,_,_,_,_,k,y,ρ,hy,_,_,_,_=>by simp at hy
 |x::l,[],_,_,_,h,_,_,_,_,_,_,_,_=>by simp[okR]at h
 |x::l,_::_,[],_,_,h,_,_,_,_,_,_,_,_=>by simp[okR]at h
 |x::l,_::_,_::_,_,[],h,_,_,_,_,_,_,_,_=>by simp[okR]at h
 |x::l,r::row,uC::rows,pre,o::az,h,k,y,ρ,hy,hr,hne,id,ec=>by
  simp only[okR,bP]at h
  cases k with
  |zero=>
   simp at hy hr;subst hy;subst hr;have h1:=h.1;refine⟨uC,rfl,?_⟩
   cases r with
   |pre=>exact absurd rfl hne
   |dv=>
    simp only[List.all_eq_true,bP]at h1;obtain⟨aj,aE⟩:=h1 id ec;exact⟨by simpa using RX aj,aE⟩
   |post=>
    simp only[List.all_eq_true,bP]at h1;obtain⟨aj,aE⟩:=h1 id ec;exact⟨by simpa using RX aj,aE⟩
  |succ k=>
   obtain⟨aaf,k1,k2,ee⟩:=RY h.2 k y ρ (by simpa using hy) (by simpa using hr) hne id ec;exact⟨aaf,by simpa using k1,by simpa using k2,ee⟩
theorem RZ:∀{row:List bH},allPre row=true→∀(j:Nat) (x:bH),row[j]?=some x→x=.pre
 |[],_,j,x,h=>by simp at h
 |y::row,h,j,x,hx=>by
  cases y<;>simp only[allPre]at h
  ·cases j with
   |zero=>simp at hx;exact hx.symm
   |succ j=>exact RZ h j x (by simpa using hx)
  ·cases h
  ·cases h
theorem LK{b:Nat}:∀{upd:List (Nat×H)},ltE b upd→∀p∈upd,p.1<b
 |[],_,p,hp=>by cases hp
 |(i,x)::r,h,p,hp=>by
  rcases List.mem_cons.1 hp with rfl|hp
  ·exact h.1
  ·exact LK h.2 p hp
theorem LL{ed:St}{Ez:List (List bH)}{EA:List Oper}:∀{l:List dr} {rows:List (List bH)} {pre:List dr},upd2 ed Ez EA rows pre l→∀(j:Nat) (x:dr),l[j]?=some x→∃row,rows[j]?=some row∧HL ed row Ez (pre++l.take j) EA x.2.2.upd=true∧∀p∈x.2.2.upd,p.1<x.2.1+x.2.2.new.length
 |[],_,_,_,j,x,h=>by simp at h
 |(o,n,r)::l,[],_,h,j,x,hx=>h.elim
 |(o,n,r)::l,row::rows,pre,h,j,x,hx=>by
  obtain⟨h1,h2,aj⟩:=h
  cases j with
  |zero=>simp at hx;subst hx;exact⟨row,rfl,by simpa using h1,LK h2⟩
  |succ j=>
   obtain⟨Ey,k1,k2,ee⟩:=LL aj j x (by simpa using hx);exact⟨Ey,by simpa using k1,by simpa using k2,ee⟩
theorem LM:∀{l:List dr} {rows:List (List bH)} {i:Nat},updE rows i l→∀(j:Nat) (x:dr),l[j]?=some x→∃row,rows[j]?=some row∧(x.2.2.upd=[]∨∀k,k<i+j→k<row.length→row[k]?=some .pre)∧∀p∈x.2.2.upd,p.1<x.2.1+x.2.2.new.length
 |[],_,_,_,j,x,h=>by simp at h
 |(o,n,r)::l,[],i,h,j,x,hx=>h.elim
 |(o,n,r)::l,row::rows,i,h,j,x,hx=>by
  obtain⟨h1,h2,aj⟩:=h
  cases j with
  |zero=>
   simp at hx;subst hx;refine⟨row,rfl,?_,LK h2⟩
   cases hu:r.upd with
   |nil=>exact .inl rfl
   |cons p ps=>
    rw[hu]at h1;right;intro k hk ni;have aag:k<(row.take i).length:=by simp;omega
    have:=RZ h1 k _ (b8 aag);rw[b8 ni];rw[List.getElem_take]at this;rw[this]
  |succ j=>
   obtain⟨Ey,k1,k2,ee⟩:=LM aj j x (by simpa using hx);exact⟨Ey,by simpa using k1,k2.imp id fun h k hk=>h k (by omega),ee⟩
theorem R0{c:Nat}:∀{l:List dr},LJ c l→(∀(j:Nat) (x:dr),l[j]?=some x→∀p∈x.2.2.upd,p.1<x.2.1+x.2.2.new.length)→Asc c l
 |[],_,_=>trivial
 |(o,n,r)::l,h,hu=>⟨h.1,hu 0 (o,n,r) rfl,R0 h.2 fun j x hx=>hu (j+1) x (by simpa using hx)⟩
theorem EB{c:Nat}:∀{l:List dr},Asc c l→∀(j:Nat) (x:dr),l[j]?=some x→c≤x.2.1∧(∀p∈x.2.2.upd,p.1<x.2.1+x.2.2.new.length)∧∀(k:Nat) (y:dr),j<k→l[k]?=some y→x.2.1+x.2.2.new.length≤y.2.1
 |[],_,j,x,h=>by simp at h
 |(o,n,r)::l,h,j,x,hx=>by
  obtain⟨rfl,h1,h2⟩:=h
  cases j with
  |zero=>
   simp at hx;subst hx;refine⟨Nat.le_refl _,h1,fun k y hk hy=>?_⟩
   cases k with
   |zero=>omega
   |succ k=>exact(EB h2 k y (by simpa using hy)).1
  |succ j=>
   obtain⟨k1,k2,ee⟩:=EB h2 j x (by simpa using hx);refine⟨by omega,k2,fun k y hk hy=>?_⟩
   cases k with
   |zero=>omega
   |succ k=>exact ee k y (by omega) (by simpa using hy)
theorem R1{p q:Nat→Bool}:∀(l:List Nat) (x:Nat),x∈l→(∀y,p y=true→q y=true)→q x=true→p x=false→l.countP p<l.countP q
 |[],x,h,_,_,_=>by cases h
 |y::l,x,h,LN,hq,hp=>by
  have aY:l.countP p≤l.countP q:=List.countP_mono_left fun z _=>LN z;rcases List.mem_cons.1 h with rfl|h
  ·rw[List.countP_cons_of_neg (by simp[hp]),List.countP_cons_of_pos hq];omega
  ·have:=R1 l x h LN hq hp;by_cases hy:p y=true
   ·rw[List.countP_cons_of_pos hy,List.countP_cons_of_pos (LN y hy)];omega
   ·rw[List.countP_cons_of_neg hy];by_cases R2:q y=true
    ·rw[List.countP_cons_of_pos R2];omega
    ·rw[List.countP_cons_of_neg R2];exact this
structure Good(P:Program)(az:Array Oper)(rows:List (List bH))(its:List dr)(ed:St):Prop where
 A6:uA az.toList rows=true
 fst:its.map (·.1)=az.toList
 asc:Asc ed.heap.length its
 upd:∀(i:Nat) (x:dr),its[i]?=some x→∀p∈x.2.2.upd,∀(k:Nat) (y:dr),k<i→its[k]?=some y→nv rows i k≠.pre→∃uC,rows[k]?=some uC∧aL (mask uC (its.take k) (az.toList.drop k) ed).heap p.1=.b'∧zy y p.1=true
 vz:∀(i:Nat) (row:List bH),rows[i]?=some row→row.length=az.size
 step:∀(i:Nat) (x:dr),its[i]?=some x→∃row,rows[i]?=some row∧HK P az x.1 (mask row (its.take i) (az.toList.drop i) ed) x.2.1 x.2.2
def R3(az:Array Oper)(S:Nat→Bool):Prop:=∀i o,az[i]?=some o→S i=true→∀e∈o.after,Region.binds .any e=true→S e.on=true
theorem R4{az:Array Oper}{rows:List (List bH)}(h:uA az.toList rows=true){S:Nat→Bool}(hc:R3 az S):∀(i:Nat),(∀e o,az[i]?=some o→e∈o.after→Region.binds .any e=true→S e.on=true)→∀j,i<az.size→j<az.size→nv rows i j=.pre→S j=true:=by
 intro i
 induction i using Nat.strongRecOn with
 |_ i dW=>
  intro he j hi al hr;have HM:∀k,Cx az.toList i k=true→S k=true:=by
   intro k hk;unfold Cx at hk;rw[Array.getElem?_toList,Array.getElem?_eq_getElem hi]at hk;simp only[List.any_eq_true,bP,beq_iff_eq]at hk;obtain⟨e,h1,h2,aj⟩:=hk;rw[←aj];exact he e _ (Array.getElem?_eq_getElem hi) (by simpa using h1) h2
  obtain⟨h1,h2|⟨k,h2,aj,aE⟩⟩:=RS h (by simpa using hi) (by simpa using al) hr
  ·exact HM j h2
  ·have hk:=HM k h2;exact dW k aE (fun e o av vh hb=>hc k o av hk e vh hb) j (by omega) al aj
section
variable {az:Array Oper} {rows:List (List bH)} {its:List dr} {ed:St} {B:Nat→Prop} {w0:World} {kp:List (V×Value)} {Q:Exit→Act→World→Prop}
theorem aah(G:Good P az rows its ed)(m1:∀a w,(∃aK φ,R B w0 aK φ (apS (fun _=>true) 0 its ed) kp a w∧∀id,aK id→id<ed.heap.length∨∃(j:Nat) (x:dr),its[j]?=some x∧x.2.1≤id∧id<x.2.1+x.2.2.new.length)→Q .normal a w) :
  ∀(fuel:Nat) (listed:Array Bool) (a:Act) (w:World),listed.size=az.size→R3 az (fun i=>listed.getD i false)→(List.range az.size).countP (fun i=>!(listed.getD i false))≤fuel→
   (∃aK φ,R B w0 aK φ (apS (fun i=>listed.getD i false) 0 its ed) kp a w∧∀id,aK id→id<ed.heap.length∨∃(j:Nat) (x:dr),its[j]?=some x∧listed.getD j false=true∧x.2.1≤id∧id<x.2.1+x.2.2.new.length)→
   wpAny P .any az Q fuel listed a w:=by
 have ff:its.length=az.size:=by
  have:=congrArg List.length G.fst;simpa using this
 have LO:∀(i:Nat) (x:dr),its[i]?=some x→az[i]?=some x.1:=by
  intro i x hx;have:=congrArg (·[i]?) G.fst;simp only[List.getElem?_map,hx,Option.map_some,Array.getElem?_toList]at this;exact this.symm
 have A7:∀(listed:Array Bool),listed.size=az.size→Region.ready .any az listed=[]→∀i,i<az.size→listed.getD i false=true:=by
  intro listed hs hr i
  induction i using Nat.strongRecOn with
  |_ i dW=>
   intro hi;by_cases h:listed.getD i false=true
   ·exact h
   ·exfalso;have:i∈Region.ready .any az listed:=by
     rw[mem_ready];refine⟨?_,az[i],Array.getElem?_eq_getElem hi,fun e he hb=>?_⟩
     ·have:i<listed.size:=by omega
      simp only[Array.getD_eq_getD_getElem?,Array.getElem?_eq_getElem this,Option.getD_some]at h⊢;simpa using h
     ·have:=Z_ G.A6 (i:=i) (o:=az[i]) (by simp[hi]) (e:=e) (by simpa using he) hb;exact dW e.on this (by omega)
    rw[hr]at this;cases this
 have R5:∀(listed:Array Bool) (a:Act) (w:World),listed.size=az.size→Region.ready .any az listed=[]→(∃aK φ,R B w0 aK φ (apS (fun i=>listed.getD i false) 0 its ed) kp a w∧∀id,aK id→id<ed.heap.length∨∃(j:Nat) (x:dr),its[j]?=some x∧listed.getD j false=true∧x.2.1≤id∧id<x.2.1+x.2.2.new.length)→Q .normal a w:=by
  rintro listed a w hs hr ⟨aK,φ,aQ,b4⟩;refine m1 a w ⟨aK,φ,RR aQ ?_ ?_,fun id ec=>(b4 id ec).imp (fun h=>h) fun⟨j,x,h1,_,h2⟩=>⟨j,x,h1,h2⟩⟩
  ·apply List.ext_getElem?;intro t;refine HI _ _ t its 0 ed ed rfl rfl fun j x hx _=>?_;have al:j<its.length:=(List.getElem?_eq_some_iff.1 hx).1;simp only[Nat.zero_add];exact(A7 listed hs hr j (by omega)).symm
  ·intro id;refine Ew _ _ id its 0 ed ed rfl fun j x hx _=>?_;have al:j<its.length:=(List.getElem?_eq_some_iff.1 hx).1;simp only[Nat.zero_add];exact(A7 listed hs hr j (by omega)).symm
 intro fuel
 induction fuel with
 |zero=>
  intro listed a w hs hc aai aQ;have hr:Region.ready .any az listed=[]:=by
   apply List.eq_nil_iff_forall_not_mem.2;intro i hi;obtain⟨h1,o,av,_⟩:=mem_ready.1 hi;have hlt:i<az.size:=(Array.getElem?_eq_some_iff.1 av).1;have h2:(List.range az.size).countP (fun i=>!(listed.getD i false))=0:=by omega
   have:=List.countP_eq_zero.1 h2 i (List.mem_range.2 hlt);have hl:i<listed.size:=by omega
   simp only[Array.getD_eq_getD_getElem?,Array.getElem?_eq_getElem hl,Option.getD_some]at this h1;rw[h1]at this;simp at this
  exact⟨hr,R5 listed a w hs hr aQ⟩
 |succ fuel dW=>
  intro listed a w hs hc aai aQ;refine⟨fun hr=>R5 listed a w hs hr aQ,fun i hi=>?_⟩;obtain⟨h1,o,av,CD⟩:=mem_ready.1 hi;have hlt:i<az.size:=(Array.getElem?_eq_some_iff.1 av).1;have hl:i<listed.size:=by omega
  have CE:listed.getD i false=false:=by
   simp only[Array.getD_eq_getD_getElem?,Array.getElem?_eq_getElem hl,Option.getD_some]at h1⊢;exact h1
  have LP:i<its.length:=by omega
  have hx:its[i]?=some its[i]:=b8 LP;generalize its[i]=x at hx;have aaj:x.1=o:=by have:=LO i x hx;rw[av]at this;exact(aI this).symm
  obtain⟨row,EC,aak⟩:=G.step i x hx;have nN:∀j y,row[j]?=some y→nv rows i j=y∧j<az.size:=by
   intro j y hy;refine⟨by unfold nv;simp[EC,hy],?_⟩;have:=(List.getElem?_eq_some_iff.1 hy).1;rw[G.vz i row EC]at this;exact this
  have R6:∀j,row[j]?=some .pre→j<i∧listed.getD j false=true:=by
   intro j al;obtain⟨h2,aj⟩:=nN j _ al;exact⟨(RS G.A6 (by simpa using hlt) (by simpa using aj) h2).1,R4 G.A6 hc i (fun e o' HN he hb=>by rw[av]at HN;cases HN;exact CD e he hb) j hlt aj h2⟩
  have R7:∀j,row[j]?=some .post→listed.getD j false=false:=by
   intro j al;obtain⟨h2,aj⟩:=nN j _ al;rcases Z' G.A6 (by simpa using hlt) (by simpa using aj) h2 with aE|aE
   ·rw[aE];exact CE
   ·cases hs':listed.getD j false with
    |false=>rfl
    |true=>
     have:=R4 G.A6 hc j (fun e o' HN he hb=>hc j o' HN hs' e he hb) i aj hlt aE;rw[CE]at this;cases this
  have R8:∀(j:Nat) (y:dr),row[j]?=some .dv→i<j→its[j]?=some y→∀p∈y.2.2.upd,aL (mask row (its.take i) (az.toList.drop i) ed).heap p.1=.b'∧zy x p.1=true:=by
   intro j y al mz hy p hp;obtain⟨h2,aj⟩:=nN j _ al;obtain⟨uC,cC,c8,fs⟩:=G.upd j y hy p hp i x mz hx (by
    rw[aaa G.A6 (by simpa using hlt) (by simpa using aj) h2];intro h;cases h)
   rw[EC]at cC;cases cC;exact⟨c8,fs⟩
  have R9:∀(j:Nat) (y:dr),i<j→its[j]?=some y→listed.getD j false=true→∀p∈y.2.2.upd,zy x p.1=true:=by
   intro j y mz hy hs';have al:j<az.size:=by have:=(List.getElem?_eq_some_iff.1 hy).1;omega
   have aal:j<row.length:=by rw[G.vz i row EC];exact al
   have h2:row[j]?=some row[j]:=b8 aal
   cases gN:row[j]with
   |pre=>rw[gN]at h2;have:=(R6 j h2).1;omega
   |post=>rw[gN]at h2;have:=R7 j h2;rw[this]at hs';cases hs'
   |dv=>rw[gN]at h2;exact fun p hp=>(R8 j y h2 mz hy p hp).2
  have aY:Cz (mask row (its.take i) (az.toList.drop i) ed) (apS (fun i=>listed.getD i false) 0 its ed):=by
   have jk:(its.take i).length=i:=by simp;omega
   have:=CA (fun i=>listed.getD i false) row (its.take i) (az.toList.drop i) (its.drop i) 0 ed.heap.length ed ed (by rw[List.map_drop,G.fst]) (by rw[G.vz i row EC];simp;omega) (by rw[List.take_append_drop];exact G.asc)
    ⟨rfl,fun t v e=>.inr e,fun i=>.inr rfl⟩ (fun id ec=>by unfold aL;rw[ib,List.getElem?_eq_none ec];rfl)
    (fun j al=>by rw[jk,Nat.zero_add];exact R6 j al) (fun j al=>by rw[Nat.zero_add];exact R7 j al)
    (fun j y al mz hy hs'=>by
     rw[jk]at mz hy;rw[Nat.zero_add]at hs';rw[List.getElem?_drop,show i+(j-i)=j from by omega]at hy;rcases Nat.lt_or_ge i j with h|h
     ·exact fun p hp=>(R8 j y al h hy p hp).1
     ·have:j=i:=by omega
      subst this;rw[CE]at hs';cases hs')
   rw[List.take_append_drop]at this;exact this
  obtain⟨aK,φ,eK,b4⟩:=aQ;have pE:=EB G.asc i x hx;have HO:∀(j:Nat) (y:dr) (id:Nat),j≠i→its[j]?=some y→listed.getD j false=true→x.2.1≤id→id<x.2.1+x.2.2.new.length→vx y.2.1 y.2.2 id=none:=by
   intro j y id kr hy hs' h2 aj;have R_:=EB G.asc j y hy;rcases Nat.lt_or_gt_of_ne kr with h|h
   ·have aE:=R_.2.2 i x h hx;exact zw (fun z hz=>by have:=R_.2.1 _ hz;simp only at this;omega) (by omega)
   ·have aE:=pE.2.2 j y h hy;refine zw (fun z hz=>?_) (by omega);have:=R9 j y h hy hs' (id,z) hz;simp only[zy,bP,Bool.not_eq_true',Bool.and_eq_false_iff,dN]at this;omega
  have uB:∀id,x.2.1≤id→id<x.2.1+x.2.2.new.length→aL (apS (fun i=>listed.getD i false) 0 its ed).heap id=.b':=by
   intro id h2 aj;have:=Ew (fun i=>listed.getD i false) (fun _=>false) id its 0 ed ed rfl fun j y hy hne=>by
    simp only[Nat.zero_add]
    cases hs':listed.getD j false with
    |false=>rfl
    |true=>
     exfalso;by_cases kr:j=i
     ·subst kr;rw[CE]at hs';cases hs'
     ·exact hne (HO j y id kr hy hs' h2 aj)
   rw[this];have ec:∀(l:List dr) (k:Nat) (gz:St),apS (fun _=>false) k l gz=gz:=by
    intro l
    induction l with
    |nil=>intro k gz;rfl
    |cons y l dW=>intro k gz;obtain⟨o,n,r⟩:=y;rw[apS];simpa using dW (k+1) gz
   rw[ec];have:ed.heap.length≤id:=by have:=pE.1;omega
   unfold aL;rw[ib,List.getElem?_eq_none this];rfl
  have iR:∀id,x.2.1≤id→id<x.2.1+x.2.2.new.length→¬aK id:=by
   intro id h2 aj hd;rcases b4 id hd with aE|⟨j,y,hy,hs',aE,b3⟩
   ·have:=pE.1;omega
   ·by_cases kr:j=i
    ·subst kr;rw[CE]at hs';cases hs'
    ·rcases Nat.lt_or_gt_of_ne kr with h|h
     ·have:=(EB G.asc j y hy).2.2 i x h hx;omega
     ·have:=pE.2.2 j y h hy;omega
  have uD:∀j,(listed.setIfInBounds i true).getD j false=if j=i then true else listed.getD j false:=by
   intro j;by_cases kr:j=i
   ·subst kr;rw[if_pos rfl];simp[hl]
   ·rw[if_neg kr];exact getD_set_ne false (Ne.symm kr)
  have hk:=aak (apS (fun i=>listed.getD i false) 0 its ed) ⟨aY.g8,aY.hp⟩ uB B w0 aK φ kp a w iR eK (wpAny P .any az Q fuel (listed.setIfInBounds i true)) Q fun u w' cV jK=>by
   refine dW _ _ w' (by simp[hs]) (fun j aam al LQ e he hb=>?_) ?_ ⟨_,cV,RR jK ?_ ?_,fun id ec=>?_⟩
   ·simp only[uD]at LQ⊢;by_cases R':e.on=i
    ·rw[if_pos R']
    ·rw[if_neg R'];by_cases kr:j=i
     ·subst kr;rw[av]at al;cases al;exact CD e he hb
     ·rw[if_neg kr]at LQ;exact hc j aam al LQ e he hb
   ·have:=R1 (p:=fun j=>!((listed.setIfInBounds i true).getD j false)) (q:=fun j=>!(listed.getD j false)) (List.range az.size) i (List.mem_range.2 hlt) (fun y hy=>by
     rw[uD]at hy;by_cases dz:y=i
     ·rw[if_pos dz]at hy;cases hy
     ·rw[if_neg dz]at hy;exact hy) (by rw[CE];rfl) (by rw[uD,if_pos rfl];rfl)
    omega
   ·apply List.ext_getElem?;intro t;have aan:=zv (apS (fun i=>listed.getD i false) 0 its ed) x.1.dst x.2.1 x.2.2 t;refine Eq.trans ?_ aan.symm;by_cases hd:x.1.dst=some t
    ·rw[if_pos hd,RO];refine RP _ t its 0 ed i x hx hd (by simp[uD]) fun j y mz hy LR=>?_;exfalso;exact aab G.A6 (i:=i) (j:=j) (x:=x.1) (y:=y.1) (by simp[LO i x hx]) (by simp[LO j y hy]) (by omega) hd LR
    ·rw[if_neg hd];refine HI _ _ t its 0 ed ed rfl rfl fun j y hy LR=>?_;simp only[Nat.zero_add,uD];by_cases kr:j=i
     ·subst kr;rw[hx]at hy;cases hy;exact absurd LR hd
     ·rw[if_neg kr]
   ·intro id;refine Eq.trans ?_ (wH (apS (fun i=>listed.getD i false) 0 its ed) x.1.dst x.2.1 x.2.2 id).symm
    cases ht:vx x.2.1 x.2.2 id with
    |none=>
     refine Ew _ _ id its 0 ed ed rfl fun j y hy hne=>?_;simp only[Nat.zero_add,uD];by_cases kr:j=i
     ·subst kr;rw[hx]at hy;cases hy;exact absurd ht hne
     ·rw[if_neg kr]
    |some z=>
     refine RQ _ id its 0 ed i x z hx ht (by simp[uD]) fun j y mz hy hne=>?_;simp only[Nat.zero_add,uD];rw[if_neg (by omega)]
     cases hs':listed.getD j false with
     |false=>rfl
     |true=>
      exfalso;have hu:∀z,(id,z)∉y.2.2.upd:=fun aao fg=>by
       have b3:=R9 j y mz hy hs' (id,aao) fg;simp only[zy,bP,Bool.not_eq_true',Bool.and_eq_false_iff,dN]at b3;rw[zw (fun q hq=>by
        have e2:=List.any_eq_false.1 b3.2 (id,q) hq;simp at e2) (by omega)]at ht
       cases ht
      have aE:=pE.2.2 j y mz hy;have akQ:id<x.2.1+x.2.2.new.length:=by
       rcases Nat.lt_or_ge id (x.2.1+x.2.2.new.length)with h|h
       ·exact h
       ·rw[zw (fun z hz=>by have:=pE.2.1 _ hz;simp only at this;omega) (by omega)]at ht;cases ht
      exact hne (zw hu (by omega))
   ·rcases ec with ec|ec
    ·rcases b4 id ec with aE|⟨j,y,hy,hs',aE⟩
     ·exact .inl aE
     ·exact .inr ⟨j,y,hy,by rw[uD];split<;>first|rfl|exact hs',aE⟩
    ·exact .inr ⟨i,x,hx,by rw[uD,if_pos rfl],ec⟩
  unfold wpOp;simp only[av];rw[aaj]at hk;split at hk
  ·rename_i hw;rw[if_pos hw];exact hk
  ·rename_i hw;rw[if_neg hw];exact hk
end
def seqAp:List dr→St→St
 |[],σ=>σ
 |(o,n,r)::l,σ=>seqAp l (σ.de o.dst n r)
theorem Sa:∀(l:List dr) (k:Nat) (σ:St),apS (fun _=>true) k l σ=seqAp l σ
 |[],_,_=>rfl
 |(o,n,r)::l,k,σ=>by rw[apS,seqAp];simpa using Sa l (k+1) (σ.de o.dst n r)
theorem Sb:∀(l:List dr) (c:Nat) (σ:St),Asc c l→c≤σ.heap.length→σ.heap.length≤(seqAp l σ).heap.length∧∀(j:Nat) (x:dr),l[j]?=some x→x.2.1+x.2.2.new.length≤(seqAp l σ).heap.length
 |[],_,_,_,_=>⟨Nat.le_refl _,by simp⟩
 |(o,n,r)::l,c,σ,ha,hc=>by
  obtain⟨rfl,h1,h2⟩:=ha;have yk:=ED r.new σ.heap n;have Lq:=HP r.upd (hnew σ.heap n r.new);have LS:σ.heap.length≤(σ.de o.dst n r).heap.length∧n+r.new.length≤(σ.de o.dst n r).heap.length:=by
   simp only[St.de];refine⟨by omega,?_⟩;rcases yk.2 with h|h
   ·have aj:=yk.1;rw[h]at Lq aj⊢;simp only[ft];omega
   ·omega
  obtain⟨k1,k2⟩:=Sb l _ (σ.de o.dst n r) h2 LS.2;simp only[seqAp];refine⟨by omega,fun j x hx=>?_⟩
  cases j with
  |zero=>simp at hx;subst hx;simp only;omega
  |succ j=>exact k2 j x (by simpa using hx)
def Sc(P:Program)(az:Array Oper)(σ:St)(K:St→Prop):Prop:=
 ∃rows,uA az.toList rows=true∧rows.all (fun r=>r.length == az.size)=true∧anyE P az.toList σ rows az.toList [] σ.heap.length fun its=>(updE rows 0 its∨upd2 σ rows az.toList rows [] its)∧K (seqAp its σ)
theorem aap{az:Array Oper}{B:Nat→Prop}{w0:World}{kp:List (V×Value)}{Q:Exit→Act→World→Prop}{K:St→Prop}(hm:P.follows .mixedOrders=true){id:Nat}(m1:∀σ a w,K σ→eQ B w0 kp σ a w→Q .normal a w){σ:St}{a:Act}{w:World}
  (h:Sc P az σ K) (hr:eQ B w0 kp σ a w):(Code.region id az true).wp P Q a w:=by
 obtain⟨rows,h1,h2,aj⟩:=h;obtain⟨its,f_,⟨gA,Sd⟩,wI,zx⟩:=RW _ _ _ _ _ aj;simp only[bx]at gA Sd zx;have ff:its.length=az.size:=by
  have:=congrArg List.length f_;simpa using this
 have nN:∀(i:Nat) (row:List bH),rows[i]?=some row→row.length=az.size:=fun i row hi=>by
  have:=List.all_eq_true.1 h2 row (List.mem_of_getElem? hi);simpa using this
 have pE:Asc σ.heap.length its:=R0 wI fun j x hx=>by
  rcases gA with gA|gA
  ·obtain⟨_,_,_,h⟩:=LM gA j x hx;exact h
  ·obtain⟨_,_,_,h⟩:=LL gA j x hx;exact h
 have G:Good P az rows its σ:=⟨h1,f_,pE,fun i x hx p hp k y hk hy hne=>by
  have Se:k<az.size:=by have:=(List.getElem?_eq_some_iff.1 hy).1;omega
  rcases gA with gA|gA
  ·exfalso;obtain⟨row,k1,k2,_⟩:=LM gA i x hx;rcases k2 with k2|k2
   ·rw[k2]at hp;cases hp
   ·have ni:k<row.length:=by rw[nN i row k1];exact Se
    have:=k2 k (by omega) ni;apply hne;unfold nv;simp[k1,this]
  ·obtain⟨row,k1,k2,_⟩:=LL gA i x hx;have ni:k<row.length:=by rw[nN i row k1];exact Se
   have Sf:row[k]?=some row[k]:=b8 ni;have aaq:row[k]≠.pre:=fun h=>hne (by unfold nv;simp[k1,Sf,h])
   cases hu:x.2.2.upd with
   |nil=>rw[hu]at hp;cases hp
   |cons q u=>
    rw[hu]at hp k2;simp only[HL,bx]at k2;have HE:(its.take i)[k]?=some y:=by rw[List.getElem?_take,if_pos hk];exact hy
    obtain⟨uC,cC,c8,fs⟩:=RY k2 k y _ HE Sf aaq p.1 (by
     rcases List.mem_cons.1 hp with rfl|hp
     ·simp
     ·exact List.mem_cons_of_mem _ (List.mem_map.2 ⟨p,hp,rfl⟩))
    refine⟨uC,cC,?_,fs⟩;rw[bx,List.take_take,Nat.min_eq_left (by omega)]at c8;exact c8,nN,zx⟩
 obtain⟨aK,φ,aQ,b4⟩:=hr;refine wp_region_any hm (aah G (B:=B) (w0:=w0) (kp:=kp) (fun a' w' hA=>?_) az.size (Array.replicate az.size false) a {w with drawn:=w.drawn+1} (by simp) (fun i o av hs=>?_) ?_ ⟨aK,φ,?_,fun i hi=>.inl (b4 i hi)⟩)
 ·obtain⟨zz,cV,eK,aar⟩:=hA;rw[Sa]at eK;have xG:=Sb its _ σ pE (Nat.le_refl _);refine m1 (seqAp its σ) a' w' Sd ⟨zz,cV,eK,fun i hi=>?_⟩;rcases aar i hi with h|⟨j,x,hx,_,h⟩
  ·omega
  ·have:=xG.2 j x hx;omega
 ·exfalso;have hlt:i<az.size:=(Array.getElem?_eq_some_iff.1 av).1;simp[hlt]at hs
 ·refine Nat.le_trans (List.countP_le_length) ?_;simp
 ·have ec:∀(l:List dr) (k:Nat) (gz:St),apS (fun i=>(Array.replicate az.size false).getD i false) k l gz=gz:=by
   intro l
   induction l with
   |nil=>intro k gz;rfl
   |cons y l dW=>
    intro k gz;obtain⟨o,n,r⟩:=y;rw[apS,dW];have:(Array.replicate az.size false).getD k false=false:=by
     by_cases hk:k<az.size<;>simp[hk]
    simp only[this];rfl
  rw[ec];exact Sg aQ rfl aQ.fP.drew
def rdyE(S:List Bool):List Oper→List Bool→List Bool→List (Oper×List Bool)
 |o::os,pre,false::post=>if o.after.toList.all (fun e=>!Region.binds .any e||S.getD e.on false)=true then(o,pre++true::post)::rdyE S os (pre++[false]) post else rdyE S os (pre++[false]) post
 |_::os,pre,true::post=>rdyE S os (pre++[true]) post
 |_,_,_=>[]
def vj(l:List (Oper×List Bool))(F:Oper→List Bool→Prop):Prop:=
 match l with
 |[]=>True
 |x::r=>F x.1 x.2∧vj r F
def exE(P:Program)(kv:List V)(az:List Oper):Nat→List Bool→St→(St→Prop)→Prop
 |0,S,σ,K=>rdyE S az [] S=[]∧K σ
 |n+1,S,σ,K=>(rdyE S az [] S=[]→K σ)∧vj (rdyE S az [] S) fun o lF=>vk P kv az σ o fun σ'=>exE P kv az n lF σ' K
theorem HQ{S:List Bool}:∀(os:List Oper) (pre post:List Bool) (i:Nat) (o:Oper),os[i]?=some o→post[i]?=some false→(∀e∈o.after,Region.binds .any e=true→S.getD e.on false=true)→(o,pre++post.set i true)∈rdyE S os pre post
 |[],_,_,i,o,h,_,_=>by simp at h
 |x::os,pre,[],i,o,_,h,_=>by simp at h
 |x::os,pre,p::post,0,o,h1,h2,aj=>by
  simp at h1 h2;subst h1;subst h2;rw[rdyE];have hc:(x.after.toList.all fun e=>!Region.binds .any e||S.getD e.on false)=true:=by
   rw[List.all_eq_true];intro e he
   cases hb:Region.binds .any e with
   |false=>rfl
   |true=>simpa using aj e (by simpa using he) hb
  rw[if_pos hc];simp
 |x::os,pre,p::post,i+1,o,h1,h2,aj=>by
  have:=HQ os (pre++[p]) post i o (by simpa using h1) (by simpa using h2) aj;rw[List.append_assoc,List.singleton_append]at this;rw[List.set_cons_succ]
  cases p with
  |true=>rw[rdyE];exact this
  |false=>
   rw[rdyE];split
   ·exact List.mem_cons_of_mem _ this
   ·exact this
theorem HR{S:List Bool}:∀(os:List Oper) (pre post:List Bool) (x:Oper×List Bool),x∈rdyE S os pre post→∃(i:Nat),os[i]?=some x.1∧post[i]?=some false∧x.2=pre++post.set i true∧∀e∈x.1.after,Region.binds .any e=true→S.getD e.on false=true
 |[],_,_,x,h=>by simp[rdyE]at h
 |o::os,pre,[],x,h=>by simp[rdyE]at h
 |o::os,pre,p::post,x,h=>by
  have step:∀x,x∈rdyE S os (pre++[p]) post→∃(i:Nat),(o::os)[i]?=some x.1∧(p::post)[i]?=some false∧x.2=pre++(p::post).set i true∧∀e∈x.1.after,Region.binds .any e=true→S.getD e.on false=true:=by
   intro x hx;obtain⟨i,h1,h2,aj,aE⟩:=HR os (pre++[p]) post x hx;exact⟨i+1,by simpa using h1,by simpa using h2,by rw[aj];simp,aE⟩
  cases p with
  |true=>rw[rdyE]at h;exact step x h
  |false=>
   rw[rdyE]at h;split at h
   ·rename_i hc;rcases List.mem_cons.1 h with rfl|h
    ·refine⟨0,rfl,rfl,by simp,fun e he hb=>?_⟩;have:=List.all_eq_true.1 hc e (by simpa using he);rw[hb]at this;simpa using this
    ·exact step x h
   ·exact step x h
theorem Sh{F:Oper→List Bool→Prop}:∀{l:List (Oper×List Bool)},vj l F→∀x∈l,F x.1 x.2
 |[],_,x,hx=>by cases hx
 |y::l,h,x,hx=>by
  rcases List.mem_cons.1 hx with rfl|hx
  ·exact h.1
  ·exact Sh h.2 x hx
theorem aas{az:Array Oper}{B:Nat→Prop}{w0:World}{kp:List (V×Value)}{kv:List V}(bu:kp.map (·.1)=kv){Q:Exit→Act→World→Prop}{K:St→Prop}(m1:∀σ a w,K σ→eQ B w0 kp σ a w→Q .normal a w) :
  ∀(n:Nat) (listed:Array Bool) (σ:St) (a:Act) (w:World),listed.size=az.size→exE P kv az.toList n listed.toList σ K→eQ B w0 kp σ a w→wpAny P .any az Q n listed a w:=by
 have LU:∀(listed:Array Bool),listed.size=az.size→Region.ready .any az listed=[]→rdyE listed.toList az.toList [] listed.toList=[]:=by
  intro listed hs hr;apply List.eq_nil_iff_forall_not_mem.2;intro x hx;obtain⟨i,h1,h2,_,aE⟩:=HR _ _ _ x hx;have:i∈Region.ready .any az listed:=by
   rw[mem_ready];refine⟨?_,x.1,by simpa using h1,fun e he hb=>?_⟩
   ·rw[Array.getElem?_toList]at h2;simp[Array.getD_eq_getD_getElem?,h2]
   ·have:=aE e he hb;rw[ib,Array.getElem?_toList]at this;simpa [Array.getD_eq_getD_getElem?]using this
  rw[hr]at this;cases this
 intro n
 induction n with
 |zero=>
  intro listed σ a w hs h hr;simp only[exE]at h;refine⟨?_,m1 σ a w h.2 hr⟩;apply List.eq_nil_iff_forall_not_mem.2;intro i hi;obtain⟨h1,o,av,CD⟩:=mem_ready.1 hi;have hlt:i<listed.size:=by have:=(Array.getElem?_eq_some_iff.1 av).1;omega
  have hm:=HQ (S:=listed.toList) az.toList [] listed.toList i o (by simpa using av) (by
   rw[Array.getElem?_toList];simpa [Array.getD_eq_getD_getElem?,hlt]using h1) (fun e he hb=>by
   have:=CD e he hb;rw[ib,Array.getElem?_toList];simpa [Array.getD_eq_getD_getElem?]using this)
  rw[h.1]at hm;cases hm
 |succ n dW=>
  intro listed σ a w hs h hr;simp only[exE]at h;refine⟨fun he=>m1 σ a w (h.1 (LU listed hs he)) hr,fun i hi=>?_⟩;obtain⟨h1,o,av,CD⟩:=mem_ready.1 hi;have hlt:i<listed.size:=by have:=(Array.getElem?_eq_some_iff.1 av).1;omega
  have hm:=HQ (S:=listed.toList) az.toList [] listed.toList i o (by simpa using av) (by
   rw[Array.getElem?_toList];simpa [Array.getD_eq_getD_getElem?,hlt]using h1) (fun e he hb=>by
   have:=CD e he hb;rw[ib,Array.getElem?_toList];simpa [Array.getD_eq_getD_getElem?]using this)
  have hx:=Sh h.2 _ hm;simp only[bx]at hx;have:=aat (Q:=Q) (N:=wpAny P .any az Q n (listed.setIfInBounds i true)) bu hx hr fun σ' u w' hk jK=>by
   refine dW (listed.setIfInBounds i true) σ' _ w' (by simpa using hs) ?_ jK;simpa using hk
  unfold wpOp;simp only[av];exact this
def Cv(P:Program)(kv:List V)(az:Array Oper)(σ:St)(K:St→Prop):Prop:=
 Sc P az σ K∨∃gp,(∀σ',gp σ'→K σ')∧exE P kv az.toList az.size (List.replicate az.size false) σ gp
theorem aau{az:Array Oper}{B:Nat→Prop}{w0:World}{kp:List (V×Value)}{kv:List V}(bu:kp.map (·.1)=kv){Q:Exit→Act→World→Prop}{K:St→Prop}(hm:P.follows .mixedOrders=true){id:Nat}(m1:∀σ a w,K σ→eQ B w0 kp σ a w→Q .normal a w){σ:St}{a:Act}{w:World}
  (h:Cv P kv az σ K) (hr:eQ B w0 kp σ a w):(Code.region id az true).wp P Q a w:=by
 rcases h with h|⟨gp,zA,h⟩
 ·exact aap hm m1 h hr
 ·refine wp_region_any hm (aas bu (fun σ a w LV=>m1 σ a w (zA σ LV)) az.size (Array.replicate az.size false) σ a _ (by simp) (by simpa using h) ?_);obtain⟨aK,φ,aQ,b4⟩:=hr;exact⟨aK,φ,Sg aQ rfl aQ.fP.drew,b4⟩
variable {P:Program}
def Bj(t:Bool)(A B:Prop):Prop:=(t=true→A)∧(t=false→B)
def outE:List (Nat×(St→Prop))→Nat→St→Prop
 |[],_,_=>False
 |(i,K)::bY,id,σ=>if id=i then K σ else outE bY id σ
mutual
def ren(ρ:List Nat):V→V
 |.ak=>.ak
 |.d x=>.d x
 |.dw s=>.dw s
 |.agg vs=>.agg (rens ρ vs)
 |.ptr id b0 off=>.ptr (ρ.getD id 0) b0 off
 |.fo cells off=>.fo cells off
 |.sl id off len=>.sl (ρ.getD id 0) off len
 |.fn f eZ=>.fn f (rens ρ eZ)
 |.dV vs=>.dV (rens ρ vs)
 |.bC c v=>.bC c (ren ρ v)
def rens(ρ:List Nat):List V→List V
 |[]=>[]
 |v::vs=>ren ρ v::rens ρ vs
end
def vsee(ρ:List Nat)(fK v:V):Prop:=match fK with|.ak=>True|fK=>ren ρ fK=v
def vsees(ρ:List Nat):List V→List V→Prop
 |[],[]=>True
 |fK::vs',v::vs=>vsee ρ fK v∧vsees ρ vs' vs
 |_,_=>False
def hsee(ρ:List Nat)(kM x:H):Prop:=
 match kM,x with
 |.b',_=>True
 |.box CR,.box cs=>vsees ρ CR cs
 |.ar w1 l_ acj,.ar s xs jm=>w1=s∧l_=xs∧acj=jm
 |.ic w1 l_,.ic s xs=>w1=s∧l_=xs
 |.af w1 l_,.af s xs=>w1=s∧l_=xs
 |_,_=>False
def hsees(ρ:List Nat)(hs:List H):List Nat→List H→Prop
 |[],[]=>True
 |i::is,kM::l_=>hsee ρ kM (aL hs i)∧hsees ρ hs is l_
 |_,_=>False
structure ack(ρ:List Nat)(σ σ':St):Prop where
 lL:ρ.Nodup
 g8:vsees ρ σ'.tmps σ.tmps
 hp:hsees ρ σ.heap ρ σ'.heap
theorem TK{ρ:List Nat}{hs:List H}:∀{is:List Nat} {l_:List H},hsees ρ hs is l_→l_.length=is.length∧∀i,i<is.length→hsee ρ (aL l_ i) (aL hs (is.getD i 0))
 |[],[],_=>⟨rfl,by simp⟩
 |[],_::_,h=>by simp[hsees]at h
 |_::_,[],h=>by simp[hsees]at h
 |i::is,kM::l_,h=>by
  simp only[hsees]at h;obtain⟨h1,h2⟩:=h;obtain⟨k1,k2⟩:=TK h2;refine⟨by simp[k1],fun j al=>?_⟩
  cases j with
  |zero=>simpa [aL]using h1
  |succ j=>simpa [aL]using k2 j (by simpa using al)
section
variable {φ:cp} {T gO:Nat→Prop} {h:Array Obj} {ρ:List Nat}
def oT(φ:cp)(ρ:List Nat):cp:=fun i=>if i<ρ.length then φ (ρ.getD i 0)else none
mutual
def vok(m:Nat):V→Prop
 |.ptr id _ _=>id<m
 |.sl id _ _=>id<m
 |.agg vs=>bg m vs
 |.fn _ vs=>bg m vs
 |.dV vs=>bg m vs
 |.bC _ v=>vok m v
 |_=>True
def bg(m:Nat):List V→Prop
 |[]=>True
 |v::vs=>vok m v∧bg m vs
end
mutual
theorem IC(cR:∀b,T b→gO b):∀(v:V) (u:Value),vok ρ.length v→VRel φ T h (ren ρ v) u→VRel (oT φ ρ) gO h v u
 |.ak,_,_,_=>by simp[VRel]
 |.d x,u,_,r=>by
  simp only[ren,VRel]at r⊢;obtain⟨F,aM,bc⟩:=r;exact⟨F,aM,fun b hb=>cR b (bc b hb)⟩
 |.dw _,_,_,r=>by simpa [ren,VRel]using r
 |.agg vs,u,k,r=>by
  simp only[ren,VRel,vok]at r k⊢;obtain⟨us,aM,bc⟩:=r;exact⟨us,aM,ID cR vs us.toList k bc⟩
 |.ptr id b0 off,u,k,r=>by
  simp only[ren,VRel,vok]at r k⊢;obtain⟨β,b,aM,bc,cq⟩:=r;exact⟨β,b,by simp only[oT,if_pos k];exact aM,bc,cq⟩
 |.fo cells off,u,_,r=>by
  simp only[ren,VRel]at r⊢;obtain⟨b,f,G,aM,bc,cq,cI,fb⟩:=r;exact⟨b,f,G,aM,bc,cR b cq,cI,fun g hg=>cR g (fb g hg)⟩
 |.sl id off len,u,k,r=>by
  simp only[ren,VRel,vok]at r k⊢;obtain⟨β,a,c,aM,bc⟩:=r;exact⟨β,a,c,by simp only[oT,if_pos k];exact aM,bc⟩
 |.fn f eZ,u,k,r=>by
  simp only[ren,VRel,vok]at r k⊢;obtain⟨us,aM,bc⟩:=r;exact⟨us,aM,ID cR eZ us.toList k bc⟩
 |.dV vs,u,k,r=>by
  simp only[ren,VRel,vok]at r k⊢;obtain⟨us,aM,bc⟩:=r;exact⟨us,aM,ID cR vs us.toList k bc⟩
 |.bC c v,u,k,r=>by
  simp only[ren,VRel,vok]at r k⊢;exact⟨fun e=>IC cR v u k (r.1 e),r.2⟩
theorem ID(cR:∀b,T b→gO b):∀(vs:List V) (us:List Value),bg ρ.length vs→VRels φ T h (rens ρ vs) us→VRels (oT φ ρ) gO h vs us
 |[],us,_,r=>by simpa [rens,VRels]using r
 |v::vs,us,k,r=>by
  simp only[rens,VRels,bg]at r k⊢;obtain⟨u,ck,aM,bc,cq⟩:=r;exact⟨u,ck,aM,IC cR v u k.1 bc,ID cR vs ck k.2 cq⟩
end
theorem TL(cR:∀b,T b→gO b){fK v:V}{u:Value}(hs:vsee ρ fK v)(k:vok ρ.length fK)(r:VRel φ T h v u):VRel (oT φ ρ) gO h fK u:=by
 unfold vsee at hs;split at hs
 ·simp[VRel]
 ·subst hs;exact IC cR _ u k r
theorem M1(cR:∀b,T b→gO b):∀{vs' vs:List V} {us:List Value},vsees ρ vs' vs→bg ρ.length vs'→VRels φ T h vs us→VRels (oT φ ρ) gO h vs' us
 |[],[],us,_,_,r=>by simpa [VRels]using r
 |[],_::_,_,hs,_,_=>by simp[vsees]at hs
 |_::_,[],_,hs,_,_=>by simp[vsees]at hs
 |fK::vs',v::vs,us,hs,k,r=>by
  simp only[vsees,bg,VRels]at hs k r⊢;obtain⟨u,ck,rfl,aM,bc⟩:=r;exact⟨u,ck,rfl,TL cR hs.1 k.1 aM,M1 cR hs.2 k.2 bc⟩
end
def hok(m:Nat):H→Prop
 |.box cs=>bg m cs
 |_=>True
theorem M3{ρ:List Nat}{kM x:H}(h:hsee ρ kM x):(kM.m2=true→x.m2=true)∧(kM.own=true→x.own=true)∧(kM.shut=true→x.shut=true):=by
 unfold hsee at h;split at h
 ·exact⟨fun e=>(by cases e),fun e=>(by cases e),fun e=>(by cases e)⟩
 ·exact⟨fun _=>rfl,fun e=>(by cases e),fun e=>(by cases e)⟩
 ·obtain⟨rfl,rfl,rfl⟩:=h;exact⟨id,id,id⟩
 ·exact⟨fun e=>(by cases e),fun e=>(by cases e),fun e=>(by cases e)⟩
 ·exact⟨fun _=>rfl,fun _=>rfl,fun _=>rfl⟩
 ·exact h.elim
theorem acm{B:Nat→Prop}{w0:World}{σ σ':St}{a:Act}{w:World}{ρ:List Nat}(hs:ack ρ σ σ')(h1:bg σ'.heap.length σ'.tmps)(h2:∀x∈σ'.heap,hok σ'.heap.length x){kp:List (V×Value)}(Fh:∀p∈kp,vsee ρ p.1 p.1∧vok σ'.heap.length p.1)(r:eQ B w0 kp σ a w):eQ B w0 kp σ' a w:=by
 obtain⟨aK,φ,r,_⟩:=r;obtain⟨hl,IE⟩:=TK hs.hp;rw[hl]at h1 h2 Fh;have hY:∀i,(aL σ'.heap i).m2=true→i<ρ.length:=by
  intro i hi;rcases Nat.lt_or_ge i σ'.heap.length with h|h
  ·omega
  ·rw[yr h]at hi;cases hi
 have CX:∀i β b,jq (aL σ'.heap i) β b→i<ρ.length∧jq (aL σ.heap (ρ.getD i 0)) β b:=by
  intro i β b ht;have hlt:i<ρ.length:=by
   rcases ht with ⟨h,_⟩|⟨h,_⟩
   ·exact hY i h
   ·exact hY i (H.Im (H.Ik h))
  obtain⟨dA,fN,f3⟩:=M3 (IE i hlt);exact⟨hlt,ht.imp (fun h=>⟨dA h.1,h.2⟩) (fun h=>⟨f3 h.1,h.2⟩)⟩
 have cR:∀b,cz φ σ.heap b→cz (oT φ ρ) σ'.heap b:=by
  intro b ht i β e hi;obtain⟨hlt,iP⟩:=CX i β b hi;simp only[oT,if_pos hlt]at e;exact ht _ β e iP
 have acn:∀i,i<ρ.length→∀x,aL σ'.heap i=x→hok ρ.length x:=by
  intro i hi x hx;have hlt:i<σ'.heap.length:=by omega
  have:x∈σ'.heap:=by
   rw[←hx];unfold aL;rw[ib,b8 hlt];simp
  exact h2 x this
 have aco:∀i j,i<ρ.length→j<ρ.length→ρ.getD i 0=ρ.getD j 0→i=j:=by
  intro i j hi al e;rw[ib,ib,b8 hi,b8 al]at e;have e:ρ[i]=ρ[j]:=by simpa using e
  have hp:=List.pairwise_iff_getElem.1 hs.lL;rcases Nat.lt_trichotomy i j with h|h|h
  ·exact absurd e (hp i j hi al h)
  ·exact h
  ·exact absurd e.symm (hp j i al hi h)
 have gq:∀i b,c5 (oT φ ρ) σ'.heap i b→i<ρ.length∧c5 φ σ.heap (ρ.getD i 0) b:=by
  rintro i b ⟨β,e,h⟩;have hlt:i<ρ.length:=by
   rcases h with ⟨h,_⟩|⟨h,_⟩
   ·exact hY i h
   ·exact hY i (H.Im h)
  obtain⟨dA,fN,f3⟩:=M3 (IE i hlt);simp only[oT,if_pos hlt]at e;exact⟨hlt,β,e,h.imp (fun h=>⟨dA h.1,h.2⟩) (fun h=>⟨fN h.1,h.2⟩)⟩
 refine⟨fun i=>i<ρ.length,oT φ ρ,⟨M1 cR hs.g8 h1 r.g8,fun p hp=>(by
  have aj:=r.kp p hp;rcases et.1 hp with hp|hp
  ·obtain⟨q,_,rfl⟩:=List.mem_map.1 hp;exact IC (ρ:=ρ) cR (.fo q.2 0) _ trivial aj
  ·exact TL cR (Fh p hp).1 (Fh p hp).2 aj),fun i=>?_,fun i j b hi al=>?_,fun i β e hx=>?_,fun i b av=>?_,fun i β e=>?_,r.fP,r.bs,r.mV,r.ko⟩,fun i hi=>by rw[hl];exact hi⟩
 ·by_cases hlt:i<ρ.length
  ·have nZ:=IE i hlt;have TM:=acn i hlt _ rfl;rcases r.hp (ρ.getD i 0)with hd|⟨β,e,hr⟩
   ·left;rw[hd]at nZ;unfold hsee at nZ;split at nZ
    ·rename_i ah;exact ah
    ·rename_i ai;cases ai
    ·rename_i ai;cases ai
    ·rename_i ai;cases ai
    ·rename_i ai;cases ai
    ·exact nZ.elim
   ·by_cases M4:aL σ'.heap i=.b'
    ·exact .inl M4
    ·refine .inr ⟨β,by simp only[oT,if_pos hlt];exact e,?_⟩;generalize aL σ'.heap i=kM at nZ TM M4;generalize aL σ.heap (ρ.getD i 0)=x at nZ hr;unfold hsee at nZ;split at nZ
     ·exact absurd rfl M4
     ·simp only[dX]at hr⊢;obtain⟨b,cs,t,aM,bc,cq,cI⟩:=hr;exact⟨b,cs,t,aM,bc,cq,M1 cR nZ TM cI⟩
     ·obtain⟨rfl,rfl,rfl⟩:=nZ;simp only[dX]at hr⊢;obtain⟨b3,hr⟩:=hr;refine⟨b3,hr.imp id fun⟨b,G,aM,bc,cq,cI,fb,hT⟩=>⟨b,G,aM,bc,cq,cI,fb,fun e g hg=>cR g (hT e g hg)⟩⟩
     ·obtain⟨rfl,rfl⟩:=nZ;simp only[dX]at hr⊢;obtain⟨b3,hr⟩:=hr;refine⟨b3,hr.imp id fun⟨b,G,aM,bc,cq,cI,fb⟩=>⟨b,G,aM,cR b bc,cq,cI,fun g hg=>cR g (fb g hg)⟩⟩
     ·obtain⟨rfl,rfl⟩:=nZ;simpa only[dX]using hr
     ·exact nZ.elim
  ·left;exact yr (by omega)
 ·obtain⟨aj,aE⟩:=gq i b hi;obtain⟨b3,e2⟩:=gq j b al;exact aco i j aj b3 (r.dJ _ _ b aE e2)
 ·have hlt:=hY i (H.Im hx);simp only[oT,if_pos hlt]at e;exact r.e9 _ β e ((M3 (IE i hlt)).2.1 hx)
 ·exact r.e_ _ b (gq i b av).2
 ·by_cases hlt:i<ρ.length
  ·exact hlt
  ·simp only[oT,if_neg hlt]at e;cases e
def allOk(m:Nat):List H→Prop
 |[]=>True
 |x::xs=>hok m x∧allOk m xs
theorem TN{m:Nat}:∀{xs:List H},allOk m xs→∀x∈xs,hok m x
 |[],_,x,hx=>by cases hx
 |y::ys,h,x,hx=>by
  rcases List.mem_cons.1 hx with rfl|hx
  ·exact h.1
  ·exact TN h.2 x hx
def u_(ρ:List Nat)(m:Nat):List V→Prop
 |[]=>True
 |v::vs=>(vsee ρ v v∧vok m v)∧u_ ρ m vs
theorem TO{ρ:List Nat}{m:Nat}:∀{kv:List V},u_ ρ m kv→∀v∈kv,vsee ρ v v∧vok m v
 |[],_,x,hx=>by cases hx
 |y::ys,h,x,hx=>by
  rcases List.mem_cons.1 hx with rfl|hx
  ·exact h.1
  ·exact TO h.2 x hx
def kk(kv:List V)(ρ:List Nat)(σ σ':St):Prop:=
 ρ.Nodup∧vsees ρ σ'.tmps σ.tmps∧hsees ρ σ.heap ρ σ'.heap∧bg σ'.heap.length σ'.tmps∧allOk σ'.heap.length σ'.heap∧u_ ρ σ'.heap.length kv
theorem D2{B:Nat→Prop}{w0:World}{kv:List V}{kp:List (V×Value)}{σ σ':St}{a:Act}{w:World}{ρ:List Nat}(bu:kp.map (·.1)=kv)(h:kk kv ρ σ σ')(r:eQ B w0 kp σ a w):eQ B w0 kp σ' a w:=by
 obtain⟨h1,h2,aj,aE,b3,e2⟩:=h;exact acm ⟨h1,h2,aj⟩ aE (TN b3) (fun p hp=>TO e2 p.1 (by rw[←bu];exact List.mem_map.2 ⟨p,hp,rfl⟩)) r
def b7(kv:List V)(body:St→(St→Prop)→Prop)(σ:St):Prop:=
 ∃(α:Type) (g_:α→St) (lO:α→Nat) (h7:α→Prop) (x:α) (ρ:List Nat),h7 x∧kk kv ρ σ (g_ x)∧∀x,h7 x→∃lP,pM (g_ x) lP∧body lP fun σ'=>∃pN,pM σ' pN∧∃y Bk,h7 y∧lO y<lO x∧kk kv Bk pN (g_ y)
def codeE(P:Program)(kv:List V):Code→St→(St→Prop)→List (Nat×(St→Prop))→(St→Prop)→Prop
 |.skip,σ,K,_,_=>K σ
 |.region _ az false,σ,K,_,_=>opsE P kv az.toList az.toList σ K
 |.region _ az true,σ,K,_,_=>Cv P kv az σ K
 |.seq a b,σ,K,bY,cE=>codeE P kv a σ (fun σ'=>codeE P kv b σ' K bY cE) bY cE
 |.cond c a b,σ,K,bY,cE=>evg true (σ.ev c) fun v=>asB v fun t=>Bj t (codeE P kv a σ K bY cE) (codeE P kv b σ K bY cE)
 |.block id c,σ,K,bY,cE=>codeE P kv c σ K ((id,K)::bY) cE
 |.exit id,σ,_,bY,_=>outE bY id σ
 |.ret,σ,_,_,cE=>cE σ
 |.loop c,σ,_,bY,cE=>b7 kv (fun σ gp=>codeE P kv c σ gp bY cE) σ
 |_,_,_,_,_=>False
def TP(B:Nat→Prop)(w0:World)(kp:List (V×Value))(Q:Exit→Act→World→Prop)(bY:List (Nat×(St→Prop))):Prop:=
 ∀id σ a w,outE bY id σ→eQ B w0 kp σ a w→Q (.exit id) a w
theorem acp(az:Array Oper):(List.range az.size).map (az[·]?)=az.toList.map some:=by
 apply List.ext_getElem?;intro i;simp only[List.getElem?_map,Array.getElem?_toList];by_cases h:i<az.size
 ·simp[h]
 ·simp[h]
theorem Fi{B:Nat→Prop}{w0:World}{kp:List (V×Value)}{kv:List V}(bu:kp.map (·.1)=kv)(hm:P.follows .mixedOrders=true):∀(c:Code) (σ:St) (K:St→Prop) (bY:List (Nat×(St→Prop))) (cE:St→Prop) (Q:Exit→Act→World→Prop) (a:Act) (w:World),
  (∀σ a w,K σ→eQ B w0 kp σ a w→Q .normal a w)→TP B w0 kp Q bY→(∀σ a w,cE σ→eQ B w0 kp σ a w→Q .ret a w)→codeE P kv c σ K bY cE→eQ B w0 kp σ a w→c.wp P Q a w:=by
 intro c
 induction c with
 |skip=>intro σ K bY cE Q a w b6 _ _ h r;exact wp_skip (b6 σ a w h r)
 |region id az draw=>
  intro σ K bY cE Q a w b6 _ _ h r
  cases draw with
  |false=>exact wp_region (S1 bu b6 _ _ σ a w (acp az) h r)
  |true=>exact aau bu hm b6 h r
 |seq x y M5 M6=>
  intro σ K bY cE Q a w b6 dk aQ h r;refine wp_seq (M5 σ _ bY cE _ a w (fun σ' a' w' h' c4=>?_) (fun id σ' a' w' h' c4=>dk id σ' a' w' h' c4) (fun σ' a' w' h' c4=>aQ σ' a' w' h' c4) h r);exact M6 σ' K bY cE Q a' w' b6 dk aQ h' c4
 |cond c x y M5 M6=>
  intro σ K bY cE Q a w b6 dk aQ h r;simp only[codeE]at h;obtain⟨v,h,hv⟩:=ga h;obtain⟨t,rfl,h⟩:=Ir h;obtain⟨aK,φ,r0,b4⟩:=r;have hc:=mY (hv _ _ _ _ rfl (yb r0 c));refine wp_cond hc ?_
  cases t with
  |true=>exact M5 σ K bY cE Q a w b6 dk aQ (h.1 rfl) ⟨aK,φ,r0,b4⟩
  |false=>exact M6 σ K bY cE Q a w b6 dk aQ (h.2 rfl) ⟨aK,φ,r0,b4⟩
 |block id c dW=>
  intro σ K bY cE Q a w b6 dk aQ h r;simp only[codeE]at h;refine wp_block (dW σ K ((id,K)::bY) cE _ a w (fun σ' a' w' h' c4=>b6 σ' a' w' h' c4) (fun oO σ' a' w' h' c4=>?_) (fun σ' a' w' h' c4=>aQ σ' a' w' h' c4) h r);simp only[outE]at h';simp only[Exit.inBlock];by_cases hi:oO=id
  ·rw[if_pos hi];rw[if_pos hi]at h';exact b6 σ' a' w' h' c4
  ·rw[if_neg hi];rw[if_neg hi]at h';exact dk oO σ' a' w' h' c4
 |exit id=>intro σ K bY cE Q a w _ dk _ h r;exact wp_exit (dk id σ a w h r)
 |ret=>intro σ K bY cE Q a w _ _ aQ h r;exact wp_ret (aQ σ a w h r)
 |loop c dW=>
  intro σ K bY cE Q a w b6 dk aQ h r;simp only[codeE,b7]at h;obtain⟨α,g_,lO,h7,x,ρ,hp,hs,E2⟩:=h;refine wp_loop_ghost (fun n a w=>∃x,h7 x∧lO x=n∧eQ B w0 kp (g_ x) a w) (lO x) ⟨x,hp,rfl,D2 bu hs r⟩ ?_;rintro n a w ⟨x,hp,rfl,r⟩;obtain⟨lP,M7,acq⟩:=E2 x hp;refine dW lP _ bY cE _ a w (fun σ' a' w' h' c4=>?_) (fun id σ' a' w' h' c4=>dk id σ' a' w' h' c4) (fun σ' a' w' h' c4=>aQ σ' a' w' h' c4) acq (Ie M7 r);obtain⟨pN,acr,y,Bk,h1,h2,aj⟩:=h';exact⟨lO y,h2,y,h1,rfl,D2 bu aj (Ie acr c4)⟩
 |_=>intro σ K bY cE Q a w _ _ _ h;exact h.elim
def AD.py:AD→V
 |.one d=>.d d
 |.agg ds=>.agg (ds.map V.d)
def rvE(P:Program)(σ:St)(r:ResultVar)(K:V→Prop):Prop:=
 match r with
 |.tmp t=>K (σ.ev (.tmp t))
 |.cell a T=>evg true (σ.ev (.tmp a)) fun v=>withR (loadE P σ.heap T v) K
def rvsE(P:Program)(σ:St):List ResultVar→(List V→Prop)→Prop
 |[],K=>K []
 |r::rs,K=>rvE P σ r fun v=>rvsE P σ rs fun vs=>K (v::vs)
def outOA(r:Option (List AD×List Nat))(res:List AD):Prop:=match r with|some (as,b9)=>b9.Nodup∧as=res|none=>False
def gM(P:Program)(rs:List ResultVar)(res:List AD)(σ:St):Prop:=rvsE P σ rs fun vs=>outOA (toOAs σ.heap vs) res
section
variable {B:Nat→Prop} {w0:World} {aK:Nat→Prop} {φ:cp} {kp:List (V×Value)} {a:Act} {w:World} {σ:St}
def IF(tmps:Array Value)(x:ResultVar):Sem Value:=
 match x with
 |.tmp t=>pure (tmps.getD t undef)
 |.cell b t=>do loadVar t (←asAddr (tmps.getD b undef))
theorem M8(fn:Func)(tmps:Array Value):results fn tmps=(do
  let vs ←fn.results.mapM (IF tmps)
  pure (if h:vs.size=1 then vs[0]else .tuple vs)):=rfl
theorem acs(r:R B w0 aK φ σ kp a w){x:ResultVar}{K:V→Prop}(h:rvE P σ x K):∃v u,K v∧VRel φ (cz φ σ.heap) w.heap v u∧
  (IF a.tmps x).run P w=.ok u w:=by
 unfold rvE at h;split at h
 ·rename_i t;exact⟨_,_,h,yb r (.tmp t),rfl⟩
 ·rename_i b T;obtain⟨j6,h,hx⟩:=ga h;obtain⟨p,v,ag,hp,b6⟩:=zT h;obtain⟨eh,f,u,hu,hl,hv⟩:=TD (St.le.refl σ) r ag hp (hx _ _ _ _ rfl (yb r (.tmp b)));refine⟨v,u,b6,hv,?_⟩;simp only[Act.eval]at hu;simp only[IF,Sem.run_bind,hu,asAddr];simp[hl]
theorem IG(r:R B w0 aK φ σ kp a w):∀(xs:List ResultVar) (K:List V→Prop),rvsE P σ xs K→∃vs us,K vs∧VRels φ (cz φ σ.heap) w.heap vs us∧
  (xs.mapM (IF a.tmps)).run P w=.ok us w
 |[],K,h=>⟨[],[],h,by simp[VRels],by simp⟩
 |x::xs,K,h=>by
  simp only[rvsE]at h;obtain⟨v,u,h,hv,hu⟩:=acs r h;obtain⟨vs,us,h,pP,vM⟩:=IG r xs _ h;refine⟨v::vs,u::us,h,by simp only[VRels];exact⟨u,us,rfl,hv,pP⟩,?_⟩;rw[List.mapM_cons];simp only[Sem.run_bind,hu,Result.andThen_ok,vM,Sem.run_pure]
theorem Hb{fn:Func}(r:R B w0 aK φ σ kp a w){res:List AD}(h:gM P fn.results.toList res σ):∃v F,(results fn a.tmps).run P w=.ok v w∧trep w.heap true res v F∧F.Nodup∧∀b∈F,B b∧b<w.heap.size:=by
 obtain⟨vs,us,h,hv,hu⟩:=IG r _ _ h;unfold outOA at h;split at h
 ·rename_i as b9 av;obtain⟨hn,rfl⟩:=h;obtain⟨F,dA,fN,f3⟩:=SG r vs as b9 us av hn hv;refine⟨if h:us.length=1 then us[0]else .tuple us.toArray,F,?_,?_,fN,fun b hb=>?_⟩
  ·rw[M8,Array.mapM_eq_mapM_toList];simp only[Sem.run_bind,Sem.run_map,hu];simp only[Result.andThen,List.size_toArray,Sem.run_pure];split<;>simp_all
  ·have hl:us.length=as.length:=by
    clear hu hv av fN f3 h
    induction as generalizing us F with
    |nil=>simp only[areps]at dA;simp[dA.1]
    |cons d ds dW=>
     simp only[areps]at dA;obtain⟨u,ck,fy,g4,rfl,rfl,aM,bc⟩:=dA;simp[dW ck g4 bc]
   unfold trep;split
   ·rename_i x;simp only[areps]at dA;obtain⟨u,ck,fy,g4,rfl,rfl,aM,bc,rfl⟩:=dA;subst bc;simpa using aM
   ·rename_i hne;refine⟨us.toArray,?_,dA⟩;rw[dif_neg];intro h1;rw[hl]at h1;obtain⟨x,hx⟩:=List.length_eq_one_iff.1 h1;exact hne x hx
  ·obtain⟨id,_,av⟩:=f3 b hb;exact⟨r.e_ id b av,c5.lt r av⟩
 ·exact h.elim
end
mutual
def dOk:D→Prop
 |.int k n=>k.min≤n∧n≤k.max
 |.bool _=>True
 |.str s=>s.length≤maxLen
 |.zj _=>True
 |.sl _ xs=>xs.length≤maxLen∧eOk xs
def cOk:List D→Prop
 |[]=>True
 |d::ds=>dOk d∧cOk ds
def eOk:List (List D)→Prop
 |[]=>True
 |c::cs=>cOk c∧eOk cs
end
mutual
theorem M9{h:Array Obj}{o:Bool}:∀(d:D) (u:Value) (F:List Nat),rep h o d u F→dOk d
 |.int k n,u,F,r=>by simp only[rep]at r;simp only[dOk];exact r.2.2
 |.bool b,u,F,r=>by simp only[dOk]
 |.str s,u,F,r=>by simp only[rep]at r;simp only[dOk];exact r.2.2
 |.zj v,u,F,r=>by simp only[dOk]
 |.sl sz xs,u,F,r=>by
  simp only[rep]at r;obtain⟨a,c,h1,h2,aj,aE⟩:=r;simp only[dOk];refine⟨by omega,?_⟩;rcases aE with ⟨rfl,_⟩|⟨b,f,G,ah,ai,aX,br,cF⟩
  ·simp[eOk]
  ·exact TQ xs b f sz G br
theorem TR{h:Array Obj}{o:Bool}:∀(ds:List D) (b f:Nat) (G:List Nat),repC h o b f ds G→cOk ds
 |[],_,_,_,_=>by simp[cOk]
 |d::ds,b,f,G,r=>by
  simp only[repC]at r;obtain⟨v,bQ,bq,_,_,aX,br⟩:=r;simp only[cOk];exact⟨M9 d v bQ aX,TR ds b (f+1) bq br⟩
theorem TQ{h:Array Obj}{o:Bool}:∀(cs:List (List D)) (b f sz:Nat) (G:List Nat),repE h o b f sz cs G→eOk cs
 |[],_,_,_,_,_=>by simp[eOk]
 |c::cs,b,f,sz,G,r=>by
  simp only[repE]at r;obtain⟨bQ,bq,_,_,aX,br⟩:=r;simp only[eOk];exact⟨TR c b f bQ aX,TQ cs b (f+sz) sz bq br⟩
end
def acu:AD→Prop
 |.one d=>dOk d
 |.agg ds=>cOk ds
def um:List AD→Prop
 |[]=>True
 |a::as=>acu a∧um as
theorem D6{h:Array Obj}{o:Bool}:∀(as:List AD) (us:List Value) (F:List Nat),areps h o as us F→um as
 |[],_,_,_=>trivial
 |a::as,us,F,r=>by
  simp only[areps]at r;obtain⟨u,ck,fy,g4,rfl,rfl,aM,bc⟩:=r;refine⟨?_,D6 as ck g4 bc⟩
  cases a with
  |one d=>exact M9 d u fy aM
  |agg ds=>
   obtain⟨vs,_,aM⟩:=aM;have:∀(ds:List D) (us:List Value) (F:List Nat),reps h o ds us F→cOk ds:=by
    intro ds
    induction ds with
    |nil=>intro _ _ _;simp[cOk]
    |cons d ds dW=>
     intro us F r;simp only[reps]at r;obtain⟨u,ck,fy,g4,rfl,rfl,aM,bc⟩:=r;simp only[cOk];exact⟨M9 d u fy aM,dW ck g4 bc⟩
   exact this ds _ _ aM
theorem LC:∀{ds:List D},cOk ds→∀d∈ds,dOk d
 |[],_,d,hd=>by cases hd
 |x::xs,h,d,hd=>by
  simp only[cOk]at h;rcases List.mem_cons.1 hd with rfl|hd
  ·exact h.1
  ·exact LC h.2 d hd
theorem Kp:∀{ds:List (List D)},eOk ds→∀d∈ds,cOk d
 |[],_,d,hd=>by cases hd
 |x::xs,h,d,hd=>by
  simp only[eOk]at h;rcases List.mem_cons.1 hd with rfl|hd
  ·exact h.1
  ·exact Kp h.2 d hd
theorem Hc{w:World}{args:List AD}{us:List Value}{F:List Nat}(hg:GOk w.heap)(h:areps w.heap false args us F)(m:Nat)(kp:List (V×Value))(Fh:∀p∈kp,∀φ T,VRel φ T w.heap p.1 p.2) :
  eQ (fun b=>w.heap.size≤b) w kp ⟨args.map AD.py++List.replicate m .ak,[]⟩ ⟨us.toArray++Array.replicate m undef,[]⟩ w:=by
 have Bm:∀b,cz (fun _=>none) [] b:=fun b i β e=>by cases e
 refine⟨fun _=>False,fun _=>none,⟨?_,fun p hp=>(et.1 hp).elim (abL hg (fun _ _=>Bm _) p) (fun hp=>Fh p hp _ _),fun i=>.inl (yr (by simp)),fun i j b hi=>?_,fun i β e=>(by cases e),fun i b hi=>?_,fun i β e=>(by cases e),Bel.refl _ _,fun k hk=>hk,rfl,fun p hp hb=>by have:=(hg.1 p hp).1;omega,hg.2⟩,fun i hi=>hi.elim⟩
 ·have acv:∀(ds:List D) (us:List Value) (F:List Nat),reps w.heap false ds us F→VRels (fun _=>none) (cz (fun _=>none) []) w.heap (ds.map V.d) us:=by
   intro ds
   induction ds with
   |nil=>intro us F r;simp only[reps]at r;simp[VRels,r.1]
   |cons d ds dW=>
    intro us F r;simp only[reps]at r;obtain⟨u,ck,fy,g4,rfl,rfl,aM,bc⟩:=r;simp only[List.map_cons,VRels,VRel];exact⟨u,ck,rfl,⟨fy,aM,fun b _=>Bm b⟩,dW ck g4 bc⟩
  have hargs:∀(args:List AD) (us:List Value) (F:List Nat),areps w.heap false args us F→VRels (fun _=>none) (cz (fun _=>none) []) w.heap (args.map AD.py) us:=by
   intro args
   induction args with
   |nil=>intro us F r;simp only[areps]at r;simp[VRels,r.1]
   |cons d ds dW=>
    intro us F r;simp only[areps]at r;obtain⟨u,ck,fy,g4,rfl,rfl,aM,bc⟩:=r;simp only[List.map_cons,VRels];refine⟨u,ck,rfl,?_,dW ck g4 bc⟩
    cases d with
    |one d=>simp only[AD.py,VRel];exact⟨fy,aM,fun b _=>Bm b⟩
    |agg ds=>
     obtain⟨vs,rfl,aM⟩:=aM;simp only[AD.py,VRel];exact⟨vs,rfl,acv ds _ _ aM⟩
  have:=CS (hargs args us F h) (My (φ:=fun _=>none) (T:=cz (fun _=>none) []) (h:=w.heap) (v:=.ak) (u:=undef) (by simp[VRel]) m);simpa using this
 ·obtain⟨β,e,_⟩:=hi;cases e
 ·obtain⟨β,e,_⟩:=hi;cases e
theorem acw{f:FuncId}{fn:Func}{c:Code}{args res:List AD}(hf:P.funcs[f]?=some fn)(hb:fn.body=some c)(hcall:∀(args:Array Value) (w:World),(callFunc f args).run P w=.ok (.enter f args) w)(hm:P.follows .mixedOrders=true){m:Nat}(hn:fn.ntmps-args.length=m)
  {rs:List ResultVar} (hr:fn.results.toList=rs) (h0:um args→codeE P [] c ⟨args.map AD.py++List.replicate m .ak,[]⟩ (gM P rs res) [] (gM P rs res)):PureCall P f args res:=by
 intro w us F hg ha;have h:=h0 (D6 _ _ _ ha);clear h0;subst hr;have ff:us.length=args.length:=by
  clear h hn
  induction args generalizing us F with
  |nil=>simp only[areps]at ha;simp[ha.1]
  |cons d ds dW=>
   simp only[areps]at ha;obtain⟨u,ck,fy,g4,rfl,rfl,aM,bc⟩:=ha;simp[dW ck g4 bc]
 have a2:∀(σ:St) (a:Act) (w':World),gM P fn.results.toList res σ→eQ (fun b=>w.heap.size≤b) w [] σ a w'→a.defers=[]∧∃v,(results fn a.tmps).run P w'=.ok v w'∧
   ∃F',Bel (fun b=>w.heap.size≤b) w w'∧trep w'.heap true res v F'∧F'.Nodup∧∀b∈F',w.heap.size≤b:=by
  rintro σ a w' vm ⟨aK,φ,r,_⟩;obtain⟨v,F',h1,h2,aj,aE⟩:=Hb r vm;exact⟨r.mV,v,h1,F',r.fP,h2,aj,fun b hb=>(aE b hb).1⟩
 refine Does.enter (hcall _ _) (calls_of_wp hf hb ?_);refine Fi (B:=fun b=>w.heap.size≤b) (w0:=w) (kp:=[]) (kv:=[]) rfl hm c _ (gM P fn.results.toList res) [] (gM P fn.results.toList res) _ _ w (fun σ a w' h' c4=>?_) (fun id σ a w' h' _=>h'.elim) (fun σ a w' h' c4=>?_) h ?_
 ·exact a2 σ a w' h' c4
 ·exact a2 σ a w' h' c4
 ·have:=Hc hg ha m [] (by simp);have hs:us.toArray.size=args.length:=by rw[List.size_toArray,ff]
  rw[hs,hn];exact this
theorem abo{f:FuncId}{fn:Func}{c:Code}{args res:List AD}(hf:P.funcs[f]?=some fn)(hb:fn.body=some c)(hcall:∀(args:Array Value) (w:World),(callFunc f args).run P w=.ok (.enter f args) w)(hm:P.follows .mixedOrders=true){ts:List V}
  (hn:args.map AD.py++List.replicate (fn.ntmps-args.length) .ak=ts) {rs:List ResultVar} (hr:fn.results.toList=rs) (h:um args→codeE P [] c ⟨ts,[]⟩ (gM P rs res) [] (gM P rs res)):PureCall P f args res:=
 acw hf hb hcall hm rfl hr (by rw[hn];exact h)
def S'(r:Option (List AD×List Nat))(res:List AD):Prop:=r=some (res,[])
theorem Ha{h:Array Obj}{o:Bool}:∀(args:List AD) (us:List Value) (F:List Nat) (n:Nat),areps h o args us F→us.length=args.length∧(aVs args n).length=args.length
 |[],us,F,n,r=>by simp only[areps]at r;simp[r.1,aVs]
 |d::ds,us,F,n,r=>by
  simp only[areps]at r;obtain⟨u,ck,fy,g4,rfl,rfl,aM,bc⟩:=r;obtain⟨h1,h2⟩:=Ha ds ck g4 (n+(EL d).length) bc;simp[aVs,h1,h2]
def tupV(vs:List V):V:=match vs with|[v]=>v|vs=>.dV vs
def vJ(P:Program)(rs:List ResultVar)(K:V→List H→Prop)(σ:St):Prop:=rvsE P σ rs fun vs=>K (tupV vs) σ.heap
theorem TS{φ:cp}{T:Nat→Prop}{h:Array Obj}{vs:List V}{us:List Value}(r:VRels φ T h vs us):VRel φ T h (tupV vs) (if hl:us.length=1 then us[0]else .tuple us.toArray):=by
 have hl:=jR _ _ r;unfold tupV;split
 ·rename_i v;simp only[VRels]at r;obtain⟨u,ck,rfl,aM,bc⟩:=r;subst bc;simpa using aM
 ·rename_i hne;rw[dif_neg (fun e=>by
   rw[hl]at e;obtain⟨x,hx⟩:=List.length_eq_one_iff.1 e;exact hne x hx)]
  simp only[VRel];exact⟨_,rfl,r⟩
theorem abq{f:FuncId}{fn:Func}{c:Code}{kv:List V}{hs:List H}{vs:List V}{K:V→List H→Prop}(hf:P.funcs[f]?=some fn)(hb:fn.body=some c)(hcall:∀(args:Array Value) (w:World),(callFunc f args).run P w=.ok (.enter f args) w)(hm:P.follows .mixedOrders=true){ts:List V}
  (hn:vs++List.replicate (fn.ntmps-vs.length) .ak=ts) {rs:List ResultVar} (hr:fn.results.toList=rs) (h:codeE P kv c ⟨ts,hs⟩ (vJ P rs K) [] (vJ P rs K)):dx P f kv hs vs K:=by
 intro B w0 kp us w bu aQ;subst hr;subst hn;have ff:us.length=vs.length:=by
  obtain⟨aK,φ,r,_⟩:=aQ;have:=jR _ _ r.g8;simpa using this
 have a2:∀(σ:St) (a:Act) (w':World),vJ P fn.results.toList K σ→eQ B w0 kp σ a w'→a.defers=[]∧∃v,(results fn a.tmps).run P w'=.ok v w'∧
   ∃x hs',K x hs'∧eQ B w0 kp ⟨[x],hs'⟩ ⟨#[v],[]⟩ w':=by
  rintro σ a w' vm ⟨aK,φ,r,b4⟩;obtain⟨xs,gu,cC,hv,hu⟩:=IG r _ _ vm;refine⟨r.mV,if h:gu.length=1 then gu[0]else .tuple gu.toArray,?_,_,_,cC,aK,φ,⟨?_,r.kp,r.hp,r.dJ,r.e9,r.e_,r.fU,r.fP,r.bs,rfl,r.ko⟩,b4⟩
  ·rw[M8,Array.mapM_eq_mapM_toList];simp only[Sem.run_bind,Sem.run_map,hu];simp only[Result.andThen,List.size_toArray,Sem.run_pure];split<;>simp_all
  ·simp only[VRels];exact⟨_,_,rfl,TS hv,rfl⟩
 refine Does.enter (hcall _ _) (calls_of_wp hf hb ?_);refine Fi (B:=B) (w0:=w0) (kp:=kp) (kv:=kv) bu hm c _ (vJ P fn.results.toList K) [] (vJ P fn.results.toList K) _ _ w (fun σ a w' h' c4=>?_) (fun id σ a w' h' _=>h'.elim) (fun σ a w' h' c4=>?_) h ?_
 ·exact a2 σ a w' h' c4
 ·exact a2 σ a w' h' c4
 ·obtain⟨aK,φ,r,b4⟩:=aQ;have hs':us.toArray.size=vs.length:=by rw[List.size_toArray,ff]
  refine⟨aK,φ,⟨?_,r.kp,r.hp,r.dJ,r.e9,r.e_,r.fU,r.fP,r.bs,rfl,r.ko⟩,b4⟩;have:=CS r.g8 (My (φ:=φ) (T:=cz φ hs) (h:=w.heap) (v:=.ak) (u:=undef) (by simp[VRel]) (fn.ntmps-vs.length));rw[hs'];simpa using this
theorem dx.mono{f:FuncId}{kv:List V}{hs:List H}{vs:List V}{K gp:V→List H→Prop}(h:dx P f kv hs vs K)(hk:∀x hs',K x hs'→gp x hs'):dx P f kv hs vs gp:=by
 intro B w0 kp us w bu aQ;exact(h B w0 kp us w bu aQ).mono fun v w' ⟨x,hs',h1,h2⟩=>⟨x,hs',hk x hs' h1,h2⟩
variable {P:Program}
inductive uN{α:Type}(a:α):Type where
 |mk
theorem cA{a b:Prop}(h:a=b):a=b:=h
def bG{α:Type}(K:α→Prop)(_:uN K):α→Prop:=K
def zN(A:Prop)(_:uN A):Prop:=A
def kN{α β:Type}(K:α→β→Prop)(_:uN K):α→β→Prop:=K
@[go_sem] theorem ak0{α:Type}(K:α→Prop)(s:uN K)(x:α):bG K s x=K x:=cA rfl
@[go_sem] theorem ak1{α β:Type}(K:α→β→Prop)(s:uN K)(x:α)(y:β):kN K s x y=K x y:=cA rfl
section
variable {g:Bool} {K:V→Prop}
@[go_sem] theorem ak2(x:D):evg g (.d x) K=K (.d x):=cA rfl
@[go_sem] theorem ak3(s:Nat):evg g (.dw s) K=K (.dw s):=cA rfl
@[go_sem] theorem ak4(vs:List V):evg g (.agg vs) K=K (.agg vs):=cA rfl
@[go_sem] theorem ak5(a b c:Nat):evg g (.ptr a b c) K=K (.ptr a b c):=cA rfl
@[go_sem] theorem ak6(a:List D)(b:Nat):evg g (.fo a b) K=K (.fo a b):=cA rfl
@[go_sem] theorem ak7(a b c:Nat):evg g (.sl a b c) K=K (.sl a b c):=cA rfl
@[go_sem] theorem ak8(a:FuncId)(b:List V):evg g (.fn a b) K=K (.fn a b):=cA rfl
@[go_sem] theorem ak9(a:List V):evg g (.dV a) K=K (.dV a):=cA rfl
@[go_sem] theorem ala(c:Bool)(v:V):evg g (.bC c v) K=((g=true→c=true)∧K v):=cA rfl
@[go_sem] theorem alb:evg g .ak K=K .ak:=cA rfl
end
@[go_sem] theorem alc(b:Bool)(K:Bool→Prop):asB (.d (.bool b)) K=K b:=cA rfl
@[go_sem] theorem ald(k:IntKind)(n:Int)(K:IntKind→Int→Prop):asI (.d (.int k n)) K=K k n:=cA rfl
@[go_sem] theorem ale(p:Prop)(v:V)(K:V→Prop):withR (some (p,v)) K=(p∧K v):=cA rfl
@[go_sem] theorem alf(v:V)(K:V→Prop):withO (some v) K=K v:=cA rfl
@[go_sem] theorem alg(p:Prop)(r:eD)(K:eD→Prop):wQ (some (p,r)) K=(p∧K r):=cA rfl
@[go_sem] theorem alh(n:Nat)(K:Nat→Prop):Mf (some n) K=K n:=cA rfl
@[go_sem] theorem ali(A B:Prop)(s:uN A):Bj true (zN A s) B=A:=by simp[Bj,zN]
@[go_sem] theorem alj(A B:Prop)(s:uN B):Bj false A (zN B s)=B:=by simp[Bj,zN]
@[go_sem] theorem alk(n:Nat):List.replicate (n+1) V.ak=V.ak::List.replicate n V.ak:=rfl
def nth:List V→Nat→V
 |[],_=>.ak
 |v::_,0=>v
 |_::vs,n+1=>nth vs n
theorem S4:∀(vs:List V) (n:Nat),vs.getD n .ak=nth vs n
 |[],n=>by simp[nth]
 |v::vs,0=>by simp[nth]
 |v::vs,n+1=>by simpa [nth]using S4 vs n
@[go_sem] theorem alm(v:V)(vs:List V):nth (v::vs) 0=v:=rfl
@[go_sem] theorem aln(v:V)(vs:List V)(n:Nat):nth (v::vs) (n+1)=nth vs n:=rfl
@[go_sem] theorem alo(ts:List V)(hs:List H)(t:Nat):St.ev ⟨ts,hs⟩ (.tmp t)=nth ts t:=S4 ts t
@[go_sem] theorem alp(σ:St)(v:Value):σ.ev (.const v)=ofVal v:=rfl
@[go_sem] theorem alq(σ:St)(f:FuncId):σ.ev (.func f)=.fn f []:=rfl
@[go_sem] theorem alr(n:Int):ofVal (.int .i64 n)=if -9223372036854775808≤n∧n≤9223372036854775807 then .d (.int .i64 n)else .ak:=by
 have h1:IntKind.i64.min=-9223372036854775808:=by decide
 have h2:IntKind.i64.max=9223372036854775807:=by decide
 simp only[ofVal,Ij,h1,h2,bP,b2]
@[go_sem] theorem als(n:Int):ofVal (.int .u8 n)=if 0≤n∧n≤255 then .d (.int .u8 n)else .ak:=by
 have h1:IntKind.u8.min=0:=by decide
 have h2:IntKind.u8.max=255:=by decide
 simp only[ofVal,Ij,h1,h2,bP,b2]
theorem S5{n:Nat}(h:n≤1000000):n≤maxLen:=by simp only[maxLen];omega
@[go_sem] theorem alu(l:List UInt8)(h:l.length≤1000000):ofVal (.string ⟨l.toArray⟩)=.d (.str l):=by
 have:=S5 h;simp[ofVal,this]
@[go_sem] theorem alv(b:Bool):ofVal (.bool b)=.d (.bool b):=rfl
@[go_sem] theorem alw:ofVal (.slice none 0 0)=.dw 0:=rfl
@[go_sem] theorem zl(x:H)(hs:List H):aL (x::hs) 0=x:=rfl
@[go_sem] theorem zm(x:H)(hs:List H)(n:Nat):aL (x::hs) (n+1)=aL hs n:=by simp[aL]
@[go_sem] theorem alx(n:Nat):aL [] n=.b':=by simp[aL]
@[go_sem] theorem aly(x:H):b_ [] 0 x=[x]:=rfl
@[go_sem] theorem alz(n:Nat)(x:H):b_ [] (n+1) x=.b'::b_ [] n x:=by
 unfold b_;simp[List.replicate_succ]
@[go_sem] theorem alA(y:H)(ys:List H)(x:H):b_ (y::ys) 0 x=x::ys:=by
 unfold b_;simp
@[go_sem] theorem alB(y:H)(ys:List H)(n:Nat)(x:H):b_ (y::ys) (n+1) x=y::b_ ys n x:=by
 unfold b_;by_cases h:n<ys.length
 ·simp[h]
 ·simp[h]
@[go_sem] theorem alC(hs:List H)(n:Nat):hnew hs n []=hs:=rfl
@[go_sem] theorem alD(hs:List H)(n:Nat)(x:H)(xs:List H):hnew hs n (x::xs)=hnew (b_ hs n x) (n+1) xs:=rfl
@[go_sem] theorem alE(hs:List H):hupd hs []=hs:=rfl
@[go_sem] theorem alF(hs:List H)(i:Nat)(x:H)(r:List (Nat×H)):hupd hs ((i,x)::r)=hupd (b_ hs i x) r:=rfl
@[go_sem] theorem alG(ts:List V)(hs:List H)(d:Tmp)(n:Nat)(v:V):St.de ⟨ts,hs⟩ (some d) n (cJ v)=⟨ts.set d v,hs⟩:=rfl
@[go_sem] theorem alH(ts:List V)(hs:List H)(n:Nat)(v:V):St.de ⟨ts,hs⟩ none n (cJ v)=⟨ts,hs⟩:=rfl
@[go_sem] theorem alI(ts:List V)(hs:List H)(d:Tmp)(n:Nat)(v:V)(new:List H)(upd:List (Nat×H)):St.de ⟨ts,hs⟩ (some d) n ⟨v,new,upd⟩=⟨ts.set d v,hupd (hnew hs n new) upd⟩:=rfl
@[go_sem] theorem alJ(ts:List V)(hs:List H)(n:Nat)(v:V)(new:List H)(upd:List (Nat×H)):St.de ⟨ts,hs⟩ none n ⟨v,new,upd⟩=⟨ts,hupd (hnew hs n new) upd⟩:=rfl
@[go_sem] theorem alK(v w:V)(vs:List V):(v::vs).set 0 w=w::vs:=rfl
@[go_sem] theorem alL(v w:V)(vs:List V)(n:Nat):(v::vs).set (n+1) w=v::vs.set n w:=rfl
section
variable {kv:List V} {σ:St} {K:St→Prop} {bY:List (Nat×(St→Prop))} {cE:St→Prop}
@[go_sem] theorem alM:codeE P kv .skip σ K bY cE=K σ:=cA rfl
@[go_sem] theorem alN(id:Nat)(az:List Oper):codeE P kv (.region id az.toArray false) σ K bY cE=opsE P kv az az σ K:=by simp[codeE]
@[go_sem] theorem alO(id:Nat)(az:Array Oper):codeE P kv (.region id az true) σ K bY cE=Cv P kv az σ K:=cA rfl
@[go_sem] theorem abm(a b:Code):codeE P kv (.seq a b) σ K bY cE=codeE P kv a σ (bG (fun σ'=>codeE P kv b σ' K bY cE) .mk) bY cE:=cA rfl
@[go_sem] theorem alP(c:Operand)(a b:Code):codeE P kv (.cond c a b) σ K bY cE=evg true (σ.ev c) (bG (fun v=>asB v (bG (fun t=>Bj t (zN (codeE P kv a σ K bY cE) .mk) (zN (codeE P kv b σ K bY cE) .mk)) .mk)) .mk):=cA rfl
@[go_sem] theorem alQ(id:Nat)(c:Code):codeE P kv (.block id c) σ K bY cE=codeE P kv c σ K ((id,K)::bY) cE:=cA rfl
@[go_sem] theorem alR(id:Nat):codeE P kv (.exit id) σ K bY cE=outE bY id σ:=cA rfl
@[go_sem] theorem alS:codeE P kv .ret σ K bY cE=cE σ:=cA rfl
@[go_sem] theorem alT(c:Code):codeE P kv (.loop c) σ K bY cE=b7 kv (kN (fun σ gp=>codeE P kv c σ gp bY cE) .mk) σ:=cA rfl
@[go_sem] theorem alU(id:Nat):outE [] id σ=False:=cA rfl
@[go_sem] theorem alV(i:Nat)(id:Nat):outE ((i,K)::bY) id σ=if id=i then K σ else outE bY id σ:=cA rfl
end
section
variable {σ:St} {az:List Oper} {n:Nat} {K:eD→Prop}
@[go_sem] theorem alW(kv:List V)(K:St→Prop):opsE P kv az [] σ K=K σ:=cA rfl
@[go_sem] theorem alX(kv:List V)(o:Oper)(a6:List Oper)(K:St→Prop):opsE P kv az (o::a6) σ K=vk P kv az σ o (bG (fun σ'=>opsE P kv az a6 σ' K) .mk):=cA rfl
@[go_sem] theorem alY(dst:Option Tmp)(op:Op)(T:TypeId)(dt:String)(after:Array Edge)(K:eD→Prop):stepE P az σ n ⟨dst,op,T,dt,after,none⟩ K=opE P true σ n ⟨dst,op,T,dt,after,none⟩ K:=cA rfl
end
@[go_sem] theorem alZ(b h6:Bool)(K:Bool→Prop):zJ (.d (.bool b)) h6 K=K (b == h6):=cA rfl
@[go_sem] theorem al0(c b h6:Bool)(K:Bool→Prop):zJ (.bC c (.d (.bool b))) h6 K=K (c&&(b == h6)):=cA rfl
@[go_sem] theorem al1(d:Tmp)(op:Op)(T:TypeId)(dt:String)(after:Array Edge)(g:Option (Nat×Bool))(az:List Oper)(K:Tmp→Prop):wT (⟨some d,op,T,dt,after,g⟩::az) 0 K=K d:=cA rfl
@[go_sem] theorem al2(o:Oper)(az:List Oper)(j:Nat)(K:Tmp→Prop):wT (o::az) (j+1) K=wT az j K:=by simp[wT]
@[go_sem] theorem al3{σ:St}{az:List Oper}{n:Nat}(dst:Option Tmp)(op:Op)(T:TypeId)(dt:String)(after:Array Edge)(j:Nat)(h6:Bool)(K:eD→Prop) :
  stepE P az σ n ⟨dst,op,T,dt,after,some (j,h6)⟩ K=wT az j (bG (fun d=>zJ (σ.ev (.tmp d)) h6 (bG (fun g=>uK P g σ n ⟨dst,op,T,dt,after,some (j,h6)⟩ K) .mk)) .mk):=by
 unfold stepE wT bG;simp only
 cases h:(az[j]?).bind (·.dst)with
 |none=>rfl
 |some d=>
  simp only;generalize σ.ev (.tmp d)=v;unfold zJ
  cases v with
  |d x=>cases x<;>rfl
  |bC c v=>cases v with
   |d x=>cases x<;>rfl
   |_=>rfl
  |_=>rfl
section
variable {kv:List V} {σ:St} {az:List Oper} {dst:Option Tmp} {T:TypeId} {dt:String} {after:Array Edge} {K:St→Prop}
@[go_sem] theorem al4(op:Op)(j:Nat)(h6:Bool):vk P kv az σ ⟨dst,op,T,dt,after,some (j,h6)⟩ K=wT az j (bG (fun d=>zJ (σ.ev (.tmp d)) h6 (bG (fun g=>yu P kv g σ ⟨dst,op,T,dt,after,some (j,h6)⟩ K) .mk)) .mk):=cA rfl
@[go_sem] theorem al5(op:Op):vk P kv az σ ⟨dst,op,T,dt,after,none⟩ K=bareE P kv σ ⟨dst,op,T,dt,after,none⟩ K:=cA rfl
@[go_sem] theorem al6(x:Operand)(bC:Option (Nat×Bool)):bareE P kv σ ⟨dst,.move x,T,dt,after,bC⟩ K=opE P true σ σ.heap.length ⟨dst,.move x,T,dt,after,bC⟩ (bG (fun r=>K (σ.de dst σ.heap.length r)) .mk):=cA rfl
@[go_sem] theorem al7(x:Operand)(bC:Option (Nat×Bool)):bareE P kv σ ⟨dst,.assign x,T,dt,after,bC⟩ K=opE P true σ σ.heap.length ⟨dst,.assign x,T,dt,after,bC⟩ (bG (fun r=>K (σ.de dst σ.heap.length r)) .mk):=cA rfl
@[go_sem] theorem al8(c x y:Operand)(bC:Option (Nat×Bool)):bareE P kv σ ⟨dst,.pick c x y,T,dt,after,bC⟩ K=opE P true σ σ.heap.length ⟨dst,.pick c x y,T,dt,after,bC⟩ (bG (fun r=>K (σ.de dst σ.heap.length r)) .mk):=cA rfl
@[go_sem] theorem al9(op:BinOp)(U S6:TypeId)(x y:Operand)(bC:Option (Nat×Bool)):bareE P kv σ ⟨dst,.binOp op U x y S6,T,dt,after,bC⟩ K=opE P true σ σ.heap.length ⟨dst,.binOp op U x y S6,T,dt,after,bC⟩ (bG (fun r=>K (σ.de dst σ.heap.length r)) .mk):=cA rfl
@[go_sem] theorem ama(op:UnOp)(U:TypeId)(x:Operand)(bC:Option (Nat×Bool)):bareE P kv σ ⟨dst,.unOp op U x,T,dt,after,bC⟩ K=opE P true σ σ.heap.length ⟨dst,.unOp op U x,T,dt,after,bC⟩ (bG (fun r=>K (σ.de dst σ.heap.length r)) .mk):=cA rfl
@[go_sem] theorem amb(x:Operand)(i:Nat)(bC:Option (Nat×Bool)):bareE P kv σ ⟨dst,.extract x i,T,dt,after,bC⟩ K=opE P true σ σ.heap.length ⟨dst,.extract x i,T,dt,after,bC⟩ (bG (fun r=>K (σ.de dst σ.heap.length r)) .mk):=cA rfl
@[go_sem] theorem amc(x:Operand)(bC:Option (Nat×Bool)):bareE P kv σ ⟨dst,.nilCheck x,T,dt,after,bC⟩ K=opE P true σ σ.heap.length ⟨dst,.nilCheck x,T,dt,after,bC⟩ (bG (fun r=>K (σ.de dst σ.heap.length r)) .mk):=cA rfl
@[go_sem] theorem amd(S:TypeId)(x:Operand)(f:Nat)(bC:Option (Nat×Bool)):bareE P kv σ ⟨dst,.fieldAddr S x f,T,dt,after,bC⟩ K=opE P true σ σ.heap.length ⟨dst,.fieldAddr S x f,T,dt,after,bC⟩ (bG (fun r=>K (σ.de dst σ.heap.length r)) .mk):=cA rfl
@[go_sem] theorem ame(U:TypeId)(x jo:Operand)(bC:Option (Nat×Bool)):bareE P kv σ ⟨dst,.indexAddr U x jo,T,dt,after,bC⟩ K=opE P true σ σ.heap.length ⟨dst,.indexAddr U x jo,T,dt,after,bC⟩ (bG (fun r=>K (σ.de dst σ.heap.length r)) .mk):=cA rfl
@[go_sem] theorem amf(U:TypeId)(x:Operand)(bC:Option (Nat×Bool)):bareE P kv σ ⟨dst,.load U x,T,dt,after,bC⟩ K=opE P true σ σ.heap.length ⟨dst,.load U x,T,dt,after,bC⟩ (bG (fun r=>K (σ.de dst σ.heap.length r)) .mk):=cA rfl
@[go_sem] theorem amg(U:TypeId)(x jo:Operand)(bC:Option (Nat×Bool)):bareE P kv σ ⟨dst,.index U x jo,T,dt,after,bC⟩ K=opE P true σ σ.heap.length ⟨dst,.index U x jo,T,dt,after,bC⟩ (bG (fun r=>K (σ.de dst σ.heap.length r)) .mk):=cA rfl
@[go_sem] theorem amh(U:TypeId)(x:Operand)(ca hi wK:Option Operand)(bC:Option (Nat×Bool)):bareE P kv σ ⟨dst,.slice U x ca hi wK,T,dt,after,bC⟩ K=opE P true σ σ.heap.length ⟨dst,.slice U x ca hi wK,T,dt,after,bC⟩ (bG (fun r=>K (σ.de dst σ.heap.length r)) .mk):=cA rfl
@[go_sem] theorem ami(S U:TypeId)(x:Operand)(bC:Option (Nat×Bool)):bareE P kv σ ⟨dst,.convert S U x,T,dt,after,bC⟩ K=opE P true σ σ.heap.length ⟨dst,.convert S U x,T,dt,after,bC⟩ (bG (fun r=>K (σ.de dst σ.heap.length r)) .mk):=cA rfl
@[go_sem] theorem amj(U:TypeId)(parts:Array (Nat×Operand))(bC:Option (Nat×Bool)):bareE P kv σ ⟨dst,.build U parts,T,dt,after,bC⟩ K=opE P true σ σ.heap.length ⟨dst,.build U parts,T,dt,after,bC⟩ (bG (fun r=>K (σ.de dst σ.heap.length r)) .mk):=cA rfl
@[go_sem] theorem amk(U:TypeId)(bC:Option (Nat×Bool)):bareE P kv σ ⟨dst,.alloc U,T,dt,after,bC⟩ K=opE P true σ σ.heap.length ⟨dst,.alloc U,T,dt,after,bC⟩ (bG (fun r=>K (σ.de dst σ.heap.length r)) .mk):=cA rfl
@[go_sem] theorem aml(U:TypeId)(x:Operand)(bC:Option (Nat×Bool)):bareE P kv σ ⟨dst,.box U x,T,dt,after,bC⟩ K=opE P true σ σ.heap.length ⟨dst,.box U x,T,dt,after,bC⟩ (bG (fun r=>K (σ.de dst σ.heap.length r)) .mk):=cA rfl
@[go_sem] theorem amm(U:TypeId)(p x:Operand)(bC:Option (Nat×Bool)):bareE P kv σ ⟨dst,.store U p x,T,dt,after,bC⟩ K=opE P true σ σ.heap.length ⟨dst,.store U p x,T,dt,after,bC⟩ (bG (fun r=>K (σ.de dst σ.heap.length r)) .mk):=cA rfl
@[go_sem] theorem amn(U:TypeId)(len:Nat)(parts:Array (Nat×Operand))(bC:Option (Nat×Bool)):bareE P kv σ ⟨dst,.buildSlice U len parts,T,dt,after,bC⟩ K=opE P true σ σ.heap.length ⟨dst,.buildSlice U len parts,T,dt,after,bC⟩ (bG (fun r=>K (σ.de dst σ.heap.length r)) .mk):=cA rfl
@[go_sem] theorem amo(U:TypeId)(x y:Operand)(bC:Option (Nat×Bool)):bareE P kv σ ⟨dst,.makeSlice U x y,T,dt,after,bC⟩ K=opE P true σ σ.heap.length ⟨dst,.makeSlice U x y,T,dt,after,bC⟩ (bG (fun r=>K (σ.de dst σ.heap.length r)) .mk):=cA rfl
@[go_sem] theorem amp(f:Fn)(ys eZ:Array Operand)(bC:Option (Nat×Bool)):bareE P kv σ ⟨dst,.makeFunc f ys eZ,T,dt,after,bC⟩ K=opE P true σ σ.heap.length ⟨dst,.makeFunc f ys eZ,T,dt,after,bC⟩ (bG (fun r=>K (σ.de dst σ.heap.length r)) .mk):=cA rfl
@[go_sem] theorem amq(b:Builtin)(xs:Array Operand)(ts:Array TypeId)(bC:Option (Nat×Bool)):bareE P kv σ ⟨dst,.call ⟨.builtin b,xs,ts⟩,T,dt,after,bC⟩ K=opE P true σ σ.heap.length ⟨dst,.call ⟨.builtin b,xs,ts⟩,T,dt,after,bC⟩ (bG (fun r=>K (σ.de dst σ.heap.length r)) .mk):=cA rfl
@[go_sem] theorem amr(x:Operand)(xs:List Operand)(ts:Array TypeId)(bC:Option (Nat×Bool)):bareE P kv σ ⟨dst,.call ⟨.value x,xs.toArray,ts⟩,T,dt,after,bC⟩ K=evg true (σ.ev x) (bG (fun yq=>fnE yq (kN (fun f eZ=>evs true σ xs (bG (fun vs=>ab P kv σ dst f eZ (toADs σ.heap vs) vs K) .mk)) .mk)) .mk):=cA rfl
@[go_sem] theorem ams(f:FuncId)(eZ:List V)(K:FuncId→List V→Prop):fnE (.fn f eZ) K=K f eZ:=cA rfl
attribute [go_sem] fT
theorem ab.intro{f:FuncId}{as rs:List AD}{vs:List V}(h:PureCall P f as rs)(hk:K (σ.de dst σ.heap.length ⟨m4 rs σ.heap.length,aHs rs,[]⟩)):ab P kv σ dst f [] (some as) vs K:=.inl ⟨rfl,.inl (.inl ⟨as,rs,rfl,h,hk⟩)⟩
theorem ab.af{f:FuncId}{as rs:List AD}{vs:List V}(h:PureCall P f as rs)(hk:K (σ.de dst σ.heap.length ⟨m4 rs σ.heap.length,(aHs rs).map H.toCln,[]⟩)):ab P kv σ dst f [] (some as) vs K:=.inl ⟨rfl,.inl (.inr ⟨as,rs,rfl,h,hk⟩)⟩
theorem ab.inl{f:FuncId}{eZ vs:List V}{yt:Option (List AD)}(h:dx P f (σ.tmps++kv) σ.heap (vs++eZ) (kN (fun x hs=>K ⟨fT σ.tmps dst x,hs⟩) .mk)):ab P kv σ dst f eZ yt vs K:=.inr ⟨σ.tmps,SS _,h⟩
theorem ab.ij(di:List Nat){f:FuncId}{eZ vs ts:List V}{yt:Option (List AD)}(ht:keepT di 0 σ.tmps=ts)(h:dx P f (ts++kv) σ.heap (vs++eZ) (kN (fun x hs=>K ⟨fT ts dst x,hs⟩) .mk)):ab P kv σ dst f eZ yt vs K:=.inr ⟨ts,by rw[←ht];exact SW di 0 _,h⟩
theorem a7{g:Bool}{o:Oper}(h:opE P g σ σ.heap.length o (bG (fun r=>r.new=[]∧r.upd=[]∧K (σ.de o.dst σ.heap.length (cJ (.bC g r.v)))) .mk)):yu P kv g σ o K:=.inl (SM h)
theorem du{o:Oper}(h:bareE P kv σ o K):yu P kv true σ o K:=.inr ⟨fun _=>h,fun e=>(by cases e)⟩
theorem e5{o:Oper}(h:K (σ.de o.dst σ.heap.length (cJ (.bC false (.d (.bool false)))))):yu P kv false σ o K:=.inr ⟨fun e=>(by cases e),fun _=>h⟩
end
section
variable {g:Bool} {σ:St} {n:Nat} {dst:Option Tmp} {T:TypeId} {dt:String} {after:Array Edge} {bC:Option (Nat×Bool)} {K:eD→Prop}
@[go_sem] theorem amt(x:Operand):opE P g σ n ⟨dst,.move x,T,dt,after,bC⟩ K=evg g (σ.ev x) (bG (fun v=>K (cJ (j7 P T v))) .mk):=cA rfl
@[go_sem] theorem amu(x:Operand):opE P g σ n ⟨dst,.assign x,T,dt,after,bC⟩ K=evg g (σ.ev x) (bG (fun v=>K (cJ (j7 P T v))) .mk):=cA rfl
@[go_sem] theorem amv(c x y:Operand):opE P g σ n ⟨dst,.pick c x y,T,dt,after,bC⟩ K=Bc g (σ.ev c) (σ.ev x) (σ.ev y) (bG (fun v=>K (cJ v)) .mk):=cA rfl
@[go_sem] theorem amw(op:BinOp)(U zO:TypeId)(x y:Operand):opE P g σ n ⟨dst,.binOp op U x y zO,T,dt,after,bC⟩ K=evg g (σ.ev x) (bG (fun a=>evg g (σ.ev y) (bG (fun b=>withR (binE P op U a b) (bG (fun v=>K (cJ v)) .mk)) .mk)) .mk):=cA rfl
@[go_sem] theorem amx(op:UnOp)(U:TypeId)(x:Operand):opE P g σ n ⟨dst,.unOp op U x,T,dt,after,bC⟩ K=evg g (σ.ev x) (bG (fun a=>withO (unE op a) (bG (fun v=>K (cJ v)) .mk)) .mk):=cA rfl
@[go_sem] theorem amy(x:Operand)(i:Nat):opE P g σ n ⟨dst,.extract x i,T,dt,after,bC⟩ K=evg g (σ.ev x) (bG (fun a=>withO (extE a i) (bG (fun v=>K (cJ v)) .mk)) .mk):=cA rfl
@[go_sem] theorem amz(x:Operand):opE P g σ n ⟨dst,.nilCheck x,T,dt,after,bC⟩ K=evg g (σ.ev x) (bG (fun a=>ptrE a=true∧K (cJ a)) .mk):=cA rfl
@[go_sem] theorem amA(S:TypeId)(x:Operand)(f:Nat):opE P g σ n ⟨dst,.fieldAddr S x f,T,dt,after,bC⟩ K=evg g (σ.ev x) (bG (fun a=>withO (faE P S f a) (bG (fun v=>K (cJ v)) .mk)) .mk):=cA rfl
@[go_sem] theorem amB(U:TypeId)(x jo:Operand):opE P g σ n ⟨dst,.indexAddr U x jo,T,dt,after,bC⟩ K=evg g (σ.ev x) (bG (fun a=>evg g (σ.ev jo) (bG (fun b=>asI b (kN (fun _ i=>withR (iaE P σ.heap U a i) (bG (fun v=>K (cJ v)) .mk)) .mk)) .mk)) .mk):=cA rfl
@[go_sem] theorem amC(U:TypeId)(x:Operand):opE P g σ n ⟨dst,.load U x,T,dt,after,bC⟩ K=evg g (σ.ev x) (bG (fun a=>withR (loadE P σ.heap U a) (bG (fun v=>K (cJ v)) .mk)) .mk):=cA rfl
@[go_sem] theorem amD(U:TypeId)(x jo:Operand):opE P g σ n ⟨dst,.index U x jo,T,dt,after,bC⟩ K=evg g (σ.ev x) (bG (fun a=>evg g (σ.ev jo) (bG (fun b=>asI b (kN (fun _ i=>withR (ixE P U a i) (bG (fun v=>K (cJ v)) .mk)) .mk)) .mk)) .mk):=cA rfl
@[go_sem] theorem amE(U:TypeId)(x:Operand)(ca hi:Option Operand):opE P g σ n ⟨dst,.slice U x ca hi none,T,dt,after,bC⟩ K=evg g (σ.ev x) (bG (fun a=>bndE g σ 0 ca (bG (fun l=>bndE g σ (lenOfV a) hi (bG (fun h=>withR (cutE P σ.heap U a l h) (bG (fun v=>K (cJ v)) .mk)) .mk)) .mk)) .mk):=cA rfl
@[go_sem] theorem amF(S U:TypeId)(x:Operand):opE P g σ n ⟨dst,.convert S U x,T,dt,after,bC⟩ K=evg g (σ.ev x) (bG (fun a=>withR (cvE P σ.heap S U a) (bG (fun v=>K (cJ v)) .mk)) .mk):=cA rfl
@[go_sem] theorem amG(U:TypeId)(parts:List (Nat×Operand)):opE P g σ n ⟨dst,.build U parts.toArray,T,dt,after,bC⟩ K=evParts g σ parts (bG (fun ps=>withO (bldE P U ps) (bG (fun v=>K (cJ v)) .mk)) .mk):=by simp[opE,bG]
@[go_sem] theorem amH(U:TypeId):opE P g σ n ⟨dst,.alloc U,T,dt,after,bC⟩ K=withO ((zrI P U).map V.agg) (bG (fun v=>K ⟨.ptr n 0 0,[.box v.cells],[]⟩) .mk):=cA rfl
@[go_sem] theorem amI(U:TypeId)(x:Operand):opE P g σ n ⟨dst,.box U x,T,dt,after,bC⟩ K=evg g (σ.ev x) (bG (fun v=>v.wR=true∧K ⟨.ptr n 0 0,[.box v.cells],[]⟩) .mk):=cA rfl
@[go_sem] theorem amJ(U:TypeId)(p x:Operand):opE P g σ n ⟨dst,.store U p x,T,dt,after,bC⟩ K=evg g (σ.ev p) (bG (fun q=>evg g (σ.ev x) (bG (fun v=>wQ ((storeE P σ.heap U q (j7 P U v)).map fun(c,upd)=>(c,⟨.ak,[],upd⟩)) K) .mk)) .mk):=cA rfl
@[go_sem] theorem amK(U:TypeId)(len:Nat)(parts:List (Nat×Operand)):opE P g σ n ⟨dst,.buildSlice U len parts.toArray,T,dt,after,bC⟩ K=evParts g σ parts (bG (fun ps=>wQ (bsE P σ.heap U len ps n) K) .mk):=by simp[opE,bG]
@[go_sem] theorem amL(U:TypeId)(x y:Operand):opE P g σ n ⟨dst,.makeSlice U x y,T,dt,after,bC⟩ K=(x=y∧evg g (σ.ev x) (bG (fun v=>asI v (kN (fun _ i=>wQ (mkE P U i n) K) .mk)) .mk)):=cA rfl
@[go_sem] theorem amM(f:FuncId)(eZ:List Operand):opE P g σ n ⟨dst,.makeFunc (.func f) #[] eZ.toArray,T,dt,after,bC⟩ K=evs g σ eZ (bG (fun vs=>K (cJ (.fn f vs))) .mk):=by simp[opE,bG]
@[go_sem] theorem amN(c:Callee)(xs:List Operand)(ts:List TypeId):opE P g σ n ⟨dst,.call ⟨c,xs.toArray,ts.toArray⟩,T,dt,after,bC⟩ K=callE P g σ n c xs ts K:=by simp only[opE]
@[go_sem] theorem amO(x:Operand)(U:TypeId):callE P g σ n (.builtin .len) [x] [U] K=evg g (σ.ev x) (bG (fun a=>Mf (lenE P U a) (bG (fun m=>K (cJ (oQ .i64 m))) .mk)) .mk):=cA rfl
@[go_sem] theorem amP(x y:Operand)(U zO:TypeId):callE P g σ n (.builtin .append) [x,y] [U,zO] K=(U=zO∧evg g (σ.ev x) (bG (fun a=>evg g (σ.ev y) (bG (fun b=>wQ (CJ P σ.heap U a b n) K) .mk)) .mk)):=cA rfl
@[go_sem] theorem amQ(x y:Operand)(U zO:TypeId):callE P g σ n (.builtin .min) [x,y] [U,zO] K=evg g (σ.ev x) (bG (fun a=>evg g (σ.ev y) (bG (fun b=>asI a (kN (fun k i=>asI b (kN (fun iS j=>k=iS∧K (cJ (oQ k (if j<i then j else i)))) .mk)) .mk)) .mk)) .mk):=cA rfl
@[go_sem] theorem amR(x y:Operand)(U zO:TypeId):callE P g σ n (.builtin .max) [x,y] [U,zO] K=evg g (σ.ev x) (bG (fun a=>evg g (σ.ev y) (bG (fun b=>asI a (kN (fun k i=>asI b (kN (fun iS j=>k=iS∧K (cJ (oQ k (if j>i then j else i)))) .mk)) .mk)) .mk)) .mk):=cA rfl
@[go_sem] theorem amS(t:Tmp)(xs:List Operand)(ts:List TypeId):callE P g σ n (.value (.tmp t)) xs ts K=evg g (σ.ev (.tmp t)) (bG (fun yq=>fnE yq (kN (fun f eZ=>eZ=[]∧evs g σ xs (bG (fun vs=>au P f (toADs σ.heap vs) σ.heap vs n K) .mk)) .mk)) .mk):=by unfold callE;rfl
@[go_sem] theorem amT(f:FuncId)(xs:List Operand)(ts:List TypeId):callE P g σ n (.value (.func f)) xs ts K=evs g σ xs (bG (fun vs=>au P f (toADs σ.heap vs) σ.heap vs n K) .mk):=by unfold callE;rfl
end
section
variable {g:Bool} {σ:St}
@[go_sem] theorem amU(K:List V→Prop):evs g σ [] K=K []:=cA rfl
@[go_sem] theorem amV(x:Operand)(xs:List Operand)(K:List V→Prop):evs g σ (x::xs) K=evg g (σ.ev x) (bG (fun v=>evs g σ xs (bG (fun vs=>K (v::vs)) .mk)) .mk):=cA rfl
@[go_sem] theorem amW(K:List (Nat×V)→Prop):evParts g σ [] K=K []:=cA rfl
@[go_sem] theorem amX(i:Nat)(x:Operand)(xs:List (Nat×Operand))(K:List (Nat×V)→Prop):evParts g σ ((i,x)::xs) K=evg g (σ.ev x) (bG (fun v=>evParts g σ xs (bG (fun vs=>K ((i,v)::vs)) .mk)) .mk):=cA rfl
@[go_sem] theorem amY(d:Nat)(K:Nat→Prop):bndE g σ d none K=K d:=cA rfl
@[go_sem] theorem amZ(d:Nat)(x:Operand)(K:Nat→Prop):bndE g σ d (some x) K=evg g (σ.ev x) (bG (fun v=>asI v (kN (fun _ i=>0≤i∧K i.toNat) .mk)) .mk):=cA rfl
@[go_sem] theorem am0(K:List V→Prop):rvsE P σ [] K=K []:=cA rfl
@[go_sem] theorem am1(r:ResultVar)(rs:List ResultVar)(K:List V→Prop):rvsE P σ (r::rs) K=rvE P σ r (bG (fun v=>rvsE P σ rs (bG (fun vs=>K (v::vs)) .mk)) .mk):=cA rfl
@[go_sem] theorem am2(t:Tmp)(K:V→Prop):rvE P σ (.tmp t) K=K (σ.ev (.tmp t)):=cA rfl
@[go_sem] theorem am3(t:Tmp)(T:TypeId)(K:V→Prop):rvE P σ (.cell t T) K=evg true (σ.ev (.tmp t)) (bG (fun v=>withR (loadE P σ.heap T v) K) .mk):=cA rfl
@[go_sem] theorem am4(rs:List ResultVar)(res:List AD):gM P rs res σ=rvsE P σ rs (bG (fun vs=>outOA (toOAs σ.heap vs) res) .mk):=cA rfl
@[go_sem] theorem am5(as:List AD)(b9:List Nat)(res:List AD):outOA (some (as,b9)) res=(b9.Nodup∧as=res):=cA rfl
end
@[go_sem] theorem am6(T:TypeId)(x:D):j7 P T (.d x)=.d x:=rfl
@[go_sem] theorem am7(T:TypeId)(x:List V):j7 P T (.agg x)=.agg x:=rfl
@[go_sem] theorem am8(T:TypeId)(a b c:Nat):j7 P T (.ptr a b c)=.ptr a b c:=rfl
@[go_sem] theorem am9(T:TypeId)(a:List D)(b:Nat):j7 P T (.fo a b)=.fo a b:=rfl
@[go_sem] theorem ana(T:TypeId)(a b c:Nat):j7 P T (.sl a b c)=.sl a b c:=rfl
@[go_sem] theorem anb(T:TypeId)(a:FuncId)(b:List V):j7 P T (.fn a b)=.fn a b:=rfl
@[go_sem] theorem anc(T:TypeId)(b:List V):j7 P T (.dV b)=.dV b:=rfl
@[go_sem] theorem ane(T:TypeId)(c:Bool)(v:V):j7 P T (.bC c v)=.bC c v:=rfl
@[go_sem] theorem anf(T:TypeId):j7 P T .ak=.ak:=rfl
@[go_sem] theorem ang(T:TypeId)(s:Nat):j7 P T (.dw s)=.dw (match elI P T with|some (_,sz,_)=>sz|none=>s):=rfl
@[go_sem] theorem anh(g:Bool)(c a b:Bool)(K:V→Prop):Bc g (.d (.bool c)) (.d (.bool a)) (.d (.bool b)) K=K (.d (.bool (bif c then a else b))):=cA rfl
@[go_sem] theorem ani(g:Bool)(c a:Bool)(CW b:Bool)(K:V→Prop):Bc g (.d (.bool c)) (.d (.bool a)) (.bC CW (.d (.bool b))) K=(((g&&!c)=true→CW=true)∧K (.d (.bool (bif c then a else b)))):=cA rfl
@[go_sem] theorem anj(g:Bool)(c a:Bool)(S7 b:Bool)(K:V→Prop):Bc g (.d (.bool c)) (.bC S7 (.d (.bool a))) (.d (.bool b)) K=(((g&&c)=true→S7=true)∧K (.d (.bool (bif c then a else b)))):=cA rfl
@[go_sem] theorem ank(g:Bool)(nY c:Bool)(a b:V)(K:V→Prop):Bc g (.bC nY (.d (.bool c))) a b K=((g=true→nY=true)∧evg (g&&c) a (bG (fun a=>asB a (bG (fun y=>evg (g&&!c) b (bG (fun b=>asB b (bG (fun z=>K (.d (.bool (bif c then y else z)))) .mk)) .mk)) .mk)) .mk)):=cA rfl
@[go_sem] theorem anl(T:TypeId)(k:IntKind)(a b:Int):binE P .add T (.d (.int k a)) (.d (.int k b))=some (True,.d (.int k (k.wrap (a+b)))):=by simp[binE,binI]
@[go_sem] theorem anm(T:TypeId)(k:IntKind)(a b:Int):binE P .sub T (.d (.int k a)) (.d (.int k b))=some (True,.d (.int k (k.wrap (a-b)))):=by simp[binE,binI]
@[go_sem] theorem ann(T:TypeId)(k:IntKind)(a b:Int):binE P .mul T (.d (.int k a)) (.d (.int k b))=some (True,.d (.int k (k.wrap (a * b)))):=by simp[binE,binI]
@[go_sem] theorem ano(T:TypeId)(k:IntKind)(a b:Int):binE P .quo T (.d (.int k a)) (.d (.int k b))=some (b≠0,.d (.int k (k.wrap (a.tdiv b)))):=by simp[binE,binI]
@[go_sem] theorem anp(T:TypeId)(k:IntKind)(a b:Int):binE P .rem T (.d (.int k a)) (.d (.int k b))=some (b≠0,.d (.int k (a.tmod b))):=by simp[binE,binI]
@[go_sem] theorem anq(T:TypeId)(k:IntKind)(a b:Int):binE P .and T (.d (.int k a)) (.d (.int k b))=some (True,.d (.int k (bitI .and k a b))):=by simp[binE,binI]
@[go_sem] theorem anr(T:TypeId)(k:IntKind)(a b:Int):binE P .or T (.d (.int k a)) (.d (.int k b))=some (True,.d (.int k (bitI .or k a b))):=by simp[binE,binI]
@[go_sem] theorem ans(T:TypeId)(k:IntKind)(a b:Int):binE P .xor T (.d (.int k a)) (.d (.int k b))=some (True,.d (.int k (bitI .xor k a b))):=by simp[binE,binI]
@[go_sem] theorem ant(T:TypeId)(k:IntKind)(a b:Int):binE P .eql T (.d (.int k a)) (.d (.int k b))=some (True,.d (.bool (decide (a=b)))):=by simp[binE,binI];rfl
@[go_sem] theorem anu(T:TypeId)(k:IntKind)(a b:Int):binE P .neq T (.d (.int k a)) (.d (.int k b))=some (True,.d (.bool (decide (a≠b)))):=by simp[binE,binI,bne];rfl
@[go_sem] theorem anv(T:TypeId)(k:IntKind)(a b:Int):binE P .lss T (.d (.int k a)) (.d (.int k b))=some (True,.d (.bool (decide (a<b)))):=by simp[binE,binI]
@[go_sem] theorem anw(T:TypeId)(k:IntKind)(a b:Int):binE P .leq T (.d (.int k a)) (.d (.int k b))=some (True,.d (.bool (decide (a≤b)))):=by simp[binE,binI]
@[go_sem] theorem anx(T:TypeId)(k:IntKind)(a b:Int):binE P .gtr T (.d (.int k a)) (.d (.int k b))=some (True,.d (.bool (decide (b<a)))):=by simp[binE,binI]
@[go_sem] theorem anz(T:TypeId)(k:IntKind)(a b:Int):binE P .geq T (.d (.int k a)) (.d (.int k b))=some (True,.d (.bool (decide (b≤a)))):=by simp[binE,binI]
@[go_sem] theorem anA(T:TypeId)(k iS:IntKind)(a b:Int):binE P .shl T (.d (.int k a)) (.d (.int iS b))=shI .shl k a b:=rfl
@[go_sem] theorem anB(T:TypeId)(k iS:IntKind)(a b:Int):binE P .shr T (.d (.int k a)) (.d (.int iS b))=shI .shr k a b:=rfl
@[go_sem] theorem anC(T:TypeId)(a b:List UInt8):binE P .add T (.d (.str a)) (.d (.str b))=binS .add a b:=rfl
@[go_sem] theorem anD(T:TypeId)(a b:List UInt8):binE P .eql T (.d (.str a)) (.d (.str b))=binS .eql a b:=rfl
@[go_sem] theorem anE(T:TypeId)(a b:List UInt8):binE P .neq T (.d (.str a)) (.d (.str b))=binS .neq a b:=rfl
@[go_sem] theorem anF(a b:List UInt8):binS .add a b=some (a.length+b.length≤maxLen,.d (.str (a++b))):=rfl
@[go_sem] theorem anG(a b:List UInt8):binS .eql a b=some (True,.d (.bool (decide (a=b)))):=by
 have:(a == b)=decide (a=b):=by rw[Bool.eq_iff_iff];simp
 simp only[binS,this]
@[go_sem] theorem anH(a b:List UInt8):binS .neq a b=some (True,.d (.bool (decide (a≠b)))):=by
 have:(a != b)=decide (a≠b):=by rw[Bool.eq_iff_iff];simp
 simp only[binS,this]
@[go_sem] theorem anI(T:TypeId)(a b:Bool):binE P .eql T (.d (.bool a)) (.d (.bool b))=if isBoolI P T then some (True,.d (.bool (a == b)))else none:=rfl
@[go_sem] theorem anJ(T:TypeId)(a b:Bool):binE P .neq T (.d (.bool a)) (.d (.bool b))=if isBoolI P T then some (True,.d (.bool (a != b)))else none:=rfl
@[go_sem] theorem anK(T:TypeId)(xs ys:List V):binE P .eql T (.agg xs) (.agg ys)=(eqCells xs ys).map fun b=>(nV P T (kindsV xs),.d (.bool b)):=by simp only[binE];cases eqCells xs ys<;>rfl
@[go_sem] theorem anL(T:TypeId)(xs ys:List V):binE P .neq T (.agg xs) (.agg ys)=(eqCells xs ys).map fun b=>(nV P T (kindsV xs),.d (.bool !b)):=by simp only[binE];cases eqCells xs ys<;>rfl
@[go_sem] theorem anM(T:TypeId)(id b0 off zP:Nat):binE P .eql T (.ptr id b0 off) (.ptr id b0 zP)=if isPtrI P T=true then some (True,.d (.bool (decide (off=zP))))else none:=by simp[binE,yw]
attribute [go_sem] eqCells eqD kindsV
@[go_sem] theorem anN(b:Bool):unE .not (.d (.bool b))=some (.d (.bool !b)):=rfl
@[go_sem] theorem anO(k:IntKind)(x:Int):unE .neg (.d (.int k x))=some (.d (.int k (k.wrap (0-x)))):=rfl
attribute [go_sem] bH.p bH.q bH.u oQ yw E1 lenE extE ptrE faE iaE H.els wZ loadE ixE cutE cut3E reachE clrE CJ inE lenOfV cvE bldE V.cells V.wR V.oneB storeE toDs toD apE srcE elsOf bsE vfill mkE dQ chunk L0 D.flat D.plain toADs toAD toRDs toRD toOAs H_ m4 EK aVs aHs EL rV rVs wO rHs zDs zD AD.py
attribute [go_sem] false_implies true_implies true_and and_true Option.map_some Option.map_none List.map_cons List.map_nil eW ft if_true if_false Option.isSome_some Option.isSome_none Bool.false_eq_true Option.getD_some Option.getD_none List.append_nil bx bB List.drop_zero List.drop_succ_cons List.take_zero List.take_succ_cons List.headD_cons List.replicate_zero List.all_nil List.all_cons List.zipIdx_nil Bool.and_true Bool.true_and Bool.and_self Bool.false_and Bool.and_false List.nodup_nil reduceCtorEq Nat.zero_add decide_true decide_false eG List.length_replicate bS cc
@[go_sem] theorem anP:gy []=true:=rfl
@[go_sem] theorem anQ(c:List D)(cs:List (List D)):gy (c::cs)=(c.all D.flat&&gy cs):=rfl
@[go_sem] theorem anR(cs ds:List (List D)):gy (cs++ds)=(gy cs&&gy ds):=by simp[gy]
theorem abn{α:Type}(f:α→List D)(xs:List α):(xs.map f).take xs.length=xs.map f:=dH (by simp)
attribute [go_sem] abn Nat.le_refl imp_self beq_true beq_false Bool.not_not
attribute [go_sem] Int.reduceLE Int.reduceLT Int.reduceNeg Int.reduceToNat Nat.reduceAdd Nat.reduceSub Nat.reduceMul Nat.reduceLT Nat.reduceLeDiff Nat.reduceEqDiff
@[go_sem] theorem anS(v:V):(cJ v).v=v:=rfl
@[go_sem] theorem anT(v:V):(cJ v).new=[]:=rfl
@[go_sem] theorem anU(v:V):(cJ v).upd=[]:=rfl
@[go_sem] theorem anV:bytesL []=some []:=rfl
@[go_sem] theorem anW(n:Int):bytesL [[.int .u8 n]]=some [UInt8.ofNat n.toNat]:=rfl
@[go_sem] theorem anX(n m:Int):bytesL [[.int .u8 n],[.int .u8 m]]=some [UInt8.ofNat n.toNat,UInt8.ofNat m.toNat]:=rfl
@[go_sem] theorem anY{n:Nat}(h:n≤1000000):(n≤maxLen)=True:=eq_true (S5 h)
attribute [go_sem] cond_true cond_false Int.reduceNe iG ke
theorem Z1{f:FuncId}{fn:Func}{c:Code}{args res:List AD}(hf:P.funcs[f]?=some fn)(hb:fn.body=some c)(hcall:∀(args:Array Value) (w:World),(callFunc f args).run P w=.ok (.enter f args) w)(hm:P.follows .mixedOrders=true)(ts:List V)
  (hn:args.map AD.py++List.replicate (fn.ntmps-args.length) .ak=ts) (rs:List ResultVar) (hr:fn.results.toList=rs) (h:um args→codeE P [] c ⟨ts,[]⟩ (bG (gM P rs res) .mk) [] (bG (gM P rs res) .mk)):PureCall P f args res:=
 abo hf hb hcall hm hn hr h
def jn:Nat→List V→List V
 |0,l=>l
 |n+1,l=>.ak::jn n l
def S8:Nat→bH
 |0=>.pre
 |1=>.dv
 |_+2=>.post
def rD:Nat→Nat→List bH
 |0,_=>[]
 |n+1,c=>S8 (c % 3)::rD n (c / 3)
def cP(n:Nat)(l:List Nat):List (List bH):=l.map (rD n)
def ts0:List AD→Nat→List V
 |[],n=>jn n []
 |a::l,n=>a.py::ts0 l (n-1)
theorem S9:∀(n:Nat),jn n []=List.replicate n .ak
 |0=>rfl
 |n+1=>by rw[jn,S9 n,List.replicate_succ]
theorem LG:∀(l:List AD) (n:Nat),l.map AD.py++List.replicate (n-l.length) .ak=ts0 l n
 |[],n=>by simp[ts0,S9]
 |a::l,n=>by
  have h:=LG l (n-1);rw[List.map_cons,bB,eW,ts0,←h,show n-(l.length+1)=n-1-l.length from by omega]
attribute [go_sem,simp] jn
attribute [go_sem] ts0 S8 rD cP Nat.reduceDiv Nat.reduceMod
theorem aw{p q:Prop}(k:q)(h:p:=by first|omega|(exact⟨by omega,by omega⟩)|(simp only[maxLen];omega)|(simp;done)|(simp;omega)):p∧q:=⟨h,k⟩
theorem kf{σ:St}{n:Nat}{o:Oper}{K:eD→Prop}(h:opE P true σ n o K):uK P true σ n o K:=aa4 h
theorem j1{σ:St}{n:Nat}{o:Oper}{K:eD→Prop}(h:K (cJ (.bC false (.d (.bool false))))):uK P false σ n o K:=aa5 h
theorem e8{g:Bool}{σ:St}{n:Nat}{o:Oper}{K:eD→Prop}(h:opE P g σ n o (bG (fun r=>r.new=[]∧r.upd=[]∧K (cJ (.bC g r.v))) .mk)):uK P g σ n o K:=SM h
theorem bt{t:Bool}{A B:Prop}{s:uN A}{w1:uN B}(h1:t=true→A)(h2:t=false→B):Bj t (zN A s) (zN B w1):=⟨h1,h2⟩
theorem au.af{f:FuncId}{as rs:List AD}{hs:List H}{vs:List V}{n:Nat}{K:eD→Prop}(h:PureCall P f as rs)(hk:K ⟨m4 rs n,(aHs rs).map H.toCln,[]⟩):au P f (some as) hs vs n K:=.inr ⟨as,rs,rfl,h,hk⟩
def bA{α:Type}(kv:List V)(g_:α→St)(lO:α→Nat)(h7:α→Prop)(x:α)(σ':St):Prop:=∃pN,pM σ' pN∧∃y Bk,h7 y∧lO y<lO x∧kk kv Bk pN (g_ y)
theorem bA.intro{α:Type}{kv:List V}{g_:α→St}{lO:α→Nat}{h7:α→Prop}{x:α}{σ':St}(y:α)(Bk:List Nat)(h1:h7 y)(h2:lO y<lO x)(aj:kk kv Bk σ' (g_ y)):bA kv g_ lO h7 x σ':=⟨σ',pM.refl σ',y,Bk,h1,h2,aj⟩
theorem b7.intro{kv:List V}{body:St→(St→Prop)→Prop}{s:uN body}{σ:St}{α:Type}(g_:α→St)(lO:α→Nat)(h7:α→Prop)(x:α)(ρ:List Nat)(hp:h7 x)(hs:kk kv ρ σ (g_ x))
  (E2:∀x,h7 x→body (g_ x) (bG (bA kv g_ lO h7 x) .mk)):b7 kv (kN body s) σ:=⟨α,g_,lO,h7,x,ρ,hp,hs,fun x hx=>⟨g_ x,pM.refl _,E2 x hx⟩⟩
def openE(id b0:Nat)(σ:St)(K:St→Prop):Prop:=
 match aL σ.heap id with
 |.af sz xs=>match xs[b0]? with
  |some c=>K ⟨σ.tmps,hnew (b_ σ.heap id (.g1 sz (xs.take b0) (rVs c σ.heap.length) (xs.drop (b0+1)))) σ.heap.length (rHs c)⟩
  |none=>False
 |_=>False
def closeB(hs:List H):List Nat→Prop
 |[]=>True
 |i::is=>(match aL hs i with|.ar _ ys true=>gy ys=true|_=>False)∧closeB hs is
def closeE(id:Nat)(σ:St)(K:St→Prop):Prop:=
 match aL σ.heap id with
 |.g1 sz pre cells post=>match toDs σ.heap cells with
  |some (ds,b9)=>b9.Nodup∧closeB σ.heap b9∧K ⟨σ.tmps,hupd (b_ σ.heap id (.af sz (pre++ds::post))) (b9.map fun i=>(i,H.b'))⟩
  |none=>False
 |_=>False
theorem S_{hs:List H}:∀{b9:List Nat},closeB hs b9→∀i∈b9,∃s ys,aL hs i=.ar s ys true∧gy ys=true
 |[],_,i,h=>by cases h
 |j::is,hc,i,h=>by
  simp only[closeB]at hc;rcases List.mem_cons.1 h with rfl|h
  ·have h1:=hc.1;split at h1
   ·rename_i s ys e;exact⟨s,ys,e,h1⟩
   ·exact h1.elim
  ·exact S_ hc.2 i h
theorem Mr{id b0:Nat}{σ:St}{K:St→Prop}(h:openE id b0 σ K):∃lP,pM σ lP∧K lP:=by
 unfold openE at h;split at h
 ·rename_i sz xs hx;split at h
  ·rename_i c hc;exact⟨_,.inr (.inl ⟨id,b0,sz,xs,c,hx,hc,rfl⟩),h⟩
  ·exact h.elim
 ·exact h.elim
theorem abp{id:Nat}{σ:St}{K:St→Prop}(h:closeE id σ K):∃lP,pM σ lP∧K lP:=by
 unfold closeE at h;split at h
 ·rename_i sz pre cells post hx;split at h
  ·rename_i ds b9 hd;obtain⟨h1,h2,aj⟩:=h;exact⟨_,.inr (.inr ⟨id,sz,pre,cells,post,ds,b9,hx,hd,h1,S_ h2,rfl⟩),aj⟩
  ·exact h.elim
 ·exact h.elim
theorem ab.He{kv:List V}{σ:St}{dst:Option Tmp}{K:St→Prop}{f:FuncId}{vs:List V}{as rs:List AD}(id b0:Nat)(h:PureCall P f as rs)(hk:openE id b0 (σ.de dst σ.heap.length ⟨m4 rs σ.heap.length,(aHs rs).map H.toCln,[]⟩) (bG K .mk)):ab P kv σ dst f [] (some as) vs K:=by
 obtain⟨lP,h1,h2⟩:=Mr hk;exact Or.inl ⟨rfl,Or.inr ⟨as,rs,rfl,h,lP,h1,h2⟩⟩
theorem b7.g1{kv:List V}{body:St→(St→Prop)→Prop}{s:uN body}{σ:St}{α:Type}(g_:α→St)(lO:α→Nat)(h7:α→Prop)(x:α)(ρ:List Nat)(hp:h7 x)(hs:kk kv ρ σ (g_ x))
  (E2:∀x,h7 x→body (g_ x) (bG (bA kv g_ lO h7 x) .mk)∨∃id b0,openE id b0 (g_ x) (bG (fun lP=>body lP (bG (bA kv g_ lO h7 x) .mk)) .mk)):b7 kv (kN body s) σ:=
 ⟨α,g_,lO,h7,x,ρ,hp,hs,fun x hx=>by
  rcases E2 x hx with h|⟨id,b0,h⟩
  ·exact⟨g_ x,pM.refl _,h⟩
  ·exact Mr h⟩
attribute [go_sem] openE closeE closeB H.toCln H.esz toX toXs clnOf
attribute [go_sem] kk vsees vsee hsees hsee bg vok allOk hok u_ ren rens
theorem bz{n:Int}(h1:-9223372036854775808≤n)(h2:n≤9223372036854775807):IntKind.i64.wrap n=n:=by
 rw[IntKind.wrap_i64];omega
theorem Ms{n:Int}(h1:0≤n)(h2:n≤255):IntKind.u8.wrap n=n:=by
 simp only[IntKind.wrap,IntKind.signed,IntKind.bits];simp;omega
theorem ba{kv:List V}{az:List Oper}{σ:St}{K:St→Prop}(rows:List (List bH))(h1:uA az rows=true)(h2:rows.all (fun r=>r.length == az.length)=true)
  (h:anyE P az σ rows az [] σ.heap.length (bG (fun its=>(updE rows 0 its∨upd2 σ rows az rows [] its)∧K (seqAp its σ)) .mk)):Cv P kv az.toArray σ K:=.inl ⟨rows,h1,h2,h⟩
theorem jB{kv:List V}{az:List Oper}{σ:St}{K:St→Prop}(gp:St→Prop)(h:exE P kv az az.length (List.replicate az.length false) σ gp)(hk:∀σ',gp σ'→K σ'):Cv P kv az.toArray σ K:=.inr ⟨gp,hk,by simpa using h⟩
theorem Eg{kv:List V}{az:List Oper}{n:Nat}{S:List Bool}{σ:St}{K:St→Prop}(h:rdyE S az [] S=[])(hk:K σ):exE P kv az n S σ K:=by
 cases n with
 |zero=>exact⟨h,hk⟩
 |succ n=>refine⟨fun _=>hk,?_⟩;rw[h];trivial
theorem Ef{kv:List V}{az:List Oper}{n:Nat}{S:List Bool}{σ:St}{K:St→Prop}{x:Oper×List Bool}{r:List (Oper×List Bool)}(e:rdyE S az [] S=x::r)(h:vj (x::r) fun o lF=>vk P kv az σ o (bG (fun σ'=>exE P kv az n lF σ' K) .mk)):exE P kv az (n+1) S σ K:=
 ⟨fun q=>(by rw[e]at q;cases q),by rw[e];exact h⟩
theorem AU{F:Oper→List Bool→Prop}{o:Oper}{S:List Bool}{r:List (Oper×List Bool)}(h:F o S)(hr:vj r F):vj ((o,S)::r) F:=⟨h,hr⟩
theorem AT{F:Oper→List Bool→Prop}:vj [] F:=trivial
@[go_sem] theorem anZ(az:List Oper)(ed:St)(l:List dr)(n:Nat)(K:List dr→Prop):anyE P az ed [] [] l n K=K l:=cA rfl
@[go_sem] theorem an0(az:List Oper)(ed:St)(row:List bH)(rows:List (List bH))(o:Oper)(a6:List Oper)(l:List dr)(n:Nat)(K:List dr→Prop) :
  anyE P az ed (row::rows) (o::a6) l n K=stepE P az (mask row l (o::a6) ed) n o (bG (fun r=>anyE P az ed rows a6 (l++[(o,n,r)]) (n+r.new.length) K) .mk):=cA rfl
@[go_sem] theorem an1(row:List bH)(o:Oper)(n:Nat)(r:eD)(l:List dr)(a6:List Oper)(σ:St):mask (.pre::row) ((o,n,r)::l) a6 σ=mask row l a6 (σ.de o.dst n r):=rfl
@[go_sem] theorem an2(row:List bH)(o:Oper)(n:Nat)(r:eD)(l:List dr)(a6:List Oper)(σ:St):mask (.dv::row) ((o,n,r)::l) a6 σ=mask row l a6 ⟨vy σ.tmps o.dst,kilH σ.heap r.upd⟩:=rfl
@[go_sem] theorem an3(row:List bH)(o:Oper)(a6:List Oper)(σ:St):mask (.dv::row) [] (o::a6) σ=mask row [] a6 ⟨vy σ.tmps o.dst,σ.heap⟩:=rfl
@[go_sem] theorem an4(row:List bH)(o:Oper)(a6:List Oper)(σ:St):mask (.post::row) [] (o::a6) σ=mask row [] a6 σ:=rfl
@[go_sem] theorem an5(l:List dr)(a6:List Oper)(σ:St):mask [] l a6 σ=σ:=by cases l<;>cases a6<;>rfl
attribute [go_sem] vy kilH updE allPre ltE seqAp upd2 HL okR zy deadB List.all_cons List.all_nil List.map_cons List.map_nil true_or false_or
theorem fc{f:FuncId}{fn:Func}{c:Code}{kv:List V}{hs:List H}{vs:List V}{K:V→List H→Prop}{n:Nat}(hf:P.funcs[f]?=some fn)(hb:fn.body=some c)(hcall:∀(args:Array Value) (w:World),(callFunc f args).run P w=.ok (.enter f args) w)(hm:P.follows .mixedOrders=true)
  (hn:fn.ntmps=n) {rs:List ResultVar} (hr:fn.results.toList=rs) (h:codeE P kv c ⟨vs++List.replicate (n-vs.length) .ak,hs⟩ (bG (vJ P rs (kN K .mk)) .mk) [] (bG (vJ P rs (kN K .mk)) .mk)):dx P f kv hs vs K:=
 abq hf hb hcall hm (by rw[hn]) hr h
@[go_sem] theorem an6(rs:List ResultVar)(K:V→List H→Prop)(σ:St):vJ P rs K σ=rvsE P σ rs (bG (fun vs=>K (tupV vs) σ.heap) .mk):=cA rfl
attribute [go_sem] tupV
@[go_sem] theorem an7(as:List AD)(b9:List Nat)(res:List AD):S' (some (as,b9)) res=(as=res∧b9=[]):=by simp[S']
def coverB:List Nat→List (Nat×H)→Bool
 |[],[]=>true
 |i::is,q::upd=>q.1 == i&&coverB is upd
 |_,_=>false
@[go_sem] theorem an8:coverB [] []=true:=rfl
@[go_sem] theorem an9(i:Nat)(is:List Nat)(q:Nat×H)(upd:List (Nat×H)):coverB (i::is) (q::upd)=(q.1 == i&&coverB is upd):=rfl
attribute [go_sem] List.any_cons List.any_nil Bool.or_true Bool.true_or Bool.or_false Bool.false_or Nat.reduceBEq BEq.rfl beq_self_eq_true
@[go_sem] theorem aoa{α:Type}(a:α)(l m:List α):List.append (a::l) m=a::List.append l m:=rfl
@[go_sem] theorem aob{α:Type}(m:List α):List.append [] m=m:=rfl
variable {P:Program}
section
variable {M0:Type} {enc:TypeId×Value→M0} {w:World} {sp:Nat→Bool} {held:Bool}
end
section
variable {M0:Type} {enc:TypeId×Value→M0} {w:World} {sp:Nat→Bool} {held:Bool}
end
end Gv
