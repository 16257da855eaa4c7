/-
  Part of the proof: the machine, what functions compute, and the plain laws.
-/
import Derived.Test.YtcnmbnmmhocolaaGreatDoorM00
import Derived.Deep.LoopGhost
import GoSem.ClaimChange
namespace Gv
open Go
variable {P:Program} {o:Oper} {g:Bool} {σ:St} {n:Nat} {K:dS→Prop}
def wy(r:Option (Prop×dS))(K:dS→Prop):Prop:=match r with|some (p,r)=>p∧K r|none=>False
def Mm(r:Option Nat)(K:Nat→Prop):Prop:=match r with|some m=>K m|none=>False
def ao(P:Program)(f:FuncId)(as:Option (List AD))(_:List H)(_:List V)(n:Nat)(K:dS→Prop):Prop:=
 (∃xL rs,as=some xL∧PureCall P f xL rs∧K ⟨mC rs n,aHs rs,[]⟩)∨
 (∃xL rs,as=some xL∧PureCall P f xL rs∧K ⟨mC rs n,(aHs rs).map H.toCln,[]⟩)
theorem ao.intro{f:FuncId}{as rs:List AD}{hs:List H}{vs:List V}(h:PureCall P f as rs)(hk:K ⟨mC rs n,aHs rs,[]⟩):ao P f (some as) hs vs n K:=.inl ⟨as,rs,rfl,h,hk⟩
def fnE(v:V)(K:FuncId→List V→Prop):Prop:=match v with|.fn f dU=>K f dU|_=>False
theorem SF{v:V}{K:FuncId→List V→Prop}(h:fnE v K):∃f dU,v=.fn f dU∧K f dU:=by
 unfold fnE at h;split at h
 ·exact⟨_,_,rfl,h⟩
 ·exact h.elim
def callE(P:Program)(g:Bool)(σ:St)(n:Nat)(c:Callee)(xs:List Operand)(ts:List TypeId)(K:dS→Prop):Prop:=
 match c,xs,ts with
 |.builtin .len,[x],[T]=>evg g (σ.ev x) fun a=>Mm (lenE P T a) fun m=>K (ck (oH .i64 m))
 |.builtin .append,[x,y],[T,U]=>T=U∧evg g (σ.ev x) fun a=>evg g (σ.ev y) fun b=>wy (Ci P σ.heap T a b n) K
 |.builtin .clear,[x],[T]=>evg g (σ.ev x) fun a=>wy (clrE P σ.heap T a) K
 |.builtin .min,[x,y],[_,_]=>evg g (σ.ev x) fun a=>evg g (σ.ev y) fun b=>asI a fun k i=>asI b fun ji j=>k=ji∧K (ck (oH k (if j<i then j else i)))
 |.builtin .max,[x,y],[_,_]=>evg g (σ.ev x) fun a=>evg g (σ.ev y) fun b=>asI a fun k i=>asI b fun ji j=>k=ji∧K (ck (oH k (if j>i then j else i)))
 |.value (.func f),xs,_=>evs g σ xs fun vs=>ao P f (toADs σ.heap vs) σ.heap vs n K
 |.value x,xs,_=>evg g (σ.ev x) fun xM=>fnE xM fun f dU=>dU=[]∧evs g σ xs fun vs=>ao P f (toADs σ.heap vs) σ.heap vs n K
 |_,_,_=>False
def opE(P:Program)(g:Bool)(σ:St)(n:Nat)(o:Oper)(K:dS→Prop):Prop:=
 match o.op with
 |.move x=>evg g (σ.ev x) fun v=>K (ck (kb P o.type v))
 |.assign x=>evg g (σ.ev x) fun v=>K (ck (kb P o.type v))
 |.pick c x y=>AB g (σ.ev c) (σ.ev x) (σ.ev y) fun v=>K (ck v)
 |.binOp op T x y _=>evg g (σ.ev x) fun a=>evg g (σ.ev y) fun b=>withR (binE P op T a b) fun v=>K (ck v)
 |.unOp op _ x=>evg g (σ.ev x) fun a=>withO (unE op a) fun v=>K (ck v)
 |.extract x i=>evg g (σ.ev x) fun a=>withO (extE a i) fun v=>K (ck v)
 |.nilCheck x=>evg g (σ.ev x) fun a=>ptrE a=true∧K (ck a)
 |.fieldAddr S x f=>evg g (σ.ev x) fun a=>withO (faE P S f a) fun v=>K (ck v)
 |.indexAddr T x jv=>evg g (σ.ev x) fun a=>evg g (σ.ev jv) fun b=>asI b fun _ i=>withR (iaE P σ.heap T a i) fun v=>K (ck v)
 |.load T x=>evg g (σ.ev x) fun a=>withR (loadE P σ.heap T a) fun v=>K (ck v)
 |.index T x jv=>evg g (σ.ev x) fun a=>evg g (σ.ev jv) fun b=>asI b fun _ i=>withR (ixE P T a i) fun v=>K (ck v)
 |.slice T x b0 hi none=>evg g (σ.ev x) fun a=>bndE g σ 0 b0 fun l=>bndE g σ (lenOfV a) hi fun h=>withR (cutE P σ.heap T a l h) fun v=>K (ck v)
 |.convert l5 dst x=>evg g (σ.ev x) fun a=>withR (cvE P σ.heap l5 dst a) fun v=>K (ck v)
 |.build T parts=>evParts g σ parts.toList fun ps=>withO (bldE P T ps) fun v=>K (ck v)
 |.alloc T=>withO ((zrI P T).map V.agg) fun v=>K ⟨.ptr n 0 0,[.box v.cells],[]⟩
 |.box _ x=>evg g (σ.ev x) fun v=>v.wz=true∧K ⟨.ptr n 0 0,[.box v.cells],[]⟩
 |.store T p x=>evg g (σ.ev p) fun q=>evg g (σ.ev x) fun v=>wy ((storeE P σ.heap T q (kb P T v)).map fun(c,upd)=>(c,⟨.J,[],upd⟩)) K
 |.buildSlice T len parts=>evParts g σ parts.toList fun ps=>wy (bsE P σ.heap T len ps n) K
 |.makeSlice T x y=>x=y∧evg g (σ.ev x) fun v=>asI v fun _ i=>wy (mkE P T i n) K
 |.makeFunc (.func f) ys dU=>ys.toList=[]∧evs g σ dU.toList fun vs=>K (ck (.fn f vs))
 |.call c=>callE P g σ n c.callee c.args.toList c.argTypes.toList K
 |.slice T x (some b0) (some hi) (some wm)=>evg g (σ.ev x) fun a=>bndE g σ 0 (some b0) fun l=>bndE g σ 0 (some hi) fun h=>bndE g σ 0 (some wm) fun m=>withR (cut3E P T a l h m) fun v=>K (ck v)
 |_=>False
theorem SG{g:Bool}{v:V}{K fG:V→Prop}(h:evg g v K)(hk:∀v,K v→fG v):evg g v fG:=by
 unfold evg at *;split at h
 ·exact⟨h.1,hk _ h.2⟩
 ·exact hk _ h
theorem HM{α:Type}{a:Array α}{x:α}(h:a.toList=[x]):a=#[x]:=by rw[←Array.toArray_toList (xs:=a),h]
theorem Cj{α:Type}{a:Array α}{x y:α}(h:a.toList=[x,y]):a=#[x,y]:=by rw[←Array.toArray_toList (xs:=a),h]
theorem aaT{c:Call}(ax:o.op=.call c)(h:callE P g σ n c.callee c.args.toList c.argTypes.toList K):∃r,gb P o g σ n r∧K r:=by
 obtain⟨akD,xs,ts⟩:=c;simp only at h;unfold callE at h;split at h
 ·rename_i x T h1 h2;refine ok_len ax (x:=x) (T:=T) (by rw[HM h1,HM h2]) h
 ·rename_i x y T U h1 h2;obtain⟨rfl,h⟩:=h;exact aaU ax (x:=x) (y:=y) (T:=T) (by rw[Cj h1,Cj h2]) h
 ·rename_i x T h1 h2;exact aaV ax (x:=x) (T:=T) (by rw[HM h1,HM h2]) h
 ·rename_i x y T U h1 h2;exact aaW ax (x:=x) (y:=y) (T:=T) (U:=U) (by rw[Cj h1,Cj h2]) h
 ·rename_i x y T U h1 h2;exact aaX ax (x:=x) (y:=y) (T:=T) (U:=U) (by rw[Cj h1,Cj h2]) h
 ·obtain⟨vs,h,hx⟩:=Ep _ _ h;rcases h with ⟨as,rs,h1,h2,aj⟩|⟨as,rs,h1,h2,aj⟩
  ·exact Mh ax rfl (fun _ _ _=>rfl) hx h1 h2 aj
  ·exact HK ax rfl (fun _ _ _=>rfl) hx h1 h2 aj
 ·rename_i x _;obtain⟨xM,h',hf⟩:=fw h;obtain⟨f,dU,rfl,h'⟩:=SF h';clear h;obtain⟨rfl,h⟩:=h';have Ck:∀{σ':St} {B:Nat→Prop} {w0:World} {aJ:Nat→Prop} {φ:ca} {kp:List (V×Value)} {a:Act} {w:World},σ.le σ'→R B w0 aJ φ σ' kp a w→g=true→a.eval x=.func (.func f) #[] #[]:=by
   intro σ' B w0 aJ φ kp a w hle aI hg;have:=hf _ _ _ _ hg (fg hle aI x);simp only[VRel]at this;obtain⟨us,e,e2⟩:=this;simp only[VRels]at e2;rw[e];congr 1;exact Array.toList_eq_nil_iff.1 e2
  obtain⟨vs,h,hx⟩:=Ep _ _ h;rcases h with ⟨as,rs,h1,h2,aj⟩|⟨as,rs,h1,h2,aj⟩
  ·exact Mh ax rfl Ck hx h1 h2 aj
  ·exact HK ax rfl Ck hx h1 h2 aj
 ·exact h.elim
theorem Cl(h:opE P g σ n o K):∃r,gb P o g σ n r∧K r:=by
 unfold opE at h;split at h
 case h_1 x ax=>exact SH (.inl ax) h
 case h_2 x ax=>exact SH (.inr ax) h
 case h_3 c x y ax=>exact aaY ax h
 case h_4 op T x y ga ax=>exact aaZ ax h
 case h_5 op T x ax=>exact aa0 ax h
 case h_6 x i ax=>exact aa1 ax h
 case h_7 x ax=>exact aa2 ax h
 case h_8 S x f ax=>exact aa3 ax h
 case h_9 T x jv ax=>exact aa4 ax h
 case h_10 T x ax=>exact aa5 ax h
 case h_11 T x jv ax=>exact aa6 ax h
 case h_12 T x b0 hi ax=>exact aa7 ax h
 case h_13 l5 dst x ax=>exact aa8 ax h
 case h_14 T parts ax=>exact aa9 ax h
 case h_15 T ax=>
  refine ok_alloc ax ?_
  cases hz:zrI P T with
  |none=>rw[hz]at h;exact h
  |some z=>rw[hz]at h;exact h
 case h_16 T x ax=>exact aba ax h
 case h_17 T p x ax=>
  refine ok_store ax ?_;refine SG h fun q h=>SG h fun v h=>?_
  cases hs:storeE P σ.heap T q (kb P T v)with
  |none=>rw[hs]at h;exact h
  |some p=>rw[hs]at h;exact h
 case h_18 T len parts ax=>exact ok_buildSlice ax h
 case h_19 T x y ax=>obtain⟨rfl,h⟩:=h;exact abb ax h
 case h_20 f ys dU ax=>
  obtain⟨hy,h⟩:=h;have:ys=#[]:=by rw[←Array.toArray_toList (xs:=ys),hy]
  subst this;exact abc ax h
 case h_21 c ax=>exact aaT ax h
 case h_22 T x b0 hi wm ax=>exact abd ax h
 case h_23=>exact h.elim
def uj(P:Program)(g:Bool)(σ:St)(n:Nat)(o:Oper)(K:dS→Prop):Prop:=
 (g=true∧opE P true σ n o K)∨(g=false∧K (ck (.bq false (.d (.bool false)))))∨opE P g σ n o fun r=>r.new=[]∧r.upd=[]∧K (ck (.bq g r.v))
theorem abe(h:opE P true σ n o K):uj P true σ n o K:=.inl ⟨rfl,h⟩
theorem abf(h:K (ck (.bq false (.d (.bool false))))):uj P false σ n o K:=.inr (.inl ⟨rfl,h⟩)
theorem SI(h:opE P g σ n o fun r=>r.new=[]∧r.upd=[]∧K (ck (.bq g r.v))):uj P g σ n o K:=.inr (.inr h)
def stepE(P:Program)(aA:List Oper)(σ:St)(n:Nat)(o:Oper)(K:dS→Prop):Prop:=
 match o.guard with
 |none=>opE P true σ n o K
 |some (j,ir)=>
  match(aA[j]?).bind (·.dst)with
  |some d=>
   match σ.ev (.tmp d)with
   |.d (.bool b)=>uj P (b == ir) σ n o K
   |.bq c (.d (.bool b))=>uj P (c&&(b == ir)) σ n o K
   |_=>False
  |none=>False
def Hl(P:Program)(aA:Array Oper)(o:Oper)(σ:St)(n:Nat)(r:dS):Prop:=
 ∀σ':St,σ.le σ'→(∀i,n≤i→i<n+r.new.length→aG σ'.heap i=.cF)→
 ∀(B:Nat→Prop) (w0:World) (aJ:Nat→Prop) (φ:ca) (kp:List (V×Value)) (a:Act) (w:World),(∀i,n≤i→i<n+r.new.length→¬aJ i)→R B w0 aJ φ σ' kp a w→
 ∀(K:Act→World→Prop) (Q:Exit→Act→World→Prop),
  (∀u w' cv,R B w0 (fun i=>aJ i∨(n≤i∧i<n+r.new.length)) cv (σ'.cR o.dst n r) kp (a.put o.dst u) w'→K (a.put o.dst u) w')→
  if Region.wanted o (yielded aA a.tmps)then o.wp P a w K Q∨(o.asks P a w∧LetsOut Q)else K (a.put o.dst undef) w
theorem abg{B:Nat→Prop}{w0:World}{aJ:Nat→Prop}{φ:ca}{σ:St}{kp:List (V×Value)}{a:Act}{w:World}(r:R B w0 aJ φ σ kp a w){ts:List V}(hl:ts.length=σ.tmps.length)
  (h:∀(t:Nat) (e7 v:V) (u:Value),ts[t]?=some e7→σ.tmps[t]?=some v→VRel φ (cb φ σ.heap) w.heap v u→VRel φ (cb φ σ.heap) w.heap e7 u):R B w0 aJ φ ⟨ts,σ.heap⟩ kp a w:=by
 refine⟨y7 _ _ (by rw[jW _ _ r.gJ,hl]) fun t e7 u ag e2=>?_,r.kp,r.hp,r.dy,r.eK,r.eL,r.fl,r.fm,r.bs,r.mZ,r.kE⟩;have hlt:t<σ.tmps.length:=by
  rcases Nat.lt_or_ge t ts.length with h|h
  ·omega
  ·rw[List.getElem?_eq_none h]at ag;cases ag
 obtain⟨wA,k1,k2⟩:=vi _ _ r.gJ t _ (List.getElem?_eq_getElem hlt);rw[k1]at e2;cases e2;exact h t e7 _ u ag (List.getElem?_eq_getElem hlt) k2
theorem Mn{B:Nat→Prop}{w0:World}{aJ:Nat→Prop}{φ:ca}{σ:St}{kp:List (V×Value)}{a:Act}{w:World}{dst:Option Tmp}{v:V}{n:Nat}{hs:List H}{upd:List (Nat×H)}(r:R B w0 aJ φ (σ.cR dst n ⟨v,hs,upd⟩) kp a w) :
  R B w0 aJ φ (σ.cR dst n ⟨.bq true v,hs,upd⟩) kp a w:=by
 cases dst with
 |none=>exact r
 |some d=>
  refine abg r (by simp[St.cR]) fun t e7 akE u ag e2 hr=>?_;simp only[St.cR,List.getElem?_set]at ag e2;by_cases h:d=t
  ·subst h;simp only[if_true]at ag e2;split at ag
   ·cases ag
    rw[if_pos (by assumption)]at e2;cases e2;simp only[VRel];exact⟨fun _=>hr,fun h=>by cases h⟩
   ·cases ag
  ·simp only[h,if_false]at ag e2;rw[ag]at e2;cases e2;exact hr
theorem Cm{B:Nat→Prop}{w0:World}{aJ:Nat→Prop}{φ:ca}{σ σ':St}{kp:List (V×Value)}{a:Act}{w:World}(hle:σ.le σ')(r:R B w0 aJ φ σ' kp a w){d:Tmp}{v:V}(hv:σ.ev (.tmp d)=v)(ak:v≠.J) :
  ∃u,a.tmps[d]?=some u∧VRel φ (cb φ σ'.heap) w.heap v u:=by
 have he:=hle.ev (.tmp d);rw[hv]at he;rcases he with h|h
 ·exact absurd h ak
 ·simp only[St.ev,List.getD_eq_getElem?_getD]at h
  cases ht:σ'.tmps[d]? with
  |none=>rw[ht]at h;exact absurd h.symm ak
  |some e7=>
   rw[ht]at h;simp only[Option.getD_some]at h;subst h;obtain⟨u,k1,k2⟩:=vi _ _ r.gJ d _ ht;rw[Array.getElem?_toList]at k1;exact⟨u,k1,k2⟩
theorem Cn{φ:ca}{T:Nat→Prop}{h:Array Obj}(v:V):VRel φ T h (.bq false v) undef:=by
 simp only[VRel];exact⟨fun h=>(Bool.noConfusion h),fun _=>trivial⟩
theorem SJ{aA:Array Oper}(hw:∀{σ':St} {B:Nat→Prop} {w0:World} {aJ:Nat→Prop} {φ:ca} {kp:List (V×Value)} {a:Act} {w:World},σ.le σ'→R B w0 aJ φ σ' kp a w→Region.wanted o (yielded aA a.tmps)=g)
  (h:uj P g σ n o K):∃r,Hl P aA o σ n r∧K r:=by
 rcases h with ⟨rfl,h⟩|⟨rfl,h⟩|h
 ·obtain⟨r,h1,h2⟩:=Cl h;refine⟨r,fun σ' hle hd B w0 aJ φ kp a w jh aI mB nS hk=>?_,h2⟩;rw[if_pos (hw hle aI)];exact .inl (h1 σ' hle hd B w0 aJ φ kp a w jh aI rfl mB nS hk)
 ·refine⟨_,fun σ' hle hd B w0 aJ φ kp a w jh aI mB nS hk=>?_,h⟩;rw[if_neg (by rw[hw hle aI];simp)];exact hk undef w φ (Er (l8 aI o.dst (Cn _)) fun i h=>.inl h)
 ·obtain⟨r,h1,h2,aj,aD⟩:=Cl h;refine⟨_,fun σ' hle hd B w0 aJ φ kp a w jh aI mB nS hk=>?_,aD⟩;obtain⟨v,new,upd⟩:=r;simp only at h2 aj;subst h2;subst aj
  cases g with
  |true=>
   rw[if_pos (hw hle aI)];refine .inl (h1 σ' hle hd B w0 aJ φ kp a w jh aI rfl mB nS fun u w' cv hr=>hk u w' cv ?_);exact Mn (σ:=σ') (v:=v) (dst:=o.dst) hr
  |false=>
   rw[if_neg (by rw[hw hle aI];simp)];exact hk undef w φ (Er (l8 aI o.dst (Cn v)) fun i h=>.inl h)
theorem aam{aA:Array Oper}(h:stepE P aA.toList σ n o K):∃r,Hl P aA o σ n r∧K r:=by
 unfold stepE at h;split at h
 ·rename_i hg;obtain⟨r,h1,h2⟩:=Cl h;refine⟨r,fun σ' hle hd B w0 aJ φ kp a w jh aI mB nS hk=>?_,h2⟩;rw[if_pos (by simp[Region.wanted,hg])];exact .inl (h1 σ' hle hd B w0 aJ φ kp a w jh aI rfl mB nS hk)
 ·rename_i j ir hg;split at h
  ·rename_i d hd;rw[Array.getElem?_toList]at hd;split at h
   ·rename_i b hv;refine SJ (fun hle aI=>?_) h;obtain⟨u,k1,k2⟩:=Cm hle aI hv (by simp);rw[mv k2]at k1;simp[Region.wanted,hg,yielded,hd,k1]
   ·rename_i c b hv;refine SJ (fun {σ' B w0 aJ φ kp a w} hle aI=>?_) h;obtain⟨u,k1,k2⟩:=Cm hle aI hv (by simp);simp only[VRel]at k2
    cases c with
    |true=>
     rw[mv (φ:=φ) (T:=cb φ σ'.heap) (h:=w.heap) (b:=b) (u:=u) (by simp only[VRel];exact k2.1 rfl)]at k1;simp[Region.wanted,hg,yielded,hd,k1]
    |false=>
     rw[k2.2 rfl]at k1;simp[Region.wanted,hg,yielded,hd,k1,undef]
   ·exact h.elim
  ·exact h.elim
def y8(v:V)(ir:Bool)(K:Bool→Prop):Prop:=
 match v with
 |.d (.bool b)=>K (b == ir)
 |.bq c (.d (.bool b))=>K (c&&(b == ir))
 |_=>False
def wB(aA:List Oper)(j:Nat)(K:Tmp→Prop):Prop:=match(aA[j]?).bind (·.dst)with|some d=>K d|none=>False
def ef(B:Nat→Prop)(w0:World)(kp:List (V×Value))(σ:St)(a:Act)(w:World):Prop:=∃aJ φ,R B w0 aJ φ σ kp a w∧∀i,aJ i→i<σ.heap.length
def dj(P:Program)(f:FuncId)(kv:List V)(hs:List H)(vs:List V)(K:V→List H→Prop):Prop:=
 ∀(B:Nat→Prop) (w0:World) (kp:List (V×Value)) (us:List Value) (w:World),kp.map (·.1)=kv→ef B w0 kp ⟨vs,hs⟩ ⟨us.toArray,[]⟩ w→
  Does P f us.toArray w fun v w'=>∃x hs',K x hs'∧ef B w0 kp ⟨[x],hs'⟩ ⟨#[v],[]⟩ w'
def ep(ts:List V)(dst:Option Tmp)(v:V):List V:=match dst with|some d=>ts.set d v|none=>ts
theorem Es(hs:List H)(i:Nat)(x:H):hs.length≤(bI hs i x).length∧i<(bI hs i x).length:=by
 unfold bI;split
 ·rename_i h;simp[h]
 ·rename_i h;simp;omega
theorem Ec:∀(xs:List H) (hs:List H) (n:Nat),hs.length≤(hnew hs n xs).length∧(xs=[]∨n+xs.length≤(hnew hs n xs).length)
 |[],hs,n=>⟨Nat.le_refl _,.inl rfl⟩
 |x::xs,hs,n=>by
  have h1:=Es hs n x;have h2:=Ec xs (bI hs n x) (n+1);simp only[hnew,List.length_cons];refine⟨by omega,.inr ?_⟩;rcases h2.2 with rfl|h
  ·simp only[hnew,List.length_nil];omega
  ·omega
theorem Hq:∀(upd:List (Nat×H)) (hs:List H),hs.length≤(hupd hs upd).length
 |[],hs=>Nat.le_refl _
 |(i,x)::r,hs=>by
  have h1:=Es hs i x;have h2:=Hq r (bI hs i x);simp only[hupd];omega
theorem xN{hs:List H}{i:Nat}(h:hs.length≤i):aG hs i=.cF:=by
 unfold aG;rw[List.getD_eq_getElem?_getD,List.getElem?_eq_none h];rfl
theorem SK{h:Array Obj}{o:Bool}{b:Nat}:∀(ds:List D) (f:Nat) (G:List Nat),repC h o b f ds G→∃us:List Value,reps h o ds us G∧∀(j:Nat) (u:Value),us[j]?=some u→cellAt h b (f+j)=some u
 |[],f,G,r=>by simp only[repC]at r;exact⟨[],⟨rfl,r⟩,by simp⟩
 |d::ds,f,G,r=>by
  simp only[repC]at r;obtain⟨v,bE,bh,rfl,e2,aY,bk⟩:=r;obtain⟨us,k1,k2⟩:=SK ds (f+1) bh bk;refine⟨v::us,⟨v,us,bE,bh,rfl,rfl,aY,k1⟩,fun j u ak=>?_⟩
  cases j with
  |zero=>simp at ak;subst ak;simpa using e2
  |succ j=>rw[show f+(j+1)=f+1+j from by omega];exact k2 j u (by simpa using ak)
theorem abh{B:Nat→Prop}{w0:World}{kp:List (V×Value)}{σ:St}{a:Act}{w:World}(r:ef B w0 kp σ a w){id bU sz:Nat}{xs:List (List D)}{c:List D}(hx:aG σ.heap id=.af sz xs)(hc:xs[bU]?=some c) :
  ef B w0 kp ⟨σ.tmps,hnew (bI σ.heap id (.fA sz (xs.take bU) (rVs c σ.heap.length) (xs.drop (bU+1)))) σ.heap.length (rHs c)⟩ a w:=by
 obtain⟨aJ,φ,r,bz⟩:=r;have akF:id<σ.heap.length:=by
  rcases Nat.lt_or_ge id σ.heap.length with h|h
  ·exact h
  ·rw[xN h]at hx;cases hx
 have hlt:bU<xs.length:=(List.getElem?_eq_some_iff.1 hc).1;rcases r.hp id with hd|⟨β,ag,hr⟩
 ·rw[hx]at hd;cases hd
 rw[hx]at hr;simp only[dD]at hr;obtain⟨cB,hr⟩:=hr;rcases hr with hr|⟨b,aK,a7,b8,cj⟩
 ·rw[hr.2.1]at hlt;simp at hlt
 obtain⟨bE,m6,bh,bw,vj,y9,Co,Mo⟩:=Et cj hc;obtain⟨us,eM,u2⟩:=SK _ _ _ Co;obtain⟨bl,⟨fR,gw,t',D5⟩,hv⟩:=Md c us m6 eM;have fW:=r.eK id β ag (by rw[hx];rfl);rw[bw]at fW;have wC:m6.Nodup:=by
  have:=fW.1;rw[List.nodup_append]at this;have:=this.2.1;rw[List.nodup_append]at this;exact this.1
 have abi:(bE++bh).Nodup:=by
  have:=fW.1;simp only[List.nodup_append,List.mem_append]at this⊢;grind
 have SL:∀x∈m6,x∉bE∧x∉bh:=by
  have:=fW.1;simp only[List.nodup_append,List.mem_append]at this;grind
 let n:=σ.heap.length
 let cv:ca:=fun i=>if i=id then some {β with cN:=bE++bh}else if n≤i∧i<n+(rHs c).length then bl[i-n]? else φ i
 have y6:∀i,n≤i→φ i=none:=fun i h=>by
  cases h':φ i with
  |none=>rfl
  |some β=>have:=bz i (r.fl i β h');omega
 have y_:cv id=some {β with cN:=bE++bh}:=if_pos rfl;have HN:∀i,n≤i∧i<n+(rHs c).length→cv i=bl[i-n]?:=fun i h=>by
  show(if i=id then _ else _)=_
  rw[if_neg (by omega),if_pos h]
 have Mp:∀i,i≠id→¬(n≤i∧i<n+(rHs c).length)→cv i=φ i:=fun i h1 h2=>by
  show(if i=id then _ else _)=_
  rw[if_neg h1,if_neg h2]
 have Eu:aG (hnew (bI σ.heap id (.fA sz (xs.take bU) (rVs c σ.heap.length) (xs.drop (bU+1)))) σ.heap.length (rHs c)) id=.fA sz (xs.take bU) (rVs c σ.heap.length) (xs.drop (bU+1)):=by
  rw[As,if_neg (by omega),gF,if_pos rfl]
 have SM:∀i,n≤i∧i<n+(rHs c).length→∃x,(rHs c)[i-n]?=some x∧aG (hnew (bI σ.heap id (.fA sz (xs.take bU) (rVs c σ.heap.length) (xs.drop (bU+1)))) σ.heap.length (rHs c)) i=x:=by
  intro i h;have hl:i-n<(rHs c).length:=by omega
  refine⟨(rHs c)[i-n],List.getElem?_eq_getElem hl,?_⟩;rw[As,if_pos h,List.getD_eq_getElem?_getD,List.getElem?_eq_getElem hl];rfl
 have SN:∀i,i≠id→¬(n≤i∧i<n+(rHs c).length)→aG (hnew (bI σ.heap id (.fA sz (xs.take bU) (rVs c σ.heap.length) (xs.drop (bU+1)))) σ.heap.length (rHs c)) i=aG σ.heap i:=by
  intro i h1 h2;rw[As,if_neg h2,gF,if_neg h1]
 have hA:py cv n bl:=fun i a1 e=>by
  have hl:i<bl.length:=by
   rcases Nat.lt_or_ge i bl.length with h|h
   ·exact h
   ·rw[List.getElem?_eq_none h]at e;cases e
  rw[HN (n+i) ⟨by omega,by omega⟩,Nat.add_sub_cancel_left];exact e
 have HO:∀(i:Nat) (a1:gd) (g:Nat),bl[i]?=some a1→g∈lh a1→g∈m6:=fun i a1 g h1 h2=>by rw[←gw];exact List.mem_flatMap.2 ⟨a1,List.mem_of_getElem? h1,h2⟩
 generalize AE:hnew (bI σ.heap id (.fA sz (xs.take bU) (rVs c σ.heap.length) (xs.drop (bU+1)))) σ.heap.length (rHs c)=hs' at Eu SM SN⊢;have fH:∀i,(i=id∨(n≤i∧i<n+(rHs c).length))→∀g,cJ cv hs' i g→(i=id∧(g=b∨g∈bE++bh))∨(i≠id∧∃a1,bl[i-n]?=some a1∧g∈lh a1):=by
  rintro i hi g ⟨a1,e2,ax⟩;by_cases l9:i=id
  ·subst l9;rw[y_]at e2;cases e2;refine .inl ⟨rfl,?_⟩;rcases ax with ⟨_,ax⟩|⟨_,ax⟩
   ·simp only[aK,Option.some.injEq]at ax;exact .inl ax.symm
   ·exact .inr ax
  ·have hi:=hi.resolve_left l9;rw[HN i hi]at e2;refine .inr ⟨l9,a1,e2,?_⟩;unfold lh;rcases ax with ⟨_,ax⟩|⟨_,ax⟩<;>simp[ax]
 have Cp:∀g,(g=b∨g∈β.cN)→cJ φ σ.heap id g:=by
  intro g hg;rcases hg with rfl|hg
  ·exact⟨β,ag,.inl ⟨by rw[hx];rfl,aK⟩⟩
  ·exact⟨β,ag,.inr ⟨by rw[hx];rfl,hg⟩⟩
 have abj:∀g,(g=b∨g∈β.cN)→jw (aG σ.heap id) β g:=by
  intro g hg;rw[hx];rcases hg with rfl|hg
  ·exact .inl ⟨rfl,aK⟩
  ·exact .inr ⟨rfl,hg⟩
 have AA:∀g,(g∈bE++bh∨g∈m6)→g∈β.cN:=by
  intro g hg;rw[bw];simp only[List.mem_append]at hg⊢;grind
 have hle:mY φ cv:=fun i a1 hi=>by
  by_cases h:i=id
  ·subst h;rw[ag]at hi;cases hi;exact⟨_,y_,rfl,rfl,rfl,rfl⟩
  ·have:¬(n≤i∧i<n+(rHs c).length):=fun h'=>by rw[y6 i h'.1]at hi;cases hi
   exact⟨a1,by rw[Mp i h this];exact hi,rfl,rfl,rfl,rfl⟩
 refine⟨fun i=>aJ i∨(n≤i∧i<n+(rHs c).length),cv,wx r (fun i=>i=id∨(n≤i∧i<n+(rHs c).length)) _ cv hs' w (fun i hi=>⟨SN i (fun h=>hi (.inl h)) (fun h=>hi (.inr h)),Mp i (fun h=>hi (.inl h)) (fun h=>hi (.inr h))⟩) hle (Nat.le_refl _) (fun _ _ _=>rfl)
  (fun i hi g ax=>?_) (fun i hi a1 e2 g ht=>?_) (fun i j g hi ak h1 h2=>?_) (fun i a1 hi e2 _=>?_) (fun i hi=>?_) (fun i a1 e2=>?_) r.fm,fun i hi=>?_⟩
 ·right;refine⟨id,.inl rfl,Cp g ?_⟩;rcases fH i hi g ax with ⟨_,h|h⟩|⟨_,a1,h1,h2⟩
  ·exact .inl h
  ·exact .inr (AA g (.inl h))
  ·exact .inr (AA g (.inr (HO _ a1 g h1 h2)))
 ·right;refine⟨id,β,.inl rfl,ag,abj g ?_⟩;rcases fH i hi g (jw.wD e2 ht)with ⟨_,h|h⟩|⟨_,a1,h1,h2⟩
  ·exact .inl h
  ·exact .inr (AA g (.inl h))
  ·exact .inr (AA g (.inr (HO _ a1 g h1 h2)))
 ·have j3:b∉m6:=fun h=>fW.2 b aK (by simp[h]);rcases fH i hi g h1 with ⟨cH,bg⟩|⟨cH,Cq,bg,bT⟩<;>rcases fH j ak g h2 with ⟨c5,cS⟩|⟨c5,jQ,cS,fQ⟩
  ·rw[cH,c5]
  ·exfalso;have:=HO _ jQ g cS fQ;rcases bg with rfl|bg
   ·exact j3 this
   ·have bX:=SL g this;rcases List.mem_append.1 bg with h|h
    ·exact bX.1 h
    ·exact bX.2 h
  ·exfalso;have:=HO _ Cq g bg bT;rcases cS with rfl|cS
   ·exact j3 this
   ·have bX:=SL g this;rcases List.mem_append.1 cS with h|h
    ·exact bX.1 h
    ·exact bX.2 h
  ·have:=Sx bl gw wC _ _ Cq jQ g bg cS bT fQ;have hi:=hi.resolve_left cH;have ak:=ak.resolve_left c5;omega
 ·by_cases l9:i=id
  ·subst l9;rw[y_]at e2;cases e2;refine⟨abi,fun g hg lj=>fW.2 g hg ?_⟩;simp only[List.mem_append]at lj⊢;grind
  ·have hi:=hi.resolve_left l9;rw[HN i hi]at e2;have:=Sy bl gw wC a1 (List.mem_of_getElem? e2);unfold lh at this;rw[List.nodup_append]at this;exact⟨this.2.1,fun g hg lj=>this.2.2 g (by simp[hg]) g lj rfl⟩
 ·right;by_cases l9:i=id
  ·subst l9;refine⟨_,y_,?_⟩;rw[Eu];have jr:(xs.take bU).length=bU:=by simp;omega
   have hV:=hv cv n (cb cv hs') hA;refine⟨cB,?_,b,bE,bh,us,aK,by rw[jr,List.length_drop];show bU+1+(xs.length-(bU+1))≤β.cap;omega,b8,rfl,y9,hV,fun j u ak=>?_,?_⟩
   ·rw[←jW _ _ hV,AF _ _ _ eM];exact vj
   ·rw[jr];exact u2 j u ak
   ·rw[jr];exact Mo
  ·have hi:=hi.resolve_left l9;obtain⟨x,h1,h2⟩:=SM i hi;have hl:i-n<bl.length:=by omega
   refine⟨bl[i-n],by rw[HN i hi];exact List.getElem?_eq_getElem hl,?_⟩;rw[h2];exact t' _ _ _ (List.getElem?_eq_getElem hl) h1 _ _
 ·by_cases l9:i=id
  ·subst l9;exact .inl (r.fl i β ag)
  ·by_cases h:n≤i∧i<n+(rHs c).length
   ·exact .inr h
   ·rw[Mp i l9 h]at e2;exact .inl (r.fl i a1 e2)
 ·show i<hs'.length
  rw[←AE];have k1:=Ec (rHs c) (bI σ.heap id (.fA sz (xs.take bU) (rVs c σ.heap.length) (xs.drop (bU+1)))) σ.heap.length;have k2:=Es σ.heap id (.fA sz (xs.take bU) (rVs c σ.heap.length) (xs.drop (bU+1)));rcases hi with hi|hi
  ·have:=bz i hi;omega
  ·rcases k1.2 with h|h
   ·rw[h]at hi;simp at hi;omega
   ·omega
theorem abk{B:Nat→Prop}{w0:World}{kp:List (V×Value)}{σ:St}{a:Act}{w:World}(r:ef B w0 kp σ a w){id sz:Nat}{pre post:List (List D)}{cells:List V}{ds:List D}{bW:List Nat}(hx:aG σ.heap id=.fA sz pre cells post)(hd:toDs σ.heap cells=some (ds,bW))(hn:bW.Nodup)
  (hf:∀i∈bW,∃s ys,aG σ.heap i=.ai s ys true∧fP ys=true):ef B w0 kp ⟨σ.tmps,hupd (bI σ.heap id (.af sz (pre++ds::post))) (bW.map fun i=>(i,H.cF))⟩ a w:=by
 obtain⟨aJ,φ,r,bz⟩:=r;rcases r.hp id with gr|⟨β,ag,hr⟩
 ·rw[hx]at gr;cases gr
 rw[hx]at hr;simp only[dD]at hr;obtain⟨cB,hcl,b,bE,bh,us,aK,a7,b8,cj,ez,hD,wE,y'⟩:=hr;obtain⟨iL,e1,gC,jl,pz⟩:=HP r _ _ _ _ hd hn hD;have fW:=r.eK id β ag (by rw[hx];rfl);have Mq:id∉bW:=fun h=>by
  obtain⟨s,ys,h1,_⟩:=hf id h;rw[hx]at h1;cases h1
 have Cp:∀g,(g=b∨g∈β.cN)→cJ φ σ.heap id g:=by
  intro g hg;rcases hg with rfl|hg
  ·exact⟨β,ag,.inl ⟨by rw[hx];rfl,aK⟩⟩
  ·exact⟨β,ag,.inr ⟨by rw[hx];rfl,hg⟩⟩
 have abl:∀i∈bW,∀a1,φ i=some a1→a1.cN=[]:=by
  intro i hi a1 e;obtain⟨s,ys,h1,h2⟩:=hf i hi;rcases r.hp i with gr|⟨jQ,e2,hr⟩
  ·rw[h1]at gr;cases gr
  ·rw[e]at e2;cases e2;obtain⟨_,hr⟩:=Mf (by rw[h1];rfl) hr;rcases hr with hr|⟨_,_,_,_,hr⟩
   ·exact hr.2.2.2
   ·exact DV _ _ _ _ h2 hr
 have abm:∀g∈iL,∃i∈bW,∃a1,φ i=some a1∧jw (aG σ.heap i) a1 g:=by
  intro g hg;obtain⟨i,eo,a1,e2,dk⟩:=jl g hg;refine⟨i,eo,a1,e2,?_⟩;rcases dk with dk|⟨_,dk⟩
  ·exact .inl dk
  ·rw[abl i eo a1 e2]at dk;cases dk
 have xO:∀g∈iL,g≠b∧g∉β.cN:=by
  intro g hg;obtain⟨i,eo,dk⟩:=jl g hg;constructor
  ·intro h;exact Mq (r.dy i id g dk (Cp g (.inl h))▸eo)
  ·intro h;exact Mq (r.dy i id g dk (Cp g (.inr h))▸eo)
 have hin:∀i∈bW,aG (hupd (bI σ.heap id (.af sz (pre++ds::post))) (bW.map fun i=>(i,H.cF))) i=.cF:=by
  intro i hi;rcases wF (bW.map fun i=>(i,H.cF)) (bI σ.heap id (.af sz (pre++ds::post))) i with ⟨x,h1,h2⟩|⟨h1,_⟩
  ·obtain⟨j,_,ak⟩:=List.mem_map.1 h1;simp only[Prod.mk.injEq]at ak;rw[h2,←ak.2]
  ·exact absurd (List.mem_map.2 ⟨i,hi,rfl⟩) (h1 .cF)
 have Eu:aG (hupd (bI σ.heap id (.af sz (pre++ds::post))) (bW.map fun i=>(i,H.cF))) id=.af sz (pre++ds::post):=by
  rcases wF (bW.map fun i=>(i,H.cF)) (bI σ.heap id (.af sz (pre++ds::post))) id with ⟨x,h1,_⟩|⟨_,h2⟩
  ·obtain⟨j,Mr,ak⟩:=List.mem_map.1 h1;simp only[Prod.mk.injEq]at ak;exact absurd (ak.1▸Mr) Mq
  ·rw[h2,gF,if_pos rfl]
 have mD:∀i,i≠id→i∉bW→aG (hupd (bI σ.heap id (.af sz (pre++ds::post))) (bW.map fun i=>(i,H.cF))) i=aG σ.heap i:=by
  intro i h1 h2;rcases wF (bW.map fun i=>(i,H.cF)) (bI σ.heap id (.af sz (pre++ds::post))) i with ⟨x,aj,_⟩|⟨_,aj⟩
  ·obtain⟨j,Mr,ak⟩:=List.mem_map.1 aj;simp only[Prod.mk.injEq]at ak;exact absurd (ak.1▸Mr) h2
  ·rw[aj,gF,if_neg h1]
 have y4:(bE++(iL++bh)).Nodup:=by
  have h1:=fW.1;rw[cj]at h1 xO;simp only[List.nodup_append,List.mem_append]at h1 xO⊢;grind
 have iX:ds.length=sz:=by rw[←AF _ _ _ e1,jW _ _ hD];exact hcl
 have hle:mY φ (cK φ id {β with cN:=bE++(iL++bh)}):=fun i a1 hi=>by
  by_cases h:i=id
  ·subst h;rw[ag]at hi;cases hi;exact⟨{β with cN:=bE++(iL++bh)},by simp[cK],rfl,rfl,rfl,rfl⟩
  ·exact⟨a1,by simp[cK,h,hi],rfl,rfl,rfl,rfl⟩
 have y_:cK φ id {β with cN:=bE++(iL++bh)} id=some {β with cN:=bE++(iL++bh)}:=by simp[cK]
 generalize AE:hupd (bI σ.heap id (.af sz (pre++ds::post))) (bW.map fun i=>(i,H.cF))=hs' at hin Eu mD⊢;have fH:∀i,(i=id∨i∈bW)→∀g,cJ (cK φ id {β with cN:=bE++(iL++bh)}) hs' i g→i=id∧(g=b∨g∈β.cN∨g∈iL):=by
  rintro i hi g ⟨a1,e2,ax⟩;by_cases l9:i=id
  ·subst l9;rw[y_]at e2;cases e2;refine⟨rfl,?_⟩;rcases ax with ⟨_,ax⟩|⟨_,ax⟩
   ·simp only[aK,Option.some.injEq]at ax;exact .inl ax.symm
   ·rw[cj];simp only[List.mem_append]at ax⊢;grind
  ·have hi:=hi.resolve_left l9;rw[hin i hi]at ax;rcases ax with ⟨ax,_⟩|⟨ax,_⟩<;>cases ax
 refine⟨aJ,cK φ id {β with cN:=bE++(iL++bh)},wx r (fun i=>i=id∨i∈bW) _ _ hs' w (fun i hi=>⟨mD i (fun h=>hi (.inl h)) (fun h=>hi (.inr h)),if_neg (fun h=>hi (.inl h))⟩) hle (Nat.le_refl _) (fun _ _ _=>rfl)
  (fun i hi g ax=>?_) (fun i hi a1 e2 g ht=>?_) (fun i j g hi ak h1 h2=>?_) (fun i a1 hi e2 _=>?_) (fun i hi=>?_) (fun i a1 e2=>?_) r.fm,fun i hi=>?_⟩
 ·right;obtain⟨_,h⟩:=fH i hi g ax;rcases h with h|h|h
  ·exact⟨id,.inl rfl,Cp g (.inl h)⟩
  ·exact⟨id,.inl rfl,Cp g (.inr h)⟩
  ·obtain⟨j,Ev,Ms⟩:=jl g h;exact⟨j,.inr Ev,Ms⟩
 ·right;obtain⟨_,h⟩:=fH i hi g (jw.wD e2 ht);rcases h with h|h|h
  ·exact⟨id,β,.inl rfl,ag,by rw[hx];exact .inl ⟨rfl,by rw[aK,h]⟩⟩
  ·exact⟨id,β,.inl rfl,ag,by rw[hx];exact .inr ⟨rfl,h⟩⟩
  ·obtain⟨j,Ev,jQ,Ms,abn⟩:=abm g h;exact⟨j,jQ,.inr Ev,Ms,abn⟩
 ·rw[(fH i hi g h1).1,(fH j ak g h2).1]
 ·rcases hi with rfl|hi
  ·rw[y_]at e2;cases e2;refine⟨y4,fun g hg lj=>?_⟩;have bX:=fW.2 g hg;rw[cj]at bX;simp only[aK,Option.some.injEq]at hg;have eR:g∈iL→False:=fun h=>(xO g h).1 hg.symm;simp only[List.mem_append]at lj bX;grind
  ·rename_i ax;rw[hin i hi]at ax;cases ax
 ·rcases hi with rfl|hi
  ·right;refine⟨_,y_,?_⟩;rw[Eu];refine⟨cB,.inr ⟨b,aK,by simp only[List.length_append,List.length_cons];show pre.length+(post.length+1)≤β.cap;omega,b8,?_⟩⟩;refine(repE_append _ _ _ _).2 ⟨bE,iL++bh,rfl,ez,?_⟩;simp only[repE];refine⟨iL,bh,rfl,iX,AG _ _ _ _ e1 wE,?_⟩;have:β.off+pre.length * sz+sz=β.off+(pre.length+1) * sz:=by rw[Nat.add_mul];omega
   rw[this];exact y'
  ·exact .inl (hin i hi)
 ·by_cases l9:i=id
  ·subst l9;exact r.fl i β ag
  ·exact r.fl i a1 (by simpa [cK,l9]using e2)
 ·show i<hs'.length
  rw[←AE];have k1:=Hq (bW.map fun i=>(i,H.cF)) (bI σ.heap id (.af sz (pre++ds::post)));have k2:=Es σ.heap id (.af sz (pre++ds::post));have:=bz i hi;omega
def pA(σ σ':St):Prop:=σ'=σ∨
 (∃id bU sz xs c,aG σ.heap id=.af sz xs∧xs[bU]?=some c∧σ'=⟨σ.tmps,hnew (bI σ.heap id (.fA sz (xs.take bU) (rVs c σ.heap.length) (xs.drop (bU+1)))) σ.heap.length (rHs c)⟩)∨
 ∃id sz pre cells post ds bW,aG σ.heap id=.fA sz pre cells post∧toDs σ.heap cells=some (ds,bW)∧bW.Nodup∧(∀i∈bW,∃s ys,aG σ.heap i=.ai s ys true∧fP ys=true)∧σ'=⟨σ.tmps,hupd (bI σ.heap id (.af sz (pre++ds::post))) (bW.map fun i=>(i,H.cF))⟩
theorem pA.refl(σ:St):pA σ σ:=.inl rfl
theorem HQ{B:Nat→Prop}{w0:World}{kp:List (V×Value)}{σ σ':St}{a:Act}{w:World}(h:pA σ σ')(r:ef B w0 kp σ a w):ef B w0 kp σ' a w:=by
 rcases h with rfl|⟨id,bU,sz,xs,c,h1,h2,rfl⟩|⟨id,sz,pre,cells,post,ds,bW,h1,h2,aj,aD,rfl⟩
 ·exact r
 ·exact abh r h1 h2
 ·exact abk r h1 h2 aj aD
def AH:List V→List V→Prop
 |[],[]=>True
 |e7::vs',v::vs=>(e7=v∨e7=.J)∧AH vs' vs
 |_,_=>False
theorem SO:∀vs:List V,AH vs vs
 |[]=>trivial
 |_::vs=>⟨.inl rfl,SO vs⟩
theorem SP:∀{vs' vs:List V},AH vs' vs→vs'.length=vs.length
 |[],[],_=>rfl
 |_::_,[],h=>h.elim
 |[],_::_,h=>h.elim
 |_::vs',_::vs,h=>by simp[SP h.2]
theorem SQ:∀{vs' vs:List V} {us:List Value} {p:V×Value},AH vs' vs→p∈vs'.zip us→p.1=.J∨p∈vs.zip us
 |[],_,us,p,_,hp=>by simp at hp
 |_::_,[],_,_,h,_=>h.elim
 |_::_,_::_,[],p,_,hp=>by simp at hp
 |e7::vs',v::vs,u::us,p,h,hp=>by
  simp only[List.zip_cons_cons,List.mem_cons]at hp⊢;rcases hp with rfl|hp
  ·rcases h.1 with e|e
   ·exact .inr (.inl (by rw[e]))
   ·exact .inl e
  ·rcases SQ h.2 hp with e|e
   ·exact .inl e
   ·exact .inr (.inr e)
def keepT(cY:List Nat):Nat→List V→List V
 |_,[]=>[]
 |i,v::vs=>(bif cY.elem i then v else .J)::keepT cY (i+1) vs
theorem SR(cY:List Nat):∀(i:Nat) (vs:List V),AH (keepT cY i vs) vs
 |_,[]=>trivial
 |i,v::vs=>⟨by cases h:cY.elem i<;>simp,SR cY (i+1) vs⟩
def ae(P:Program)(kv:List V)(σ:St)(dst:Option Tmp)(f:FuncId)(dU:List V)(xP:Option (List AD))(vs:List V)(K:St→Prop):Prop:=
 (dU=[]∧((ao P f xP σ.heap vs σ.heap.length fun r=>K (σ.cR dst σ.heap.length r))∨
  ∃as rs,xP=some as∧PureCall P f as rs∧∃pB,pA (σ.cR dst σ.heap.length ⟨mC rs σ.heap.length,(aHs rs).map H.toCln,[]⟩) pB∧K pB))∨
 ∃ts,AH ts σ.tmps∧dj P f (ts++kv) σ.heap (vs++dU) fun x hs=>K ⟨ep ts dst x,hs⟩
def bareE(P:Program)(kv:List V)(σ:St)(o:Oper)(K:St→Prop):Prop:=
 match o.op with
 |.call ⟨.value x,xs,_⟩=>evg true (σ.ev x) fun xM=>fnE xM fun f dU=>evs true σ xs.toList fun vs=>ae P kv σ o.dst f dU (toADs σ.heap vs) vs K
 |_=>opE P true σ σ.heap.length o fun r=>K (σ.cR o.dst σ.heap.length r)
def xQ(P:Program)(kv:List V)(g:Bool)(σ:St)(o:Oper)(K:St→Prop):Prop:=
 uj P g σ σ.heap.length o (fun r=>K (σ.cR o.dst σ.heap.length r))∨((g=true→bareE P kv σ o K)∧(g=false→K (σ.cR o.dst σ.heap.length (ck (.bq false (.d (.bool false)))))))
def uY(P:Program)(kv:List V)(aA:List Oper)(σ:St)(o:Oper)(K:St→Prop):Prop:=
 match o.guard with
 |none=>bareE P kv σ o K
 |some (j,ir)=>wB aA j fun d=>y8 (σ.ev (.tmp d)) ir fun g=>xQ P kv g σ o K
def opsE(P:Program)(kv:List V)(aA:List Oper):List Oper→St→(St→Prop)→Prop
 |[],σ,K=>K σ
 |o::rest,σ,K=>uY P kv aA σ o fun σ'=>opsE P kv aA rest σ' K
theorem abo(σ:St)(dst:Option Tmp)(r:dS):σ.heap.length+r.new.length≤(σ.cR dst σ.heap.length r).heap.length:=by
 have h1:=Ec r.new σ.heap σ.heap.length;have h2:=Hq r.upd (hnew σ.heap σ.heap.length r.new);simp only[St.cR];rcases h1.2 with h|h
 ·have aj:=h1.1;rw[h]at h2 aj⊢;simp only[List.length_nil];omega
 ·omega
theorem Ew{aJ:Nat→Prop}{σ:St}{dst:Option Tmp}{r:dS}(bz:∀i,aJ i→i<σ.heap.length)(i:Nat)(hi:aJ i∨(σ.heap.length≤i∧i<σ.heap.length+r.new.length)):i<(σ.cR dst σ.heap.length r).heap.length:=by
 have:=abo σ dst r;rcases hi with hi|hi
 ·have:=bz i hi;omega
 ·omega
theorem abp{B:Nat→Prop}{w0:World}{kp:List (V×Value)}{σ:St}{o:Oper}{K:St→Prop}{fG:Act→World→Prop}{Q:Exit→Act→World→Prop}{a:Act}{w:World}
  (h:opE P true σ σ.heap.length o fun r=>K (σ.cR o.dst σ.heap.length r)) (hr:ef B w0 kp σ a w) (hk:∀σ' u w',K σ'→ef B w0 kp σ' (a.put o.dst u) w'→fG (a.put o.dst u) w'):o.wp P a w fG Q:=by
 obtain⟨r,h1,h2⟩:=Cl h;obtain⟨aJ,φ,aI,bz⟩:=hr;exact h1 σ (St.le.refl σ) (fun i hi _=>xN hi) B w0 aJ φ kp a w (fun i hi _ hd=>by have:=bz i hd;omega) aI rfl fG Q fun u w' cv jP=>hk _ u w' h2 ⟨_,cv,jP,Ew bz⟩
theorem abq{B:Nat→Prop}{w0:World}{kp:List (V×Value)}{σ:St}{a:Act}{w:World}{vs ts:List V}{us:List Value}(ak:AH ts σ.tmps)(hr:ef B w0 kp σ a w)(hv:∀aJ φ,R B w0 aJ φ σ kp a w→VRels φ (cb φ σ.heap) w.heap vs us) :
  ef B w0 (ts.zip a.tmps.toList++kp) ⟨vs,σ.heap⟩ ⟨us.toArray,[]⟩ w:=by
 obtain⟨aJ,φ,r,bz⟩:=hr;refine⟨aJ,φ,⟨hv aJ φ r,fun p hp=>?_,r.hp,r.dy,r.eK,r.eL,r.fl,r.fm,r.bs,rfl,r.kE⟩,bz⟩;rcases List.mem_append.1 hp with hp|hp
 ·exact r.kp p (List.mem_append_left _ hp)
 rcases List.mem_append.1 hp with hp|hp
 ·rcases SQ ak hp with e|hp
  ·rw[e];simp[VRel]
  obtain⟨j,ak,rfl⟩:=List.getElem_of_mem hp;have hl:=jW _ _ r.gJ;simp only[List.length_zip]at ak;obtain⟨u,k1,k2⟩:=vi _ _ r.gJ j _ (List.getElem?_eq_getElem (by omega));rw[List.getElem?_eq_getElem (by omega)]at k1;rw[List.getElem_zip]
  cases k1;exact k2
 ·exact r.kp p (List.mem_append_right _ hp)
theorem abr{B:Nat→Prop}{w0:World}{kp:List (V×Value)}{ts:List V}{us:Array Value}{hs:List H}{x:V}{v:Value}{w:World}(hl:us.toList.length=ts.length)(dst:Option Tmp)
  (hr:ef B w0 (ts.zip us.toList++kp) ⟨[x],hs⟩ ⟨#[v],[]⟩ w):ef B w0 kp ⟨ep ts dst x,hs⟩ ((Act.mk us []).put dst v) w:=by
 obtain⟨aJ,φ,r,bz⟩:=hr;have ht:VRels φ (cb φ hs) w.heap ts us.toList:=by
  refine y7 _ _ hl fun t e7 u ag e2=>?_;have hlt:t<ts.length:=(List.getElem?_eq_some_iff.1 ag).1;have:(e7,u)∈ts.zip us.toList:=by
   have aj:(ts.zip us.toList)[t]?=some (e7,u):=by rw[List.getElem?_zip_eq_some];exact⟨ag,e2⟩
   exact List.mem_of_getElem? aj
  exact r.kp _ (List.mem_append_right _ (List.mem_append_left _ this))
 have hx:VRel φ (cb φ hs) w.heap x v:=by
  have:=r.gJ;simp only[VRels]at this;obtain⟨u,us',e,h1,_⟩:=this
  cases e;exact h1
 have r0:R B w0 aJ φ ⟨ts,hs⟩ kp ⟨us,[]⟩ w:=⟨ht,fun p hp=>r.kp p ((List.mem_append.1 hp).elim (List.mem_append_left _) fun h=>List.mem_append_right _ (List.mem_append_right _ h)),r.hp,r.dy,r.eK,r.eL,r.fl,r.fm,r.bs,rfl,r.kE⟩;exact⟨aJ,φ,by have:=l8 r0 dst hx;cases dst<;>exact this,bz⟩
theorem HR{B:Nat→Prop}{w0:World}{kp:List (V×Value)}{kv:List V}(br:kp.map (·.1)=kv){σ:St}{o:Oper}{K:St→Prop}{fG:Act→World→Prop}{Q:Exit→Act→World→Prop}{a:Act}{w:World}
  (h:bareE P kv σ o K) (hr:ef B w0 kp σ a w) (hk:∀σ' u w',K σ'→ef B w0 kp σ' (a.put o.dst u) w'→fG (a.put o.dst u) w'):o.wp P a w fG Q:=by
 unfold bareE at h;split at h
 ·rename_i x xs ts ax;obtain⟨xM,h,hf⟩:=fw h;obtain⟨f,dU,rfl,h⟩:=SF h;obtain⟨vs,bX,hx⟩:=Ep _ _ h;clear h;unfold ae at bX;rcases bX with ⟨rfl,eR⟩|eR
  ·have Ck:∀{σ':St} {B:Nat→Prop} {w0:World} {aJ:Nat→Prop} {φ:ca} {kp:List (V×Value)} {a:Act} {w:World},σ.le σ'→R B w0 aJ φ σ' kp a w→true=true→a.eval x=.func (.func f) #[] #[]:=by
    intro σ' B w0 aJ φ kp a w hle aI _;have:=hf _ _ _ _ rfl (fg hle aI x);simp only[VRel]at this;obtain⟨us,e,e2⟩:=this;simp only[VRels]at e2;rw[e];congr 1;exact Array.toList_eq_nil_iff.1 e2
   rcases eR with eR|⟨as,rs,cH,bg,pB,bT,bY⟩
   rotate_left
   ·obtain⟨r,h1,h2⟩:=HK (K:=fun r=>r=⟨mC rs σ.heap.length,(aHs rs).map H.toCln,[]⟩) (n:=σ.heap.length) (g:=true) (σ:=σ) ax rfl Ck hx cH bg rfl;subst h2;obtain⟨aJ,φ,aI,bz⟩:=hr;exact h1 σ (St.le.refl σ) (fun i hi _=>xN hi) B w0 aJ φ kp a w (fun i hi _ hd=>by have:=bz i hd;omega) aI rfl fG Q fun u w' cv jP=>hk pB u w' bY (HQ bT ⟨_,cv,jP,Ew bz⟩)
   have HS:∃r,gb P o true σ σ.heap.length r∧K (σ.cR o.dst σ.heap.length r):=by
    rcases eR with ⟨as,rs,h1,h2,aj⟩|⟨as,rs,h1,h2,aj⟩
    ·exact Mh (K:=fun r=>K (σ.cR o.dst σ.heap.length r)) ax rfl Ck hx h1 h2 aj
    ·exact HK (K:=fun r=>K (σ.cR o.dst σ.heap.length r)) ax rfl Ck hx h1 h2 aj
   obtain⟨r,h1,h2⟩:=HS;obtain⟨aJ,φ,aI,bz⟩:=hr;exact h1 σ (St.le.refl σ) (fun i hi _=>xN hi) B w0 aJ φ kp a w (fun i hi _ hd=>by have:=bz i hd;omega) aI rfl fG Q fun u w' cv jP=>hk _ u w' h2 ⟨_,cv,jP,Ew bz⟩
  ·obtain⟨ts,ak,eR⟩:=eR;obtain⟨aJ,φ,aI,bz⟩:=hr;have SS:=hf _ _ _ _ rfl (xy aI x);simp only[VRel]at SS;obtain⟨cs,SU,_⟩:=SS;have hin:ef B w0 (ts.zip a.tmps.toList++kp) ⟨vs++dU,σ.heap⟩ ⟨(xs.toList.map a.eval++cs.toList).toArray,[]⟩ w:=by
    refine abq ak ⟨aJ,φ,aI,bz⟩ fun yZ cv cW=>?_;have h1:=hx (St.le.refl σ) cW rfl;have h2:=hf _ _ _ _ rfl (xy cW x);simp only[VRel]at h2;obtain⟨Cr,SV,aj⟩:=h2;rw[SU]at SV
    cases SV
    exact Cs h1 aj
   have hl:=(jW _ _ aI.gJ).trans (SP ak).symm;have Ct:=eR B w0 (ts.zip a.tmps.toList++kp) _ w (by rw[List.map_append,br,List.map_fst_zip (by omega)]) hin;have ey:(execOp a.eval o).run P w=(callFunc f (xs.toList.map a.eval++cs.toList).toArray).run P w:=by
    unfold execOp;rw[ax];have:(xs.toList.map a.eval++cs.toList).toArray=xs.map a.eval++cs:=by
     apply Array.toList_inj.1;simp
    rw[this];simp[resolve,SU,Deferred.ofValue,invoke]
   have AI:=aI.mZ;have bd:∀v w',(∃x hs',K ⟨ep ts o.dst x,hs'⟩∧ef B w0 (ts.zip a.tmps.toList++kp) ⟨[x],hs'⟩ ⟨#[v],[]⟩ w')→fG (a.put o.dst v) w':=by
    rintro v w' ⟨kV,hs',h1,h2⟩;refine hk _ v w' h1 ?_;have:=abr hl o.dst h2;rw[show a=Act.mk a.tmps []from by cases a;simp only at AI;rw[AI]];exact this
   unfold Oper.wp;rw[ey];unfold Does at Ct;split at Ct
   ·rename_i h1;rw[h1,Oper.upon_enter];refine Calls.mono Ct fun e w' he=>?_
    cases e with
    |returned v=>exact bd v w' he
    |panicked c=>exact he.elim
    |outgrown=>exact he.elim
   ·rename_i h1;rw[h1,Oper.upon_value];exact bd _ _ Ct
   ·rename_i h1;rw[h1,Oper.upon_row];exact Rows.mono Ct bd
   ·exact Ct.elim
 ·exact abp h hr hk
theorem SW{g:Bool}{σ:St}{n:Nat}{o:Oper}{K:dS→Prop}(h:uj P g σ n o K):(g=true→∃r,gb P o true σ n r∧∃v,K ⟨v,r.new,r.upd⟩∧(v=r.v∨v=.bq true r.v))∧(g=false→∃v,K (ck (.bq false v))):=by
 rcases h with ⟨rfl,h⟩|⟨rfl,h⟩|h
 ·obtain⟨r,h1,h2⟩:=Cl h;exact⟨fun _=>⟨r,h1,r.v,h2,.inl rfl⟩,fun e=>(by cases e)⟩
 ·exact⟨fun e=>(by cases e),fun _=>⟨_,h⟩⟩
 ·obtain⟨r,h1,h2,aj,aD⟩:=Cl h;obtain⟨v,new,upd⟩:=r;simp only at h2 aj aD;subst h2;subst aj
  cases g with
  |true=>exact⟨fun _=>⟨_,h1,.bq true v,aD,.inr rfl⟩,fun e=>(by cases e)⟩
  |false=>exact⟨fun e=>(by cases e),fun _=>⟨_,aD⟩⟩
theorem SX{aA:Array Oper}{B:Nat→Prop}{w0:World}{kp:List (V×Value)}{kv:List V}(br:kp.map (·.1)=kv){Q:Exit→Act→World→Prop}{K:St→Prop}(gE:∀σ a w,K σ→ef B w0 kp σ a w→Q .normal a w) :
  ∀(l:List Oper) (bU:List Nat) (σ:St) (a:Act) (w:World),bU.map (aA[·]?)=l.map some→opsE P kv aA.toList l σ K→ef B w0 kp σ a w→wpOps P aA Q bU a w
 |[],bU,σ,a,w,e,h,hr=>by
  have:bU=[]:=by simpa using e
  subst this;exact gE σ a w h hr
 |o::l,[],σ,a,w,e,h,hr=>by simp at e
 |o::l,i::bU,σ,a,w,e,h,hr=>by
  simp only[List.map_cons,List.cons.injEq]at e;simp only[opsE]at h;simp only[wpOps,e.1];have next:∀σ' u w',opsE P kv aA.toList l σ' K→ef B w0 kp σ' (a.put o.dst u) w'→wpOps P aA Q bU (a.put o.dst u) w':=fun σ' u w' h' jP=>SX br gE l bU σ' _ w' e.2 h' jP
  unfold uY at h;split at h
  ·rename_i hg;rw[if_pos (by simp[Region.wanted,hg])];exact .inl (HR br h hr next)
  ·rename_i j ir hg;unfold wB at h;split at h
   ·rename_i d hd;rw[Array.getElem?_toList]at hd;have key:∀g,Region.wanted o (yielded aA a.tmps)=g→xQ P kv g σ o (fun σ'=>opsE P kv aA.toList l σ' K)→
      if Region.wanted o (yielded aA a.tmps)then o.wp P a w (wpOps P aA Q bU) Q∨(o.asks P a w∧LetsOut Q)else wpOps P aA Q bU (a.put o.dst undef) w:=by
     intro g hw hs;rw[hw];unfold xQ at hs;rcases hs with hs|hs
     ·obtain⟨cU,c9⟩:=SW hs
      cases g with
      |true=>
       simp only[if_true];obtain⟨r,h1,v,h2,aj⟩:=cU rfl;obtain⟨aJ,φ,aI,bz⟩:=hr;refine .inl (h1 σ (St.le.refl σ) (fun i hi _=>xN hi) B w0 aJ φ kp a w (fun i hi _ hd=>by have:=bz i hd;omega) aI rfl _ _ fun u w' cv jP=>next _ u w' h2 ⟨_,cv,?_,Ew (r:=⟨v,r.new,r.upd⟩) bz⟩);rcases aj with rfl|rfl
       ·exact jP
       ·exact Mn (σ:=σ) (dst:=o.dst) jP
      |false=>
       simp only[Bool.false_eq_true,if_false];obtain⟨v,h2⟩:=c9 rfl;obtain⟨aJ,φ,aI,bz⟩:=hr;exact next _ undef w h2 ⟨_,φ,l8 aI o.dst (Cn v),fun i hi=>by have:=bz i hi;simpa [St.cR,ck,hnew,hupd]using this⟩
     ·cases g with
      |true=>simp only[if_true];exact .inl (HR br (hs.1 rfl) hr next)
      |false=>
       simp only[Bool.false_eq_true,if_false];obtain⟨aJ,φ,aI,bz⟩:=hr;exact next _ undef w (hs.2 rfl) ⟨_,φ,l8 aI o.dst (Cn _),fun i hi=>by have:=bz i hi;simpa [St.cR,ck,hnew,hupd]using this⟩
    obtain⟨aJ,φ,aI,bz⟩:=hr;unfold y8 at h;split at h
    ·rename_i b hv;obtain⟨u,k1,k2⟩:=Cm (St.le.refl σ) aI hv (by simp);rw[mv k2]at k1;exact key _ (by simp[Region.wanted,hg,yielded,hd,k1]) h
    ·rename_i c b hv;obtain⟨u,k1,k2⟩:=Cm (St.le.refl σ) aI hv (by simp);simp only[VRel]at k2;refine key _ ?_ h
     cases c with
     |true=>
      rw[mv (φ:=φ) (T:=cb φ σ.heap) (h:=w.heap) (b:=b) (u:=u) (by simp only[VRel];exact k2.1 rfl)]at k1;simp[Region.wanted,hg,yielded,hd,k1]
     |false=>
      rw[k2.2 rfl]at k1;simp[Region.wanted,hg,yielded,hd,k1,undef]
    ·exact h.elim
   ·exact h.elim
theorem aaC{aA:Array Oper}{B:Nat→Prop}{w0:World}{kp:List (V×Value)}{kv:List V}(br:kp.map (·.1)=kv){Q:Exit→Act→World→Prop}{K:St→Prop}{N:Act→World→Prop}{σ:St}{o:Oper}{a:Act}{w:World}(h:uY P kv aA.toList σ o K)(hr:ef B w0 kp σ a w)
  (next:∀σ' u w',K σ'→ef B w0 kp σ' (a.put o.dst u) w'→N (a.put o.dst u) w') :
  if Region.wanted o (yielded aA a.tmps)then o.wp P a w N Q∨(o.asks P a w∧LetsOut Q)else N (a.put o.dst undef) w:=by
 unfold uY at h;split at h
 ·rename_i hg;rw[if_pos (by simp[Region.wanted,hg])];exact .inl (HR br h hr next)
 ·rename_i j ir hg;unfold wB at h;split at h
  ·rename_i d hd;rw[Array.getElem?_toList]at hd;have key:∀g,Region.wanted o (yielded aA a.tmps)=g→xQ P kv g σ o K→
     if Region.wanted o (yielded aA a.tmps)then o.wp P a w N Q∨(o.asks P a w∧LetsOut Q)else N (a.put o.dst undef) w:=by
    intro g hw hs;rw[hw];unfold xQ at hs;rcases hs with hs|hs
    ·obtain⟨cU,c9⟩:=SW hs
     cases g with
     |true=>
      simp only[if_true];obtain⟨r,h1,v,h2,aj⟩:=cU rfl;obtain⟨aJ,φ,aI,bz⟩:=hr;refine .inl (h1 σ (St.le.refl σ) (fun i hi _=>xN hi) B w0 aJ φ kp a w (fun i hi _ hd=>by have:=bz i hd;omega) aI rfl _ _ fun u w' cv jP=>next _ u w' h2 ⟨_,cv,?_,Ew (r:=⟨v,r.new,r.upd⟩) bz⟩);rcases aj with rfl|rfl
      ·exact jP
      ·exact Mn (σ:=σ) (dst:=o.dst) jP
     |false=>
      simp only[Bool.false_eq_true,if_false];obtain⟨v,h2⟩:=c9 rfl;obtain⟨aJ,φ,aI,bz⟩:=hr;exact next _ undef w h2 ⟨_,φ,l8 aI o.dst (Cn v),fun i hi=>by have:=bz i hi;simpa [St.cR,ck,hnew,hupd]using this⟩
    ·cases g with
     |true=>simp only[if_true];exact .inl (HR br (hs.1 rfl) hr next)
     |false=>
      simp only[Bool.false_eq_true,if_false];obtain⟨aJ,φ,aI,bz⟩:=hr;exact next _ undef w (hs.2 rfl) ⟨_,φ,l8 aI o.dst (Cn _),fun i hi=>by have:=bz i hi;simpa [St.cR,ck,hnew,hupd]using this⟩
   obtain⟨aJ,φ,aI,bz⟩:=hr;unfold y8 at h;split at h
   ·rename_i b hv;obtain⟨u,k1,k2⟩:=Cm (St.le.refl σ) aI hv (by simp);rw[mv k2]at k1;exact key _ (by simp[Region.wanted,hg,yielded,hd,k1]) h
   ·rename_i c b hv;obtain⟨u,k1,k2⟩:=Cm (St.le.refl σ) aI hv (by simp);simp only[VRel]at k2;refine key _ ?_ h
    cases c with
    |true=>
     rw[mv (φ:=φ) (T:=cb φ σ.heap) (h:=w.heap) (b:=b) (u:=u) (by simp only[VRel];exact k2.1 rfl)]at k1;simp[Region.wanted,hg,yielded,hd,k1]
    |false=>
     rw[k2.2 rfl]at k1;simp[Region.wanted,hg,yielded,hd,k1,undef]
   ·exact h.elim
  ·exact h.elim
variable {P:Program}
abbrev cZ:=Oper×Nat×dS
def u9(n:Nat)(r:dS)(id:Nat):Option H:=
 match(r.upd.reverse.find? (·.1 == id))with
 |some p=>some p.2
 |none=>if n≤id∧id<n+r.new.length then some (r.new.getD (id-n) .cF)else none
theorem RI:∀(upd:List (Nat×H)) (hs:List H) (id:Nat),aG (hupd hs upd) id=((upd.reverse.find? (·.1 == id)).map (·.2)).getD (aG hs id)
 |[],hs,id=>rfl
 |(i,x)::r,hs,id=>by
  rw[hupd,RI r (bI hs i x) id,gF];simp only[List.reverse_cons,List.find?_append]
  cases h:r.reverse.find? (·.1 == id)with
  |some p=>simp
  |none=>
   by_cases hi:i=id
   ·subst hi;simp
   ·have hb:(i == id)=false:=by simpa using hi
    have c4:¬id=i:=fun e=>hi e.symm;simp[hb,c4]
theorem wj(σ:St)(dst:Option Tmp)(n:Nat)(r:dS)(id:Nat):aG (σ.cR dst n r).heap id=(u9 n r id).getD (aG σ.heap id):=by
 simp only[St.cR];rw[RI,As];unfold u9
 cases h:r.upd.reverse.find? (·.1 == id)with
 |some p=>simp
 |none=>
  by_cases hc:n≤id∧id<n+r.new.length
  ·simp[hc]
  ·simp[hc]
theorem yW(σ:St)(dst:Option Tmp)(n:Nat)(r:dS)(t:Nat):(σ.cR dst n r).tmps[t]?=if dst=some t then(if t<σ.tmps.length then some r.v else none)else σ.tmps[t]?:=by
 cases dst with
 |none=>simp[St.cR]
 |some d=>
  simp only[St.cR,List.getElem?_set,Option.some.injEq];by_cases h:d=t
  ·subst h;simp
  ·simp[h]
theorem At(σ:St)(dst:Option Tmp)(n:Nat)(r:dS):(σ.cR dst n r).tmps.length=σ.tmps.length:=by
 cases dst<;>simp[St.cR]
def apS(S:Nat→Bool):Nat→List cZ→St→St
 |_,[],σ=>σ
 |k,(o,n,r)::l,σ=>apS S (k+1) l (if S k then σ.cR o.dst n r else σ)
theorem RJ(S:Nat→Bool):∀(l:List cZ) (k:Nat) (σ:St),(apS S k l σ).tmps.length=σ.tmps.length
 |[],_,_=>rfl
 |(o,n,r)::l,k,σ=>by
  rw[apS,RJ S l];split
  ·exact At σ o.dst n r
  ·rfl
theorem Hj(S k':Nat→Bool)(t:Nat):∀(l:List cZ) (k:Nat) (σ σ':St),σ.tmps[t]?=σ'.tmps[t]?→σ.tmps.length=σ'.tmps.length→(∀(j:Nat) (x:cZ),l[j]?=some x→x.1.dst=some t→S (k+j)=k' (k+j))→(apS S k l σ).tmps[t]?=(apS k' k l σ').tmps[t]?
 |[],_,_,_,h,_,_=>h
 |(o,n,r)::l,k,σ,σ',h,hl,ak=>by
  rw[apS,apS];have jg:∀b dc:Bool,(if b=true then σ.cR o.dst n r else σ).tmps.length=(if dc=true then σ'.cR o.dst n r else σ').tmps.length:=by
   intro b dc;cases b<;>cases dc<;>simp[At,hl]
  refine Hj S k' t l (k+1) _ _ ?_ (jg _ _) fun j x hx hd=>by
   have:=ak (j+1) x (by simpa using hx) hd;rw[show k+1+j=k+(j+1)from by omega];exact this
  by_cases hd:o.dst=some t
  ·have h0:=ak 0 (o,n,r) rfl hd;simp only[Nat.add_zero]at h0;rw[h0];split
   ·rw[yW,yW,if_pos hd,if_pos hd,hl]
   ·exact h
  ·have h1:∀(b:Bool) (fS:St),(if b=true then fS.cR o.dst n r else fS).tmps[t]?=fS.tmps[t]?:=by
    intro b fS;cases b
    ·rfl
    ·simp only[if_true];rw[yW,if_neg hd]
   rw[h1,h1,h]
theorem D7(S k':Nat→Bool)(id:Nat):∀(l:List cZ) (k:Nat) (σ σ':St),aG σ.heap id=aG σ'.heap id→(∀(j:Nat) (x:cZ),l[j]?=some x→u9 x.2.1 x.2.2 id≠none→S (k+j)=k' (k+j))→aG (apS S k l σ).heap id=aG (apS k' k l σ').heap id
 |[],_,_,_,h,_=>h
 |(o,n,r)::l,k,σ,σ',h,ak=>by
  rw[apS,apS];refine D7 S k' id l (k+1) _ _ ?_ fun j x hx hd=>by
   have:=ak (j+1) x (by simpa using hx) hd;rw[show k+1+j=k+(j+1)from by omega];exact this
  by_cases hd:u9 n r id=none
  ·have h1:∀(b:Bool) (fS:St),aG (if b=true then fS.cR o.dst n r else fS).heap id=aG fS.heap id:=by
    intro b fS;cases b
    ·rfl
    ·simp only[if_true];rw[wj,hd];rfl
   rw[h1,h1,h]
  ·have h0:=ak 0 (o,n,r) rfl hd;simp only[Nat.add_zero]at h0;rw[h0];split
   ·rw[wj,wj,h]
   ·exact h
theorem RL(S:Nat→Bool)(t:Nat):∀(l:List cZ) (k:Nat) (σ:St) (i:Nat) (x:cZ),l[i]?=some x→x.1.dst=some t→S (k+i)=true→(∀(j:Nat) (y:cZ),i<j→l[j]?=some y→y.1.dst=some t→S (k+j)=false)→(apS S k l σ).tmps[t]?=if t<σ.tmps.length then some x.2.2.v else none
 |[],_,_,i,_,hi,_,_,_=>by simp at hi
 |(o,n,r)::l,k,σ,0,x,hi,hd,hs,hl=>by
  simp at hi;subst hi;rw[apS];simp only[Nat.add_zero]at hs;rw[hs];have:=Hj S (fun _=>false) t l (k+1) (σ.cR o.dst n r) (σ.cR o.dst n r) rfl rfl fun j y hy gr=>by
   have:=hl (j+1) y (by omega) (by simpa using hy) gr;rw[show k+1+j=k+(j+1)from by omega];exact this
  simp only[if_true];rw[this];have hid:∀(l:List cZ) (k:Nat) (fS:St),apS (fun _=>false) k l fS=fS:=by
   intro l
   induction l with
   |nil=>intro k fS;rfl
   |cons y l dr=>intro k fS;obtain⟨o,n,r⟩:=y;rw[apS];simpa using dr (k+1) fS
  rw[hid,yW,if_pos hd]
 |(o,n,r)::l,k,σ,i+1,x,hi,hd,hs,hl=>by
  rw[apS,RL S t l (k+1) _ i x (by simpa using hi) hd (by rw[show k+1+i=k+(i+1)from by omega];exact hs) fun j y lg hy gr=>by
   have:=hl (j+1) y (by omega) (by simpa using hy) gr;rw[show k+1+j=k+(j+1)from by omega];exact this]
  split
  ·rw[At]
  ·rfl
theorem RM(S:Nat→Bool)(id:Nat):∀(l:List cZ) (k:Nat) (σ:St) (i:Nat) (x:cZ) (y:H),l[i]?=some x→u9 x.2.1 x.2.2 id=some y→S (k+i)=true→(∀(j:Nat) (z:cZ),i<j→l[j]?=some z→u9 z.2.1 z.2.2 id≠none→S (k+j)=false)→aG (apS S k l σ).heap id=y
 |[],_,_,i,_,_,hi,_,_,_=>by simp at hi
 |(o,n,r)::l,k,σ,0,x,y,hi,hd,hs,hl=>by
  simp at hi;subst hi;rw[apS];simp only[Nat.add_zero]at hs;rw[hs];have:=D7 S (fun _=>false) id l (k+1) (σ.cR o.dst n r) (σ.cR o.dst n r) rfl fun j y hy gr=>by
   have:=hl (j+1) y (by omega) (by simpa using hy) gr;rw[show k+1+j=k+(j+1)from by omega];exact this
  simp only[if_true];rw[this];have hid:∀(l:List cZ) (k:Nat) (fS:St),apS (fun _=>false) k l fS=fS:=by
   intro l
   induction l with
   |nil=>intro k fS;rfl
   |cons y l dr=>intro k fS;obtain⟨o,n,r⟩:=y;rw[apS];simpa using dr (k+1) fS
  rw[hid,wj,hd];rfl
 |(o,n,r)::l,k,σ,i+1,x,y,hi,hd,hs,hl=>by
  rw[apS];exact RM S id l (k+1) _ i x y (by simpa using hi) hd (by rw[show k+1+i=k+(i+1)from by omega];exact hs) fun j z lg hz gr=>by
   have:=hl (j+1) z (by omega) (by simpa using hz) gr;rw[show k+1+j=k+(j+1)from by omega];exact this
theorem RN{B:Nat→Prop}{w0:World}{aJ:Nat→Prop}{φ:ca}{ts ts':List V}{hs hs':List H}{kp:List (V×Value)}{a:Act}{w:World}(r:R B w0 aJ φ ⟨ts,hs⟩ kp a w)(ht:ts'=ts)(h:∀i,aG hs' i=aG hs i):R B w0 aJ φ ⟨ts',hs'⟩ kp a w:=by
 subst ht;have ag:cb φ hs'=cb φ hs:=by funext b;simp only[cb,h]
 have e2:∀i b,cJ φ hs' i b=cJ φ hs i b:=by intro i b;simp only[cJ,h]
 refine⟨by simp only[ag];exact r.gJ,by simp only[ag];exact r.kp,fun i=>by simp only[ag,h];exact r.hp i,fun i j b h1 h2=>?_,fun i β e hx=>r.eK i β e (by simp only[h]at hx;exact hx),fun i b h1=>r.eL i b (by rw[←e2];exact h1),r.fl,r.fm,r.bs,r.mZ,r.kE⟩;simp only[e2]at h1 h2;exact r.dy i j b h1 h2
inductive bt where
 |pre
 |cA
 |post
 deriving DecidableEq
abbrev bt.p:bt:=.post
abbrev bt.q:bt:=.pre
abbrev bt.u:bt:=.cA
def m2(rows:List (List bt))(i j:Nat):bt:=(rows.getD i []).getD j .post
def B8(aA:List Oper)(i j:Nat):Bool:=match aA[i]? with|some o=>o.after.toList.any fun e=>Region.binds .any e&&e.on == j|none=>false
def B9(aA:List Oper)(rows:List (List bt))(m i j:Nat):Bool:=
 (match m2 rows i j with
  |.pre=>decide (j<i)&&(B8 aA i j||(List.range m).any fun k=>B8 aA i k&&decide (m2 rows k j=.pre)&&decide (k<i))
  |.post=>decide (j=i)||decide (m2 rows j i=.pre)
  |.cA=>decide (j≠i)&&decide (m2 rows j i=.cA)) &&
 (decide (j=i)||match aA[i]?,aA[j]? with|some x,some y=>decide (x.dst=none)||decide (x.dst≠y.dst)|_,_=>true)
def ua(aA:List Oper)(rows:List (List bt)):Bool:=
 decide (rows.length=aA.length)&&(List.range aA.length).all fun i=>((match aA[i]? with|some o=>o.after.toList.all fun e=>!Region.binds .any e||decide (e.on<i)|none=>true))&&(List.range aA.length).all fun j=>B9 aA rows aA.length i j
theorem Hk{aA:List Oper}{rows:List (List bt)}(h:ua aA rows=true){i j:Nat}(hi:i<aA.length)(ak:j<aA.length):B9 aA rows aA.length i j=true:=by
 simp only[ua,Bool.and_eq_true,List.all_eq_true,List.mem_range]at h;exact(h.2 i hi).2 j ak
theorem aag{aA:List Oper}{rows:List (List bt)}(h:ua aA rows=true){i:Nat}{o:Oper}(hi:aA[i]?=some o){e:Edge}(he:e∈o.after.toList)(hb:Region.binds .any e=true):e.on<i:=by
 have hlt:i<aA.length:=(List.getElem?_eq_some_iff.1 hi).1;simp only[ua,Bool.and_eq_true,List.all_eq_true,List.mem_range]at h;have:=(h.2 i hlt).1;rw[hi]at this;simp only[List.all_eq_true]at this;have:=this e he;simpa [hb]using this
theorem RO{aA:List Oper}{rows:List (List bt)}(h:ua aA rows=true){i j:Nat}(hi:i<aA.length)(ak:j<aA.length)(hr:m2 rows i j=.pre):j<i∧(B8 aA i j=true∨∃k,B8 aA i k=true∧m2 rows k j=.pre∧k<i):=by
 have:=Hk h hi ak;unfold B9 at this;rw[hr]at this;simp only[Bool.and_eq_true,Bool.or_eq_true,decide_eq_true_eq,List.any_eq_true,List.mem_range]at this;refine⟨this.1.1,this.1.2.imp id ?_⟩;rintro⟨k,_,⟨h1,h2⟩,aj⟩;exact⟨k,h1,h2,aj⟩
theorem aah{aA:List Oper}{rows:List (List bt)}(h:ua aA rows=true){i j:Nat}(hi:i<aA.length)(ak:j<aA.length)(hr:m2 rows i j=.post):j=i∨m2 rows j i=.pre:=by
 have:=Hk h hi ak;unfold B9 at this;rw[hr]at this;simp only[Bool.and_eq_true,Bool.or_eq_true,decide_eq_true_eq]at this;exact this.1
theorem aai{aA:List Oper}{rows:List (List bt)}(h:ua aA rows=true){i j:Nat}(hi:i<aA.length)(ak:j<aA.length)(hr:m2 rows i j=.cA):m2 rows j i=.cA:=by
 have:=Hk h hi ak;unfold B9 at this;rw[hr]at this;simp only[Bool.and_eq_true,decide_eq_true_eq]at this;exact this.1.2
theorem aaj{aA:List Oper}{rows:List (List bt)}(h:ua aA rows=true){i j:Nat}{x y:Oper}(hx:aA[i]?=some x)(hy:aA[j]?=some y)(hne:j≠i){d:Tmp}(hd:x.dst=some d):y.dst≠some d:=by
 have hi:i<aA.length:=(List.getElem?_eq_some_iff.1 hx).1;have ak:j<aA.length:=(List.getElem?_eq_some_iff.1 hy).1;have:=Hk h hi ak;unfold B9 at this;simp only[Bool.and_eq_true,Bool.or_eq_true,decide_eq_true_eq,hne,false_or,hx,hy,hd]at this;rcases this.2 with h1|h1
 ·cases h1
 ·exact fun e=>h1 e.symm
def u_(ts:List V)(d:Option Tmp):List V:=match d with|some t=>ts.set t .J|none=>ts
def kilH:List H→List (Nat×H)→List H
 |hs,[]=>hs
 |hs,(i,_)::r=>kilH (bI hs i .cF) r
def mask:List bt→List cZ→List Oper→St→St
 |.pre::row,(o,n,r)::l,rest,σ=>mask row l rest (σ.cR o.dst n r)
 |.cA::row,(o,_,r)::l,rest,σ=>mask row l rest ⟨u_ σ.tmps o.dst,kilH σ.heap r.upd⟩
 |.post::row,_::l,rest,σ=>mask row l rest σ
 |.cA::row,[],o::rest,σ=>mask row [] rest ⟨u_ σ.tmps o.dst,σ.heap⟩
 |.pre::row,[],_::rest,σ=>mask row [] rest σ
 |.post::row,[],_::rest,σ=>mask row [] rest σ
 |[],_,_,σ=>σ
 |_::_,[],[],σ=>σ
theorem LQ:∀(upd:List (Nat×H)) (hs:List H) (id:Nat),aG (kilH hs upd) id=.cF∨(aG (kilH hs upd) id=aG hs id∧∀x,(id,x)∉upd)
 |[],hs,id=>.inr ⟨rfl,by simp⟩
 |(i,y)::r,hs,id=>by
  rw[kilH];rcases LQ r (bI hs i .cF) id with h|⟨h1,h2⟩
  ·exact .inl h
  ·rw[gF]at h1;by_cases hi:id=i
   ·rw[if_pos hi]at h1;exact .inl h1
   ·rw[if_neg hi]at h1;exact .inr ⟨h1,fun x hx=>by
     rcases List.mem_cons.1 hx with hx|hx
     ·cases hx;exact hi rfl
     ·exact h2 x hx⟩
theorem yX{n:Nat}{r:dS}{id:Nat}(h1:∀x,(id,x)∉r.upd)(h2:¬(n≤id∧id<n+r.new.length)):u9 n r id=none:=by
 unfold u9;rw[if_neg h2]
 cases h:r.upd.reverse.find? (·.1 == id)with
 |none=>rfl
 |some p=>
  exfalso;have hm:=List.mem_of_find?_eq_some h;have hp:=List.find?_some h;simp only[beq_iff_eq]at hp;exact h1 p.2 (by rw[←hp];simpa using hm)
def Asc:Nat→List cZ→Prop
 |_,[]=>True
 |c,(_,n,r)::l=>n=c∧(∀p∈r.upd,p.1<n+r.new.length)∧Asc (c+r.new.length) l
structure B_(jV m3:St):Prop where
 len:jV.tmps.length=m3.tmps.length
 gJ:∀(t:Nat) (v:V),jV.tmps[t]?=some v→v=.J∨m3.tmps[t]?=some v
 hp:∀i,aG jV.heap i=.cF∨aG m3.heap i=aG jV.heap i
theorem B_.cR{jV m3:St}(h:B_ jV m3)(dst:Option Tmp)(n:Nat)(r:dS):B_ (jV.cR dst n r) (m3.cR dst n r):=by
 refine⟨by rw[At,At,h.len],fun t v e=>?_,fun i=>?_⟩
 ·rw[yW]at e⊢;by_cases hd:dst=some t
  ·rw[if_pos hd]at e⊢;rw[←h.len];exact .inr e
  ·rw[if_neg hd]at e⊢;exact h.gJ t v e
 ·rw[wj,wj]
  cases u9 n r i with
  |none=>exact h.hp i
  |some x=>exact .inr rfl
theorem RP(ts:List V)(d:Option Tmp)(t:Nat)(v:V)(h:(u_ ts d)[t]?=some v):v=.J∨(ts[t]?=some v∧d≠some t):=by
 cases d with
 |none=>exact .inr ⟨h,by simp⟩
 |some x=>
  simp only[u_,List.getElem?_set]at h;by_cases hx:x=t
  ·rw[if_pos hx]at h;split at h
   ·cases h;exact .inl rfl
   ·cases h
  ·rw[if_neg hx]at h;exact .inr ⟨h,fun e=>hx (Option.some.inj e)⟩
theorem RQ(ts:List V)(d:Option Tmp):(u_ ts d).length=ts.length:=by cases d<;>simp[u_]
theorem D8:∀(row:List bt) (rest:List Oper) (σ:St),(mask row [] rest σ).heap=σ.heap
 |[],[],_=>rfl
 |[],_::_,_=>rfl
 |.pre::_,[],_=>rfl
 |.cA::_,[],_=>rfl
 |.post::_,[],_=>rfl
 |.pre::row,_::rest,σ=>D8 row rest σ
 |.cA::row,o::rest,σ=>D8 row rest ⟨u_ σ.tmps o.dst,σ.heap⟩
 |.post::row,_::rest,σ=>D8 row rest σ
theorem B'(S:Nat→Bool):∀(row:List bt) (l:List cZ) (rest:List Oper) (tail:List cZ) (k c:Nat) (jV m3:St),tail.map (·.1)=rest→row.length=l.length+rest.length→Asc c (l++tail)→B_ jV m3→(∀id,c≤id→aG jV.heap id=.cF)→
  (∀j,row[j]?=some .pre→j<l.length∧S (k+j)=true)→(∀j,row[j]?=some .post→S (k+j)=false)→(∀(j:Nat) (x:cZ),row[j]?=some .cA→l.length≤j→tail[j-l.length]?=some x→S (k+j)=true→∀p∈x.2.2.upd,aG (mask row l rest jV).heap p.1=.cF)→
  B_ (mask row l rest jV) (apS S k (l++tail) m3)
 |[],l,rest,tail,k,c,jV,m3,ht,hl,_,h,_,_,_,_=>by
  have h1:l=[]:=List.eq_nil_of_length_eq_zero (by simp at hl;omega);have h2:rest=[]:=List.eq_nil_of_length_eq_zero (by simp at hl;omega);subst h1;subst h2;have aj:tail=[]:=by simpa using ht
  subst aj;simpa [mask,apS]using h
 |x::row,(o,n,r)::l,rest,tail,k,c,jV,m3,ht,hl,ha,h,hd,hp,hq,hu=>by
  simp only[List.cons_append,Asc]at ha;obtain⟨rfl,RR,Ca⟩:=ha;rw[List.cons_append,apS];have Cb:∀j,row[j]?=some .pre→j<l.length∧S (k+1+j)=true:=fun j ak=>by
   have:=hp (j+1) (by simpa using ak);rw[show k+1+j=k+(j+1)from by omega];exact⟨by simpa using this.1,this.2⟩
  have o1:∀j,row[j]?=some .post→S (k+1+j)=false:=fun j ak=>by
   have:=hq (j+1) (by simpa using ak);rw[show k+1+j=k+(j+1)from by omega];exact this
  have m4:∀(j:Nat) (kV:cZ),row[j]?=some .cA→l.length≤j→tail[j-l.length]?=some kV→S (k+1+j)=true→∀p∈kV.2.2.upd,aG (mask (x::row) ((o,n,r)::l) rest jV).heap p.1=.cF:=fun j x h1 h2 aj aD=>by
   refine hu (j+1) x (by simpa using h1) (by simp;omega) ?_ (by rw[show k+(j+1)=k+1+j from by omega];exact aD);simpa using aj
  have ub:∀id,n+r.new.length≤id→∀y,(id,y)∉r.upd:=fun id hid y hy=>by have:=RR _ hy;simp only at this;omega
  cases x with
  |pre=>
   have h0:=(hp 0 rfl).2;simp only[Nat.add_zero]at h0;rw[h0];simp only[if_true,mask];refine B' S row l rest tail (k+1) _ _ _ ht (by simpa [Nat.add_right_comm]using hl) Ca (h.cR o.dst n r) (fun id hid=>?_) Cb o1 m4;rw[wj,yX (ub id hid) (by omega)];exact hd id (by omega)
  |cA=>
   simp only[mask];refine B' S row l rest tail (k+1) _ _ _ ht (by simpa [Nat.add_right_comm]using hl) Ca ?_ (fun id hid=>?_) Cb o1 m4
   ·refine⟨?_,fun t v e=>?_,fun i=>?_⟩
    ·simp only[RQ];rw[h.len];split
     ·rw[At]
     ·rfl
    ·rcases RP _ _ _ _ e with h1|⟨h1,h2⟩
     ·exact .inl h1
     ·split
      ·rw[yW,if_neg h2];exact h.gJ t v h1
      ·exact h.gJ t v h1
    ·rcases LQ r.upd jV.heap i with h1|⟨h1,h2⟩
     ·exact .inl h1
     ·rw[h1];split
      ·by_cases hr:n≤i∧i<n+r.new.length
       ·exact .inl (hd i hr.1)
       ·rw[wj,yX h2 hr];exact h.hp i
      ·exact h.hp i
   ·rcases LQ r.upd jV.heap id with h1|⟨h1,h2⟩
    ·exact h1
    ·rw[h1];exact hd id (by omega)
  |post=>
   have h0:=hq 0 rfl;simp only[Nat.add_zero]at h0;rw[h0];simp only[Bool.false_eq_true,if_false,mask];exact B' S row l rest tail (k+1) _ _ _ ht (by simpa [Nat.add_right_comm]using hl) Ca h (fun id hid=>hd id (by omega)) Cb o1 m4
 |x::row,[],[],tail,k,c,jV,m3,ht,hl,_,_,_,_,_,_=>by simp at hl
 |x::row,[],o::rest,tail,k,c,jV,m3,ht,hl,ha,h,hd,hp,hq,hu=>by
  cases tail with
  |nil=>simp at ht
  |cons y tail=>
   obtain⟨o',n,r⟩:=y;simp only[List.map_cons,List.cons.injEq]at ht;obtain⟨rfl,ht⟩:=ht;simp only[List.nil_append,Asc]at ha;obtain⟨rfl,RR,Ca⟩:=ha;simp only[List.nil_append,apS];have Cb:∀j,row[j]?=some .pre→j<([]:List cZ).length∧S (k+1+j)=true:=fun j ak=>by
    have:=(hp (j+1) (by simpa using ak)).1;simp at this
   have o1:∀j,row[j]?=some .post→S (k+1+j)=false:=fun j ak=>by
    have:=hq (j+1) (by simpa using ak);rw[show k+1+j=k+(j+1)from by omega];exact this
   have m4:∀(fS:St),fS.heap=jV.heap→∀(j:Nat) (kV:cZ),row[j]?=some .cA→([]:List cZ).length≤j→tail[j-([]:List cZ).length]?=some kV→S (k+1+j)=true→∀p∈kV.2.2.upd,aG (mask row [] rest fS).heap p.1=.cF:=fun fS aak j kV h1 h2 aj aD p hp=>by
    have:=hu (j+1) kV (by simpa using h1) (by simp) (by simpa using aj) (by rw[show k+(j+1)=k+1+j from by omega];exact aD) p hp;rw[D8]at this⊢;rw[aak];exact this
   have jg:row.length=([]:List cZ).length+rest.length:=by simp at hl⊢;omega
   have gr:∀id,n+r.new.length≤id→aG jV.heap id=.cF:=fun id hid=>hd id (by omega)
   cases x with
   |pre=>have:=(hp 0 rfl).1;simp at this
   |cA=>
    simp only[mask];have:=B' S row [] rest tail (k+1) _ ⟨u_ jV.tmps o'.dst,jV.heap⟩ (if S k=true then m3.cR o'.dst n r else m3) ht jg (by simpa using Ca) ?_ gr Cb o1 (m4 _ rfl)
    ·simpa using this
    ·refine⟨?_,fun t v e=>?_,fun i=>?_⟩
     ·simp only[RQ];rw[h.len];split
      ·rw[At]
      ·rfl
     ·rcases RP _ _ _ _ e with h1|⟨h1,h2⟩
      ·exact .inl h1
      ·split
       ·rw[yW,if_neg h2];exact h.gJ t v h1
       ·exact h.gJ t v h1
     ·split
      ·rename_i hs;have aal:=hu 0 (o',n,r) rfl (by simp) (by simp) hs;by_cases hr:n≤i∧i<n+r.new.length
       ·exact .inl (hd i hr.1)
       ·by_cases hx:∃z,(i,z)∈r.upd
        ·obtain⟨z,hz⟩:=hx;have:=aal (i,z) hz;rw[D8]at this;exact .inl this
        ·rw[wj,yX (fun z hz=>hx ⟨z,hz⟩) hr];exact h.hp i
      ·exact h.hp i
   |post=>
    have h0:=hq 0 rfl;simp only[Nat.add_zero]at h0;rw[h0];simp only[Bool.false_eq_true,if_false,mask];have:=B' S row [] rest tail (k+1) _ jV m3 ht jg (by simpa using Ca) h gr Cb o1 (m4 _ rfl);simpa using this
def anyE(P:Program)(aA:List Oper)(dF:St):List (List bt)→List Oper→List cZ→Nat→(List cZ→Prop)→Prop
 |row::rows,o::rest,l,n,K=>stepE P aA (mask row l (o::rest) dF) n o fun r=>anyE P aA dF rows rest (l++[(o,n,r)]) (n+r.new.length) K
 |_,[],l,_,K=>K l
 |[],_::_,_,_,_=>False
def LR:Nat→List cZ→Prop
 |_,[]=>True
 |c,(_,n,r)::l=>n=c∧LR (c+r.new.length) l
theorem RS{aA:Array Oper}{dF:St}:∀(rest:List Oper) (rows:List (List bt)) (l:List cZ) (n:Nat) (K:List cZ→Prop),anyE P aA.toList dF rows rest l n K→
  ∃tail:List cZ,tail.map (·.1)=rest∧K (l++tail)∧LR n tail∧∀(j:Nat) (x:cZ),tail[j]?=some x→∃row,rows[j]?=some row∧Hl P aA x.1 (mask row (l++tail.take j) (rest.drop j) dF) x.2.1 x.2.2
 |[],rows,l,n,K,h=>by
  have:K l:=by cases rows<;>exact h
  exact⟨[],rfl,by simpa using this,trivial,by simp⟩
 |o::rest,[],l,n,K,h=>h.elim
 |o::rest,row::rows,l,n,K,h=>by
  simp only[anyE]at h;obtain⟨r,h1,h2⟩:=aam h;obtain⟨tail,fF,gm,t3,t4⟩:=RS rest rows _ _ K h2;refine⟨(o,n,r)::tail,by simp[fF],by simpa using gm,⟨rfl,t3⟩,fun j x ak=>?_⟩
  cases j with
  |zero=>simp at ak;subst ak;exact⟨row,rfl,by simpa using h1⟩
  |succ j=>
   obtain⟨D9,k1,k2⟩:=t4 j x (by simpa using ak);exact⟨D9,by simpa using k1,by simpa using k2⟩
def allPre:List bt→Bool
 |[]=>true
 |.pre::r=>allPre r
 |_::_=>false
def ltE(b:Nat):List (Nat×H)→Prop
 |[]=>True
 |(i,_)::r=>i<b∧ltE b r
def updE:List (List bt)→Nat→List cZ→Prop
 |row::rows,i,(_,n,r)::l=>(match r.upd with|[]=>True|_::_=>allPre (row.take i)=true)∧ltE (n+r.new.length) r.upd∧updE rows (i+1) l
 |_,_,[]=>True
 |[],_,_::_=>False
def yY(x:cZ)(id:Nat):Bool:=!(decide (x.2.1≤id)&&decide (id<x.2.1+x.2.2.new.length))&&!(x.2.2.upd.any fun q=>q.1 == id)
def deadB:H→Bool
 |.cF=>true
 |_=>false
def okR(dF:St)(bW:List Nat):List bt→List (List bt)→List cZ→List cZ→List Oper→Bool
 |r::row,uc::rows,pre,x::l,o::aA=>(match r with|.pre=>true|_=>bW.all fun id=>deadB (aG (mask uc pre (o::aA) dF).heap id)&&yY x id)&&okR dF bW row rows (pre++[x]) l aA
 |_,_,_,[],_=>true
 |_,_,_,_::_,_=>false
def Hm(dF:St)(row:List bt)(rows:List (List bt))(pre:List cZ)(aA:List Oper):List (Nat×H)→Bool
 |[]=>true
 |p::u=>okR dF (p.1::u.map (·.1)) row rows [] pre aA
def upd2(dF:St)(D_:List (List bt))(D':List Oper):List (List bt)→List cZ→List cZ→Prop
 |row::rows,pre,(o,n,r)::l=>Hm dF row D_ pre D' r.upd=true∧ltE (n+r.new.length) r.upd∧upd2 dF D_ D' rows (pre++[(o,n,r)]) l
 |_,_,[]=>True
 |[],_,_::_=>False
theorem RT{x:H}(h:deadB x=true):x=.cF:=by cases x<;>first|rfl|cases h
theorem RU{dF:St}{bW:List Nat}:∀{l:List cZ} {row:List bt} {rows:List (List bt)} {pre:List cZ} {aA:List Oper},okR dF bW row rows pre l aA=true→∀(k:Nat) (y:cZ) (ρ:bt),l[k]?=some y→row[k]?=some ρ→ρ≠.pre→∀id∈bW,
  ∃uc,rows[k]?=some uc∧aG (mask uc (pre++l.take k) (aA.drop k) dF).heap id=.cF∧yY y id=true
 |[],_,_,_,_,_,k,y,ρ,hy,_,_,_,_=>by simp at hy
 |x::l,[],_,_,_,h,_,_,_,_,_,_,_,_=>by simp[okR]at h
 |x::l,_::_,[],_,_,h,_,_,_,_,_,_,_,_=>by simp[okR]at h
 |x::l,_::_,_::_,_,[],h,_,_,_,_,_,_,_,_=>by simp[okR]at h
 |x::l,r::row,uc::rows,pre,o::aA,h,k,y,ρ,hy,hr,hne,id,hid=>by
  simp only[okR,Bool.and_eq_true]at h
  cases k with
  |zero=>
   simp at hy hr;subst hy;subst hr;have h1:=h.1;refine⟨uc,rfl,?_⟩
   cases r with
   |pre=>exact absurd rfl hne
   |cA=>
    simp only[List.all_eq_true,Bool.and_eq_true]at h1;obtain⟨aj,aD⟩:=h1 id hid;exact⟨by simpa using RT aj,aD⟩
   |post=>
    simp only[List.all_eq_true,Bool.and_eq_true]at h1;obtain⟨aj,aD⟩:=h1 id hid;exact⟨by simpa using RT aj,aD⟩
  |succ k=>
   obtain⟨aan,k1,k2,dC⟩:=RU h.2 k y ρ (by simpa using hy) (by simpa using hr) hne id hid;exact⟨aan,by simpa using k1,by simpa using k2,dC⟩
theorem RV:∀{row:List bt},allPre row=true→∀(j:Nat) (x:bt),row[j]?=some x→x=.pre
 |[],_,j,x,h=>by simp at h
 |y::row,h,j,x,hx=>by
  cases y<;>simp only[allPre]at h
  ·cases j with
   |zero=>simp at hx;exact hx.symm
   |succ j=>exact RV h j x (by simpa using hx)
  ·cases h
  ·cases h
theorem LS{b:Nat}:∀{upd:List (Nat×H)},ltE b upd→∀p∈upd,p.1<b
 |[],_,p,hp=>by cases hp
 |(i,x)::r,h,p,hp=>by
  rcases List.mem_cons.1 hp with rfl|hp
  ·exact h.1
  ·exact LS h.2 p hp
theorem LU{dF:St}{D_:List (List bt)}{D':List Oper}:∀{l:List cZ} {rows:List (List bt)} {pre:List cZ},upd2 dF D_ D' rows pre l→∀(j:Nat) (x:cZ),l[j]?=some x→∃row,rows[j]?=some row∧Hm dF row D_ (pre++l.take j) D' x.2.2.upd=true∧∀p∈x.2.2.upd,p.1<x.2.1+x.2.2.new.length
 |[],_,_,_,j,x,h=>by simp at h
 |(o,n,r)::l,[],_,h,j,x,hx=>h.elim
 |(o,n,r)::l,row::rows,pre,h,j,x,hx=>by
  obtain⟨h1,h2,aj⟩:=h
  cases j with
  |zero=>simp at hx;subst hx;exact⟨row,rfl,by simpa using h1,LS h2⟩
  |succ j=>
   obtain⟨D9,k1,k2,dC⟩:=LU aj j x (by simpa using hx);exact⟨D9,by simpa using k1,by simpa using k2,dC⟩
theorem LV:∀{l:List cZ} {rows:List (List bt)} {i:Nat},updE rows i l→∀(j:Nat) (x:cZ),l[j]?=some x→∃row,rows[j]?=some row∧(x.2.2.upd=[]∨∀k,k<i+j→k<row.length→row[k]?=some .pre)∧∀p∈x.2.2.upd,p.1<x.2.1+x.2.2.new.length
 |[],_,_,_,j,x,h=>by simp at h
 |(o,n,r)::l,[],i,h,j,x,hx=>h.elim
 |(o,n,r)::l,row::rows,i,h,j,x,hx=>by
  obtain⟨h1,h2,aj⟩:=h
  cases j with
  |zero=>
   simp at hx;subst hx;refine⟨row,rfl,?_,LS h2⟩
   cases hu:r.upd with
   |nil=>exact .inl rfl
   |cons p ps=>
    rw[hu]at h1;right;intro k hk tF;have aao:k<(row.take i).length:=by simp;omega
    have:=RV h1 k _ (List.getElem?_eq_getElem aao);rw[List.getElem?_eq_getElem tF];rw[List.getElem_take]at this;rw[this]
  |succ j=>
   obtain⟨D9,k1,k2,dC⟩:=LV aj j x (by simpa using hx);exact⟨D9,by simpa using k1,k2.imp id fun h k hk=>h k (by omega),dC⟩
theorem RW{c:Nat}:∀{l:List cZ},LR c l→(∀(j:Nat) (x:cZ),l[j]?=some x→∀p∈x.2.2.upd,p.1<x.2.1+x.2.2.new.length)→Asc c l
 |[],_,_=>trivial
 |(o,n,r)::l,h,hu=>⟨h.1,hu 0 (o,n,r) rfl,RW h.2 fun j x hx=>hu (j+1) x (by simpa using hx)⟩
theorem Ea{c:Nat}:∀{l:List cZ},Asc c l→∀(j:Nat) (x:cZ),l[j]?=some x→c≤x.2.1∧(∀p∈x.2.2.upd,p.1<x.2.1+x.2.2.new.length)∧∀(k:Nat) (y:cZ),j<k→l[k]?=some y→x.2.1+x.2.2.new.length≤y.2.1
 |[],_,j,x,h=>by simp at h
 |(o,n,r)::l,h,j,x,hx=>by
  obtain⟨rfl,h1,h2⟩:=h
  cases j with
  |zero=>
   simp at hx;subst hx;refine⟨Nat.le_refl _,h1,fun k y hk hy=>?_⟩
   cases k with
   |zero=>omega
   |succ k=>exact(Ea h2 k y (by simpa using hy)).1
  |succ j=>
   obtain⟨k1,k2,dC⟩:=Ea h2 j x (by simpa using hx);refine⟨by omega,k2,fun k y hk hy=>?_⟩
   cases k with
   |zero=>omega
   |succ k=>exact dC k y (by omega) (by simpa using hy)
theorem RX{p q:Nat→Bool}:∀(l:List Nat) (x:Nat),x∈l→(∀y,p y=true→q y=true)→q x=true→p x=false→l.countP p<l.countP q
 |[],x,h,_,_,_=>by cases h
 |y::l,x,h,LW,hq,hp=>by
  have hle:l.countP p≤l.countP q:=List.countP_mono_left fun z _=>LW z;rcases List.mem_cons.1 h with rfl|h
  ·rw[List.countP_cons_of_neg (by simp[hp]),List.countP_cons_of_pos hq];omega
  ·have:=RX l x h LW hq hp;by_cases hy:p y=true
   ·rw[List.countP_cons_of_pos hy,List.countP_cons_of_pos (LW y hy)];omega
   ·rw[List.countP_cons_of_neg hy];by_cases RY:q y=true
    ·rw[List.countP_cons_of_pos RY];omega
    ·rw[List.countP_cons_of_neg RY];exact this
structure Good(P:Program)(aA:Array Oper)(rows:List (List bt))(its:List cZ)(dF:St):Prop where
 Au:ua aA.toList rows=true
 fst:its.map (·.1)=aA.toList
 asc:Asc dF.heap.length its
 upd:∀(i:Nat) (x:cZ),its[i]?=some x→∀p∈x.2.2.upd,∀(k:Nat) (y:cZ),k<i→its[k]?=some y→m2 rows i k≠.pre→∃uc,rows[k]?=some uc∧aG (mask uc (its.take k) (aA.toList.drop k) dF).heap p.1=.cF∧yY y p.1=true
 u':∀(i:Nat) (row:List bt),rows[i]?=some row→row.length=aA.size
 step:∀(i:Nat) (x:cZ),its[i]?=some x→∃row,rows[i]?=some row∧Hl P aA x.1 (mask row (its.take i) (aA.toList.drop i) dF) x.2.1 x.2.2
def RZ(aA:Array Oper)(S:Nat→Bool):Prop:=∀i o,aA[i]?=some o→S i=true→∀e∈o.after,Region.binds .any e=true→S e.on=true
theorem R0{aA:Array Oper}{rows:List (List bt)}(h:ua aA.toList rows=true){S:Nat→Bool}(hc:RZ aA S):∀(i:Nat),(∀e o,aA[i]?=some o→e∈o.after→Region.binds .any e=true→S e.on=true)→∀j,i<aA.size→j<aA.size→m2 rows i j=.pre→S j=true:=by
 intro i
 induction i using Nat.strongRecOn with
 |_ i dr=>
  intro he j hi ak hr;have Hn:∀k,B8 aA.toList i k=true→S k=true:=by
   intro k hk;unfold B8 at hk;rw[Array.getElem?_toList,Array.getElem?_eq_getElem hi]at hk;simp only[List.any_eq_true,Bool.and_eq_true,beq_iff_eq]at hk;obtain⟨e,h1,h2,aj⟩:=hk;rw[←aj];exact he e _ (Array.getElem?_eq_getElem hi) (by simpa using h1) h2
  obtain⟨h1,h2|⟨k,h2,aj,aD⟩⟩:=RO h (by simpa using hi) (by simpa using ak) hr
  ·exact Hn j h2
  ·have hk:=Hn k h2;exact dr k aD (fun e o ax z8 hb=>hc k o ax hk e z8 hb) j (by omega) ak aj
section
variable {aA:Array Oper} {rows:List (List bt)} {its:List cZ} {dF:St} {B:Nat→Prop} {w0:World} {kp:List (V×Value)} {Q:Exit→Act→World→Prop}
theorem aap(G:Good P aA rows its dF)(gE:∀a w,(∃aJ φ,R B w0 aJ φ (apS (fun _=>true) 0 its dF) kp a w∧∀id,aJ id→id<dF.heap.length∨∃(j:Nat) (x:cZ),its[j]?=some x∧x.2.1≤id∧id<x.2.1+x.2.2.new.length)→Q .normal a w) :
  ∀(fuel:Nat) (listed:Array Bool) (a:Act) (w:World),listed.size=aA.size→RZ aA (fun i=>listed.getD i false)→(List.range aA.size).countP (fun i=>!(listed.getD i false))≤fuel→
   (∃aJ φ,R B w0 aJ φ (apS (fun i=>listed.getD i false) 0 its dF) kp a w∧∀id,aJ id→id<dF.heap.length∨∃(j:Nat) (x:cZ),its[j]?=some x∧listed.getD j false=true∧x.2.1≤id∧id<x.2.1+x.2.2.new.length)→
   wpAny P .any aA Q fuel listed a w:=by
 have hlen:its.length=aA.size:=by
  have:=congrArg List.length G.fst;simpa using this
 have LX:∀(i:Nat) (x:cZ),its[i]?=some x→aA[i]?=some x.1:=by
  intro i x hx;have:=congrArg (·[i]?) G.fst;simp only[List.getElem?_map,hx,Option.map_some,Array.getElem?_toList]at this;exact this.symm
 have Av:∀(listed:Array Bool),listed.size=aA.size→Region.ready .any aA listed=[]→∀i,i<aA.size→listed.getD i false=true:=by
  intro listed hs hr i
  induction i using Nat.strongRecOn with
  |_ i dr=>
   intro hi;by_cases h:listed.getD i false=true
   ·exact h
   ·exfalso;have:i∈Region.ready .any aA listed:=by
     rw[mem_ready];refine⟨?_,aA[i],Array.getElem?_eq_getElem hi,fun e he hb=>?_⟩
     ·have:i<listed.size:=by omega
      simp only[Array.getD_eq_getD_getElem?,Array.getElem?_eq_getElem this,Option.getD_some]at h⊢;simpa using h
     ·have:=aag G.Au (i:=i) (o:=aA[i]) (by simp[hi]) (e:=e) (by simpa using he) hb;exact dr e.on this (by omega)
    rw[hr]at this;cases this
 have R1:∀(listed:Array Bool) (a:Act) (w:World),listed.size=aA.size→Region.ready .any aA listed=[]→(∃aJ φ,R B w0 aJ φ (apS (fun i=>listed.getD i false) 0 its dF) kp a w∧∀id,aJ id→id<dF.heap.length∨∃(j:Nat) (x:cZ),its[j]?=some x∧listed.getD j false=true∧x.2.1≤id∧id<x.2.1+x.2.2.new.length)→Q .normal a w:=by
  rintro listed a w hs hr ⟨aJ,φ,aI,bz⟩;refine gE a w ⟨aJ,φ,RN aI ?_ ?_,fun id hid=>(bz id hid).imp (fun h=>h) fun⟨j,x,h1,_,h2⟩=>⟨j,x,h1,h2⟩⟩
  ·apply List.ext_getElem?;intro t;refine Hj _ _ t its 0 dF dF rfl rfl fun j x hx _=>?_;have ak:j<its.length:=(List.getElem?_eq_some_iff.1 hx).1;simp only[Nat.zero_add];exact(Av listed hs hr j (by omega)).symm
  ·intro id;refine D7 _ _ id its 0 dF dF rfl fun j x hx _=>?_;have ak:j<its.length:=(List.getElem?_eq_some_iff.1 hx).1;simp only[Nat.zero_add];exact(Av listed hs hr j (by omega)).symm
 intro fuel
 induction fuel with
 |zero=>
  intro listed a w hs hc aaq aI;have hr:Region.ready .any aA listed=[]:=by
   apply List.eq_nil_iff_forall_not_mem.2;intro i hi;obtain⟨h1,o,ax,_⟩:=mem_ready.1 hi;have hlt:i<aA.size:=(Array.getElem?_eq_some_iff.1 ax).1;have h2:(List.range aA.size).countP (fun i=>!(listed.getD i false))=0:=by omega
   have:=List.countP_eq_zero.1 h2 i (List.mem_range.2 hlt);have hl:i<listed.size:=by omega
   simp only[Array.getD_eq_getD_getElem?,Array.getElem?_eq_getElem hl,Option.getD_some]at this h1;rw[h1]at this;simp at this
  exact⟨hr,R1 listed a w hs hr aI⟩
 |succ fuel dr=>
  intro listed a w hs hc aaq aI;refine⟨fun hr=>R1 listed a w hs hr aI,fun i hi=>?_⟩;obtain⟨h1,o,ax,Cc⟩:=mem_ready.1 hi;have hlt:i<aA.size:=(Array.getElem?_eq_some_iff.1 ax).1;have hl:i<listed.size:=by omega
  have Cd:listed.getD i false=false:=by
   simp only[Array.getD_eq_getD_getElem?,Array.getElem?_eq_getElem hl,Option.getD_some]at h1⊢;exact h1
  have LY:i<its.length:=by omega
  have hx:its[i]?=some its[i]:=List.getElem?_eq_getElem LY;generalize its[i]=x at hx;have aar:x.1=o:=by have:=LX i x hx;rw[ax]at this;exact(Option.some.inj this).symm
  obtain⟨row,Eb,aas⟩:=G.step i x hx;have nj:∀j y,row[j]?=some y→m2 rows i j=y∧j<aA.size:=by
   intro j y hy;refine⟨by unfold m2;simp[Eb,hy],?_⟩;have:=(List.getElem?_eq_some_iff.1 hy).1;rw[G.u' i row Eb]at this;exact this
  have R2:∀j,row[j]?=some .pre→j<i∧listed.getD j false=true:=by
   intro j ak;obtain⟨h2,aj⟩:=nj j _ ak;exact⟨(RO G.Au (by simpa using hlt) (by simpa using aj) h2).1,R0 G.Au hc i (fun e o' Ho he hb=>by rw[ax]at Ho;cases Ho;exact Cc e he hb) j hlt aj h2⟩
  have R3:∀j,row[j]?=some .post→listed.getD j false=false:=by
   intro j ak;obtain⟨h2,aj⟩:=nj j _ ak;rcases aah G.Au (by simpa using hlt) (by simpa using aj) h2 with aD|aD
   ·rw[aD];exact Cd
   ·cases hs':listed.getD j false with
    |false=>rfl
    |true=>
     have:=R0 G.Au hc j (fun e o' Ho he hb=>hc j o' Ho hs' e he hb) i aj hlt aD;rw[Cd]at this;cases this
  have R4:∀(j:Nat) (y:cZ),row[j]?=some .cA→i<j→its[j]?=some y→∀p∈y.2.2.upd,aG (mask row (its.take i) (aA.toList.drop i) dF).heap p.1=.cF∧yY x p.1=true:=by
   intro j y ak lg hy p hp;obtain⟨h2,aj⟩:=nj j _ ak;obtain⟨uc,g1,cx,g3⟩:=G.upd j y hy p hp i x lg hx (by
    rw[aai G.Au (by simpa using hlt) (by simpa using aj) h2];intro h;cases h)
   rw[Eb]at g1;cases g1;exact⟨cx,g3⟩
  have R5:∀(j:Nat) (y:cZ),i<j→its[j]?=some y→listed.getD j false=true→∀p∈y.2.2.upd,yY x p.1=true:=by
   intro j y lg hy hs';have ak:j<aA.size:=by have:=(List.getElem?_eq_some_iff.1 hy).1;omega
   have aat:j<row.length:=by rw[G.u' i row Eb];exact ak
   have h2:row[j]?=some row[j]:=List.getElem?_eq_getElem aat
   cases f':row[j]with
   |pre=>rw[f']at h2;have:=(R2 j h2).1;omega
   |post=>rw[f']at h2;have:=R3 j h2;rw[this]at hs';cases hs'
   |cA=>rw[f']at h2;exact fun p hp=>(R4 j y h2 lg hy p hp).2
  have hle:B_ (mask row (its.take i) (aA.toList.drop i) dF) (apS (fun i=>listed.getD i false) 0 its dF):=by
   have jr:(its.take i).length=i:=by simp;omega
   have:=B' (fun i=>listed.getD i false) row (its.take i) (aA.toList.drop i) (its.drop i) 0 dF.heap.length dF dF (by rw[List.map_drop,G.fst]) (by rw[G.u' i row Eb];simp;omega) (by rw[List.take_append_drop];exact G.asc)
    ⟨rfl,fun t v e=>.inr e,fun i=>.inr rfl⟩ (fun id hid=>by unfold aG;rw[List.getD_eq_getElem?_getD,List.getElem?_eq_none hid];rfl)
    (fun j ak=>by rw[jr,Nat.zero_add];exact R2 j ak) (fun j ak=>by rw[Nat.zero_add];exact R3 j ak)
    (fun j y ak lg hy hs'=>by
     rw[jr]at lg hy;rw[Nat.zero_add]at hs';rw[List.getElem?_drop,show i+(j-i)=j from by omega]at hy;rcases Nat.lt_or_ge i j with h|h
     ·exact fun p hp=>(R4 j y ak h hy p hp).1
     ·have:j=i:=by omega
      subst this;rw[Cd]at hs';cases hs')
   rw[List.take_append_drop]at this;exact this
  obtain⟨aJ,φ,dX,bz⟩:=aI;have ud:=Ea G.asc i x hx;have Hp:∀(j:Nat) (y:cZ) (id:Nat),j≠i→its[j]?=some y→listed.getD j false=true→x.2.1≤id→id<x.2.1+x.2.2.new.length→u9 y.2.1 y.2.2 id=none:=by
   intro j y id kG hy hs' h2 aj;have R6:=Ea G.asc j y hy;rcases Nat.lt_or_gt_of_ne kG with h|h
   ·have aD:=R6.2.2 i x h hx;exact yX (fun z hz=>by have:=R6.2.1 _ hz;simp only at this;omega) (by omega)
   ·have aD:=ud.2.2 j y h hy;refine yX (fun z hz=>?_) (by omega);have:=R5 j y h hy hs' (id,z) hz;simp only[yY,Bool.and_eq_true,Bool.not_eq_true',Bool.and_eq_false_iff,decide_eq_false_iff_not]at this;omega
  have ub:∀id,x.2.1≤id→id<x.2.1+x.2.2.new.length→aG (apS (fun i=>listed.getD i false) 0 its dF).heap id=.cF:=by
   intro id h2 aj;have:=D7 (fun i=>listed.getD i false) (fun _=>false) id its 0 dF dF rfl fun j y hy hne=>by
    simp only[Nat.zero_add]
    cases hs':listed.getD j false with
    |false=>rfl
    |true=>
     exfalso;by_cases kG:j=i
     ·subst kG;rw[Cd]at hs';cases hs'
     ·exact hne (Hp j y id kG hy hs' h2 aj)
   rw[this];have hid:∀(l:List cZ) (k:Nat) (fS:St),apS (fun _=>false) k l fS=fS:=by
    intro l
    induction l with
    |nil=>intro k fS;rfl
    |cons y l dr=>intro k fS;obtain⟨o,n,r⟩:=y;rw[apS];simpa using dr (k+1) fS
   rw[hid];have:dF.heap.length≤id:=by have:=ud.1;omega
   unfold aG;rw[List.getD_eq_getElem?_getD,List.getElem?_eq_none this];rfl
  have jh:∀id,x.2.1≤id→id<x.2.1+x.2.2.new.length→¬aJ id:=by
   intro id h2 aj hd;rcases bz id hd with aD|⟨j,y,hy,hs',aD,bX⟩
   ·have:=ud.1;omega
   ·by_cases kG:j=i
    ·subst kG;rw[Cd]at hs';cases hs'
    ·rcases Nat.lt_or_gt_of_ne kG with h|h
     ·have:=(Ea G.asc j y hy).2.2 i x h hx;omega
     ·have:=ud.2.2 j y h hy;omega
  have ue:∀j,(listed.setIfInBounds i true).getD j false=if j=i then true else listed.getD j false:=by
   intro j;by_cases kG:j=i
   ·subst kG;rw[if_pos rfl];simp[hl]
   ·rw[if_neg kG];exact getD_set_ne false (Ne.symm kG)
  have hk:=aas (apS (fun i=>listed.getD i false) 0 its dF) ⟨hle.gJ,hle.hp⟩ ub B w0 aJ φ kp a w jh dX (wpAny P .any aA Q fuel (listed.setIfInBounds i true)) Q fun u w' cv jP=>by
   refine dr _ _ w' (by simp[hs]) (fun j aau ak LZ e he hb=>?_) ?_ ⟨_,cv,RN jP ?_ ?_,fun id hid=>?_⟩
   ·simp only[ue]at LZ⊢;by_cases R7:e.on=i
    ·rw[if_pos R7]
    ·rw[if_neg R7];by_cases kG:j=i
     ·subst kG;rw[ax]at ak;cases ak;exact Cc e he hb
     ·rw[if_neg kG]at LZ;exact hc j aau ak LZ e he hb
   ·have:=RX (p:=fun j=>!((listed.setIfInBounds i true).getD j false)) (q:=fun j=>!(listed.getD j false)) (List.range aA.size) i (List.mem_range.2 hlt) (fun y hy=>by
     rw[ue]at hy;by_cases vM:y=i
     ·rw[if_pos vM]at hy;cases hy
     ·rw[if_neg vM]at hy;exact hy) (by rw[Cd];rfl) (by rw[ue,if_pos rfl];rfl)
    omega
   ·apply List.ext_getElem?;intro t;have aav:=yW (apS (fun i=>listed.getD i false) 0 its dF) x.1.dst x.2.1 x.2.2 t;refine Eq.trans ?_ aav.symm;by_cases hd:x.1.dst=some t
    ·rw[if_pos hd,RJ];refine RL _ t its 0 dF i x hx hd (by simp[ue]) fun j y lg hy L0=>?_;exfalso;exact aaj G.Au (i:=i) (j:=j) (x:=x.1) (y:=y.1) (by simp[LX i x hx]) (by simp[LX j y hy]) (by omega) hd L0
    ·rw[if_neg hd];refine Hj _ _ t its 0 dF dF rfl rfl fun j y hy L0=>?_;simp only[Nat.zero_add,ue];by_cases kG:j=i
     ·subst kG;rw[hx]at hy;cases hy;exact absurd L0 hd
     ·rw[if_neg kG]
   ·intro id;refine Eq.trans ?_ (wj (apS (fun i=>listed.getD i false) 0 its dF) x.1.dst x.2.1 x.2.2 id).symm
    cases ht:u9 x.2.1 x.2.2 id with
    |none=>
     refine D7 _ _ id its 0 dF dF rfl fun j y hy hne=>?_;simp only[Nat.zero_add,ue];by_cases kG:j=i
     ·subst kG;rw[hx]at hy;cases hy;exact absurd ht hne
     ·rw[if_neg kG]
    |some z=>
     refine RM _ id its 0 dF i x z hx ht (by simp[ue]) fun j y lg hy hne=>?_;simp only[Nat.zero_add,ue];rw[if_neg (by omega)]
     cases hs':listed.getD j false with
     |false=>rfl
     |true=>
      exfalso;have hu:∀z,(id,z)∉y.2.2.upd:=fun aaw eg=>by
       have bX:=R5 j y lg hy hs' (id,aaw) eg;simp only[yY,Bool.and_eq_true,Bool.not_eq_true',Bool.and_eq_false_iff,decide_eq_false_iff_not]at bX;rw[yX (fun q hq=>by
        have eR:=List.any_eq_false.1 bX.2 (id,q) hq;simp at eR) (by omega)]at ht
       cases ht
      have aD:=ud.2.2 j y lg hy;have akx:id<x.2.1+x.2.2.new.length:=by
       rcases Nat.lt_or_ge id (x.2.1+x.2.2.new.length)with h|h
       ·exact h
       ·rw[yX (fun z hz=>by have:=ud.2.1 _ hz;simp only at this;omega) (by omega)]at ht;cases ht
      exact hne (yX hu (by omega))
   ·rcases hid with hid|hid
    ·rcases bz id hid with aD|⟨j,y,hy,hs',aD⟩
     ·exact .inl aD
     ·exact .inr ⟨j,y,hy,by rw[ue];split<;>first|rfl|exact hs',aD⟩
    ·exact .inr ⟨i,x,hx,by rw[ue,if_pos rfl],hid⟩
  unfold wpOp;simp only[ax];rw[aar]at hk;split at hk
  ·rename_i hw;rw[if_pos hw];exact hk
  ·rename_i hw;rw[if_neg hw];exact hk
end
def seqAp:List cZ→St→St
 |[],σ=>σ
 |(o,n,r)::l,σ=>seqAp l (σ.cR o.dst n r)
theorem R8:∀(l:List cZ) (k:Nat) (σ:St),apS (fun _=>true) k l σ=seqAp l σ
 |[],_,_=>rfl
 |(o,n,r)::l,k,σ=>by rw[apS,seqAp];simpa using R8 l (k+1) (σ.cR o.dst n r)
theorem R9:∀(l:List cZ) (c:Nat) (σ:St),Asc c l→c≤σ.heap.length→σ.heap.length≤(seqAp l σ).heap.length∧∀(j:Nat) (x:cZ),l[j]?=some x→x.2.1+x.2.2.new.length≤(seqAp l σ).heap.length
 |[],_,_,_,_=>⟨Nat.le_refl _,by simp⟩
 |(o,n,r)::l,c,σ,ha,hc=>by
  obtain⟨rfl,h1,h2⟩:=ha;have xG:=Ec r.new σ.heap n;have LJ:=Hq r.upd (hnew σ.heap n r.new);have L1:σ.heap.length≤(σ.cR o.dst n r).heap.length∧n+r.new.length≤(σ.cR o.dst n r).heap.length:=by
   simp only[St.cR];refine⟨by omega,?_⟩;rcases xG.2 with h|h
   ·have aj:=xG.1;rw[h]at LJ aj⊢;simp only[List.length_nil];omega
   ·omega
  obtain⟨k1,k2⟩:=R9 l _ (σ.cR o.dst n r) h2 L1.2;simp only[seqAp];refine⟨by omega,fun j x hx=>?_⟩
  cases j with
  |zero=>simp at hx;subst hx;simp only;omega
  |succ j=>exact k2 j x (by simpa using hx)
def R_(P:Program)(aA:Array Oper)(σ:St)(K:St→Prop):Prop:=
 ∃rows,ua aA.toList rows=true∧rows.all (fun r=>r.length == aA.size)=true∧anyE P aA.toList σ rows aA.toList [] σ.heap.length fun its=>(updE rows 0 its∨upd2 σ rows aA.toList rows [] its)∧K (seqAp its σ)
theorem aax{aA:Array Oper}{B:Nat→Prop}{w0:World}{kp:List (V×Value)}{Q:Exit→Act→World→Prop}{K:St→Prop}(hm:P.follows .mixedOrders=true){id:Nat}(gE:∀σ a w,K σ→ef B w0 kp σ a w→Q .normal a w){σ:St}{a:Act}{w:World}
  (h:R_ P aA σ K) (hr:ef B w0 kp σ a w):(Code.region id aA true).wp P Q a w:=by
 obtain⟨rows,h1,h2,aj⟩:=h;obtain⟨its,fF,⟨gm,R'⟩,t3,t4⟩:=RS _ _ _ _ _ aj;simp only[List.nil_append]at gm R' t4;have hlen:its.length=aA.size:=by
  have:=congrArg List.length fF;simpa using this
 have nj:∀(i:Nat) (row:List bt),rows[i]?=some row→row.length=aA.size:=fun i row hi=>by
  have:=List.all_eq_true.1 h2 row (List.mem_of_getElem? hi);simpa using this
 have ud:Asc σ.heap.length its:=RW t3 fun j x hx=>by
  rcases gm with gm|gm
  ·obtain⟨_,_,_,h⟩:=LV gm j x hx;exact h
  ·obtain⟨_,_,_,h⟩:=LU gm j x hx;exact h
 have G:Good P aA rows its σ:=⟨h1,fF,ud,fun i x hx p hp k y hk hy hne=>by
  have Sa:k<aA.size:=by have:=(List.getElem?_eq_some_iff.1 hy).1;omega
  rcases gm with gm|gm
  ·exfalso;obtain⟨row,k1,k2,_⟩:=LV gm i x hx;rcases k2 with k2|k2
   ·rw[k2]at hp;cases hp
   ·have tF:k<row.length:=by rw[nj i row k1];exact Sa
    have:=k2 k (by omega) tF;apply hne;unfold m2;simp[k1,this]
  ·obtain⟨row,k1,k2,_⟩:=LU gm i x hx;have tF:k<row.length:=by rw[nj i row k1];exact Sa
   have Sb:row[k]?=some row[k]:=List.getElem?_eq_getElem tF;have aay:row[k]≠.pre:=fun h=>hne (by unfold m2;simp[k1,Sb,h])
   cases hu:x.2.2.upd with
   |nil=>rw[hu]at hp;cases hp
   |cons q u=>
    rw[hu]at hp k2;simp only[Hm,List.nil_append]at k2;have aaz:(its.take i)[k]?=some y:=by rw[List.getElem?_take,if_pos hk];exact hy
    obtain⟨uc,g1,cx,g3⟩:=RU k2 k y _ aaz Sb aay p.1 (by
     rcases List.mem_cons.1 hp with rfl|hp
     ·simp
     ·exact List.mem_cons_of_mem _ (List.mem_map.2 ⟨p,hp,rfl⟩))
    refine⟨uc,g1,?_,g3⟩;rw[List.nil_append,List.take_take,Nat.min_eq_left (by omega)]at cx;exact cx,nj,t4⟩
 obtain⟨aJ,φ,aI,bz⟩:=hr;refine wp_region_any hm (aap G (B:=B) (w0:=w0) (kp:=kp) (fun a' w' hA=>?_) aA.size (Array.replicate aA.size false) a {w with drawn:=w.drawn+1} (by simp) (fun i o ax hs=>?_) ?_ ⟨aJ,φ,?_,fun i hi=>.inl (bz i hi)⟩)
 ·obtain⟨yZ,cv,dX,aaA⟩:=hA;rw[R8]at dX;have vN:=R9 its _ σ ud (Nat.le_refl _);refine gE (seqAp its σ) a' w' R' ⟨yZ,cv,dX,fun i hi=>?_⟩;rcases aaA i hi with h|⟨j,x,hx,_,h⟩
  ·omega
  ·have:=vN.2 j x hx;omega
 ·exfalso;have hlt:i<aA.size:=(Array.getElem?_eq_some_iff.1 ax).1;simp[hlt]at hs
 ·refine Nat.le_trans (List.countP_le_length) ?_;simp
 ·have hid:∀(l:List cZ) (k:Nat) (fS:St),apS (fun i=>(Array.replicate aA.size false).getD i false) k l fS=fS:=by
   intro l
   induction l with
   |nil=>intro k fS;rfl
   |cons y l dr=>
    intro k fS;obtain⟨o,n,r⟩:=y;rw[apS,dr];have:(Array.replicate aA.size false).getD k false=false:=by
     by_cases hk:k<aA.size<;>simp[hk]
    simp only[this];rfl
  rw[hid];exact Sc aI rfl aI.fm.drew
def rdyE(S:List Bool):List Oper→List Bool→List Bool→List (Oper×List Bool)
 |o::os,pre,false::post=>if o.after.toList.all (fun e=>!Region.binds .any e||S.getD e.on false)=true then(o,pre++true::post)::rdyE S os (pre++[false]) post else rdyE S os (pre++[false]) post
 |_::os,pre,true::post=>rdyE S os (pre++[true]) post
 |_,_,_=>[]
def uX(l:List (Oper×List Bool))(F:Oper→List Bool→Prop):Prop:=
 match l with
 |[]=>True
 |x::r=>F x.1 x.2∧uX r F
def exE(P:Program)(kv:List V)(aA:List Oper):Nat→List Bool→St→(St→Prop)→Prop
 |0,S,σ,K=>rdyE S aA [] S=[]∧K σ
 |n+1,S,σ,K=>(rdyE S aA [] S=[]→K σ)∧uX (rdyE S aA [] S) fun o k'=>uY P kv aA σ o fun σ'=>exE P kv aA n k' σ' K
theorem Hr{S:List Bool}:∀(os:List Oper) (pre post:List Bool) (i:Nat) (o:Oper),os[i]?=some o→post[i]?=some false→(∀e∈o.after,Region.binds .any e=true→S.getD e.on false=true)→(o,pre++post.set i true)∈rdyE S os pre post
 |[],_,_,i,o,h,_,_=>by simp at h
 |x::os,pre,[],i,o,_,h,_=>by simp at h
 |x::os,pre,p::post,0,o,h1,h2,aj=>by
  simp at h1 h2;subst h1;subst h2;rw[rdyE];have hc:(x.after.toList.all fun e=>!Region.binds .any e||S.getD e.on false)=true:=by
   rw[List.all_eq_true];intro e he
   cases hb:Region.binds .any e with
   |false=>rfl
   |true=>simpa using aj e (by simpa using he) hb
  rw[if_pos hc];simp
 |x::os,pre,p::post,i+1,o,h1,h2,aj=>by
  have:=Hr os (pre++[p]) post i o (by simpa using h1) (by simpa using h2) aj;rw[List.append_assoc,List.singleton_append]at this;rw[List.set_cons_succ]
  cases p with
  |true=>rw[rdyE];exact this
  |false=>
   rw[rdyE];split
   ·exact List.mem_cons_of_mem _ this
   ·exact this
theorem Hs{S:List Bool}:∀(os:List Oper) (pre post:List Bool) (x:Oper×List Bool),x∈rdyE S os pre post→∃(i:Nat),os[i]?=some x.1∧post[i]?=some false∧x.2=pre++post.set i true∧∀e∈x.1.after,Region.binds .any e=true→S.getD e.on false=true
 |[],_,_,x,h=>by simp[rdyE]at h
 |o::os,pre,[],x,h=>by simp[rdyE]at h
 |o::os,pre,p::post,x,h=>by
  have step:∀x,x∈rdyE S os (pre++[p]) post→∃(i:Nat),(o::os)[i]?=some x.1∧(p::post)[i]?=some false∧x.2=pre++(p::post).set i true∧∀e∈x.1.after,Region.binds .any e=true→S.getD e.on false=true:=by
   intro x hx;obtain⟨i,h1,h2,aj,aD⟩:=Hs os (pre++[p]) post x hx;exact⟨i+1,by simpa using h1,by simpa using h2,by rw[aj];simp,aD⟩
  cases p with
  |true=>rw[rdyE]at h;exact step x h
  |false=>
   rw[rdyE]at h;split at h
   ·rename_i hc;rcases List.mem_cons.1 h with rfl|h
    ·refine⟨0,rfl,rfl,by simp,fun e he hb=>?_⟩;have:=List.all_eq_true.1 hc e (by simpa using he);rw[hb]at this;simpa using this
    ·exact step x h
   ·exact step x h
theorem Sd{F:Oper→List Bool→Prop}:∀{l:List (Oper×List Bool)},uX l F→∀x∈l,F x.1 x.2
 |[],_,x,hx=>by cases hx
 |y::l,h,x,hx=>by
  rcases List.mem_cons.1 hx with rfl|hx
  ·exact h.1
  ·exact Sd h.2 x hx
theorem aaB{aA:Array Oper}{B:Nat→Prop}{w0:World}{kp:List (V×Value)}{kv:List V}(br:kp.map (·.1)=kv){Q:Exit→Act→World→Prop}{K:St→Prop}(gE:∀σ a w,K σ→ef B w0 kp σ a w→Q .normal a w) :
  ∀(n:Nat) (listed:Array Bool) (σ:St) (a:Act) (w:World),listed.size=aA.size→exE P kv aA.toList n listed.toList σ K→ef B w0 kp σ a w→wpAny P .any aA Q n listed a w:=by
 have L2:∀(listed:Array Bool),listed.size=aA.size→Region.ready .any aA listed=[]→rdyE listed.toList aA.toList [] listed.toList=[]:=by
  intro listed hs hr;apply List.eq_nil_iff_forall_not_mem.2;intro x hx;obtain⟨i,h1,h2,_,aD⟩:=Hs _ _ _ x hx;have:i∈Region.ready .any aA listed:=by
   rw[mem_ready];refine⟨?_,x.1,by simpa using h1,fun e he hb=>?_⟩
   ·rw[Array.getElem?_toList]at h2;simp[Array.getD_eq_getD_getElem?,h2]
   ·have:=aD e he hb;rw[List.getD_eq_getElem?_getD,Array.getElem?_toList]at this;simpa [Array.getD_eq_getD_getElem?]using this
  rw[hr]at this;cases this
 intro n
 induction n with
 |zero=>
  intro listed σ a w hs h hr;simp only[exE]at h;refine⟨?_,gE σ a w h.2 hr⟩;apply List.eq_nil_iff_forall_not_mem.2;intro i hi;obtain⟨h1,o,ax,Cc⟩:=mem_ready.1 hi;have hlt:i<listed.size:=by have:=(Array.getElem?_eq_some_iff.1 ax).1;omega
  have hm:=Hr (S:=listed.toList) aA.toList [] listed.toList i o (by simpa using ax) (by
   rw[Array.getElem?_toList];simpa [Array.getD_eq_getD_getElem?,hlt]using h1) (fun e he hb=>by
   have:=Cc e he hb;rw[List.getD_eq_getElem?_getD,Array.getElem?_toList];simpa [Array.getD_eq_getD_getElem?]using this)
  rw[h.1]at hm;cases hm
 |succ n dr=>
  intro listed σ a w hs h hr;simp only[exE]at h;refine⟨fun he=>gE σ a w (h.1 (L2 listed hs he)) hr,fun i hi=>?_⟩;obtain⟨h1,o,ax,Cc⟩:=mem_ready.1 hi;have hlt:i<listed.size:=by have:=(Array.getElem?_eq_some_iff.1 ax).1;omega
  have hm:=Hr (S:=listed.toList) aA.toList [] listed.toList i o (by simpa using ax) (by
   rw[Array.getElem?_toList];simpa [Array.getD_eq_getD_getElem?,hlt]using h1) (fun e he hb=>by
   have:=Cc e he hb;rw[List.getD_eq_getElem?_getD,Array.getElem?_toList];simpa [Array.getD_eq_getD_getElem?]using this)
  have hx:=Sd h.2 _ hm;simp only[List.nil_append]at hx;have:=aaC (Q:=Q) (N:=wpAny P .any aA Q n (listed.setIfInBounds i true)) br hx hr fun σ' u w' hk jP=>by
   refine dr (listed.setIfInBounds i true) σ' _ w' (by simpa using hs) ?_ jP;simpa using hk
  unfold wpOp;simp only[ax];exact this
def B6(P:Program)(kv:List V)(aA:Array Oper)(σ:St)(K:St→Prop):Prop:=
 R_ P aA σ K∨∃fG,(∀σ',fG σ'→K σ')∧exE P kv aA.toList aA.size (List.replicate aA.size false) σ fG
theorem aaD{aA:Array Oper}{B:Nat→Prop}{w0:World}{kp:List (V×Value)}{kv:List V}(br:kp.map (·.1)=kv){Q:Exit→Act→World→Prop}{K:St→Prop}(hm:P.follows .mixedOrders=true){id:Nat}(gE:∀σ a w,K σ→ef B w0 kp σ a w→Q .normal a w){σ:St}{a:Act}{w:World}
  (h:B6 P kv aA σ K) (hr:ef B w0 kp σ a w):(Code.region id aA true).wp P Q a w:=by
 rcases h with h|⟨fG,y0,h⟩
 ·exact aax hm gE h hr
 ·refine wp_region_any hm (aaB br (fun σ a w L3=>gE σ a w (y0 σ L3)) aA.size (Array.replicate aA.size false) σ a _ (by simp) (by simpa using h) ?_);obtain⟨aJ,φ,aI,bz⟩:=hr;exact⟨aJ,φ,Sc aI rfl aI.fm.drew,bz⟩
variable {P:Program}
def AK(t:Bool)(A B:Prop):Prop:=(t=true→A)∧(t=false→B)
def outE:List (Nat×(St→Prop))→Nat→St→Prop
 |[],_,_=>False
 |(i,K)::X,id,σ=>if id=i then K σ else outE X id σ
mutual
def ren(ρ:List Nat):V→V
 |.J=>.J
 |.d x=>.d x
 |.c7 s=>.c7 s
 |.agg vs=>.agg (rens ρ vs)
 |.ptr id bU off=>.ptr (ρ.getD id 0) bU off
 |.eN cells off=>.eN cells off
 |.sl id off len=>.sl (ρ.getD id 0) off len
 |.fn f dU=>.fn f (rens ρ dU)
 |.c6 vs=>.c6 (rens ρ vs)
 |.bq c v=>.bq c (ren ρ v)
def rens(ρ:List Nat):List V→List V
 |[]=>[]
 |v::vs=>ren ρ v::rens ρ vs
end
def vsee(ρ:List Nat)(e7 v:V):Prop:=match e7 with|.J=>True|e7=>ren ρ e7=v
def vsees(ρ:List Nat):List V→List V→Prop
 |[],[]=>True
 |e7::vs',v::vs=>vsee ρ e7 v∧vsees ρ vs' vs
 |_,_=>False
def hsee(ρ:List Nat)(kV x:H):Prop:=
 match kV,x with
 |.cF,_=>True
 |.box Cr,.box cs=>vsees ρ Cr cs
 |.ai wI lK acu,.ai s xs jt=>wI=s∧lK=xs∧acu=jt
 |.iA wI lK,.iA s xs=>wI=s∧lK=xs
 |.af wI lK,.af s xs=>wI=s∧lK=xs
 |_,_=>False
def hsees(ρ:List Nat)(hs:List H):List Nat→List H→Prop
 |[],[]=>True
 |i::is,kV::lK=>hsee ρ kV (aG hs i)∧hsees ρ hs is lK
 |_,_=>False
structure acv(ρ:List Nat)(σ σ':St):Prop where
 j':ρ.Nodup
 gJ:vsees ρ σ'.tmps σ.tmps
 hp:hsees ρ σ.heap ρ σ'.heap
theorem TG{ρ:List Nat}{hs:List H}:∀{is:List Nat} {lK:List H},hsees ρ hs is lK→lK.length=is.length∧∀i,i<is.length→hsee ρ (aG lK i) (aG hs (is.getD i 0))
 |[],[],_=>⟨rfl,by simp⟩
 |[],_::_,h=>by simp[hsees]at h
 |_::_,[],h=>by simp[hsees]at h
 |i::is,kV::lK,h=>by
  simp only[hsees]at h;obtain⟨h1,h2⟩:=h;obtain⟨k1,k2⟩:=TG h2;refine⟨by simp[k1],fun j ak=>?_⟩
  cases j with
  |zero=>simpa [aG]using h1
  |succ j=>simpa [aG]using k2 j (by simpa using ak)
section
variable {φ:ca} {T ga:Nat→Prop} {h:Array Obj} {ρ:List Nat}
def oK(φ:ca)(ρ:List Nat):ca:=fun i=>if i<ρ.length then φ (ρ.getD i 0)else none
mutual
def vok(m:Nat):V→Prop
 |.ptr id _ _=>id<m
 |.sl id _ _=>id<m
 |.agg vs=>a6 m vs
 |.fn _ vs=>a6 m vs
 |.c6 vs=>a6 m vs
 |.bq _ v=>vok m v
 |_=>True
def a6(m:Nat):List V→Prop
 |[]=>True
 |v::vs=>vok m v∧a6 m vs
end
mutual
theorem Ib(cn:∀b,T b→ga b):∀(v:V) (u:Value),vok ρ.length v→VRel φ T h (ren ρ v) u→VRel (oK φ ρ) ga h v u
 |.J,_,_,_=>by simp[VRel]
 |.d x,u,_,r=>by
  simp only[ren,VRel]at r⊢;obtain⟨F,aK,a7⟩:=r;exact⟨F,aK,fun b hb=>cn b (a7 b hb)⟩
 |.c7 _,_,_,r=>by simpa [ren,VRel]using r
 |.agg vs,u,k,r=>by
  simp only[ren,VRel,vok]at r k⊢;obtain⟨us,aK,a7⟩:=r;exact⟨us,aK,Ic cn vs us.toList k a7⟩
 |.ptr id bU off,u,k,r=>by
  simp only[ren,VRel,vok]at r k⊢;obtain⟨β,b,aK,a7,b8⟩:=r;exact⟨β,b,by simp only[oK,if_pos k];exact aK,a7,b8⟩
 |.eN cells off,u,_,r=>by
  simp only[ren,VRel]at r⊢;obtain⟨b,f,G,aK,a7,b8,cj,ez⟩:=r;exact⟨b,f,G,aK,a7,cn b b8,cj,fun g hg=>cn g (ez g hg)⟩
 |.sl id off len,u,k,r=>by
  simp only[ren,VRel,vok]at r k⊢;obtain⟨β,a,c,aK,a7⟩:=r;exact⟨β,a,c,by simp only[oK,if_pos k];exact aK,a7⟩
 |.fn f dU,u,k,r=>by
  simp only[ren,VRel,vok]at r k⊢;obtain⟨us,aK,a7⟩:=r;exact⟨us,aK,Ic cn dU us.toList k a7⟩
 |.c6 vs,u,k,r=>by
  simp only[ren,VRel,vok]at r k⊢;obtain⟨us,aK,a7⟩:=r;exact⟨us,aK,Ic cn vs us.toList k a7⟩
 |.bq c v,u,k,r=>by
  simp only[ren,VRel,vok]at r k⊢;exact⟨fun e=>Ib cn v u k (r.1 e),r.2⟩
theorem Ic(cn:∀b,T b→ga b):∀(vs:List V) (us:List Value),a6 ρ.length vs→VRels φ T h (rens ρ vs) us→VRels (oK φ ρ) ga h vs us
 |[],us,_,r=>by simpa [rens,VRels]using r
 |v::vs,us,k,r=>by
  simp only[rens,VRels,a6]at r k⊢;obtain⟨u,us',aK,a7,b8⟩:=r;exact⟨u,us',aK,Ib cn v u k.1 a7,Ic cn vs us' k.2 b8⟩
end
theorem TH(cn:∀b,T b→ga b){e7 v:V}{u:Value}(hs:vsee ρ e7 v)(k:vok ρ.length e7)(r:VRel φ T h v u):VRel (oK φ ρ) ga h e7 u:=by
 unfold vsee at hs;split at hs
 ·simp[VRel]
 ·subst hs;exact Ib cn _ u k r
theorem M6(cn:∀b,T b→ga b):∀{vs' vs:List V} {us:List Value},vsees ρ vs' vs→a6 ρ.length vs'→VRels φ T h vs us→VRels (oK φ ρ) ga h vs' us
 |[],[],us,_,_,r=>by simpa [VRels]using r
 |[],_::_,_,hs,_,_=>by simp[vsees]at hs
 |_::_,[],_,hs,_,_=>by simp[vsees]at hs
 |e7::vs',v::vs,us,hs,k,r=>by
  simp only[vsees,a6,VRels]at hs k r⊢;obtain⟨u,us',rfl,aK,a7⟩:=r;exact⟨u,us',rfl,TH cn hs.1 k.1 aK,M6 cn hs.2 k.2 a7⟩
end
def hok(m:Nat):H→Prop
 |.box cs=>a6 m cs
 |_=>True
theorem M7{ρ:List Nat}{kV x:H}(h:hsee ρ kV x):(kV.my=true→x.my=true)∧(kV.own=true→x.own=true)∧(kV.shut=true→x.shut=true):=by
 unfold hsee at h;split at h
 ·exact⟨fun e=>(by cases e),fun e=>(by cases e),fun e=>(by cases e)⟩
 ·exact⟨fun _=>rfl,fun e=>(by cases e),fun e=>(by cases e)⟩
 ·obtain⟨rfl,rfl,rfl⟩:=h;exact⟨id,id,id⟩
 ·exact⟨fun e=>(by cases e),fun e=>(by cases e),fun e=>(by cases e)⟩
 ·exact⟨fun _=>rfl,fun _=>rfl,fun _=>rfl⟩
 ·exact h.elim
theorem acw{B:Nat→Prop}{w0:World}{σ σ':St}{a:Act}{w:World}{ρ:List Nat}(hs:acv ρ σ σ')(h1:a6 σ'.heap.length σ'.tmps)(h2:∀x∈σ'.heap,hok σ'.heap.length x){kp:List (V×Value)}(pC:∀p∈kp,vsee ρ p.1 p.1∧vok σ'.heap.length p.1)(r:ef B w0 kp σ a w):ef B w0 kp σ' a w:=by
 obtain⟨aJ,φ,r,_⟩:=r;obtain⟨hl,Ie⟩:=TG hs.hp;rw[hl]at h1 h2 pC;have hG:∀i,(aG σ'.heap i).my=true→i<ρ.length:=by
  intro i hi;rcases Nat.lt_or_ge i σ'.heap.length with h|h
  ·omega
  ·rw[xN h]at hi;cases hi
 have Cx:∀i β b,jw (aG σ'.heap i) β b→i<ρ.length∧jw (aG σ.heap (ρ.getD i 0)) β b:=by
  intro i β b ht;have hlt:i<ρ.length:=by
   rcases ht with ⟨h,_⟩|⟨h,_⟩
   ·exact hG i h
   ·exact hG i (H.HX (H.HV h))
  obtain⟨dw,fs,f3⟩:=M7 (Ie i hlt);exact⟨hlt,ht.imp (fun h=>⟨dw h.1,h.2⟩) (fun h=>⟨f3 h.1,h.2⟩)⟩
 have cn:∀b,cb φ σ.heap b→cb (oK φ ρ) σ'.heap b:=by
  intro b ht i β e hi;obtain⟨hlt,jg⟩:=Cx i β b hi;simp only[oK,if_pos hlt]at e;exact ht _ β e jg
 have acx:∀i,i<ρ.length→∀x,aG σ'.heap i=x→hok ρ.length x:=by
  intro i hi x hx;have hlt:i<σ'.heap.length:=by omega
  have:x∈σ'.heap:=by
   rw[←hx];unfold aG;rw[List.getD_eq_getElem?_getD,List.getElem?_eq_getElem hlt];simp
  exact h2 x this
 have acy:∀i j,i<ρ.length→j<ρ.length→ρ.getD i 0=ρ.getD j 0→i=j:=by
  intro i j hi ak e;rw[List.getD_eq_getElem?_getD,List.getD_eq_getElem?_getD,List.getElem?_eq_getElem hi,List.getElem?_eq_getElem ak]at e;have e:ρ[i]=ρ[j]:=by simpa using e
  have hp:=List.pairwise_iff_getElem.1 hs.j';rcases Nat.lt_trichotomy i j with h|h|h
  ·exact absurd e (hp i j hi ak h)
  ·exact h
  ·exact absurd e.symm (hp j i ak hi h)
 have fH:∀i b,cJ (oK φ ρ) σ'.heap i b→i<ρ.length∧cJ φ σ.heap (ρ.getD i 0) b:=by
  rintro i b ⟨β,e,h⟩;have hlt:i<ρ.length:=by
   rcases h with ⟨h,_⟩|⟨h,_⟩
   ·exact hG i h
   ·exact hG i (H.HX h)
  obtain⟨dw,fs,f3⟩:=M7 (Ie i hlt);simp only[oK,if_pos hlt]at e;exact⟨hlt,β,e,h.imp (fun h=>⟨dw h.1,h.2⟩) (fun h=>⟨fs h.1,h.2⟩)⟩
 refine⟨fun i=>i<ρ.length,oK φ ρ,⟨M6 cn hs.gJ h1 r.gJ,fun p hp=>(by
  have aj:=r.kp p hp;rcases List.mem_append.1 hp with hp|hp
  ·obtain⟨q,_,rfl⟩:=List.mem_map.1 hp;exact Ib (ρ:=ρ) cn (.eN q.2 0) _ trivial aj
  ·exact TH cn (pC p hp).1 (pC p hp).2 aj),fun i=>?_,fun i j b hi ak=>?_,fun i β e hx=>?_,fun i b ax=>?_,fun i β e=>?_,r.fm,r.bs,r.mZ,r.kE⟩,fun i hi=>by rw[hl];exact hi⟩
 ·by_cases hlt:i<ρ.length
  ·have nU:=Ie i hlt;have TI:=acx i hlt _ rfl;rcases r.hp (ρ.getD i 0)with hd|⟨β,e,hr⟩
   ·left;rw[hd]at nU;unfold hsee at nU;split at nU
    ·rename_i ag;exact ag
    ·rename_i e2;cases e2
    ·rename_i e2;cases e2
    ·rename_i e2;cases e2
    ·rename_i e2;cases e2
    ·exact nU.elim
   ·by_cases M8:aG σ'.heap i=.cF
    ·exact .inl M8
    ·refine .inr ⟨β,by simp only[oK,if_pos hlt];exact e,?_⟩;generalize aG σ'.heap i=kV at nU TI M8;generalize aG σ.heap (ρ.getD i 0)=x at nU hr;unfold hsee at nU;split at nU
     ·exact absurd rfl M8
     ·simp only[dD]at hr⊢;obtain⟨b,cs,t,aK,a7,b8,cj⟩:=hr;exact⟨b,cs,t,aK,a7,b8,M6 cn nU TI cj⟩
     ·obtain⟨rfl,rfl,rfl⟩:=nU;simp only[dD]at hr⊢;obtain⟨bX,hr⟩:=hr;refine⟨bX,hr.imp id fun⟨b,G,aK,a7,b8,cj,ez,hD⟩=>⟨b,G,aK,a7,b8,cj,ez,fun e g hg=>cn g (hD e g hg)⟩⟩
     ·obtain⟨rfl,rfl⟩:=nU;simp only[dD]at hr⊢;obtain⟨bX,hr⟩:=hr;refine⟨bX,hr.imp id fun⟨b,G,aK,a7,b8,cj,ez⟩=>⟨b,G,aK,cn b a7,b8,cj,fun g hg=>cn g (ez g hg)⟩⟩
     ·obtain⟨rfl,rfl⟩:=nU;simpa only[dD]using hr
     ·exact nU.elim
  ·left;exact xN (by omega)
 ·obtain⟨aj,aD⟩:=fH i b hi;obtain⟨bX,eR⟩:=fH j b ak;exact acy i j aj bX (r.dy _ _ b aD eR)
 ·have hlt:=hG i (H.HX hx);simp only[oK,if_pos hlt]at e;exact r.eK _ β e ((M7 (Ie i hlt)).2.1 hx)
 ·exact r.eL _ b (fH i b ax).2
 ·by_cases hlt:i<ρ.length
  ·exact hlt
  ·simp only[oK,if_neg hlt]at e;cases e
def allOk(m:Nat):List H→Prop
 |[]=>True
 |x::xs=>hok m x∧allOk m xs
theorem TJ{m:Nat}:∀{xs:List H},allOk m xs→∀x∈xs,hok m x
 |[],_,x,hx=>by cases hx
 |y::ys,h,x,hx=>by
  rcases List.mem_cons.1 hx with rfl|hx
  ·exact h.1
  ·exact TJ h.2 x hx
def uL(ρ:List Nat)(m:Nat):List V→Prop
 |[]=>True
 |v::vs=>(vsee ρ v v∧vok m v)∧uL ρ m vs
theorem TK{ρ:List Nat}{m:Nat}:∀{kv:List V},uL ρ m kv→∀v∈kv,vsee ρ v v∧vok m v
 |[],_,x,hx=>by cases hx
 |y::ys,h,x,hx=>by
  rcases List.mem_cons.1 hx with rfl|hx
  ·exact h.1
  ·exact TK h.2 x hx
def kQ(kv:List V)(ρ:List Nat)(σ σ':St):Prop:=
 ρ.Nodup∧vsees ρ σ'.tmps σ.tmps∧hsees ρ σ.heap ρ σ'.heap∧a6 σ'.heap.length σ'.tmps∧allOk σ'.heap.length σ'.heap∧uL ρ σ'.heap.length kv
theorem DM{B:Nat→Prop}{w0:World}{kv:List V}{kp:List (V×Value)}{σ σ':St}{a:Act}{w:World}{ρ:List Nat}(br:kp.map (·.1)=kv)(h:kQ kv ρ σ σ')(r:ef B w0 kp σ a w):ef B w0 kp σ' a w:=by
 obtain⟨h1,h2,aj,aD,bX,eR⟩:=h;exact acw ⟨h1,h2,aj⟩ aD (TJ bX) (fun p hp=>TK eR p.1 (by rw[←br];exact List.mem_map.2 ⟨p,hp,rfl⟩)) r
def b5(kv:List V)(body:St→(St→Prop)→Prop)(σ:St):Prop:=
 ∃(α:Type) (gL:α→St) (ll:α→Nat) (iu:α→Prop) (x:α) (ρ:List Nat),iu x∧kQ kv ρ σ (gL x)∧∀x,iu x→∃ln,pA (gL x) ln∧body ln fun σ'=>∃pB,pA σ' pB∧∃y AL,iu y∧ll y<ll x∧kQ kv AL pB (gL y)
def codeE(P:Program)(kv:List V):Code→St→(St→Prop)→List (Nat×(St→Prop))→(St→Prop)→Prop
 |.skip,σ,K,_,_=>K σ
 |.region _ aA false,σ,K,_,_=>opsE P kv aA.toList aA.toList σ K
 |.region _ aA true,σ,K,_,_=>B6 P kv aA σ K
 |.seq a b,σ,K,X,cc=>codeE P kv a σ (fun σ'=>codeE P kv b σ' K X cc) X cc
 |.cond c a b,σ,K,X,cc=>evg true (σ.ev c) fun v=>asB v fun t=>AK t (codeE P kv a σ K X cc) (codeE P kv b σ K X cc)
 |.block id c,σ,K,X,cc=>codeE P kv c σ K ((id,K)::X) cc
 |.exit id,σ,_,X,_=>outE X id σ
 |.ret,σ,_,_,cc=>cc σ
 |.loop c,σ,_,X,cc=>b5 kv (fun σ fG=>codeE P kv c σ fG X cc) σ
 |_,_,_,_,_=>False
def TL(B:Nat→Prop)(w0:World)(kp:List (V×Value))(Q:Exit→Act→World→Prop)(X:List (Nat×(St→Prop))):Prop:=
 ∀id σ a w,outE X id σ→ef B w0 kp σ a w→Q (.exit id) a w
theorem acz(aA:Array Oper):(List.range aA.size).map (aA[·]?)=aA.toList.map some:=by
 apply List.ext_getElem?;intro i;simp only[List.getElem?_map,Array.getElem?_toList];by_cases h:i<aA.size
 ·simp[h]
 ·simp[h]
theorem ES{B:Nat→Prop}{w0:World}{kp:List (V×Value)}{kv:List V}(br:kp.map (·.1)=kv)(hm:P.follows .mixedOrders=true):∀(c:Code) (σ:St) (K:St→Prop) (X:List (Nat×(St→Prop))) (cc:St→Prop) (Q:Exit→Act→World→Prop) (a:Act) (w:World),
  (∀σ a w,K σ→ef B w0 kp σ a w→Q .normal a w)→TL B w0 kp Q X→(∀σ a w,cc σ→ef B w0 kp σ a w→Q .ret a w)→codeE P kv c σ K X cc→ef B w0 kp σ a w→c.wp P Q a w:=by
 intro c
 induction c with
 |skip=>intro σ K X cc Q a w bF _ _ h r;exact wp_skip (bF σ a w h r)
 |region id aA draw=>
  intro σ K X cc Q a w bF _ _ h r
  cases draw with
  |false=>exact wp_region (SX br bF _ _ σ a w (acz aA) h r)
  |true=>exact aaD br hm bF h r
 |seq x y M9 M_=>
  intro σ K X cc Q a w bF b_ aI h r;refine wp_seq (M9 σ _ X cc _ a w (fun σ' a' w' h' cW=>?_) (fun id σ' a' w' h' cW=>b_ id σ' a' w' h' cW) (fun σ' a' w' h' cW=>aI σ' a' w' h' cW) h r);exact M_ σ' K X cc Q a' w' bF b_ aI h' cW
 |cond c x y M9 M_=>
  intro σ K X cc Q a w bF b_ aI h r;simp only[codeE]at h;obtain⟨v,h,hv⟩:=fw h;obtain⟨t,rfl,h⟩:=H3 h;obtain⟨aJ,φ,r0,bz⟩:=r;have hc:=mv (hv _ _ _ _ rfl (xy r0 c));refine wp_cond hc ?_
  cases t with
  |true=>exact M9 σ K X cc Q a w bF b_ aI (h.1 rfl) ⟨aJ,φ,r0,bz⟩
  |false=>exact M_ σ K X cc Q a w bF b_ aI (h.2 rfl) ⟨aJ,φ,r0,bz⟩
 |block id c dr=>
  intro σ K X cc Q a w bF b_ aI h r;simp only[codeE]at h;refine wp_block (dr σ K ((id,K)::X) cc _ a w (fun σ' a' w' h' cW=>bF σ' a' w' h' cW) (fun oF σ' a' w' h' cW=>?_) (fun σ' a' w' h' cW=>aI σ' a' w' h' cW) h r);simp only[outE]at h';simp only[Exit.inBlock];by_cases hi:oF=id
  ·rw[if_pos hi];rw[if_pos hi]at h';exact bF σ' a' w' h' cW
  ·rw[if_neg hi];rw[if_neg hi]at h';exact b_ oF σ' a' w' h' cW
 |exit id=>intro σ K X cc Q a w _ b_ _ h r;exact wp_exit (b_ id σ a w h r)
 |ret=>intro σ K X cc Q a w _ _ aI h r;exact wp_ret (aI σ a w h r)
 |loop c dr=>
  intro σ K X cc Q a w bF b_ aI h r;simp only[codeE,b5]at h;obtain⟨α,gL,ll,iu,x,ρ,hp,hs,EA⟩:=h;refine wp_loop_ghost (fun n a w=>∃x,iu x∧ll x=n∧ef B w0 kp (gL x) a w) (ll x) ⟨x,hp,rfl,DM br hs r⟩ ?_;rintro n a w ⟨x,hp,rfl,r⟩;obtain⟨ln,M',acA⟩:=EA x hp;refine dr ln _ X cc _ a w (fun σ' a' w' h' cW=>?_) (fun id σ' a' w' h' cW=>b_ id σ' a' w' h' cW) (fun σ' a' w' h' cW=>aI σ' a' w' h' cW) acA (HQ M' r);obtain⟨pB,acB,y,AL,h1,h2,aj⟩:=h';exact⟨ll y,h2,y,h1,rfl,DM br aj (HQ acB cW)⟩
 |_=>intro σ K X cc Q a w _ _ _ h;exact h.elim
def AD.uo:AD→V
 |.one d=>.d d
 |.agg ds=>.agg (ds.map V.d)
def rvE(P:Program)(σ:St)(r:ResultVar)(K:V→Prop):Prop:=
 match r with
 |.tmp t=>K (σ.ev (.tmp t))
 |.cell a T=>evg true (σ.ev (.tmp a)) fun v=>withR (loadE P σ.heap T v) K
def rvsE(P:Program)(σ:St):List ResultVar→(List V→Prop)→Prop
 |[],K=>K []
 |r::rs,K=>rvE P σ r fun v=>rvsE P σ rs fun vs=>K (v::vs)
def outOA(r:Option (List AD×List Nat))(res:List AD):Prop:=match r with|some (as,bW)=>bW.Nodup∧as=res|none=>False
def f_(P:Program)(rs:List ResultVar)(res:List AD)(σ:St):Prop:=rvsE P σ rs fun vs=>outOA (toOAs σ.heap vs) res
section
variable {B:Nat→Prop} {w0:World} {aJ:Nat→Prop} {φ:ca} {kp:List (V×Value)} {a:Act} {w:World} {σ:St}
def Ig(tmps:Array Value)(x:ResultVar):Sem Value:=
 match x with
 |.tmp t=>pure (tmps.getD t undef)
 |.cell b t=>do loadVar t (←asAddr (tmps.getD b undef))
theorem Na(fn:Func)(tmps:Array Value):results fn tmps=(do
  let vs ←fn.results.mapM (Ig tmps)
  pure (if h:vs.size=1 then vs[0]else .tuple vs)):=rfl
theorem acC(r:R B w0 aJ φ σ kp a w){x:ResultVar}{K:V→Prop}(h:rvE P σ x K):∃v u,K v∧VRel φ (cb φ σ.heap) w.heap v u∧
  (Ig a.tmps x).run P w=.ok u w:=by
 unfold rvE at h;split at h
 ·rename_i t;exact⟨_,_,h,xy r (.tmp t),rfl⟩
 ·rename_i b T;obtain⟨ka,h,hx⟩:=fw h;obtain⟨p,v,ah,hp,bF⟩:=zh h;obtain⟨dJ,f,u,hu,hl,hv⟩:=Tz (St.le.refl σ) r ah hp (hx _ _ _ _ rfl (xy r (.tmp b)));refine⟨v,u,bF,hv,?_⟩;simp only[Act.eval]at hu;simp only[Ig,Sem.run_bind,hu,asAddr];simp[hl]
theorem Ih(r:R B w0 aJ φ σ kp a w):∀(xs:List ResultVar) (K:List V→Prop),rvsE P σ xs K→∃vs us,K vs∧VRels φ (cb φ σ.heap) w.heap vs us∧
  (xs.mapM (Ig a.tmps)).run P w=.ok us w
 |[],K,h=>⟨[],[],h,by simp[VRels],by simp⟩
 |x::xs,K,h=>by
  simp only[rvsE]at h;obtain⟨v,u,h,hv,hu⟩:=acC r h;obtain⟨vs,us,h,pD,vp⟩:=Ih r xs _ h;refine⟨v::vs,u::us,h,by simp only[VRels];exact⟨u,us,rfl,hv,pD⟩,?_⟩;rw[List.mapM_cons];simp only[Sem.run_bind,hu,Result.andThen_ok,vp,Sem.run_pure]
theorem Nb{fn:Func}(r:R B w0 aJ φ σ kp a w){res:List AD}(h:f_ P fn.results.toList res σ):∃v F,(results fn a.tmps).run P w=.ok v w∧trep w.heap true res v F∧F.Nodup∧∀b∈F,B b∧b<w.heap.size:=by
 obtain⟨vs,us,h,hv,hu⟩:=Ih r _ _ h;unfold outOA at h;split at h
 ·rename_i as bW ax;obtain⟨hn,rfl⟩:=h;obtain⟨F,dw,fs,f3⟩:=SC r vs as bW us ax hn hv;refine⟨if h:us.length=1 then us[0]else .tuple us.toArray,F,?_,?_,fs,fun b hb=>?_⟩
  ·rw[Na,Array.mapM_eq_mapM_toList];simp only[Sem.run_bind,Sem.run_map,hu];simp only[Result.andThen,List.size_toArray,Sem.run_pure];split<;>simp_all
  ·have hl:us.length=as.length:=by
    clear hu hv ax fs f3 h
    induction as generalizing us F with
    |nil=>simp only[areps]at dw;simp[dw.1]
    |cons d ds dr=>
     simp only[areps]at dw;obtain⟨u,us',F1,F2,rfl,rfl,aK,a7⟩:=dw;simp[dr us' F2 a7]
   unfold trep;split
   ·rename_i x;simp only[areps]at dw;obtain⟨u,us',F1,F2,rfl,rfl,aK,a7,rfl⟩:=dw;subst a7;simpa using aK
   ·rename_i hne;refine⟨us.toArray,?_,dw⟩;rw[dif_neg];intro h1;rw[hl]at h1;obtain⟨x,hx⟩:=List.length_eq_one_iff.1 h1;exact hne x hx
  ·obtain⟨id,_,ax⟩:=f3 b hb;exact⟨r.eL id b ax,cJ.lt r ax⟩
 ·exact h.elim
end
mutual
def dOk:D→Prop
 |.int k n=>k.min≤n∧n≤k.max
 |.bool _=>True
 |.str s=>s.length≤maxLen
 |.yM _=>True
 |.sl _ xs=>xs.length≤maxLen∧eOk xs
def cOk:List D→Prop
 |[]=>True
 |d::ds=>dOk d∧cOk ds
def eOk:List (List D)→Prop
 |[]=>True
 |c::cs=>cOk c∧eOk cs
end
mutual
theorem Nc{h:Array Obj}{o:Bool}:∀(d:D) (u:Value) (F:List Nat),rep h o d u F→dOk d
 |.int k n,u,F,r=>by simp only[rep]at r;simp only[dOk];exact r.2.2
 |.bool b,u,F,r=>by simp only[dOk]
 |.str s,u,F,r=>by simp only[rep]at r;simp only[dOk];exact r.2.2
 |.yM v,u,F,r=>by simp only[dOk]
 |.sl sz xs,u,F,r=>by
  simp only[rep]at r;obtain⟨a,c,h1,h2,aj,aD⟩:=r;simp only[dOk];refine⟨by omega,?_⟩;rcases aD with ⟨rfl,_⟩|⟨b,f,G,ag,e2,aY,bk,cg⟩
  ·simp[eOk]
  ·exact TM xs b f sz G bk
theorem TN{h:Array Obj}{o:Bool}:∀(ds:List D) (b f:Nat) (G:List Nat),repC h o b f ds G→cOk ds
 |[],_,_,_,_=>by simp[cOk]
 |d::ds,b,f,G,r=>by
  simp only[repC]at r;obtain⟨v,bE,bh,_,_,aY,bk⟩:=r;simp only[cOk];exact⟨Nc d v bE aY,TN ds b (f+1) bh bk⟩
theorem TM{h:Array Obj}{o:Bool}:∀(cs:List (List D)) (b f sz:Nat) (G:List Nat),repE h o b f sz cs G→eOk cs
 |[],_,_,_,_,_=>by simp[eOk]
 |c::cs,b,f,sz,G,r=>by
  simp only[repE]at r;obtain⟨bE,bh,_,_,aY,bk⟩:=r;simp only[eOk];exact⟨TN c b f bE aY,TM cs b (f+sz) sz bh bk⟩
end
def acD:AD→Prop
 |.one d=>dOk d
 |.agg ds=>cOk ds
def wh:List AD→Prop
 |[]=>True
 |a::as=>acD a∧wh as
theorem Ii{h:Array Obj}{o:Bool}:∀(as:List AD) (us:List Value) (F:List Nat),areps h o as us F→wh as
 |[],_,_,_=>trivial
 |a::as,us,F,r=>by
  simp only[areps]at r;obtain⟨u,us',F1,F2,rfl,rfl,aK,a7⟩:=r;refine⟨?_,Ii as us' F2 a7⟩
  cases a with
  |one d=>exact Nc d u F1 aK
  |agg ds=>
   obtain⟨vs,_,aK⟩:=aK;have:∀(ds:List D) (us:List Value) (F:List Nat),reps h o ds us F→cOk ds:=by
    intro ds
    induction ds with
    |nil=>intro _ _ _;simp[cOk]
    |cons d ds dr=>
     intro us F r;simp only[reps]at r;obtain⟨u,us',F1,F2,rfl,rfl,aK,a7⟩:=r;simp only[cOk];exact⟨Nc d u F1 aK,dr us' F2 a7⟩
   exact this ds _ _ aK
theorem RA:∀{ds:List D},cOk ds→∀d∈ds,dOk d
 |[],_,d,hd=>by cases hd
 |x::xs,h,d,hd=>by
  simp only[cOk]at h;rcases List.mem_cons.1 hd with rfl|hd
  ·exact h.1
  ·exact RA h.2 d hd
theorem Km:∀{ds:List (List D)},eOk ds→∀d∈ds,cOk d
 |[],_,d,hd=>by cases hd
 |x::xs,h,d,hd=>by
  simp only[eOk]at h;rcases List.mem_cons.1 hd with rfl|hd
  ·exact h.1
  ·exact Km h.2 d hd
theorem Nd{w:World}{args:List AD}{us:List Value}{F:List Nat}(hg:GOk w.heap)(h:areps w.heap false args us F)(m:Nat)(kp:List (V×Value))(pC:∀p∈kp,∀φ T,VRel φ T w.heap p.1 p.2) :
  ef (fun b=>w.heap.size≤b) w kp ⟨args.map AD.uo++List.replicate m .J,[]⟩ ⟨us.toArray++Array.replicate m undef,[]⟩ w:=by
 have AN:∀b,cb (fun _=>none) [] b:=fun b i β e=>by cases e
 refine⟨fun _=>False,fun _=>none,⟨?_,fun p hp=>(List.mem_append.1 hp).elim (abV hg (fun _ _=>AN _) p) (fun hp=>pC p hp _ _),fun i=>.inl (xN (by simp)),fun i j b hi=>?_,fun i β e=>(by cases e),fun i b hi=>?_,fun i β e=>(by cases e),Bel.refl _ _,fun k hk=>hk,rfl,fun p hp hb=>by have:=(hg.1 p hp).1;omega,hg.2⟩,fun i hi=>hi.elim⟩
 ·have acE:∀(ds:List D) (us:List Value) (F:List Nat),reps w.heap false ds us F→VRels (fun _=>none) (cb (fun _=>none) []) w.heap (ds.map V.d) us:=by
   intro ds
   induction ds with
   |nil=>intro us F r;simp only[reps]at r;simp[VRels,r.1]
   |cons d ds dr=>
    intro us F r;simp only[reps]at r;obtain⟨u,us',F1,F2,rfl,rfl,aK,a7⟩:=r;simp only[List.map_cons,VRels,VRel];exact⟨u,us',rfl,⟨F1,aK,fun b _=>AN b⟩,dr us' F2 a7⟩
  have hargs:∀(args:List AD) (us:List Value) (F:List Nat),areps w.heap false args us F→VRels (fun _=>none) (cb (fun _=>none) []) w.heap (args.map AD.uo) us:=by
   intro args
   induction args with
   |nil=>intro us F r;simp only[areps]at r;simp[VRels,r.1]
   |cons d ds dr=>
    intro us F r;simp only[areps]at r;obtain⟨u,us',F1,F2,rfl,rfl,aK,a7⟩:=r;simp only[List.map_cons,VRels];refine⟨u,us',rfl,?_,dr us' F2 a7⟩
    cases d with
    |one d=>simp only[AD.uo,VRel];exact⟨F1,aK,fun b _=>AN b⟩
    |agg ds=>
     obtain⟨vs,rfl,aK⟩:=aK;simp only[AD.uo,VRel];exact⟨vs,rfl,acE ds _ _ aK⟩
  have:=Cs (hargs args us F h) (MD (φ:=fun _=>none) (T:=cb (fun _=>none) []) (h:=w.heap) (v:=.J) (u:=undef) (by simp[VRel]) m);simpa using this
 ·obtain⟨β,e,_⟩:=hi;cases e
 ·obtain⟨β,e,_⟩:=hi;cases e
theorem acF{f:FuncId}{fn:Func}{c:Code}{args res:List AD}(hf:P.funcs[f]?=some fn)(hb:fn.body=some c)(hcall:∀(args:Array Value) (w:World),(callFunc f args).run P w=.ok (.enter f args) w)(hm:P.follows .mixedOrders=true){m:Nat}(hn:fn.ntmps-args.length=m)
  {rs:List ResultVar} (hr:fn.results.toList=rs) (h0:wh args→codeE P [] c ⟨args.map AD.uo++List.replicate m .J,[]⟩ (f_ P rs res) [] (f_ P rs res)):PureCall P f args res:=by
 intro w us F hg ha;have h:=h0 (Ii _ _ _ ha);clear h0;subst hr;have hlen:us.length=args.length:=by
  clear h hn
  induction args generalizing us F with
  |nil=>simp only[areps]at ha;simp[ha.1]
  |cons d ds dr=>
   simp only[areps]at ha;obtain⟨u,us',F1,F2,rfl,rfl,aK,a7⟩:=ha;simp[dr us' F2 a7]
 have bd:∀(σ:St) (a:Act) (w':World),f_ P fn.results.toList res σ→ef (fun b=>w.heap.size≤b) w [] σ a w'→a.defers=[]∧∃v,(results fn a.tmps).run P w'=.ok v w'∧
   ∃F',Bel (fun b=>w.heap.size≤b) w w'∧trep w'.heap true res v F'∧F'.Nodup∧∀b∈F',w.heap.size≤b:=by
  rintro σ a w' xY ⟨aJ,φ,r,_⟩;obtain⟨v,F',h1,h2,aj,aD⟩:=Nb r xY;exact⟨r.mZ,v,h1,F',r.fm,h2,aj,fun b hb=>(aD b hb).1⟩
 refine Does.enter (hcall _ _) (calls_of_wp hf hb ?_);refine ES (B:=fun b=>w.heap.size≤b) (w0:=w) (kp:=[]) (kv:=[]) rfl hm c _ (f_ P fn.results.toList res) [] (f_ P fn.results.toList res) _ _ w (fun σ a w' h' cW=>?_) (fun id σ a w' h' _=>h'.elim) (fun σ a w' h' cW=>?_) h ?_
 ·exact bd σ a w' h' cW
 ·exact bd σ a w' h' cW
 ·have:=Nd hg ha m [] (by simp);have hs:us.toArray.size=args.length:=by rw[List.size_toArray,hlen]
  rw[hs,hn];exact this
theorem abz{f:FuncId}{fn:Func}{c:Code}{args res:List AD}(hf:P.funcs[f]?=some fn)(hb:fn.body=some c)(hcall:∀(args:Array Value) (w:World),(callFunc f args).run P w=.ok (.enter f args) w)(hm:P.follows .mixedOrders=true){ts:List V}
  (hn:args.map AD.uo++List.replicate (fn.ntmps-args.length) .J=ts) {rs:List ResultVar} (hr:fn.results.toList=rs) (h:wh args→codeE P [] c ⟨ts,[]⟩ (f_ P rs res) [] (f_ P rs res)):PureCall P f args res:=
 acF hf hb hcall hm rfl hr (by rw[hn];exact h)
def S7(r:Option (List AD×List Nat))(res:List AD):Prop:=r=some (res,[])
theorem Nf{h:Array Obj}{o:Bool}:∀(args:List AD) (us:List Value) (F:List Nat) (n:Nat),areps h o args us F→us.length=args.length∧(aVs args n).length=args.length
 |[],us,F,n,r=>by simp only[areps]at r;simp[r.1,aVs]
 |d::ds,us,F,n,r=>by
  simp only[areps]at r;obtain⟨u,us',F1,F2,rfl,rfl,aK,a7⟩:=r;obtain⟨h1,h2⟩:=Nf ds us' F2 (n+(Ej d).length) a7;simp[aVs,h1,h2]
def tupV(vs:List V):V:=match vs with|[v]=>v|vs=>.c6 vs
def vm(P:Program)(rs:List ResultVar)(K:V→List H→Prop)(σ:St):Prop:=rvsE P σ rs fun vs=>K (tupV vs) σ.heap
theorem TO{φ:ca}{T:Nat→Prop}{h:Array Obj}{vs:List V}{us:List Value}(r:VRels φ T h vs us):VRel φ T h (tupV vs) (if hl:us.length=1 then us[0]else .tuple us.toArray):=by
 have hl:=jW _ _ r;unfold tupV;split
 ·rename_i v;simp only[VRels]at r;obtain⟨u,us',rfl,aK,a7⟩:=r;subst a7;simpa using aK
 ·rename_i hne;rw[dif_neg (fun e=>by
   rw[hl]at e;obtain⟨x,hx⟩:=List.length_eq_one_iff.1 e;exact hne x hx)]
  simp only[VRel];exact⟨_,rfl,r⟩
theorem abB{f:FuncId}{fn:Func}{c:Code}{kv:List V}{hs:List H}{vs:List V}{K:V→List H→Prop}(hf:P.funcs[f]?=some fn)(hb:fn.body=some c)(hcall:∀(args:Array Value) (w:World),(callFunc f args).run P w=.ok (.enter f args) w)(hm:P.follows .mixedOrders=true){ts:List V}
  (hn:vs++List.replicate (fn.ntmps-vs.length) .J=ts) {rs:List ResultVar} (hr:fn.results.toList=rs) (h:codeE P kv c ⟨ts,hs⟩ (vm P rs K) [] (vm P rs K)):dj P f kv hs vs K:=by
 intro B w0 kp us w br aI;subst hr;subst hn;have hlen:us.length=vs.length:=by
  obtain⟨aJ,φ,r,_⟩:=aI;have:=jW _ _ r.gJ;simpa using this
 have bd:∀(σ:St) (a:Act) (w':World),vm P fn.results.toList K σ→ef B w0 kp σ a w'→a.defers=[]∧∃v,(results fn a.tmps).run P w'=.ok v w'∧
   ∃x hs',K x hs'∧ef B w0 kp ⟨[x],hs'⟩ ⟨#[v],[]⟩ w':=by
  rintro σ a w' xY ⟨aJ,φ,r,bz⟩;obtain⟨xs,fJ,g1,hv,hu⟩:=Ih r _ _ xY;refine⟨r.mZ,if h:fJ.length=1 then fJ[0]else .tuple fJ.toArray,?_,_,_,g1,aJ,φ,⟨?_,r.kp,r.hp,r.dy,r.eK,r.eL,r.fl,r.fm,r.bs,rfl,r.kE⟩,bz⟩
  ·rw[Na,Array.mapM_eq_mapM_toList];simp only[Sem.run_bind,Sem.run_map,hu];simp only[Result.andThen,List.size_toArray,Sem.run_pure];split<;>simp_all
  ·simp only[VRels];exact⟨_,_,rfl,TO hv,rfl⟩
 refine Does.enter (hcall _ _) (calls_of_wp hf hb ?_);refine ES (B:=B) (w0:=w0) (kp:=kp) (kv:=kv) br hm c _ (vm P fn.results.toList K) [] (vm P fn.results.toList K) _ _ w (fun σ a w' h' cW=>?_) (fun id σ a w' h' _=>h'.elim) (fun σ a w' h' cW=>?_) h ?_
 ·exact bd σ a w' h' cW
 ·exact bd σ a w' h' cW
 ·obtain⟨aJ,φ,r,bz⟩:=aI;have hs':us.toArray.size=vs.length:=by rw[List.size_toArray,hlen]
  refine⟨aJ,φ,⟨?_,r.kp,r.hp,r.dy,r.eK,r.eL,r.fl,r.fm,r.bs,rfl,r.kE⟩,bz⟩;have:=Cs r.gJ (MD (φ:=φ) (T:=cb φ hs) (h:=w.heap) (v:=.J) (u:=undef) (by simp[VRel]) (fn.ntmps-vs.length));rw[hs'];simpa using this
theorem dj.mono{f:FuncId}{kv:List V}{hs:List H}{vs:List V}{K fG:V→List H→Prop}(h:dj P f kv hs vs K)(hk:∀x hs',K x hs'→fG x hs'):dj P f kv hs vs fG:=by
 intro B w0 kp us w br aI;exact(h B w0 kp us w br aI).mono fun v w' ⟨x,hs',h1,h2⟩=>⟨x,hs',hk x hs' h1,h2⟩
variable {P:Program}
inductive vl{α:Type}(a:α):Type where
 |mk
theorem cd{a b:Prop}(h:a=b):a=b:=h
def bx{α:Type}(K:α→Prop)(_:vl K):α→Prop:=K
def za(A:Prop)(_:vl A):Prop:=A
def lk{α β:Type}(K:α→β→Prop)(_:vl K):α→β→Prop:=K
@[go_sem] theorem akH{α:Type}(K:α→Prop)(s:vl K)(x:α):bx K s x=K x:=cd rfl
@[go_sem] theorem akI{α β:Type}(K:α→β→Prop)(s:vl K)(x:α)(y:β):lk K s x y=K x y:=cd rfl
section
variable {g:Bool} {K:V→Prop}
@[go_sem] theorem akJ(x:D):evg g (.d x) K=K (.d x):=cd rfl
@[go_sem] theorem akK(s:Nat):evg g (.c7 s) K=K (.c7 s):=cd rfl
@[go_sem] theorem akL(vs:List V):evg g (.agg vs) K=K (.agg vs):=cd rfl
@[go_sem] theorem akM(a b c:Nat):evg g (.ptr a b c) K=K (.ptr a b c):=cd rfl
@[go_sem] theorem akN(a:List D)(b:Nat):evg g (.eN a b) K=K (.eN a b):=cd rfl
@[go_sem] theorem akO(a b c:Nat):evg g (.sl a b c) K=K (.sl a b c):=cd rfl
@[go_sem] theorem akP(a:FuncId)(b:List V):evg g (.fn a b) K=K (.fn a b):=cd rfl
@[go_sem] theorem akQ(a:List V):evg g (.c6 a) K=K (.c6 a):=cd rfl
@[go_sem] theorem akR(c:Bool)(v:V):evg g (.bq c v) K=((g=true→c=true)∧K v):=cd rfl
@[go_sem] theorem akS:evg g .J K=K .J:=cd rfl
end
@[go_sem] theorem akT(b:Bool)(K:Bool→Prop):asB (.d (.bool b)) K=K b:=cd rfl
@[go_sem] theorem akU(k:IntKind)(n:Int)(K:IntKind→Int→Prop):asI (.d (.int k n)) K=K k n:=cd rfl
@[go_sem] theorem akV(p:Prop)(v:V)(K:V→Prop):withR (some (p,v)) K=(p∧K v):=cd rfl
@[go_sem] theorem akW(v:V)(K:V→Prop):withO (some v) K=K v:=cd rfl
@[go_sem] theorem akX(p:Prop)(r:dS)(K:dS→Prop):wy (some (p,r)) K=(p∧K r):=cd rfl
@[go_sem] theorem akY(n:Nat)(K:Nat→Prop):Mm (some n) K=K n:=cd rfl
@[go_sem] theorem akZ(A B:Prop)(s:vl A):AK true (za A s) B=A:=by simp[AK,za]
@[go_sem] theorem ak0(A B:Prop)(s:vl B):AK false A (za B s)=B:=by simp[AK,za]
@[go_sem] theorem ak1(n:Nat):List.replicate (n+1) V.J=V.J::List.replicate n V.J:=rfl
def nth:List V→Nat→V
 |[],_=>.J
 |v::_,0=>v
 |_::vs,n+1=>nth vs n
theorem S0:∀(vs:List V) (n:Nat),vs.getD n .J=nth vs n
 |[],n=>by simp[nth]
 |v::vs,0=>by simp[nth]
 |v::vs,n+1=>by simpa [nth]using S0 vs n
@[go_sem] theorem ak2(v:V)(vs:List V):nth (v::vs) 0=v:=rfl
@[go_sem] theorem ak3(v:V)(vs:List V)(n:Nat):nth (v::vs) (n+1)=nth vs n:=rfl
@[go_sem] theorem ak4(ts:List V)(hs:List H)(t:Nat):St.ev ⟨ts,hs⟩ (.tmp t)=nth ts t:=S0 ts t
@[go_sem] theorem ak5(σ:St)(v:Value):σ.ev (.const v)=ofVal v:=rfl
@[go_sem] theorem ak6(σ:St)(f:FuncId):σ.ev (.func f)=.fn f []:=rfl
@[go_sem] theorem ak7(n:Int):ofVal (.int .i64 n)=if -9223372036854775808≤n∧n≤9223372036854775807 then .d (.int .i64 n)else .J:=by
 have h1:IntKind.i64.min=-9223372036854775808:=by decide
 have h2:IntKind.i64.max=9223372036854775807:=by decide
 simp only[ofVal,HU,h1,h2,Bool.and_eq_true,decide_eq_true_eq]
@[go_sem] theorem ak8(n:Int):ofVal (.int .u8 n)=if 0≤n∧n≤255 then .d (.int .u8 n)else .J:=by
 have h1:IntKind.u8.min=0:=by decide
 have h2:IntKind.u8.max=255:=by decide
 simp only[ofVal,HU,h1,h2,Bool.and_eq_true,decide_eq_true_eq]
theorem S1{n:Nat}(h:n≤1000000):n≤maxLen:=by simp only[maxLen];omega
@[go_sem] theorem ak9(l:List UInt8)(h:l.length≤1000000):ofVal (.string ⟨l.toArray⟩)=.d (.str l):=by
 have:=S1 h;simp[ofVal,this]
@[go_sem] theorem ala(b:Bool):ofVal (.bool b)=.d (.bool b):=rfl
@[go_sem] theorem alb:ofVal (.slice none 0 0)=.c7 0:=rfl
@[go_sem] theorem yO(x:H)(hs:List H):aG (x::hs) 0=x:=rfl
@[go_sem] theorem yP(x:H)(hs:List H)(n:Nat):aG (x::hs) (n+1)=aG hs n:=by simp[aG]
@[go_sem] theorem alc(n:Nat):aG [] n=.cF:=by simp[aG]
@[go_sem] theorem ald(x:H):bI [] 0 x=[x]:=rfl
@[go_sem] theorem ale(n:Nat)(x:H):bI [] (n+1) x=.cF::bI [] n x:=by
 unfold bI;simp[List.replicate_succ]
@[go_sem] theorem alf(y:H)(ys:List H)(x:H):bI (y::ys) 0 x=x::ys:=by
 unfold bI;simp
@[go_sem] theorem alg(y:H)(ys:List H)(n:Nat)(x:H):bI (y::ys) (n+1) x=y::bI ys n x:=by
 unfold bI;by_cases h:n<ys.length
 ·simp[h]
 ·simp[h]
@[go_sem] theorem alh(hs:List H)(n:Nat):hnew hs n []=hs:=rfl
@[go_sem] theorem ali(hs:List H)(n:Nat)(x:H)(xs:List H):hnew hs n (x::xs)=hnew (bI hs n x) (n+1) xs:=rfl
@[go_sem] theorem alj(hs:List H):hupd hs []=hs:=rfl
@[go_sem] theorem alk(hs:List H)(i:Nat)(x:H)(r:List (Nat×H)):hupd hs ((i,x)::r)=hupd (bI hs i x) r:=rfl
@[go_sem] theorem alm(ts:List V)(hs:List H)(d:Tmp)(n:Nat)(v:V):St.cR ⟨ts,hs⟩ (some d) n (ck v)=⟨ts.set d v,hs⟩:=rfl
@[go_sem] theorem aln(ts:List V)(hs:List H)(n:Nat)(v:V):St.cR ⟨ts,hs⟩ none n (ck v)=⟨ts,hs⟩:=rfl
@[go_sem] theorem alo(ts:List V)(hs:List H)(d:Tmp)(n:Nat)(v:V)(new:List H)(upd:List (Nat×H)):St.cR ⟨ts,hs⟩ (some d) n ⟨v,new,upd⟩=⟨ts.set d v,hupd (hnew hs n new) upd⟩:=rfl
@[go_sem] theorem alp(ts:List V)(hs:List H)(n:Nat)(v:V)(new:List H)(upd:List (Nat×H)):St.cR ⟨ts,hs⟩ none n ⟨v,new,upd⟩=⟨ts,hupd (hnew hs n new) upd⟩:=rfl
@[go_sem] theorem alq(v w:V)(vs:List V):(v::vs).set 0 w=w::vs:=rfl
@[go_sem] theorem alr(v w:V)(vs:List V)(n:Nat):(v::vs).set (n+1) w=v::vs.set n w:=rfl
section
variable {kv:List V} {σ:St} {K:St→Prop} {X:List (Nat×(St→Prop))} {cc:St→Prop}
@[go_sem] theorem als:codeE P kv .skip σ K X cc=K σ:=cd rfl
@[go_sem] theorem alu(id:Nat)(aA:List Oper):codeE P kv (.region id aA.toArray false) σ K X cc=opsE P kv aA aA σ K:=by simp[codeE]
@[go_sem] theorem alv(id:Nat)(aA:Array Oper):codeE P kv (.region id aA true) σ K X cc=B6 P kv aA σ K:=cd rfl
@[go_sem] theorem abx(a b:Code):codeE P kv (.seq a b) σ K X cc=codeE P kv a σ (bx (fun σ'=>codeE P kv b σ' K X cc) .mk) X cc:=cd rfl
@[go_sem] theorem alw(c:Operand)(a b:Code):codeE P kv (.cond c a b) σ K X cc=evg true (σ.ev c) (bx (fun v=>asB v (bx (fun t=>AK t (za (codeE P kv a σ K X cc) .mk) (za (codeE P kv b σ K X cc) .mk)) .mk)) .mk):=cd rfl
@[go_sem] theorem alx(id:Nat)(c:Code):codeE P kv (.block id c) σ K X cc=codeE P kv c σ K ((id,K)::X) cc:=cd rfl
@[go_sem] theorem aly(id:Nat):codeE P kv (.exit id) σ K X cc=outE X id σ:=cd rfl
@[go_sem] theorem alz:codeE P kv .ret σ K X cc=cc σ:=cd rfl
@[go_sem] theorem alA(c:Code):codeE P kv (.loop c) σ K X cc=b5 kv (lk (fun σ fG=>codeE P kv c σ fG X cc) .mk) σ:=cd rfl
@[go_sem] theorem alB(id:Nat):outE [] id σ=False:=cd rfl
@[go_sem] theorem alC(i:Nat)(id:Nat):outE ((i,K)::X) id σ=if id=i then K σ else outE X id σ:=cd rfl
end
section
variable {σ:St} {aA:List Oper} {n:Nat} {K:dS→Prop}
@[go_sem] theorem alD(kv:List V)(K:St→Prop):opsE P kv aA [] σ K=K σ:=cd rfl
@[go_sem] theorem alE(kv:List V)(o:Oper)(rest:List Oper)(K:St→Prop):opsE P kv aA (o::rest) σ K=uY P kv aA σ o (bx (fun σ'=>opsE P kv aA rest σ' K) .mk):=cd rfl
@[go_sem] theorem alF(dst:Option Tmp)(op:Op)(T:TypeId)(c0:String)(after:Array Edge)(K:dS→Prop):stepE P aA σ n ⟨dst,op,T,c0,after,none⟩ K=opE P true σ n ⟨dst,op,T,c0,after,none⟩ K:=cd rfl
end
@[go_sem] theorem alG(b ir:Bool)(K:Bool→Prop):y8 (.d (.bool b)) ir K=K (b == ir):=cd rfl
@[go_sem] theorem alH(c b ir:Bool)(K:Bool→Prop):y8 (.bq c (.d (.bool b))) ir K=K (c&&(b == ir)):=cd rfl
@[go_sem] theorem alI(d:Tmp)(op:Op)(T:TypeId)(c0:String)(after:Array Edge)(g:Option (Nat×Bool))(aA:List Oper)(K:Tmp→Prop):wB (⟨some d,op,T,c0,after,g⟩::aA) 0 K=K d:=cd rfl
@[go_sem] theorem alJ(o:Oper)(aA:List Oper)(j:Nat)(K:Tmp→Prop):wB (o::aA) (j+1) K=wB aA j K:=by simp[wB]
@[go_sem] theorem alK{σ:St}{aA:List Oper}{n:Nat}(dst:Option Tmp)(op:Op)(T:TypeId)(c0:String)(after:Array Edge)(j:Nat)(ir:Bool)(K:dS→Prop) :
  stepE P aA σ n ⟨dst,op,T,c0,after,some (j,ir)⟩ K=wB aA j (bx (fun d=>y8 (σ.ev (.tmp d)) ir (bx (fun g=>uj P g σ n ⟨dst,op,T,c0,after,some (j,ir)⟩ K) .mk)) .mk):=by
 unfold stepE wB bx;simp only
 cases h:(aA[j]?).bind (·.dst)with
 |none=>rfl
 |some d=>
  simp only;generalize σ.ev (.tmp d)=v;unfold y8
  cases v with
  |d x=>cases x<;>rfl
  |bq c v=>cases v with
   |d x=>cases x<;>rfl
   |_=>rfl
  |_=>rfl
section
variable {kv:List V} {σ:St} {aA:List Oper} {dst:Option Tmp} {T:TypeId} {c0:String} {after:Array Edge} {K:St→Prop}
@[go_sem] theorem alL(op:Op)(j:Nat)(ir:Bool):uY P kv aA σ ⟨dst,op,T,c0,after,some (j,ir)⟩ K=wB aA j (bx (fun d=>y8 (σ.ev (.tmp d)) ir (bx (fun g=>xQ P kv g σ ⟨dst,op,T,c0,after,some (j,ir)⟩ K) .mk)) .mk):=cd rfl
@[go_sem] theorem alM(op:Op):uY P kv aA σ ⟨dst,op,T,c0,after,none⟩ K=bareE P kv σ ⟨dst,op,T,c0,after,none⟩ K:=cd rfl
@[go_sem] theorem alN(x:Operand)(bq:Option (Nat×Bool)):bareE P kv σ ⟨dst,.move x,T,c0,after,bq⟩ K=opE P true σ σ.heap.length ⟨dst,.move x,T,c0,after,bq⟩ (bx (fun r=>K (σ.cR dst σ.heap.length r)) .mk):=cd rfl
@[go_sem] theorem alO(x:Operand)(bq:Option (Nat×Bool)):bareE P kv σ ⟨dst,.assign x,T,c0,after,bq⟩ K=opE P true σ σ.heap.length ⟨dst,.assign x,T,c0,after,bq⟩ (bx (fun r=>K (σ.cR dst σ.heap.length r)) .mk):=cd rfl
@[go_sem] theorem alP(c x y:Operand)(bq:Option (Nat×Bool)):bareE P kv σ ⟨dst,.pick c x y,T,c0,after,bq⟩ K=opE P true σ σ.heap.length ⟨dst,.pick c x y,T,c0,after,bq⟩ (bx (fun r=>K (σ.cR dst σ.heap.length r)) .mk):=cd rfl
@[go_sem] theorem alQ(op:BinOp)(U S2:TypeId)(x y:Operand)(bq:Option (Nat×Bool)):bareE P kv σ ⟨dst,.binOp op U x y S2,T,c0,after,bq⟩ K=opE P true σ σ.heap.length ⟨dst,.binOp op U x y S2,T,c0,after,bq⟩ (bx (fun r=>K (σ.cR dst σ.heap.length r)) .mk):=cd rfl
@[go_sem] theorem alR(op:UnOp)(U:TypeId)(x:Operand)(bq:Option (Nat×Bool)):bareE P kv σ ⟨dst,.unOp op U x,T,c0,after,bq⟩ K=opE P true σ σ.heap.length ⟨dst,.unOp op U x,T,c0,after,bq⟩ (bx (fun r=>K (σ.cR dst σ.heap.length r)) .mk):=cd rfl
@[go_sem] theorem alS(x:Operand)(i:Nat)(bq:Option (Nat×Bool)):bareE P kv σ ⟨dst,.extract x i,T,c0,after,bq⟩ K=opE P true σ σ.heap.length ⟨dst,.extract x i,T,c0,after,bq⟩ (bx (fun r=>K (σ.cR dst σ.heap.length r)) .mk):=cd rfl
@[go_sem] theorem alT(x:Operand)(bq:Option (Nat×Bool)):bareE P kv σ ⟨dst,.nilCheck x,T,c0,after,bq⟩ K=opE P true σ σ.heap.length ⟨dst,.nilCheck x,T,c0,after,bq⟩ (bx (fun r=>K (σ.cR dst σ.heap.length r)) .mk):=cd rfl
@[go_sem] theorem alU(S:TypeId)(x:Operand)(f:Nat)(bq:Option (Nat×Bool)):bareE P kv σ ⟨dst,.fieldAddr S x f,T,c0,after,bq⟩ K=opE P true σ σ.heap.length ⟨dst,.fieldAddr S x f,T,c0,after,bq⟩ (bx (fun r=>K (σ.cR dst σ.heap.length r)) .mk):=cd rfl
@[go_sem] theorem alV(U:TypeId)(x jv:Operand)(bq:Option (Nat×Bool)):bareE P kv σ ⟨dst,.indexAddr U x jv,T,c0,after,bq⟩ K=opE P true σ σ.heap.length ⟨dst,.indexAddr U x jv,T,c0,after,bq⟩ (bx (fun r=>K (σ.cR dst σ.heap.length r)) .mk):=cd rfl
@[go_sem] theorem alW(U:TypeId)(x:Operand)(bq:Option (Nat×Bool)):bareE P kv σ ⟨dst,.load U x,T,c0,after,bq⟩ K=opE P true σ σ.heap.length ⟨dst,.load U x,T,c0,after,bq⟩ (bx (fun r=>K (σ.cR dst σ.heap.length r)) .mk):=cd rfl
@[go_sem] theorem alX(U:TypeId)(x jv:Operand)(bq:Option (Nat×Bool)):bareE P kv σ ⟨dst,.index U x jv,T,c0,after,bq⟩ K=opE P true σ σ.heap.length ⟨dst,.index U x jv,T,c0,after,bq⟩ (bx (fun r=>K (σ.cR dst σ.heap.length r)) .mk):=cd rfl
@[go_sem] theorem alY(U:TypeId)(x:Operand)(b0 hi wm:Option Operand)(bq:Option (Nat×Bool)):bareE P kv σ ⟨dst,.slice U x b0 hi wm,T,c0,after,bq⟩ K=opE P true σ σ.heap.length ⟨dst,.slice U x b0 hi wm,T,c0,after,bq⟩ (bx (fun r=>K (σ.cR dst σ.heap.length r)) .mk):=cd rfl
@[go_sem] theorem alZ(S U:TypeId)(x:Operand)(bq:Option (Nat×Bool)):bareE P kv σ ⟨dst,.convert S U x,T,c0,after,bq⟩ K=opE P true σ σ.heap.length ⟨dst,.convert S U x,T,c0,after,bq⟩ (bx (fun r=>K (σ.cR dst σ.heap.length r)) .mk):=cd rfl
@[go_sem] theorem al0(U:TypeId)(parts:Array (Nat×Operand))(bq:Option (Nat×Bool)):bareE P kv σ ⟨dst,.build U parts,T,c0,after,bq⟩ K=opE P true σ σ.heap.length ⟨dst,.build U parts,T,c0,after,bq⟩ (bx (fun r=>K (σ.cR dst σ.heap.length r)) .mk):=cd rfl
@[go_sem] theorem al1(U:TypeId)(bq:Option (Nat×Bool)):bareE P kv σ ⟨dst,.alloc U,T,c0,after,bq⟩ K=opE P true σ σ.heap.length ⟨dst,.alloc U,T,c0,after,bq⟩ (bx (fun r=>K (σ.cR dst σ.heap.length r)) .mk):=cd rfl
@[go_sem] theorem al2(U:TypeId)(x:Operand)(bq:Option (Nat×Bool)):bareE P kv σ ⟨dst,.box U x,T,c0,after,bq⟩ K=opE P true σ σ.heap.length ⟨dst,.box U x,T,c0,after,bq⟩ (bx (fun r=>K (σ.cR dst σ.heap.length r)) .mk):=cd rfl
@[go_sem] theorem al3(U:TypeId)(p x:Operand)(bq:Option (Nat×Bool)):bareE P kv σ ⟨dst,.store U p x,T,c0,after,bq⟩ K=opE P true σ σ.heap.length ⟨dst,.store U p x,T,c0,after,bq⟩ (bx (fun r=>K (σ.cR dst σ.heap.length r)) .mk):=cd rfl
@[go_sem] theorem al4(U:TypeId)(len:Nat)(parts:Array (Nat×Operand))(bq:Option (Nat×Bool)):bareE P kv σ ⟨dst,.buildSlice U len parts,T,c0,after,bq⟩ K=opE P true σ σ.heap.length ⟨dst,.buildSlice U len parts,T,c0,after,bq⟩ (bx (fun r=>K (σ.cR dst σ.heap.length r)) .mk):=cd rfl
@[go_sem] theorem al5(U:TypeId)(x y:Operand)(bq:Option (Nat×Bool)):bareE P kv σ ⟨dst,.makeSlice U x y,T,c0,after,bq⟩ K=opE P true σ σ.heap.length ⟨dst,.makeSlice U x y,T,c0,after,bq⟩ (bx (fun r=>K (σ.cR dst σ.heap.length r)) .mk):=cd rfl
@[go_sem] theorem al6(f:Fn)(ys dU:Array Operand)(bq:Option (Nat×Bool)):bareE P kv σ ⟨dst,.makeFunc f ys dU,T,c0,after,bq⟩ K=opE P true σ σ.heap.length ⟨dst,.makeFunc f ys dU,T,c0,after,bq⟩ (bx (fun r=>K (σ.cR dst σ.heap.length r)) .mk):=cd rfl
@[go_sem] theorem al7(b:Builtin)(xs:Array Operand)(ts:Array TypeId)(bq:Option (Nat×Bool)):bareE P kv σ ⟨dst,.call ⟨.builtin b,xs,ts⟩,T,c0,after,bq⟩ K=opE P true σ σ.heap.length ⟨dst,.call ⟨.builtin b,xs,ts⟩,T,c0,after,bq⟩ (bx (fun r=>K (σ.cR dst σ.heap.length r)) .mk):=cd rfl
@[go_sem] theorem al8(x:Operand)(xs:List Operand)(ts:Array TypeId)(bq:Option (Nat×Bool)):bareE P kv σ ⟨dst,.call ⟨.value x,xs.toArray,ts⟩,T,c0,after,bq⟩ K=evg true (σ.ev x) (bx (fun xM=>fnE xM (lk (fun f dU=>evs true σ xs (bx (fun vs=>ae P kv σ dst f dU (toADs σ.heap vs) vs K) .mk)) .mk)) .mk):=cd rfl
@[go_sem] theorem al9(f:FuncId)(dU:List V)(K:FuncId→List V→Prop):fnE (.fn f dU) K=K f dU:=cd rfl
attribute [go_sem] ep
theorem ae.intro{f:FuncId}{as rs:List AD}{vs:List V}(h:PureCall P f as rs)(hk:K (σ.cR dst σ.heap.length ⟨mC rs σ.heap.length,aHs rs,[]⟩)):ae P kv σ dst f [] (some as) vs K:=.inl ⟨rfl,.inl (.inl ⟨as,rs,rfl,h,hk⟩)⟩
theorem ae.af{f:FuncId}{as rs:List AD}{vs:List V}(h:PureCall P f as rs)(hk:K (σ.cR dst σ.heap.length ⟨mC rs σ.heap.length,(aHs rs).map H.toCln,[]⟩)):ae P kv σ dst f [] (some as) vs K:=.inl ⟨rfl,.inl (.inr ⟨as,rs,rfl,h,hk⟩)⟩
theorem ae.inl{f:FuncId}{dU vs:List V}{xP:Option (List AD)}(h:dj P f (σ.tmps++kv) σ.heap (vs++dU) (lk (fun x hs=>K ⟨ep σ.tmps dst x,hs⟩) .mk)):ae P kv σ dst f dU xP vs K:=.inr ⟨σ.tmps,SO _,h⟩
theorem ae.iR(cY:List Nat){f:FuncId}{dU vs ts:List V}{xP:Option (List AD)}(ht:keepT cY 0 σ.tmps=ts)(h:dj P f (ts++kv) σ.heap (vs++dU) (lk (fun x hs=>K ⟨ep ts dst x,hs⟩) .mk)):ae P kv σ dst f dU xP vs K:=.inr ⟨ts,by rw[←ht];exact SR cY 0 _,h⟩
theorem bb{g:Bool}{o:Oper}(h:opE P g σ σ.heap.length o (bx (fun r=>r.new=[]∧r.upd=[]∧K (σ.cR o.dst σ.heap.length (ck (.bq g r.v)))) .mk)):xQ P kv g σ o K:=.inl (SI h)
theorem b9{o:Oper}(h:bareE P kv σ o K):xQ P kv true σ o K:=.inr ⟨fun _=>h,fun e=>(by cases e)⟩
theorem de{o:Oper}(h:K (σ.cR o.dst σ.heap.length (ck (.bq false (.d (.bool false)))))):xQ P kv false σ o K:=.inr ⟨fun e=>(by cases e),fun _=>h⟩
end
section
variable {g:Bool} {σ:St} {n:Nat} {dst:Option Tmp} {T:TypeId} {c0:String} {after:Array Edge} {bq:Option (Nat×Bool)} {K:dS→Prop}
@[go_sem] theorem ama(x:Operand):opE P g σ n ⟨dst,.move x,T,c0,after,bq⟩ K=evg g (σ.ev x) (bx (fun v=>K (ck (kb P T v))) .mk):=cd rfl
@[go_sem] theorem amb(x:Operand):opE P g σ n ⟨dst,.assign x,T,c0,after,bq⟩ K=evg g (σ.ev x) (bx (fun v=>K (ck (kb P T v))) .mk):=cd rfl
@[go_sem] theorem amc(c x y:Operand):opE P g σ n ⟨dst,.pick c x y,T,c0,after,bq⟩ K=AB g (σ.ev c) (σ.ev x) (σ.ev y) (bx (fun v=>K (ck v)) .mk):=cd rfl
@[go_sem] theorem amd(op:BinOp)(U zb:TypeId)(x y:Operand):opE P g σ n ⟨dst,.binOp op U x y zb,T,c0,after,bq⟩ K=evg g (σ.ev x) (bx (fun a=>evg g (σ.ev y) (bx (fun b=>withR (binE P op U a b) (bx (fun v=>K (ck v)) .mk)) .mk)) .mk):=cd rfl
@[go_sem] theorem ame(op:UnOp)(U:TypeId)(x:Operand):opE P g σ n ⟨dst,.unOp op U x,T,c0,after,bq⟩ K=evg g (σ.ev x) (bx (fun a=>withO (unE op a) (bx (fun v=>K (ck v)) .mk)) .mk):=cd rfl
@[go_sem] theorem amf(x:Operand)(i:Nat):opE P g σ n ⟨dst,.extract x i,T,c0,after,bq⟩ K=evg g (σ.ev x) (bx (fun a=>withO (extE a i) (bx (fun v=>K (ck v)) .mk)) .mk):=cd rfl
@[go_sem] theorem amg(x:Operand):opE P g σ n ⟨dst,.nilCheck x,T,c0,after,bq⟩ K=evg g (σ.ev x) (bx (fun a=>ptrE a=true∧K (ck a)) .mk):=cd rfl
@[go_sem] theorem amh(S:TypeId)(x:Operand)(f:Nat):opE P g σ n ⟨dst,.fieldAddr S x f,T,c0,after,bq⟩ K=evg g (σ.ev x) (bx (fun a=>withO (faE P S f a) (bx (fun v=>K (ck v)) .mk)) .mk):=cd rfl
@[go_sem] theorem ami(U:TypeId)(x jv:Operand):opE P g σ n ⟨dst,.indexAddr U x jv,T,c0,after,bq⟩ K=evg g (σ.ev x) (bx (fun a=>evg g (σ.ev jv) (bx (fun b=>asI b (lk (fun _ i=>withR (iaE P σ.heap U a i) (bx (fun v=>K (ck v)) .mk)) .mk)) .mk)) .mk):=cd rfl
@[go_sem] theorem amj(U:TypeId)(x:Operand):opE P g σ n ⟨dst,.load U x,T,c0,after,bq⟩ K=evg g (σ.ev x) (bx (fun a=>withR (loadE P σ.heap U a) (bx (fun v=>K (ck v)) .mk)) .mk):=cd rfl
@[go_sem] theorem amk(U:TypeId)(x jv:Operand):opE P g σ n ⟨dst,.index U x jv,T,c0,after,bq⟩ K=evg g (σ.ev x) (bx (fun a=>evg g (σ.ev jv) (bx (fun b=>asI b (lk (fun _ i=>withR (ixE P U a i) (bx (fun v=>K (ck v)) .mk)) .mk)) .mk)) .mk):=cd rfl
@[go_sem] theorem aml(U:TypeId)(x:Operand)(b0 hi:Option Operand):opE P g σ n ⟨dst,.slice U x b0 hi none,T,c0,after,bq⟩ K=evg g (σ.ev x) (bx (fun a=>bndE g σ 0 b0 (bx (fun l=>bndE g σ (lenOfV a) hi (bx (fun h=>withR (cutE P σ.heap U a l h) (bx (fun v=>K (ck v)) .mk)) .mk)) .mk)) .mk):=cd rfl
@[go_sem] theorem amm(S U:TypeId)(x:Operand):opE P g σ n ⟨dst,.convert S U x,T,c0,after,bq⟩ K=evg g (σ.ev x) (bx (fun a=>withR (cvE P σ.heap S U a) (bx (fun v=>K (ck v)) .mk)) .mk):=cd rfl
@[go_sem] theorem amn(U:TypeId)(parts:List (Nat×Operand)):opE P g σ n ⟨dst,.build U parts.toArray,T,c0,after,bq⟩ K=evParts g σ parts (bx (fun ps=>withO (bldE P U ps) (bx (fun v=>K (ck v)) .mk)) .mk):=by simp[opE,bx]
@[go_sem] theorem amo(U:TypeId):opE P g σ n ⟨dst,.alloc U,T,c0,after,bq⟩ K=withO ((zrI P U).map V.agg) (bx (fun v=>K ⟨.ptr n 0 0,[.box v.cells],[]⟩) .mk):=cd rfl
@[go_sem] theorem amp(U:TypeId)(x:Operand):opE P g σ n ⟨dst,.box U x,T,c0,after,bq⟩ K=evg g (σ.ev x) (bx (fun v=>v.wz=true∧K ⟨.ptr n 0 0,[.box v.cells],[]⟩) .mk):=cd rfl
@[go_sem] theorem amq(U:TypeId)(p x:Operand):opE P g σ n ⟨dst,.store U p x,T,c0,after,bq⟩ K=evg g (σ.ev p) (bx (fun q=>evg g (σ.ev x) (bx (fun v=>wy ((storeE P σ.heap U q (kb P U v)).map fun(c,upd)=>(c,⟨.J,[],upd⟩)) K) .mk)) .mk):=cd rfl
@[go_sem] theorem amr(U:TypeId)(len:Nat)(parts:List (Nat×Operand)):opE P g σ n ⟨dst,.buildSlice U len parts.toArray,T,c0,after,bq⟩ K=evParts g σ parts (bx (fun ps=>wy (bsE P σ.heap U len ps n) K) .mk):=by simp[opE,bx]
@[go_sem] theorem ams(U:TypeId)(x y:Operand):opE P g σ n ⟨dst,.makeSlice U x y,T,c0,after,bq⟩ K=(x=y∧evg g (σ.ev x) (bx (fun v=>asI v (lk (fun _ i=>wy (mkE P U i n) K) .mk)) .mk)):=cd rfl
@[go_sem] theorem amt(f:FuncId)(dU:List Operand):opE P g σ n ⟨dst,.makeFunc (.func f) #[] dU.toArray,T,c0,after,bq⟩ K=evs g σ dU (bx (fun vs=>K (ck (.fn f vs))) .mk):=by simp[opE,bx]
@[go_sem] theorem amu(c:Callee)(xs:List Operand)(ts:List TypeId):opE P g σ n ⟨dst,.call ⟨c,xs.toArray,ts.toArray⟩,T,c0,after,bq⟩ K=callE P g σ n c xs ts K:=by simp only[opE]
@[go_sem] theorem amv(x:Operand)(U:TypeId):callE P g σ n (.builtin .len) [x] [U] K=evg g (σ.ev x) (bx (fun a=>Mm (lenE P U a) (bx (fun m=>K (ck (oH .i64 m))) .mk)) .mk):=cd rfl
@[go_sem] theorem amw(x y:Operand)(U zb:TypeId):callE P g σ n (.builtin .append) [x,y] [U,zb] K=(U=zb∧evg g (σ.ev x) (bx (fun a=>evg g (σ.ev y) (bx (fun b=>wy (Ci P σ.heap U a b n) K) .mk)) .mk)):=cd rfl
@[go_sem] theorem amx(x y:Operand)(U zb:TypeId):callE P g σ n (.builtin .min) [x,y] [U,zb] K=evg g (σ.ev x) (bx (fun a=>evg g (σ.ev y) (bx (fun b=>asI a (lk (fun k i=>asI b (lk (fun ji j=>k=ji∧K (ck (oH k (if j<i then j else i)))) .mk)) .mk)) .mk)) .mk):=cd rfl
@[go_sem] theorem amy(x y:Operand)(U zb:TypeId):callE P g σ n (.builtin .max) [x,y] [U,zb] K=evg g (σ.ev x) (bx (fun a=>evg g (σ.ev y) (bx (fun b=>asI a (lk (fun k i=>asI b (lk (fun ji j=>k=ji∧K (ck (oH k (if j>i then j else i)))) .mk)) .mk)) .mk)) .mk):=cd rfl
@[go_sem] theorem amA(f:FuncId)(xs:List Operand)(ts:List TypeId):callE P g σ n (.value (.func f)) xs ts K=evs g σ xs (bx (fun vs=>ao P f (toADs σ.heap vs) σ.heap vs n K) .mk):=by unfold callE;rfl
end
section
variable {g:Bool} {σ:St}
@[go_sem] theorem amB(K:List V→Prop):evs g σ [] K=K []:=cd rfl
@[go_sem] theorem amC(x:Operand)(xs:List Operand)(K:List V→Prop):evs g σ (x::xs) K=evg g (σ.ev x) (bx (fun v=>evs g σ xs (bx (fun vs=>K (v::vs)) .mk)) .mk):=cd rfl
@[go_sem] theorem amD(K:List (Nat×V)→Prop):evParts g σ [] K=K []:=cd rfl
@[go_sem] theorem amE(i:Nat)(x:Operand)(xs:List (Nat×Operand))(K:List (Nat×V)→Prop):evParts g σ ((i,x)::xs) K=evg g (σ.ev x) (bx (fun v=>evParts g σ xs (bx (fun vs=>K ((i,v)::vs)) .mk)) .mk):=cd rfl
@[go_sem] theorem amF(d:Nat)(K:Nat→Prop):bndE g σ d none K=K d:=cd rfl
@[go_sem] theorem amG(d:Nat)(x:Operand)(K:Nat→Prop):bndE g σ d (some x) K=evg g (σ.ev x) (bx (fun v=>asI v (lk (fun _ i=>0≤i∧K i.toNat) .mk)) .mk):=cd rfl
@[go_sem] theorem amH(K:List V→Prop):rvsE P σ [] K=K []:=cd rfl
@[go_sem] theorem amI(r:ResultVar)(rs:List ResultVar)(K:List V→Prop):rvsE P σ (r::rs) K=rvE P σ r (bx (fun v=>rvsE P σ rs (bx (fun vs=>K (v::vs)) .mk)) .mk):=cd rfl
@[go_sem] theorem amJ(t:Tmp)(K:V→Prop):rvE P σ (.tmp t) K=K (σ.ev (.tmp t)):=cd rfl
@[go_sem] theorem amK(t:Tmp)(T:TypeId)(K:V→Prop):rvE P σ (.cell t T) K=evg true (σ.ev (.tmp t)) (bx (fun v=>withR (loadE P σ.heap T v) K) .mk):=cd rfl
@[go_sem] theorem amL(rs:List ResultVar)(res:List AD):f_ P rs res σ=rvsE P σ rs (bx (fun vs=>outOA (toOAs σ.heap vs) res) .mk):=cd rfl
@[go_sem] theorem amM(as:List AD)(bW:List Nat)(res:List AD):outOA (some (as,bW)) res=(bW.Nodup∧as=res):=cd rfl
end
@[go_sem] theorem amN(T:TypeId)(x:D):kb P T (.d x)=.d x:=rfl
@[go_sem] theorem amO(T:TypeId)(x:List V):kb P T (.agg x)=.agg x:=rfl
@[go_sem] theorem amP(T:TypeId)(a b c:Nat):kb P T (.ptr a b c)=.ptr a b c:=rfl
@[go_sem] theorem amQ(T:TypeId)(a:List D)(b:Nat):kb P T (.eN a b)=.eN a b:=rfl
@[go_sem] theorem amR(T:TypeId)(a b c:Nat):kb P T (.sl a b c)=.sl a b c:=rfl
@[go_sem] theorem amS(T:TypeId)(a:FuncId)(b:List V):kb P T (.fn a b)=.fn a b:=rfl
@[go_sem] theorem amT(T:TypeId)(b:List V):kb P T (.c6 b)=.c6 b:=rfl
@[go_sem] theorem amU(T:TypeId)(c:Bool)(v:V):kb P T (.bq c v)=.bq c v:=rfl
@[go_sem] theorem amV(T:TypeId):kb P T .J=.J:=rfl
@[go_sem] theorem amW(T:TypeId)(s:Nat):kb P T (.c7 s)=.c7 (match elI P T with|some (_,sz,_)=>sz|none=>s):=rfl
@[go_sem] theorem amX(g:Bool)(c a b:Bool)(K:V→Prop):AB g (.d (.bool c)) (.d (.bool a)) (.d (.bool b)) K=K (.d (.bool (bif c then a else b))):=cd rfl
@[go_sem] theorem amY(g:Bool)(c a:Bool)(Cw b:Bool)(K:V→Prop):AB g (.d (.bool c)) (.d (.bool a)) (.bq Cw (.d (.bool b))) K=(((g&&!c)=true→Cw=true)∧K (.d (.bool (bif c then a else b)))):=cd rfl
@[go_sem] theorem amZ(g:Bool)(c a:Bool)(S3 b:Bool)(K:V→Prop):AB g (.d (.bool c)) (.bq S3 (.d (.bool a))) (.d (.bool b)) K=(((g&&c)=true→S3=true)∧K (.d (.bool (bif c then a else b)))):=cd rfl
@[go_sem] theorem am0(g:Bool)(nT c:Bool)(a b:V)(K:V→Prop):AB g (.bq nT (.d (.bool c))) a b K=((g=true→nT=true)∧evg (g&&c) a (bx (fun a=>asB a (bx (fun y=>evg (g&&!c) b (bx (fun b=>asB b (bx (fun z=>K (.d (.bool (bif c then y else z)))) .mk)) .mk)) .mk)) .mk)):=cd rfl
@[go_sem] theorem am1(T:TypeId)(k:IntKind)(a b:Int):binE P .add T (.d (.int k a)) (.d (.int k b))=some (True,.d (.int k (k.wrap (a+b)))):=by simp[binE,binI]
@[go_sem] theorem am2(T:TypeId)(k:IntKind)(a b:Int):binE P .sub T (.d (.int k a)) (.d (.int k b))=some (True,.d (.int k (k.wrap (a-b)))):=by simp[binE,binI]
@[go_sem] theorem am3(T:TypeId)(k:IntKind)(a b:Int):binE P .mul T (.d (.int k a)) (.d (.int k b))=some (True,.d (.int k (k.wrap (a * b)))):=by simp[binE,binI]
@[go_sem] theorem am4(T:TypeId)(k:IntKind)(a b:Int):binE P .quo T (.d (.int k a)) (.d (.int k b))=some (b≠0,.d (.int k (k.wrap (a.tdiv b)))):=by simp[binE,binI]
@[go_sem] theorem am5(T:TypeId)(k:IntKind)(a b:Int):binE P .rem T (.d (.int k a)) (.d (.int k b))=some (b≠0,.d (.int k (a.tmod b))):=by simp[binE,binI]
@[go_sem] theorem am6(T:TypeId)(k:IntKind)(a b:Int):binE P .and T (.d (.int k a)) (.d (.int k b))=some (True,.d (.int k (bitI .and k a b))):=by simp[binE,binI]
@[go_sem] theorem am7(T:TypeId)(k:IntKind)(a b:Int):binE P .or T (.d (.int k a)) (.d (.int k b))=some (True,.d (.int k (bitI .or k a b))):=by simp[binE,binI]
@[go_sem] theorem am8(T:TypeId)(k:IntKind)(a b:Int):binE P .xor T (.d (.int k a)) (.d (.int k b))=some (True,.d (.int k (bitI .xor k a b))):=by simp[binE,binI]
@[go_sem] theorem am9(T:TypeId)(k:IntKind)(a b:Int):binE P .eql T (.d (.int k a)) (.d (.int k b))=some (True,.d (.bool (decide (a=b)))):=by simp[binE,binI];rfl
@[go_sem] theorem ana(T:TypeId)(k:IntKind)(a b:Int):binE P .neq T (.d (.int k a)) (.d (.int k b))=some (True,.d (.bool (decide (a≠b)))):=by simp[binE,binI,bne];rfl
@[go_sem] theorem anb(T:TypeId)(k:IntKind)(a b:Int):binE P .lss T (.d (.int k a)) (.d (.int k b))=some (True,.d (.bool (decide (a<b)))):=by simp[binE,binI]
@[go_sem] theorem anc(T:TypeId)(k:IntKind)(a b:Int):binE P .leq T (.d (.int k a)) (.d (.int k b))=some (True,.d (.bool (decide (a≤b)))):=by simp[binE,binI]
@[go_sem] theorem ane(T:TypeId)(k:IntKind)(a b:Int):binE P .gtr T (.d (.int k a)) (.d (.int k b))=some (True,.d (.bool (decide (b<a)))):=by simp[binE,binI]
@[go_sem] theorem anf(T:TypeId)(k:IntKind)(a b:Int):binE P .geq T (.d (.int k a)) (.d (.int k b))=some (True,.d (.bool (decide (b≤a)))):=by simp[binE,binI]
@[go_sem] theorem ang(T:TypeId)(k ji:IntKind)(a b:Int):binE P .shl T (.d (.int k a)) (.d (.int ji b))=shI .shl k a b:=rfl
@[go_sem] theorem anh(T:TypeId)(k ji:IntKind)(a b:Int):binE P .shr T (.d (.int k a)) (.d (.int ji b))=shI .shr k a b:=rfl
@[go_sem] theorem ani(T:TypeId)(a b:List UInt8):binE P .add T (.d (.str a)) (.d (.str b))=binS .add a b:=rfl
@[go_sem] theorem anj(T:TypeId)(a b:List UInt8):binE P .eql T (.d (.str a)) (.d (.str b))=binS .eql a b:=rfl
@[go_sem] theorem ank(T:TypeId)(a b:List UInt8):binE P .neq T (.d (.str a)) (.d (.str b))=binS .neq a b:=rfl
@[go_sem] theorem anl(a b:List UInt8):binS .add a b=some (a.length+b.length≤maxLen,.d (.str (a++b))):=rfl
@[go_sem] theorem anm(a b:List UInt8):binS .eql a b=some (True,.d (.bool (decide (a=b)))):=by
 have:(a == b)=decide (a=b):=by rw[Bool.eq_iff_iff];simp
 simp only[binS,this]
@[go_sem] theorem ann(a b:List UInt8):binS .neq a b=some (True,.d (.bool (decide (a≠b)))):=by
 have:(a != b)=decide (a≠b):=by rw[Bool.eq_iff_iff];simp
 simp only[binS,this]
@[go_sem] theorem ano(T:TypeId)(a b:Bool):binE P .eql T (.d (.bool a)) (.d (.bool b))=if isBoolI P T then some (True,.d (.bool (a == b)))else none:=rfl
@[go_sem] theorem anp(T:TypeId)(a b:Bool):binE P .neq T (.d (.bool a)) (.d (.bool b))=if isBoolI P T then some (True,.d (.bool (a != b)))else none:=rfl
@[go_sem] theorem anq(T:TypeId)(xs ys:List V):binE P .eql T (.agg xs) (.agg ys)=(eqCells xs ys).map fun b=>(oE P T (kindsV xs),.d (.bool b)):=by simp only[binE];cases eqCells xs ys<;>rfl
@[go_sem] theorem anr(T:TypeId)(xs ys:List V):binE P .neq T (.agg xs) (.agg ys)=(eqCells xs ys).map fun b=>(oE P T (kindsV xs),.d (.bool !b)):=by simp only[binE];cases eqCells xs ys<;>rfl
@[go_sem] theorem ans(T:TypeId)(id bU off zc:Nat):binE P .eql T (.ptr id bU off) (.ptr id bU zc)=if isPtrI P T=true then some (True,.d (.bool (decide (off=zc))))else none:=by simp[binE,xS]
attribute [go_sem] eqCells eqD kindsV
@[go_sem] theorem ant(b:Bool):unE .not (.d (.bool b))=some (.d (.bool !b)):=rfl
@[go_sem] theorem anu(k:IntKind)(x:Int):unE .neg (.d (.int k x))=some (.d (.int k (k.wrap (0-x)))):=rfl
attribute [go_sem] bt.p bt.q bt.u oH xS Ez lenE extE ptrE faE iaE H.els wH loadE ixE cutE cut3E reachE clrE Ci inE lenOfV cvE bldE V.cells V.wz V.oneB storeE toDs toD apE srcE elsOf bsE vfill mkE dn chunk L8 D.flat D.plain toADs toAD toRDs toRD toOAs HL mC Ei aVs aHs Ej rV rVs wv rHs zDs zD AD.uo
attribute [go_sem] false_implies true_implies true_and and_true Option.map_some Option.map_none List.map_cons List.map_nil List.length_cons List.length_nil if_true if_false Option.isSome_some Option.isSome_none Bool.false_eq_true Option.getD_some Option.getD_none List.append_nil List.nil_append List.cons_append List.drop_zero List.drop_succ_cons List.take_zero List.take_succ_cons List.headD_cons List.replicate_zero List.all_nil List.all_cons List.zipIdx_nil Bool.and_true Bool.true_and Bool.and_self Bool.false_and Bool.and_false List.nodup_nil reduceCtorEq Nat.zero_add decide_true decide_false List.length_append List.length_replicate Bool.not_true Bool.not_false
@[go_sem] theorem anv:fP []=true:=rfl
@[go_sem] theorem anw(c:List D)(cs:List (List D)):fP (c::cs)=(c.all D.flat&&fP cs):=rfl
@[go_sem] theorem anx(cs ds:List (List D)):fP (cs++ds)=(fP cs&&fP ds):=by simp[fP]
theorem aby{α:Type}(f:α→List D)(xs:List α):(xs.map f).take xs.length=xs.map f:=List.take_of_length_le (by simp)
attribute [go_sem] aby Nat.le_refl imp_self beq_true beq_false Bool.not_not
attribute [go_sem] Int.reduceLE Int.reduceLT Int.reduceNeg Int.reduceToNat Nat.reduceAdd Nat.reduceSub Nat.reduceMul Nat.reduceLT Nat.reduceLeDiff Nat.reduceEqDiff
@[go_sem] theorem anz(v:V):(ck v).v=v:=rfl
@[go_sem] theorem anA(v:V):(ck v).new=[]:=rfl
@[go_sem] theorem anB(v:V):(ck v).upd=[]:=rfl
@[go_sem] theorem anC:bytesL []=some []:=rfl
@[go_sem] theorem anD(n:Int):bytesL [[.int .u8 n]]=some [UInt8.ofNat n.toNat]:=rfl
@[go_sem] theorem anE(n m:Int):bytesL [[.int .u8 n],[.int .u8 m]]=some [UInt8.ofNat n.toNat,UInt8.ofNat m.toNat]:=rfl
@[go_sem] theorem anF{n:Nat}(h:n≤1000000):(n≤maxLen)=True:=eq_true (S1 h)
attribute [go_sem] cond_true cond_false Int.reduceNe List.getElem?_cons_zero List.getElem?_cons_succ
theorem Z8{f:FuncId}{fn:Func}{c:Code}{args res:List AD}(hf:P.funcs[f]?=some fn)(hb:fn.body=some c)(hcall:∀(args:Array Value) (w:World),(callFunc f args).run P w=.ok (.enter f args) w)(hm:P.follows .mixedOrders=true)(ts:List V)
  (hn:args.map AD.uo++List.replicate (fn.ntmps-args.length) .J=ts) (rs:List ResultVar) (hr:fn.results.toList=rs) (h:wh args→codeE P [] c ⟨ts,[]⟩ (bx (f_ P rs res) .mk) [] (bx (f_ P rs res) .mk)):PureCall P f args res:=
 abz hf hb hcall hm hn hr h
def jn:Nat→List V→List V
 |0,l=>l
 |n+1,l=>.J::jn n l
def S4:Nat→bt
 |0=>.pre
 |1=>.cA
 |_+2=>.post
def rD:Nat→Nat→List bt
 |0,_=>[]
 |n+1,c=>S4 (c % 3)::rD n (c / 3)
def ct(n:Nat)(l:List Nat):List (List bt):=l.map (rD n)
def ts0:List AD→Nat→List V
 |[],n=>jn n []
 |a::l,n=>a.uo::ts0 l (n-1)
theorem S5:∀(n:Nat),jn n []=List.replicate n .J
 |0=>rfl
 |n+1=>by rw[jn,S5 n,List.replicate_succ]
theorem LN:∀(l:List AD) (n:Nat),l.map AD.uo++List.replicate (n-l.length) .J=ts0 l n
 |[],n=>by simp[ts0,S5]
 |a::l,n=>by
  have h:=LN l (n-1);rw[List.map_cons,List.cons_append,List.length_cons,ts0,←h,show n-(l.length+1)=n-1-l.length from by omega]
attribute [go_sem,simp] jn
attribute [go_sem] ts0 S4 rD ct Nat.reduceDiv Nat.reduceMod
theorem al{p q:Prop}(k:q)(h:p:=by first|omega|(exact⟨by omega,by omega⟩)|(simp only[maxLen];omega)|(simp;done)|(simp;omega)):p∧q:=⟨h,k⟩
theorem kN{σ:St}{n:Nat}{o:Oper}{K:dS→Prop}(h:opE P true σ n o K):uj P true σ n o K:=abe h
theorem kt{σ:St}{n:Nat}{o:Oper}{K:dS→Prop}(h:K (ck (.bq false (.d (.bool false))))):uj P false σ n o K:=abf h
theorem eJ{g:Bool}{σ:St}{n:Nat}{o:Oper}{K:dS→Prop}(h:opE P g σ n o (bx (fun r=>r.new=[]∧r.upd=[]∧K (ck (.bq g r.v))) .mk)):uj P g σ n o K:=SI h
theorem bp{t:Bool}{A B:Prop}{s:vl A}{wI:vl B}(h1:t=true→A)(h2:t=false→B):AK t (za A s) (za B wI):=⟨h1,h2⟩
theorem ao.af{f:FuncId}{as rs:List AD}{hs:List H}{vs:List V}{n:Nat}{K:dS→Prop}(h:PureCall P f as rs)(hk:K ⟨mC rs n,(aHs rs).map H.toCln,[]⟩):ao P f (some as) hs vs n K:=.inr ⟨as,rs,rfl,h,hk⟩
def bm{α:Type}(kv:List V)(gL:α→St)(ll:α→Nat)(iu:α→Prop)(x:α)(σ':St):Prop:=∃pB,pA σ' pB∧∃y AL,iu y∧ll y<ll x∧kQ kv AL pB (gL y)
theorem bm.intro{α:Type}{kv:List V}{gL:α→St}{ll:α→Nat}{iu:α→Prop}{x:α}{σ':St}(y:α)(AL:List Nat)(h1:iu y)(h2:ll y<ll x)(aj:kQ kv AL σ' (gL y)):bm kv gL ll iu x σ':=⟨σ',pA.refl σ',y,AL,h1,h2,aj⟩
theorem b5.intro{kv:List V}{body:St→(St→Prop)→Prop}{s:vl body}{σ:St}{α:Type}(gL:α→St)(ll:α→Nat)(iu:α→Prop)(x:α)(ρ:List Nat)(hp:iu x)(hs:kQ kv ρ σ (gL x))
  (EA:∀x,iu x→body (gL x) (bx (bm kv gL ll iu x) .mk)):b5 kv (lk body s) σ:=⟨α,gL,ll,iu,x,ρ,hp,hs,fun x hx=>⟨gL x,pA.refl _,EA x hx⟩⟩
def openE(id bU:Nat)(σ:St)(K:St→Prop):Prop:=
 match aG σ.heap id with
 |.af sz xs=>match xs[bU]? with
  |some c=>K ⟨σ.tmps,hnew (bI σ.heap id (.fA sz (xs.take bU) (rVs c σ.heap.length) (xs.drop (bU+1)))) σ.heap.length (rHs c)⟩
  |none=>False
 |_=>False
def closeB(hs:List H):List Nat→Prop
 |[]=>True
 |i::is=>(match aG hs i with|.ai _ ys true=>fP ys=true|_=>False)∧closeB hs is
def closeE(id:Nat)(σ:St)(K:St→Prop):Prop:=
 match aG σ.heap id with
 |.fA sz pre cells post=>match toDs σ.heap cells with
  |some (ds,bW)=>bW.Nodup∧closeB σ.heap bW∧K ⟨σ.tmps,hupd (bI σ.heap id (.af sz (pre++ds::post))) (bW.map fun i=>(i,H.cF))⟩
  |none=>False
 |_=>False
theorem S6{hs:List H}:∀{bW:List Nat},closeB hs bW→∀i∈bW,∃s ys,aG hs i=.ai s ys true∧fP ys=true
 |[],_,i,h=>by cases h
 |j::is,hc,i,h=>by
  simp only[closeB]at hc;rcases List.mem_cons.1 h with rfl|h
  ·have h1:=hc.1;split at h1
   ·rename_i s ys e;exact⟨s,ys,e,h1⟩
   ·exact h1.elim
  ·exact S6 hc.2 i h
theorem Mx{id bU:Nat}{σ:St}{K:St→Prop}(h:openE id bU σ K):∃ln,pA σ ln∧K ln:=by
 unfold openE at h;split at h
 ·rename_i sz xs hx;split at h
  ·rename_i c hc;exact⟨_,.inr (.inl ⟨id,bU,sz,xs,c,hx,hc,rfl⟩),h⟩
  ·exact h.elim
 ·exact h.elim
theorem abA{id:Nat}{σ:St}{K:St→Prop}(h:closeE id σ K):∃ln,pA σ ln∧K ln:=by
 unfold closeE at h;split at h
 ·rename_i sz pre cells post hx;split at h
  ·rename_i ds bW hd;obtain⟨h1,h2,aj⟩:=h;exact⟨_,.inr (.inr ⟨id,sz,pre,cells,post,ds,bW,hx,hd,h1,S6 h2,rfl⟩),aj⟩
  ·exact h.elim
 ·exact h.elim
attribute [go_sem] openE closeE closeB H.toCln H.esz toX toXs clnOf
attribute [go_sem] kQ vsees vsee hsees hsee a6 vok allOk hok uL ren rens
theorem bC{n:Int}(h1:-9223372036854775808≤n)(h2:n≤9223372036854775807):IntKind.i64.wrap n=n:=by
 rw[IntKind.wrap_i64];omega
theorem EB{n:Int}(h1:0≤n)(h2:n≤255):IntKind.u8.wrap n=n:=by
 simp only[IntKind.wrap,IntKind.signed,IntKind.bits];simp;omega
theorem ba{kv:List V}{aA:List Oper}{σ:St}{K:St→Prop}(rows:List (List bt))(h1:ua aA rows=true)(h2:rows.all (fun r=>r.length == aA.length)=true)
  (h:anyE P aA σ rows aA [] σ.heap.length (bx (fun its=>(updE rows 0 its∨upd2 σ rows aA rows [] its)∧K (seqAp its σ)) .mk)):B6 P kv aA.toArray σ K:=.inl ⟨rows,h1,h2,h⟩
theorem hH{kv:List V}{aA:List Oper}{σ:St}{K:St→Prop}(fG:St→Prop)(h:exE P kv aA aA.length (List.replicate aA.length false) σ fG)(hk:∀σ',fG σ'→K σ'):B6 P kv aA.toArray σ K:=.inr ⟨fG,hk,by simpa using h⟩
theorem yD{kv:List V}{aA:List Oper}{n:Nat}{S:List Bool}{σ:St}{K:St→Prop}(h:rdyE S aA [] S=[])(hk:K σ):exE P kv aA n S σ K:=by
 cases n with
 |zero=>exact⟨h,hk⟩
 |succ n=>refine⟨fun _=>hk,?_⟩;rw[h];trivial
theorem yC{kv:List V}{aA:List Oper}{n:Nat}{S:List Bool}{σ:St}{K:St→Prop}{x:Oper×List Bool}{r:List (Oper×List Bool)}(e:rdyE S aA [] S=x::r)(h:uX (x::r) fun o k'=>uY P kv aA σ o (bx (fun σ'=>exE P kv aA n k' σ' K) .mk)):exE P kv aA (n+1) S σ K:=
 ⟨fun q=>(by rw[e]at q;cases q),by rw[e];exact h⟩
theorem vR{F:Oper→List Bool→Prop}{o:Oper}{S:List Bool}{r:List (Oper×List Bool)}(h:F o S)(hr:uX r F):uX ((o,S)::r) F:=⟨h,hr⟩
theorem vQ{F:Oper→List Bool→Prop}:uX [] F:=trivial
@[go_sem] theorem anG(aA:List Oper)(dF:St)(l:List cZ)(n:Nat)(K:List cZ→Prop):anyE P aA dF [] [] l n K=K l:=cd rfl
@[go_sem] theorem anH(aA:List Oper)(dF:St)(row:List bt)(rows:List (List bt))(o:Oper)(rest:List Oper)(l:List cZ)(n:Nat)(K:List cZ→Prop) :
  anyE P aA dF (row::rows) (o::rest) l n K=stepE P aA (mask row l (o::rest) dF) n o (bx (fun r=>anyE P aA dF rows rest (l++[(o,n,r)]) (n+r.new.length) K) .mk):=cd rfl
@[go_sem] theorem anI(row:List bt)(o:Oper)(n:Nat)(r:dS)(l:List cZ)(rest:List Oper)(σ:St):mask (.pre::row) ((o,n,r)::l) rest σ=mask row l rest (σ.cR o.dst n r):=rfl
@[go_sem] theorem anJ(row:List bt)(o:Oper)(n:Nat)(r:dS)(l:List cZ)(rest:List Oper)(σ:St):mask (.cA::row) ((o,n,r)::l) rest σ=mask row l rest ⟨u_ σ.tmps o.dst,kilH σ.heap r.upd⟩:=rfl
@[go_sem] theorem anK(row:List bt)(o:Oper)(rest:List Oper)(σ:St):mask (.cA::row) [] (o::rest) σ=mask row [] rest ⟨u_ σ.tmps o.dst,σ.heap⟩:=rfl
@[go_sem] theorem anL(row:List bt)(o:Oper)(rest:List Oper)(σ:St):mask (.post::row) [] (o::rest) σ=mask row [] rest σ:=rfl
@[go_sem] theorem anM(l:List cZ)(rest:List Oper)(σ:St):mask [] l rest σ=σ:=by cases l<;>cases rest<;>rfl
attribute [go_sem] u_ kilH updE allPre ltE seqAp upd2 Hm okR yY deadB List.all_cons List.all_nil List.map_cons List.map_nil true_or false_or
theorem en{f:FuncId}{fn:Func}{c:Code}{kv:List V}{hs:List H}{vs:List V}{K:V→List H→Prop}{n:Nat}(hf:P.funcs[f]?=some fn)(hb:fn.body=some c)(hcall:∀(args:Array Value) (w:World),(callFunc f args).run P w=.ok (.enter f args) w)(hm:P.follows .mixedOrders=true)
  (hn:fn.ntmps=n) {rs:List ResultVar} (hr:fn.results.toList=rs) (h:codeE P kv c ⟨vs++List.replicate (n-vs.length) .J,hs⟩ (bx (vm P rs (lk K .mk)) .mk) [] (bx (vm P rs (lk K .mk)) .mk)):dj P f kv hs vs K:=
 abB hf hb hcall hm (by rw[hn]) hr h
@[go_sem] theorem anN(rs:List ResultVar)(K:V→List H→Prop)(σ:St):vm P rs K σ=rvsE P σ rs (bx (fun vs=>K (tupV vs) σ.heap) .mk):=cd rfl
attribute [go_sem] tupV
@[go_sem] theorem anO(as:List AD)(bW:List Nat)(res:List AD):S7 (some (as,bW)) res=(as=res∧bW=[]):=by simp[S7]
def coverB:List Nat→List (Nat×H)→Bool
 |[],[]=>true
 |i::is,q::upd=>q.1 == i&&coverB is upd
 |_,_=>false
@[go_sem] theorem anP:coverB [] []=true:=rfl
@[go_sem] theorem anQ(i:Nat)(is:List Nat)(q:Nat×H)(upd:List (Nat×H)):coverB (i::is) (q::upd)=(q.1 == i&&coverB is upd):=rfl
attribute [go_sem] List.any_cons List.any_nil Bool.or_true Bool.true_or Bool.or_false Bool.false_or Nat.reduceBEq BEq.rfl beq_self_eq_true
@[go_sem] theorem anR{α:Type}(a:α)(l m:List α):List.append (a::l) m=a::List.append l m:=rfl
@[go_sem] theorem anS{α:Type}(m:List α):List.append [] m=m:=rfl
variable {P:Program}
section
variable {M5:Type} {enc:TypeId×Value→M5} {w:World} {sp:Nat→Bool} {held:Bool}
end
section
variable {M5:Type} {enc:TypeId×Value→M5} {w:World} {sp:Nat→Bool} {held:Bool}
end
end Gv
