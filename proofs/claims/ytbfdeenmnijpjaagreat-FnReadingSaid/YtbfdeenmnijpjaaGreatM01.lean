/-
  Part of the proof: the machine, what functions compute, and the plain laws.
-/
import Derived.Test.YtbfdeenmnijpjaaGreatM00
import Derived.Deep.LoopGhost
import GoSem.ClaimChange
namespace Gv
open Go
variable {P:Program} {o:Oper} {g:Bool} {σ:St} {n:Nat} {K:dS→Prop}
def uX(r:Option (Prop×dS))(K:dS→Prop):Prop:=match r with|some (p,r)=>p∧K r|none=>False
def Kh(r:Option Nat)(K:Nat→Prop):Prop:=match r with|some m=>K m|none=>False
def ar(P:Program)(f:FuncId)(as:Option (List AD))(_:List H)(_:List V)(n:Nat)(K:dS→Prop):Prop:=
 (∃v8 rs,as=some v8∧PureCall P f v8 rs∧K ⟨lH rs n,aHs rs,[]⟩)∨
 (∃v8 rs,as=some v8∧PureCall P f v8 rs∧K ⟨lH rs n,(aHs rs).map H.toCln,[]⟩)
theorem ar.intro{f:FuncId}{as rs:List AD}{hs:List H}{vs:List V}(h:PureCall P f as rs)(hk:K ⟨lH rs n,aHs rs,[]⟩):ar P f (some as) hs vs n K:=.inl ⟨as,rs,rfl,h,hk⟩
def fnE(v:V)(K:FuncId→List V→Prop):Prop:=match v with|.fn f d8=>K f d8|_=>False
theorem Qq{v:V}{K:FuncId→List V→Prop}(h:fnE v K):∃f d8,v=.fn f d8∧K f d8:=by
 unfold fnE at h;split at h
 ·exact⟨_,_,rfl,h⟩
 ·exact h.elim
def callE(P:Program)(g:Bool)(σ:St)(n:Nat)(c:Callee)(xs:List Operand)(ts:List TypeId)(K:dS→Prop):Prop:=
 match c,xs,ts with
 |.builtin .len,[x],[T]=>evg g (σ.ev x) fun a=>Kh (lenE P T a) fun m=>K (cg (nr .i64 m))
 |.builtin .append,[x,y],[T,U]=>T=U∧evg g (σ.ev x) fun a=>evg g (σ.ev y) fun b=>uX (AU P σ.heap T a b n) K
 |.builtin .clear,[x],[T]=>evg g (σ.ev x) fun a=>uX (clrE P σ.heap T a) K
 |.builtin .min,[x,y],[_,_]=>evg g (σ.ev x) fun a=>evg g (σ.ev y) fun b=>asI a fun k i=>asI b fun iF j=>k=iF∧K (cg (nr k (if j<i then j else i)))
 |.builtin .max,[x,y],[_,_]=>evg g (σ.ev x) fun a=>evg g (σ.ev y) fun b=>asI a fun k i=>asI b fun iF j=>k=iF∧K (cg (nr k (if j>i then j else i)))
 |.value (.func f),xs,_=>evs g σ xs fun vs=>ar P f (toADs σ.heap vs) σ.heap vs n K
 |.value x,xs,_=>evg g (σ.ev x) fun v9=>fnE v9 fun f d8=>d8=[]∧evs g σ xs fun vs=>ar P f (toADs σ.heap vs) σ.heap vs n K
 |_,_,_=>False
def opE(P:Program)(g:Bool)(σ:St)(n:Nat)(o:Oper)(K:dS→Prop):Prop:=
 match o.op with
 |.move x=>evg g (σ.ev x) fun v=>K (cg (jh P o.type v))
 |.assign x=>evg g (σ.ev x) fun v=>K (cg (jh P o.type v))
 |.pick c x y=>y7 g (σ.ev c) (σ.ev x) (σ.ev y) fun v=>K (cg v)
 |.binOp op T x y _=>evg g (σ.ev x) fun a=>evg g (σ.ev y) fun b=>withR (binE P op T a b) fun v=>K (cg v)
 |.unOp op _ x=>evg g (σ.ev x) fun a=>withO (unE op a) fun v=>K (cg v)
 |.extract x i=>evg g (σ.ev x) fun a=>withO (extE a i) fun v=>K (cg v)
 |.nilCheck x=>evg g (σ.ev x) fun a=>ptrE a=true∧K (cg a)
 |.fieldAddr S x f=>evg g (σ.ev x) fun a=>withO (faE P S f a) fun v=>K (cg v)
 |.indexAddr T x iO=>evg g (σ.ev x) fun a=>evg g (σ.ev iO) fun b=>asI b fun _ i=>withR (iaE P σ.heap T a i) fun v=>K (cg v)
 |.load T x=>evg g (σ.ev x) fun a=>withR (loadE P σ.heap T a) fun v=>K (cg v)
 |.index T x iO=>evg g (σ.ev x) fun a=>evg g (σ.ev iO) fun b=>asI b fun _ i=>withR (ixE P T a i) fun v=>K (cg v)
 |.slice T x bK hi none=>evg g (σ.ev x) fun a=>bndE g σ 0 bK fun l=>bndE g σ (AV a) hi fun h=>withR (cutE P σ.heap T a l h) fun v=>K (cg v)
 |.convert k0 dst x=>evg g (σ.ev x) fun a=>withR (cvE P σ.heap k0 dst a) fun v=>K (cg v)
 |.build T parts=>evParts g σ parts.toList fun ps=>withO (bldE P T ps) fun v=>K (cg v)
 |.alloc T=>withO ((zrI P T).map V.agg) fun v=>K ⟨.ptr n 0 0,[.box v.cells],[]⟩
 |.box _ x=>evg g (σ.ev x) fun v=>v.uY=true∧K ⟨.ptr n 0 0,[.box v.cells],[]⟩
 |.store T p x=>evg g (σ.ev p) fun q=>evg g (σ.ev x) fun v=>uX ((storeE P σ.heap T q (jh P T v)).map fun(c,upd)=>(c,⟨.ab,[],upd⟩)) K
 |.buildSlice T len parts=>evParts g σ parts.toList fun ps=>uX (bsE P σ.heap T len ps n) K
 |.makeSlice T x y=>x=y∧evg g (σ.ev x) fun v=>asI v fun _ i=>uX (mkE P T i n) K
 |.makeFunc (.func f) ys d8=>ys.toList=[]∧evs g σ d8.toList fun vs=>K (cg (.fn f vs))
 |.call c=>callE P g σ n c.callee c.args.toList c.argTypes.toList K
 |.slice T x (some bK) (some hi) (some uT)=>evg g (σ.ev x) fun a=>bndE g σ 0 (some bK) fun l=>bndE g σ 0 (some hi) fun h=>bndE g σ 0 (some uT) fun m=>withR (cut3E P T a l h m) fun v=>K (cg v)
 |_=>False
theorem Qr{g:Bool}{v:V}{K fp:V→Prop}(h:evg g v K)(hk:∀v,K v→fp v):evg g v fp:=by
 unfold evg at *;split at h
 ·exact⟨h.1,hk _ h.2⟩
 ·exact hk _ h
theorem FZ{α:Type}{a:Array α}{x:α}(h:a.toList=[x]):a=#[x]:=by rw[←Array.toArray_toList (xs:=a),h]
theorem AW{α:Type}{a:Array α}{x y:α}(h:a.toList=[x,y]):a=#[x,y]:=by rw[←Array.toArray_toList (xs:=a),h]
theorem X6{c:Call}(az:o.op=.call c)(h:callE P g σ n c.callee c.args.toList c.argTypes.toList K):∃r,fO P o g σ n r∧K r:=by
 obtain⟨ahs,xs,ts⟩:=c;simp only at h;unfold callE at h;split at h
 ·rename_i x T h1 h2;refine ok_len az (x:=x) (T:=T) (by rw[FZ h1,FZ h2]) h
 ·rename_i x y T U h1 h2;obtain⟨rfl,h⟩:=h;exact X7 az (x:=x) (y:=y) (T:=T) (by rw[AW h1,AW h2]) h
 ·rename_i x T h1 h2;exact X8 az (x:=x) (T:=T) (by rw[FZ h1,FZ h2]) h
 ·rename_i x y T U h1 h2;exact X9 az (x:=x) (y:=y) (T:=T) (U:=U) (by rw[AW h1,AW h2]) h
 ·rename_i x y T U h1 h2;exact X_ az (x:=x) (y:=y) (T:=T) (U:=U) (by rw[AW h1,AW h2]) h
 ·obtain⟨vs,h,hx⟩:=CX _ _ h;rcases h with ⟨as,rs,h1,h2,ak⟩|⟨as,rs,h1,h2,ak⟩
  ·exact Kc az rfl (fun _ _ _=>rfl) hx h1 h2 ak
  ·exact FX az rfl (fun _ _ _=>rfl) hx h1 h2 ak
 ·rename_i x _;obtain⟨v9,h',hf⟩:=fb h;obtain⟨f,d8,rfl,h'⟩:=Qq h';clear h;obtain⟨rfl,h⟩:=h';have AX:∀{σ':St} {B:Nat→Prop} {w0:World} {aG:Nat→Prop} {φ:b2} {kp:List (V×Value)} {a:Act} {w:World},σ.le σ'→R B w0 aG φ σ' kp a w→g=true→a.eval x=.func (.func f) #[] #[]:=by
   intro σ' B w0 aG φ kp a w aR aL hg;have:=hf _ _ _ _ hg (eW aR aL x);simp only[VRel]at this;obtain⟨us,e,aj⟩:=this;simp only[VRels]at aj;rw[e];congr 1;exact Array.toList_eq_nil_iff.1 aj
  obtain⟨vs,h,hx⟩:=CX _ _ h;rcases h with ⟨as,rs,h1,h2,ak⟩|⟨as,rs,h1,h2,ak⟩
  ·exact Kc az rfl AX hx h1 h2 ak
  ·exact FX az rfl AX hx h1 h2 ak
 ·exact h.elim
theorem AY(h:opE P g σ n o K):∃r,fO P o g σ n r∧K r:=by
 unfold opE at h;split at h
 case h_1 x az=>exact Qs (.inl az) h
 case h_2 x az=>exact Qs (.inr az) h
 case h_3 c x y az=>exact X' az h
 case h_4 op T x y fN az=>exact Ya az h
 case h_5 op T x az=>exact Yb az h
 case h_6 x i az=>exact Yc az h
 case h_7 x az=>exact Yd az h
 case h_8 S x f az=>exact Ye az h
 case h_9 T x iO az=>exact Yf az h
 case h_10 T x az=>exact Yg az h
 case h_11 T x iO az=>exact Yh az h
 case h_12 T x bK hi az=>exact Yi az h
 case h_13 k0 dst x az=>exact Yj az h
 case h_14 T parts az=>exact Yk az h
 case h_15 T az=>
  refine ok_alloc az ?_
  cases hz:zrI P T with
  |none=>rw[hz]at h;exact h
  |some z=>rw[hz]at h;exact h
 case h_16 T x az=>exact Yl az h
 case h_17 T p x az=>
  refine ok_store az ?_;refine Qr h fun q h=>Qr h fun v h=>?_
  cases hs:storeE P σ.heap T q (jh P T v)with
  |none=>rw[hs]at h;exact h
  |some p=>rw[hs]at h;exact h
 case h_18 T len parts az=>exact ok_buildSlice az h
 case h_19 T x y az=>obtain⟨rfl,h⟩:=h;exact Ym az h
 case h_20 f ys d8 az=>
  obtain⟨hy,h⟩:=h;have:ys=#[]:=by rw[←Array.toArray_toList (xs:=ys),hy]
  subst this;exact Yn az h
 case h_21 c az=>exact X6 az h
 case h_22 T x bK hi uT az=>exact Yo az h
 case h_23=>exact h.elim
def s5(P:Program)(g:Bool)(σ:St)(n:Nat)(o:Oper)(K:dS→Prop):Prop:=
 (g=true∧opE P true σ n o K)∨(g=false∧K (cg (.bm false (.d (.bool false)))))∨opE P g σ n o fun r=>r.new=[]∧r.upd=[]∧K (cg (.bm g r.v))
theorem Yp(h:opE P true σ n o K):s5 P true σ n o K:=.inl ⟨rfl,h⟩
theorem Yq(h:K (cg (.bm false (.d (.bool false))))):s5 P false σ n o K:=.inr (.inl ⟨rfl,h⟩)
theorem Qt(h:opE P g σ n o fun r=>r.new=[]∧r.upd=[]∧K (cg (.bm g r.v))):s5 P g σ n o K:=.inr (.inr h)
def stepE(P:Program)(ay:List Oper)(σ:St)(n:Nat)(o:Oper)(K:dS→Prop):Prop:=
 match o.guard with
 |none=>opE P true σ n o K
 |some (j,i7)=>
  match(ay[j]?).bind (·.dst)with
  |some d=>
   match σ.ev (.tmp d)with
   |.d (.bool b)=>s5 P (b == i7) σ n o K
   |.bm c (.d (.bool b))=>s5 P (c&&(b == i7)) σ n o K
   |_=>False
  |none=>False
def Fx(P:Program)(ay:Array Oper)(o:Oper)(σ:St)(n:Nat)(r:dS):Prop:=
 ∀σ':St,σ.le σ'→(∀i,n≤i→i<n+r.new.length→aN σ'.heap i=.c1)→
 ∀(B:Nat→Prop) (w0:World) (aG:Nat→Prop) (φ:b2) (kp:List (V×Value)) (a:Act) (w:World),(∀i,n≤i→i<n+r.new.length→¬aG i)→R B w0 aG φ σ' kp a w→
 ∀(K:Act→World→Prop) (Q:Exit→Act→World→Prop),
  (∀u w' cu,R B w0 (fun i=>aG i∨(n≤i∧i<n+r.new.length)) cu (σ'.cK o.dst n r) kp (a.put o.dst u) w'→K (a.put o.dst u) w')→
  if Region.wanted o (yielded ay a.tmps)then o.wp P a w K Q∨(o.asks P a w∧LetsOut Q)else K (a.put o.dst undef) w
theorem Yr{B:Nat→Prop}{w0:World}{aG:Nat→Prop}{φ:b2}{σ:St}{kp:List (V×Value)}{a:Act}{w:World}(r:R B w0 aG φ σ kp a w){ts:List V}(hl:ts.length=σ.tmps.length)
  (h:∀(t:Nat) (eO v:V) (u:Value),ts[t]?=some eO→σ.tmps[t]?=some v→VRel φ (b8 φ σ.heap) w.heap v u→VRel φ (b8 φ σ.heap) w.heap eO u):R B w0 aG φ ⟨ts,σ.heap⟩ kp a w:=by
 refine⟨xB _ _ (by rw[i6 _ _ r.gB,hl]) fun t eO u ai aj=>?_,r.kp,r.hp,r.dy,r.d_,r.ej,r.f1,r.fg,r.bs,r.l8,r.jS⟩;have hlt:t<σ.tmps.length:=by
  rcases Nat.lt_or_ge t ts.length with h|h
  ·omega
  ·rw[List.getElem?_eq_none h]at ai;cases ai
 obtain⟨uZ,k1,k2⟩:=t0 _ _ r.gB t _ (List.getElem?_eq_getElem hlt);rw[k1]at aj;cases aj;exact h t eO _ u ai (List.getElem?_eq_getElem hlt) k2
theorem Ki{B:Nat→Prop}{w0:World}{aG:Nat→Prop}{φ:b2}{σ:St}{kp:List (V×Value)}{a:Act}{w:World}{dst:Option Tmp}{v:V}{n:Nat}{hs:List H}{upd:List (Nat×H)}(r:R B w0 aG φ (σ.cK dst n ⟨v,hs,upd⟩) kp a w) :
  R B w0 aG φ (σ.cK dst n ⟨.bm true v,hs,upd⟩) kp a w:=by
 cases dst with
 |none=>exact r
 |some d=>
  refine Yr r (by simp[St.cK]) fun t eO aht u ai aj hr=>?_;simp only[St.cK,List.getElem?_set]at ai aj;by_cases h:d=t
  ·subst h;simp only[if_true]at ai aj;split at ai
   ·cases ai
    rw[if_pos (by assumption)]at aj;cases aj;simp only[VRel];exact⟨fun _=>hr,fun h=>by cases h⟩
   ·cases ai
  ·simp only[h,if_false]at ai aj;rw[ai]at aj;cases aj;exact hr
theorem AZ{B:Nat→Prop}{w0:World}{aG:Nat→Prop}{φ:b2}{σ σ':St}{kp:List (V×Value)}{a:Act}{w:World}(aR:σ.le σ')(r:R B w0 aG φ σ' kp a w){d:Tmp}{v:V}(hv:σ.ev (.tmp d)=v)(av:v≠.ab) :
  ∃u,a.tmps[d]?=some u∧VRel φ (b8 φ σ'.heap) w.heap v u:=by
 have he:=aR.ev (.tmp d);rw[hv]at he;rcases he with h|h
 ·exact absurd h av
 ·simp only[St.ev,List.getD_eq_getElem?_getD]at h
  cases ht:σ'.tmps[d]? with
  |none=>rw[ht]at h;exact absurd h.symm av
  |some eO=>
   rw[ht]at h;simp only[Option.getD_some]at h;subst h;obtain⟨u,k1,k2⟩:=t0 _ _ r.gB d _ ht;rw[Array.getElem?_toList]at k1;exact⟨u,k1,k2⟩
theorem A0{φ:b2}{T:Nat→Prop}{h:Array Obj}(v:V):VRel φ T h (.bm false v) undef:=by
 simp only[VRel];exact⟨fun h=>(Bool.noConfusion h),fun _=>trivial⟩
theorem Qu{ay:Array Oper}(hw:∀{σ':St} {B:Nat→Prop} {w0:World} {aG:Nat→Prop} {φ:b2} {kp:List (V×Value)} {a:Act} {w:World},σ.le σ'→R B w0 aG φ σ' kp a w→Region.wanted o (yielded ay a.tmps)=g)
  (h:s5 P g σ n o K):∃r,Fx P ay o σ n r∧K r:=by
 rcases h with ⟨rfl,h⟩|⟨rfl,h⟩|h
 ·obtain⟨r,h1,h2⟩:=AY h;refine⟨r,fun σ' aR hd B w0 aG φ kp a w iC aL lG mQ hk=>?_,h2⟩;rw[if_pos (hw aR aL)];exact .inl (h1 σ' aR hd B w0 aG φ kp a w iC aL rfl lG mQ hk)
 ·refine⟨_,fun σ' aR hd B w0 aG φ kp a w iC aL lG mQ hk=>?_,h⟩;rw[if_neg (by rw[hw aR aL];simp)];exact hk undef w φ (CY (k4 aL o.dst (A0 _)) fun i h=>.inl h)
 ·obtain⟨r,h1,h2,ak,aC⟩:=AY h;refine⟨_,fun σ' aR hd B w0 aG φ kp a w iC aL lG mQ hk=>?_,aC⟩;obtain⟨v,new,upd⟩:=r;simp only at h2 ak;subst h2;subst ak
  cases g with
  |true=>
   rw[if_pos (hw aR aL)];refine .inl (h1 σ' aR hd B w0 aG φ kp a w iC aL rfl lG mQ fun u w' cu hr=>hk u w' cu ?_);exact Ki (σ:=σ') (v:=v) (dst:=o.dst) hr
  |false=>
   rw[if_neg (by rw[hw aR aL];simp)];exact hk undef w φ (CY (k4 aL o.dst (A0 v)) fun i h=>.inl h)
theorem Xw{ay:Array Oper}(h:stepE P ay.toList σ n o K):∃r,Fx P ay o σ n r∧K r:=by
 unfold stepE at h;split at h
 ·rename_i hg;obtain⟨r,h1,h2⟩:=AY h;refine⟨r,fun σ' aR hd B w0 aG φ kp a w iC aL lG mQ hk=>?_,h2⟩;rw[if_pos (by simp[Region.wanted,hg])];exact .inl (h1 σ' aR hd B w0 aG φ kp a w iC aL rfl lG mQ hk)
 ·rename_i j i7 hg;split at h
  ·rename_i d hd;rw[Array.getElem?_toList]at hd;split at h
   ·rename_i b hv;refine Qu (fun aR aL=>?_) h;obtain⟨u,k1,k2⟩:=AZ aR aL hv (by simp);rw[lB k2]at k1;simp[Region.wanted,hg,yielded,hd,k1]
   ·rename_i c b hv;refine Qu (fun {σ' B w0 aG φ kp a w} aR aL=>?_) h;obtain⟨u,k1,k2⟩:=AZ aR aL hv (by simp);simp only[VRel]at k2
    cases c with
    |true=>
     rw[lB (φ:=φ) (T:=b8 φ σ'.heap) (h:=w.heap) (b:=b) (u:=u) (by simp only[VRel];exact k2.1 rfl)]at k1;simp[Region.wanted,hg,yielded,hd,k1]
    |false=>
     rw[k2.2 rfl]at k1;simp[Region.wanted,hg,yielded,hd,k1,undef]
   ·exact h.elim
  ·exact h.elim
def xC(v:V)(i7:Bool)(K:Bool→Prop):Prop:=
 match v with
 |.d (.bool b)=>K (b == i7)
 |.bm c (.d (.bool b))=>K (c&&(b == i7))
 |_=>False
def u0(ay:List Oper)(j:Nat)(K:Tmp→Prop):Prop:=match(ay[j]?).bind (·.dst)with|some d=>K d|none=>False
def d3(B:Nat→Prop)(w0:World)(kp:List (V×Value))(σ:St)(a:Act)(w:World):Prop:=∃aG φ,R B w0 aG φ σ kp a w∧∀i,aG i→i<σ.heap.length
def di(P:Program)(f:FuncId)(kv:List V)(hs:List H)(vs:List V)(K:V→List H→Prop):Prop:=
 ∀(B:Nat→Prop) (w0:World) (kp:List (V×Value)) (us:List Value) (w:World),kp.map (·.1)=kv→d3 B w0 kp ⟨vs,hs⟩ ⟨us.toArray,[]⟩ w→
  Does P f us.toArray w fun v w'=>∃x hs',K x hs'∧d3 B w0 kp ⟨[x],hs'⟩ ⟨#[v],[]⟩ w'
def gP(ts:List V)(dst:Option Tmp)(v:V):List V:=match dst with|some d=>ts.set d v|none=>ts
theorem CZ(hs:List H)(i:Nat)(x:H):hs.length≤(b3 hs i x).length∧i<(b3 hs i x).length:=by
 unfold b3;split
 ·rename_i h;simp[h]
 ·rename_i h;simp;omega
theorem CG:∀(xs:List H) (hs:List H) (n:Nat),hs.length≤(hnew hs n xs).length∧(xs=[]∨n+xs.length≤(hnew hs n xs).length)
 |[],hs,n=>⟨Nat.le_refl _,.inl rfl⟩
 |x::xs,hs,n=>by
  have h1:=CZ hs n x;have h2:=CG xs (b3 hs n x) (n+1);simp only[hnew,List.length_cons];refine⟨by omega,.inr ?_⟩;rcases h2.2 with rfl|h
  ·simp only[hnew,List.length_nil];omega
  ·omega
theorem FC:∀(upd:List (Nat×H)) (hs:List H),hs.length≤(hupd hs upd).length
 |[],hs=>Nat.le_refl _
 |(i,x)::r,hs=>by
  have h1:=CZ hs i x;have h2:=FC r (b3 hs i x);simp only[hupd];omega
theorem v_{hs:List H}{i:Nat}(h:hs.length≤i):aN hs i=.c1:=by
 unfold aN;rw[List.getD_eq_getElem?_getD,List.getElem?_eq_none h];rfl
theorem Qv{h:Array Obj}{o:Bool}{b:Nat}:∀(ds:List D) (f:Nat) (G:List Nat),repC h o b f ds G→∃us:List Value,reps h o ds us G∧∀(j:Nat) (u:Value),us[j]?=some u→cellAt h b (f+j)=some u
 |[],f,G,r=>by simp only[repC]at r;exact⟨[],⟨rfl,r⟩,by simp⟩
 |d::ds,f,G,r=>by
  simp only[repC]at r;obtain⟨v,bH,bA,rfl,aj,aT,bj⟩:=r;obtain⟨us,k1,k2⟩:=Qv ds (f+1) bA bj;refine⟨v::us,⟨v,us,bH,bA,rfl,rfl,aT,k1⟩,fun j u av=>?_⟩
  cases j with
  |zero=>simp at av;subst av;simpa using aj
  |succ j=>rw[show f+(j+1)=f+1+j from by omega];exact k2 j u (by simpa using av)
theorem Ys{B:Nat→Prop}{w0:World}{kp:List (V×Value)}{σ:St}{a:Act}{w:World}(r:d3 B w0 kp σ a w){id bG sz:Nat}{xs:List (List D)}{c:List D}(hx:aN σ.heap id=.ag sz xs)(hc:xs[bG]?=some c) :
  d3 B w0 kp ⟨σ.tmps,hnew (b3 σ.heap id (.fR sz (xs.take bG) (rVs c σ.heap.length) (xs.drop (bG+1)))) σ.heap.length (rHs c)⟩ a w:=by
 obtain⟨aG,φ,r,bR⟩:=r;have ahu:id<σ.heap.length:=by
  rcases Nat.lt_or_ge id σ.heap.length with h|h
  ·exact h
  ·rw[v_ h]at hx;cases hx
 have hlt:bG<xs.length:=(List.getElem?_eq_some_iff.1 hc).1;rcases r.hp id with hd|⟨β,ai,hr⟩
 ·rw[hx]at hd;cases hd
 rw[hx]at hr;simp only[dG]at hr;obtain⟨cH,hr⟩:=hr;rcases hr with hr|⟨b,aH,aZ,ca,cf⟩
 ·rw[hr.2.1]at hlt;simp at hlt
 obtain⟨bH,mi,bA,br,s6,y8,Kj,Kk⟩:=C0 cf hc;obtain⟨us,iM,jf⟩:=Qv _ _ _ Kj;obtain⟨bl,⟨gH,gR,tP,AA⟩,hv⟩:=J_ c us mi iM;have gF:=r.d_ id β ai (by rw[hx];rfl);rw[br]at gF;have v':mi.Nodup:=by
  have:=gF.1;rw[List.nodup_append]at this;have:=this.2.1;rw[List.nodup_append]at this;exact this.1
 have Yt:(bH++bA).Nodup:=by
  have:=gF.1;simp only[List.nodup_append,List.mem_append]at this⊢;grind
 have Qw:∀x∈mi,x∉bH∧x∉bA:=by
  have:=gF.1;simp only[List.nodup_append,List.mem_append]at this;grind
 let n:=σ.heap.length
 let cu:b2:=fun i=>if i=id then some {β with cS:=bH++bA}else if n≤i∧i<n+(rHs c).length then bl[i-n]? else φ i
 have AS:∀i,n≤i→φ i=none:=fun i h=>by
  cases h':φ i with
  |none=>rfl
  |some β=>have:=bR i (r.f1 i β h');omega
 have xD:cu id=some {β with cS:=bH++bA}:=if_pos rfl;have F1:∀i,n≤i∧i<n+(rHs c).length→cu i=bl[i-n]?:=fun i h=>by
  show(if i=id then _ else _)=_
  rw[if_neg (by omega),if_pos h]
 have Kl:∀i,i≠id→¬(n≤i∧i<n+(rHs c).length)→cu i=φ i:=fun i h1 h2=>by
  show(if i=id then _ else _)=_
  rw[if_neg h1,if_neg h2]
 have C1:aN (hnew (b3 σ.heap id (.fR sz (xs.take bG) (rVs c σ.heap.length) (xs.drop (bG+1)))) σ.heap.length (rHs c)) id=.fR sz (xs.take bG) (rVs c σ.heap.length) (xs.drop (bG+1)):=by
  rw[yY,if_neg (by omega),gS,if_pos rfl]
 have Qx:∀i,n≤i∧i<n+(rHs c).length→∃x,(rHs c)[i-n]?=some x∧aN (hnew (b3 σ.heap id (.fR sz (xs.take bG) (rVs c σ.heap.length) (xs.drop (bG+1)))) σ.heap.length (rHs c)) i=x:=by
  intro i h;have hl:i-n<(rHs c).length:=by omega
  refine⟨(rHs c)[i-n],List.getElem?_eq_getElem hl,?_⟩;rw[yY,if_pos h,List.getD_eq_getElem?_getD,List.getElem?_eq_getElem hl];rfl
 have Qy:∀i,i≠id→¬(n≤i∧i<n+(rHs c).length)→aN (hnew (b3 σ.heap id (.fR sz (xs.take bG) (rVs c σ.heap.length) (xs.drop (bG+1)))) σ.heap.length (rHs c)) i=aN σ.heap i:=by
  intro i h1 h2;rw[yY,if_neg h2,gS,if_neg h1]
 have hA:n4 cu n bl:=fun i a7 e=>by
  have hl:i<bl.length:=by
   rcases Nat.lt_or_ge i bl.length with h|h
   ·exact h
   ·rw[List.getElem?_eq_none h]at e;cases e
  rw[F1 (n+i) ⟨by omega,by omega⟩,Nat.add_sub_cancel_left];exact e
 have F2:∀(i:Nat) (a7:fU) (g:Nat),bl[i]?=some a7→g∈kf a7→g∈mi:=fun i a7 g h1 h2=>by rw[←gR];exact List.mem_flatMap.2 ⟨a7,List.mem_of_getElem? h1,h2⟩
 generalize Km:hnew (b3 σ.heap id (.fR sz (xs.take bG) (rVs c σ.heap.length) (xs.drop (bG+1)))) σ.heap.length (rHs c)=hs' at C1 Qx Qy⊢;have iE:∀i,(i=id∨(n≤i∧i<n+(rHs c).length))→∀g,cN cu hs' i g→(i=id∧(g=b∨g∈bH++bA))∨(i≠id∧∃a7,bl[i-n]?=some a7∧g∈kf a7):=by
  rintro i hi g ⟨a7,aj,az⟩;by_cases k5:i=id
  ·subst k5;rw[xD]at aj;cases aj;refine .inl ⟨rfl,?_⟩;rcases az with ⟨_,az⟩|⟨_,az⟩
   ·simp only[aH,Option.some.injEq]at az;exact .inl az.symm
   ·exact .inr az
  ·have hi:=hi.resolve_left k5;rw[F1 i hi]at aj;refine .inr ⟨k5,a7,aj,?_⟩;unfold kf;rcases az with ⟨_,az⟩|⟨_,az⟩<;>simp[az]
 have A1:∀g,(g=b∨g∈β.cS)→cN φ σ.heap id g:=by
  intro g hg;rcases hg with rfl|hg
  ·exact⟨β,ai,.inl ⟨by rw[hx];rfl,aH⟩⟩
  ·exact⟨β,ai,.inr ⟨by rw[hx];rfl,hg⟩⟩
 have Yu:∀g,(g=b∨g∈β.cS)→jH (aN σ.heap id) β g:=by
  intro g hg;rw[hx];rcases hg with rfl|hg
  ·exact .inl ⟨rfl,aH⟩
  ·exact .inr ⟨rfl,hg⟩
 have v5:∀g,(g∈bH++bA∨g∈mi)→g∈β.cS:=by
  intro g hg;rw[br];simp only[List.mem_append]at hg⊢;grind
 have aR:l7 φ cu:=fun i a7 hi=>by
  by_cases h:i=id
  ·subst h;rw[ai]at hi;cases hi;exact⟨_,xD,rfl,rfl,rfl,rfl⟩
  ·have:¬(n≤i∧i<n+(rHs c).length):=fun h'=>by rw[AS i h'.1]at hi;cases hi
   exact⟨a7,by rw[Kl i h this];exact hi,rfl,rfl,rfl,rfl⟩
 refine⟨fun i=>aG i∨(n≤i∧i<n+(rHs c).length),cu,v7 r (fun i=>i=id∨(n≤i∧i<n+(rHs c).length)) _ cu hs' w (fun i hi=>⟨Qy i (fun h=>hi (.inl h)) (fun h=>hi (.inr h)),Kl i (fun h=>hi (.inl h)) (fun h=>hi (.inr h))⟩) aR (Nat.le_refl _) (fun _ _ _=>rfl)
  (fun i hi g az=>?_) (fun i hi a7 aj g ht=>?_) (fun i j g hi av h1 h2=>?_) (fun i a7 hi aj _=>?_) (fun i hi=>?_) (fun i a7 aj=>?_) r.fg,fun i hi=>?_⟩
 ·right;refine⟨id,.inl rfl,A1 g ?_⟩;rcases iE i hi g az with ⟨_,h|h⟩|⟨_,a7,h1,h2⟩
  ·exact .inl h
  ·exact .inr (v5 g (.inl h))
  ·exact .inr (v5 g (.inr (F2 _ a7 g h1 h2)))
 ·right;refine⟨id,β,.inl rfl,ai,Yu g ?_⟩;rcases iE i hi g (jH.wa aj ht)with ⟨_,h|h⟩|⟨_,a7,h1,h2⟩
  ·exact .inl h
  ·exact .inr (v5 g (.inl h))
  ·exact .inr (v5 g (.inr (F2 _ a7 g h1 h2)))
 ·have jt:b∉mi:=fun h=>gF.2 b aH (by simp[h]);rcases iE i hi g h1 with ⟨cF,bh⟩|⟨cF,Qz,bh,bI⟩<;>rcases iE j av g h2 with ⟨dh,c_⟩|⟨dh,i1,c_,fK⟩
  ·rw[cF,dh]
  ·exfalso;have:=F2 _ i1 g c_ fK;rcases bh with rfl|bh
   ·exact jt this
   ·have bL:=Qw g this;rcases List.mem_append.1 bh with h|h
    ·exact bL.1 h
    ·exact bL.2 h
  ·exfalso;have:=F2 _ Qz g bh bI;rcases c_ with rfl|c_
   ·exact jt this
   ·have bL:=Qw g this;rcases List.mem_append.1 c_ with h|h
    ·exact bL.1 h
    ·exact bL.2 h
  ·have:=Qi bl gR v' _ _ Qz i1 g bh c_ bI fK;have hi:=hi.resolve_left cF;have av:=av.resolve_left dh;omega
 ·by_cases k5:i=id
  ·subst k5;rw[xD]at aj;cases aj;refine⟨Yt,fun g hg n5=>gF.2 g hg ?_⟩;simp only[List.mem_append]at n5⊢;grind
  ·have hi:=hi.resolve_left k5;rw[F1 i hi]at aj;have:=Qj bl gR v' a7 (List.mem_of_getElem? aj);unfold kf at this;rw[List.nodup_append]at this;exact⟨this.2.1,fun g hg n5=>this.2.2 g (by simp[hg]) g n5 rfl⟩
 ·right;by_cases k5:i=id
  ·subst k5;refine⟨_,xD,?_⟩;rw[C1];have kB:(xs.take bG).length=bG:=by simp;omega
   have hV:=hv cu n (b8 cu hs') hA;refine⟨cH,?_,b,bH,bA,us,aH,by rw[kB,List.length_drop];show bG+1+(xs.length-(bG+1))≤β.cap;omega,ca,rfl,y8,hV,fun j u av=>?_,?_⟩
   ·rw[←i6 _ _ hV,y9 _ _ _ iM];exact s6
   ·rw[kB];exact jf j u av
   ·rw[kB];exact Kk
  ·have hi:=hi.resolve_left k5;obtain⟨x,h1,h2⟩:=Qx i hi;have hl:i-n<bl.length:=by omega
   refine⟨bl[i-n],by rw[F1 i hi];exact List.getElem?_eq_getElem hl,?_⟩;rw[h2];exact tP _ _ _ (List.getElem?_eq_getElem hl) h1 _ _
 ·by_cases k5:i=id
  ·subst k5;exact .inl (r.f1 i β ai)
  ·by_cases h:n≤i∧i<n+(rHs c).length
   ·exact .inr h
   ·rw[Kl i k5 h]at aj;exact .inl (r.f1 i a7 aj)
 ·show i<hs'.length
  rw[←Km];have k1:=CG (rHs c) (b3 σ.heap id (.fR sz (xs.take bG) (rVs c σ.heap.length) (xs.drop (bG+1)))) σ.heap.length;have k2:=CZ σ.heap id (.fR sz (xs.take bG) (rVs c σ.heap.length) (xs.drop (bG+1)));rcases hi with hi|hi
  ·have:=bR i hi;omega
  ·rcases k1.2 with h|h
   ·rw[h]at hi;simp at hi;omega
   ·omega
theorem Yv{B:Nat→Prop}{w0:World}{kp:List (V×Value)}{σ:St}{a:Act}{w:World}(r:d3 B w0 kp σ a w){id sz:Nat}{pre post:List (List D)}{cells:List V}{ds:List D}{bP:List Nat}(hx:aN σ.heap id=.fR sz pre cells post)(hd:toDs σ.heap cells=some (ds,bP))(hn:bP.Nodup)
  (hf:∀i∈bP,∃s ys,aN σ.heap i=.ao s ys true∧fv ys=true):d3 B w0 kp ⟨σ.tmps,hupd (b3 σ.heap id (.ag sz (pre++ds::post))) (bP.map fun i=>(i,H.c1))⟩ a w:=by
 obtain⟨aG,φ,r,bR⟩:=r;rcases r.hp id with fY|⟨β,ai,hr⟩
 ·rw[hx]at fY;cases fY
 rw[hx]at hr;simp only[dG]at hr;obtain⟨cH,hcl,b,bH,bA,us,aH,aZ,ca,cf,eh,gJ,u1,xE⟩:=hr;obtain⟨hK,eH,gg,iI,n6⟩:=F3 r _ _ _ _ hd hn gJ;have gF:=r.d_ id β ai (by rw[hx];rfl);have Kn:id∉bP:=fun h=>by
  obtain⟨s,ys,h1,_⟩:=hf id h;rw[hx]at h1;cases h1
 have A1:∀g,(g=b∨g∈β.cS)→cN φ σ.heap id g:=by
  intro g hg;rcases hg with rfl|hg
  ·exact⟨β,ai,.inl ⟨by rw[hx];rfl,aH⟩⟩
  ·exact⟨β,ai,.inr ⟨by rw[hx];rfl,hg⟩⟩
 have Yw:∀i∈bP,∀a7,φ i=some a7→a7.cS=[]:=by
  intro i hi a7 e;obtain⟨s,ys,h1,h2⟩:=hf i hi;rcases r.hp i with fY|⟨i1,aj,hr⟩
  ·rw[h1]at fY;cases fY
  ·rw[e]at aj;cases aj;obtain⟨_,hr⟩:=Ka (by rw[h1];rfl) hr;rcases hr with hr|⟨_,_,_,_,hr⟩
   ·exact hr.2.2.2
   ·exact Cj _ _ _ _ h2 hr
 have Yx:∀g∈hK,∃i∈bP,∃a7,φ i=some a7∧jH (aN σ.heap i) a7 g:=by
  intro g hg;obtain⟨i,ew,a7,aj,dN⟩:=iI g hg;refine⟨i,ew,a7,aj,?_⟩;rcases dN with dN|⟨_,dN⟩
  ·exact .inl dN
  ·rw[Yw i ew a7 aj]at dN;cases dN
 have Ko:∀g∈hK,g≠b∧g∉β.cS:=by
  intro g hg;obtain⟨i,ew,dN⟩:=iI g hg;constructor
  ·intro h;exact Kn (r.dy i id g dN (A1 g (.inl h))▸ew)
  ·intro h;exact Kn (r.dy i id g dN (A1 g (.inr h))▸ew)
 have hin:∀i∈bP,aN (hupd (b3 σ.heap id (.ag sz (pre++ds::post))) (bP.map fun i=>(i,H.c1))) i=.c1:=by
  intro i hi;rcases u2 (bP.map fun i=>(i,H.c1)) (b3 σ.heap id (.ag sz (pre++ds::post))) i with ⟨x,h1,h2⟩|⟨h1,_⟩
  ·obtain⟨j,_,av⟩:=List.mem_map.1 h1;simp only[Prod.mk.injEq]at av;rw[h2,←av.2]
  ·exact absurd (List.mem_map.2 ⟨i,hi,rfl⟩) (h1 .c1)
 have C1:aN (hupd (b3 σ.heap id (.ag sz (pre++ds::post))) (bP.map fun i=>(i,H.c1))) id=.ag sz (pre++ds::post):=by
  rcases u2 (bP.map fun i=>(i,H.c1)) (b3 σ.heap id (.ag sz (pre++ds::post))) id with ⟨x,h1,_⟩|⟨_,h2⟩
  ·obtain⟨j,Kp,av⟩:=List.mem_map.1 h1;simp only[Prod.mk.injEq]at av;exact absurd (av.1▸Kp) Kn
  ·rw[h2,gS,if_pos rfl]
 have lI:∀i,i≠id→i∉bP→aN (hupd (b3 σ.heap id (.ag sz (pre++ds::post))) (bP.map fun i=>(i,H.c1))) i=aN σ.heap i:=by
  intro i h1 h2;rcases u2 (bP.map fun i=>(i,H.c1)) (b3 σ.heap id (.ag sz (pre++ds::post))) i with ⟨x,ak,_⟩|⟨_,ak⟩
  ·obtain⟨j,Kp,av⟩:=List.mem_map.1 ak;simp only[Prod.mk.injEq]at av;exact absurd (av.1▸Kp) h2
  ·rw[ak,gS,if_neg h1]
 have xz:(bH++(hK++bA)).Nodup:=by
  have h1:=gF.1;rw[cf]at h1 Ko;simp only[List.nodup_append,List.mem_append]at h1 Ko⊢;grind
 have sA:ds.length=sz:=by rw[←y9 _ _ _ eH,i6 _ _ gJ];exact hcl
 have aR:l7 φ (cZ φ id {β with cS:=bH++(hK++bA)}):=fun i a7 hi=>by
  by_cases h:i=id
  ·subst h;rw[ai]at hi;cases hi;exact⟨{β with cS:=bH++(hK++bA)},by simp[cZ],rfl,rfl,rfl,rfl⟩
  ·exact⟨a7,by simp[cZ,h,hi],rfl,rfl,rfl,rfl⟩
 have xD:cZ φ id {β with cS:=bH++(hK++bA)} id=some {β with cS:=bH++(hK++bA)}:=by simp[cZ]
 generalize Km:hupd (b3 σ.heap id (.ag sz (pre++ds::post))) (bP.map fun i=>(i,H.c1))=hs' at hin C1 lI⊢;have iE:∀i,(i=id∨i∈bP)→∀g,cN (cZ φ id {β with cS:=bH++(hK++bA)}) hs' i g→i=id∧(g=b∨g∈β.cS∨g∈hK):=by
  rintro i hi g ⟨a7,aj,az⟩;by_cases k5:i=id
  ·subst k5;rw[xD]at aj;cases aj;refine⟨rfl,?_⟩;rcases az with ⟨_,az⟩|⟨_,az⟩
   ·simp only[aH,Option.some.injEq]at az;exact .inl az.symm
   ·rw[cf];simp only[List.mem_append]at az⊢;grind
  ·have hi:=hi.resolve_left k5;rw[hin i hi]at az;rcases az with ⟨az,_⟩|⟨az,_⟩<;>cases az
 refine⟨aG,cZ φ id {β with cS:=bH++(hK++bA)},v7 r (fun i=>i=id∨i∈bP) _ _ hs' w (fun i hi=>⟨lI i (fun h=>hi (.inl h)) (fun h=>hi (.inr h)),if_neg (fun h=>hi (.inl h))⟩) aR (Nat.le_refl _) (fun _ _ _=>rfl)
  (fun i hi g az=>?_) (fun i hi a7 aj g ht=>?_) (fun i j g hi av h1 h2=>?_) (fun i a7 hi aj _=>?_) (fun i hi=>?_) (fun i a7 aj=>?_) r.fg,fun i hi=>?_⟩
 ·right;obtain⟨_,h⟩:=iE i hi g az;rcases h with h|h|h
  ·exact⟨id,.inl rfl,A1 g (.inl h)⟩
  ·exact⟨id,.inl rfl,A1 g (.inr h)⟩
  ·obtain⟨j,C2,Kq⟩:=iI g h;exact⟨j,.inr C2,Kq⟩
 ·right;obtain⟨_,h⟩:=iE i hi g (jH.wa aj ht);rcases h with h|h|h
  ·exact⟨id,β,.inl rfl,ai,by rw[hx];exact .inl ⟨rfl,by rw[aH,h]⟩⟩
  ·exact⟨id,β,.inl rfl,ai,by rw[hx];exact .inr ⟨rfl,h⟩⟩
  ·obtain⟨j,C2,i1,Kq,Yy⟩:=Yx g h;exact⟨j,i1,.inr C2,Kq,Yy⟩
 ·rw[(iE i hi g h1).1,(iE j av g h2).1]
 ·rcases hi with rfl|hi
  ·rw[xD]at aj;cases aj;refine⟨xz,fun g hg n5=>?_⟩;have bL:=gF.2 g hg;rw[cf]at bL;simp only[aH,Option.some.injEq]at hg;have eD:g∈hK→False:=fun h=>(Ko g h).1 hg.symm;simp only[List.mem_append]at n5 bL;grind
  ·rename_i az;rw[hin i hi]at az;cases az
 ·rcases hi with rfl|hi
  ·right;refine⟨_,xD,?_⟩;rw[C1];refine⟨cH,.inr ⟨b,aH,by simp only[List.length_append,List.length_cons];show pre.length+(post.length+1)≤β.cap;omega,ca,?_⟩⟩;refine(repE_append _ _ _ _).2 ⟨bH,hK++bA,rfl,eh,?_⟩;simp only[repE];refine⟨hK,bA,rfl,sA,y_ _ _ _ _ eH u1,?_⟩;have:β.off+pre.length * sz+sz=β.off+(pre.length+1) * sz:=by rw[Nat.add_mul];omega
   rw[this];exact xE
  ·exact .inl (hin i hi)
 ·by_cases k5:i=id
  ·subst k5;exact r.f1 i β ai
  ·exact r.f1 i a7 (by simpa [cZ,k5]using aj)
 ·show i<hs'.length
  rw[←Km];have k1:=FC (bP.map fun i=>(i,H.c1)) (b3 σ.heap id (.ag sz (pre++ds::post)));have k2:=CZ σ.heap id (.ag sz (pre++ds::post));have:=bR i hi;omega
def n7(σ σ':St):Prop:=σ'=σ∨
 (∃id bG sz xs c,aN σ.heap id=.ag sz xs∧xs[bG]?=some c∧σ'=⟨σ.tmps,hnew (b3 σ.heap id (.fR sz (xs.take bG) (rVs c σ.heap.length) (xs.drop (bG+1)))) σ.heap.length (rHs c)⟩)∨
 ∃id sz pre cells post ds bP,aN σ.heap id=.fR sz pre cells post∧toDs σ.heap cells=some (ds,bP)∧bP.Nodup∧(∀i∈bP,∃s ys,aN σ.heap i=.ao s ys true∧fv ys=true)∧σ'=⟨σ.tmps,hupd (b3 σ.heap id (.ag sz (pre++ds::post))) (bP.map fun i=>(i,H.c1))⟩
theorem n7.refl(σ:St):n7 σ σ:=.inl rfl
theorem F4{B:Nat→Prop}{w0:World}{kp:List (V×Value)}{σ σ':St}{a:Act}{w:World}(h:n7 σ σ')(r:d3 B w0 kp σ a w):d3 B w0 kp σ' a w:=by
 rcases h with rfl|⟨id,bG,sz,xs,c,h1,h2,rfl⟩|⟨id,sz,pre,cells,post,ds,bP,h1,h2,ak,aC,rfl⟩
 ·exact r
 ·exact Ys r h1 h2
 ·exact Yv r h1 h2 ak aC
def y':List V→List V→Prop
 |[],[]=>True
 |eO::vs',v::vs=>(eO=v∨eO=.ab)∧y' vs' vs
 |_,_=>False
theorem QA:∀vs:List V,y' vs vs
 |[]=>trivial
 |_::vs=>⟨.inl rfl,QA vs⟩
theorem QB:∀{vs' vs:List V},y' vs' vs→vs'.length=vs.length
 |[],[],_=>rfl
 |_::_,[],h=>h.elim
 |[],_::_,h=>h.elim
 |_::vs',_::vs,h=>by simp[QB h.2]
theorem QC:∀{vs' vs:List V} {us:List Value} {p:V×Value},y' vs' vs→p∈vs'.zip us→p.1=.ab∨p∈vs.zip us
 |[],_,us,p,_,hp=>by simp at hp
 |_::_,[],_,_,h,_=>h.elim
 |_::_,_::_,[],p,_,hp=>by simp at hp
 |eO::vs',v::vs,u::us,p,h,hp=>by
  simp only[List.zip_cons_cons,List.mem_cons]at hp⊢;rcases hp with rfl|hp
  ·rcases h.1 with e|e
   ·exact .inr (.inl (by rw[e]))
   ·exact .inl e
  ·rcases QC h.2 hp with e|e
   ·exact .inl e
   ·exact .inr (.inr e)
def gn(cQ:List Nat):Nat→List V→List V
 |_,[]=>[]
 |i,v::vs=>(bif cQ.elem i then v else .ab)::gn cQ (i+1) vs
theorem QD(cQ:List Nat):∀(i:Nat) (vs:List V),y' (gn cQ i vs) vs
 |_,[]=>trivial
 |i,v::vs=>⟨by cases h:cQ.elem i<;>simp,QD cQ (i+1) vs⟩
def af(P:Program)(kv:List V)(σ:St)(dst:Option Tmp)(f:FuncId)(d8:List V)(xF:Option (List AD))(vs:List V)(K:St→Prop):Prop:=
 (d8=[]∧((ar P f xF σ.heap vs σ.heap.length fun r=>K (σ.cK dst σ.heap.length r))∨
  ∃as rs,xF=some as∧PureCall P f as rs∧∃n8,n7 (σ.cK dst σ.heap.length ⟨lH rs σ.heap.length,(aHs rs).map H.toCln,[]⟩) n8∧K n8))∨
 ∃ts,y' ts σ.tmps∧di P f (ts++kv) σ.heap (vs++d8) fun x hs=>K ⟨gP ts dst x,hs⟩
def bareE(P:Program)(kv:List V)(σ:St)(o:Oper)(K:St→Prop):Prop:=
 match o.op with
 |.call ⟨.value x,xs,_⟩=>evg true (σ.ev x) fun v9=>fnE v9 fun f d8=>evs true σ xs.toList fun vs=>af P kv σ o.dst f d8 (toADs σ.heap vs) vs K
 |_=>opE P true σ σ.heap.length o fun r=>K (σ.cK o.dst σ.heap.length r)
def wb(P:Program)(kv:List V)(g:Bool)(σ:St)(o:Oper)(K:St→Prop):Prop:=
 s5 P g σ σ.heap.length o (fun r=>K (σ.cK o.dst σ.heap.length r))∨((g=true→bareE P kv σ o K)∧(g=false→K (σ.cK o.dst σ.heap.length (cg (.bm false (.d (.bool false)))))))
def tG(P:Program)(kv:List V)(ay:List Oper)(σ:St)(o:Oper)(K:St→Prop):Prop:=
 match o.guard with
 |none=>bareE P kv σ o K
 |some (j,i7)=>u0 ay j fun d=>xC (σ.ev (.tmp d)) i7 fun g=>wb P kv g σ o K
def opsE(P:Program)(kv:List V)(ay:List Oper):List Oper→St→(St→Prop)→Prop
 |[],σ,K=>K σ
 |o::a_,σ,K=>tG P kv ay σ o fun σ'=>opsE P kv ay a_ σ' K
theorem Yz(σ:St)(dst:Option Tmp)(r:dS):σ.heap.length+r.new.length≤(σ.cK dst σ.heap.length r).heap.length:=by
 have h1:=CG r.new σ.heap σ.heap.length;have h2:=FC r.upd (hnew σ.heap σ.heap.length r.new);simp only[St.cK];rcases h1.2 with h|h
 ·have ak:=h1.1;rw[h]at h2 ak⊢;simp only[List.length_nil];omega
 ·omega
theorem C3{aG:Nat→Prop}{σ:St}{dst:Option Tmp}{r:dS}(bR:∀i,aG i→i<σ.heap.length)(i:Nat)(hi:aG i∨(σ.heap.length≤i∧i<σ.heap.length+r.new.length)):i<(σ.cK dst σ.heap.length r).heap.length:=by
 have:=Yz σ dst r;rcases hi with hi|hi
 ·have:=bR i hi;omega
 ·omega
theorem YA{B:Nat→Prop}{w0:World}{kp:List (V×Value)}{σ:St}{o:Oper}{K:St→Prop}{fp:Act→World→Prop}{Q:Exit→Act→World→Prop}{a:Act}{w:World}
  (h:opE P true σ σ.heap.length o fun r=>K (σ.cK o.dst σ.heap.length r)) (hr:d3 B w0 kp σ a w) (hk:∀σ' u w',K σ'→d3 B w0 kp σ' (a.put o.dst u) w'→fp (a.put o.dst u) w'):o.wp P a w fp Q:=by
 obtain⟨r,h1,h2⟩:=AY h;obtain⟨aG,φ,aL,bR⟩:=hr;exact h1 σ (St.le.refl σ) (fun i hi _=>v_ hi) B w0 aG φ kp a w (fun i hi _ hd=>by have:=bR i hd;omega) aL rfl fp Q fun u w' cu i0=>hk _ u w' h2 ⟨_,cu,i0,C3 bR⟩
theorem YB{B:Nat→Prop}{w0:World}{kp:List (V×Value)}{σ:St}{a:Act}{w:World}{vs ts:List V}{us:List Value}(av:y' ts σ.tmps)(hr:d3 B w0 kp σ a w)(hv:∀aG φ,R B w0 aG φ σ kp a w→VRels φ (b8 φ σ.heap) w.heap vs us) :
  d3 B w0 (ts.zip a.tmps.toList++kp) ⟨vs,σ.heap⟩ ⟨us.toArray,[]⟩ w:=by
 obtain⟨aG,φ,r,bR⟩:=hr;refine⟨aG,φ,⟨hv aG φ r,fun p hp=>?_,r.hp,r.dy,r.d_,r.ej,r.f1,r.fg,r.bs,rfl,r.jS⟩,bR⟩;rcases List.mem_append.1 hp with hp|hp
 ·exact r.kp p (List.mem_append_left _ hp)
 rcases List.mem_append.1 hp with hp|hp
 ·rcases QC av hp with e|hp
  ·rw[e];simp[VRel]
  obtain⟨j,av,rfl⟩:=List.getElem_of_mem hp;have hl:=i6 _ _ r.gB;simp only[List.length_zip]at av;obtain⟨u,k1,k2⟩:=t0 _ _ r.gB j _ (List.getElem?_eq_getElem (by omega));rw[List.getElem?_eq_getElem (by omega)]at k1;rw[List.getElem_zip]
  cases k1;exact k2
 ·exact r.kp p (List.mem_append_right _ hp)
theorem YC{B:Nat→Prop}{w0:World}{kp:List (V×Value)}{ts:List V}{us:Array Value}{hs:List H}{x:V}{v:Value}{w:World}(hl:us.toList.length=ts.length)(dst:Option Tmp)
  (hr:d3 B w0 (ts.zip us.toList++kp) ⟨[x],hs⟩ ⟨#[v],[]⟩ w):d3 B w0 kp ⟨gP ts dst x,hs⟩ ((Act.mk us []).put dst v) w:=by
 obtain⟨aG,φ,r,bR⟩:=hr;have ht:VRels φ (b8 φ hs) w.heap ts us.toList:=by
  refine xB _ _ hl fun t eO u ai aj=>?_;have hlt:t<ts.length:=(List.getElem?_eq_some_iff.1 ai).1;have:(eO,u)∈ts.zip us.toList:=by
   have ak:(ts.zip us.toList)[t]?=some (eO,u):=by rw[List.getElem?_zip_eq_some];exact⟨ai,aj⟩
   exact List.mem_of_getElem? ak
  exact r.kp _ (List.mem_append_right _ (List.mem_append_left _ this))
 have hx:VRel φ (b8 φ hs) w.heap x v:=by
  have:=r.gB;simp only[VRels]at this;obtain⟨u,bY,e,h1,_⟩:=this
  cases e;exact h1
 have r0:R B w0 aG φ ⟨ts,hs⟩ kp ⟨us,[]⟩ w:=⟨ht,fun p hp=>r.kp p ((List.mem_append.1 hp).elim (List.mem_append_left _) fun h=>List.mem_append_right _ (List.mem_append_right _ h)),r.hp,r.dy,r.d_,r.ej,r.f1,r.fg,r.bs,rfl,r.jS⟩;exact⟨aG,φ,by have:=k4 r0 dst hx;cases dst<;>exact this,bR⟩
theorem F5{B:Nat→Prop}{w0:World}{kp:List (V×Value)}{kv:List V}(bp:kp.map (·.1)=kv){σ:St}{o:Oper}{K:St→Prop}{fp:Act→World→Prop}{Q:Exit→Act→World→Prop}{a:Act}{w:World}
  (h:bareE P kv σ o K) (hr:d3 B w0 kp σ a w) (hk:∀σ' u w',K σ'→d3 B w0 kp σ' (a.put o.dst u) w'→fp (a.put o.dst u) w'):o.wp P a w fp Q:=by
 unfold bareE at h;split at h
 ·rename_i x xs ts az;obtain⟨v9,h,hf⟩:=fb h;obtain⟨f,d8,rfl,h⟩:=Qq h;obtain⟨vs,bL,hx⟩:=CX _ _ h;clear h;unfold af at bL;rcases bL with ⟨rfl,eD⟩|eD
  ·have AX:∀{σ':St} {B:Nat→Prop} {w0:World} {aG:Nat→Prop} {φ:b2} {kp:List (V×Value)} {a:Act} {w:World},σ.le σ'→R B w0 aG φ σ' kp a w→true=true→a.eval x=.func (.func f) #[] #[]:=by
    intro σ' B w0 aG φ kp a w aR aL _;have:=hf _ _ _ _ rfl (eW aR aL x);simp only[VRel]at this;obtain⟨us,e,aj⟩:=this;simp only[VRels]at aj;rw[e];congr 1;exact Array.toList_eq_nil_iff.1 aj
   rcases eD with eD|⟨as,rs,cF,bh,n8,bI,cd⟩
   rotate_left
   ·obtain⟨r,h1,h2⟩:=FX (K:=fun r=>r=⟨lH rs σ.heap.length,(aHs rs).map H.toCln,[]⟩) (n:=σ.heap.length) (g:=true) (σ:=σ) az rfl AX hx cF bh rfl;subst h2;obtain⟨aG,φ,aL,bR⟩:=hr;exact h1 σ (St.le.refl σ) (fun i hi _=>v_ hi) B w0 aG φ kp a w (fun i hi _ hd=>by have:=bR i hd;omega) aL rfl fp Q fun u w' cu i0=>hk n8 u w' cd (F4 bI ⟨_,cu,i0,C3 bR⟩)
   have YD:∃r,fO P o true σ σ.heap.length r∧K (σ.cK o.dst σ.heap.length r):=by
    rcases eD with ⟨as,rs,h1,h2,ak⟩|⟨as,rs,h1,h2,ak⟩
    ·exact Kc (K:=fun r=>K (σ.cK o.dst σ.heap.length r)) az rfl AX hx h1 h2 ak
    ·exact FX (K:=fun r=>K (σ.cK o.dst σ.heap.length r)) az rfl AX hx h1 h2 ak
   obtain⟨r,h1,h2⟩:=YD;obtain⟨aG,φ,aL,bR⟩:=hr;exact h1 σ (St.le.refl σ) (fun i hi _=>v_ hi) B w0 aG φ kp a w (fun i hi _ hd=>by have:=bR i hd;omega) aL rfl fp Q fun u w' cu i0=>hk _ u w' h2 ⟨_,cu,i0,C3 bR⟩
  ·obtain⟨ts,av,eD⟩:=eD;obtain⟨aG,φ,aL,bR⟩:=hr;have QE:=hf _ _ _ _ rfl (xl aL x);simp only[VRel]at QE;obtain⟨cs,QF,_⟩:=QE;have hin:d3 B w0 (ts.zip a.tmps.toList++kp) ⟨vs++d8,σ.heap⟩ ⟨(xs.toList.map a.eval++cs.toList).toArray,[]⟩ w:=by
    refine YB av ⟨aG,φ,aL,bR⟩ fun xv cu c3=>?_;have h1:=hx (St.le.refl σ) c3 rfl;have h2:=hf _ _ _ _ rfl (xl c3 x);simp only[VRel]at h2;obtain⟨A2,QG,ak⟩:=h2;rw[QF]at QG
    cases QG
    exact A3 h1 ak
   have hl:=(i6 _ _ aL.gB).trans (QB av).symm;have A4:=eD B w0 (ts.zip a.tmps.toList++kp) _ w (by rw[List.map_append,bp,List.map_fst_zip (by omega)]) hin;have eF:(execOp a.eval o).run P w=(callFunc f (xs.toList.map a.eval++cs.toList).toArray).run P w:=by
    unfold execOp;rw[az];have:(xs.toList.map a.eval++cs.toList).toArray=xs.map a.eval++cs:=by
     apply Array.toList_inj.1;simp
    rw[this];simp[resolve,QF,Deferred.ofValue,invoke]
   have za:=aL.l8;have ba:∀v w',(∃x hs',K ⟨gP ts o.dst x,hs'⟩∧d3 B w0 (ts.zip a.tmps.toList++kp) ⟨[x],hs'⟩ ⟨#[v],[]⟩ w')→fp (a.put o.dst v) w':=by
    rintro v w' ⟨jX,hs',h1,h2⟩;refine hk _ v w' h1 ?_;have:=YC hl o.dst h2;rw[show a=Act.mk a.tmps []from by cases a;simp only at za;rw[za]];exact this
   unfold Oper.wp;rw[eF];unfold Does at A4;split at A4
   ·rename_i h1;rw[h1,Oper.upon_enter];refine Calls.mono A4 fun e w' he=>?_
    cases e with
    |returned v=>exact ba v w' he
    |panicked c=>exact he.elim
    |outgrown=>exact he.elim
   ·rename_i h1;rw[h1,Oper.upon_value];exact ba _ _ A4
   ·rename_i h1;rw[h1,Oper.upon_row];exact Rows.mono A4 ba
   ·exact A4.elim
 ·exact YA h hr hk
theorem QH{g:Bool}{σ:St}{n:Nat}{o:Oper}{K:dS→Prop}(h:s5 P g σ n o K):(g=true→∃r,fO P o true σ n r∧∃v,K ⟨v,r.new,r.upd⟩∧(v=r.v∨v=.bm true r.v))∧(g=false→∃v,K (cg (.bm false v))):=by
 rcases h with ⟨rfl,h⟩|⟨rfl,h⟩|h
 ·obtain⟨r,h1,h2⟩:=AY h;exact⟨fun _=>⟨r,h1,r.v,h2,.inl rfl⟩,fun e=>(by cases e)⟩
 ·exact⟨fun e=>(by cases e),fun _=>⟨_,h⟩⟩
 ·obtain⟨r,h1,h2,ak,aC⟩:=AY h;obtain⟨v,new,upd⟩:=r;simp only at h2 ak aC;subst h2;subst ak
  cases g with
  |true=>exact⟨fun _=>⟨_,h1,.bm true v,aC,.inr rfl⟩,fun e=>(by cases e)⟩
  |false=>exact⟨fun e=>(by cases e),fun _=>⟨_,aC⟩⟩
theorem QI{ay:Array Oper}{B:Nat→Prop}{w0:World}{kp:List (V×Value)}{kv:List V}(bp:kp.map (·.1)=kv){Q:Exit→Act→World→Prop}{K:St→Prop}(sY:∀σ a w,K σ→d3 B w0 kp σ a w→Q .normal a w) :
  ∀(l:List Oper) (bG:List Nat) (σ:St) (a:Act) (w:World),bG.map (ay[·]?)=l.map some→opsE P kv ay.toList l σ K→d3 B w0 kp σ a w→wpOps P ay Q bG a w
 |[],bG,σ,a,w,e,h,hr=>by
  have:bG=[]:=by simpa using e
  subst this;exact sY σ a w h hr
 |o::l,[],σ,a,w,e,h,hr=>by simp at e
 |o::l,i::bG,σ,a,w,e,h,hr=>by
  simp only[List.map_cons,List.cons.injEq]at e;simp only[opsE]at h;simp only[wpOps,e.1];have next:∀σ' u w',opsE P kv ay.toList l σ' K→d3 B w0 kp σ' (a.put o.dst u) w'→wpOps P ay Q bG (a.put o.dst u) w':=fun σ' u w' h' i0=>QI bp sY l bG σ' _ w' e.2 h' i0
  unfold tG at h;split at h
  ·rename_i hg;rw[if_pos (by simp[Region.wanted,hg])];exact .inl (F5 bp h hr next)
  ·rename_i j i7 hg;unfold u0 at h;split at h
   ·rename_i d hd;rw[Array.getElem?_toList]at hd;have key:∀g,Region.wanted o (yielded ay a.tmps)=g→wb P kv g σ o (fun σ'=>opsE P kv ay.toList l σ' K)→
      if Region.wanted o (yielded ay a.tmps)then o.wp P a w (wpOps P ay Q bG) Q∨(o.asks P a w∧LetsOut Q)else wpOps P ay Q bG (a.put o.dst undef) w:=by
     intro g hw hs;rw[hw];unfold wb at hs;rcases hs with hs|hs
     ·obtain⟨c9,dc⟩:=QH hs
      cases g with
      |true=>
       simp only[if_true];obtain⟨r,h1,v,h2,ak⟩:=c9 rfl;obtain⟨aG,φ,aL,bR⟩:=hr;refine .inl (h1 σ (St.le.refl σ) (fun i hi _=>v_ hi) B w0 aG φ kp a w (fun i hi _ hd=>by have:=bR i hd;omega) aL rfl _ _ fun u w' cu i0=>next _ u w' h2 ⟨_,cu,?_,C3 (r:=⟨v,r.new,r.upd⟩) bR⟩);rcases ak with rfl|rfl
       ·exact i0
       ·exact Ki (σ:=σ) (dst:=o.dst) i0
      |false=>
       simp only[Bool.false_eq_true,if_false];obtain⟨v,h2⟩:=dc rfl;obtain⟨aG,φ,aL,bR⟩:=hr;exact next _ undef w h2 ⟨_,φ,k4 aL o.dst (A0 v),fun i hi=>by have:=bR i hi;simpa [St.cK,cg,hnew,hupd]using this⟩
     ·cases g with
      |true=>simp only[if_true];exact .inl (F5 bp (hs.1 rfl) hr next)
      |false=>
       simp only[Bool.false_eq_true,if_false];obtain⟨aG,φ,aL,bR⟩:=hr;exact next _ undef w (hs.2 rfl) ⟨_,φ,k4 aL o.dst (A0 _),fun i hi=>by have:=bR i hi;simpa [St.cK,cg,hnew,hupd]using this⟩
    obtain⟨aG,φ,aL,bR⟩:=hr;unfold xC at h;split at h
    ·rename_i b hv;obtain⟨u,k1,k2⟩:=AZ (St.le.refl σ) aL hv (by simp);rw[lB k2]at k1;exact key _ (by simp[Region.wanted,hg,yielded,hd,k1]) h
    ·rename_i c b hv;obtain⟨u,k1,k2⟩:=AZ (St.le.refl σ) aL hv (by simp);simp only[VRel]at k2;refine key _ ?_ h
     cases c with
     |true=>
      rw[lB (φ:=φ) (T:=b8 φ σ.heap) (h:=w.heap) (b:=b) (u:=u) (by simp only[VRel];exact k2.1 rfl)]at k1;simp[Region.wanted,hg,yielded,hd,k1]
     |false=>
      rw[k2.2 rfl]at k1;simp[Region.wanted,hg,yielded,hd,k1,undef]
    ·exact h.elim
   ·exact h.elim
theorem XN{ay:Array Oper}{B:Nat→Prop}{w0:World}{kp:List (V×Value)}{kv:List V}(bp:kp.map (·.1)=kv){Q:Exit→Act→World→Prop}{K:St→Prop}{N:Act→World→Prop}{σ:St}{o:Oper}{a:Act}{w:World}(h:tG P kv ay.toList σ o K)(hr:d3 B w0 kp σ a w)
  (next:∀σ' u w',K σ'→d3 B w0 kp σ' (a.put o.dst u) w'→N (a.put o.dst u) w') :
  if Region.wanted o (yielded ay a.tmps)then o.wp P a w N Q∨(o.asks P a w∧LetsOut Q)else N (a.put o.dst undef) w:=by
 unfold tG at h;split at h
 ·rename_i hg;rw[if_pos (by simp[Region.wanted,hg])];exact .inl (F5 bp h hr next)
 ·rename_i j i7 hg;unfold u0 at h;split at h
  ·rename_i d hd;rw[Array.getElem?_toList]at hd;have key:∀g,Region.wanted o (yielded ay a.tmps)=g→wb P kv g σ o K→
     if Region.wanted o (yielded ay a.tmps)then o.wp P a w N Q∨(o.asks P a w∧LetsOut Q)else N (a.put o.dst undef) w:=by
    intro g hw hs;rw[hw];unfold wb at hs;rcases hs with hs|hs
    ·obtain⟨c9,dc⟩:=QH hs
     cases g with
     |true=>
      simp only[if_true];obtain⟨r,h1,v,h2,ak⟩:=c9 rfl;obtain⟨aG,φ,aL,bR⟩:=hr;refine .inl (h1 σ (St.le.refl σ) (fun i hi _=>v_ hi) B w0 aG φ kp a w (fun i hi _ hd=>by have:=bR i hd;omega) aL rfl _ _ fun u w' cu i0=>next _ u w' h2 ⟨_,cu,?_,C3 (r:=⟨v,r.new,r.upd⟩) bR⟩);rcases ak with rfl|rfl
      ·exact i0
      ·exact Ki (σ:=σ) (dst:=o.dst) i0
     |false=>
      simp only[Bool.false_eq_true,if_false];obtain⟨v,h2⟩:=dc rfl;obtain⟨aG,φ,aL,bR⟩:=hr;exact next _ undef w h2 ⟨_,φ,k4 aL o.dst (A0 v),fun i hi=>by have:=bR i hi;simpa [St.cK,cg,hnew,hupd]using this⟩
    ·cases g with
     |true=>simp only[if_true];exact .inl (F5 bp (hs.1 rfl) hr next)
     |false=>
      simp only[Bool.false_eq_true,if_false];obtain⟨aG,φ,aL,bR⟩:=hr;exact next _ undef w (hs.2 rfl) ⟨_,φ,k4 aL o.dst (A0 _),fun i hi=>by have:=bR i hi;simpa [St.cK,cg,hnew,hupd]using this⟩
   obtain⟨aG,φ,aL,bR⟩:=hr;unfold xC at h;split at h
   ·rename_i b hv;obtain⟨u,k1,k2⟩:=AZ (St.le.refl σ) aL hv (by simp);rw[lB k2]at k1;exact key _ (by simp[Region.wanted,hg,yielded,hd,k1]) h
   ·rename_i c b hv;obtain⟨u,k1,k2⟩:=AZ (St.le.refl σ) aL hv (by simp);simp only[VRel]at k2;refine key _ ?_ h
    cases c with
    |true=>
     rw[lB (φ:=φ) (T:=b8 φ σ.heap) (h:=w.heap) (b:=b) (u:=u) (by simp only[VRel];exact k2.1 rfl)]at k1;simp[Region.wanted,hg,yielded,hd,k1]
    |false=>
     rw[k2.2 rfl]at k1;simp[Region.wanted,hg,yielded,hd,k1,undef]
   ·exact h.elim
  ·exact h.elim
variable {P:Program}
abbrev cV:=Oper×Nat×dS
def tQ(n:Nat)(r:dS)(id:Nat):Option H:=
 match(r.upd.reverse.find? (·.1 == id))with
 |some p=>some p.2
 |none=>if n≤id∧id<n+r.new.length then some (r.new.getD (id-n) .c1)else none
theorem Ps:∀(upd:List (Nat×H)) (hs:List H) (id:Nat),aN (hupd hs upd) id=((upd.reverse.find? (·.1 == id)).map (·.2)).getD (aN hs id)
 |[],hs,id=>rfl
 |(i,x)::r,hs,id=>by
  rw[hupd,Ps r (b3 hs i x) id,gS];simp only[List.reverse_cons,List.find?_append]
  cases h:r.reverse.find? (·.1 == id)with
  |some p=>simp
  |none=>
   by_cases hi:i=id
   ·subst hi;simp
   ·have hb:(i == id)=false:=by simpa using hi
    have dn:¬id=i:=fun e=>hi e.symm;simp[hb,dn]
theorem uO(σ:St)(dst:Option Tmp)(n:Nat)(r:dS)(id:Nat):aN (σ.cK dst n r).heap id=(tQ n r id).getD (aN σ.heap id):=by
 simp only[St.cK];rw[Ps,yY];unfold tQ
 cases h:r.upd.reverse.find? (·.1 == id)with
 |some p=>simp
 |none=>
  by_cases hc:n≤id∧id<n+r.new.length
  ·simp[hc]
  ·simp[hc]
theorem xq(σ:St)(dst:Option Tmp)(n:Nat)(r:dS)(t:Nat):(σ.cK dst n r).tmps[t]?=if dst=some t then(if t<σ.tmps.length then some r.v else none)else σ.tmps[t]?:=by
 cases dst with
 |none=>simp[St.cK]
 |some d=>
  simp only[St.cK,List.getElem?_set,Option.some.injEq];by_cases h:d=t
  ·subst h;simp
  ·simp[h]
theorem yZ(σ:St)(dst:Option Tmp)(n:Nat)(r:dS):(σ.cK dst n r).tmps.length=σ.tmps.length:=by
 cases dst<;>simp[St.cK]
def apS(S:Nat→Bool):Nat→List cV→St→St
 |_,[],σ=>σ
 |k,(o,n,r)::l,σ=>apS S (k+1) l (if S k then σ.cK o.dst n r else σ)
theorem Pt(S:Nat→Bool):∀(l:List cV) (k:Nat) (σ:St),(apS S k l σ).tmps.length=σ.tmps.length
 |[],_,_=>rfl
 |(o,n,r)::l,k,σ=>by
  rw[apS,Pt S l];split
  ·exact yZ σ o.dst n r
  ·rfl
theorem Fv(S j':Nat→Bool)(t:Nat):∀(l:List cV) (k:Nat) (σ σ':St),σ.tmps[t]?=σ'.tmps[t]?→σ.tmps.length=σ'.tmps.length→(∀(j:Nat) (x:cV),l[j]?=some x→x.1.dst=some t→S (k+j)=j' (k+j))→(apS S k l σ).tmps[t]?=(apS j' k l σ').tmps[t]?
 |[],_,_,_,h,_,_=>h
 |(o,n,r)::l,k,σ,σ',h,hl,av=>by
  rw[apS,apS];have nZ:∀b c8:Bool,(if b=true then σ.cK o.dst n r else σ).tmps.length=(if c8=true then σ'.cK o.dst n r else σ').tmps.length:=by
   intro b c8;cases b<;>cases c8<;>simp[yZ,hl]
  refine Fv S j' t l (k+1) _ _ ?_ (nZ _ _) fun j x hx hd=>by
   have:=av (j+1) x (by simpa using hx) hd;rw[show k+1+j=k+(j+1)from by omega];exact this
  by_cases hd:o.dst=some t
  ·have h0:=av 0 (o,n,r) rfl hd;simp only[Nat.add_zero]at h0;rw[h0];split
   ·rw[xq,xq,if_pos hd,if_pos hd,hl]
   ·exact h
  ·have h1:∀(b:Bool) (fw:St),(if b=true then fw.cK o.dst n r else fw).tmps[t]?=fw.tmps[t]?:=by
    intro b fw;cases b
    ·rfl
    ·simp only[if_true];rw[xq,if_neg hd]
   rw[h1,h1,h]
theorem Cw(S j':Nat→Bool)(id:Nat):∀(l:List cV) (k:Nat) (σ σ':St),aN σ.heap id=aN σ'.heap id→(∀(j:Nat) (x:cV),l[j]?=some x→tQ x.2.1 x.2.2 id≠none→S (k+j)=j' (k+j))→aN (apS S k l σ).heap id=aN (apS j' k l σ').heap id
 |[],_,_,_,h,_=>h
 |(o,n,r)::l,k,σ,σ',h,av=>by
  rw[apS,apS];refine Cw S j' id l (k+1) _ _ ?_ fun j x hx hd=>by
   have:=av (j+1) x (by simpa using hx) hd;rw[show k+1+j=k+(j+1)from by omega];exact this
  by_cases hd:tQ n r id=none
  ·have h1:∀(b:Bool) (fw:St),aN (if b=true then fw.cK o.dst n r else fw).heap id=aN fw.heap id:=by
    intro b fw;cases b
    ·rfl
    ·simp only[if_true];rw[uO,hd];rfl
   rw[h1,h1,h]
  ·have h0:=av 0 (o,n,r) rfl hd;simp only[Nat.add_zero]at h0;rw[h0];split
   ·rw[uO,uO,h]
   ·exact h
theorem Pu(S:Nat→Bool)(t:Nat):∀(l:List cV) (k:Nat) (σ:St) (i:Nat) (x:cV),l[i]?=some x→x.1.dst=some t→S (k+i)=true→(∀(j:Nat) (y:cV),i<j→l[j]?=some y→y.1.dst=some t→S (k+j)=false)→(apS S k l σ).tmps[t]?=if t<σ.tmps.length then some x.2.2.v else none
 |[],_,_,i,_,hi,_,_,_=>by simp at hi
 |(o,n,r)::l,k,σ,0,x,hi,hd,hs,hl=>by
  simp at hi;subst hi;rw[apS];simp only[Nat.add_zero]at hs;rw[hs];have:=Fv S (fun _=>false) t l (k+1) (σ.cK o.dst n r) (σ.cK o.dst n r) rfl rfl fun j y hy fY=>by
   have:=hl (j+1) y (by omega) (by simpa using hy) fY;rw[show k+1+j=k+(j+1)from by omega];exact this
  simp only[if_true];rw[this];have d6:∀(l:List cV) (k:Nat) (fw:St),apS (fun _=>false) k l fw=fw:=by
   intro l
   induction l with
   |nil=>intro k fw;rfl
   |cons y l dx=>intro k fw;obtain⟨o,n,r⟩:=y;rw[apS];simpa using dx (k+1) fw
  rw[d6,xq,if_pos hd]
 |(o,n,r)::l,k,σ,i+1,x,hi,hd,hs,hl=>by
  rw[apS,Pu S t l (k+1) _ i x (by simpa using hi) hd (by rw[show k+1+i=k+(i+1)from by omega];exact hs) fun j y mO hy fY=>by
   have:=hl (j+1) y (by omega) (by simpa using hy) fY;rw[show k+1+j=k+(j+1)from by omega];exact this]
  split
  ·rw[yZ]
  ·rfl
theorem Pv(S:Nat→Bool)(id:Nat):∀(l:List cV) (k:Nat) (σ:St) (i:Nat) (x:cV) (y:H),l[i]?=some x→tQ x.2.1 x.2.2 id=some y→S (k+i)=true→(∀(j:Nat) (z:cV),i<j→l[j]?=some z→tQ z.2.1 z.2.2 id≠none→S (k+j)=false)→aN (apS S k l σ).heap id=y
 |[],_,_,i,_,_,hi,_,_,_=>by simp at hi
 |(o,n,r)::l,k,σ,0,x,y,hi,hd,hs,hl=>by
  simp at hi;subst hi;rw[apS];simp only[Nat.add_zero]at hs;rw[hs];have:=Cw S (fun _=>false) id l (k+1) (σ.cK o.dst n r) (σ.cK o.dst n r) rfl fun j y hy fY=>by
   have:=hl (j+1) y (by omega) (by simpa using hy) fY;rw[show k+1+j=k+(j+1)from by omega];exact this
  simp only[if_true];rw[this];have d6:∀(l:List cV) (k:Nat) (fw:St),apS (fun _=>false) k l fw=fw:=by
   intro l
   induction l with
   |nil=>intro k fw;rfl
   |cons y l dx=>intro k fw;obtain⟨o,n,r⟩:=y;rw[apS];simpa using dx (k+1) fw
  rw[d6,uO,hd];rfl
 |(o,n,r)::l,k,σ,i+1,x,y,hi,hd,hs,hl=>by
  rw[apS];exact Pv S id l (k+1) _ i x y (by simpa using hi) hd (by rw[show k+1+i=k+(i+1)from by omega];exact hs) fun j z mO hz fY=>by
   have:=hl (j+1) z (by omega) (by simpa using hz) fY;rw[show k+1+j=k+(j+1)from by omega];exact this
theorem Pw{B:Nat→Prop}{w0:World}{aG:Nat→Prop}{φ:b2}{ts ts':List V}{hs hs':List H}{kp:List (V×Value)}{a:Act}{w:World}(r:R B w0 aG φ ⟨ts,hs⟩ kp a w)(ht:ts'=ts)(h:∀i,aN hs' i=aN hs i):R B w0 aG φ ⟨ts',hs'⟩ kp a w:=by
 subst ht;have ai:b8 φ hs'=b8 φ hs:=by funext b;simp only[b8,h]
 have aj:∀i b,cN φ hs' i b=cN φ hs i b:=by intro i b;simp only[cN,h]
 refine⟨by simp only[ai];exact r.gB,by simp only[ai];exact r.kp,fun i=>by simp only[ai,h];exact r.hp i,fun i j b h1 h2=>?_,fun i β e hx=>r.d_ i β e (by simp only[h]at hx;exact hx),fun i b h1=>r.ej i b (by rw[←aj];exact h1),r.f1,r.fg,r.bs,r.l8,r.jS⟩;simp only[aj]at h1 h2;exact r.dy i j b h1 h2
inductive bt where
 |pre
 |cY
 |post
 deriving DecidableEq
abbrev bt.p:bt:=.post
abbrev bt.q:bt:=.pre
abbrev bt.u:bt:=.cY
def l'(rows:List (List bt))(i j:Nat):bt:=(rows.getD i []).getD j .post
def AF(ay:List Oper)(i j:Nat):Bool:=match ay[i]? with|some o=>o.after.toList.any fun e=>Region.binds .any e&&e.on == j|none=>false
def AG(ay:List Oper)(rows:List (List bt))(m i j:Nat):Bool:=
 (match l' rows i j with
  |.pre=>decide (j<i)&&(AF ay i j||(List.range m).any fun k=>AF ay i k&&decide (l' rows k j=.pre)&&decide (k<i))
  |.post=>decide (j=i)||decide (l' rows j i=.pre)
  |.cY=>decide (j≠i)&&decide (l' rows j i=.cY)) &&
 (decide (j=i)||match ay[i]?,ay[j]? with|some x,some y=>decide (x.dst=none)||decide (x.dst≠y.dst)|_,_=>true)
def sW(ay:List Oper)(rows:List (List bt)):Bool:=
 decide (rows.length=ay.length)&&(List.range ay.length).all fun i=>((match ay[i]? with|some o=>o.after.toList.all fun e=>!Region.binds .any e||decide (e.on<i)|none=>true))&&(List.range ay.length).all fun j=>AG ay rows ay.length i j
theorem Fw{ay:List Oper}{rows:List (List bt)}(h:sW ay rows=true){i j:Nat}(hi:i<ay.length)(av:j<ay.length):AG ay rows ay.length i j=true:=by
 simp only[sW,Bool.and_eq_true,List.all_eq_true,List.mem_range]at h;exact(h.2 i hi).2 j av
theorem Xq{ay:List Oper}{rows:List (List bt)}(h:sW ay rows=true){i:Nat}{o:Oper}(hi:ay[i]?=some o){e:Edge}(he:e∈o.after.toList)(hb:Region.binds .any e=true):e.on<i:=by
 have hlt:i<ay.length:=(List.getElem?_eq_some_iff.1 hi).1;simp only[sW,Bool.and_eq_true,List.all_eq_true,List.mem_range]at h;have:=(h.2 i hlt).1;rw[hi]at this;simp only[List.all_eq_true]at this;have:=this e he;simpa [hb]using this
theorem Px{ay:List Oper}{rows:List (List bt)}(h:sW ay rows=true){i j:Nat}(hi:i<ay.length)(av:j<ay.length)(hr:l' rows i j=.pre):j<i∧(AF ay i j=true∨∃k,AF ay i k=true∧l' rows k j=.pre∧k<i):=by
 have:=Fw h hi av;unfold AG at this;rw[hr]at this;simp only[Bool.and_eq_true,Bool.or_eq_true,decide_eq_true_eq,List.any_eq_true,List.mem_range]at this;refine⟨this.1.1,this.1.2.imp id ?_⟩;rintro⟨k,_,⟨h1,h2⟩,ak⟩;exact⟨k,h1,h2,ak⟩
theorem Xr{ay:List Oper}{rows:List (List bt)}(h:sW ay rows=true){i j:Nat}(hi:i<ay.length)(av:j<ay.length)(hr:l' rows i j=.post):j=i∨l' rows j i=.pre:=by
 have:=Fw h hi av;unfold AG at this;rw[hr]at this;simp only[Bool.and_eq_true,Bool.or_eq_true,decide_eq_true_eq]at this;exact this.1
theorem Xs{ay:List Oper}{rows:List (List bt)}(h:sW ay rows=true){i j:Nat}(hi:i<ay.length)(av:j<ay.length)(hr:l' rows i j=.cY):l' rows j i=.cY:=by
 have:=Fw h hi av;unfold AG at this;rw[hr]at this;simp only[Bool.and_eq_true,decide_eq_true_eq]at this;exact this.1.2
theorem Xt{ay:List Oper}{rows:List (List bt)}(h:sW ay rows=true){i j:Nat}{x y:Oper}(hx:ay[i]?=some x)(hy:ay[j]?=some y)(hne:j≠i){d:Tmp}(hd:x.dst=some d):y.dst≠some d:=by
 have hi:i<ay.length:=(List.getElem?_eq_some_iff.1 hx).1;have av:j<ay.length:=(List.getElem?_eq_some_iff.1 hy).1;have:=Fw h hi av;unfold AG at this;simp only[Bool.and_eq_true,Bool.or_eq_true,decide_eq_true_eq,hne,false_or,hx,hy,hd]at this;rcases this.2 with h1|h1
 ·cases h1
 ·exact fun e=>h1 e.symm
def tR(ts:List V)(d:Option Tmp):List V:=match d with|some t=>ts.set t .ab|none=>ts
def kilH:List H→List (Nat×H)→List H
 |hs,[]=>hs
 |hs,(i,_)::r=>kilH (b3 hs i .c1) r
def mask:List bt→List cV→List Oper→St→St
 |.pre::row,(o,n,r)::l,a_,σ=>mask row l a_ (σ.cK o.dst n r)
 |.cY::row,(o,_,r)::l,a_,σ=>mask row l a_ ⟨tR σ.tmps o.dst,kilH σ.heap r.upd⟩
 |.post::row,_::l,a_,σ=>mask row l a_ σ
 |.cY::row,[],o::a_,σ=>mask row [] a_ ⟨tR σ.tmps o.dst,σ.heap⟩
 |.pre::row,[],_::a_,σ=>mask row [] a_ σ
 |.post::row,[],_::a_,σ=>mask row [] a_ σ
 |[],_,_,σ=>σ
 |_::_,[],[],σ=>σ
theorem JK:∀(upd:List (Nat×H)) (hs:List H) (id:Nat),aN (kilH hs upd) id=.c1∨(aN (kilH hs upd) id=aN hs id∧∀x,(id,x)∉upd)
 |[],hs,id=>.inr ⟨rfl,by simp⟩
 |(i,y)::r,hs,id=>by
  rw[kilH];rcases JK r (b3 hs i .c1) id with h|⟨h1,h2⟩
  ·exact .inl h
  ·rw[gS]at h1;by_cases hi:id=i
   ·rw[if_pos hi]at h1;exact .inl h1
   ·rw[if_neg hi]at h1;exact .inr ⟨h1,fun x hx=>by
     rcases List.mem_cons.1 hx with hx|hx
     ·cases hx;exact hi rfl
     ·exact h2 x hx⟩
theorem xr{n:Nat}{r:dS}{id:Nat}(h1:∀x,(id,x)∉r.upd)(h2:¬(n≤id∧id<n+r.new.length)):tQ n r id=none:=by
 unfold tQ;rw[if_neg h2]
 cases h:r.upd.reverse.find? (·.1 == id)with
 |none=>rfl
 |some p=>
  exfalso;have hm:=List.mem_of_find?_eq_some h;have hp:=List.find?_some h;simp only[beq_iff_eq]at hp;exact h1 p.2 (by rw[←hp];simpa using hm)
def Asc:Nat→List cV→Prop
 |_,[]=>True
 |c,(_,n,r)::l=>n=c∧(∀p∈r.upd,p.1<n+r.new.length)∧Asc (c+r.new.length) l
structure AH(i5 ma:St):Prop where
 len:i5.tmps.length=ma.tmps.length
 gB:∀(t:Nat) (v:V),i5.tmps[t]?=some v→v=.ab∨ma.tmps[t]?=some v
 hp:∀i,aN i5.heap i=.c1∨aN ma.heap i=aN i5.heap i
theorem AH.cK{i5 ma:St}(h:AH i5 ma)(dst:Option Tmp)(n:Nat)(r:dS):AH (i5.cK dst n r) (ma.cK dst n r):=by
 refine⟨by rw[yZ,yZ,h.len],fun t v e=>?_,fun i=>?_⟩
 ·rw[xq]at e⊢;by_cases hd:dst=some t
  ·rw[if_pos hd]at e⊢;rw[←h.len];exact .inr e
  ·rw[if_neg hd]at e⊢;exact h.gB t v e
 ·rw[uO,uO]
  cases tQ n r i with
  |none=>exact h.hp i
  |some x=>exact .inr rfl
theorem Py(ts:List V)(d:Option Tmp)(t:Nat)(v:V)(h:(tR ts d)[t]?=some v):v=.ab∨(ts[t]?=some v∧d≠some t):=by
 cases d with
 |none=>exact .inr ⟨h,by simp⟩
 |some x=>
  simp only[tR,List.getElem?_set]at h;by_cases hx:x=t
  ·rw[if_pos hx]at h;split at h
   ·cases h;exact .inl rfl
   ·cases h
  ·rw[if_neg hx]at h;exact .inr ⟨h,fun e=>hx (Option.some.inj e)⟩
theorem Pz(ts:List V)(d:Option Tmp):(tR ts d).length=ts.length:=by cases d<;>simp[tR]
theorem Cx:∀(row:List bt) (a_:List Oper) (σ:St),(mask row [] a_ σ).heap=σ.heap
 |[],[],_=>rfl
 |[],_::_,_=>rfl
 |.pre::_,[],_=>rfl
 |.cY::_,[],_=>rfl
 |.post::_,[],_=>rfl
 |.pre::row,_::a_,σ=>Cx row a_ σ
 |.cY::row,o::a_,σ=>Cx row a_ ⟨tR σ.tmps o.dst,σ.heap⟩
 |.post::row,_::a_,σ=>Cx row a_ σ
theorem AI(S:Nat→Bool):∀(row:List bt) (l:List cV) (a_:List Oper) (tail:List cV) (k c:Nat) (i5 ma:St),tail.map (·.1)=a_→row.length=l.length+a_.length→Asc c (l++tail)→AH i5 ma→(∀id,c≤id→aN i5.heap id=.c1)→
  (∀j,row[j]?=some .pre→j<l.length∧S (k+j)=true)→(∀j,row[j]?=some .post→S (k+j)=false)→(∀(j:Nat) (x:cV),row[j]?=some .cY→l.length≤j→tail[j-l.length]?=some x→S (k+j)=true→∀p∈x.2.2.upd,aN (mask row l a_ i5).heap p.1=.c1)→
  AH (mask row l a_ i5) (apS S k (l++tail) ma)
 |[],l,a_,tail,k,c,i5,ma,ht,hl,_,h,_,_,_,_=>by
  have h1:l=[]:=List.eq_nil_of_length_eq_zero (by simp at hl;omega);have h2:a_=[]:=List.eq_nil_of_length_eq_zero (by simp at hl;omega);subst h1;subst h2;have ak:tail=[]:=by simpa using ht
  subst ak;simpa [mask,apS]using h
 |x::row,(o,n,r)::l,a_,tail,k,c,i5,ma,ht,hl,ha,h,hd,hp,hq,hu=>by
  simp only[List.cons_append,Asc]at ha;obtain⟨rfl,PA,AJ⟩:=ha;rw[List.cons_append,apS];have AK:∀j,row[j]?=some .pre→j<l.length∧S (k+1+j)=true:=fun j av=>by
   have:=hp (j+1) (by simpa using av);rw[show k+1+j=k+(j+1)from by omega];exact⟨by simpa using this.1,this.2⟩
  have nM:∀j,row[j]?=some .post→S (k+1+j)=false:=fun j av=>by
   have:=hq (j+1) (by simpa using av);rw[show k+1+j=k+(j+1)from by omega];exact this
  have mb:∀(j:Nat) (jX:cV),row[j]?=some .cY→l.length≤j→tail[j-l.length]?=some jX→S (k+1+j)=true→∀p∈jX.2.2.upd,aN (mask (x::row) ((o,n,r)::l) a_ i5).heap p.1=.c1:=fun j x h1 h2 ak aC=>by
   refine hu (j+1) x (by simpa using h1) (by simp;omega) ?_ (by rw[show k+(j+1)=k+1+j from by omega];exact aC);simpa using ak
  have JL:∀id,n+r.new.length≤id→∀y,(id,y)∉r.upd:=fun id d6 y hy=>by have:=PA _ hy;simp only at this;omega
  cases x with
  |pre=>
   have h0:=(hp 0 rfl).2;simp only[Nat.add_zero]at h0;rw[h0];simp only[if_true,mask];refine AI S row l a_ tail (k+1) _ _ _ ht (by simpa [Nat.add_right_comm]using hl) AJ (h.cK o.dst n r) (fun id d6=>?_) AK nM mb;rw[uO,xr (JL id d6) (by omega)];exact hd id (by omega)
  |cY=>
   simp only[mask];refine AI S row l a_ tail (k+1) _ _ _ ht (by simpa [Nat.add_right_comm]using hl) AJ ?_ (fun id d6=>?_) AK nM mb
   ·refine⟨?_,fun t v e=>?_,fun i=>?_⟩
    ·simp only[Pz];rw[h.len];split
     ·rw[yZ]
     ·rfl
    ·rcases Py _ _ _ _ e with h1|⟨h1,h2⟩
     ·exact .inl h1
     ·split
      ·rw[xq,if_neg h2];exact h.gB t v h1
      ·exact h.gB t v h1
    ·rcases JK r.upd i5.heap i with h1|⟨h1,h2⟩
     ·exact .inl h1
     ·rw[h1];split
      ·by_cases hr:n≤i∧i<n+r.new.length
       ·exact .inl (hd i hr.1)
       ·rw[uO,xr h2 hr];exact h.hp i
      ·exact h.hp i
   ·rcases JK r.upd i5.heap id with h1|⟨h1,h2⟩
    ·exact h1
    ·rw[h1];exact hd id (by omega)
  |post=>
   have h0:=hq 0 rfl;simp only[Nat.add_zero]at h0;rw[h0];simp only[Bool.false_eq_true,if_false,mask];exact AI S row l a_ tail (k+1) _ _ _ ht (by simpa [Nat.add_right_comm]using hl) AJ h (fun id d6=>hd id (by omega)) AK nM mb
 |x::row,[],[],tail,k,c,i5,ma,ht,hl,_,_,_,_,_,_=>by simp at hl
 |x::row,[],o::a_,tail,k,c,i5,ma,ht,hl,ha,h,hd,hp,hq,hu=>by
  cases tail with
  |nil=>simp at ht
  |cons y tail=>
   obtain⟨xt,n,r⟩:=y;simp only[List.map_cons,List.cons.injEq]at ht;obtain⟨rfl,ht⟩:=ht;simp only[List.nil_append,Asc]at ha;obtain⟨rfl,PA,AJ⟩:=ha;simp only[List.nil_append,apS];have AK:∀j,row[j]?=some .pre→j<([]:List cV).length∧S (k+1+j)=true:=fun j av=>by
    have:=(hp (j+1) (by simpa using av)).1;simp at this
   have nM:∀j,row[j]?=some .post→S (k+1+j)=false:=fun j av=>by
    have:=hq (j+1) (by simpa using av);rw[show k+1+j=k+(j+1)from by omega];exact this
   have mb:∀(fw:St),fw.heap=i5.heap→∀(j:Nat) (jX:cV),row[j]?=some .cY→([]:List cV).length≤j→tail[j-([]:List cV).length]?=some jX→S (k+1+j)=true→∀p∈jX.2.2.upd,aN (mask row [] a_ fw).heap p.1=.c1:=fun fw Xu j jX h1 h2 ak aC p hp=>by
    have:=hu (j+1) jX (by simpa using h1) (by simp) (by simpa using ak) (by rw[show k+(j+1)=k+1+j from by omega];exact aC) p hp;rw[Cx]at this⊢;rw[Xu];exact this
   have nZ:row.length=([]:List cV).length+a_.length:=by simp at hl⊢;omega
   have fY:∀id,n+r.new.length≤id→aN i5.heap id=.c1:=fun id d6=>hd id (by omega)
   cases x with
   |pre=>have:=(hp 0 rfl).1;simp at this
   |cY=>
    simp only[mask];have:=AI S row [] a_ tail (k+1) _ ⟨tR i5.tmps xt.dst,i5.heap⟩ (if S k=true then ma.cK xt.dst n r else ma) ht nZ (by simpa using AJ) ?_ fY AK nM (mb _ rfl)
    ·simpa using this
    ·refine⟨?_,fun t v e=>?_,fun i=>?_⟩
     ·simp only[Pz];rw[h.len];split
      ·rw[yZ]
      ·rfl
     ·rcases Py _ _ _ _ e with h1|⟨h1,h2⟩
      ·exact .inl h1
      ·split
       ·rw[xq,if_neg h2];exact h.gB t v h1
       ·exact h.gB t v h1
     ·split
      ·rename_i hs;have Xv:=hu 0 (xt,n,r) rfl (by simp) (by simp) hs;by_cases hr:n≤i∧i<n+r.new.length
       ·exact .inl (hd i hr.1)
       ·by_cases hx:∃z,(i,z)∈r.upd
        ·obtain⟨z,hz⟩:=hx;have:=Xv (i,z) hz;rw[Cx]at this;exact .inl this
        ·rw[uO,xr (fun z hz=>hx ⟨z,hz⟩) hr];exact h.hp i
      ·exact h.hp i
   |post=>
    have h0:=hq 0 rfl;simp only[Nat.add_zero]at h0;rw[h0];simp only[Bool.false_eq_true,if_false,mask];have:=AI S row [] a_ tail (k+1) _ i5 ma ht nZ (by simpa using AJ) h fY AK nM (mb _ rfl);simpa using this
def anyE(P:Program)(ay:List Oper)(dH:St):List (List bt)→List Oper→List cV→Nat→(List cV→Prop)→Prop
 |row::rows,o::a_,l,n,K=>stepE P ay (mask row l (o::a_) dH) n o fun r=>anyE P ay dH rows a_ (l++[(o,n,r)]) (n+r.new.length) K
 |_,[],l,_,K=>K l
 |[],_::_,_,_,_=>False
def JM:Nat→List cV→Prop
 |_,[]=>True
 |c,(_,n,r)::l=>n=c∧JM (c+r.new.length) l
theorem PB{ay:Array Oper}{dH:St}:∀(a_:List Oper) (rows:List (List bt)) (l:List cV) (n:Nat) (K:List cV→Prop),anyE P ay.toList dH rows a_ l n K→
  ∃tail:List cV,tail.map (·.1)=a_∧K (l++tail)∧JM n tail∧∀(j:Nat) (x:cV),tail[j]?=some x→∃row,rows[j]?=some row∧Fx P ay x.1 (mask row (l++tail.take j) (a_.drop j) dH) x.2.1 x.2.2
 |[],rows,l,n,K,h=>by
  have:K l:=by cases rows<;>exact h
  exact⟨[],rfl,by simpa using this,trivial,by simp⟩
 |o::a_,[],l,n,K,h=>h.elim
 |o::a_,row::rows,l,n,K,h=>by
  simp only[anyE]at h;obtain⟨r,h1,h2⟩:=Xw h;obtain⟨tail,fT,f2,vY,uP⟩:=PB a_ rows _ _ K h2;refine⟨(o,n,r)::tail,by simp[fT],by simpa using f2,⟨rfl,vY⟩,fun j x av=>?_⟩
  cases j with
  |zero=>simp at av;subst av;exact⟨row,rfl,by simpa using h1⟩
  |succ j=>
   obtain⟨Cy,k1,k2⟩:=uP j x (by simpa using av);exact⟨Cy,by simpa using k1,by simpa using k2⟩
def allPre:List bt→Bool
 |[]=>true
 |.pre::r=>allPre r
 |_::_=>false
def Cz(b:Nat):List (Nat×H)→Prop
 |[]=>True
 |(i,_)::r=>i<b∧Cz b r
def updE:List (List bt)→Nat→List cV→Prop
 |row::rows,i,(_,n,r)::l=>(match r.upd with|[]=>True|_::_=>allPre (row.take i)=true)∧Cz (n+r.new.length) r.upd∧updE rows (i+1) l
 |_,_,[]=>True
 |[],_,_::_=>False
def xu(x:cV)(id:Nat):Bool:=!(decide (x.2.1≤id)&&decide (id<x.2.1+x.2.2.new.length))&&!(x.2.2.upd.any fun q=>q.1 == id)
def JN:H→Bool
 |.c1=>true
 |_=>false
def okR(dH:St)(bP:List Nat):List bt→List (List bt)→List cV→List cV→List Oper→Bool
 |r::row,sX::rows,pre,x::l,o::ay=>(match r with|.pre=>true|_=>bP.all fun id=>JN (aN (mask sX pre (o::ay) dH).heap id)&&xu x id)&&okR dH bP row rows (pre++[x]) l ay
 |_,_,_,[],_=>true
 |_,_,_,_::_,_=>false
def Fy(dH:St)(row:List bt)(rows:List (List bt))(pre:List cV)(ay:List Oper):List (Nat×H)→Bool
 |[]=>true
 |p::u=>okR dH (p.1::u.map (·.1)) row rows [] pre ay
def CA(dH:St)(CB:List (List bt))(CC:List Oper):List (List bt)→List cV→List cV→Prop
 |row::rows,pre,(o,n,r)::l=>Fy dH row CB pre CC r.upd=true∧Cz (n+r.new.length) r.upd∧CA dH CB CC rows (pre++[(o,n,r)]) l
 |_,_,[]=>True
 |[],_,_::_=>False
theorem PC{x:H}(h:JN x=true):x=.c1:=by cases x<;>first|rfl|cases h
theorem PD{dH:St}{bP:List Nat}:∀{l:List cV} {row:List bt} {rows:List (List bt)} {pre:List cV} {ay:List Oper},okR dH bP row rows pre l ay=true→∀(k:Nat) (y:cV) (ρ:bt),l[k]?=some y→row[k]?=some ρ→ρ≠.pre→∀id∈bP,
  ∃sX,rows[k]?=some sX∧aN (mask sX (pre++l.take k) (ay.drop k) dH).heap id=.c1∧xu y id=true
 |[],_,_,_,_,_,k,y,ρ,hy,_,_,_,_=>by simp at hy
 |x::l,[],_,_,_,h,_,_,_,_,_,_,_,_=>by simp[okR]at h
 |x::l,_::_,[],_,_,h,_,_,_,_,_,_,_,_=>by simp[okR]at h
 |x::l,_::_,_::_,_,[],h,_,_,_,_,_,_,_,_=>by simp[okR]at h
 |x::l,r::row,sX::rows,pre,o::ay,h,k,y,ρ,hy,hr,hne,id,d6=>by
  simp only[okR,Bool.and_eq_true]at h
  cases k with
  |zero=>
   simp at hy hr;subst hy;subst hr;have h1:=h.1;refine⟨sX,rfl,?_⟩
   cases r with
   |pre=>exact absurd rfl hne
   |cY=>
    simp only[List.all_eq_true,Bool.and_eq_true]at h1;obtain⟨ak,aC⟩:=h1 id d6;exact⟨by simpa using PC ak,aC⟩
   |post=>
    simp only[List.all_eq_true,Bool.and_eq_true]at h1;obtain⟨ak,aC⟩:=h1 id d6;exact⟨by simpa using PC ak,aC⟩
  |succ k=>
   obtain⟨Xx,k1,k2,dw⟩:=PD h.2 k y ρ (by simpa using hy) (by simpa using hr) hne id d6;exact⟨Xx,by simpa using k1,by simpa using k2,dw⟩
theorem PE:∀{row:List bt},allPre row=true→∀(j:Nat) (x:bt),row[j]?=some x→x=.pre
 |[],_,j,x,h=>by simp at h
 |y::row,h,j,x,hx=>by
  cases y<;>simp only[allPre]at h
  ·cases j with
   |zero=>simp at hx;exact hx.symm
   |succ j=>exact PE h j x (by simpa using hx)
  ·cases h
  ·cases h
theorem JO{b:Nat}:∀{upd:List (Nat×H)},Cz b upd→∀p∈upd,p.1<b
 |[],_,p,hp=>by cases hp
 |(i,x)::r,h,p,hp=>by
  rcases List.mem_cons.1 hp with rfl|hp
  ·exact h.1
  ·exact JO h.2 p hp
theorem JP{dH:St}{CB:List (List bt)}{CC:List Oper}:∀{l:List cV} {rows:List (List bt)} {pre:List cV},CA dH CB CC rows pre l→∀(j:Nat) (x:cV),l[j]?=some x→∃row,rows[j]?=some row∧Fy dH row CB (pre++l.take j) CC x.2.2.upd=true∧∀p∈x.2.2.upd,p.1<x.2.1+x.2.2.new.length
 |[],_,_,_,j,x,h=>by simp at h
 |(o,n,r)::l,[],_,h,j,x,hx=>h.elim
 |(o,n,r)::l,row::rows,pre,h,j,x,hx=>by
  obtain⟨h1,h2,ak⟩:=h
  cases j with
  |zero=>simp at hx;subst hx;exact⟨row,rfl,by simpa using h1,JO h2⟩
  |succ j=>
   obtain⟨Cy,k1,k2,dw⟩:=JP ak j x (by simpa using hx);exact⟨Cy,by simpa using k1,by simpa using k2,dw⟩
theorem JQ:∀{l:List cV} {rows:List (List bt)} {i:Nat},updE rows i l→∀(j:Nat) (x:cV),l[j]?=some x→∃row,rows[j]?=some row∧(x.2.2.upd=[]∨∀k,k<i+j→k<row.length→row[k]?=some .pre)∧∀p∈x.2.2.upd,p.1<x.2.1+x.2.2.new.length
 |[],_,_,_,j,x,h=>by simp at h
 |(o,n,r)::l,[],i,h,j,x,hx=>h.elim
 |(o,n,r)::l,row::rows,i,h,j,x,hx=>by
  obtain⟨h1,h2,ak⟩:=h
  cases j with
  |zero=>
   simp at hx;subst hx;refine⟨row,rfl,?_,JO h2⟩
   cases hu:r.upd with
   |nil=>exact .inl rfl
   |cons p ps=>
    rw[hu]at h1;right;intro k hk nQ;have Xy:k<(row.take i).length:=by simp;omega
    have:=PE h1 k _ (List.getElem?_eq_getElem Xy);rw[List.getElem?_eq_getElem nQ];rw[List.getElem_take]at this;rw[this]
  |succ j=>
   obtain⟨Cy,k1,k2,dw⟩:=JQ ak j x (by simpa using hx);exact⟨Cy,by simpa using k1,k2.imp id fun h k hk=>h k (by omega),dw⟩
theorem PF{c:Nat}:∀{l:List cV},JM c l→(∀(j:Nat) (x:cV),l[j]?=some x→∀p∈x.2.2.upd,p.1<x.2.1+x.2.2.new.length)→Asc c l
 |[],_,_=>trivial
 |(o,n,r)::l,h,hu=>⟨h.1,hu 0 (o,n,r) rfl,PF h.2 fun j x hx=>hu (j+1) x (by simpa using hx)⟩
theorem CD{c:Nat}:∀{l:List cV},Asc c l→∀(j:Nat) (x:cV),l[j]?=some x→c≤x.2.1∧(∀p∈x.2.2.upd,p.1<x.2.1+x.2.2.new.length)∧∀(k:Nat) (y:cV),j<k→l[k]?=some y→x.2.1+x.2.2.new.length≤y.2.1
 |[],_,j,x,h=>by simp at h
 |(o,n,r)::l,h,j,x,hx=>by
  obtain⟨rfl,h1,h2⟩:=h
  cases j with
  |zero=>
   simp at hx;subst hx;refine⟨Nat.le_refl _,h1,fun k y hk hy=>?_⟩
   cases k with
   |zero=>omega
   |succ k=>exact(CD h2 k y (by simpa using hy)).1
  |succ j=>
   obtain⟨k1,k2,dw⟩:=CD h2 j x (by simpa using hx);refine⟨by omega,k2,fun k y hk hy=>?_⟩
   cases k with
   |zero=>omega
   |succ k=>exact dw k y (by omega) (by simpa using hy)
theorem PG{p q:Nat→Bool}:∀(l:List Nat) (x:Nat),x∈l→(∀y,p y=true→q y=true)→q x=true→p x=false→l.countP p<l.countP q
 |[],x,h,_,_,_=>by cases h
 |y::l,x,h,JR,hq,hp=>by
  have aR:l.countP p≤l.countP q:=List.countP_mono_left fun z _=>JR z;rcases List.mem_cons.1 h with rfl|h
  ·rw[List.countP_cons_of_neg (by simp[hp]),List.countP_cons_of_pos hq];omega
  ·have:=PG l x h JR hq hp;by_cases hy:p y=true
   ·rw[List.countP_cons_of_pos hy,List.countP_cons_of_pos (JR y hy)];omega
   ·rw[List.countP_cons_of_neg hy];by_cases PH:q y=true
    ·rw[List.countP_cons_of_pos PH];omega
    ·rw[List.countP_cons_of_neg PH];exact this
structure PI(P:Program)(ay:Array Oper)(rows:List (List bt))(its:List cV)(dH:St):Prop where
 y0:sW ay.toList rows=true
 fst:its.map (·.1)=ay.toList
 lE:Asc dH.heap.length its
 upd:∀(i:Nat) (x:cV),its[i]?=some x→∀p∈x.2.2.upd,∀(k:Nat) (y:cV),k<i→its[k]?=some y→l' rows i k≠.pre→∃sX,rows[k]?=some sX∧aN (mask sX (its.take k) (ay.toList.drop k) dH).heap p.1=.c1∧xu y p.1=true
 tS:∀(i:Nat) (row:List bt),rows[i]?=some row→row.length=ay.size
 step:∀(i:Nat) (x:cV),its[i]?=some x→∃row,rows[i]?=some row∧Fx P ay x.1 (mask row (its.take i) (ay.toList.drop i) dH) x.2.1 x.2.2
def PJ(ay:Array Oper)(S:Nat→Bool):Prop:=∀i o,ay[i]?=some o→S i=true→∀e∈o.after,Region.binds .any e=true→S e.on=true
theorem PK{ay:Array Oper}{rows:List (List bt)}(h:sW ay.toList rows=true){S:Nat→Bool}(hc:PJ ay S):∀(i:Nat),(∀e o,ay[i]?=some o→e∈o.after→Region.binds .any e=true→S e.on=true)→∀j,i<ay.size→j<ay.size→l' rows i j=.pre→S j=true:=by
 intro i
 induction i using Nat.strongRecOn with
 |_ i dx=>
  intro he j hi av hr;have Fz:∀k,AF ay.toList i k=true→S k=true:=by
   intro k hk;unfold AF at hk;rw[Array.getElem?_toList,Array.getElem?_eq_getElem hi]at hk;simp only[List.any_eq_true,Bool.and_eq_true,beq_iff_eq]at hk;obtain⟨e,h1,h2,ak⟩:=hk;rw[←ak];exact he e _ (Array.getElem?_eq_getElem hi) (by simpa using h1) h2
  obtain⟨h1,h2|⟨k,h2,ak,aC⟩⟩:=Px h (by simpa using hi) (by simpa using av) hr
  ·exact Fz j h2
  ·have hk:=Fz k h2;exact dx k aC (fun e o az yF hb=>hc k o az hk e yF hb) j (by omega) av ak
section
variable {ay:Array Oper} {rows:List (List bt)} {its:List cV} {dH:St} {B:Nat→Prop} {w0:World} {kp:List (V×Value)} {Q:Exit→Act→World→Prop}
theorem Xz(G:PI P ay rows its dH)(sY:∀a w,(∃aG φ,R B w0 aG φ (apS (fun _=>true) 0 its dH) kp a w∧∀id,aG id→id<dH.heap.length∨∃(j:Nat) (x:cV),its[j]?=some x∧x.2.1≤id∧id<x.2.1+x.2.2.new.length)→Q .normal a w) :
  ∀(fuel:Nat) (listed:Array Bool) (a:Act) (w:World),listed.size=ay.size→PJ ay (fun i=>listed.getD i false)→(List.range ay.size).countP (fun i=>!(listed.getD i false))≤fuel→
   (∃aG φ,R B w0 aG φ (apS (fun i=>listed.getD i false) 0 its dH) kp a w∧∀id,aG id→id<dH.heap.length∨∃(j:Nat) (x:cV),its[j]?=some x∧listed.getD j false=true∧x.2.1≤id∧id<x.2.1+x.2.2.new.length)→
   wpAny P .any ay Q fuel listed a w:=by
 have eB:its.length=ay.size:=by
  have:=congrArg List.length G.fst;simpa using this
 have JS:∀(i:Nat) (x:cV),its[i]?=some x→ay[i]?=some x.1:=by
  intro i x hx;have:=congrArg (·[i]?) G.fst;simp only[List.getElem?_map,hx,Option.map_some,Array.getElem?_toList]at this;exact this.symm
 have y1:∀(listed:Array Bool),listed.size=ay.size→Region.ready .any ay listed=[]→∀i,i<ay.size→listed.getD i false=true:=by
  intro listed hs hr i
  induction i using Nat.strongRecOn with
  |_ i dx=>
   intro hi;by_cases h:listed.getD i false=true
   ·exact h
   ·exfalso;have:i∈Region.ready .any ay listed:=by
     rw[mem_ready];refine⟨?_,ay[i],Array.getElem?_eq_getElem hi,fun e he hb=>?_⟩
     ·have:i<listed.size:=by omega
      simp only[Array.getD_eq_getD_getElem?,Array.getElem?_eq_getElem this,Option.getD_some]at h⊢;simpa using h
     ·have:=Xq G.y0 (i:=i) (o:=ay[i]) (by simp[hi]) (e:=e) (by simpa using he) hb;exact dx e.on this (by omega)
    rw[hr]at this;cases this
 have PL:∀(listed:Array Bool) (a:Act) (w:World),listed.size=ay.size→Region.ready .any ay listed=[]→(∃aG φ,R B w0 aG φ (apS (fun i=>listed.getD i false) 0 its dH) kp a w∧∀id,aG id→id<dH.heap.length∨∃(j:Nat) (x:cV),its[j]?=some x∧listed.getD j false=true∧x.2.1≤id∧id<x.2.1+x.2.2.new.length)→Q .normal a w:=by
  rintro listed a w hs hr ⟨aG,φ,aL,bR⟩;refine sY a w ⟨aG,φ,Pw aL ?_ ?_,fun id d6=>(bR id d6).imp (fun h=>h) fun⟨j,x,h1,_,h2⟩=>⟨j,x,h1,h2⟩⟩
  ·apply List.ext_getElem?;intro t;refine Fv _ _ t its 0 dH dH rfl rfl fun j x hx _=>?_;have av:j<its.length:=(List.getElem?_eq_some_iff.1 hx).1;simp only[Nat.zero_add];exact(y1 listed hs hr j (by omega)).symm
  ·intro id;refine Cw _ _ id its 0 dH dH rfl fun j x hx _=>?_;have av:j<its.length:=(List.getElem?_eq_some_iff.1 hx).1;simp only[Nat.zero_add];exact(y1 listed hs hr j (by omega)).symm
 intro fuel
 induction fuel with
 |zero=>
  intro listed a w hs hc XA aL;have hr:Region.ready .any ay listed=[]:=by
   apply List.eq_nil_iff_forall_not_mem.2;intro i hi;obtain⟨h1,o,az,_⟩:=mem_ready.1 hi;have hlt:i<ay.size:=(Array.getElem?_eq_some_iff.1 az).1;have h2:(List.range ay.size).countP (fun i=>!(listed.getD i false))=0:=by omega
   have:=List.countP_eq_zero.1 h2 i (List.mem_range.2 hlt);have hl:i<listed.size:=by omega
   simp only[Array.getD_eq_getD_getElem?,Array.getElem?_eq_getElem hl,Option.getD_some]at this h1;rw[h1]at this;simp at this
  exact⟨hr,PL listed a w hs hr aL⟩
 |succ fuel dx=>
  intro listed a w hs hc XA aL;refine⟨fun hr=>PL listed a w hs hr aL,fun i hi=>?_⟩;obtain⟨h1,o,az,AL⟩:=mem_ready.1 hi;have hlt:i<ay.size:=(Array.getElem?_eq_some_iff.1 az).1;have hl:i<listed.size:=by omega
  have AM:listed.getD i false=false:=by
   simp only[Array.getD_eq_getD_getElem?,Array.getElem?_eq_getElem hl,Option.getD_some]at h1⊢;exact h1
  have XB:i<its.length:=by omega
  have hx:its[i]?=some its[i]:=List.getElem?_eq_getElem XB;generalize its[i]=x at hx;have XC:x.1=o:=by have:=JS i x hx;rw[az]at this;exact(Option.some.inj this).symm
  obtain⟨row,CE,XD⟩:=G.step i x hx;have ja:∀j y,row[j]?=some y→l' rows i j=y∧j<ay.size:=by
   intro j y hy;refine⟨by unfold l';simp[CE,hy],?_⟩;have:=(List.getElem?_eq_some_iff.1 hy).1;rw[G.tS i row CE]at this;exact this
  have PM:∀j,row[j]?=some .pre→j<i∧listed.getD j false=true:=by
   intro j av;obtain⟨h2,ak⟩:=ja j _ av;exact⟨(Px G.y0 (by simpa using hlt) (by simpa using ak) h2).1,PK G.y0 hc i (fun e xt FA he hb=>by rw[az]at FA;cases FA;exact AL e he hb) j hlt ak h2⟩
  have PN:∀j,row[j]?=some .post→listed.getD j false=false:=by
   intro j av;obtain⟨h2,ak⟩:=ja j _ av;rcases Xr G.y0 (by simpa using hlt) (by simpa using ak) h2 with aC|aC
   ·rw[aC];exact AM
   ·cases hs':listed.getD j false with
    |false=>rfl
    |true=>
     have:=PK G.y0 hc j (fun e xt FA he hb=>hc j xt FA hs' e he hb) i ak hlt aC;rw[AM]at this;cases this
  have PO:∀(j:Nat) (y:cV),row[j]?=some .cY→i<j→its[j]?=some y→∀p∈y.2.2.upd,aN (mask row (its.take i) (ay.toList.drop i) dH).heap p.1=.c1∧xu x p.1=true:=by
   intro j y av mO hy p hp;obtain⟨h2,ak⟩:=ja j _ av;obtain⟨sX,cC,cT,eI⟩:=G.upd j y hy p hp i x mO hx (by
    rw[Xs G.y0 (by simpa using hlt) (by simpa using ak) h2];intro h;cases h)
   rw[CE]at cC;cases cC;exact⟨cT,eI⟩
  have PQ:∀(j:Nat) (y:cV),i<j→its[j]?=some y→listed.getD j false=true→∀p∈y.2.2.upd,xu x p.1=true:=by
   intro j y mO hy hs';have av:j<ay.size:=by have:=(List.getElem?_eq_some_iff.1 hy).1;omega
   have XE:j<row.length:=by rw[G.tS i row CE];exact av
   have h2:row[j]?=some row[j]:=List.getElem?_eq_getElem XE
   cases fM:row[j]with
   |pre=>rw[fM]at h2;have:=(PM j h2).1;omega
   |post=>rw[fM]at h2;have:=PN j h2;rw[this]at hs';cases hs'
   |cY=>rw[fM]at h2;exact fun p hp=>(PO j y h2 mO hy p hp).2
  have aR:AH (mask row (its.take i) (ay.toList.drop i) dH) (apS (fun i=>listed.getD i false) 0 its dH):=by
   have kB:(its.take i).length=i:=by simp;omega
   have:=AI (fun i=>listed.getD i false) row (its.take i) (ay.toList.drop i) (its.drop i) 0 dH.heap.length dH dH (by rw[List.map_drop,G.fst]) (by rw[G.tS i row CE];simp;omega) (by rw[List.take_append_drop];exact G.lE)
    ⟨rfl,fun t v e=>.inr e,fun i=>.inr rfl⟩ (fun id d6=>by unfold aN;rw[List.getD_eq_getElem?_getD,List.getElem?_eq_none d6];rfl)
    (fun j av=>by rw[kB,Nat.zero_add];exact PM j av) (fun j av=>by rw[Nat.zero_add];exact PN j av)
    (fun j y av mO hy hs'=>by
     rw[kB]at mO hy;rw[Nat.zero_add]at hs';rw[List.getElem?_drop,show i+(j-i)=j from by omega]at hy;rcases Nat.lt_or_ge i j with h|h
     ·exact fun p hp=>(PO j y av h hy p hp).1
     ·have:j=i:=by omega
      subst this;rw[AM]at hs';cases hs')
   rw[List.take_append_drop]at this;exact this
  obtain⟨aG,φ,dV,bR⟩:=aL;have vZ:=CD G.lE i x hx;have FB:∀(j:Nat) (y:cV) (id:Nat),j≠i→its[j]?=some y→listed.getD j false=true→x.2.1≤id→id<x.2.1+x.2.2.new.length→tQ y.2.1 y.2.2 id=none:=by
   intro j y id jE hy hs' h2 ak;have PR:=CD G.lE j y hy;rcases Nat.lt_or_gt_of_ne jE with h|h
   ·have aC:=PR.2.2 i x h hx;exact xr (fun z hz=>by have:=PR.2.1 _ hz;simp only at this;omega) (by omega)
   ·have aC:=vZ.2.2 j y h hy;refine xr (fun z hz=>?_) (by omega);have:=PQ j y h hy hs' (id,z) hz;simp only[xu,Bool.and_eq_true,Bool.not_eq_true',Bool.and_eq_false_iff,decide_eq_false_iff_not]at this;omega
  have JL:∀id,x.2.1≤id→id<x.2.1+x.2.2.new.length→aN (apS (fun i=>listed.getD i false) 0 its dH).heap id=.c1:=by
   intro id h2 ak;have:=Cw (fun i=>listed.getD i false) (fun _=>false) id its 0 dH dH rfl fun j y hy hne=>by
    simp only[Nat.zero_add]
    cases hs':listed.getD j false with
    |false=>rfl
    |true=>
     exfalso;by_cases jE:j=i
     ·subst jE;rw[AM]at hs';cases hs'
     ·exact hne (FB j y id jE hy hs' h2 ak)
   rw[this];have d6:∀(l:List cV) (k:Nat) (fw:St),apS (fun _=>false) k l fw=fw:=by
    intro l
    induction l with
    |nil=>intro k fw;rfl
    |cons y l dx=>intro k fw;obtain⟨o,n,r⟩:=y;rw[apS];simpa using dx (k+1) fw
   rw[d6];have:dH.heap.length≤id:=by have:=vZ.1;omega
   unfold aN;rw[List.getD_eq_getElem?_getD,List.getElem?_eq_none this];rfl
  have iC:∀id,x.2.1≤id→id<x.2.1+x.2.2.new.length→¬aG id:=by
   intro id h2 ak hd;rcases bR id hd with aC|⟨j,y,hy,hs',aC,bL⟩
   ·have:=vZ.1;omega
   ·by_cases jE:j=i
    ·subst jE;rw[AM]at hs';cases hs'
    ·rcases Nat.lt_or_gt_of_ne jE with h|h
     ·have:=(CD G.lE j y hy).2.2 i x h hx;omega
     ·have:=vZ.2.2 j y h hy;omega
  have sZ:∀j,(listed.setIfInBounds i true).getD j false=if j=i then true else listed.getD j false:=by
   intro j;by_cases jE:j=i
   ·subst jE;rw[if_pos rfl];simp[hl]
   ·rw[if_neg jE];exact getD_set_ne false (Ne.symm jE)
  have hk:=XD (apS (fun i=>listed.getD i false) 0 its dH) ⟨aR.gB,aR.hp⟩ JL B w0 aG φ kp a w iC dV (wpAny P .any ay Q fuel (listed.setIfInBounds i true)) Q fun u w' cu i0=>by
   refine dx _ _ w' (by simp[hs]) (fun j XF av JT e he hb=>?_) ?_ ⟨_,cu,Pw i0 ?_ ?_,fun id d6=>?_⟩
   ·simp only[sZ]at JT⊢;by_cases PS:e.on=i
    ·rw[if_pos PS]
    ·rw[if_neg PS];by_cases jE:j=i
     ·subst jE;rw[az]at av;cases av;exact AL e he hb
     ·rw[if_neg jE]at JT;exact hc j XF av JT e he hb
   ·have:=PG (p:=fun j=>!((listed.setIfInBounds i true).getD j false)) (q:=fun j=>!(listed.getD j false)) (List.range ay.size) i (List.mem_range.2 hlt) (fun y hy=>by
     rw[sZ]at hy;by_cases uu:y=i
     ·rw[if_pos uu]at hy;cases hy
     ·rw[if_neg uu]at hy;exact hy) (by rw[AM];rfl) (by rw[sZ,if_pos rfl];rfl)
    omega
   ·apply List.ext_getElem?;intro t;have XG:=xq (apS (fun i=>listed.getD i false) 0 its dH) x.1.dst x.2.1 x.2.2 t;refine Eq.trans ?_ XG.symm;by_cases hd:x.1.dst=some t
    ·rw[if_pos hd,Pt];refine Pu _ t its 0 dH i x hx hd (by simp[sZ]) fun j y mO hy JU=>?_;exfalso;exact Xt G.y0 (i:=i) (j:=j) (x:=x.1) (y:=y.1) (by simp[JS i x hx]) (by simp[JS j y hy]) (by omega) hd JU
    ·rw[if_neg hd];refine Fv _ _ t its 0 dH dH rfl rfl fun j y hy JU=>?_;simp only[Nat.zero_add,sZ];by_cases jE:j=i
     ·subst jE;rw[hx]at hy;cases hy;exact absurd JU hd
     ·rw[if_neg jE]
   ·intro id;refine Eq.trans ?_ (uO (apS (fun i=>listed.getD i false) 0 its dH) x.1.dst x.2.1 x.2.2 id).symm
    cases ht:tQ x.2.1 x.2.2 id with
    |none=>
     refine Cw _ _ id its 0 dH dH rfl fun j y hy hne=>?_;simp only[Nat.zero_add,sZ];by_cases jE:j=i
     ·subst jE;rw[hx]at hy;cases hy;exact absurd ht hne
     ·rw[if_neg jE]
    |some z=>
     refine Pv _ id its 0 dH i x z hx ht (by simp[sZ]) fun j y mO hy hne=>?_;simp only[Nat.zero_add,sZ];rw[if_neg (by omega)]
     cases hs':listed.getD j false with
     |false=>rfl
     |true=>
      exfalso;have hu:∀z,(id,z)∉y.2.2.upd:=fun XH eU=>by
       have bL:=PQ j y mO hy hs' (id,XH) eU;simp only[xu,Bool.and_eq_true,Bool.not_eq_true',Bool.and_eq_false_iff,decide_eq_false_iff_not]at bL;rw[xr (fun q hq=>by
        have eD:=List.any_eq_false.1 bL.2 (id,q) hq;simp at eD) (by omega)]at ht
       cases ht
      have aC:=vZ.2.2 j y mO hy;have ahm:id<x.2.1+x.2.2.new.length:=by
       rcases Nat.lt_or_ge id (x.2.1+x.2.2.new.length)with h|h
       ·exact h
       ·rw[xr (fun z hz=>by have:=vZ.2.1 _ hz;simp only at this;omega) (by omega)]at ht;cases ht
      exact hne (xr hu (by omega))
   ·rcases d6 with d6|d6
    ·rcases bR id d6 with aC|⟨j,y,hy,hs',aC⟩
     ·exact .inl aC
     ·exact .inr ⟨j,y,hy,by rw[sZ];split<;>first|rfl|exact hs',aC⟩
    ·exact .inr ⟨i,x,hx,by rw[sZ,if_pos rfl],d6⟩
  unfold wpOp;simp only[az];rw[XC]at hk;split at hk
  ·rename_i hw;rw[if_pos hw];exact hk
  ·rename_i hw;rw[if_neg hw];exact hk
end
def seqAp:List cV→St→St
 |[],σ=>σ
 |(o,n,r)::l,σ=>seqAp l (σ.cK o.dst n r)
theorem PT:∀(l:List cV) (k:Nat) (σ:St),apS (fun _=>true) k l σ=seqAp l σ
 |[],_,_=>rfl
 |(o,n,r)::l,k,σ=>by rw[apS,seqAp];simpa using PT l (k+1) (σ.cK o.dst n r)
theorem PU:∀(l:List cV) (c:Nat) (σ:St),Asc c l→c≤σ.heap.length→σ.heap.length≤(seqAp l σ).heap.length∧∀(j:Nat) (x:cV),l[j]?=some x→x.2.1+x.2.2.new.length≤(seqAp l σ).heap.length
 |[],_,_,_,_=>⟨Nat.le_refl _,by simp⟩
 |(o,n,r)::l,c,σ,ha,hc=>by
  obtain⟨rfl,h1,h2⟩:=ha;have CF:=CG r.new σ.heap n;have JD:=FC r.upd (hnew σ.heap n r.new);have JV:σ.heap.length≤(σ.cK o.dst n r).heap.length∧n+r.new.length≤(σ.cK o.dst n r).heap.length:=by
   simp only[St.cK];refine⟨by omega,?_⟩;rcases CF.2 with h|h
   ·have ak:=CF.1;rw[h]at JD ak⊢;simp only[List.length_nil];omega
   ·omega
  obtain⟨k1,k2⟩:=PU l _ (σ.cK o.dst n r) h2 JV.2;simp only[seqAp];refine⟨by omega,fun j x hx=>?_⟩
  cases j with
  |zero=>simp at hx;subst hx;simp only;omega
  |succ j=>exact k2 j x (by simpa using hx)
def PV(P:Program)(ay:Array Oper)(σ:St)(K:St→Prop):Prop:=
 ∃rows,sW ay.toList rows=true∧rows.all (fun r=>r.length == ay.size)=true∧anyE P ay.toList σ rows ay.toList [] σ.heap.length fun its=>(updE rows 0 its∨CA σ rows ay.toList rows [] its)∧K (seqAp its σ)
theorem XI{ay:Array Oper}{B:Nat→Prop}{w0:World}{kp:List (V×Value)}{Q:Exit→Act→World→Prop}{K:St→Prop}(hm:P.follows .mixedOrders=true){id:Nat}(sY:∀σ a w,K σ→d3 B w0 kp σ a w→Q .normal a w){σ:St}{a:Act}{w:World}
  (h:PV P ay σ K) (hr:d3 B w0 kp σ a w):(Code.region id ay true).wp P Q a w:=by
 obtain⟨rows,h1,h2,ak⟩:=h;obtain⟨its,fT,⟨f2,PW⟩,vY,uP⟩:=PB _ _ _ _ _ ak;simp only[List.nil_append]at f2 PW uP;have eB:its.length=ay.size:=by
  have:=congrArg List.length fT;simpa using this
 have ja:∀(i:Nat) (row:List bt),rows[i]?=some row→row.length=ay.size:=fun i row hi=>by
  have:=List.all_eq_true.1 h2 row (List.mem_of_getElem? hi);simpa using this
 have vZ:Asc σ.heap.length its:=PF vY fun j x hx=>by
  rcases f2 with f2|f2
  ·obtain⟨_,_,_,h⟩:=JQ f2 j x hx;exact h
  ·obtain⟨_,_,_,h⟩:=JP f2 j x hx;exact h
 have G:PI P ay rows its σ:=⟨h1,fT,vZ,fun i x hx p hp k y hk hy hne=>by
  have PX:k<ay.size:=by have:=(List.getElem?_eq_some_iff.1 hy).1;omega
  rcases f2 with f2|f2
  ·exfalso;obtain⟨row,k1,k2,_⟩:=JQ f2 i x hx;rcases k2 with k2|k2
   ·rw[k2]at hp;cases hp
   ·have nQ:k<row.length:=by rw[ja i row k1];exact PX
    have:=k2 k (by omega) nQ;apply hne;unfold l';simp[k1,this]
  ·obtain⟨row,k1,k2,_⟩:=JP f2 i x hx;have nQ:k<row.length:=by rw[ja i row k1];exact PX
   have PY:row[k]?=some row[k]:=List.getElem?_eq_getElem nQ;have XJ:row[k]≠.pre:=fun h=>hne (by unfold l';simp[k1,PY,h])
   cases hu:x.2.2.upd with
   |nil=>rw[hu]at hp;cases hp
   |cons q u=>
    rw[hu]at hp k2;simp only[Fy,List.nil_append]at k2;have XK:(its.take i)[k]?=some y:=by rw[List.getElem?_take,if_pos hk];exact hy
    obtain⟨sX,cC,cT,eI⟩:=PD k2 k y _ XK PY XJ p.1 (by
     rcases List.mem_cons.1 hp with rfl|hp
     ·simp
     ·exact List.mem_cons_of_mem _ (List.mem_map.2 ⟨p,hp,rfl⟩))
    refine⟨sX,cC,?_,eI⟩;rw[List.nil_append,List.take_take,Nat.min_eq_left (by omega)]at cT;exact cT,ja,uP⟩
 obtain⟨aG,φ,aL,bR⟩:=hr;refine wp_region_any hm (Xz G (B:=B) (w0:=w0) (kp:=kp) (fun fh w' hA=>?_) ay.size (Array.replicate ay.size false) a {w with drawn:=w.drawn+1} (by simp) (fun i o az hs=>?_) ?_ ⟨aG,φ,?_,fun i hi=>.inl (bR i hi)⟩)
 ·obtain⟨xv,cu,dV,XL⟩:=hA;rw[PT]at dV;have sE:=PU its _ σ vZ (Nat.le_refl _);refine sY (seqAp its σ) fh w' PW ⟨xv,cu,dV,fun i hi=>?_⟩;rcases XL i hi with h|⟨j,x,hx,_,h⟩
  ·omega
  ·have:=sE.2 j x hx;omega
 ·exfalso;have hlt:i<ay.size:=(Array.getElem?_eq_some_iff.1 az).1;simp[hlt]at hs
 ·refine Nat.le_trans (List.countP_le_length) ?_;simp
 ·have d6:∀(l:List cV) (k:Nat) (fw:St),apS (fun i=>(Array.replicate ay.size false).getD i false) k l fw=fw:=by
   intro l
   induction l with
   |nil=>intro k fw;rfl
   |cons y l dx=>
    intro k fw;obtain⟨o,n,r⟩:=y;rw[apS,dx];have:(Array.replicate ay.size false).getD k false=false:=by
     by_cases hk:k<ay.size<;>simp[hk]
    simp only[this];rfl
  rw[d6];exact PZ aL rfl aL.fg.drew
def rdyE(S:List Bool):List Oper→List Bool→List Bool→List (Oper×List Bool)
 |o::os,pre,false::post=>if o.after.toList.all (fun e=>!Region.binds .any e||S.getD e.on false)=true then(o,pre++true::post)::rdyE S os (pre++[false]) post else rdyE S os (pre++[false]) post
 |_::os,pre,true::post=>rdyE S os (pre++[true]) post
 |_,_,_=>[]
def tF(l:List (Oper×List Bool))(F:Oper→List Bool→Prop):Prop:=
 match l with
 |[]=>True
 |x::r=>F x.1 x.2∧tF r F
def exE(P:Program)(kv:List V)(ay:List Oper):Nat→List Bool→St→(St→Prop)→Prop
 |0,S,σ,K=>rdyE S ay [] S=[]∧K σ
 |n+1,S,σ,K=>(rdyE S ay [] S=[]→K σ)∧tF (rdyE S ay [] S) fun o j'=>tG P kv ay σ o fun σ'=>exE P kv ay n j' σ' K
theorem FD{S:List Bool}:∀(os:List Oper) (pre post:List Bool) (i:Nat) (o:Oper),os[i]?=some o→post[i]?=some false→(∀e∈o.after,Region.binds .any e=true→S.getD e.on false=true)→(o,pre++post.set i true)∈rdyE S os pre post
 |[],_,_,i,o,h,_,_=>by simp at h
 |x::os,pre,[],i,o,_,h,_=>by simp at h
 |x::os,pre,p::post,0,o,h1,h2,ak=>by
  simp at h1 h2;subst h1;subst h2;rw[rdyE];have hc:(x.after.toList.all fun e=>!Region.binds .any e||S.getD e.on false)=true:=by
   rw[List.all_eq_true];intro e he
   cases hb:Region.binds .any e with
   |false=>rfl
   |true=>simpa using ak e (by simpa using he) hb
  rw[if_pos hc];simp
 |x::os,pre,p::post,i+1,o,h1,h2,ak=>by
  have:=FD os (pre++[p]) post i o (by simpa using h1) (by simpa using h2) ak;rw[List.append_assoc,List.singleton_append]at this;rw[List.set_cons_succ]
  cases p with
  |true=>rw[rdyE];exact this
  |false=>
   rw[rdyE];split
   ·exact List.mem_cons_of_mem _ this
   ·exact this
theorem FE{S:List Bool}:∀(os:List Oper) (pre post:List Bool) (x:Oper×List Bool),x∈rdyE S os pre post→∃(i:Nat),os[i]?=some x.1∧post[i]?=some false∧x.2=pre++post.set i true∧∀e∈x.1.after,Region.binds .any e=true→S.getD e.on false=true
 |[],_,_,x,h=>by simp[rdyE]at h
 |o::os,pre,[],x,h=>by simp[rdyE]at h
 |o::os,pre,p::post,x,h=>by
  have step:∀x,x∈rdyE S os (pre++[p]) post→∃(i:Nat),(o::os)[i]?=some x.1∧(p::post)[i]?=some false∧x.2=pre++(p::post).set i true∧∀e∈x.1.after,Region.binds .any e=true→S.getD e.on false=true:=by
   intro x hx;obtain⟨i,h1,h2,ak,aC⟩:=FE os (pre++[p]) post x hx;exact⟨i+1,by simpa using h1,by simpa using h2,by rw[ak];simp,aC⟩
  cases p with
  |true=>rw[rdyE]at h;exact step x h
  |false=>
   rw[rdyE]at h;split at h
   ·rename_i hc;rcases List.mem_cons.1 h with rfl|h
    ·refine⟨0,rfl,rfl,by simp,fun e he hb=>?_⟩;have:=List.all_eq_true.1 hc e (by simpa using he);rw[hb]at this;simpa using this
    ·exact step x h
   ·exact step x h
theorem P0{F:Oper→List Bool→Prop}:∀{l:List (Oper×List Bool)},tF l F→∀x∈l,F x.1 x.2
 |[],_,x,hx=>by cases hx
 |y::l,h,x,hx=>by
  rcases List.mem_cons.1 hx with rfl|hx
  ·exact h.1
  ·exact P0 h.2 x hx
theorem XM{ay:Array Oper}{B:Nat→Prop}{w0:World}{kp:List (V×Value)}{kv:List V}(bp:kp.map (·.1)=kv){Q:Exit→Act→World→Prop}{K:St→Prop}(sY:∀σ a w,K σ→d3 B w0 kp σ a w→Q .normal a w) :
  ∀(n:Nat) (listed:Array Bool) (σ:St) (a:Act) (w:World),listed.size=ay.size→exE P kv ay.toList n listed.toList σ K→d3 B w0 kp σ a w→wpAny P .any ay Q n listed a w:=by
 have JW:∀(listed:Array Bool),listed.size=ay.size→Region.ready .any ay listed=[]→rdyE listed.toList ay.toList [] listed.toList=[]:=by
  intro listed hs hr;apply List.eq_nil_iff_forall_not_mem.2;intro x hx;obtain⟨i,h1,h2,_,aC⟩:=FE _ _ _ x hx;have:i∈Region.ready .any ay listed:=by
   rw[mem_ready];refine⟨?_,x.1,by simpa using h1,fun e he hb=>?_⟩
   ·rw[Array.getElem?_toList]at h2;simp[Array.getD_eq_getD_getElem?,h2]
   ·have:=aC e he hb;rw[List.getD_eq_getElem?_getD,Array.getElem?_toList]at this;simpa [Array.getD_eq_getD_getElem?]using this
  rw[hr]at this;cases this
 intro n
 induction n with
 |zero=>
  intro listed σ a w hs h hr;simp only[exE]at h;refine⟨?_,sY σ a w h.2 hr⟩;apply List.eq_nil_iff_forall_not_mem.2;intro i hi;obtain⟨h1,o,az,AL⟩:=mem_ready.1 hi;have hlt:i<listed.size:=by have:=(Array.getElem?_eq_some_iff.1 az).1;omega
  have hm:=FD (S:=listed.toList) ay.toList [] listed.toList i o (by simpa using az) (by
   rw[Array.getElem?_toList];simpa [Array.getD_eq_getD_getElem?,hlt]using h1) (fun e he hb=>by
   have:=AL e he hb;rw[List.getD_eq_getElem?_getD,Array.getElem?_toList];simpa [Array.getD_eq_getD_getElem?]using this)
  rw[h.1]at hm;cases hm
 |succ n dx=>
  intro listed σ a w hs h hr;simp only[exE]at h;refine⟨fun he=>sY σ a w (h.1 (JW listed hs he)) hr,fun i hi=>?_⟩;obtain⟨h1,o,az,AL⟩:=mem_ready.1 hi;have hlt:i<listed.size:=by have:=(Array.getElem?_eq_some_iff.1 az).1;omega
  have hm:=FD (S:=listed.toList) ay.toList [] listed.toList i o (by simpa using az) (by
   rw[Array.getElem?_toList];simpa [Array.getD_eq_getD_getElem?,hlt]using h1) (fun e he hb=>by
   have:=AL e he hb;rw[List.getD_eq_getElem?_getD,Array.getElem?_toList];simpa [Array.getD_eq_getD_getElem?]using this)
  have hx:=P0 h.2 _ hm;simp only[List.nil_append]at hx;have:=XN (Q:=Q) (N:=wpAny P .any ay Q n (listed.setIfInBounds i true)) bp hx hr fun σ' u w' hk i0=>by
   refine dx (listed.setIfInBounds i true) σ' _ w' (by simpa using hs) ?_ i0;simpa using hk
  unfold wpOp;simp only[az];exact this
def AB(P:Program)(kv:List V)(ay:Array Oper)(σ:St)(K:St→Prop):Prop:=
 PV P ay σ K∨∃fp,(∀σ',fp σ'→K σ')∧exE P kv ay.toList ay.size (List.replicate ay.size false) σ fp
theorem XO{ay:Array Oper}{B:Nat→Prop}{w0:World}{kp:List (V×Value)}{kv:List V}(bp:kp.map (·.1)=kv){Q:Exit→Act→World→Prop}{K:St→Prop}(hm:P.follows .mixedOrders=true){id:Nat}(sY:∀σ a w,K σ→d3 B w0 kp σ a w→Q .normal a w){σ:St}{a:Act}{w:World}
  (h:AB P kv ay σ K) (hr:d3 B w0 kp σ a w):(Code.region id ay true).wp P Q a w:=by
 rcases h with h|⟨fp,CH,h⟩
 ·exact XI hm sY h hr
 ·refine wp_region_any hm (XM bp (fun σ a w JX=>sY σ a w (CH σ JX)) ay.size (Array.replicate ay.size false) σ a _ (by simp) (by simpa using h) ?_);obtain⟨aG,φ,aL,bR⟩:=hr;exact⟨aG,φ,PZ aL rfl aL.fg.drew,bR⟩
variable {P:Program}
def zc(t:Bool)(A B:Prop):Prop:=(t=true→A)∧(t=false→B)
def outE:List (Nat×(St→Prop))→Nat→St→Prop
 |[],_,_=>False
 |(i,K)::aS,id,σ=>if id=i then K σ else outE aS id σ
mutual
def ren(ρ:List Nat):V→V
 |.ab=>.ab
 |.d x=>.d x
 |.c6 s=>.c6 s
 |.agg vs=>.agg (rens ρ vs)
 |.ptr id bG off=>.ptr (ρ.getD id 0) bG off
 |.ep cells off=>.ep cells off
 |.sl id off len=>.sl (ρ.getD id 0) off len
 |.fn f d8=>.fn f (rens ρ d8)
 |.dB vs=>.dB (rens ρ vs)
 |.bm c v=>.bm c (ren ρ v)
def rens(ρ:List Nat):List V→List V
 |[]=>[]
 |v::vs=>ren ρ v::rens ρ vs
end
def vsee(ρ:List Nat)(eO v:V):Prop:=match eO with|.ab=>True|eO=>ren ρ eO=v
def vsees(ρ:List Nat):List V→List V→Prop
 |[],[]=>True
 |eO::vs',v::vs=>vsee ρ eO v∧vsees ρ vs' vs
 |_,_=>False
def hsee(ρ:List Nat)(jX x:H):Prop:=
 match jX,x with
 |.c1,_=>True
 |.box A2,.box cs=>vsees ρ A2 cs
 |.ao u4 kD ZB,.ao s xs iN=>u4=s∧kD=xs∧ZB=iN
 |.g1 u4 kD,.g1 s xs=>u4=s∧kD=xs
 |.ag u4 kD,.ag s xs=>u4=s∧kD=xs
 |_,_=>False
def hsees(ρ:List Nat)(hs:List H):List Nat→List H→Prop
 |[],[]=>True
 |i::is,jX::kD=>hsee ρ jX (aN hs i)∧hsees ρ hs is kD
 |_,_=>False
structure ZC(ρ:List Nat)(σ σ':St):Prop where
 CK:ρ.Nodup
 gB:vsees ρ σ'.tmps σ.tmps
 hp:hsees ρ σ.heap ρ σ'.heap
theorem Rs{ρ:List Nat}{hs:List H}:∀{is:List Nat} {kD:List H},hsees ρ hs is kD→kD.length=is.length∧∀i,i<is.length→hsee ρ (aN kD i) (aN hs (is.getD i 0))
 |[],[],_=>⟨rfl,by simp⟩
 |[],_::_,h=>by simp[hsees]at h
 |_::_,[],h=>by simp[hsees]at h
 |i::is,jX::kD,h=>by
  simp only[hsees]at h;obtain⟨h1,h2⟩:=h;obtain⟨k1,k2⟩:=Rs h2;refine⟨by simp[k1],fun j av=>?_⟩
  cases j with
  |zero=>simpa [aN]using h1
  |succ j=>simpa [aN]using k2 j (by simpa using av)
section
variable {φ:b2} {T fN:Nat→Prop} {h:Array Obj} {ρ:List Nat}
def nv(φ:b2)(ρ:List Nat):b2:=fun i=>if i<ρ.length then φ (ρ.getD i 0)else none
mutual
def vok(m:Nat):V→Prop
 |.ptr id _ _=>id<m
 |.sl id _ _=>id<m
 |.agg vs=>bf m vs
 |.fn _ vs=>bf m vs
 |.dB vs=>bf m vs
 |.bm _ v=>vok m v
 |_=>True
def bf(m:Nat):List V→Prop
 |[]=>True
 |v::vs=>vok m v∧bf m vs
end
mutual
theorem Gr(cw:∀b,T b→fN b):∀(v:V) (u:Value),vok ρ.length v→VRel φ T h (ren ρ v) u→VRel (nv φ ρ) fN h v u
 |.ab,_,_,_=>by simp[VRel]
 |.d x,u,_,r=>by
  simp only[ren,VRel]at r⊢;obtain⟨F,aH,aZ⟩:=r;exact⟨F,aH,fun b hb=>cw b (aZ b hb)⟩
 |.c6 _,_,_,r=>by simpa [ren,VRel]using r
 |.agg vs,u,k,r=>by
  simp only[ren,VRel,vok]at r k⊢;obtain⟨us,aH,aZ⟩:=r;exact⟨us,aH,Gt cw vs us.toList k aZ⟩
 |.ptr id bG off,u,k,r=>by
  simp only[ren,VRel,vok]at r k⊢;obtain⟨β,b,aH,aZ,ca⟩:=r;exact⟨β,b,by simp only[nv,if_pos k];exact aH,aZ,ca⟩
 |.ep cells off,u,_,r=>by
  simp only[ren,VRel]at r⊢;obtain⟨b,f,G,aH,aZ,ca,cf,eh⟩:=r;exact⟨b,f,G,aH,aZ,cw b ca,cf,fun g hg=>cw g (eh g hg)⟩
 |.sl id off len,u,k,r=>by
  simp only[ren,VRel,vok]at r k⊢;obtain⟨β,a,c,aH,aZ⟩:=r;exact⟨β,a,c,by simp only[nv,if_pos k];exact aH,aZ⟩
 |.fn f d8,u,k,r=>by
  simp only[ren,VRel,vok]at r k⊢;obtain⟨us,aH,aZ⟩:=r;exact⟨us,aH,Gt cw d8 us.toList k aZ⟩
 |.dB vs,u,k,r=>by
  simp only[ren,VRel,vok]at r k⊢;obtain⟨us,aH,aZ⟩:=r;exact⟨us,aH,Gt cw vs us.toList k aZ⟩
 |.bm c v,u,k,r=>by
  simp only[ren,VRel,vok]at r k⊢;exact⟨fun e=>Gr cw v u k (r.1 e),r.2⟩
theorem Gt(cw:∀b,T b→fN b):∀(vs:List V) (us:List Value),bf ρ.length vs→VRels φ T h (rens ρ vs) us→VRels (nv φ ρ) fN h vs us
 |[],us,_,r=>by simpa [rens,VRels]using r
 |v::vs,us,k,r=>by
  simp only[rens,VRels,bf]at r k⊢;obtain⟨u,bY,aH,aZ,ca⟩:=r;exact⟨u,bY,aH,Gr cw v u k.1 aZ,Gt cw vs bY k.2 ca⟩
end
theorem Rt(cw:∀b,T b→fN b){eO v:V}{u:Value}(hs:vsee ρ eO v)(k:vok ρ.length eO)(r:VRel φ T h v u):VRel (nv φ ρ) fN h eO u:=by
 unfold vsee at hs;split at hs
 ·simp[VRel]
 ·subst hs;exact Gr cw _ u k r
theorem K6(cw:∀b,T b→fN b):∀{vs' vs:List V} {us:List Value},vsees ρ vs' vs→bf ρ.length vs'→VRels φ T h vs us→VRels (nv φ ρ) fN h vs' us
 |[],[],us,_,_,r=>by simpa [VRels]using r
 |[],_::_,_,hs,_,_=>by simp[vsees]at hs
 |_::_,[],_,hs,_,_=>by simp[vsees]at hs
 |eO::vs',v::vs,us,hs,k,r=>by
  simp only[vsees,bf,VRels]at hs k r⊢;obtain⟨u,bY,rfl,aH,aZ⟩:=r;exact⟨u,bY,rfl,Rt cw hs.1 k.1 aH,K6 cw hs.2 k.2 aZ⟩
end
def hok(m:Nat):H→Prop
 |.box cs=>bf m cs
 |_=>True
theorem K7{ρ:List Nat}{jX x:H}(h:hsee ρ jX x):(jX.me=true→x.me=true)∧(jX.own=true→x.own=true)∧(jX.shut=true→x.shut=true):=by
 unfold hsee at h;split at h
 ·exact⟨fun e=>(by cases e),fun e=>(by cases e),fun e=>(by cases e)⟩
 ·exact⟨fun _=>rfl,fun e=>(by cases e),fun e=>(by cases e)⟩
 ·obtain⟨rfl,rfl,rfl⟩:=h;exact⟨id,id,id⟩
 ·exact⟨fun e=>(by cases e),fun e=>(by cases e),fun e=>(by cases e)⟩
 ·exact⟨fun _=>rfl,fun _=>rfl,fun _=>rfl⟩
 ·exact h.elim
theorem ZD{B:Nat→Prop}{w0:World}{σ σ':St}{a:Act}{w:World}{ρ:List Nat}(hs:ZC ρ σ σ')(h1:bf σ'.heap.length σ'.tmps)(h2:∀x∈σ'.heap,hok σ'.heap.length x){kp:List (V×Value)}(Dp:∀p∈kp,vsee ρ p.1 p.1∧vok σ'.heap.length p.1)(r:d3 B w0 kp σ a w):d3 B w0 kp σ' a w:=by
 obtain⟨aG,φ,r,_⟩:=r;obtain⟨hl,Gu⟩:=Rs hs.hp;rw[hl]at h1 h2 Dp;have gM:∀i,(aN σ'.heap i).me=true→i<ρ.length:=by
  intro i hi;rcases Nat.lt_or_ge i σ'.heap.length with h|h
  ·omega
  ·rw[v_ h]at hi;cases hi
 have A8:∀i β b,jH (aN σ'.heap i) β b→i<ρ.length∧jH (aN σ.heap (ρ.getD i 0)) β b:=by
  intro i β b ht;have hlt:i<ρ.length:=by
   rcases ht with ⟨h,_⟩|⟨h,_⟩
   ·exact gM i h
   ·exact gM i (H.KD (H.Ga h))
  obtain⟨d4,fD,f3⟩:=K7 (Gu i hlt);exact⟨hlt,ht.imp (fun h=>⟨d4 h.1,h.2⟩) (fun h=>⟨f3 h.1,h.2⟩)⟩
 have cw:∀b,b8 φ σ.heap b→b8 (nv φ ρ) σ'.heap b:=by
  intro b ht i β e hi;obtain⟨hlt,nZ⟩:=A8 i β b hi;simp only[nv,if_pos hlt]at e;exact ht _ β e nZ
 have ZE:∀i,i<ρ.length→∀x,aN σ'.heap i=x→hok ρ.length x:=by
  intro i hi x hx;have hlt:i<σ'.heap.length:=by omega
  have:x∈σ'.heap:=by
   rw[←hx];unfold aN;rw[List.getD_eq_getElem?_getD,List.getElem?_eq_getElem hlt];simp
  exact h2 x this
 have ZF:∀i j,i<ρ.length→j<ρ.length→ρ.getD i 0=ρ.getD j 0→i=j:=by
  intro i j hi av e;rw[List.getD_eq_getElem?_getD,List.getD_eq_getElem?_getD,List.getElem?_eq_getElem hi,List.getElem?_eq_getElem av]at e;have e:ρ[i]=ρ[j]:=by simpa using e
  have hp:=List.pairwise_iff_getElem.1 hs.CK;rcases Nat.lt_trichotomy i j with h|h|h
  ·exact absurd e (hp i j hi av h)
  ·exact h
  ·exact absurd e.symm (hp j i av hi h)
 have iE:∀i b,cN (nv φ ρ) σ'.heap i b→i<ρ.length∧cN φ σ.heap (ρ.getD i 0) b:=by
  rintro i b ⟨β,e,h⟩;have hlt:i<ρ.length:=by
   rcases h with ⟨h,_⟩|⟨h,_⟩
   ·exact gM i h
   ·exact gM i (H.KD h)
  obtain⟨d4,fD,f3⟩:=K7 (Gu i hlt);simp only[nv,if_pos hlt]at e;exact⟨hlt,β,e,h.imp (fun h=>⟨d4 h.1,h.2⟩) (fun h=>⟨fD h.1,h.2⟩)⟩
 refine⟨fun i=>i<ρ.length,nv φ ρ,⟨K6 cw hs.gB h1 r.gB,fun p hp=>(by
  have ak:=r.kp p hp;rcases List.mem_append.1 hp with hp|hp
  ·obtain⟨q,_,rfl⟩:=List.mem_map.1 hp;exact Gr (ρ:=ρ) cw (.ep q.2 0) _ trivial ak
  ·exact Rt cw (Dp p hp).1 (Dp p hp).2 ak),fun i=>?_,fun i j b hi av=>?_,fun i β e hx=>?_,fun i b az=>?_,fun i β e=>?_,r.fg,r.bs,r.l8,r.jS⟩,fun i hi=>by rw[hl];exact hi⟩
 ·by_cases hlt:i<ρ.length
  ·have n':=Gu i hlt;have Ru:=ZE i hlt _ rfl;rcases r.hp (ρ.getD i 0)with hd|⟨β,e,hr⟩
   ·left;rw[hd]at n';unfold hsee at n';split at n'
    ·rename_i ai;exact ai
    ·rename_i aj;cases aj
    ·rename_i aj;cases aj
    ·rename_i aj;cases aj
    ·rename_i aj;cases aj
    ·exact n'.elim
   ·by_cases K8:aN σ'.heap i=.c1
    ·exact .inl K8
    ·refine .inr ⟨β,by simp only[nv,if_pos hlt];exact e,?_⟩;generalize aN σ'.heap i=jX at n' Ru K8;generalize aN σ.heap (ρ.getD i 0)=x at n' hr;unfold hsee at n';split at n'
     ·exact absurd rfl K8
     ·simp only[dG]at hr⊢;obtain⟨b,cs,t,aH,aZ,ca,cf⟩:=hr;exact⟨b,cs,t,aH,aZ,ca,K6 cw n' Ru cf⟩
     ·obtain⟨rfl,rfl,rfl⟩:=n';simp only[dG]at hr⊢;obtain⟨bL,hr⟩:=hr;refine⟨bL,hr.imp id fun⟨b,G,aH,aZ,ca,cf,eh,gJ⟩=>⟨b,G,aH,aZ,ca,cf,eh,fun e g hg=>cw g (gJ e g hg)⟩⟩
     ·obtain⟨rfl,rfl⟩:=n';simp only[dG]at hr⊢;obtain⟨bL,hr⟩:=hr;refine⟨bL,hr.imp id fun⟨b,G,aH,aZ,ca,cf,eh⟩=>⟨b,G,aH,cw b aZ,ca,cf,fun g hg=>cw g (eh g hg)⟩⟩
     ·obtain⟨rfl,rfl⟩:=n';simpa only[dG]using hr
     ·exact n'.elim
  ·left;exact v_ (by omega)
 ·obtain⟨ak,aC⟩:=iE i b hi;obtain⟨bL,eD⟩:=iE j b av;exact ZF i j ak bL (r.dy _ _ b aC eD)
 ·have hlt:=gM i (H.KD hx);simp only[nv,if_pos hlt]at e;exact r.d_ _ β e ((K7 (Gu i hlt)).2.1 hx)
 ·exact r.ej _ b (iE i b az).2
 ·by_cases hlt:i<ρ.length
  ·exact hlt
  ·simp only[nv,if_neg hlt]at e;cases e
def kS(m:Nat):List H→Prop
 |[]=>True
 |x::xs=>hok m x∧kS m xs
theorem Rv{m:Nat}:∀{xs:List H},kS m xs→∀x∈xs,hok m x
 |[],_,x,hx=>by cases hx
 |y::ys,h,x,hx=>by
  rcases List.mem_cons.1 hx with rfl|hx
  ·exact h.1
  ·exact Rv h.2 x hx
def tu(ρ:List Nat)(m:Nat):List V→Prop
 |[]=>True
 |v::vs=>(vsee ρ v v∧vok m v)∧tu ρ m vs
theorem Rw{ρ:List Nat}{m:Nat}:∀{kv:List V},tu ρ m kv→∀v∈kv,vsee ρ v v∧vok m v
 |[],_,x,hx=>by cases hx
 |y::ys,h,x,hx=>by
  rcases List.mem_cons.1 hx with rfl|hx
  ·exact h.1
  ·exact Rw h.2 x hx
def jQ(kv:List V)(ρ:List Nat)(σ σ':St):Prop:=
 ρ.Nodup∧vsees ρ σ'.tmps σ.tmps∧hsees ρ σ.heap ρ σ'.heap∧bf σ'.heap.length σ'.tmps∧kS σ'.heap.length σ'.heap∧tu ρ σ'.heap.length kv
theorem B'{B:Nat→Prop}{w0:World}{kv:List V}{kp:List (V×Value)}{σ σ':St}{a:Act}{w:World}{ρ:List Nat}(bp:kp.map (·.1)=kv)(h:jQ kv ρ σ σ')(r:d3 B w0 kp σ a w):d3 B w0 kp σ' a w:=by
 obtain⟨h1,h2,ak,aC,bL,eD⟩:=h;exact ZD ⟨h1,h2,ak⟩ aC (Rv bL) (fun p hp=>Rw eD p.1 (by rw[←bp];exact List.mem_map.2 ⟨p,hp,rfl⟩)) r
def b9(kv:List V)(body:St→(St→Prop)→Prop)(σ:St):Prop:=
 ∃(α:Type) (gk:α→St) (kh:α→Nat) (gT:α→Prop) (x:α) (ρ:List Nat),gT x∧jQ kv ρ σ (gk x)∧∀x,gT x→∃ki,n7 (gk x) ki∧body ki fun σ'=>∃n8,n7 σ' n8∧∃y zd,gT y∧kh y<kh x∧jQ kv zd n8 (gk y)
def codeE(P:Program)(kv:List V):Code→St→(St→Prop)→List (Nat×(St→Prop))→(St→Prop)→Prop
 |.skip,σ,K,_,_=>K σ
 |.region _ ay false,σ,K,_,_=>opsE P kv ay.toList ay.toList σ K
 |.region _ ay true,σ,K,_,_=>AB P kv ay σ K
 |.seq a b,σ,K,aS,cq=>codeE P kv a σ (fun σ'=>codeE P kv b σ' K aS cq) aS cq
 |.cond c a b,σ,K,aS,cq=>evg true (σ.ev c) fun v=>asB v fun t=>zc t (codeE P kv a σ K aS cq) (codeE P kv b σ K aS cq)
 |.block id c,σ,K,aS,cq=>codeE P kv c σ K ((id,K)::aS) cq
 |.exit id,σ,_,aS,_=>outE aS id σ
 |.ret,σ,_,_,cq=>cq σ
 |.loop c,σ,_,aS,cq=>b9 kv (fun σ fp=>codeE P kv c σ fp aS cq) σ
 |_,_,_,_,_=>False
def Rx(B:Nat→Prop)(w0:World)(kp:List (V×Value))(Q:Exit→Act→World→Prop)(aS:List (Nat×(St→Prop))):Prop:=
 ∀id σ a w,outE aS id σ→d3 B w0 kp σ a w→Q (.exit id) a w
theorem ZG(ay:Array Oper):(List.range ay.size).map (ay[·]?)=ay.toList.map some:=by
 apply List.ext_getElem?;intro i;simp only[List.getElem?_map,Array.getElem?_toList];by_cases h:i<ay.size
 ·simp[h]
 ·simp[h]
theorem Dq{B:Nat→Prop}{w0:World}{kp:List (V×Value)}{kv:List V}(bp:kp.map (·.1)=kv)(hm:P.follows .mixedOrders=true):∀(c:Code) (σ:St) (K:St→Prop) (aS:List (Nat×(St→Prop))) (cq:St→Prop) (Q:Exit→Act→World→Prop) (a:Act) (w:World),
  (∀σ a w,K σ→d3 B w0 kp σ a w→Q .normal a w)→Rx B w0 kp Q aS→(∀σ a w,cq σ→d3 B w0 kp σ a w→Q .ret a w)→codeE P kv c σ K aS cq→d3 B w0 kp σ a w→c.wp P Q a w:=by
 intro c
 induction c with
 |skip=>intro σ K aS cq Q a w bU _ _ h r;exact wp_skip (bU σ a w h r)
 |region id ay draw=>
  intro σ K aS cq Q a w bU _ _ h r
  cases draw with
  |false=>exact wp_region (QI bp bU _ _ σ a w (ZG ay) h r)
  |true=>exact XO bp hm bU h r
 |seq x y K9 K_=>
  intro σ K aS cq Q a w bU cJ aL h r;refine wp_seq (K9 σ _ aS cq _ a w (fun σ' fh w' h' c3=>?_) (fun id σ' fh w' h' c3=>cJ id σ' fh w' h' c3) (fun σ' fh w' h' c3=>aL σ' fh w' h' c3) h r);exact K_ σ' K aS cq Q fh w' bU cJ aL h' c3
 |cond c x y K9 K_=>
  intro σ K aS cq Q a w bU cJ aL h r;simp only[codeE]at h;obtain⟨v,h,hv⟩:=fb h;obtain⟨t,rfl,h⟩:=Gf h;obtain⟨aG,φ,r0,bR⟩:=r;have hc:=lB (hv _ _ _ _ rfl (xl r0 c));refine wp_cond hc ?_
  cases t with
  |true=>exact K9 σ K aS cq Q a w bU cJ aL (h.1 rfl) ⟨aG,φ,r0,bR⟩
  |false=>exact K_ σ K aS cq Q a w bU cJ aL (h.2 rfl) ⟨aG,φ,r0,bR⟩
 |block id c dx=>
  intro σ K aS cq Q a w bU cJ aL h r;simp only[codeE]at h;refine wp_block (dx σ K ((id,K)::aS) cq _ a w (fun σ' fh w' h' c3=>bU σ' fh w' h' c3) (fun np σ' fh w' h' c3=>?_) (fun σ' fh w' h' c3=>aL σ' fh w' h' c3) h r);simp only[outE]at h';simp only[Exit.inBlock];by_cases hi:np=id
  ·rw[if_pos hi];rw[if_pos hi]at h';exact bU σ' fh w' h' c3
  ·rw[if_neg hi];rw[if_neg hi]at h';exact cJ np σ' fh w' h' c3
 |exit id=>intro σ K aS cq Q a w _ cJ _ h r;exact wp_exit (cJ id σ a w h r)
 |ret=>intro σ K aS cq Q a w _ _ aL h r;exact wp_ret (aL σ a w h r)
 |loop c dx=>
  intro σ K aS cq Q a w bU cJ aL h r;simp only[codeE,b9]at h;obtain⟨α,gk,kh,gT,x,ρ,hp,hs,C6⟩:=h;refine wp_loop_ghost (fun n a w=>∃x,gT x∧kh x=n∧d3 B w0 kp (gk x) a w) (kh x) ⟨x,hp,rfl,B' bp hs r⟩ ?_;rintro n a w ⟨x,hp,rfl,r⟩;obtain⟨ki,K',ZH⟩:=C6 x hp;refine dx ki _ aS cq _ a w (fun σ' fh w' h' c3=>?_) (fun id σ' fh w' h' c3=>cJ id σ' fh w' h' c3) (fun σ' fh w' h' c3=>aL σ' fh w' h' c3) ZH (F4 K' r);obtain⟨n8,ZI,y,zd,h1,h2,ak⟩:=h';exact⟨kh y,h2,y,h1,rfl,B' bp ak (F4 ZI c3)⟩
 |_=>intro σ K aS cq Q a w _ _ _ h;exact h.elim
def AD.s9:AD→V
 |.one d=>.d d
 |.agg ds=>.agg (ds.map V.d)
def rvE(P:Program)(σ:St)(r:ResultVar)(K:V→Prop):Prop:=
 match r with
 |.tmp t=>K (σ.ev (.tmp t))
 |.cell a T=>evg true (σ.ev (.tmp a)) fun v=>withR (loadE P σ.heap T v) K
def rvsE(P:Program)(σ:St):List ResultVar→(List V→Prop)→Prop
 |[],K=>K []
 |r::rs,K=>rvE P σ r fun v=>rvsE P σ rs fun vs=>K (v::vs)
def outOA(r:Option (List AD×List Nat))(res:List AD):Prop:=match r with|some (as,bP)=>bP.Nodup∧as=res|none=>False
def fL(P:Program)(rs:List ResultVar)(res:List AD)(σ:St):Prop:=rvsE P σ rs fun vs=>outOA (toOAs σ.heap vs) res
section
variable {B:Nat→Prop} {w0:World} {aG:Nat→Prop} {φ:b2} {kp:List (V×Value)} {a:Act} {w:World} {σ:St}
def Gw(tmps:Array Value)(x:ResultVar):Sem Value:=
 match x with
 |.tmp t=>pure (tmps.getD t undef)
 |.cell b t=>do loadVar t (←asAddr (tmps.getD b undef))
theorem La(fn:Func)(tmps:Array Value):results fn tmps=(do
  let vs ←fn.results.mapM (Gw tmps)
  pure (if h:vs.size=1 then vs[0]else .tuple vs)):=rfl
theorem ZJ(r:R B w0 aG φ σ kp a w){x:ResultVar}{K:V→Prop}(h:rvE P σ x K):∃v u,K v∧VRel φ (b8 φ σ.heap) w.heap v u∧
  (Gw a.tmps x).run P w=.ok u w:=by
 unfold rvE at h;split at h
 ·rename_i t;exact⟨_,_,h,xl r (.tmp t),rfl⟩
 ·rename_i b T;obtain⟨jg,h,hx⟩:=fb h;obtain⟨p,v,ah,hp,bU⟩:=xN h;obtain⟨dP,f,u,hu,hl,hv⟩:=Rl (St.le.refl σ) r ah hp (hx _ _ _ _ rfl (xl r (.tmp b)));refine⟨v,u,bU,hv,?_⟩;simp only[Act.eval]at hu;simp only[Gw,Sem.run_bind,hu,asAddr];simp[hl]
theorem Gx(r:R B w0 aG φ σ kp a w):∀(xs:List ResultVar) (K:List V→Prop),rvsE P σ xs K→∃vs us,K vs∧VRels φ (b8 φ σ.heap) w.heap vs us∧
  (xs.mapM (Gw a.tmps)).run P w=.ok us w
 |[],K,h=>⟨[],[],h,by simp[VRels],by simp⟩
 |x::xs,K,h=>by
  simp only[rvsE]at h;obtain⟨v,u,h,hv,hu⟩:=ZJ r h;obtain⟨vs,us,h,ZK,t6⟩:=Gx r xs _ h;refine⟨v::vs,u::us,h,by simp only[VRels];exact⟨u,us,rfl,hv,ZK⟩,?_⟩;rw[List.mapM_cons];simp only[Sem.run_bind,hu,Result.andThen_ok,t6,Sem.run_pure]
theorem Lb{fn:Func}(r:R B w0 aG φ σ kp a w){res:List AD}(h:fL P fn.results.toList res σ):∃v F,(results fn a.tmps).run P w=.ok v w∧trep w.heap true res v F∧F.Nodup∧∀b∈F,B b∧b<w.heap.size:=by
 obtain⟨vs,us,h,hv,hu⟩:=Gx r _ _ h;unfold outOA at h;split at h
 ·rename_i as bP az;obtain⟨hn,rfl⟩:=h;obtain⟨F,d4,fD,f3⟩:=Qn r vs as bP us az hn hv;refine⟨if h:us.length=1 then us[0]else .tuple us.toArray,F,?_,?_,fD,fun b hb=>?_⟩
  ·rw[La,Array.mapM_eq_mapM_toList];simp only[Sem.run_bind,Sem.run_map,hu];simp only[Result.andThen,List.size_toArray,Sem.run_pure];split<;>simp_all
  ·have hl:us.length=as.length:=by
    clear hu hv az fD f3 h
    induction as generalizing us F with
    |nil=>simp only[areps]at d4;simp[d4.1]
    |cons d ds dx=>
     simp only[areps]at d4;obtain⟨u,bY,g4,gb,rfl,rfl,aH,aZ⟩:=d4;simp[dx bY gb aZ]
   unfold trep;split
   ·rename_i x;simp only[areps]at d4;obtain⟨u,bY,g4,gb,rfl,rfl,aH,aZ,rfl⟩:=d4;subst aZ;simpa using aH
   ·rename_i hne;refine⟨us.toArray,?_,d4⟩;rw[dif_neg];intro h1;rw[hl]at h1;obtain⟨x,hx⟩:=List.length_eq_one_iff.1 h1;exact hne x hx
  ·obtain⟨id,_,az⟩:=f3 b hb;exact⟨r.ej id b az,cN.lt r az⟩
 ·exact h.elim
end
mutual
def dOk:D→Prop
 |.int k n=>k.min≤n∧n≤k.max
 |.bool _=>True
 |.str s=>s.length≤maxLen
 |.xf _=>True
 |.sl _ xs=>xs.length≤maxLen∧eOk xs
def cOk:List D→Prop
 |[]=>True
 |d::ds=>dOk d∧cOk ds
def eOk:List (List D)→Prop
 |[]=>True
 |c::cs=>cOk c∧eOk cs
end
mutual
theorem Lc{h:Array Obj}{o:Bool}:∀(d:D) (u:Value) (F:List Nat),rep h o d u F→dOk d
 |.int k n,u,F,r=>by simp only[rep]at r;simp only[dOk];exact r.2.2
 |.bool b,u,F,r=>by simp only[dOk]
 |.str s,u,F,r=>by simp only[rep]at r;simp only[dOk];exact r.2.2
 |.xf v,u,F,r=>by simp only[dOk]
 |.sl sz xs,u,F,r=>by
  simp only[rep]at r;obtain⟨a,c,h1,h2,ak,aC⟩:=r;simp only[dOk];refine⟨by omega,?_⟩;rcases aC with ⟨rfl,_⟩|⟨b,f,G,ai,aj,aT,bj,cr⟩
  ·simp[eOk]
  ·exact Ry xs b f sz G bj
theorem Rz{h:Array Obj}{o:Bool}:∀(ds:List D) (b f:Nat) (G:List Nat),repC h o b f ds G→cOk ds
 |[],_,_,_,_=>by simp[cOk]
 |d::ds,b,f,G,r=>by
  simp only[repC]at r;obtain⟨v,bH,bA,_,_,aT,bj⟩:=r;simp only[cOk];exact⟨Lc d v bH aT,Rz ds b (f+1) bA bj⟩
theorem Ry{h:Array Obj}{o:Bool}:∀(cs:List (List D)) (b f sz:Nat) (G:List Nat),repE h o b f sz cs G→eOk cs
 |[],_,_,_,_,_=>by simp[eOk]
 |c::cs,b,f,sz,G,r=>by
  simp only[repE]at r;obtain⟨bH,bA,_,_,aT,bj⟩:=r;simp only[eOk];exact⟨Rz c b f bH aT,Ry cs b (f+sz) sz bA bj⟩
end
def ZL:AD→Prop
 |.one d=>dOk d
 |.agg ds=>cOk ds
def uM:List AD→Prop
 |[]=>True
 |a::as=>ZL a∧uM as
theorem Gy{h:Array Obj}{o:Bool}:∀(as:List AD) (us:List Value) (F:List Nat),areps h o as us F→uM as
 |[],_,_,_=>trivial
 |a::as,us,F,r=>by
  simp only[areps]at r;obtain⟨u,bY,g4,gb,rfl,rfl,aH,aZ⟩:=r;refine⟨?_,Gy as bY gb aZ⟩
  cases a with
  |one d=>exact Lc d u g4 aH
  |agg ds=>
   obtain⟨vs,_,aH⟩:=aH;have:∀(ds:List D) (us:List Value) (F:List Nat),reps h o ds us F→cOk ds:=by
    intro ds
    induction ds with
    |nil=>intro _ _ _;simp[cOk]
    |cons d ds dx=>
     intro us F r;simp only[reps]at r;obtain⟨u,bY,g4,gb,rfl,rfl,aH,aZ⟩:=r;simp only[cOk];exact⟨Lc d u g4 aH,dx bY gb aZ⟩
   exact this ds _ _ aH
theorem Pk:∀{ds:List D},cOk ds→∀d∈ds,dOk d
 |[],_,d,hd=>by cases hd
 |x::xs,h,d,hd=>by
  simp only[cOk]at h;rcases List.mem_cons.1 hd with rfl|hd
  ·exact h.1
  ·exact Pk h.2 d hd
theorem IA:∀{ds:List (List D)},eOk ds→∀d∈ds,cOk d
 |[],_,d,hd=>by cases hd
 |x::xs,h,d,hd=>by
  simp only[eOk]at h;rcases List.mem_cons.1 hd with rfl|hd
  ·exact h.1
  ·exact IA h.2 d hd
theorem Ld{w:World}{args:List AD}{us:List Value}{F:List Nat}(hg:GOk w.heap)(h:areps w.heap false args us F)(m:Nat)(kp:List (V×Value))(Dp:∀p∈kp,∀φ T,VRel φ T w.heap p.1 p.2) :
  d3 (fun b=>w.heap.size≤b) w kp ⟨args.map AD.s9++List.replicate m .ab,[]⟩ ⟨us.toArray++Array.replicate m undef,[]⟩ w:=by
 have zf:∀b,b8 (fun _=>none) [] b:=fun b i β e=>by cases e
 refine⟨fun _=>False,fun _=>none,⟨?_,fun p hp=>(List.mem_append.1 hp).elim (Y8 hg (fun _ _=>zf _) p) (fun hp=>Dp p hp _ _),fun i=>.inl (v_ (by simp)),fun i j b hi=>?_,fun i β e=>(by cases e),fun i b hi=>?_,fun i β e=>(by cases e),Bel.refl _ _,fun k hk=>hk,rfl,fun p hp hb=>by have:=(hg.1 p hp).1;omega,hg.2⟩,fun i hi=>hi.elim⟩
 ·have ZM:∀(ds:List D) (us:List Value) (F:List Nat),reps w.heap false ds us F→VRels (fun _=>none) (b8 (fun _=>none) []) w.heap (ds.map V.d) us:=by
   intro ds
   induction ds with
   |nil=>intro us F r;simp only[reps]at r;simp[VRels,r.1]
   |cons d ds dx=>
    intro us F r;simp only[reps]at r;obtain⟨u,bY,g4,gb,rfl,rfl,aH,aZ⟩:=r;simp only[List.map_cons,VRels,VRel];exact⟨u,bY,rfl,⟨g4,aH,fun b _=>zf b⟩,dx bY gb aZ⟩
  have hargs:∀(args:List AD) (us:List Value) (F:List Nat),areps w.heap false args us F→VRels (fun _=>none) (b8 (fun _=>none) []) w.heap (args.map AD.s9) us:=by
   intro args
   induction args with
   |nil=>intro us F r;simp only[areps]at r;simp[VRels,r.1]
   |cons d ds dx=>
    intro us F r;simp only[areps]at r;obtain⟨u,bY,g4,gb,rfl,rfl,aH,aZ⟩:=r;simp only[List.map_cons,VRels];refine⟨u,bY,rfl,?_,dx bY gb aZ⟩
    cases d with
    |one d=>simp only[AD.s9,VRel];exact⟨g4,aH,fun b _=>zf b⟩
    |agg ds=>
     obtain⟨vs,rfl,aH⟩:=aH;simp only[AD.s9,VRel];exact⟨vs,rfl,ZM ds _ _ aH⟩
  have:=A3 (hargs args us F h) (KE (φ:=fun _=>none) (T:=b8 (fun _=>none) []) (h:=w.heap) (v:=.ab) (u:=undef) (by simp[VRel]) m);simpa using this
 ·obtain⟨β,e,_⟩:=hi;cases e
 ·obtain⟨β,e,_⟩:=hi;cases e
theorem ZN{f:FuncId}{fn:Func}{c:Code}{args res:List AD}(hf:P.funcs[f]?=some fn)(hb:fn.body=some c)(hcall:∀(args:Array Value) (w:World),(callFunc f args).run P w=.ok (.enter f args) w)(hm:P.follows .mixedOrders=true){m:Nat}(hn:fn.ntmps-args.length=m)
  {rs:List ResultVar} (hr:fn.results.toList=rs) (h0:uM args→codeE P [] c ⟨args.map AD.s9++List.replicate m .ab,[]⟩ (fL P rs res) [] (fL P rs res)):PureCall P f args res:=by
 intro w us F hg ha;have h:=h0 (Gy _ _ _ ha);clear h0;subst hr;have eB:us.length=args.length:=by
  clear h hn
  induction args generalizing us F with
  |nil=>simp only[areps]at ha;simp[ha.1]
  |cons d ds dx=>
   simp only[areps]at ha;obtain⟨u,bY,g4,gb,rfl,rfl,aH,aZ⟩:=ha;simp[dx bY gb aZ]
 have ba:∀(σ:St) (a:Act) (w':World),fL P fn.results.toList res σ→d3 (fun b=>w.heap.size≤b) w [] σ a w'→a.defers=[]∧∃v,(results fn a.tmps).run P w'=.ok v w'∧
   ∃F',Bel (fun b=>w.heap.size≤b) w w'∧trep w'.heap true res v F'∧F'.Nodup∧∀b∈F',w.heap.size≤b:=by
  rintro σ a w' wk ⟨aG,φ,r,_⟩;obtain⟨v,F',h1,h2,ak,aC⟩:=Lb r wk;exact⟨r.l8,v,h1,F',r.fg,h2,ak,fun b hb=>(aC b hb).1⟩
 refine Does.enter (hcall _ _) (calls_of_wp hf hb ?_);refine Dq (B:=fun b=>w.heap.size≤b) (w0:=w) (kp:=[]) (kv:=[]) rfl hm c _ (fL P fn.results.toList res) [] (fL P fn.results.toList res) _ _ w (fun σ a w' h' c3=>?_) (fun id σ a w' h' _=>h'.elim) (fun σ a w' h' c3=>?_) h ?_
 ·exact ba σ a w' h' c3
 ·exact ba σ a w' h' c3
 ·have:=Ld hg ha m [] (by simp);have hs:us.toArray.size=args.length:=by rw[List.size_toArray,eB]
  rw[hs,hn];exact this
theorem YJ{f:FuncId}{fn:Func}{c:Code}{args res:List AD}(hf:P.funcs[f]?=some fn)(hb:fn.body=some c)(hcall:∀(args:Array Value) (w:World),(callFunc f args).run P w=.ok (.enter f args) w)(hm:P.follows .mixedOrders=true){ts:List V}
  (hn:args.map AD.s9++List.replicate (fn.ntmps-args.length) .ab=ts) {rs:List ResultVar} (hr:fn.results.toList=rs) (h:uM args→codeE P [] c ⟨ts,[]⟩ (fL P rs res) [] (fL P rs res)):PureCall P f args res:=
 ZN hf hb hcall hm rfl hr (by rw[hn];exact h)
def QU(r:Option (List AD×List Nat))(res:List AD):Prop:=r=some (res,[])
theorem Le{h:Array Obj}{o:Bool}:∀(args:List AD) (us:List Value) (F:List Nat) (n:Nat),areps h o args us F→us.length=args.length∧(aVs args n).length=args.length
 |[],us,F,n,r=>by simp only[areps]at r;simp[r.1,aVs]
 |d::ds,us,F,n,r=>by
  simp only[areps]at r;obtain⟨u,bY,g4,gb,rfl,rfl,aH,aZ⟩:=r;obtain⟨h1,h2⟩:=Le ds bY gb (n+(CR d).length) aZ;simp[aVs,h1,h2]
def tupV(vs:List V):V:=match vs with|[v]=>v|vs=>.dB vs
def t3(P:Program)(rs:List ResultVar)(K:V→List H→Prop)(σ:St):Prop:=rvsE P σ rs fun vs=>K (tupV vs) σ.heap
theorem RA{φ:b2}{T:Nat→Prop}{h:Array Obj}{vs:List V}{us:List Value}(r:VRels φ T h vs us):VRel φ T h (tupV vs) (if hl:us.length=1 then us[0]else .tuple us.toArray):=by
 have hl:=i6 _ _ r;unfold tupV;split
 ·rename_i v;simp only[VRels]at r;obtain⟨u,bY,rfl,aH,aZ⟩:=r;subst aZ;simpa using aH
 ·rename_i hne;rw[dif_neg (fun e=>by
   rw[hl]at e;obtain⟨x,hx⟩:=List.length_eq_one_iff.1 e;exact hne x hx)]
  simp only[VRel];exact⟨_,rfl,r⟩
theorem YL{f:FuncId}{fn:Func}{c:Code}{kv:List V}{hs:List H}{vs:List V}{K:V→List H→Prop}(hf:P.funcs[f]?=some fn)(hb:fn.body=some c)(hcall:∀(args:Array Value) (w:World),(callFunc f args).run P w=.ok (.enter f args) w)(hm:P.follows .mixedOrders=true){ts:List V}
  (hn:vs++List.replicate (fn.ntmps-vs.length) .ab=ts) {rs:List ResultVar} (hr:fn.results.toList=rs) (h:codeE P kv c ⟨ts,hs⟩ (t3 P rs K) [] (t3 P rs K)):di P f kv hs vs K:=by
 intro B w0 kp us w bp aL;subst hr;subst hn;have eB:us.length=vs.length:=by
  obtain⟨aG,φ,r,_⟩:=aL;have:=i6 _ _ r.gB;simpa using this
 have ba:∀(σ:St) (a:Act) (w':World),t3 P fn.results.toList K σ→d3 B w0 kp σ a w'→a.defers=[]∧∃v,(results fn a.tmps).run P w'=.ok v w'∧
   ∃x hs',K x hs'∧d3 B w0 kp ⟨[x],hs'⟩ ⟨#[v],[]⟩ w':=by
  rintro σ a w' wk ⟨aG,φ,r,bR⟩;obtain⟨xs,fy,cC,hv,hu⟩:=Gx r _ _ wk;refine⟨r.l8,if h:fy.length=1 then fy[0]else .tuple fy.toArray,?_,_,_,cC,aG,φ,⟨?_,r.kp,r.hp,r.dy,r.d_,r.ej,r.f1,r.fg,r.bs,rfl,r.jS⟩,bR⟩
  ·rw[La,Array.mapM_eq_mapM_toList];simp only[Sem.run_bind,Sem.run_map,hu];simp only[Result.andThen,List.size_toArray,Sem.run_pure];split<;>simp_all
  ·simp only[VRels];exact⟨_,_,rfl,RA hv,rfl⟩
 refine Does.enter (hcall _ _) (calls_of_wp hf hb ?_);refine Dq (B:=B) (w0:=w0) (kp:=kp) (kv:=kv) bp hm c _ (t3 P fn.results.toList K) [] (t3 P fn.results.toList K) _ _ w (fun σ a w' h' c3=>?_) (fun id σ a w' h' _=>h'.elim) (fun σ a w' h' c3=>?_) h ?_
 ·exact ba σ a w' h' c3
 ·exact ba σ a w' h' c3
 ·obtain⟨aG,φ,r,bR⟩:=aL;have hs':us.toArray.size=vs.length:=by rw[List.size_toArray,eB]
  refine⟨aG,φ,⟨?_,r.kp,r.hp,r.dy,r.d_,r.ej,r.f1,r.fg,r.bs,rfl,r.jS⟩,bR⟩;have:=A3 r.gB (KE (φ:=φ) (T:=b8 φ hs) (h:=w.heap) (v:=.ab) (u:=undef) (by simp[VRel]) (fn.ntmps-vs.length));rw[hs'];simpa using this
theorem di.mono{f:FuncId}{kv:List V}{hs:List H}{vs:List V}{K fp:V→List H→Prop}(h:di P f kv hs vs K)(hk:∀x hs',K x hs'→fp x hs'):di P f kv hs vs fp:=by
 intro B w0 kp us w bp aL;exact(h B w0 kp us w bp aL).mono fun v w' ⟨x,hs',h1,h2⟩=>⟨x,hs',hk x hs' h1,h2⟩
variable {P:Program}
inductive t2{α:Type}(a:α):Type where
 |mk
theorem b6{a b:Prop}(h:a=b):a=b:=h
def bo{α:Type}(K:α→Prop)(_:t2 K):α→Prop:=K
def xH(A:Prop)(_:t2 A):Prop:=A
def kg{α β:Type}(K:α→β→Prop)(_:t2 K):α→β→Prop:=K
@[go_sem] theorem ahw{α:Type}(K:α→Prop)(s:t2 K)(x:α):bo K s x=K x:=b6 rfl
@[go_sem] theorem ahx{α β:Type}(K:α→β→Prop)(s:t2 K)(x:α)(y:β):kg K s x y=K x y:=b6 rfl
section
variable {g:Bool} {K:V→Prop}
@[go_sem] theorem ahy(x:D):evg g (.d x) K=K (.d x):=b6 rfl
@[go_sem] theorem ahz(s:Nat):evg g (.c6 s) K=K (.c6 s):=b6 rfl
@[go_sem] theorem ahA(vs:List V):evg g (.agg vs) K=K (.agg vs):=b6 rfl
@[go_sem] theorem ahB(a b c:Nat):evg g (.ptr a b c) K=K (.ptr a b c):=b6 rfl
@[go_sem] theorem ahC(a:List D)(b:Nat):evg g (.ep a b) K=K (.ep a b):=b6 rfl
@[go_sem] theorem ahD(a b c:Nat):evg g (.sl a b c) K=K (.sl a b c):=b6 rfl
@[go_sem] theorem ahE(a:FuncId)(b:List V):evg g (.fn a b) K=K (.fn a b):=b6 rfl
@[go_sem] theorem ahF(a:List V):evg g (.dB a) K=K (.dB a):=b6 rfl
@[go_sem] theorem ahG(c:Bool)(v:V):evg g (.bm c v) K=((g=true→c=true)∧K v):=b6 rfl
@[go_sem] theorem ahH:evg g .ab K=K .ab:=b6 rfl
end
@[go_sem] theorem ahI(b:Bool)(K:Bool→Prop):asB (.d (.bool b)) K=K b:=b6 rfl
@[go_sem] theorem ahJ(k:IntKind)(n:Int)(K:IntKind→Int→Prop):asI (.d (.int k n)) K=K k n:=b6 rfl
@[go_sem] theorem ahK(p:Prop)(v:V)(K:V→Prop):withR (some (p,v)) K=(p∧K v):=b6 rfl
@[go_sem] theorem ahL(v:V)(K:V→Prop):withO (some v) K=K v:=b6 rfl
@[go_sem] theorem ahM(p:Prop)(r:dS)(K:dS→Prop):uX (some (p,r)) K=(p∧K r):=b6 rfl
@[go_sem] theorem ahN(n:Nat)(K:Nat→Prop):Kh (some n) K=K n:=b6 rfl
@[go_sem] theorem ahO(A B:Prop)(s:t2 A):zc true (xH A s) B=A:=by simp[zc,xH]
@[go_sem] theorem ahP(A B:Prop)(s:t2 B):zc false A (xH B s)=B:=by simp[zc,xH]
@[go_sem] theorem ahQ(n:Nat):List.replicate (n+1) V.ab=V.ab::List.replicate n V.ab:=rfl
def nth:List V→Nat→V
 |[],_=>.ab
 |v::_,0=>v
 |_::vs,n+1=>nth vs n
theorem QM:∀(vs:List V) (n:Nat),vs.getD n .ab=nth vs n
 |[],n=>by simp[nth]
 |v::vs,0=>by simp[nth]
 |v::vs,n+1=>by simpa [nth]using QM vs n
@[go_sem] theorem ahR(v:V)(vs:List V):nth (v::vs) 0=v:=rfl
@[go_sem] theorem ahS(v:V)(vs:List V)(n:Nat):nth (v::vs) (n+1)=nth vs n:=rfl
@[go_sem] theorem ahT(ts:List V)(hs:List H)(t:Nat):St.ev ⟨ts,hs⟩ (.tmp t)=nth ts t:=QM ts t
@[go_sem] theorem ahU(σ:St)(v:Value):σ.ev (.const v)=ofVal v:=rfl
@[go_sem] theorem ahV(σ:St)(f:FuncId):σ.ev (.func f)=.fn f []:=rfl
@[go_sem] theorem ahW(n:Int):ofVal (.int .i64 n)=if -9223372036854775808≤n∧n≤9223372036854775807 then .d (.int .i64 n)else .ab:=by
 have h1:IntKind.i64.min=-9223372036854775808:=by decide
 have h2:IntKind.i64.max=9223372036854775807:=by decide
 simp only[ofVal,F8,h1,h2,Bool.and_eq_true,decide_eq_true_eq]
@[go_sem] theorem ahX(n:Int):ofVal (.int .u8 n)=if 0≤n∧n≤255 then .d (.int .u8 n)else .ab:=by
 have h1:IntKind.u8.min=0:=by decide
 have h2:IntKind.u8.max=255:=by decide
 simp only[ofVal,F8,h1,h2,Bool.and_eq_true,decide_eq_true_eq]
theorem QN{n:Nat}(h:n≤1000000):n≤maxLen:=by simp only[maxLen];omega
@[go_sem] theorem ahY(l:List UInt8)(h:l.length≤1000000):ofVal (.string ⟨l.toArray⟩)=.d (.str l):=by
 have:=QN h;simp[ofVal,this]
@[go_sem] theorem ahZ(b:Bool):ofVal (.bool b)=.d (.bool b):=rfl
@[go_sem] theorem ah0:ofVal (.slice none 0 0)=.c6 0:=rfl
@[go_sem] theorem xh(x:H)(hs:List H):aN (x::hs) 0=x:=rfl
@[go_sem] theorem xi(x:H)(hs:List H)(n:Nat):aN (x::hs) (n+1)=aN hs n:=by simp[aN]
@[go_sem] theorem ah1(n:Nat):aN [] n=.c1:=by simp[aN]
@[go_sem] theorem ah2(x:H):b3 [] 0 x=[x]:=rfl
@[go_sem] theorem ah3(n:Nat)(x:H):b3 [] (n+1) x=.c1::b3 [] n x:=by
 unfold b3;simp[List.replicate_succ]
@[go_sem] theorem ah4(y:H)(ys:List H)(x:H):b3 (y::ys) 0 x=x::ys:=by
 unfold b3;simp
@[go_sem] theorem ah5(y:H)(ys:List H)(n:Nat)(x:H):b3 (y::ys) (n+1) x=y::b3 ys n x:=by
 unfold b3;by_cases h:n<ys.length
 ·simp[h]
 ·simp[h]
@[go_sem] theorem ah6(hs:List H)(n:Nat):hnew hs n []=hs:=rfl
@[go_sem] theorem ah7(hs:List H)(n:Nat)(x:H)(xs:List H):hnew hs n (x::xs)=hnew (b3 hs n x) (n+1) xs:=rfl
@[go_sem] theorem ah8(hs:List H):hupd hs []=hs:=rfl
@[go_sem] theorem ah9(hs:List H)(i:Nat)(x:H)(r:List (Nat×H)):hupd hs ((i,x)::r)=hupd (b3 hs i x) r:=rfl
@[go_sem] theorem aia(ts:List V)(hs:List H)(d:Tmp)(n:Nat)(v:V):St.cK ⟨ts,hs⟩ (some d) n (cg v)=⟨ts.set d v,hs⟩:=rfl
@[go_sem] theorem aib(ts:List V)(hs:List H)(n:Nat)(v:V):St.cK ⟨ts,hs⟩ none n (cg v)=⟨ts,hs⟩:=rfl
@[go_sem] theorem aic(ts:List V)(hs:List H)(d:Tmp)(n:Nat)(v:V)(new:List H)(upd:List (Nat×H)):St.cK ⟨ts,hs⟩ (some d) n ⟨v,new,upd⟩=⟨ts.set d v,hupd (hnew hs n new) upd⟩:=rfl
@[go_sem] theorem aid(ts:List V)(hs:List H)(n:Nat)(v:V)(new:List H)(upd:List (Nat×H)):St.cK ⟨ts,hs⟩ none n ⟨v,new,upd⟩=⟨ts,hupd (hnew hs n new) upd⟩:=rfl
@[go_sem] theorem aie(v w:V)(vs:List V):(v::vs).set 0 w=w::vs:=rfl
@[go_sem] theorem aif(v w:V)(vs:List V)(n:Nat):(v::vs).set (n+1) w=v::vs.set n w:=rfl
section
variable {kv:List V} {σ:St} {K:St→Prop} {aS:List (Nat×(St→Prop))} {cq:St→Prop}
@[go_sem] theorem aih:codeE P kv .skip σ K aS cq=K σ:=b6 rfl
@[go_sem] theorem aii(id:Nat)(ay:List Oper):codeE P kv (.region id ay.toArray false) σ K aS cq=opsE P kv ay ay σ K:=by simp[codeE]
@[go_sem] theorem aij(id:Nat)(ay:Array Oper):codeE P kv (.region id ay true) σ K aS cq=AB P kv ay σ K:=b6 rfl
@[go_sem] theorem YH(a b:Code):codeE P kv (.seq a b) σ K aS cq=codeE P kv a σ (bo (fun σ'=>codeE P kv b σ' K aS cq) .mk) aS cq:=b6 rfl
@[go_sem] theorem aik(c:Operand)(a b:Code):codeE P kv (.cond c a b) σ K aS cq=evg true (σ.ev c) (bo (fun v=>asB v (bo (fun t=>zc t (xH (codeE P kv a σ K aS cq) .mk) (xH (codeE P kv b σ K aS cq) .mk)) .mk)) .mk):=b6 rfl
@[go_sem] theorem ail(id:Nat)(c:Code):codeE P kv (.block id c) σ K aS cq=codeE P kv c σ K ((id,K)::aS) cq:=b6 rfl
@[go_sem] theorem aim(id:Nat):codeE P kv (.exit id) σ K aS cq=outE aS id σ:=b6 rfl
@[go_sem] theorem ain:codeE P kv .ret σ K aS cq=cq σ:=b6 rfl
@[go_sem] theorem aio(c:Code):codeE P kv (.loop c) σ K aS cq=b9 kv (kg (fun σ fp=>codeE P kv c σ fp aS cq) .mk) σ:=b6 rfl
@[go_sem] theorem aip(id:Nat):outE [] id σ=False:=b6 rfl
@[go_sem] theorem aiq(i:Nat)(id:Nat):outE ((i,K)::aS) id σ=if id=i then K σ else outE aS id σ:=b6 rfl
end
section
variable {σ:St} {ay:List Oper} {n:Nat} {K:dS→Prop}
@[go_sem] theorem air(kv:List V)(K:St→Prop):opsE P kv ay [] σ K=K σ:=b6 rfl
@[go_sem] theorem ais(kv:List V)(o:Oper)(a_:List Oper)(K:St→Prop):opsE P kv ay (o::a_) σ K=tG P kv ay σ o (bo (fun σ'=>opsE P kv ay a_ σ' K) .mk):=b6 rfl
@[go_sem] theorem ait(dst:Option Tmp)(op:Op)(T:TypeId)(cW:String)(after:Array Edge)(K:dS→Prop):stepE P ay σ n ⟨dst,op,T,cW,after,none⟩ K=opE P true σ n ⟨dst,op,T,cW,after,none⟩ K:=b6 rfl
end
@[go_sem] theorem aiu(b i7:Bool)(K:Bool→Prop):xC (.d (.bool b)) i7 K=K (b == i7):=b6 rfl
@[go_sem] theorem aiv(c b i7:Bool)(K:Bool→Prop):xC (.bm c (.d (.bool b))) i7 K=K (c&&(b == i7)):=b6 rfl
@[go_sem] theorem aiw(d:Tmp)(op:Op)(T:TypeId)(cW:String)(after:Array Edge)(g:Option (Nat×Bool))(ay:List Oper)(K:Tmp→Prop):u0 (⟨some d,op,T,cW,after,g⟩::ay) 0 K=K d:=b6 rfl
@[go_sem] theorem aix(o:Oper)(ay:List Oper)(j:Nat)(K:Tmp→Prop):u0 (o::ay) (j+1) K=u0 ay j K:=by simp[u0]
@[go_sem] theorem aiy{σ:St}{ay:List Oper}{n:Nat}(dst:Option Tmp)(op:Op)(T:TypeId)(cW:String)(after:Array Edge)(j:Nat)(i7:Bool)(K:dS→Prop) :
  stepE P ay σ n ⟨dst,op,T,cW,after,some (j,i7)⟩ K=u0 ay j (bo (fun d=>xC (σ.ev (.tmp d)) i7 (bo (fun g=>s5 P g σ n ⟨dst,op,T,cW,after,some (j,i7)⟩ K) .mk)) .mk):=by
 unfold stepE u0 bo;simp only
 cases h:(ay[j]?).bind (·.dst)with
 |none=>rfl
 |some d=>
  simp only;generalize σ.ev (.tmp d)=v;unfold xC
  cases v with
  |d x=>cases x<;>rfl
  |bm c v=>cases v with
   |d x=>cases x<;>rfl
   |_=>rfl
  |_=>rfl
section
variable {kv:List V} {σ:St} {ay:List Oper} {dst:Option Tmp} {T:TypeId} {cW:String} {after:Array Edge} {K:St→Prop}
@[go_sem] theorem aiz(op:Op)(j:Nat)(i7:Bool):tG P kv ay σ ⟨dst,op,T,cW,after,some (j,i7)⟩ K=u0 ay j (bo (fun d=>xC (σ.ev (.tmp d)) i7 (bo (fun g=>wb P kv g σ ⟨dst,op,T,cW,after,some (j,i7)⟩ K) .mk)) .mk):=b6 rfl
@[go_sem] theorem aiA(op:Op):tG P kv ay σ ⟨dst,op,T,cW,after,none⟩ K=bareE P kv σ ⟨dst,op,T,cW,after,none⟩ K:=b6 rfl
@[go_sem] theorem aiB(x:Operand)(bm:Option (Nat×Bool)):bareE P kv σ ⟨dst,.move x,T,cW,after,bm⟩ K=opE P true σ σ.heap.length ⟨dst,.move x,T,cW,after,bm⟩ (bo (fun r=>K (σ.cK dst σ.heap.length r)) .mk):=b6 rfl
@[go_sem] theorem aiC(x:Operand)(bm:Option (Nat×Bool)):bareE P kv σ ⟨dst,.assign x,T,cW,after,bm⟩ K=opE P true σ σ.heap.length ⟨dst,.assign x,T,cW,after,bm⟩ (bo (fun r=>K (σ.cK dst σ.heap.length r)) .mk):=b6 rfl
@[go_sem] theorem aiD(c x y:Operand)(bm:Option (Nat×Bool)):bareE P kv σ ⟨dst,.pick c x y,T,cW,after,bm⟩ K=opE P true σ σ.heap.length ⟨dst,.pick c x y,T,cW,after,bm⟩ (bo (fun r=>K (σ.cK dst σ.heap.length r)) .mk):=b6 rfl
@[go_sem] theorem aiE(op:BinOp)(U QO:TypeId)(x y:Operand)(bm:Option (Nat×Bool)):bareE P kv σ ⟨dst,.binOp op U x y QO,T,cW,after,bm⟩ K=opE P true σ σ.heap.length ⟨dst,.binOp op U x y QO,T,cW,after,bm⟩ (bo (fun r=>K (σ.cK dst σ.heap.length r)) .mk):=b6 rfl
@[go_sem] theorem aiF(op:UnOp)(U:TypeId)(x:Operand)(bm:Option (Nat×Bool)):bareE P kv σ ⟨dst,.unOp op U x,T,cW,after,bm⟩ K=opE P true σ σ.heap.length ⟨dst,.unOp op U x,T,cW,after,bm⟩ (bo (fun r=>K (σ.cK dst σ.heap.length r)) .mk):=b6 rfl
@[go_sem] theorem aiG(x:Operand)(i:Nat)(bm:Option (Nat×Bool)):bareE P kv σ ⟨dst,.extract x i,T,cW,after,bm⟩ K=opE P true σ σ.heap.length ⟨dst,.extract x i,T,cW,after,bm⟩ (bo (fun r=>K (σ.cK dst σ.heap.length r)) .mk):=b6 rfl
@[go_sem] theorem aiH(x:Operand)(bm:Option (Nat×Bool)):bareE P kv σ ⟨dst,.nilCheck x,T,cW,after,bm⟩ K=opE P true σ σ.heap.length ⟨dst,.nilCheck x,T,cW,after,bm⟩ (bo (fun r=>K (σ.cK dst σ.heap.length r)) .mk):=b6 rfl
@[go_sem] theorem aiI(S:TypeId)(x:Operand)(f:Nat)(bm:Option (Nat×Bool)):bareE P kv σ ⟨dst,.fieldAddr S x f,T,cW,after,bm⟩ K=opE P true σ σ.heap.length ⟨dst,.fieldAddr S x f,T,cW,after,bm⟩ (bo (fun r=>K (σ.cK dst σ.heap.length r)) .mk):=b6 rfl
@[go_sem] theorem aiJ(U:TypeId)(x iO:Operand)(bm:Option (Nat×Bool)):bareE P kv σ ⟨dst,.indexAddr U x iO,T,cW,after,bm⟩ K=opE P true σ σ.heap.length ⟨dst,.indexAddr U x iO,T,cW,after,bm⟩ (bo (fun r=>K (σ.cK dst σ.heap.length r)) .mk):=b6 rfl
@[go_sem] theorem aiK(U:TypeId)(x:Operand)(bm:Option (Nat×Bool)):bareE P kv σ ⟨dst,.load U x,T,cW,after,bm⟩ K=opE P true σ σ.heap.length ⟨dst,.load U x,T,cW,after,bm⟩ (bo (fun r=>K (σ.cK dst σ.heap.length r)) .mk):=b6 rfl
@[go_sem] theorem aiL(U:TypeId)(x iO:Operand)(bm:Option (Nat×Bool)):bareE P kv σ ⟨dst,.index U x iO,T,cW,after,bm⟩ K=opE P true σ σ.heap.length ⟨dst,.index U x iO,T,cW,after,bm⟩ (bo (fun r=>K (σ.cK dst σ.heap.length r)) .mk):=b6 rfl
@[go_sem] theorem aiM(U:TypeId)(x:Operand)(bK hi uT:Option Operand)(bm:Option (Nat×Bool)):bareE P kv σ ⟨dst,.slice U x bK hi uT,T,cW,after,bm⟩ K=opE P true σ σ.heap.length ⟨dst,.slice U x bK hi uT,T,cW,after,bm⟩ (bo (fun r=>K (σ.cK dst σ.heap.length r)) .mk):=b6 rfl
@[go_sem] theorem aiN(S U:TypeId)(x:Operand)(bm:Option (Nat×Bool)):bareE P kv σ ⟨dst,.convert S U x,T,cW,after,bm⟩ K=opE P true σ σ.heap.length ⟨dst,.convert S U x,T,cW,after,bm⟩ (bo (fun r=>K (σ.cK dst σ.heap.length r)) .mk):=b6 rfl
@[go_sem] theorem aiO(U:TypeId)(parts:Array (Nat×Operand))(bm:Option (Nat×Bool)):bareE P kv σ ⟨dst,.build U parts,T,cW,after,bm⟩ K=opE P true σ σ.heap.length ⟨dst,.build U parts,T,cW,after,bm⟩ (bo (fun r=>K (σ.cK dst σ.heap.length r)) .mk):=b6 rfl
@[go_sem] theorem aiP(U:TypeId)(bm:Option (Nat×Bool)):bareE P kv σ ⟨dst,.alloc U,T,cW,after,bm⟩ K=opE P true σ σ.heap.length ⟨dst,.alloc U,T,cW,after,bm⟩ (bo (fun r=>K (σ.cK dst σ.heap.length r)) .mk):=b6 rfl
@[go_sem] theorem aiQ(U:TypeId)(x:Operand)(bm:Option (Nat×Bool)):bareE P kv σ ⟨dst,.box U x,T,cW,after,bm⟩ K=opE P true σ σ.heap.length ⟨dst,.box U x,T,cW,after,bm⟩ (bo (fun r=>K (σ.cK dst σ.heap.length r)) .mk):=b6 rfl
@[go_sem] theorem aiR(U:TypeId)(p x:Operand)(bm:Option (Nat×Bool)):bareE P kv σ ⟨dst,.store U p x,T,cW,after,bm⟩ K=opE P true σ σ.heap.length ⟨dst,.store U p x,T,cW,after,bm⟩ (bo (fun r=>K (σ.cK dst σ.heap.length r)) .mk):=b6 rfl
@[go_sem] theorem aiS(U:TypeId)(len:Nat)(parts:Array (Nat×Operand))(bm:Option (Nat×Bool)):bareE P kv σ ⟨dst,.buildSlice U len parts,T,cW,after,bm⟩ K=opE P true σ σ.heap.length ⟨dst,.buildSlice U len parts,T,cW,after,bm⟩ (bo (fun r=>K (σ.cK dst σ.heap.length r)) .mk):=b6 rfl
@[go_sem] theorem aiT(U:TypeId)(x y:Operand)(bm:Option (Nat×Bool)):bareE P kv σ ⟨dst,.makeSlice U x y,T,cW,after,bm⟩ K=opE P true σ σ.heap.length ⟨dst,.makeSlice U x y,T,cW,after,bm⟩ (bo (fun r=>K (σ.cK dst σ.heap.length r)) .mk):=b6 rfl
@[go_sem] theorem aiU(f:Fn)(ys d8:Array Operand)(bm:Option (Nat×Bool)):bareE P kv σ ⟨dst,.makeFunc f ys d8,T,cW,after,bm⟩ K=opE P true σ σ.heap.length ⟨dst,.makeFunc f ys d8,T,cW,after,bm⟩ (bo (fun r=>K (σ.cK dst σ.heap.length r)) .mk):=b6 rfl
@[go_sem] theorem aiV(b:Builtin)(xs:Array Operand)(ts:Array TypeId)(bm:Option (Nat×Bool)):bareE P kv σ ⟨dst,.call ⟨.builtin b,xs,ts⟩,T,cW,after,bm⟩ K=opE P true σ σ.heap.length ⟨dst,.call ⟨.builtin b,xs,ts⟩,T,cW,after,bm⟩ (bo (fun r=>K (σ.cK dst σ.heap.length r)) .mk):=b6 rfl
@[go_sem] theorem aiW(x:Operand)(xs:List Operand)(ts:Array TypeId)(bm:Option (Nat×Bool)):bareE P kv σ ⟨dst,.call ⟨.value x,xs.toArray,ts⟩,T,cW,after,bm⟩ K=evg true (σ.ev x) (bo (fun v9=>fnE v9 (kg (fun f d8=>evs true σ xs (bo (fun vs=>af P kv σ dst f d8 (toADs σ.heap vs) vs K) .mk)) .mk)) .mk):=b6 rfl
@[go_sem] theorem aiX(f:FuncId)(d8:List V)(K:FuncId→List V→Prop):fnE (.fn f d8) K=K f d8:=b6 rfl
attribute [go_sem] gP
theorem af.intro{f:FuncId}{as rs:List AD}{vs:List V}(h:PureCall P f as rs)(hk:K (σ.cK dst σ.heap.length ⟨lH rs σ.heap.length,aHs rs,[]⟩)):af P kv σ dst f [] (some as) vs K:=.inl ⟨rfl,.inl (.inl ⟨as,rs,rfl,h,hk⟩)⟩
theorem af.ag{f:FuncId}{as rs:List AD}{vs:List V}(h:PureCall P f as rs)(hk:K (σ.cK dst σ.heap.length ⟨lH rs σ.heap.length,(aHs rs).map H.toCln,[]⟩)):af P kv σ dst f [] (some as) vs K:=.inl ⟨rfl,.inl (.inr ⟨as,rs,rfl,h,hk⟩)⟩
theorem af.inl{f:FuncId}{d8 vs:List V}{xF:Option (List AD)}(h:di P f (σ.tmps++kv) σ.heap (vs++d8) (kg (fun x hs=>K ⟨gP σ.tmps dst x,hs⟩) .mk)):af P kv σ dst f d8 xF vs K:=.inr ⟨σ.tmps,QA _,h⟩
theorem af.gV(cQ:List Nat){f:FuncId}{d8 vs ts:List V}{xF:Option (List AD)}(ht:gn cQ 0 σ.tmps=ts)(h:di P f (ts++kv) σ.heap (vs++d8) (kg (fun x hs=>K ⟨gP ts dst x,hs⟩) .mk)):af P kv σ dst f d8 xF vs K:=.inr ⟨ts,by rw[←ht];exact QD cQ 0 _,h⟩
theorem a8{g:Bool}{o:Oper}(h:opE P g σ σ.heap.length o (bo (fun r=>r.new=[]∧r.upd=[]∧K (σ.cK o.dst σ.heap.length (cg (.bm g r.v)))) .mk)):wb P kv g σ o K:=.inl (Qt h)
theorem ct{o:Oper}(h:bareE P kv σ o K):wb P kv true σ o K:=.inr ⟨fun _=>h,fun e=>(by cases e)⟩
theorem dC{o:Oper}(h:K (σ.cK o.dst σ.heap.length (cg (.bm false (.d (.bool false)))))):wb P kv false σ o K:=.inr ⟨fun e=>(by cases e),fun _=>h⟩
end
section
variable {g:Bool} {σ:St} {n:Nat} {dst:Option Tmp} {T:TypeId} {cW:String} {after:Array Edge} {bm:Option (Nat×Bool)} {K:dS→Prop}
@[go_sem] theorem aiY(x:Operand):opE P g σ n ⟨dst,.move x,T,cW,after,bm⟩ K=evg g (σ.ev x) (bo (fun v=>K (cg (jh P T v))) .mk):=b6 rfl
@[go_sem] theorem aiZ(x:Operand):opE P g σ n ⟨dst,.assign x,T,cW,after,bm⟩ K=evg g (σ.ev x) (bo (fun v=>K (cg (jh P T v))) .mk):=b6 rfl
@[go_sem] theorem ai0(c x y:Operand):opE P g σ n ⟨dst,.pick c x y,T,cW,after,bm⟩ K=y7 g (σ.ev c) (σ.ev x) (σ.ev y) (bo (fun v=>K (cg v)) .mk):=b6 rfl
@[go_sem] theorem ai1(op:BinOp)(U xI:TypeId)(x y:Operand):opE P g σ n ⟨dst,.binOp op U x y xI,T,cW,after,bm⟩ K=evg g (σ.ev x) (bo (fun a=>evg g (σ.ev y) (bo (fun b=>withR (binE P op U a b) (bo (fun v=>K (cg v)) .mk)) .mk)) .mk):=b6 rfl
@[go_sem] theorem ai2(op:UnOp)(U:TypeId)(x:Operand):opE P g σ n ⟨dst,.unOp op U x,T,cW,after,bm⟩ K=evg g (σ.ev x) (bo (fun a=>withO (unE op a) (bo (fun v=>K (cg v)) .mk)) .mk):=b6 rfl
@[go_sem] theorem ai3(x:Operand)(i:Nat):opE P g σ n ⟨dst,.extract x i,T,cW,after,bm⟩ K=evg g (σ.ev x) (bo (fun a=>withO (extE a i) (bo (fun v=>K (cg v)) .mk)) .mk):=b6 rfl
@[go_sem] theorem ai4(x:Operand):opE P g σ n ⟨dst,.nilCheck x,T,cW,after,bm⟩ K=evg g (σ.ev x) (bo (fun a=>ptrE a=true∧K (cg a)) .mk):=b6 rfl
@[go_sem] theorem ai5(S:TypeId)(x:Operand)(f:Nat):opE P g σ n ⟨dst,.fieldAddr S x f,T,cW,after,bm⟩ K=evg g (σ.ev x) (bo (fun a=>withO (faE P S f a) (bo (fun v=>K (cg v)) .mk)) .mk):=b6 rfl
@[go_sem] theorem ai6(U:TypeId)(x iO:Operand):opE P g σ n ⟨dst,.indexAddr U x iO,T,cW,after,bm⟩ K=evg g (σ.ev x) (bo (fun a=>evg g (σ.ev iO) (bo (fun b=>asI b (kg (fun _ i=>withR (iaE P σ.heap U a i) (bo (fun v=>K (cg v)) .mk)) .mk)) .mk)) .mk):=b6 rfl
@[go_sem] theorem ai7(U:TypeId)(x:Operand):opE P g σ n ⟨dst,.load U x,T,cW,after,bm⟩ K=evg g (σ.ev x) (bo (fun a=>withR (loadE P σ.heap U a) (bo (fun v=>K (cg v)) .mk)) .mk):=b6 rfl
@[go_sem] theorem ai8(U:TypeId)(x iO:Operand):opE P g σ n ⟨dst,.index U x iO,T,cW,after,bm⟩ K=evg g (σ.ev x) (bo (fun a=>evg g (σ.ev iO) (bo (fun b=>asI b (kg (fun _ i=>withR (ixE P U a i) (bo (fun v=>K (cg v)) .mk)) .mk)) .mk)) .mk):=b6 rfl
@[go_sem] theorem ai9(U:TypeId)(x:Operand)(bK hi:Option Operand):opE P g σ n ⟨dst,.slice U x bK hi none,T,cW,after,bm⟩ K=evg g (σ.ev x) (bo (fun a=>bndE g σ 0 bK (bo (fun l=>bndE g σ (AV a) hi (bo (fun h=>withR (cutE P σ.heap U a l h) (bo (fun v=>K (cg v)) .mk)) .mk)) .mk)) .mk):=b6 rfl
@[go_sem] theorem aja(S U:TypeId)(x:Operand):opE P g σ n ⟨dst,.convert S U x,T,cW,after,bm⟩ K=evg g (σ.ev x) (bo (fun a=>withR (cvE P σ.heap S U a) (bo (fun v=>K (cg v)) .mk)) .mk):=b6 rfl
@[go_sem] theorem ajb(U:TypeId)(parts:List (Nat×Operand)):opE P g σ n ⟨dst,.build U parts.toArray,T,cW,after,bm⟩ K=evParts g σ parts (bo (fun ps=>withO (bldE P U ps) (bo (fun v=>K (cg v)) .mk)) .mk):=by simp[opE,bo]
@[go_sem] theorem ajc(U:TypeId):opE P g σ n ⟨dst,.alloc U,T,cW,after,bm⟩ K=withO ((zrI P U).map V.agg) (bo (fun v=>K ⟨.ptr n 0 0,[.box v.cells],[]⟩) .mk):=b6 rfl
@[go_sem] theorem ajd(U:TypeId)(x:Operand):opE P g σ n ⟨dst,.box U x,T,cW,after,bm⟩ K=evg g (σ.ev x) (bo (fun v=>v.uY=true∧K ⟨.ptr n 0 0,[.box v.cells],[]⟩) .mk):=b6 rfl
@[go_sem] theorem aje(U:TypeId)(p x:Operand):opE P g σ n ⟨dst,.store U p x,T,cW,after,bm⟩ K=evg g (σ.ev p) (bo (fun q=>evg g (σ.ev x) (bo (fun v=>uX ((storeE P σ.heap U q (jh P U v)).map fun(c,upd)=>(c,⟨.ab,[],upd⟩)) K) .mk)) .mk):=b6 rfl
@[go_sem] theorem ajf(U:TypeId)(len:Nat)(parts:List (Nat×Operand)):opE P g σ n ⟨dst,.buildSlice U len parts.toArray,T,cW,after,bm⟩ K=evParts g σ parts (bo (fun ps=>uX (bsE P σ.heap U len ps n) K) .mk):=by simp[opE,bo]
@[go_sem] theorem ajg(U:TypeId)(x y:Operand):opE P g σ n ⟨dst,.makeSlice U x y,T,cW,after,bm⟩ K=(x=y∧evg g (σ.ev x) (bo (fun v=>asI v (kg (fun _ i=>uX (mkE P U i n) K) .mk)) .mk)):=b6 rfl
@[go_sem] theorem ajh(f:FuncId)(d8:List Operand):opE P g σ n ⟨dst,.makeFunc (.func f) #[] d8.toArray,T,cW,after,bm⟩ K=evs g σ d8 (bo (fun vs=>K (cg (.fn f vs))) .mk):=by simp[opE,bo]
@[go_sem] theorem aji(c:Callee)(xs:List Operand)(ts:List TypeId):opE P g σ n ⟨dst,.call ⟨c,xs.toArray,ts.toArray⟩,T,cW,after,bm⟩ K=callE P g σ n c xs ts K:=by simp only[opE]
@[go_sem] theorem ajj(x:Operand)(U:TypeId):callE P g σ n (.builtin .len) [x] [U] K=evg g (σ.ev x) (bo (fun a=>Kh (lenE P U a) (bo (fun m=>K (cg (nr .i64 m))) .mk)) .mk):=b6 rfl
@[go_sem] theorem ajk(x y:Operand)(U xI:TypeId):callE P g σ n (.builtin .append) [x,y] [U,xI] K=(U=xI∧evg g (σ.ev x) (bo (fun a=>evg g (σ.ev y) (bo (fun b=>uX (AU P σ.heap U a b n) K) .mk)) .mk)):=b6 rfl
@[go_sem] theorem ajl(x y:Operand)(U xI:TypeId):callE P g σ n (.builtin .min) [x,y] [U,xI] K=evg g (σ.ev x) (bo (fun a=>evg g (σ.ev y) (bo (fun b=>asI a (kg (fun k i=>asI b (kg (fun iF j=>k=iF∧K (cg (nr k (if j<i then j else i)))) .mk)) .mk)) .mk)) .mk):=b6 rfl
@[go_sem] theorem ajm(x y:Operand)(U xI:TypeId):callE P g σ n (.builtin .max) [x,y] [U,xI] K=evg g (σ.ev x) (bo (fun a=>evg g (σ.ev y) (bo (fun b=>asI a (kg (fun k i=>asI b (kg (fun iF j=>k=iF∧K (cg (nr k (if j>i then j else i)))) .mk)) .mk)) .mk)) .mk):=b6 rfl
@[go_sem] theorem ajn(t:Tmp)(xs:List Operand)(ts:List TypeId):callE P g σ n (.value (.tmp t)) xs ts K=evg g (σ.ev (.tmp t)) (bo (fun v9=>fnE v9 (kg (fun f d8=>d8=[]∧evs g σ xs (bo (fun vs=>ar P f (toADs σ.heap vs) σ.heap vs n K) .mk)) .mk)) .mk):=by unfold callE;rfl
@[go_sem] theorem ajo(f:FuncId)(xs:List Operand)(ts:List TypeId):callE P g σ n (.value (.func f)) xs ts K=evs g σ xs (bo (fun vs=>ar P f (toADs σ.heap vs) σ.heap vs n K) .mk):=by unfold callE;rfl
end
section
variable {g:Bool} {σ:St}
@[go_sem] theorem ajp(K:List V→Prop):evs g σ [] K=K []:=b6 rfl
@[go_sem] theorem ajq(x:Operand)(xs:List Operand)(K:List V→Prop):evs g σ (x::xs) K=evg g (σ.ev x) (bo (fun v=>evs g σ xs (bo (fun vs=>K (v::vs)) .mk)) .mk):=b6 rfl
@[go_sem] theorem ajr(K:List (Nat×V)→Prop):evParts g σ [] K=K []:=b6 rfl
@[go_sem] theorem ajs(i:Nat)(x:Operand)(xs:List (Nat×Operand))(K:List (Nat×V)→Prop):evParts g σ ((i,x)::xs) K=evg g (σ.ev x) (bo (fun v=>evParts g σ xs (bo (fun vs=>K ((i,v)::vs)) .mk)) .mk):=b6 rfl
@[go_sem] theorem ajt(d:Nat)(K:Nat→Prop):bndE g σ d none K=K d:=b6 rfl
@[go_sem] theorem aju(d:Nat)(x:Operand)(K:Nat→Prop):bndE g σ d (some x) K=evg g (σ.ev x) (bo (fun v=>asI v (kg (fun _ i=>0≤i∧K i.toNat) .mk)) .mk):=b6 rfl
@[go_sem] theorem ajv(K:List V→Prop):rvsE P σ [] K=K []:=b6 rfl
@[go_sem] theorem ajw(r:ResultVar)(rs:List ResultVar)(K:List V→Prop):rvsE P σ (r::rs) K=rvE P σ r (bo (fun v=>rvsE P σ rs (bo (fun vs=>K (v::vs)) .mk)) .mk):=b6 rfl
@[go_sem] theorem ajx(t:Tmp)(K:V→Prop):rvE P σ (.tmp t) K=K (σ.ev (.tmp t)):=b6 rfl
@[go_sem] theorem ajy(t:Tmp)(T:TypeId)(K:V→Prop):rvE P σ (.cell t T) K=evg true (σ.ev (.tmp t)) (bo (fun v=>withR (loadE P σ.heap T v) K) .mk):=b6 rfl
@[go_sem] theorem ajz(rs:List ResultVar)(res:List AD):fL P rs res σ=rvsE P σ rs (bo (fun vs=>outOA (toOAs σ.heap vs) res) .mk):=b6 rfl
@[go_sem] theorem ajA(as:List AD)(bP:List Nat)(res:List AD):outOA (some (as,bP)) res=(bP.Nodup∧as=res):=b6 rfl
end
@[go_sem] theorem ajB(T:TypeId)(x:D):jh P T (.d x)=.d x:=rfl
@[go_sem] theorem ajC(T:TypeId)(x:List V):jh P T (.agg x)=.agg x:=rfl
@[go_sem] theorem ajD(T:TypeId)(a b c:Nat):jh P T (.ptr a b c)=.ptr a b c:=rfl
@[go_sem] theorem ajE(T:TypeId)(a:List D)(b:Nat):jh P T (.ep a b)=.ep a b:=rfl
@[go_sem] theorem ajF(T:TypeId)(a b c:Nat):jh P T (.sl a b c)=.sl a b c:=rfl
@[go_sem] theorem ajG(T:TypeId)(a:FuncId)(b:List V):jh P T (.fn a b)=.fn a b:=rfl
@[go_sem] theorem ajH(T:TypeId)(b:List V):jh P T (.dB b)=.dB b:=rfl
@[go_sem] theorem ajI(T:TypeId)(c:Bool)(v:V):jh P T (.bm c v)=.bm c v:=rfl
@[go_sem] theorem ajJ(T:TypeId):jh P T .ab=.ab:=rfl
@[go_sem] theorem ajK(T:TypeId)(s:Nat):jh P T (.c6 s)=.c6 (match elI P T with|some (_,sz,_)=>sz|none=>s):=rfl
@[go_sem] theorem ajL(g:Bool)(c a b:Bool)(K:V→Prop):y7 g (.d (.bool c)) (.d (.bool a)) (.d (.bool b)) K=K (.d (.bool (bif c then a else b))):=b6 rfl
@[go_sem] theorem ajM(g:Bool)(c a:Bool)(QP b:Bool)(K:V→Prop):y7 g (.d (.bool c)) (.d (.bool a)) (.bm QP (.d (.bool b))) K=(((g&&!c)=true→QP=true)∧K (.d (.bool (bif c then a else b)))):=b6 rfl
@[go_sem] theorem ajN(g:Bool)(c a:Bool)(QQ b:Bool)(K:V→Prop):y7 g (.d (.bool c)) (.bm QQ (.d (.bool a))) (.d (.bool b)) K=(((g&&c)=true→QQ=true)∧K (.d (.bool (bif c then a else b)))):=b6 rfl
@[go_sem] theorem ajO(g:Bool)(mR c:Bool)(a b:V)(K:V→Prop):y7 g (.bm mR (.d (.bool c))) a b K=((g=true→mR=true)∧evg (g&&c) a (bo (fun a=>asB a (bo (fun y=>evg (g&&!c) b (bo (fun b=>asB b (bo (fun z=>K (.d (.bool (bif c then y else z)))) .mk)) .mk)) .mk)) .mk)):=b6 rfl
@[go_sem] theorem ajP(T:TypeId)(k:IntKind)(a b:Int):binE P .add T (.d (.int k a)) (.d (.int k b))=some (True,.d (.int k (k.wrap (a+b)))):=by simp[binE,binI]
@[go_sem] theorem ajQ(T:TypeId)(k:IntKind)(a b:Int):binE P .sub T (.d (.int k a)) (.d (.int k b))=some (True,.d (.int k (k.wrap (a-b)))):=by simp[binE,binI]
@[go_sem] theorem ajR(T:TypeId)(k:IntKind)(a b:Int):binE P .mul T (.d (.int k a)) (.d (.int k b))=some (True,.d (.int k (k.wrap (a * b)))):=by simp[binE,binI]
@[go_sem] theorem ajS(T:TypeId)(k:IntKind)(a b:Int):binE P .quo T (.d (.int k a)) (.d (.int k b))=some (b≠0,.d (.int k (k.wrap (a.tdiv b)))):=by simp[binE,binI]
@[go_sem] theorem ajT(T:TypeId)(k:IntKind)(a b:Int):binE P .rem T (.d (.int k a)) (.d (.int k b))=some (b≠0,.d (.int k (a.tmod b))):=by simp[binE,binI]
@[go_sem] theorem ajU(T:TypeId)(k:IntKind)(a b:Int):binE P .and T (.d (.int k a)) (.d (.int k b))=some (True,.d (.int k (bitI .and k a b))):=by simp[binE,binI]
@[go_sem] theorem ajV(T:TypeId)(k:IntKind)(a b:Int):binE P .or T (.d (.int k a)) (.d (.int k b))=some (True,.d (.int k (bitI .or k a b))):=by simp[binE,binI]
@[go_sem] theorem ajW(T:TypeId)(k:IntKind)(a b:Int):binE P .xor T (.d (.int k a)) (.d (.int k b))=some (True,.d (.int k (bitI .xor k a b))):=by simp[binE,binI]
@[go_sem] theorem ajX(T:TypeId)(k:IntKind)(a b:Int):binE P .eql T (.d (.int k a)) (.d (.int k b))=some (True,.d (.bool (decide (a=b)))):=by simp[binE,binI];rfl
@[go_sem] theorem ajY(T:TypeId)(k:IntKind)(a b:Int):binE P .neq T (.d (.int k a)) (.d (.int k b))=some (True,.d (.bool (decide (a≠b)))):=by simp[binE,binI,bne];rfl
@[go_sem] theorem ajZ(T:TypeId)(k:IntKind)(a b:Int):binE P .lss T (.d (.int k a)) (.d (.int k b))=some (True,.d (.bool (decide (a<b)))):=by simp[binE,binI]
@[go_sem] theorem aj0(T:TypeId)(k:IntKind)(a b:Int):binE P .leq T (.d (.int k a)) (.d (.int k b))=some (True,.d (.bool (decide (a≤b)))):=by simp[binE,binI]
@[go_sem] theorem aj1(T:TypeId)(k:IntKind)(a b:Int):binE P .gtr T (.d (.int k a)) (.d (.int k b))=some (True,.d (.bool (decide (b<a)))):=by simp[binE,binI]
@[go_sem] theorem aj2(T:TypeId)(k:IntKind)(a b:Int):binE P .geq T (.d (.int k a)) (.d (.int k b))=some (True,.d (.bool (decide (b≤a)))):=by simp[binE,binI]
@[go_sem] theorem aj3(T:TypeId)(k iF:IntKind)(a b:Int):binE P .shl T (.d (.int k a)) (.d (.int iF b))=shI .shl k a b:=rfl
@[go_sem] theorem aj4(T:TypeId)(k iF:IntKind)(a b:Int):binE P .shr T (.d (.int k a)) (.d (.int iF b))=shI .shr k a b:=rfl
@[go_sem] theorem aj5(T:TypeId)(a b:List UInt8):binE P .add T (.d (.str a)) (.d (.str b))=binS .add a b:=rfl
@[go_sem] theorem aj6(T:TypeId)(a b:List UInt8):binE P .eql T (.d (.str a)) (.d (.str b))=binS .eql a b:=rfl
@[go_sem] theorem aj7(T:TypeId)(a b:List UInt8):binE P .neq T (.d (.str a)) (.d (.str b))=binS .neq a b:=rfl
@[go_sem] theorem aj8(a b:List UInt8):binS .add a b=some (a.length+b.length≤maxLen,.d (.str (a++b))):=rfl
@[go_sem] theorem aj9(a b:List UInt8):binS .eql a b=some (True,.d (.bool (decide (a=b)))):=by
 have:(a == b)=decide (a=b):=by rw[Bool.eq_iff_iff];simp
 simp only[binS,this]
@[go_sem] theorem aka(a b:List UInt8):binS .neq a b=some (True,.d (.bool (decide (a≠b)))):=by
 have:(a != b)=decide (a≠b):=by rw[Bool.eq_iff_iff];simp
 simp only[binS,this]
@[go_sem] theorem akb(T:TypeId)(a b:Bool):binE P .eql T (.d (.bool a)) (.d (.bool b))=if isBoolI P T then some (True,.d (.bool (a == b)))else none:=rfl
@[go_sem] theorem akc(T:TypeId)(a b:Bool):binE P .neq T (.d (.bool a)) (.d (.bool b))=if isBoolI P T then some (True,.d (.bool (a != b)))else none:=rfl
@[go_sem] theorem akd(T:TypeId)(xs ys:List V):binE P .eql T (.agg xs) (.agg ys)=(eqCells xs ys).map fun b=>(nm P T (kindsV xs),.d (.bool b)):=by simp only[binE];cases eqCells xs ys<;>rfl
@[go_sem] theorem ake(T:TypeId)(xs ys:List V):binE P .neq T (.agg xs) (.agg ys)=(eqCells xs ys).map fun b=>(nm P T (kindsV xs),.d (.bool !b)):=by simp only[binE];cases eqCells xs ys<;>rfl
@[go_sem] theorem akf(T:TypeId)(id bG off xJ:Nat):binE P .eql T (.ptr id bG off) (.ptr id bG xJ)=if isPtrI P T=true then some (True,.d (.bool (decide (off=xJ))))else none:=by simp[binE,we]
attribute [go_sem] eqCells eqD kindsV
@[go_sem] theorem akg(b:Bool):unE .not (.d (.bool b))=some (.d (.bool !b)):=rfl
@[go_sem] theorem akh(k:IntKind)(x:Int):unE .neg (.d (.int k x))=some (.d (.int k (k.wrap (0-x)))):=rfl
attribute [go_sem] bt.p bt.q bt.u nr we C5 lenE extE ptrE faE iaE H.els u3 loadE ixE cutE cut3E reachE clrE AU inE AV cvE bldE V.cells V.uY V.oneB storeE toDs toD apE srcE elsOf bsE vfill mkE eM chunk J2 D.flat D.plain toADs toAD toRDs toRD toOAs FY lH CQ aVs aHs CR rV rVs uW rHs zDs zD AD.s9
attribute [go_sem] false_implies true_implies true_and and_true Option.map_some Option.map_none List.map_cons List.map_nil List.length_cons List.length_nil if_true if_false Option.isSome_some Option.isSome_none Bool.false_eq_true Option.getD_some Option.getD_none List.append_nil List.nil_append List.cons_append List.drop_zero List.drop_succ_cons List.take_zero List.take_succ_cons List.headD_cons List.replicate_zero List.all_nil List.all_cons List.zipIdx_nil Bool.and_true Bool.true_and Bool.and_self Bool.false_and Bool.and_false List.nodup_nil reduceCtorEq Nat.zero_add decide_true decide_false List.length_append List.length_replicate Bool.not_true Bool.not_false
@[go_sem] theorem aki:fv []=true:=rfl
@[go_sem] theorem akj(c:List D)(cs:List (List D)):fv (c::cs)=(c.all D.flat&&fv cs):=rfl
@[go_sem] theorem akk(cs ds:List (List D)):fv (cs++ds)=(fv cs&&fv ds):=by simp[fv]
theorem YI{α:Type}(f:α→List D)(xs:List α):(xs.map f).take xs.length=xs.map f:=List.take_of_length_le (by simp)
attribute [go_sem] YI Nat.le_refl imp_self beq_true beq_false Bool.not_not
attribute [go_sem] Int.reduceLE Int.reduceLT Int.reduceNeg Int.reduceToNat Nat.reduceAdd Nat.reduceSub Nat.reduceMul Nat.reduceLT Nat.reduceLeDiff Nat.reduceEqDiff
@[go_sem] theorem akl(v:V):(cg v).v=v:=rfl
@[go_sem] theorem akm(v:V):(cg v).new=[]:=rfl
@[go_sem] theorem akn(v:V):(cg v).upd=[]:=rfl
@[go_sem] theorem ako:bytesL []=some []:=rfl
@[go_sem] theorem akp(n:Int):bytesL [[.int .u8 n]]=some [UInt8.ofNat n.toNat]:=rfl
@[go_sem] theorem akq(n m:Int):bytesL [[.int .u8 n],[.int .u8 m]]=some [UInt8.ofNat n.toNat,UInt8.ofNat m.toNat]:=rfl
@[go_sem] theorem akr{n:Nat}(h:n≤1000000):(n≤maxLen)=True:=eq_true (QN h)
attribute [go_sem] cond_true cond_false Int.reduceNe List.getElem?_cons_zero List.getElem?_cons_succ
theorem Xh{f:FuncId}{fn:Func}{c:Code}{args res:List AD}(hf:P.funcs[f]?=some fn)(hb:fn.body=some c)(hcall:∀(args:Array Value) (w:World),(callFunc f args).run P w=.ok (.enter f args) w)(hm:P.follows .mixedOrders=true)(ts:List V)
  (hn:args.map AD.s9++List.replicate (fn.ntmps-args.length) .ab=ts) (rs:List ResultVar) (hr:fn.results.toList=rs) (h:uM args→codeE P [] c ⟨ts,[]⟩ (bo (fL P rs res) .mk) [] (bo (fL P rs res) .mk)):PureCall P f args res:=
 YJ hf hb hcall hm hn hr h
def aF:Nat→List V→List V
 |0,l=>l
 |n+1,l=>.ab::aF n l
def QR:Nat→bt
 |0=>.pre
 |1=>.cY
 |_+2=>.post
def Kv:Nat→Nat→List bt
 |0,_=>[]
 |n+1,c=>QR (c % 3)::Kv n (c / 3)
def cE(n:Nat)(l:List Nat):List (List bt):=l.map (Kv n)
def yX:List AD→Nat→List V
 |[],n=>aF n []
 |a::l,n=>a.s9::yX l (n-1)
theorem QS:∀(n:Nat),aF n []=List.replicate n .ab
 |0=>rfl
 |n+1=>by rw[aF,QS n,List.replicate_succ]
theorem JH:∀(l:List AD) (n:Nat),l.map AD.s9++List.replicate (n-l.length) .ab=yX l n
 |[],n=>by simp[yX,QS]
 |a::l,n=>by
  have h:=JH l (n-1);rw[List.map_cons,List.cons_append,List.length_cons,yX,←h,show n-(l.length+1)=n-1-l.length from by omega]
attribute [go_sem,simp] aF
attribute [go_sem] yX QR Kv cE Nat.reduceDiv Nat.reduceMod
theorem aq{p q:Prop}(k:q)(h:p:=by first|omega|(exact⟨by omega,by omega⟩)|(simp only[maxLen];omega)|(simp;done)|(simp;omega)):p∧q:=⟨h,k⟩
theorem lk{σ:St}{n:Nat}{o:Oper}{K:dS→Prop}(h:opE P true σ n o K):s5 P true σ n o K:=Yp h
theorem j9{σ:St}{n:Nat}{o:Oper}{K:dS→Prop}(h:K (cg (.bm false (.d (.bool false))))):s5 P false σ n o K:=Yq h
theorem en{g:Bool}{σ:St}{n:Nat}{o:Oper}{K:dS→Prop}(h:opE P g σ n o (bo (fun r=>r.new=[]∧r.upd=[]∧K (cg (.bm g r.v))) .mk)):s5 P g σ n o K:=Qt h
theorem bq{t:Bool}{A B:Prop}{s:t2 A}{u4:t2 B}(h1:t=true→A)(h2:t=false→B):zc t (xH A s) (xH B u4):=⟨h1,h2⟩
theorem ar.ag{f:FuncId}{as rs:List AD}{hs:List H}{vs:List V}{n:Nat}{K:dS→Prop}(h:PureCall P f as rs)(hk:K ⟨lH rs n,(aHs rs).map H.toCln,[]⟩):ar P f (some as) hs vs n K:=.inr ⟨as,rs,rfl,h,hk⟩
def bu{α:Type}(kv:List V)(gk:α→St)(kh:α→Nat)(gT:α→Prop)(x:α)(σ':St):Prop:=∃n8,n7 σ' n8∧∃y zd,gT y∧kh y<kh x∧jQ kv zd n8 (gk y)
theorem bu.intro{α:Type}{kv:List V}{gk:α→St}{kh:α→Nat}{gT:α→Prop}{x:α}{σ':St}(y:α)(zd:List Nat)(h1:gT y)(h2:kh y<kh x)(ak:jQ kv zd σ' (gk y)):bu kv gk kh gT x σ':=⟨σ',n7.refl σ',y,zd,h1,h2,ak⟩
theorem b9.intro{kv:List V}{body:St→(St→Prop)→Prop}{s:t2 body}{σ:St}{α:Type}(gk:α→St)(kh:α→Nat)(gT:α→Prop)(x:α)(ρ:List Nat)(hp:gT x)(hs:jQ kv ρ σ (gk x))
  (C6:∀x,gT x→body (gk x) (bo (bu kv gk kh gT x) .mk)):b9 kv (kg body s) σ:=⟨α,gk,kh,gT,x,ρ,hp,hs,fun x hx=>⟨gk x,n7.refl _,C6 x hx⟩⟩
def A6(id bG:Nat)(σ:St)(K:St→Prop):Prop:=
 match aN σ.heap id with
 |.ag sz xs=>match xs[bG]? with
  |some c=>K ⟨σ.tmps,hnew (b3 σ.heap id (.fR sz (xs.take bG) (rVs c σ.heap.length) (xs.drop (bG+1)))) σ.heap.length (rHs c)⟩
  |none=>False
 |_=>False
def C7(hs:List H):List Nat→Prop
 |[]=>True
 |i::is=>(match aN hs i with|.ao _ ys true=>fv ys=true|_=>False)∧C7 hs is
def F9(id:Nat)(σ:St)(K:St→Prop):Prop:=
 match aN σ.heap id with
 |.fR sz pre cells post=>match toDs σ.heap cells with
  |some (ds,bP)=>bP.Nodup∧C7 σ.heap bP∧K ⟨σ.tmps,hupd (b3 σ.heap id (.ag sz (pre++ds::post))) (bP.map fun i=>(i,H.c1))⟩
  |none=>False
 |_=>False
theorem QT{hs:List H}:∀{bP:List Nat},C7 hs bP→∀i∈bP,∃s ys,aN hs i=.ao s ys true∧fv ys=true
 |[],_,i,h=>by cases h
 |j::is,hc,i,h=>by
  simp only[C7]at hc;rcases List.mem_cons.1 h with rfl|h
  ·have h1:=hc.1;split at h1
   ·rename_i s ys e;exact⟨s,ys,e,h1⟩
   ·exact h1.elim
  ·exact QT hc.2 i h
theorem Kw{id bG:Nat}{σ:St}{K:St→Prop}(h:A6 id bG σ K):∃ki,n7 σ ki∧K ki:=by
 unfold A6 at h;split at h
 ·rename_i sz xs hx;split at h
  ·rename_i c hc;exact⟨_,.inr (.inl ⟨id,bG,sz,xs,c,hx,hc,rfl⟩),h⟩
  ·exact h.elim
 ·exact h.elim
theorem YK{id:Nat}{σ:St}{K:St→Prop}(h:F9 id σ K):∃ki,n7 σ ki∧K ki:=by
 unfold F9 at h;split at h
 ·rename_i sz pre cells post hx;split at h
  ·rename_i ds bP hd;obtain⟨h1,h2,ak⟩:=h;exact⟨_,.inr (.inr ⟨id,sz,pre,cells,post,ds,bP,hx,hd,h1,QT h2,rfl⟩),ak⟩
  ·exact h.elim
 ·exact h.elim
theorem af.E9{kv:List V}{σ:St}{dst:Option Tmp}{K:St→Prop}{f:FuncId}{vs:List V}{as rs:List AD}(id bG:Nat)(h:PureCall P f as rs)(hk:A6 id bG (σ.cK dst σ.heap.length ⟨lH rs σ.heap.length,(aHs rs).map H.toCln,[]⟩) (bo K .mk)):af P kv σ dst f [] (some as) vs K:=by
 obtain⟨ki,h1,h2⟩:=Kw hk;exact Or.inl ⟨rfl,Or.inr ⟨as,rs,rfl,h,ki,h1,h2⟩⟩
theorem b9.fR{kv:List V}{body:St→(St→Prop)→Prop}{s:t2 body}{σ:St}{α:Type}(gk:α→St)(kh:α→Nat)(gT:α→Prop)(x:α)(ρ:List Nat)(hp:gT x)(hs:jQ kv ρ σ (gk x))
  (C6:∀x,gT x→body (gk x) (bo (bu kv gk kh gT x) .mk)∨∃id bG,A6 id bG (gk x) (bo (fun ki=>body ki (bo (bu kv gk kh gT x) .mk)) .mk)):b9 kv (kg body s) σ:=
 ⟨α,gk,kh,gT,x,ρ,hp,hs,fun x hx=>by
  rcases C6 x hx with h|⟨id,bG,h⟩
  ·exact⟨gk x,n7.refl _,h⟩
  ·exact Kw h⟩
attribute [go_sem] A6 F9 C7 H.toCln H.esz toX toXs clnOf
attribute [go_sem] jQ vsees vsee hsees hsee bf vok kS hok tu ren rens
theorem bE{n:Int}(h1:-9223372036854775808≤n)(h2:n≤9223372036854775807):IntKind.i64.wrap n=n:=by
 rw[IntKind.wrap_i64];omega
theorem Kx{n:Int}(h1:0≤n)(h2:n≤255):IntKind.u8.wrap n=n:=by
 simp only[IntKind.wrap,IntKind.signed,IntKind.bits];simp;omega
theorem a9{kv:List V}{ay:List Oper}{σ:St}{K:St→Prop}(rows:List (List bt))(h1:sW ay rows=true)(h2:rows.all (fun r=>r.length == ay.length)=true)
  (h:anyE P ay σ rows ay [] σ.heap.length (bo (fun its=>(updE rows 0 its∨CA σ rows ay rows [] its)∧K (seqAp its σ)) .mk)):AB P kv ay.toArray σ K:=.inl ⟨rows,h1,h2,h⟩
theorem j6{kv:List V}{ay:List Oper}{σ:St}{K:St→Prop}(fp:St→Prop)(h:exE P kv ay ay.length (List.replicate ay.length false) σ fp)(hk:∀σ',fp σ'→K σ'):AB P kv ay.toArray σ K:=.inr ⟨fp,hk,by simpa using h⟩
theorem Ju{kv:List V}{ay:List Oper}{n:Nat}{S:List Bool}{σ:St}{K:St→Prop}(h:rdyE S ay [] S=[])(hk:K σ):exE P kv ay n S σ K:=by
 cases n with
 |zero=>exact⟨h,hk⟩
 |succ n=>refine⟨fun _=>hk,?_⟩;rw[h];trivial
theorem Jt{kv:List V}{ay:List Oper}{n:Nat}{S:List Bool}{σ:St}{K:St→Prop}{x:Oper×List Bool}{r:List (Oper×List Bool)}(e:rdyE S ay [] S=x::r)(h:tF (x::r) fun o j'=>tG P kv ay σ o (bo (fun σ'=>exE P kv ay n j' σ' K) .mk)):exE P kv ay (n+1) S σ K:=
 ⟨fun q=>(by rw[e]at q;cases q),by rw[e];exact h⟩
theorem Cn{F:Oper→List Bool→Prop}{o:Oper}{S:List Bool}{r:List (Oper×List Bool)}(h:F o S)(hr:tF r F):tF ((o,S)::r) F:=⟨h,hr⟩
theorem Cm{F:Oper→List Bool→Prop}:tF [] F:=trivial
@[go_sem] theorem aks(ay:List Oper)(dH:St)(l:List cV)(n:Nat)(K:List cV→Prop):anyE P ay dH [] [] l n K=K l:=b6 rfl
@[go_sem] theorem akt(ay:List Oper)(dH:St)(row:List bt)(rows:List (List bt))(o:Oper)(a_:List Oper)(l:List cV)(n:Nat)(K:List cV→Prop) :
  anyE P ay dH (row::rows) (o::a_) l n K=stepE P ay (mask row l (o::a_) dH) n o (bo (fun r=>anyE P ay dH rows a_ (l++[(o,n,r)]) (n+r.new.length) K) .mk):=b6 rfl
@[go_sem] theorem aku(row:List bt)(o:Oper)(n:Nat)(r:dS)(l:List cV)(a_:List Oper)(σ:St):mask (.pre::row) ((o,n,r)::l) a_ σ=mask row l a_ (σ.cK o.dst n r):=rfl
@[go_sem] theorem akv(row:List bt)(o:Oper)(n:Nat)(r:dS)(l:List cV)(a_:List Oper)(σ:St):mask (.cY::row) ((o,n,r)::l) a_ σ=mask row l a_ ⟨tR σ.tmps o.dst,kilH σ.heap r.upd⟩:=rfl
@[go_sem] theorem akw(row:List bt)(o:Oper)(a_:List Oper)(σ:St):mask (.cY::row) [] (o::a_) σ=mask row [] a_ ⟨tR σ.tmps o.dst,σ.heap⟩:=rfl
@[go_sem] theorem akx(row:List bt)(o:Oper)(a_:List Oper)(σ:St):mask (.post::row) [] (o::a_) σ=mask row [] a_ σ:=rfl
@[go_sem] theorem aky(l:List cV)(a_:List Oper)(σ:St):mask [] l a_ σ=σ:=by cases l<;>cases a_<;>rfl
attribute [go_sem] tR kilH updE allPre Cz seqAp CA Fy okR xu JN List.all_cons List.all_nil List.map_cons List.map_nil true_or false_or
theorem el{f:FuncId}{fn:Func}{c:Code}{kv:List V}{hs:List H}{vs:List V}{K:V→List H→Prop}{n:Nat}(hf:P.funcs[f]?=some fn)(hb:fn.body=some c)(hcall:∀(args:Array Value) (w:World),(callFunc f args).run P w=.ok (.enter f args) w)(hm:P.follows .mixedOrders=true)
  (hn:fn.ntmps=n) {rs:List ResultVar} (hr:fn.results.toList=rs) (h:codeE P kv c ⟨vs++List.replicate (n-vs.length) .ab,hs⟩ (bo (t3 P rs (kg K .mk)) .mk) [] (bo (t3 P rs (kg K .mk)) .mk)):di P f kv hs vs K:=
 YL hf hb hcall hm (by rw[hn]) hr h
@[go_sem] theorem akz(rs:List ResultVar)(K:V→List H→Prop)(σ:St):t3 P rs K σ=rvsE P σ rs (bo (fun vs=>K (tupV vs) σ.heap) .mk):=b6 rfl
attribute [go_sem] tupV
@[go_sem] theorem akA(as:List AD)(bP:List Nat)(res:List AD):QU (some (as,bP)) res=(as=res∧bP=[]):=by simp[QU]
def F_:List Nat→List (Nat×H)→Bool
 |[],[]=>true
 |i::is,q::upd=>q.1 == i&&F_ is upd
 |_,_=>false
@[go_sem] theorem akB:F_ [] []=true:=rfl
@[go_sem] theorem akC(i:Nat)(is:List Nat)(q:Nat×H)(upd:List (Nat×H)):F_ (i::is) (q::upd)=(q.1 == i&&F_ is upd):=rfl
attribute [go_sem] List.any_cons List.any_nil Bool.or_true Bool.true_or Bool.or_false Bool.false_or Nat.reduceBEq BEq.rfl beq_self_eq_true
@[go_sem] theorem akD{α:Type}(a:α)(l m:List α):List.append (a::l) m=a::List.append l m:=rfl
@[go_sem] theorem akE{α:Type}(m:List α):List.append [] m=m:=rfl
variable {P:Program}
section
variable {K5:Type} {enc:TypeId×Value→K5} {w:World} {sp:Nat→Bool} {held:Bool}
end
section
variable {K5:Type} {enc:TypeId×Value→K5} {w:World} {sp:Nat→Bool} {held:Bool}
end
end Gv
