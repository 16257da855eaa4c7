/-
  Part of the proof: the machine, what functions compute, and the plain laws.
-/
import Derived.Test.YtgkcbnkpgaieaaaGreatM00
import Derived.Deep.LoopGhost
import GoSem.ClaimChange
namespace Gv
open Go
variable {P:Program} {o:Oper} {g:Bool} {σ:St} {n:Nat} {K:Res→Prop}
def withS (r:Option (Prop×Res)) (K:Res→Prop):Prop:=match r with|some (p,r)=>p∧K r|none=>False
def withN (r:Option Nat) (K:Nat→Prop):Prop:=match r with|some m=>K m|none=>False
/-- A call of a function by its law: one that only reads, or one that writes what it is handed. -/
def CallK (P:Program) (f:FuncId) (as:Option (List AD)) (_:List H) (_:List V) (n:Nat) (K:Res→Prop):Prop:=
 (∃ as' rs,as=some as'∧PureCall P f as' rs∧K ⟨tV rs n,aHs rs,[]⟩) ∨
 (∃ as' rs,as=some as'∧PureCall P f as' rs∧K ⟨tV rs n,(aHs rs).map H.toCln,[]⟩)
theorem CallK.intro {f:FuncId} {as rs:List AD} {hs:List H} {vs:List V} (h:PureCall P f as rs) (hk:K ⟨tV rs n,aHs rs,[]⟩):CallK P f (some as) hs vs n K:=.inl ⟨as,rs,rfl,h,hk⟩
def fnE (v:V) (K:FuncId→List V→Prop):Prop:=match v with|.fn f caps=>K f caps|_=>False
theorem fnE_inv {v:V} {K:FuncId→List V→Prop} (h:fnE v K):∃ f caps,v=.fn f caps∧K f caps:=by
 unfold fnE at h;split at h
 ·exact ⟨_,_,rfl,h⟩
 ·exact h.elim
def callE (P:Program) (g:Bool) (σ:St) (n:Nat) (c:Callee) (xs:List Operand) (ts:List TypeId) (K:Res→Prop):Prop:=
 match c,xs,ts with
 |.builtin .len,[x],[T]=>evg g (σ.ev x) fun a=>withN (lenE P T a) fun m=>K (rv (dI .i64 m))
 |.builtin .append,[x,y],[T,U]=>T=U∧evg g (σ.ev x) fun a=>evg g (σ.ev y) fun b=>withS (apI P σ.heap T a b n) K
 |.builtin .clear,[x],[T]=>evg g (σ.ev x) fun a=>withS (clrE P σ.heap T a) K
 |.builtin .min,[x,y],[_,_]=>evg g (σ.ev x) fun a=>evg g (σ.ev y) fun b=>asI a fun k i=>asI b fun k' j=>k=k'∧K (rv (dI k (if j < i then j else i)))
 |.builtin .max,[x,y],[_,_]=>evg g (σ.ev x) fun a=>evg g (σ.ev y) fun b=>asI a fun k i=>asI b fun k' j=>k=k'∧K (rv (dI k (if j > i then j else i)))
 |.value (.func f),xs,_=>evs g σ xs fun vs=>CallK P f (toADs σ.heap vs) σ.heap vs n K
 |.value x,xs,_=>evg g (σ.ev x) fun fv=>fnE fv fun f caps=>caps=[]∧evs g σ xs fun vs=>CallK P f (toADs σ.heap vs) σ.heap vs n K
 |_,_,_=>False
def opE (P:Program) (g:Bool) (σ:St) (n:Nat) (o:Oper) (K:Res→Prop):Prop:=
 match o.op with
 |.move x=>evg g (σ.ev x) fun v=>K (rv (fixT P o.type v))
 |.assign x=>evg g (σ.ev x) fun v=>K (rv (fixT P o.type v))
 |.pick c x y=>pickE g (σ.ev c) (σ.ev x) (σ.ev y) fun v=>K (rv v)
 |.binOp op T x y _=>evg g (σ.ev x) fun a=>evg g (σ.ev y) fun b=>withR (binE P op T a b) fun v=>K (rv v)
 |.unOp op _ x=>evg g (σ.ev x) fun a=>withO (unE op a) fun v=>K (rv v)
 |.extract x i=>evg g (σ.ev x) fun a=>withO (extE a i) fun v=>K (rv v)
 |.nilCheck x=>evg g (σ.ev x) fun a=>ptrE a=true∧K (rv a)
 |.fieldAddr S x f=>evg g (σ.ev x) fun a=>withO (faE P S f a) fun v=>K (rv v)
 |.indexAddr T x ix=>evg g (σ.ev x) fun a=>evg g (σ.ev ix) fun b=>asI b fun _ i=>withR (iaE P σ.heap T a i) fun v=>K (rv v)
 |.load T x=>evg g (σ.ev x) fun a=>withR (loadE P σ.heap T a) fun v=>K (rv v)
 |.index T x ix=>evg g (σ.ev x) fun a=>evg g (σ.ev ix) fun b=>asI b fun _ i=>withR (ixE P T a i) fun v=>K (rv v)
 |.slice T x lo hi none=>evg g (σ.ev x) fun a=>bndE g σ 0 lo fun l=>bndE g σ (lenOfV a) hi fun h=>withR (cutE P σ.heap T a l h) fun v=>K (rv v)
 |.convert src dst x=>evg g (σ.ev x) fun a=>withR (cvE P σ.heap src dst a) fun v=>K (rv v)
 |.build T parts=>evParts g σ parts.toList fun ps=>withO (bldE P T ps) fun v=>K (rv v)
 |.alloc T=>withO ((zrI P T).map V.agg) fun v=>K ⟨.ptr n 0 0,[.box v.cells],[]⟩
 |.box _ x=>evg g (σ.ev x) fun v=>v.cellsOk=true∧K ⟨.ptr n 0 0,[.box v.cells],[]⟩
 |.store T p x=>evg g (σ.ev p) fun q=>evg g (σ.ev x) fun v=>withS ((storeE P σ.heap T q (fixT P T v)).map fun (c,upd)=>(c,⟨.junk,[],upd⟩)) K
 |.buildSlice T len parts=>evParts g σ parts.toList fun ps=>withS (bsE P σ.heap T len ps n) K
 |.makeSlice T x y=>x=y∧evg g (σ.ev x) fun v=>asI v fun _ i=>withS (mkE P T i n) K
 |.makeFunc (.func f) ys caps=>ys.toList=[]∧evs g σ caps.toList fun vs=>K (rv (.fn f vs))
 |.call c=>callE P g σ n c.callee c.args.toList c.argTypes.toList K
 |.slice T x (some lo) (some hi) (some mx)=>evg g (σ.ev x) fun a=>bndE g σ 0 (some lo) fun l=>bndE g σ 0 (some hi) fun h=>bndE g σ 0 (some mx) fun m=>withR (cut3E P T a l h m) fun v=>K (rv v)
 |_=>False
theorem evg_mono {g:Bool} {v:V} {K K':V→Prop} (h:evg g v K) (hk:∀ v,K v→K' v):evg g v K':=by
 unfold evg at *
 split at h
 ·exact ⟨h.1,hk _ h.2⟩
 ·exact hk _ h
theorem list_one {α:Type} {a:Array α} {x:α} (h:a.toList=[x]):a=#[x]:=by rw [← Array.toArray_toList (xs:=a),h]
theorem list_two {α:Type} {a:Array α} {x y:α} (h:a.toList=[x,y]):a=#[x,y]:=by rw [← Array.toArray_toList (xs:=a),h]
theorem callE_ok {c:Call} (ho:o.op=.call c) (h:callE P g σ n c.callee c.args.toList c.argTypes.toList K):∃ r,OpOK P o g σ n r∧K r:=by
 obtain ⟨ce,xs,ts⟩:=c
 simp only at h
 unfold callE at h
 split at h
 ·rename_i x T h1 h2
  refine ok_len ho (x:=x) (T:=T) (by rw [list_one h1,list_one h2]) h
 ·rename_i x y T U h1 h2
  obtain ⟨rfl,h⟩:=h
  exact ok_append2 ho (x:=x) (y:=y) (T:=T) (by rw [list_two h1,list_two h2]) h
 ·rename_i x T h1 h2
  exact ok_clear ho (x:=x) (T:=T) (by rw [list_one h1,list_one h2]) h
 ·rename_i x y T U h1 h2
  exact ok_min ho (x:=x) (y:=y) (T:=T) (U:=U) (by rw [list_two h1,list_two h2]) h
 ·rename_i x y T U h1 h2
  exact ok_max ho (x:=x) (y:=y) (T:=T) (U:=U) (by rw [list_two h1,list_two h2]) h
 ·obtain ⟨vs,h,hx⟩:=evs_inv _ _ h
  rcases h with ⟨as,rs,h1,h2,h3⟩|⟨as,rs,h1,h2,h3⟩
  ·exact ok_call' ho rfl (fun _ _ _=>rfl) hx h1 h2 h3
  ·exact ok_callc ho rfl (fun _ _ _=>rfl) hx h1 h2 h3
 ·rename_i x _
  obtain ⟨fv,h',hf⟩:=evg_rel h
  obtain ⟨f,caps,rfl,h'⟩:=fnE_inv h'
  clear h
  obtain ⟨rfl,h⟩:=h'
  have hfe:∀ {σ':St} {B:Nat→Prop} {w0:World} {Dm:Nat→Prop} {φ:Phi} {kp:List (V×Value)} {a:Act} {w:World},σ.le σ'→R B w0 Dm φ σ' kp a w→g=true→a.eval x=.func (.func f) #[] #[]:=by
   intro σ' B w0 Dm φ kp a w hle hR hg
   have:=hf _ _ _ _ hg (ev_le hle hR x)
   simp only [VRel] at this
   obtain ⟨us,e,e2⟩:=this
   simp only [VRels] at e2
   rw [e];congr 1;exact Array.toList_eq_nil_iff.1 e2
  obtain ⟨vs,h,hx⟩:=evs_inv _ _ h
  rcases h with ⟨as,rs,h1,h2,h3⟩|⟨as,rs,h1,h2,h3⟩
  ·exact ok_call' ho rfl hfe hx h1 h2 h3
  ·exact ok_callc ho rfl hfe hx h1 h2 h3
 ·exact h.elim
theorem opE_ok (h:opE P g σ n o K):∃ r,OpOK P o g σ n r∧K r:=by
 unfold opE at h
 split at h
 case h_1 x ho=>exact ok_move (.inl ho) h
 case h_2 x ho=>exact ok_move (.inr ho) h
 case h_3 c x y ho=>exact ok_pick ho h
 case h_4 op T x y T' ho=>exact ok_bin ho h
 case h_5 op T x ho=>exact ok_un ho h
 case h_6 x i ho=>exact ok_ext ho h
 case h_7 x ho=>exact ok_nilCheck ho h
 case h_8 S x f ho=>exact ok_fieldAddr ho h
 case h_9 T x ix ho=>exact ok_indexAddr ho h
 case h_10 T x ho=>exact ok_load ho h
 case h_11 T x ix ho=>exact ok_index ho h
 case h_12 T x lo hi ho=>exact ok_slice ho h
 case h_13 src dst x ho=>exact ok_convert ho h
 case h_14 T parts ho=>exact ok_build ho h
 case h_15 T ho=>
  refine ok_alloc ho ?_
  cases hz:zrI P T with
  |none=>rw [hz] at h;exact h
  |some z=>rw [hz] at h;exact h
 case h_16 T x ho=>exact ok_box ho h
 case h_17 T p x ho=>
  refine ok_store ho ?_
  refine evg_mono h fun q h=>evg_mono h fun v h=>?_
  cases hs:storeE P σ.heap T q (fixT P T v) with
  |none=>rw [hs] at h;exact h
  |some p=>rw [hs] at h;exact h
 case h_18 T len parts ho=>exact ok_buildSlice ho h
 case h_19 T x y ho=>obtain ⟨rfl,h⟩:=h;exact ok_makeSlice ho h
 case h_20 f ys caps ho=>
  obtain ⟨hy,h⟩:=h
  have:ys=#[]:=by rw [← Array.toArray_toList (xs:=ys),hy]
  subst this
  exact ok_makeFunc ho h
 case h_21 c ho=>exact callE_ok ho h
 case h_22 T x lo hi mx ho=>exact ok_slice3 ho h
 case h_23=>exact h.elim
/-- Under a guard that is not known: the value holds if the guard does. Or the guard is known. -/
def gStep (P:Program) (g:Bool) (σ:St) (n:Nat) (o:Oper) (K:Res→Prop):Prop:=
 (g=true∧opE P true σ n o K)∨(g=false∧K (rv (.gd false (.d (.bool false)))))∨opE P g σ n o fun r=>r.new=[]∧r.upd=[]∧K (rv (.gd g r.v))
theorem gStep_true (h:opE P true σ n o K):gStep P true σ n o K:=.inl ⟨rfl,h⟩
theorem gStep_false (h:K (rv (.gd false (.d (.bool false))))):gStep P false σ n o K:=.inr (.inl ⟨rfl,h⟩)
theorem gStep_sym (h:opE P g σ n o fun r=>r.new=[]∧r.upd=[]∧K (rv (.gd g r.v))):gStep P g σ n o K:=.inr (.inr h)
def stepE (P:Program) (ops:List Oper) (σ:St) (n:Nat) (o:Oper) (K:Res→Prop):Prop:=
 match o.guard with
 |none=>opE P true σ n o K
 |some (j,want)=>
  match (ops[j]?).bind (·.dst) with
  |some d=>
   match σ.ev (.tmp d) with
   |.d (.bool b)=>gStep P (b == want) σ n o K
   |.gd c (.d (.bool b))=>gStep P (c && (b == want)) σ n o K
   |_=>False
  |none=>False
def StepOK (P:Program) (ops:Array Oper) (o:Oper) (σ:St) (n:Nat) (r:Res):Prop:=
 ∀ σ':St,σ.le σ'→(∀ i,n≤i→i < n + r.new.length→hget σ'.heap i=.dead)→
 ∀ (B:Nat→Prop) (w0:World) (Dm:Nat→Prop) (φ:Phi) (kp:List (V×Value)) (a:Act) (w:World),(∀ i,n≤i→i < n + r.new.length→¬ Dm i)→R B w0 Dm φ σ' kp a w→
 ∀ (K:Act→World→Prop) (Q:Exit→Act→World→Prop),
  (∀ u w' φ',R B w0 (fun i=>Dm i∨(n≤i∧i < n + r.new.length)) φ' (σ'.app o.dst n r) kp (a.put o.dst u) w'→K (a.put o.dst u) w')→
  if Region.wanted o (yielded ops a.tmps) then o.wp P a w K Q∨(o.asks P a w∧LetsOut Q) else K (a.put o.dst undef) w
theorem R_weak {B:Nat→Prop} {w0:World} {Dm:Nat→Prop} {φ:Phi} {σ:St} {kp:List (V×Value)} {a:Act} {w:World} (r:R B w0 Dm φ σ kp a w) {ts:List V} (hl:ts.length=σ.tmps.length)
  (h:∀ (t:Nat) (v' v:V) (u:Value),ts[t]?=some v'→σ.tmps[t]?=some v→VRel φ (NotTop φ σ.heap) w.heap v u→VRel φ (NotTop φ σ.heap) w.heap v' u):R B w0 Dm φ ⟨ts,σ.heap⟩ kp a w:=by
 refine ⟨VRels_mk _ _ (by rw [VRels_len _ _ r.tm,hl]) fun t v' u e1 e2=>?_,r.kp,r.hp,r.o1,r.o2,r.o3,r.dm,r.bel,r.bs,r.de,r.gb⟩
 have hlt:t < σ.tmps.length:=by
  rcases Nat.lt_or_ge t ts.length with h|h
  ·omega
  ·rw [List.getElem?_eq_none h] at e1;cases e1
 obtain ⟨u',k1,k2⟩:=VRels_at _ _ r.tm t _ (List.getElem?_eq_getElem hlt)
 rw [k1] at e2;cases e2
 exact h t v' _ u e1 (List.getElem?_eq_getElem hlt) k2
theorem R_gd {B:Nat→Prop} {w0:World} {Dm:Nat→Prop} {φ:Phi} {σ:St} {kp:List (V×Value)} {a:Act} {w:World} {dst:Option Tmp} {v:V} {n:Nat} {hs:List H} {upd:List (Nat×H)} (r:R B w0 Dm φ (σ.app dst n ⟨v,hs,upd⟩) kp a w) :
  R B w0 Dm φ (σ.app dst n ⟨.gd true v,hs,upd⟩) kp a w:=by
 cases dst with
 |none=>exact r
 |some d=>
  refine R_weak r (by simp [St.app]) fun t v' v'' u e1 e2 hr=>?_
  simp only [St.app,List.getElem?_set] at e1 e2
  by_cases h:d=t
  ·subst h
   simp only [if_true] at e1 e2
   split at e1
   ·cases e1
    rw [if_pos (by assumption)] at e2;cases e2
    simp only [VRel];exact ⟨fun _=>hr,fun h=>by cases h⟩
   ·cases e1
  ·simp only [h,if_false] at e1 e2
   rw [e1] at e2;cases e2;exact hr
theorem ev_yield {B:Nat→Prop} {w0:World} {Dm:Nat→Prop} {φ:Phi} {σ σ':St} {kp:List (V×Value)} {a:Act} {w:World} (hle:σ.le σ') (r:R B w0 Dm φ σ' kp a w) {d:Tmp} {v:V} (hv:σ.ev (.tmp d)=v) (hj:v≠.junk) :
  ∃ u,a.tmps[d]?=some u∧VRel φ (NotTop φ σ'.heap) w.heap v u:=by
 have he:=hle.ev (.tmp d)
 rw [hv] at he
 rcases he with h|h
 ·exact absurd h hj
 ·simp only [St.ev,List.getD_eq_getElem?_getD] at h
  cases ht:σ'.tmps[d]? with
  |none=>rw [ht] at h;exact absurd h.symm hj
  |some v'=>
   rw [ht] at h;simp only [Option.getD_some] at h;subst h
   obtain ⟨u,k1,k2⟩:=VRels_at _ _ r.tm d _ ht
   rw [Array.getElem?_toList] at k1
   exact ⟨u,k1,k2⟩
theorem rel_gdf {φ:Phi} {T:Nat→Prop} {h:Array Obj} (v:V):VRel φ T h (.gd false v) undef:=by
 simp only [VRel];exact ⟨fun h=>(Bool.noConfusion h),fun _=>trivial⟩
theorem gStep_ok {ops:Array Oper} (hw:∀ {σ':St} {B:Nat→Prop} {w0:World} {Dm:Nat→Prop} {φ:Phi} {kp:List (V×Value)} {a:Act} {w:World},σ.le σ'→R B w0 Dm φ σ' kp a w→Region.wanted o (yielded ops a.tmps)=g)
  (h:gStep P g σ n o K):∃ r,StepOK P ops o σ n r∧K r:=by
 rcases h with ⟨rfl,h⟩|⟨rfl,h⟩|h
 ·obtain ⟨r,h1,h2⟩:=opE_ok h
  refine ⟨r,fun σ' hle hd B w0 Dm φ kp a w hDm hR Q1 Q2 hk=>?_,h2⟩
  rw [if_pos (hw hle hR)]
  exact .inl (h1 σ' hle hd B w0 Dm φ kp a w hDm hR rfl Q1 Q2 hk)
 ·refine ⟨_,fun σ' hle hd B w0 Dm φ kp a w hDm hR Q1 Q2 hk=>?_,h⟩
  rw [if_neg (by rw [hw hle hR];simp)]
  exact hk undef w φ (R_dm (R_put hR o.dst (rel_gdf _)) fun i h=>.inl h)
 ·obtain ⟨r,h1,h2,h3,h4⟩:=opE_ok h
  refine ⟨_,fun σ' hle hd B w0 Dm φ kp a w hDm hR Q1 Q2 hk=>?_,h4⟩
  obtain ⟨v,new,upd⟩:=r
  simp only at h2 h3;subst h2;subst h3
  cases g with
  |true=>
   rw [if_pos (hw hle hR)]
   refine .inl (h1 σ' hle hd B w0 Dm φ kp a w hDm hR rfl Q1 Q2 fun u w' φ' hr=>hk u w' φ' ?_)
   exact R_gd (σ:=σ') (v:=v) (dst:=o.dst) hr
  |false=>
   rw [if_neg (by rw [hw hle hR];simp)]
   exact hk undef w φ (R_dm (R_put hR o.dst (rel_gdf v)) fun i h=>.inl h)
theorem stepE_ok {ops:Array Oper} (h:stepE P ops.toList σ n o K):∃ r,StepOK P ops o σ n r∧K r:=by
 unfold stepE at h
 split at h
 ·rename_i hg
  obtain ⟨r,h1,h2⟩:=opE_ok h
  refine ⟨r,fun σ' hle hd B w0 Dm φ kp a w hDm hR Q1 Q2 hk=>?_,h2⟩
  rw [if_pos (by simp [Region.wanted,hg])]
  exact .inl (h1 σ' hle hd B w0 Dm φ kp a w hDm hR rfl Q1 Q2 hk)
 ·rename_i j want hg
  split at h
  ·rename_i d hd
   rw [Array.getElem?_toList] at hd
   split at h
   ·rename_i b hv
    refine gStep_ok (fun hle hR=>?_) h
    obtain ⟨u,k1,k2⟩:=ev_yield hle hR hv (by simp)
    rw [rel_bool k2] at k1
    simp [Region.wanted,hg,yielded,hd,k1]
   ·rename_i c b hv
    refine gStep_ok (fun {σ' B w0 Dm φ kp a w} hle hR=>?_) h
    obtain ⟨u,k1,k2⟩:=ev_yield hle hR hv (by simp)
    simp only [VRel] at k2
    cases c with
    |true=>
     rw [rel_bool (φ:=φ) (T:=NotTop φ σ'.heap) (h:=w.heap) (b:=b) (u:=u) (by simp only [VRel];exact k2.1 rfl)] at k1
     simp [Region.wanted,hg,yielded,hd,k1]
    |false=>
     rw [k2.2 rfl] at k1
     simp [Region.wanted,hg,yielded,hd,k1,undef]
   ·exact h.elim
  ·exact h.elim
/-- What guards an operation. -/
def guE (v:V) (want:Bool) (K:Bool→Prop):Prop:=
 match v with
 |.d (.bool b)=>K (b == want)
 |.gd c (.d (.bool b))=>K (c && (b == want))
 |_=>False
def dstOf (ops:List Oper) (j:Nat) (K:Tmp→Prop):Prop:=match (ops[j]?).bind (·.dst) with|some d=>K d|none=>False
/-- The relation, whatever the places; numbers of entries are used up to the heap's length. -/
def RR (B:Nat→Prop) (w0:World) (kp:List (V×Value)) (σ:St) (a:Act) (w:World):Prop:=∃ Dm φ,R B w0 Dm φ σ kp a w∧∀ i,Dm i→i < σ.heap.length
/-- What a call of f comes to, whoever calls: 'kv' stays what it is; K: the result, the entries behind the call. -/
def InlCall (P:Program) (f:FuncId) (kv:List V) (hs:List H) (vs:List V) (K:V→List H→Prop):Prop:=
 ∀ (B:Nat→Prop) (w0:World) (kp:List (V×Value)) (us:List Value) (w:World),kp.map (·.1)=kv→RR B w0 kp ⟨vs,hs⟩ ⟨us.toArray,[]⟩ w→
  Does P f us.toArray w fun v w'=>∃ x hs',K x hs'∧RR B w0 kp ⟨[x],hs'⟩ ⟨#[v],[]⟩ w'
def setD (ts:List V) (dst:Option Tmp) (v:V):List V:=match dst with|some d=>ts.set d v|none=>ts
theorem hput_length (hs:List H) (i:Nat) (x:H):hs.length≤(hput hs i x).length∧i < (hput hs i x).length:=by
 unfold hput
 split
 ·rename_i h;simp [h]
 ·rename_i h;simp;omega
theorem hnew_length:∀ (xs:List H) (hs:List H) (n:Nat),hs.length≤(hnew hs n xs).length∧(xs=[]∨n + xs.length≤(hnew hs n xs).length)
 |[],hs,n=>⟨Nat.le_refl _,.inl rfl⟩
 |x::xs,hs,n=>by
  have h1:=hput_length hs n x
  have h2:=hnew_length xs (hput hs n x) (n + 1)
  simp only [hnew,List.length_cons]
  refine ⟨by omega,.inr ?_⟩
  rcases h2.2 with rfl|h
  ·simp only [hnew,List.length_nil];omega
  ·omega
theorem hupd_length:∀ (upd:List (Nat×H)) (hs:List H),hs.length≤(hupd hs upd).length
 |[],hs=>Nat.le_refl _
 |(i,x)::r,hs=>by
  have h1:=hput_length hs i x
  have h2:=hupd_length r (hput hs i x)
  simp only [hupd];omega
theorem hget_ge {hs:List H} {i:Nat} (h:hs.length≤i):hget hs i=.dead:=by
 unfold hget;rw [List.getD_eq_getElem?_getD,List.getElem?_eq_none h];rfl
theorem repC_reps {h:Array Obj} {o:Bool} {b:Nat}:∀ (ds:List D) (f:Nat) (G:List Nat),repC h o b f ds G→∃ us:List Value,reps h o ds us G∧∀ (j:Nat) (u:Value),us[j]?=some u→cellAt h b (f + j)=some u
 |[],f,G,r=>by simp only [repC] at r;exact ⟨[],⟨rfl,r⟩,by simp⟩
 |d::ds,f,G,r=>by
  simp only [repC] at r
  obtain ⟨v,G1,G2,rfl,e2,e3,e4⟩:=r
  obtain ⟨us,k1,k2⟩:=repC_reps ds (f + 1) G2 e4
  refine ⟨v::us,⟨v,us,G1,G2,rfl,rfl,e3,k1⟩,fun j u hj=>?_⟩
  cases j with
  |zero=>simp at hj;subst hj;simpa using e2
  |succ j=>rw [show f + (j + 1)=f + 1 + j from by omega];exact k2 j u (by simpa using hj)
theorem RR_open {B:Nat→Prop} {w0:World} {kp:List (V×Value)} {σ:St} {a:Act} {w:World} (r:RR B w0 kp σ a w) {id idx sz:Nat} {xs:List (List D)} {c:List D} (hx:hget σ.heap id=.cln sz xs) (hc:xs[idx]?=some c) :
  RR B w0 kp ⟨σ.tmps,hnew (hput σ.heap id (.win sz (xs.take idx) (rVs c σ.heap.length) (xs.drop (idx + 1)))) σ.heap.length (rHs c)⟩ a w:=by
 obtain ⟨Dm,φ,r,hD⟩:=r
 have hidl:id < σ.heap.length:=by
  rcases Nat.lt_or_ge id σ.heap.length with h|h
  ·exact h
  ·rw [hget_ge h] at hx;cases hx
 have hlt:idx < xs.length:=(List.getElem?_eq_some_iff.1 hc).1
 rcases r.hp id with hd|⟨β,e1,hr⟩
 ·rw [hx] at hd;cases hd
 rw [hx] at hr
 simp only [HRel] at hr
 obtain ⟨hsz,hr⟩:=hr
 rcases hr with hr|⟨b,r1,r2,r3,r4⟩
 ·rw [hr.2.1] at hlt;simp at hlt
 obtain ⟨G1,Gi,G2,hG,m1,m2,m3,m4⟩:=repE_at r4 hc
 obtain ⟨us,u1,u2⟩:=repC_reps _ _ _ m3
 obtain ⟨bl,⟨l1,l2,l3,l4⟩,hv⟩:=rVs_rel c us Gi u1
 have ho2:=r.o2 id β e1 (by rw [hx];rfl)
 rw [hG] at ho2
 have hGi:Gi.Nodup:=by
  have:=ho2.1
  rw [List.nodup_append] at this
  have:=this.2.1
  rw [List.nodup_append] at this
  exact this.1
 have hG12:(G1++G2).Nodup:=by
  have:=ho2.1
  simp only [List.nodup_append,List.mem_append] at this ⊢
  grind
 have hdis:∀ x ∈ Gi,x ∉ G1∧x ∉ G2:=by
  have:=ho2.1
  simp only [List.nodup_append,List.mem_append] at this
  grind
 let n:=σ.heap.length
 let φ':Phi:=fun i=>if i=id then some { β with nest:=G1++G2 } else if n≤i∧i < n + (rHs c).length then bl[i - n]? else φ i
 have hφ:∀ i,n≤i→φ i=none:=fun i h=>by
  cases h':φ i with
  |none=>rfl
  |some β=>have:=hD i (r.dm i β h');omega
 have hpid:φ' id=some { β with nest:=G1++G2 }:=if_pos rfl
 have hpin:∀ i,n≤i∧i < n + (rHs c).length→φ' i=bl[i - n]?:=fun i h=>by
  show (if i=id then _ else _)=_
  rw [if_neg (by omega),if_pos h]
 have hpout:∀ i,i≠id→¬ (n≤i∧i < n + (rHs c).length)→φ' i=φ i:=fun i h1 h2=>by
  show (if i=id then _ else _)=_
  rw [if_neg h1,if_neg h2]
 have hhid:hget (hnew (hput σ.heap id (.win sz (xs.take idx) (rVs c σ.heap.length) (xs.drop (idx + 1)))) σ.heap.length (rHs c)) id=.win sz (xs.take idx) (rVs c σ.heap.length) (xs.drop (idx + 1)):=by
  rw [hget_hnew,if_neg (by omega),hget_hput,if_pos rfl]
 have hhin:∀ i,n≤i∧i < n + (rHs c).length→∃ x,(rHs c)[i - n]?=some x∧hget (hnew (hput σ.heap id (.win sz (xs.take idx) (rVs c σ.heap.length) (xs.drop (idx + 1)))) σ.heap.length (rHs c)) i=x:=by
  intro i h
  have hl:i - n < (rHs c).length:=by omega
  refine ⟨(rHs c)[i - n],List.getElem?_eq_getElem hl,?_⟩
  rw [hget_hnew,if_pos h,List.getD_eq_getElem?_getD,List.getElem?_eq_getElem hl];rfl
 have hhout:∀ i,i≠id→¬ (n≤i∧i < n + (rHs c).length)→hget (hnew (hput σ.heap id (.win sz (xs.take idx) (rVs c σ.heap.length) (xs.drop (idx + 1)))) σ.heap.length (rHs c)) i=hget σ.heap i:=by
  intro i h1 h2
  rw [hget_hnew,if_neg h2,hget_hput,if_neg h1]
 have hA:At φ' n bl:=fun i β' e=>by
  have hl:i < bl.length:=by
   rcases Nat.lt_or_ge i bl.length with h|h
   ·exact h
   ·rw [List.getElem?_eq_none h] at e;cases e
  rw [hpin (n + i) ⟨by omega,by omega⟩,Nat.add_sub_cancel_left];exact e
 have hfoot:∀ (i:Nat) (β':Blk) (g:Nat),bl[i]?=some β'→g ∈ foot β'→g ∈ Gi:=fun i β' g h1 h2=>by rw [← l2];exact List.mem_flatMap.2 ⟨β',List.mem_of_getElem? h1,h2⟩
 generalize hhs:hnew (hput σ.heap id (.win sz (xs.take idx) (rVs c σ.heap.length) (xs.drop (idx + 1)))) σ.heap.length (rHs c)=hs' at hhid hhin hhout ⊢
 have hown:∀ i,(i=id∨(n≤i∧i < n + (rHs c).length))→∀ g,Owns φ' hs' i g→(i=id∧(g=b∨g ∈ G1++G2))∨(i≠id∧∃ β',bl[i - n]?=some β'∧g ∈ foot β'):=by
  rintro i hi g ⟨β',e2,ho⟩
  by_cases hii:i=id
  ·subst hii
   rw [hpid] at e2;cases e2
   refine .inl ⟨rfl,?_⟩
   rcases ho with ⟨_,ho⟩|⟨_,ho⟩
   ·simp only [r1,Option.some.injEq] at ho;exact .inl ho.symm
   ·exact .inr ho
  ·have hi:=hi.resolve_left hii
   rw [hpin i hi] at e2
   refine .inr ⟨hii,β',e2,?_⟩
   unfold foot
   rcases ho with ⟨_,ho⟩|⟨_,ho⟩<;>simp [ho]
 have hidown:∀ g,(g=b∨g ∈ β.nest)→Owns φ σ.heap id g:=by
  intro g hg
  rcases hg with rfl|hg
  ·exact ⟨β,e1,.inl ⟨by rw [hx];rfl,r1⟩⟩
  ·exact ⟨β,e1,.inr ⟨by rw [hx];rfl,hg⟩⟩
 have hidtop:∀ g,(g=b∨g ∈ β.nest)→TopOf (hget σ.heap id) β g:=by
  intro g hg
  rw [hx]
  rcases hg with rfl|hg
  ·exact .inl ⟨rfl,r1⟩
  ·exact .inr ⟨rfl,hg⟩
 have hmem:∀ g,(g ∈ G1++G2∨g ∈ Gi)→g ∈ β.nest:=by
  intro g hg
  rw [hG]
  simp only [List.mem_append] at hg ⊢
  grind
 have hle:Le φ φ':=fun i β' hi=>by
  by_cases h:i=id
  ·subst h;rw [e1] at hi;cases hi
   exact ⟨_,hpid,rfl,rfl,rfl,rfl⟩
  ·have:¬ (n≤i∧i < n + (rHs c).length):=fun h'=>by rw [hφ i h'.1] at hi;cases hi
   exact ⟨β',by rw [hpout i h this];exact hi,rfl,rfl,rfl,rfl⟩
 refine ⟨fun i=>Dm i∨(n≤i∧i < n + (rHs c).length),φ',R_change r (fun i=>i=id∨(n≤i∧i < n + (rHs c).length)) _ φ' hs' w (fun i hi=>⟨hhout i (fun h=>hi (.inl h)) (fun h=>hi (.inr h)),hpout i (fun h=>hi (.inl h)) (fun h=>hi (.inr h))⟩) hle (Nat.le_refl _) (fun _ _ _=>rfl)
  (fun i hi g ho=>?_) (fun i hi β' e2 g ht=>?_) (fun i j g hi hj h1 h2=>?_) (fun i β' hi e2 _=>?_) (fun i hi=>?_) (fun i β' e2=>?_) r.bel,fun i hi=>?_⟩
 ·right
  refine ⟨id,.inl rfl,hidown g ?_⟩
  rcases hown i hi g ho with ⟨_,h|h⟩|⟨_,β',h1,h2⟩
  ·exact .inl h
  ·exact .inr (hmem g (.inl h))
  ·exact .inr (hmem g (.inr (hfoot _ β' g h1 h2)))
 ·right
  refine ⟨id,β,.inl rfl,e1,hidtop g ?_⟩
  rcases hown i hi g (TopOf.owns e2 ht) with ⟨_,h|h⟩|⟨_,β',h1,h2⟩
  ·exact .inl h
  ·exact .inr (hmem g (.inl h))
  ·exact .inr (hmem g (.inr (hfoot _ β' g h1 h2)))
 ·have hb2:b ∉ Gi:=fun h=>ho2.2 b r1 (by simp [h])
  rcases hown i hi g h1 with ⟨q1,q2⟩|⟨q1,β1,q2,q3⟩<;>rcases hown j hj g h2 with ⟨p1,p2⟩|⟨p1,β2,p2,p3⟩
  ·rw [q1,p1]
  ·exfalso
   have:=hfoot _ β2 g p2 p3
   rcases q2 with rfl|q2
   ·exact hb2 this
   ·have h5:=hdis g this
    rcases List.mem_append.1 q2 with h|h
    ·exact h5.1 h
    ·exact h5.2 h
  ·exfalso
   have:=hfoot _ β1 g q2 q3
   rcases p2 with rfl|p2
   ·exact hb2 this
   ·have h5:=hdis g this
    rcases List.mem_append.1 p2 with h|h
    ·exact h5.1 h
    ·exact h5.2 h
  ·have:=flat_inj bl l2 hGi _ _ β1 β2 g q2 p2 q3 p3
   have hi:=hi.resolve_left q1
   have hj:=hj.resolve_left p1
   omega
 ·by_cases hii:i=id
  ·subst hii
   rw [hpid] at e2;cases e2
   refine ⟨hG12,fun g hg hg2=>ho2.2 g hg ?_⟩
   simp only [List.mem_append] at hg2 ⊢
   grind
  ·have hi:=hi.resolve_left hii
   rw [hpin i hi] at e2
   have:=flat_nodup bl l2 hGi β' (List.mem_of_getElem? e2)
   unfold foot at this
   rw [List.nodup_append] at this
   exact ⟨this.2.1,fun g hg hg2=>this.2.2 g (by simp [hg]) g hg2 rfl⟩
 ·right
  by_cases hii:i=id
  ·subst hii
   refine ⟨_,hpid,?_⟩
   rw [hhid]
   have htl:(xs.take idx).length=idx:=by simp;omega
   have hV:=hv φ' n (NotTop φ' hs') hA
   refine ⟨hsz,?_,b,G1,G2,us,r1,by rw [htl,List.length_drop];show idx + 1 + (xs.length - (idx + 1))≤β.cap;omega,r3,rfl,m2,hV,fun j u hj=>?_,?_⟩
   ·rw [← VRels_len _ _ hV,reps_len _ _ _ u1];exact m1
   ·rw [htl];exact u2 j u hj
   ·rw [htl];exact m4
  ·have hi:=hi.resolve_left hii
   obtain ⟨x,h1,h2⟩:=hhin i hi
   have hl:i - n < bl.length:=by omega
   refine ⟨bl[i - n],by rw [hpin i hi];exact List.getElem?_eq_getElem hl,?_⟩
   rw [h2]
   exact l3 _ _ _ (List.getElem?_eq_getElem hl) h1 _ _
 ·by_cases hii:i=id
  ·subst hii;exact .inl (r.dm i β e1)
  ·by_cases h:n≤i∧i < n + (rHs c).length
   ·exact .inr h
   ·rw [hpout i hii h] at e2;exact .inl (r.dm i β' e2)
 ·show i < hs'.length
  rw [← hhs]
  have k1:=hnew_length (rHs c) (hput σ.heap id (.win sz (xs.take idx) (rVs c σ.heap.length) (xs.drop (idx + 1)))) σ.heap.length
  have k2:=hput_length σ.heap id (.win sz (xs.take idx) (rVs c σ.heap.length) (xs.drop (idx + 1)))
  rcases hi with hi|hi
  ·have:=hD i hi;omega
  ·rcases k1.2 with h|h
   ·rw [h] at hi;simp at hi;omega
   ·omega
theorem RR_close {B:Nat→Prop} {w0:World} {kp:List (V×Value)} {σ:St} {a:Act} {w:World} (r:RR B w0 kp σ a w) {id sz:Nat} {pre post:List (List D)} {cells:List V} {ds:List D} {ids:List Nat} (hx:hget σ.heap id=.win sz pre cells post) (hd:toDs σ.heap cells=some (ds,ids)) (hn:ids.Nodup)
  (hf:∀ i ∈ ids,∃ s ys,hget σ.heap i=.arr s ys true∧flatE ys=true):RR B w0 kp ⟨σ.tmps,hupd (hput σ.heap id (.cln sz (pre++ds::post))) (ids.map fun i=>(i,H.dead))⟩ a w:=by
 obtain ⟨Dm,φ,r,hD⟩:=r
 rcases r.hp id with hd'|⟨β,e1,hr⟩
 ·rw [hx] at hd';cases hd'
 rw [hx] at hr
 simp only [HRel] at hr
 obtain ⟨hsz,hcl,b,G1,G2,us,r1,r2,r3,r4,r5,r6,r7,r8⟩:=hr
 obtain ⟨Gd,d1,d2,d3,d4⟩:=toDs_rel r _ _ _ _ hd hn r6
 have ho2:=r.o2 id β e1 (by rw [hx];rfl)
 have hidn:id ∉ ids:=fun h=>by
  obtain ⟨s,ys,h1,_⟩:=hf id h
  rw [hx] at h1;cases h1
 have hidown:∀ g,(g=b∨g ∈ β.nest)→Owns φ σ.heap id g:=by
  intro g hg
  rcases hg with rfl|hg
  ·exact ⟨β,e1,.inl ⟨by rw [hx];rfl,r1⟩⟩
  ·exact ⟨β,e1,.inr ⟨by rw [hx];rfl,hg⟩⟩
 have hnestI:∀ i ∈ ids,∀ β',φ i=some β'→β'.nest=[]:=by
  intro i hi β' e
  obtain ⟨s,ys,h1,h2⟩:=hf i hi
  rcases r.hp i with hd'|⟨β2,e2,hr⟩
  ·rw [h1] at hd';cases hd'
  ·rw [e] at e2;cases e2
   obtain ⟨_,hr⟩:=mine_rel (by rw [h1];rfl) hr
   rcases hr with hr|⟨_,_,_,_,hr⟩
   ·exact hr.2.2.2
   ·exact repE_flat _ _ _ _ h2 hr
 have hdtop:∀ g ∈ Gd,∃ i ∈ ids,∃ β',φ i=some β'∧TopOf (hget σ.heap i) β' g:=by
  intro g hg
  obtain ⟨i,i1,β',e2,i2⟩:=d3 g hg
  refine ⟨i,i1,β',e2,?_⟩
  rcases i2 with i2|⟨_,i2⟩
  ·exact .inl i2
  ·rw [hnestI i i1 β' e2] at i2;cases i2
 have hdn:∀ g ∈ Gd,g≠b∧g ∉ β.nest:=by
  intro g hg
  obtain ⟨i,i1,i2⟩:=d3 g hg
  constructor
  ·intro h
   exact hidn (r.o1 i id g i2 (hidown g (.inl h)) ▸ i1)
  ·intro h
   exact hidn (r.o1 i id g i2 (hidown g (.inr h)) ▸ i1)
 have hin:∀ i ∈ ids,hget (hupd (hput σ.heap id (.cln sz (pre++ds::post))) (ids.map fun i=>(i,H.dead))) i=.dead:=by
  intro i hi
  rcases hget_hupd (ids.map fun i=>(i,H.dead)) (hput σ.heap id (.cln sz (pre++ds::post))) i with ⟨x,h1,h2⟩|⟨h1,_⟩
  ·obtain ⟨j,_,hj⟩:=List.mem_map.1 h1
   simp only [Prod.mk.injEq] at hj
   rw [h2,← hj.2]
  ·exact absurd (List.mem_map.2 ⟨i,hi,rfl⟩) (h1 .dead)
 have hhid:hget (hupd (hput σ.heap id (.cln sz (pre++ds::post))) (ids.map fun i=>(i,H.dead))) id=.cln sz (pre++ds::post):=by
  rcases hget_hupd (ids.map fun i=>(i,H.dead)) (hput σ.heap id (.cln sz (pre++ds::post))) id with ⟨x,h1,_⟩|⟨_,h2⟩
  ·obtain ⟨j,hj1,hj⟩:=List.mem_map.1 h1
   simp only [Prod.mk.injEq] at hj
   exact absurd (hj.1 ▸ hj1) hidn
  ·rw [h2,hget_hput,if_pos rfl]
 have hout:∀ i,i≠id→i ∉ ids→hget (hupd (hput σ.heap id (.cln sz (pre++ds::post))) (ids.map fun i=>(i,H.dead))) i=hget σ.heap i:=by
  intro i h1 h2
  rcases hget_hupd (ids.map fun i=>(i,H.dead)) (hput σ.heap id (.cln sz (pre++ds::post))) i with ⟨x,h3,_⟩|⟨_,h3⟩
  ·obtain ⟨j,hj1,hj⟩:=List.mem_map.1 h3
   simp only [Prod.mk.injEq] at hj
   exact absurd (hj.1 ▸ hj1) h2
  ·rw [h3,hget_hput,if_neg h1]
 have hnest:(G1++(Gd++G2)).Nodup:=by
  have h1:=ho2.1
  rw [r4] at h1 hdn
  simp only [List.nodup_append,List.mem_append] at h1 hdn ⊢
  grind
 have hdl:ds.length=sz:=by rw [← reps_len _ _ _ d1,VRels_len _ _ r6];exact hcl
 have hle:Le φ (phiSet φ id { β with nest:=G1++(Gd++G2) }):=fun i β' hi=>by
  by_cases h:i=id
  ·subst h;rw [e1] at hi;cases hi
   exact ⟨{ β with nest:=G1++(Gd++G2) },by simp [phiSet],rfl,rfl,rfl,rfl⟩
  ·exact ⟨β',by simp [phiSet,h,hi],rfl,rfl,rfl,rfl⟩
 have hpid:phiSet φ id { β with nest:=G1++(Gd++G2) } id=some { β with nest:=G1++(Gd++G2) }:=by simp [phiSet]
 generalize hhs:hupd (hput σ.heap id (.cln sz (pre++ds::post))) (ids.map fun i=>(i,H.dead))=hs' at hin hhid hout ⊢
 have hown:∀ i,(i=id∨i ∈ ids)→∀ g,Owns (phiSet φ id { β with nest:=G1++(Gd++G2) }) hs' i g→i=id∧(g=b∨g ∈ β.nest∨g ∈ Gd):=by
  rintro i hi g ⟨β',e2,ho⟩
  by_cases hii:i=id
  ·subst hii
   rw [hpid] at e2;cases e2
   refine ⟨rfl,?_⟩
   rcases ho with ⟨_,ho⟩|⟨_,ho⟩
   ·simp only [r1,Option.some.injEq] at ho;exact .inl ho.symm
   ·rw [r4];simp only [List.mem_append] at ho ⊢;grind
  ·have hi:=hi.resolve_left hii
   rw [hin i hi] at ho
   rcases ho with ⟨ho,_⟩|⟨ho,_⟩<;>cases ho
 refine ⟨Dm,phiSet φ id { β with nest:=G1++(Gd++G2) },R_change r (fun i=>i=id∨i ∈ ids) _ _ hs' w (fun i hi=>⟨hout i (fun h=>hi (.inl h)) (fun h=>hi (.inr h)),if_neg (fun h=>hi (.inl h))⟩) hle (Nat.le_refl _) (fun _ _ _=>rfl)
  (fun i hi g ho=>?_) (fun i hi β' e2 g ht=>?_) (fun i j g hi hj h1 h2=>?_) (fun i β' hi e2 _=>?_) (fun i hi=>?_) (fun i β' e2=>?_) r.bel,fun i hi=>?_⟩
 ·right
  obtain ⟨_,h⟩:=hown i hi g ho
  rcases h with h|h|h
  ·exact ⟨id,.inl rfl,hidown g (.inl h)⟩
  ·exact ⟨id,.inl rfl,hidown g (.inr h)⟩
  ·obtain ⟨j,j1,j2⟩:=d3 g h
   exact ⟨j,.inr j1,j2⟩
 ·right
  obtain ⟨_,h⟩:=hown i hi g (TopOf.owns e2 ht)
  rcases h with h|h|h
  ·exact ⟨id,β,.inl rfl,e1,by rw [hx];exact .inl ⟨rfl,by rw [r1,h]⟩⟩
  ·exact ⟨id,β,.inl rfl,e1,by rw [hx];exact .inr ⟨rfl,h⟩⟩
  ·obtain ⟨j,j1,β2,j2,j3⟩:=hdtop g h
   exact ⟨j,β2,.inr j1,j2,j3⟩
 ·rw [(hown i hi g h1).1,(hown j hj g h2).1]
 ·rcases hi with rfl|hi
  ·rw [hpid] at e2;cases e2
   refine ⟨hnest,fun g hg hg2=>?_⟩
   have h5:=ho2.2 g hg
   rw [r4] at h5
   simp only [r1,Option.some.injEq] at hg
   have h6:g ∈ Gd→False:=fun h=>(hdn g h).1 hg.symm
   simp only [List.mem_append] at hg2 h5
   grind
  ·rename_i ho
   rw [hin i hi] at ho;cases ho
 ·rcases hi with rfl|hi
  ·right
   refine ⟨_,hpid,?_⟩
   rw [hhid]
   refine ⟨hsz,.inr ⟨b,r1,by simp only [List.length_append,List.length_cons];show pre.length + (post.length + 1)≤β.cap;omega,r3,?_⟩⟩
   refine (repE_append _ _ _ _).2 ⟨G1,Gd++G2,rfl,r5,?_⟩
   simp only [repE]
   refine ⟨Gd,G2,rfl,hdl,reps_repC _ _ _ _ d1 r7,?_⟩
   have:β.off + pre.length * sz + sz=β.off + (pre.length + 1) * sz:=by rw [Nat.add_mul];omega
   rw [this];exact r8
  ·exact .inl (hin i hi)
 ·by_cases hii:i=id
  ·subst hii;exact r.dm i β e1
  ·exact r.dm i β' (by simpa [phiSet,hii] using e2)
 ·show i < hs'.length
  rw [← hhs]
  have k1:=hupd_length (ids.map fun i=>(i,H.dead)) (hput σ.heap id (.cln sz (pre++ds::post)))
  have k2:=hput_length σ.heap id (.cln sz (pre++ds::post))
  have:=hD i hi;omega
/-- The same, or one element opened or closed. -/
def Sh (σ σ':St):Prop:=σ'=σ ∨
 (∃ id idx sz xs c,hget σ.heap id=.cln sz xs∧xs[idx]?=some c∧σ'=⟨σ.tmps,hnew (hput σ.heap id (.win sz (xs.take idx) (rVs c σ.heap.length) (xs.drop (idx + 1)))) σ.heap.length (rHs c)⟩) ∨
 ∃ id sz pre cells post ds ids,hget σ.heap id=.win sz pre cells post∧toDs σ.heap cells=some (ds,ids)∧ids.Nodup∧(∀ i ∈ ids,∃ s ys,hget σ.heap i=.arr s ys true∧flatE ys=true)∧σ'=⟨σ.tmps,hupd (hput σ.heap id (.cln sz (pre++ds::post))) (ids.map fun i=>(i,H.dead))⟩
theorem Sh.refl (σ:St):Sh σ σ:=.inl rfl
theorem Sh_ok {B:Nat→Prop} {w0:World} {kp:List (V×Value)} {σ σ':St} {a:Act} {w:World} (h:Sh σ σ') (r:RR B w0 kp σ a w):RR B w0 kp σ' a w:=by
 rcases h with rfl|⟨id,idx,sz,xs,c,h1,h2,rfl⟩|⟨id,sz,pre,cells,post,ds,ids,h1,h2,h3,h4,rfl⟩
 ·exact r
 ·exact RR_open r h1 h2
 ·exact RR_close r h1 h2 h3 h4
/-- The same values, of some nothing is known. -/
def jle:List V→List V→Prop
 |[],[]=>True
 |v'::vs',v::vs=>(v'=v∨v'=.junk)∧jle vs' vs
 |_,_=>False
theorem jle_refl:∀ vs:List V,jle vs vs
 |[]=>trivial
 |_::vs=>⟨.inl rfl,jle_refl vs⟩
theorem jle_len:∀ {vs' vs:List V},jle vs' vs→vs'.length=vs.length
 |[],[],_=>rfl
 |_::_,[],h=>h.elim
 |[],_::_,h=>h.elim
 |_::vs',_::vs,h=>by simp [jle_len h.2]
theorem jle_zip:∀ {vs' vs:List V} {us:List Value} {p:V×Value},jle vs' vs→p ∈ vs'.zip us→p.1=.junk∨p ∈ vs.zip us
 |[],_,us,p,_,hp=>by simp at hp
 |_::_,[],_,_,h,_=>h.elim
 |_::_,_::_,[],p,_,hp=>by simp at hp
 |v'::vs',v::vs,u::us,p,h,hp=>by
  simp only [List.zip_cons_cons,List.mem_cons] at hp ⊢
  rcases hp with rfl|hp
  ·rcases h.1 with e|e
   ·exact .inr (.inl (by rw [e]))
   ·exact .inl e
  ·rcases jle_zip h.2 hp with e|e
   ·exact .inl e
   ·exact .inr (.inr e)
/-- Only some of the values are kept. -/
def keepT (ks:List Nat):Nat→List V→List V
 |_,[]=>[]
 |i,v::vs=>(bif ks.elem i then v else .junk)::keepT ks (i + 1) vs
theorem jle_keep (ks:List Nat):∀ (i:Nat) (vs:List V),jle (keepT ks i vs) vs
 |_,[]=>trivial
 |i,v::vs=>⟨by cases h:ks.elem i<;>simp,jle_keep ks (i + 1) vs⟩
/-- A call in the order of the text: by the function's law, or through its code. -/
def CallS (P:Program) (kv:List V) (σ:St) (dst:Option Tmp) (f:FuncId) (caps:List V) (ao:Option (List AD)) (vs:List V) (K:St→Prop):Prop:=
 (caps=[]∧((CallK P f ao σ.heap vs σ.heap.length fun r=>K (σ.app dst σ.heap.length r)) ∨
  ∃ as rs,ao=some as∧PureCall P f as rs∧∃ σ2,Sh (σ.app dst σ.heap.length ⟨tV rs σ.heap.length,(aHs rs).map H.toCln,[]⟩) σ2∧K σ2)) ∨
 ∃ ts,jle ts σ.tmps∧InlCall P f (ts++kv) σ.heap (vs++caps) fun x hs=>K ⟨setD ts dst x,hs⟩
/-- An operation without regard to its guard. -/
def bareE (P:Program) (kv:List V) (σ:St) (o:Oper) (K:St→Prop):Prop:=
 match o.op with
 |.call ⟨.value x,xs,_⟩=>evg true (σ.ev x) fun fv=>fnE fv fun f caps=>evs true σ xs.toList fun vs=>CallS P kv σ o.dst f caps (toADs σ.heap vs) vs K
 |_=>opE P true σ σ.heap.length o fun r=>K (σ.app o.dst σ.heap.length r)
def gStepS (P:Program) (kv:List V) (g:Bool) (σ:St) (o:Oper) (K:St→Prop):Prop:=
 gStep P g σ σ.heap.length o (fun r=>K (σ.app o.dst σ.heap.length r))∨((g=true→bareE P kv σ o K)∧(g=false→K (σ.app o.dst σ.heap.length (rv (.gd false (.d (.bool false)))))))
def seqE (P:Program) (kv:List V) (ops:List Oper) (σ:St) (o:Oper) (K:St→Prop):Prop:=
 match o.guard with
 |none=>bareE P kv σ o K
 |some (j,want)=>dstOf ops j fun d=>guE (σ.ev (.tmp d)) want fun g=>gStepS P kv g σ o K
def opsE (P:Program) (kv:List V) (ops:List Oper):List Oper→St→(St→Prop)→Prop
 |[],σ,K=>K σ
 |o::rest,σ,K=>seqE P kv ops σ o fun σ'=>opsE P kv ops rest σ' K
theorem app_length (σ:St) (dst:Option Tmp) (r:Res):σ.heap.length + r.new.length≤(σ.app dst σ.heap.length r).heap.length:=by
 have h1:=hnew_length r.new σ.heap σ.heap.length
 have h2:=hupd_length r.upd (hnew σ.heap σ.heap.length r.new)
 simp only [St.app]
 rcases h1.2 with h|h
 ·have h3:=h1.1;rw [h] at h2 h3 ⊢;simp only [List.length_nil];omega
 ·omega
theorem app_fresh {Dm:Nat→Prop} {σ:St} {dst:Option Tmp} {r:Res} (hD:∀ i,Dm i→i < σ.heap.length) (i:Nat) (hi:Dm i∨(σ.heap.length≤i∧i < σ.heap.length + r.new.length)):i < (σ.app dst σ.heap.length r).heap.length:=by
 have:=app_length σ dst r
 rcases hi with hi|hi
 ·have:=hD i hi;omega
 ·omega
theorem op_in {B:Nat→Prop} {w0:World} {kp:List (V×Value)} {σ:St} {o:Oper} {K:St→Prop} {K':Act→World→Prop} {Q:Exit→Act→World→Prop} {a:Act} {w:World}
  (h:opE P true σ σ.heap.length o fun r=>K (σ.app o.dst σ.heap.length r)) (hr:RR B w0 kp σ a w) (hk:∀ σ' u w',K σ'→RR B w0 kp σ' (a.put o.dst u) w'→K' (a.put o.dst u) w'):o.wp P a w K' Q:=by
 obtain ⟨r,h1,h2⟩:=opE_ok h
 obtain ⟨Dm,φ,hR,hD⟩:=hr
 exact h1 σ (St.le.refl σ) (fun i hi _=>hget_ge hi) B w0 Dm φ kp a w (fun i hi _ hd=>by have:=hD i hd;omega) hR rfl K' Q fun u w' φ' hr'=>hk _ u w' h2 ⟨_,φ',hr',app_fresh hD⟩
theorem R_inner {B:Nat→Prop} {w0:World} {kp:List (V×Value)} {σ:St} {a:Act} {w:World} {vs ts:List V} {us:List Value} (hj:jle ts σ.tmps) (hr:RR B w0 kp σ a w) (hv:∀ Dm φ,R B w0 Dm φ σ kp a w→VRels φ (NotTop φ σ.heap) w.heap vs us) :
  RR B w0 (ts.zip a.tmps.toList++kp) ⟨vs,σ.heap⟩ ⟨us.toArray,[]⟩ w:=by
 obtain ⟨Dm,φ,r,hD⟩:=hr
 refine ⟨Dm,φ,⟨hv Dm φ r,fun p hp=>?_,r.hp,r.o1,r.o2,r.o3,r.dm,r.bel,r.bs,rfl,r.gb⟩,hD⟩
 rcases List.mem_append.1 hp with hp|hp
 ·exact r.kp p (List.mem_append_left _ hp)
 rcases List.mem_append.1 hp with hp|hp
 ·rcases jle_zip hj hp with e|hp
  ·rw [e];simp [VRel]
  obtain ⟨j,hj,rfl⟩:=List.getElem_of_mem hp
  have hl:=VRels_len _ _ r.tm
  simp only [List.length_zip] at hj
  obtain ⟨u,k1,k2⟩:=VRels_at _ _ r.tm j _ (List.getElem?_eq_getElem (by omega))
  rw [List.getElem?_eq_getElem (by omega)] at k1
  rw [List.getElem_zip]
  cases k1;exact k2
 ·exact r.kp p (List.mem_append_right _ hp)
theorem R_outer {B:Nat→Prop} {w0:World} {kp:List (V×Value)} {ts:List V} {us:Array Value} {hs:List H} {x:V} {v:Value} {w:World} (hl:us.toList.length=ts.length) (dst:Option Tmp)
  (hr:RR B w0 (ts.zip us.toList++kp) ⟨[x],hs⟩ ⟨#[v],[]⟩ w):RR B w0 kp ⟨setD ts dst x,hs⟩ ((Act.mk us []).put dst v) w:=by
 obtain ⟨Dm,φ,r,hD⟩:=hr
 have ht:VRels φ (NotTop φ hs) w.heap ts us.toList:=by
  refine VRels_mk _ _ hl fun t v' u e1 e2=>?_
  have hlt:t < ts.length:=(List.getElem?_eq_some_iff.1 e1).1
  have:(v',u) ∈ ts.zip us.toList:=by
   have h3:(ts.zip us.toList)[t]?=some (v',u):=by rw [List.getElem?_zip_eq_some];exact ⟨e1,e2⟩
   exact List.mem_of_getElem? h3
  exact r.kp _ (List.mem_append_right _ (List.mem_append_left _ this))
 have hx:VRel φ (NotTop φ hs) w.heap x v:=by
  have:=r.tm
  simp only [VRels] at this
  obtain ⟨u,us',e,h1,_⟩:=this
  cases e;exact h1
 have r0:R B w0 Dm φ ⟨ts,hs⟩ kp ⟨us,[]⟩ w:=⟨ht,fun p hp=>r.kp p ((List.mem_append.1 hp).elim (List.mem_append_left _) fun h=>List.mem_append_right _ (List.mem_append_right _ h)),r.hp,r.o1,r.o2,r.o3,r.dm,r.bel,r.bs,rfl,r.gb⟩
 exact ⟨Dm,φ,by have:=R_put r0 dst hx;cases dst<;>exact this,hD⟩
theorem bare_in {B:Nat→Prop} {w0:World} {kp:List (V×Value)} {kv:List V} (hkv:kp.map (·.1)=kv) {σ:St} {o:Oper} {K:St→Prop} {K':Act→World→Prop} {Q:Exit→Act→World→Prop} {a:Act} {w:World}
  (h:bareE P kv σ o K) (hr:RR B w0 kp σ a w) (hk:∀ σ' u w',K σ'→RR B w0 kp σ' (a.put o.dst u) w'→K' (a.put o.dst u) w'):o.wp P a w K' Q:=by
 unfold bareE at h
 split at h
 ·rename_i x xs ts ho
  obtain ⟨fv,h,hf⟩:=evg_rel h
  obtain ⟨f,caps,rfl,h⟩:=fnE_inv h
  obtain ⟨vs,h5,hx⟩:=evs_inv _ _ h
  clear h
  unfold CallS at h5
  rcases h5 with ⟨rfl,h6⟩|h6
  ·have hfe:∀ {σ':St} {B:Nat→Prop} {w0:World} {Dm:Nat→Prop} {φ:Phi} {kp:List (V×Value)} {a:Act} {w:World},σ.le σ'→R B w0 Dm φ σ' kp a w→true=true→a.eval x=.func (.func f) #[] #[]:=by
    intro σ' B w0 Dm φ kp a w hle hR _
    have:=hf _ _ _ _ rfl (ev_le hle hR x)
    simp only [VRel] at this
    obtain ⟨us,e,e2⟩:=this
    simp only [VRels] at e2
    rw [e];congr 1;exact Array.toList_eq_nil_iff.1 e2
   rcases h6 with h6|⟨as,rs,q1,q2,σ2,q3,q4⟩
   rotate_left
   ·obtain ⟨r,h1,h2⟩:=ok_callc (K:=fun r=>r=⟨tV rs σ.heap.length,(aHs rs).map H.toCln,[]⟩) (n:=σ.heap.length) (g:=true) (σ:=σ) ho rfl hfe hx q1 q2 rfl
    subst h2
    obtain ⟨Dm,φ,hR,hD⟩:=hr
    exact h1 σ (St.le.refl σ) (fun i hi _=>hget_ge hi) B w0 Dm φ kp a w (fun i hi _ hd=>by have:=hD i hd;omega) hR rfl K' Q fun u w' φ' hr'=>hk σ2 u w' q4 (Sh_ok q3 ⟨_,φ',hr',app_fresh hD⟩)
   have hop:∃ r,OpOK P o true σ σ.heap.length r∧K (σ.app o.dst σ.heap.length r):=by
    rcases h6 with ⟨as,rs,h1,h2,h3⟩|⟨as,rs,h1,h2,h3⟩
    ·exact ok_call' (K:=fun r=>K (σ.app o.dst σ.heap.length r)) ho rfl hfe hx h1 h2 h3
    ·exact ok_callc (K:=fun r=>K (σ.app o.dst σ.heap.length r)) ho rfl hfe hx h1 h2 h3
   obtain ⟨r,h1,h2⟩:=hop
   obtain ⟨Dm,φ,hR,hD⟩:=hr
   exact h1 σ (St.le.refl σ) (fun i hi _=>hget_ge hi) B w0 Dm φ kp a w (fun i hi _ hd=>by have:=hD i hd;omega) hR rfl K' Q fun u w' φ' hr'=>hk _ u w' h2 ⟨_,φ',hr',app_fresh hD⟩
  ·obtain ⟨ts,hj,h6⟩:=h6
   obtain ⟨Dm,φ,hR,hD⟩:=hr
   have hfv:=hf _ _ _ _ rfl (ev_rel hR x)
   simp only [VRel] at hfv
   obtain ⟨cs,hce,_⟩:=hfv
   have hin:RR B w0 (ts.zip a.tmps.toList++kp) ⟨vs++caps,σ.heap⟩ ⟨(xs.toList.map a.eval++cs.toList).toArray,[]⟩ w:=by
    refine R_inner hj ⟨Dm,φ,hR,hD⟩ fun Dm' φ' r'=>?_
    have h1:=hx (St.le.refl σ) r' rfl
    have h2:=hf _ _ _ _ rfl (ev_rel r' x)
    simp only [VRel] at h2
    obtain ⟨cs',hce',h3⟩:=h2
    rw [hce] at hce'
    cases hce'
    exact VRels_append h1 h3
   have hl:=(VRels_len _ _ hR.tm).trans (jle_len hj).symm
   have hdo:=h6 B w0 (ts.zip a.tmps.toList++kp) _ w (by rw [List.map_append,hkv,List.map_fst_zip (by omega)]) hin
   have hrun:(execOp a.eval o).run P w=(callFunc f (xs.toList.map a.eval++cs.toList).toArray).run P w:=by
    unfold execOp;rw [ho]
    have:(xs.toList.map a.eval++cs.toList).toArray=xs.map a.eval++cs:=by
     apply Array.toList_inj.1;simp
    rw [this]
    simp [resolve,hce,Deferred.ofValue,invoke]
   have hde:=hR.de
   have fin:∀ v w',(∃ x hs',K ⟨setD ts o.dst x,hs'⟩∧RR B w0 (ts.zip a.tmps.toList++kp) ⟨[x],hs'⟩ ⟨#[v],[]⟩ w')→K' (a.put o.dst v) w':=by
    rintro v w' ⟨x',hs',h1,h2⟩
    refine hk _ v w' h1 ?_
    have:=R_outer hl o.dst h2
    rw [show a=Act.mk a.tmps [] from by cases a;simp only at hde;rw [hde]]
    exact this
   unfold Oper.wp
   rw [hrun]
   unfold Does at hdo
   split at hdo
   ·rename_i h1;rw [h1,Oper.upon_enter]
    refine Calls.mono hdo fun e w' he=>?_
    cases e with
    |returned v=>exact fin v w' he
    |panicked c=>exact he.elim
    |outgrown=>exact he.elim
   ·rename_i h1;rw [h1,Oper.upon_value];exact fin _ _ hdo
   ·rename_i h1;rw [h1,Oper.upon_row];exact Rows.mono hdo fin
   ·exact hdo.elim
 ·exact op_in h hr hk
theorem gStep_b {g:Bool} {σ:St} {n:Nat} {o:Oper} {K:Res→Prop} (h:gStep P g σ n o K):(g=true→∃ r,OpOK P o true σ n r∧∃ v,K ⟨v,r.new,r.upd⟩∧(v=r.v∨v=.gd true r.v))∧(g=false→∃ v,K (rv (.gd false v))):=by
 rcases h with ⟨rfl,h⟩|⟨rfl,h⟩|h
 ·obtain ⟨r,h1,h2⟩:=opE_ok h
  exact ⟨fun _=>⟨r,h1,r.v,h2,.inl rfl⟩,fun e=>(by cases e)⟩
 ·exact ⟨fun e=>(by cases e),fun _=>⟨_,h⟩⟩
 ·obtain ⟨r,h1,h2,h3,h4⟩:=opE_ok h
  obtain ⟨v,new,upd⟩:=r
  simp only at h2 h3 h4;subst h2;subst h3
  cases g with
  |true=>exact ⟨fun _=>⟨_,h1,.gd true v,h4,.inr rfl⟩,fun e=>(by cases e)⟩
  |false=>exact ⟨fun e=>(by cases e),fun _=>⟨_,h4⟩⟩
theorem opsE_ok {ops:Array Oper} {B:Nat→Prop} {w0:World} {kp:List (V×Value)} {kv:List V} (hkv:kp.map (·.1)=kv) {Q:Exit→Act→World→Prop} {K:St→Prop} (hQ:∀ σ a w,K σ→RR B w0 kp σ a w→Q .normal a w) :
  ∀ (l:List Oper) (idx:List Nat) (σ:St) (a:Act) (w:World),idx.map (ops[·]?)=l.map some→opsE P kv ops.toList l σ K→RR B w0 kp σ a w→wpOps P ops Q idx a w
 |[],idx,σ,a,w,e,h,hr=>by
  have:idx=[]:=by simpa using e
  subst this
  exact hQ σ a w h hr
 |o::l,[],σ,a,w,e,h,hr=>by simp at e
 |o::l,i::idx,σ,a,w,e,h,hr=>by
  simp only [List.map_cons,List.cons.injEq] at e
  simp only [opsE] at h
  simp only [wpOps,e.1]
  have next:∀ σ' u w',opsE P kv ops.toList l σ' K→RR B w0 kp σ' (a.put o.dst u) w'→wpOps P ops Q idx (a.put o.dst u) w':=fun σ' u w' h' hr'=>opsE_ok hkv hQ l idx σ' _ w' e.2 h' hr'
  unfold seqE at h
  split at h
  ·rename_i hg
   rw [if_pos (by simp [Region.wanted,hg])]
   exact .inl (bare_in hkv h hr next)
  ·rename_i j want hg
   unfold dstOf at h
   split at h
   ·rename_i d hd
    rw [Array.getElem?_toList] at hd
    have key:∀ g,Region.wanted o (yielded ops a.tmps)=g→gStepS P kv g σ o (fun σ'=>opsE P kv ops.toList l σ' K)→
      if Region.wanted o (yielded ops a.tmps) then o.wp P a w (wpOps P ops Q idx) Q∨(o.asks P a w∧LetsOut Q) else wpOps P ops Q idx (a.put o.dst undef) w:=by
     intro g hw hs
     rw [hw]
     unfold gStepS at hs
     rcases hs with hs|hs
     ·obtain ⟨s1,s2⟩:=gStep_b hs
      cases g with
      |true=>
       simp only [if_true]
       obtain ⟨r,h1,v,h2,h3⟩:=s1 rfl
       obtain ⟨Dm,φ,hR,hD⟩:=hr
       refine .inl (h1 σ (St.le.refl σ) (fun i hi _=>hget_ge hi) B w0 Dm φ kp a w (fun i hi _ hd=>by have:=hD i hd;omega) hR rfl _ _ fun u w' φ' hr'=>next _ u w' h2 ⟨_,φ',?_,app_fresh (r:=⟨v,r.new,r.upd⟩) hD⟩)
       rcases h3 with rfl|rfl
       ·exact hr'
       ·exact R_gd (σ:=σ) (dst:=o.dst) hr'
      |false=>
       simp only [Bool.false_eq_true,if_false]
       obtain ⟨v,h2⟩:=s2 rfl
       obtain ⟨Dm,φ,hR,hD⟩:=hr
       exact next _ undef w h2 ⟨_,φ,R_put hR o.dst (rel_gdf v),fun i hi=>by have:=hD i hi;simpa [St.app,rv,hnew,hupd] using this⟩
     ·cases g with
      |true=>simp only [if_true];exact .inl (bare_in hkv (hs.1 rfl) hr next)
      |false=>
       simp only [Bool.false_eq_true,if_false]
       obtain ⟨Dm,φ,hR,hD⟩:=hr
       exact next _ undef w (hs.2 rfl) ⟨_,φ,R_put hR o.dst (rel_gdf _),fun i hi=>by have:=hD i hi;simpa [St.app,rv,hnew,hupd] using this⟩
    obtain ⟨Dm,φ,hR,hD⟩:=hr
    unfold guE at h
    split at h
    ·rename_i b hv
     obtain ⟨u,k1,k2⟩:=ev_yield (St.le.refl σ) hR hv (by simp)
     rw [rel_bool k2] at k1
     exact key _ (by simp [Region.wanted,hg,yielded,hd,k1]) h
    ·rename_i c b hv
     obtain ⟨u,k1,k2⟩:=ev_yield (St.le.refl σ) hR hv (by simp)
     simp only [VRel] at k2
     refine key _ ?_ h
     cases c with
     |true=>
      rw [rel_bool (φ:=φ) (T:=NotTop φ σ.heap) (h:=w.heap) (b:=b) (u:=u) (by simp only [VRel];exact k2.1 rfl)] at k1
      simp [Region.wanted,hg,yielded,hd,k1]
     |false=>
      rw [k2.2 rfl] at k1
      simp [Region.wanted,hg,yielded,hd,k1,undef]
    ·exact h.elim
   ·exact h.elim
/-- One operation, whatever comes behind. -/
theorem seq_in {ops:Array Oper} {B:Nat→Prop} {w0:World} {kp:List (V×Value)} {kv:List V} (hkv:kp.map (·.1)=kv) {Q:Exit→Act→World→Prop} {K:St→Prop} {N:Act→World→Prop} {σ:St} {o:Oper} {a:Act} {w:World} (h:seqE P kv ops.toList σ o K) (hr:RR B w0 kp σ a w)
  (next:∀ σ' u w',K σ'→RR B w0 kp σ' (a.put o.dst u) w'→N (a.put o.dst u) w') :
  if Region.wanted o (yielded ops a.tmps) then o.wp P a w N Q∨(o.asks P a w∧LetsOut Q) else N (a.put o.dst undef) w:=by
 unfold seqE at h
 split at h
 ·rename_i hg
  rw [if_pos (by simp [Region.wanted,hg])]
  exact .inl (bare_in hkv h hr next)
 ·rename_i j want hg
  unfold dstOf at h
  split at h
  ·rename_i d hd
   rw [Array.getElem?_toList] at hd
   have key:∀ g,Region.wanted o (yielded ops a.tmps)=g→gStepS P kv g σ o K→
     if Region.wanted o (yielded ops a.tmps) then o.wp P a w N Q∨(o.asks P a w∧LetsOut Q) else N (a.put o.dst undef) w:=by
    intro g hw hs
    rw [hw]
    unfold gStepS at hs
    rcases hs with hs|hs
    ·obtain ⟨s1,s2⟩:=gStep_b hs
     cases g with
     |true=>
      simp only [if_true]
      obtain ⟨r,h1,v,h2,h3⟩:=s1 rfl
      obtain ⟨Dm,φ,hR,hD⟩:=hr
      refine .inl (h1 σ (St.le.refl σ) (fun i hi _=>hget_ge hi) B w0 Dm φ kp a w (fun i hi _ hd=>by have:=hD i hd;omega) hR rfl _ _ fun u w' φ' hr'=>next _ u w' h2 ⟨_,φ',?_,app_fresh (r:=⟨v,r.new,r.upd⟩) hD⟩)
      rcases h3 with rfl|rfl
      ·exact hr'
      ·exact R_gd (σ:=σ) (dst:=o.dst) hr'
     |false=>
      simp only [Bool.false_eq_true,if_false]
      obtain ⟨v,h2⟩:=s2 rfl
      obtain ⟨Dm,φ,hR,hD⟩:=hr
      exact next _ undef w h2 ⟨_,φ,R_put hR o.dst (rel_gdf v),fun i hi=>by have:=hD i hi;simpa [St.app,rv,hnew,hupd] using this⟩
    ·cases g with
     |true=>simp only [if_true];exact .inl (bare_in hkv (hs.1 rfl) hr next)
     |false=>
      simp only [Bool.false_eq_true,if_false]
      obtain ⟨Dm,φ,hR,hD⟩:=hr
      exact next _ undef w (hs.2 rfl) ⟨_,φ,R_put hR o.dst (rel_gdf _),fun i hi=>by have:=hD i hi;simpa [St.app,rv,hnew,hupd] using this⟩
   obtain ⟨Dm,φ,hR,hD⟩:=hr
   unfold guE at h
   split at h
   ·rename_i b hv
    obtain ⟨u,k1,k2⟩:=ev_yield (St.le.refl σ) hR hv (by simp)
    rw [rel_bool k2] at k1
    exact key _ (by simp [Region.wanted,hg,yielded,hd,k1]) h
   ·rename_i c b hv
    obtain ⟨u,k1,k2⟩:=ev_yield (St.le.refl σ) hR hv (by simp)
    simp only [VRel] at k2
    refine key _ ?_ h
    cases c with
    |true=>
     rw [rel_bool (φ:=φ) (T:=NotTop φ σ.heap) (h:=w.heap) (b:=b) (u:=u) (by simp only [VRel];exact k2.1 rfl)] at k1
     simp [Region.wanted,hg,yielded,hd,k1]
    |false=>
     rw [k2.2 rfl] at k1
     simp [Region.wanted,hg,yielded,hd,k1,undef]
   ·exact h.elim
  ·exact h.elim
variable {P:Program}
abbrev It:=Oper×Nat×Res
/-- What an operation's result leaves at an entry. -/
def tch (n:Nat) (r:Res) (id:Nat):Option H:=
 match (r.upd.reverse.find? (·.1 == id)) with
 |some p=>some p.2
 |none=>if n≤id∧id < n + r.new.length then some (r.new.getD (id - n) .dead) else none
theorem hget_upds:∀ (upd:List (Nat×H)) (hs:List H) (id:Nat),hget (hupd hs upd) id=((upd.reverse.find? (·.1 == id)).map (·.2)).getD (hget hs id)
 |[],hs,id=>rfl
 |(i,x)::r,hs,id=>by
  rw [hupd,hget_upds r (hput hs i x) id,hget_hput]
  simp only [List.reverse_cons,List.find?_append]
  cases h:r.reverse.find? (·.1 == id) with
  |some p=>simp
  |none=>
   by_cases hi:i=id
   ·subst hi;simp
   ·have hb:(i == id)=false:=by simpa using hi
    have hi':¬ id=i:=fun e=>hi e.symm
    simp [hb,hi']
theorem hget_app (σ:St) (dst:Option Tmp) (n:Nat) (r:Res) (id:Nat):hget (σ.app dst n r).heap id=(tch n r id).getD (hget σ.heap id):=by
 simp only [St.app]
 rw [hget_upds,hget_hnew]
 unfold tch
 cases h:r.upd.reverse.find? (·.1 == id) with
 |some p=>simp
 |none=>
  by_cases hc:n≤id∧id < n + r.new.length
  ·simp [hc]
  ·simp [hc]
theorem tmps_app (σ:St) (dst:Option Tmp) (n:Nat) (r:Res) (t:Nat):(σ.app dst n r).tmps[t]?=if dst=some t then (if t < σ.tmps.length then some r.v else none) else σ.tmps[t]?:=by
 cases dst with
 |none=>simp [St.app]
 |some d=>
  simp only [St.app,List.getElem?_set,Option.some.injEq]
  by_cases h:d=t
  ·subst h;simp
  ·simp [h]
theorem len_app (σ:St) (dst:Option Tmp) (n:Nat) (r:Res):(σ.app dst n r).tmps.length=σ.tmps.length:=by
 cases dst<;>simp [St.app]
/-- The chosen ones, in the order of the text. -/
def apS (S:Nat→Bool):Nat→List It→St→St
 |_,[],σ=>σ
 |k,(o,n,r)::l,σ=>apS S (k + 1) l (if S k then σ.app o.dst n r else σ)
theorem apS_len (S:Nat→Bool):∀ (l:List It) (k:Nat) (σ:St),(apS S k l σ).tmps.length=σ.tmps.length
 |[],_,_=>rfl
 |(o,n,r)::l,k,σ=>by
  rw [apS,apS_len S l]
  split
  ·exact len_app σ o.dst n r
  ·rfl
theorem apS_tm (S S':Nat→Bool) (t:Nat):∀ (l:List It) (k:Nat) (σ σ':St),σ.tmps[t]?=σ'.tmps[t]?→σ.tmps.length=σ'.tmps.length→(∀ (j:Nat) (x:It),l[j]?=some x→x.1.dst=some t→S (k + j)=S' (k + j))→(apS S k l σ).tmps[t]?=(apS S' k l σ').tmps[t]?
 |[],_,_,_,h,_,_=>h
 |(o,n,r)::l,k,σ,σ',h,hl,hj=>by
  rw [apS,apS]
  have hl':∀ b b':Bool,(if b=true then σ.app o.dst n r else σ).tmps.length=(if b'=true then σ'.app o.dst n r else σ').tmps.length:=by
   intro b b';cases b<;>cases b'<;>simp [len_app,hl]
  refine apS_tm S S' t l (k + 1) _ _ ?_ (hl' _ _) fun j x hx hd=>by
   have:=hj (j + 1) x (by simpa using hx) hd
   rw [show k + 1 + j=k + (j + 1) from by omega];exact this
  by_cases hd:o.dst=some t
  ·have h0:=hj 0 (o,n,r) rfl hd
   simp only [Nat.add_zero] at h0
   rw [h0]
   split
   ·rw [tmps_app,tmps_app,if_pos hd,if_pos hd,hl]
   ·exact h
  ·have h1:∀ (b:Bool) (τ:St),(if b=true then τ.app o.dst n r else τ).tmps[t]?=τ.tmps[t]?:=by
    intro b τ;cases b
    ·rfl
    ·simp only [if_true];rw [tmps_app,if_neg hd]
   rw [h1,h1,h]
theorem apS_hp (S S':Nat→Bool) (id:Nat):∀ (l:List It) (k:Nat) (σ σ':St),hget σ.heap id=hget σ'.heap id→(∀ (j:Nat) (x:It),l[j]?=some x→tch x.2.1 x.2.2 id≠none→S (k + j)=S' (k + j))→hget (apS S k l σ).heap id=hget (apS S' k l σ').heap id
 |[],_,_,_,h,_=>h
 |(o,n,r)::l,k,σ,σ',h,hj=>by
  rw [apS,apS]
  refine apS_hp S S' id l (k + 1) _ _ ?_ fun j x hx hd=>by
   have:=hj (j + 1) x (by simpa using hx) hd
   rw [show k + 1 + j=k + (j + 1) from by omega];exact this
  by_cases hd:tch n r id=none
  ·have h1:∀ (b:Bool) (τ:St),hget (if b=true then τ.app o.dst n r else τ).heap id=hget τ.heap id:=by
    intro b τ;cases b
    ·rfl
    ·simp only [if_true];rw [hget_app,hd];rfl
   rw [h1,h1,h]
  ·have h0:=hj 0 (o,n,r) rfl hd
   simp only [Nat.add_zero] at h0
   rw [h0]
   split
   ·rw [hget_app,hget_app,h]
   ·exact h
/-- The last that writes it. -/
theorem apS_tm_last (S:Nat→Bool) (t:Nat):∀ (l:List It) (k:Nat) (σ:St) (i:Nat) (x:It),l[i]?=some x→x.1.dst=some t→S (k + i)=true→(∀ (j:Nat) (y:It),i < j→l[j]?=some y→y.1.dst=some t→S (k + j)=false)→(apS S k l σ).tmps[t]?=if t < σ.tmps.length then some x.2.2.v else none
 |[],_,_,i,_,hi,_,_,_=>by simp at hi
 |(o,n,r)::l,k,σ,0,x,hi,hd,hs,hl=>by
  simp at hi;subst hi
  rw [apS]
  simp only [Nat.add_zero] at hs
  rw [hs]
  have:=apS_tm S (fun _=>false) t l (k + 1) (σ.app o.dst n r) (σ.app o.dst n r) rfl rfl fun j y hy hd'=>by
   have:=hl (j + 1) y (by omega) (by simpa using hy) hd'
   rw [show k + 1 + j=k + (j + 1) from by omega];exact this
  simp only [if_true]
  rw [this]
  have hid:∀ (l:List It) (k:Nat) (τ:St),apS (fun _=>false) k l τ=τ:=by
   intro l
   induction l with
   |nil=>intro k τ;rfl
   |cons y l ih=>intro k τ;obtain ⟨o,n,r⟩:=y;rw [apS];simpa using ih (k + 1) τ
  rw [hid,tmps_app,if_pos hd]
 |(o,n,r)::l,k,σ,i + 1,x,hi,hd,hs,hl=>by
  rw [apS,apS_tm_last S t l (k + 1) _ i x (by simpa using hi) hd (by rw [show k + 1 + i=k + (i + 1) from by omega];exact hs) fun j y hij hy hd'=>by
   have:=hl (j + 1) y (by omega) (by simpa using hy) hd'
   rw [show k + 1 + j=k + (j + 1) from by omega];exact this]
  split
  ·rw [len_app]
  ·rfl
theorem apS_hp_last (S:Nat→Bool) (id:Nat):∀ (l:List It) (k:Nat) (σ:St) (i:Nat) (x:It) (y:H),l[i]?=some x→tch x.2.1 x.2.2 id=some y→S (k + i)=true→(∀ (j:Nat) (z:It),i < j→l[j]?=some z→tch z.2.1 z.2.2 id≠none→S (k + j)=false)→hget (apS S k l σ).heap id=y
 |[],_,_,i,_,_,hi,_,_,_=>by simp at hi
 |(o,n,r)::l,k,σ,0,x,y,hi,hd,hs,hl=>by
  simp at hi;subst hi
  rw [apS]
  simp only [Nat.add_zero] at hs
  rw [hs]
  have:=apS_hp S (fun _=>false) id l (k + 1) (σ.app o.dst n r) (σ.app o.dst n r) rfl fun j y hy hd'=>by
   have:=hl (j + 1) y (by omega) (by simpa using hy) hd'
   rw [show k + 1 + j=k + (j + 1) from by omega];exact this
  simp only [if_true]
  rw [this]
  have hid:∀ (l:List It) (k:Nat) (τ:St),apS (fun _=>false) k l τ=τ:=by
   intro l
   induction l with
   |nil=>intro k τ;rfl
   |cons y l ih=>intro k τ;obtain ⟨o,n,r⟩:=y;rw [apS];simpa using ih (k + 1) τ
  rw [hid,hget_app,hd];rfl
 |(o,n,r)::l,k,σ,i + 1,x,y,hi,hd,hs,hl=>by
  rw [apS]
  exact apS_hp_last S id l (k + 1) _ i x y (by simpa using hi) hd (by rw [show k + 1 + i=k + (i + 1) from by omega];exact hs) fun j z hij hz hd'=>by
   have:=hl (j + 1) z (by omega) (by simpa using hz) hd'
   rw [show k + 1 + j=k + (j + 1) from by omega];exact this
/-- The relation sees the entries only. -/
theorem R_ext {B:Nat→Prop} {w0:World} {Dm:Nat→Prop} {φ:Phi} {ts ts':List V} {hs hs':List H} {kp:List (V×Value)} {a:Act} {w:World} (r:R B w0 Dm φ ⟨ts,hs⟩ kp a w) (ht:ts'=ts) (h:∀ i,hget hs' i=hget hs i):R B w0 Dm φ ⟨ts',hs'⟩ kp a w:=by
 subst ht
 have e1:NotTop φ hs'=NotTop φ hs:=by funext b;simp only [NotTop,h]
 have e2:∀ i b,Owns φ hs' i b=Owns φ hs i b:=by intro i b;simp only [Owns,h]
 refine ⟨by simp only [e1];exact r.tm,by simp only [e1];exact r.kp,fun i=>by simp only [e1,h];exact r.hp i,fun i j b h1 h2=>?_,fun i β e hx=>r.o2 i β e (by simp only [h] at hx;exact hx),fun i b h1=>r.o3 i b (by rw [← e2];exact h1),r.dm,r.bel,r.bs,r.de,r.gb⟩
 simp only [e2] at h1 h2
 exact r.o1 i j b h1 h2
inductive Rl where
 |pre
 |un
 |post
 deriving DecidableEq
/-- short names, for the printed tables -/
abbrev Rl.p:Rl:=.post
abbrev Rl.q:Rl:=.pre
abbrev Rl.u:Rl:=.un
def rlAt (rows:List (List Rl)) (i j:Nat):Rl:=(rows.getD i []).getD j .post
def edgeB (ops:List Oper) (i j:Nat):Bool:=match ops[i]? with|some o=>o.after.toList.any fun e=>Region.binds .any e && e.on == j|none=>false
def okRow (ops:List Oper) (rows:List (List Rl)) (m i j:Nat):Bool:=
 (match rlAt rows i j with
  |.pre=>decide (j < i) && (edgeB ops i j || (List.range m).any fun k=>edgeB ops i k && decide (rlAt rows k j=.pre) && decide (k < i))
  |.post=>decide (j=i) || decide (rlAt rows j i=.pre)
  |.un=>decide (j≠i) && decide (rlAt rows j i=.un)) &&
 (decide (j=i) || match ops[i]?,ops[j]? with|some x,some y=>decide (x.dst=none) || decide (x.dst≠y.dst)|_,_=>true)
def okRows (ops:List Oper) (rows:List (List Rl)):Bool:=
 decide (rows.length=ops.length) && (List.range ops.length).all fun i=>((match ops[i]? with|some o=>o.after.toList.all fun e=>!Region.binds .any e || decide (e.on < i)|none=>true)) && (List.range ops.length).all fun j=>okRow ops rows ops.length i j
theorem okRows_at {ops:List Oper} {rows:List (List Rl)} (h:okRows ops rows=true) {i j:Nat} (hi:i < ops.length) (hj:j < ops.length):okRow ops rows ops.length i j=true:=by
 simp only [okRows,Bool.and_eq_true,List.all_eq_true,List.mem_range] at h
 exact (h.2 i hi).2 j hj
theorem okRows_edge {ops:List Oper} {rows:List (List Rl)} (h:okRows ops rows=true) {i:Nat} {o:Oper} (hi:ops[i]?=some o) {e:Edge} (he:e ∈ o.after.toList) (hb:Region.binds .any e=true):e.on < i:=by
 have hlt:i < ops.length:=(List.getElem?_eq_some_iff.1 hi).1
 simp only [okRows,Bool.and_eq_true,List.all_eq_true,List.mem_range] at h
 have:=(h.2 i hlt).1
 rw [hi] at this
 simp only [List.all_eq_true] at this
 have:=this e he
 simpa [hb] using this
theorem rl_pre {ops:List Oper} {rows:List (List Rl)} (h:okRows ops rows=true) {i j:Nat} (hi:i < ops.length) (hj:j < ops.length) (hr:rlAt rows i j=.pre):j < i∧(edgeB ops i j=true∨∃ k,edgeB ops i k=true∧rlAt rows k j=.pre∧k < i):=by
 have:=okRows_at h hi hj
 unfold okRow at this
 rw [hr] at this
 simp only [Bool.and_eq_true,Bool.or_eq_true,decide_eq_true_eq,List.any_eq_true,List.mem_range] at this
 refine ⟨this.1.1,this.1.2.imp id ?_⟩
 rintro ⟨k,_,⟨h1,h2⟩,h3⟩
 exact ⟨k,h1,h2,h3⟩
theorem rl_post {ops:List Oper} {rows:List (List Rl)} (h:okRows ops rows=true) {i j:Nat} (hi:i < ops.length) (hj:j < ops.length) (hr:rlAt rows i j=.post):j=i∨rlAt rows j i=.pre:=by
 have:=okRows_at h hi hj
 unfold okRow at this
 rw [hr] at this
 simp only [Bool.and_eq_true,Bool.or_eq_true,decide_eq_true_eq] at this
 exact this.1
theorem rl_un {ops:List Oper} {rows:List (List Rl)} (h:okRows ops rows=true) {i j:Nat} (hi:i < ops.length) (hj:j < ops.length) (hr:rlAt rows i j=.un):rlAt rows j i=.un:=by
 have:=okRows_at h hi hj
 unfold okRow at this
 rw [hr] at this
 simp only [Bool.and_eq_true,decide_eq_true_eq] at this
 exact this.1.2
theorem rl_dst {ops:List Oper} {rows:List (List Rl)} (h:okRows ops rows=true) {i j:Nat} {x y:Oper} (hx:ops[i]?=some x) (hy:ops[j]?=some y) (hne:j≠i) {d:Tmp} (hd:x.dst=some d):y.dst≠some d:=by
 have hi:i < ops.length:=(List.getElem?_eq_some_iff.1 hx).1
 have hj:j < ops.length:=(List.getElem?_eq_some_iff.1 hy).1
 have:=okRows_at h hi hj
 unfold okRow at this
 simp only [Bool.and_eq_true,Bool.or_eq_true,decide_eq_true_eq,hne,false_or,hx,hy,hd] at this
 rcases this.2 with h1|h1
 ·cases h1
 ·exact fun e=>h1 e.symm
def kilT (ts:List V) (d:Option Tmp):List V:=match d with|some t=>ts.set t .junk|none=>ts
def kilH:List H→List (Nat×H)→List H
 |hs,[]=>hs
 |hs,(i,_)::r=>kilH (hput hs i .dead) r
/-- The state that holds what must lie ahead. -/
def mask:List Rl→List It→List Oper→St→St
 |.pre::row,(o,n,r)::l,rest,σ=>mask row l rest (σ.app o.dst n r)
 |.un::row,(o,_,r)::l,rest,σ=>mask row l rest ⟨kilT σ.tmps o.dst,kilH σ.heap r.upd⟩
 |.post::row,_::l,rest,σ=>mask row l rest σ
 |.un::row,[],o::rest,σ=>mask row [] rest ⟨kilT σ.tmps o.dst,σ.heap⟩
 |.pre::row,[],_::rest,σ=>mask row [] rest σ
 |.post::row,[],_::rest,σ=>mask row [] rest σ
 |[],_,_,σ=>σ
 |_::_,[],[],σ=>σ
theorem hget_kilH:∀ (upd:List (Nat×H)) (hs:List H) (id:Nat),hget (kilH hs upd) id=.dead∨(hget (kilH hs upd) id=hget hs id∧∀ x,(id,x) ∉ upd)
 |[],hs,id=>.inr ⟨rfl,by simp⟩
 |(i,y)::r,hs,id=>by
  rw [kilH]
  rcases hget_kilH r (hput hs i .dead) id with h|⟨h1,h2⟩
  ·exact .inl h
  ·rw [hget_hput] at h1
   by_cases hi:id=i
   ·rw [if_pos hi] at h1;exact .inl h1
   ·rw [if_neg hi] at h1
    exact .inr ⟨h1,fun x hx=>by
     rcases List.mem_cons.1 hx with hx|hx
     ·cases hx;exact hi rfl
     ·exact h2 x hx⟩
theorem tch_none {n:Nat} {r:Res} {id:Nat} (h1:∀ x,(id,x) ∉ r.upd) (h2:¬ (n≤id∧id < n + r.new.length)):tch n r id=none:=by
 unfold tch
 rw [if_neg h2]
 cases h:r.upd.reverse.find? (·.1 == id) with
 |none=>rfl
 |some p=>
  exfalso
  have hm:=List.mem_of_find?_eq_some h
  have hp:=List.find?_some h
  simp only [beq_iff_eq] at hp
  exact h1 p.2 (by rw [← hp];simpa using hm)
/-- The numbers of new entries go up; what is changed was there. -/
def Asc:Nat→List It→Prop
 |_,[]=>True
 |c,(_,n,r)::l=>n=c∧(∀ p ∈ r.upd,p.1 < n + r.new.length)∧Asc (c + r.new.length) l
structure Lq (σm σs:St):Prop where
 len:σm.tmps.length=σs.tmps.length
 tm:∀ (t:Nat) (v:V),σm.tmps[t]?=some v→v=.junk∨σs.tmps[t]?=some v
 hp:∀ i,hget σm.heap i=.dead∨hget σs.heap i=hget σm.heap i
theorem Lq.app {σm σs:St} (h:Lq σm σs) (dst:Option Tmp) (n:Nat) (r:Res):Lq (σm.app dst n r) (σs.app dst n r):=by
 refine ⟨by rw [len_app,len_app,h.len],fun t v e=>?_,fun i=>?_⟩
 ·rw [tmps_app] at e ⊢
  by_cases hd:dst=some t
  ·rw [if_pos hd] at e ⊢;rw [← h.len];exact .inr e
  ·rw [if_neg hd] at e ⊢;exact h.tm t v e
 ·rw [hget_app,hget_app]
  cases tch n r i with
  |none=>exact h.hp i
  |some x=>exact .inr rfl
theorem kilT_at (ts:List V) (d:Option Tmp) (t:Nat) (v:V) (h:(kilT ts d)[t]?=some v):v=.junk∨(ts[t]?=some v∧d≠some t):=by
 cases d with
 |none=>exact .inr ⟨h,by simp⟩
 |some x=>
  simp only [kilT,List.getElem?_set] at h
  by_cases hx:x=t
  ·rw [if_pos hx] at h
   split at h
   ·cases h;exact .inl rfl
   ·cases h
  ·rw [if_neg hx] at h;exact .inr ⟨h,fun e=>hx (Option.some.inj e)⟩
theorem kilT_len (ts:List V) (d:Option Tmp):(kilT ts d).length=ts.length:=by cases d<;>simp [kilT]
theorem mask_nil_heap:∀ (row:List Rl) (rest:List Oper) (σ:St),(mask row [] rest σ).heap=σ.heap
 |[],[],_=>rfl
 |[],_::_,_=>rfl
 |.pre::_,[],_=>rfl
 |.un::_,[],_=>rfl
 |.post::_,[],_=>rfl
 |.pre::row,_::rest,σ=>mask_nil_heap row rest σ
 |.un::row,o::rest,σ=>mask_nil_heap row rest ⟨kilT σ.tmps o.dst,σ.heap⟩
 |.post::row,_::rest,σ=>mask_nil_heap row rest σ
theorem mask_le (S:Nat→Bool):∀ (row:List Rl) (l:List It) (rest:List Oper) (tail:List It) (k c:Nat) (σm σs:St),tail.map (·.1)=rest→row.length=l.length + rest.length→Asc c (l++tail)→Lq σm σs→(∀ id,c≤id→hget σm.heap id=.dead)→
  (∀ j,row[j]?=some .pre→j < l.length∧S (k + j)=true)→(∀ j,row[j]?=some .post→S (k + j)=false)→(∀ (j:Nat) (x:It),row[j]?=some .un→l.length≤j→tail[j - l.length]?=some x→S (k + j)=true→∀ p ∈ x.2.2.upd,hget (mask row l rest σm).heap p.1=.dead)→
  Lq (mask row l rest σm) (apS S k (l++tail) σs)
 |[],l,rest,tail,k,c,σm,σs,ht,hl,_,h,_,_,_,_=>by
  have h1:l=[]:=List.eq_nil_of_length_eq_zero (by simp at hl;omega)
  have h2:rest=[]:=List.eq_nil_of_length_eq_zero (by simp at hl;omega)
  subst h1;subst h2
  have h3:tail=[]:=by simpa using ht
  subst h3
  simpa [mask,apS] using h
 |x::row,(o,n,r)::l,rest,tail,k,c,σm,σs,ht,hl,ha,h,hd,hp,hq,hu=>by
  simp only [List.cons_append,Asc] at ha
  obtain ⟨rfl,ha1,ha2⟩:=ha
  rw [List.cons_append,apS]
  have hp':∀ j,row[j]?=some .pre→j < l.length∧S (k + 1 + j)=true:=fun j hj=>by
   have:=hp (j + 1) (by simpa using hj)
   rw [show k + 1 + j=k + (j + 1) from by omega];exact ⟨by simpa using this.1,this.2⟩
  have hq':∀ j,row[j]?=some .post→S (k + 1 + j)=false:=fun j hj=>by
   have:=hq (j + 1) (by simpa using hj)
   rw [show k + 1 + j=k + (j + 1) from by omega];exact this
  have hu':∀ (j:Nat) (x':It),row[j]?=some .un→l.length≤j→tail[j - l.length]?=some x'→S (k + 1 + j)=true→∀ p ∈ x'.2.2.upd,hget (mask (x::row) ((o,n,r)::l) rest σm).heap p.1=.dead:=fun j x h1 h2 h3 h4=>by
   refine hu (j + 1) x (by simpa using h1) (by simp;omega) ?_ (by rw [show k + (j + 1)=k + 1 + j from by omega];exact h4)
   simpa using h3
  have hdead:∀ id,n + r.new.length≤id→∀ y,(id,y) ∉ r.upd:=fun id hid y hy=>by have:=ha1 _ hy;simp only at this;omega
  cases x with
  |pre=>
   have h0:=(hp 0 rfl).2
   simp only [Nat.add_zero] at h0
   rw [h0]
   simp only [if_true,mask]
   refine mask_le S row l rest tail (k + 1) _ _ _ ht (by simpa [Nat.add_right_comm] using hl) ha2 (h.app o.dst n r) (fun id hid=>?_) hp' hq' hu'
   rw [hget_app,tch_none (hdead id hid) (by omega)]
   exact hd id (by omega)
  |un=>
   simp only [mask]
   refine mask_le S row l rest tail (k + 1) _ _ _ ht (by simpa [Nat.add_right_comm] using hl) ha2 ?_ (fun id hid=>?_) hp' hq' hu'
   ·refine ⟨?_,fun t v e=>?_,fun i=>?_⟩
    ·simp only [kilT_len];rw [h.len];split
     ·rw [len_app]
     ·rfl
    ·rcases kilT_at _ _ _ _ e with h1|⟨h1,h2⟩
     ·exact .inl h1
     ·split
      ·rw [tmps_app,if_neg h2];exact h.tm t v h1
      ·exact h.tm t v h1
    ·rcases hget_kilH r.upd σm.heap i with h1|⟨h1,h2⟩
     ·exact .inl h1
     ·rw [h1]
      split
      ·by_cases hr:n≤i∧i < n + r.new.length
       ·exact .inl (hd i hr.1)
       ·rw [hget_app,tch_none h2 hr];exact h.hp i
      ·exact h.hp i
   ·rcases hget_kilH r.upd σm.heap id with h1|⟨h1,h2⟩
    ·exact h1
    ·rw [h1];exact hd id (by omega)
  |post=>
   have h0:=hq 0 rfl
   simp only [Nat.add_zero] at h0
   rw [h0]
   simp only [Bool.false_eq_true,if_false,mask]
   exact mask_le S row l rest tail (k + 1) _ _ _ ht (by simpa [Nat.add_right_comm] using hl) ha2 h (fun id hid=>hd id (by omega)) hp' hq' hu'
 |x::row,[],[],tail,k,c,σm,σs,ht,hl,_,_,_,_,_,_=>by simp at hl
 |x::row,[],o::rest,tail,k,c,σm,σs,ht,hl,ha,h,hd,hp,hq,hu=>by
  cases tail with
  |nil=>simp at ht
  |cons y tail=>
   obtain ⟨o',n,r⟩:=y
   simp only [List.map_cons,List.cons.injEq] at ht
   obtain ⟨rfl,ht⟩:=ht
   simp only [List.nil_append,Asc] at ha
   obtain ⟨rfl,ha1,ha2⟩:=ha
   simp only [List.nil_append,apS]
   have hp':∀ j,row[j]?=some .pre→j < ([]:List It).length∧S (k + 1 + j)=true:=fun j hj=>by
    have:=(hp (j + 1) (by simpa using hj)).1
    simp at this
   have hq':∀ j,row[j]?=some .post→S (k + 1 + j)=false:=fun j hj=>by
    have:=hq (j + 1) (by simpa using hj)
    rw [show k + 1 + j=k + (j + 1) from by omega];exact this
   have hu':∀ (τ:St),τ.heap=σm.heap→∀ (j:Nat) (x':It),row[j]?=some .un→([]:List It).length≤j→tail[j - ([]:List It).length]?=some x'→S (k + 1 + j)=true→∀ p ∈ x'.2.2.upd,hget (mask row [] rest τ).heap p.1=.dead:=fun τ hτ j x' h1 h2 h3 h4 p hp=>by
    have:=hu (j + 1) x' (by simpa using h1) (by simp) (by simpa using h3) (by rw [show k + (j + 1)=k + 1 + j from by omega];exact h4) p hp
    rw [mask_nil_heap] at this ⊢
    rw [hτ];exact this
   have hl':row.length=([]:List It).length + rest.length:=by simp at hl ⊢;omega
   have hd':∀ id,n + r.new.length≤id→hget σm.heap id=.dead:=fun id hid=>hd id (by omega)
   cases x with
   |pre=>have:=(hp 0 rfl).1;simp at this
   |un=>
    simp only [mask]
    have:=mask_le S row [] rest tail (k + 1) _ ⟨kilT σm.tmps o'.dst,σm.heap⟩ (if S k=true then σs.app o'.dst n r else σs) ht hl' (by simpa using ha2) ?_ hd' hp' hq' (hu' _ rfl)
    ·simpa using this
    ·refine ⟨?_,fun t v e=>?_,fun i=>?_⟩
     ·simp only [kilT_len];rw [h.len];split
      ·rw [len_app]
      ·rfl
     ·rcases kilT_at _ _ _ _ e with h1|⟨h1,h2⟩
      ·exact .inl h1
      ·split
       ·rw [tmps_app,if_neg h2];exact h.tm t v h1
       ·exact h.tm t v h1
     ·split
      ·rename_i hs
       have hue:=hu 0 (o',n,r) rfl (by simp) (by simp) hs
       by_cases hr:n≤i∧i < n + r.new.length
       ·exact .inl (hd i hr.1)
       ·by_cases hx:∃ z,(i,z) ∈ r.upd
        ·obtain ⟨z,hz⟩:=hx
         have:=hue (i,z) hz
         rw [mask_nil_heap] at this
         exact .inl this
        ·rw [hget_app,tch_none (fun z hz=>hx ⟨z,hz⟩) hr];exact h.hp i
      ·exact h.hp i
   |post=>
    have h0:=hq 0 rfl
    simp only [Nat.add_zero] at h0
    rw [h0]
    simp only [Bool.false_eq_true,if_false,mask]
    have:=mask_le S row [] rest tail (k + 1) _ σm σs ht hl' (by simpa using ha2) h hd' hp' hq' (hu' _ rfl)
    simpa using this
def anyE (P:Program) (ops:List Oper) (σ0:St):List (List Rl)→List Oper→List It→Nat→(List It→Prop)→Prop
 |row::rows,o::rest,l,n,K=>stepE P ops (mask row l (o::rest) σ0) n o fun r=>anyE P ops σ0 rows rest (l++[(o,n,r)]) (n + r.new.length) K
 |_,[],l,_,K=>K l
 |[],_::_,_,_,_=>False
def Num:Nat→List It→Prop
 |_,[]=>True
 |c,(_,n,r)::l=>n=c∧Num (c + r.new.length) l
theorem anyE_ok {ops:Array Oper} {σ0:St}:∀ (rest:List Oper) (rows:List (List Rl)) (l:List It) (n:Nat) (K:List It→Prop),anyE P ops.toList σ0 rows rest l n K→
  ∃ tail:List It,tail.map (·.1)=rest∧K (l++tail)∧Num n tail∧∀ (j:Nat) (x:It),tail[j]?=some x→∃ row,rows[j]?=some row∧StepOK P ops x.1 (mask row (l++tail.take j) (rest.drop j) σ0) x.2.1 x.2.2
 |[],rows,l,n,K,h=>by
  have:K l:=by cases rows<;>exact h
  exact ⟨[],rfl,by simpa using this,trivial,by simp⟩
 |o::rest,[],l,n,K,h=>h.elim
 |o::rest,row::rows,l,n,K,h=>by
  simp only [anyE] at h
  obtain ⟨r,h1,h2⟩:=stepE_ok h
  obtain ⟨tail,t1,t2,t3,t4⟩:=anyE_ok rest rows _ _ K h2
  refine ⟨(o,n,r)::tail,by simp [t1],by simpa using t2,⟨rfl,t3⟩,fun j x hj=>?_⟩
  cases j with
  |zero=>simp at hj;subst hj;exact ⟨row,rfl,by simpa using h1⟩
  |succ j=>
   obtain ⟨row',k1,k2⟩:=t4 j x (by simpa using hj)
   exact ⟨row',by simpa using k1,by simpa using k2⟩
def allPre:List Rl→Bool
 |[]=>true
 |.pre::r=>allPre r
 |_::_=>false
def ltE (b:Nat):List (Nat×H)→Prop
 |[]=>True
 |(i,_)::r=>i < b∧ltE b r
def updE:List (List Rl)→Nat→List It→Prop
 |row::rows,i,(_,n,r)::l=>(match r.upd with|[]=>True|_::_=>allPre (row.take i)=true)∧ltE (n + r.new.length) r.upd∧updE rows (i + 1) l
 |_,_,[]=>True
 |[],_,_::_=>False
def outB (x:It) (id:Nat):Bool:=!(decide (x.2.1≤id) && decide (id < x.2.1 + x.2.2.new.length)) && !(x.2.2.upd.any fun q=>q.1 == id)
def deadB:H→Bool
 |.dead=>true
 |_=>false
/-- What one operation consumes is not seen by those that may come before or behind it. -/
def okR (σ0:St) (ids:List Nat):List Rl→List (List Rl)→List It→List It→List Oper→Bool
 |r::row,rk::rows,pre,x::l,o::ops=>(match r with|.pre=>true|_=>ids.all fun id=>deadB (hget (mask rk pre (o::ops) σ0).heap id) && outB x id) && okR σ0 ids row rows (pre++[x]) l ops
 |_,_,_,[],_=>true
 |_,_,_,_::_,_=>false
def okI (σ0:St) (row:List Rl) (rows:List (List Rl)) (pre:List It) (ops:List Oper):List (Nat×H)→Bool
 |[]=>true
 |p::u=>okR σ0 (p.1::u.map (·.1)) row rows [] pre ops
def upd2 (σ0:St) (rowsAll:List (List Rl)) (opsAll:List Oper):List (List Rl)→List It→List It→Prop
 |row::rows,pre,(o,n,r)::l=>okI σ0 row rowsAll pre opsAll r.upd=true∧ltE (n + r.new.length) r.upd∧upd2 σ0 rowsAll opsAll rows (pre++[(o,n,r)]) l
 |_,_,[]=>True
 |[],_,_::_=>False
theorem deadB_ok {x:H} (h:deadB x=true):x=.dead:=by cases x<;>first|rfl|cases h
theorem okR_at {σ0:St} {ids:List Nat}:∀ {l:List It} {row:List Rl} {rows:List (List Rl)} {pre:List It} {ops:List Oper},okR σ0 ids row rows pre l ops=true→∀ (k:Nat) (y:It) (ρ:Rl),l[k]?=some y→row[k]?=some ρ→ρ≠.pre→∀ id ∈ ids,
  ∃ rk,rows[k]?=some rk∧hget (mask rk (pre++l.take k) (ops.drop k) σ0).heap id=.dead∧outB y id=true
 |[],_,_,_,_,_,k,y,ρ,hy,_,_,_,_=>by simp at hy
 |x::l,[],_,_,_,h,_,_,_,_,_,_,_,_=>by simp [okR] at h
 |x::l,_::_,[],_,_,h,_,_,_,_,_,_,_,_=>by simp [okR] at h
 |x::l,_::_,_::_,_,[],h,_,_,_,_,_,_,_,_=>by simp [okR] at h
 |x::l,r::row,rk::rows,pre,o::ops,h,k,y,ρ,hy,hr,hne,id,hid=>by
  simp only [okR,Bool.and_eq_true] at h
  cases k with
  |zero=>
   simp at hy hr;subst hy;subst hr
   have h1:=h.1
   refine ⟨rk,rfl,?_⟩
   cases r with
   |pre=>exact absurd rfl hne
   |un=>
    simp only [List.all_eq_true,Bool.and_eq_true] at h1
    obtain ⟨h3,h4⟩:=h1 id hid
    exact ⟨by simpa using deadB_ok h3,h4⟩
   |post=>
    simp only [List.all_eq_true,Bool.and_eq_true] at h1
    obtain ⟨h3,h4⟩:=h1 id hid
    exact ⟨by simpa using deadB_ok h3,h4⟩
  |succ k=>
   obtain ⟨rk',k1,k2,k3⟩:=okR_at h.2 k y ρ (by simpa using hy) (by simpa using hr) hne id hid
   exact ⟨rk',by simpa using k1,by simpa using k2,k3⟩
theorem allPre_at:∀ {row:List Rl},allPre row=true→∀ (j:Nat) (x:Rl),row[j]?=some x→x=.pre
 |[],_,j,x,h=>by simp at h
 |y::row,h,j,x,hx=>by
  cases y<;>simp only [allPre] at h
  ·cases j with
   |zero=>simp at hx;exact hx.symm
   |succ j=>exact allPre_at h j x (by simpa using hx)
  ·cases h
  ·cases h
theorem ltE_mem {b:Nat}:∀ {upd:List (Nat×H)},ltE b upd→∀ p ∈ upd,p.1 < b
 |[],_,p,hp=>by cases hp
 |(i,x)::r,h,p,hp=>by
  rcases List.mem_cons.1 hp with rfl|hp
  ·exact h.1
  ·exact ltE_mem h.2 p hp
theorem upd2_at {σ0:St} {rowsAll:List (List Rl)} {opsAll:List Oper}:∀ {l:List It} {rows:List (List Rl)} {pre:List It},upd2 σ0 rowsAll opsAll rows pre l→∀ (j:Nat) (x:It),l[j]?=some x→∃ row,rows[j]?=some row∧okI σ0 row rowsAll (pre++l.take j) opsAll x.2.2.upd=true∧∀ p ∈ x.2.2.upd,p.1 < x.2.1 + x.2.2.new.length
 |[],_,_,_,j,x,h=>by simp at h
 |(o,n,r)::l,[],_,h,j,x,hx=>h.elim
 |(o,n,r)::l,row::rows,pre,h,j,x,hx=>by
  obtain ⟨h1,h2,h3⟩:=h
  cases j with
  |zero=>simp at hx;subst hx;exact ⟨row,rfl,by simpa using h1,ltE_mem h2⟩
  |succ j=>
   obtain ⟨row',k1,k2,k3⟩:=upd2_at h3 j x (by simpa using hx)
   exact ⟨row',by simpa using k1,by simpa using k2,k3⟩
theorem updE_at:∀ {l:List It} {rows:List (List Rl)} {i:Nat},updE rows i l→∀ (j:Nat) (x:It),l[j]?=some x→∃ row,rows[j]?=some row∧(x.2.2.upd=[]∨∀ k,k < i + j→k < row.length→row[k]?=some .pre)∧∀ p ∈ x.2.2.upd,p.1 < x.2.1 + x.2.2.new.length
 |[],_,_,_,j,x,h=>by simp at h
 |(o,n,r)::l,[],i,h,j,x,hx=>h.elim
 |(o,n,r)::l,row::rows,i,h,j,x,hx=>by
  obtain ⟨h1,h2,h3⟩:=h
  cases j with
  |zero=>
   simp at hx;subst hx
   refine ⟨row,rfl,?_,ltE_mem h2⟩
   cases hu:r.upd with
   |nil=>exact .inl rfl
   |cons p ps=>
    rw [hu] at h1
    right
    intro k hk hkl
    have hkt:k < (row.take i).length:=by simp;omega
    have:=allPre_at h1 k _ (List.getElem?_eq_getElem hkt)
    rw [List.getElem?_eq_getElem hkl]
    rw [List.getElem_take] at this
    rw [this]
  |succ j=>
   obtain ⟨row',k1,k2,k3⟩:=updE_at h3 j x (by simpa using hx)
   exact ⟨row',by simpa using k1,k2.imp id fun h k hk=>h k (by omega),k3⟩
theorem asc_of {c:Nat}:∀ {l:List It},Num c l→(∀ (j:Nat) (x:It),l[j]?=some x→∀ p ∈ x.2.2.upd,p.1 < x.2.1 + x.2.2.new.length)→Asc c l
 |[],_,_=>trivial
 |(o,n,r)::l,h,hu=>⟨h.1,hu 0 (o,n,r) rfl,asc_of h.2 fun j x hx=>hu (j + 1) x (by simpa using hx)⟩
theorem asc_at {c:Nat}:∀ {l:List It},Asc c l→∀ (j:Nat) (x:It),l[j]?=some x→c≤x.2.1∧(∀ p ∈ x.2.2.upd,p.1 < x.2.1 + x.2.2.new.length)∧∀ (k:Nat) (y:It),j < k→l[k]?=some y→x.2.1 + x.2.2.new.length≤y.2.1
 |[],_,j,x,h=>by simp at h
 |(o,n,r)::l,h,j,x,hx=>by
  obtain ⟨rfl,h1,h2⟩:=h
  cases j with
  |zero=>
   simp at hx;subst hx
   refine ⟨Nat.le_refl _,h1,fun k y hk hy=>?_⟩
   cases k with
   |zero=>omega
   |succ k=>exact (asc_at h2 k y (by simpa using hy)).1
  |succ j=>
   obtain ⟨k1,k2,k3⟩:=asc_at h2 j x (by simpa using hx)
   refine ⟨by omega,k2,fun k y hk hy=>?_⟩
   cases k with
   |zero=>omega
   |succ k=>exact k3 k y (by omega) (by simpa using hy)
theorem countP_lt {p q:Nat→Bool}:∀ (l:List Nat) (x:Nat),x ∈ l→(∀ y,p y=true→q y=true)→q x=true→p x=false→l.countP p < l.countP q
 |[],x,h,_,_,_=>by cases h
 |y::l,x,h,hpq,hq,hp=>by
  have hle:l.countP p≤l.countP q:=List.countP_mono_left fun z _=>hpq z
  rcases List.mem_cons.1 h with rfl|h
  ·rw [List.countP_cons_of_neg (by simp [hp]),List.countP_cons_of_pos hq];omega
  ·have:=countP_lt l x h hpq hq hp
   by_cases hy:p y=true
   ·rw [List.countP_cons_of_pos hy,List.countP_cons_of_pos (hpq y hy)];omega
   ·rw [List.countP_cons_of_neg hy]
    by_cases hqy:q y=true
    ·rw [List.countP_cons_of_pos hqy];omega
    ·rw [List.countP_cons_of_neg hqy];exact this
/-- What is known of a region whose operations were computed. -/
structure Good (P:Program) (ops:Array Oper) (rows:List (List Rl)) (its:List It) (σ0:St):Prop where
 rw_:okRows ops.toList rows=true
 fst:its.map (·.1)=ops.toList
 asc:Asc σ0.heap.length its
 upd:∀ (i:Nat) (x:It),its[i]?=some x→∀ p ∈ x.2.2.upd,∀ (k:Nat) (y:It),k < i→its[k]?=some y→rlAt rows i k≠.pre→∃ rk,rows[k]?=some rk∧hget (mask rk (its.take k) (ops.toList.drop k) σ0).heap p.1=.dead∧outB y p.1=true
 rl:∀ (i:Nat) (row:List Rl),rows[i]?=some row→row.length=ops.size
 step:∀ (i:Nat) (x:It),its[i]?=some x→∃ row,rows[i]?=some row∧StepOK P ops x.1 (mask row (its.take i) (ops.toList.drop i) σ0) x.2.1 x.2.2
def Closed (ops:Array Oper) (S:Nat→Bool):Prop:=∀ i o,ops[i]?=some o→S i=true→∀ e ∈ o.after,Region.binds .any e=true→S e.on=true
theorem pre_in {ops:Array Oper} {rows:List (List Rl)} (h:okRows ops.toList rows=true) {S:Nat→Bool} (hc:Closed ops S):∀ (i:Nat),(∀ e o,ops[i]?=some o→e ∈ o.after→Region.binds .any e=true→S e.on=true)→∀ j,i < ops.size→j < ops.size→rlAt rows i j=.pre→S j=true:=by
 intro i
 induction i using Nat.strongRecOn with
 |_ i ih=>
  intro he j hi hj hr
  have hed:∀ k,edgeB ops.toList i k=true→S k=true:=by
   intro k hk
   unfold edgeB at hk
   rw [Array.getElem?_toList,Array.getElem?_eq_getElem hi] at hk
   simp only [List.any_eq_true,Bool.and_eq_true,beq_iff_eq] at hk
   obtain ⟨e,h1,h2,h3⟩:=hk
   rw [← h3]
   exact he e _ (Array.getElem?_eq_getElem hi) (by simpa using h1) h2
  obtain ⟨h1,h2|⟨k,h2,h3,h4⟩⟩:=rl_pre h (by simpa using hi) (by simpa using hj) hr
  ·exact hed j h2
  ·have hk:=hed k h2
   exact ih k h4 (fun e o ho he' hb=>hc k o ho hk e he' hb) j (by omega) hj h3
section
variable {ops:Array Oper} {rows:List (List Rl)} {its:List It} {σ0:St} {B:Nat→Prop} {w0:World} {kp:List (V×Value)} {Q:Exit→Act→World→Prop}
theorem any_ok (G:Good P ops rows its σ0) (hQ:∀ a w,(∃ Dm φ,R B w0 Dm φ (apS (fun _=>true) 0 its σ0) kp a w∧∀ id,Dm id→id < σ0.heap.length∨∃ (j:Nat) (x:It),its[j]?=some x∧x.2.1≤id∧id < x.2.1 + x.2.2.new.length)→Q .normal a w) :
  ∀ (fuel:Nat) (listed:Array Bool) (a:Act) (w:World),listed.size=ops.size→Closed ops (fun i=>listed.getD i false)→(List.range ops.size).countP (fun i=>!(listed.getD i false))≤fuel→
   (∃ Dm φ,R B w0 Dm φ (apS (fun i=>listed.getD i false) 0 its σ0) kp a w∧∀ id,Dm id→id < σ0.heap.length∨∃ (j:Nat) (x:It),its[j]?=some x∧listed.getD j false=true∧x.2.1≤id∧id < x.2.1 + x.2.2.new.length)→
   wpAny P .any ops Q fuel listed a w:=by
 have hlen:its.length=ops.size:=by
  have:=congrArg List.length G.fst
  simpa using this
 have hfst:∀ (i:Nat) (x:It),its[i]?=some x→ops[i]?=some x.1:=by
  intro i x hx
  have:=congrArg (·[i]?) G.fst
  simp only [List.getElem?_map,hx,Option.map_some,Array.getElem?_toList] at this
  exact this.symm
 have hall:∀ (listed:Array Bool),listed.size=ops.size→Region.ready .any ops listed=[]→∀ i,i < ops.size→listed.getD i false=true:=by
  intro listed hs hr i
  induction i using Nat.strongRecOn with
  |_ i ih=>
   intro hi
   by_cases h:listed.getD i false=true
   ·exact h
   ·exfalso
    have:i ∈ Region.ready .any ops listed:=by
     rw [mem_ready]
     refine ⟨?_,ops[i],Array.getElem?_eq_getElem hi,fun e he hb=>?_⟩
     ·have:i < listed.size:=by omega
      simp only [Array.getD_eq_getD_getElem?,Array.getElem?_eq_getElem this,Option.getD_some] at h ⊢
      simpa using h
     ·have:=okRows_edge G.rw_ (i:=i) (o:=ops[i]) (by simp [hi]) (e:=e) (by simpa using he) hb
      exact ih e.on this (by omega)
    rw [hr] at this;cases this
 have hdone:∀ (listed:Array Bool) (a:Act) (w:World),listed.size=ops.size→Region.ready .any ops listed=[]→(∃ Dm φ,R B w0 Dm φ (apS (fun i=>listed.getD i false) 0 its σ0) kp a w∧∀ id,Dm id→id < σ0.heap.length∨∃ (j:Nat) (x:It),its[j]?=some x∧listed.getD j false=true∧x.2.1≤id∧id < x.2.1 + x.2.2.new.length)→Q .normal a w:=by
  rintro listed a w hs hr ⟨Dm,φ,hR,hD⟩
  refine hQ a w ⟨Dm,φ,R_ext hR ?_ ?_,fun id hid=>(hD id hid).imp (fun h=>h) fun ⟨j,x,h1,_,h2⟩=>⟨j,x,h1,h2⟩⟩
  ·apply List.ext_getElem?
   intro t
   refine apS_tm _ _ t its 0 σ0 σ0 rfl rfl fun j x hx _=>?_
   have hj:j < its.length:=(List.getElem?_eq_some_iff.1 hx).1
   simp only [Nat.zero_add]
   exact (hall listed hs hr j (by omega)).symm
  ·intro id
   refine apS_hp _ _ id its 0 σ0 σ0 rfl fun j x hx _=>?_
   have hj:j < its.length:=(List.getElem?_eq_some_iff.1 hx).1
   simp only [Nat.zero_add]
   exact (hall listed hs hr j (by omega)).symm
 intro fuel
 induction fuel with
 |zero=>
  intro listed a w hs hc hcnt hR
  have hr:Region.ready .any ops listed=[]:=by
   apply List.eq_nil_iff_forall_not_mem.2
   intro i hi
   obtain ⟨h1,o,ho,_⟩:=mem_ready.1 hi
   have hlt:i < ops.size:=(Array.getElem?_eq_some_iff.1 ho).1
   have h2:(List.range ops.size).countP (fun i=>!(listed.getD i false))=0:=by omega
   have:=List.countP_eq_zero.1 h2 i (List.mem_range.2 hlt)
   have hl:i < listed.size:=by omega
   simp only [Array.getD_eq_getD_getElem?,Array.getElem?_eq_getElem hl,Option.getD_some] at this h1
   rw [h1] at this;simp at this
  exact ⟨hr,hdone listed a w hs hr hR⟩
 |succ fuel ih=>
  intro listed a w hs hc hcnt hR
  refine ⟨fun hr=>hdone listed a w hs hr hR,fun i hi=>?_⟩
  obtain ⟨h1,o,ho,hedge⟩:=mem_ready.1 hi
  have hlt:i < ops.size:=(Array.getElem?_eq_some_iff.1 ho).1
  have hl:i < listed.size:=by omega
  have hif:listed.getD i false=false:=by
   simp only [Array.getD_eq_getD_getElem?,Array.getElem?_eq_getElem hl,Option.getD_some] at h1 ⊢
   exact h1
  have hil:i < its.length:=by omega
  have hx:its[i]?=some its[i]:=List.getElem?_eq_getElem hil
  generalize its[i]=x at hx
  have hox:x.1=o:=by have:=hfst i x hx;rw [ho] at this;exact (Option.some.inj this).symm
  obtain ⟨row,hrow,hstep⟩:=G.step i x hx
  have hrl:∀ j y,row[j]?=some y→rlAt rows i j=y∧j < ops.size:=by
   intro j y hy
   refine ⟨by unfold rlAt;simp [hrow,hy],?_⟩
   have:=(List.getElem?_eq_some_iff.1 hy).1
   rw [G.rl i row hrow] at this;exact this
  have hpre:∀ j,row[j]?=some .pre→j < i∧listed.getD j false=true:=by
   intro j hj
   obtain ⟨h2,h3⟩:=hrl j _ hj
   exact ⟨(rl_pre G.rw_ (by simpa using hlt) (by simpa using h3) h2).1,pre_in G.rw_ hc i (fun e o' ho' he hb=>by rw [ho] at ho';cases ho';exact hedge e he hb) j hlt h3 h2⟩
  have hpost:∀ j,row[j]?=some .post→listed.getD j false=false:=by
   intro j hj
   obtain ⟨h2,h3⟩:=hrl j _ hj
   rcases rl_post G.rw_ (by simpa using hlt) (by simpa using h3) h2 with h4|h4
   ·rw [h4];exact hif
   ·cases hs':listed.getD j false with
    |false=>rfl
    |true=>
     have:=pre_in G.rw_ hc j (fun e o' ho' he hb=>hc j o' ho' hs' e he hb) i h3 hlt h4
     rw [hif] at this;cases this
  have hun:∀ (j:Nat) (y:It),row[j]?=some .un→i < j→its[j]?=some y→∀ p ∈ y.2.2.upd,hget (mask row (its.take i) (ops.toList.drop i) σ0).heap p.1=.dead∧outB x p.1=true:=by
   intro j y hj hij hy p hp
   obtain ⟨h2,h3⟩:=hrl j _ hj
   obtain ⟨rk,g1,g2,g3⟩:=G.upd j y hy p hp i x hij hx (by
    rw [rl_un G.rw_ (by simpa using hlt) (by simpa using h3) h2];intro h;cases h)
   rw [hrow] at g1;cases g1
   exact ⟨g2,g3⟩
  have hlater:∀ (j:Nat) (y:It),i < j→its[j]?=some y→listed.getD j false=true→∀ p ∈ y.2.2.upd,outB x p.1=true:=by
   intro j y hij hy hs'
   have hj:j < ops.size:=by have:=(List.getElem?_eq_some_iff.1 hy).1;omega
   have hjr:j < row.length:=by rw [G.rl i row hrow];exact hj
   have h2:row[j]?=some row[j]:=List.getElem?_eq_getElem hjr
   cases hc':row[j] with
   |pre=>rw [hc'] at h2;have:=(hpre j h2).1;omega
   |post=>rw [hc'] at h2;have:=hpost j h2;rw [this] at hs';cases hs'
   |un=>rw [hc'] at h2;exact fun p hp=>(hun j y h2 hij hy p hp).2
  have hle:Lq (mask row (its.take i) (ops.toList.drop i) σ0) (apS (fun i=>listed.getD i false) 0 its σ0):=by
   have htl:(its.take i).length=i:=by simp;omega
   have:=mask_le (fun i=>listed.getD i false) row (its.take i) (ops.toList.drop i) (its.drop i) 0 σ0.heap.length σ0 σ0 (by rw [List.map_drop,G.fst]) (by rw [G.rl i row hrow];simp;omega) (by rw [List.take_append_drop];exact G.asc)
    ⟨rfl,fun t v e=>.inr e,fun i=>.inr rfl⟩ (fun id hid=>by unfold hget;rw [List.getD_eq_getElem?_getD,List.getElem?_eq_none hid];rfl)
    (fun j hj=>by rw [htl,Nat.zero_add];exact hpre j hj) (fun j hj=>by rw [Nat.zero_add];exact hpost j hj)
    (fun j y hj hij hy hs'=>by
     rw [htl] at hij hy
     rw [Nat.zero_add] at hs'
     rw [List.getElem?_drop,show i + (j - i)=j from by omega] at hy
     rcases Nat.lt_or_ge i j with h|h
     ·exact fun p hp=>(hun j y hj h hy p hp).1
     ·have:j=i:=by omega
      subst this
      rw [hif] at hs';cases hs')
   rw [List.take_append_drop] at this
   exact this
  obtain ⟨Dm,φ,hR',hD⟩:=hR
  have hasc:=asc_at G.asc i x hx
  have hdisj:∀ (j:Nat) (y:It) (id:Nat),j≠i→its[j]?=some y→listed.getD j false=true→x.2.1≤id→id < x.2.1 + x.2.2.new.length→tch y.2.1 y.2.2 id=none:=by
   intro j y id hji hy hs' h2 h3
   have hay:=asc_at G.asc j y hy
   rcases Nat.lt_or_gt_of_ne hji with h|h
   ·have h4:=hay.2.2 i x h hx
    exact tch_none (fun z hz=>by have:=hay.2.1 _ hz;simp only at this;omega) (by omega)
   ·have h4:=hasc.2.2 j y h hy
    refine tch_none (fun z hz=>?_) (by omega)
    have:=hlater j y h hy hs' (id,z) hz
    simp only [outB,Bool.and_eq_true,Bool.not_eq_true',Bool.and_eq_false_iff,decide_eq_false_iff_not] at this
    omega
  have hdead:∀ id,x.2.1≤id→id < x.2.1 + x.2.2.new.length→hget (apS (fun i=>listed.getD i false) 0 its σ0).heap id=.dead:=by
   intro id h2 h3
   have:=apS_hp (fun i=>listed.getD i false) (fun _=>false) id its 0 σ0 σ0 rfl fun j y hy hne=>by
    simp only [Nat.zero_add]
    cases hs':listed.getD j false with
    |false=>rfl
    |true=>
     exfalso
     by_cases hji:j=i
     ·subst hji;rw [hif] at hs';cases hs'
     ·exact hne (hdisj j y id hji hy hs' h2 h3)
   rw [this]
   have hid:∀ (l:List It) (k:Nat) (τ:St),apS (fun _=>false) k l τ=τ:=by
    intro l
    induction l with
    |nil=>intro k τ;rfl
    |cons y l ih=>intro k τ;obtain ⟨o,n,r⟩:=y;rw [apS];simpa using ih (k + 1) τ
   rw [hid]
   have:σ0.heap.length≤id:=by have:=hasc.1;omega
   unfold hget;rw [List.getD_eq_getElem?_getD,List.getElem?_eq_none this];rfl
  have hDm:∀ id,x.2.1≤id→id < x.2.1 + x.2.2.new.length→¬ Dm id:=by
   intro id h2 h3 hd
   rcases hD id hd with h4|⟨j,y,hy,hs',h4,h5⟩
   ·have:=hasc.1;omega
   ·by_cases hji:j=i
    ·subst hji;rw [hif] at hs';cases hs'
    ·rcases Nat.lt_or_gt_of_ne hji with h|h
     ·have:=(asc_at G.asc j y hy).2.2 i x h hx;omega
     ·have:=hasc.2.2 j y h hy;omega
  have hset:∀ j,(listed.setIfInBounds i true).getD j false=if j=i then true else listed.getD j false:=by
   intro j
   by_cases hji:j=i
   ·subst hji;rw [if_pos rfl];simp [hl]
   ·rw [if_neg hji];exact getD_set_ne false (Ne.symm hji)
  have hk:=hstep (apS (fun i=>listed.getD i false) 0 its σ0) ⟨hle.tm,hle.hp⟩ hdead B w0 Dm φ kp a w hDm hR' (wpAny P .any ops Q fuel (listed.setIfInBounds i true)) Q fun u w' φ' hr'=>by
   refine ih _ _ w' (by simp [hs]) (fun j oj hj hsj e he hb=>?_) ?_ ⟨_,φ',R_ext hr' ?_ ?_,fun id hid=>?_⟩
   ·simp only [hset] at hsj ⊢
    by_cases hje:e.on=i
    ·rw [if_pos hje]
    ·rw [if_neg hje]
     by_cases hji:j=i
     ·subst hji;rw [ho] at hj;cases hj;exact hedge e he hb
     ·rw [if_neg hji] at hsj;exact hc j oj hj hsj e he hb
   ·have:=countP_lt (p:=fun j=>!((listed.setIfInBounds i true).getD j false)) (q:=fun j=>!(listed.getD j false)) (List.range ops.size) i (List.mem_range.2 hlt) (fun y hy=>by
     rw [hset] at hy
     by_cases hyi:y=i
     ·rw [if_pos hyi] at hy;cases hy
     ·rw [if_neg hyi] at hy;exact hy) (by rw [hif];rfl) (by rw [hset,if_pos rfl];rfl)
    omega
   ·apply List.ext_getElem?
    intro t
    have hta:=tmps_app (apS (fun i=>listed.getD i false) 0 its σ0) x.1.dst x.2.1 x.2.2 t
    refine Eq.trans ?_ hta.symm
    by_cases hd:x.1.dst=some t
    ·rw [if_pos hd,apS_len]
     refine apS_tm_last _ t its 0 σ0 i x hx hd (by simp [hset]) fun j y hij hy hdy=>?_
     exfalso
     exact rl_dst G.rw_ (i:=i) (j:=j) (x:=x.1) (y:=y.1) (by simp [hfst i x hx]) (by simp [hfst j y hy]) (by omega) hd hdy
    ·rw [if_neg hd]
     refine apS_tm _ _ t its 0 σ0 σ0 rfl rfl fun j y hy hdy=>?_
     simp only [Nat.zero_add,hset]
     by_cases hji:j=i
     ·subst hji;rw [hx] at hy;cases hy;exact absurd hdy hd
     ·rw [if_neg hji]
   ·intro id
    refine Eq.trans ?_ (hget_app (apS (fun i=>listed.getD i false) 0 its σ0) x.1.dst x.2.1 x.2.2 id).symm
    cases ht:tch x.2.1 x.2.2 id with
    |none=>
     refine apS_hp _ _ id its 0 σ0 σ0 rfl fun j y hy hne=>?_
     simp only [Nat.zero_add,hset]
     by_cases hji:j=i
     ·subst hji;rw [hx] at hy;cases hy;exact absurd ht hne
     ·rw [if_neg hji]
    |some z=>
     refine apS_hp_last _ id its 0 σ0 i x z hx ht (by simp [hset]) fun j y hij hy hne=>?_
     simp only [Nat.zero_add,hset]
     rw [if_neg (by omega)]
     cases hs':listed.getD j false with
     |false=>rfl
     |true=>
      exfalso
      have hu:∀ z,(id,z) ∉ y.2.2.upd:=fun z' hz'=>by
       have h5:=hlater j y hij hy hs' (id,z') hz'
       simp only [outB,Bool.and_eq_true,Bool.not_eq_true',Bool.and_eq_false_iff,decide_eq_false_iff_not] at h5
       rw [tch_none (fun q hq=>by
        have h6:=List.any_eq_false.1 h5.2 (id,q) hq
        simp at h6) (by omega)] at ht
       cases ht
      have h4:=hasc.2.2 j y hij hy
      have hidlt:id < x.2.1 + x.2.2.new.length:=by
       rcases Nat.lt_or_ge id (x.2.1 + x.2.2.new.length) with h|h
       ·exact h
       ·rw [tch_none (fun z hz=>by have:=hasc.2.1 _ hz;simp only at this;omega) (by omega)] at ht;cases ht
      exact hne (tch_none hu (by omega))
   ·rcases hid with hid|hid
    ·rcases hD id hid with h4|⟨j,y,hy,hs',h4⟩
     ·exact .inl h4
     ·exact .inr ⟨j,y,hy,by rw [hset];split<;>first|rfl|exact hs',h4⟩
    ·exact .inr ⟨i,x,hx,by rw [hset,if_pos rfl],hid⟩
  unfold wpOp
  simp only [ho]
  rw [hox] at hk
  split at hk
  ·rename_i hw;rw [if_pos hw];exact hk
  ·rename_i hw;rw [if_neg hw];exact hk
end
def seqAp:List It→St→St
 |[],σ=>σ
 |(o,n,r)::l,σ=>seqAp l (σ.app o.dst n r)
theorem apS_seq:∀ (l:List It) (k:Nat) (σ:St),apS (fun _=>true) k l σ=seqAp l σ
 |[],_,_=>rfl
 |(o,n,r)::l,k,σ=>by rw [apS,seqAp];simpa using apS_seq l (k + 1) (σ.app o.dst n r)
theorem seqAp_length:∀ (l:List It) (c:Nat) (σ:St),Asc c l→c≤σ.heap.length→σ.heap.length≤(seqAp l σ).heap.length∧∀ (j:Nat) (x:It),l[j]?=some x→x.2.1 + x.2.2.new.length≤(seqAp l σ).heap.length
 |[],_,_,_,_=>⟨Nat.le_refl _,by simp⟩
 |(o,n,r)::l,c,σ,ha,hc=>by
  obtain ⟨rfl,h1,h2⟩:=ha
  have hl1:=hnew_length r.new σ.heap n
  have hl2:=hupd_length r.upd (hnew σ.heap n r.new)
  have happ:σ.heap.length≤(σ.app o.dst n r).heap.length∧n + r.new.length≤(σ.app o.dst n r).heap.length:=by
   simp only [St.app]
   refine ⟨by omega,?_⟩
   rcases hl1.2 with h|h
   ·have h3:=hl1.1;rw [h] at hl2 h3 ⊢;simp only [List.length_nil];omega
   ·omega
  obtain ⟨k1,k2⟩:=seqAp_length l _ (σ.app o.dst n r) h2 happ.2
  simp only [seqAp]
  refine ⟨by omega,fun j x hx=>?_⟩
  cases j with
  |zero=>simp at hx;subst hx;simp only;omega
  |succ j=>exact k2 j x (by simpa using hx)
/-- What a region asks whose order is drawn. -/
def drawE (P:Program) (ops:Array Oper) (σ:St) (K:St→Prop):Prop:=
 ∃ rows,okRows ops.toList rows=true∧rows.all (fun r=>r.length == ops.size)=true∧anyE P ops.toList σ rows ops.toList [] σ.heap.length fun its=>(updE rows 0 its∨upd2 σ rows ops.toList rows [] its)∧K (seqAp its σ)
theorem drawE_ok {ops:Array Oper} {B:Nat→Prop} {w0:World} {kp:List (V×Value)} {Q:Exit→Act→World→Prop} {K:St→Prop} (hm:P.follows .mixedOrders=true) {id:Nat} (hQ:∀ σ a w,K σ→RR B w0 kp σ a w→Q .normal a w) {σ:St} {a:Act} {w:World}
  (h:drawE P ops σ K) (hr:RR B w0 kp σ a w):(Code.region id ops true).wp P Q a w:=by
 obtain ⟨rows,h1,h2,h3⟩:=h
 obtain ⟨its,t1,⟨t2,t2'⟩,t3,t4⟩:=anyE_ok _ _ _ _ _ h3
 simp only [List.nil_append] at t2 t2' t4
 have hlen:its.length=ops.size:=by
  have:=congrArg List.length t1
  simpa using this
 have hrl:∀ (i:Nat) (row:List Rl),rows[i]?=some row→row.length=ops.size:=fun i row hi=>by
  have:=List.all_eq_true.1 h2 row (List.mem_of_getElem? hi)
  simpa using this
 have hasc:Asc σ.heap.length its:=asc_of t3 fun j x hx=>by
  rcases t2 with t2|t2
  ·obtain ⟨_,_,_,h⟩:=updE_at t2 j x hx
   exact h
  ·obtain ⟨_,_,_,h⟩:=upd2_at t2 j x hx
   exact h
 have G:Good P ops rows its σ:=⟨h1,t1,hasc,fun i x hx p hp k y hk hy hne=>by
  have hks:k < ops.size:=by have:=(List.getElem?_eq_some_iff.1 hy).1;omega
  rcases t2 with t2|t2
  ·exfalso
   obtain ⟨row,k1,k2,_⟩:=updE_at t2 i x hx
   rcases k2 with k2|k2
   ·rw [k2] at hp;cases hp
   ·have hkl:k < row.length:=by rw [hrl i row k1];exact hks
    have:=k2 k (by omega) hkl
    apply hne
    unfold rlAt
    simp [k1,this]
  ·obtain ⟨row,k1,k2,_⟩:=upd2_at t2 i x hx
   have hkl:k < row.length:=by rw [hrl i row k1];exact hks
   have hrk:row[k]?=some row[k]:=List.getElem?_eq_getElem hkl
   have hne':row[k]≠.pre:=fun h=>hne (by unfold rlAt;simp [k1,hrk,h])
   cases hu:x.2.2.upd with
   |nil=>rw [hu] at hp;cases hp
   |cons q u=>
    rw [hu] at hp k2
    simp only [okI,List.nil_append] at k2
    have hyk:(its.take i)[k]?=some y:=by rw [List.getElem?_take,if_pos hk];exact hy
    obtain ⟨rk,g1,g2,g3⟩:=okR_at k2 k y _ hyk hrk hne' p.1 (by
     rcases List.mem_cons.1 hp with rfl|hp
     ·simp
     ·exact List.mem_cons_of_mem _ (List.mem_map.2 ⟨p,hp,rfl⟩))
    refine ⟨rk,g1,?_,g3⟩
    rw [List.nil_append,List.take_take,Nat.min_eq_left (by omega)] at g2
    exact g2,hrl,t4⟩
 obtain ⟨Dm,φ,hR,hD⟩:=hr
 refine wp_region_any hm (any_ok G (B:=B) (w0:=w0) (kp:=kp) (fun a' w' hA=>?_) ops.size (Array.replicate ops.size false) a { w with drawn:=w.drawn + 1 } (by simp) (fun i o ho hs=>?_) ?_ ⟨Dm,φ,?_,fun i hi=>.inl (hD i hi)⟩)
 ·obtain ⟨Dm',φ',hR',hD'⟩:=hA
  rw [apS_seq] at hR'
  have hsl:=seqAp_length its _ σ hasc (Nat.le_refl _)
  refine hQ (seqAp its σ) a' w' t2' ⟨Dm',φ',hR',fun i hi=>?_⟩
  rcases hD' i hi with h|⟨j,x,hx,_,h⟩
  ·omega
  ·have:=hsl.2 j x hx;omega
 ·exfalso
  have hlt:i < ops.size:=(Array.getElem?_eq_some_iff.1 ho).1
  simp [hlt] at hs
 ·refine Nat.le_trans (List.countP_le_length) ?_
  simp
 ·have hid:∀ (l:List It) (k:Nat) (τ:St),apS (fun i=>(Array.replicate ops.size false).getD i false) k l τ=τ:=by
   intro l
   induction l with
   |nil=>intro k τ;rfl
   |cons y l ih=>
    intro k τ;obtain ⟨o,n,r⟩:=y;rw [apS,ih]
    have:(Array.replicate ops.size false).getD k false=false:=by
     by_cases hk:k < ops.size<;>simp [hk]
    simp only [this];rfl
  rw [hid]
  exact R_drew hR rfl hR.bel.drew
/-- The operations that are ready, each with what is done behind it. -/
def rdyE (S:List Bool):List Oper→List Bool→List Bool→List (Oper×List Bool)
 |o::os,pre,false::post=>if o.after.toList.all (fun e=>!Region.binds .any e || S.getD e.on false)=true then (o,pre++true::post)::rdyE S os (pre++[false]) post else rdyE S os (pre++[false]) post
 |_::os,pre,true::post=>rdyE S os (pre++[true]) post
 |_,_,_=>[]
def allE (l:List (Oper×List Bool)) (F:Oper→List Bool→Prop):Prop:=
 match l with
 |[]=>True
 |x::r=>F x.1 x.2∧allE r F
def exE (P:Program) (kv:List V) (ops:List Oper):Nat→List Bool→St→(St→Prop)→Prop
 |0,S,σ,K=>rdyE S ops [] S=[]∧K σ
 |n + 1,S,σ,K=>(rdyE S ops [] S=[]→K σ)∧allE (rdyE S ops [] S) fun o S'=>seqE P kv ops σ o fun σ'=>exE P kv ops n S' σ' K
theorem rdyE_at {S:List Bool}:∀ (os:List Oper) (pre post:List Bool) (i:Nat) (o:Oper),os[i]?=some o→post[i]?=some false→(∀ e ∈ o.after,Region.binds .any e=true→S.getD e.on false=true)→(o,pre++post.set i true) ∈ rdyE S os pre post
 |[],_,_,i,o,h,_,_=>by simp at h
 |x::os,pre,[],i,o,_,h,_=>by simp at h
 |x::os,pre,p::post,0,o,h1,h2,h3=>by
  simp at h1 h2
  subst h1;subst h2
  rw [rdyE]
  have hc:(x.after.toList.all fun e=>!Region.binds .any e || S.getD e.on false)=true:=by
   rw [List.all_eq_true]
   intro e he
   cases hb:Region.binds .any e with
   |false=>rfl
   |true=>simpa using h3 e (by simpa using he) hb
  rw [if_pos hc]
  simp
 |x::os,pre,p::post,i + 1,o,h1,h2,h3=>by
  have:=rdyE_at os (pre++[p]) post i o (by simpa using h1) (by simpa using h2) h3
  rw [List.append_assoc,List.singleton_append] at this
  rw [List.set_cons_succ]
  cases p with
  |true=>rw [rdyE];exact this
  |false=>
   rw [rdyE]
   split
   ·exact List.mem_cons_of_mem _ this
   ·exact this
theorem rdyE_sub {S:List Bool}:∀ (os:List Oper) (pre post:List Bool) (x:Oper×List Bool),x ∈ rdyE S os pre post→∃ (i:Nat),os[i]?=some x.1∧post[i]?=some false∧x.2=pre++post.set i true∧∀ e ∈ x.1.after,Region.binds .any e=true→S.getD e.on false=true
 |[],_,_,x,h=>by simp [rdyE] at h
 |o::os,pre,[],x,h=>by simp [rdyE] at h
 |o::os,pre,p::post,x,h=>by
  have step:∀ x,x ∈ rdyE S os (pre++[p]) post→∃ (i:Nat),(o::os)[i]?=some x.1∧(p::post)[i]?=some false∧x.2=pre++(p::post).set i true∧∀ e ∈ x.1.after,Region.binds .any e=true→S.getD e.on false=true:=by
   intro x hx
   obtain ⟨i,h1,h2,h3,h4⟩:=rdyE_sub os (pre++[p]) post x hx
   exact ⟨i + 1,by simpa using h1,by simpa using h2,by rw [h3];simp,h4⟩
  cases p with
  |true=>rw [rdyE] at h;exact step x h
  |false=>
   rw [rdyE] at h
   split at h
   ·rename_i hc
    rcases List.mem_cons.1 h with rfl|h
    ·refine ⟨0,rfl,rfl,by simp,fun e he hb=>?_⟩
     have:=List.all_eq_true.1 hc e (by simpa using he)
     rw [hb] at this
     simpa using this
    ·exact step x h
   ·exact step x h
theorem allE_mem {F:Oper→List Bool→Prop}:∀ {l:List (Oper×List Bool)},allE l F→∀ x ∈ l,F x.1 x.2
 |[],_,x,hx=>by cases hx
 |y::l,h,x,hx=>by
  rcases List.mem_cons.1 hx with rfl|hx
  ·exact h.1
  ·exact allE_mem h.2 x hx
theorem exE_ok {ops:Array Oper} {B:Nat→Prop} {w0:World} {kp:List (V×Value)} {kv:List V} (hkv:kp.map (·.1)=kv) {Q:Exit→Act→World→Prop} {K:St→Prop} (hQ:∀ σ a w,K σ→RR B w0 kp σ a w→Q .normal a w) :
  ∀ (n:Nat) (listed:Array Bool) (σ:St) (a:Act) (w:World),listed.size=ops.size→exE P kv ops.toList n listed.toList σ K→RR B w0 kp σ a w→wpAny P .any ops Q n listed a w:=by
 have hrd:∀ (listed:Array Bool),listed.size=ops.size→Region.ready .any ops listed=[]→rdyE listed.toList ops.toList [] listed.toList=[]:=by
  intro listed hs hr
  apply List.eq_nil_iff_forall_not_mem.2
  intro x hx
  obtain ⟨i,h1,h2,_,h4⟩:=rdyE_sub _ _ _ x hx
  have:i ∈ Region.ready .any ops listed:=by
   rw [mem_ready]
   refine ⟨?_,x.1,by simpa using h1,fun e he hb=>?_⟩
   ·rw [Array.getElem?_toList] at h2
    simp [Array.getD_eq_getD_getElem?,h2]
   ·have:=h4 e he hb
    rw [List.getD_eq_getElem?_getD,Array.getElem?_toList] at this
    simpa [Array.getD_eq_getD_getElem?] using this
  rw [hr] at this;cases this
 intro n
 induction n with
 |zero=>
  intro listed σ a w hs h hr
  simp only [exE] at h
  refine ⟨?_,hQ σ a w h.2 hr⟩
  apply List.eq_nil_iff_forall_not_mem.2
  intro i hi
  obtain ⟨h1,o,ho,hedge⟩:=mem_ready.1 hi
  have hlt:i < listed.size:=by have:=(Array.getElem?_eq_some_iff.1 ho).1;omega
  have hm:=rdyE_at (S:=listed.toList) ops.toList [] listed.toList i o (by simpa using ho) (by
   rw [Array.getElem?_toList]
   simpa [Array.getD_eq_getD_getElem?,hlt] using h1) (fun e he hb=>by
   have:=hedge e he hb
   rw [List.getD_eq_getElem?_getD,Array.getElem?_toList]
   simpa [Array.getD_eq_getD_getElem?] using this)
  rw [h.1] at hm;cases hm
 |succ n ih=>
  intro listed σ a w hs h hr
  simp only [exE] at h
  refine ⟨fun he=>hQ σ a w (h.1 (hrd listed hs he)) hr,fun i hi=>?_⟩
  obtain ⟨h1,o,ho,hedge⟩:=mem_ready.1 hi
  have hlt:i < listed.size:=by have:=(Array.getElem?_eq_some_iff.1 ho).1;omega
  have hm:=rdyE_at (S:=listed.toList) ops.toList [] listed.toList i o (by simpa using ho) (by
   rw [Array.getElem?_toList]
   simpa [Array.getD_eq_getD_getElem?,hlt] using h1) (fun e he hb=>by
   have:=hedge e he hb
   rw [List.getD_eq_getElem?_getD,Array.getElem?_toList]
   simpa [Array.getD_eq_getD_getElem?] using this)
  have hx:=allE_mem h.2 _ hm
  simp only [List.nil_append] at hx
  have:=seq_in (Q:=Q) (N:=wpAny P .any ops Q n (listed.setIfInBounds i true)) hkv hx hr fun σ' u w' hk hr'=>by
   refine ih (listed.setIfInBounds i true) σ' _ w' (by simpa using hs) ?_ hr'
   simpa using hk
  unfold wpOp
  simp only [ho]
  exact this
/-- A drawn region: by what its operations need of each other, or through every order. -/
def drawX (P:Program) (kv:List V) (ops:Array Oper) (σ:St) (K:St→Prop):Prop:=
 drawE P ops σ K∨∃ K',(∀ σ',K' σ'→K σ')∧exE P kv ops.toList ops.size (List.replicate ops.size false) σ K'
theorem drawX_ok {ops:Array Oper} {B:Nat→Prop} {w0:World} {kp:List (V×Value)} {kv:List V} (hkv:kp.map (·.1)=kv) {Q:Exit→Act→World→Prop} {K:St→Prop} (hm:P.follows .mixedOrders=true) {id:Nat} (hQ:∀ σ a w,K σ→RR B w0 kp σ a w→Q .normal a w) {σ:St} {a:Act} {w:World}
  (h:drawX P kv ops σ K) (hr:RR B w0 kp σ a w):(Code.region id ops true).wp P Q a w:=by
 rcases h with h|⟨K',hkk,h⟩
 ·exact drawE_ok hm hQ h hr
 ·refine wp_region_any hm (exE_ok hkv (fun σ a w hK'=>hQ σ a w (hkk σ hK')) ops.size (Array.replicate ops.size false) σ a _ (by simp) (by simpa using h) ?_)
  obtain ⟨Dm,φ,hR,hD⟩:=hr
  exact ⟨Dm,φ,R_drew hR rfl hR.bel.drew,hD⟩
variable {P:Program}
/-- Two ways, by a truth value. -/
def condE (t:Bool) (A B:Prop):Prop:=(t=true→A)∧(t=false→B)
def outE:List (Nat×(St→Prop))→Nat→St→Prop
 |[],_,_=>False
 |(i,K)::X,id,σ=>if id=i then K σ else outE X id σ
mutual
/-- Entries renamed. -/
def ren (ρ:List Nat):V→V
 |.junk=>.junk
 |.d x=>.d x
 |.nils s=>.nils s
 |.agg vs=>.agg (rens ρ vs)
 |.ptr id idx off=>.ptr (ρ.getD id 0) idx off
 |.rp cells off=>.rp cells off
 |.sl id off len=>.sl (ρ.getD id 0) off len
 |.fn f caps=>.fn f (rens ρ caps)
 |.tup vs=>.tup (rens ρ vs)
 |.gd c v=>.gd c (ren ρ v)
def rens (ρ:List Nat):List V→List V
 |[]=>[]
 |v::vs=>ren ρ v::rens ρ vs
end
def vsee (ρ:List Nat) (v' v:V):Prop:=match v' with|.junk=>True|v'=>ren ρ v'=v
def vsees (ρ:List Nat):List V→List V→Prop
 |[],[]=>True
 |v'::vs',v::vs=>vsee ρ v' v∧vsees ρ vs' vs
 |_,_=>False
def hsee (ρ:List Nat) (x' x:H):Prop:=
 match x',x with
 |.dead,_=>True
 |.box cs',.box cs=>vsees ρ cs' cs
 |.arr s' xs' nf',.arr s xs nf=>s'=s∧xs'=xs∧nf'=nf
 |.ro s' xs',.ro s xs=>s'=s∧xs'=xs
 |.cln s' xs',.cln s xs=>s'=s∧xs'=xs
 |_,_=>False
/-- σ' is σ with its entries renamed ('ρ': which entry of σ the i-th of σ' is), or less is known in it. -/
def hsees (ρ:List Nat) (hs:List H):List Nat→List H→Prop
 |[],[]=>True
 |i::is,x'::xs'=>hsee ρ x' (hget hs i)∧hsees ρ hs is xs'
 |_,_=>False
structure See (ρ:List Nat) (σ σ':St):Prop where
 nd:ρ.Nodup
 tm:vsees ρ σ'.tmps σ.tmps
 hp:hsees ρ σ.heap ρ σ'.heap
/-- Every entry that a value names is there. -/
theorem hsees_len {ρ:List Nat} {hs:List H}:∀ {is:List Nat} {xs':List H},hsees ρ hs is xs'→xs'.length=is.length∧∀ i,i < is.length→hsee ρ (hget xs' i) (hget hs (is.getD i 0))
 |[],[],_=>⟨rfl,by simp⟩
 |[],_::_,h=>by simp [hsees] at h
 |_::_,[],h=>by simp [hsees] at h
 |i::is,x'::xs',h=>by
  simp only [hsees] at h
  obtain ⟨h1,h2⟩:=h
  obtain ⟨k1,k2⟩:=hsees_len h2
  refine ⟨by simp [k1],fun j hj=>?_⟩
  cases j with
  |zero=>simpa [hget] using h1
  |succ j=>simpa [hget] using k2 j (by simpa using hj)
section
variable {φ:Phi} {T T':Nat→Prop} {h:Array Obj} {ρ:List Nat}
/-- A renamed place. -/
def phiRen (φ:Phi) (ρ:List Nat):Phi:=fun i=>if i < ρ.length then φ (ρ.getD i 0) else none
mutual
def vok (m:Nat):V→Prop
 |.ptr id _ _=>id < m
 |.sl id _ _=>id < m
 |.agg vs=>voks m vs
 |.fn _ vs=>voks m vs
 |.tup vs=>voks m vs
 |.gd _ v=>vok m v
 |_=>True
def voks (m:Nat):List V→Prop
 |[]=>True
 |v::vs=>vok m v∧voks m vs
end
mutual
theorem VRel_ren (hT:∀ b,T b→T' b):∀ (v:V) (u:Value),vok ρ.length v→VRel φ T h (ren ρ v) u→VRel (phiRen φ ρ) T' h v u
 |.junk,_,_,_=>by simp [VRel]
 |.d x,u,_,r=>by
  simp only [ren,VRel] at r ⊢
  obtain ⟨F,r1,r2⟩:=r
  exact ⟨F,r1,fun b hb=>hT b (r2 b hb)⟩
 |.nils _,_,_,r=>by simpa [ren,VRel] using r
 |.agg vs,u,k,r=>by
  simp only [ren,VRel,vok] at r k ⊢
  obtain ⟨us,r1,r2⟩:=r
  exact ⟨us,r1,VRels_ren hT vs us.toList k r2⟩
 |.ptr id idx off,u,k,r=>by
  simp only [ren,VRel,vok] at r k ⊢
  obtain ⟨β,b,r1,r2,r3⟩:=r
  exact ⟨β,b,by simp only [phiRen,if_pos k];exact r1,r2,r3⟩
 |.rp cells off,u,_,r=>by
  simp only [ren,VRel] at r ⊢
  obtain ⟨b,f,G,r1,r2,r3,r4,r5⟩:=r
  exact ⟨b,f,G,r1,r2,hT b r3,r4,fun g hg=>hT g (r5 g hg)⟩
 |.sl id off len,u,k,r=>by
  simp only [ren,VRel,vok] at r k ⊢
  obtain ⟨β,a,c,r1,r2⟩:=r
  exact ⟨β,a,c,by simp only [phiRen,if_pos k];exact r1,r2⟩
 |.fn f caps,u,k,r=>by
  simp only [ren,VRel,vok] at r k ⊢
  obtain ⟨us,r1,r2⟩:=r
  exact ⟨us,r1,VRels_ren hT caps us.toList k r2⟩
 |.tup vs,u,k,r=>by
  simp only [ren,VRel,vok] at r k ⊢
  obtain ⟨us,r1,r2⟩:=r
  exact ⟨us,r1,VRels_ren hT vs us.toList k r2⟩
 |.gd c v,u,k,r=>by
  simp only [ren,VRel,vok] at r k ⊢
  exact ⟨fun e=>VRel_ren hT v u k (r.1 e),r.2⟩
theorem VRels_ren (hT:∀ b,T b→T' b):∀ (vs:List V) (us:List Value),voks ρ.length vs→VRels φ T h (rens ρ vs) us→VRels (phiRen φ ρ) T' h vs us
 |[],us,_,r=>by simpa [rens,VRels] using r
 |v::vs,us,k,r=>by
  simp only [rens,VRels,voks] at r k ⊢
  obtain ⟨u,us',r1,r2,r3⟩:=r
  exact ⟨u,us',r1,VRel_ren hT v u k.1 r2,VRels_ren hT vs us' k.2 r3⟩
end
theorem VRel_see (hT:∀ b,T b→T' b) {v' v:V} {u:Value} (hs:vsee ρ v' v) (k:vok ρ.length v') (r:VRel φ T h v u):VRel (phiRen φ ρ) T' h v' u:=by
 unfold vsee at hs
 split at hs
 ·simp [VRel]
 ·subst hs;exact VRel_ren hT _ u k r
theorem VRels_see (hT:∀ b,T b→T' b):∀ {vs' vs:List V} {us:List Value},vsees ρ vs' vs→voks ρ.length vs'→VRels φ T h vs us→VRels (phiRen φ ρ) T' h vs' us
 |[],[],us,_,_,r=>by simpa [VRels] using r
 |[],_::_,_,hs,_,_=>by simp [vsees] at hs
 |_::_,[],_,hs,_,_=>by simp [vsees] at hs
 |v'::vs',v::vs,us,hs,k,r=>by
  simp only [vsees,voks,VRels] at hs k r ⊢
  obtain ⟨u,us',rfl,r1,r2⟩:=r
  exact ⟨u,us',rfl,VRel_see hT hs.1 k.1 r1,VRels_see hT hs.2 k.2 r2⟩
end
def hok (m:Nat):H→Prop
 |.box cs=>voks m cs
 |_=>True
theorem hsee_flags {ρ:List Nat} {x' x:H} (h:hsee ρ x' x):(x'.live=true→x.live=true)∧(x'.own=true→x.own=true)∧(x'.shut=true→x.shut=true):=by
 unfold hsee at h
 split at h
 ·exact ⟨fun e=>(by cases e),fun e=>(by cases e),fun e=>(by cases e)⟩
 ·exact ⟨fun _=>rfl,fun e=>(by cases e),fun e=>(by cases e)⟩
 ·obtain ⟨rfl,rfl,rfl⟩:=h;exact ⟨id,id,id⟩
 ·exact ⟨fun e=>(by cases e),fun e=>(by cases e),fun e=>(by cases e)⟩
 ·exact ⟨fun _=>rfl,fun _=>rfl,fun _=>rfl⟩
 ·exact h.elim
theorem RR_see {B:Nat→Prop} {w0:World} {σ σ':St} {a:Act} {w:World} {ρ:List Nat} (hs:See ρ σ σ') (h1:voks σ'.heap.length σ'.tmps) (h2:∀ x ∈ σ'.heap,hok σ'.heap.length x) {kp:List (V×Value)} (hkp:∀ p ∈ kp,vsee ρ p.1 p.1∧vok σ'.heap.length p.1) (r:RR B w0 kp σ a w):RR B w0 kp σ' a w:=by
 obtain ⟨Dm,φ,r,_⟩:=r
 obtain ⟨hl,hsee'⟩:=hsees_len hs.hp
 rw [hl] at h1 h2 hkp
 have hfl:∀ i,(hget σ'.heap i).live=true→i < ρ.length:=by
  intro i hi
  rcases Nat.lt_or_ge i σ'.heap.length with h|h
  ·omega
  ·rw [hget_ge h] at hi;cases hi
 have htop:∀ i β b,TopOf (hget σ'.heap i) β b→i < ρ.length∧TopOf (hget σ.heap (ρ.getD i 0)) β b:=by
  intro i β b ht
  have hlt:i < ρ.length:=by
   rcases ht with ⟨h,_⟩|⟨h,_⟩
   ·exact hfl i h
   ·exact hfl i (H.own_live (H.shut_own h))
  obtain ⟨f1,f2,f3⟩:=hsee_flags (hsee' i hlt)
  exact ⟨hlt,ht.imp (fun h=>⟨f1 h.1,h.2⟩) (fun h=>⟨f3 h.1,h.2⟩)⟩
 have hT:∀ b,NotTop φ σ.heap b→NotTop (phiRen φ ρ) σ'.heap b:=by
  intro b ht i β e hi
  obtain ⟨hlt,hl'⟩:=htop i β b hi
  simp only [phiRen,if_pos hlt] at e
  exact ht _ β e hl'
 have hgs:∀ i,i < ρ.length→∀ x,hget σ'.heap i=x→hok ρ.length x:=by
  intro i hi x hx
  have hlt:i < σ'.heap.length:=by omega
  have:x ∈ σ'.heap:=by
   rw [← hx];unfold hget;rw [List.getD_eq_getElem?_getD,List.getElem?_eq_getElem hlt];simp
  exact h2 x this
 have hinj:∀ i j,i < ρ.length→j < ρ.length→ρ.getD i 0=ρ.getD j 0→i=j:=by
  intro i j hi hj e
  rw [List.getD_eq_getElem?_getD,List.getD_eq_getElem?_getD,List.getElem?_eq_getElem hi,List.getElem?_eq_getElem hj] at e
  have e:ρ[i]=ρ[j]:=by simpa using e
  have hp:=List.pairwise_iff_getElem.1 hs.nd
  rcases Nat.lt_trichotomy i j with h|h|h
  ·exact absurd e (hp i j hi hj h)
  ·exact h
  ·exact absurd e.symm (hp j i hj hi h)
 have hown:∀ i b,Owns (phiRen φ ρ) σ'.heap i b→i < ρ.length∧Owns φ σ.heap (ρ.getD i 0) b:=by
  rintro i b ⟨β,e,h⟩
  have hlt:i < ρ.length:=by
   rcases h with ⟨h,_⟩|⟨h,_⟩
   ·exact hfl i h
   ·exact hfl i (H.own_live h)
  obtain ⟨f1,f2,f3⟩:=hsee_flags (hsee' i hlt)
  simp only [phiRen,if_pos hlt] at e
  exact ⟨hlt,β,e,h.imp (fun h=>⟨f1 h.1,h.2⟩) (fun h=>⟨f2 h.1,h.2⟩)⟩
 refine ⟨fun i=>i < ρ.length,phiRen φ ρ,⟨VRels_see hT hs.tm h1 r.tm,fun p hp=>(by
  have h3:=r.kp p hp
  rcases List.mem_append.1 hp with hp|hp
  ·obtain ⟨q,_,rfl⟩:=List.mem_map.1 hp
   exact VRel_ren (ρ:=ρ) hT (.rp q.2 0) _ trivial h3
  ·exact VRel_see hT (hkp p hp).1 (hkp p hp).2 h3),fun i=>?_,fun i j b hi hj=>?_,fun i β e hx=>?_,fun i b ho=>?_,fun i β e=>?_,r.bel,r.bs,r.de,r.gb⟩,fun i hi=>by rw [hl];exact hi⟩
 ·by_cases hlt:i < ρ.length
  ·have hse:=hsee' i hlt
   have hok':=hgs i hlt _ rfl
   rcases r.hp (ρ.getD i 0) with hd|⟨β,e,hr⟩
   ·left
    rw [hd] at hse
    unfold hsee at hse
    split at hse
    ·rename_i e1;exact e1
    ·rename_i e2;cases e2
    ·rename_i e2;cases e2
    ·rename_i e2;cases e2
    ·rename_i e2;cases e2
    ·exact hse.elim
   ·by_cases hdd:hget σ'.heap i=.dead
    ·exact .inl hdd
    ·refine .inr ⟨β,by simp only [phiRen,if_pos hlt];exact e,?_⟩
     generalize hget σ'.heap i=x' at hse hok' hdd
     generalize hget σ.heap (ρ.getD i 0)=x at hse hr
     unfold hsee at hse
     split at hse
     ·exact absurd rfl hdd
     ·simp only [HRel] at hr ⊢
      obtain ⟨b,cs,t,r1,r2,r3,r4⟩:=hr
      exact ⟨b,cs,t,r1,r2,r3,VRels_see hT hse hok' r4⟩
     ·obtain ⟨rfl,rfl,rfl⟩:=hse
      simp only [HRel] at hr ⊢
      obtain ⟨h5,hr⟩:=hr
      refine ⟨h5,hr.imp id fun ⟨b,G,r1,r2,r3,r4,r5,r6⟩=>⟨b,G,r1,r2,r3,r4,r5,fun e g hg=>hT g (r6 e g hg)⟩⟩
     ·obtain ⟨rfl,rfl⟩:=hse
      simp only [HRel] at hr ⊢
      obtain ⟨h5,hr⟩:=hr
      refine ⟨h5,hr.imp id fun ⟨b,G,r1,r2,r3,r4,r5⟩=>⟨b,G,r1,hT b r2,r3,r4,fun g hg=>hT g (r5 g hg)⟩⟩
     ·obtain ⟨rfl,rfl⟩:=hse
      simpa only [HRel] using hr
     ·exact hse.elim
  ·left;exact hget_ge (by omega)
 ·obtain ⟨h3,h4⟩:=hown i b hi
  obtain ⟨h5,h6⟩:=hown j b hj
  exact hinj i j h3 h5 (r.o1 _ _ b h4 h6)
 ·have hlt:=hfl i (H.own_live hx)
  simp only [phiRen,if_pos hlt] at e
  exact r.o2 _ β e ((hsee_flags (hsee' i hlt)).2.1 hx)
 ·exact r.o3 _ b (hown i b ho).2
 ·by_cases hlt:i < ρ.length
  ·exact hlt
  ·simp only [phiRen,if_neg hlt] at e;cases e
def allOk (m:Nat):List H→Prop
 |[]=>True
 |x::xs=>hok m x∧allOk m xs
theorem allOk_mem {m:Nat}:∀ {xs:List H},allOk m xs→∀ x ∈ xs,hok m x
 |[],_,x,hx=>by cases hx
 |y::ys,h,x,hx=>by
  rcases List.mem_cons.1 hx with rfl|hx
  ·exact h.1
  ·exact allOk_mem h.2 x hx
def kvOk (ρ:List Nat) (m:Nat):List V→Prop
 |[]=>True
 |v::vs=>(vsee ρ v v∧vok m v)∧kvOk ρ m vs
theorem kvOk_mem {ρ:List Nat} {m:Nat}:∀ {kv:List V},kvOk ρ m kv→∀ v ∈ kv,vsee ρ v v∧vok m v
 |[],_,x,hx=>by cases hx
 |y::ys,h,x,hx=>by
  rcases List.mem_cons.1 hx with rfl|hx
  ·exact h.1
  ·exact kvOk_mem h.2 x hx
def seeE (kv:List V) (ρ:List Nat) (σ σ':St):Prop:=
 ρ.Nodup∧vsees ρ σ'.tmps σ.tmps∧hsees ρ σ.heap ρ σ'.heap∧voks σ'.heap.length σ'.tmps∧allOk σ'.heap.length σ'.heap∧kvOk ρ σ'.heap.length kv
theorem seeE_ok {B:Nat→Prop} {w0:World} {kv:List V} {kp:List (V×Value)} {σ σ':St} {a:Act} {w:World} {ρ:List Nat} (hkv:kp.map (·.1)=kv) (h:seeE kv ρ σ σ') (r:RR B w0 kp σ a w):RR B w0 kp σ' a w:=by
 obtain ⟨h1,h2,h3,h4,h5,h6⟩:=h
 exact RR_see ⟨h1,h2,h3⟩ h4 (allOk_mem h5) (fun p hp=>kvOk_mem h6 p.1 (by rw [← hkv];exact List.mem_map.2 ⟨p,hp,rfl⟩)) r
/-- What a loop asks: a relation that a round hands on, smaller. -/
def LoopK (kv:List V) (body:St→(St→Prop)→Prop) (σ:St):Prop:=
 ∃ (α:Type) (I:α→St) (μ:α→Nat) (Pre:α→Prop) (x:α) (ρ:List Nat),Pre x∧seeE kv ρ σ (I x)∧∀ x,Pre x→∃ σ1,Sh (I x) σ1∧body σ1 fun σ'=>∃ σ2,Sh σ' σ2∧∃ y ρ',Pre y∧μ y < μ x∧seeE kv ρ' σ2 (I y)
def codeE (P:Program) (kv:List V):Code→St→(St→Prop)→List (Nat×(St→Prop))→(St→Prop)→Prop
 |.skip,σ,K,_,_=>K σ
 |.region _ ops false,σ,K,_,_=>opsE P kv ops.toList ops.toList σ K
 |.region _ ops true,σ,K,_,_=>drawX P kv ops σ K
 |.seq a b,σ,K,X,Rt=>codeE P kv a σ (fun σ'=>codeE P kv b σ' K X Rt) X Rt
 |.cond c a b,σ,K,X,Rt=>evg true (σ.ev c) fun v=>asB v fun t=>condE t (codeE P kv a σ K X Rt) (codeE P kv b σ K X Rt)
 |.block id c,σ,K,X,Rt=>codeE P kv c σ K ((id,K)::X) Rt
 |.exit id,σ,_,X,_=>outE X id σ
 |.ret,σ,_,_,Rt=>Rt σ
 |.loop c,σ,_,X,Rt=>LoopK kv (fun σ K'=>codeE P kv c σ K' X Rt) σ
 |_,_,_,_,_=>False
def Outs (B:Nat→Prop) (w0:World) (kp:List (V×Value)) (Q:Exit→Act→World→Prop) (X:List (Nat×(St→Prop))):Prop:=
 ∀ id σ a w,outE X id σ→RR B w0 kp σ a w→Q (.exit id) a w
theorem range_map (ops:Array Oper):(List.range ops.size).map (ops[·]?)=ops.toList.map some:=by
 apply List.ext_getElem?
 intro i
 simp only [List.getElem?_map,Array.getElem?_toList]
 by_cases h:i < ops.size
 ·simp [h]
 ·simp [h]
theorem codeE_ok {B:Nat→Prop} {w0:World} {kp:List (V×Value)} {kv:List V} (hkv:kp.map (·.1)=kv) (hm:P.follows .mixedOrders=true):∀ (c:Code) (σ:St) (K:St→Prop) (X:List (Nat×(St→Prop))) (Rt:St→Prop) (Q:Exit→Act→World→Prop) (a:Act) (w:World),
  (∀ σ a w,K σ→RR B w0 kp σ a w→Q .normal a w)→Outs B w0 kp Q X→(∀ σ a w,Rt σ→RR B w0 kp σ a w→Q .ret a w)→codeE P kv c σ K X Rt→RR B w0 kp σ a w→c.wp P Q a w:=by
 intro c
 induction c with
 |skip=>intro σ K X Rt Q a w hK _ _ h r;exact wp_skip (hK σ a w h r)
 |region id ops draw=>
  intro σ K X Rt Q a w hK _ _ h r
  cases draw with
  |false=>exact wp_region (opsE_ok hkv hK _ _ σ a w (range_map ops) h r)
  |true=>exact drawX_ok hkv hm hK h r
 |seq x y ihx ihy=>
  intro σ K X Rt Q a w hK hX hR h r
  refine wp_seq (ihx σ _ X Rt _ a w (fun σ' a' w' h' r'=>?_) (fun id σ' a' w' h' r'=>hX id σ' a' w' h' r') (fun σ' a' w' h' r'=>hR σ' a' w' h' r') h r)
  exact ihy σ' K X Rt Q a' w' hK hX hR h' r'
 |cond c x y ihx ihy=>
  intro σ K X Rt Q a w hK hX hR h r
  simp only [codeE] at h
  obtain ⟨v,h,hv⟩:=evg_rel h
  obtain ⟨t,rfl,h⟩:=asB_inv h
  obtain ⟨Dm,φ,r0,hD⟩:=r
  have hc:=rel_bool (hv _ _ _ _ rfl (ev_rel r0 c))
  refine wp_cond hc ?_
  cases t with
  |true=>exact ihx σ K X Rt Q a w hK hX hR (h.1 rfl) ⟨Dm,φ,r0,hD⟩
  |false=>exact ihy σ K X Rt Q a w hK hX hR (h.2 rfl) ⟨Dm,φ,r0,hD⟩
 |block id c ih=>
  intro σ K X Rt Q a w hK hX hR h r
  simp only [codeE] at h
  refine wp_block (ih σ K ((id,K)::X) Rt _ a w (fun σ' a' w' h' r'=>hK σ' a' w' h' r') (fun id' σ' a' w' h' r'=>?_) (fun σ' a' w' h' r'=>hR σ' a' w' h' r') h r)
  simp only [outE] at h'
  simp only [Exit.inBlock]
  by_cases hi:id'=id
  ·rw [if_pos hi];rw [if_pos hi] at h';exact hK σ' a' w' h' r'
  ·rw [if_neg hi];rw [if_neg hi] at h';exact hX id' σ' a' w' h' r'
 |exit id=>intro σ K X Rt Q a w _ hX _ h r;exact wp_exit (hX id σ a w h r)
 |ret=>intro σ K X Rt Q a w _ _ hR h r;exact wp_ret (hR σ a w h r)
 |loop c ih=>
  intro σ K X Rt Q a w hK hX hR h r
  simp only [codeE,LoopK] at h
  obtain ⟨α,I,μ,Pre,x,ρ,hp,hs,hround⟩:=h
  refine wp_loop_ghost (fun n a w=>∃ x,Pre x∧μ x=n∧RR B w0 kp (I x) a w) (μ x) ⟨x,hp,rfl,seeE_ok hkv hs r⟩ ?_
  rintro n a w ⟨x,hp,rfl,r⟩
  obtain ⟨σ1,hsh,hbody⟩:=hround x hp
  refine ih σ1 _ X Rt _ a w (fun σ' a' w' h' r'=>?_) (fun id σ' a' w' h' r'=>hX id σ' a' w' h' r') (fun σ' a' w' h' r'=>hR σ' a' w' h' r') hbody (Sh_ok hsh r)
  obtain ⟨σ2,hsh2,y,ρ',h1,h2,h3⟩:=h'
  exact ⟨μ y,h2,y,h1,rfl,seeE_ok hkv h3 (Sh_ok hsh2 r')⟩
 |_=>intro σ K X Rt Q a w _ _ _ h;exact h.elim
def AD.toV:AD→V
 |.one d=>.d d
 |.agg ds=>.agg (ds.map V.d)
def rvE (P:Program) (σ:St) (r:ResultVar) (K:V→Prop):Prop:=
 match r with
 |.tmp t=>K (σ.ev (.tmp t))
 |.cell a T=>evg true (σ.ev (.tmp a)) fun v=>withR (loadE P σ.heap T v) K
def rvsE (P:Program) (σ:St):List ResultVar→(List V→Prop)→Prop
 |[],K=>K []
 |r::rs,K=>rvE P σ r fun v=>rvsE P σ rs fun vs=>K (v::vs)
def outOA (r:Option (List AD×List Nat)) (res:List AD):Prop:=match r with|some (as,ids)=>ids.Nodup∧as=res|none=>False
def retE (P:Program) (rs:List ResultVar) (res:List AD) (σ:St):Prop:=rvsE P σ rs fun vs=>outOA (toOAs σ.heap vs) res
section
variable {B:Nat→Prop} {w0:World} {Dm:Nat→Prop} {φ:Phi} {kp:List (V×Value)} {a:Act} {w:World} {σ:St}
def rvRun (tmps:Array Value) (x:ResultVar):Sem Value:=
 match x with
 |.tmp t=>pure (tmps.getD t undef)
 |.cell b t=>do loadVar t (← asAddr (tmps.getD b undef))
theorem results_eq (fn:Func) (tmps:Array Value):results fn tmps=(do
  let vs ← fn.results.mapM (rvRun tmps)
  pure (if h:vs.size=1 then vs[0] else .tuple vs)):=rfl
theorem rvE_ok (r:R B w0 Dm φ σ kp a w) {x:ResultVar} {K:V→Prop} (h:rvE P σ x K):∃ v u,K v∧VRel φ (NotTop φ σ.heap) w.heap v u ∧
  (rvRun a.tmps x).run P w=.ok u w:=by
 unfold rvE at h
 split at h
 ·rename_i t
  exact ⟨_,_,h,ev_rel r (.tmp t),rfl⟩
 ·rename_i b T
  obtain ⟨va,h,hx⟩:=evg_rel h
  obtain ⟨p,v,hE,hp,hK⟩:=withR_inv h
  obtain ⟨blk,f,u,hu,hl,hv⟩:=load_core (St.le.refl σ) r hE hp (hx _ _ _ _ rfl (ev_rel r (.tmp b)))
  refine ⟨v,u,hK,hv,?_⟩
  simp only [Act.eval] at hu
  simp only [rvRun,Sem.run_bind,hu,asAddr]
  simp [hl]
theorem rvsE_ok (r:R B w0 Dm φ σ kp a w):∀ (xs:List ResultVar) (K:List V→Prop),rvsE P σ xs K→∃ vs us,K vs∧VRels φ (NotTop φ σ.heap) w.heap vs us ∧
  (xs.mapM (rvRun a.tmps)).run P w=.ok us w
 |[],K,h=>⟨[],[],h,by simp [VRels],by simp⟩
 |x::xs,K,h=>by
  simp only [rvsE] at h
  obtain ⟨v,u,h,hv,hu⟩:=rvE_ok r h
  obtain ⟨vs,us,h,hvs,hus⟩:=rvsE_ok r xs _ h
  refine ⟨v::vs,u::us,h,by simp only [VRels];exact ⟨u,us,rfl,hv,hvs⟩,?_⟩
  rw [List.mapM_cons]
  simp only [Sem.run_bind,hu,Result.andThen_ok,hus,Sem.run_pure]
theorem retE_ok {fn:Func} (r:R B w0 Dm φ σ kp a w) {res:List AD} (h:retE P fn.results.toList res σ):∃ v F,(results fn a.tmps).run P w=.ok v w∧trep w.heap true res v F∧F.Nodup∧∀ b ∈ F,B b∧b < w.heap.size:=by
 obtain ⟨vs,us,h,hv,hu⟩:=rvsE_ok r _ _ h
 unfold outOA at h
 split at h
 ·rename_i as ids ho
  obtain ⟨hn,rfl⟩:=h
  obtain ⟨F,f1,f2,f3⟩:=toOAs_rel r vs as ids us ho hn hv
  refine ⟨if h:us.length=1 then us[0] else .tuple us.toArray,F,?_,?_,f2,fun b hb=>?_⟩
  ·rw [results_eq,Array.mapM_eq_mapM_toList]
   simp only [Sem.run_bind,Sem.run_map,hu]
   simp only [Result.andThen,List.size_toArray,Sem.run_pure]
   split<;>simp_all
  ·have hl:us.length=as.length:=by
    clear hu hv ho f2 f3 h
    induction as generalizing us F with
    |nil=>simp only [areps] at f1;simp [f1.1]
    |cons d ds ih=>
     simp only [areps] at f1
     obtain ⟨u,us',F1,F2,rfl,rfl,r1,r2⟩:=f1
     simp [ih us' F2 r2]
   unfold trep
   split
   ·rename_i x
    simp only [areps] at f1
    obtain ⟨u,us',F1,F2,rfl,rfl,r1,r2,rfl⟩:=f1
    subst r2
    simpa using r1
   ·rename_i hne
    refine ⟨us.toArray,?_,f1⟩
    rw [dif_neg]
    intro h1
    rw [hl] at h1
    obtain ⟨x,hx⟩:=List.length_eq_one_iff.1 h1
    exact hne x hx
  ·obtain ⟨id,_,ho⟩:=f3 b hb
   exact ⟨r.o3 id b ho,Owns.lt r ho⟩
 ·exact h.elim
end
mutual
def dOk:D→Prop
 |.int k n=>k.min≤n∧n≤k.max
 |.bool _=>True
 |.str s=>s.length≤maxLen
 |.raw _=>True
 |.sl _ xs=>xs.length≤maxLen∧eOk xs
def cOk:List D→Prop
 |[]=>True
 |d::ds=>dOk d∧cOk ds
def eOk:List (List D)→Prop
 |[]=>True
 |c::cs=>cOk c∧eOk cs
end
mutual
theorem rep_dOk {h:Array Obj} {o:Bool}:∀ (d:D) (u:Value) (F:List Nat),rep h o d u F→dOk d
 |.int k n,u,F,r=>by simp only [rep] at r;simp only [dOk];exact r.2.2
 |.bool b,u,F,r=>by simp only [dOk]
 |.str s,u,F,r=>by simp only [rep] at r;simp only [dOk];exact r.2.2
 |.raw v,u,F,r=>by simp only [dOk]
 |.sl sz xs,u,F,r=>by
  simp only [rep] at r
  obtain ⟨a,c,h1,h2,h3,h4⟩:=r
  simp only [dOk]
  refine ⟨by omega,?_⟩
  rcases h4 with ⟨rfl,_⟩|⟨b,f,G,e1,e2,e3,e4,e5⟩
  ·simp [eOk]
  ·exact repE_eOk xs b f sz G e4
theorem repC_cOk {h:Array Obj} {o:Bool}:∀ (ds:List D) (b f:Nat) (G:List Nat),repC h o b f ds G→cOk ds
 |[],_,_,_,_=>by simp [cOk]
 |d::ds,b,f,G,r=>by
  simp only [repC] at r
  obtain ⟨v,G1,G2,_,_,e3,e4⟩:=r
  simp only [cOk]
  exact ⟨rep_dOk d v G1 e3,repC_cOk ds b (f + 1) G2 e4⟩
theorem repE_eOk {h:Array Obj} {o:Bool}:∀ (cs:List (List D)) (b f sz:Nat) (G:List Nat),repE h o b f sz cs G→eOk cs
 |[],_,_,_,_,_=>by simp [eOk]
 |c::cs,b,f,sz,G,r=>by
  simp only [repE] at r
  obtain ⟨G1,G2,_,_,e3,e4⟩:=r
  simp only [eOk]
  exact ⟨repC_cOk c b f G1 e3,repE_eOk cs b (f + sz) sz G2 e4⟩
end
def adOk:AD→Prop
 |.one d=>dOk d
 |.agg ds=>cOk ds
def adOks:List AD→Prop
 |[]=>True
 |a::as=>adOk a∧adOks as
theorem areps_ok {h:Array Obj} {o:Bool}:∀ (as:List AD) (us:List Value) (F:List Nat),areps h o as us F→adOks as
 |[],_,_,_=>trivial
 |a::as,us,F,r=>by
  simp only [areps] at r
  obtain ⟨u,us',F1,F2,rfl,rfl,r1,r2⟩:=r
  refine ⟨?_,areps_ok as us' F2 r2⟩
  cases a with
  |one d=>exact rep_dOk d u F1 r1
  |agg ds=>
   obtain ⟨vs,_,r1⟩:=r1
   have:∀ (ds:List D) (us:List Value) (F:List Nat),reps h o ds us F→cOk ds:=by
    intro ds
    induction ds with
    |nil=>intro _ _ _;simp [cOk]
    |cons d ds ih=>
     intro us F r
     simp only [reps] at r
     obtain ⟨u,us',F1,F2,rfl,rfl,r1,r2⟩:=r
     simp only [cOk]
     exact ⟨rep_dOk d u F1 r1,ih us' F2 r2⟩
   exact this ds _ _ r1
theorem eOk_at:∀ {ds:List (List D)},eOk ds→∀ d ∈ ds,cOk d
 |[],_,d,hd=>by cases hd
 |x::xs,h,d,hd=>by
  simp only [eOk] at h
  rcases List.mem_cons.1 hd with rfl|hd
  ·exact h.1
  ·exact eOk_at h.2 d hd
theorem init_R {w:World} {args:List AD} {us:List Value} {F:List Nat} (hg:GOk w.heap) (h:areps w.heap false args us F) (m:Nat) (kp:List (V×Value)) (hkp:∀ p ∈ kp,∀ φ T,VRel φ T w.heap p.1 p.2) :
  RR (fun b=>w.heap.size≤b) w kp ⟨args.map AD.toV++List.replicate m .junk,[]⟩ ⟨us.toArray++Array.replicate m undef,[]⟩ w:=by
 have hnt:∀ b,NotTop (fun _=>none) [] b:=fun b i β e=>by cases e
 refine ⟨fun _=>False,fun _=>none,⟨?_,fun p hp=>(List.mem_append.1 hp).elim (gPairs_rel hg (fun _ _=>hnt _) p) (fun hp=>hkp p hp _ _),fun i=>.inl (hget_ge (by simp)),fun i j b hi=>?_,fun i β e=>(by cases e),fun i b hi=>?_,fun i β e=>(by cases e),Bel.refl _ _,fun k hk=>hk,rfl,fun p hp hb=>by have:=(hg.1 p hp).1;omega,hg.2⟩,fun i hi=>hi.elim⟩
 ·have reps_V:∀ (ds:List D) (us:List Value) (F:List Nat),reps w.heap false ds us F→VRels (fun _=>none) (NotTop (fun _=>none) []) w.heap (ds.map V.d) us:=by
   intro ds
   induction ds with
   |nil=>intro us F r;simp only [reps] at r;simp [VRels,r.1]
   |cons d ds ih=>
    intro us F r
    simp only [reps] at r
    obtain ⟨u,us',F1,F2,rfl,rfl,r1,r2⟩:=r
    simp only [List.map_cons,VRels,VRel]
    exact ⟨u,us',rfl,⟨F1,r1,fun b _=>hnt b⟩,ih us' F2 r2⟩
  have hargs:∀ (args:List AD) (us:List Value) (F:List Nat),areps w.heap false args us F→VRels (fun _=>none) (NotTop (fun _=>none) []) w.heap (args.map AD.toV) us:=by
   intro args
   induction args with
   |nil=>intro us F r;simp only [areps] at r;simp [VRels,r.1]
   |cons d ds ih=>
    intro us F r
    simp only [areps] at r
    obtain ⟨u,us',F1,F2,rfl,rfl,r1,r2⟩:=r
    simp only [List.map_cons,VRels]
    refine ⟨u,us',rfl,?_,ih us' F2 r2⟩
    cases d with
    |one d=>simp only [AD.toV,VRel];exact ⟨F1,r1,fun b _=>hnt b⟩
    |agg ds=>
     obtain ⟨vs,rfl,r1⟩:=r1
     simp only [AD.toV,VRel]
     exact ⟨vs,rfl,reps_V ds _ _ r1⟩
  have:=VRels_append (hargs args us F h) (VRels_replicate (φ:=fun _=>none) (T:=NotTop (fun _=>none) []) (h:=w.heap) (v:=.junk) (u:=undef) (by simp [VRel]) m)
  simpa using this
 ·obtain ⟨β,e,_⟩:=hi;cases e
 ·obtain ⟨β,e,_⟩:=hi;cases e
/-- THE LAW OF A FUNCTION, from what its code asks. -/
theorem pure_of' {f:FuncId} {fn:Func} {c:Code} {args res:List AD} (hf:P.funcs[f]?=some fn) (hb:fn.body=some c) (hcall:∀ (args:Array Value) (w:World),(callFunc f args).run P w=.ok (.enter f args) w) (hm:P.follows .mixedOrders=true) {m:Nat} (hn:fn.ntmps - args.length=m)
  {rs:List ResultVar} (hr:fn.results.toList=rs) (h0:adOks args→codeE P [] c ⟨args.map AD.toV++List.replicate m .junk,[]⟩ (retE P rs res) [] (retE P rs res)):PureCall P f args res:=by
 intro w us F hg ha
 have h:=h0 (areps_ok _ _ _ ha)
 clear h0
 subst hr
 have hlen:us.length=args.length:=by
  clear h hn
  induction args generalizing us F with
  |nil=>simp only [areps] at ha;simp [ha.1]
  |cons d ds ih=>
   simp only [areps] at ha
   obtain ⟨u,us',F1,F2,rfl,rfl,r1,r2⟩:=ha
   simp [ih us' F2 r2]
 have fin:∀ (σ:St) (a:Act) (w':World),retE P fn.results.toList res σ→RR (fun b=>w.heap.size≤b) w [] σ a w'→a.defers=[]∧∃ v,(results fn a.tmps).run P w'=.ok v w' ∧
   ∃ F',Bel (fun b=>w.heap.size≤b) w w'∧trep w'.heap true res v F'∧F'.Nodup∧∀ b ∈ F',w.heap.size≤b:=by
  rintro σ a w' hret ⟨Dm,φ,r,_⟩
  obtain ⟨v,F',h1,h2,h3,h4⟩:=retE_ok r hret
  exact ⟨r.de,v,h1,F',r.bel,h2,h3,fun b hb=>(h4 b hb).1⟩
 refine Does.enter (hcall _ _) (calls_of_wp hf hb ?_)
 refine codeE_ok (B:=fun b=>w.heap.size≤b) (w0:=w) (kp:=[]) (kv:=[]) rfl hm c _ (retE P fn.results.toList res) [] (retE P fn.results.toList res) _ _ w (fun σ a w' h' r'=>?_) (fun id σ a w' h' _=>h'.elim) (fun σ a w' h' r'=>?_) h ?_
 ·exact fin σ a w' h' r'
 ·exact fin σ a w' h' r'
 ·have:=init_R hg ha m [] (by simp)
  have hs:us.toArray.size=args.length:=by rw [List.size_toArray,hlen]
  rw [hs,hn];exact this
theorem pure_of {f:FuncId} {fn:Func} {c:Code} {args res:List AD} (hf:P.funcs[f]?=some fn) (hb:fn.body=some c) (hcall:∀ (args:Array Value) (w:World),(callFunc f args).run P w=.ok (.enter f args) w) (hm:P.follows .mixedOrders=true) {ts:List V}
  (hn:args.map AD.toV++List.replicate (fn.ntmps - args.length) .junk=ts) {rs:List ResultVar} (hr:fn.results.toList=rs) (h:adOks args→codeE P [] c ⟨ts,[]⟩ (retE P rs res) [] (retE P rs res)):PureCall P f args res:=
 pure_of' hf hb hcall hm rfl hr (by rw [hn];exact h)
def outM (r:Option (List AD×List Nat)) (res:List AD):Prop:=r=some (res,[])
theorem aVs_len {h:Array Obj} {o:Bool}:∀ (args:List AD) (us:List Value) (F:List Nat) (n:Nat),areps h o args us F→us.length=args.length∧(aVs args n).length=args.length
 |[],us,F,n,r=>by simp only [areps] at r;simp [r.1,aVs]
 |d::ds,us,F,n,r=>by
  simp only [areps] at r
  obtain ⟨u,us',F1,F2,rfl,rfl,r1,r2⟩:=r
  obtain ⟨h1,h2⟩:=aVs_len ds us' F2 (n + (aH d).length) r2
  simp [aVs,h1,h2]
def tupV (vs:List V):V:=match vs with|[v]=>v|vs=>.tup vs
def inlRet (P:Program) (rs:List ResultVar) (K:V→List H→Prop) (σ:St):Prop:=rvsE P σ rs fun vs=>K (tupV vs) σ.heap
theorem kp_vrels {φ:Phi} {T:Nat→Prop} {h:Array Obj} {vs:List V} {us:List Value} (r:VRels φ T h vs us):VRel φ T h (tupV vs) (if hl:us.length=1 then us[0] else .tuple us.toArray):=by
 have hl:=VRels_len _ _ r
 unfold tupV
 split
 ·rename_i v
  simp only [VRels] at r
  obtain ⟨u,us',rfl,r1,r2⟩:=r
  subst r2;simpa using r1
 ·rename_i hne
  rw [dif_neg (fun e=>by
   rw [hl] at e
   obtain ⟨x,hx⟩:=List.length_eq_one_iff.1 e
   exact hne x hx)]
  simp only [VRel]
  exact ⟨_,rfl,r⟩
theorem inl_of {f:FuncId} {fn:Func} {c:Code} {kv:List V} {hs:List H} {vs:List V} {K:V→List H→Prop} (hf:P.funcs[f]?=some fn) (hb:fn.body=some c) (hcall:∀ (args:Array Value) (w:World),(callFunc f args).run P w=.ok (.enter f args) w) (hm:P.follows .mixedOrders=true) {ts:List V}
  (hn:vs++List.replicate (fn.ntmps - vs.length) .junk=ts) {rs:List ResultVar} (hr:fn.results.toList=rs) (h:codeE P kv c ⟨ts,hs⟩ (inlRet P rs K) [] (inlRet P rs K)):InlCall P f kv hs vs K:=by
 intro B w0 kp us w hkv hR
 subst hr;subst hn
 have hlen:us.length=vs.length:=by
  obtain ⟨Dm,φ,r,_⟩:=hR
  have:=VRels_len _ _ r.tm
  simpa using this
 have fin:∀ (σ:St) (a:Act) (w':World),inlRet P fn.results.toList K σ→RR B w0 kp σ a w'→a.defers=[]∧∃ v,(results fn a.tmps).run P w'=.ok v w' ∧
   ∃ x hs',K x hs'∧RR B w0 kp ⟨[x],hs'⟩ ⟨#[v],[]⟩ w':=by
  rintro σ a w' hret ⟨Dm,φ,r,hD⟩
  obtain ⟨xs,ws,g1,hv,hu⟩:=rvsE_ok r _ _ hret
  refine ⟨r.de,if h:ws.length=1 then ws[0] else .tuple ws.toArray,?_,_,_,g1,Dm,φ,⟨?_,r.kp,r.hp,r.o1,r.o2,r.o3,r.dm,r.bel,r.bs,rfl,r.gb⟩,hD⟩
  ·rw [results_eq,Array.mapM_eq_mapM_toList]
   simp only [Sem.run_bind,Sem.run_map,hu]
   simp only [Result.andThen,List.size_toArray,Sem.run_pure]
   split<;>simp_all
  ·simp only [VRels]
   exact ⟨_,_,rfl,kp_vrels hv,rfl⟩
 refine Does.enter (hcall _ _) (calls_of_wp hf hb ?_)
 refine codeE_ok (B:=B) (w0:=w0) (kp:=kp) (kv:=kv) hkv hm c _ (inlRet P fn.results.toList K) [] (inlRet P fn.results.toList K) _ _ w (fun σ a w' h' r'=>?_) (fun id σ a w' h' _=>h'.elim) (fun σ a w' h' r'=>?_) h ?_
 ·exact fin σ a w' h' r'
 ·exact fin σ a w' h' r'
 ·obtain ⟨Dm,φ,r,hD⟩:=hR
  have hs':us.toArray.size=vs.length:=by rw [List.size_toArray,hlen]
  refine ⟨Dm,φ,⟨?_,r.kp,r.hp,r.o1,r.o2,r.o3,r.dm,r.bel,r.bs,rfl,r.gb⟩,hD⟩
  have:=VRels_append r.tm (VRels_replicate (φ:=φ) (T:=NotTop φ hs) (h:=w.heap) (v:=.junk) (u:=undef) (by simp [VRel]) (fn.ntmps - vs.length))
  rw [hs'];simpa using this
/-- A call that changes nothing but makes new entries, which are forgotten. -/
theorem InlCall.mono {f:FuncId} {kv:List V} {hs:List H} {vs:List V} {K K':V→List H→Prop} (h:InlCall P f kv hs vs K) (hk:∀ x hs',K x hs'→K' x hs'):InlCall P f kv hs vs K':=by
 intro B w0 kp us w hkv hR
 exact (h B w0 kp us w hkv hR).mono fun v w' ⟨x,hs',h1,h2⟩=>⟨x,hs',hk x hs' h1,h2⟩
variable {P:Program}
inductive Shut {α:Type} (a:α):Type where
 |mk
theorem nr {a b:Prop} (h:a=b):a=b:=h
def hide {α:Type} (K:α→Prop) (_:Shut K):α→Prop:=K
def hideP (A:Prop) (_:Shut A):Prop:=A
def hide2 {α β:Type} (K:α→β→Prop) (_:Shut K):α→β→Prop:=K
@[go_sem] theorem hide_app {α:Type} (K:α→Prop) (s:Shut K) (x:α):hide K s x=K x:=nr rfl
@[go_sem] theorem hide2_app {α β:Type} (K:α→β→Prop) (s:Shut K) (x:α) (y:β):hide2 K s x y=K x y:=nr rfl
section
variable {g:Bool} {K:V→Prop}
@[go_sem] theorem evg_d (x:D):evg g (.d x) K=K (.d x):=nr rfl
@[go_sem] theorem evg_nils (s:Nat):evg g (.nils s) K=K (.nils s):=nr rfl
@[go_sem] theorem evg_agg (vs:List V):evg g (.agg vs) K=K (.agg vs):=nr rfl
@[go_sem] theorem evg_ptr (a b c:Nat):evg g (.ptr a b c) K=K (.ptr a b c):=nr rfl
@[go_sem] theorem evg_rp (a:List D) (b:Nat):evg g (.rp a b) K=K (.rp a b):=nr rfl
@[go_sem] theorem evg_sl (a b c:Nat):evg g (.sl a b c) K=K (.sl a b c):=nr rfl
@[go_sem] theorem evg_fn (a:FuncId) (b:List V):evg g (.fn a b) K=K (.fn a b):=nr rfl
@[go_sem] theorem evg_tup (a:List V):evg g (.tup a) K=K (.tup a):=nr rfl
@[go_sem] theorem evg_gd (c:Bool) (v:V):evg g (.gd c v) K=((g=true→c=true)∧K v):=nr rfl
@[go_sem] theorem evg_junk:evg g .junk K=K .junk:=nr rfl
end
@[go_sem] theorem asB_d (b:Bool) (K:Bool→Prop):asB (.d (.bool b)) K=K b:=nr rfl
@[go_sem] theorem asI_d (k:IntKind) (n:Int) (K:IntKind→Int→Prop):asI (.d (.int k n)) K=K k n:=nr rfl
@[go_sem] theorem withR_some (p:Prop) (v:V) (K:V→Prop):withR (some (p,v)) K=(p∧K v):=nr rfl
@[go_sem] theorem withO_some (v:V) (K:V→Prop):withO (some v) K=K v:=nr rfl
@[go_sem] theorem withS_some (p:Prop) (r:Res) (K:Res→Prop):withS (some (p,r)) K=(p∧K r):=nr rfl
@[go_sem] theorem withN_some (n:Nat) (K:Nat→Prop):withN (some n) K=K n:=nr rfl
@[go_sem] theorem condE_true' (A B:Prop) (s:Shut A):condE true (hideP A s) B=A:=by simp [condE,hideP]
@[go_sem] theorem condE_false' (A B:Prop) (s:Shut B):condE false A (hideP B s)=B:=by simp [condE,hideP]
@[go_sem] theorem rep_junk (n:Nat):List.replicate (n + 1) V.junk=V.junk::List.replicate n V.junk:=rfl
def nth:List V→Nat→V
 |[],_=>.junk
 |v::_,0=>v
 |_::vs,n + 1=>nth vs n
theorem nth_getD:∀ (vs:List V) (n:Nat),vs.getD n .junk=nth vs n
 |[],n=>by simp [nth]
 |v::vs,0=>by simp [nth]
 |v::vs,n + 1=>by simpa [nth] using nth_getD vs n
@[go_sem] theorem nth_zero (v:V) (vs:List V):nth (v::vs) 0=v:=rfl
@[go_sem] theorem nth_succ (v:V) (vs:List V) (n:Nat):nth (v::vs) (n + 1)=nth vs n:=rfl
@[go_sem] theorem ev_tmp (ts:List V) (hs:List H) (t:Nat):St.ev ⟨ts,hs⟩ (.tmp t)=nth ts t:=nth_getD ts t
@[go_sem] theorem ev_const (σ:St) (v:Value):σ.ev (.const v)=ofVal v:=rfl
@[go_sem] theorem ev_func (σ:St) (f:FuncId):σ.ev (.func f)=.fn f []:=rfl
@[go_sem] theorem ofVal_i64 (n:Int):ofVal (.int .i64 n)=if -9223372036854775808≤n∧n≤9223372036854775807 then .d (.int .i64 n) else .junk:=by
 have h1:IntKind.i64.min=-9223372036854775808:=by decide
 have h2:IntKind.i64.max=9223372036854775807:=by decide
 simp only [ofVal,litOk,h1,h2,Bool.and_eq_true,decide_eq_true_eq]
@[go_sem] theorem ofVal_u8 (n:Int):ofVal (.int .u8 n)=if 0≤n∧n≤255 then .d (.int .u8 n) else .junk:=by
 have h1:IntKind.u8.min=0:=by decide
 have h2:IntKind.u8.max=255:=by decide
 simp only [ofVal,litOk,h1,h2,Bool.and_eq_true,decide_eq_true_eq]
theorem small_le {n:Nat} (h:n≤1000000):n≤maxLen:=by simp only [maxLen];omega
@[go_sem] theorem ofVal_str (l:List UInt8) (h:l.length≤1000000):ofVal (.string ⟨l.toArray⟩)=.d (.str l):=by
 have:=small_le h
 simp [ofVal,this]
@[go_sem] theorem ofVal_bool (b:Bool):ofVal (.bool b)=.d (.bool b):=rfl
@[go_sem] theorem ofVal_nil:ofVal (.slice none 0 0)=.nils 0:=rfl
@[go_sem] theorem hget_zero (x:H) (hs:List H):hget (x::hs) 0=x:=rfl
@[go_sem] theorem hget_succ (x:H) (hs:List H) (n:Nat):hget (x::hs) (n + 1)=hget hs n:=by simp [hget]
@[go_sem] theorem hget_nil (n:Nat):hget [] n=.dead:=by simp [hget]
@[go_sem] theorem hput_nil_zero (x:H):hput [] 0 x=[x]:=rfl
@[go_sem] theorem hput_nil_succ (n:Nat) (x:H):hput [] (n + 1) x=.dead::hput [] n x:=by
 unfold hput;simp [List.replicate_succ]
@[go_sem] theorem hput_zero (y:H) (ys:List H) (x:H):hput (y::ys) 0 x=x::ys:=by
 unfold hput;simp
@[go_sem] theorem hput_succ (y:H) (ys:List H) (n:Nat) (x:H):hput (y::ys) (n + 1) x=y::hput ys n x:=by
 unfold hput
 by_cases h:n < ys.length
 ·simp [h]
 ·simp [h]
@[go_sem] theorem hnew_nil (hs:List H) (n:Nat):hnew hs n []=hs:=rfl
@[go_sem] theorem hnew_cons (hs:List H) (n:Nat) (x:H) (xs:List H):hnew hs n (x::xs)=hnew (hput hs n x) (n + 1) xs:=rfl
@[go_sem] theorem hupd_nil (hs:List H):hupd hs []=hs:=rfl
@[go_sem] theorem hupd_cons (hs:List H) (i:Nat) (x:H) (r:List (Nat×H)):hupd hs ((i,x)::r)=hupd (hput hs i x) r:=rfl
@[go_sem] theorem app_rv (ts:List V) (hs:List H) (d:Tmp) (n:Nat) (v:V):St.app ⟨ts,hs⟩ (some d) n (rv v)=⟨ts.set d v,hs⟩:=rfl
@[go_sem] theorem app_rv_none (ts:List V) (hs:List H) (n:Nat) (v:V):St.app ⟨ts,hs⟩ none n (rv v)=⟨ts,hs⟩:=rfl
@[go_sem] theorem app_some (ts:List V) (hs:List H) (d:Tmp) (n:Nat) (v:V) (new:List H) (upd:List (Nat×H)):St.app ⟨ts,hs⟩ (some d) n ⟨v,new,upd⟩=⟨ts.set d v,hupd (hnew hs n new) upd⟩:=rfl
@[go_sem] theorem app_none (ts:List V) (hs:List H) (n:Nat) (v:V) (new:List H) (upd:List (Nat×H)):St.app ⟨ts,hs⟩ none n ⟨v,new,upd⟩=⟨ts,hupd (hnew hs n new) upd⟩:=rfl
@[go_sem] theorem set_zero (v w:V) (vs:List V):(v::vs).set 0 w=w::vs:=rfl
@[go_sem] theorem set_succ (v w:V) (vs:List V) (n:Nat):(v::vs).set (n + 1) w=v::vs.set n w:=rfl
section
variable {kv:List V} {σ:St} {K:St→Prop} {X:List (Nat×(St→Prop))} {Rt:St→Prop}
@[go_sem] theorem codeE_skip:codeE P kv .skip σ K X Rt=K σ:=nr rfl
@[go_sem] theorem codeE_region (id:Nat) (ops:List Oper):codeE P kv (.region id ops.toArray false) σ K X Rt=opsE P kv ops ops σ K:=by simp [codeE]
@[go_sem] theorem codeE_draw (id:Nat) (ops:Array Oper):codeE P kv (.region id ops true) σ K X Rt=drawX P kv ops σ K:=nr rfl
@[go_sem] theorem codeE_seq (a b:Code):codeE P kv (.seq a b) σ K X Rt=codeE P kv a σ (hide (fun σ'=>codeE P kv b σ' K X Rt) .mk) X Rt:=nr rfl
@[go_sem] theorem codeE_cond (c:Operand) (a b:Code):codeE P kv (.cond c a b) σ K X Rt=evg true (σ.ev c) (hide (fun v=>asB v (hide (fun t=>condE t (hideP (codeE P kv a σ K X Rt) .mk) (hideP (codeE P kv b σ K X Rt) .mk)) .mk)) .mk):=nr rfl
@[go_sem] theorem codeE_block (id:Nat) (c:Code):codeE P kv (.block id c) σ K X Rt=codeE P kv c σ K ((id,K)::X) Rt:=nr rfl
@[go_sem] theorem codeE_exit (id:Nat):codeE P kv (.exit id) σ K X Rt=outE X id σ:=nr rfl
@[go_sem] theorem codeE_ret:codeE P kv .ret σ K X Rt=Rt σ:=nr rfl
@[go_sem] theorem codeE_loop (c:Code):codeE P kv (.loop c) σ K X Rt=LoopK kv (hide2 (fun σ K'=>codeE P kv c σ K' X Rt) .mk) σ:=nr rfl
@[go_sem] theorem outE_nil (id:Nat):outE [] id σ=False:=nr rfl
@[go_sem] theorem outE_cons (i:Nat) (id:Nat):outE ((i,K)::X) id σ=if id=i then K σ else outE X id σ:=nr rfl
end
section
variable {σ:St} {ops:List Oper} {n:Nat} {K:Res→Prop}
@[go_sem] theorem opsE_nil (kv:List V) (K:St→Prop):opsE P kv ops [] σ K=K σ:=nr rfl
@[go_sem] theorem opsE_cons (kv:List V) (o:Oper) (rest:List Oper) (K:St→Prop):opsE P kv ops (o::rest) σ K=seqE P kv ops σ o (hide (fun σ'=>opsE P kv ops rest σ' K) .mk):=nr rfl
@[go_sem] theorem stepE_none (dst:Option Tmp) (op:Op) (T:TypeId) (pos:String) (after:Array Edge) (K:Res→Prop):stepE P ops σ n ⟨dst,op,T,pos,after,none⟩ K=opE P true σ n ⟨dst,op,T,pos,after,none⟩ K:=nr rfl
end
@[go_sem] theorem guE_b (b want:Bool) (K:Bool→Prop):guE (.d (.bool b)) want K=K (b == want):=nr rfl
@[go_sem] theorem guE_g (c b want:Bool) (K:Bool→Prop):guE (.gd c (.d (.bool b))) want K=K (c && (b == want)):=nr rfl
@[go_sem] theorem dstOf_zero (d:Tmp) (op:Op) (T:TypeId) (pos:String) (after:Array Edge) (g:Option (Nat×Bool)) (ops:List Oper) (K:Tmp→Prop):dstOf (⟨some d,op,T,pos,after,g⟩::ops) 0 K=K d:=nr rfl
@[go_sem] theorem dstOf_succ (o:Oper) (ops:List Oper) (j:Nat) (K:Tmp→Prop):dstOf (o::ops) (j + 1) K=dstOf ops j K:=by simp [dstOf]
@[go_sem] theorem stepE_some {σ:St} {ops:List Oper} {n:Nat} (dst:Option Tmp) (op:Op) (T:TypeId) (pos:String) (after:Array Edge) (j:Nat) (want:Bool) (K:Res→Prop) :
  stepE P ops σ n ⟨dst,op,T,pos,after,some (j,want)⟩ K=dstOf ops j (hide (fun d=>guE (σ.ev (.tmp d)) want (hide (fun g=>gStep P g σ n ⟨dst,op,T,pos,after,some (j,want)⟩ K) .mk)) .mk):=by
 unfold stepE dstOf hide
 simp only
 cases h:(ops[j]?).bind (·.dst) with
 |none=>rfl
 |some d=>
  simp only
  generalize σ.ev (.tmp d)=v
  unfold guE
  cases v with
  |d x=>cases x<;>rfl
  |gd c v=>cases v with
   |d x=>cases x<;>rfl
   |_=>rfl
  |_=>rfl
section
variable {kv:List V} {σ:St} {ops:List Oper} {dst:Option Tmp} {T:TypeId} {pos:String} {after:Array Edge} {K:St→Prop}
@[go_sem] theorem seqE_some (op:Op) (j:Nat) (want:Bool):seqE P kv ops σ ⟨dst,op,T,pos,after,some (j,want)⟩ K=dstOf ops j (hide (fun d=>guE (σ.ev (.tmp d)) want (hide (fun g=>gStepS P kv g σ ⟨dst,op,T,pos,after,some (j,want)⟩ K) .mk)) .mk):=nr rfl
@[go_sem] theorem seqE_none (op:Op):seqE P kv ops σ ⟨dst,op,T,pos,after,none⟩ K=bareE P kv σ ⟨dst,op,T,pos,after,none⟩ K:=nr rfl
@[go_sem] theorem bareE_move (x:Operand) (gd:Option (Nat×Bool)):bareE P kv σ ⟨dst,.move x,T,pos,after,gd⟩ K=opE P true σ σ.heap.length ⟨dst,.move x,T,pos,after,gd⟩ (hide (fun r=>K (σ.app dst σ.heap.length r)) .mk):=nr rfl
@[go_sem] theorem bareE_assign (x:Operand) (gd:Option (Nat×Bool)):bareE P kv σ ⟨dst,.assign x,T,pos,after,gd⟩ K=opE P true σ σ.heap.length ⟨dst,.assign x,T,pos,after,gd⟩ (hide (fun r=>K (σ.app dst σ.heap.length r)) .mk):=nr rfl
@[go_sem] theorem bareE_pick (c x y:Operand) (gd:Option (Nat×Bool)):bareE P kv σ ⟨dst,.pick c x y,T,pos,after,gd⟩ K=opE P true σ σ.heap.length ⟨dst,.pick c x y,T,pos,after,gd⟩ (hide (fun r=>K (σ.app dst σ.heap.length r)) .mk):=nr rfl
@[go_sem] theorem bareE_bin (op:BinOp) (U U2:TypeId) (x y:Operand) (gd:Option (Nat×Bool)):bareE P kv σ ⟨dst,.binOp op U x y U2,T,pos,after,gd⟩ K=opE P true σ σ.heap.length ⟨dst,.binOp op U x y U2,T,pos,after,gd⟩ (hide (fun r=>K (σ.app dst σ.heap.length r)) .mk):=nr rfl
@[go_sem] theorem bareE_un (op:UnOp) (U:TypeId) (x:Operand) (gd:Option (Nat×Bool)):bareE P kv σ ⟨dst,.unOp op U x,T,pos,after,gd⟩ K=opE P true σ σ.heap.length ⟨dst,.unOp op U x,T,pos,after,gd⟩ (hide (fun r=>K (σ.app dst σ.heap.length r)) .mk):=nr rfl
@[go_sem] theorem bareE_ext (x:Operand) (i:Nat) (gd:Option (Nat×Bool)):bareE P kv σ ⟨dst,.extract x i,T,pos,after,gd⟩ K=opE P true σ σ.heap.length ⟨dst,.extract x i,T,pos,after,gd⟩ (hide (fun r=>K (σ.app dst σ.heap.length r)) .mk):=nr rfl
@[go_sem] theorem bareE_nilCheck (x:Operand) (gd:Option (Nat×Bool)):bareE P kv σ ⟨dst,.nilCheck x,T,pos,after,gd⟩ K=opE P true σ σ.heap.length ⟨dst,.nilCheck x,T,pos,after,gd⟩ (hide (fun r=>K (σ.app dst σ.heap.length r)) .mk):=nr rfl
@[go_sem] theorem bareE_fieldAddr (S:TypeId) (x:Operand) (f:Nat) (gd:Option (Nat×Bool)):bareE P kv σ ⟨dst,.fieldAddr S x f,T,pos,after,gd⟩ K=opE P true σ σ.heap.length ⟨dst,.fieldAddr S x f,T,pos,after,gd⟩ (hide (fun r=>K (σ.app dst σ.heap.length r)) .mk):=nr rfl
@[go_sem] theorem bareE_indexAddr (U:TypeId) (x ix:Operand) (gd:Option (Nat×Bool)):bareE P kv σ ⟨dst,.indexAddr U x ix,T,pos,after,gd⟩ K=opE P true σ σ.heap.length ⟨dst,.indexAddr U x ix,T,pos,after,gd⟩ (hide (fun r=>K (σ.app dst σ.heap.length r)) .mk):=nr rfl
@[go_sem] theorem bareE_load (U:TypeId) (x:Operand) (gd:Option (Nat×Bool)):bareE P kv σ ⟨dst,.load U x,T,pos,after,gd⟩ K=opE P true σ σ.heap.length ⟨dst,.load U x,T,pos,after,gd⟩ (hide (fun r=>K (σ.app dst σ.heap.length r)) .mk):=nr rfl
@[go_sem] theorem bareE_index (U:TypeId) (x ix:Operand) (gd:Option (Nat×Bool)):bareE P kv σ ⟨dst,.index U x ix,T,pos,after,gd⟩ K=opE P true σ σ.heap.length ⟨dst,.index U x ix,T,pos,after,gd⟩ (hide (fun r=>K (σ.app dst σ.heap.length r)) .mk):=nr rfl
@[go_sem] theorem bareE_slice (U:TypeId) (x:Operand) (lo hi mx:Option Operand) (gd:Option (Nat×Bool)):bareE P kv σ ⟨dst,.slice U x lo hi mx,T,pos,after,gd⟩ K=opE P true σ σ.heap.length ⟨dst,.slice U x lo hi mx,T,pos,after,gd⟩ (hide (fun r=>K (σ.app dst σ.heap.length r)) .mk):=nr rfl
@[go_sem] theorem bareE_convert (S U:TypeId) (x:Operand) (gd:Option (Nat×Bool)):bareE P kv σ ⟨dst,.convert S U x,T,pos,after,gd⟩ K=opE P true σ σ.heap.length ⟨dst,.convert S U x,T,pos,after,gd⟩ (hide (fun r=>K (σ.app dst σ.heap.length r)) .mk):=nr rfl
@[go_sem] theorem bareE_build (U:TypeId) (parts:Array (Nat×Operand)) (gd:Option (Nat×Bool)):bareE P kv σ ⟨dst,.build U parts,T,pos,after,gd⟩ K=opE P true σ σ.heap.length ⟨dst,.build U parts,T,pos,after,gd⟩ (hide (fun r=>K (σ.app dst σ.heap.length r)) .mk):=nr rfl
@[go_sem] theorem bareE_alloc (U:TypeId) (gd:Option (Nat×Bool)):bareE P kv σ ⟨dst,.alloc U,T,pos,after,gd⟩ K=opE P true σ σ.heap.length ⟨dst,.alloc U,T,pos,after,gd⟩ (hide (fun r=>K (σ.app dst σ.heap.length r)) .mk):=nr rfl
@[go_sem] theorem bareE_box (U:TypeId) (x:Operand) (gd:Option (Nat×Bool)):bareE P kv σ ⟨dst,.box U x,T,pos,after,gd⟩ K=opE P true σ σ.heap.length ⟨dst,.box U x,T,pos,after,gd⟩ (hide (fun r=>K (σ.app dst σ.heap.length r)) .mk):=nr rfl
@[go_sem] theorem bareE_store (U:TypeId) (p x:Operand) (gd:Option (Nat×Bool)):bareE P kv σ ⟨dst,.store U p x,T,pos,after,gd⟩ K=opE P true σ σ.heap.length ⟨dst,.store U p x,T,pos,after,gd⟩ (hide (fun r=>K (σ.app dst σ.heap.length r)) .mk):=nr rfl
@[go_sem] theorem bareE_buildSlice (U:TypeId) (len:Nat) (parts:Array (Nat×Operand)) (gd:Option (Nat×Bool)):bareE P kv σ ⟨dst,.buildSlice U len parts,T,pos,after,gd⟩ K=opE P true σ σ.heap.length ⟨dst,.buildSlice U len parts,T,pos,after,gd⟩ (hide (fun r=>K (σ.app dst σ.heap.length r)) .mk):=nr rfl
@[go_sem] theorem bareE_makeSlice (U:TypeId) (x y:Operand) (gd:Option (Nat×Bool)):bareE P kv σ ⟨dst,.makeSlice U x y,T,pos,after,gd⟩ K=opE P true σ σ.heap.length ⟨dst,.makeSlice U x y,T,pos,after,gd⟩ (hide (fun r=>K (σ.app dst σ.heap.length r)) .mk):=nr rfl
@[go_sem] theorem bareE_builtin (b:Builtin) (xs:Array Operand) (ts:Array TypeId) (gd:Option (Nat×Bool)):bareE P kv σ ⟨dst,.call ⟨.builtin b,xs,ts⟩,T,pos,after,gd⟩ K=opE P true σ σ.heap.length ⟨dst,.call ⟨.builtin b,xs,ts⟩,T,pos,after,gd⟩ (hide (fun r=>K (σ.app dst σ.heap.length r)) .mk):=nr rfl
@[go_sem] theorem bareE_call (x:Operand) (xs:List Operand) (ts:Array TypeId) (gd:Option (Nat×Bool)):bareE P kv σ ⟨dst,.call ⟨.value x,xs.toArray,ts⟩,T,pos,after,gd⟩ K=evg true (σ.ev x) (hide (fun fv=>fnE fv (hide2 (fun f caps=>evs true σ xs (hide (fun vs=>CallS P kv σ dst f caps (toADs σ.heap vs) vs K) .mk)) .mk)) .mk):=nr rfl
@[go_sem] theorem fnE_fn (f:FuncId) (caps:List V) (K:FuncId→List V→Prop):fnE (.fn f caps) K=K f caps:=nr rfl
attribute [go_sem] setD
theorem CallS.intro {f:FuncId} {as rs:List AD} {vs:List V} (h:PureCall P f as rs) (hk:K (σ.app dst σ.heap.length ⟨tV rs σ.heap.length,aHs rs,[]⟩)):CallS P kv σ dst f [] (some as) vs K:=.inl ⟨rfl,.inl (.inl ⟨as,rs,rfl,h,hk⟩)⟩
/-- The results are memory that nobody looks into. -/
theorem CallS.cln {f:FuncId} {as rs:List AD} {vs:List V} (h:PureCall P f as rs) (hk:K (σ.app dst σ.heap.length ⟨tV rs σ.heap.length,(aHs rs).map H.toCln,[]⟩)):CallS P kv σ dst f [] (some as) vs K:=.inl ⟨rfl,.inl (.inr ⟨as,rs,rfl,h,hk⟩)⟩
theorem CallS.inl {f:FuncId} {caps vs:List V} {ao:Option (List AD)} (h:InlCall P f (σ.tmps++kv) σ.heap (vs++caps) (hide2 (fun x hs=>K ⟨setD σ.tmps dst x,hs⟩) .mk)):CallS P kv σ dst f caps ao vs K:=.inr ⟨σ.tmps,jle_refl _,h⟩
/-- .. of the caller's values only some are kept. -/
theorem CallS.inlK (ks:List Nat) {f:FuncId} {caps vs ts:List V} {ao:Option (List AD)} (ht:keepT ks 0 σ.tmps=ts) (h:InlCall P f (ts++kv) σ.heap (vs++caps) (hide2 (fun x hs=>K ⟨setD ts dst x,hs⟩) .mk)):CallS P kv σ dst f caps ao vs K:=.inr ⟨ts,by rw [← ht];exact jle_keep ks 0 _,h⟩
theorem gSymS {g:Bool} {o:Oper} (h:opE P g σ σ.heap.length o (hide (fun r=>r.new=[]∧r.upd=[]∧K (σ.app o.dst σ.heap.length (rv (.gd g r.v)))) .mk)):gStepS P kv g σ o K:=.inl (gStep_sym h)
theorem gTrueS {o:Oper} (h:bareE P kv σ o K):gStepS P kv true σ o K:=.inr ⟨fun _=>h,fun e=>(by cases e)⟩
theorem gFalseS {o:Oper} (h:K (σ.app o.dst σ.heap.length (rv (.gd false (.d (.bool false)))))):gStepS P kv false σ o K:=.inr ⟨fun e=>(by cases e),fun _=>h⟩
end
section
variable {g:Bool} {σ:St} {n:Nat} {dst:Option Tmp} {T:TypeId} {pos:String} {after:Array Edge} {gd:Option (Nat×Bool)} {K:Res→Prop}
@[go_sem] theorem opE_move (x:Operand):opE P g σ n ⟨dst,.move x,T,pos,after,gd⟩ K=evg g (σ.ev x) (hide (fun v=>K (rv (fixT P T v))) .mk):=nr rfl
@[go_sem] theorem opE_assign (x:Operand):opE P g σ n ⟨dst,.assign x,T,pos,after,gd⟩ K=evg g (σ.ev x) (hide (fun v=>K (rv (fixT P T v))) .mk):=nr rfl
@[go_sem] theorem opE_pick (c x y:Operand):opE P g σ n ⟨dst,.pick c x y,T,pos,after,gd⟩ K=pickE g (σ.ev c) (σ.ev x) (σ.ev y) (hide (fun v=>K (rv v)) .mk):=nr rfl
@[go_sem] theorem opE_bin (op:BinOp) (U U':TypeId) (x y:Operand):opE P g σ n ⟨dst,.binOp op U x y U',T,pos,after,gd⟩ K=evg g (σ.ev x) (hide (fun a=>evg g (σ.ev y) (hide (fun b=>withR (binE P op U a b) (hide (fun v=>K (rv v)) .mk)) .mk)) .mk):=nr rfl
@[go_sem] theorem opE_un (op:UnOp) (U:TypeId) (x:Operand):opE P g σ n ⟨dst,.unOp op U x,T,pos,after,gd⟩ K=evg g (σ.ev x) (hide (fun a=>withO (unE op a) (hide (fun v=>K (rv v)) .mk)) .mk):=nr rfl
@[go_sem] theorem opE_ext (x:Operand) (i:Nat):opE P g σ n ⟨dst,.extract x i,T,pos,after,gd⟩ K=evg g (σ.ev x) (hide (fun a=>withO (extE a i) (hide (fun v=>K (rv v)) .mk)) .mk):=nr rfl
@[go_sem] theorem opE_nilCheck (x:Operand):opE P g σ n ⟨dst,.nilCheck x,T,pos,after,gd⟩ K=evg g (σ.ev x) (hide (fun a=>ptrE a=true∧K (rv a)) .mk):=nr rfl
@[go_sem] theorem opE_fieldAddr (S:TypeId) (x:Operand) (f:Nat):opE P g σ n ⟨dst,.fieldAddr S x f,T,pos,after,gd⟩ K=evg g (σ.ev x) (hide (fun a=>withO (faE P S f a) (hide (fun v=>K (rv v)) .mk)) .mk):=nr rfl
@[go_sem] theorem opE_indexAddr (U:TypeId) (x ix:Operand):opE P g σ n ⟨dst,.indexAddr U x ix,T,pos,after,gd⟩ K=evg g (σ.ev x) (hide (fun a=>evg g (σ.ev ix) (hide (fun b=>asI b (hide2 (fun _ i=>withR (iaE P σ.heap U a i) (hide (fun v=>K (rv v)) .mk)) .mk)) .mk)) .mk):=nr rfl
@[go_sem] theorem opE_load (U:TypeId) (x:Operand):opE P g σ n ⟨dst,.load U x,T,pos,after,gd⟩ K=evg g (σ.ev x) (hide (fun a=>withR (loadE P σ.heap U a) (hide (fun v=>K (rv v)) .mk)) .mk):=nr rfl
@[go_sem] theorem opE_index (U:TypeId) (x ix:Operand):opE P g σ n ⟨dst,.index U x ix,T,pos,after,gd⟩ K=evg g (σ.ev x) (hide (fun a=>evg g (σ.ev ix) (hide (fun b=>asI b (hide2 (fun _ i=>withR (ixE P U a i) (hide (fun v=>K (rv v)) .mk)) .mk)) .mk)) .mk):=nr rfl
@[go_sem] theorem opE_slice (U:TypeId) (x:Operand) (lo hi:Option Operand):opE P g σ n ⟨dst,.slice U x lo hi none,T,pos,after,gd⟩ K=evg g (σ.ev x) (hide (fun a=>bndE g σ 0 lo (hide (fun l=>bndE g σ (lenOfV a) hi (hide (fun h=>withR (cutE P σ.heap U a l h) (hide (fun v=>K (rv v)) .mk)) .mk)) .mk)) .mk):=nr rfl
@[go_sem] theorem opE_convert (S U:TypeId) (x:Operand):opE P g σ n ⟨dst,.convert S U x,T,pos,after,gd⟩ K=evg g (σ.ev x) (hide (fun a=>withR (cvE P σ.heap S U a) (hide (fun v=>K (rv v)) .mk)) .mk):=nr rfl
@[go_sem] theorem opE_build (U:TypeId) (parts:List (Nat×Operand)):opE P g σ n ⟨dst,.build U parts.toArray,T,pos,after,gd⟩ K=evParts g σ parts (hide (fun ps=>withO (bldE P U ps) (hide (fun v=>K (rv v)) .mk)) .mk):=by simp [opE,hide]
@[go_sem] theorem opE_alloc (U:TypeId):opE P g σ n ⟨dst,.alloc U,T,pos,after,gd⟩ K=withO ((zrI P U).map V.agg) (hide (fun v=>K ⟨.ptr n 0 0,[.box v.cells],[]⟩) .mk):=nr rfl
@[go_sem] theorem opE_box (U:TypeId) (x:Operand):opE P g σ n ⟨dst,.box U x,T,pos,after,gd⟩ K=evg g (σ.ev x) (hide (fun v=>v.cellsOk=true∧K ⟨.ptr n 0 0,[.box v.cells],[]⟩) .mk):=nr rfl
@[go_sem] theorem opE_store (U:TypeId) (p x:Operand):opE P g σ n ⟨dst,.store U p x,T,pos,after,gd⟩ K=evg g (σ.ev p) (hide (fun q=>evg g (σ.ev x) (hide (fun v=>withS ((storeE P σ.heap U q (fixT P U v)).map fun (c,upd)=>(c,⟨.junk,[],upd⟩)) K) .mk)) .mk):=nr rfl
@[go_sem] theorem opE_buildSlice (U:TypeId) (len:Nat) (parts:List (Nat×Operand)):opE P g σ n ⟨dst,.buildSlice U len parts.toArray,T,pos,after,gd⟩ K=evParts g σ parts (hide (fun ps=>withS (bsE P σ.heap U len ps n) K) .mk):=by simp [opE,hide]
@[go_sem] theorem opE_makeSlice (U:TypeId) (x y:Operand):opE P g σ n ⟨dst,.makeSlice U x y,T,pos,after,gd⟩ K=(x=y∧evg g (σ.ev x) (hide (fun v=>asI v (hide2 (fun _ i=>withS (mkE P U i n) K) .mk)) .mk)):=nr rfl
@[go_sem] theorem opE_makeFunc (f:FuncId) (caps:List Operand):opE P g σ n ⟨dst,.makeFunc (.func f) #[] caps.toArray,T,pos,after,gd⟩ K=evs g σ caps (hide (fun vs=>K (rv (.fn f vs))) .mk):=by simp [opE,hide]
@[go_sem] theorem opE_call (c:Callee) (xs:List Operand) (ts:List TypeId):opE P g σ n ⟨dst,.call ⟨c,xs.toArray,ts.toArray⟩,T,pos,after,gd⟩ K=callE P g σ n c xs ts K:=by simp only [opE]
@[go_sem] theorem callE_len (x:Operand) (U:TypeId):callE P g σ n (.builtin .len) [x] [U] K=evg g (σ.ev x) (hide (fun a=>withN (lenE P U a) (hide (fun m=>K (rv (dI .i64 m))) .mk)) .mk):=nr rfl
@[go_sem] theorem callE_append (x y:Operand) (U U':TypeId):callE P g σ n (.builtin .append) [x,y] [U,U'] K=(U=U'∧evg g (σ.ev x) (hide (fun a=>evg g (σ.ev y) (hide (fun b=>withS (apI P σ.heap U a b n) K) .mk)) .mk)):=nr rfl
@[go_sem] theorem callE_min (x y:Operand) (U U':TypeId):callE P g σ n (.builtin .min) [x,y] [U,U'] K=evg g (σ.ev x) (hide (fun a=>evg g (σ.ev y) (hide (fun b=>asI a (hide2 (fun k i=>asI b (hide2 (fun k' j=>k=k'∧K (rv (dI k (if j < i then j else i)))) .mk)) .mk)) .mk)) .mk):=nr rfl
@[go_sem] theorem callE_max (x y:Operand) (U U':TypeId):callE P g σ n (.builtin .max) [x,y] [U,U'] K=evg g (σ.ev x) (hide (fun a=>evg g (σ.ev y) (hide (fun b=>asI a (hide2 (fun k i=>asI b (hide2 (fun k' j=>k=k'∧K (rv (dI k (if j > i then j else i)))) .mk)) .mk)) .mk)) .mk):=nr rfl
@[go_sem] theorem callE_tmp (t:Tmp) (xs:List Operand) (ts:List TypeId):callE P g σ n (.value (.tmp t)) xs ts K=evg g (σ.ev (.tmp t)) (hide (fun fv=>fnE fv (hide2 (fun f caps=>caps=[]∧evs g σ xs (hide (fun vs=>CallK P f (toADs σ.heap vs) σ.heap vs n K) .mk)) .mk)) .mk):=by unfold callE;rfl
@[go_sem] theorem callE_func (f:FuncId) (xs:List Operand) (ts:List TypeId):callE P g σ n (.value (.func f)) xs ts K=evs g σ xs (hide (fun vs=>CallK P f (toADs σ.heap vs) σ.heap vs n K) .mk):=by unfold callE;rfl
end
section
variable {g:Bool} {σ:St}
@[go_sem] theorem evs_nil (K:List V→Prop):evs g σ [] K=K []:=nr rfl
@[go_sem] theorem evs_cons (x:Operand) (xs:List Operand) (K:List V→Prop):evs g σ (x::xs) K=evg g (σ.ev x) (hide (fun v=>evs g σ xs (hide (fun vs=>K (v::vs)) .mk)) .mk):=nr rfl
@[go_sem] theorem evParts_nil (K:List (Nat×V)→Prop):evParts g σ [] K=K []:=nr rfl
@[go_sem] theorem evParts_cons (i:Nat) (x:Operand) (xs:List (Nat×Operand)) (K:List (Nat×V)→Prop):evParts g σ ((i,x)::xs) K=evg g (σ.ev x) (hide (fun v=>evParts g σ xs (hide (fun vs=>K ((i,v)::vs)) .mk)) .mk):=nr rfl
@[go_sem] theorem bndE_none (d:Nat) (K:Nat→Prop):bndE g σ d none K=K d:=nr rfl
@[go_sem] theorem bndE_some (d:Nat) (x:Operand) (K:Nat→Prop):bndE g σ d (some x) K=evg g (σ.ev x) (hide (fun v=>asI v (hide2 (fun _ i=>0≤i∧K i.toNat) .mk)) .mk):=nr rfl
@[go_sem] theorem rvsE_nil (K:List V→Prop):rvsE P σ [] K=K []:=nr rfl
@[go_sem] theorem rvsE_cons (r:ResultVar) (rs:List ResultVar) (K:List V→Prop):rvsE P σ (r::rs) K=rvE P σ r (hide (fun v=>rvsE P σ rs (hide (fun vs=>K (v::vs)) .mk)) .mk):=nr rfl
@[go_sem] theorem rvE_tmp (t:Tmp) (K:V→Prop):rvE P σ (.tmp t) K=K (σ.ev (.tmp t)):=nr rfl
@[go_sem] theorem rvE_cell (t:Tmp) (T:TypeId) (K:V→Prop):rvE P σ (.cell t T) K=evg true (σ.ev (.tmp t)) (hide (fun v=>withR (loadE P σ.heap T v) K) .mk):=nr rfl
@[go_sem] theorem retE_eq (rs:List ResultVar) (res:List AD):retE P rs res σ=rvsE P σ rs (hide (fun vs=>outOA (toOAs σ.heap vs) res) .mk):=nr rfl
@[go_sem] theorem outOA_some (as:List AD) (ids:List Nat) (res:List AD):outOA (some (as,ids)) res=(ids.Nodup∧as=res):=nr rfl
end
@[go_sem] theorem fixT_d (T:TypeId) (x:D):fixT P T (.d x)=.d x:=rfl
@[go_sem] theorem fixT_agg (T:TypeId) (x:List V):fixT P T (.agg x)=.agg x:=rfl
@[go_sem] theorem fixT_ptr (T:TypeId) (a b c:Nat):fixT P T (.ptr a b c)=.ptr a b c:=rfl
@[go_sem] theorem fixT_rp (T:TypeId) (a:List D) (b:Nat):fixT P T (.rp a b)=.rp a b:=rfl
@[go_sem] theorem fixT_sl (T:TypeId) (a b c:Nat):fixT P T (.sl a b c)=.sl a b c:=rfl
@[go_sem] theorem fixT_fn (T:TypeId) (a:FuncId) (b:List V):fixT P T (.fn a b)=.fn a b:=rfl
@[go_sem] theorem fixT_tup (T:TypeId) (b:List V):fixT P T (.tup b)=.tup b:=rfl
@[go_sem] theorem fixT_gd (T:TypeId) (c:Bool) (v:V):fixT P T (.gd c v)=.gd c v:=rfl
@[go_sem] theorem fixT_junk (T:TypeId):fixT P T .junk=.junk:=rfl
@[go_sem] theorem fixT_nils (T:TypeId) (s:Nat):fixT P T (.nils s)=.nils (match elI P T with|some (_,sz,_)=>sz|none=>s):=rfl
@[go_sem] theorem pickE_b (g:Bool) (c a b:Bool) (K:V→Prop):pickE g (.d (.bool c)) (.d (.bool a)) (.d (.bool b)) K=K (.d (.bool (bif c then a else b))):=nr rfl
@[go_sem] theorem pickE_g2 (g:Bool) (c a:Bool) (cb b:Bool) (K:V→Prop):pickE g (.d (.bool c)) (.d (.bool a)) (.gd cb (.d (.bool b))) K=(((g && !c)=true→cb=true)∧K (.d (.bool (bif c then a else b)))):=nr rfl
@[go_sem] theorem pickE_g1 (g:Bool) (c a:Bool) (ca b:Bool) (K:V→Prop):pickE g (.d (.bool c)) (.gd ca (.d (.bool a))) (.d (.bool b)) K=(((g && c)=true→ca=true)∧K (.d (.bool (bif c then a else b)))):=nr rfl
@[go_sem] theorem pickE_gg (g:Bool) (cc c:Bool) (a b:V) (K:V→Prop):pickE g (.gd cc (.d (.bool c))) a b K=((g=true→cc=true)∧evg (g && c) a (hide (fun a=>asB a (hide (fun y=>evg (g && !c) b (hide (fun b=>asB b (hide (fun z=>K (.d (.bool (bif c then y else z)))) .mk)) .mk)) .mk)) .mk)):=nr rfl
@[go_sem] theorem binE_add (T:TypeId) (k:IntKind) (a b:Int):binE P .add T (.d (.int k a)) (.d (.int k b))=some (True,.d (.int k (k.wrap (a + b)))):=by simp [binE,binI]
@[go_sem] theorem binE_sub (T:TypeId) (k:IntKind) (a b:Int):binE P .sub T (.d (.int k a)) (.d (.int k b))=some (True,.d (.int k (k.wrap (a - b)))):=by simp [binE,binI]
@[go_sem] theorem binE_mul (T:TypeId) (k:IntKind) (a b:Int):binE P .mul T (.d (.int k a)) (.d (.int k b))=some (True,.d (.int k (k.wrap (a * b)))):=by simp [binE,binI]
@[go_sem] theorem binE_quo (T:TypeId) (k:IntKind) (a b:Int):binE P .quo T (.d (.int k a)) (.d (.int k b))=some (b≠0,.d (.int k (k.wrap (a.tdiv b)))):=by simp [binE,binI]
@[go_sem] theorem binE_rem (T:TypeId) (k:IntKind) (a b:Int):binE P .rem T (.d (.int k a)) (.d (.int k b))=some (b≠0,.d (.int k (a.tmod b))):=by simp [binE,binI]
@[go_sem] theorem binE_and (T:TypeId) (k:IntKind) (a b:Int):binE P .and T (.d (.int k a)) (.d (.int k b))=some (True,.d (.int k (bitI .and k a b))):=by simp [binE,binI]
@[go_sem] theorem binE_or (T:TypeId) (k:IntKind) (a b:Int):binE P .or T (.d (.int k a)) (.d (.int k b))=some (True,.d (.int k (bitI .or k a b))):=by simp [binE,binI]
@[go_sem] theorem binE_xor (T:TypeId) (k:IntKind) (a b:Int):binE P .xor T (.d (.int k a)) (.d (.int k b))=some (True,.d (.int k (bitI .xor k a b))):=by simp [binE,binI]
@[go_sem] theorem binE_eql (T:TypeId) (k:IntKind) (a b:Int):binE P .eql T (.d (.int k a)) (.d (.int k b))=some (True,.d (.bool (decide (a=b)))):=by simp [binE,binI];rfl
@[go_sem] theorem binE_neq (T:TypeId) (k:IntKind) (a b:Int):binE P .neq T (.d (.int k a)) (.d (.int k b))=some (True,.d (.bool (decide (a≠b)))):=by simp [binE,binI,bne];rfl
@[go_sem] theorem binE_lss (T:TypeId) (k:IntKind) (a b:Int):binE P .lss T (.d (.int k a)) (.d (.int k b))=some (True,.d (.bool (decide (a < b)))):=by simp [binE,binI]
@[go_sem] theorem binE_leq (T:TypeId) (k:IntKind) (a b:Int):binE P .leq T (.d (.int k a)) (.d (.int k b))=some (True,.d (.bool (decide (a≤b)))):=by simp [binE,binI]
@[go_sem] theorem binE_gtr (T:TypeId) (k:IntKind) (a b:Int):binE P .gtr T (.d (.int k a)) (.d (.int k b))=some (True,.d (.bool (decide (b < a)))):=by simp [binE,binI]
@[go_sem] theorem binE_geq (T:TypeId) (k:IntKind) (a b:Int):binE P .geq T (.d (.int k a)) (.d (.int k b))=some (True,.d (.bool (decide (b≤a)))):=by simp [binE,binI]
@[go_sem] theorem binE_shl (T:TypeId) (k k':IntKind) (a b:Int):binE P .shl T (.d (.int k a)) (.d (.int k' b))=shI .shl k a b:=rfl
@[go_sem] theorem binE_shr (T:TypeId) (k k':IntKind) (a b:Int):binE P .shr T (.d (.int k a)) (.d (.int k' b))=shI .shr k a b:=rfl
@[go_sem] theorem binE_sadd (T:TypeId) (a b:List UInt8):binE P .add T (.d (.str a)) (.d (.str b))=binS .add a b:=rfl
@[go_sem] theorem binE_seql (T:TypeId) (a b:List UInt8):binE P .eql T (.d (.str a)) (.d (.str b))=binS .eql a b:=rfl
@[go_sem] theorem binE_sneq (T:TypeId) (a b:List UInt8):binE P .neq T (.d (.str a)) (.d (.str b))=binS .neq a b:=rfl
@[go_sem] theorem binS_add (a b:List UInt8):binS .add a b=some (a.length + b.length≤maxLen,.d (.str (a++b))):=rfl
@[go_sem] theorem binS_eql (a b:List UInt8):binS .eql a b=some (True,.d (.bool (decide (a=b)))):=by
 have:(a == b)=decide (a=b):=by rw [Bool.eq_iff_iff];simp
 simp only [binS,this]
@[go_sem] theorem binS_neq (a b:List UInt8):binS .neq a b=some (True,.d (.bool (decide (a≠b)))):=by
 have:(a != b)=decide (a≠b):=by rw [Bool.eq_iff_iff];simp
 simp only [binS,this]
@[go_sem] theorem binE_beql (T:TypeId) (a b:Bool):binE P .eql T (.d (.bool a)) (.d (.bool b))=if isBoolI P T then some (True,.d (.bool (a == b))) else none:=rfl
@[go_sem] theorem binE_bneq (T:TypeId) (a b:Bool):binE P .neq T (.d (.bool a)) (.d (.bool b))=if isBoolI P T then some (True,.d (.bool (a != b))) else none:=rfl
@[go_sem] theorem binE_aeql (T:TypeId) (xs ys:List V):binE P .eql T (.agg xs) (.agg ys)=(eqCells xs ys).map fun b=>(EqOK P T (kindsV xs),.d (.bool b)):=by simp only [binE];cases eqCells xs ys<;>rfl
@[go_sem] theorem binE_aneq (T:TypeId) (xs ys:List V):binE P .neq T (.agg xs) (.agg ys)=(eqCells xs ys).map fun b=>(EqOK P T (kindsV xs),.d (.bool !b)):=by simp only [binE];cases eqCells xs ys<;>rfl
@[go_sem] theorem binE_peql (T:TypeId) (id idx off off':Nat):binE P .eql T (.ptr id idx off) (.ptr id idx off')=if isPtrI P T=true then some (True,.d (.bool (decide (off=off')))) else none:=by simp [binE,dB]
attribute [go_sem] eqCells eqD kindsV
@[go_sem] theorem unE_not (b:Bool):unE .not (.d (.bool b))=some (.d (.bool !b)):=rfl
@[go_sem] theorem unE_neg (k:IntKind) (x:Int):unE .neg (.d (.int k x))=some (.d (.int k (k.wrap (0 - x)))):=rfl
attribute [go_sem] Rl.p Rl.q Rl.u dI dB dS lenE extE ptrE faE iaE H.els mkV loadE ixE cutE cut3E reachE clrE apI inE lenOfV cvE bldE V.cells V.cellsOk V.oneB storeE toDs toD apE srcE elsOf bsE vfill mkE splice chunk srcNot D.flat D.plain toADs toAD toRDs toRD toOAs toOA tV aV aVs aHs aH rV rVs rH rHs zDs zD AD.toV
attribute [go_sem] false_implies true_implies true_and and_true Option.map_some Option.map_none List.map_cons List.map_nil List.length_cons List.length_nil if_true if_false Option.isSome_some Option.isSome_none Bool.false_eq_true Option.getD_some Option.getD_none List.append_nil List.nil_append List.cons_append List.drop_zero List.drop_succ_cons List.take_zero List.take_succ_cons List.headD_cons List.replicate_zero List.all_nil List.all_cons List.zipIdx_nil Bool.and_true Bool.true_and Bool.and_self Bool.false_and Bool.and_false List.nodup_nil reduceCtorEq Nat.zero_add decide_true decide_false List.length_append List.length_replicate Bool.not_true Bool.not_false
@[go_sem] theorem flatE_nil:flatE []=true:=rfl
@[go_sem] theorem flatE_cons (c:List D) (cs:List (List D)):flatE (c::cs)=(c.all D.flat && flatE cs):=rfl
@[go_sem] theorem flatE_app (cs ds:List (List D)):flatE (cs++ds)=(flatE cs && flatE ds):=by simp [flatE]
theorem take_map {α:Type} (f:α→List D) (xs:List α):(xs.map f).take xs.length=xs.map f:=List.take_of_length_le (by simp)
attribute [go_sem] take_map Nat.le_refl imp_self beq_true beq_false Bool.not_not
attribute [go_sem] Int.reduceLE Int.reduceLT Int.reduceNeg Int.reduceToNat Nat.reduceAdd Nat.reduceSub Nat.reduceMul Nat.reduceLT Nat.reduceLeDiff Nat.reduceEqDiff
@[go_sem] theorem rv_v (v:V):(rv v).v=v:=rfl
@[go_sem] theorem rv_new (v:V):(rv v).new=[]:=rfl
@[go_sem] theorem rv_upd (v:V):(rv v).upd=[]:=rfl
@[go_sem] theorem bytesL_nil:bytesL []=some []:=rfl
@[go_sem] theorem bytesL_one (n:Int):bytesL [[.int .u8 n]]=some [UInt8.ofNat n.toNat]:=rfl
@[go_sem] theorem bytesL_two (n m:Int):bytesL [[.int .u8 n],[.int .u8 m]]=some [UInt8.ofNat n.toNat,UInt8.ofNat m.toNat]:=rfl
@[go_sem] theorem le_maxLen {n:Nat} (h:n≤1000000):(n≤maxLen)=True:=eq_true (small_le h)
attribute [go_sem] cond_true cond_false Int.reduceNe List.getElem?_cons_zero List.getElem?_cons_succ
/-- A function's law, as it is computed. -/
theorem pure_ev {f:FuncId} {fn:Func} {c:Code} {args res:List AD} (hf:P.funcs[f]?=some fn) (hb:fn.body=some c) (hcall:∀ (args:Array Value) (w:World),(callFunc f args).run P w=.ok (.enter f args) w) (hm:P.follows .mixedOrders=true) (ts:List V)
  (hn:args.map AD.toV++List.replicate (fn.ntmps - args.length) .junk=ts) (rs:List ResultVar) (hr:fn.results.toList=rs) (h:adOks args→codeE P [] c ⟨ts,[]⟩ (hide (retE P rs res) .mk) [] (hide (retE P rs res) .mk)):PureCall P f args res:=
 pure_of hf hb hcall hm hn hr h
def jn:Nat→List V→List V
 |0,l=>l
 |n + 1,l=>.junk::jn n l
def rL:Nat→Rl
 |0=>.pre
 |1=>.un
 |_ + 2=>.post
def rD:Nat→Nat→List Rl
 |0,_=>[]
 |n + 1,c=>rL (c % 3)::rD n (c / 3)
def mxD (n:Nat) (l:List Nat):List (List Rl):=l.map (rD n)
def ts0:List AD→Nat→List V
 |[],n=>jn n []
 |a::l,n=>a.toV::ts0 l (n - 1)
theorem jn_eq:∀ (n:Nat),jn n []=List.replicate n .junk
 |0=>rfl
 |n + 1=>by rw [jn,jn_eq n,List.replicate_succ]
theorem ts0_eq:∀ (l:List AD) (n:Nat),l.map AD.toV++List.replicate (n - l.length) .junk=ts0 l n
 |[],n=>by simp [ts0,jn_eq]
 |a::l,n=>by
  have h:=ts0_eq l (n - 1)
  rw [List.map_cons,List.cons_append,List.length_cons,ts0,← h,show n - (l.length + 1)=n - 1 - l.length from by omega]
attribute [go_sem,simp] jn
attribute [go_sem] ts0 rL rD mxD Nat.reduceDiv Nat.reduceMod
theorem sideI {p q:Prop} (k:q) (h:p:=by first|omega|(exact ⟨by omega,by omega⟩)|(simp only [maxLen];omega)|(simp;done)|(simp;omega)):p∧q:=⟨h,k⟩
theorem gTrue {σ:St} {n:Nat} {o:Oper} {K:Res→Prop} (h:opE P true σ n o K):gStep P true σ n o K:=gStep_true h
theorem gFalse {σ:St} {n:Nat} {o:Oper} {K:Res→Prop} (h:K (rv (.gd false (.d (.bool false))))):gStep P false σ n o K:=gStep_false h
theorem gSym {g:Bool} {σ:St} {n:Nat} {o:Oper} {K:Res→Prop} (h:opE P g σ n o (hide (fun r=>r.new=[]∧r.upd=[]∧K (rv (.gd g r.v))) .mk)):gStep P g σ n o K:=gStep_sym h
theorem cSplit {t:Bool} {A B:Prop} {s:Shut A} {s':Shut B} (h1:t=true→A) (h2:t=false→B):condE t (hideP A s) (hideP B s'):=⟨h1,h2⟩
theorem CallK.cln {f:FuncId} {as rs:List AD} {hs:List H} {vs:List V} {n:Nat} {K:Res→Prop} (h:PureCall P f as rs) (hk:K ⟨tV rs n,(aHs rs).map H.toCln,[]⟩):CallK P f (some as) hs vs n K:=.inr ⟨as,rs,rfl,h,hk⟩
/-- What a round hands on. -/
def RoundE {α:Type} (kv:List V) (I:α→St) (μ:α→Nat) (Pre:α→Prop) (x:α) (σ':St):Prop:=∃ σ2,Sh σ' σ2∧∃ y ρ',Pre y∧μ y < μ x∧seeE kv ρ' σ2 (I y)
theorem RoundE.intro {α:Type} {kv:List V} {I:α→St} {μ:α→Nat} {Pre:α→Prop} {x:α} {σ':St} (y:α) (ρ':List Nat) (h1:Pre y) (h2:μ y < μ x) (h3:seeE kv ρ' σ' (I y)):RoundE kv I μ Pre x σ':=⟨σ',Sh.refl σ',y,ρ',h1,h2,h3⟩
theorem LoopK.intro {kv:List V} {body:St→(St→Prop)→Prop} {s:Shut body} {σ:St} {α:Type} (I:α→St) (μ:α→Nat) (Pre:α→Prop) (x:α) (ρ:List Nat) (hp:Pre x) (hs:seeE kv ρ σ (I x))
  (hround:∀ x,Pre x→body (I x) (hide (RoundE kv I μ Pre x) .mk)):LoopK kv (hide2 body s) σ:=⟨α,I,μ,Pre,x,ρ,hp,hs,fun x hx=>⟨I x,Sh.refl _,hround x hx⟩⟩
/-- One element is opened. -/
def openE (id idx:Nat) (σ:St) (K:St→Prop):Prop:=
 match hget σ.heap id with
 |.cln sz xs=>match xs[idx]? with
  |some c=>K ⟨σ.tmps,hnew (hput σ.heap id (.win sz (xs.take idx) (rVs c σ.heap.length) (xs.drop (idx + 1)))) σ.heap.length (rHs c)⟩
  |none=>False
 |_=>False
def closeB (hs:List H):List Nat→Prop
 |[]=>True
 |i::is=>(match hget hs i with|.arr _ ys true=>flatE ys=true|_=>False)∧closeB hs is
/-- It is closed again. -/
def closeE (id:Nat) (σ:St) (K:St→Prop):Prop:=
 match hget σ.heap id with
 |.win sz pre cells post=>match toDs σ.heap cells with
  |some (ds,ids)=>ids.Nodup∧closeB σ.heap ids∧K ⟨σ.tmps,hupd (hput σ.heap id (.cln sz (pre++ds::post))) (ids.map fun i=>(i,H.dead))⟩
  |none=>False
 |_=>False
theorem openE_ok {id idx:Nat} {σ:St} {K:St→Prop} (h:openE id idx σ K):∃ σ1,Sh σ σ1∧K σ1:=by
 unfold openE at h
 split at h
 ·rename_i sz xs hx
  split at h
  ·rename_i c hc
   exact ⟨_,.inr (.inl ⟨id,idx,sz,xs,c,hx,hc,rfl⟩),h⟩
  ·exact h.elim
 ·exact h.elim
/-- A loop of whose rounds some open an element. -/
theorem LoopK.win {kv:List V} {body:St→(St→Prop)→Prop} {s:Shut body} {σ:St} {α:Type} (I:α→St) (μ:α→Nat) (Pre:α→Prop) (x:α) (ρ:List Nat) (hp:Pre x) (hs:seeE kv ρ σ (I x))
  (hround:∀ x,Pre x→body (I x) (hide (RoundE kv I μ Pre x) .mk)∨∃ id idx,openE id idx (I x) (hide (fun σ1=>body σ1 (hide (RoundE kv I μ Pre x) .mk)) .mk)):LoopK kv (hide2 body s) σ:=
 ⟨α,I,μ,Pre,x,ρ,hp,hs,fun x hx=>by
  rcases hround x hx with h|⟨id,idx,h⟩
  ·exact ⟨I x,Sh.refl _,h⟩
  ·exact openE_ok h⟩
attribute [go_sem] openE closeE closeB H.toCln H.esz toX toXs clnOf
attribute [go_sem] seeE vsees vsee hsees hsee voks vok allOk hok kvOk ren rens
theorem w64 {n:Int} (h1:-9223372036854775808≤n) (h2:n≤9223372036854775807):IntKind.i64.wrap n=n:=by
 rw [IntKind.wrap_i64];omega
theorem w8 {n:Int} (h1:0≤n) (h2:n≤255):IntKind.u8.wrap n=n:=by
 simp only [IntKind.wrap,IntKind.signed,IntKind.bits];simp;omega
theorem drawE_intro {kv:List V} {ops:List Oper} {σ:St} {K:St→Prop} (rows:List (List Rl)) (h1:okRows ops rows=true) (h2:rows.all (fun r=>r.length == ops.length)=true)
  (h:anyE P ops σ rows ops [] σ.heap.length (hide (fun its=>(updE rows 0 its∨upd2 σ rows ops rows [] its)∧K (seqAp its σ)) .mk)):drawX P kv ops.toArray σ K:=.inl ⟨rows,h1,h2,h⟩
/-- The same; what is left is said once for all orders. -/
theorem drawX_cut {kv:List V} {ops:List Oper} {σ:St} {K:St→Prop} (K':St→Prop) (h:exE P kv ops ops.length (List.replicate ops.length false) σ K') (hk:∀ σ',K' σ'→K σ'):drawX P kv ops.toArray σ K:=.inr ⟨K',hk,by simpa using h⟩
theorem exE_end {kv:List V} {ops:List Oper} {n:Nat} {S:List Bool} {σ:St} {K:St→Prop} (h:rdyE S ops [] S=[]) (hk:K σ):exE P kv ops n S σ K:=by
 cases n with
 |zero=>exact ⟨h,hk⟩
 |succ n=>refine ⟨fun _=>hk,?_⟩;rw [h];trivial
theorem exE_step {kv:List V} {ops:List Oper} {n:Nat} {S:List Bool} {σ:St} {K:St→Prop} {x:Oper×List Bool} {r:List (Oper×List Bool)} (e:rdyE S ops [] S=x::r) (h:allE (x::r) fun o S'=>seqE P kv ops σ o (hide (fun σ'=>exE P kv ops n S' σ' K) .mk)):exE P kv ops (n + 1) S σ K:=
 ⟨fun q=>(by rw [e] at q;cases q),by rw [e];exact h⟩
theorem allE_cons {F:Oper→List Bool→Prop} {o:Oper} {S:List Bool} {r:List (Oper×List Bool)} (h:F o S) (hr:allE r F):allE ((o,S)::r) F:=⟨h,hr⟩
theorem allE_nil {F:Oper→List Bool→Prop}:allE [] F:=trivial
@[go_sem] theorem anyE_nil (ops:List Oper) (σ0:St) (l:List It) (n:Nat) (K:List It→Prop):anyE P ops σ0 [] [] l n K=K l:=nr rfl
@[go_sem] theorem anyE_cons (ops:List Oper) (σ0:St) (row:List Rl) (rows:List (List Rl)) (o:Oper) (rest:List Oper) (l:List It) (n:Nat) (K:List It→Prop) :
  anyE P ops σ0 (row::rows) (o::rest) l n K=stepE P ops (mask row l (o::rest) σ0) n o (hide (fun r=>anyE P ops σ0 rows rest (l++[(o,n,r)]) (n + r.new.length) K) .mk):=nr rfl
@[go_sem] theorem mask_pre (row:List Rl) (o:Oper) (n:Nat) (r:Res) (l:List It) (rest:List Oper) (σ:St):mask (.pre::row) ((o,n,r)::l) rest σ=mask row l rest (σ.app o.dst n r):=rfl
@[go_sem] theorem mask_un (row:List Rl) (o:Oper) (n:Nat) (r:Res) (l:List It) (rest:List Oper) (σ:St):mask (.un::row) ((o,n,r)::l) rest σ=mask row l rest ⟨kilT σ.tmps o.dst,kilH σ.heap r.upd⟩:=rfl
@[go_sem] theorem mask_un' (row:List Rl) (o:Oper) (rest:List Oper) (σ:St):mask (.un::row) [] (o::rest) σ=mask row [] rest ⟨kilT σ.tmps o.dst,σ.heap⟩:=rfl
@[go_sem] theorem mask_post' (row:List Rl) (o:Oper) (rest:List Oper) (σ:St):mask (.post::row) [] (o::rest) σ=mask row [] rest σ:=rfl
@[go_sem] theorem mask_nil (l:List It) (rest:List Oper) (σ:St):mask [] l rest σ=σ:=by cases l<;>cases rest<;>rfl
attribute [go_sem] kilT kilH updE allPre ltE seqAp upd2 okI okR outB deadB List.all_cons List.all_nil List.map_cons List.map_nil true_or false_or
/-- A call through the function's code, as it is computed. -/
theorem inl_ev {f:FuncId} {fn:Func} {c:Code} {kv:List V} {hs:List H} {vs:List V} {K:V→List H→Prop} {n:Nat} (hf:P.funcs[f]?=some fn) (hb:fn.body=some c) (hcall:∀ (args:Array Value) (w:World),(callFunc f args).run P w=.ok (.enter f args) w) (hm:P.follows .mixedOrders=true)
  (hn:fn.ntmps=n) {rs:List ResultVar} (hr:fn.results.toList=rs) (h:codeE P kv c ⟨vs++List.replicate (n - vs.length) .junk,hs⟩ (hide (inlRet P rs (hide2 K .mk)) .mk) [] (hide (inlRet P rs (hide2 K .mk)) .mk)):InlCall P f kv hs vs K:=
 inl_of hf hb hcall hm (by rw [hn]) hr h
@[go_sem] theorem inlRet_eq (rs:List ResultVar) (K:V→List H→Prop) (σ:St):inlRet P rs K σ=rvsE P σ rs (hide (fun vs=>K (tupV vs) σ.heap) .mk):=nr rfl
attribute [go_sem] tupV
@[go_sem] theorem outM_some (as:List AD) (ids:List Nat) (res:List AD):outM (some (as,ids)) res=(as=res∧ids=[]):=by simp [outM]
def coverB:List Nat→List (Nat×H)→Bool
 |[],[]=>true
 |i::is,q::upd=>q.1 == i && coverB is upd
 |_,_=>false
@[go_sem] theorem coverB_nil:coverB [] []=true:=rfl
@[go_sem] theorem coverB_cons (i:Nat) (is:List Nat) (q:Nat×H) (upd:List (Nat×H)):coverB (i::is) (q::upd)=(q.1 == i && coverB is upd):=rfl
attribute [go_sem] List.any_cons List.any_nil Bool.or_true Bool.true_or Bool.or_false Bool.false_or Nat.reduceBEq BEq.rfl beq_self_eq_true
@[go_sem] theorem lapp_cons {α:Type} (a:α) (l m:List α):List.append (a::l) m=a::List.append l m:=rfl
@[go_sem] theorem lapp_nil {α:Type} (m:List α):List.append [] m=m:=rfl
variable {P:Program}
section
variable {H':Type} {enc:TypeId×Value→H'} {w:World} {sp:Nat→Bool} {held:Bool}
end
section
variable {H':Type} {enc:TypeId×Value→H'} {w:World} {sp:Nat→Bool} {held:Bool}
end
end Gv
