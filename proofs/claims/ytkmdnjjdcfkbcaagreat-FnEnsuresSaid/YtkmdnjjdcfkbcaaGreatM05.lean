/-
  Part of the proof: the machine, what functions compute, and the plain laws.
-/
import Derived.Test.YtkmdnjjdcfkbcaaGreatM04
import Derived.Lib.Overlaps
import Derived.Lib.AppendZerosOnto
import Derived.Shelf.Spec.SlicesInsert
set_option maxHeartbeats 80000000
set_option maxRecDepth 100000
namespace Gv
open Go Go.Proofs
theorem run_copy_row{P:Program}(w:World)(Up adM ty elem te:TypeId)(b o Uq adN k n:Nat)(uO so yl EE:Nat)(cur:Array Value)(cs:List Value)
  (hu:P.underlying Up=some (.slice elem)) (hs:(P.info? elem).map (·.size)=some k) (hn:n=Nat.min yl Uq) (hl:cs.length=n * k)
  (pG:∀(j:Nat) (v:Value),cs[j]?=some v→cellAt w.heap uO (so+j)=some v) (hg:w.heap[b]?=some (.cells cur te (0,0))) (kJ:o+cs.length≤cur.size) (h1:∀v∈cs,v.oneCell'=true) :
  (Builtin.copy_ #[Up,adM] ty #[.slice (some ⟨b,o,none⟩) Uq adN,.slice (some ⟨uO,so,none⟩) yl EE]).run P w=.ok (goInt n) (w.setRow b (dQ cur.toList o cs).toArray):=by
 have iP:=run_loadCells_list (P:=P) w ⟨uO,so,none⟩ cs (fun j v al=>by rw[add_lit,cell_eq];exact pG j v al);have cW:=run_storeCells_at P b o te cs 0 cur w hg (by simpa using kJ) h1;simp only[Nat.add_zero,List.append_assoc]at cW;rw[hl]at iP
 cases hq:P.info? elem with
 |none=>simp[hq]at hs
 |some i=>
  have hi:i.size=k:=by simpa [hq]using hs
  simp[Builtin.copy_,run_underlying hu,Builtin.lenOf,Builtin.firstCells,Go.sizeOf,typeInfo,hq,hi,←hn,iP,cW,dQ]
def Nu(w:World)(b:Option Nat)(k n:Nat)(h6:List Value)(v:Value)(w':World):Prop:=
 ∃T f c,v=.slice (some ⟨T,f,none⟩) (n+1) c∧n+1≤c∧c≤maxLen∧(∀j,j<(n+1) * k→cellAt w'.heap T (f+j)=h6[j]?)∧mB w'.heap T (f+c * k)∧(b=some T∨w.heap.size≤T)∧
  Bel (fun x=>b=some x∨w.heap.size≤x) w w'
theorem adD{w w':World}{k i n b f vb IV:Nat}{xs:List (List D)}{x:List D}{bQ bq:List Nat}{kP:Option Nat}{us gu:List Value}{v:Value}
  (l1:xs.length=n) (hi:i≤n) (aM:repE w.heap true b f k xs bQ) (bc:repE w.heap true vb IV k [x] bq) (fk:us.length=n * k) (gB:∀(j:Nat) (u:Value),us[j]?=some u→cellAt w.heap b (f+j)=some u)
  (hP:gu.length=k) (hE:∀(j:Nat) (u:Value),gu[j]?=some u→cellAt w.heap vb (IV+j)=some u) (bM:∀g∈bQ++bq,g<w.heap.size∧kP≠some g) (hnd:(bQ++bq).Nodup)
  (aQ:Nu w kP k n (us.take (i * k)++(gu++us.drop (i * k))) v w') :
  ∃T jS,rep w'.heap true (.sl k (xs.take i++x::xs.drop i)) v (T::jS)∧(T::jS).Nodup∧(∀g∈jS,g∈bQ++bq)∧(kP=some T∨w.heap.size≤T):=by
 obtain⟨T,g9,c,rfl,hc1,hc2,l8,hS,cR,hB⟩:=aQ;have C9:i * k≤n * k:=Nat.mul_le_mul_right _ hi;have kg:(n+1) * k=n * k+k:=by rw[Nat.add_mul,Nat.one_mul]
 have DO:(n-i) * k=n * k-i * k:=Nat.sub_mul _ _ _;have ht:(xs.take i).length=i:=by simp;omega
 have hd:(xs.drop i).length=n-i:=by simp;omega
 have Ur:(us.take (i * k)).length=i * k:=by simp;omega
 rw[←List.take_append_drop i xs]at aM;obtain⟨j8,js,rfl,adO,Us⟩:=(repE_append _ _ _ _).1 aM;rw[ht]at Us;obtain⟨hx,c7⟩:=abi.1 bc;have keep:∀g∈(j8++js)++bq,w'.heap[g]?=w.heap[g]?:=fun g hg=>hB.block g fun h=>by
  obtain⟨k1,k2⟩:=bM g hg;rcases h with h|h
  ·exact k2 h
  ·omega
 have CY:∀j,j<n * k→us[j]?=cellAt w.heap b (f+j):=fun j al=>by
  have:=gB j us[j] (b8 (by omega));rw[this,b8]
 have add:∀j,j<k→gu[j]?=cellAt w.heap vb (IV+j):=fun j al=>by
  have:=hE j gu[j] (b8 (by omega));rw[this,b8]
 have adP:T<w'.heap.size:=hS.lt;have lL:(j8++(bq++js)).Nodup:=by
  refine(List.Perm.nodup_iff ?_).1 hnd;rw[List.append_assoc];exact List.Perm.append_left _ List.perm_append_comm
 have hin:∀g,g∈j8++(bq++js)→g∈(j8++js)++bq:=fun g hg=>by
  simp only[et]at hg⊢;rcases hg with h|h|h<;>simp[h]
 refine⟨T,j8++(bq++js),?_,?_,hin,cR⟩
 ·simp only[rep];refine⟨some ⟨T,g9,none⟩,c,?_,by simp;omega,hc2,.inr ⟨T,g9,j8++(bq++js),rfl,rfl,adP,?_,fun _=>⟨by omega,hS⟩⟩⟩
  ·congr 1;simp;omega
  ·refine(repE_append _ _ _ _).2 ⟨j8,bq++js,rfl,pF _ f g9 k j8 hB.size (fun g hg=>keep g (by simp[hg])) (fun j al=>?_) adO,?_⟩
   ·rw[ht]at al;rw[l8 j (by omega),List.getElem?_append_left (by omega),List.getElem?_take_of_lt al];exact CY j (by omega)
   ·rw[ht];simp only[repE];refine⟨bq,js,rfl,hx,E0 x IV (g9+i * k) bq hB.size (fun g hg=>keep g (by simp[hg])) (fun j al=>?_) c7,pF _ (f+i * k) (g9+i * k+k) k js hB.size (fun g hg=>keep g (by simp[hg])) (fun j al=>?_) Us⟩
    ·rw[hx]at al;rw[Nat.add_assoc,l8 _ (by omega),List.getElem?_append_right (by omega),Ur,List.getElem?_append_left (by omega),Nat.add_sub_cancel_left];exact add j al
    ·rw[hd,DO]at al;rw[Nat.add_assoc,Nat.add_assoc,l8 _ (by omega),List.getElem?_append_right (by omega),Ur,List.getElem?_append_right (by omega),hP,List.getElem?_drop,show i * k+(i * k+(k+j)-i * k-k)=i * k+j from by omega,CY _ (by omega),Nat.add_assoc]
 ·rw[List.nodup_cons];refine⟨fun h=>?_,lL⟩;obtain⟨k1,k2⟩:=bM T (hin T h);rcases cR with h|h
  ·exact k2 h
  ·omega
set_option maxRecDepth 100000
open Go.RowKit
def Br(w' W:World):Prop:=w'.heap=W.heap∧w'.os=W.os∧w'.tape=W.tape∧w'.output=W.output
theorem Bel.adq{nA:Nat→Prop}{w W w':World}(h:Bel nA w W)(e:Br w' W):Bel nA w w':=by
 obtain⟨ah,ai,aX,br⟩:=e;exact⟨ai.trans h.os,aX.trans h.tape,br.trans h.output,by rw[ah];exact h.size,fun k hk=>by rw[ah];exact h.block k hk,fun b n r=>by rw[ah];exact h.db b n r⟩
section
variable {w:World} {b off n c i vb voff m vc:Nat} {cs vs:List Value} {cur cur2:Array Value} {te te2:TypeId}
theorem T9{w:World}{b:Nat}{cur:Array Value}{te:TypeId}(h:w.heap[b]?=some (.cells cur te (0,0))):w.shape? b=some (te,cur.size):=by unfold World.shape?;rw[h]
theorem T_{w:World}{b o:Nat}{cur:Array Value}{te:TypeId}(h:w.heap[b]?=some (.cells cur te (0,0))):w.frozen? ⟨b,o,none⟩=false:=by unfold World.frozen?;simp[h]
theorem adr(hi:i<n)(hm:0<m)(hS:n+m≤c)(T':c≤maxLen)(IQ:vb≠b)(hcl:cs.length=n * 39)(oX:vs.length=m * 39)
  (hg:w.heap[b]?=some (.cells cur te (0,0))) (kJ:off+c * 39≤cur.size) (lN:w.heap[vb]?=some (.cells cur2 te2 (0,0)))
  (hcs:∀(j:Nat) (v:Value),cs[j]?=some v→cellAt w.heap b (off+j)=some v) (pP:∀(j:Nat) (v:Value),vs[j]?=some v→cellAt w.heap vb (voff+j)=some v) (Fz:∀v∈cs,v.oneCell'=true) (vU:∀v∈vs,v.oneCell'=true) :
  Calls Tryz.prog 133 #[.slice (some ⟨b,off,none⟩) n c,.int .i64 i,.slice (some ⟨vb,voff,none⟩) m vc] w fun e w'=>
   e=.returned (.slice (some ⟨b,off,none⟩) (n+m) c)∧Br w' ((w.setRow b (dQ cur.toList (off+(i+m) * 39) (cs.drop (i * 39))).toArray).setRow b (dQ (dQ cur.toList (off+(i+m) * 39) (cs.drop (i * 39))).toArray.toList (off+i * 39) vs).toArray):=by
 have hQ:¬((m:Int)=0):=by omega
 have iQ:¬((i:Int)=(n:Int)):=by omega
 have hu:Tryz.prog.underlying 26=some (.slice 63):=by kernel_rfl
 have hs:(Tryz.prog.info? 63).map (·.size)=some 39:=by kernel_rfl
 have cH:∀w,(Go.sizeOf 63).run Tryz.prog w=.ok 39 w:=fun w=>by
  cases hq:Tryz.prog.info? 63 with
  |none=>rw[hq]at hs;cases hs
  |some i=>rw[hq]at hs;simp at hs;simp[Go.sizeOf,typeInfo,hq,hs]
 have Ua:cur.size≠0:=by omega
 have ads:∀Nn CW,(callFunc 185 #[.slice (some ⟨vb,voff,none⟩) m vc,.slice (some ⟨b,off+(i+m) * 39,none⟩) Nn CW]).run Tryz.prog w=.ok (.value (.bool false)) w:=fun Nn CW=>by
  rw[run_callFunc_extern Tryz.func185 (by kernel_rfl) (by kernel_rfl) (by kernel_rfl) (e:=Extern.SlicesOverlaps.overlaps #[26,26] #[4]) (by kernel_rfl),
   Lib.run_overlaps_apart w 26 4 63 hu 39 cH ⟨vb,voff,none⟩ ⟨b,off+(i+m) * 39,none⟩ m vc Nn CW IQ te2 te cur2.size cur.size (T9 lN) (T9 hg) Ua (T_ lN) (T_ lN)]
  rfl
 have jZ:(cs.drop (i * 39)).length=(n-i) * 39:=by rw[List.length_drop,hcl];omega
 unfold maxLen at T';have y5:IntKind.i64.wrap ((i:Int)+(m:Int))=(i:Int)+(m:Int):=by rw[IntKind.wrap_i64];omega
 have mT:IntKind.i64.wrap ((n:Int)+(m:Int))=(n:Int)+(m:Int):=by rw[IntKind.wrap_i64];omega
 have GH:(0:Int)≤(i:Int)+(m:Int):=by omega
 have hin:i≤n:=by omega
 have adt:((i:Int)+(m:Int)).toNat=i+m:=by omega
 have aop:((n:Int)+(m:Int)).toNat=n+m:=by omega
 have jY:¬(c=i+m):=by omega
 have FA:(i:Int)≤(n:Int)+(m:Int):=by omega
 have Ub:¬(c=i):=by omega
 have aoq:¬((c:Int)<(n:Int)+(m:Int)):=by omega
 obtain⟨iu,yL⟩:∃iu,iu=(dQ cur.toList (off+(i+m) * 39) (cs.drop (i * 39))).toArray:=⟨_,rfl⟩;have j0:off+(i+m) * 39+(cs.drop (i * 39)).length≤cur.size:=by rw[jZ];omega
 have adu:∀ty n2 zZ,(Builtin.copy_ #[26,26] ty #[.slice (some ⟨b,off+(i+m) * 39,none⟩) (n+m-(i+m)) n2,.slice (some ⟨b,off+i * 39,none⟩) (n+m-i) zZ]).run Tryz.prog w.drew=.ok (goInt ((n-i:Nat):Int)) (w.drew.setRow b iu):=fun ty n2 zZ=>by
  rw[yL];exact run_copy_row w.drew 26 26 ty 63 te b (off+(i+m) * 39) (n+m-(i+m)) n2 39 (n-i) b (off+i * 39) (n+m-i) zZ cur (cs.drop (i * 39)) hu hs (by simp only[Nat.min_def];split<;>omega) jZ
   (fun j v al=>by rw[Nat.add_assoc];exact hcs _ v (by rwa [List.getElem?_drop]at al)) hg j0 (fun v hv=>Fz v (List.mem_of_mem_drop hv))
 have lT:(w.drew.setRow b iu).heap[b]?=some (.cells iu te (0,0)):=setRow_heap w.drew b cur iu te (0,0) hg;have adv:cur.size≤iu.size:=by rw[yL];exact pI j0
 have adw:∀W:World,W.heap=(w.drew.setRow b iu).heap→∀ty n2,(Builtin.copy_ #[26,26] ty #[.slice (some ⟨b,off+i * 39,none⟩) (n+m-i) n2,.slice (some ⟨vb,voff,none⟩) m vc]).run Tryz.prog W=.ok (goInt (m:Int)) (W.setRow b (dQ iu.toList (off+i * 39) vs).toArray):=fun W hW ty n2=>
  run_copy_row W 26 26 ty 63 te b (off+i * 39) (n+m-i) n2 39 m vb voff m vc iu vs hu hs (by simp only[Nat.min_def];split<;>omega) oX
   (fun j v al=>by rw[hW,CU (setRow_other w.drew b vb iu IQ)];exact pP j v al) (by rw[hW];exact lT) (by rw[oX];omega) vU
 rw[←yL];have mixed:=b1;clear hcs pP Fz vU hg lN lT kJ yL j0 jZ cH hu hs hcl oX Ua adv
 go_enter Tryz.func133,Tryz.ntmps133
 go_wp2_with (simp only[ads])
 go_region_law_o (refine step_copy_runI rfl _ _ 26 26 rfl _ _ (by simp[Act.eval,Act.put]) (by simp[Act.eval,Act.put]) (adu _ _ _) ?_)
 go_wp2_with (at_builtin;refine wpList_copy_runI _ rfl _ _ 26 26 rfl _ _ rfl rfl (adw _ rfl _ _) ?_)
 go_ret
 exact⟨rfl,rfl,rfl,rfl,rfl⟩
theorem Np:∃i z,Tryz.prog.info? 63=some i∧i.zero=some z∧i.size=39∧i.bytes=352∧z.cells.size=39:=by
 have h:((Tryz.prog.info? 63).map fun i=>(i.zero.map (fun z=>z.cells.size),i.size,i.bytes))=some (some 39,39,352):=by kernel_rfl
 cases hq:Tryz.prog.info? 63 with
 |none=>rw[hq]at h;cases h
 |some i=>
  rw[hq]at h;simp only[Option.map_some,bF,c1]at h;obtain⟨h1,h2,aj⟩:=h
  cases hz:i.zero with
  |none=>rw[hz]at h1;cases h1
  |some z=>rw[hz]at h1;simp only[Option.map_some,bF]at h1;exact⟨i,z,rfl,hz,h2,aj,h1⟩
theorem adx(hm:0<m)(hS:n+m≤c)(_:c≤maxLen)(oX:vs.length=m * 39)(hg:w.heap[b]?=some (.cells cur te (0,0)))(kJ:off+c * 39≤cur.size)
  (pP:∀(j:Nat) (v:Value),vs[j]?=some v→cellAt w.heap vb (voff+j)=some v) (vU:∀v∈vs,v.oneCell'=true) :
  Calls Tryz.prog 133 #[.slice (some ⟨b,off,none⟩) n c,.int .i64 n,.slice (some ⟨vb,voff,none⟩) m vc] w fun e w'=>
   e=.returned (.slice (some ⟨b,off,none⟩) (n+m) c)∧Br w' (w.setRow b (dQ cur.toList (off+n * 39) vs).toArray):=by
 have hQ:¬((m:Int)=0):=by omega
 have hu:Tryz.prog.underlying 26=some (.slice 63):=by kernel_rfl
 obtain⟨z1,z,jU,Bs,jt,ik,_⟩:=Np;have So:n * 39+m * 39≤c * 39:=by rw[←Nat.add_mul];exact Nat.mul_le_mul_right _ hS
 have iP:=run_loadCells_list (P:=Tryz.prog) w ⟨vb,voff,none⟩ vs (fun j v al=>by rw[add_lit,cell_eq];exact pP j v al);rw[oX]at iP;have fa:∀ty,(Builtin.append_ #[26,26] ty #[.slice (some ⟨b,off,none⟩) n c,.slice (some ⟨vb,voff,none⟩) m vc]).run Tryz.prog w=.ok (.slice (some ⟨b,off,none⟩) (n+m) c) (w.setRow b (dQ cur.toList (off+n * 39) vs).toArray):=fun ty=>by
  have:=LY (P:=Tryz.prog) (w:=w) 26 ty 63 z1 hu jU b off n c cur te hg m (.slice (some ⟨vb,voff,none⟩) m vc) vs rfl (by rw[jt];simpa [Builtin.firstCells]using iP) vU hS (by rw[jt,oX];omega);rw[jt]at this;exact this
 have mixed:=b1;clear pP vU hg kJ hu iP oX jU Bs jt ik
 go_enter Tryz.func133,Tryz.ntmps133
 go_wp2_with (at_builtin;refine Lib.wpList_append_run _ rfl _ _ _ _ rfl _ _ rfl rfl _ _ (fa _) ?_)
 go_ret
 exact⟨rfl,rfl,rfl,rfl,rfl⟩
theorem Uc(base:Option Addr)(hm:0<m)(ady:n≤c)(hS:c<n+m)(IS:(n+m) * 352≤140737488355328)(hcl:cs.length=n * 39)(oX:vs.length=m * 39)(Ba:base=none→n=0)
  (hcs:∀a,base=some a→∀(j:Nat) (v:Value),cs[j]?=some v→w.cell? (a.add j)=some v)
  (pP:∀(j:Nat) (v:Value),vs[j]?=some v→cellAt w.heap vb (voff+j)=some v) (vU:∀v∈vs,v.oneCell'=true) :
  Calls Tryz.prog 133 #[.slice base n c,.int .i64 n,.slice (some ⟨vb,voff,none⟩) m vc] w fun e w'=>
   ∃kQ:Array Value,kQ.size=(grownCap w (n+m) c 63-(n+m)) * 39∧e=.returned (.slice (some ⟨w.heap.size,0,none⟩) (n+m) (grownCap w (n+m) c 63))∧Br w' (w.alloc (.cells ((cs++vs).toArray++kQ) 63)):=by
 have hQ:¬((m:Int)=0):=by omega
 have hu:Tryz.prog.underlying 26=some (.slice 63):=by kernel_rfl
 obtain⟨z1,z,jU,Bs,jt,ik,FB⟩:=Np;have pG:Src Tryz.prog z1.size 26 (.slice (some ⟨vb,voff,none⟩) m vc) m vs w:=by
  rw[jt];exact Src.ofSlice w hu ⟨vb,voff,none⟩ m vc vs oX (fun j u al=>by rw[add_lit,cell_eq];exact pP j u al) vU
 have hold:(Builtin.firstCells z1.size n (.slice base n c)).run Tryz.prog w.drew=.ok cs.toArray w.drew:=by
  rw[jt]
  cases base with
  |none=>
   have h0:=Ba rfl;subst h0;have w2:cs=[]:=List.length_eq_zero_iff.1 (by simpa using hcl);rw[w2];exact run_firstCells_none w.drew 39 0 0 c
  |some a=>
   have iP:=run_loadCells_list (P:=Tryz.prog) w.drew a cs (fun j v al=>hcs a rfl j v al);rw[hcl]at iP;simpa [Builtin.firstCells]using iP
 have fa:∀ty,(Builtin.append_ #[26,26] ty #[.slice base n c,.slice (some ⟨vb,voff,none⟩) m vc]).run Tryz.prog w=_:=fun ty=>
  run_append_grow_src w 26 26 ty 63 z1 z hu jU Bs base n c cs hold _ m vs pG hS (by omega) (by rw[ik];exact growslice_fits hS IS)
 have uU:(Builtin.zeroCells z.cells (grownCap w (n+m) c 63-(n+m))).size=(grownCap w (n+m) c 63-(n+m)) * 39:=by rw[size_zeroCells,FB]
 generalize Builtin.zeroCells z.cells (grownCap w (n+m) c 63-(n+m))=kQ at *;generalize grownCap w (n+m) c 63=G at *;have mixed:=b1;clear pP vU hu oX jU Bs jt ik hcs pG hold FB
 go_enter Tryz.func133,Tryz.ntmps133
 cases base with
 |none=>
  have h0:=Ba rfl;subst h0
  go_wp2_with (at_builtin;refine Lib.wpList_append_run _ rfl _ _ _ _ rfl _ _ rfl rfl _ _ (fa _) ?_)
  go_ret
  exact⟨kQ,by simpa using uU,rfl,rfl,rfl,rfl,rfl⟩
 |some a=>
  obtain⟨Bt,yt,aor⟩:=a
  go_wp2_with (at_builtin;refine Lib.wpList_append_run _ rfl _ _ _ _ rfl _ _ rfl rfl _ _ (fa _) ?_)
  all_goals(go_ret;exact⟨kQ,uU,rfl,rfl,rfl,rfl,rfl⟩)
theorem adz(hi:i<n)(hm:0<m)(ady:n≤c)(hS:c<n+m)(IS:(n+m) * 352≤140737488355328)(hcl:cs.length=n * 39)(oX:vs.length=m * 39)(adA:b<w.heap.size)(adB:vb<w.heap.size)
  (hcs:∀(j:Nat) (v:Value),cs[j]?=some v→cellAt w.heap b (off+j)=some v) (pP:∀(j:Nat) (v:Value),vs[j]?=some v→cellAt w.heap vb (voff+j)=some v) (Fz:∀v∈cs,v.oneCell'=true) (vU:∀v∈vs,v.oneCell'=true) :
  Calls Tryz.prog 133 #[.slice (some ⟨b,off,none⟩) n c,.int .i64 i,.slice (some ⟨vb,voff,none⟩) m vc] w fun e w'=>
   ∃kQ:Array Value,kQ.size=(n+m-i) * 39+(grownCap w (n+m) c 63-(n+m)) * 39∧e=.returned (.slice (some ⟨w.heap.size,0,none⟩) (n+m) (grownCap w (n+m) c 63))∧
    Br w' (((w.alloc (.cells ((cs.take (i * 39)).toArray++kQ) 63)).setRow w.heap.size (dQ ((cs.take (i * 39)).toArray++kQ).toList (i * 39) vs).toArray).setRow w.heap.size
     (dQ (dQ ((cs.take (i * 39)).toArray++kQ).toList (i * 39) vs).toArray.toList ((i+m) * 39) (cs.drop (i * 39))).toArray):=by
 have hQ:¬((m:Int)=0):=by omega
 have iQ:¬((i:Int)=(n:Int)):=by omega
 have aos:(c:Int)<(n:Int)+(m:Int):=by omega
 have hu:Tryz.prog.underlying 26=some (.slice 63):=by kernel_rfl
 have Ud:Tryz.prog.underlying 3=some (.int .i64):=by kernel_rfl
 have hs:(Tryz.prog.info? 63).map (·.size)=some 39:=by kernel_rfl
 obtain⟨z1,z,jU,Bs,jt,ik,FB⟩:=Np;have zA:(n:Int)+(m:Int)-(i:Int)=((n+m-i:Nat):Int):=by omega
 have C9:i+(n+m-i)=n+m:=by omega
 have jk:(cs.take (i * 39)).length=i * 39:=by rw[List.length_take,hcl];omega
 have jZ:(cs.drop (i * 39)).length=(n-i) * 39:=by rw[List.length_drop,hcl];omega
 have hold:(Builtin.firstCells z1.size i (.slice (some ⟨b,off,none⟩) i c)).run Tryz.prog w.drew=.ok (cs.take (i * 39)).toArray w.drew:=by
  rw[jt];have iP:=run_loadCells_list (P:=Tryz.prog) w.drew ⟨b,off,none⟩ (cs.take (i * 39)) (fun j v al=>by
   rw[add_lit,cell_eq];rw[List.getElem?_take]at al;split at al
   ·exact hcs j v al
   ·cases al)
  rw[jk]at iP;simpa [Builtin.firstCells]using iP
 have Nq:∀ty,(Builtin.append_ #[26,3] ty #[.slice (some ⟨b,off,none⟩) i c,.int .i64 ((n:Int)+(m:Int)-(i:Int))]).run Tryz.prog w =
   .ok (.slice (some ⟨w.heap.size,0,none⟩) (n+m) (grownCap w (n+m) c 63)) (w.drew.alloc (.cells ((cs.take (i * 39)).toArray++Builtin.zeroCells z.cells (n+m-i)++Builtin.zeroCells z.cells (grownCap w (n+m) c 63-(n+m))) 63)):=fun ty=>by
  have h:=Lib.run_append_grow_zeros w 26 3 ty 63 z1 z .i64 .i64 hu Ud jU Bs (some ⟨b,off,none⟩) i c (cs.take (i * 39)) hold (n+m-i) (by omega) (by rw[jt];exact Nat.zero_lt_succ _) (by omega) (by rw[C9];omega) (by rw[ik];exact Nat.le_trans (Nat.mul_le_mul_right _ (Nat.sub_le _ _)) (Nat.le_trans IS (by decide))) (by rw[ik,C9];exact growslice_fits hS IS);rw[C9]at h;rw[zA];exact h
 have uU:(Builtin.zeroCells z.cells (n+m-i)++Builtin.zeroCells z.cells (grownCap w (n+m) c 63-(n+m))).size=(n+m-i) * 39+(grownCap w (n+m) c 63-(n+m)) * 39:=by rw[Array.size_append,size_zeroCells,size_zeroCells,FB]
 rw[Array.append_assoc]at Nq;generalize Builtin.zeroCells z.cells (n+m-i)++Builtin.zeroCells z.cells (grownCap w (n+m) c 63-(n+m))=kQ at *;have H4:n+m≤grownCap w (n+m) c 63:=grownCap_ge w _ _ _;have aot:grownCap w (n+m) c 63≤9223372036854775807:=by
  have:=grownCap_le_maxLen w (n+m) c 63 (by unfold maxLen;omega);unfold maxLen at this;omega
 generalize grownCap w (n+m) c 63=G at *;have H8:kQ.size=(n+m-i) * 39+(G-(n+m)) * 39:=uU;obtain⟨gE,z2⟩:∃gE:Array Value,gE=(cs.take (i * 39)).toArray++kQ:=⟨_,rfl⟩;have Nr:(n+m) * 39≤gE.size:=by rw[z2];simp only[Array.size_append,List.size_toArray,jk,uU];omega
 rw[←z2]at Nq;obtain⟨iu,yL⟩:∃iu:Array Value,iu=(dQ gE.toList (i * 39) vs).toArray:=⟨_,rfl⟩;have j0:i * 39+vs.length≤gE.size:=by rw[oX];omega
 have FC:gE.size≤iu.size:=by rw[yL];exact pI j0
 have Ns:∀W:World,W.heap=w.heap.push (.cells gE 63)→W.heap[w.heap.size]?=some (.cells gE 63 (0,0)):=fun W h=>by rw[h];simp
 have Nt:∀W:World,W.heap=w.heap.push (.cells gE 63)→∀k,k<w.heap.size→W.heap[k]?=w.heap[k]?:=fun W h k hk=>by rw[h,Array.getElem?_push_lt hk,Array.getElem?_eq_getElem hk]
 have Ue:∀W:World,W.heap=w.heap.push (.cells gE 63)→∀ty n2,(Builtin.copy_ #[26,26] ty #[.slice (some ⟨w.heap.size,i * 39,none⟩) (n+m-i) n2,.slice (some ⟨vb,voff,none⟩) m vc]).run Tryz.prog W=.ok (goInt (m:Int)) (W.setRow w.heap.size iu):=fun W hW ty n2=>by
  rw[yL];exact run_copy_row W 26 26 ty 63 63 w.heap.size (i * 39) (n+m-i) n2 39 m vb voff m vc gE vs hu hs (by simp only[Nat.min_def];split<;>omega) oX
   (fun j v al=>by rw[CU (Nt W hW vb adB)];exact pP j v al) (Ns W hW) j0 vU
 have Uf:∀W:World,(∃Bu:World,Bu.heap=w.heap.push (.cells gE 63)∧W.heap=(Bu.setRow w.heap.size iu).heap)→∀ty n2 zZ,(Builtin.copy_ #[26,26] ty #[.slice (some ⟨w.heap.size,(i+m) * 39,none⟩) (n+m-(i+m)) n2,.slice (some ⟨b,off+i * 39,none⟩) (n-i) zZ]).run Tryz.prog W=.ok (goInt ((n-i:Nat):Int)) (W.setRow w.heap.size (dQ iu.toList ((i+m) * 39) (cs.drop (i * 39))).toArray):=by
  rintro W ⟨Bu,h1,hW⟩ ty n2 zZ;exact run_copy_row W 26 26 ty 63 63 w.heap.size ((i+m) * 39) (n+m-(i+m)) n2 39 (n-i) b (off+i * 39) (n-i) zZ iu (cs.drop (i * 39)) hu hs (by simp only[Nat.min_def];split<;>omega) jZ
   (fun j v al=>by rw[hW,CU (setRow_other Bu w.heap.size b iu (by omega)),CU (Nt Bu h1 b adA),Nat.add_assoc];exact hcs _ v (by rwa [List.getElem?_drop]at al))
   (by rw[hW];exact setRow_heap Bu w.heap.size gE iu 63 (0,0) (Ns Bu h1)) (by rw[jZ];omega) (fun v hv=>Fz v (List.mem_of_mem_drop hv))
 rw[show(n+m-i) * 39+(G-(n+m)) * 39=kQ.size from H8.symm];have wU:¬(G=i):=by omega
 have aou:¬(G=i+m):=by omega
 have M_:¬(c=i):=by omega
 have y5:IntKind.i64.wrap ((i:Int)+(m:Int))=(i:Int)+(m:Int):=by rw[IntKind.wrap_i64];omega
 have GH:(0:Int)≤(i:Int)+(m:Int):=by omega
 have hin:i≤n:=by omega
 have adt:((i:Int)+(m:Int)).toNat=i+m:=by omega
 have FA:(i:Int)≤(n:Int):=by omega
 have mixed:=b1
 suffices core:Calls Tryz.prog 133 #[.slice (some ⟨b,off,none⟩) n c,.int .i64 i,.slice (some ⟨vb,voff,none⟩) m vc] w fun e w'=>e=.returned (.slice (some ⟨w.heap.size,0,none⟩) (n+m) G)∧Br w' (((w.alloc (.cells gE 63)).setRow w.heap.size iu).setRow w.heap.size (dQ iu.toList ((i+m) * 39) (cs.drop (i * 39))).toArray)by
  refine core.mono fun e w' h=>⟨kQ,rfl,h.1,?_⟩;have h2:=h.2;rw[yL,z2]at h2;exact h2
 generalize (dQ iu.toList ((i+m) * 39) (cs.drop (i * 39))).toArray=aov at *;clear zA C9 hold Nr hcs pP Fz vU hu Ud hs jU Bs jt ik FB jk jZ hcl oX uU H8 j0 FC Ns Nt z2 yL;have hA:=Ue (w.alloc (.cells gE 63)).drew rfl;have hB:=Uf (((w.alloc (.cells gE 63)).drew.setRow w.heap.size iu).drew) ⟨w.alloc (.cells gE 63),rfl,rfl⟩;clear Ue Uf
 go_enter Tryz.func133,Tryz.ntmps133
 go_wp2_with (first
  |(at_builtin;refine Lib.wpList_append_run _ rfl _ _ _ _ rfl _ _ rfl rfl _ _ (Nq _) ?_)
  |(at_builtin;refine wpList_copy_runI _ rfl _ _ 26 26 rfl _ _ rfl rfl (hA _ _) ?_))
 go_region_law_o (refine step_copy_runI rfl _ _ 26 26 rfl _ _ (by simp[Act.eval,Act.put]) (by simp[Act.eval,Act.put]) (hB _ _ _) ?_)
 go_wp2
 go_ret
 exact⟨rfl,rfl,rfl,rfl,rfl⟩
end
set_option maxRecDepth 100000
open Go.RowKit
theorem Bv{α:Type}{l vs:List α}{o:Nat}(h:o+vs.length≤l.length)(j:Nat):(dQ l o vs)[j]?=if o≤j∧j<o+vs.length then vs[j-o]? else l[j]?:=by
 unfold dQ;have ht:(l.take o).length=o:=by rw[List.length_take];omega
 by_cases h1:j<o
 ·rw[if_neg (by omega),List.getElem?_append_left (by omega),List.getElem?_take_of_lt h1]
 ·rw[List.getElem?_append_right (by omega),ht];by_cases h2:j<o+vs.length
  ·rw[if_pos (by omega),List.getElem?_append_left (by omega)]
  ·rw[if_neg (by omega),List.getElem?_append_right (by omega),List.getElem?_drop]
   congr 1;omega
theorem FD{w w' W:World}{kP:Option Nat}{k n T f c:Nat}{te:TypeId}{R:Array Value}{h6:List Value}(ag:Br w' W)(hB:Bel (fun x=>kP=some x∨w.heap.size≤x) w W)(cR:W.heap[T]?=some (.cells R te (0,0)))(h1:n+1≤c)(h2:c≤maxLen)(hs:f+c * k≤R.size)
  (hw:∀j,j<(n+1) * k→R[f+j]?=h6[j]?) (av:kP=some T∨w.heap.size≤T):Nu w kP k n h6 (.slice (some ⟨T,f,none⟩) (n+1) c) w':=by
 have zR:w'.heap[T]?=some (.cells R te (0,0)):=by rw[ag.1];exact cR
 refine⟨T,f,c,rfl,h1,h2,fun j al=>?_,⟨R,te,zR,hs⟩,av,hB.adq ag⟩;rw[←hw j al];unfold cellAt;rw[zR]
theorem Ug{cs vs:List Value}{a k:Nat}(hv:vs.length=k)(ha:a≤cs.length)(j:Nat):(cs.take a++(vs++cs.drop a))[j]?=if j<a then cs[j]? else if j<a+k then vs[j-a]? else cs[j-k]?:=by
 have ht:(cs.take a).length=a:=by rw[List.length_take];omega
 by_cases h1:j<a
 ·rw[if_pos h1,List.getElem?_append_left (by omega),List.getElem?_take_of_lt h1]
 ·rw[if_neg h1,List.getElem?_append_right (by omega),ht];by_cases h2:j<a+k
  ·rw[if_pos h2,List.getElem?_append_left (by omega)]
  ·rw[if_neg h2,List.getElem?_append_right (by omega),List.getElem?_drop]
   congr 1;omega
theorem adC(xs:List ae)(i:Nat)(s:ae)(hi:i≤xs.length)(hx:xs.length≤1000)(w:World)(fk jl:Value)(fy:List Nat)(vb:Nat)(bq:List Nat)(aM:rep w.heap true (.sl 39 (xs.map ae.enc)) fk fy)(cq:rep w.heap true (.sl 39 [s.enc]) jl (vb::bq))(lL:(fy++vb::bq).Nodup) :
  Does Tryz.prog 133 #[fk,.int .i64 i,jl] w fun v w'=>∃T jS,rep w'.heap true (.sl 39 ((xs.take i++s::xs.drop i).map ae.enc)) v (T::jS)∧(T::jS).Nodup∧(∀g∈jS,g∈fy.tail++bq)∧(fy.head?=some T∨w.heap.size≤T)∧Bel (fun x=>fy.head?=some x∨w.heap.size≤x) w w':=by
 have fp:(xs.map ae.enc).length=xs.length:=I _;have he:s.enc.length=39:=by simp[ae.enc]
 simp only[rep]at aM cq;obtain⟨cx,jj,rfl,k1,k2,ee⟩:=cq;rcases ee with ⟨ee,_⟩|⟨aow,voff,aox,rfl,ix,IQ,Nv,gf⟩
 ·cases ee
 obtain⟨rfl,rfl⟩:=List.cons.inj ix;obtain⟨_,cur2,te2,lN,Kn⟩:=gf trivial;obtain⟨vs,hP,hE,uE⟩:=HS _ _ _ _ Nv;simp only[eW,ft,Nat.zero_add]at hP k1 Kn;have Uh:((xs.take i++s::xs.drop i).map ae.enc)=(xs.map ae.enc).take i++s.enc::(xs.map ae.enc).drop i:=by simp
 have a2:∀(kP:Option Nat) (b off:Nat) (cs:List Value) (bQ:List Nat) (v:Value) (w':World),repE w.heap true b off 39 (xs.map ae.enc) bQ→cs.length=xs.length * 39→(∀(j:Nat) (u:Value),cs[j]?=some u→cellAt w.heap b (off+j)=some u)→
   (∀g∈bQ++bq,kP≠some g)→(bQ++bq).Nodup→(∀g∈bQ,g∈fy.tail)→(∀g,kP=some g→fy.head?=some g)→Nu w kP 39 xs.length (cs.take (i * 39)++(vs++cs.drop (i * 39))) v w'→
   ∃T jS,rep w'.heap true (.sl 39 ((xs.take i++s::xs.drop i).map ae.enc)) v (T::jS)∧(T::jS).Nodup∧(∀g∈jS,g∈fy.tail++bq)∧(fy.head?=some T∨w.heap.size≤T)∧Bel (fun x=>fy.head?=some x∨w.heap.size≤x) w w':=by
  intro kP b off cs bQ v w' cQ bb bD bR bJ ch cZ aQ;obtain⟨T,jS,dp,da,gk,iy⟩:=adD fp hi cQ Nv bb bD (by rw[hP,Nat.one_mul]) hE (fun g hg=>⟨by
   rcases et.1 hg with h|h
   ·exact wY _ _ _ _ _ cQ g h
   ·exact wY _ _ _ _ _ Nv g h,bR g hg⟩) bJ aQ
  obtain⟨_,_,_,_,_,_,_,_,_,hB⟩:=aQ;refine⟨T,jS,by rw[Uh];exact dp,da,fun g hg=>?_,?_,hB.mono fun k hk=>?_⟩
  ·rcases et.1 (gk g hg)with h|h
   ·exact List.mem_append_left _ (ch g h)
   ·exact List.mem_append_right _ h
  ·rcases iy with h|h
   ·exact .inl (cZ T h)
   ·exact .inr h
  ·rcases hk with h|h
   ·exact .inl (cZ k h)
   ·exact .inr h
 refine Does.enter (Tryz.call133 _ _) ?_;obtain⟨cm,cM,rfl,gl,gW,oN⟩:=aM;rw[fp]at gl;have aoy:(1:Nat) * 39=39:=Nat.one_mul _;have IT:(xs.length+1) * 352≤140737488355328:=Nat.le_trans (Nat.mul_le_mul_right _ (show xs.length+1≤1001 by omega)) (by decide);have C9:i * 39≤xs.length * 39:=Nat.mul_le_mul_right _ hi;have kg:(xs.length+1) * 39=xs.length * 39+39:=by rw[Nat.add_mul,Nat.one_mul]
 have Bw:(i+1) * 39=i * 39+39:=by rw[Nat.add_mul,Nat.one_mul]
 rw[fp];rcases oN with ⟨oN,rfl,Eo⟩|⟨b,off,bQ,rfl,rfl,hb,FE,adE⟩
 ·
  have hI:xs=[]:=List.map_eq_nil_iff.1 oN;have h0:=Eo trivial;subst hI h0;obtain rfl:i=0:=by simpa using hi
  simp only[ft,Nat.zero_add]at gl IT a2⊢;have adF:bq.Nodup:=by rw[bx,List.nodup_cons]at lL;exact lL.2
  refine(Uc (cs:=[]) (vs:=vs) (n:=0) (c:=0) (m:=1) cm (by omega) (by omega) (by omega) IT (by simp) (by rw[hP]) (fun _=>rfl) (fun _ _ j v al=>by simp at al) hE uE).mono ?_;rintro e w' ⟨kQ,uU,rfl,ag⟩;have bM:=grownCap_ge w (0+1) 0 63;have x':=grownCap_le_maxLen w (0+1) 0 63 (by unfold maxLen;omega);refine a2 none 0 0 [] [] _ _ (by simp[repE]) (by simp) (by simp) (by simp) (by simpa using adF) (by simp) (by simp) (FD (R:=([]++vs).toArray++kQ) ag (A_ (Bel.refl _ _) (fun k hk=>.inr hk) _) (te:=63) (by show(w.heap.push _)[w.heap.size]?=_;simp) bM x' ?_ ?_ (.inr (Nat.le_refl _)))
  ·simp only[bx,Array.size_append,List.size_toArray,hP,uU];omega
  ·intro j al;rw[Ug (k:=39) (by omega) (by simp),if_neg (by omega),if_pos (by omega),Array.getElem?_append_left (by simp;omega)];simp
 ·obtain⟨w2,cur,te,hg,hf⟩:=adE trivial;obtain⟨cs,fk,gB,jl⟩:=HS _ _ _ _ FE;rw[fp]at fk;have hne:vb≠b:=by rintro rfl;simp at lL
  have IU:(bQ++bq).Nodup:=by
   refine List.Nodup.sublist ?_ lL;exact List.Sublist.append (List.sublist_cons_self _ _) (List.sublist_cons_self _ _)
  have Ui:∀g∈bQ++bq,(some b:Option Nat)≠some g:=by
   intro g hg h
   cases h
   rw[bB,List.nodup_cons]at lL;refine lL.1 ?_;rcases et.1 hg with h|h
   ·exact List.mem_append_left _ h
   ·exact List.mem_append_right _ (List.mem_cons_of_mem _ h)
  have adG:∀(j:Nat) (u:Value),cs[j]?=some u→w.cell? ((⟨b,off,none⟩:Addr).add j)=some u:=fun j u al=>by rw[add_lit,cell_eq];exact gB j u al
  have hw:=fun j=>Ug (cs:=cs) (vs:=vs) (a:=i * 39) (k:=39) (by omega) (by omega) j;have Uj:∀j,j<xs.length * 39→cur[off+j]?=cs[j]?:=fun j al=>by
   have:=gB j cs[j] (b8 (by omega));unfold cellAt at this;rw[hg]at this;rw[b8 (by omega)];exact this
  have C_:cur.toList.length=cur.size:=Array.length_toList;have FF:∀a c:Nat,a≤c→a * 39≤c * 39:=fun a c h=>Nat.mul_le_mul_right _ h;by_cases hS:xs.length+1≤cM
  ·have hcc:=FF _ _ hS;by_cases hin:i=xs.length
   ·subst hin;refine(adx (w:=w) (b:=b) (off:=off) (n:=xs.length) (c:=cM) (m:=1) (vb:=vb) (voff:=voff) (vc:=jj) (vs:=vs) (cur:=cur) (te:=te) (by omega) hS gW hP hg hf hE uE).mono ?_;rintro e w' ⟨rfl,ag⟩;have kJ:off+xs.length * 39+vs.length≤cur.toList.length:=by rw[C_];omega
    refine a2 (some b) b off cs bQ _ _ FE fk gB Ui IU (fun g h=>h) (fun g h=>by cases h;rfl) (FD ag (wL (Bel.refl _ _) (.inl rfl) hg (pI (by rw[C_]at kJ;exact kJ))) (setRow_heap w b cur _ te (0,0) hg) hS gW ?_ ?_ (.inl rfl))
    ·exact Nat.le_trans hf (pI (by rw[C_]at kJ;exact kJ))
    ·intro j al;rw[hw,List.getElem?_toArray,Bv kJ];by_cases h1:j<xs.length * 39
     ·rw[if_neg (by omega),if_pos h1,Array.getElem?_toList,Uj j h1]
     ·rw[if_pos (by omega),if_neg h1,if_pos (by omega)]
      congr 1;omega
   ·have hlt:i<xs.length:=by omega
    have LP:=FF _ _ (show i+1≤xs.length from hlt);refine(adr (w:=w) (b:=b) (off:=off) (n:=xs.length) (c:=cM) (i:=i) (m:=1) (vb:=vb) (voff:=voff) (vc:=jj) (cs:=cs) (vs:=vs) (cur:=cur) (te:=te) (cur2:=cur2) (te2:=te2) hlt (by omega) hS gW hne fk hP hg hf lN gB hE jl uE).mono ?_;rintro e w' ⟨rfl,ag⟩;have jZ:(cs.drop (i * 39)).length=xs.length * 39-i * 39:=by rw[List.length_drop,fk]
    have j0:off+(i+1) * 39+(cs.drop (i * 39)).length≤cur.toList.length:=by rw[C_,jZ,Bw];omega
    have hQ:=pI (cs:=cur) (f:=off+(i+1) * 39) (us:=cs.drop (i * 39)) (by rw[C_]at j0;exact j0);have lT:=setRow_heap w b cur (dQ cur.toList (off+(i+1) * 39) (cs.drop (i * 39))).toArray te (0,0) hg;have Nw:=wL (w0:=w) (B:=fun x=>(some b:Option Nat)=some x∨w.heap.size≤x) (Bel.refl _ _) (.inl rfl) hg hQ;have yk:(dQ cur.toList (off+(i+1) * 39) (cs.drop (i * 39))).length=cur.size:=by rw[yo j0,C_]
    have FG:off+i * 39+vs.length≤(dQ cur.toList (off+(i+1) * 39) (cs.drop (i * 39))).length:=by rw[yk];omega
    have iQ:=pI (cs:=(dQ cur.toList (off+(i+1) * 39) (cs.drop (i * 39))).toArray) (f:=off+i * 39) (us:=vs) (by rw[List.size_toArray];exact FG);refine a2 (some b) b off cs bQ _ _ FE fk gB Ui IU (fun g h=>h) (fun g h=>by cases h;rfl) (FD ag (wL Nw (.inl rfl) lT iQ) (setRow_heap _ b _ _ te (0,0) lT) hS gW ?_ ?_ (.inl rfl))
    ·exact Nat.le_trans hf (Nat.le_trans hQ iQ)
    ·intro j al;rw[hw,List.getElem?_toArray,Bv (by simpa using FG)];by_cases h1:j<i * 39
     ·rw[if_neg (by omega),if_pos h1,List.toList_toArray,Bv j0,if_neg (by omega),Array.getElem?_toList,Uj j (by omega)]
     ·by_cases h2:j<i * 39+39
      ·rw[if_pos (by omega),if_neg h1,if_pos h2]
       congr 1;omega
      ·rw[if_neg (by omega),if_neg h1,if_neg h2,List.toList_toArray,Bv j0,if_pos (by omega),List.getElem?_drop]
       congr 1;omega
  ·by_cases hin:i=xs.length
   ·subst hin;refine(Uc (w:=w) (cs:=cs) (vs:=vs) (n:=xs.length) (c:=cM) (m:=1) (vb:=vb) (voff:=voff) (vc:=jj) (some ⟨b,off,none⟩) (by omega) gl (by omega) IT fk hP (fun h=>by cases h) (fun a h j u al=>by cases h;exact adG j u al) hE uE).mono ?_;rintro e w' ⟨kQ,uU,rfl,ag⟩;have bM:=grownCap_ge w (xs.length+1) cM 63;have x':=grownCap_le_maxLen w (xs.length+1) cM 63 (by unfold maxLen;omega);refine a2 none b off cs bQ _ _ FE fk gB (by simp) IU (fun g h=>h) (by simp) (FD (R:=(cs++vs).toArray++kQ) ag (A_ (Bel.refl _ _) (fun k hk=>.inr hk) _) (te:=63) (by show(w.heap.push _)[w.heap.size]?=_;simp) bM x' ?_ ?_ (.inr (Nat.le_refl _)))
    ·have:=FF _ _ bM;have aj:(grownCap w (xs.length+1) cM 63-(xs.length+1)) * 39=grownCap w (xs.length+1) cM 63 * 39-(xs.length+1) * 39:=Nat.sub_mul _ _ _;simp only[Array.size_append,List.size_toArray,eG,fk,hP,uU,aj];omega
    ·intro j al;rw[hw,Nat.zero_add,Array.getElem?_append_left (by simp;omega),List.getElem?_toArray];by_cases h1:j<xs.length * 39
     ·rw[if_pos h1,List.getElem?_append_left (by omega)]
     ·rw[if_neg h1,if_pos (by omega),List.getElem?_append_right (by omega),fk]
   ·have hlt:i<xs.length:=by omega
    have LP:=FF _ _ (show i+1≤xs.length from hlt);refine(adz (w:=w) (b:=b) (off:=off) (n:=xs.length) (c:=cM) (i:=i) (m:=1) (vb:=vb) (voff:=voff) (vc:=jj) (cs:=cs) (vs:=vs) hlt (by omega) gl (by omega) IT fk hP hb IQ gB hE jl uE).mono ?_;rintro e w' ⟨kQ,uU,rfl,ag⟩;have bM:=grownCap_ge w (xs.length+1) cM 63;have x':=grownCap_le_maxLen w (xs.length+1) cM 63 (by unfold maxLen;omega);have aoz:=FF _ _ bM;have aj:(grownCap w (xs.length+1) cM 63-(xs.length+1)) * 39=grownCap w (xs.length+1) cM 63 * 39-(xs.length+1) * 39:=Nat.sub_mul _ _ _;have aE:(xs.length+1-i) * 39=(xs.length+1) * 39-i * 39:=Nat.sub_mul _ _ _;have jk:(cs.take (i * 39)).length=i * 39:=by rw[List.length_take,fk];omega
    have jZ:(cs.drop (i * 39)).length=xs.length * 39-i * 39:=by rw[List.length_drop,fk]
    obtain⟨gE,z2⟩:∃gE:Array Value,gE=(cs.take (i * 39)).toArray++kQ:=⟨_,rfl⟩;have FC:gE.size=grownCap w (xs.length+1) cM 63 * 39:=by rw[z2];simp only[Array.size_append,List.size_toArray,jk,uU,aj,aE];omega
    have Nx:gE.toList.length=gE.size:=Array.length_toList;have Uk:∀j,j<i * 39→gE.toList[j]?=cs[j]?:=fun j al=>by rw[z2,Array.getElem?_toList,Array.getElem?_append_left (by simp;omega),List.getElem?_toArray,List.getElem?_take_of_lt al]
    rw[←z2]at ag;have j0:i * 39+vs.length≤gE.toList.length:=by rw[Nx,FC];omega
    have hQ:=pI (cs:=gE) (f:=i * 39) (us:=vs) (by rw[Nx]at j0;exact j0);have C':(w.alloc (.cells gE 63)).heap[w.heap.size]?=some (.cells gE 63 (0,0)):=by show(w.heap.push _)[w.heap.size]?=_;simp
    have lT:=setRow_heap (w.alloc (.cells gE 63)) w.heap.size gE (dQ gE.toList (i * 39) vs).toArray 63 (0,0) C';have adH:=A_ (w0:=w) (B:=fun x=>(none:Option Nat)=some x∨w.heap.size≤x) (Bel.refl _ _) (fun k hk=>.inr hk) (.cells gE 63);have Nw:=wL adH (.inr (Nat.le_refl _)) C' hQ;have yk:(dQ gE.toList (i * 39) vs).length=gE.size:=by rw[yo j0,Nx]
    have FG:(i+1) * 39+(cs.drop (i * 39)).length≤(dQ gE.toList (i * 39) vs).length:=by rw[yk,jZ,FC,Bw];omega
    have iQ:=pI (cs:=(dQ gE.toList (i * 39) vs).toArray) (f:=(i+1) * 39) (us:=cs.drop (i * 39)) (by rw[List.size_toArray];exact FG);refine a2 none b off cs bQ _ _ FE fk gB (by simp) IU (fun g h=>h) (by simp) (FD ag (wL Nw (.inr (Nat.le_refl _)) lT iQ) (setRow_heap _ w.heap.size _ _ 63 (0,0) lT) bM x' ?_ ?_ (.inr (Nat.le_refl _)))
    ·rw[Nat.zero_add,←FC];exact Nat.le_trans hQ iQ
    ·intro j al;rw[hw,Nat.zero_add,List.getElem?_toArray,Bv (by simpa using FG)];by_cases h1:j<i * 39
     ·rw[if_neg (by omega),if_pos h1,List.toList_toArray,Bv j0,if_neg (by omega),Uk j h1]
     ·by_cases h2:j<i * 39+39
      ·rw[if_neg (by omega),if_neg h1,if_pos h2,List.toList_toArray,Bv j0,if_pos (by omega)]
      ·rw[if_pos (by omega),if_neg h1,if_neg h2,List.getElem?_drop]
       congr 1;omega
set_option maxRecDepth 100000
open Go.RowKit
theorem Ul{B:Nat→Prop}{w0:World}{aK:Nat→Prop}{φ:cp}{σ:St}{kp:List (V×Value)}{a:Act}{w:World}(r:R B w0 aK φ σ kp a w){id sz n:Nat}{xs:List (List D)}{u:Value}(hx:aL σ.heap id=.ar sz xs true∨aL σ.heap id=.af sz xs)(hn:n=xs.length)
  (v:VRel φ (cz φ σ.heap) w.heap (.sl id 0 n) u):∃β F,φ id=some β∧rep w.heap true (.sl sz xs) u F∧F.Nodup∧(∀g∈F,c5 φ σ.heap id g)∧∀g,F.head?=some g→jq (aL σ.heap id) β g:=by
 simp only[VRel]at v;obtain⟨β,ad,c,dA,rfl,vH,nk⟩:=v;subst hn;have gq:(aL σ.heap id).own=true:=by rcases hx with h|h<;>rw[h]<;>rfl
 have yn:(aL σ.heap id).m2=true:=H.Im gq;have gf:=r.e9 id β dA gq;have hr:β.sz=sz∧((β.eh=none∧xs=[]∧β.cap=0∧β.c_=[])∨∃b,β.eh=some b∧xs.length≤β.cap∧mB w.heap b (β.off+β.cap * sz)∧repE w.heap true b β.off sz xs β.c_):=by
  rcases r.hp id with hd|⟨a_,e,hr⟩
  ·rw[hd]at gq;cases gq
  ·rw[dA]at e;cases e;rcases hx with h|h
   ·rw[h]at hr;simp only[dX]at hr;obtain⟨h1,h2⟩:=hr;refine⟨h1,?_⟩;rcases h2 with h2|⟨b,G,cQ,bb,bD,bR,bJ,_⟩
    ·exact .inl h2
    ·exact .inr ⟨b,cQ,bb,bD,(bJ trivial)▸bR⟩
   ·rw[h]at hr;simp only[dX]at hr;exact hr
 obtain⟨cH,hr⟩:=hr;have nil:xs=[]→c=0→∃β F,φ id=some β∧rep w.heap true (.sl sz xs) (.slice ad xs.length c) F∧F.Nodup∧(∀g∈F,c5 φ σ.heap id g)∧∀g,F.head?=some g→jq (aL σ.heap id) β g:=by
  intro h0 hc;refine⟨β,[],dA,?_,List.nodup_nil,by simp,by simp⟩;simp only[rep];exact⟨ad,c,rfl,by rw[h0];simp,vH,.inl ⟨h0,trivial,fun _=>hc⟩⟩
 rcases hr with ⟨_,h2,aj,_⟩|⟨b,h1,h2,aj,aE⟩
 ·rcases nk with ⟨z,_,_⟩|⟨dE,z,_⟩
  ·exact nil h2 z
  ·simp_all
 ·rcases nk with ⟨z,jc,_⟩|⟨dE,z,jc,pq,zc⟩
  ·exact nil (List.length_eq_zero_iff.1 jc) z
  ·rw[h1]at z;cases z;by_cases hc:c=0
   ·exact nil (List.length_eq_zero_iff.1 (by omega)) hc
   ·refine⟨β,b::β.c_,dA,?_,List.nodup_cons.2 ⟨gf.2 b h1,gf.1⟩,fun g hg=>?_,fun g hg=>?_⟩
    ·simp only[rep];rw[Nat.zero_mul,Nat.add_zero]at jc;exact⟨ad,c,rfl,pq,vH,.inr ⟨b,β.off,β.c_,jc,rfl,aj.lt,aE,fun _=>⟨by omega,by rw[show c=β.cap by omega];exact aj⟩⟩⟩
    ·rcases List.mem_cons.1 hg with rfl|hg
     ·exact⟨β,dA,.inl ⟨yn,h1⟩⟩
     ·exact⟨β,dA,.inr ⟨gq,hg⟩⟩
    ·simp only[List.head?_cons,bF]at hg;subst hg;exact .inl ⟨yn,h1⟩
theorem Ny{hs:List H}{i:Nat}{x:H}(h:i<hs.length):(b_ hs i x).length=hs.length:=by unfold b_;rw[if_pos h,List.length_set]
theorem adI(hs:List H)(x:H)(j:Nat):aL (hs++[x]) j=if j=hs.length then x else aL hs j:=by
 unfold aL;simp only[ib];by_cases h1:j<hs.length
 ·rw[List.getElem?_append_left h1,if_neg (by omega)]
 ·rw[List.getElem?_append_right (by omega)];by_cases h2:j=hs.length
  ·rw[if_pos h2,h2];simp
  ·rw[if_neg h2,List.getElem?_eq_none (by simp;omega),List.getElem?_eq_none (by omega)]
theorem Um(xs:List ae)(i:Nat)(s:ae)(hi:i≤xs.length)(hx:xs.length≤1000){kv:List V}{hs:List H}{mb oY:Nat}(h1:aL hs mb=.ar 39 (xs.map ae.enc) true∨aL hs mb=.af 39 (xs.map ae.enc))(h2:aL hs oY=.ar 39 [s.enc] true)(hne:mb≠oY){K:V→List H→Prop}
  (b6:K (.sl hs.length 0 (xs.length+1)) (b_ (b_ hs mb .b') oY .b'++[.ar 39 ((xs.take i++s::xs.drop i).map ae.enc) true])):dx Tryz.prog 133 kv hs [.sl mb 0 xs.length,.i i,.sl oY 0 1] K:=by
 intro B w0 kp us w bu K';obtain⟨aK,φ,r,b4⟩:=K';have Un:=r.g8;simp only[VRels]at Un;obtain⟨fk,Tg,ah,hP,gB,aoA,rfl,hE,jl,aoB,rfl,uE,rfl⟩:=Un;obtain rfl:us=[fk,gB,jl]:=ah;simp only[VRel,rep]at hE;obtain⟨_,⟨rfl,_⟩,_⟩:=hE;obtain⟨CQ,fy,dA,aM,l7,dJ,f_⟩:=Ul r h1 (by simp) hP;obtain⟨adJ,adK,f3,cq,uH,e_,_⟩:=Ul r (sz:=39) (xs:=[s.enc]) (.inl h2) rfl uE;obtain⟨vb,bq,rfl⟩:∃vb bq,adK=vb::bq:=by
  simp only[rep]at cq;obtain⟨_,_,_,_,_,h|⟨b,_,G,_,h,_⟩⟩:=cq
  ·cases h.1
  ·exact⟨b,G,h⟩
 have lL:(fy++vb::bq).Nodup:=List.nodup_append.2 ⟨l7,uH,fun a ha b hb e=>hne (r.dJ mb oY a (dJ a ha) (e▸e_ b hb))⟩;have fU:=fun i β e=>b4 i (r.fU i β e);have gl:mb<hs.length:=fU mb CQ dA;have gW:oY<hs.length:=fU oY adJ f3;refine(adC xs i s hi hx w fk jl fy vb bq aM cq lL).mono ?_;rintro v w' ⟨T,jS,dp,da,gk,iy,nX⟩;refine⟨_,_,b6,?_⟩;have ff:((xs.take i++s::xs.drop i).map ae.enc).length=xs.length+1:=by simp;omega
 simp only[rep]at dp;obtain⟨ad,c,rfl,cQ,bb,bD⟩:=dp;rcases bD with ⟨bD,_⟩|⟨b,f,G,rfl,bR,hb,adL,av⟩
 ·rw[bD]at ff;simp at ff
 obtain⟨rfl,rfl⟩:=List.cons.inj bR;obtain⟨w2,hS⟩:=av trivial;rw[ff]at cQ;obtain⟨a_,pz⟩:∃a_:gQ,a_=⟨some T,f,c,39,jS⟩:=⟨_,rfl⟩;obtain⟨bY,dk⟩:∃bY:H,bY=.ar 39 ((xs.take i++s::xs.drop i).map ae.enc) true:=⟨_,rfl⟩;rw[←dk];obtain⟨hs',Bd⟩:∃hs',hs'=b_ (b_ hs mb .b') oY .b'++[bY]:=⟨_,rfl⟩;have gd:(b_ (b_ hs mb .b') oY .b').length=hs.length:=by rw[Ny (by rw[Ny gl];exact gW),Ny gl]
 have hg:∀j,aL hs' j=if j=hs.length then bY else if j=oY then .b' else if j=mb then .b' else aL hs j:=fun j=>by
  rw[Bd,adI,gd,hH,hH]
 rw[←Bd];have zH:φ hs.length=none:=by
  cases h:φ hs.length with
  |none=>rfl
  |some β=>exact absurd (fU _ _ h) (Nat.lt_irrefl _)
 have FH:aL hs' hs.length=bY:=by rw[hg,if_pos rfl]
 have cC:aL hs' mb=.b':=by rw[hg,if_neg (by omega)];split<;>simp
 have c8:aL hs' oY=.b':=by rw[hg,if_neg (by omega),if_pos rfl]
 have hZ:c6 φ hs.length a_ hs.length=some a_:=by unfold c6;rw[if_pos rfl]
 have dy:∀j,j≠hs.length→c6 φ hs.length a_ j=φ j:=fun j al=>by unfold c6;rw[if_neg al]
 have uB:∀j,j=mb∨j=oY→∀b,¬c5 (c6 φ hs.length a_) hs' j b:=by
  rintro j al b ⟨β,_,av⟩;have:aL hs' j=.b':=by rcases al with rfl|rfl;exact cC;exact c8
  rw[this]at av;rcases av with ⟨h,_⟩|⟨h,_⟩<;>cases h
 have hnew:∀b,c5 (c6 φ hs.length a_) hs' hs.length b→b=T∨b∈jS:=by
  rintro b ⟨β,e,av⟩;rw[hZ]at e;cases e;rw[pz]at av;rcases av with ⟨_,h⟩|⟨_,h⟩
  ·exact .inl (aI h).symm
  ·exact .inr h
 have Uo:∀g,fy.head?=some g→g∈fy:=fun g hg=>List.mem_of_head? hg;have master:=wP r (fun j=>j=mb∨j=oY∨j=hs.length) (fun j=>aK j∨j=hs.length) (c6 φ hs.length a_) hs' w'
  (fun j al=>by
   simp only[not_or]at al;exact⟨by rw[hg,if_neg al.2.2,if_neg al.2.1,if_neg al.1],dy j al.2.2⟩)
  (fun j β e=>by
   by_cases al:j=hs.length
   ·subst al;rw[zH]at e;cases e
   ·exact⟨β,by rw[dy j al];exact e,rfl,rfl,rfl,rfl⟩)
  nX.size
  (fun b hb ht=>nX.block b fun h=>by
   rcases h with h|h
   ·exact ht mb (.inl rfl) CQ dA (f_ b h)
   ·omega)
  (fun j al b av=>by
   rcases al with rfl|rfl|rfl
   ·exact absurd av (uB _ (.inl rfl) b)
   ·exact absurd av (uB _ (.inr rfl) b)
   ·rcases hnew b av with rfl|h
    ·rcases iy with h|h
     ·exact .inr ⟨mb,.inl rfl,dJ _ (Uo _ h)⟩
     ·exact .inl h
    ·rcases et.1 (gk b h)with h|h
     ·exact .inr ⟨mb,.inl rfl,dJ b (List.mem_of_mem_tail h)⟩
     ·exact .inr ⟨oY,.inr (.inl rfl),e_ b (List.mem_cons_of_mem _ h)⟩)
  (fun j al β e b ht=>by
   have av:=jq.wV e ht;rcases al with rfl|rfl|rfl
   ·exact absurd av (uB _ (.inl rfl) b)
   ·exact absurd av (uB _ (.inr rfl) b)
   ·rw[hZ]at e;cases e;rw[FH,dk,pz]at ht;rcases ht with ⟨_,h⟩|⟨h,_⟩
    ·obtain rfl:=aI h;rcases iy with h|h
     ·exact .inr ⟨mb,CQ,.inl rfl,dA,f_ _ h⟩
     ·exact .inl h
    ·cases h)
  (fun j k b al hk aj aE=>by
   rcases al with rfl|rfl|rfl
   ·exact absurd aj (uB _ (.inl rfl) b)
   ·exact absurd aj (uB _ (.inr rfl) b)
   ·rcases hk with rfl|rfl|rfl
    ·exact absurd aE (uB _ (.inl rfl) b)
    ·exact absurd aE (uB _ (.inr rfl) b)
    ·rfl)
  (fun j β al e gq=>by
   rcases al with rfl|rfl|rfl
   ·rw[cC]at gq;cases gq
   ·rw[c8]at gq;cases gq
   ·rw[hZ]at e;cases e;rw[pz];rw[List.nodup_cons]at da;exact⟨da.2,fun b hb=>by obtain rfl:=aI hb;exact da.1⟩)
  (fun j al=>by
   rcases al with rfl|rfl|rfl
   ·exact .inl cC
   ·exact .inl c8
   ·refine .inr ⟨a_,hZ,?_⟩;rw[FH,dk,pz];simp only[dX];exact⟨trivial,.inr ⟨T,jS,rfl,by rw[ff];exact cQ,hS,adL,fun _=>rfl,fun h=>by cases h⟩⟩)
  (fun j β e=>by
   by_cases al:j=hs.length
   ·exact .inr al
   ·rw[dy j al]at e;exact .inl (r.fU j β e))
  (r.fP.trans (nX.mono fun x hx=>by
   rcases hx with h|h
   ·exact r.e_ mb x (dJ x (Uo x h))
   ·exact r.bs x h))
 refine⟨_,_,⟨?_,master.kp,master.hp,master.dJ,master.e9,master.e_,master.fU,master.fP,master.bs,rfl,master.ko⟩,fun j al=>?_⟩
 ·simp only[VRels];refine⟨_,[],rfl,?_,rfl⟩;simp only[VRel];refine⟨a_,some ⟨T,f,none⟩,c,hZ,by rw[ff],bb,.inr ⟨T,by rw[pz],by rw[pz];simp,cQ,by rw[pz];simp⟩⟩
 ·show j<hs'.length
  rw[Bd,eG,gd];rcases al with h|h
  ·have:=b4 j h;simp only[eW,ft];simp only at this;omega
  ·rw[h];simp
section
variable {P:Program} {kv:List V} {c:Code} {σ:St} {K:St→Prop} {bY:List (Nat×(St→Prop))} {cE:St→Prop}
theorem OE(hm:P.follows .mixedOrders=true)(k:Nat)(h:codeE P kv (headC k c) σ (bG (fun σ'=>gL P kv (Ak k c) σ' K bY cE) .mk) bY cE):gL P kv c σ K bY cE:=O3 hm k c σ h fun _ h=>h
theorem Xd{σ':St}(hs:pM σ σ')(h:gL P kv c σ' K bY cE):gL P kv c σ K bY cE:=fun B w0 kp Q a w bu b6 dk aQ r=>h B w0 kp Q a w bu b6 dk aQ (Ie hs r)
theorem agc(id b0:Nat)(h:openE id b0 σ (bG (fun lP=>gL P kv c lP K bY cE) .mk)):gL P kv c σ K bY cE:=by
 obtain⟨lP,h1,h2⟩:=Mr h;exact Xd h1 h2
theorem agd(id:Nat)(h:closeE id σ (bG (fun lP=>gL P kv c lP K bY cE) .mk)):gL P kv c σ K bY cE:=by
 obtain⟨lP,h1,h2⟩:=abp h;exact Xd h1 h2
end
section
variable {P:Program} {kv:List V} {c x y:Code} {σ:St} {K:St→Prop} {bY:List (Nat×(St→Prop))} {cE:St→Prop}
theorem aga{K1:St→Prop}(h1:gL P kv x σ K1 bY cE)(h2:∀σ',K1 σ'→gL P kv y σ' K bY cE):gL P kv (.seq x y) σ K bY cE:=by
 intro B w0 kp Q a w bu b6 dk aQ r;exact wp_seq (h1 B w0 kp _ a w bu (fun σ' a' w' h' c4=>h2 σ' h' B w0 kp Q a' w' bu b6 dk aQ c4) (fun id σ' a' w' h' c4=>dk id σ' a' w' h' c4) (fun σ' a' w' h' c4=>aQ σ' a' w' h' c4) r)
theorem agb{o:Operand}{b:Bool}(hv:σ.ev o=.d (.bool b))(h:gL P kv (if b then x else y) σ K bY cE):gL P kv (.cond o x y) σ K bY cE:=by
 intro B w0 kp Q a w bu b6 dk aQ r;obtain⟨aK,φ,r0,b4⟩:=r;have yx:=yb r0 o;rw[hv]at yx;simp only[VRel,rep]at yx;obtain⟨F,⟨he,_⟩,_⟩:=yx;exact wp_cond he (h B w0 kp Q a w bu b6 dk aQ ⟨aK,φ,r0,b4⟩)
end
set_option maxRecDepth 100000
def BN(id:Int)(s:ae):Bool:=decide (id<s.id)
theorem VV{s:ae}:∀(l:List ae) (i:Nat),i≤l.length→(l.take i).any (BN s.id)=false→(∀h:i<l.length,BN s.id l[i]=true)→insA s l=l.take i++s::l.drop i
 |[],i,hi,_,_=>by simp[insA]
 |x::l,0,_,_,h=>by
  have:=h (by simp);simp only[BN,List.getElem_cons_zero,b2]at this;simp[insA,this]
 |x::l,i+1,hi,h1,h2=>by
  simp only[List.take_succ_cons,List.any_cons,Bool.or_eq_false_iff]at h1;have hx:¬s.id<x.id:=by simpa [BN]using h1.1
  rw[insA,if_neg hx,VV l i (by simpa using hi) h1.2 (fun h=>by have:=h2 (by simpa using h);simpa using this)];simp
theorem af8{l:List ae}(hl:l.length≤30)(hz:∀x∈l,eO x):l.length+kZ ae.er l≤4194304:=by
 have:=B' ae.er 101300 l fun x hx=>Ql (hz x hx);omega
theorem af9{l:List ae}{s:ae}{i:Nat}(h:fIx (eP s.id) l=(i:Int))(hi:i<l.length):putS l s=l.take i++s::l.drop (i+1):=by
 rw[Ol h,List.set_eq_take_append_cons_drop,if_pos hi]
theorem Rw(l:List ae)(s:ae)(hl:l.length≤30)(hz:∀x∈l,eO x)(hs:eO s):aJ 96 [.one (.sl 39 (l.map ae.enc)),.agg (ae.enc s)] [.one (.sl 39 (((putS l s)).map ae.enc))]:=by
 refine ub 35 Tryz.func96 Tryz.call96 [.tmp 4] ?_;intro ok;clear ok;obtain⟨dy,dT,c2,d'⟩:=hs;have ZF:=PY l (af8 hl hz);have Hy:=Er l s.id;rcases uk (eP s.id) l with ⟨h1,_⟩|⟨i,hi,h1,_,_⟩
 ·rw[h1]at Hy;have ah:decide ((0:Int)≤-1)=false:=by decide
  have ai:decide ((-1:Int)<0)=true:=by decide
  have hm:l.length≤maxLen:=by simp only[maxLen];omega
  have b_:∀i,i≤l.length→(l.take i).any (BN s.id)=false→(∀h:i<l.length,BN s.id l[i]=true)→putS l s=l.take i++s::l.drop i:=fun i h2 aj aE=>by rw[Jj h1,VV l i h2 aj aE]
  refine ng b1 ?_
  try simp only[go_sem]
  repeat'(first|((first|refine ab.af (by assumption) ?_|refine au.af (by assumption) ?_)<;>simp only[go_sem,I])|(with_reducible refine aw ?_)|fail)
  refine ab.inl (fc (n:=19) (rs:=[.tmp 4]) Tryz.func63 rfl Tryz.call63 b1 rfl rfl ?_);simp only[go_sem,I];refine b7.intro (fun i:Nat=>⟨(.d (.sl 39 (l.map ae.enc))::.fn 132 [.ptr 0 0 0]::.ak::.ak::.i 0::.ak::.ak::.i l.length::.i i::jn 10 []),[.box (ae.bE s),.af 39 (l.map ae.enc)]⟩)
   (fun i=>l.length-i) (fun i=>i≤l.length∧(l.take i).any (BN s.id)=false) 0 [0,1] ⟨by omega,by simp⟩ ?_ ?_
  ·simp only[go_sem];simp
  ·rintro i ⟨hi,he⟩;by_cases h2:i<l.length
   ·have hF:decide ((i:Int)<(l.length:Int))=true:=bp (by omega);have aq:=b5 ae.enc l i h2;have hw:=dK h2 hm;simp only[go_sem,I,aC,aq,ae.enc,hF];refine⟨⟨by omega,by omega⟩,?_⟩;refine ab.inl (fc (n:=9) (rs:=[.tmp 3]) Tryz.func132 rfl Tryz.call132 b1 rfl rfl ?_);simp only[go_sem];refine bt (fun h=>?_) (fun h=>?_)
    ·have aX:decide ((i:Int)<0)=false:=bo (by omega);have hp:=b_ i hi he fun _=>h
     try simp only[go_sem,aX]
     repeat'(first|((first|refine ab.intro (by first|assumption|(apply D0<;>exact aP)) ?_|refine au.intro (by assumption) ?_)<;>simp only[go_sem,I])|(with_reducible refine aw ?_)|fail)
     refine ab.inl (Um l i s (by omega) (by omega) (.inr rfl) rfl (by decide) ?_);simp only[go_sem];have cF:((l.take i++s::l.drop i).map ae.enc).length=l.length+1:=by simp;omega
     rw[hp,if_pos (Nat.le_of_eq cF.symm),dH (Nat.le_of_eq cF)];simp[outOA]
    ·simp only[go_sem,hw];refine bA.intro (i+1) [0,1] ⟨by omega,As _ l i h2 he h⟩ (by omega) ?_;simp only[go_sem];simp
   ·have hF:decide ((i:Int)<(l.length:Int))=false:=bo (by omega);obtain rfl:i=l.length:=by omega
    have hp:=b_ l.length hi he fun h=>absurd h (Nat.lt_irrefl _);simp only[go_sem,I,hF]
    try simp only[go_sem,I,ai]
    repeat'(first|((first|refine ab.intro (by first|assumption|(apply D0<;>exact aP)) ?_|refine au.intro (by assumption) ?_)<;>simp only[go_sem,I])|(with_reducible refine aw ?_)|fail)
    refine ab.inl (Um l l.length s (by omega) (by omega) (.inr rfl) rfl (by decide) ?_);simp only[go_sem];have cF:((l.take l.length++s::l.drop l.length).map ae.enc).length=l.length+1:=by simp
    rw[hp,if_pos (Nat.le_of_eq cF.symm),dH (Nat.le_of_eq cF)];simp[outOA]
 ·rw[h1]at Hy;have b_:=af9 h1 hi;have aq:=b5 ae.enc l i hi;have ah:decide ((0:Int)≤(i:Int))=true:=bp (by omega);refine OE b1 2 ?_
  try simp only[go_sem]
  repeat'(first|((first|refine ab.af (by assumption) ?_|refine au.af (by assumption) ?_)<;>simp only[go_sem,I])|(with_reducible refine aw ?_)|fail)
  refine aga (K1:=fun _=>False) ?_ fun _ h=>h.elim;refine OE b1 2 ?_
  try simp only[go_sem]
  repeat'((first|refine ab.af (by assumption) ?_|refine au.af (by assumption) ?_)<;>simp only[go_sem,ah])
  refine agb (b:=true) (by simp only[go_sem]) ?_;refine agc 1 i ?_;simp only[go_sem,I,aq,ae.enc];refine OE b1 1 ?_
  try simp only[go_sem]
  repeat'(first|((first|refine ab.intro (by first|assumption|(apply D0<;>exact aP)) ?_|refine au.intro (by assumption) ?_)<;>simp only[go_sem,I,aC])|(with_reducible refine aw ?_)|fail)
  refine agd 1 ?_;simp only[go_sem,I];refine aw ?_;refine ng b1 ?_
  try simp only[go_sem]
  rw[b_];have br:l.length≤min i l.length+(l.length-(i+1)+1):=by omega
  simp[outOA,br];exact dH (by simp;omega)
set_option maxRecDepth 100000
theorem aeX(s:Bool)(n:Int):aJ 129 [.one (.bool s),.one (.int .i64 n)] [.one (.bool (eU s n))]:=by
 refine aN 17 Tryz.func129 Tryz.call129 [.tmp 4] ?_;intro _
 try simp only[go_sem]
 repeat'((first|refine ab.intro (by apply yj) ?_|refine au.intro (by first|apply Lu|apply Lx) ?_|refine a7 ?_)<;>simp only[go_sem])
 all_goals(refine eo ?_;simp[eU])
theorem aeY(s:Bool)(n:Int):aJ 130 [.one (.bool s),.one (.int .i64 n)] [.one (.bool (fC s n))]:=by
 refine aN 18 Tryz.func130 Tryz.call130 [.tmp 4] ?_;intro _
 try simp only[go_sem]
 repeat'((first|refine ab.intro (by apply yj) ?_|refine au.intro (by first|apply Lu|apply Lx) ?_|refine a7 ?_)<;>simp only[go_sem])
 all_goals(refine eo ?_;simp[fC])
theorem aeZ :aJ 127 [] [.agg (bL.enc (oI))]:=by
 refine aN 2 Tryz.func127 Tryz.call127 [.cell 0 59] ?_;intro _
 try simp only[go_sem]
 all_goals simp[oI]
theorem ae0 :aJ 128 [] [.agg [.int .i64 (n8).iw,.bool (n8).hR]]:=by
 refine aN 2 Tryz.func128 Tryz.call128 [.cell 0 61] ?_;intro _
 try simp only[go_sem]
 all_goals simp[n8]
theorem Vi(n:Int):aJ 184 [.one (.int .i64 n)] [.agg [.int .i64 (ja n).size,.int .i64 (ja n).base,.int .i64 (ja n).cv,.sl 1 ((ja n).cells.map aW)],.one (.bool (jw n))]:=by
 refine aN 12 Tryz.func184 Tryz.call184 [.cell 2 51,.tmp 3] ?_;intro _
 cases aU:jw n with
 |false=>
  try simp only[go_sem]
  repeat'(refine ab.intro (by apply BH) ?_<;>simp only[go_sem,aU])
  all_goals simp[ja,aU]
 |true=>
  have hn:=x5 aU
  try simp only[go_sem]
  repeat'(first|(refine ab.intro (by apply BH) ?_<;>simp only[go_sem,aU])|(with_reducible refine aw ?_)|fail)
  all_goals simp[ja,aU,aW]
theorem ae1(n:Int):aJ 131 [.one (.int .i64 n)] [.agg (aO.enc (jF n)),.one (.bool (jw n))]:=by
 refine aN 16 Tryz.func131 Tryz.call131 [.cell 2 54,.tmp 3] ?_;intro _
 cases aU:jw n with
 |false=>
  try simp only[go_sem]
  repeat'(refine ab.intro (by apply Vi) ?_<;>simp only[go_sem,aU])
  all_goals simp[jF,GY,aU]
 |true=>
  have hn:=x5 aU
  try simp only[go_sem]
  repeat'(first|(refine ab.intro (by apply Vi) ?_<;>simp only[go_sem,aU])|(with_reducible refine aw ?_)|fail)
  all_goals simp[jF,ja,aU,aW]
theorem Rx(v:Bool)(i m9 m_ m' n9 n_ n' oa ob oc na od oe og oh oi oj:Int):aJ 95 [.one (.bool v),.one (.int .i64 i),.agg [.int .i64 m9,.int .i64 m_,.int .i64 m',.int .i64 n9,.int .i64 n_,.int .i64 n',.int .i64 oa,.int .i64 ob],.agg [.int .i64 oc,.int .i64 na,.int .i64 od,.int .i64 oe,.int .i64 og,.int .i64 oh,.int .i64 oi,.int .i64 oj]] [.agg (ae.enc (eX v i (⟨m9,m_,m',n9,n_,n',oa,ob⟩:bW) (⟨oc,na,od,oe,og,oh,oi,oj⟩:bW))),.one (.bool (lV i (⟨m9,m_,m',n9,n_,n',oa,ob⟩:bW) (⟨oc,na,od,oe,og,oh,oi,oj⟩:bW)))]:=by
 refine aN 59 Tryz.func95 Tryz.call95 [.cell 8 63,.tmp 9] ?_;intro _;have ag:=Vj i (⟨m9,m_,m',n9,n_,n',oa,ob⟩:bW) (⟨oc,na,od,oe,og,oh,oi,oj⟩:bW);have aT:eX v i (⟨m9,m_,m',n9,n_,n',oa,ob⟩:bW) (⟨oc,na,od,oe,og,oh,oi,oj⟩:bW)=if lV i (⟨m9,m_,m',n9,n_,n',oa,ob⟩:bW) (⟨oc,na,od,oe,og,oh,oi,oj⟩:bW)then⟨i,jF m9,jW na,oI,mM m_ m',n8,eU v i,fC v i,false,false,false,false,0,false⟩else jG:=rfl
 try simp only[go_sem]
 repeat'((first|refine ab.intro (by apply yj) ?_|refine au.intro (by apply DU) ?_|refine a7 ?_)<;>simp only[go_sem])
 rw[ag]
 cases bT:lV i (⟨m9,m_,m',n9,n_,n',oa,ob⟩:bW) (⟨oc,na,od,oe,og,oh,oi,oj⟩:bW)with
 |false=>
  rw[bT]at aT;simp only[go_sem,cc];rw[aT];simp[jG]
 |true=>
  rw[bT]at aT;simp only[go_sem,bS]
  try simp only[go_sem]
  repeat'(first|(refine ab.intro (by first|apply aeZ|apply ae0|apply aeX|apply aeY|apply ae1|apply P_|apply P') ?_<;>simp only[go_sem])|(with_reducible refine aw ?_)|fail)
  all_goals(rw[aT];simp[gx])
set_option maxRecDepth 100000
theorem ZI(n:Int):aJ 94 [.one (.int .i64 n)] [.one (.int .i64 (bZ n))]:=by
 refine aN 8 Tryz.func94 Tryz.call94 [.tmp 2] ?_;intro _
 cases aU:bN n with
 |false=>
  try simp only[go_sem]
  repeat'(refine ab.intro (by apply yj) ?_<;>simp only[go_sem,aU])
  all_goals simp[bZ,aU]
 |true=>
  have cR:n.tdiv 4=n.fdiv 4:=by
   have:0≤n:=by simp[bN,bK]at aU;omega
   rw[Int.tdiv_eq_ediv_of_nonneg this,Int.fdiv_eq_ediv_of_nonneg _ (by omega)]
  have hW:IntKind.i64.wrap (n.fdiv 4)=n.fdiv 4:=by
   have:0≤n∧n≤4611686018427387903:=by simpa [bN,bK]using aU
   rw[Int.fdiv_eq_ediv_of_nonneg _ (by omega)];rw[bz]<;>omega
  try simp only[go_sem]
  repeat'(refine ab.intro (by apply yj) ?_<;>simp only[go_sem,aU])
  all_goals simp[bZ,aU,cR,hW]
theorem Rv(eA ei eB eC i:Int):aJ 92 [.agg [.int .i64 eA,.int .i64 ei,.int .i64 eB,.int .i64 eC],.one (.int .i64 i)] [.agg [.int .i64 (dd (⟨eA,ei,eB,eC⟩:dB) i).most,.int .i64 (dd (⟨eA,ei,eB,eC⟩:dB) i).aR,.int .i64 (dd (⟨eA,ei,eB,eC⟩:dB) i).seen,.int .i64 (dd (⟨eA,ei,eB,eC⟩:dB) i).closed],.one (.int .i64 (fj (⟨eA,ei,eB,eC⟩:dB) i)),.one (.bool (ia (⟨eA,ei,eB,eC⟩:dB) i))]:=by
 refine aN 33 Tryz.func92 Tryz.call92 [.cell 4 34,.tmp 5,.tmp 6] ?_;intro _
 cases hA:g0 (⟨eA,ei,eB,eC⟩:dB)with
 |false=>
  have hs:ia (⟨eA,ei,eB,eC⟩:dB) i=false:=by unfold ia;rw[hA];rfl
  try simp only[go_sem]
  repeat'((first|refine ab.intro (by apply Fx) ?_|with_reducible refine e5 ?_)<;>simp only[go_sem,hA])
  all_goals simp[dd,fj,hs]
 |true=>
  have hb:=hA;simp only[g0,bK,bP,b2]at hb;have hw:IntKind.i64.wrap (ei-1)=ei-1:=by rw[bz]<;>omega
  have hs:ia (⟨eA,ei,eB,eC⟩:dB) i=bK i 0 (ei-1):=by
   unfold ia bK;rw[hA,Bool.true_and]
   cases h:decide (0≤i)<;>simp;omega
  cases hi:bK i 0 (ei-1)with
  |false=>
   rw[hi]at hs
   try simp only[go_sem]
   repeat'((first|refine ab.intro (by first|apply Fx|apply il) ?_|with_reducible refine du ?_)<;>simp only[go_sem,hA,hw,hi])
   all_goals simp[dd,fj,hs]
  |true=>
   rw[hi]at hs
   try simp only[go_sem]
   repeat'((first|refine ab.intro (by first|apply Fx|apply il) ?_|with_reducible refine du ?_)<;>simp only[go_sem,hA,hw,hi])
   have hm:∀z:Int,(if z<0 then(0:Int)else z)=if 0<z then z else 0:=fun z=>by split<;>split<;>omega
   all_goals simp[dd,fj,hs,eb,hm]
set_option maxRecDepth 100000
def Ls:List (List bH):=cP 23 [90634871105,90634871103,90634871097,90634871079,90634873333,90634874224,90634873738,90634872199,90635133505,90635120383,90635081017,90634962919,90656128705,90655065823,90651877177,90642311239,90613347705,90527254263,89106712470,79421200245,92399786626,84845087091,62762119218]
def Lt:List (List bH):=cP 10 [57956,58804,58798,58780,58726,58927,58321,56862,52488,39366]
attribute [go_sem] Ls Lt
theorem Hw{kv:List V}{hs:List H}{id:Nat}(n:Int){o:Nat}(av:(if j3 n then 38 else 34)=o){K:V→List H→Prop}(b6:K (.ptr id 0 o) hs):dx Tryz.prog 93 kv hs [.ptr id 0 0,.i n] K:=by
 have yi:=Lu n;subst av;refine(fc (n:=13) (rs:=[.tmp 4]) Tryz.func93 rfl Tryz.call93 b1 rfl rfl ?_);simp only[go_sem];refine ab.intro yi ?_
 cases hu:j3 n
 ·rw[hu]at b6;simp only[go_sem];exact b6
 ·rw[hu]at b6;simp only[go_sem];exact b6
theorem Rs(c:J)(id:Int)(a:dB)(h:gi c id=a)(hl:c.streams.length≤1000):(bif bif !ia a (bZ id)then true else decide (fj a (bZ id)=0)then true else decide (IntKind.i64.wrap (24-(c.streams.length:Int))<fj a (bZ id)))=!mo c id:=by
 rw[←KH c id a h];have:=KG a (bZ id);rw[bz (n:=24-(c.streams.length:Int)) (by omega) (by omega),bz (n:=(c.streams.length:Int)+fj a (bZ id)) (by omega) (by omega)];rw[show decide (24-(c.streams.length:Int)<fj a (bZ id))=decide (24<(c.streams.length:Int)+fj a (bZ id))from decide_eq_decide.2 (by omega)]
theorem Rt{S:List Bool}(h:S.length=16):∃fX cm cB cx e0 gI hL jz jA kW oB v' wa wb wc we,S=[fX,cm,cB,cx,e0,gI,hL,jz,jA,kW,oB,v',wa,wb,wc,we]:=by
 match S,h with|[fX,cm,cB,cx,e0,gI,hL,jz,jA,kW,oB,v',wa,wb,wc,we],_=>exact⟨fX,cm,cB,cx,e0,gI,hL,jz,jA,kW,oB,v',wa,wb,wc,we,rfl⟩
def Lv(c:J)(id:Int)(S:List Bool):St:=⟨(.ptr 4 0 0::.i id::.ak::.ak::.i 0::(ay S 12 (.ptr 5 0 0))::(ay S 14 (.i (fj c.ct (bZ id))))::(ay S 15 (.d (.bool (ia c.ct (bZ id)))))::jn 3 (.ptr 4 0 0::.ptr 4 0 0::.ptr 4 0 17::.sl 2 0 c.streams.length::.i id::.i (fIx (eP id) c.streams)::.d (.bool (decide (0≤fIx (eP id) c.streams)))::.ptr 4 0 0::.ptr 4 0 0::.ptr 4 0 0::.d (.bool c.bV)::.i id::.d (.bool false)::(ay S 8 (.dV [.agg [.d (.int .i64 (dd c.ct (bZ id)).most),.d (.int .i64 (dd c.ct (bZ id)).aR),.d (.int .i64 (dd c.ct (bZ id)).seen),.d (.int .i64 (dd c.ct (bZ id)).closed)],.i (fj c.ct (bZ id)),.d (.bool (ia c.ct (bZ id)))]))::(ay S 0 (.ptr 4 0 0))::(ay S 1 (.i id))::(ay S 2 (.ptr 4 0 38))::(ay S 3 (.ptr 4 0 38))::(ay S 4 (.agg [.i c.ct.most,.i c.ct.aR,.i c.ct.seen,.i c.ct.closed]))::(ay S 5 (.i id))::(ay S 6 (.i (bZ id)))::(ay S 7 (.dV [.agg [.d (.int .i64 (dd c.ct (bZ id)).most),.d (.int .i64 (dd c.ct (bZ id)).aR),.d (.int .i64 (dd c.ct (bZ id)).seen),.d (.int .i64 (dd c.ct (bZ id)).closed)],.i (fj c.ct (bZ id)),.d (.bool (ia c.ct (bZ id)))]))::(ay S 9 (.agg [.d (.int .i64 (dd c.ct (bZ id)).most),.d (.int .i64 (dd c.ct (bZ id)).aR),.d (.int .i64 (dd c.ct (bZ id)).seen),.d (.int .i64 (dd c.ct (bZ id)).closed)]))::(ay S 10 (.i (fj c.ct (bZ id))))::(ay S 11 (.d (.bool (ia c.ct (bZ id)))))::jn 62 [])),[.box (J.bE c),.box J.bw,.af 39 (c.streams.map ae.enc),.af 2 (c.packets.map aD.enc),.box (J.vc c (.sl 2 0 c.streams.length) (.sl 3 0 c.packets.length))]++(bif S.getD 12 false then [.box (bif S.getD 13 false then [.d (.int .i64 (dd c.ct (bZ id)).most),.d (.int .i64 (dd c.ct (bZ id)).aR),.d (.int .i64 (dd c.ct (bZ id)).seen),.d (.int .i64 (dd c.ct (bZ id)).closed)]else [.i 0,.i 0,.i 0,.i 0])]else [])⟩
def Lw(c:J)(id:Int)(S:List Bool):St:=⟨(.ptr 4 0 0::.i id::.ak::.ak::.i 0::(ay S 12 (.ptr 5 0 0))::(ay S 14 (.i (fj c.cu (bZ id))))::(ay S 15 (.d (.bool (ia c.cu (bZ id)))))::jn 3 (.ptr 4 0 0::.ptr 4 0 0::.ptr 4 0 17::.sl 2 0 c.streams.length::.i id::.i (fIx (eP id) c.streams)::.d (.bool (decide (0≤fIx (eP id) c.streams)))::.ptr 4 0 0::.ptr 4 0 0::.ptr 4 0 0::.d (.bool c.bV)::.i id::.d (.bool false)::(ay S 8 (.dV [.agg [.d (.int .i64 (dd c.cu (bZ id)).most),.d (.int .i64 (dd c.cu (bZ id)).aR),.d (.int .i64 (dd c.cu (bZ id)).seen),.d (.int .i64 (dd c.cu (bZ id)).closed)],.i (fj c.cu (bZ id)),.d (.bool (ia c.cu (bZ id)))]))::(ay S 0 (.ptr 4 0 0))::(ay S 1 (.i id))::(ay S 2 (.ptr 4 0 34))::(ay S 3 (.ptr 4 0 34))::(ay S 4 (.agg [.i c.cu.most,.i c.cu.aR,.i c.cu.seen,.i c.cu.closed]))::(ay S 5 (.i id))::(ay S 6 (.i (bZ id)))::(ay S 7 (.dV [.agg [.d (.int .i64 (dd c.cu (bZ id)).most),.d (.int .i64 (dd c.cu (bZ id)).aR),.d (.int .i64 (dd c.cu (bZ id)).seen),.d (.int .i64 (dd c.cu (bZ id)).closed)],.i (fj c.cu (bZ id)),.d (.bool (ia c.cu (bZ id)))]))::(ay S 9 (.agg [.d (.int .i64 (dd c.cu (bZ id)).most),.d (.int .i64 (dd c.cu (bZ id)).aR),.d (.int .i64 (dd c.cu (bZ id)).seen),.d (.int .i64 (dd c.cu (bZ id)).closed)]))::(ay S 10 (.i (fj c.cu (bZ id))))::(ay S 11 (.d (.bool (ia c.cu (bZ id)))))::jn 62 [])),[.box (J.bE c),.box J.bw,.af 39 (c.streams.map ae.enc),.af 2 (c.packets.map aD.enc),.box (J.vc c (.sl 2 0 c.streams.length) (.sl 3 0 c.packets.length))]++(bif S.getD 12 false then [.box (bif S.getD 13 false then [.d (.int .i64 (dd c.cu (bZ id)).most),.d (.int .i64 (dd c.cu (bZ id)).aR),.d (.int .i64 (dd c.cu (bZ id)).seen),.d (.int .i64 (dd c.cu (bZ id)).closed)]else [.i 0,.i 0,.i 0,.i 0])]else [])⟩
theorem ZE(c:J)(id:Int)(hz:gG c)(bT:∀s∈c.streams,AM s.send):aJ 6 [.agg (J.enc c),.one (.int .i64 id)] [.agg (J.enc ((bI c id))),.one (.int .i64 (fu c id))]:=by
 refine aN 28 Tryz.func6 Tryz.call6 [.cell 4 37,.tmp 5] ?_;intro ok;clear ok;have i':=iE hz;have ZF:=Kw c (by omega);have ZG:=Ep c hz;have ahB:=yj id;have Hy:=Er c.streams id;have ZH:=Lx c.bV id;have ahC:=ZI id;rw[←G2 bT]at ZG;have aT:bI c id=if en c&&bN id&&decide (fIx (eP id) c.streams<0)&&!im c.bV id&&mo c id then {jb c id (dd (gi c id) (bZ id))with streams:=ensL c.bV c.own c.peer id (fB c id).toNat c.streams}else c:=rfl
 have ag:fu c id=if !(en c&&bN id)then 7 else if 0≤fIx (eP id) c.streams then 0 else if im c.bV id then 5 else if mo c id then 0 else 4:=rfl
 obtain⟨nk,jc,pq,zc⟩:=hz
 try simp only[go_sem]
 repeat'(first|((first|refine ab.af (by assumption) ?_|refine au.af (by assumption) ?_|refine a7 ?_)<;>simp only[go_sem])|(with_reducible refine aw ?_)|fail)
 cases h1:en c&&bN id with
 |false=>
  have hb:(bif !en c then true else !bN id)=true:=by revert h1;cases en c<;>cases bN id<;>simp
  rw[h1]at aT ag;simp only[hb]
  try simp only[go_sem]
  repeat'(first|((first|refine ab.af (by assumption) ?_|refine au.af (by assumption) ?_)<;>simp only[go_sem,I])|(with_reducible refine aw ?_)|fail)
  all_goals simp[aT,ag]
 |true=>
 have hb:(bif !en c then true else !bN id)=false:=by revert h1;cases en c<;>cases bN id<;>simp
 rw[h1]at aT ag;simp only[hb]
 try simp only[go_sem]
 repeat'((first|refine ab.af (by assumption) ?_|refine au.af (by assumption) ?_)<;>simp only[go_sem,I])
 refine ab.ij [0,1,2,4,6] (by simp only[keepT,List.elem_cons,List.elem_nil,Nat.reduceBEq,Nat.reduceAdd,cond_true,cond_false];rfl) (fc (n:=98) (rs:=[.tmp 4]) Tryz.func33 rfl Tryz.call33 b1 rfl rfl ?_);simp only[go_sem,I];refine ab.intro Hy ?_;simp only[go_sem];rcases uk (eP id) c.streams with ⟨dA,fN⟩|⟨j,al,dA,fN,f3⟩
 case inr=>
  have AJ:decide ((0:Int)≤(j:Int))=true:=bp (by omega);have zd:decide ((j:Int)<0)=false:=bo (by omega);rw[dA,zd]at aT;rw[dA]at ag;simp only[dA,AJ];simp only[go_sem,I];simp[aT,ag]
 have AJ:decide ((0:Int)≤-1)=false:=by decide
 have zd:decide ((-1:Int)<0)=true:=by decide
 rw[dA,zd]at aT;rw[dA]at ag;simp only[dA,AJ];simp only[go_sem];refine ab.intro ZH ?_;simp only[go_sem]
 cases cT:im c.bV id with
 |true=>
  rw[cT]at aT ag;simp only[go_sem]
  try simp only[go_sem,I]
  repeat'(first|((first|refine ab.af (by assumption) ?_|refine au.af (by assumption) ?_|refine a7 ?_)<;>simp only[go_sem,I])|(with_reducible refine aw ?_)|fail)
  all_goals simp[aT,ag]
 |false=>
 rw[cT]at aT ag;simp only[go_sem]
 cases gU:j3 id with
 |true=>
  have hA:gi c id=c.ct:=by unfold gi;rw[gU];rfl
  have hW:∀a,jb c id a={c with ct:=a}:=fun a=>by unfold jb;rw[gU];rfl
  have bM:=Rs c id _ hA (by omega);have Es:(if j3 id=true then 38 else 34)=38:=by rw[gU];rfl
  have Ru:aJ 92 [.agg [.int .i64 c.ct.most,.int .i64 c.ct.aR,.int .i64 c.ct.seen,.int .i64 c.ct.closed],.one (.int .i64 (bZ id))] [.agg [.int .i64 ((dd c.ct (bZ id))).most,.int .i64 ((dd c.ct (bZ id))).aR,.int .i64 ((dd c.ct (bZ id))).seen,.int .i64 ((dd c.ct (bZ id))).closed],.one (.int .i64 (fj c.ct (bZ id))),.one (.bool (ia c.ct (bZ id)))]:=Rv _ _ _ _ _;refine jB _ (kz (fun S σ=>σ=Lv c id S) (N:=16) rfl rfl rfl ?_) ?_
  ·repeat'(first|exact kA|refine kB ?_ ?_)
   all_goals(
    rintro S σ F hl aT hp hcl rfl cd;obtain⟨hZ,dy,dT,c2,d',l0,mh,mR,mS,u9,Aw,DI,Ax,Ay,DJ,DK,rfl⟩:=Rt hl;simp only[ke,iG,bF]at aT;subst aT;simp[iH,Region.binds]at hp
    repeat(obtain⟨ef,hp⟩:=hp;subst ef)
    try subst hp
    first|(obtain rfl:=aI (hcl 0 2 _ rfl (by decide) rfl);obtain rfl:=aI (hcl 2 3 _ rfl (by decide) rfl);obtain rfl:=aI (hcl 3 4 _ rfl (by decide) rfl);obtain rfl:=aI (hcl 2 6 _ rfl (by decide) rfl);obtain rfl:=aI (hcl 4 7 _ rfl (by decide) rfl);obtain rfl:=aI (hcl 7 8 _ rfl (by decide) rfl);obtain rfl:=aI (hcl 8 9 _ rfl (by decide) rfl);obtain rfl:=aI (hcl 8 10 _ rfl (by decide) rfl);obtain rfl:=aI (hcl 8 11 _ rfl (by decide) rfl);obtain rfl:=aI (hcl 9 13 _ rfl (by decide) rfl);obtain rfl:=aI (hcl 10 14 _ rfl (by decide) rfl);obtain rfl:=aI (hcl 11 15 _ rfl (by decide) rfl))|(obtain rfl:=aI (hcl 1 2 _ rfl (by decide) rfl);obtain rfl:=aI (hcl 2 3 _ rfl (by decide) rfl);obtain rfl:=aI (hcl 3 4 _ rfl (by decide) rfl);obtain rfl:=aI (hcl 2 6 _ rfl (by decide) rfl);obtain rfl:=aI (hcl 4 7 _ rfl (by decide) rfl);obtain rfl:=aI (hcl 7 8 _ rfl (by decide) rfl);obtain rfl:=aI (hcl 8 9 _ rfl (by decide) rfl);obtain rfl:=aI (hcl 8 10 _ rfl (by decide) rfl);obtain rfl:=aI (hcl 8 11 _ rfl (by decide) rfl);obtain rfl:=aI (hcl 9 13 _ rfl (by decide) rfl);obtain rfl:=aI (hcl 10 14 _ rfl (by decide) rfl);obtain rfl:=aI (hcl 11 15 _ rfl (by decide) rfl))|(obtain rfl:=aI (hcl 2 3 _ rfl (by decide) rfl);obtain rfl:=aI (hcl 3 4 _ rfl (by decide) rfl);obtain rfl:=aI (hcl 2 6 _ rfl (by decide) rfl);obtain rfl:=aI (hcl 4 7 _ rfl (by decide) rfl);obtain rfl:=aI (hcl 7 8 _ rfl (by decide) rfl);obtain rfl:=aI (hcl 8 9 _ rfl (by decide) rfl);obtain rfl:=aI (hcl 8 10 _ rfl (by decide) rfl);obtain rfl:=aI (hcl 8 11 _ rfl (by decide) rfl);obtain rfl:=aI (hcl 9 13 _ rfl (by decide) rfl);obtain rfl:=aI (hcl 10 14 _ rfl (by decide) rfl);obtain rfl:=aI (hcl 11 15 _ rfl (by decide) rfl))|(obtain rfl:=aI (hcl 3 4 _ rfl (by decide) rfl);obtain rfl:=aI (hcl 4 7 _ rfl (by decide) rfl);obtain rfl:=aI (hcl 7 8 _ rfl (by decide) rfl);obtain rfl:=aI (hcl 8 9 _ rfl (by decide) rfl);obtain rfl:=aI (hcl 8 10 _ rfl (by decide) rfl);obtain rfl:=aI (hcl 8 11 _ rfl (by decide) rfl);obtain rfl:=aI (hcl 9 13 _ rfl (by decide) rfl);obtain rfl:=aI (hcl 10 14 _ rfl (by decide) rfl);obtain rfl:=aI (hcl 11 15 _ rfl (by decide) rfl))|(obtain rfl:=aI (hcl 4 7 _ rfl (by decide) rfl);obtain rfl:=aI (hcl 7 8 _ rfl (by decide) rfl);obtain rfl:=aI (hcl 8 9 _ rfl (by decide) rfl);obtain rfl:=aI (hcl 8 10 _ rfl (by decide) rfl);obtain rfl:=aI (hcl 8 11 _ rfl (by decide) rfl);obtain rfl:=aI (hcl 9 13 _ rfl (by decide) rfl);obtain rfl:=aI (hcl 10 14 _ rfl (by decide) rfl);obtain rfl:=aI (hcl 11 15 _ rfl (by decide) rfl))|(obtain rfl:=aI (hcl 5 6 _ rfl (by decide) rfl);obtain rfl:=aI (hcl 6 7 _ rfl (by decide) rfl);obtain rfl:=aI (hcl 7 8 _ rfl (by decide) rfl);obtain rfl:=aI (hcl 8 9 _ rfl (by decide) rfl);obtain rfl:=aI (hcl 8 10 _ rfl (by decide) rfl);obtain rfl:=aI (hcl 8 11 _ rfl (by decide) rfl);obtain rfl:=aI (hcl 9 13 _ rfl (by decide) rfl);obtain rfl:=aI (hcl 10 14 _ rfl (by decide) rfl);obtain rfl:=aI (hcl 11 15 _ rfl (by decide) rfl))|(obtain rfl:=aI (hcl 6 7 _ rfl (by decide) rfl);obtain rfl:=aI (hcl 7 8 _ rfl (by decide) rfl);obtain rfl:=aI (hcl 8 9 _ rfl (by decide) rfl);obtain rfl:=aI (hcl 8 10 _ rfl (by decide) rfl);obtain rfl:=aI (hcl 8 11 _ rfl (by decide) rfl);obtain rfl:=aI (hcl 9 13 _ rfl (by decide) rfl);obtain rfl:=aI (hcl 10 14 _ rfl (by decide) rfl);obtain rfl:=aI (hcl 11 15 _ rfl (by decide) rfl))|(obtain rfl:=aI (hcl 7 8 _ rfl (by decide) rfl);obtain rfl:=aI (hcl 8 9 _ rfl (by decide) rfl);obtain rfl:=aI (hcl 8 10 _ rfl (by decide) rfl);obtain rfl:=aI (hcl 8 11 _ rfl (by decide) rfl);obtain rfl:=aI (hcl 9 13 _ rfl (by decide) rfl);obtain rfl:=aI (hcl 10 14 _ rfl (by decide) rfl);obtain rfl:=aI (hcl 11 15 _ rfl (by decide) rfl))|(obtain rfl:=aI (hcl 8 9 _ rfl (by decide) rfl);obtain rfl:=aI (hcl 8 10 _ rfl (by decide) rfl);obtain rfl:=aI (hcl 8 11 _ rfl (by decide) rfl);obtain rfl:=aI (hcl 9 13 _ rfl (by decide) rfl);obtain rfl:=aI (hcl 10 14 _ rfl (by decide) rfl);obtain rfl:=aI (hcl 11 15 _ rfl (by decide) rfl))|(obtain rfl:=aI (hcl 9 13 _ rfl (by decide) rfl);obtain rfl:=aI (hcl 13 14 _ rfl (by decide) rfl);obtain rfl:=aI (hcl 14 15 _ rfl (by decide) rfl))|(obtain rfl:=aI (hcl 10 14 _ rfl (by decide) rfl);obtain rfl:=aI (hcl 14 15 _ rfl (by decide) rfl))|(obtain rfl:=aI (hcl 11 15 _ rfl (by decide) rfl))|(obtain rfl:=aI (hcl 12 13 _ rfl (by decide) rfl);obtain rfl:=aI (hcl 13 14 _ rfl (by decide) rfl);obtain rfl:=aI (hcl 14 15 _ rfl (by decide) rfl))|(obtain rfl:=aI (hcl 13 14 _ rfl (by decide) rfl);obtain rfl:=aI (hcl 14 15 _ rfl (by decide) rfl))|(obtain rfl:=aI (hcl 14 15 _ rfl (by decide) rfl))|skip
    try cases Ax)
   all_goals(try cases Ay)
   all_goals(
    simp only[Lv,ay,e4,e1,cond_true,cond_false,bB,bx,List.append_nil]
    repeat'(first
      |exact cd _ rfl
      |(refine ab.inl (Hw id Es ?_))
      |(refine ab.intro (by assumption) ?_)
      |(with_reducible refine aw ?_)
      |simp only[go_sem,bB,bx]))
  rintro _ rfl;simp only[Lv,List.replicate,ay,e4,e1,cond_true,bB,bx];simp only[go_sem]
  try simp only[go_sem,I]
  repeat'(refine a7 ?_<;>simp only[go_sem])
  rw[bM]
  cases hg:mo c id with
  |false=>
   rw[hg]at aT ag;simp only[cc]
   try simp only[go_sem]
   try simp only[go_sem,I]
   repeat'(first|((first|refine ab.af (by assumption) ?_|refine au.af (by assumption) ?_|refine a7 ?_)<;>simp only[go_sem,I])|(with_reducible refine aw ?_)|fail)
   all_goals simp[aT,ag]
  |true=>
   rw[hg]at aT ag;have hn:fB c id=fj c.ct (bZ id):=by unfold fB;rw[hA]
   simp only[bS]
   try simp only[go_sem]
   repeat'(refine a7 ?_<;>simp only[go_sem,I])
   apply Ee;(focus ((repeat'(first|exact AT|(refine AU ?_ ?_)|(refine Ef rfl ?_)|(refine Eg rfl ?_)|(refine ab.inl (Hw id Es ?_))|(simp only[go_sem,fT])));all_goals exact rfl));simp only[go_sem];obtain⟨kg,mq⟩:=B_ hg (by omega);rw[hn]at kg mq aT;obtain⟨N,A1⟩:=mj (show 0≤fj c.ct (bZ id)by omega);rw[A1]at kg mq aT;rw[aC]at aT;have AK:IntKind.i64.wrap ((N:Int)-1)=(N:Int)-1:=by rw[bz]<;>omega
   simp only[A1,AK];refine b7.intro (α:=Nat×List ae) (fun y=>⟨(.ptr 4 0 0::.i id::jn 6 (.i ((y.1:Int)-1)::jn 89 [])),[.box (J.bE c),.box J.bw,.af 39 (y.2.map ae.enc),.af 2 (c.packets.map aD.enc),.box (J.vc ({c with ct:=dd c.ct (bZ id)}) (.sl 2 0 y.2.length) (.sl 3 0 c.packets.length))]⟩)
    (fun y=>y.1) (fun y=>y.1≤N∧ensL c.bV c.own c.peer id y.1 y.2=ensL c.bV c.own c.peer id N c.streams∧y.2.length+y.1≤c.streams.length+N∧∀s∈y.2,eO s) (N,c.streams) [0,1,2,3,4] ⟨by omega,rfl,by simp,jc⟩ ?_ ?_
   ·simp only[go_sem];simp
   ·rintro⟨k,l⟩ ⟨hk,he,ni,cH⟩;simp only at hk he ni cH
    cases k with
    |zero=>
     have hd:decide ((0:Int)≤((0:Nat):Int)-1)=false:=by decide
     have aY:decide ((24:Int)<(l.length:Int))=false:=bo (by omega);simp only[go_sem,hd,I,aY];have vh:ensL c.bV c.own c.peer id N c.streams=l:=he.symm;rw[vh,hW,hA]at aT
     try simp only[go_sem,I]
     repeat'(first|(refine a7 ?_<;>simp only[go_sem,I])|(with_reducible refine aw ?_)|fail)
     all_goals simp[aT,ag]
    |succ k=>
     have hd:decide ((0:Int)≤(k:Int))=true:=bp (by omega);have mr:((k+1:Nat):Int)-1=(k:Int):=by omega
     have pr:IntKind.i64.wrap ((k:Int)-1)=(k:Int)-1:=by rw[bz]<;>omega
     have ec:IntKind.i64.wrap (id-IntKind.i64.wrap (4 * (k:Int)))=hN id k:=rfl;have hK:=Rw l (eX c.bV (hN id k) c.own c.peer) (by omega) cH (xI _ _ _ _)
     try simp only[go_sem,mr,hd]
     repeat'((first|refine ab.af (by assumption) ?_|refine au.af (by first|assumption|apply Rx) ?_|refine a7 ?_|refine ba Ls (by kernel_rfl) (by rfl) ?_|refine ba Lt (by kernel_rfl) (by rfl) ?_)<;>simp only[go_sem,I,pr,ec])
     have G1:=AI l (eX c.bV (hN id k) c.own c.peer);refine bA.intro (k,putS l (eX c.bV (hN id k) c.own c.peer)) [0,1,11,3,4] ⟨by omega,he,by simp only;omega,GZ cH (xI _ _ _ _)⟩ (by simp only;omega) ?_;simp only[go_sem];simp
 |false=>
  have hA:gi c id=c.cu:=by unfold gi;rw[gU];rfl
  have hW:∀a,jb c id a={c with cu:=a}:=fun a=>by unfold jb;rw[gU];rfl
  have bM:=Rs c id _ hA (by omega);have Es:(if j3 id=true then 38 else 34)=34:=by rw[gU];rfl
  have Ru:aJ 92 [.agg [.int .i64 c.cu.most,.int .i64 c.cu.aR,.int .i64 c.cu.seen,.int .i64 c.cu.closed],.one (.int .i64 (bZ id))] [.agg [.int .i64 ((dd c.cu (bZ id))).most,.int .i64 ((dd c.cu (bZ id))).aR,.int .i64 ((dd c.cu (bZ id))).seen,.int .i64 ((dd c.cu (bZ id))).closed],.one (.int .i64 (fj c.cu (bZ id))),.one (.bool (ia c.cu (bZ id)))]:=Rv _ _ _ _ _;refine jB _ (kz (fun S σ=>σ=Lw c id S) (N:=16) rfl rfl rfl ?_) ?_
  ·repeat'(first|exact kA|refine kB ?_ ?_)
   all_goals(
    rintro S σ F hl aT hp hcl rfl cd;obtain⟨hZ,dy,dT,c2,d',l0,mh,mR,mS,u9,Aw,DI,Ax,Ay,DJ,DK,rfl⟩:=Rt hl;simp only[ke,iG,bF]at aT;subst aT;simp[iH,Region.binds]at hp
    repeat(obtain⟨ef,hp⟩:=hp;subst ef)
    try subst hp
    first|(obtain rfl:=aI (hcl 0 2 _ rfl (by decide) rfl);obtain rfl:=aI (hcl 2 3 _ rfl (by decide) rfl);obtain rfl:=aI (hcl 3 4 _ rfl (by decide) rfl);obtain rfl:=aI (hcl 2 6 _ rfl (by decide) rfl);obtain rfl:=aI (hcl 4 7 _ rfl (by decide) rfl);obtain rfl:=aI (hcl 7 8 _ rfl (by decide) rfl);obtain rfl:=aI (hcl 8 9 _ rfl (by decide) rfl);obtain rfl:=aI (hcl 8 10 _ rfl (by decide) rfl);obtain rfl:=aI (hcl 8 11 _ rfl (by decide) rfl);obtain rfl:=aI (hcl 9 13 _ rfl (by decide) rfl);obtain rfl:=aI (hcl 10 14 _ rfl (by decide) rfl);obtain rfl:=aI (hcl 11 15 _ rfl (by decide) rfl))|(obtain rfl:=aI (hcl 1 2 _ rfl (by decide) rfl);obtain rfl:=aI (hcl 2 3 _ rfl (by decide) rfl);obtain rfl:=aI (hcl 3 4 _ rfl (by decide) rfl);obtain rfl:=aI (hcl 2 6 _ rfl (by decide) rfl);obtain rfl:=aI (hcl 4 7 _ rfl (by decide) rfl);obtain rfl:=aI (hcl 7 8 _ rfl (by decide) rfl);obtain rfl:=aI (hcl 8 9 _ rfl (by decide) rfl);obtain rfl:=aI (hcl 8 10 _ rfl (by decide) rfl);obtain rfl:=aI (hcl 8 11 _ rfl (by decide) rfl);obtain rfl:=aI (hcl 9 13 _ rfl (by decide) rfl);obtain rfl:=aI (hcl 10 14 _ rfl (by decide) rfl);obtain rfl:=aI (hcl 11 15 _ rfl (by decide) rfl))|(obtain rfl:=aI (hcl 2 3 _ rfl (by decide) rfl);obtain rfl:=aI (hcl 3 4 _ rfl (by decide) rfl);obtain rfl:=aI (hcl 2 6 _ rfl (by decide) rfl);obtain rfl:=aI (hcl 4 7 _ rfl (by decide) rfl);obtain rfl:=aI (hcl 7 8 _ rfl (by decide) rfl);obtain rfl:=aI (hcl 8 9 _ rfl (by decide) rfl);obtain rfl:=aI (hcl 8 10 _ rfl (by decide) rfl);obtain rfl:=aI (hcl 8 11 _ rfl (by decide) rfl);obtain rfl:=aI (hcl 9 13 _ rfl (by decide) rfl);obtain rfl:=aI (hcl 10 14 _ rfl (by decide) rfl);obtain rfl:=aI (hcl 11 15 _ rfl (by decide) rfl))|(obtain rfl:=aI (hcl 3 4 _ rfl (by decide) rfl);obtain rfl:=aI (hcl 4 7 _ rfl (by decide) rfl);obtain rfl:=aI (hcl 7 8 _ rfl (by decide) rfl);obtain rfl:=aI (hcl 8 9 _ rfl (by decide) rfl);obtain rfl:=aI (hcl 8 10 _ rfl (by decide) rfl);obtain rfl:=aI (hcl 8 11 _ rfl (by decide) rfl);obtain rfl:=aI (hcl 9 13 _ rfl (by decide) rfl);obtain rfl:=aI (hcl 10 14 _ rfl (by decide) rfl);obtain rfl:=aI (hcl 11 15 _ rfl (by decide) rfl))|(obtain rfl:=aI (hcl 4 7 _ rfl (by decide) rfl);obtain rfl:=aI (hcl 7 8 _ rfl (by decide) rfl);obtain rfl:=aI (hcl 8 9 _ rfl (by decide) rfl);obtain rfl:=aI (hcl 8 10 _ rfl (by decide) rfl);obtain rfl:=aI (hcl 8 11 _ rfl (by decide) rfl);obtain rfl:=aI (hcl 9 13 _ rfl (by decide) rfl);obtain rfl:=aI (hcl 10 14 _ rfl (by decide) rfl);obtain rfl:=aI (hcl 11 15 _ rfl (by decide) rfl))|(obtain rfl:=aI (hcl 5 6 _ rfl (by decide) rfl);obtain rfl:=aI (hcl 6 7 _ rfl (by decide) rfl);obtain rfl:=aI (hcl 7 8 _ rfl (by decide) rfl);obtain rfl:=aI (hcl 8 9 _ rfl (by decide) rfl);obtain rfl:=aI (hcl 8 10 _ rfl (by decide) rfl);obtain rfl:=aI (hcl 8 11 _ rfl (by decide) rfl);obtain rfl:=aI (hcl 9 13 _ rfl (by decide) rfl);obtain rfl:=aI (hcl 10 14 _ rfl (by decide) rfl);obtain rfl:=aI (hcl 11 15 _ rfl (by decide) rfl))|(obtain rfl:=aI (hcl 6 7 _ rfl (by decide) rfl);obtain rfl:=aI (hcl 7 8 _ rfl (by decide) rfl);obtain rfl:=aI (hcl 8 9 _ rfl (by decide) rfl);obtain rfl:=aI (hcl 8 10 _ rfl (by decide) rfl);obtain rfl:=aI (hcl 8 11 _ rfl (by decide) rfl);obtain rfl:=aI (hcl 9 13 _ rfl (by decide) rfl);obtain rfl:=aI (hcl 10 14 _ rfl (by decide) rfl);obtain rfl:=aI (hcl 11 15 _ rfl (by decide) rfl))|(obtain rfl:=aI (hcl 7 8 _ rfl (by decide) rfl);obtain rfl:=aI (hcl 8 9 _ rfl (by decide) rfl);obtain rfl:=aI (hcl 8 10 _ rfl (by decide) rfl);obtain rfl:=aI (hcl 8 11 _ rfl (by decide) rfl);obtain rfl:=aI (hcl 9 13 _ rfl (by decide) rfl);obtain rfl:=aI (hcl 10 14 _ rfl (by decide) rfl);obtain rfl:=aI (hcl 11 15 _ rfl (by decide) rfl))|(obtain rfl:=aI (hcl 8 9 _ rfl (by decide) rfl);obtain rfl:=aI (hcl 8 10 _ rfl (by decide) rfl);obtain rfl:=aI (hcl 8 11 _ rfl (by decide) rfl);obtain rfl:=aI (hcl 9 13 _ rfl (by decide) rfl);obtain rfl:=aI (hcl 10 14 _ rfl (by decide) rfl);obtain rfl:=aI (hcl 11 15 _ rfl (by decide) rfl))|(obtain rfl:=aI (hcl 9 13 _ rfl (by decide) rfl);obtain rfl:=aI (hcl 13 14 _ rfl (by decide) rfl);obtain rfl:=aI (hcl 14 15 _ rfl (by decide) rfl))|(obtain rfl:=aI (hcl 10 14 _ rfl (by decide) rfl);obtain rfl:=aI (hcl 14 15 _ rfl (by decide) rfl))|(obtain rfl:=aI (hcl 11 15 _ rfl (by decide) rfl))|(obtain rfl:=aI (hcl 12 13 _ rfl (by decide) rfl);obtain rfl:=aI (hcl 13 14 _ rfl (by decide) rfl);obtain rfl:=aI (hcl 14 15 _ rfl (by decide) rfl))|(obtain rfl:=aI (hcl 13 14 _ rfl (by decide) rfl);obtain rfl:=aI (hcl 14 15 _ rfl (by decide) rfl))|(obtain rfl:=aI (hcl 14 15 _ rfl (by decide) rfl))|skip
    try cases Ax)
   all_goals(try cases Ay)
   all_goals(
    simp only[Lw,ay,e4,e1,cond_true,cond_false,bB,bx,List.append_nil]
    repeat'(first
      |exact cd _ rfl
      |(refine ab.inl (Hw id Es ?_))
      |(refine ab.intro (by assumption) ?_)
      |(with_reducible refine aw ?_)
      |simp only[go_sem,bB,bx]))
  rintro _ rfl;simp only[Lw,List.replicate,ay,e4,e1,cond_true,bB,bx];simp only[go_sem]
  try simp only[go_sem,I]
  repeat'(refine a7 ?_<;>simp only[go_sem])
  rw[bM]
  cases hg:mo c id with
  |false=>
   rw[hg]at aT ag;simp only[cc]
   try simp only[go_sem]
   try simp only[go_sem,I]
   repeat'(first|((first|refine ab.af (by assumption) ?_|refine au.af (by assumption) ?_|refine a7 ?_)<;>simp only[go_sem,I])|(with_reducible refine aw ?_)|fail)
   all_goals simp[aT,ag]
  |true=>
   rw[hg]at aT ag;have hn:fB c id=fj c.cu (bZ id):=by unfold fB;rw[hA]
   simp only[bS]
   try simp only[go_sem]
   repeat'(refine a7 ?_<;>simp only[go_sem,I])
   apply Ee;(focus ((repeat'(first|exact AT|(refine AU ?_ ?_)|(refine Ef rfl ?_)|(refine Eg rfl ?_)|(refine ab.inl (Hw id Es ?_))|(simp only[go_sem,fT])));all_goals exact rfl));simp only[go_sem];obtain⟨kg,mq⟩:=B_ hg (by omega);rw[hn]at kg mq aT;obtain⟨N,A1⟩:=mj (show 0≤fj c.cu (bZ id)by omega);rw[A1]at kg mq aT;rw[aC]at aT;have AK:IntKind.i64.wrap ((N:Int)-1)=(N:Int)-1:=by rw[bz]<;>omega
   simp only[A1,AK];refine b7.intro (α:=Nat×List ae) (fun y=>⟨(.ptr 4 0 0::.i id::jn 6 (.i ((y.1:Int)-1)::jn 89 [])),[.box (J.bE c),.box J.bw,.af 39 (y.2.map ae.enc),.af 2 (c.packets.map aD.enc),.box (J.vc ({c with cu:=dd c.cu (bZ id)}) (.sl 2 0 y.2.length) (.sl 3 0 c.packets.length))]⟩)
    (fun y=>y.1) (fun y=>y.1≤N∧ensL c.bV c.own c.peer id y.1 y.2=ensL c.bV c.own c.peer id N c.streams∧y.2.length+y.1≤c.streams.length+N∧∀s∈y.2,eO s) (N,c.streams) [0,1,2,3,4] ⟨by omega,rfl,by simp,jc⟩ ?_ ?_
   ·simp only[go_sem];simp
   ·rintro⟨k,l⟩ ⟨hk,he,ni,cH⟩;simp only at hk he ni cH
    cases k with
    |zero=>
     have hd:decide ((0:Int)≤((0:Nat):Int)-1)=false:=by decide
     have aY:decide ((24:Int)<(l.length:Int))=false:=bo (by omega);simp only[go_sem,hd,I,aY];have vh:ensL c.bV c.own c.peer id N c.streams=l:=he.symm;rw[vh,hW,hA]at aT
     try simp only[go_sem,I]
     repeat'(first|(refine a7 ?_<;>simp only[go_sem,I])|(with_reducible refine aw ?_)|fail)
     all_goals simp[aT,ag]
    |succ k=>
     have hd:decide ((0:Int)≤(k:Int))=true:=bp (by omega);have mr:((k+1:Nat):Int)-1=(k:Int):=by omega
     have pr:IntKind.i64.wrap ((k:Int)-1)=(k:Int)-1:=by rw[bz]<;>omega
     have ec:IntKind.i64.wrap (id-IntKind.i64.wrap (4 * (k:Int)))=hN id k:=rfl;have hK:=Rw l (eX c.bV (hN id k) c.own c.peer) (by omega) cH (xI _ _ _ _)
     try simp only[go_sem,mr,hd]
     repeat'((first|refine ab.af (by assumption) ?_|refine au.af (by first|assumption|apply Rx) ?_|refine a7 ?_|refine ba Ls (by kernel_rfl) (by rfl) ?_|refine ba Lt (by kernel_rfl) (by rfl) ?_)<;>simp only[go_sem,I,pr,ec])
     have G1:=AI l (eX c.bV (hN id k) c.own c.peer);refine bA.intro (k,putS l (eX c.bV (hN id k) c.own c.peer)) [0,1,11,3,4] ⟨by omega,he,by simp only;omega,GZ cH (xI _ _ _ _)⟩ (by simp only;omega) ?_;simp only[go_sem];simp
def af0(r:aa)(n:Int):Bool:=decide (r.low≤n)&&decide (n<r.high)
def yT(xs:List aa)(n:Int):Bool:=xs.any fun r=>af0 r n
structure af1(p f a:List aa)(E:Int):Prop where
 all:∀n,0≤n→n<E→yT p n=true∨yT f n=true∨yT a n=true
 aoP:∀n,yT p n=true→yT f n=true→False
 pa:∀n,yT p n=true→yT a n=true→False
 aoQ:∀n,yT f n=true→yT a n=true→False
structure aoR(s:aO):Prop where
 ring:iZ s.ring=true
 hZ:0≤s.sent
 dy:s.sent≤s.ring.cv
 aoS:0≤s.a2∧s.a2≤3
 part:af1 s.pending s.flight s.cG s.ring.cv
 aoT:o2 s.cG 0=s.ring.base
 code:s.code=0
 aoU:∀x∈s.flight,x.high≤s.sent
 aoV:∀x∈s.cG,x.high≤s.sent
 dA:s.a2=0↔s.bn=-1
 fN:s.bn≠-1→s.bn=s.ring.cv
theorem Oe{α:Type}{key:α→Int}{ok:α→Bool}{l:List α}:x6 key ok l=true↔(∀x∈l,ok x=true)∧(l.map key).Pairwise (·<·):=by
 have hB:x6 key ok l=true↔(∀(i:Nat) (h:i<l.length),ok l[i]=true)∧∀(j:Nat) (h:j+1<l.length),key l[j]<key l[j+1]:=by
  simp only[x6,kd,List.all_eq_true,List.mem_range];constructor
  ·intro h;refine⟨fun i hi=>?_,fun j al=>?_⟩
   ·have:=h i hi
    cases i with
    |zero=>rwa [y2 _ _ _ hi]at this
    |succ j=>rw[xB _ _ _ _ hi,bP]at this;exact this.1
   ·have:=h (j+1) al;rw[xB _ _ _ _ al,bP]at this;exact cO this.2
  ·rintro⟨h1,h2⟩ i hi
   cases i with
   |zero=>rw[y2 _ _ _ hi];exact h1 0 hi
   |succ j=>rw[xB _ _ _ _ hi,bP];exact⟨h1 _ hi,bp (h2 j hi)⟩
 rw[hB];constructor
 ·rintro⟨h1,h2⟩;refine⟨fun x hx=>?_,List.pairwise_iff_getElem.2 fun i j hi al mz=>?_⟩
  ·obtain⟨i,hi,rfl⟩:=List.getElem_of_mem hx;exact h1 i hi
  ·rw[List.getElem_map,List.getElem_map];rw[I]at hi al;obtain⟨d,rfl⟩:=Nat.le.dest (show i+1≤j from mz);clear mz
   induction d with
   |zero=>exact h2 i al
   |succ d dW=>exact Int.lt_trans (dW (by simp;omega) (by omega)) (h2 (i+1+d) al)
 ·rintro⟨h1,h2⟩;refine⟨fun i hi=>h1 _ (eR hi),fun j al=>?_⟩;have:=List.pairwise_iff_getElem.1 h2 j (j+1) (by simp;omega) (by simpa using al) (by omega)
  rwa [List.getElem_map,List.getElem_map]at this
theorem Of(f:ae→Int){s:ae}(hs:f s=0):∀(l:List ae) (n:Int),(∀x∈l,0≤f x∧f x≤4611686018427387903)→0≤n∧n≤4611686018427387904→(insA s l).foldl (ir f) n=l.foldl (ir f) n
 |[],n,_,hn=>by
  simp only[insA,List.foldl_cons,List.foldl_nil,ir,hs,Int.add_zero];rw[bz (by omega) (by omega),if_neg (by omega)]
 |x::l,n,h,hn=>by
  have hz:ir f n s=n:=by unfold ir;rw[hs,Int.add_zero,bz (by omega) (by omega),if_neg (by omega)]
  obtain⟨x0,x1⟩:=h x (by simp);have hx:0≤ir f n x∧ir f n x≤4611686018427387904:=by
   unfold ir;rw[bz (n:=n+f x) (by omega) (by omega)];split<;>omega
  unfold insA;split
  ·rw[List.foldl_cons,hz]
  ·rw[List.foldl_cons,List.foldl_cons];exact Of f hs l _ (fun y hy=>h y (by simp[hy])) hx
theorem ae7{n:Int}(h:jw n=true):iZ (ja n)=true:=by
 have hn:=x5 h;have hb:oq (List.replicate n.toNat 0) (List.replicate n.toNat (0:Int)).length=true:=by
  simp only[oq,List.all_eq_true];intro x hx;rw[d_,List.mem_replicate]at hx;rw[hx.2];rfl
 unfold ja;rw[if_pos h];simp only[iZ,vW,bP,b2];refine⟨⟨⟨⟨⟨⟨h,?_⟩,by omega⟩,by omega⟩,?_⟩,by omega⟩,hb⟩
 ·rw[List.length_replicate];omega
 ·rw[bz]<;>omega
theorem ae8{n:Int}(h:jw n=true):fl (jF n)=true:=by
 have hr:=ae7 h;unfold jF;rw[if_pos h];have he:(ja n).cv=0∧(ja n).base=0:=by unfold ja;rw[if_pos h];exact⟨rfl,rfl⟩
 simp only[fl,jV,hr,mg];have hw:IntKind.i64.wrap 0=0:=by decide
 simp[cX,mP,Ab,BI,yQ,nF,eL,iC,ig,o2,xk,below,jU,bK,bN,he,hw]
theorem ae9{v:Bool}{i:Int}{o p:bW}(h:lV i o p=true):fv (eX v i o p)=true:=by
 have hp:=h;simp only[lV,bP]at hp;obtain⟨⟨hi,av⟩,afa⟩:=hp;have gf:=av;have Vq:=afa;simp only[eV,bK,bP,b2,and_assoc]at gf Vq;obtain⟨dJ,e9,e_,L6,afb,afc,afd,afe⟩:=gf;obtain⟨dp,da,gk,iy,nX,aff,afg,afh⟩:=Vq;unfold eX;rw[if_pos h];have afi:jI (jW p.bX)=true:=by
  unfold jW;have:bN p.bX=true:=u0.2 (by omega);rw[if_pos this];simp[jI,this,bK];omega
 have hw:kG (mM o.bX o.iK)=true:=by
  unfold mM;have:Ac o.bX o.iK=true:=by simp[Ac,bK];omega
  rw[if_pos this];simp only[kG,bK,bP,b2];rw[bz]<;>omega
 have afj:(eU v i||fC v i)=true:=by
  unfold eU fC;rw[hi]
  cases j3 i<;>cases im v i<;>rfl
 have hs:=ae8 dJ;have hz:(jF o.ring).sent=0∧(jF o.ring).state=0∧(jF o.ring).ring.cv=0∧(jF o.ring).bn=-1:=by unfold jF;rw[if_pos dJ];unfold ja;rw[if_pos dJ];exact⟨rfl,rfl,rfl,rfl⟩
 have hu:0≤(jW p.bX).used:=by unfold jW;split<;>simp
 have hn:0≤(mM o.bX o.iK).seen:=by unfold mM;split<;>simp
 have MI:i_ oI=true:=by decide
 have afk:mO n8=true:=by decide
 have h0:bN 0=true:=by decide
 simp only[fv,Dl,FZ,Jh,Ji,hs,hi,afi,MI,hw,afk,h0,afj,hz,Bool.and_true,Bool.true_and];have cm:decide ((jW p.bX).used<0)=false:=bo (by omega);have cB:decide ((mM o.bX o.iK).seen<oI.fO)=false:=bo (by show ¬(mM o.bX o.iK).seen<0;omega);rw[cm,cB];simp[oI]
theorem Vr{s:ae}(h:fv s=true):(0≤je s∧je s≤4611686018427387903)∧(0≤jH s∧jH s≤4611686018427387903):=by
 simp only[fv,Dl,FZ,bP,and_assoc]at h;obtain⟨h1,_,_,aj,_⟩:=h;obtain⟨aM,bc,cq⟩:=I1 h1;have hr:=vV aM;simp only[i_,yR,bP,and_assoc]at aj;have hq:=u0.1 aj.2.1;exact⟨⟨bc,by unfold je;omega⟩,hq⟩
theorem afl{c:J}(h:en c=true):(∀x∈c.streams,fv x=true)∧(c.streams.map fun x=>x.id).Pairwise (·<·):=by
 simp only[en,pt,oJ,ho,bP,and_assoc]at h;exact Oe.1 h.2.2.1
theorem Vs{v:Bool}{o p:bW}{id:Int}:∀(k:Nat) (l:List ae),(ensL v o p id k l).length≤l.length+k
 |0,l=>Nat.le_refl _
 |k+1,l=>by
  have h1:=Vs (v:=v) (o:=o) (p:=p) (id:=id) k (putS l (eX v (hN id k) o p));have h2:=AI l (eX v (hN id k) o p)
  show(ensL v o p id k (putS l _)).length≤_
  omega
theorem afm{c:J}(h:lX c)(hc:en c=true)(id:Int):en (bI c id)=true:=by
 obtain⟨dy,dT⟩:=afl hc;obtain⟨cT,cQ,bb,bD⟩:=Vt h id (fun l=>(∀x∈l,fv x=true)∧l.foldl (ir je) 0=c.streams.foldl (ir je) 0∧l.foldl (ir jH) 0=c.streams.foldl (ir jH) 0)
  (fun l i ⟨cQ,bb,bD⟩ BJ hn=>by
   have ec:(eX c.bV i c.own c.peer).id=i:=Og BJ;rw[Jj (Dm.2 (by rw[ec];exact hn))];have cW:=ae9 (v:=c.bV) BJ;refine⟨fun x hx=>?_,?_,?_⟩
   ·rcases BK.1 hx with rfl|hx
    ·exact cW
    ·exact cQ x hx
   ·rw[Of je ?_ l 0 (fun x hx=>(Vr (cQ x hx)).1) (by omega)]
    ·exact bb
    ·unfold je eX;rw[if_pos BJ];unfold jF;split<;>rfl
   ·rw[Of jH ?_ l 0 (fun x hx=>(Vr (cQ x hx)).2) (by omega)]
    ·exact bD
    ·unfold jH eX;rw[if_pos BJ];rfl)
  ⟨dy,rfl,rfl⟩
 have pE:((bI c id).streams.map fun x=>x.id).Pairwise (·<·):=cT.asc;by_cases hg:(en c&&bN id&&decide (fIx (eP id) c.streams<0)&&!im c.bV id&&mo c id)=true
 ·have e:bI c id={jb c id (dd (gi c id) (bZ id))with streams:=ensL c.bV c.own c.peer id (fB c id).toNat c.streams}:=by unfold bI;rw[if_pos hg]
  simp only[bP,and_assoc]at hg;obtain⟨_,hq,_,_,bM⟩:=hg;rw[e]at cQ bb bD pE⊢;simp only at cQ bb bD pE;have hcc:=hc;simp only[en,pt,oJ,x7,bP,and_assoc]at hcc;obtain⟨cm,cB,cx,e0,gI,hL,jz,jA,kW,oB,v',wa,wb,wc,we,BY⟩:=hcc;have BL:g0 (gi c id)=true:=by unfold gi;split;exact kW;exact jA
  simp only[mo,bP,Bool.not_eq_true',dN,and_assoc]at bM;obtain⟨cC,c8,fs⟩:=bM;have hs:=cC;simp only[ia,bP,b2,and_assoc]at hs;have o6:=BL;simp only[g0,bK,bP,b2,and_assoc]at o6;have bT:0≤fB c id:=by unfold fB fj eb;(repeat' split)<;>omega
  have afn:fB c id=eb 0 (bZ id+1-(gi c id).seen):=by
   unfold fB fj;rw[if_pos cC,bz (n:=bZ id+1) (by omega) (by omega),bz]<;>omega
  have Vu:g0 (dd (gi c id) (bZ id))=true:=by
   unfold dd;rw[if_pos cC];have ah:fj (gi c id) (bZ id)=fB c id:=rfl;have aY:(gi c id).seen+fB c id≤(gi c id).aR:=by rw[afn];unfold eb;split<;>omega
   simp only[g0,bK,ah,bP,b2,and_assoc];rw[bz (n:=(gi c id).seen+fB c id) (by omega) (by omega)];obtain⟨eF,eS,ew,oH,mv,D7,Cd,AQ,vn⟩:=o6;refine⟨eF,eS,ew,oH,?_,aY,Cd,?_,vn⟩<;>omega
  have ff:((ensL c.bV c.own c.peer id (fB c id).toNat c.streams).length:Int)≤24:=by
   have h1:=Vs (v:=c.bV) (o:=c.own) (p:=c.peer) (id:=id) (fB c id).toNat c.streams;have h2:(c.streams.length:Int)≤24:=by simp only[ho,bP,b2]at cx;exact cx.2
   have aj:fB c id≤1152921504606846977:=(KG _ _).2;rw[bz (n:=(c.streams.length:Int)+fB c id) (by omega) (by omega)]at fs;omega
  have Jk:ho fv (ensL c.bV c.own c.peer id (fB c id).toNat c.streams)=true:=by
   simp only[ho,bP,b2];exact⟨Oe.2 ⟨cQ,pE⟩,ff⟩
  have f_:jd fv je (ensL c.bV c.own c.peer id (fB c id).toNat c.streams)=jd fv je c.streams:=by unfold jd;rw[Jk,cx,if_pos rfl,if_pos rfl];exact bb
  have gA:jd fv jH (ensL c.bV c.own c.peer id (fB c id).toNat c.streams)=jd fv jH c.streams:=by unfold jd;rw[Jk,cx,if_pos rfl,if_pos rfl];exact bD
  unfold jb;split<;>simp only[en,pt,oJ,x7,bP,and_assoc,f_,gA]
  ·exact⟨cm,cB,Jk,e0,gI,hL,jz,jA,Vu,oB,v',wa,wb,wc,we,BY⟩
  ·exact⟨cm,cB,Jk,e0,gI,hL,jz,Vu,kW,oB,v',wa,wb,wc,we,BY⟩
 ·have e:bI c id=c:=by unfold bI;rw[if_neg hg]
  rw[e];exact hc
theorem N6{c:J}{id:Int}(h:fu c id=0):en c=true∧bN id=true:=by
 unfold fu at h;split at h
 ·omega
 ·rename_i h1;simpa [bP]using h1
theorem afo{m:Nat}{c:J}{id:Int}(hv:cl m c)(h:lX c)(he:fu c id=0)(hn:im c.bV id=false):∀k:Nat,4 * (k:Int)≤id→(strOf (bI c id).streams (id-4 * (k:Int))).2=true:=by
 intro k hk;have hq:=(N6 he).2;have hf:=Oh.1 (xh hv he);have cT:=Vv h id;have Oi:(bI c id).bV=c.bV:=by unfold bI;split;(unfold jb;split<;>rfl);rfl
 have hv:decide (id % 2=1)≠(bI c id).bV:=by rw[Oi];rw[Oj hq]at hn;simpa using hn
 have hp:=cT.peer id hf hv;have Vw:=u0.1 hq;have ha:=cT.all (decide (id / 2 % 2=1)) ((id-4 * (k:Int)) / 4) (by omega) (by omega);have Ok:decide (id % 2=1)=!(bI c id).bV:=by
  cases hs:(bI c id).bV<;>cases hd:decide (id % 2=1)<;>simp_all
 refine Oh.2 ?_;have e:4 * ((id-4 * (k:Int)) / 4)+gF (!(bI c id).bV)+2 * gF (decide (id / 2 % 2=1))=id-4 * (k:Int):=by
  rw[←Ok];unfold gF;by_cases cM:id % 2=1<;>by_cases dI:id / 2 % 2=1<;>simp[cM,dI]<;>omega
 rw[e]at ha;exact ha
theorem yS{n a b:Int}:bK n a b=true↔a≤n∧n≤b:=by simp[bK]
theorem afq{c:eJ}:jI c=true↔(0≤c.aR∧c.aR≤4611686018427387903)∧(0≤c.used∧c.used≤c.aR)∧(-1≤c.blocked∧c.blocked≤c.aR)∧(-1≤c.told∧c.told≤c.aR):=by
 simp only[jI,bN,yS,bP,and_assoc]
theorem Vz{w:ep}:kG w=true↔(1≤w.most∧w.most≤4096)∧(1≤w.size∧w.size≤w.most)∧(1≤w.aR∧w.aR≤4611686018427387903)∧(0≤w.seen∧w.seen≤w.aR)∧(0≤w.read∧w.read≤w.seen)∧w.aR≤w.read+w.size∧(0≤w.jP∧w.jP≤1000000):=by
 simp only[kG,yS,bP,and_assoc,b2];constructor
 ·intro h;have e:IntKind.i64.wrap (w.read+w.size)=w.read+w.size:=by rw[bz]<;>omega
  rw[e]at h;omega
 ·intro h;have e:IntKind.i64.wrap (w.read+w.size)=w.read+w.size:=by rw[bz]<;>omega
  rw[e];omega
theorem afs{a:dB}:g0 a=true↔(0≤a.most∧a.most≤1000)∧(a.most≤a.aR∧a.aR≤1152921504606846976)∧(0≤a.seen∧a.seen≤a.aR)∧(0≤a.closed∧a.closed≤a.seen)∧a.aR≤a.closed+a.most:=by
 simp only[g0,yS,bP,and_assoc,b2];constructor
 ·intro h;have e:IntKind.i64.wrap (a.closed+a.most)=a.closed+a.most:=by rw[bz]<;>omega
  rw[e]at h;omega
 ·intro h;have e:IntKind.i64.wrap (a.closed+a.most)=a.closed+a.most:=by rw[bz]<;>omega
  rw[e];omega
structure aoW(s:ae):Prop where
 q:bN s.id=true
 aoX:jI s.dL=true
 aoY:i_ s.recv=true
 aoZ:kG s.bX=true
 ao0:mO s.priority=true
 zZ:bN s.nr=true
 ao1:s.eU=true∨s.fC=true
 eF:s.send.sent≤s.dL.used
 eS:s.recv.fO≤s.bX.seen
 ew:s.iJ=true→s.send.state=4
 oH:s.iM=true→s.lG=true
 mv:s.nr≠0→s.lG=true
 cM:s.eU=true∨(s.send.state=0∧s.send.ring.cv=0∧s.send.bn=-1)
 dI:s.fC=true∨(s.recv.state=0∧s.recv.fO=0∧s.lG=false)
structure af2(c:J):Prop where
 own:eV c.own=true
 peer:eV c.peer=true
 ao2:∀s∈c.streams,fv s=true
 asc:(c.streams.map fun s=>s.id).Pairwise (·<·)
 len:c.streams.length≤24
 ao3:jI c.cY=true
 yB:kG c.dO=true
 kP:jf c.e7=true
 zY:jf c.e6=true
 Bt:g0 c.cu=true
 Dn:g0 c.ct=true
 kt:xA c.number c.packets=true
 fq:-1≤c.fq∧c.fq≤4611686018427387903
 num:0≤c.number∧c.number≤1000000
 h8:0≤c.h8∧c.h8≤1000000
 Fy:0≤c.closed∧c.closed≤255
 sent:c.streams.foldl (ir je) 0≤c.cY.used
 seen:c.streams.foldl (ir jH) 0≤c.dO.seen
theorem VR{l:List ae}:ho fv l=true↔(∀s∈l,fv s=true)∧(l.map fun s=>s.id).Pairwise (·<·)∧l.length≤24:=by
 simp only[ho,bP,Oe,b2,and_assoc];constructor
 ·rintro⟨h1,h2,aj⟩;exact⟨h1,h2,by omega⟩
 ·rintro⟨h1,h2,aj⟩;exact⟨h1,h2,by omega⟩
theorem aft{c:J}:en c=true↔af2 c:=by
 simp only[en,pt,oJ,x7,bP,yS,b2,and_assoc];constructor
 ·rintro⟨h1,h2,aj,aE,b3,e2,j4,fY,wo,Ov,Ow,Ox,Oy,Oz,OA,j5,nE,h5,Jo,ns⟩;have hs:=VR.1 aj;simp only[jd,aj,if_true]at Jo ns;exact⟨h1,h2,hs.1,hs.2.1,hs.2.2,aE,b3,e2,j4,fY,wo,Ov,⟨Ow,Ox⟩,⟨Oy,Oz⟩,⟨OA,j5⟩,⟨nE,h5⟩,Jo,ns⟩
 ·rintro⟨h1,h2,dy,dT,c2,aE,b3,e2,j4,fY,wo,Ov,⟨Ow,Ox⟩,⟨Oy,Oz⟩,⟨OA,j5⟩,⟨nE,h5⟩,Jo,ns⟩;have aj:=VR.2 ⟨dy,dT,c2⟩;simp only[jd,aj,if_true];exact⟨h1,h2,trivial,aE,b3,e2,j4,fY,wo,Ov,Ow,Ox,Oy,Oz,OA,j5,nE,h5,Jo,ns⟩
structure Dp(c d:J):Prop where
 p:d.packets=c.packets
 n:d.number=c.number
 v:d.bV=c.bV
 Fy:d.closed=c.closed
theorem Dp.refl(c:J):Dp c c:=⟨rfl,rfl,rfl,rfl⟩
theorem Dp.trans{c d e:J}(h:Dp c d)(k:Dp d e):Dp c e:=⟨k.p.trans h.p,k.n.trans h.n,k.v.trans h.v,k.Fy.trans h.Fy⟩
theorem Vy{c:bW}:eV c=true↔jw c.ring=true∧(1≤c.iK∧c.iK≤4096)∧(1≤c.kl∧c.kl≤4096)∧(1≤c.bX∧c.bX≤c.iK)∧(1≤c.cY∧c.cY≤c.kl)∧(0≤c.jE∧c.jE≤1000)∧(0≤c.ey∧c.ey≤1000)∧(1≤c.g7∧c.g7≤1000):=by
 simp only[eV,yS,bP,and_assoc]
theorem afp{l:Int}(h0:0≤l)(h1:l≤4096):jW l=⟨l,0,-1,-1⟩∧jI (jW l)=true∧mw (jW l)=false:=by
 have e:jW l=⟨l,0,-1,-1⟩:=by unfold jW;rw[if_pos (u0.2 (by omega))]
 rw[e];refine⟨rfl,afq.2 (by simp only;omega),?_⟩;simp only[mw,Bool.and_eq_false_iff,dN];exact .inr (by omega)
theorem afr{s m:Int}(h0:1≤m)(h1:m≤4096)(h2:1≤s)(aj:s≤m):kG (mM s m)=true∧oK (mM s m)=false:=by
 have e:mM s m=⟨s,m,s,0,0,0⟩:=by
  unfold mM;rw[if_pos];simp only[Ac,yS,bP];omega
 rw[e];refine⟨Vz.2 (by simp only;omega),?_⟩;simp only[oK,Bool.and_eq_false_iff,dN];refine .inr ?_;rw[bz (n:=s+1) (by omega) (by omega),bz (n:=0+s) (by omega) (by omega),bz (n:=0+s-s) (by omega) (by omega),Int.tdiv_eq_ediv_of_nonneg (by omega),bz (by omega) (by omega)];omega
theorem VA{m:Int}(h0:0≤m)(h1:m≤1000):g0 (mN m)=true∧uT (mN m)=false:=by
 have e:mN m=⟨m,m,0,0⟩:=by unfold mN;rw[if_pos (yS.2 ⟨h0,h1⟩)]
 rw[e];refine⟨afs.2 (by simp only;omega),?_⟩;simp only[uT,Bool.and_eq_false_iff,dN];by_cases hm:0<m
 ·refine .inl (.inr ?_);rw[bz (n:=m+1) (by omega) (by omega),bz (n:=0+m) (by omega) (by omega),bz (n:=0+m-m) (by omega) (by omega),Int.tdiv_eq_ediv_of_nonneg (by omega),bz (by omega) (by omega)];omega
 ·exact .inr hm
theorem VB{l:Int}(h0:0≤l)(h1:l≤1000):jf (n5 l)=true∧(n5 l).blocked≠(n5 l).aR:=by
 have e:n5 l=⟨l,0,-1⟩:=by unfold n5;rw[if_pos (yS.2 ⟨h0,by omega⟩)]
 rw[e];refine⟨?_,by simp only;omega⟩;simp only[jf,yS,bP];omega
structure Bq(c:J):Prop where
 ade:en c=true
 Fy:c.closed=0
 n1:c.streams=[]
 kt:c.packets=[]
 adg:oK c.dO=false
 adh:uT c.cu=false
 adi:uT c.ct=false
 mt:mw c.cY=false
 kP:c.e7.blocked≠c.e7.aR
 zY:c.e6.blocked≠c.e6.aR
 f_:c.vr=false
 gA:c.mW=false
 wI:c.mX=false
 aoO:c.fq=-1
 adn:c.number=0
theorem aeI{v:Bool}{o p:bW}(av:eV o=true)(hp:eV p=true):Bq (kY v o p):=by
 obtain⟨dJ,e9,e_,L6,afb,afc,afd,afe⟩:=Vy.1 av;obtain⟨dp,da,gk,iy,nX,aff,afg,afh⟩:=Vy.1 hp;obtain⟨Ko,cM,dI⟩:=afp (l:=p.cY) (by omega) (by omega);obtain⟨gh,h3⟩:=afr (s:=o.cY) (m:=o.kl) (by omega) (by omega) (by omega) (by omega);obtain⟨cm,cB⟩:=VA (m:=o.jE) (by omega) (by omega);obtain⟨eF,eS⟩:=VA (m:=o.ey) (by omega) (by omega);obtain⟨eT,fW⟩:=VB (l:=p.jE) (by omega) (by omega);obtain⟨ah,ai⟩:=VB (l:=p.ey) (by omega) (by omega);have hw:=Vz.1 gh;unfold kY;rw[if_pos (by rw[av,hp];rfl)];refine⟨aft.2 ⟨av,hp,fun s hs=>(by cases hs),List.Pairwise.nil,by simp,cM,gh,eT,ah,cm,eF,?_,by simp only;omega,by simp only;omega,by simp only;omega,by simp only;omega,?_,?_⟩,rfl,rfl,rfl,h3,cB,eS,dI,fW,ai,rfl,rfl,rfl,rfl,rfl⟩
 ·rfl
 ·simp only[List.foldl_nil];rw[Ko];exact Int.le_refl 0
 ·simp only[List.foldl_nil];omega
set_option maxRecDepth 100000
def T7:List (List bH):=cP 7 [2075,2077,2070,2173,2119,1944,1458]
attribute [go_sem] T7
theorem b7.once{kv:List V}{body:St→(St→Prop)→Prop}{s:uN body}{σ:St}(ρ:List Nat)(hs:kk kv ρ σ σ)
  (h:body σ (bG (bA kv (fun _:Unit=>σ) (fun _=>0) (fun _=>True) ()) .mk)):b7 kv (kN body s) σ:=b7.intro (fun _:Unit=>σ) (fun _=>0) (fun _=>True) () ρ trivial hs fun _ _=>h
theorem ac8(iT iU iV iW iX iY:Int):aJ 261 [.agg [.int .i64 iT,.int .i64 iU,.int .i64 iV,.int .i64 iW,.int .i64 iX,.int .i64 iY]] [.one (.bool (oK (⟨iT,iU,iV,iW,iX,iY⟩:ep)))]:=by
 refine aN 25 Tryz.func261 Tryz.call261 [.tmp 2] ?_;intro _
 try simp only[go_sem]
 repeat'((first|refine ab.intro (by apply Nj) ?_|refine a7 ?_)<;>simp only[go_sem])
 all_goals(refine eo ?_;simp[oK])
theorem ac9(eA ei eB eC:Int):aJ 262 [.agg [.int .i64 eA,.int .i64 ei,.int .i64 eB,.int .i64 eC]] [.one (.bool (uT (⟨eA,ei,eB,eC⟩:dB)))]:=by
 refine aN 25 Tryz.func262 Tryz.call262 [.tmp 2] ?_;intro _
 try simp only[go_sem]
 repeat'((first|refine ab.intro (by apply Fx) ?_|refine a7 ?_)<;>simp only[go_sem])
 all_goals(refine eo ?_;simp[uT,and_comm,and_left_comm])
theorem ada(dY fE dZ fF:Int):aJ 211 [.agg [.int .i64 dY,.int .i64 fE,.int .i64 dZ,.int .i64 fF]] [.one (.bool (mw (⟨dY,fE,dZ,fF⟩:eJ)))]:=by
 refine aN 12 Tryz.func211 Tryz.call211 [.tmp 2] ?_;intro _
 try simp only[go_sem]
 repeat'((first|refine ab.intro (by apply Nk) ?_|refine a7 ?_)<;>simp only[go_sem])
 all_goals(refine eo ?_;simp[mw])
theorem adb(c:J)(w:ep)(t:Bool)(h:oK w=false)(ht:t=false):aJ 208 [.agg (J.enc c),.agg (ep.enc w),.one (.bool t)] [.one (.int .i64 w.aR),.one (.bool false)]:=by
 refine aN 29 Tryz.func208 Tryz.call208 [.tmp 6,.tmp 7] ?_;intro ok;clear ok;have f:aJ 261 [.agg (ep.enc w)] [.one (.bool (oK w))]:=ac8 _ _ _ _ _ _;rw[h]at f;subst ht
 try simp only[go_sem]
 refine ab.intro f ?_
 try simp only[go_sem]
 all_goals(try simp[outOA])
theorem T8(a:dB)(t:Bool)(h:uT a=false)(ht:t=false):aJ 209 [.agg [.int .i64 a.most,.int .i64 a.aR,.int .i64 a.seen,.int .i64 a.closed],.one (.bool t)] [.one (.int .i64 a.aR),.one (.bool false)]:=by
 refine aN 22 Tryz.func209 Tryz.call209 [.tmp 4,.tmp 5] ?_;intro ok;clear ok;have f:aJ 262 [.agg [.int .i64 a.most,.int .i64 a.aR,.int .i64 a.seen,.int .i64 a.closed]] [.one (.bool (uT a))]:=ac9 _ _ _ _;rw[h]at f;subst ht
 try simp only[go_sem]
 refine ab.intro f ?_
 try simp only[go_sem]
 all_goals(try simp[outOA])
theorem IN{c:J}(h:Bq c):(AL c&&decide (c.closed=0))=true:=by
 rw[←G2 (fun s hs=>by rw[h.n1]at hs;cases hs),h.ade,h.Fy];rfl
theorem adf(c:J)(hz:gG c)(h:Bq c):aJ 157 [.agg (J.enc c)] [.one (.sl 9 [])]:=by
 refine aN 112 Tryz.func157 Tryz.call157 [.tmp 2] ?_;intro ok;clear ok;have yi:=Nl c hz;rw[IN h]at yi;have dA:=adb c c.dO c.vr h.adg h.f_;have fN:=T8 c.cu c.mW h.adh h.gA;have f3:=T8 c.ct c.mX h.adi h.wI;have f4:aJ 211 [.agg [.int .i64 c.cY.aR,.int .i64 c.cY.used,.int .i64 c.cY.blocked,.int .i64 c.cY.told]] [.one (.bool (mw c.cY))]:=ada _ _ _ _;rw[h.mt]at f4;have dR:decide ((0:Int)<(c.streams.length:Int))=false:=by rw[h.n1];rfl
 have ah:decide (c.e7.blocked=c.e7.aR)=false:=bo h.kP;have ai:decide (c.e6.blocked=c.e6.aR)=false:=bo h.zY;simp only[go_sem];refine ab.intro yi ?_;simp only[go_sem];refine ab.intro dA ?_;simp only[go_sem];refine ab.intro fN ?_;simp only[go_sem];refine ab.intro f3 ?_;simp only[go_sem,I];refine b7.once [0,1] ?_ ?_
 ·simp only[go_sem];simp
 simp only[go_sem,dR];refine ab.intro f4 ?_;simp only[go_sem,ah,ai]
 all_goals(try simp)
theorem adj(c:J)(xs:List Int)(h:c.streams=[]):aJ 161 [.agg (J.enc c),.one (.sl 1 (xs.map aW))] [.one (.sl 3 [])]:=by
 refine aN 56 Tryz.func161 Tryz.call161 [.tmp 4] ?_;intro ok;clear ok;have dR:decide ((0:Int)<(c.streams.length:Int))=false:=by rw[h];rfl
 simp only[go_sem,I];refine b7.once [0,1] ?_ ?_
 ·simp only[go_sem];simp
 simp only[go_sem,dR]
 all_goals(try simp)
theorem adk(n:Int):aJ 160 [.one (.sl 3 []),.one (.int .i64 n)] [.one (.int .i64 (-1))]:=by
 refine aN 34 Tryz.func160 Tryz.call160 [.tmp 4] ?_;intro ok;clear ok;have dR:decide (((0:Nat):Int)=0)=true:=rfl
 try simp only[go_sem,ft,dR]
 repeat'(first|(with_reducible refine e5 ?_<;>simp only[go_sem,ft]))
 all_goals(try simp[outOA])
theorem adl(c:J)(hz:gG c)(h:Bq c):aJ 117 [.agg (J.enc c),.one (.int .i64 400)] [.one (.str []),.one (.int .i64 (-1)),.agg (J.enc c)]:=by
 refine aN 145 Tryz.func117 Tryz.call117 [.tmp 4,.tmp 5,.cell 6 37] ?_;intro ok;clear ok;have i':=iE hz;have vf:=Kw c (by omega);have yi:=Nl c hz;rw[IN h]at yi;have adm:=il 400 1 400;rw[show bK 400 1 400=true from rfl]at adm;have mJ:decide ((0:Int)<((0:Nat):Int))=false:=rfl;have k1:decide (((0:Nat):Int)=0)=true:=rfl;have dR:decide (c.number=1000000)=false:=by rw[h.adn];rfl
 have IP:=adf c hz h;have Nm:=adj c [] h.n1;have aoo:=adk c.fq
 try simp only[go_sem]
 repeat'((first|refine ab.af (by assumption) ?_|refine au.af (by assumption) ?_|with_reducible refine du ?_)<;>simp only[go_sem,I,dR])
 refine b7.once [0,1,2,3,4,5,6,7] ?_ ?_
 ·simp only[go_sem];simp
 simp only[go_sem,ft,mJ];refine b7.once [0,1,2,3,4,5,6,7] ?_ ?_
 ·simp only[go_sem];simp
 simp only[go_sem,ft]
 try simp only[go_sem,I,ft,mJ,k1,List.map_nil]
 repeat'((first|refine ab.af (by assumption) ?_|refine au.af (by assumption) ?_|refine ba T7 (by kernel_rfl) (by rfl) ?_|refine ba [[.post,.dv,.dv,.post],[.dv,.post,.post,.post],[.dv,.pre,.post,.post],[.pre,.pre,.pre,.post]] (by kernel_rfl) (by rfl) ?_)<;>simp only[go_sem,I,ft,k1,List.map_nil])
 all_goals(try simp)
theorem ado(c:J)(hz:gG c)(h:Bq c):aJ 81 [.agg (J.enc c)] [.one (.bool false)]:=by
 refine aN 14 Tryz.func81 Tryz.call81 [.tmp 2] ?_;intro ok;clear ok;have f:=adl c hz h;simp only[go_sem];refine ab.intro f ?_;simp only[go_sem,I]
 all_goals(try simp[outOA])
theorem adp(c:J)(hz:gG c)(h:Bq c):aJ 21 [.agg (J.enc c)] [.one (.bool true)]:=by
 refine aN 16 Tryz.func21 Tryz.call21 [.tmp 2] ?_;intro ok;clear ok;have yi:=Nl c hz;rw[IN h]at yi;have f:=ado c hz h;have dR:decide ((c.packets.length:Int)=0)=true:=by rw[h.kt];rfl
 simp only[go_sem];refine ab.intro yi ?_
 try simp only[go_sem]
 repeat'((first|refine ab.intro (by assumption) ?_|refine au.intro (by assumption) ?_|with_reducible refine du ?_)<;>simp only[go_sem,I,dR])
 all_goals(try simp[outOA])
set_option maxRecDepth 100000
theorem XW(s:Bool)(xM xN xO xP xQ xR xS xT xU xV xW xX xY xZ x3 x4:Int):aJ 14 [.one (.bool s),.agg [.int .i64 xM,.int .i64 xN,.int .i64 xO,.int .i64 xP,.int .i64 xQ,.int .i64 xR,.int .i64 xS,.int .i64 xT],.agg [.int .i64 xU,.int .i64 xV,.int .i64 xW,.int .i64 xX,.int .i64 xY,.int .i64 xZ,.int .i64 x3,.int .i64 x4]] [.agg (J.enc (kY s (⟨xM,xN,xO,xP,xQ,xR,xS,xT⟩:bW) (⟨xU,xV,xW,xX,xY,xZ,x3,x4⟩:bW))),.one (.bool (eV (⟨xM,xN,xO,xP,xQ,xR,xS,xT⟩:bW)&&eV (⟨xU,xV,xW,xX,xY,xZ,x3,x4⟩:bW)))]:=by
 refine aN 67 Tryz.func14 Tryz.call14 [.cell 6 37,.tmp 7] ?_;intro _
 try simp only[go_sem]
 repeat'((first|refine ab.intro (by first|apply DU|apply P_|apply P'|apply XX|apply XY) ?_|refine au.intro (by apply DU) ?_|refine a7 ?_|refine bt (fun h=>?_) (fun h=>?_))<;>simp only[go_sem])
 all_goals(cases h1:eV (⟨xM,xN,xO,xP,xQ,xR,xS,xT⟩:bW)<;>cases h2:eV (⟨xU,xV,xW,xX,xY,xZ,x3,x4⟩:bW)<;>simp_all [kY])
def AH(c:J)(n:Int):J:=if decide (c.closed=0)&&bK n 1 255 then {c with closed:=n}else c
theorem XZ(c:J)(n:Int)(hz:gG c):aJ 23 [.agg (J.enc c),.one (.int .i64 n)] [.agg (J.enc ((AH c n)))]:=by
 refine aN 18 Tryz.func23 Tryz.call23 [.cell 4 37] ?_;intro ok;clear ok;have i':=iE hz;have vf:=Kw c (by omega);have aT:AH c n=if decide (c.closed=0)&&bK n 1 255 then {c with closed:=n}else c:=rfl
 cases h0:decide (c.closed=0)with
 |false=>
  rw[h0]at aT
  try simp only[go_sem]
  repeat'(first|((first|refine ab.af (by assumption) ?_|refine au.af (by assumption) ?_|with_reducible refine e5 ?_)<;>simp only[go_sem,I,h0])|(with_reducible refine aw ?_)|fail)
  all_goals simp[aT]
 |true=>
  cases h1:bK n 1 255 with
  |false=>
   rw[h0,h1]at aT
   try simp only[go_sem]
   repeat'(first|((first|refine ab.af (by first|assumption|apply il) ?_|refine au.af (by assumption) ?_|with_reducible refine du ?_)<;>simp only[go_sem,I,h0,h1])|(with_reducible refine aw ?_)|fail)
   all_goals simp[aT]
  |true=>
   rw[h0,h1]at aT
   try simp only[go_sem]
   repeat'(first|((first|refine ab.af (by first|assumption|apply il) ?_|refine au.af (by assumption) ?_|with_reducible refine du ?_)<;>simp only[go_sem,I,h0,h1])|(with_reducible refine aw ?_)|fail)
   all_goals simp[aT]
theorem X0(c:J)(n:Int)(hz:gG c):aJ 24 [.agg (J.enc c),.one (.int .i64 n)] [.agg (J.enc ((AH c n)))]:=by
 refine aN 18 Tryz.func24 Tryz.call24 [.cell 4 37] ?_;intro ok;clear ok;have i':=iE hz;have vf:=gb c;have aT:AH c n=if decide (c.closed=0)&&bK n 1 255 then {c with closed:=n}else c:=rfl
 cases h0:decide (c.closed=0)with
 |false=>
  rw[h0]at aT
  try simp only[go_sem]
  repeat'(first|((first|refine ab.af (by(apply gb<;>exact aP)) ?_|with_reducible refine e5 ?_)<;>simp only[go_sem,I,h0])|(with_reducible refine aw ?_)|fail)
  all_goals simp[aT]
 |true=>
  cases h1:bK n 1 255 with
  |false=>
   rw[h0,h1]at aT
   try simp only[go_sem]
   repeat'(first|((first|refine ab.af (by first|(apply gb<;>exact aP)|apply h_) ?_|with_reducible refine du ?_)<;>simp only[go_sem,I,h0,h1])|(with_reducible refine aw ?_)|fail)
   all_goals simp[aT]
  |true=>
   rw[h0,h1]at aT
   try simp only[go_sem]
   repeat'(first|((first|refine ab.af (by first|(apply gb<;>exact aP)|apply h_) ?_|with_reducible refine du ?_)<;>simp only[go_sem,I,h0,h1])|(with_reducible refine aw ?_)|fail)
   all_goals simp[aT]
end Gv

namespace Gv
open Go Go.Proofs
set_option maxRecDepth 100000
end Gv

namespace Gv
open Go Go.Proofs
set_option maxRecDepth 100000
theorem aeK(c:J)(id:Int)(hz:gG c):aJ 17 [.agg (J.enc c),.one (.int .i64 id)] [.agg (ae.enc ((strOf c.streams id).1)),.one (.bool (strOf c.streams id).2)]:=by
 refine aN 20 Tryz.func17 Tryz.call17 [.cell 4 63,.tmp 5] ?_;intro ok;clear ok;obtain⟨nk,jc,pq,zc⟩:=hz;simp only[go_sem];refine ab.intro (Er c.streams id) ?_;simp only[go_sem];rcases uk (eP id) c.streams with ⟨h1,h2⟩|⟨j,al,h1,h2,aj⟩
 ·rw[h1];have ag:strOf c.streams id=(jG,false):=by unfold strOf;rw[h2]
  try simp only[go_sem]
  all_goals simp[ag,jG]
 ·rw[h1];have ag:strOf c.streams id=(c.streams[j],true):=by unfold strOf;rw[h2]
  have hlt:decide ((j:Int)<0)=false:=bo (by omega);have aq:=b5 ae.enc c.streams j al;obtain⟨cQ,bb,bD,bR⟩:=jc _ (eR al)
  try simp only[go_sem,I,hlt,aC,aq,ae.enc]
  repeat'(first|(refine ab.intro (by(apply D0<;>exact aP)) ?_<;>simp only[go_sem,I,ae.enc])|(with_reducible refine aw ?_)|fail)
  all_goals simp[ag]
set_option maxRecDepth 100000
def A3:List (List bH):=cP 9 [16439,16441,16434,16416,19399,19561,18994,17536,13122]
def Et:List (List bH):=cP 11 [147734,147732,147739,147717,147663,174838,174352,176053,170707,157585,118098]
attribute [go_sem] A3 Et
theorem ZJ(xs ys:List Int):aJ 274 [.one (.sl 1 (xs.map aW)),.one (.sl 1 (ys.map aW))] [.one (.bool (decide (xs=ys)))]:=by
 refine aN 26 Tryz.func274 Tryz.call274 [.tmp 4] ?_;intro ok;have hm:=fr ok;simp only[go_sem,I];refine bt (fun h=>?_) (fun h=>?_)
 ·simp only[go_sem];simp only[ne_eq,decide_not,Bool.not_eq_true',dN]at h;have:xs≠ys:=fun e=>h (by rw[e]);simp[this]
 ·simp only[ne_eq,decide_not,Bool.not_eq_false',b2]at h;simp only[go_sem,I];refine b7.intro (fun i:Nat=>⟨(.d (.sl 1 (xs.map aW))::.d (.sl 1 (ys.map aW))::.ak::.ak::.d (.bool false)::jn 7 (.i xs.length::.i i::jn 12 [])),[]⟩)
   (fun i=>xs.length-i) (fun i=>i≤xs.length∧xs.take i=ys.take i) 0 [] ⟨by omega,by simp⟩ ?_ ?_
  ·simp only[go_sem];simp
  ·rintro i ⟨hi,he⟩;simp only[go_sem];refine bt (fun h1=>?_) (fun h1=>?_)
   ·simp only[b2]at h1;have fp:i<xs.length:=by omega
    have gJ:i<ys.length:=by omega
    have aq:=b5 aW xs i fp;have dz:=b5 aW ys i gJ;have hw:=dK (i:=i) (m:=xs.length) fp hm;by_cases hq:xs[i]=ys[i]
    ·have hz:decide (xs[i]≠ys[i])=false:=bo (fun e=>e hq)
     try simp only[go_sem]
     repeat'(first|(refine ba A3 (by kernel_rfl) (by rfl) ?_<;>simp only[go_sem,I,aC,aq,dz,aW,hz,hw])|(with_reducible refine aw ?_)|fail)
     all_goals(refine bA.intro (i+1) [] ⟨by omega,u' he fp gJ hq⟩ (by omega) ?_;simp only[go_sem])
    ·have hz:decide (xs[i]≠ys[i])=true:=bp hq;have hne:xs≠ys:=fun e=>by subst e;exact hq rfl
     try simp only[go_sem]
     repeat'(first|(refine ba A3 (by kernel_rfl) (by rfl) ?_<;>simp only[go_sem,I,aC,aq,dz,aW,hz])|(with_reducible refine aw ?_)|fail)
     all_goals simp[hne]
   ·simp only[go_sem];simp only[dN]at h1;have:xs=ys:=by rw[dH (by omega),dH (by omega)]at he;exact he
    simp[this]
theorem Hz(a b:aA):(decide (a.offset=b.offset)&&decide (a.data=b.data))=decide (a=b):=by
 have h:((decide (a.offset=b.offset)&&decide (a.data=b.data))=true)↔(decide (a=b)=true):=by
  cases a;cases b;simp
 cases h1:(decide (a.offset=b.offset)&&decide (a.data=b.data))<;>cases h2:decide (a=b)<;>simp_all
theorem ZK(xs ys:List aA):aJ 276 [.one (.sl 2 (xs.map aA.enc)),.one (.sl 2 (ys.map aA.enc))] [.one (.bool (decide (xs=ys)))]:=by
 refine aN 26 Tryz.func276 Tryz.call276 [.tmp 4] ?_;intro ok;have hm:=fr ok;simp only[go_sem,I];refine bt (fun h=>?_) (fun h=>?_)
 ·simp only[go_sem];simp only[ne_eq,decide_not,Bool.not_eq_true',dN]at h;have:xs≠ys:=fun e=>h (by rw[e]);simp[this]
 ·simp only[ne_eq,decide_not,Bool.not_eq_false',b2]at h;simp only[go_sem,I];refine b7.intro (fun i:Nat=>⟨(.d (.sl 2 (xs.map aA.enc))::.d (.sl 2 (ys.map aA.enc))::.ak::.ak::.d (.bool false)::jn 7 (.i xs.length::.i i::jn 12 [])),[]⟩)
   (fun i=>xs.length-i) (fun i=>i≤xs.length∧xs.take i=ys.take i) 0 [] ⟨by omega,by simp⟩ ?_ ?_
  ·simp only[go_sem];simp
  ·rintro i ⟨hi,he⟩;simp only[go_sem];refine bt (fun h1=>?_) (fun h1=>?_)
   ·simp only[b2]at h1;have fp:i<xs.length:=by omega
    have gJ:i<ys.length:=by omega
    have aq:=b5 aA.enc xs i fp;have dz:=b5 aA.enc ys i gJ;have hw:=dK (i:=i) (m:=xs.length) fp hm;by_cases hq:xs[i]=ys[i]
    ·have hz:(decide (xs[i].offset=ys[i].offset)&&decide (xs[i].data=ys[i].data))=true:=by rw[Hz];exact bp hq
     try simp only[go_sem]
     repeat'(first|(refine ba A3 (by kernel_rfl) (by rfl) ?_<;>simp only[go_sem,I,aC,aq,dz,aA.enc,hz,hw,bS])|(with_reducible refine aw ?_)|fail)
     all_goals(refine bA.intro (i+1) [] ⟨by omega,u' he fp gJ hq⟩ (by omega) ?_;simp only[go_sem])
    ·have hz:(decide (xs[i].offset=ys[i].offset)&&decide (xs[i].data=ys[i].data))=false:=by rw[Hz];exact bo hq
     have hne:xs≠ys:=fun e=>by subst e;exact hq rfl
     try simp only[go_sem]
     repeat'(first|(refine ba A3 (by kernel_rfl) (by rfl) ?_<;>simp only[go_sem,I,aC,aq,dz,aA.enc,hz,cc])|(with_reducible refine aw ?_)|fail)
     all_goals simp[hne]
   ·simp only[go_sem];simp only[dN]at h1;have:xs=ys:=by rw[dH (by omega),dH (by omega)]at he;exact he
    simp[this]
theorem HA(a b:ao):(decide (a.kind=b.kind)&&(decide (a.stream=b.stream)&&(decide (a.offset=b.offset)&&(decide (a.data=b.data)&&(decide (a.a2=b.a2)&&(decide (a.code=b.code)&&(decide (a.aR=b.aR)&&(decide (a.bn=b.bn)&&decide (a.ey=b.ey)))))))))=decide (a=b):=by
 have h:((decide (a.kind=b.kind)&&(decide (a.stream=b.stream)&&(decide (a.offset=b.offset)&&(decide (a.data=b.data)&&(decide (a.a2=b.a2)&&(decide (a.code=b.code)&&(decide (a.aR=b.aR)&&(decide (a.bn=b.bn)&&decide (a.ey=b.ey)))))))))=true)↔(decide (a=b)=true):=by
  cases a;cases b;simp
 cases h1:(decide (a.kind=b.kind)&&(decide (a.stream=b.stream)&&(decide (a.offset=b.offset)&&(decide (a.data=b.data)&&(decide (a.a2=b.a2)&&(decide (a.code=b.code)&&(decide (a.aR=b.aR)&&(decide (a.bn=b.bn)&&decide (a.ey=b.ey)))))))))<;>cases h2:decide (a=b)<;>simp_all
theorem ZL(xs ys:List ao):aJ 123 [.one (.sl 9 (xs.map ao.enc)),.one (.sl 9 (ys.map ao.enc))] [.one (.bool (decide (xs=ys)))]:=by
 refine aN 26 Tryz.func123 Tryz.call123 [.tmp 4] ?_;intro ok;have hm:=fr ok;simp only[go_sem,I];refine bt (fun h=>?_) (fun h=>?_)
 ·simp only[go_sem];simp only[ne_eq,decide_not,Bool.not_eq_true',dN]at h;have:xs≠ys:=fun e=>h (by rw[e]);simp[this]
 ·simp only[ne_eq,decide_not,Bool.not_eq_false',b2]at h;simp only[go_sem,I];refine b7.intro (fun i:Nat=>⟨(.d (.sl 9 (xs.map ao.enc))::.d (.sl 9 (ys.map ao.enc))::.ak::.ak::.d (.bool false)::jn 7 (.i xs.length::.i i::jn 12 [])),[]⟩)
   (fun i=>xs.length-i) (fun i=>i≤xs.length∧xs.take i=ys.take i) 0 [] ⟨by omega,by simp⟩ ?_ ?_
  ·simp only[go_sem];simp
  ·rintro i ⟨hi,he⟩;simp only[go_sem];refine bt (fun h1=>?_) (fun h1=>?_)
   ·simp only[b2]at h1;have fp:i<xs.length:=by omega
    have gJ:i<ys.length:=by omega
    have aq:=b5 ao.enc xs i fp;have dz:=b5 ao.enc ys i gJ;have hw:=dK (i:=i) (m:=xs.length) fp hm;by_cases hq:xs[i]=ys[i]
    ·have hz:(decide (xs[i].kind=ys[i].kind)&&(decide (xs[i].stream=ys[i].stream)&&(decide (xs[i].offset=ys[i].offset)&&(decide (xs[i].data=ys[i].data)&&(decide (xs[i].a2=ys[i].a2)&&(decide (xs[i].code=ys[i].code)&&(decide (xs[i].aR=ys[i].aR)&&(decide (xs[i].bn=ys[i].bn)&&decide (xs[i].ey=ys[i].ey)))))))))=true:=by rw[HA];exact bp hq
     try simp only[go_sem]
     repeat'(first|(refine ba A3 (by kernel_rfl) (by rfl) ?_<;>simp only[go_sem,I,aC,aq,dz,ao.enc,hz,hw,bS])|(with_reducible refine aw ?_)|fail)
     all_goals(refine bA.intro (i+1) [] ⟨by omega,u' he fp gJ hq⟩ (by omega) ?_;simp only[go_sem])
    ·have hz:(decide (xs[i].kind=ys[i].kind)&&(decide (xs[i].stream=ys[i].stream)&&(decide (xs[i].offset=ys[i].offset)&&(decide (xs[i].data=ys[i].data)&&(decide (xs[i].a2=ys[i].a2)&&(decide (xs[i].code=ys[i].code)&&(decide (xs[i].aR=ys[i].aR)&&(decide (xs[i].bn=ys[i].bn)&&decide (xs[i].ey=ys[i].ey)))))))))=false:=by rw[HA];exact bo hq
     have hne:xs≠ys:=fun e=>by subst e;exact hq rfl
     try simp only[go_sem]
     repeat'(first|(refine ba A3 (by kernel_rfl) (by rfl) ?_<;>simp only[go_sem,I,aC,aq,dz,ao.enc,hz,cc])|(with_reducible refine aw ?_)|fail)
     all_goals simp[hne]
   ·simp only[go_sem];simp only[dN]at h1;have:xs=ys:=by rw[dH (by omega),dH (by omega)]at he;exact he
    simp[this]
theorem ZM(x y:dm):aJ 226 [.agg [.int .i64 x.size,.int .i64 x.base,.int .i64 x.cv,.sl 1 (x.cells.map aW)],.agg [.int .i64 y.size,.int .i64 y.base,.int .i64 y.cv,.sl 1 (y.cells.map aW)]] [.one (.bool (decide (x=y)))]:=by
 refine aN 31 Tryz.func226 Tryz.call226 [.tmp 4] ?_;intro ok
 try simp only[go_sem]
 repeat'((first|refine au.intro (by apply ZJ) ?_|refine a7 ?_)<;>simp only[go_sem])
 all_goals(refine eo ?_;cases x;cases y;simp;try(constructor<;>intro h<;>simp_all))
theorem ZN(x y:kC):aJ 228 [.agg [.int .i64 x.next,.sl 2 (x.bO.map aA.enc)],.agg [.int .i64 y.next,.sl 2 (y.bO.map aA.enc)]] [.one (.bool (decide (x=y)))]:=by
 refine aN 17 Tryz.func228 Tryz.call228 [.tmp 4] ?_;intro ok
 try simp only[go_sem]
 repeat'((first|refine au.intro (by apply ZK) ?_|refine a7 ?_)<;>simp only[go_sem])
 all_goals(refine eo ?_;cases x;cases y;simp;try(constructor<;>intro h<;>simp_all))
theorem ZO(x y:bL):aJ 170 [.agg (bL.enc x),.agg (bL.enc y)] [.one (.bool (decide (x=y)))]:=by
 refine aN 38 Tryz.func170 Tryz.call170 [.tmp 4] ?_;intro ok
 try simp only[go_sem]
 repeat'((first|refine au.intro (by apply ZN) ?_|refine a7 ?_)<;>simp only[go_sem])
 all_goals(refine eo ?_;cases x;cases y;simp;try(constructor<;>intro h<;>simp_all))
theorem ZP(x y:aO):aJ 169 [.agg (aO.enc x),.agg (aO.enc y)] [.one (.bool (decide (x=y)))]:=by
 refine aN 66 Tryz.func169 Tryz.call169 [.tmp 4] ?_;intro ok
 try simp only[go_sem]
 repeat'((first|refine au.intro (by first|apply ZM|apply Xr) ?_|refine a7 ?_)<;>simp only[go_sem])
 all_goals(refine eo ?_;cases x;cases y;simp;try(constructor<;>intro h<;>simp_all))
theorem Ry(x y:aD):aJ 86 [.agg [.int .i64 x.number,.sl 9 (x.frames.map ao.enc)],.agg [.int .i64 y.number,.sl 9 (y.frames.map ao.enc)]] [.one (.bool (decide (x=y)))]:=by
 refine aN 17 Tryz.func86 Tryz.call86 [.tmp 4] ?_;intro ok
 try simp only[go_sem]
 repeat'((first|refine au.intro (by apply ZL) ?_|refine a7 ?_)<;>simp only[go_sem])
 all_goals(refine eo ?_;cases x;cases y;simp;try(constructor<;>intro h<;>simp_all))
theorem ZQ(x y:dm):aJ 118 [.agg [.int .i64 x.size,.int .i64 x.base,.int .i64 x.cv,.sl 1 (x.cells.map aW)],.agg [.int .i64 y.size,.int .i64 y.base,.int .i64 y.cv,.sl 1 (y.cells.map aW)]] [.one (.bool (decide (x=y)))]:=by
 refine aN 52 Tryz.func118 Tryz.call118 [.tmp 4] ?_;intro ok;have hm:x.cells.length≤maxLen:=by have h:=(ok.1.2.2.2.1).1;rwa [I]at h
 clear ok;simp only[go_sem]
 repeat((first|refine a7 ?_|refine e8 ?_);simp only[go_sem,I])
 refine bt (fun h=>?_) (fun h=>?_)
 ·simp only[go_sem];have hne:x≠y:=fun e=>by subst e;simp at h
  simp[hne]
 ·have hl:x.cells.length=y.cells.length:=by simp at h;omega
  simp only[go_sem];refine b7.intro (fun i:Nat=>⟨(.ak::.ak::.ptr 0 0 0::.ptr 1 0 0::.d (.bool false)::.i i::jn 46 []),[.box [.i x.size,.i x.base,.i x.cv,.d (.sl 1 (x.cells.map aW))],.box [.i y.size,.i y.base,.i y.cv,.d (.sl 1 (y.cells.map aW))]]⟩)
   (fun i=>x.cells.length-i) (fun i=>i≤x.cells.length∧x.cells.take i=y.cells.take i) 0 [0,1] ⟨by omega,by simp⟩ ?_ ?_
  ·simp only[go_sem];simp
  ·rintro i ⟨hi,he⟩;simp only[go_sem,I];refine bt (fun h1=>?_) (fun h1=>?_)
   ·simp only[b2]at h1;have fp:i<x.cells.length:=by omega
    have gJ:i<y.cells.length:=by omega
    have aq:=b5 aW x.cells i fp;have dz:=b5 aW y.cells i gJ;have hw:=dK (i:=i) (m:=x.cells.length) fp hm;by_cases hq:x.cells[i]=y.cells[i]
    ·have hz:decide (x.cells[i]≠y.cells[i])=false:=bo (fun e=>e hq)
     try simp only[go_sem]
     repeat'(first|(refine ba Et (by kernel_rfl) (by rfl) ?_<;>simp only[go_sem,I,aC,aq,dz,aW,hz,hw])|(with_reducible refine aw ?_)|fail)
     all_goals(refine bA.intro (i+1) [0,1] ⟨by omega,u' he fp gJ hq⟩ (by omega) ?_;simp only[go_sem];try simp)
    ·have hz:decide (x.cells[i]≠y.cells[i])=true:=bp hq;have hne:x≠y:=fun e=>by subst e;exact hq rfl
     try simp only[go_sem]
     repeat'(first|(refine ba Et (by kernel_rfl) (by rfl) ?_<;>simp only[go_sem,I,aC,aq,dz,aW,hz])|(with_reducible refine aw ?_)|fail)
     all_goals simp[hne]
   ·simp only[go_sem];simp only[dN]at h1;have hc:x.cells=y.cells:=by rw[dH (by omega),dH (by omega)]at he;exact he
    have kL:x=y:=by cases x;cases y;simp at h;simp_all
    simp[kL]
theorem ZR(x y:kC):aJ 120 [.agg [.int .i64 x.next,.sl 2 (x.bO.map aA.enc)],.agg [.int .i64 y.next,.sl 2 (y.bO.map aA.enc)]] [.one (.bool (decide (x=y)))]:=by
 refine aN 38 Tryz.func120 Tryz.call120 [.tmp 4] ?_;intro ok;have hm:x.bO.length≤maxLen:=by have h:=(ok.1.2.1).1;rwa [I]at h
 clear ok;simp only[go_sem]
 repeat((first|refine a7 ?_|refine e8 ?_);simp only[go_sem,I])
 refine bt (fun h=>?_) (fun h=>?_)
 ·simp only[go_sem];have hne:x≠y:=fun e=>by subst e;simp at h
  simp[hne]
 ·have hl:x.bO.length=y.bO.length:=by simp at h;omega
  simp only[go_sem];refine b7.intro (fun i:Nat=>⟨(.ak::.ak::.ptr 0 0 0::.ptr 1 0 0::.d (.bool false)::.i i::jn 32 []),[.box [.i x.next,.d (.sl 2 (x.bO.map aA.enc))],.box [.i y.next,.d (.sl 2 (y.bO.map aA.enc))]]⟩)
   (fun i=>x.bO.length-i) (fun i=>i≤x.bO.length∧x.bO.take i=y.bO.take i) 0 [0,1] ⟨by omega,by simp⟩ ?_ ?_
  ·simp only[go_sem];simp
  ·rintro i ⟨hi,he⟩;simp only[go_sem,I];refine bt (fun h1=>?_) (fun h1=>?_)
   ·simp only[b2]at h1;have fp:i<x.bO.length:=by omega
    have gJ:i<y.bO.length:=by omega
    have aq:=b5 aA.enc x.bO i fp;have dz:=b5 aA.enc y.bO i gJ;have hw:=dK (i:=i) (m:=x.bO.length) fp hm;by_cases hq:x.bO[i]=y.bO[i]
    ·have hz:(decide (x.bO[i].offset=y.bO[i].offset)&&decide (x.bO[i].data=y.bO[i].data))=true:=by rw[Hz];exact bp hq
     try simp only[go_sem]
     repeat'(first|(refine ba Et (by kernel_rfl) (by rfl) ?_<;>simp only[go_sem,I,aC,aq,dz,aA.enc,hz,hw,bS])|(with_reducible refine aw ?_)|fail)
     all_goals(refine bA.intro (i+1) [0,1] ⟨by omega,u' he fp gJ hq⟩ (by omega) ?_;simp only[go_sem];try simp)
    ·have hz:(decide (x.bO[i].offset=y.bO[i].offset)&&decide (x.bO[i].data=y.bO[i].data))=false:=by rw[Hz];exact bo hq
     have hne:x≠y:=fun e=>by subst e;exact hq rfl
     try simp only[go_sem]
     repeat'(first|(refine ba Et (by kernel_rfl) (by rfl) ?_<;>simp only[go_sem,I,aC,aq,dz,aA.enc,hz,cc])|(with_reducible refine aw ?_)|fail)
     all_goals simp[hne]
   ·simp only[go_sem];simp only[dN]at h1;have hc:x.bO=y.bO:=by rw[dH (by omega),dH (by omega)]at he;exact he
    have kL:x=y:=by cases x;cases y;simp at h;simp_all
    simp[kL]
theorem ZS(x y:bL):aJ 83 [.agg (bL.enc x),.agg (bL.enc y)] [.one (.bool (decide (x=y)))]:=by
 refine aN 38 Tryz.func83 Tryz.call83 [.tmp 4] ?_;intro ok
 try simp only[go_sem]
 repeat'((first|refine au.intro (by apply ZR) ?_|refine a7 ?_)<;>simp only[go_sem])
 all_goals(refine eo ?_;cases x;cases y;simp;try(constructor<;>intro h<;>simp_all))
theorem ZT(x y:aO):aJ 82 [.agg (aO.enc x),.agg (aO.enc y)] [.one (.bool (decide (x=y)))]:=by
 refine aN 66 Tryz.func82 Tryz.call82 [.tmp 4] ?_;intro ok
 try simp only[go_sem]
 repeat'((first|refine au.intro (by first|apply ZQ|apply XF) ?_|refine a7 ?_)<;>simp only[go_sem])
 all_goals(refine eo ?_;cases x;cases y;simp;try(constructor<;>intro h<;>simp_all))
theorem ZU(x:ae):aJ 168 [.agg (ae.enc x)] [.agg [.bool x.eU,.bool x.fC,.bool x.iJ,.bool x.iM,.bool x.mx,.bool x.lG,.bool x.counted]]:=by
 refine aN 18 Tryz.func168 Tryz.call168 [.cell 2 175] ?_;intro ok
 try simp only[go_sem]
 all_goals simp[outOA]
set_option maxRecDepth 100000
def Rz:List (List bH):=cP 55 [174449211009120179071170470,174449211009120179071170468,174449211009120179071170502,174449211009120179071170484,174449211009120179071170426,174449211009120179071170264,174449211009120179071143534,174449211009120179071142076,174449211009120179071166862,174449211009120179071153740,174449211009120179071111458,174449211009120179070993360,174449211009120179070639066,174449211009120179012180556,174449211009120179008991910,174449211009120179063198892,174449211009120179034501078,174449211009120178942030344,174449211009120178683750018,174449211009120177908909040,174449211009120050060147670,174449211009120043086578868,174449211009120161637248502,174449211009120098875129284,174449211009119896641634026,174449211009119331782561064,174449211009117637205342178,174449211008838031964225988,174449211008822780769256014,174449211009082051083745572,174449211008944790329015806,174449211008502505674886560,174449211007267158882318666,174449211003561118504614984,174449210842348362074504817,174449210808993998675171679,174449210925734270572837662,174449210558836273180173144,174449209658268461398178418,174449206956565026052194240,174449198851454720014241706,174447861508254223752073596,174447788562261469410500790,174449028644138293217238492,174448372130203504143083238,174446256696413628237471864,174440348071000526570074578,174422622194761221567882720,171497852615275896206226150,171338319729122151186499428,174050378793735816521853702,172614582818352111344313204,167988129119893505772238266,155065965341440159174373784,116299474006080119380780338]
attribute [go_sem] Rz
theorem HB(a b:eJ):a=b↔a.aR=b.aR∧a.used=b.used∧a.blocked=b.blocked∧a.told=b.told:=by cases a;cases b;simp
theorem HC(a b:ep):a=b↔a.size=b.size∧a.most=b.most∧a.aR=b.aR∧a.seen=b.seen∧a.read=b.read∧a.jP=b.jP:=by cases a;cases b;simp
theorem RA(a b:ie):a=b↔a.iw=b.iw∧a.hR=b.hR:=by cases a;cases b;simp
theorem RB(x y:ae):aJ 122 [.agg (ae.enc x),.agg (ae.enc y)] [.one (.bool (decide (x=y)))]:=by
 refine aN 59 Tryz.func122 Tryz.call122 [.tmp 4] ?_;intro ok
 try simp only[go_sem]
 repeat'((first|refine au.intro (by first|apply ZU|apply ZP|apply ZO) ?_|refine e8 ?_|refine ba Rz (by kernel_rfl) (by rfl) ?_)<;>simp only[go_sem])
 all_goals(refine eo ?_;cases x;cases y;simp[HB,HC,RA];try(constructor<;>intro h<;>simp_all))
theorem Ly(x y:ae):aJ 22 [.agg (ae.enc x),.agg (ae.enc y)] [.one (.bool (decide (x=y)))]:=by
 refine aN 101 Tryz.func22 Tryz.call22 [.tmp 4] ?_;intro ok
 try simp only[go_sem]
 repeat'((first|refine au.intro (by first|apply ZT|apply ZS) ?_|refine a7 ?_)<;>simp only[go_sem])
 all_goals(refine eo ?_;cases x;cases y;simp[HB,HC,RA];try(constructor<;>intro h<;>simp_all))
set_option maxRecDepth 100000
def LA:List (List bH):=cP 10 [55805,55807,55800,55782,58765,58927,58360,56902,52488,39366]
attribute [go_sem] LA
theorem ZV(xs ys:List ae):aJ 41 [.one (.sl 39 (xs.map ae.enc)),.one (.sl 39 (ys.map ae.enc))] [.one (.bool (decide (xs=ys)))]:=by
 refine aN 27 Tryz.func41 Tryz.call41 [.tmp 4] ?_;intro ok;have hm:=fr ok;simp only[go_sem,I];refine bt (fun h=>?_) (fun h=>?_)
 ·simp only[go_sem];simp only[ne_eq,decide_not,Bool.not_eq_true',dN]at h;have:xs≠ys:=fun e=>h (by rw[e]);simp[this]
 ·simp only[ne_eq,decide_not,Bool.not_eq_false',b2]at h;simp only[go_sem];refine b7.intro (fun i:Nat=>⟨(.d (.sl 39 (xs.map ae.enc))::.d (.sl 39 (ys.map ae.enc))::.ak::.ak::.d (.bool false)::.i i::jn 21 []),[]⟩)
   (fun i=>xs.length-i) (fun i=>i≤xs.length∧xs.take i=ys.take i) 0 [] ⟨by omega,by simp⟩ ?_ ?_
  ·simp only[go_sem];simp
  ·rintro i ⟨hi,he⟩;simp only[go_sem,I];refine bt (fun h1=>?_) (fun h1=>?_)
   ·simp only[b2]at h1;have fp:i<xs.length:=by omega
    have gJ:i<ys.length:=by omega
    have aq:=b5 ae.enc xs i fp;have dz:=b5 ae.enc ys i gJ;have hw:=dK (i:=i) (m:=xs.length) fp hm;by_cases hq:xs[i]=ys[i]
    ·have hz:decide (xs[i]=ys[i])=true:=bp hq
     try simp only[go_sem]
     repeat'(first|((first|refine au.intro (by apply Ly) ?_|refine ba LA (by kernel_rfl) (by rfl) ?_)<;>simp only[go_sem,I,aC,aq,dz,ae.enc,hz,hw,bS])|(with_reducible refine aw ?_)|fail)
     all_goals(refine bA.intro (i+1) [] ⟨by omega,u' he fp gJ hq⟩ (by omega) ?_;simp only[go_sem])
    ·have hz:decide (xs[i]=ys[i])=false:=bo hq;have hne:xs≠ys:=fun e=>by subst e;exact hq rfl
     try simp only[go_sem]
     repeat'(first|((first|refine au.intro (by apply Ly) ?_|refine ba LA (by kernel_rfl) (by rfl) ?_)<;>simp only[go_sem,I,aC,aq,dz,ae.enc,hz,cc])|(with_reducible refine aw ?_)|fail)
     all_goals simp[hne]
   ·simp only[go_sem];simp only[dN]at h1;have:xs=ys:=by rw[dH (by omega),dH (by omega)]at he;exact he
    simp[this]
theorem RC(xs ys:List ae):aJ 84 [.one (.sl 39 (xs.map ae.enc)),.one (.sl 39 (ys.map ae.enc))] [.one (.bool (decide (xs=ys)))]:=by
 refine aN 8 Tryz.func84 Tryz.call84 [.tmp 4] ?_;intro ok;have hm:=fr ok;simp only[go_sem];refine ab.inl (fc (n:=32) (rs:=[.tmp 6]) Tryz.func121 rfl Tryz.call121 b1 rfl rfl ?_);simp only[go_sem,I];refine bt (fun h=>?_) (fun h=>?_)
 ·simp only[go_sem];simp only[ne_eq,decide_not,Bool.not_eq_true',dN]at h;have:xs≠ys:=fun e=>h (by rw[e]);simp[this]
 ·simp only[ne_eq,decide_not,Bool.not_eq_false',b2]at h;simp only[go_sem,I];refine b7.intro (fun i:Nat=>⟨(.d (.sl 39 (xs.map ae.enc))::.d (.sl 39 (ys.map ae.enc))::.fn 122 []::jn 3 (.d (.bool false)::jn 8 (.d (.sl 39 (xs.map ae.enc))::.i xs.length::.i i::jn 14 []))),[]⟩)
   (fun i=>xs.length-i) (fun i=>i≤xs.length∧xs.take i=ys.take i) 0 [] ⟨by omega,by simp⟩ ?_ ?_
  ·simp only[go_sem];simp
  ·rintro i ⟨hi,he⟩;simp only[go_sem];refine bt (fun h1=>?_) (fun h1=>?_)
   ·simp only[b2]at h1;have fp:i<xs.length:=by omega
    have gJ:i<ys.length:=by omega
    have aq:=b5 ae.enc xs i fp;have dz:=b5 ae.enc ys i gJ;have hw:=dK (i:=i) (m:=xs.length) fp hm;by_cases hq:xs[i]=ys[i]
    ·have hz:decide (xs[i]=ys[i])=true:=bp hq;simp only[go_sem,I,aC,aq,dz,ae.enc];refine⟨⟨by omega,by omega⟩,?_⟩
     try simp only[go_sem,I,aC,aq,dz,ae.enc,hz,hw,bS]
     refine⟨⟨by omega,by omega⟩,?_⟩
     try simp only[go_sem,I,aC,aq,dz,ae.enc,hz,hw,bS]
     refine ab.intro (RB xs[i] ys[i]) ?_;simp only[go_sem,hz,hw,bS]
     all_goals(refine bA.intro (i+1) [] ⟨by omega,u' he fp gJ hq⟩ (by omega) ?_;simp only[go_sem])
    ·have hz:decide (xs[i]=ys[i])=false:=bo hq;have hne:xs≠ys:=fun e=>by subst e;exact hq rfl
     simp only[go_sem,I,aC,aq,dz,ae.enc];refine⟨⟨by omega,by omega⟩,?_⟩
     try simp only[go_sem,I,aC,aq,dz,ae.enc,hz,cc]
     refine⟨⟨by omega,by omega⟩,?_⟩
     try simp only[go_sem,I,aC,aq,dz,ae.enc,hz,cc]
     refine ab.intro (RB xs[i] ys[i]) ?_;simp only[go_sem,hz,cc]
     all_goals simp[hne]
   ·simp only[go_sem];simp only[dN]at h1;have:xs=ys:=by rw[dH (by omega),dH (by omega)]at he;exact he
    simp[this]
set_option maxRecDepth 100000
def HD:List (List bH):=cP 26 [2541865798922,2541865798924,2541865798917,2541865798899,2541865798845,2541865827478,2541865827964,2541865826263,2541865821889,2541865808767,2541865769280,2541865651182,2400842644569,2400843707451,2400839987364,2400830421426,2400801723612,2400715630170,2540509590897,2541284431875,2538572488452,2531598919650,2510678213244,2447916094026,2259436291848,1694577218886]
def LB:List (List bH):=cP 17 [107619836,107619838,107619831,107619813,107619759,107619961,107619354,107617896,127522876,127535998,127490071,127371973,127017679,128343001,124360474,114794536,86093442]
attribute [go_sem] HD LB
theorem ZW{sz:Nat}{xs:List (List D)}{ds:List D}{rs:List AD}(h:um (.agg ds::rs))(hm:.sl sz xs∈ds):xs.length≤maxLen:=(LC h.1 _ hm).1
theorem ZX(xs ys:List aD):aJ 42 [.one (.sl 2 (xs.map aD.enc)),.one (.sl 2 (ys.map aD.enc))] [.one (.bool (decide (xs=ys)))]:=by
 refine aN 71 Tryz.func42 Tryz.call42 [.tmp 4] ?_;intro ok;have hm:=fr ok;have zt:∀(i:Nat) (h:i<xs.length),xs[i].frames.length≤maxLen:=by
  intro i h;have h1:dOk (.sl 2 (xs.map aD.enc)):=ok.1;have h2:=Kp h1.2 _ (List.mem_map.2 ⟨xs[i],eR h,rfl⟩);have aj:=LC h2 (.sl 9 (xs[i].frames.map ao.enc)) (by simp[aD.enc]);have:=aj.1;rwa [I]at this
 clear ok;simp only[go_sem,I];refine bt (fun h=>?_) (fun h=>?_)
 ·simp only[go_sem];simp only[ne_eq,decide_not,Bool.not_eq_true',dN]at h;have:xs≠ys:=fun e=>h (by rw[e]);simp[this]
 ·simp only[ne_eq,decide_not,Bool.not_eq_false',b2]at h;simp only[go_sem];refine b7.intro (fun i:Nat=>⟨(.d (.sl 2 (xs.map aD.enc))::.d (.sl 2 (ys.map aD.enc))::.ak::.ak::.d (.bool false)::.i i::jn 65 []),[]⟩)
   (fun i=>xs.length-i) (fun i=>i≤xs.length∧xs.take i=ys.take i) 0 [] ⟨by omega,by simp⟩ ?_ ?_
  ·simp only[go_sem];simp
  ·rintro i ⟨hi,he⟩;simp only[go_sem,I];refine bt (fun h1=>?_) (fun h1=>?_)
   ·simp only[b2]at h1;have fp:i<xs.length:=by omega
    have gJ:i<ys.length:=by omega
    have aq:=b5 aD.enc xs i fp;have dz:=b5 aD.enc ys i gJ;have hw:=dK (i:=i) (m:=xs.length) fp hm;have ZY:=zt i fp;by_cases hn:xs[i].number=ys[i].number∧xs[i].frames.length=ys[i].frames.length
    ·have hQ:decide (xs[i].number≠ys[i].number)=false:=bo (fun e=>e hn.1);have iQ:decide ((xs[i].frames.length:Int)≠(ys[i].frames.length:Int))=false:=bo (fun e=>e (by rw[hn.2]))
     try simp only[go_sem]
     repeat'(first|((first|with_reducible refine kf ?_|refine ba HD (by kernel_rfl) (by rfl) ?_)<;>simp only[go_sem,I,aC,aq,dz,aD.enc,hQ,iQ])|(with_reducible refine aw ?_)|fail)
     refine b7.intro (fun k:Nat=>⟨(.d (.sl 2 (xs.map aD.enc))::.d (.sl 2 (ys.map aD.enc))::.ak::.ak::.d (.bool false)::.i i::.i k::jn 64 []),[]⟩)
      (fun k=>xs[i].frames.length-k) (fun k=>k≤xs[i].frames.length∧xs[i].frames.take k=ys[i].frames.take k) 0 [] ⟨by omega,by simp⟩ ?_ ?_
     ·simp only[go_sem];simp
     ·rintro k ⟨hk,LD⟩;simp only[go_sem,I,aC,aq,aD.enc];refine⟨⟨by omega,by omega⟩,?_⟩;refine bt (fun h2=>?_) (fun h2=>?_)
      ·simp only[b2]at h2;have LF:k<xs[i].frames.length:=by omega
       have HE:k<ys[i].frames.length:=by omega
       have HF:=b5 ao.enc xs[i].frames k LF;have HG:=b5 ao.enc ys[i].frames k HE;have xE:=dK (i:=k) (m:=xs[i].frames.length) LF ZY;by_cases hq:xs[i].frames[k]=ys[i].frames[k]
       ·have hz:=HA xs[i].frames[k] ys[i].frames[k];rw[bp hq]at hz
        try simp only[go_sem]
        repeat'(first|(refine ba LB (by kernel_rfl) (by rfl) ?_<;>simp only[go_sem,I,aC,aq,dz,aD.enc,HF,HG,ao.enc,hz,bS])|(with_reducible refine aw ?_)|fail)
        all_goals(refine bA.intro (k+1) [] ⟨by omega,u' LD LF HE hq⟩ (by omega) ?_;simp only[go_sem,xE])
       ·have hz:=HA xs[i].frames[k] ys[i].frames[k];rw[bo hq]at hz;have hne:xs≠ys:=fun e=>by subst e;exact hq rfl
        try simp only[go_sem]
        repeat'(first|(refine ba LB (by kernel_rfl) (by rfl) ?_<;>simp only[go_sem,I,aC,aq,dz,aD.enc,HF,HG,ao.enc,hz,cc])|(with_reducible refine aw ?_)|fail)
        all_goals simp[hne]
      ·simp only[go_sem];simp only[dN]at h2;have zu:xs[i].frames=ys[i].frames:=by rw[dH (by omega),dH (by omega)]at LD;exact LD
       have ZZ:xs[i]=ys[i]:=by
        cases hA:xs[i];cases hB:ys[i];rw[hA,hB]at zu hn;simp_all
       refine bA.intro (i+1) [] ⟨by omega,u' he fp gJ ZZ⟩ (by omega) ?_;simp only[go_sem,hw]
    ·have hne:xs≠ys:=fun e=>by subst e;exact hn ⟨rfl,rfl⟩
     by_cases kg:xs[i].number=ys[i].number
     ·have hQ:decide (xs[i].number≠ys[i].number)=false:=bo (fun e=>e kg);have iQ:decide ((xs[i].frames.length:Int)≠(ys[i].frames.length:Int))=true:=bp (fun e=>hn ⟨kg,by omega⟩)
      try simp only[go_sem]
      repeat'(first|((first|with_reducible refine kf ?_|refine ba HD (by kernel_rfl) (by rfl) ?_)<;>simp only[go_sem,I,aC,aq,dz,aD.enc,hQ,iQ])|(with_reducible refine aw ?_)|fail)
      all_goals simp[hne]
     ·have hQ:decide (xs[i].number≠ys[i].number)=true:=bp kg
      try simp only[go_sem]
      repeat'(first|((first|with_reducible refine j1 ?_|refine ba HD (by kernel_rfl) (by rfl) ?_)<;>simp only[go_sem,I,aC,aq,dz,aD.enc,hQ])|(with_reducible refine aw ?_)|fail)
      all_goals simp[hne]
   ·simp only[go_sem];simp only[dN]at h1;have:xs=ys:=by rw[dH (by omega),dH (by omega)]at he;exact he
    simp[this]
theorem RD(a b:bW):a=b↔a.ring=b.ring∧a.bX=b.bX∧a.iK=b.iK∧a.cY=b.cY∧a.kl=b.kl∧a.jE=b.jE∧a.ey=b.ey∧a.g7=b.g7:=by cases a;cases b;simp
theorem RE(a b:gZ):a=b↔a.aR=b.aR∧a.opened=b.opened∧a.blocked=b.blocked:=by cases a;cases b;simp
theorem RF(a b:dB):a=b↔a.most=b.most∧a.aR=b.aR∧a.seen=b.seen∧a.closed=b.closed:=by cases a;cases b;simp
theorem Eu(x y:J):aJ 8 [.agg (J.enc x),.agg (J.enc y)] [.one (.bool (decide (x=y)))]:=by
 refine aN 129 Tryz.func8 Tryz.call8 [.tmp 4] ?_;intro ok;clear ok
 try simp only[go_sem]
 repeat'((first|refine au.intro (by first|apply ZV|apply ZX) ?_|refine a7 ?_)<;>simp only[go_sem])
 all_goals(refine eo ?_;cases x;cases y;simp[HB,HC,RD,RE,RF];try(constructor<;>intro h<;>simp_all))
theorem Z0(x y:J):aJ 27 [.agg (J.enc x),.agg (J.enc y)] [.one (.bool (decide (x=y)))]:=by
 refine aN 129 Tryz.func27 Tryz.call27 [.tmp 4] ?_;intro ok;have hm:x.packets.length≤maxLen:=by have:=ZW ok (sz:=2) (xs:=x.packets.map aD.enc) (by simp);rwa [I]at this
 clear ok;by_cases hs:x.streams=y.streams
 ·have hs':decide (x.streams=y.streams)=true:=bp hs;simp only[go_sem];refine ab.intro (RC x.streams y.streams) ?_;simp only[go_sem,hs',bS]
  repeat(with_reducible refine du ?_;simp only[go_sem])
  refine ab.inl (fc (n:=32) (rs:=[.tmp 6]) Tryz.func85 rfl Tryz.call85 b1 rfl rfl ?_);simp only[go_sem,I];refine bt (fun h=>?_) (fun h=>?_)
  ·simp only[ne_eq,decide_not,Bool.not_eq_true',dN]at h;have:x≠y:=fun e=>h (by rw[e])
   try simp only[go_sem]
   repeat'((first|with_reducible refine du ?_|refine a7 ?_)<;>simp only[go_sem])
   all_goals simp[this]
  ·simp only[ne_eq,decide_not,Bool.not_eq_false',b2]at h;simp only[go_sem,I];refine b7.intro (fun i:Nat=>⟨(.d (.sl 2 (x.packets.map aD.enc))::.d (.sl 2 (y.packets.map aD.enc))::.fn 86 []::jn 3 (.d (.bool false)::jn 8 (.d (.sl 2 (x.packets.map aD.enc))::.i x.packets.length::.i i::jn 14 []))),[.box (J.bE x),.box (J.bE y)]⟩)
    (fun i=>x.packets.length-i) (fun i=>i≤x.packets.length∧x.packets.take i=y.packets.take i) 0 [0,1] ⟨by omega,by simp⟩ ?_ ?_
   ·simp only[go_sem];simp
   ·rintro i ⟨hi,he⟩;simp only[go_sem];refine bt (fun h1=>?_) (fun h1=>?_)
    ·simp only[b2]at h1;have fp:i<x.packets.length:=by omega
     have gJ:i<y.packets.length:=by omega
     have aq:=b5 aD.enc x.packets i fp;have dz:=b5 aD.enc y.packets i gJ;have hw:=dK (i:=i) (m:=x.packets.length) fp hm;by_cases hq:x.packets[i]=y.packets[i]
     ·have hz:decide (x.packets[i]=y.packets[i])=true:=bp hq;simp only[go_sem,I,aC,aq,dz,aD.enc];refine⟨⟨by omega,by omega⟩,?_⟩
      try simp only[go_sem,I,hs',bS,aC,aq,dz,aD.enc,hz]
      refine⟨⟨by omega,by omega⟩,?_⟩
      try simp only[go_sem,I,hs',bS,aC,aq,dz,aD.enc,hz]
      refine ab.intro (Ry x.packets[i] y.packets[i]) ?_;simp only[go_sem,bS,hz];refine bA.intro (i+1) [0,1] ⟨by omega,u' he fp gJ hq⟩ (by omega) ?_;simp only[go_sem,hw];try simp
     ·have hz:decide (x.packets[i]=y.packets[i])=false:=bo hq;have hne:x≠y:=fun e=>by subst e;exact hq rfl
      simp only[go_sem,I,aC,aq,dz,aD.enc];refine⟨⟨by omega,by omega⟩,?_⟩
      try simp only[go_sem,I,hs',cc,aC,aq,dz,aD.enc,hz]
      refine⟨⟨by omega,by omega⟩,?_⟩
      try simp only[go_sem,I,hs',cc,aC,aq,dz,aD.enc,hz]
      refine ab.intro (Ry x.packets[i] y.packets[i]) ?_;simp only[go_sem,cc,hz]
      try simp only[go_sem,I,bS,cc]
      repeat'((first|with_reducible refine du ?_|refine a7 ?_)<;>simp only[go_sem,cc])
      all_goals simp[hne]
    ·simp only[dN]at h1;have hp:x.packets=y.packets:=by rw[dH (by omega),dH (by omega)]at he;exact he
     try simp only[go_sem]
     repeat'((first|with_reducible refine du ?_|refine a7 ?_)<;>simp only[go_sem,bS])
     all_goals(refine eo ?_;clear hm h hi he h1 hs';cases x;cases y;simp only at hp hs;subst hp hs;simp[HB,HC,RD,RE,RF];try(constructor<;>intro h<;>simp_all))
 ·have hs':decide (x.streams=y.streams)=false:=bo hs;have hne:x≠y:=fun e=>hs (by rw[e]);simp only[go_sem];refine ab.intro (RC x.streams y.streams) ?_
  try simp only[go_sem,hs',cc]
  repeat'(first|(with_reducible refine e5 ?_<;>simp only[go_sem]))
  all_goals simp[hne]
end Gv

namespace Gv
open Go Go.Proofs
theorem aeG{c:J}{id:Int}(h:fu c id≠0):bI c id=c:=by
 unfold bI;split
 ·rename_i hg;exfalso;apply h;simp only[bP,Bool.not_eq_true',b2,and_assoc]at hg;obtain⟨h1,h2,aj,aE,b3⟩:=hg;unfold fu;rw[h1,h2,aE,b3,if_neg (by simp),if_neg (by omega),if_neg (by simp),if_pos rfl]
 ·rfl
theorem aeF{m:Nat}{c:J}{id:Int}(hv:cl m c)(av:lX c)(he:fu c id=0):en (bI c id)=true∧0≤fIx (eP id) (bI c id).streams∧(im c.bV id=false→∀k:Nat,4 * (k:Int)≤id→0≤fIx (eP (id-4 * (k:Int))) (bI c id).streams):=by
 have Vx:∀{l:List ae} {j:Int},(strOf l j).2=true→0≤fIx (eP j) l:=fun {l j} h=>by
  rcases uk (eP j) l with ⟨h1,h2⟩|⟨i,hi,h1,_⟩
  ·unfold strOf at h;rw[h2]at h;cases h
  ·omega
 exact⟨afm av (N6 he).1 id,Vx (xh hv he),fun hn k hk=>Vx (afo hv av he hn k hk)⟩
set_option maxRecDepth 100000
def N3:List (List bH):=cP 26 [2541865828325,2541865828327,2541865828320,2541865828302,2541865828005,2541865828167,2541865827600,2541865826142,2541865821768,2541865808646,2541865237839,2541865119741,2541865533084,2541864234006,2541861045360,2541851479422,2541822781608,2541736688166,2541478407840,2540703566862,2527918690725,2534892259527,2510484768720,2447722649502,2259436291848,1694577218886]
def N4:List (List bH):=cP 56 [523347633027360537213511517,523347633027360537213511519,523347633027360537213511512,523347633027360537213511494,523347633027360537213511197,523347633027360537213511359,523347633027360537213510792,523347633027360537213509334,523347633027360537213504960,523347633027360537213491838,523347633027360537213452472,523347633027360537213334374,523347633027360537212980080,523347633027360537211917198,523347633027360537208728552,523347633027360537199162614,523347633027360537170464800,523347633027360537084371358,523347633027360536826091032,523347633027360536051250054,523347633027360533726727120,523347633027360495372098709,523347633027360516292805115,523347633027360443070332694,523347633027360254783975040,523347633027359689924902078,523347633027350369750198205,523347633027355453481854863,523347633027337660421056560,523347633027291906836146638,523347633027154646081416872,523347632958181116829709457,523347632959416463622277351,523347632955092749848289722,523347632968681564566536556,523347633002035927965869694,523347632877265901916512400,523347632577076631322514158,523347631676508819540519432,523347628974805384194535254,523347511450705946644223511,523347487135375028530365909,523347572239033241928867516,523347304770393142676433894,523346648256458353602278640,523344678714653986379812878,523338770089240884712415592,520369685819157296845279377,520422863447875211851854951,520236741747362509328840442,520821695663259574401171756,522257491638643279578712254,516886551138133863914579280,503964387359680517316714798,465197896024320477523121352,348898422018240358142341014]
attribute [go_sem] N3 N4
theorem aeA(bs:List Int):aJ 4 [.one (.sl 1 (bs.map eU8))] [.one (.bool (decide (1048576<(bs.length:Int))))]:=by
 refine aN 6 Tryz.func4 Tryz.call4 [.tmp 2] ?_;intro ok
 try simp only[go_sem,I]
theorem aeB(v:Bool)(o p:bW):(kY v o p).streams=[]∧(kY v o p).packets=[]:=by unfold kY;split<;>exact⟨rfl,rfl⟩
theorem laws_FnEnsures(bs:List Int):aJ 3 [.one (.sl 1 (bs.map eU8))] [.one (.bool true)]:=by
 refine ub 203 Tryz.func3 Tryz.call3 [.tmp 2] ?_;intro ok;refine fi b1 7 (α:=Unit) (fun _=>⟨(.d (.sl 1 (bs.map eU8))::jn 202 []),[]⟩) (fun _=>True) ?_ ?_
 ·simp only[go_sem];refine ab.intro (aeA bs) ?_;simp only[go_sem];refine bt (fun h=>?_) (fun h=>?_)
  ·simp only[go_sem]
  simp only[go_sem];refine ab.lL (Yo bs) rfl ?_;rintro _ ⟨c,id,b4,rfl⟩;have hv:=b4.zb;have cT:=b4.aeC;have hz:gG c:=hv.sz (by omega);have bT:∀s∈c.streams,AM s.send:=fun s hs=>(hv.n1 s hs).snd.UD;have U7:gG (bI c id):=(w6 hv id).sz (by omega);have U8:∀s∈(bI c id).streams,AM s.send:=fun s hs=>((w6 hv id).n1 s hs).snd.UD;have N5:=ZE c id hz bT;have Ru:=DW c id hz;have aeD:=Eu (bI c id) (bI c id);rw[bp rfl]at aeD;have aeE:=Eu (bI c id) c;have vf:=Ep c hz;rw[←G2 bT]at vf;have aoF:=vg c hz;have h4:=fun he=>aeF hv cT (id:=id) he;have ec:fu c id=0→bN id=true:=fun he=>(N6 he).2;have N7:fu c id≠0→bI c id=c:=aeG;have N8:=Ep (bI c id) U7;rw[←G2 U8]at N8;have aeH:=B8 c.bV id;generalize bI c id=y at *;generalize fu c id=e at *;clear bT U8 hv cT b4;simp only[go_sem,fT,I]
  cases he:decide (e=0)with
  |false=>
   have he:=c9 he;obtain rfl:=N7 he;clear h4 ec N7 U7 N8 aeE aeH;have aoG:decide (e≠0)=true:=bp he;have U9:decide (e=0)=false:=bo he
   try simp only[go_sem,I]
   repeat'((first|refine ab.intro (by assumption) ?_|refine au.intro (by assumption) ?_)<;>simp only[go_sem,I])
   try simp only[go_sem,I,ne_eq,not_true_eq_false,decide_false,bne_self_eq_false,bS]
   repeat'((first|refine ab.intro (by assumption) ?_|refine au.intro (by assumption) ?_|with_reducible refine kf ?_|refine e8 ?_|refine ba N3 (by kernel_rfl) (by rfl) ?_)<;>simp only[go_sem,I,ne_eq,not_true_eq_false,decide_false,bne_self_eq_false,bS])
   simp only[decide_not,U9,cc,cond_true,go_sem];refine dS.intro () [] trivial ?_;simp only[go_sem]
   try simp
  |true=>
   obtain rfl:=cO he;obtain⟨gl,gW,oN⟩:=h4 rfl;have hq:=u0.1 (ec rfl);clear h4 ec N7;rw[gl]at N8;have U9:decide ((0:Int)=0)=true:=rfl
   try simp only[go_sem,I]
   repeat'((first|refine ab.intro (by assumption) ?_|refine au.intro (by assumption) ?_)<;>simp only[go_sem,I])
   try simp only[go_sem,I,ne_eq,not_true_eq_false,decide_false,bne_self_eq_false,bS]
   repeat'((first|refine ab.intro (by assumption) ?_|refine au.intro (by assumption) ?_|with_reducible refine kf ?_|with_reducible refine j1 ?_|refine ba N3 (by kernel_rfl) (by rfl) ?_)<;>simp only[go_sem,I,ne_eq,not_true_eq_false,decide_false,bne_self_eq_false,bS])
   refine b7.intro (fun k:Nat=>⟨(.d (.sl 1 (bs.map eU8))::.ak::.ak::.ptr 2 0 0::.i id::.ak::.ak::.ptr 5 0 0::.ak::.i (id-4 * (k:Int))::jn 193 []),[.ar 39 (c.streams.map ae.enc) true,.ar 2 (c.packets.map aD.enc) true,.box (J.vc c (.sl 0 0 c.streams.length) (.sl 1 0 c.packets.length)),.ar 39 (y.streams.map ae.enc) true,.ar 2 (y.packets.map aD.enc) true,.box (J.vc y (.sl 3 0 y.streams.length) (.sl 4 0 y.packets.length))]⟩)
    (fun k=>(id+8-4 * (k:Int)).toNat) (fun k=>4 * (k:Int)≤id+4) 0 [0,1,2,6,7,8] (by omega) ?_ ?_
   ·simp only[go_sem];simp
   ·intro k hk;simp only[go_sem];refine bt (fun h1=>?_) (fun h1=>?_)
    ·have h1:=cO h1;have IP:=Er y.streams (id-4 * (k:Int));have hw:IntKind.i64.wrap (id-4 * (k:Int)-4)=id-4 * ((k+1:Nat):Int):=by rw[bz]<;>omega
     have hc:(bif decide (fIx (eP (id-4 * (k:Int))) y.streams<0)then !im c.bV id else false)=false:=by
      cases av:im c.bV id with
      |true=>cases decide (fIx (eP (id-4 * (k:Int))) y.streams<0)<;>rfl
      |false=>rw[bo (by have:=oN av k (by omega);omega)];rfl
     simp only[go_sem,I];refine ab.intro IP ?_
     try simp only[go_sem]
     repeat'((first|refine ab.intro (by assumption) ?_|refine au.intro (by assumption) ?_|refine a7 ?_)<;>simp only[go_sem])
     rw[hc];simp only[go_sem,hw];refine bA.intro (k+1) [0,1,2,3,4,5] (by omega) (by omega) ?_;simp only[go_sem]
     try simp
    ·have IP:=Er y.streams id;have hc:decide (fIx (eP id) y.streams<0)=false:=bo (by omega);simp only[go_sem,I];refine ab.intro IP ?_
     try simp only[go_sem,hc]
     repeat'((first|refine ab.intro (by assumption) ?_|refine au.intro (by assumption) ?_|with_reducible refine du ?_)<;>simp only[go_sem,I])
     refine dS.intro () [] trivial ?_;simp only[go_sem]
     try simp
 rintro _ _;clear ok;refine ng b1 ?_;simp only[go_sem];refine ab.lL (Yr bs) rfl ?_;rintro _ ⟨s,o,p,rfl⟩;have U_:aJ 14 [.one (.bool s),.agg (bW.enc o),.agg (bW.enc p)] [.agg (J.enc ((kY s o p))),.one (.bool (eV o&&eV p))]:=XW _ _ _ _ _ _ _ _ _ _ _ _ _ _ _ _ _;have aoH:aJ 15 [.one (.bool s),.agg (bW.enc o),.agg (bW.enc p)] [.agg (J.enc ((kY s o p))),.one (.bool (eV o&&eV p))]:=Qd _ _ _ _ _ _ _ _ _ _ _ _ _ _ _ _ _;have pO:(eV o&&eV p)=true→Bq (kY s o p):=fun h=>by rw[bP]at h;exact aeI h.1 h.2
 have aT:=aeB s o p;generalize kY s o p=m at *;generalize (eV o&&eV p)=is at *;have hz:gG m:=by obtain⟨h1,h2⟩:=aT;exact⟨by rw[h1];simp,by rw[h1];simp,by rw[h2];simp,by rw[h2];simp⟩
 have aeJ:=Eu m m;rw[bp rfl]at aeJ
 try simp only[go_sem]
 repeat'((first|refine ab.intro (by assumption) ?_|refine au.intro (by assumption) ?_)<;>simp only[go_sem,I])
 refine ab.lL (Yp bs) rfl ?_;rintro _ ⟨u,k,gU,rfl⟩;have N9:gG u:=gU.zb.sz (by omega);have dA:=aeK u k N9;have fN:=mU u k N9;generalize (strOf u.streams k).1=t at *;generalize (strOf u.streams k).2=Fc at *;have Nm:=Ly t t;rw[bp rfl]at Nm;clear N9 gU;simp only[go_sem,fT,I]
 try simp only[go_sem,I]
 repeat'((first|refine ab.intro (by assumption) ?_|refine au.intro (by assumption) ?_)<;>simp only[go_sem,I])
 refine ab.lL (Yq bs) rfl ?_;rintro _ ⟨v,n,hV,rfl⟩;have N_:gG v:=hV.zb.sz (by omega);have f3:=XZ v n N_;have f4:=X0 v n N_;have f5:=U' v;have f6:=Qn v;have aeL:=Eu (AH v n) (AH v n);rw[bp rfl]at aeL;generalize AH v n=hE at *;generalize decide (v.closed≠0)=vc at *;clear N_ hV;simp only[go_sem,fT,I];refine ab.lL (Yt bs) rfl ?_;rintro _ ⟨q,r,_,_,rfl⟩;have f7:=Z0 q r;have f8:=Eu q r;generalize decide (q=r)=aoI at *;simp only[go_sem,fT,I]
 cases is with
 |false=>
  clear pO
  try simp only[go_sem,I,beq_self_eq_true,cc,decide_true]
  repeat'((first|refine ab.intro (by assumption) ?_|refine au.intro (by assumption) ?_|with_reducible refine kf ?_|with_reducible refine j1 ?_|refine ba N4 (by kernel_rfl) (by rfl) ?_)<;>simp only[go_sem,I,beq_self_eq_true,cc])
  all_goals(try simp)
 |true=>
  have bT:=pO rfl;have N5:=Ep m hz;rw[show AL m=true by have:=IN bT;rw[bP]at this;exact this.1]at N5;have aoJ:=adp m hz bT;clear pO bT
  try simp only[go_sem,I,beq_self_eq_true,bS,decide_true]
  repeat'((first|refine ab.intro (by assumption) ?_|refine au.intro (by assumption) ?_|with_reducible refine kf ?_|refine ba N4 (by kernel_rfl) (by rfl) ?_)<;>simp only[go_sem,I,beq_self_eq_true,bS])
  all_goals(try simp)
end Gv
