/-
  Part of the proof: the machine, what functions compute, and the plain laws.
-/
import Derived.Test.YtcnmbnmmhocolaaGreatDoorM03
namespace Gv
open Go Go.Proofs
def kD(q:aC×Value):List D:=[.int .i64 q.1.number,.yM q.2]
theorem Y7(b7:List (aC×Value)):fP (b7.map kD)=true:=by
 simp only[fP,List.all_map,List.all_eq_true];intro q _;simp[kD,D.flat]
theorem QO{h:Array Obj}{b:Nat}:∀(ps:List aC) (f:Nat) (G:List Nat),repE h true b f 2 (ps.map aC.enc) G→
  ∃(b7:List (aC×Value)) (jO:List (List Nat)),b7.map (·.1)=ps∧repE h true b f 2 (b7.map kD) []∧jO.length=b7.length∧G=jO.flatten∧∀(j:Nat) (q:aC×Value) (F:List Nat),b7[j]?=some q→jO[j]?=some F→rep h true (.sl 9 (q.1.frames.map aq.enc)) q.2 F
 |[],f,G,r=>by simp only[List.map_nil,repE]at r;exact⟨[],[],rfl,by simp[repE],rfl,by simp[r],by simp⟩
 |p::ps,f,G,r=>by
  simp only[List.map_cons,repE]at r;obtain⟨bE,bh,rfl,_,aK,a7⟩:=r;simp only[aC.enc,repC]at aK;obtain⟨g',QP,Y8,rfl,c1,e1,hj,QQ,Y9,rfl,c2,gC,rfl⟩:=aK;obtain⟨b7,jO,ag,e2,aY,bk,cg⟩:=QO ps (f+2) bh a7;have hA:QP=[]:=by simp only[rep]at e1;exact e1.2.1
  subst hA;have G3:hj.oneCell'=true∧hj.cells=#[hj]:=by
   obtain⟨a,c,h1,_⟩:=(by simpa only[rep]using gC:∃a c,hj=.slice a (p.frames.map aq.enc).length c∧_);rw[h1];exact⟨rfl,rfl⟩
  refine⟨(p,hj)::b7,QQ::jO,by simp[ag],?_,by simp[aY],by simp[bk],?_⟩
  ·simp only[List.map_cons,repE];refine⟨[],[],rfl,rfl,?_,e2⟩;simp only[kD,repC,rep];exact⟨g',[],[],rfl,c1,by simpa only[rep]using e1,hj,[],[],rfl,c2,⟨rfl,rfl,G3.1,G3.2⟩,rfl⟩
  ·intro j q F hq aZ
   cases j with
   |zero=>simp at hq aZ;subst hq;subst aZ;exact gC
   |succ j=>exact cg j q F (by simpa using hq) (by simpa using aZ)
theorem Lp{h h':Array Obj}(hs:h.size≤h'.size){b:Nat}(g:aC→Bool):∀(b7:List (aC×Value)) (jO:List (List Nat)) (f:Nat),jO.length=b7.length→(∀x∈jO.flatten,h'[x]?=h[x]?)→
  (∀(j:Nat) (q:aC×Value) (F:List Nat),b7[j]?=some q→jO[j]?=some F→rep h true (.sl 9 (q.1.frames.map aq.enc)) q.2 F)→repE h' true b f 2 ((b7.filter fun q=>g q.1).map kD) []→
  ∃G,G.Sublist jO.flatten∧repE h' true b f 2 (((b7.map (·.1)).filter g).map aC.enc) G
 |[],jO,f,hl,_,_,_=>⟨[],List.nil_sublist _,by simp[repE]⟩
 |q::b7,[],f,hl,_,_,_=>by simp at hl
 |q::b7,F::jO,f,hl,df,aZ,r=>by
  have Y_:∀x∈F,h'[x]?=h[x]?:=fun x hx=>df x (by simp[hx]);have QR:∀x∈jO.flatten,h'[x]?=h[x]?:=fun x hx=>df x (by rw[List.flatten_cons];exact List.mem_append_right _ hx);have QS:∀(j:Nat) (Ag:aC×Value) (F':List Nat),b7[j]?=some Ag→jO[j]?=some F'→rep h true (.sl 9 (Ag.1.frames.map aq.enc)) Ag.2 F':=fun j Ag F' h1 h2=>aZ (j+1) Ag F' (by simpa using h1) (by simpa using h2);by_cases hg:g q.1=true
  ·rw[List.filter_cons_of_pos (by simpa using hg)]at r;simp only[List.map_cons,repE]at r;obtain⟨bE,bh,e,_,aK,a7⟩:=r;obtain⟨rfl,rfl⟩:=List.append_eq_nil_iff.1 e.symm;obtain⟨G,cU,c9⟩:=Lp hs g b7 jO (f+2) (by simpa using hl) QR QS a7;simp only[kD,repC,rep]at aK;obtain⟨g',QP,Y8,ag,c1,e1,hj,QQ,Y9,e2,c2,gC,aY⟩:=aK;refine⟨F++G,by rw[List.flatten_cons];exact List.Sublist.append (List.Sublist.refl _) cU,?_⟩;rw[List.map_cons,List.filter_cons_of_pos (by simpa using hg),List.map_cons];simp only[repE];refine⟨F,G,rfl,rfl,?_,c9⟩;simp only[aC.enc,repC,rep];have hq:=aZ 0 q F rfl rfl;refine⟨g',[],F,rfl,c1,⟨e1.1,rfl,e1.2.2⟩,hj,F,[],by simp,c2,?_,rfl⟩;rw[gC.1];have:=DQ hs _ _ F Y_ hq;simpa only[rep]using this
  ·rw[List.filter_cons_of_neg (by simpa using hg)]at r;obtain⟨G,cU,c9⟩:=Lp hs g b7 jO f (by simpa using hl) QR QS r;refine⟨G,by rw[List.flatten_cons];exact cU.trans (List.sublist_append_right _ _),?_⟩;rw[List.map_cons,List.filter_cons_of_neg (by simpa using hg)];exact c9
theorem Y'{P:Program}{f:FuncId}{kv:List V}{vs:List V}{V0:V}{ps:List aC}(g:aC→Bool)(id:Nat){hs hf:List H}{hr hr2:List (aC×Value)→List H}
  (dE:aG hs id=.af 2 (ps.map aC.enc)) (ag:∀b7,aG (hr b7) id=.ai 2 (b7.map kD) true∧(hr b7).length=hs.length∧∀i,i≠id→aG (hr b7) i=aG hs i)
  (e2:∀b7,b7.map (·.1)=ps→aG (hr2 b7) id=.ai 2 ((b7.filter fun q=>g q.1).map kD) true∧(hr2 b7).length=hf.length∧∀i,i≠id→aG (hr2 b7) i=aG hf i) (aY:aG hf id=.ai 2 ((ps.filter g).map aC.enc) true)
  {K:V→List H→Prop} (G3:∀b7,b7.map (·.1)=ps→dj P f kv (hr b7) vs (fun v hs'=>v=V0∧hs'=hr2 b7)) (hk:K V0 hf):dj P f kv hs vs K:=by
 intro B w0 kp QT w br Lq;obtain⟨aJ,φ,r,bz⟩:=Lq;rcases r.hp id with hd|⟨β,BQ,pg⟩
 ·rw[dE]at hd;cases hd
 rw[dE]at pg;simp only[dD]at pg;obtain⟨QU,pg⟩:=pg;have Lr:∀b∈β.cN,cJ φ hs id b:=fun b hb=>⟨β,BQ,.inr ⟨by rw[dE];rfl,hb⟩⟩;have Za:∀b,β.dJ=some b→cJ φ hs id b:=fun b hb=>⟨β,BQ,.inl ⟨by rw[dE];rfl,hb⟩⟩;have fW:=r.eK id β BQ (by rw[show(⟨vs,hs⟩:St).heap=hs from rfl,dE];rfl);obtain⟨b7,jO,hq,DR,Zb,QV,Zc,ahe⟩:∃(b7:List (aC×Value)) (jO:List (List Nat)),b7.map (·.1)=ps∧dD (cK φ id {β with cN:=[]}) (cb (cK φ id {β with cN:=[]}) (hr b7)) w.heap {β with cN:=[]} (.ai 2 (b7.map kD) true)∧jO.length=b7.length∧β.cN=jO.flatten∧
   (∀(j:Nat) (q:aC×Value) (F:List Nat),b7[j]?=some q→jO[j]?=some F→rep w.heap true (.sl 9 (q.1.frames.map aq.enc)) q.2 F)∧True:=by
  rcases pg with ⟨h1,h2,aj,aD⟩|⟨b,h1,h2,aj,aD⟩
  ·have hps:ps=[]:=List.map_eq_nil_iff.1 h2;exact⟨[],[],by simp[hps],by simp only[dD];exact⟨QU,.inl ⟨h1,rfl,aj,trivial⟩⟩,rfl,by simp[aD],by simp,trivial⟩
  ·obtain⟨b7,jO,bD,bR,a3,a4,a5⟩:=QO ps β.off β.cN aD;refine⟨b7,jO,bD,?_,a3,a4,a5,trivial⟩;simp only[dD];refine⟨QU,.inr ⟨b,[],h1,?_,aj,bR,fun _=>rfl,fun q=>by cases q⟩⟩;have:(b7.map kD).length=(ps.map aC.enc).length:=by rw[lM,lM,←bD,lM]
   rw[this];exact h2
 obtain⟨cH,bg,bT⟩:=ag b7
 let uZ:ca:=cK φ id {β with cN:=[]}
 have DS:uZ id=some {β with cN:=[]}:=by simp[uZ,cK]
 have BR:∀i,i≠id→uZ i=φ i:=fun i hi=>by simp[uZ,cK,hi]
 have G4:∀i b,cJ uZ (hr b7) i b→cJ φ hs i b∧b∉β.cN:=by
  rintro i b ⟨a1,e,ax⟩;by_cases hi:i=id
  ·subst hi;rw[DS]at e;cases e;rw[cH]at ax;rcases ax with ⟨_,hb⟩|⟨_,hb⟩
   ·exact⟨Za b hb,fun hn=>fW.2 b hb hn⟩
   ·cases hb
  ·rw[BR i hi]at e;rw[bT i hi]at ax;refine⟨⟨a1,e,ax⟩,fun hn=>hi (r.dy i id b ⟨a1,e,ax⟩ (Lr b hn))⟩
 have hle:mY φ uZ:=fun i a1 e=>by
  by_cases hi:i=id
  ·subst hi;rw[BQ]at e;cases e;exact⟨_,DS,rfl,rfl,rfl,rfl⟩
  ·exact⟨a1,by rw[BR i hi];exact e,rfl,rfl,rfl,rfl⟩
 have cn:∀b,b<w.heap.size→cb φ hs b→cb uZ (hr b7) b:=by
  intro b _ ht i a1 e he;by_cases hi:i=id
  ·subst hi;rw[DS]at e;cases e;rw[cH]at he;rcases he with ⟨_,he⟩|⟨he,_⟩
   ·exact ht i β BQ (.inl ⟨by rw[dE];rfl,he⟩)
   ·cases he
  ·rw[BR i hi]at e;rw[bT i hi]at he;exact ht i a1 e he
 have Ls:BS φ uZ (cb φ hs) (cb uZ (hr b7)) w.heap w.heap:=⟨hle,cn,fun _ _ _=>rfl,Nat.le_refl _⟩;have iI:R (fun b=>B b∧b∉β.cN) w aJ uZ ⟨vs,hr b7⟩ kp ⟨QT.toArray,[]⟩ w:=by
  refine⟨tR Ls _ _ r.gJ,fun p hp=>DT Ls _ _ (r.kp p hp),fun i=>?_,fun i j b hi ak=>r.dy i j b (G4 i b hi).1 (G4 j b ak).1,fun i a1 e hx=>?_,fun i b ax=>⟨r.eL i b (G4 i b ax).1,(G4 i b ax).2⟩,fun i a1 e=>?_,Bel.refl _ _,fun k hk=>⟨r.bs k hk,fun hn=>by have:=cJ.lt r (Lr k hn);omega⟩,r.mZ,⟨fun p hp h=>r.kE.1 p hp h.1,?_⟩⟩
  ·by_cases hi:i=id
   ·subst hi;exact .inr ⟨_,DS,by rw[show(⟨vs,hr b7⟩:St).heap=hr b7 from rfl,cH];exact DR⟩
   ·simp only[bT i hi,BR i hi];rcases r.hp i with hd|⟨a1,e,jP⟩
    ·exact .inl hd
    ·exact .inr ⟨a1,e,Lt Ls jP (fun _ _ _=>rfl) (fun _ _ _=>rfl)⟩
  ·by_cases hi:i=id
   ·subst hi;rw[DS]at e;cases e;exact⟨List.nodup_nil,fun _ _ h=>by cases h⟩
   ·rw[BR i hi]at e;simp only[bT i hi]at hx;exact r.eK i a1 e hx
  ·by_cases hi:i=id
   ·subst hi;exact r.fl _ β BQ
   ·rw[BR i hi]at e;exact r.fl i a1 e
  ·exact BT.mono r.kE.2 fun p hp=>r.fm.block p.1 (r.kE.1 p hp)
 obtain⟨c5,cS,fQ⟩:=e2 b7 hq;refine(G3 b7 hq (fun b=>B b∧b∉β.cN) w kp QT w br ⟨aJ,uZ,iI,fun i hi=>by have:=bz i hi;simp only at this⊢;rw[bg];exact this⟩).mono ?_;rintro v w' ⟨x,hs',⟨rfl,rfl⟩,Zd,xv,a7,Ze⟩;refine⟨x,hf,hk,?_⟩;have Ah:∀b∈β.cN,w'.heap[b]?=w.heap[b]?:=fun b hb=>a7.fm.block b fun h=>h.2 hb;rcases a7.hp id with hd|⟨jQ,G5,DU⟩
 ·rw[show(⟨[x],hr2 b7⟩:St).heap=hr2 b7 from rfl,c5]at hd;cases hd
 rw[show(⟨[x],hr2 b7⟩:St).heap=hr2 b7 from rfl,c5]at DU;simp only[dD]at DU;obtain⟨QW,DU⟩:=DU;obtain⟨yN,tS,Zf⟩:∃yN,yN.Sublist β.cN∧∀T,dD (cK xv id {jQ with cN:=yN}) T w'.heap {jQ with cN:=yN} (.ai 2 ((ps.filter g).map aC.enc) true):=by
  rcases DU with ⟨h1,h2,aj,aD⟩|⟨dt,bh,h1,h2,aj,aD,bX,eR⟩
  ·have hn:b7.filter (fun q=>g q.1)=[]:=List.map_eq_nil_iff.1 h2;have tO:ps.filter g=[]:=by rw[←hq,List.filter_map,show(g∘fun q:aC×Value=>q.1)=fun q=>g q.1 from rfl,hn];rfl
   exact⟨[],List.nil_sublist _,fun T=>by simp only[dD];exact⟨QW,.inl ⟨h1,by rw[tO];rfl,aj,trivial⟩⟩⟩
  ·have xw:=DV _ _ _ _ (Y7 _) aD;subst xw;obtain⟨G,cU,c9⟩:=Lp a7.fm.size g b7 jO jQ.off Zb (by rw[←QV];exact Ah) Zc aD;refine⟨G,by rw[QV];exact cU,fun T=>?_⟩;simp only[dD];refine⟨QW,.inr ⟨dt,G,h1,?_,aj,by rw[←hq];exact c9,fun _=>rfl,fun q=>by cases q⟩⟩;have:((ps.filter g).map aC.enc).length=((b7.filter fun q=>g q.1).map kD).length:=by
    rw[lM,lM,←hq,List.filter_map,lM];rfl
   rw[this];exact h2
 let vY:ca:=cK xv id {jQ with cN:=yN}
 have DW:vY id=some {jQ with cN:=yN}:=by simp[vY,cK]
 have BU:∀i,i≠id→vY i=xv i:=fun i hi=>by simp[vY,cK,hi]
 have QX:∀b,jQ.dJ=some b→cJ xv (hr2 b7) id b:=fun b hb=>⟨jQ,G5,.inl ⟨by rw[c5];rfl,hb⟩⟩;have Lu:∀i b,cJ vY hf i b→cJ xv (hr2 b7) i b∨(i=id∧b∈yN):=by
  rintro i b ⟨a1,e,ax⟩;by_cases hi:i=id
  ·subst hi;rw[DW]at e;cases e;rw[aY]at ax;rcases ax with ⟨_,hb⟩|⟨_,hb⟩
   ·exact .inl (QX b hb)
   ·exact .inr ⟨rfl,hb⟩
  ·rw[BU i hi]at e;rw[←fQ i hi]at ax;exact .inl ⟨a1,e,ax⟩
 have G6:∀b∈yN,B b∧b∈β.cN:=fun b hb=>⟨r.eL id b (Lr b (tS.subset hb)),tS.subset hb⟩;have Zg:mY xv vY:=fun i a1 e=>by
  by_cases hi:i=id
  ·subst hi;rw[G5]at e;cases e;exact⟨_,DW,rfl,rfl,rfl,rfl⟩
  ·exact⟨a1,by rw[BU i hi];exact e,rfl,rfl,rfl,rfl⟩
 have Lv:∀b,b<w'.heap.size→cb xv (hr2 b7) b→cb vY hf b:=by
  intro b _ ht i a1 e he;by_cases hi:i=id
  ·subst hi;rw[DW]at e;cases e;rw[aY]at he;rcases he with ⟨_,he⟩|⟨he,_⟩
   ·exact ht i jQ G5 (.inl ⟨by rw[show(⟨[x],hr2 b7⟩:St).heap=hr2 b7 from rfl]at *;rw[c5];rfl,he⟩)
   ·cases he
  ·rw[BU i hi]at e;rw[←fQ i hi]at he;exact ht i a1 e he
 have Lw:BS xv vY (cb xv (hr2 b7)) (cb vY hf) w'.heap w'.heap:=⟨Zg,Lv,fun _ _ _=>rfl,Nat.le_refl _⟩;refine⟨Zd,vY,⟨tR Lw _ _ a7.gJ,fun p hp=>DT Lw _ _ (a7.kp p hp),fun i=>?_,fun i j b hi ak=>?_,fun i a1 e hx=>?_,fun i b ax=>?_,fun i a1 e=>?_,?_,fun k hk=>(a7.bs k hk).1,a7.mZ,r.kE⟩,fun i hi=>by have:=Ze i hi;simp only at this⊢;rw[←cS];exact this⟩
 ·by_cases hi:i=id
  ·subst hi;exact .inr ⟨_,DW,by rw[show(⟨[x],hf⟩:St).heap=hf from rfl,aY];exact Zf _⟩
  ·simp only[BU i hi];rw[←fQ i hi];rcases a7.hp i with hd|⟨a1,e,jP⟩
   ·exact .inl hd
   ·exact .inr ⟨a1,e,Lt Lw jP (fun _ _ _=>rfl) (fun _ _ _=>rfl)⟩
 ·rcases Lu i b hi with h1|⟨h1,ar⟩<;>rcases Lu j b ak with h2|⟨h2,gW⟩
  ·exact a7.dy i j b h1 h2
  ·exact absurd (G6 b gW).2 (a7.eL i b h1).2
  ·exact absurd (G6 b ar).2 (a7.eL j b h2).2
  ·exact h1.trans h2.symm
 ·by_cases hi:i=id
  ·subst hi;rw[DW]at e;cases e;exact⟨tS.nodup fW.1,fun b hb hn=>(a7.eL _ b (QX b hb)).2 (G6 b hn).2⟩
  ·rw[BU i hi]at e;rw[show(⟨[x],hf⟩:St).heap=hf from rfl,←fQ i hi]at hx;exact a7.eK i a1 e hx
 ·rcases Lu i b ax with h1|⟨_,h1⟩
  ·exact(a7.eL i b h1).1
  ·exact(G6 b h1).1
 ·by_cases hi:i=id
  ·subst hi;exact a7.fl _ jQ G5
  ·rw[BU i hi]at e;exact a7.fl i a1 e
 ·exact r.fm.trans (a7.fm.mono fun _ h=>h.1)
set_option maxRecDepth 100000
def tT(x:I)(a b k:Nat):H:=.box (I.vc x (.sl a 0 x.streams.length) (.sl b 0 k))
set_option maxHeartbeats 8000000 in
theorem Zh(x:I)(n:Int)(b7:List (aC×Value))(hq:b7.length≤1000)(pre:List H)(kv:List V)(hr:roks pre.length pre)(br:a6 (pre.length+1) kv)(K:V→List H→Prop)
  (hk:K (.c6 []) (pre++[tT x (pre.length+1) (pre.length+2) (b7.filter fun q=>!kZ n q.1).length,dZ x,.ai 2 ((b7.filter fun q=>!kZ n q.1).map kD) true])) :
  dj Tryz.prog 245 kv (pre++[tT x (pre.length+1) (pre.length+2) b7.length,dZ x,.ai 2 (b7.map kD) true]) [.ptr pre.length 0 0,.d (.int .i64 n)] K:=by
 have Lx:∀l:List Nat,(List.range pre.length++pre.length::l).getD pre.length 0=pre.length:=fun l=>QC _ _ _;refine dj.oq ?_;refine(en (n:=40) (rs:=[]) Tryz.func245 rfl Tryz.call245 hZ rfl rfl ?_);simp only[go_sem,tT,dZ,dN];refine b5.intro (α:=Nat×List (aC×Value)) (fun y=>⟨[.ptr pre.length 0 0,.d (.int .i64 n),.J,.J,.sl (pre.length+3) 0 y.2.length,.d (.int .i64 y.1)]++List.replicate 34 .J,pre++[tT x (pre.length+1) (pre.length+2) b7.length,dZ x,.ai 2 (b7.map kD) true,.ai 2 (y.2.map kD) true]⟩)
  (fun y=>b7.length-y.1) (fun y=>y.1≤b7.length∧y.2=(b7.take y.1).filter fun q=>!kZ n q.1) (0,[]) (List.range pre.length++pre.length::[pre.length+1,pre.length+2,pre.length+3]) ⟨by simp,by simp⟩ ?_ ?_
 ·have aK:(List.range pre.length++[pre.length,pre.length+1,pre.length+2,pre.length+3]).getD (pre.length+1) 0=pre.length+1:=by rw[nE];rfl
  have a7:(List.range pre.length++[pre.length,pre.length+1,pre.length+2,pre.length+3]).getD (pre.length+2) 0=pre.length+2:=by rw[nE];rfl
  have b8:(List.range pre.length++[pre.length,pre.length+1,pre.length+2,pre.length+3]).getD (pre.length+3) 0=pre.length+3:=by rw[nE];rfl
  refine DX _ (by simp) (by simp) hr br ?_ ?_ (by simp) ?_ ?_
  ·simp only[hsees,dz,d_,yO,yP,hsee,tT,dZ,and_true];simp only[I.vc,vsees,vsee,ren,aK,a7,and_self,List.map_nil]
  ·simp only[tT,I.vc,dZ,allOk,hok,a6,vok,oW,List.length_nil];simp
  ·simp only[List.replicate,bf,bn,vsees,vsee,ren,b8,Lx,and_self,List.length_nil,true_and];simp
  ·simp[a6,vok,List.replicate]
 ·rintro⟨i,out⟩ ⟨hi,ax⟩;simp only at hi ax;have ahf:out.length≤b7.length:=by rw[ax];exact Nat.le_trans (List.length_filter_le _ _) (by simp;omega)
  simp only[List.replicate,bf,bn,tT,dZ];by_cases h1:i<b7.length
  ·have ar:decide ((i:Int)<(b7.length:Int))=true:=bc (by omega);have av:=bZ kD b7 i h1;have hw:IntKind.i64.wrap ((i:Int)+1)=((i+1:Nat):Int):=by rw[bC]<;>omega
   have hf:(b7.take (i+1)).filter (fun q=>!kZ n q.1)=out++(if !kZ n b7[i].1 then [b7[i]]else []):=by
    rw[List.take_add_one,dg h1,List.filter_append,←ax]
    cases h:kZ n b7[i].1<;>simp[h]
   generalize b7[i]=q at *;simp only[go_sem,lM,aF,dz,d_,Nat.add_zero,ar,av,kD];refine⟨⟨by omega,by omega⟩,h1,?_⟩
   cases hb:decide (q.fst.number≠n)with
   |true=>
    have hg:(if !kZ n q.1 then [q]else [])=[q]:=by
     have:kZ n q.1=false:=by unfold kZ;simpa using hb
     rw[this];rfl
    simp only[go_sem,lM,aF,dN,dz,d_,av,kD];have Zi:(pre.length=pre.length+1)=False:=by simp
    simp only[Zi,if_false,go_sem];refine⟨⟨by omega,by omega⟩,h1,⟨by omega,by simp⟩,?_⟩;have aK:(List.range pre.length++[pre.length,pre.length+1,pre.length+2,pre.length+5]).getD (pre.length+1) 0=pre.length+1:=by rw[nE];rfl
    have a7:(List.range pre.length++[pre.length,pre.length+1,pre.length+2,pre.length+5]).getD (pre.length+2) 0=pre.length+2:=by rw[nE];rfl
    have b8:(List.range pre.length++[pre.length,pre.length+1,pre.length+2,pre.length+5]).getD (pre.length+3) 0=pre.length+5:=by rw[nE];rfl
    try simp only[go_sem,dN]
    simp only[hw];refine bm.intro (i+1,out++[q]) (List.range pre.length++pre.length::[pre.length+1,pre.length+2,pre.length+5]) ⟨by simp only;omega,by simp only;rw[hf,hg];try simp⟩ (show b7.length-(i+1)<b7.length-i by omega) ?_;refine DX _ (by simp) (by simp) hr br ?_ ?_ (by simp) ?_ ?_
    ·simp only[hsees,dz,d_,yO,yP,hsee,and_true];simp only[vsees,vsee,ren,aK,a7,and_self,List.map_nil,List.map_append,List.map_cons,kD]
    ·simp only[allOk,hok,a6,vok,oW,List.length_nil];simp
    ·simp only[vsees,vsee,ren,b8,Lx,and_self,List.length_nil,List.length_append,oW]
    ·simp[a6,vok]
   |false=>
    have hg:(if !kZ n q.1 then [q]else [])=[]:=by
     have:kZ n q.1=true:=by unfold kZ;simpa using hb
     rw[this];rfl
    have aK:(List.range pre.length++[pre.length,pre.length+1,pre.length+2,pre.length+3]).getD (pre.length+1) 0=pre.length+1:=by rw[nE];rfl
    have a7:(List.range pre.length++[pre.length,pre.length+1,pre.length+2,pre.length+3]).getD (pre.length+2) 0=pre.length+2:=by rw[nE];rfl
    have b8:(List.range pre.length++[pre.length,pre.length+1,pre.length+2,pre.length+3]).getD (pre.length+3) 0=pre.length+3:=by rw[nE];rfl
    try simp only[go_sem]
    simp only[hw];refine bm.intro (i+1,out) (List.range pre.length++pre.length::[pre.length+1,pre.length+2,pre.length+3]) ⟨by simp only;omega,by simp only;rw[hf,hg];try simp⟩ (show b7.length-(i+1)<b7.length-i by omega) ?_;refine DX _ (by simp) (by simp) hr br ?_ ?_ (by simp) ?_ ?_
    ·simp only[hsees,dz,d_,yO,yP,hsee,and_true];simp only[vsees,vsee,ren,aK,a7,and_self]
    ·simp only[allOk,hok,a6,vok,oW,List.length_nil];simp
    ·simp only[vsees,vsee,ren,b8,Lx,and_self]
    ·simp[a6,vok]
  ·have ar:decide ((i:Int)<(b7.length:Int))=false:=a_ (by omega);obtain rfl:i=b7.length:=by omega
   rw[dB]at ax;simp only[go_sem,d_,eX,ar];have aK:(List.range pre.length++[pre.length,pre.length+1,pre.length+3]).getD (pre.length+1) 0=pre.length+1:=by rw[nE];rfl
   have a7:(List.range pre.length++[pre.length,pre.length+1,pre.length+3]).getD (pre.length+2) 0=pre.length+3:=by rw[nE];rfl
   rw[←ax]at hk;refine⟨_,.c6 [],_,DX [pre.length+1,pre.length+3] (by simp) (by simp) hr br ?_ ?_ (by simp) (by simp[vsees,vsee,ren,rens]) (by simp[a6,vok]),hk⟩
   ·simp only[hsees,dz,d_,yO,yP,hsee,and_true,tT,dZ];simp only[I.vc,vsees,vsee,ren,aK,a7,and_self]
   ·simp only[I.vc,allOk,hok,a6,vok,oW,List.length_nil,tT,dZ];simp
theorem QY(pre:List H)(a b c:H)(i:Nat):aG (pre++[a,b,c]) i=if i<pre.length then aG pre i else aG [a,b,c] (i-pre.length):=by
 split
 ·simp only[aG,List.getD_eq_getElem?_getD,List.getElem?_append_left ‹_›]
 ·simp only[aG,List.getD_eq_getElem?_getD,List.getElem?_append_right (by omega:pre.length≤i)]
theorem Pq(x:I)(n:Int)(hq:x.packets.length≤1000)(pre:List H)(kv:List V)(hr:roks pre.length pre)(br:a6 (pre.length+1) kv)(K:V→List H→Prop)
  (hk:K (.c6 []) (pre++dY (ly x n) pre.length (.ai 2 ((ly x n).packets.map aC.enc) true))) :
  dj Tryz.prog 245 kv (pre++dY x pre.length (.af 2 (x.packets.map aC.enc))) [.ptr pre.length 0 0,.d (.int .i64 n)] K:=by
 refine Y' (V0:=.c6 []) (ps:=x.packets) (fun p=>!kZ n p) (pre.length+2)
  (hr:=fun b7=>pre++[tT x (pre.length+1) (pre.length+2) x.packets.length,dZ x,.ai 2 (b7.map kD) true])
  (hr2:=fun b7=>pre++[tT x (pre.length+1) (pre.length+2) (ly x n).packets.length,dZ x,.ai 2 ((b7.filter fun q=>!kZ n q.1).map kD) true])
  (hf:=pre++dY (ly x n) pre.length (.ai 2 ((ly x n).packets.map aC.enc) true)) ?_ ?_ ?_ ?_ ?_ hk
 ·simp only[dY,dz,yO,yP]
 ·intro b7;refine⟨by simp only[dz,yO,yP],by simp[dY],fun i hi=>?_⟩;simp only[dY,QY];split
  ·rfl
  ·obtain⟨j,rfl⟩:∃j,i=pre.length+j:=⟨i-pre.length,by omega⟩;rw[Nat.add_sub_cancel_left]
   match j,hi with
   |0,_=>rfl
   |1,_=>rfl
   |2,hi=>exact absurd rfl hi
   |j+3,_=>rfl
 ·intro b7 Ly;refine⟨by simp only[dz,yO,yP],by simp[dY],fun i hi=>?_⟩;simp only[dY,QY];split
  ·rfl
  ·obtain⟨j,rfl⟩:∃j,i=pre.length+j:=⟨i-pre.length,by omega⟩;rw[Nat.add_sub_cancel_left]
   match j,hi with
   |0,_=>rfl
   |1,_=>rfl
   |2,hi=>exact absurd rfl hi
   |j+3,_=>rfl
 ·simp only[dY,dz,yO,yP];rfl
 ·intro b7 Ly;have hl:b7.length=x.packets.length:=by rw[←Ly];simp
  have hf:(ly x n).packets=(b7.filter fun q=>!kZ n q.1).map (·.1):=by
   simp only[ly,←Ly,List.filter_map];rfl
  have:=Zh x n b7 (by omega) pre kv hr br (fun v hs'=>v=.c6 []∧hs'=pre++[tT x (pre.length+1) (pre.length+2) (ly x n).packets.length,dZ x,.ai 2 ((b7.filter fun q=>!kZ n q.1).map kD) true]) ⟨rfl,by rw[hf,lM]⟩
  rwa [hl]at this
set_option maxRecDepth 100000
def VZ:List (List bt):=ct 12 [511649,511647,511641,511744,511690,511515,511029,503010,448335,521599,478953,354294]
def V1:List (List bt):=ct 7 [2150,2148,2182,2164,2106,1944,1458]
attribute [go_sem] VZ V1
theorem dj.BI{P:Program}{f:FuncId}{kv:List V}{hs hs':List H}{vs vs':List V}{K:V→List H→Prop}{ρ:List Nat}(h1:kQ kv ρ ⟨vs,hs⟩ ⟨vs',hs'⟩)(h:dj P f kv hs' vs' K):dj P f kv hs vs K:=
 fun B w0 kp us w br aI=>h B w0 kp us w br (DM br h1 aI)
theorem V2(f:aq):PureCall Tryz.prog 292 [.agg (aq.enc f)] [.agg [.int .i64 f.offset,.str f.data,.bool f.bd]]:=by
 refine aL 10 Tryz.func292 Tryz.call292 [.cell 2 251] ?_;intro ok
 try simp only[go_sem]
def fi(x:I):H:=.ai 2 (x.packets.map aC.enc) true
def dG(n:Int)(l:List aq):List H:=[.box I.bH,.box [.d (.int .i64 n),.sl 2 0 l.length],.ai 9 (l.map aq.enc) true]
def gZ(k:Int):List V:=(jn 4 [.ptr 0 0 0,.J,.ptr 3 0 0,.ptr 1 0 0,.J,.d (.int .i64 k)])++List.replicate 32 .J
set_option maxHeartbeats 8000000 in
theorem Xb(x:I)(f:aq)(hx:e0 x)(hs:dT (hF (aE x f.stream) f))(hd:f.data.length≤1000)(n k:Int)(l:List aq)(K:V→List H→Prop)
  (hk:K (.c6 []) (dG n l++dY (oi x f) 3 (fi x))):dj Tryz.prog 247 (gZ k) (dG n l++dY x 3 (fi x)) [.ptr 3 0 0,.agg (aq.bM f)] K:=by
 have b1:=mm x f.stream hx;have cB:=mR hx.2.1 f.stream;obtain⟨cU,c9,cq,dd⟩:=cB;have x3:=cq;have cq:∀eO∈(strOf x.streams f.stream).1.recv.buffer.bu,eO.data.length≤1048576:=fun eO hc=>by have:=cq eO hc;omega
 have hC:oi x f=if(strOf x.streams f.stream).2&&lf f.kind then dR x (hF (aE x f.stream) f)else x:=rfl
 rw[show aE x f.stream=(strOf x.streams f.stream).1 from rfl]at hC hs;obtain⟨s,jz⟩:∃s,s=(strOf x.streams f.stream).1:=⟨_,rfl⟩;obtain⟨b,iC⟩:∃b,b=(strOf x.streams f.stream).2:=⟨_,rfl⟩;rw[←jz,←iC]at b1;rw[←jz]at hC hs cU c9 cq x3 dd;rw[←iC]at hC;clear jz iC;have jk:=iQ hx;have j7:x.streams.length≤1000:=by have:=hx.1;omega
 have kA:=hx.2.1;refine dj.oq ?_;refine(en (n:=52) (rs:=[]) Tryz.func247 rfl Tryz.call247 hZ rfl rfl ?_);simp only[go_sem,dG,gZ,dY,dZ,e8,fi,List.replicate,bf,bn]
 try simp only[go_sem,lM]
 repeat'((first|refine ae.af (by assumption) ?_|refine ao.af (by assumption) ?_|refine bb ?_|refine ba VZ (by kernel_rfl) (by rfl) ?_)<;>simp only[go_sem,lM])
 cases b with
 |false=>
  rw[Bool.false_and,if_neg (by simp)]at hC;rw[hC]at hk
  try simp only[go_sem,lM]
  repeat'((first|refine ae.intro (by assumption) ?_|refine ao.intro (by first|assumption|apply D6) ?_|with_reducible refine de ?_)<;>simp only[go_sem])
  refine⟨[0,1,2,3,4,5],.c6 [],_,?_,hk⟩;simp only[go_sem,dG,dY,dZ,e8,fi,bf,bn];simp
 |true=>
  rw[Bool.true_and]at hC
  try simp only[go_sem,lM]
  repeat'((first|refine ae.intro (by assumption) ?_|refine ao.intro (by first|assumption|apply D6) ?_|with_reducible refine b9 ?_)<;>simp only[go_sem])
  cases FH:lf f.kind with
  |false=>
   rw[FH,if_neg (by simp)]at hC;rw[hC]at hk
   try simp only[go_sem]
   refine⟨[0,1,2,3,4,5],.c6 [],_,?_,hk⟩;simp only[go_sem,dG,dY,dZ,e8,fi,bf,bn];simp
  |true=>
   rw[FH,if_pos rfl]at hC;rw[hC]at hk
   cases fO:decide (f.kind=8)with
   |true=>
    have aX:hF s f=fb s (zt s.send (A6 f)):=by unfold hF;rw[if_pos (ch fO)]
    try simp only[go_sem,fO]
    repeat'((first|refine ae.af (by assumption) ?_|refine ao.af (by first|assumption|apply V2|(apply af4<;>first|assumption|omega)) ?_|refine ba V1 (by kernel_rfl) (by rfl) ?_)<;>simp only[go_sem,lM])
    refine ae.iR [] (by simp only[keepT,List.elem_nil,Nat.reduceAdd,cond_false];rfl) (dj.BI (ρ:=[0,1,2,3,4,5,12,13,14,15,16,11]) (hs':=dG n l++uE x (hF s f) 3 (fi x)) (vs':=[.ptr 3 0 0,.agg (pH (hF s f) 3)]) ?_ (x6 x (hF s f) (fi x) (fun _=>trivial) j7 kA hs (dG n l) _ (by simp[dG,roks,rok,a6,vok]) (by simp[dG,a6,vok]) _ ?_))
    ·simp only[go_sem,aX,dG,uE,dY,dZ,e8,fi,pH,Bf,bf,bn,fb,A6];simp
    ·simp only[go_sem];refine⟨[0,1,2,3,4,5],.c6 [],_,?_,hk⟩;simp only[go_sem,dG,dY,dZ,e8,fi,bf,bn];simp
   |false=>
    have wO:=cD fO
    cases aD:decide (f.kind=4)with
    |true=>
     have aX:hF s f={s with send:=CP s.send,ix:=if A7 s.send then false else s.ix}:=by unfold hF;rw[if_neg wO,if_pos (ch aD)]
     try simp only[go_sem,lM,fO,aD]
     repeat'((first|refine ae.af (by first|assumption|(apply af5<;>first|assumption|omega)) ?_|refine ao.af (by assumption) ?_)<;>simp only[go_sem,lM])
     cases Iw:A7 s.send with
     |true=>
      rw[Iw,if_pos rfl]at aX
      try simp only[go_sem,lM]
      refine ae.iR [] (by simp only[keepT,List.elem_nil,Nat.reduceAdd,cond_false];rfl) (dj.BI (ρ:=[0,1,2,3,4,5,12,13,14,15,16,11]) (hs':=dG n l++uE x (hF s f) 3 (fi x)) (vs':=[.ptr 3 0 0,.agg (pH (hF s f) 3)]) ?_ (x6 x (hF s f) (fi x) (fun _=>trivial) j7 kA hs (dG n l) _ (by simp[dG,roks,rok,a6,vok]) (by simp[dG,a6,vok]) _ ?_))
      ·simp only[go_sem,aX,dG,uE,dY,dZ,e8,fi,pH,Bf,bf,bn];simp
      ·simp only[go_sem];refine⟨[0,1,2,3,4,5],.c6 [],_,?_,hk⟩;simp only[go_sem,dG,dY,dZ,e8,fi,bf,bn];simp
     |false=>
      rw[Iw,if_neg (by simp)]at aX
      try simp only[go_sem,lM]
      refine ae.iR [] (by simp only[keepT,List.elem_nil,Nat.reduceAdd,cond_false];rfl) (dj.BI (ρ:=[0,1,2,3,4,5,12,13,14,15,16,11]) (hs':=dG n l++uE x (hF s f) 3 (fi x)) (vs':=[.ptr 3 0 0,.agg (pH (hF s f) 3)]) ?_ (x6 x (hF s f) (fi x) (fun _=>trivial) j7 kA hs (dG n l) _ (by simp[dG,roks,rok,a6,vok]) (by simp[dG,a6,vok]) _ ?_))
      ·simp only[go_sem,aX,dG,uE,dY,dZ,e8,fi,pH,Bf,bf,bn];simp
      ·simp only[go_sem];refine⟨[0,1,2,3,4,5],.c6 [],_,?_,hk⟩;simp only[go_sem,dG,dY,dZ,e8,fi,bf,bn];simp
    |false=>
     have pr:=cD aD
     cases bX:decide (f.kind=5)with
     |true=>
      have aX:hF s f={s with iy:=false}:=by unfold hF;rw[if_neg wO,if_neg pr,if_pos (ch bX)]
      try simp only[go_sem,lM,fO,aD,bX]
      refine ae.iR [] (by simp only[keepT,List.elem_nil,Nat.reduceAdd,cond_false];rfl) (dj.BI (ρ:=[0,1,2,3,4,5,12,7,8,9,10,11]) (hs':=dG n l++uE x (hF s f) 3 (fi x)) (vs':=[.ptr 3 0 0,.agg (pH (hF s f) 3)]) ?_ (x6 x (hF s f) (fi x) (fun _=>trivial) j7 kA hs (dG n l) _ (by simp[dG,roks,rok,a6,vok]) (by simp[dG,a6,vok]) _ ?_))
      ·simp only[go_sem,aX,dG,uE,dY,dZ,e8,fi,pH,Bf,bf,bn];simp
      ·simp only[go_sem];refine⟨[0,1,2,3,4,5],.c6 [],_,?_,hk⟩;simp only[go_sem,dG,dY,dZ,e8,fi,bf,bn];simp
     |false=>
      have aX:hF s f=s:=by unfold hF;rw[if_neg wO,if_neg pr,if_neg (cD bX)]
      try simp only[go_sem,lM,fO,aD,bX]
      refine ae.iR [] (by simp only[keepT,List.elem_nil,Nat.reduceAdd,cond_false];rfl) (dj.BI (ρ:=[0,1,2,3,4,5,12,7,8,9,10,11]) (hs':=dG n l++uE x (hF s f) 3 (fi x)) (vs':=[.ptr 3 0 0,.agg (pH (hF s f) 3)]) ?_ (x6 x (hF s f) (fi x) (fun _=>trivial) j7 kA hs (dG n l) _ (by simp[dG,roks,rok,a6,vok]) (by simp[dG,a6,vok]) _ ?_))
      ·simp only[go_sem,aX,dG,uE,dY,dZ,e8,fi,pH,Bf,bf,bn];simp
      ·simp only[go_sem];refine⟨[0,1,2,3,4,5],.c6 [],_,?_,hk⟩;simp only[go_sem,dG,dY,dZ,e8,fi,bf,bn];simp
set_option maxRecDepth 100000
def V3:List (List bt):=ct 12 [511649,511647,511641,511744,511690,511515,511029,503010,448335,521599,478953,354294]
def V4:List (List bt):=ct 7 [2150,2148,2182,2164,2106,1944,1458]
def C9:List (List bt):=ct 10 [57956,58804,58798,58780,58726,58927,58321,56862,52488,39366]
attribute [go_sem] V3 V4 C9
set_option maxHeartbeats 8000000 in
theorem Xd(x:I)(f:aq)(hx:e0 x)(hs:dT (mG (aE x f.stream) f))(hd:f.data.length≤1000)(n k:Int)(l:List aq)(K:V→List H→Prop)
  (hk:K (.c6 []) (dG n l++dY (om x f) 3 (fi x))):dj Tryz.prog 246 (gZ k) (dG n l++dY x 3 (fi x)) [.ptr 3 0 0,.agg (aq.bM f)] K:=by
 have b1:=mm x f.stream hx;have cB:=mR hx.2.1 f.stream;obtain⟨cU,c9,cq,dd⟩:=cB;have x3:=cq;have cq:∀eO∈(strOf x.streams f.stream).1.recv.buffer.bu,eO.data.length≤1048576:=fun eO hc=>by have:=cq eO hc;omega
 have hC:om x f=if f.kind=16 then {x with xA:=true}else if f.kind=18 then(if f.fy then {x with nO:=true}else {x with nN:=true})else if(strOf x.streams f.stream).2&&lf f.kind then la x (mG (aE x f.stream) f)else x:=rfl
 rw[show aE x f.stream=(strOf x.streams f.stream).1 from rfl]at hC hs;obtain⟨s,jz⟩:∃s,s=(strOf x.streams f.stream).1:=⟨_,rfl⟩;obtain⟨b,iC⟩:∃b,b=(strOf x.streams f.stream).2:=⟨_,rfl⟩;rw[←jz,←iC]at b1;rw[←jz]at hC hs cU c9 cq x3 dd;rw[←iC]at hC;clear jz iC;have jk:=iQ hx;have j7:x.streams.length≤1000:=by have:=hx.1;omega
 have kA:=hx.2.1;refine dj.oq ?_;refine(en (n:=75) (rs:=[]) Tryz.func246 rfl Tryz.call246 hZ rfl rfl ?_);simp only[go_sem,dG,gZ,dY,dZ,e8,fi,List.replicate,bf,bn]
 cases lF:decide (f.kind=16)with
 |true=>
  rw[if_pos (ch lF)]at hC;rw[hC]at hk
  try simp only[go_sem]
  refine⟨[0,1,2,3,4,5],.c6 [],_,?_,hk⟩;simp only[go_sem,dG,dY,dZ,e8,fi,bf,bn];simp
 |false=>
  rw[if_neg (cD lF)]at hC
  cases jq:decide (f.kind=18)with
  |true=>
   rw[if_pos (ch jq)]at hC
   cases hu:f.fy with
   |true=>
    rw[hu,if_pos rfl]at hC;rw[hC]at hk
    try simp only[go_sem,jq]
    refine⟨[0,1,2,3,4,5],.c6 [],_,?_,hk⟩;simp only[go_sem,dG,dY,dZ,e8,fi,bf,bn];simp
   |false=>
    rw[hu,if_neg (by simp)]at hC;rw[hC]at hk
    try simp only[go_sem,jq]
    refine⟨[0,1,2,3,4,5],.c6 [],_,?_,hk⟩;simp only[go_sem,dG,dY,dZ,e8,fi,bf,bn];simp
  |false=>
   rw[if_neg (cD jq)]at hC
   try simp only[go_sem,jq]
   repeat'((first|refine ae.af (by assumption) ?_|refine ao.af (by assumption) ?_|refine bb ?_|refine ba V3 (by kernel_rfl) (by rfl) ?_|fail)<;>simp only[go_sem,lM])
   cases b with
   |false=>
    rw[Bool.false_and,if_neg (by simp)]at hC;rw[hC]at hk
    try simp only[go_sem,lM]
    repeat'((first|refine ae.intro (by assumption) ?_|refine ao.intro (by first|assumption|apply D6) ?_|with_reducible refine de ?_)<;>simp only[go_sem])
    refine⟨[0,1,2,3,4,5],.c6 [],_,?_,hk⟩;simp only[go_sem,dG,dY,dZ,e8,fi,bf,bn];simp
   |true=>
    rw[Bool.true_and]at hC
    try simp only[go_sem,lM]
    repeat'((first|refine ae.intro (by assumption) ?_|refine ao.intro (by first|assumption|apply D6) ?_|with_reducible refine b9 ?_)<;>simp only[go_sem])
    cases FH:lf f.kind with
    |false=>
     rw[FH,if_neg (by simp)]at hC;rw[hC]at hk
     try simp only[go_sem]
     refine⟨[0,1,2,3,4,5],.c6 [],_,?_,hk⟩;simp only[go_sem,dG,dY,dZ,e8,fi,bf,bn];simp
    |true=>
     rw[FH,if_pos rfl]at hC;rw[hC]at hk
     cases fO:decide (f.kind=8)with
     |true=>
      have aX:mG s f=fb s (yc s.send (A6 f)):=by unfold mG;rw[if_pos (ch fO)]
      try simp only[go_sem,fO]
      repeat'((first|refine ae.af (by assumption) ?_|refine ao.af (by first|assumption|apply V2|(apply af6<;>first|assumption|omega)) ?_|refine ba V4 (by kernel_rfl) (by rfl) ?_|fail)<;>simp only[go_sem,lM])
      have gp:=k4 x.streams (fb s (yc s.send (A6 f))) j7 kA (aX▸hs)
      try simp only[go_sem,lM]
      repeat'((first|refine ae.af (by assumption) ?_|refine ao.af (by assumption) ?_|refine ba C9 (by kernel_rfl) (by rfl) ?_|fail)<;>simp only[go_sem,lM])
      refine⟨[0,1,2,3,17,5],.c6 [],_,?_,hk⟩;simp only[go_sem,aX,dG,dY,dZ,e8,fi,la,bf,bn,fb,A6];simp
     |false=>
      have wO:=cD fO
      cases aD:decide (f.kind=4)with
      |true=>
       have aX:mG s f={s with ix:=decide (s.send.state=4)}:=by unfold mG;rw[if_neg wO,if_pos (ch aD)]
       try simp only[go_sem,fO,aD]
       have gp:=k4 x.streams ({s with ix:=decide (s.send.state=4)}) j7 kA (aX▸hs)
       try simp only[go_sem,lM]
       repeat'((first|refine ae.af (by assumption) ?_|refine ao.af (by assumption) ?_|refine ba C9 (by kernel_rfl) (by rfl) ?_|fail)<;>simp only[go_sem,lM])
       refine⟨[0,1,2,3,13,5],.c6 [],_,?_,hk⟩;simp only[go_sem,aX,dG,dY,dZ,e8,fi,la,bf,bn];simp
      |false=>
       have pr:=cD aD
       cases bX:decide (f.kind=5)with
       |true=>
        have aX:mG s f={s with iy:=decide (s.recv.state<2)}:=by unfold mG;rw[if_neg wO,if_neg pr,if_pos (ch bX)]
        try simp only[go_sem,fO,aD,bX]
        have gp:=k4 x.streams ({s with iy:=decide (s.recv.state<2)}) j7 kA (aX▸hs)
        try simp only[go_sem,lM]
        repeat'((first|refine ae.af (by assumption) ?_|refine ao.af (by assumption) ?_|refine ba C9 (by kernel_rfl) (by rfl) ?_|fail)<;>simp only[go_sem,lM])
        refine⟨[0,1,2,3,13,5],.c6 [],_,?_,hk⟩;simp only[go_sem,aX,dG,dY,dZ,e8,fi,la,bf,bn];simp
       |false=>
        have Im:=cD bX
        cases uu:decide (f.kind=17)with
        |true=>
         have aX:mG s f={s with k6:=true}:=by unfold mG;rw[if_neg wO,if_neg pr,if_neg Im,if_pos (ch uu)]
         try simp only[go_sem,fO,aD,bX,uu]
         have gp:=k4 x.streams ({s with k6:=true}) j7 kA (aX▸hs)
         try simp only[go_sem,lM]
         repeat'((first|refine ae.af (by assumption) ?_|refine ao.af (by assumption) ?_|refine ba C9 (by kernel_rfl) (by rfl) ?_|fail)<;>simp only[go_sem,lM])
         refine⟨[0,1,2,3,13,5],.c6 [],_,?_,hk⟩;simp only[go_sem,aX,dG,dY,dZ,e8,fi,la,bf,bn];simp
        |false=>
         have aX:mG s f=s:=by unfold mG;rw[if_neg wO,if_neg pr,if_neg Im,if_neg (cD uu)]
         try simp only[go_sem,fO,aD,bX,uu]
         have gp:=k4 x.streams (s) j7 kA (aX▸hs)
         try simp only[go_sem,lM]
         repeat'((first|refine ae.af (by assumption) ?_|refine ao.af (by assumption) ?_|refine ba C9 (by kernel_rfl) (by rfl) ?_|fail)<;>simp only[go_sem,lM])
         refine⟨[0,1,2,3,13,5],.c6 [],_,?_,hk⟩;simp only[go_sem,aX,dG,dY,dZ,e8,fi,la,bf,bn];simp
set_option maxRecDepth 100000
set_option maxHeartbeats 2000000 in
theorem Po(c:I)(n:Int)(hz:e0 c):PureCall Tryz.prog 244 [.agg (I.enc c),.one (.int .i64 n)] [.agg [.int .i64 ((pkOf c.packets n).1).number,.sl 9 (((pkOf c.packets n).1).frames.map aq.enc)],.one (.bool (pkOf c.packets n).2)]:=by
 refine aL 33 Tryz.func244 Tryz.call244 [.cell 4 132,.tmp 5] ?_;intro ok;have hm:c.packets.length≤30:=hz.2.2.1;have JQ:=hz.2.2.2;clear ok;simp only[go_sem];refine b5.intro (fun i:Nat=>⟨(.J::.d (.int .i64 n)::.ptr 0 0 0::.J::.ptr 1 0 0::.d (.bool false)::.d (.int .i64 i)::jn 26 []),[.box (I.bM c),.box [.d (.int .i64 0),.c7 9]]⟩)
   (fun i=>c.packets.length-i) (fun i=>i≤c.packets.length∧(c.packets.take i).any (kZ n)=false) 0 [0,1] ⟨by omega,by simp⟩ ?_ ?_
 ·simp only[go_sem];simp
 ·rintro i ⟨hi,he⟩;by_cases h1:i<c.packets.length
  ·have ar:decide ((i:Int)<(c.packets.length:Int))=true:=bc (by omega);have av:=bZ aC.enc c.packets i h1;have hw:IntKind.i64.wrap ((i:Int)+1)=((i+1:Nat):Int):=by rw[bC]<;>omega
   have hG:c.packets[i].frames.length≤500:=(JQ _ (List.getElem_mem h1)).1;simp only[aC.enc]at av
   cases hq:decide (c.packets[i].number=n)with
   |true=>
    have hf:=Gc (kZ n) c.packets i h1 he hq;have o1:=ch hq
    try simp only[go_sem,lM,aF,av,ar,hq]
    repeat'(first|(with_reducible refine al ?_)|fail)
    all_goals simp[pkOf,hf,o1]
   |false=>
    try simp only[go_sem,lM,aF,av,ar,hq]
    repeat'(first|(with_reducible refine al ?_)|fail)
    refine bm.intro (i+1) [0,1] ⟨by omega,zL _ c.packets i h1 he hq⟩ (by omega) ?_;simp only[go_sem,hw];simp
  ·have ar:decide ((i:Int)<(c.packets.length:Int))=false:=a_ (by omega);obtain rfl:i=c.packets.length:=by omega
   rw[dB]at he;have hf:=JR _ _ he
   try simp only[go_sem,lM,ar]
   simp[pkOf,hf]
theorem Pp(c:I)(n:Int):(bif !fM c then true else !(pkOf c.packets n).2)=!mN c n:=by
 unfold mN
 cases fM c<;>cases(pkOf c.packets n).2<;>rfl
set_option maxHeartbeats 8000000 in
theorem W_(c:I)(n:Int)(m:Nat)(hv:b6 m c)(hm:m≤20):PureCall Tryz.prog 205 [.agg (I.enc c),.one (.int .i64 n)] [.agg (I.enc ((zM c n))),.one (.bool (mN c n))]:=by
 refine tC 42 Tryz.func205 Tryz.call205 [.cell 4 37,.tmp 5] ?_;intro ok;clear ok;have hz:=hv.sz hm;have jk:=iQ hz;have bw:=Pp c n;have hC:zM c n=if mN c n then(pkOf c.packets n).1.frames.foldl oi (ly c n)else c:=rfl
 have gp:=Po c n hz;have JS:mN c n=true→(pkOf c.packets n).1∈c.packets:=by
  intro h;simp only[mN,cX]at h;have h2:=h.2;unfold pkOf at h2⊢;split
  ·rename_i p hp;exact List.mem_of_find?_eq_some hp
  ·rename_i hp;rw[hp]at h2;cases h2
 generalize (pkOf c.packets n).2=Xa at *;generalize (pkOf c.packets n).1=p at *;refine ej hZ 4 (α:=Unit) (fun _=>⟨(.J::.d (.int .i64 n)::.J::.J::.ptr 0 0 0::.J::.ptr 3 0 0::.ptr 1 0 0::jn 34 []),[.box I.bH,.box [.d (.int .i64 p.number),.sl 2 0 p.frames.length],.af 9 (p.frames.map aq.enc),.box (I.vc c (.sl 4 0 c.streams.length) (.sl 5 0 c.packets.length)),.af 39 (c.streams.map aa.enc),.af 2 (c.packets.map aC.enc)]⟩) (fun _=>mN c n=true) ?_ ?_
 ·skip
  try simp only[go_sem]
  repeat'((first|refine ae.af (by first|assumption|(apply gg<;>first|assumption|omega)) ?_|refine ao.af (by assumption) ?_)<;>simp only[go_sem,lM])
  try simp only[go_sem,lM]
  repeat'((first|refine ae.intro (by first|assumption|(apply tD<;>first|assumption|omega)) ?_|refine ao.intro (by assumption) ?_|refine bb ?_)<;>simp only[go_sem])
  rw[bw]
  cases hg:mN c n with
  |false=>
   rw[hg,if_neg (by simp)]at hC
   try simp only[go_sem,lM,Bool.not_false]
   repeat'(first|(with_reducible refine al ?_)|fail)
   simp[hC]
  |true=>
   simp only[go_sem,Bool.not_true];refine di.intro () [1,6,5,4,2,3] (by first|exact hg|trivial) ?_;simp only[go_sem];simp
 rintro _ hg;rw[hg,if_pos rfl]at hC;refine JT 2 rfl ?_;simp only[bI];have Df:=Gd hv n;obtain⟨y,hy⟩:∃y,y=ly c n:=⟨_,rfl⟩;rw[←hy]at hC Df;refine ej hZ 1 (α:=Unit) (fun _=>⟨(jn 4 (.ptr 0 0 0::.J::.ptr 3 0 0::.ptr 1 0 0::jn 34 [])),[.box I.bH,.box [.d (.int .i64 p.number),.sl 2 0 p.frames.length],.ai 9 (p.frames.map aq.enc) true,.box (I.vc y (.sl 4 0 y.streams.length) (.sl 5 0 y.packets.length)),.af 39 (y.streams.map aa.enc),.ai 2 (y.packets.map aC.enc) true]⟩) (fun _=>True) ?_ ?_
 ·simp only[go_sem];refine ae.iR [4,6,7] (by simp only[keepT,List.elem_cons,List.elem_nil,Nat.reduceBEq,Nat.reduceAdd,cond_true,cond_false];rfl) (Pq c n (by have:=hz.2.2.1;omega) (dG p.number p.frames) _ (by simp[dG,roks,rok,a6,vok]) (by simp[dG,a6,vok]) _ ?_);rw[←hy];simp only[dG,dY,dZ,e8,go_sem,bf,bn];refine di.intro () [0,1,2,3,4,5] trivial ?_;simp only[go_sem];simp
 rintro _ _;refine gO hZ ?_;have yn:=hz.2.2.2 p (JS hg)
 try simp only[go_sem]
 refine b5.intro (α:=Nat×I) (fun q=>⟨(jn 4 (.ptr 0 0 0::.J::.ptr 3 0 0::.ptr 1 0 0::.J::.d (.int .i64 q.1)::jn 32 [])),[.box I.bH,.box [.d (.int .i64 p.number),.sl 2 0 p.frames.length],.ai 9 (p.frames.map aq.enc) true,.box (I.vc q.2 (.sl 4 0 q.2.streams.length) (.sl 5 0 q.2.packets.length)),.af 39 (q.2.streams.map aa.enc),.ai 2 (q.2.packets.map aC.enc) true]⟩)
  (fun q=>p.frames.length-q.1) (fun q=>q.1≤p.frames.length∧q.2=(p.frames.take q.1).foldl oi y) (0,y) [0,1,2,3,4,5] ⟨by simp,by simp⟩ ?_ ?_
 ·simp only[go_sem];simp
 ·rintro⟨i,z⟩ ⟨hi,uJ⟩;simp only at hi uJ;have Dg:b6 m z:=by rw[uJ];exact Dh (fun c f h=>Pr h f) _ _ Df
  by_cases h1:i<p.frames.length
  ·have ar:decide ((i:Int)<(p.frames.length:Int))=true:=bc (by omega);have av:=bZ aq.enc p.frames i h1;have fx:=yn.1;have hw:IntKind.i64.wrap ((i:Int)+1)=((i+1:Nat):Int):=by rw[bC]<;>omega
   have Di:=yn.2 _ (List.getElem_mem h1);have cw:(p.frames.take (i+1)).foldl oi y=oi z p.frames[i]:=by
    rw[List.take_add_one,dg h1,List.foldl_append,←uJ];rfl
   generalize p.frames[i]=f at *
   try simp only[go_sem,lM,aF,av,aq.enc,ar]
   repeat'(first|(with_reducible refine al ?_)|fail)
   have oj:(oi z f).packets=z.packets:=by
    unfold oi;split
    ·exact(zN z _).2
    ·rfl
   refine ae.iR [4,6,7,9] (by simp only[keepT,List.elem_cons,List.elem_nil,Nat.reduceBEq,Nat.reduceAdd,cond_true,cond_false];rfl) (Xb z f (Dg.sz hm) ((Ps (Dg.aE _) f).sz hm) (by omega) p.number i p.frames _ ?_);simp only[dG,dY,dZ,e8,fi,go_sem,bf,bn];refine bm.intro (i+1,oi z f) [0,1,2,3,4,5] ⟨by simp only;omega,by simp only;rw[cw]⟩ (show p.frames.length-(i+1)<p.frames.length-i by omega) ?_;simp only[go_sem,hw];simp[oj]
  ·have ar:decide ((i:Int)<(p.frames.length:Int))=false:=a_ (by omega);obtain rfl:i=p.frames.length:=by omega
   rw[dB]at uJ
   try simp only[go_sem,lM,ar]
   repeat'(first|(with_reducible refine al ?_)|fail)
   simp[hC,←uJ,hg]
set_option maxRecDepth 100000
set_option maxHeartbeats 8000000 in
theorem Xc(c:I)(n:Int)(m:Nat)(hv:b6 m c)(hm:m≤20):PureCall Tryz.prog 204 [.agg (I.enc c),.one (.int .i64 n)] [.agg (I.enc ((zO c n))),.one (.bool (mN c n))]:=by
 refine tC 42 Tryz.func204 Tryz.call204 [.cell 4 37,.tmp 5] ?_;intro ok;clear ok;have hz:=hv.sz hm;have jk:=iQ hz;have bw:=Pp c n;have hC:zO c n=if mN c n then(pkOf c.packets n).1.frames.foldl om (ly c n)else c:=rfl
 have gp:=Po c n hz;have JS:mN c n=true→(pkOf c.packets n).1∈c.packets:=by
  intro h;simp only[mN,cX]at h;have h2:=h.2;unfold pkOf at h2⊢;split
  ·rename_i p hp;exact List.mem_of_find?_eq_some hp
  ·rename_i hp;rw[hp]at h2;cases h2
 generalize (pkOf c.packets n).2=Xa at *;generalize (pkOf c.packets n).1=p at *;refine ej hZ 4 (α:=Unit) (fun _=>⟨(.J::.d (.int .i64 n)::.J::.J::.ptr 0 0 0::.J::.ptr 3 0 0::.ptr 1 0 0::jn 34 []),[.box I.bH,.box [.d (.int .i64 p.number),.sl 2 0 p.frames.length],.af 9 (p.frames.map aq.enc),.box (I.vc c (.sl 4 0 c.streams.length) (.sl 5 0 c.packets.length)),.af 39 (c.streams.map aa.enc),.af 2 (c.packets.map aC.enc)]⟩) (fun _=>mN c n=true) ?_ ?_
 ·skip
  try simp only[go_sem]
  repeat'((first|refine ae.af (by first|assumption|(apply gg<;>first|assumption|omega)) ?_|refine ao.af (by assumption) ?_)<;>simp only[go_sem,lM])
  try simp only[go_sem,lM]
  repeat'((first|refine ae.intro (by first|assumption|(apply tD<;>first|assumption|omega)) ?_|refine ao.intro (by assumption) ?_|refine bb ?_)<;>simp only[go_sem])
  rw[bw]
  cases hg:mN c n with
  |false=>
   rw[hg,if_neg (by simp)]at hC
   try simp only[go_sem,lM,Bool.not_false]
   repeat'(first|(with_reducible refine al ?_)|fail)
   simp[hC]
  |true=>
   simp only[go_sem,Bool.not_true];refine di.intro () [1,6,5,4,2,3] (by first|exact hg|trivial) ?_;simp only[go_sem];simp
 rintro _ hg;rw[hg,if_pos rfl]at hC;refine JT 2 rfl ?_;simp only[bI];have Df:=Gd hv n;obtain⟨y,hy⟩:∃y,y=ly c n:=⟨_,rfl⟩;rw[←hy]at hC Df;refine ej hZ 1 (α:=Unit) (fun _=>⟨(jn 4 (.ptr 0 0 0::.J::.ptr 3 0 0::.ptr 1 0 0::jn 34 [])),[.box I.bH,.box [.d (.int .i64 p.number),.sl 2 0 p.frames.length],.ai 9 (p.frames.map aq.enc) true,.box (I.vc y (.sl 4 0 y.streams.length) (.sl 5 0 y.packets.length)),.af 39 (y.streams.map aa.enc),.ai 2 (y.packets.map aC.enc) true]⟩) (fun _=>True) ?_ ?_
 ·simp only[go_sem];refine ae.iR [4,6,7] (by simp only[keepT,List.elem_cons,List.elem_nil,Nat.reduceBEq,Nat.reduceAdd,cond_true,cond_false];rfl) (Pq c n (by have:=hz.2.2.1;omega) (dG p.number p.frames) _ (by simp[dG,roks,rok,a6,vok]) (by simp[dG,a6,vok]) _ ?_);rw[←hy];simp only[dG,dY,dZ,e8,go_sem,bf,bn];refine di.intro () [0,1,2,3,4,5] trivial ?_;simp only[go_sem];simp
 rintro _ _;refine gO hZ ?_;have yn:=hz.2.2.2 p (JS hg)
 try simp only[go_sem]
 refine b5.intro (α:=Nat×I) (fun q=>⟨(jn 4 (.ptr 0 0 0::.J::.ptr 3 0 0::.ptr 1 0 0::.J::.d (.int .i64 q.1)::jn 32 [])),[.box I.bH,.box [.d (.int .i64 p.number),.sl 2 0 p.frames.length],.ai 9 (p.frames.map aq.enc) true,.box (I.vc q.2 (.sl 4 0 q.2.streams.length) (.sl 5 0 q.2.packets.length)),.af 39 (q.2.streams.map aa.enc),.ai 2 (q.2.packets.map aC.enc) true]⟩)
  (fun q=>p.frames.length-q.1) (fun q=>q.1≤p.frames.length∧q.2=(p.frames.take q.1).foldl om y) (0,y) [0,1,2,3,4,5] ⟨by simp,by simp⟩ ?_ ?_
 ·simp only[go_sem];simp
 ·rintro⟨i,z⟩ ⟨hi,uJ⟩;simp only at hi uJ;have Dg:b6 m z:=by rw[uJ];exact Dh (fun c f h=>Pt h f) _ _ Df
  by_cases h1:i<p.frames.length
  ·have ar:decide ((i:Int)<(p.frames.length:Int))=true:=bc (by omega);have av:=bZ aq.enc p.frames i h1;have fx:=yn.1;have hw:IntKind.i64.wrap ((i:Int)+1)=((i+1:Nat):Int):=by rw[bC]<;>omega
   have Di:=yn.2 _ (List.getElem_mem h1);have cw:(p.frames.take (i+1)).foldl om y=om z p.frames[i]:=by
    rw[List.take_add_one,dg h1,List.foldl_append,←uJ];rfl
   generalize p.frames[i]=f at *
   try simp only[go_sem,lM,aF,av,aq.enc,ar]
   repeat'(first|(with_reducible refine al ?_)|fail)
   have oj:(om z f).packets=z.packets:=by
    unfold om
    repeat' split
    all_goals rfl
   refine ae.iR [4,6,7,9] (by simp only[keepT,List.elem_cons,List.elem_nil,Nat.reduceBEq,Nat.reduceAdd,cond_true,cond_false];rfl) (Xd z f (Dg.sz hm) ((Pu (Dg.aE _) f).sz hm) (by omega) p.number i p.frames _ ?_);simp only[dG,dY,dZ,e8,fi,go_sem,bf,bn];refine bm.intro (i+1,om z f) [0,1,2,3,4,5] ⟨by simp only;omega,by simp only;rw[cw]⟩ (show p.frames.length-(i+1)<p.frames.length-i by omega) ?_;simp only[go_sem,hw];simp[oj]
  ·have ar:decide ((i:Int)<(p.frames.length:Int))=false:=a_ (by omega);obtain rfl:i=p.frames.length:=by omega
   rw[dB]at uJ
   try simp only[go_sem,lM,ar]
   repeat'(first|(with_reducible refine al ?_)|fail)
   simp[hC,←uJ,hg]
set_option maxRecDepth 100000
theorem Nh(c:I)(f:aq)(k:Int):(bif bif !eQ c then true else !e_ f then true else decide (f.kind≠k))=!oL c f k:=by
 unfold oL
 cases eQ c<;>cases e_ f<;>by_cases h:f.kind=k<;>simp[h]
set_option maxHeartbeats 8000000 in
theorem ada(c:I)(f:aq)(m:Nat)(hv:b6 m c)(hm:m≤19):PureCall Tryz.prog 242 [.agg (I.enc c),.agg (aq.enc f)] [.agg (I.enc ((zn c f))),.one (.int .i64 (x_ c f))]:=by
 refine tC 69 Tryz.func242 Tryz.call242 [.cell 4 37,.tmp 5] ?_;intro ok;clear ok;have hz:=hv.sz (by omega);have jk:=iQ hz;have uq:=zl hv f.stream;have lN:=uq.sz (by omega);have j7:(bV c f.stream).streams.length≤1000:=by have:=lN.1;omega
 have kA:=lN.2.1;have hC:zn c f=if x_ c f=0 then dR (bV c f.stream) (tZ (bV c f.stream) f)else c:=rfl
 have ah:x_ c f=if oL c f 5 then(if ee c.cr f.stream then gu c f.stream else 5)else 7:=rfl
 have aX:tZ (bV c f.stream) f=if lX (aE (bV c f.stream) f.stream).send f.code then e3 (aE (bV c f.stream) f.stream) f.code else aE (bV c f.stream) f.stream:=rfl
 have pb:dT (tZ (bV c f.stream) f):=(T2 uq).sz (by omega);have bw:=Nh c f 5;obtain⟨cU,c9,cq,dd⟩:=mR lN.2.1 f.stream;have x3:=cq;have cq:∀eO∈(strOf (bV c f.stream).streams f.stream).1.recv.buffer.bu,eO.data.length≤1048576:=fun eO hc=>by have:=cq eO hc;omega
 have b1:=mm (bV c f.stream) f.stream lN;rw[show(strOf (bV c f.stream).streams f.stream).1=aE (bV c f.stream) f.stream from rfl]at cU c9 cq x3 dd b1;have Ni:=GL c f.stream hz;generalize aE (bV c f.stream) f.stream=s at *;generalize bV c f.stream=x at *;refine ej hZ 6 (α:=Unit) (fun _=>⟨(.J::.J::.ptr 0 0 0::.ptr 1 0 0::.ptr 2 0 0::.J::.ptr 3 0 0::.J::.ptr 6 0 0::jn 60 []),[.box (I.bM c),.box (aq.bM f),.box I.bH,.box (I.vc x (.sl 4 0 x.streams.length) (.sl 5 0 x.packets.length)),.af 39 (x.streams.map aa.enc),.af 2 (x.packets.map aC.enc),.box (aa.vc s (.sl 7 0 s.send.ring.cells.length) (.sl 8 0 s.send.pending.length) (.sl 9 0 s.send.flight.length) (.sl 10 0 s.send.bK.length) (.sl 11 0 s.recv.buffer.bu.length)),.af 1 (s.send.ring.cells.map aW),.af 2 (s.send.pending.map ab.enc),.af 2 (s.send.flight.map ab.enc),.af 2 (s.send.bK.map ab.enc),.af 2 (s.recv.buffer.bu.map aB.enc)]⟩) (fun _=>oL c f 5=true∧ee c.cr f.stream=true∧gu c f.stream=0) ?_ ?_
 ·skip
  try simp only[go_sem]
  repeat'((first|refine ae.af (by first|assumption|(apply vV<;>first|assumption|omega)) ?_|refine ao.af (by first|assumption|apply z') ?_|refine bb ?_)<;>simp only[go_sem])
  rw[bw]
  cases hg:oL c f 5 with
  |false=>
   rw[hg,if_neg (by simp)]at ah;rw[ah,if_neg (by decide)]at hC
   try simp only[go_sem,Bool.not_false]
   repeat'(first|((first|refine ae.af (by first|assumption|(apply gg<;>first|assumption|omega)) ?_|refine ao.af (by assumption) ?_)<;>simp only[go_sem,lM])|(with_reducible refine al ?_)|fail)
   simp[hC,ah]
  |true=>
   rw[hg,if_pos rfl]at ah
   try simp only[go_sem,Bool.not_true]
   repeat'((first|refine ae.af (by first|assumption|apply Nl) ?_|refine ao.af (by assumption) ?_)<;>simp only[go_sem])
   cases kd:ee c.cr f.stream with
   |false=>
    rw[kd,if_neg (by simp)]at ah;rw[ah,if_neg (by decide)]at hC
    try simp only[go_sem,Bool.not_false]
    repeat'(first|((first|refine ae.af (by first|assumption|(apply gg<;>first|assumption|omega)) ?_|refine ao.af (by assumption) ?_)<;>simp only[go_sem,lM])|(with_reducible refine al ?_)|fail)
    simp[hC,ah]
   |true=>
    rw[kd,if_pos rfl]at ah
    try simp only[go_sem,Bool.not_true]
    repeat'((first|refine ae.af (by assumption) ?_|refine ao.af (by assumption) ?_)<;>simp only[go_sem,lM])
    cases kF:decide (gu c f.stream≠0)with
    |true=>
     have iM:=ch kF
     skip
     rw[ah,if_neg iM]at hC
     try simp only[go_sem]
     repeat'(first|((first|refine ae.af (by first|assumption|(apply gg<;>first|assumption|omega)) ?_|refine ao.af (by assumption) ?_)<;>simp only[go_sem,lM])|(with_reducible refine al ?_)|fail)
     simp[hC,ah]
    |false=>
     have iM:gu c f.stream=0:=Decidable.not_not.1 (cD kF)
     try simp only[go_sem,lM]
     repeat'((first|refine ae.af (by assumption) ?_|refine ao.af (by assumption) ?_)<;>simp only[go_sem,lM])
     refine di.intro () [0,1,2,5,3,4,11,6,7,8,9,10] (by first|exact⟨hg,kd,iM⟩|(simp only[true_and];exact iM)|simp[iM]) ?_;simp only[go_sem];simp
 rintro _ ⟨hg,kd,kF⟩;rw[hg,if_pos rfl,kd,if_pos rfl,kF]at ah;rw[ah,if_pos rfl]at hC;generalize tZ x f=t at *;obtain⟨y,hy⟩:∃y,y=x:=⟨_,rfl⟩;refine ej hZ 2 (α:=Unit) (fun _=>⟨(jn 4 (.ptr 2 0 0::.J::.ptr 3 0 0::.J::.ptr 6 0 0::jn 60 [])),[.box (I.bM c),.box (aq.bM f),.box I.bH,.box (I.vc y (.sl 4 0 y.streams.length) (.sl 5 0 y.packets.length)),.af 39 (y.streams.map aa.enc),.af 2 (y.packets.map aC.enc),.box (aa.vc t (.sl 7 0 t.send.ring.cells.length) (.sl 8 0 t.send.pending.length) (.sl 9 0 t.send.flight.length) (.sl 10 0 t.send.bK.length) (.sl 11 0 t.recv.buffer.bu.length)),.af 1 (t.send.ring.cells.map aW),.af 2 (t.send.pending.map ab.enc),.af 2 (t.send.flight.map ab.enc),.af 2 (t.send.bK.map ab.enc),.af 2 (t.recv.buffer.bu.map aB.enc)]⟩) (fun _=>True) ?_ ?_
 ·skip
  try simp only[go_sem,lM]
  repeat'((first|refine ae.af (by first|assumption|(apply P5<;>first|assumption|omega)) ?_|refine ao.af (by assumption) ?_)<;>simp only[go_sem,lM])
  cases hr:lX s.send f.code with
  |true=>
   rw[hr,if_pos rfl]at aX;simp only[go_sem];refine di.intro () [0,1,2,3,4,5,6,12,13,14,15,11] trivial ?_;simp only[go_sem,aX,e3,hy];simp
  |false=>
   rw[hr,if_neg (by simp)]at aX;simp only[go_sem];refine di.intro () [0,1,2,3,4,5,6,7,8,9,10,11] trivial ?_;simp only[go_sem,aX,hy];simp
 rintro _ _;have EY:y.streams.length≤1000:=by rw[hy];exact j7
 have EZ:∀q∈y.streams,dT q:=by rw[hy];exact kA
 rw[←hy]at hC;refine ej hZ 1 (α:=Unit) (fun _=>⟨(jn 4 (.ptr 2 0 0::.J::.ptr 3 0 0::jn 62 [])),[.box (I.bM c),.box (aq.bM f),.box I.bH,.box (I.vc ((dR y t)) (.sl 4 0 ((dR y t)).streams.length) (.sl 5 0 ((dR y t)).packets.length)),.af 39 (((dR y t)).streams.map aa.enc),.af 2 (((dR y t)).packets.map aC.enc)]⟩) (fun _=>True) ?_ ?_
 ·simp only[go_sem,lM];refine ae.iR [4,6] (by simp only[keepT,List.elem_cons,List.elem_nil,Nat.reduceBEq,Nat.reduceAdd,cond_true,cond_false];rfl) (x6 y t (.af 2 (y.packets.map aC.enc)) (fun _=>trivial) EY EZ pb [.box (I.bM c),.box (aq.bM f),.box I.bH] _ (by simp[roks,rok,a6,vok]) (by simp[a6,vok]) _ ?_);simp only[dY,dZ,e8,go_sem];have oj:(dR y t).packets=y.packets:=(zN y t).2;refine di.intro () [0,1,2,3,4,5] trivial ?_;simp only[go_sem];simp[oj]
 rintro _ _;refine gO hZ ?_
 try simp only[go_sem,lM]
 repeat'(first|(with_reducible refine al ?_)|fail)
 simp[hC,ah]
set_option maxRecDepth 100000
set_option maxHeartbeats 8000000 in
theorem acX(c:I)(f:aq)(m:Nat)(hv:b6 m c)(hm:m≤19)(hd:f.data.length≤8)(ax:0≤f.offset∧f.offset≤900):PureCall Tryz.prog 240 [.agg (I.enc c),.agg (aq.enc f)] [.agg (I.enc ((zk c f))),.one (.int .i64 (xZ c f))]:=by
 refine tC 88 Tryz.func240 Tryz.call240 [.cell 4 37,.tmp 5] ?_;intro ok;clear ok;have hz:=hv.sz (by omega);have jk:=iQ hz;have uq:=zl hv f.stream;have lN:=uq.sz (by omega);have j7:(bV c f.stream).streams.length≤1000:=by have:=lN.1;omega
 have kA:=lN.2.1;have hC:zk c f=if xZ c f=0 then dR (lp (bV c f.stream) (aE (bV c f.stream) f.stream) (ur f)) (AO (bV c f.stream) f)else c:=rfl
 have ah:xZ c f=if oL c f 8 then(if eD c.cr f.stream then(if gu c f.stream=0 then(if jY (bV c f.stream) (aE (bV c f.stream) f.stream) (ur f)=0 then vr (aE (bV c f.stream) f.stream).recv f.offset f.data f.bd else jY (bV c f.stream) (aE (bV c f.stream) f.stream) (ur f))else gu c f.stream)else 5)else 7:=rfl
 have aX:AO (bV c f.stream) f=gz (lq (aE (bV c f.stream) f.stream) (ur f)) (pE (aE (bV c f.stream) f.stream).recv f.offset f.data f.bd):=rfl;have pb:dT (AO (bV c f.stream) f):=(TT uq hd ax).sz (by omega);have yx:=uq.aE f.stream;have EV:=yx.eO;clear yx;have bw:=Nh c f 8;obtain⟨cU,c9,cq,dd⟩:=mR lN.2.1 f.stream;have x3:=cq;have cq:∀eO∈(strOf (bV c f.stream).streams f.stream).1.recv.buffer.bu,eO.data.length≤1048576:=fun eO hc=>by have:=cq eO hc;omega
 have b1:=mm (bV c f.stream) f.stream lN;rw[show(strOf (bV c f.stream).streams f.stream).1=aE (bV c f.stream) f.stream from rfl]at cU c9 cq x3 dd b1;have Ni:=GL c f.stream hz;generalize aE (bV c f.stream) f.stream=s at *;generalize bV c f.stream=x at *;refine ej hZ 6 (α:=Unit) (fun _=>⟨(.J::.J::.ptr 0 0 0::.ptr 1 0 0::.ptr 2 0 0::.J::.ptr 3 0 0::.J::.ptr 6 0 0::jn 79 []),[.box (I.bM c),.box (aq.bM f),.box I.bH,.box (I.vc x (.sl 4 0 x.streams.length) (.sl 5 0 x.packets.length)),.af 39 (x.streams.map aa.enc),.af 2 (x.packets.map aC.enc),.box (aa.vc s (.sl 7 0 s.send.ring.cells.length) (.sl 8 0 s.send.pending.length) (.sl 9 0 s.send.flight.length) (.sl 10 0 s.send.bK.length) (.sl 11 0 s.recv.buffer.bu.length)),.af 1 (s.send.ring.cells.map aW),.af 2 (s.send.pending.map ab.enc),.af 2 (s.send.flight.map ab.enc),.af 2 (s.send.bK.map ab.enc),.af 2 (s.recv.buffer.bu.map aB.enc)]⟩) (fun _=>oL c f 8=true∧eD c.cr f.stream=true∧gu c f.stream=0) ?_ ?_
 ·skip
  try simp only[go_sem]
  repeat'(first|((first|refine ae.af (by first|assumption|(apply vV<;>first|assumption|omega)) ?_|refine ao.af (by first|assumption|apply z') ?_|refine bb ?_)<;>simp only[go_sem])|(with_reducible refine al ?_)|fail)
  rw[bw]
  cases hg:oL c f 8 with
  |false=>
   rw[hg,if_neg (by simp)]at ah;rw[ah,if_neg (by decide)]at hC
   try simp only[go_sem,Bool.not_false]
   repeat'(first|((first|refine ae.af (by first|assumption|(apply gg<;>first|assumption|omega)) ?_|refine ao.af (by assumption) ?_)<;>simp only[go_sem,lM])|(with_reducible refine al ?_)|fail)
   simp[hC,ah]
  |true=>
   rw[hg,if_pos rfl]at ah
   try simp only[go_sem,Bool.not_true]
   repeat'(first|((first|refine ae.af (by first|assumption|apply Ik) ?_|refine ao.af (by assumption) ?_)<;>simp only[go_sem])|(with_reducible refine al ?_)|fail)
   cases kd:eD c.cr f.stream with
   |false=>
    rw[kd,if_neg (by simp)]at ah;rw[ah,if_neg (by decide)]at hC
    try simp only[go_sem,Bool.not_false]
    repeat'(first|((first|refine ae.af (by first|assumption|(apply gg<;>first|assumption|omega)) ?_|refine ao.af (by assumption) ?_)<;>simp only[go_sem,lM])|(with_reducible refine al ?_)|fail)
    simp[hC,ah]
   |true=>
    rw[kd,if_pos rfl]at ah
    try simp only[go_sem,Bool.not_true]
    repeat'((first|refine ae.af (by assumption) ?_|refine ao.af (by assumption) ?_)<;>simp only[go_sem,lM])
    cases kF:decide (gu c f.stream≠0)with
    |true=>
     have iM:=ch kF;rw[if_neg iM]at ah;rw[ah,if_neg iM]at hC
     try simp only[go_sem]
     repeat'(first|((first|refine ae.af (by first|assumption|(apply gg<;>first|assumption|omega)) ?_|refine ao.af (by assumption) ?_)<;>simp only[go_sem,lM])|(with_reducible refine al ?_)|fail)
     simp[hC,ah]
    |false=>
     have iM:gu c f.stream=0:=Decidable.not_not.1 (cD kF)
     try simp only[go_sem,lM]
     repeat'((first|refine ae.af (by assumption) ?_|refine ao.af (by assumption) ?_)<;>simp only[go_sem,lM])
     refine di.intro () [0,1,2,5,3,4,11,6,7,8,9,10] (by first|exact⟨hg,kd,iM⟩|(simp only[true_and];exact iM)|simp[iM]) ?_;simp only[go_sem];simp
 rintro _ ⟨hg,kd,kF⟩;rw[hg,if_pos rfl,kd,if_pos rfl,kF,if_pos rfl]at ah;have aI:pE s.recv f.offset f.data f.bd=pE s.recv f.offset f.data f.bd:=rfl;generalize Nj:pE s.recv f.offset f.data f.bd=r at aX aI;have aI:r=pE s.recv f.offset f.data f.bd:=Nj.symm;have Hn:IntKind.i64.wrap (f.offset+(f.data.length:Int))=ur f:=rfl;generalize ur f=e at *;refine ej hZ 1 (α:=Unit) (fun _=>⟨(.J::.J::.ptr 0 0 0::.ptr 1 0 0::.ptr 2 0 0::.J::.ptr 3 0 0::.J::.ptr 6 0 0::.J::.ptr 12 0 0::.d (.int .i64 (vr s.recv f.offset f.data f.bd))::jn 76 []),[.box (I.bM c),.box (aq.bM f),.box I.bH,.box (I.vc x (.sl 4 0 x.streams.length) (.sl 5 0 x.packets.length)),.af 39 (x.streams.map aa.enc),.af 2 (x.packets.map aC.enc),.box (aa.vc s (.sl 7 0 s.send.ring.cells.length) (.sl 8 0 s.send.pending.length) (.sl 9 0 s.send.flight.length) (.sl 10 0 s.send.bK.length) (.sl 11 0 s.recv.buffer.bu.length)),.af 1 (s.send.ring.cells.map aW),.af 2 (s.send.pending.map ab.enc),.af 2 (s.send.flight.map ab.enc),.af 2 (s.send.bK.map ab.enc),.af 2 (s.recv.buffer.bu.map aB.enc),.box (bA.vc r (.sl 13 0 r.buffer.bu.length)),.af 2 (r.buffer.bu.map aB.enc)]⟩) (fun _=>True) ?_ ?_
 ·skip
  try simp only[go_sem,lM]
  repeat'((first|refine ae.af (by first|assumption|(apply acY<;>first|assumption|omega)) ?_|refine ao.af (by assumption) ?_)<;>simp only[go_sem,lM])
  refine di.intro () [0,1,2,3,4,5,6,7,8,9,10,11,13,12] trivial ?_;simp only[go_sem];simp[←aI]
 rintro _ _;refine ej hZ 1 (α:=I×aa) (fun y=>⟨(.J::.J::.ptr 0 0 0::.ptr 1 0 0::.ptr 2 0 0::.J::.ptr 3 0 0::.d (.int .i64 (jY x s (e)))::.ptr 6 0 0::.J::.ptr 12 0 0::.d (.int .i64 (vr s.recv f.offset f.data f.bd))::jn 76 []),[.box (I.bM c),.box (aq.bM f),.box I.bH,.box (I.vc y.1 (.sl 4 0 y.1.streams.length) (.sl 5 0 y.1.packets.length)),.af 39 (y.1.streams.map aa.enc),.af 2 (y.1.packets.map aC.enc),.box (aa.vc y.2 (.sl 7 0 y.2.send.ring.cells.length) (.sl 8 0 y.2.send.pending.length) (.sl 9 0 y.2.send.flight.length) (.sl 10 0 y.2.send.bK.length) (.sl 11 0 y.2.recv.buffer.bu.length)),.af 1 (y.2.send.ring.cells.map aW),.af 2 (y.2.send.pending.map ab.enc),.af 2 (y.2.send.flight.map ab.enc),.af 2 (y.2.send.bK.map ab.enc),.af 2 (y.2.recv.buffer.bu.map aB.enc),.box (bA.vc r (.sl 13 0 r.buffer.bu.length)),.af 2 (r.buffer.bu.map aB.enc)]⟩) (fun y=>jY x s (e)=0→y.1=lp x s (e)∧y.2=lq s (e)) ?_ ?_
 ·simp only[go_sem,Hn];refine ae.iR [2,3,4,6,8,10,11] (by simp only[keepT,List.elem_cons,List.elem_nil,Nat.reduceBEq,Nat.reduceAdd,cond_true,cond_false];rfl) (en (n:=52) (rs:=[.tmp 6]) Tryz.func286 rfl Tryz.call286 hZ rfl rfl ?_);simp only[go_sem,lM]
  try simp only[go_sem,lM]
  repeat'((first|refine ae.intro (by first|assumption|(apply TU<;>first|assumption|omega)) ?_|refine ao.intro (by assumption) ?_)<;>simp only[go_sem])
  cases hn:decide (gA s.recv (e)=0)with
  |true=>
   have jx:vt s (e)=0:=ch hn;have ag:jY x s (e)=0:=by unfold jY;rw[if_pos jx]
   have e2:lp x s (e)=x:=by unfold lp;rw[if_pos jx]
   have aY:lq s (e)=s:=by unfold lq;rw[if_pos jx]
   try simp only[go_sem]
   refine di.intro (x,s) [0,1,2,3,4,5,6,7,8,9,10,11,12,13] (fun _=>⟨e2.symm,aY.symm⟩) ?_;simp only[go_sem,ag];simp
  |false=>
   have jx:¬vt s (e)=0:=cD hn;have ag:jY x s (e)=if iN s.bP (gA s.recv (e))&&iN x.dA (gA s.recv (e))then 0 else 3:=by unfold jY;rw[if_neg jx];rfl
   have e2:lp x s (e)={x with dA:=oM x.dA (gA s.recv (e))}:=by unfold lp;rw[if_neg jx];rfl
   have aY:lq s (e)={s with bP:=oM s.bP (gA s.recv (e))}:=by unfold lq;rw[if_neg jx];rfl
   try simp only[go_sem]
   repeat'((first|refine ae.intro (by first|assumption|apply TV) ?_|refine ao.intro (by assumption) ?_|refine bb ?_)<;>simp only[go_sem])
   have Nk:(bif !iN s.bP (gA s.recv (e))then true else !iN x.dA (gA s.recv (e)))=!(iN s.bP (gA s.recv (e))&&iN x.dA (gA s.recv (e))):=by
    cases iN s.bP (gA s.recv (e))<;>cases iN x.dA (gA s.recv (e))<;>rfl
   rw[Nk]
   cases hk:iN s.bP (gA s.recv (e))&&iN x.dA (gA s.recv (e))with
   |false=>
    rw[hk,if_neg (by simp)]at ag
    try simp only[go_sem,Bool.not_false]
    refine di.intro (x,s) [0,1,2,3,4,5,6,7,8,9,10,11,12,13] (fun h=>by rw[ag]at h;cases h) ?_;simp only[go_sem,ag];simp
   |true=>
    rw[hk,if_pos rfl]at ag
    try simp only[go_sem,Bool.not_true]
    refine di.intro ({x with dA:=oM x.dA (gA s.recv (e))},{s with bP:=oM s.bP (gA s.recv (e))}) [0,1,2,3,4,5,6,7,8,9,10,11,12,13] (fun _=>⟨e2.symm,aY.symm⟩) ?_;simp only[go_sem,ag];simp
 rintro⟨x2,u⟩ EW;simp only at EW;refine ej hZ 2 (α:=Unit) (fun _=>⟨(.J::.J::.ptr 0 0 0::.ptr 1 0 0::.ptr 2 0 0::.J::.ptr 3 0 0::.J::.ptr 6 0 0::.J::.ptr 12 0 0::jn 77 []),[.box (I.bM c),.box (aq.bM f),.box I.bH,.box (I.vc x2 (.sl 4 0 x2.streams.length) (.sl 5 0 x2.packets.length)),.af 39 (x2.streams.map aa.enc),.af 2 (x2.packets.map aC.enc),.box (aa.vc u (.sl 7 0 u.send.ring.cells.length) (.sl 8 0 u.send.pending.length) (.sl 9 0 u.send.flight.length) (.sl 10 0 u.send.bK.length) (.sl 11 0 u.recv.buffer.bu.length)),.af 1 (u.send.ring.cells.map aW),.af 2 (u.send.pending.map ab.enc),.af 2 (u.send.flight.map ab.enc),.af 2 (u.send.bK.map ab.enc),.af 2 (u.recv.buffer.bu.map aB.enc),.box (bA.vc r (.sl 13 0 r.buffer.bu.length)),.af 2 (r.buffer.bu.map aB.enc)]⟩) (fun _=>jY x s (e)=0∧vr s.recv f.offset f.data f.bd=0) ?_ ?_
 ·simp only[go_sem]
  cases vu:decide (jY x s (e)≠0)with
  |true=>
   have pF:=ch vu;rw[if_neg pF]at ah;rw[ah,if_neg pF]at hC
   try simp only[go_sem]
   repeat'(first|((first|refine ae.af (by first|assumption|(apply gg<;>first|assumption|omega)) ?_|refine ao.af (by assumption) ?_|refine bb ?_)<;>simp only[go_sem,lM])|(with_reducible refine al ?_)|fail)
   simp[hC,ah]
  |false=>
   have pF:=Decidable.not_not.1 (cD vu);rw[pF,if_pos rfl]at ah;simp only[go_sem]
   cases x4:decide (vr s.recv f.offset f.data f.bd≠0)with
   |true=>
    have x5:=ch x4;rw[ah,if_neg x5]at hC
    try simp only[go_sem]
    repeat'(first|((first|refine ae.af (by first|assumption|(apply gg<;>first|assumption|omega)) ?_|refine ao.af (by assumption) ?_)<;>simp only[go_sem,lM])|(with_reducible refine al ?_)|fail)
    simp[hC,ah]
   |false=>
    have x5:=Decidable.not_not.1 (cD x4);simp only[go_sem];refine di.intro () [0,1,2,3,4,5,6,7,8,9,10,11,12,13] (by first|exact⟨pF,x5⟩|simp[pF,x5]) ?_;simp only[go_sem];simp
 rintro _ ⟨vu,x4⟩;obtain⟨y2,hu⟩:=EW vu;rw[vu,if_pos rfl,x4]at ah;rw[ah,if_pos rfl]at hC;obtain⟨y,hy⟩:∃y,y=x2:=⟨_,rfl⟩;have EX:y.streams=x.streams:=by rw[hy,y2];exact(Il _ _ _).1
 have EY:y.streams.length≤1000:=by rw[EX];exact j7
 have EZ:∀q∈y.streams,dT q:=by rw[EX];exact kA
 rw[←hu]at aX;rw[←y2,←hy]at hC;generalize AO x f=t at *;refine ej hZ 1 (α:=Unit) (fun _=>⟨(jn 4 (.ptr 2 0 0::.J::.ptr 3 0 0::.J::.ptr 6 0 0::jn 79 [])),[.box (I.bM c),.box (aq.bM f),.box I.bH,.box (I.vc y (.sl 4 0 y.streams.length) (.sl 5 0 y.packets.length)),.af 39 (y.streams.map aa.enc),.af 2 (y.packets.map aC.enc),.box (aa.vc t (.sl 7 0 t.send.ring.cells.length) (.sl 8 0 t.send.pending.length) (.sl 9 0 t.send.flight.length) (.sl 10 0 t.send.bK.length) (.sl 11 0 t.recv.buffer.bu.length)),.af 1 (t.send.ring.cells.map aW),.af 2 (t.send.pending.map ab.enc),.af 2 (t.send.flight.map ab.enc),.af 2 (t.send.bK.map ab.enc),.af 2 (t.recv.buffer.bu.map aB.enc)]⟩) (fun _=>True) ?_ ?_
 ·simp only[go_sem];refine di.intro () [0,1,2,3,4,5,6,7,8,9,10,13] trivial ?_;simp only[go_sem,aX,hy,gz];simp
 rintro _ _;refine ej hZ 1 (α:=Unit) (fun _=>⟨(jn 4 (.ptr 2 0 0::.J::.ptr 3 0 0::jn 81 [])),[.box (I.bM c),.box (aq.bM f),.box I.bH,.box (I.vc ((dR y t)) (.sl 4 0 ((dR y t)).streams.length) (.sl 5 0 ((dR y t)).packets.length)),.af 39 (((dR y t)).streams.map aa.enc),.af 2 (((dR y t)).packets.map aC.enc)]⟩) (fun _=>True) ?_ ?_
 ·simp only[go_sem,lM];refine ae.iR [4,6] (by simp only[keepT,List.elem_cons,List.elem_nil,Nat.reduceBEq,Nat.reduceAdd,cond_true,cond_false];rfl) (x6 y t (.af 2 (y.packets.map aC.enc)) (fun _=>trivial) EY EZ pb [.box (I.bM c),.box (aq.bM f),.box I.bH] _ (by simp[roks,rok,a6,vok]) (by simp[a6,vok]) _ ?_);simp only[dY,dZ,e8,go_sem];have oj:(dR y t).packets=y.packets:=(zN y t).2;refine di.intro () [0,1,2,3,4,5] trivial ?_;simp only[go_sem];simp[oj]
 rintro _ _;refine gO hZ ?_
 try simp only[go_sem,lM]
 repeat'(first|(with_reducible refine al ?_)|fail)
 simp[hC,ah]
set_option maxRecDepth 100000
set_option maxHeartbeats 8000000 in
theorem ac9(c:I)(f:aq)(m:Nat)(hv:b6 m c)(hm:m≤19):PureCall Tryz.prog 241 [.agg (I.enc c),.agg (aq.enc f)] [.agg (I.enc ((zm c f))),.one (.int .i64 (x8 c f))]:=by
 refine tC 94 Tryz.func241 Tryz.call241 [.cell 4 37,.tmp 5] ?_;intro ok;clear ok;have hz:=hv.sz (by omega);have jk:=iQ hz;have uq:=zl hv f.stream;have lN:=uq.sz (by omega);have j7:(bV c f.stream).streams.length≤1000:=by have:=lN.1;omega
 have kA:=lN.2.1;have hC:zm c f=if x8 c f=0 then dR (x9 (bV c f.stream) f) (wS (bV c f.stream) f)else c:=rfl
 have ah:x8 c f=if oL c f 4 then(if eD c.cr f.stream then(if gu c f.stream=0 then(if jY (bV c f.stream) (aE (bV c f.stream) f.stream) f.bj=0 then wT (aE (bV c f.stream) f.stream).recv f.code f.bj else jY (bV c f.stream) (aE (bV c f.stream) f.stream) f.bj)else gu c f.stream)else 5)else 7:=rfl
 have hB:AQ (bV c f.stream) f=(decide ((vx (aE (bV c f.stream) f.stream).recv f.code f.bj).state=4)&&decide ((aE (bV c f.stream) f.stream).recv.state≠4)):=rfl;have aX:wS (bV c f.stream) f=gz (if AQ (bV c f.stream) f then wQ (lq (aE (bV c f.stream) f.stream) f.bj) f.bj else lq (aE (bV c f.stream) f.stream) f.bj) (vx (aE (bV c f.stream) f.stream).recv f.code f.bj):=rfl;have b_:x9 (bV c f.stream) f=if AQ (bV c f.stream) f then uw (lp (bV c f.stream) (aE (bV c f.stream) f.stream) f.bj) (lq (aE (bV c f.stream) f.stream) f.bj) f.bj else lp (bV c f.stream) (aE (bV c f.stream) f.stream) f.bj:=rfl
 have pb:dT (wS (bV c f.stream) f):=(T1 uq).sz (by omega);have E4:(x9 (bV c f.stream) f).streams=(bV c f.stream).streams:=(Nq _ f).1;have EV:=(uq.aE f.stream).eO;have bw:=Nh c f 4;obtain⟨cU,c9,cq,dd⟩:=mR lN.2.1 f.stream;have x3:=cq;have cq:∀eO∈(strOf (bV c f.stream).streams f.stream).1.recv.buffer.bu,eO.data.length≤1048576:=fun eO hc=>by have:=cq eO hc;omega
 have b1:=mm (bV c f.stream) f.stream lN;rw[show(strOf (bV c f.stream).streams f.stream).1=aE (bV c f.stream) f.stream from rfl]at cU c9 cq x3 dd b1;have Ni:=GL c f.stream hz;generalize aE (bV c f.stream) f.stream=s at *;generalize bV c f.stream=x at *;refine ej hZ 6 (α:=Unit) (fun _=>⟨(.J::.J::.ptr 0 0 0::.ptr 1 0 0::.ptr 2 0 0::.J::.ptr 3 0 0::.J::.ptr 6 0 0::jn 85 []),[.box (I.bM c),.box (aq.bM f),.box I.bH,.box (I.vc x (.sl 4 0 x.streams.length) (.sl 5 0 x.packets.length)),.af 39 (x.streams.map aa.enc),.af 2 (x.packets.map aC.enc),.box (aa.vc s (.sl 7 0 s.send.ring.cells.length) (.sl 8 0 s.send.pending.length) (.sl 9 0 s.send.flight.length) (.sl 10 0 s.send.bK.length) (.sl 11 0 s.recv.buffer.bu.length)),.af 1 (s.send.ring.cells.map aW),.af 2 (s.send.pending.map ab.enc),.af 2 (s.send.flight.map ab.enc),.af 2 (s.send.bK.map ab.enc),.af 2 (s.recv.buffer.bu.map aB.enc)]⟩) (fun _=>oL c f 4=true∧eD c.cr f.stream=true∧gu c f.stream=0) ?_ ?_
 ·skip
  try simp only[go_sem]
  repeat'(first|((first|refine ae.af (by first|assumption|(apply vV<;>first|assumption|omega)) ?_|refine ao.af (by first|assumption|apply z') ?_|refine bb ?_)<;>simp only[go_sem])|(with_reducible refine al ?_)|fail)
  rw[bw]
  cases hg:oL c f 4 with
  |false=>
   rw[hg,if_neg (by simp)]at ah;rw[ah,if_neg (by decide)]at hC
   try simp only[go_sem,Bool.not_false]
   repeat'(first|((first|refine ae.af (by first|assumption|(apply gg<;>first|assumption|omega)) ?_|refine ao.af (by assumption) ?_)<;>simp only[go_sem,lM])|(with_reducible refine al ?_)|fail)
   simp[hC,ah]
  |true=>
   rw[hg,if_pos rfl]at ah
   try simp only[go_sem,Bool.not_true]
   repeat'((first|refine ae.af (by first|assumption|apply Ik) ?_|refine ao.af (by assumption) ?_|refine bb ?_)<;>simp only[go_sem])
   cases kd:eD c.cr f.stream with
   |false=>
    rw[kd,if_neg (by simp)]at ah;rw[ah,if_neg (by decide)]at hC
    try simp only[go_sem,Bool.not_false]
    repeat'(first|((first|refine ae.af (by first|assumption|(apply gg<;>first|assumption|omega)) ?_|refine ao.af (by assumption) ?_)<;>simp only[go_sem,lM])|(with_reducible refine al ?_)|fail)
    simp[hC,ah]
   |true=>
    rw[kd,if_pos rfl]at ah
    try simp only[go_sem,Bool.not_true]
    repeat'((first|refine ae.af (by assumption) ?_|refine ao.af (by assumption) ?_)<;>simp only[go_sem,lM])
    cases kF:decide (gu c f.stream≠0)with
    |true=>
     have iM:=ch kF;rw[if_neg iM]at ah;rw[ah,if_neg iM]at hC
     try simp only[go_sem]
     repeat'(first|((first|refine ae.af (by first|assumption|(apply gg<;>first|assumption|omega)) ?_|refine ao.af (by assumption) ?_)<;>simp only[go_sem,lM])|(with_reducible refine al ?_)|fail)
     simp[hC,ah]
    |false=>
     have iM:gu c f.stream=0:=Decidable.not_not.1 (cD kF)
     try simp only[go_sem,lM]
     repeat'((first|refine ae.af (by assumption) ?_|refine ao.af (by assumption) ?_)<;>simp only[go_sem,lM])
     refine di.intro () [0,1,2,5,3,4,11,6,7,8,9,10] (by first|exact⟨hg,kd,iM⟩|(simp only[true_and];exact iM)|simp[iM]) ?_;simp only[go_sem];simp
 rintro _ ⟨hg,kd,kF⟩;rw[hg,if_pos rfl,kd,if_pos rfl,kF,if_pos rfl]at ah;generalize Nj:vx s.recv f.code f.bj=r at aX hB;have aI:r=vx s.recv f.code f.bj:=Nj.symm;refine ej hZ 1 (α:=Unit) (fun _=>⟨(.J::.J::.ptr 0 0 0::.ptr 1 0 0::.ptr 2 0 0::.J::.ptr 3 0 0::.J::.ptr 6 0 0::.J::.ptr 12 0 0::.d (.int .i64 (wT s.recv f.code f.bj))::jn 82 []),[.box (I.bM c),.box (aq.bM f),.box I.bH,.box (I.vc x (.sl 4 0 x.streams.length) (.sl 5 0 x.packets.length)),.af 39 (x.streams.map aa.enc),.af 2 (x.packets.map aC.enc),.box (aa.vc s (.sl 7 0 s.send.ring.cells.length) (.sl 8 0 s.send.pending.length) (.sl 9 0 s.send.flight.length) (.sl 10 0 s.send.bK.length) (.sl 11 0 s.recv.buffer.bu.length)),.af 1 (s.send.ring.cells.map aW),.af 2 (s.send.pending.map ab.enc),.af 2 (s.send.flight.map ab.enc),.af 2 (s.send.bK.map ab.enc),.af 2 (s.recv.buffer.bu.map aB.enc),.box (bA.vc r (.sl 13 0 r.buffer.bu.length)),.af 2 (r.buffer.bu.map aB.enc)]⟩) (fun _=>True) ?_ ?_
 ·skip
  try simp only[go_sem,lM]
  repeat'((first|refine ae.af (by first|assumption|(apply adg<;>first|assumption|omega)) ?_|refine ao.af (by assumption) ?_)<;>simp only[go_sem,lM])
  refine di.intro () [0,1,2,3,4,5,6,7,8,9,10,11,13,12] trivial ?_;simp only[go_sem];simp[←aI]
 rintro _ _;refine ej hZ 1 (α:=I×aa) (fun y=>⟨(.J::.J::.ptr 0 0 0::.ptr 1 0 0::.ptr 2 0 0::.J::.ptr 3 0 0::.d (.int .i64 (jY x s (f.bj)))::.ptr 6 0 0::.J::.ptr 12 0 0::.d (.int .i64 (wT s.recv f.code f.bj))::jn 82 []),[.box (I.bM c),.box (aq.bM f),.box I.bH,.box (I.vc y.1 (.sl 4 0 y.1.streams.length) (.sl 5 0 y.1.packets.length)),.af 39 (y.1.streams.map aa.enc),.af 2 (y.1.packets.map aC.enc),.box (aa.vc y.2 (.sl 7 0 y.2.send.ring.cells.length) (.sl 8 0 y.2.send.pending.length) (.sl 9 0 y.2.send.flight.length) (.sl 10 0 y.2.send.bK.length) (.sl 11 0 y.2.recv.buffer.bu.length)),.af 1 (y.2.send.ring.cells.map aW),.af 2 (y.2.send.pending.map ab.enc),.af 2 (y.2.send.flight.map ab.enc),.af 2 (y.2.send.bK.map ab.enc),.af 2 (y.2.recv.buffer.bu.map aB.enc),.box (bA.vc r (.sl 13 0 r.buffer.bu.length)),.af 2 (r.buffer.bu.map aB.enc)]⟩) (fun y=>jY x s (f.bj)=0→y.1=lp x s (f.bj)∧y.2=lq s (f.bj)) ?_ ?_
 ·simp only[go_sem];refine ae.iR [2,3,4,6,8,10,11] (by simp only[keepT,List.elem_cons,List.elem_nil,Nat.reduceBEq,Nat.reduceAdd,cond_true,cond_false];rfl) (en (n:=52) (rs:=[.tmp 6]) Tryz.func286 rfl Tryz.call286 hZ rfl rfl ?_);simp only[go_sem,lM]
  try simp only[go_sem,lM]
  repeat'((first|refine ae.intro (by first|assumption|(apply TU<;>first|assumption|omega)) ?_|refine ao.intro (by assumption) ?_)<;>simp only[go_sem])
  cases hn:decide (gA s.recv (f.bj)=0)with
  |true=>
   have jx:vt s (f.bj)=0:=ch hn;have ag:jY x s (f.bj)=0:=by unfold jY;rw[if_pos jx]
   have e2:lp x s (f.bj)=x:=by unfold lp;rw[if_pos jx]
   have aY:lq s (f.bj)=s:=by unfold lq;rw[if_pos jx]
   try simp only[go_sem]
   refine di.intro (x,s) [0,1,2,3,4,5,6,7,8,9,10,11,12,13] (fun _=>⟨e2.symm,aY.symm⟩) ?_;simp only[go_sem,ag];simp
  |false=>
   have jx:¬vt s (f.bj)=0:=cD hn;have ag:jY x s (f.bj)=if iN s.bP (gA s.recv (f.bj))&&iN x.dA (gA s.recv (f.bj))then 0 else 3:=by unfold jY;rw[if_neg jx];rfl
   have e2:lp x s (f.bj)={x with dA:=oM x.dA (gA s.recv (f.bj))}:=by unfold lp;rw[if_neg jx];rfl
   have aY:lq s (f.bj)={s with bP:=oM s.bP (gA s.recv (f.bj))}:=by unfold lq;rw[if_neg jx];rfl
   try simp only[go_sem]
   repeat'((first|refine ae.intro (by first|assumption|apply TV) ?_|refine ao.intro (by assumption) ?_|refine bb ?_)<;>simp only[go_sem])
   have Nk:(bif !iN s.bP (gA s.recv (f.bj))then true else !iN x.dA (gA s.recv (f.bj)))=!(iN s.bP (gA s.recv (f.bj))&&iN x.dA (gA s.recv (f.bj))):=by
    cases iN s.bP (gA s.recv (f.bj))<;>cases iN x.dA (gA s.recv (f.bj))<;>rfl
   rw[Nk]
   cases hk:iN s.bP (gA s.recv (f.bj))&&iN x.dA (gA s.recv (f.bj))with
   |false=>
    rw[hk,if_neg (by simp)]at ag
    try simp only[go_sem,Bool.not_false]
    refine di.intro (x,s) [0,1,2,3,4,5,6,7,8,9,10,11,12,13] (fun h=>by rw[ag]at h;cases h) ?_;simp only[go_sem,ag];simp
   |true=>
    rw[hk,if_pos rfl]at ag
    try simp only[go_sem,Bool.not_true]
    refine di.intro ({x with dA:=oM x.dA (gA s.recv (f.bj))},{s with bP:=oM s.bP (gA s.recv (f.bj))}) [0,1,2,3,4,5,6,7,8,9,10,11,12,13] (fun _=>⟨e2.symm,aY.symm⟩) ?_;simp only[go_sem,ag];simp
 rintro⟨x2,u⟩ EW;simp only at EW;refine ej hZ 2 (α:=Unit) (fun _=>⟨(.J::.J::.ptr 0 0 0::.ptr 1 0 0::.ptr 2 0 0::.J::.ptr 3 0 0::.J::.ptr 6 0 0::.J::.ptr 12 0 0::jn 83 []),[.box (I.bM c),.box (aq.bM f),.box I.bH,.box (I.vc x2 (.sl 4 0 x2.streams.length) (.sl 5 0 x2.packets.length)),.af 39 (x2.streams.map aa.enc),.af 2 (x2.packets.map aC.enc),.box (aa.vc u (.sl 7 0 u.send.ring.cells.length) (.sl 8 0 u.send.pending.length) (.sl 9 0 u.send.flight.length) (.sl 10 0 u.send.bK.length) (.sl 11 0 u.recv.buffer.bu.length)),.af 1 (u.send.ring.cells.map aW),.af 2 (u.send.pending.map ab.enc),.af 2 (u.send.flight.map ab.enc),.af 2 (u.send.bK.map ab.enc),.af 2 (u.recv.buffer.bu.map aB.enc),.box (bA.vc r (.sl 13 0 r.buffer.bu.length)),.af 2 (r.buffer.bu.map aB.enc)]⟩) (fun _=>jY x s (f.bj)=0∧wT s.recv f.code f.bj=0) ?_ ?_
 ·simp only[go_sem]
  cases vu:decide (jY x s (f.bj)≠0)with
  |true=>
   have pF:=ch vu;rw[if_neg pF]at ah;rw[ah,if_neg pF]at hC
   try simp only[go_sem]
   repeat'(first|((first|refine ae.af (by first|assumption|(apply gg<;>first|assumption|omega)) ?_|refine ao.af (by assumption) ?_|refine bb ?_)<;>simp only[go_sem,lM])|(with_reducible refine al ?_)|fail)
   simp[hC,ah]
  |false=>
   have pF:=Decidable.not_not.1 (cD vu);rw[pF,if_pos rfl]at ah;simp only[go_sem]
   cases x4:decide (wT s.recv f.code f.bj≠0)with
   |true=>
    have x5:=ch x4;rw[ah,if_neg x5]at hC
    try simp only[go_sem]
    repeat'(first|((first|refine ae.af (by first|assumption|(apply gg<;>first|assumption|omega)) ?_|refine ao.af (by assumption) ?_)<;>simp only[go_sem,lM])|(with_reducible refine al ?_)|fail)
    simp[hC,ah]
   |false=>
    have x5:=Decidable.not_not.1 (cD x4);simp only[go_sem];refine di.intro () [0,1,2,3,4,5,6,7,8,9,10,11,12,13] (by first|exact⟨pF,x5⟩|simp[pF,x5]) ?_;simp only[go_sem];simp
 rintro _ ⟨vu,x4⟩;obtain⟨y2,hu⟩:=EW vu;rw[vu,if_pos rfl,x4]at ah;rw[ah,if_pos rfl]at hC;have adh:u.recv.state=s.recv.state:=by rw[hu,(Ip s f.bj).2.1]
 rw[←adh]at hB;rw[←hu]at aX b_;rw[←y2]at b_;have adi:(bif decide (r.state=4)then decide (u.recv.state≠4)else false)=AQ x f:=by rw[hB];cases decide (r.state=4)<;>rfl
 generalize AQ x f=B at *;refine ej hZ 1 (α:=I×aa) (fun y=>⟨(.J::.J::.ptr 0 0 0::.ptr 1 0 0::.ptr 2 0 0::.J::.ptr 3 0 0::.J::.ptr 6 0 0::.J::.ptr 12 0 0::jn 83 []),[.box (I.bM c),.box (aq.bM f),.box I.bH,.box (I.vc y.1 (.sl 4 0 y.1.streams.length) (.sl 5 0 y.1.packets.length)),.af 39 (y.1.streams.map aa.enc),.af 2 (y.1.packets.map aC.enc),.box (aa.vc y.2 (.sl 7 0 y.2.send.ring.cells.length) (.sl 8 0 y.2.send.pending.length) (.sl 9 0 y.2.send.flight.length) (.sl 10 0 y.2.send.bK.length) (.sl 11 0 y.2.recv.buffer.bu.length)),.af 1 (y.2.send.ring.cells.map aW),.af 2 (y.2.send.pending.map ab.enc),.af 2 (y.2.send.flight.map ab.enc),.af 2 (y.2.send.bK.map ab.enc),.af 2 (y.2.recv.buffer.bu.map aB.enc),.box (bA.vc r (.sl 13 0 r.buffer.bu.length)),.af 2 (r.buffer.bu.map aB.enc)]⟩) (fun y=>y.1=x9 x f∧gz y.2 r=wS x f) ?_ ?_
 ·skip
  try simp only[go_sem]
  repeat'(refine bb ?_<;>simp only[go_sem])
  rw[adi]
  cases B with
  |false=>
   rw[if_neg (by simp)]at aX b_;simp only[go_sem];refine di.intro (x2,u) [0,1,2,3,4,5,6,7,8,9,10,11,12,13] ⟨b_.symm,aX.symm⟩ ?_;simp only[go_sem];simp
  |true=>
   rw[if_pos rfl]at aX b_;simp only[go_sem];refine ae.iR [2,3,4,6,8,10] (by simp only[keepT,List.elem_cons,List.elem_nil,Nat.reduceBEq,Nat.reduceAdd,cond_true,cond_false];rfl) (en (n:=45) (rs:=[]) Tryz.func233 rfl Tryz.call233 hZ rfl rfl ?_);simp only[go_sem]
   try simp only[go_sem,lM]
   repeat'(first|((first|refine ae.intro (by first|assumption|apply T0) ?_|refine ao.intro (by assumption) ?_)<;>simp only[go_sem])|(with_reducible refine al ?_)|fail)
   refine di.intro (uw x2 u f.bj,wQ u f.bj) [0,1,2,3,4,5,6,7,8,9,10,11,12,13] ⟨b_.symm,aX.symm⟩ ?_;simp only[go_sem,uw,wQ,Io,dL];simp
 rintro⟨y,v⟩ ⟨hy,Nr⟩;simp only at hy Nr;have EX:y.streams=x.streams:=by rw[hy];exact E4
 have EY:y.streams.length≤1000:=by rw[EX];exact j7
 have EZ:∀q∈y.streams,dT q:=by rw[EX];exact kA
 rw[←hy,←Nr]at hC;rw[←Nr]at pb;obtain⟨t,ht⟩:∃t,t=gz v r:=⟨_,rfl⟩;rw[←ht]at hC pb;refine ej hZ 1 (α:=Unit) (fun _=>⟨(jn 4 (.ptr 2 0 0::.J::.ptr 3 0 0::.J::.ptr 6 0 0::jn 85 [])),[.box (I.bM c),.box (aq.bM f),.box I.bH,.box (I.vc y (.sl 4 0 y.streams.length) (.sl 5 0 y.packets.length)),.af 39 (y.streams.map aa.enc),.af 2 (y.packets.map aC.enc),.box (aa.vc t (.sl 7 0 t.send.ring.cells.length) (.sl 8 0 t.send.pending.length) (.sl 9 0 t.send.flight.length) (.sl 10 0 t.send.bK.length) (.sl 11 0 t.recv.buffer.bu.length)),.af 1 (t.send.ring.cells.map aW),.af 2 (t.send.pending.map ab.enc),.af 2 (t.send.flight.map ab.enc),.af 2 (t.send.bK.map ab.enc),.af 2 (t.recv.buffer.bu.map aB.enc)]⟩) (fun _=>True) ?_ ?_
 ·simp only[go_sem];refine di.intro () [0,1,2,3,4,5,6,7,8,9,10,13] trivial ?_;simp only[go_sem,ht,gz];simp
 rintro _ _;refine ej hZ 1 (α:=Unit) (fun _=>⟨(jn 4 (.ptr 2 0 0::.J::.ptr 3 0 0::jn 87 [])),[.box (I.bM c),.box (aq.bM f),.box I.bH,.box (I.vc ((dR y t)) (.sl 4 0 ((dR y t)).streams.length) (.sl 5 0 ((dR y t)).packets.length)),.af 39 (((dR y t)).streams.map aa.enc),.af 2 (((dR y t)).packets.map aC.enc)]⟩) (fun _=>True) ?_ ?_
 ·simp only[go_sem,lM];refine ae.iR [4,6] (by simp only[keepT,List.elem_cons,List.elem_nil,Nat.reduceBEq,Nat.reduceAdd,cond_true,cond_false];rfl) (x6 y t (.af 2 (y.packets.map aC.enc)) (fun _=>trivial) EY EZ pb [.box (I.bM c),.box (aq.bM f),.box I.bH] _ (by simp[roks,rok,a6,vok]) (by simp[a6,vok]) _ ?_);simp only[dY,dZ,e8,go_sem];have oj:(dR y t).packets=y.packets:=(zN y t).2;refine di.intro () [0,1,2,3,4,5] trivial ?_;simp only[go_sem];simp[oj]
 rintro _ _;refine gO hZ ?_
 try simp only[go_sem,lM]
 repeat'(first|(refine bb ?_<;>simp only[go_sem,lM])|(with_reducible refine al ?_)|fail)
 simp[hC,ah]
set_option maxRecDepth 100000
set_option maxHeartbeats 8000000 in
theorem acZ(c:I)(f:aq)(m:Nat)(hv:b6 m c)(hm:m≤19):PureCall Tryz.prog 290 [.agg (I.enc c),.agg (aq.enc f)] [.agg (I.enc ((CF c f))),.one (.int .i64 (AP c f))]:=by
 refine aL 62 Tryz.func290 Tryz.call290 [.cell 4 37,.tmp 5] ?_;intro ok;clear ok;have hz:=hv.sz (by omega);have jk:=iQ hz;have uq:=zl hv f.stream;have lN:=uq.sz (by omega);have Ni:=GL c f.stream hz;have b1:=mm (bV c f.stream) f.stream lN;rw[show(strOf (bV c f.stream).streams f.stream).1=aE (bV c f.stream) f.stream from rfl]at b1;have uO:dT (aE (bV c f.stream) f.stream):=mR lN.2.1 f.stream;have cB:dT (CG (bV c f.stream) f):=uO;have gp:=k4 (bV c f.stream).streams (CG (bV c f.stream) f) (by have:=lN.1;omega) lN.2.1 cB;have hC:CF c f=if AP c f=0 then(if f.kind=17 then la (bV c f.stream) (CG (bV c f.stream) f)else bV c f.stream)else c:=rfl
 have ah:AP c f=if CH c f then gu c f.stream else 5:=rfl
 have aX:CG (bV c f.stream) f={aE (bV c f.stream) f.stream with cV:=wN (aE (bV c f.stream) f.stream).cV f.a8}:=rfl;rw[aX]at gp hC;generalize aE (bV c f.stream) f.stream=s at *;generalize bV c f.stream=x at *;obtain⟨cU,c9,cq,dd⟩:=uO
 try simp only[go_sem]
 repeat'((first|refine ae.af (by first|assumption|apply Nl) ?_|refine ao.af (by assumption) ?_)<;>simp only[go_sem])
 cases E0:decide (f.kind=21)with
 |true=>
  have Nn:=ch E0;have hk:CH c f=eD c.cr f.stream:=by unfold CH;exact if_pos Nn
  rw[hk]at ah;rw[if_neg (show ¬f.kind=17 by omega)]at hC;have uu:decide (f.kind=17)=false:=a_ (by omega)
  try simp only[go_sem]
  repeat'((first|refine ae.af (by first|assumption|apply Ik) ?_|refine ao.af (by assumption) ?_)<;>simp only[go_sem])
  cases kd:eD c.cr f.stream with
  |false=>
   rw[kd,if_neg (by simp)]at ah;rw[ah,if_neg (by decide)]at hC
   try simp only[go_sem,Bool.not_false]
   repeat'(first|((first|refine ae.af (by first|assumption|(apply gg<;>first|assumption|omega)) ?_|refine ao.af (by assumption) ?_)<;>simp only[go_sem,lM])|(with_reducible refine al ?_)|fail)
   simp[hC,ah]
  |true=>
   rw[kd,if_pos rfl]at ah
   try simp only[go_sem,Bool.not_true]
   repeat'((first|refine ae.af (by assumption) ?_|refine ao.af (by assumption) ?_)<;>simp only[go_sem,lM])
   cases kF:decide (gu c f.stream≠0)with
   |true=>
    have iM:=ch kF;rw[ah,if_neg iM]at hC
    try simp only[go_sem]
    repeat'(first|((first|refine ae.af (by first|assumption|(apply gg<;>first|assumption|omega)) ?_|refine ao.af (by assumption) ?_)<;>simp only[go_sem,lM])|(with_reducible refine al ?_)|fail)
    simp[hC,ah]
   |false=>
    have iM:gu c f.stream=0:=Decidable.not_not.1 (cD kF);rw[iM]at ah;rw[ah,if_pos rfl]at hC
    try simp only[go_sem,lM,uu]
    repeat'(first|(with_reducible refine al ?_)|fail)
    simp[hC,ah]
 |false=>
  have Nn:=cD E0;have hk:CH c f=ee c.cr f.stream:=by unfold CH;exact if_neg Nn
  rw[hk]at ah;simp only[go_sem]
  try simp only[go_sem,lM]
  repeat'((first|refine ae.af (by assumption) ?_|refine ao.af (by assumption) ?_)<;>simp only[go_sem,lM])
  cases kd:ee c.cr f.stream with
  |false=>
   rw[kd,if_neg (by simp)]at ah;rw[ah,if_neg (by decide)]at hC
   try simp only[go_sem,Bool.not_false]
   repeat'(first|((first|refine ae.af (by first|assumption|(apply gg<;>first|assumption|omega)) ?_|refine ao.af (by assumption) ?_)<;>simp only[go_sem,lM])|(with_reducible refine al ?_)|fail)
   simp[hC,ah]
  |true=>
   rw[kd,if_pos rfl]at ah
   try simp only[go_sem,Bool.not_true]
   repeat'((first|refine ae.af (by assumption) ?_|refine ao.af (by assumption) ?_)<;>simp only[go_sem,lM])
   cases kF:decide (gu c f.stream≠0)with
   |true=>
    have iM:=ch kF;rw[ah,if_neg iM]at hC
    try simp only[go_sem]
    repeat'(first|((first|refine ae.af (by first|assumption|(apply gg<;>first|assumption|omega)) ?_|refine ao.af (by assumption) ?_)<;>simp only[go_sem,lM])|(with_reducible refine al ?_)|fail)
    simp[hC,ah]
   |false=>
    have iM:gu c f.stream=0:=Decidable.not_not.1 (cD kF);rw[iM]at ah;rw[ah,if_pos rfl]at hC;simp only[go_sem]
    cases uu:decide (f.kind=17)with
    |true=>
     rw[if_pos (ch uu)]at hC
     try simp only[go_sem,lM]
     repeat'(first|((first|refine ae.af (by first|assumption|apply TW) ?_|refine ao.af (by assumption) ?_)<;>simp only[go_sem,lM])|(with_reducible refine al ?_)|fail)
     simp[hC,ah,la]
    |false=>
     rw[if_neg (cD uu)]at hC
     try simp only[go_sem,lM]
     repeat'(first|(with_reducible refine al ?_)|fail)
     simp[hC,ah]
theorem ac0(c:I)(f:aq):(bif !eQ c then true else !e_ f)=!E1 c f:=by
 unfold E1
 cases eQ c<;>cases e_ f<;>rfl
set_option maxHeartbeats 8000000 in
theorem ac1(c:I)(f:aq)(m:Nat)(hv:b6 m c)(hm:m≤19):PureCall Tryz.prog 243 [.agg (I.enc c),.agg (aq.enc f)] [.agg (I.enc ((oN c f))),.one (.int .i64 (vv c f))]:=by
 refine aL 64 Tryz.func243 Tryz.call243 [.cell 4 37,.tmp 5] ?_;intro ok;clear ok;have hz:=hv.sz (by omega);have jk:=iQ hz;have hL:=acZ c f m hv hm;have bw:=ac0 c f
 try simp only[go_sem]
 repeat'((first|refine ae.af (by first|assumption|(apply gg<;>first|assumption|omega)|(apply vV<;>first|assumption|omega)) ?_|refine ao.af (by first|assumption|apply z') ?_|refine bb ?_)<;>simp only[go_sem,lM])
 rw[bw]
 cases hg:E1 c f with
 |false=>
  try simp only[go_sem,lM,Bool.not_false]
  repeat'(first|(with_reducible refine al ?_)|fail)
  simp[oN,vv,hg]
 |true=>
  simp only[go_sem,Bool.not_true]
  cases lF:decide (f.kind=16)with
  |true=>
   have h':=ch lF
   try simp only[go_sem]
   repeat'(first|((first|refine ae.af (by first|assumption|apply TW) ?_|refine ao.af (by assumption) ?_)<;>simp only[go_sem,lM])|(with_reducible refine al ?_)|fail)
   simp[oN,vv,hg,h']
  |false=>
   have ac2:=cD lF;simp only[go_sem]
   cases jq:decide (f.kind=18)with
   |true=>
    have h':=ch jq;simp only[go_sem]
    cases hu:f.fy with
    |true=>
     try simp only[go_sem]
     repeat'(first|((first|refine ae.af (by first|assumption|apply TX) ?_|refine ao.af (by assumption) ?_)<;>simp only[go_sem,lM])|(with_reducible refine al ?_)|fail)
     simp[oN,vv,hg,h',hu]
    |false=>
     try simp only[go_sem]
     repeat'(first|((first|refine ae.af (by first|assumption|apply TX) ?_|refine ao.af (by assumption) ?_)<;>simp only[go_sem,lM])|(with_reducible refine al ?_)|fail)
     simp[oN,vv,hg,h',hu]
   |false=>
    have ac3:=cD jq;simp only[go_sem]
    cases u1:decide (f.kind=20)with
    |true=>
     have h':=ch u1
     try simp only[go_sem,lM]
     repeat'(first|(with_reducible refine al ?_)|fail)
     simp[oN,vv,hg,h']
    |false=>
     have ac4:=cD u1;simp only[go_sem]
     cases u3:decide (f.kind=22)with
     |true=>
      have h':=ch u3
      try simp only[go_sem,lM]
      repeat'(first|(with_reducible refine al ?_)|fail)
      simp[oN,vv,hg,h']
     |false=>
      have ac5:=cD u3;simp only[go_sem]
      cases uu:decide (f.kind=17)with
      |true=>
       have h':=ch uu
       try simp only[go_sem]
       repeat'(first|((first|refine ae.af (by assumption) ?_|refine ao.af (by assumption) ?_)<;>simp only[go_sem,lM])|(with_reducible refine al ?_)|fail)
       simp[oN,vv,hg,h']
      |false=>
       have ac6:=cD uu;simp only[go_sem]
       cases E0:decide (f.kind=21)with
       |true=>
        have h':=ch E0
        try simp only[go_sem]
        repeat'(first|((first|refine ae.af (by assumption) ?_|refine ao.af (by assumption) ?_)<;>simp only[go_sem,lM])|(with_reducible refine al ?_)|fail)
        simp[oN,vv,hg,h']
       |false=>
        have ac7:=cD E0
        try simp only[go_sem,lM]
        repeat'(first|(with_reducible refine al ?_)|fail)
        simp[oN,vv,hg,ac2,ac6,ac3,ac4,ac7,ac5]
set_option maxHeartbeats 8000000 in
theorem ac8(c:I)(f:aq)(m:Nat)(hv:b6 m c)(hm:m≤19)(hd:f.data.length≤8)(ax:0≤f.offset∧f.offset≤900):PureCall Tryz.prog 203 [.agg (I.enc c),.agg (aq.enc f)] [.agg (I.enc ((vX c f))),.one (.int .i64 (CI c f))]:=by
 refine aL 44 Tryz.func203 Tryz.call203 [.cell 4 37,.tmp 5] ?_;intro ok;clear ok;have hz:=hv.sz (by omega);have jk:=iQ hz;have bD:=acX c f m hv hm hd ax;have bR:=ac9 c f m hv hm;have a3:=ada c f m hv hm;have a4:=ac1 c f m hv hm
 try simp only[go_sem]
 repeat'((first|refine ae.af (by first|assumption|(apply gg<;>first|assumption|omega)) ?_|refine ao.af (by assumption) ?_)<;>simp only[go_sem,lM])
 cases fO:decide (f.kind=8)with
 |true=>
  have h':=ch fO
  try simp only[go_sem]
  repeat'(first|((first|refine ae.af (by assumption) ?_|refine ao.af (by assumption) ?_)<;>simp only[go_sem,lM])|(with_reducible refine al ?_)|fail)
  simp[vX,CI,h']
 |false=>
  have wO:=cD fO;simp only[go_sem]
  cases aD:decide (f.kind=4)with
  |true=>
   have h':=ch aD
   try simp only[go_sem]
   repeat'(first|((first|refine ae.af (by assumption) ?_|refine ao.af (by assumption) ?_)<;>simp only[go_sem,lM])|(with_reducible refine al ?_)|fail)
   simp[vX,CI,h']
  |false=>
   have pr:=cD aD;simp only[go_sem]
   cases bX:decide (f.kind=5)with
   |true=>
    have h':=ch bX
    try simp only[go_sem]
    repeat'(first|((first|refine ae.af (by assumption) ?_|refine ao.af (by assumption) ?_)<;>simp only[go_sem,lM])|(with_reducible refine al ?_)|fail)
    simp[vX,CI,h']
   |false=>
    have Im:=cD bX
    try simp only[go_sem]
    repeat'(first|((first|refine ae.af (by assumption) ?_|refine ao.af (by assumption) ?_)<;>simp only[go_sem,lM])|(with_reducible refine al ?_)|fail)
    simp[vX,CI,wO,pr,Im]
set_option maxRecDepth 100000
def TY:List (List bt):=ct 13 [1564799,1574638,1574632,1574614,1574560,1515349,1514863,1513405,1509031,1348285,1564677,1436859,1062882]
attribute [go_sem] TY
theorem adb(c:I)(id:Int):(bif bif !fM c then true else !(strOf c.streams id).2 then true else !(aE c id).eD)=!uv c id:=by
 unfold uv
 cases fM c<;>cases(strOf c.streams id).2<;>cases(aE c id).eD<;>rfl
set_option maxHeartbeats 8000000 in
theorem ade(c:I)(id k:Int)(m:Nat)(hv:b6 m c)(hm:m≤20):PureCall Tryz.prog 200 [.agg (I.enc c),.one (.int .i64 id),.one (.int .i64 k)] [.one (.str (E2 c id k)),.one (.bool (E3 c id k)),.agg (I.enc ((kR c id k)))]:=by
 refine tC 63 Tryz.func200 Tryz.call200 [.tmp 6,.tmp 7,.cell 8 37] ?_;intro ok;clear ok;have hz:=hv.sz hm;have jk:=iQ hz;have j7:c.streams.length≤1000:=by have:=hz.1;omega
 have kA:=hz.2.1;have hC:kR c id k=if uv c id then dR (x7 c id k) (wP c id k)else c:=rfl
 have cn:E2 c id k=if uv c id then vw (aE c id).recv k else []:=rfl
 have ah:E3 c id k=(uv c id&&(decide ((mb c id k).state=3)||decide ((mb c id k).state=5))):=rfl;have aX:wP c id k=if decide ((mb c id k).state<4)then wQ (gz (aE c id) (mb c id k)) (mb c id k).buffer.next else gz (aE c id) (mb c id k):=rfl
 have b_:x7 c id k=if decide ((mb c id k).state<4)then uw c (gz (aE c id) (mb c id k)) (mb c id k).buffer.next else c:=rfl
 have bw:=adb c id;have pb:dT (wP c id k):=(TZ hv id k).sz hm;have E4:(x7 c id k).streams=c.streams:=(Np c id k).1;obtain⟨cU,c9,cq,dd⟩:=mR hz.2.1 id;have cq:∀eO∈(strOf c.streams id).1.recv.buffer.bu,eO.data.length≤1048576:=fun eO hc=>by have:=cq eO hc;omega
 have b1:=mm c id hz;have aI:mb c id k=wR (aE c id).recv k:=rfl;rw[show(strOf c.streams id).1=aE c id from rfl]at cU c9 cq dd b1;generalize mb c id k=r at *;generalize aE c id=s at *;refine ej hZ 6 (α:=Unit) (fun _=>⟨(jn 6 (.d (.str [])::.d (.bool false)::.ptr 1 0 0::.ptr 3 0 0::.ptr 6 0 0::.J::.d (.str (vw s.recv k))::.ptr 2 0 0::jn 49 [])),[.box (I.bM c),.box I.bH,.box (bA.vc r (.J)),.box (I.vc c (.sl 4 0 c.streams.length) (.sl 5 0 c.packets.length)),.af 39 (c.streams.map aa.enc),.af 2 (c.packets.map aC.enc),.box (aa.vc (gz s r) (.sl 7 0 (gz s r).send.ring.cells.length) (.sl 8 0 (gz s r).send.pending.length) (.sl 9 0 (gz s r).send.flight.length) (.sl 10 0 (gz s r).send.bK.length) (.sl 11 0 (gz s r).recv.buffer.bu.length)),.af 1 ((gz s r).send.ring.cells.map aW),.af 2 ((gz s r).send.pending.map ab.enc),.af 2 ((gz s r).send.flight.map ab.enc),.af 2 ((gz s r).send.bK.map ab.enc),.af 2 ((gz s r).recv.buffer.bu.map aB.enc)]⟩) (fun _=>uv c id=true) ?_ ?_
 ·skip
  try simp only[go_sem]
  repeat'(first|((first|refine ae.af (by first|assumption|(apply gg<;>first|assumption|omega)|(apply tD<;>first|assumption|omega)) ?_|refine ao.af (by assumption) ?_|refine bb ?_|refine eJ ?_)<;>simp only[go_sem,lM])|(with_reducible refine al ?_)|fail)
  rw[bw]
  cases hg:uv c id with
  |false=>
   rw[hg]at hC cn ah
   try simp only[go_sem,Bool.not_false]
   repeat'(first|(refine ba [[.post,.cA,.cA,.post],[.cA,.post,.post,.post],[.cA,.pre,.post,.post],[.pre,.pre,.pre,.post]] (by kernel_rfl) (by rfl) ?_<;>simp only[go_sem,lM])|(with_reducible refine al ?_)|fail)
   simp[hC,cn,ah]
  |true=>
   try simp only[go_sem,lM,Bool.not_true]
   repeat'((first|refine ae.af (by first|assumption|(apply adf<;>first|assumption|omega)) ?_|refine ao.af (by assumption) ?_)<;>simp only[go_sem,lM])
   refine di.intro () [0,1,12,4,2,3,10,5,6,7,8,11] (by first|exact hg|trivial) ?_;simp only[go_sem,gz];simp[←aI]
 rintro _ hg;rw[hg,if_pos rfl]at hC cn;rw[hg,Bool.true_and]at ah;refine ej hZ 1 (α:=I×aa) (fun y=>⟨(jn 6 (.d (.str [])::.d (.bool false)::.ptr 1 0 0::.ptr 3 0 0::.ptr 6 0 0::.J::.d (.str (vw s.recv k))::.ptr 2 0 0::jn 49 [])),[.box (I.bM c),.box I.bH,.box (bA.vc r (.J)),.box (I.vc y.1 (.sl 4 0 y.1.streams.length) (.sl 5 0 y.1.packets.length)),.af 39 (y.1.streams.map aa.enc),.af 2 (y.1.packets.map aC.enc),.box (aa.vc y.2 (.sl 7 0 y.2.send.ring.cells.length) (.sl 8 0 y.2.send.pending.length) (.sl 9 0 y.2.send.flight.length) (.sl 10 0 y.2.send.bK.length) (.sl 11 0 y.2.recv.buffer.bu.length)),.af 1 (y.2.send.ring.cells.map aW),.af 2 (y.2.send.pending.map ab.enc),.af 2 (y.2.send.flight.map ab.enc),.af 2 (y.2.send.bK.map ab.enc),.af 2 (y.2.recv.buffer.bu.map aB.enc)]⟩) (fun y=>y.1=x7 c id k∧y.2=wP c id k) ?_ ?_
 ·simp only[go_sem,gz]
  cases hB:decide (r.state<4)with
  |false=>
   rw[hB,if_neg (by simp)]at aX b_;simp only[go_sem];refine di.intro (c,gz s r) [0,1,2,3,4,5,6,7,8,9,10,11] ⟨b_.symm,aX.symm⟩ ?_;simp only[go_sem,gz];simp
  |true=>
   rw[hB,if_pos rfl]at aX b_;simp only[go_sem];refine ae.iR [6,7,8,9,10,12,13] (by simp only[keepT,List.elem_cons,List.elem_nil,Nat.reduceBEq,Nat.reduceAdd,cond_true,cond_false];rfl) (en (n:=45) (rs:=[]) Tryz.func233 rfl Tryz.call233 hZ rfl rfl ?_);simp only[go_sem]
   try simp only[go_sem,lM]
   repeat'((first|refine ae.intro (by first|assumption|apply T0) ?_|refine ao.intro (by assumption) ?_)<;>simp only[go_sem])
   refine di.intro (uw c (gz s r) r.buffer.next,wQ (gz s r) r.buffer.next) [0,1,2,3,4,5,6,7,8,9,10,11] ⟨b_.symm,aX.symm⟩ ?_;simp only[go_sem,gz,uw,wQ,Io,dL];simp
 rintro⟨x,t⟩ ⟨hx,ht⟩;simp only at hx ht;rw[←hx,←ht]at hC;rw[←hx]at E4;rw[←ht]at pb;refine ej hZ 1 (α:=Unit) (fun _=>⟨(jn 6 (.d (.str [])::.d (.bool false)::.ptr 1 0 0::.ptr 3 0 0::.J::.J::.d (.str (vw s.recv k))::.ptr 2 0 0::jn 49 [])),[.box (I.bM c),.box I.bH,.box (bA.vc r (.J)),.box (I.vc ((dR x t)) (.sl 4 0 ((dR x t)).streams.length) (.sl 5 0 ((dR x t)).packets.length)),.af 39 (((dR x t)).streams.map aa.enc),.af 2 (((dR x t)).packets.map aC.enc)]⟩) (fun _=>True) ?_ ?_
 ·simp only[go_sem,lM];refine ae.iR [6,7,8,9,12,13] (by simp only[keepT,List.elem_cons,List.elem_nil,Nat.reduceBEq,Nat.reduceAdd,cond_true,cond_false];rfl) (x6 x t (.af 2 (x.packets.map aC.enc)) (fun _=>trivial) (by rw[E4];exact j7) (by rw[E4];exact kA) pb [.box (I.bM c),.box I.bH,.box (bA.vc r (.J))] _ (by simp[roks,rok,a6,vok]) (by simp[a6,vok]) _ ?_);simp only[dY,dZ,e8,go_sem];have oj:(dR x t).packets=x.packets:=(zN x t).2;refine di.intro () [0,1,2,3,4,5] trivial ?_;simp only[go_sem];simp[oj]
 rintro _ _;refine gO hZ ?_
 try simp only[go_sem]
 repeat'(first|((first|refine bb ?_|refine eJ ?_|refine ba TY (by kernel_rfl) (by rfl) ?_)<;>simp only[go_sem,lM])|(with_reducible refine al ?_)|fail)
 simp[hC,cn,ah]
set_option maxRecDepth 100000
theorem G_{P:Program}{kv:List V}{c:Operand}{a b:Code}{σ:St}{K:St→Prop}{X:List (Nat×(St→Prop))}{cc:St→Prop}(h:σ.ev c=.d (.bool false))(hg:gk P kv b σ K X cc):gk P kv (.cond c a b) σ K X cc:=by
 intro B w0 kp Q u w br bF b_ aI r;obtain⟨aJ,φ,r0,bz⟩:=r;have hc:=xy r0 c;rw[h]at hc;exact wp_cond_false (mv hc) (hg B w0 kp Q u w br bF b_ aI ⟨aJ,φ,r0,bz⟩)
theorem Zp{P:Program}{kv:List V}{c:Operand}{a b:Code}{σ:St}{K:St→Prop}{X:List (Nat×(St→Prop))}{cc:St→Prop}(h:σ.ev c=.d (.bool true))(hg:gk P kv a σ K X cc):gk P kv (.cond c a b) σ K X cc:=by
 intro B w0 kp Q u w br bF b_ aI r;obtain⟨aJ,φ,r0,bz⟩:=r;have hc:=xy r0 c;rw[h]at hc;exact wp_cond_true (mv hc) (hg B w0 kp Q u w br bF b_ aI ⟨aJ,φ,r0,bz⟩)
theorem Zq{P:Program}{kv:List V}{a b:Code}{σ:St}{K K2:St→Prop}{X:List (Nat×(St→Prop))}{cc:St→Prop}(h1:gk P kv a σ K2 X cc)(h2:∀σ',K2 σ'→gk P kv b σ' K X cc):gk P kv (.seq a b) σ K X cc:=by
 intro B w0 kp Q u w br bF b_ aI r;exact wp_seq (h1 B w0 kp _ u w br (fun σ' a' w' h' cW=>h2 σ' h' B w0 kp Q a' w' br bF b_ aI cW) (fun id σ' a' w' h' cW=>b_ id σ' a' w' h' cW) (fun σ' a' w' h' cW=>aI σ' a' w' h' cW) r)
def u0(c:I)(s:aa)(k:Int):aa:={mw c s k with send:=s.send,recv:=s.recv}
theorem Zr(c:I)(s:aa)(k:Int):mw c s k=u0 c s k:=by
 obtain⟨h1,h2,_⟩:=G' c s k;unfold u0;rw[←h1,←h2]
def LB:List (Nat×List Bool):=[(10,[false,false,false,false,false,false,false,false,false,false]),(9,[true,false,false,false,false,false,false,false,false,false]),(9,[false,false,true,false,false,false,false,false,false,false]),(9,[false,false,false,true,false,false,false,false,false,false]),(9,[false,false,false,false,true,false,false,false,false,false]),(8,[true,true,false,false,false,false,false,false,false,false]),(8,[true,false,true,false,false,false,false,false,false,false]),(8,[true,false,false,true,false,false,false,false,false,false]),(8,[true,false,false,false,true,false,false,false,false,false]),(8,[false,false,true,true,false,false,false,false,false,false]),(8,[false,false,true,false,true,false,false,false,false,false]),(8,[false,false,false,true,true,false,false,false,false,false]),(8,[false,false,false,false,true,true,false,false,false,false]),(7,[true,true,true,false,false,false,false,false,false,false]),(7,[true,true,false,true,false,false,false,false,false,false]),(7,[true,true,false,false,true,false,false,false,false,false]),(7,[true,false,true,true,false,false,false,false,false,false]),(7,[true,false,true,false,true,false,false,false,false,false]),(7,[true,false,false,true,true,false,false,false,false,false]),(7,[true,false,false,false,true,true,false,false,false,false]),(7,[false,false,true,true,true,false,false,false,false,false]),(7,[false,false,true,false,true,true,false,false,false,false]),(7,[false,false,false,true,true,true,false,false,false,false]),(6,[true,true,true,true,false,false,false,false,false,false]),(6,[true,true,true,false,true,false,false,false,false,false]),(6,[true,true,false,true,true,false,false,false,false,false]),(6,[true,true,false,false,true,true,false,false,false,false]),(6,[true,false,true,true,true,false,false,false,false,false]),(6,[true,false,true,false,true,true,false,false,false,false]),(6,[true,false,false,true,true,true,false,false,false,false]),(6,[false,false,true,true,true,true,false,false,false,false]),(5,[true,true,true,true,true,false,false,false,false,false]),(5,[true,true,true,false,true,true,false,false,false,false]),(5,[true,true,false,true,true,true,false,false,false,false]),(5,[true,false,true,true,true,true,false,false,false,false]),(5,[false,false,true,true,true,true,true,false,false,false]),(4,[true,true,true,true,true,true,false,false,false,false]),(4,[true,false,true,true,true,true,true,false,false,false]),(3,[true,true,true,true,true,true,true,false,false,false]),(2,[true,true,true,true,true,true,true,true,false,false]),(1,[true,true,true,true,true,true,true,true,true,false]),(0,[true,true,true,true,true,true,true,true,true,true])]
def Aj(c:I)(f:aq)(s e:aa)(S:List Bool):St:=⟨(.J::.J::.ptr 0 0 0::.ptr 1 0 0::.ptr 2 0 0::.ptr 5 0 0::jn 6 (.ptr 11 0 0::jn 17 ((bif S.getD 0 false then .ptr 5 0 17 else .J)::(bif S.getD 1 false then .sl 3 0 c.streams.length else .J)::(bif S.getD 2 false then .agg (I.bM c)else .J)::(bif S.getD 3 false then .agg (aa.vc s (.sl 6 0 s.send.ring.cells.length) (.sl 7 0 s.send.pending.length) (.sl 8 0 s.send.flight.length) (.sl 9 0 s.send.bK.length) (.sl 10 0 s.recv.buffer.bu.length))else .J)::(bif S.getD 4 false then .ptr 1 0 0 else .J)::(bif S.getD 5 false then .d (.int .i64 f.kind)else .J)::(bif S.getD 6 false then .agg [.d (.int .i64 e.id),.d (.int .i64 s.send.state),.d (.int .i64 s.send.ring.size),.d (.int .i64 s.send.ring.base),.d (.int .i64 s.send.ring.b'),.sl 6 0 s.send.ring.cells.length,.sl 7 0 s.send.pending.length,.sl 8 0 s.send.flight.length,.sl 9 0 s.send.bK.length,.d (.int .i64 s.send.bj),.d (.int .i64 s.send.bd),.d (.int .i64 s.send.sent),.d (.int .i64 s.send.code),.d (.int .i64 e.cV.a8),.d (.int .i64 e.cV.used),.d (.int .i64 e.cV.blocked),.d (.int .i64 e.cV.told),.d (.int .i64 s.recv.state),.d (.int .i64 s.recv.buffer.next),.sl 10 0 s.recv.buffer.bu.length,.d (.int .i64 s.recv.bj),.d (.int .i64 s.recv.fc),.d (.int .i64 s.recv.code),.d (.int .i64 e.bP.size),.d (.int .i64 e.bP.most),.d (.int .i64 e.bP.a8),.d (.int .i64 e.bP.seen),.d (.int .i64 e.bP.read),.d (.int .i64 e.bP.j6),.d (.int .i64 e.priority.fB),.d (.bool e.priority.eW),.d (.bool e.ee),.d (.bool e.eD),.d (.bool e.ix),.d (.bool e.iy),.d (.bool e.k6),.d (.bool e.jo),.d (.int .i64 e.lW),.d (.bool e.counted)]else .J)::(bif S.getD 7 false then .sl 12 0 (putS c.streams e).length else .J)::(bif S.getD 8 false then .ptr 5 0 17 else .J)::jn 47 []))),[.box (I.bM c),.box (aq.bM f),.box I.bH,.af 39 (c.streams.map aa.enc),.af 2 (c.packets.map aC.enc),.box (I.vc c ((bif S.getD 9 false then .sl 12 0 (putS c.streams e).length else .sl 3 0 c.streams.length)) (.sl 4 0 c.packets.length)),.af 1 (s.send.ring.cells.map aW),.af 2 (s.send.pending.map ab.enc),.af 2 (s.send.flight.map ab.enc),.af 2 (s.send.bK.map ab.enc),.af 2 (s.recv.buffer.bu.map aB.enc),.box (aa.vc s (.sl 6 0 s.send.ring.cells.length) (.sl 7 0 s.send.pending.length) (.sl 8 0 s.send.flight.length) (.sl 9 0 s.send.bK.length) (.sl 10 0 s.recv.buffer.bu.length))]++(bif S.getD 7 false then [.af 39 ((putS c.streams e).map aa.enc)]else [])⟩
set_option maxHeartbeats 8000000 in
theorem Zs(c:I)(f:aq)(s:aa)(k:Int)(hs:dT s)(kv:List V)(br:a6 12 kv)(K:V→List H→Prop)
  (hk:∀e,e=u0 c s k→K (.agg [.d (.int .i64 e.id),.d (.int .i64 s.send.state),.d (.int .i64 s.send.ring.size),.d (.int .i64 s.send.ring.base),.d (.int .i64 s.send.ring.b'),.sl 6 0 s.send.ring.cells.length,.sl 7 0 s.send.pending.length,.sl 8 0 s.send.flight.length,.sl 9 0 s.send.bK.length,.d (.int .i64 s.send.bj),.d (.int .i64 s.send.bd),.d (.int .i64 s.send.sent),.d (.int .i64 s.send.code),.d (.int .i64 e.cV.a8),.d (.int .i64 e.cV.used),.d (.int .i64 e.cV.blocked),.d (.int .i64 e.cV.told),.d (.int .i64 s.recv.state),.d (.int .i64 s.recv.buffer.next),.sl 10 0 s.recv.buffer.bu.length,.d (.int .i64 s.recv.bj),.d (.int .i64 s.recv.fc),.d (.int .i64 s.recv.code),.d (.int .i64 e.bP.size),.d (.int .i64 e.bP.most),.d (.int .i64 e.bP.a8),.d (.int .i64 e.bP.seen),.d (.int .i64 e.bP.read),.d (.int .i64 e.bP.j6),.d (.int .i64 e.priority.fB),.d (.bool e.priority.eW),.d (.bool e.ee),.d (.bool e.eD),.d (.bool e.ix),.d (.bool e.iy),.d (.bool e.k6),.d (.bool e.jo),.d (.int .i64 e.lW),.d (.bool e.counted)]) [.box (I.bM c),.box (aq.bM f),.box I.bH,.af 39 (c.streams.map aa.enc),.af 2 (c.packets.map aC.enc),.box (I.vc c (.sl 3 0 c.streams.length) (.sl 4 0 c.packets.length)),.af 1 (s.send.ring.cells.map aW),.af 2 (s.send.pending.map ab.enc),.af 2 (s.send.flight.map ab.enc),.af 2 (s.send.bK.map ab.enc),.af 2 (s.recv.buffer.bu.map aB.enc),.box (aa.vc s (.sl 6 0 s.send.ring.cells.length) (.sl 7 0 s.send.pending.length) (.sl 8 0 s.send.flight.length) (.sl 9 0 s.send.bK.length) (.sl 10 0 s.recv.buffer.bu.length))]) :
  dj Tryz.prog 275 kv [.box (I.bM c),.box (aq.bM f),.box I.bH,.af 39 (c.streams.map aa.enc),.af 2 (c.packets.map aC.enc),.box (I.vc c (.sl 3 0 c.streams.length) (.sl 4 0 c.packets.length)),.af 1 (s.send.ring.cells.map aW),.af 2 (s.send.pending.map ab.enc),.af 2 (s.send.flight.map ab.enc),.af 2 (s.send.bK.map ab.enc),.af 2 (s.recv.buffer.bu.map aB.enc),.box (aa.vc s (.sl 6 0 s.send.ring.cells.length) (.sl 7 0 s.send.pending.length) (.sl 8 0 s.send.flight.length) (.sl 9 0 s.send.bK.length) (.sl 10 0 s.recv.buffer.bu.length))] [.agg (I.bM c),.agg (aa.vc s (.sl 6 0 s.send.ring.cells.length) (.sl 7 0 s.send.pending.length) (.sl 8 0 s.send.flight.length) (.sl 9 0 s.send.bK.length) (.sl 10 0 s.recv.buffer.bu.length)),.d (.int .i64 k)] K:=by
 have bd:∀(ex:List H) (e:aa),e=u0 c s k→o2 kv K (.agg [.d (.int .i64 e.id),.d (.int .i64 s.send.state),.d (.int .i64 s.send.ring.size),.d (.int .i64 s.send.ring.base),.d (.int .i64 s.send.ring.b'),.sl 6 0 s.send.ring.cells.length,.sl 7 0 s.send.pending.length,.sl 8 0 s.send.flight.length,.sl 9 0 s.send.bK.length,.d (.int .i64 s.send.bj),.d (.int .i64 s.send.bd),.d (.int .i64 s.send.sent),.d (.int .i64 s.send.code),.d (.int .i64 e.cV.a8),.d (.int .i64 e.cV.used),.d (.int .i64 e.cV.blocked),.d (.int .i64 e.cV.told),.d (.int .i64 s.recv.state),.d (.int .i64 s.recv.buffer.next),.sl 10 0 s.recv.buffer.bu.length,.d (.int .i64 s.recv.bj),.d (.int .i64 s.recv.fc),.d (.int .i64 s.recv.code),.d (.int .i64 e.bP.size),.d (.int .i64 e.bP.most),.d (.int .i64 e.bP.a8),.d (.int .i64 e.bP.seen),.d (.int .i64 e.bP.read),.d (.int .i64 e.bP.j6),.d (.int .i64 e.priority.fB),.d (.bool e.priority.eW),.d (.bool e.ee),.d (.bool e.eD),.d (.bool e.ix),.d (.bool e.iy),.d (.bool e.k6),.d (.bool e.jo),.d (.int .i64 e.lW),.d (.bool e.counted)]) ([.box (I.bM c),.box (aq.bM f),.box I.bH,.af 39 (c.streams.map aa.enc),.af 2 (c.packets.map aC.enc),.box (I.vc c (.sl 3 0 c.streams.length) (.sl 4 0 c.packets.length)),.af 1 (s.send.ring.cells.map aW),.af 2 (s.send.pending.map ab.enc),.af 2 (s.send.flight.map ab.enc),.af 2 (s.send.bK.map ab.enc),.af 2 (s.recv.buffer.bu.map aB.enc),.box (aa.vc s (.sl 6 0 s.send.ring.cells.length) (.sl 7 0 s.send.pending.length) (.sl 8 0 s.send.flight.length) (.sl 9 0 s.send.bK.length) (.sl 10 0 s.recv.buffer.bu.length))]++ex):=by
  intro ex e he;refine⟨List.range 12,.agg [.d (.int .i64 e.id),.d (.int .i64 s.send.state),.d (.int .i64 s.send.ring.size),.d (.int .i64 s.send.ring.base),.d (.int .i64 s.send.ring.b'),.sl 6 0 s.send.ring.cells.length,.sl 7 0 s.send.pending.length,.sl 8 0 s.send.flight.length,.sl 9 0 s.send.bK.length,.d (.int .i64 s.send.bj),.d (.int .i64 s.send.bd),.d (.int .i64 s.send.sent),.d (.int .i64 s.send.code),.d (.int .i64 e.cV.a8),.d (.int .i64 e.cV.used),.d (.int .i64 e.cV.blocked),.d (.int .i64 e.cV.told),.d (.int .i64 s.recv.state),.d (.int .i64 s.recv.buffer.next),.sl 10 0 s.recv.buffer.bu.length,.d (.int .i64 s.recv.bj),.d (.int .i64 s.recv.fc),.d (.int .i64 s.recv.code),.d (.int .i64 e.bP.size),.d (.int .i64 e.bP.most),.d (.int .i64 e.bP.a8),.d (.int .i64 e.bP.seen),.d (.int .i64 e.bP.read),.d (.int .i64 e.bP.j6),.d (.int .i64 e.priority.fB),.d (.bool e.priority.eW),.d (.bool e.ee),.d (.bool e.eD),.d (.bool e.ix),.d (.bool e.iy),.d (.bool e.k6),.d (.bool e.jo),.d (.int .i64 e.lW),.d (.bool e.counted)],[.box (I.bM c),.box (aq.bM f),.box I.bH,.af 39 (c.streams.map aa.enc),.af 2 (c.packets.map aC.enc),.box (I.vc c (.sl 3 0 c.streams.length) (.sl 4 0 c.packets.length)),.af 1 (s.send.ring.cells.map aW),.af 2 (s.send.pending.map ab.enc),.af 2 (s.send.flight.map ab.enc),.af 2 (s.send.bK.map ab.enc),.af 2 (s.recv.buffer.bu.map aB.enc),.box (aa.vc s (.sl 6 0 s.send.ring.cells.length) (.sl 7 0 s.send.pending.length) (.sl 8 0 s.send.flight.length) (.sl 9 0 s.send.bK.length) (.sl 10 0 s.recv.buffer.bu.length))],?_,hk e he⟩;refine zR (hs:=[.box (I.bM c),.box (aq.bM f),.box I.bH,.af 39 (c.streams.map aa.enc),.af 2 (c.packets.map aC.enc),.box (I.vc c (.sl 3 0 c.streams.length) (.sl 4 0 c.packets.length)),.af 1 (s.send.ring.cells.map aW),.af 2 (s.send.pending.map ab.enc),.af 2 (s.send.flight.map ab.enc),.af 2 (s.send.bK.map ab.enc),.af 2 (s.recv.buffer.bu.map aB.enc),.box (aa.vc s (.sl 6 0 s.send.ring.cells.length) (.sl 7 0 s.send.pending.length) (.sl 8 0 s.send.flight.length) (.sl 9 0 s.send.bK.length) (.sl 10 0 s.recv.buffer.bu.length))]) (ex:=ex) ?_ br ?_ ?_
  ·simp[roks,rok,a6,vok]
  ·simp[vsees,vsee,ren,rens]
  ·simp[a6,vok]
 obtain⟨cU,c9,cq,dd⟩:=hs;refine dj.oq ?_;refine(en (n:=35) (rs:=[.cell 6 67]) Tryz.func275 rfl Tryz.call275 hZ rfl rfl ?_);simp only[go_sem]
 try simp only[go_sem,lM]
 repeat'((first|refine ae.intro (by first|apply Q3|apply Q5) ?_|refine bp (fun h=>?_) (fun h=>?_))<;>simp only[go_sem,lM])
 all_goals simp only[il,kk]at *
 ·exact bd _ {s with ix:=false} (by simp[u0,mw, *])
 ·exact bd _ {s with iy:=false} (by simp[u0,mw, *])
 ·exact bd _ {s with bP:=(ph c s).1,k6:=false} (by simp[u0,mw, *])
 ·exact bd _ {s with k6:=false} (by simp[u0,mw, *])
 ·exact bd _ {s with cV:=v8 s.cV} (by simp[u0,mw, *])
 ·exact bd _ s (by simp[u0,mw, *])
set_option maxHeartbeats 8000000 in
theorem Zt(c:I)(f:aq)(hz:e0 c)(hI:eQ c=true)(lF:decide (f.kind=16)=false)(jq:decide (f.kind=18)=false)(u1:decide (f.kind=20)=false)(u3:decide (f.kind=22)=false)(hf:(strOf c.streams f.stream).2=true):PureCall Tryz.prog 236 [.agg (I.enc c),.agg (aq.enc f)] [.agg (I.enc ((la c (mw c (aE c f.stream) f.kind))))]:=by
 refine tC 86 Tryz.func236 Tryz.call236 [.cell 4 37] ?_;intro ok;clear ok;have jk:=iQ hz;have uO:dT (aE c f.stream):=mR hz.2.1 f.stream;obtain⟨e1,gC,jl⟩:=G' c (aE c f.stream) f.kind;have tX:dT (mw c (aE c f.stream) f.kind):=by unfold dT;rw[e1,gC];exact uO
 have b1:=mm c f.stream hz;rw[show(strOf c.streams f.stream).1=aE c f.stream from rfl,hf]at b1;have gp:=k4 c.streams (mw c (aE c f.stream) f.kind) (by have:=hz.1;omega) hz.2.1 tX;rw[Zr]at gp⊢;generalize aE c f.stream=s at *;clear tX e1 gC jl;obtain⟨e,he⟩:∃e,e=u0 c s f.kind:=⟨_,rfl⟩;have ag:e.send=s.send:=by rw[he];rfl
 have e2:e.recv=s.recv:=by rw[he];rfl
 rw[←he]at gp⊢;simp only[aa.enc,ag,e2]at gp;refine ej hZ 3 (α:=Unit) (fun _=>⟨(.J::.J::.ptr 0 0 0::.ptr 1 0 0::.ptr 2 0 0::.ptr 5 0 0::jn 80 []),[.box (I.bM c),.box (aq.bM f),.box I.bH,.af 39 (c.streams.map aa.enc),.af 2 (c.packets.map aC.enc),.box (I.vc c (.sl 3 0 c.streams.length) (.sl 4 0 c.packets.length))]⟩) (fun _=>True) ?_ ?_
 ·skip
  try simp only[go_sem]
  repeat'((first|refine ae.af (by first|assumption|(apply gg<;>first|assumption|omega)|(apply vV<;>first|assumption|omega)) ?_|refine ao.af (by assumption) ?_)<;>simp only[go_sem,lM,hI,Bool.not_true])
  refine di.intro () [0,1,2,3,4,5] trivial ?_;simp only[go_sem];simp
 rintro _ _;simp only[yS,yT];refine Zq (K2:=fun σ=>σ=Aj c f s e (List.replicate 10 true)) ?_ ?_
 ·skip
  refine ej hZ 1 (α:=Unit) (fun _=>⟨(.J::.J::.ptr 0 0 0::.ptr 1 0 0::.ptr 2 0 0::.ptr 5 0 0::jn 15 (.d (.int .i64 f.kind)::jn 64 [])),[.box (I.bM c),.box (aq.bM f),.box I.bH,.af 39 (c.streams.map aa.enc),.af 2 (c.packets.map aC.enc),.box (I.vc c (.sl 3 0 c.streams.length) (.sl 4 0 c.packets.length))]⟩) (fun _=>True) ?_ ?_
  ·skip
   try simp only[go_sem]
   refine di.intro () [0,1,2,3,4,5] trivial ?_;simp only[go_sem];simp
  rintro _ _;simp only[yS,yT];refine Zu ?_;refine ej hZ 1 (α:=Unit) (fun _=>⟨(.J::.J::.ptr 0 0 0::.ptr 1 0 0::.ptr 2 0 0::.ptr 5 0 0::jn 15 (.d (.int .i64 f.kind)::jn 17 (.d (.bool false)::jn 46 []))),[.box (I.bM c),.box (aq.bM f),.box I.bH,.af 39 (c.streams.map aa.enc),.af 2 (c.packets.map aC.enc),.box (I.vc c (.sl 3 0 c.streams.length) (.sl 4 0 c.packets.length))]⟩) (fun _=>True) ?_ ?_
  ·skip
   try simp only[go_sem,lF]
   refine di.intro () [0,1,2,3,4,5] trivial ?_;simp only[go_sem];simp
  rintro _ _;simp only[yS,yT];refine G_ rfl ?_;refine ej hZ 1 (α:=Unit) (fun _=>⟨(.J::.J::.ptr 0 0 0::.ptr 1 0 0::.ptr 2 0 0::.ptr 5 0 0::jn 15 (.d (.int .i64 f.kind)::jn 27 (.d (.bool false)::jn 36 []))),[.box (I.bM c),.box (aq.bM f),.box I.bH,.af 39 (c.streams.map aa.enc),.af 2 (c.packets.map aC.enc),.box (I.vc c (.sl 3 0 c.streams.length) (.sl 4 0 c.packets.length))]⟩) (fun _=>True) ?_ ?_
  ·skip
   try simp only[go_sem,jq]
   refine di.intro () [0,1,2,3,4,5] trivial ?_;simp only[go_sem];simp
  rintro _ _;simp only[yS,yT];refine G_ rfl ?_;refine ej hZ 1 (α:=Unit) (fun _=>⟨(.J::.J::.ptr 0 0 0::.ptr 1 0 0::.ptr 2 0 0::.ptr 5 0 0::jn 15 (.d (.int .i64 f.kind)::jn 49 (.d (.bool false)::jn 14 []))),[.box (I.bM c),.box (aq.bM f),.box I.bH,.af 39 (c.streams.map aa.enc),.af 2 (c.packets.map aC.enc),.box (I.vc c (.sl 3 0 c.streams.length) (.sl 4 0 c.packets.length))]⟩) (fun _=>True) ?_ ?_
  ·skip
   try simp only[go_sem,u1]
   refine di.intro () [0,1,2,3,4,5] trivial ?_;simp only[go_sem];simp
  rintro _ _;simp only[yS,yT];refine G_ rfl ?_;refine ej hZ 1 (α:=Unit) (fun _=>⟨(.J::.J::.ptr 0 0 0::.ptr 1 0 0::.ptr 2 0 0::.ptr 5 0 0::jn 15 (.d (.int .i64 f.kind)::jn 55 (.d (.bool false)::jn 8 []))),[.box (I.bM c),.box (aq.bM f),.box I.bH,.af 39 (c.streams.map aa.enc),.af 2 (c.packets.map aC.enc),.box (I.vc c (.sl 3 0 c.streams.length) (.sl 4 0 c.packets.length))]⟩) (fun _=>True) ?_ ?_
  ·skip
   try simp only[go_sem,u3]
   refine di.intro () [0,1,2,3,4,5] trivial ?_;simp only[go_sem];simp
  rintro _ _;simp only[yS,yT];refine G_ rfl ?_;refine ej hZ 2 (α:=Unit) (fun _=>⟨(.J::.J::.ptr 0 0 0::.ptr 1 0 0::.ptr 2 0 0::.ptr 5 0 0::jn 6 (.ptr 11 0 0::jn 16 (.d (.bool true)::jn 56 []))),[.box (I.bM c),.box (aq.bM f),.box I.bH,.af 39 (c.streams.map aa.enc),.af 2 (c.packets.map aC.enc),.box (I.vc c (.sl 3 0 c.streams.length) (.sl 4 0 c.packets.length)),.af 1 (s.send.ring.cells.map aW),.af 2 (s.send.pending.map ab.enc),.af 2 (s.send.flight.map ab.enc),.af 2 (s.send.bK.map ab.enc),.af 2 (s.recv.buffer.bu.map aB.enc),.box (aa.vc s (.sl 6 0 s.send.ring.cells.length) (.sl 7 0 s.send.pending.length) (.sl 8 0 s.send.flight.length) (.sl 9 0 s.send.bK.length) (.sl 10 0 s.recv.buffer.bu.length))]⟩) (fun _=>True) ?_ ?_
  ·skip
   try simp only[go_sem]
   repeat'((first|refine ae.af (by assumption) ?_|refine ao.af (by assumption) ?_)<;>simp only[go_sem,lM])
   refine di.intro () [0,1,2,3,4,5,6,7,8,9,10,11] trivial ?_;simp only[go_sem];simp
  rintro _ _;simp only[yS,yT];refine Zp rfl ?_;refine Q6 (σ':=Aj c f s e (List.replicate 10 false)) (ρ:=[0,1,2,3,4,5,6,7,8,9,10,11]) (by simp only[Aj,List.replicate,pG,oV,cond_false,List.append_nil];simp only[go_sem];simp) ?_;refine gO hZ ?_;simp only[go_sem];refine hH (fun σ'=>σ'=Aj c f s e (List.replicate 10 true)) ?_ (fun σ' h=>h);refine Lc (fun n S σ=>(n,S)∈LB∧σ=Aj c f s e S) ?_ ?_ _ _ _ ⟨by first|exact List.Mem.head _|decide +kernel,rfl⟩
  ·rintro S σ ⟨aX,rfl⟩;simp only[LB,List.mem_cons,N3,List.not_mem_nil,or_false]at aX;rcases aX with ⟨hn,rfl⟩|⟨hn,rfl⟩|⟨hn,rfl⟩|⟨hn,rfl⟩|⟨hn,rfl⟩|⟨hn,rfl⟩|⟨hn,rfl⟩|⟨hn,rfl⟩|⟨hn,rfl⟩|⟨hn,rfl⟩|⟨hn,rfl⟩|⟨hn,rfl⟩|⟨hn,rfl⟩|⟨hn,rfl⟩|⟨hn,rfl⟩|⟨hn,rfl⟩|⟨hn,rfl⟩|⟨hn,rfl⟩|⟨hn,rfl⟩|⟨hn,rfl⟩|⟨hn,rfl⟩|⟨hn,rfl⟩|⟨hn,rfl⟩|⟨hn,rfl⟩|⟨hn,rfl⟩|⟨hn,rfl⟩|⟨hn,rfl⟩|⟨hn,rfl⟩|⟨hn,rfl⟩|⟨hn,rfl⟩|⟨hn,rfl⟩|⟨hn,rfl⟩|⟨hn,rfl⟩|⟨hn,rfl⟩|⟨hn,rfl⟩|⟨hn,rfl⟩|⟨hn,rfl⟩|⟨hn,rfl⟩|⟨hn,rfl⟩|⟨hn,rfl⟩|⟨hn,rfl⟩|⟨hn,rfl⟩
   all_goals(first|exact absurd hn (by decide)|skip)
   exact⟨rfl,rfl⟩
  ·rintro n S σ F ⟨aX,rfl⟩ aZ;simp only[LB,List.mem_cons,N3,List.not_mem_nil,or_false]at aX;rcases aX with ⟨hn,rfl⟩|⟨hn,rfl⟩|⟨hn,rfl⟩|⟨hn,rfl⟩|⟨hn,rfl⟩|⟨hn,rfl⟩|⟨hn,rfl⟩|⟨hn,rfl⟩|⟨hn,rfl⟩|⟨hn,rfl⟩|⟨hn,rfl⟩|⟨hn,rfl⟩|⟨hn,rfl⟩|⟨hn,rfl⟩|⟨hn,rfl⟩|⟨hn,rfl⟩|⟨hn,rfl⟩|⟨hn,rfl⟩|⟨hn,rfl⟩|⟨hn,rfl⟩|⟨hn,rfl⟩|⟨hn,rfl⟩|⟨hn,rfl⟩|⟨hn,rfl⟩|⟨hn,rfl⟩|⟨hn,rfl⟩|⟨hn,rfl⟩|⟨hn,rfl⟩|⟨hn,rfl⟩|⟨hn,rfl⟩|⟨hn,rfl⟩|⟨hn,rfl⟩|⟨hn,rfl⟩|⟨hn,rfl⟩|⟨hn,rfl⟩|⟨hn,rfl⟩|⟨hn,rfl⟩|⟨hn,rfl⟩|⟨hn,rfl⟩|⟨hn,rfl⟩|⟨hn,rfl⟩|⟨hn,rfl⟩
   rotate_right 1
   ·exact absurd hn (by omega)
   all_goals(
    simp only[Nat.reduceEqDiff]at hn
    try subst hn
    simp only[Aj,pG,oV,cond_true,cond_false,bf,bn,List.append_nil];refine QH rfl ?_
    repeat'(first
     |exact vQ
     |(refine vR ?_ ?_)
     |exact aZ _ _ ⟨by first|exact List.Mem.head _|decide +kernel,rfl⟩
     |(refine ae.af gp ?_)
     |(refine ae.inl (Zs c f s f.kind uO _ (by simp[a6,vok]) _ (fun e' z8=>?_));obtain rfl:e'=e:=z8.trans he.symm)
     |simp only[go_sem,lM]))
   all_goals trace_state
 ·rintro _ rfl;refine gO hZ ?_;simp only[Aj,List.replicate,pG,oV,cond_true,bf,bn];simp only[go_sem];simp[la,outOA]
set_option maxRecDepth 100000
def Q7:List (List bt):=ct 7 [2066,2176,2182,2161,2107,1944,1458]
def Q8:List (List bt):=ct 8 [6443,6441,6232,6214,5548,6435,5913,4374]
attribute [go_sem] Q7 Q8
set_option maxHeartbeats 8000000 in
theorem Zv(c:I)(f:aq)(hz:e0 c)(hn:¬(eQ c=true∧decide (f.kind=16)=false∧decide (f.kind=18)=false∧decide (f.kind=20)=false∧decide (f.kind=22)=false∧(strOf c.streams f.stream).2=true)):PureCall Tryz.prog 236 [.agg (I.enc c),.agg (aq.enc f)] [.agg (I.enc ((lb c f)))]:=by
 refine aL 86 Tryz.func236 Tryz.call236 [.cell 4 37] ?_;intro ok;clear ok;have jk:=iQ hz;have b1:=mm c f.stream hz
 try simp only[go_sem]
 repeat'((first|refine ae.af (by first|assumption|(apply gg<;>first|assumption|omega)|(apply vV<;>first|assumption|omega)) ?_|refine ao.af (by assumption) ?_)<;>simp only[go_sem,lM])
 cases hI:eQ c with
 |false=>
  simp only[go_sem,lM,Bool.not_false];simp[lb,hI]
 |true=>
  simp only[go_sem,Bool.not_true]
  cases lF:decide (f.kind=16)with
  |true=>
   have LC:=ch lF
   try simp only[go_sem]
   repeat'(first|((first|refine ae.af (by first|assumption|apply Q0) ?_|refine ao.af (by assumption) ?_)<;>simp only[go_sem,lM])|(with_reducible refine al ?_)|fail)
   simp[lb,hI,LC]
  |false=>
   have LC:=cD lF;simp only[go_sem]
   cases jq:decide (f.kind=18)with
   |true=>
    have Ha:=ch jq;simp only[go_sem]
    cases hu:f.fy with
    |true=>
     try simp only[go_sem]
     repeat'(first|((first|refine ae.af (by first|assumption|apply G7) ?_|refine ao.af (by assumption) ?_)<;>simp only[go_sem,lM])|(with_reducible refine al ?_)|fail)
     simp[lb,hI,Ha,hu]
    |false=>
     try simp only[go_sem]
     repeat'(first|((first|refine ae.af (by first|assumption|apply G7) ?_|refine ao.af (by assumption) ?_)<;>simp only[go_sem,lM])|(with_reducible refine al ?_)|fail)
     simp[lb,hI,Ha,hu]
   |false=>
    have Ha:=cD jq;simp only[go_sem]
    cases u1:decide (f.kind=20)with
    |true=>
     have LD:=ch u1
     try simp only[go_sem]
     repeat'(first|((first|refine ae.af (by first|assumption|apply Q5) ?_|refine ao.af (by assumption) ?_)<;>simp only[go_sem,lM])|(with_reducible refine al ?_)|fail)
     simp[lb,hI,LD]
    |false=>
     have LD:=cD u1;simp only[go_sem]
     cases u3:decide (f.kind=22)with
     |true=>
      have Hb:=ch u3;simp only[go_sem]
      cases hu:f.fy with
      |true=>
       try simp only[go_sem,lM]
       repeat'(first|(with_reducible refine al ?_)|fail)
       simp[lb,hI,Hb,hu]
      |false=>
       try simp only[go_sem,lM]
       repeat'(first|(with_reducible refine al ?_)|fail)
       simp[lb,hI,Hb,hu]
     |false=>
      have Hb:=cD u3;have hf:(strOf c.streams f.stream).2=false:=by
       cases hf:(strOf c.streams f.stream).2 with
       |false=>rfl
       |true=>exact absurd ⟨hI,lF,jq,u1,u3,hf⟩ hn
      have ah:lb c f=c:=by unfold lb;rw[hI,if_neg LC,if_neg Ha,if_neg LD,if_neg Hb,hf];rfl
      rw[hf]at b1;simp only[go_sem]
      try simp only[go_sem,lM]
      repeat'(first|((first|refine ae.af (by assumption) ?_|refine ao.af (by assumption) ?_)<;>simp only[go_sem,lM])|(with_reducible refine al ?_)|fail)
      simp[ah]
theorem Zw(c:I)(f:aq)(hz:e0 c):PureCall Tryz.prog 236 [.agg (I.enc c),.agg (aq.enc f)] [.agg (I.enc ((lb c f)))]:=by
 by_cases hn:eQ c=true∧decide (f.kind=16)=false∧decide (f.kind=18)=false∧decide (f.kind=20)=false∧decide (f.kind=22)=false∧(strOf c.streams f.stream).2=true
 ·obtain⟨hI,lF,jq,u1,u3,hf⟩:=hn;have ah:lb c f=la c (mw c (aE c f.stream) f.kind):=by
   unfold lb;rw[hI,if_neg (cD lF),if_neg (cD jq),if_neg (cD u1),if_neg (cD u3),hf];rfl
  rw[ah];exact Zt c f hz hI lF jq u1 u3 hf
 ·exact Zv c f hz hn
theorem Zx(c:I)(b:Int):(bif bif !fM c then true else !bN b 1 400 then true else decide (1000000≤c.number))=!BW c b:=by
 unfold BW
 cases fM c<;>cases bN b 1 400<;>cases decide (1000000≤c.number)<;>rfl
set_option maxHeartbeats 8000000 in
theorem Q9(c:I)(b:Int)(m:Nat)(hv:b6 m c)(hm:m≤20):PureCall Tryz.prog 201 [.agg (I.enc c),.one (.int .i64 b)] [.one (.str (xz c b)),.one (.int .i64 (v_ c b)),.agg (I.enc ((fE c b)))]:=by
 refine tC 90 Tryz.func201 Tryz.call201 [.tmp 4,.tmp 5,.cell 6 37] ?_;intro ok;clear ok;have hz:=hv.sz hm;have jk:=iQ hz;have bw:=Zx c b;obtain⟨hcl,o3⟩:=Q_ hv;refine ej hZ 6 (α:=Unit) (fun _=>⟨(.J::.d (.int .i64 b)::.ptr 0 0 0::jn 3 (.ptr 1 0 0::.ptr 2 0 0::.sl 5 0 0::.d (.int .i64 b)::.sl 6 0 (je c).length::jn 79 [])),[.box (I.bM c),.box I.bH,.box (I.vc c (.sl 3 0 c.streams.length) (.sl 4 0 c.packets.length)),.af 39 (c.streams.map aa.enc),.af 2 (c.packets.map aC.enc),.ai 9 [] true,.ai 9 ((je c).map aq.enc) true]⟩) (fun _=>BW c b=true) ?_ ?_
 ·skip
  try simp only[go_sem]
  repeat'((first|refine ae.af (by first|(apply gg<;>first|assumption|omega)|(apply tD<;>first|assumption|omega)) ?_|refine ao.af (by apply iE) ?_|refine bb ?_)<;>simp only[go_sem,lM])
  rw[bw]
  cases hg:BW c b with
  |false=>
   try simp only[go_sem,Bool.not_false]
   repeat'(first|(refine ba [[.post,.cA,.cA,.post],[.cA,.post,.post,.post],[.cA,.pre,.post,.post],[.pre,.pre,.pre,.post]] (by kernel_rfl) (by rfl) ?_<;>simp only[go_sem,lM])|(with_reducible refine al ?_)|fail)
   simp[fE,xz,v_,BX,hg]
  |true=>
   try simp only[go_sem,Bool.not_true]
   repeat'(refine ae.intro (by(apply Zo<;>first|assumption|omega)) ?_<;>simp only[go_sem,lM])
   refine di.intro () [0,1,4,2,3,5,6] (by first|exact hg|trivial) ?_;simp only[go_sem];simp
 rintro _ hg;have hA:dm c b=(je c).foldl m0 ⟨c,[],b⟩:=rfl;refine ej hZ 1 (α:=Unit) (fun _=>⟨(.J::.d (.int .i64 b)::.ptr 0 0 0::jn 3 (.ptr 1 0 0::.ptr 2 0 0::.sl 5 0 (dm c b).b4.length::.d (.int .i64 (dm c b).cO)::jn 80 [])),[.box (I.bM c),.box I.bH,.box [.d (.bool (dm c b).x.cr),.d (.int .i64 (dm c b).x.own.ring),.d (.int .i64 (dm c b).x.own.bP),.d (.int .i64 (dm c b).x.own.mT),.d (.int .i64 (dm c b).x.own.c8),.d (.int .i64 (dm c b).x.own.mU),.d (.int .i64 (dm c b).x.own.l0),.d (.int .i64 (dm c b).x.own.fy),.d (.int .i64 (dm c b).x.own.iF),.d (.int .i64 (dm c b).x.peer.ring),.d (.int .i64 (dm c b).x.peer.bP),.d (.int .i64 (dm c b).x.peer.mT),.d (.int .i64 (dm c b).x.peer.c8),.d (.int .i64 (dm c b).x.peer.mU),.d (.int .i64 (dm c b).x.peer.l0),.d (.int .i64 (dm c b).x.peer.fy),.d (.int .i64 (dm c b).x.peer.iF),.sl 3 0 (dm c b).x.streams.length,.d (.int .i64 (dm c b).x.c8.a8),.d (.int .i64 (dm c b).x.c8.used),.d (.int .i64 (dm c b).x.c8.blocked),.d (.int .i64 (dm c b).x.c8.told),.d (.int .i64 (dm c b).x.dA.size),.d (.int .i64 (dm c b).x.dA.most),.d (.int .i64 (dm c b).x.dA.a8),.d (.int .i64 (dm c b).x.dA.seen),.d (.int .i64 (dm c b).x.dA.read),.d (.int .i64 (dm c b).x.dA.j6),.d (.int .i64 (dm c b).x.eC.a8),.d (.int .i64 (dm c b).x.eC.opened),.d (.int .i64 (dm c b).x.eC.blocked),.d (.int .i64 (dm c b).x.eB.a8),.d (.int .i64 (dm c b).x.eB.opened),.d (.int .i64 (dm c b).x.eB.blocked),.d (.int .i64 (dm c b).x.dH.most),.d (.int .i64 (dm c b).x.dH.a8),.d (.int .i64 (dm c b).x.dH.seen),.d (.int .i64 (dm c b).x.dH.closed),.d (.int .i64 (dm c b).x.dI.most),.d (.int .i64 (dm c b).x.dI.a8),.d (.int .i64 (dm c b).x.dI.seen),.d (.int .i64 (dm c b).x.dI.closed),.d (.bool (dm c b).x.xA),.d (.bool (dm c b).x.nN),.d (.bool (dm c b).x.nO),.d (.int .i64 (dm c b).x.fk),.d (.int .i64 (dm c b).x.number),.sl 4 0 (dm c b).x.packets.length,.d (.int .i64 (dm c b).x.gh),.d (.int .i64 (dm c b).x.closed)],.af 39 ((dm c b).x.streams.map aa.enc),.af 2 ((dm c b).x.packets.map aC.enc),.ai 9 ((dm c b).b4.map aq.enc) true]⟩) (fun _=>True) ?_ ?_
 ·simp only[go_sem];refine b5.intro (α:=Nat×Ak) (fun y=>⟨(.J::.d (.int .i64 b)::.ptr 0 0 0::jn 3 (.ptr 1 0 0::.ptr 2 0 0::.sl 5 0 y.2.b4.length::.d (.int .i64 y.2.cO)::.sl 6 0 (je c).length::.d (.int .i64 y.1)::jn 78 [])),[.box (I.bM c),.box I.bH,.box (I.vc y.2.x (.sl 3 0 y.2.x.streams.length) (.sl 4 0 y.2.x.packets.length)),.af 39 (y.2.x.streams.map aa.enc),.af 2 (y.2.x.packets.map aC.enc),.ai 9 (y.2.b4.map aq.enc) true,.ai 9 ((je c).map aq.enc) true]⟩)
   (fun y=>(je c).length-y.1) (fun y=>y.1≤(je c).length∧y.2=((je c).take y.1).foldl m0 ⟨c,[],b⟩∧m1 m y.1 y.2.x y.2.b4) (0,⟨c,[],b⟩) [0,1,2,3,4,5,6] ⟨by simp,by simp,hv,by simp,by simp⟩ ?_ ?_
  ·simp only[go_sem];simp
  ·rintro⟨i,q⟩ ⟨hi,hq,hI⟩;simp only at hi hq hI;by_cases h1:i<(je c).length
   ·have ar:decide ((i:Int)<((je c).length:Int))=true:=bc (by omega);have av:=bZ aq.enc (je c) i h1;have hw:IntKind.i64.wrap ((i:Int)+1)=((i+1:Nat):Int):=by rw[bC]<;>omega
    have hs:((je c).take (i+1)).foldl m0 ⟨c,[],b⟩=m0 q (je c)[i]:=by
     rw[List.take_add_one,dg h1,List.foldl_append,←hq];rfl
    have Q':oC (je c)[i]:=o3 _ (List.getElem_mem h1);have Hc:=Ra hI Q';generalize (je c)[i]=f at *;have hG:f.data.length≤60:=Q';have ahh:=Zw q.x f (hI.c.sz hm);have D0:=LF f.kind f.stream f.offset f.data f.bd f.code f.a8 f.bj f.fy (by omega);change PureCall _ _ _ [.one (.int .i64 ((gX f).length:Int))]at D0;have Hd:m0 q f=if((gX f).length:Int)≤q.cO then⟨lb q.x f,q.b4++[f],IntKind.i64.wrap (q.cO-((gX f).length:Int))⟩else q:=rfl
    have hfn:=hI.n
    try simp only[go_sem,lM,aF,av,aq.enc,ar]
    repeat'(first|((first|refine ae.intro (by assumption) ?_|refine ao.intro (by assumption) ?_)<;>simp only[go_sem])|(with_reducible refine al ?_)|fail)
    cases kT:decide (((gX f).length:Int)≤q.cO)with
    |true=>
     rw[if_pos (ch kT)]at Hd;rw[Hd]at hs Hc
     try simp only[go_sem,lM,aF,av,aq.enc]
     repeat'(first|((first|refine ae.intro (by assumption) ?_|refine ao.intro (by assumption) ?_)<;>simp only[go_sem])|(with_reducible refine al ?_)|fail)
     try simp only[go_sem,lM,aF,av,aq.enc]
     repeat'(first|((first|refine ae.af (by assumption) ?_|refine ao.af (by assumption) ?_|refine ba Q7 (by kernel_rfl) (by rfl) ?_)<;>simp only[go_sem,lM,aF,av,aq.enc])|(with_reducible refine al ?_)|fail)
     refine bm.intro (i+1,⟨lb q.x f,q.b4++[f],IntKind.i64.wrap (q.cO-((gX f).length:Int))⟩) [0,1,2,7,8,10,6] ⟨by simp only;omega,hs.symm,Hc⟩ (by simp only;omega) ?_;simp only[go_sem,hw];simp[aq.enc]
    |false=>
     rw[if_neg (cD kT)]at Hd;rw[Hd]at hs Hc;simp only[go_sem];refine bm.intro (i+1,q) [0,1,2,3,4,5,6] ⟨by simp only;omega,hs.symm,Hc⟩ (by simp only;omega) ?_;simp only[go_sem,hw];simp
   ·have ar:decide ((i:Int)<((je c).length:Int))=false:=a_ (by omega);obtain rfl:i=(je c).length:=by omega
    rw[dB,←hA]at hq;subst hq;simp only[go_sem,ar];refine di.intro () [0,1,2,3,4,5] trivial ?_;simp only[go_sem];simp
 rintro _ _;have LG:=Rb hv b;have D1:=Rc hv (by omega) b;have hB:fillGo 200 ⟨(dm c b).x,[],(dm c b).b4,(dm c b).cO⟩=ld c b:=rfl;have hC:fE c b=if(ld c b).b4=[]then(ld c b).x else {(ld c b).x with packets:=(ld c b).x.packets++[⟨c.number,(ld c b).b4⟩],number:=IntKind.i64.wrap (c.number+1)}:=by unfold fE;rw[hg];rfl
 have BY:BX c b=!decide ((ld c b).b4=[]):=by unfold BX;rw[hg];rfl
 have cn:xz c b=if BX c b then yU (ld c b).b4 else []:=rfl
 generalize dm c b=LH at *;generalize ld c b=tY at *;refine ej hZ 1 (α:=Unit) (fun _=>⟨(.J::.J::.ptr 0 0 0::jn 3 (.ptr 1 0 0::.ptr 2 0 0::.sl 5 0 tY.b4.length::jn 81 [])),[.box (I.bM c),.box I.bH,.box (I.vc tY.x (.sl 3 0 tY.x.streams.length) (.sl 4 0 tY.x.packets.length)),.af 39 (tY.x.streams.map aa.enc),.af 2 (tY.x.packets.map aC.enc),.ai 9 (tY.b4.map aq.enc) true]⟩) (fun _=>True) ?_ ?_
 ·simp only[go_sem,lM];refine ae.iR [2,6,7] (by simp only[keepT,List.elem_cons,List.elem_nil,Nat.reduceBEq,Nat.reduceAdd,cond_true,cond_false];rfl) (Zy c LH.x LH.b4 LH.cO m LG.c hm LG.n LG.d _ (by simp[a6,vok]) _ ?_);rw[hB];simp only[u4,e8,dZ,He,go_sem];refine di.intro () [0,1,2,3,4,5] trivial ?_;simp only[go_sem];simp
 rintro _ _;refine JT 4 rfl ?_;refine gO hZ ?_;simp only[go_sem];have fx:tY.x.packets.length≤20:=Nat.le_trans D1.c.v' hm
 cases yV:decide (tY.b4=[])with
 |true=>
  have D2:=ch yV;have hd:decide ((tY.b4.length:Int)=0)=true:=bc (by rw[D2];rfl);rw[yV]at BY;rw[if_pos D2]at hC;rw[BY]at cn
  try simp only[go_sem,hd]
  repeat'(first|(refine ba [[.post,.cA,.cA,.post],[.cA,.post,.post,.post],[.cA,.pre,.post,.post],[.pre,.pre,.pre,.post]] (by kernel_rfl) (by rfl) ?_<;>simp only[go_sem,lM])|(with_reducible refine al ?_)|fail)
  simp[hC,cn,v_,BY]
 |false=>
  have D2:=cD yV;have hd:decide ((tY.b4.length:Int)=0)=false:=a_ (fun h=>D2 (List.length_eq_zero_iff.1 (by omega)));rw[yV]at BY;rw[if_neg D2]at hC;have ahi:=Zz tY.b4 (by have:=D1.n;omega) (fun f hf=>by have:=D1.d f hf;unfold oC at this;omega)
  try simp only[go_sem,lM,hd]
  repeat'(first|((first|refine ae.intro (by assumption) ?_|refine ao.intro (by assumption) ?_|refine ba Q8 (by kernel_rfl) (by rfl) ?_)<;>simp only[go_sem,lM])|(with_reducible refine al ?_)|fail)
  rw[BY]at cn;simp[hC,cn,v_,BY,aC.enc,List.take_of_length_le]
set_option maxRecDepth 100000
def kq(b:UInt8)(q:List (List UInt8)×List UInt8)(x:UInt8):List (List UInt8)×List UInt8:=if x=b then(q.1++[q.2],[])else(q.1,q.2++[x])
def oc(b:UInt8)(s:List UInt8):List (List UInt8)×List UInt8:=s.foldl (kq b) ([],[])
def cutL(s:List UInt8)(b:UInt8):List (List UInt8):=(oc b s).1++[(oc b s).2]
theorem On(b:UInt8):∀(s:List UInt8) (q:List (List UInt8)×List UInt8),(s.foldl (kq b) q).1.length+(s.foldl (kq b) q).2.length≤q.1.length+q.2.length+s.length
 |[],q=>by simp
 |x::s,q=>by
  have:=On b s (kq b q x);have e:(kq b q x).1.length+(kq b q x).2.length≤q.1.length+q.2.length+1:=by
   unfold kq;split<;>simp<;>omega
  rw[List.foldl_cons,oW];omega
set_option maxHeartbeats 1000000 in
theorem afK(s:List UInt8)(b:UInt8)(hl:s.length≤1048576):PureCall Tryz.prog 140 [.one (.str s),.one (.int .u8 (b.toNat:Int))] [.one (.sl 1 ((cutL s b).map eS))]:=by
 refine aL 35 Tryz.func140 Tryz.call140 [.tmp 4] ?_;intro ok;simp only[go_sem];refine b5.intro (fun i:Nat=>⟨(.d (.str s)::.d (.int .u8 (b.toNat:Int))::jn 3 (.sl 0 0 (oc b (s.take i)).1.length::.d (.str (oc b (s.take i)).2)::.d (.int .i64 i)::jn 27 [])),[.ai 1 ((oc b (s.take i)).1.map eS) true]⟩)
  (fun i=>s.length-i) (fun i=>i≤s.length) 0 [0] (by omega) ?_ ?_
 ·simp only[go_sem];simp[oc]
 ·intro i hi;have lU:=On b (s.take i) ([],[]);have cn:(s.take i).length=i:=by simp;omega
  simp only[List.length_nil]at lU;have afL:(oc b (s.take i)).1.length+(oc b (s.take i)).2.length≤i:=by unfold oc;omega
  by_cases h1:i<s.length
  ·have ar:decide ((i:Int)<(s.length:Int))=true:=bc (by omega);have hw:=dv h1 (show s.length≤maxLen by simp only[maxLen];omega);have hs:oc b (s.take (i+1))=kq b (oc b (s.take i)) s[i]:=C4 _ _ _ _ h1;generalize oc b (s.take i)=q at *;obtain⟨out,part⟩:=q;simp only at afL;have hx:s[i]?.getD 0=s[i]:=by rw[dg h1];rfl
   have vN:List.take (i+1-i) (List.drop i s)=[s[i]]:=by
    rw[show i+1-i=1 from by omega,List.drop_eq_getElem_cons h1];rfl
   cases hd:decide (s[i]=b)with
   |true=>
    have hb:decide ((s[i].toNat:Int)=(b.toNat:Int))=true:=by rw[ch hd];simp
    have cw:kq b (out,part) s[i]=(out++[part],[]):=by unfold kq;exact if_pos (ch hd)
    try simp only[go_sem,lM,aF,ar,hw,hx,hb]
    repeat'(first|(with_reducible refine al ?_)|fail)
    all_goals(first|(refine⟨⟨by omega,rfl⟩,?_⟩)|skip;refine bm.intro (i+1) [2] (by omega) (by omega) ?_;simp only[go_sem,hs,cw];simp[eS])
   |false=>
    have hb:decide ((s[i].toNat:Int)=(b.toNat:Int))=false:=a_ (fun h=>absurd (UInt8.toNat_inj.1 (Int.ofNat.inj h)) (cD hd));have cw:kq b (out,part) s[i]=(out,part++[s[i]]):=by unfold kq;exact if_neg (cD hd)
    try simp only[go_sem,aF,ar,hw,hx,vN,hb]
    repeat'(first|(with_reducible refine al ?_)|fail)
    all_goals(first|(refine⟨by simp only[oW,List.length_nil,maxLen];omega,?_⟩)|skip;refine bm.intro (i+1) [0] (by omega) (by omega) ?_;simp only[go_sem,hs,cw];simp)
  ·have ar:decide ((i:Int)<(s.length:Int))=false:=a_ (by omega);obtain rfl:i=s.length:=by omega
   rw[dB]at *
   try simp only[go_sem,lM,ar]
   repeat'(first|(with_reducible refine al ?_)|fail)
   all_goals(simp[cutL];try exact List.take_of_length_le (by simp))
def mi(s:List UInt8):List UInt8:=s.dropWhile (fun x=>decide (x=32))
def gN(s:List UInt8):List UInt8:=(s.reverse.dropWhile (fun x=>decide (x=32))).reverse
def jG(s:List UInt8):List UInt8:=gN (mi s)
theorem Ji(r:List UInt8):mi (32::r)=mi r:=by simp[mi]
theorem Fy{x:UInt8}{r:List UInt8}(h:x≠32):mi (x::r)=x::r:=by simp[mi,h]
theorem Oo{r:List UInt8}(h:r≠[])(hl:r.getLast h=32):gN r=gN r.dropLast:=by
 have e:r.reverse=32::r.dropLast.reverse:=by
  conv=>lhs;rw[←List.dropLast_concat_getLast h]
  simp[hl]
 unfold gN;rw[e,List.dropWhile_cons_of_pos (by simp)]
theorem Oq{r:List UInt8}(h:r≠[])(hl:r.getLast h≠32):gN r=r:=by
 have e:r.reverse=r.getLast h::r.dropLast.reverse:=by
  conv=>lhs;rw[←List.dropLast_concat_getLast h]
  simp
 unfold gN;rw[e,List.dropWhile_cons_of_neg (by simp[hl])];rw[←e,List.reverse_reverse]
set_option maxHeartbeats 1000000 in
theorem VI(s:List UInt8)(hl:s.length≤1048576):PureCall Tryz.prog 141 [.one (.str s)] [.one (.str (jG s))]:=by
 refine aL 30 Tryz.func141 Tryz.call141 [.tmp 2] ?_;intro ok;simp only[go_sem];refine b5.intro (fun u:List UInt8=>⟨(.d (.str u)::jn 29 []),[]⟩) (fun u=>u.length) (fun u=>u.length≤1048576∧mi u=mi s) s [] ⟨hl,rfl⟩ ?_ ?_
 ·simp only[go_sem]
 ·rintro u ⟨hu,he⟩
  cases u with
  |nil=>
   have dE:jG s=gN []:=by unfold jG;rw[←he];rfl
   have h0:decide ((0:Int)<((0:Nat):Int))=false:=by decide
   try simp only[go_sem,List.length_nil,h0]
   repeat'(first|(with_reducible refine de ?_<;>simp only[go_sem,List.length_nil]))
   refine b5.intro (fun v:List UInt8=>⟨(.d (.str v)::jn 29 []),[]⟩) (fun v=>v.length) (fun v=>v.length≤1048576∧gN v=jG s) [] [] ⟨by simp,dE.symm⟩ ?_ ?_
   ·simp only[go_sem]
   ·rintro v ⟨hv,m'⟩;by_cases hn:v=[]
    ·subst hn;have e:jG s=[]:=by rw[←m'];rfl
     have h0:decide ((0:Int)<((0:Nat):Int))=false:=by decide
     try simp only[go_sem,List.length_nil,h0]
     repeat'(first|(with_reducible refine de ?_<;>simp only[go_sem,List.length_nil]))
     all_goals first|(exfalso;simp at h;done)|simp[e]
    ·have hp:0<v.length:=List.length_pos_iff.2 hn;have h1:decide ((0:Int)<(v.length:Int))=true:=bc (by omega);have h2:IntKind.i64.wrap ((v.length:Int)-1)=((v.length-1:Nat):Int):=by rw[bC]<;>omega
     have aj:v[v.length-1]?.getD 0=v.getLast hn:=by rw[dg (by omega),List.getLast_eq_getElem];rfl
     have aD:List.take (v.length-1-0) (List.drop 0 v)=v.dropLast:=by rw[List.drop_zero,Nat.sub_zero,List.dropLast_eq_take]
     cases hd:decide (v.getLast hn=32)with
     |true=>
      have hb:decide (((v.getLast hn).toNat:Int)=32)=true:=by rw[ch hd];rfl
      try simp only[go_sem,h1]
      repeat'(first|(with_reducible refine b9 ?_<;>simp only[go_sem,h2,aj,hb,aF])|(with_reducible refine al ?_)|fail)
      all_goals(refine bm.intro v.dropLast [] ⟨by rw[List.length_dropLast];omega,by rw[←Oo hn (ch hd)];exact m'⟩ (by rw[List.length_dropLast];omega) ?_;simp only[go_sem];try simp[List.dropLast_eq_take])
     |false=>
      have hb:decide (((v.getLast hn).toNat:Int)=32)=false:=a_ (fun h=>absurd (UInt8.toNat_inj.1 (show(v.getLast hn).toNat=(32:UInt8).toNat by have:(32:UInt8).toNat=32:=rfl;omega)) (cD hd));have e:jG s=v:=by rw[←m'];exact Oq hn (cD hd)
      try simp only[go_sem,h1]
      repeat'(first|(with_reducible refine b9 ?_<;>simp only[go_sem,h2,aj,hb,aF])|(with_reducible refine al ?_)|fail)
      all_goals simp[e]
  |cons x r=>
   have h1:decide ((0:Int)<((r.length+1:Nat):Int))=true:=bc (by omega);have hx:(x::r)[0]?.getD 0=x:=rfl
   cases hd:decide (x=32)with
   |true=>
    have hb:decide ((x.toNat:Int)=32)=true:=by rw[ch hd];rfl
    have vN:List.take ((x::r).length-1) (List.drop 1 (x::r))=r:=by simp
    try simp only[go_sem,oW,h1]
    repeat'(first|(with_reducible refine b9 ?_<;>simp only[go_sem,hb])|(with_reducible refine al ?_)|fail)
    all_goals(refine bm.intro r [] ⟨by rw[oW]at hu;omega,by rw[←he,ch hd];exact(Ji r).symm⟩ (by simp) ?_;simp only[go_sem];try simp)
   |false=>
    have hb:decide ((x.toNat:Int)=32)=false:=a_ (fun h=>absurd (UInt8.toNat_inj.1 (show x.toNat=(32:UInt8).toNat by have:(32:UInt8).toNat=32:=rfl;omega)) (cD hd));have dE:jG s=gN (x::r):=by unfold jG;rw[←he,Fy (cD hd)]
    try simp only[go_sem,oW,h1]
    repeat'(first|(with_reducible refine b9 ?_<;>simp only[go_sem,hb])|(with_reducible refine al ?_)|fail)
    refine b5.intro (fun v:List UInt8=>⟨(.d (.str v)::jn 29 []),[]⟩) (fun v=>v.length) (fun v=>v.length≤1048576∧gN v=jG s) (x::r) [] ⟨hu,dE.symm⟩ ?_ ?_
    ·simp only[go_sem]
    ·rintro v ⟨hv,m'⟩;by_cases hn:v=[]
     ·subst hn;have e:jG s=[]:=by rw[←m'];rfl
      have h0:decide ((0:Int)<((0:Nat):Int))=false:=by decide
      try simp only[go_sem,List.length_nil,h0]
      repeat'(first|(with_reducible refine de ?_<;>simp only[go_sem,List.length_nil]))
      all_goals first|(exfalso;simp at h;done)|simp[e]
     ·have hp:0<v.length:=List.length_pos_iff.2 hn;have h1:decide ((0:Int)<(v.length:Int))=true:=bc (by omega);have h2:IntKind.i64.wrap ((v.length:Int)-1)=((v.length-1:Nat):Int):=by rw[bC]<;>omega
      have aj:v[v.length-1]?.getD 0=v.getLast hn:=by rw[dg (by omega),List.getLast_eq_getElem];rfl
      have aD:List.take (v.length-1-0) (List.drop 0 v)=v.dropLast:=by rw[List.drop_zero,Nat.sub_zero,List.dropLast_eq_take]
      cases hd:decide (v.getLast hn=32)with
      |true=>
       have hb:decide (((v.getLast hn).toNat:Int)=32)=true:=by rw[ch hd];rfl
       try simp only[go_sem,h1]
       repeat'(first|(with_reducible refine b9 ?_<;>simp only[go_sem,h2,aj,hb,aF])|(with_reducible refine al ?_)|fail)
       all_goals(refine bm.intro v.dropLast [] ⟨by rw[List.length_dropLast];omega,by rw[←Oo hn (ch hd)];exact m'⟩ (by rw[List.length_dropLast];omega) ?_;simp only[go_sem];try simp[List.dropLast_eq_take])
      |false=>
       have hb:decide (((v.getLast hn).toNat:Int)=32)=false:=a_ (fun h=>absurd (UInt8.toNat_inj.1 (show(v.getLast hn).toNat=(32:UInt8).toNat by have:(32:UInt8).toNat=32:=rfl;omega)) (cD hd));have e:jG s=v:=by rw[←m'];exact Oq hn (cD hd)
       try simp only[go_sem,h1]
       repeat'(first|(with_reducible refine b9 ?_<;>simp only[go_sem,h2,aj,hb,aF])|(with_reducible refine al ?_)|fail)
       all_goals simp[e]
def iv(p:fN)(t:List UInt8):fN:=
 if t=[105]∨t=[105,61,63,49]then {p with eW:=true}
 else if t=[105,61,63,48]then {p with eW:=false}
 else if t.length=3∧t.take 2=[117,61]∧48≤(t[2]?.getD 0).toNat∧(t[2]?.getD 0).toNat≤55 then {p with fB:=((t[2]?.getD 0).toNat:Int)-48}
 else p
def gY(p:fN)(t:List UInt8):fN:=iv p (jG t)
def nk(p:fN)(s:List UInt8):fN:=(cutL s 44).foldl gY (if lR p then p else mg)
theorem cutL_len(s:List UInt8)(b:UInt8):(cutL s b).length≤s.length+1∧∀t∈cutL s b,t.length≤s.length:=by
 have h:∀(s:List UInt8) (q:List (List UInt8)×List UInt8) (n:Nat),(∀t∈q.1,t.length≤n)→q.2.length≤n→(∀t∈(s.foldl (kq b) q).1,t.length≤n+s.length)∧(s.foldl (kq b) q).2.length≤n+s.length:=by
  intro s
  induction s with
  |nil=>intro q n h1 h2;exact⟨fun t ht=>by have:=h1 t ht;simp;omega,by simp;omega⟩
  |cons x s dr=>
   intro q n h1 h2;have:=dr (kq b q x) (n+1) (by
    intro t ht;unfold kq at ht;split at ht
    ·rcases List.mem_append.1 ht with ht|ht
     ·have:=h1 t ht;omega
     ·rw[List.mem_singleton.1 ht];omega
    ·have:=h1 t ht;omega) (by unfold kq;split<;>simp<;>omega)
   rw[List.foldl_cons,oW];exact⟨fun t ht=>by have:=this.1 t ht;omega,by omega⟩
 have h1:=On b s ([],[]);have h2:=h s ([],[]) 0 (by simp) (by simp);simp only[List.length_nil]at h1;unfold cutL;refine⟨by rw[List.length_append];simp only[oc,oW,List.length_nil];omega,fun t ht=>?_⟩;rcases List.mem_append.1 ht with ht|ht
 ·have:=h2.1 t ht;omega
 ·rw[List.mem_singleton.1 ht];have:=h2.2;simp only[oc];omega
set_option maxHeartbeats 4000000 in
theorem XH(km:Int)(kn:Bool)(s:List UInt8)(hl:s.length≤1000):PureCall Tryz.prog 78 [.agg [.int .i64 km,.bool kn],.one (.str s)] [.agg [.int .i64 (nk (⟨km,kn⟩:fN) s).fB,.bool (nk (⟨km,kn⟩:fN) s).eW]]:=by
 refine aL 62 Tryz.func78 Tryz.call78 [.cell 4 65] ?_;intro ok;clear ok;obtain⟨c1,c2⟩:=cutL_len s 44;have hC:=afK s 44 (by omega);have ah:nk (⟨km,kn⟩:fN) s=(cutL s 44).foldl gY (if lR (⟨km,kn⟩:fN)then(⟨km,kn⟩:fN)else mg):=rfl;obtain⟨iw,c_⟩:∃iw,iw=(if lR (⟨km,kn⟩:fN)then(⟨km,kn⟩:fN)else mg):=⟨_,rfl⟩;rw[←c_]at ah;generalize cutL s 44=l at *;simp only[show((44:UInt8).toNat:Int)=44 from rfl]at hC
 cases hI:lR (⟨km,kn⟩:fN)with
 |false=>
  try simp only[go_sem]
  repeat'((first|refine ae.intro (by first|assumption|apply Ft|apply U') ?_|refine ao.intro (by assumption) ?_)<;>simp only[go_sem,lM,hI])
  refine b5.intro (fun i:Nat=>⟨(.J::.J::.ptr 0 0 0::.J::.ptr 1 0 0::.sl 2 0 l.length::.d (.int .i64 i)::jn 55 []),[.box [.d (.int .i64 ((l.take i).foldl gY iw).fB),.d (.bool ((l.take i).foldl gY iw).eW)],.box [.d (.int .i64 0),.d (.bool false)],.ai 1 (l.map eS) true]⟩)
   (fun i=>l.length-i) (fun i=>i≤l.length) 0 [0,1,2] (by omega) ?_ ?_
  ·simp only[go_sem];simp[c_,hI,mg]
  ·intro i hi;by_cases h1:i<l.length
   ·have ar:decide ((i:Int)<(l.length:Int))=true:=bc (by omega);have av:=bZ eS l i h1;have hw:IntKind.i64.wrap ((i:Int)+1)=((i+1:Nat):Int):=by rw[bC]<;>omega
    have hs:=C4 gY iw l i h1;have jN:gY ((l.take i).foldl gY iw) l[i]=iv ((l.take i).foldl gY iw) (jG l[i]):=rfl;have cn:=VI l[i] (by have:=c2 _ (List.getElem_mem h1);omega);rw[jN]at hs;generalize (l.take i).foldl gY iw=q at *;generalize jG l[i]=t at *
    try simp only[go_sem,lM,aF,av,eS,ar]
    repeat'(first|((first|refine ae.intro (by assumption) ?_|refine ao.intro (by assumption) ?_|refine bb ?_)<;>simp only[go_sem])|(with_reducible refine al ?_)|fail)
    by_cases bD:t=[105]∨t=[105,61,63,49]
    ·have hm:iv q t={q with eW:=true}:=by unfold iv;exact if_pos bD
     have dx:(bif decide (t=[105])then true else decide (t=[105,61,63,49]))=true:=by rcases bD with h|h<;>simp[h]
     simp only[dx]
     try simp only[go_sem]
     repeat'((first|refine ae.intro (by assumption) ?_|refine ao.intro (by assumption) ?_)<;>simp only[go_sem,lM])
     refine bm.intro (i+1) [0,1,2] (by omega) (by omega) ?_;simp only[go_sem,hw,hs,hm];simp
    ·have dx:(bif decide (t=[105])then true else decide (t=[105,61,63,49]))=false:=by simp only[not_or]at bD;simp[bD.1,bD.2]
     simp only[dx];by_cases bR:t=[105,61,63,48]
     ·have hm:iv q t={q with eW:=false}:=by unfold iv;exact(if_neg bD).trans (if_pos bR)
      have dt:decide (t=[105,61,63,48])=true:=bc bR
      try simp only[go_sem,dt]
      repeat'((first|refine ae.intro (by assumption) ?_|refine ao.intro (by assumption) ?_)<;>simp only[go_sem,lM,dt])
      refine bm.intro (i+1) [0,1,2] (by omega) (by omega) ?_;simp only[go_sem,hw,hs,hm];simp
     ·have dt:decide (t=[105,61,63,48])=false:=a_ bR;have hm:iv q t=if t.length=3∧t.take 2=[117,61]∧48≤(t[2]?.getD 0).toNat∧(t[2]?.getD 0).toNat≤55 then {q with fB:=((t[2]?.getD 0).toNat:Int)-48}else q:=by unfold iv;exact(if_neg bD).trans (if_neg bR)
      by_cases a3:t.length=3
      ·have dq:decide ((t.length:Int)=3)=true:=bc (by omega)
       try simp only[go_sem,dt,dq]
       repeat'(first|((first|refine ae.intro (by assumption) ?_|refine ao.intro (by assumption) ?_|with_reducible refine b9 ?_|refine bb ?_|refine bp (fun h=>?_) (fun h=>?_))<;>simp only[go_sem])|(with_reducible refine al ?_)|fail)
       ·have hh:t.take 2=[117,61]∧48≤(t[2]?.getD 0).toNat∧(t[2]?.getD 0).toNat≤55:=by
         simp only[cf,cX,il,and_assoc]at h;exact⟨h.1,by omega,by omega⟩
        rw[if_pos ⟨a3,hh⟩]at hm;have ag:IntKind.u8.wrap (((t[2]?.getD 0).toNat:Int)-48)=((t[2]?.getD 0).toNat:Int)-48:=EB (by omega) (by omega);have e2:IntKind.i64.wrap (((t[2]?.getD 0).toNat:Int)-48)=((t[2]?.getD 0).toNat:Int)-48:=by rw[bC]<;>omega
        refine bm.intro (i+1) [0,1,2] (by omega) (by omega) ?_;simp only[go_sem,hw,hs,hm,ag,e2];simp
       ·have hh:¬(t.length=3∧t.take 2=[117,61]∧48≤(t[2]?.getD 0).toNat∧(t[2]?.getD 0).toNat≤55):=by
         rintro⟨_,g1,cx,g3⟩;have A':decide (48≤((t[2]?.getD 0).toNat:Int))=true:=bc (by omega);have Ba:decide (((t[2]?.getD 0).toNat:Int)≤55)=true:=bc (by omega);rw[A',Ba,bc g1]at h
         cases h
        rw[if_neg hh]at hm;refine bm.intro (i+1) [0,1,2] (by omega) (by omega) ?_;simp only[go_sem,hw,hs,hm];simp
      ·have dq:decide ((t.length:Int)=3)=false:=a_ (by omega);rw[if_neg (fun h=>a3 h.1)]at hm
       try simp only[go_sem,dt,dq]
       repeat'((first|refine ae.intro (by assumption) ?_|refine ao.intro (by assumption) ?_|with_reducible refine de ?_)<;>simp only[go_sem])
       all_goals(refine bm.intro (i+1) [0,1,2] (by omega) (by omega) ?_;simp only[go_sem,hw,hs,hm];simp)
   ·have ar:decide ((i:Int)<(l.length:Int))=false:=a_ (by omega);obtain rfl:i=l.length:=by omega
    rw[dB]
    try simp only[go_sem,ar]
    repeat'((first|refine ae.intro (by assumption) ?_|refine ao.intro (by assumption) ?_)<;>simp only[go_sem,lM,ar])
    all_goals simp[ah]
 |true=>
  try simp only[go_sem]
  repeat'((first|refine ae.intro (by first|assumption|apply Ft) ?_|refine ao.intro (by assumption) ?_)<;>simp only[go_sem,lM,hI])
  refine b5.intro (fun i:Nat=>⟨(.J::.J::.ptr 0 0 0::.J::.ptr 1 0 0::.sl 2 0 l.length::.d (.int .i64 i)::jn 55 []),[.box [.d (.int .i64 ((l.take i).foldl gY iw).fB),.d (.bool ((l.take i).foldl gY iw).eW)],.box [.d (.int .i64 0),.d (.bool false)],.ai 1 (l.map eS) true]⟩)
   (fun i=>l.length-i) (fun i=>i≤l.length) 0 [0,1,2] (by omega) ?_ ?_
  ·simp only[go_sem];simp[c_,hI]
  ·intro i hi;by_cases h1:i<l.length
   ·have ar:decide ((i:Int)<(l.length:Int))=true:=bc (by omega);have av:=bZ eS l i h1;have hw:IntKind.i64.wrap ((i:Int)+1)=((i+1:Nat):Int):=by rw[bC]<;>omega
    have hs:=C4 gY iw l i h1;have jN:gY ((l.take i).foldl gY iw) l[i]=iv ((l.take i).foldl gY iw) (jG l[i]):=rfl;have cn:=VI l[i] (by have:=c2 _ (List.getElem_mem h1);omega);rw[jN]at hs;generalize (l.take i).foldl gY iw=q at *;generalize jG l[i]=t at *
    try simp only[go_sem,lM,aF,av,eS,ar]
    repeat'(first|((first|refine ae.intro (by assumption) ?_|refine ao.intro (by assumption) ?_|refine bb ?_)<;>simp only[go_sem])|(with_reducible refine al ?_)|fail)
    by_cases bD:t=[105]∨t=[105,61,63,49]
    ·have hm:iv q t={q with eW:=true}:=by unfold iv;exact if_pos bD
     have dx:(bif decide (t=[105])then true else decide (t=[105,61,63,49]))=true:=by rcases bD with h|h<;>simp[h]
     simp only[dx]
     try simp only[go_sem]
     repeat'((first|refine ae.intro (by assumption) ?_|refine ao.intro (by assumption) ?_)<;>simp only[go_sem,lM])
     refine bm.intro (i+1) [0,1,2] (by omega) (by omega) ?_;simp only[go_sem,hw,hs,hm];simp
    ·have dx:(bif decide (t=[105])then true else decide (t=[105,61,63,49]))=false:=by simp only[not_or]at bD;simp[bD.1,bD.2]
     simp only[dx];by_cases bR:t=[105,61,63,48]
     ·have hm:iv q t={q with eW:=false}:=by unfold iv;exact(if_neg bD).trans (if_pos bR)
      have dt:decide (t=[105,61,63,48])=true:=bc bR
      try simp only[go_sem,dt]
      repeat'((first|refine ae.intro (by assumption) ?_|refine ao.intro (by assumption) ?_)<;>simp only[go_sem,lM,dt])
      refine bm.intro (i+1) [0,1,2] (by omega) (by omega) ?_;simp only[go_sem,hw,hs,hm];simp
     ·have dt:decide (t=[105,61,63,48])=false:=a_ bR;have hm:iv q t=if t.length=3∧t.take 2=[117,61]∧48≤(t[2]?.getD 0).toNat∧(t[2]?.getD 0).toNat≤55 then {q with fB:=((t[2]?.getD 0).toNat:Int)-48}else q:=by unfold iv;exact(if_neg bD).trans (if_neg bR)
      by_cases a3:t.length=3
      ·have dq:decide ((t.length:Int)=3)=true:=bc (by omega)
       try simp only[go_sem,dt,dq]
       repeat'(first|((first|refine ae.intro (by assumption) ?_|refine ao.intro (by assumption) ?_|with_reducible refine b9 ?_|refine bb ?_|refine bp (fun h=>?_) (fun h=>?_))<;>simp only[go_sem])|(with_reducible refine al ?_)|fail)
       ·have hh:t.take 2=[117,61]∧48≤(t[2]?.getD 0).toNat∧(t[2]?.getD 0).toNat≤55:=by
         simp only[cf,cX,il,and_assoc]at h;exact⟨h.1,by omega,by omega⟩
        rw[if_pos ⟨a3,hh⟩]at hm;have ag:IntKind.u8.wrap (((t[2]?.getD 0).toNat:Int)-48)=((t[2]?.getD 0).toNat:Int)-48:=EB (by omega) (by omega);have e2:IntKind.i64.wrap (((t[2]?.getD 0).toNat:Int)-48)=((t[2]?.getD 0).toNat:Int)-48:=by rw[bC]<;>omega
        refine bm.intro (i+1) [0,1,2] (by omega) (by omega) ?_;simp only[go_sem,hw,hs,hm,ag,e2];simp
       ·have hh:¬(t.length=3∧t.take 2=[117,61]∧48≤(t[2]?.getD 0).toNat∧(t[2]?.getD 0).toNat≤55):=by
         rintro⟨_,g1,cx,g3⟩;have A':decide (48≤((t[2]?.getD 0).toNat:Int))=true:=bc (by omega);have Ba:decide (((t[2]?.getD 0).toNat:Int)≤55)=true:=bc (by omega);rw[A',Ba,bc g1]at h
         cases h
        rw[if_neg hh]at hm;refine bm.intro (i+1) [0,1,2] (by omega) (by omega) ?_;simp only[go_sem,hw,hs,hm];simp
      ·have dq:decide ((t.length:Int)=3)=false:=a_ (by omega);rw[if_neg (fun h=>a3 h.1)]at hm
       try simp only[go_sem,dt,dq]
       repeat'((first|refine ae.intro (by assumption) ?_|refine ao.intro (by assumption) ?_|with_reducible refine de ?_)<;>simp only[go_sem])
       all_goals(refine bm.intro (i+1) [0,1,2] (by omega) (by omega) ?_;simp only[go_sem,hw,hs,hm];simp)
   ·have ar:decide ((i:Int)<(l.length:Int))=false:=a_ (by omega);obtain rfl:i=l.length:=by omega
    rw[dB]
    try simp only[go_sem,ar]
    repeat'((first|refine ae.intro (by assumption) ?_|refine ao.intro (by assumption) ?_)<;>simp only[go_sem,lM,ar])
    all_goals simp[ah]
set_option maxRecDepth 100000
def vO(c:I)(id:Int):Bool:=gR c id&&jK (aE c id).send
def uN(c:I)(id:Int):I:=if vO c id then {c with streams:=putS c.streams (fb (aE c id) (mQ (aE c id).send))}else c
set_option maxHeartbeats 8000000 in
theorem PR(c:I)(id:Int)(hz:e0 c)(hw:dT (fb (aE c id) (mQ (aE c id).send))):PureCall Tryz.prog 17 [.agg (I.enc c),.one (.int .i64 id)] [.agg (I.enc ((uN c id))),.one (.bool (vO c id))]:=by
 refine aL 49 Tryz.func17 Tryz.call17 [.cell 4 37,.tmp 5] ?_;intro ok;clear ok;have jk:=iQ hz;have hC:uN c id=if vO c id then {c with streams:=putS c.streams (fb (aE c id) (mQ (aE c id).send))}else c:=rfl
 have bo:vO c id=(gR c id&&jK (aE c id).send):=rfl;have bw:=Gr c id;obtain⟨cU,c9,cq,dd⟩:=mR hz.2.1 id;have b1:=mm c id hz;rw[show(strOf c.streams id).1=aE c id from rfl]at cU c9 cq dd b1;have gp:=k4 c.streams (fb (aE c id) (mQ (aE c id).send)) (by have:=hz.1;omega) hz.2.1 hw;generalize aE c id=s at *
 try simp only[go_sem]
 repeat'((first|refine ae.af (by first|assumption|(apply gg<;>first|assumption|omega)|(apply tD<;>first|assumption|omega)) ?_|refine ao.af (by assumption) ?_|refine bb ?_)<;>simp only[go_sem,lM])
 rw[bw]
 cases hg:gR c id with
 |false=>
  rw[hg,Bool.false_and]at bo;rw[bo]at hC
  try simp only[go_sem,lM,Bool.not_false]
  repeat'(first|((first|refine ae.af (by assumption) ?_|refine ao.af (by assumption) ?_)<;>simp only[go_sem,lM,Bool.not_false])|(with_reducible refine al ?_)|fail)
  all_goals simp[hC,bo]
 |true=>
  rw[hg,Bool.true_and]at bo
  try simp only[go_sem,lM,Bool.not_true]
  repeat'((first|refine ae.af (by first|assumption|(apply XG<;>first|assumption|omega)) ?_|refine ao.af (by assumption) ?_)<;>simp only[go_sem,lM])
  cases hr:jK s.send with
  |false=>
   rw[hr]at bo;rw[bo]at hC
   try simp only[go_sem,lM,Bool.not_false]
   repeat'(first|((first|refine ae.af (by assumption) ?_|refine ao.af (by assumption) ?_)<;>simp only[go_sem,lM,Bool.not_false])|(with_reducible refine al ?_)|fail)
   all_goals simp[hC,bo]
  |true=>
   rw[hr]at bo;rw[bo]at hC
   try simp only[go_sem,lM,Bool.not_true]
   repeat'(first|((first|refine ae.af (by assumption) ?_|refine ao.af (by assumption) ?_)<;>simp only[go_sem,lM,fb])|(with_reducible refine al ?_)|fail)
   all_goals simp[hC,bo,fb]
def jL(c:I)(id:Int)(t:List UInt8):I:=if gR c id then {c with streams:=putS c.streams {aE c id with priority:=nk (aE c id).priority t}}else c
set_option maxHeartbeats 8000000 in
theorem PS(c:I)(id:Int)(t:List UInt8)(hz:e0 c)(ht:t.length≤1000):PureCall Tryz.prog 27 [.agg (I.enc c),.one (.int .i64 id),.one (.str t)] [.agg (I.enc ((jL c id t))),.one (.bool (gR c id))]:=by
 refine aL 43 Tryz.func27 Tryz.call27 [.cell 6 37,.tmp 7] ?_;intro ok;clear ok;have jk:=iQ hz;have hC:jL c id t=if gR c id then {c with streams:=putS c.streams {aE c id with priority:=nk (aE c id).priority t}}else c:=rfl
 have bw:=Gr c id;have uO:dT (aE c id):=mR hz.2.1 id;have b1:=mm c id hz;rw[show(strOf c.streams id).1=aE c id from rfl]at b1;have gp:=k4 c.streams {aE c id with priority:=nk (aE c id).priority t} (by have:=hz.1;omega) hz.2.1 uO;generalize aE c id=s at *;obtain⟨cU,c9,cq,dd⟩:=uO
 try simp only[go_sem]
 repeat'((first|refine ae.af (by first|assumption|(apply gg<;>first|assumption|omega)|(apply tD<;>first|assumption|omega)) ?_|refine ao.af (by assumption) ?_|refine bb ?_)<;>simp only[go_sem,lM])
 rw[bw]
 cases hg:gR c id with
 |false=>
  rw[hg]at hC
  try simp only[go_sem,lM,Bool.not_false]
  repeat'(first|((first|refine ae.af (by assumption) ?_|refine ao.af (by assumption) ?_)<;>simp only[go_sem,lM,Bool.not_false])|(with_reducible refine al ?_)|fail)
  all_goals simp[hC]
 |true=>
  rw[hg]at hC
  try simp only[go_sem,Bool.not_true]
  repeat'(first|((first|refine ae.af (by first|assumption|(apply XH<;>first|assumption|omega)) ?_|refine ao.af (by assumption) ?_)<;>simp only[go_sem,lM])|(with_reducible refine al ?_)|fail)
  all_goals simp[hC]
def gS(c:I)(u:Bool):fz:=if u then c.eB else c.eC
def nm(c:I):Bool:=fM c&&!decide (24≤(c.streams.length:Int))
def ku(c:I)(u:Bool):I:=if u then {c with eB:=kx c.eB}else {c with eC:=kx c.eC}
def o6(c:I)(u:Bool):Bool:=nm c&&iY (gS c u)
def ow(c:I)(u:Bool):Int:=if o6 c u then mn (k5 (gS c u)) c.cr u else -1
def iZ(c:I)(u:Bool):I:=
 if nm c then(if iY (gS c u)then {ku c u with streams:=putS c.streams (ft c.cr (mn (k5 (gS c u)) c.cr u) c.own c.peer)}else ku c u)else c
theorem PT(c:I):(bif !fM c then true else decide (24≤(c.streams.length:Int)))=!nm c:=by
 unfold nm
 cases fM c<;>cases decide (24≤(c.streams.length:Int))<;>rfl
set_option maxHeartbeats 8000000 in
theorem PU(c:I)(u:Bool)(hz:e0 c):PureCall Tryz.prog 7 [.agg (I.enc c),.one (.bool u)] [.one (.int .i64 (ow c u)),.agg (I.enc ((iZ c u))),.one (.bool (o6 c u))]:=by
 refine aL 69 Tryz.func7 Tryz.call7 [.tmp 4,.cell 5 37,.tmp 6] ?_;intro ok;clear ok;have jk:=iQ hz;have hC:iZ c u=if nm c then(if iY (gS c u)then {ku c u with streams:=putS c.streams (ft c.cr (mn (k5 (gS c u)) c.cr u) c.own c.peer)}else ku c u)else c:=rfl
 have bo:o6 c u=(nm c&&iY (gS c u)):=rfl;have hI:ow c u=if o6 c u then mn (k5 (gS c u)) c.cr u else -1:=rfl
 have bw:=PT c;have gp:=k4 c.streams (ft c.cr (mn (k5 (gS c u)) c.cr u) c.own c.peer) (by have:=hz.1;omega) hz.2.1 (Bw _ _ _ _)
 try simp only[go_sem]
 repeat'((first|refine ae.af (by first|assumption|(apply gg<;>first|assumption|omega)|(apply tD<;>first|assumption|omega)) ?_|refine ao.af (by assumption) ?_|refine bb ?_)<;>simp only[go_sem,lM])
 rw[bw]
 cases hg:nm c with
 |false=>
  rw[hg]at hC;rw[hg,Bool.false_and]at bo;rw[bo]at hI
  try simp only[go_sem,Bool.not_false]
  repeat'(first|((first|refine ae.af (by assumption) ?_|refine ao.af (by assumption) ?_|refine ba [[.post,.cA,.post,.post],[.cA,.post,.post,.post],[.pre,.pre,.post,.post],[.pre,.pre,.pre,.post]] (by kernel_rfl) (by rfl) ?_)<;>simp only[go_sem,lM])|(with_reducible refine al ?_)|fail)
  all_goals simp[hC,bo,hI]
 |true=>
  rw[hg]at hC;rw[hg,Bool.true_and]at bo
  cases u with
  |true=>
   have ag:gS c true=c.eB:=rfl;have e2:ku c true={c with eB:=kx c.eB}:=rfl;rw[ag]at hC bo hI gp;rw[e2]at hC
   try simp only[go_sem,Bool.not_true]
   repeat'((first|refine ae.af (by first|assumption|apply PV) ?_|refine ao.af (by assumption) ?_)<;>simp only[go_sem])
   cases ax:iY c.eB with
   |false=>
    rw[ax]at hC bo;rw[bo]at hI
    try simp only[go_sem,Bool.not_false]
    repeat'(first|((first|refine ae.af (by assumption) ?_|refine ao.af (by assumption) ?_|refine ba [[.post,.cA,.post,.post],[.cA,.post,.post,.post],[.pre,.pre,.post,.post],[.pre,.pre,.pre,.post]] (by kernel_rfl) (by rfl) ?_)<;>simp only[go_sem,lM])|(with_reducible refine al ?_)|fail)
    all_goals simp[hC,bo,hI]
   |true=>
    rw[ax]at hC bo;rw[bo]at hI
    try simp only[go_sem,Bool.not_true]
    repeat'(first|((first|refine ae.af (by first|assumption|apply PW|apply Gt) ?_|refine ao.af (by assumption) ?_|refine ba [[.post,.cA,.post,.post,.post],[.cA,.post,.cA,.post,.post],[.pre,.cA,.post,.post,.post],[.pre,.pre,.pre,.post,.post],[.pre,.pre,.pre,.pre,.post]] (by kernel_rfl) (by rfl) ?_)<;>simp only[go_sem,lM])|(with_reducible refine al ?_)|fail)
    all_goals simp[hC,bo,hI]
  |false=>
   have ag:gS c false=c.eC:=rfl;have e2:ku c false={c with eC:=kx c.eC}:=rfl;rw[ag]at hC bo hI gp;rw[e2]at hC
   try simp only[go_sem,Bool.not_true]
   repeat'((first|refine ae.af (by first|assumption|apply PV) ?_|refine ao.af (by assumption) ?_)<;>simp only[go_sem])
   cases ax:iY c.eC with
   |false=>
    rw[ax]at hC bo;rw[bo]at hI
    try simp only[go_sem,Bool.not_false]
    repeat'(first|((first|refine ae.af (by assumption) ?_|refine ao.af (by assumption) ?_|refine ba [[.post,.cA,.post,.post],[.cA,.post,.post,.post],[.pre,.pre,.post,.post],[.pre,.pre,.pre,.post]] (by kernel_rfl) (by rfl) ?_)<;>simp only[go_sem,lM])|(with_reducible refine al ?_)|fail)
    all_goals simp[hC,bo,hI]
   |true=>
    rw[ax]at hC bo;rw[bo]at hI
    try simp only[go_sem,Bool.not_true]
    repeat'(first|((first|refine ae.af (by first|assumption|apply PW|apply Gt) ?_|refine ao.af (by assumption) ?_|refine ba [[.post,.cA,.post,.post,.post],[.cA,.post,.cA,.post,.post],[.pre,.cA,.post,.post,.post],[.pre,.pre,.pre,.post,.post],[.pre,.pre,.pre,.pre,.post]] (by kernel_rfl) (by rfl) ?_)<;>simp only[go_sem,lM])|(with_reducible refine al ?_)|fail)
    all_goals simp[hC,bo,hI]
theorem YY{m:Nat}{c:I}(h:b6 m c)(id:Int):b6 m (uN c id):=by
 unfold uN;split
 ·rename_i hg;simp only[vO,cX]at hg;exact ye (id:=id) h (wZ hg.1) rfl ((h.aE id).yd (NS (h.aE id).snd))
 ·exact h
theorem Y1{m:Nat}{c:I}(h:b6 m c)(id:Int)(t:List UInt8):b6 m (jL c id t):=by
 unfold jL;split
 ·rename_i hg;exact ye (id:=id) (s:={aE c id with priority:=nk (aE c id).priority t}) h (wZ hg) rfl ((h.aE id).same rfl rfl)
 ·exact h
theorem aeh(c:I)(u:Bool):(ku c u).streams=c.streams∧(ku c u).packets=c.packets:=by unfold ku;split<;>exact⟨rfl,rfl⟩
theorem YW{m:Nat}{c:I}(h:b6 m c)(u:Bool):b6 m (iZ c u):=by
 unfold iZ;obtain⟨eI,gj⟩:=aeh c u;split
 ·rename_i hg;split
  ·simp only[nm,cX,Bool.not_eq_true',kk]at hg;have hl:=GK c.streams (ft c.cr (mn (k5 (gS c u)) c.cr u) c.own c.peer);refine⟨by simp only;omega,fun x hx=>?_,by simp only[gj];exact h.v',by simp only[gj];exact h.lP⟩;rcases GI hx with hx|rfl
   ·exact h.n0 x hx
   ·exact Uz m _ _ _ _
  ·exact h.same eI gj
 ·exact h
inductive nL(c:I):I→Prop
 |same:nL c c
 |G2 (u:Bool):nL c (iZ c u)
 |write (id:Int) (d:List UInt8) (h:d.length≤8):nL c (eH c id d)
 |bd (id:Int):nL c (uN c id)
 |read (id k:Int):nL c (kR c id k)
 |reset (id k:Int):nL c (jM c id k)
 |Lm (id:Int) (t:List UInt8):nL c (jL c id t)
 |em (b:Int):nL c (fE c b)
 |hf (f:aq) (h:f.data.length≤8) (ax:0≤f.offset∧f.offset≤900):nL c (vX c f)
 |Ln (n:Int):nL c (zO c n)
 |Lo (n:Int):nL c (zM c n)
theorem YV{m:Nat}{x y:I}(h:b6 m x)(hm:m≤1000)(hs:nL x y):b6 (m+1) y:=by
 cases hs with
 |same=>exact h.mono (by omega)
 |G2 u=>exact YW (h.mono (by omega)) u
 |write id d hd=>exact YX h id hd
 |bd id=>exact(YY h id).mono (by omega)
 |read id k=>exact(YZ h id k).mono (by omega)
 |reset id k=>exact(Y0 h id k).mono (by omega)
 |Lm id t=>exact(Y1 h id t).mono (by omega)
 |em b=>exact Y2 h hm b
 |hf f hd ax=>exact Y3 h hd ax
 |Ln n=>exact(Y4 h n).mono (by omega)
 |Lo n=>exact(Y5 h n).mono (by omega)
inductive Drawn:Nat→I→Prop
 |new (v:Bool) (o p:da):Drawn 0 (xq v o p)
 |step {k:Nat} {x y:I}:Drawn k x→nL x y→Drawn (k+1) y
theorem Drawn.mono{k j:Nat}{x:I}(h:Drawn k x)(hk:k≤j):Drawn j x:=by
 obtain⟨d,rfl⟩:=Nat.le.dest hk;clear hk
 induction d with
 |zero=>exact h
 |succ d dr=>exact dr.step .same
theorem Drawn.nG{k:Nat}{x:I}(h:Drawn k x)(hk:k≤1000):b6 k x:=by
 induction h with
 |new v o p=>exact Y6 v o p
 |step _ hs dr=>exact YV (dr (by omega)) (by omega) hs
def tE(y:I):Prop:=∃x a b c d,Drawn 14 x∧y={x with closed:=a,gh:=b,c8:={x.c8 with used:=c},number:=d}
theorem tE.nG{y:I}(h:tE y):b6 14 y:=by
 obtain⟨x,a,b,c,d,h,rfl⟩:=h;exact(h.nG (by omega)).same rfl rfl
set_option maxRecDepth 100000
set_option maxHeartbeats 2000000 in
theorem Qd(bs:List Int)(hm:bs.length≤maxLen)(i:Nat)(h:Int)(pre rest:List H)(kv:List V)(n:Nat)(hn:pre.length+(rest.length+1)=n)(hr:roks n pre∧roks n rest)(br:a6 n kv)(K:V→List H→Prop)(hi:i≤bs.length)
  (hk:∀(cz:Nat) (h':Int) (c:da),cz≤bs.length→K (.agg (da.bM c)) (pre++cE bs cz h'::rest)):dj Tryz.prog 143 kv (pre++cE bs i h::rest) [.ptr pre.length 0 0] K:=by
 have bd:∀(cz:Nat) (h':Int) (c:da) (ex:List H),cz≤bs.length→o2 kv K (.agg (da.bM c)) (pre++cE bs cz h'::(rest++ex)):=by
  intro cz h' c ex c4;subst hn;exact⟨List.range (pre.length+(rest.length+1)),.agg (da.bM c),pre++cE bs cz h'::rest,Ac hr br (by simp only[da.bM,vsees,vsee,ren,rens,and_true]) (by simp[a6,vok]),hk cz h' c c4⟩
 refine dj.oq ?_;refine(en (n:=19) (rs:=[.cell 2 25]) Tryz.func143 rfl Tryz.call143 hZ rfl rfl ?_);simp only[go_sem,fu,dN];refine ae.intro YD ?_;simp only[go_sem,dN,dz];refine ae.inl (j0 bs hm i h pre (rest++[.box da.bH,.box (da.bM BN)]) _ 3 (by omega) (by omega) _ hi fun eo h1 x1 bD dx c1=>?_);simp only[go_sem];refine bp (fun q=>?_) (fun q=>?_)
 ·simp only[go_sem,dN,dz,d_,eX];exact bd eo h1 {BN with ring:=8,bP:=4,c8:=6,l0:=1} _ bD
 ·simp only[go_sem];refine bp (fun bg=>?_) (fun bg=>?_)
  ·simp only[go_sem,dN,dz,d_,eX];exact bd eo h1 {BN with l0:=3,fy:=1,iF:=2} _ bD
  ·simp only[go_sem,dN,dz,d_,eX];exact bd eo h1 BN _ bD
set_option maxHeartbeats 4000000 in
theorem YE(bs:List Int)(hm:bs.length≤maxLen)(i:Nat)(h:Int)(pre rest:List H)(kv:List V)(n:Nat)(hn:pre.length+(rest.length+1)=n)(hr:roks n pre∧roks n rest)(br:a6 n kv)(K:V→List H→Prop)(hi:i≤bs.length)
  (hk:∀(cz:Nat) (h':Int) (f:aq),cz≤bs.length→f.data.length≤6→0≤f.offset→f.offset≤11→K (.agg (aq.bM f)) (pre++cE bs cz h'::rest)):dj Tryz.prog 202 kv (pre++cE bs i h::rest) [.ptr pre.length 0 0] K:=by
 have bd:∀(cz:Nat) (h':Int) (f:aq) (ex:List H),cz≤bs.length→f.data.length≤6→0≤f.offset→f.offset≤11→o2 kv K (.agg (aq.bM f)) (pre++cE bs cz h'::(rest++ex)):=by
  intro cz h' f ex c4 g1 cx g3;subst hn;exact⟨List.range (pre.length+(rest.length+1)),.agg (aq.bM f),pre++cE bs cz h'::rest,Ac hr br (by simp only[aq.bM,vsees,vsee,ren,rens,and_true]) (by simp[a6,vok]),hk cz h' f c4 g1 cx g3⟩
 have DP:∀l:List H,roks (pre.length+((rest++l).length+1)) l→roks (pre.length+((rest++l).length+1)) pre∧roks (pre.length+((rest++l).length+1)) (rest++l):=by
  intro l hl;have e:n≤pre.length+((rest++l).length+1):=by simp only[List.length_append];omega
  exact⟨Ab e hr.1,DL (Ab e hr.2) hl⟩
 have YF:∀k,n≤k→a6 k kv:=fun k hk=>mj hk _ br;refine dj.oq ?_;refine(en (n:=34) (rs:=[.cell 2 134]) Tryz.func202 rfl Tryz.call202 hZ rfl rfl ?_);simp only[go_sem,fu,dN,dz];refine ae.inl (zQ bs hm i h pre (rest++[.box aq.bH,.ai 1 ([4,5,8,8,8,8,16,17,18,20,21,22].map aW) true]) _ (rest.length+1) [4,5,8,8,8,8,16,17,18,20,21,22] (by rw[dz];rfl) (by decide) (by decide) _ hi fun eo h1 x1 bD dx=>?_);simp only[go_sem,dN,dz];refine ae.inl (j0 bs hm eo h1 pre (rest++[.box aq.bH,.ai 1 ([4,5,8,8,8,8,16,17,18,20,21,22].map aW) true,.box [.d (.int .i64 x1),.d (.int .i64 0),.d (.int .i64 0),.d (.str []),.d (.bool false),.d (.int .i64 0),.d (.int .i64 0),.d (.int .i64 0),.d (.bool false)]]) _ 8 (by omega) (by omega) _ bD fun dk h2 x2 bR dt c2=>?_);simp only[go_sem,dN,dz];refine ae.inl (j0 bs hm dk h2 pre (rest++[.box aq.bH,.ai 1 ([4,5,8,8,8,8,16,17,18,20,21,22].map aW) true,.box [.d (.int .i64 x1),.d (.int .i64 x2),.d (.int .i64 0),.d (.str []),.d (.bool false),.d (.int .i64 0),.d (.int .i64 0),.d (.int .i64 0),.d (.bool false)]]) _ 12 (by omega) (by omega) _ bR fun dQ aj fe a3 dq ja=>?_);simp only[go_sem,dN,dz];refine ae.iR [0,2,3] (by simp only[keepT,List.elem_cons,List.elem_nil,Nat.reduceBEq,Nat.reduceAdd,cond_true,cond_false];rfl) (GV bs hm dQ aj pre (rest++[.box aq.bH,.ai 1 ([4,5,8,8,8,8,16,17,18,20,21,22].map aW) true,.box [.d (.int .i64 x1),.d (.int .i64 x2),.d (.int .i64 fe),.d (.str []),.d (.bool false),.d (.int .i64 0),.d (.int .i64 0),.d (.int .i64 0),.d (.bool false)]]) _ 6 (DP _ (by simp[roks,rok,a6,vok])) (by
  simp only[List.length_append,oW,List.length_nil,bf,bn,a6,vok,true_and];have hq:=YF (pre.length+(rest.length+(0+1+1+1)+1)) (by omega);simp only[hq,and_true];omega) (by omega) _ a3 fun g_ aD dd a4 g4=>?_)
 simp only[go_sem,dN,dz];refine ae.inl (vU bs hm g_ aD pre (rest++[.box aq.bH,.ai 1 ([4,5,8,8,8,8,16,17,18,20,21,22].map aW) true,.box [.d (.int .i64 x1),.d (.int .i64 x2),.d (.int .i64 fe),.d (.str dd),.d (.bool false),.d (.int .i64 0),.d (.int .i64 0),.d (.int .i64 0),.d (.bool false)]]) _ 4 (by omega) (by omega) _ a4 fun DF bX mX a5=>?_);simp only[go_sem,dN,dz];refine ae.inl (j0 bs hm DF bX pre (rest++[.box aq.bH,.ai 1 ([4,5,8,8,8,8,16,17,18,20,21,22].map aW) true,.box [.d (.int .i64 x1),.d (.int .i64 x2),.d (.int .i64 fe),.d (.str dd),.d (.bool mX),.d (.int .i64 0),.d (.int .i64 0),.d (.int .i64 0),.d (.bool false)]]) _ 5 (by omega) (by omega) _ a5 fun GF eR yL ec GY GZ=>?_);simp only[go_sem,dN,dz];refine ae.inl (j0 bs hm GF eR pre (rest++[.box aq.bH,.ai 1 ([4,5,8,8,8,8,16,17,18,20,21,22].map aW) true,.box [.d (.int .i64 x1),.d (.int .i64 x2),.d (.int .i64 fe),.d (.str dd),.d (.bool mX),.d (.int .i64 yL),.d (.int .i64 0),.d (.int .i64 0),.d (.bool false)]]) _ 40 (by omega) (by omega) _ ec fun YG l2 Ad e9 G0 ahc=>?_);simp only[go_sem,dN,dz];refine ae.inl (j0 bs hm YG l2 pre (rest++[.box aq.bH,.ai 1 ([4,5,8,8,8,8,16,17,18,20,21,22].map aW) true,.box [.d (.int .i64 x1),.d (.int .i64 x2),.d (.int .i64 fe),.d (.str dd),.d (.bool mX),.d (.int .i64 yL),.d (.int .i64 Ad),.d (.int .i64 0),.d (.bool false)]]) _ 14 (by omega) (by omega) _ e9 fun i8 fO BO fC BP ahd=>?_);simp only[go_sem,dN,dz];refine ae.inl (vU bs hm i8 fO pre (rest++[.box aq.bH,.ai 1 ([4,5,8,8,8,8,16,17,18,20,21,22].map aW) true,.box [.d (.int .i64 x1),.d (.int .i64 x2),.d (.int .i64 fe),.d (.str dd),.d (.bool mX),.d (.int .i64 yL),.d (.int .i64 Ad),.d (.int .i64 BO),.d (.bool false)]]) _ 2 (by omega) (by omega) _ fC fun YH Ae xu a9=>?_);simp only[go_sem,dN,dz];refine ae.intro (QI x1 x2 fe dd mX yL Ad BO xu) ?_;simp only[go_sem,dN,dz,d_,eX];have hu:(gV ⟨x1,x2,fe,dd,mX,yL,Ad,BO,xu⟩).data.length≤6:=by simp only[gV];split<;>first|exact g4|simp
 have QJ:0≤(gV ⟨x1,x2,fe,dd,mX,yL,Ad,BO,xu⟩).offset∧(gV ⟨x1,x2,fe,dd,mX,yL,Ad,BO,xu⟩).offset≤11:=by simp only[gV];split<;>omega
 exact bd YH Ae (gV ⟨x1,x2,fe,dd,mX,yL,Ad,BO,xu⟩) _ a9 hu QJ.1 QJ.2
set_option maxRecDepth 100000
set_option maxHeartbeats 4000000 in
theorem Yk(s:Bool)(I0 I1 I2 I3 I4 I5 I6 I7 I8 yf A1 CT C1 Fl Fu IL:Int):PureCall Tryz.prog 142 [.one (.bool s),.agg [.int .i64 I0,.int .i64 I1,.int .i64 I2,.int .i64 I3,.int .i64 I4,.int .i64 I5,.int .i64 I6,.int .i64 I7],.agg [.int .i64 I8,.int .i64 yf,.int .i64 A1,.int .i64 CT,.int .i64 C1,.int .i64 Fl,.int .i64 Fu,.int .i64 IL]] [.agg (I.enc (xq s (⟨I0,I1,I2,I3,I4,I5,I6,I7⟩:da) (⟨I8,yf,A1,CT,C1,Fl,Fu,IL⟩:da))),.one (.bool (gG (⟨I0,I1,I2,I3,I4,I5,I6,I7⟩:da)&&gG (⟨I8,yf,A1,CT,C1,Fl,Fu,IL⟩:da)))]:=by
 refine aL 85 Tryz.func142 Tryz.call142 [.cell 6 37,.tmp 7] ?_;intro _
 try simp only[go_sem]
 repeat'((first|refine ae.intro (by first|apply DG|apply U7|apply U8|apply aeQ|apply aeR) ?_|refine ao.intro (by apply DG) ?_|refine bb ?_|refine bp (fun h=>?_) (fun h=>?_))<;>simp only[go_sem])
 all_goals(cases h1:gG (⟨I0,I1,I2,I3,I4,I5,I6,I7⟩:da)<;>cases h2:gG (⟨I8,yf,A1,CT,C1,Fl,Fu,IL⟩:da)<;>simp_all [xq])
set_option maxRecDepth 100000
theorem JG{S:List Bool}(h:S.length=9):∃a0 bD bR a3 a4 a5 ec e9 fC,S=[a0,bD,bR,a3,a4,a5,ec,e9,fC]:=by
 match S,h with|[a0,bD,bR,a3,a4,a5,ec,e9,fC],_=>exact⟨a0,bD,bR,a3,a4,a5,ec,e9,fC,rfl⟩
theorem JH{S:List Bool}(h:S.length=10):∃a0 bD bR a3 a4 a5 ec e9 fC a9,S=[a0,bD,bR,a3,a4,a5,ec,e9,fC,a9]:=by
 match S,h with|[a0,bD,bR,a3,a4,a5,ec,e9,fC,a9],_=>exact⟨a0,bD,bR,a3,a4,a5,ec,e9,fC,a9,rfl⟩
theorem Ll{S:List Bool}(h:S.length=11):∃a0 bD bR a3 a4 a5 ec e9 fC a9 j1,S=[a0,bD,bR,a3,a4,a5,ec,e9,fC,a9,j1]:=by
 match S,h with|[a0,bD,bR,a3,a4,a5,ec,e9,fC,a9,j1],_=>exact⟨a0,bD,bR,a3,a4,a5,ec,e9,fC,a9,j1,rfl⟩
def gP(y:I):List H:=[.ai 39 (y.streams.map aa.enc) true,.ai 2 (y.packets.map aC.enc) true]
def gB(y:I)(a:Nat):V:=.agg (I.vc y (.sl a 0 y.streams.length) (.sl (a+1) 0 y.packets.length))
def JI(K:V→List H→Prop):V→List H→Prop:=fun x hs'=>K x hs'∨∃id sz xs,aG hs' id=.af sz xs∧K x (bI hs' id (.ai sz xs true))
theorem uI{kv:List V}(br:a6 5 kv)(y:I)(a:Nat)(ha:5≤a){bG c bg bT bY:H}(hq:roks 5 [bG,c,bg,bT,bY]){ex:List H}{K:V→List H→Prop}(ag:aG (bG::c::bg::bT::bY::ex) a=.af 39 (y.streams.map aa.enc))(e2:aG (bG::c::bg::bT::bY::ex) (a+1)=.af 2 (y.packets.map aC.enc))
  (bF:K (gB y 5) ([bG,c,bg,bT,bY]++gP y)):o2 kv (JI (JI K)) (gB y a) (bG::c::bg::bT::bY::ex):=by
 refine⟨List.range 5++[a,a+1],gB y 5,[bG,c,bg,bT,bY]++[H.af 39 (y.streams.map aa.enc),H.af 2 (y.packets.map aC.enc)],?_,Or.inr ⟨5,39,_,rfl,Or.inr ⟨6,2,_,rfl,bF⟩⟩⟩;refine KN (hs:=[bG,c,bg,bT,bY]) (ex:=ex) [a,a+1] (by simp) (by simp;omega) hq ?_ (by simp[allOk,hok]) br ?_ ?_
 ·simp only[bf,bn,hsees,ag,e2];simp[hsee]
 ·simp[gB,vsees,vsee,ren,rens,List.range,List.range.loop]
 ·simp[gB,a6,vok]
theorem O8{kv:List V}(br:a6 5 kv)(x:I){bG c bg bT bY:H}(hq:roks 5 [bG,c,bg,bT,bY]){ex:List H}{K:V→List H→Prop}(bF:K (gB x 5) ([bG,c,bg,bT,bY]++gP x)) :
  o2 kv (JI (JI K)) (gB x 5) (bG::c::bg::bT::bY::.ai 39 (x.streams.map aa.enc) true::.ai 2 (x.packets.map aC.enc) true::ex):=by
 have hr:roks 7 ([bG,c,bg,bT,bY]++gP x):=DL (Ab (m:=5) (n:=7) (by omega) hq) (by simp[gP,roks,rok]);refine⟨List.range 7,gB x 5,[bG,c,bg,bT,bY]++gP x,?_,Or.inl (Or.inl bF)⟩;refine zR (hs:=[bG,c,bg,bT,bY]++gP x) (ex:=ex) hr (mj (by simp[gP]) _ br) ?_ ?_
 ·simp[gB,gP,vsees,vsee,ren,rens,List.range,List.range.loop]
 ·simp[gB,gP,a6,vok]
def F_(bG c bg bT bY:H)(x:I):List H:=[bG,c,bg,bT,bY,.ai 39 (x.streams.map aa.enc) true,.ai 2 (x.packets.map aC.enc) true,.box (I.vc x (.sl 5 0 x.streams.length) (.sl 6 0 x.packets.length)),.box I.bH]
def O9(bs:List Int)(bG bg bT bY:H)(x:I)(id:Int)(i:Nat)(h:Int)(z:Nat×Int)(S:List Bool):St:=⟨(.ptr 1 0 0::.agg (I.vc x (.sl 5 0 x.streams.length) (.sl 6 0 x.packets.length))::.J::.ptr 7 0 0::.ptr 8 0 0::(bif S.getD 10 false then .d (.int .i64 z.2)else .d (.int .i64 id))::jn 5 (.ptr 7 0 17::.sl 5 0 x.streams.length::.d (.int .i64 x.streams.length)::.d (.bool true)::(bif S.getD 0 false then .ptr 7 0 17 else .J)::(bif S.getD 1 false then .sl 5 0 x.streams.length else .J)::(bif S.getD 2 false then .ptr 1 0 0 else .J)::(bif S.getD 3 false then .ptr 7 0 17 else .J)::(bif S.getD 4 false then .sl 5 0 x.streams.length else .J)::(bif S.getD 5 false then .d (.int .i64 x.streams.length)else .J)::(bif S.getD 6 false then .d (.int .i64 z.1)else .J)::(bif S.getD 7 false then .ptr 5 z.1 0 else .J)::(bif S.getD 8 false then .ptr 5 z.1 0 else .J)::(bif S.getD 9 false then .d (.int .i64 z.2)else .J)::jn 122 [])),[bG,cE bs i h,bg,bT,bY,.ai 39 (x.streams.map aa.enc) true,.ai 2 (x.packets.map aC.enc) true,.box (I.vc x (.sl 5 0 x.streams.length) (.sl 6 0 x.packets.length)),.box I.bH]⟩
def O_(bs:List Int)(bG bg bT bY:H)(x:I)(id:Int)(i:Nat)(h:Int)(z:Bool)(S:List Bool):St:=⟨(.ptr 1 0 0::.J::.J::.ptr 7 0 0::.ptr 8 0 0::.d (.int .i64 id)::.ptr 9 0 0::jn 18 (.agg (I.vc x (.sl 5 0 x.streams.length) (.sl 6 0 x.packets.length))::.ptr 1 0 0::.d (.int .i64 0)::.d (.bool true)::.d (.bool true)::(bif S.getD 4 false then .c6 [.d (.int .i64 (ow x z)),.agg (I.vc (iZ x z) (.sl 10 0 (iZ x z).streams.length) (.sl 11 0 (iZ x z).packets.length)),.d (.bool (o6 x z))]else .J)::(bif S.getD 0 false then .agg (I.vc x (.sl 5 0 x.streams.length) (.sl 6 0 x.packets.length))else .J)::(bif S.getD 1 false then .ptr 1 0 0 else .J)::(bif S.getD 2 false then .d (.bool z)else .J)::(bif S.getD 3 false then .c6 [.d (.int .i64 (ow x z)),.agg (I.vc (iZ x z) (.sl 10 0 (iZ x z).streams.length) (.sl 11 0 (iZ x z).packets.length)),.d (.bool (o6 x z))]else .J)::(bif S.getD 5 false then .d (.int .i64 (ow x z))else .J)::(bif S.getD 6 false then .agg (I.vc (iZ x z) (.sl 10 0 (iZ x z).streams.length) (.sl 11 0 (iZ x z).packets.length))else .J)::(bif S.getD 7 false then .d (.bool (o6 x z))else .J)::jn 109 [])),[bG,cE bs i h,bg,bT,bY,.ai 39 (x.streams.map aa.enc) true,.ai 2 (x.packets.map aC.enc) true,.box (I.vc x (.sl 5 0 x.streams.length) (.sl 6 0 x.packets.length)),.box I.bH,(bif S.getD 8 false then .box (I.vc (iZ x z) (.sl 10 0 (iZ x z).streams.length) (.sl 11 0 (iZ x z).packets.length))else .box (I.vc x (.sl 5 0 x.streams.length) (.sl 6 0 x.packets.length)))]++(bif S.getD 3 false then [.af 39 ((iZ x z).streams.map aa.enc),.af 2 ((iZ x z).packets.map aC.enc)]else [])⟩
def O'(bs:List Int)(bG bg bT bY:H)(x:I)(id:Int)(i:Nat)(h:Int)(z:List UInt8)(S:List Bool):St:=⟨(.ptr 1 0 0::.J::.J::.ptr 7 0 0::.ptr 8 0 0::.d (.int .i64 id)::.ptr 9 0 0::jn 18 (.agg (I.vc x (.sl 5 0 x.streams.length) (.sl 6 0 x.packets.length))::.ptr 1 0 0::.d (.int .i64 1)::.d (.bool false)::.d (.bool false)::jn 8 (.d (.bool true)::.d (.bool true)::.J::(bif S.getD 5 false then .c6 [.d (.int .i64 (oy x id z)),.agg (I.vc (eH x id z) (.sl 10 0 (eH x id z).streams.length) (.sl 11 0 (eH x id z).packets.length))]else .J)::(bif S.getD 0 false then .agg (I.vc x (.sl 5 0 x.streams.length) (.sl 6 0 x.packets.length))else .J)::(bif S.getD 1 false then .d (.int .i64 id)else .J)::(bif S.getD 2 false then .ptr 1 0 0 else .J)::(bif S.getD 3 false then .d (.str z)else .J)::(bif S.getD 4 false then .c6 [.d (.int .i64 (oy x id z)),.agg (I.vc (eH x id z) (.sl 10 0 (eH x id z).streams.length) (.sl 11 0 (eH x id z).packets.length))]else .J)::(bif S.getD 6 false then .d (.int .i64 (oy x id z))else .J)::(bif S.getD 7 false then .agg (I.vc (eH x id z) (.sl 10 0 (eH x id z).streams.length) (.sl 11 0 (eH x id z).packets.length))else .J)::jn 98 []))),[bG,cE bs i h,bg,bT,bY,.ai 39 (x.streams.map aa.enc) true,.ai 2 (x.packets.map aC.enc) true,.box (I.vc x (.sl 5 0 x.streams.length) (.sl 6 0 x.packets.length)),.box I.bH,(bif S.getD 8 false then .box (I.vc (eH x id z) (.sl 10 0 (eH x id z).streams.length) (.sl 11 0 (eH x id z).packets.length))else .box (I.vc x (.sl 5 0 x.streams.length) (.sl 6 0 x.packets.length)))]++(bif S.getD 4 false then [.af 39 ((eH x id z).streams.map aa.enc),.af 2 ((eH x id z).packets.map aC.enc)]else [])⟩
def Pb(bs:List Int)(bG bg bT bY:H)(x:I)(id:Int)(i:Nat)(h:Int)(z:List UInt8)(S:List Bool):St:=⟨(.ptr 1 0 0::.J::.J::.ptr 7 0 0::.ptr 8 0 0::.d (.int .i64 id)::.ptr 9 0 0::jn 18 (.agg (I.vc x (.sl 5 0 x.streams.length) (.sl 6 0 x.packets.length))::.ptr 1 0 0::.d (.int .i64 2)::.d (.bool false)::.d (.bool false)::jn 8 (.d (.bool true)::.d (.bool false)::.d (.bool true)::(bif S.getD 5 false then .c6 [.d (.int .i64 (oy x id z)),.agg (I.vc (eH x id z) (.sl 10 0 (eH x id z).streams.length) (.sl 11 0 (eH x id z).packets.length))]else .J)::(bif S.getD 0 false then .agg (I.vc x (.sl 5 0 x.streams.length) (.sl 6 0 x.packets.length))else .J)::(bif S.getD 1 false then .d (.int .i64 id)else .J)::(bif S.getD 2 false then .ptr 1 0 0 else .J)::(bif S.getD 3 false then .d (.str z)else .J)::(bif S.getD 4 false then .c6 [.d (.int .i64 (oy x id z)),.agg (I.vc (eH x id z) (.sl 10 0 (eH x id z).streams.length) (.sl 11 0 (eH x id z).packets.length))]else .J)::(bif S.getD 6 false then .d (.int .i64 (oy x id z))else .J)::(bif S.getD 7 false then .agg (I.vc (eH x id z) (.sl 10 0 (eH x id z).streams.length) (.sl 11 0 (eH x id z).packets.length))else .J)::jn 98 []))),[bG,cE bs i h,bg,bT,bY,.ai 39 (x.streams.map aa.enc) true,.ai 2 (x.packets.map aC.enc) true,.box (I.vc x (.sl 5 0 x.streams.length) (.sl 6 0 x.packets.length)),.box I.bH,(bif S.getD 8 false then .box (I.vc (eH x id z) (.sl 10 0 (eH x id z).streams.length) (.sl 11 0 (eH x id z).packets.length))else .box (I.vc x (.sl 5 0 x.streams.length) (.sl 6 0 x.packets.length)))]++(bif S.getD 4 false then [.af 39 ((eH x id z).streams.map aa.enc),.af 2 ((eH x id z).packets.map aC.enc)]else [])⟩
def Pc(bs:List Int)(bG bg bT bY:H)(x:I)(id:Int)(i:Nat)(h z:Int)(S:List Bool):St:=⟨(.ptr 1 0 0::.J::.J::.ptr 7 0 0::.ptr 8 0 0::.d (.int .i64 id)::.ptr 9 0 0::jn 18 (.agg (I.vc x (.sl 5 0 x.streams.length) (.sl 6 0 x.packets.length))::.ptr 1 0 0::.d (.int .i64 4)::.d (.bool false)::.d (.bool false)::jn 8 (.d (.bool false)::.d (.bool false)::.d (.bool false)::jn 8 (.d (.bool false)::.d (.bool false)::jn 8 (.d (.bool true)::.d (.bool true)::(bif S.getD 5 false then .c6 [.d (.str (E2 x id z)),.d (.bool (E3 x id z)),.agg (I.vc (kR x id z) (.sl 10 0 (kR x id z).streams.length) (.sl 11 0 (kR x id z).packets.length))]else .J)::(bif S.getD 0 false then .agg (I.vc x (.sl 5 0 x.streams.length) (.sl 6 0 x.packets.length))else .J)::(bif S.getD 1 false then .d (.int .i64 id)else .J)::(bif S.getD 2 false then .ptr 1 0 0 else .J)::(bif S.getD 3 false then .d (.int .i64 z)else .J)::(bif S.getD 4 false then .c6 [.d (.str (E2 x id z)),.d (.bool (E3 x id z)),.agg (I.vc (kR x id z) (.sl 10 0 (kR x id z).streams.length) (.sl 11 0 (kR x id z).packets.length))]else .J)::(bif S.getD 6 false then .d (.str (E2 x id z))else .J)::(bif S.getD 7 false then .d (.bool (E3 x id z))else .J)::(bif S.getD 8 false then .agg (I.vc (kR x id z) (.sl 10 0 (kR x id z).streams.length) (.sl 11 0 (kR x id z).packets.length))else .J)::jn 77 []))))),[bG,cE bs i h,bg,bT,bY,.ai 39 (x.streams.map aa.enc) true,.ai 2 (x.packets.map aC.enc) true,.box (I.vc x (.sl 5 0 x.streams.length) (.sl 6 0 x.packets.length)),.box I.bH,(bif S.getD 9 false then .box (I.vc (kR x id z) (.sl 10 0 (kR x id z).streams.length) (.sl 11 0 (kR x id z).packets.length))else .box (I.vc x (.sl 5 0 x.streams.length) (.sl 6 0 x.packets.length)))]++(bif S.getD 4 false then [.af 39 ((kR x id z).streams.map aa.enc),.af 2 ((kR x id z).packets.map aC.enc)]else [])⟩
def Pd(bs:List Int)(bG bg bT bY:H)(x:I)(id:Int)(i:Nat)(h z:Int)(S:List Bool):St:=⟨(.ptr 1 0 0::.J::.J::.ptr 7 0 0::.ptr 8 0 0::.d (.int .i64 id)::.ptr 9 0 0::jn 18 (.agg (I.vc x (.sl 5 0 x.streams.length) (.sl 6 0 x.packets.length))::.ptr 1 0 0::.d (.int .i64 5)::.d (.bool false)::.d (.bool false)::jn 8 (.d (.bool false)::.d (.bool false)::.d (.bool false)::jn 8 (.d (.bool false)::.d (.bool false)::jn 8 (.d (.bool false)::.d (.bool false)::jn 9 (.d (.bool true)::.d (.bool true)::.ptr 1 0 0::.d (.bool true)::(bif S.getD 5 false then .c6 [.agg (I.vc (jM x id z) (.sl 10 0 (jM x id z).streams.length) (.sl 11 0 (jM x id z).packets.length)),.d (.bool (o_ x id z))]else .J)::(bif S.getD 0 false then .agg (I.vc x (.sl 5 0 x.streams.length) (.sl 6 0 x.packets.length))else .J)::(bif S.getD 1 false then .d (.int .i64 id)else .J)::(bif S.getD 2 false then .ptr 1 0 0 else .J)::(bif S.getD 3 false then .d (.int .i64 z)else .J)::(bif S.getD 4 false then .c6 [.agg (I.vc (jM x id z) (.sl 10 0 (jM x id z).streams.length) (.sl 11 0 (jM x id z).packets.length)),.d (.bool (o_ x id z))]else .J)::(bif S.getD 6 false then .agg (I.vc (jM x id z) (.sl 10 0 (jM x id z).streams.length) (.sl 11 0 (jM x id z).packets.length))else .J)::(bif S.getD 7 false then .d (.bool (o_ x id z))else .J)::jn 65 [])))))),[bG,cE bs i h,bg,bT,bY,.ai 39 (x.streams.map aa.enc) true,.ai 2 (x.packets.map aC.enc) true,.box (I.vc x (.sl 5 0 x.streams.length) (.sl 6 0 x.packets.length)),.box I.bH,(bif S.getD 8 false then .box (I.vc (jM x id z) (.sl 10 0 (jM x id z).streams.length) (.sl 11 0 (jM x id z).packets.length))else .box (I.vc x (.sl 5 0 x.streams.length) (.sl 6 0 x.packets.length)))]++(bif S.getD 4 false then [.af 39 ((jM x id z).streams.map aa.enc),.af 2 ((jM x id z).packets.map aC.enc)]else [])⟩
def Pe(bs:List Int)(bG bg bT bY:H)(x:I)(id:Int)(i:Nat)(h:Int)(z:List UInt8)(S:List Bool):St:=⟨(.ptr 1 0 0::.J::.J::.ptr 7 0 0::.ptr 8 0 0::.d (.int .i64 id)::.ptr 9 0 0::jn 18 (.agg (I.vc x (.sl 5 0 x.streams.length) (.sl 6 0 x.packets.length))::.ptr 1 0 0::.d (.int .i64 5)::.d (.bool false)::.d (.bool false)::jn 8 (.d (.bool false)::.d (.bool false)::.d (.bool false)::jn 8 (.d (.bool false)::.d (.bool false)::jn 8 (.d (.bool false)::.d (.bool false)::jn 9 (.d (.bool true)::.d (.bool true)::.ptr 1 0 0::.d (.bool false)::jn 8 ((bif S.getD 6 false then .c6 [.agg (I.vc (jL x id z) (.sl 11 0 (jL x id z).streams.length) (.sl 12 0 (jL x id z).packets.length)),.d (.bool (gR x id))]else .J)::(bif S.getD 0 false then .agg (I.vc x (.sl 5 0 x.streams.length) (.sl 6 0 x.packets.length))else .J)::(bif S.getD 1 false then .d (.int .i64 id)else .J)::(bif S.getD 2 false then .ptr 1 0 0 else .J)::(bif S.getD 3 false then .sl 10 0 3 else .J)::(bif S.getD 4 false then .d (.str z)else .J)::(bif S.getD 5 false then .c6 [.agg (I.vc (jL x id z) (.sl 11 0 (jL x id z).streams.length) (.sl 12 0 (jL x id z).packets.length)),.d (.bool (gR x id))]else .J)::(bif S.getD 7 false then .agg (I.vc (jL x id z) (.sl 11 0 (jL x id z).streams.length) (.sl 12 0 (jL x id z).packets.length))else .J)::(bif S.getD 8 false then .d (.bool (gR x id))else .J)::jn 56 []))))))),[bG,cE bs i h,bg,bT,bY,.ai 39 (x.streams.map aa.enc) true,.ai 2 (x.packets.map aC.enc) true,.box (I.vc x (.sl 5 0 x.streams.length) (.sl 6 0 x.packets.length)),.box I.bH,(bif S.getD 9 false then .box (I.vc (jL x id z) (.sl 11 0 (jL x id z).streams.length) (.sl 12 0 (jL x id z).packets.length))else .box (I.vc x (.sl 5 0 x.streams.length) (.sl 6 0 x.packets.length)))]++(bif S.getD 3 false then [.ai 1 ([[117,61,49],[105],[117,61,53,44,32,105]].map eS) true]else [])++(bif S.getD 5 false then [.af 39 ((jL x id z).streams.map aa.enc),.af 2 ((jL x id z).packets.map aC.enc)]else [])⟩
def Pf(bs:List Int)(bG bg bT bY:H)(x:I)(id:Int)(i:Nat)(h z:Int)(S:List Bool):St:=⟨(.ptr 1 0 0::.J::.J::.ptr 7 0 0::.ptr 8 0 0::.d (.int .i64 id)::.ptr 9 0 0::jn 18 (.agg (I.vc x (.sl 5 0 x.streams.length) (.sl 6 0 x.packets.length))::.ptr 1 0 0::.d (.int .i64 6)::.d (.bool false)::.d (.bool false)::jn 8 (.d (.bool false)::.d (.bool false)::.d (.bool false)::jn 8 (.d (.bool false)::.d (.bool false)::jn 8 (.d (.bool false)::.d (.bool false)::jn 9 (.d (.bool false)::.d (.bool false)::jn 19 (.d (.bool true)::.d (.bool true)::.J::(bif S.getD 5 false then .c6 [.d (.str (xz x (IntKind.i64.wrap (8+z)))),.d (.int .i64 (v_ x (IntKind.i64.wrap (8+z)))),.agg (I.vc (fE x (IntKind.i64.wrap (8+z))) (.sl 10 0 (fE x (IntKind.i64.wrap (8+z))).streams.length) (.sl 11 0 (fE x (IntKind.i64.wrap (8+z))).packets.length))]else .J)::(bif S.getD 0 false then .agg (I.vc x (.sl 5 0 x.streams.length) (.sl 6 0 x.packets.length))else .J)::(bif S.getD 1 false then .ptr 1 0 0 else .J)::(bif S.getD 2 false then .d (.int .i64 z)else .J)::(bif S.getD 3 false then .d (.int .i64 (IntKind.i64.wrap (8+z)))else .J)::(bif S.getD 4 false then .c6 [.d (.str (xz x (IntKind.i64.wrap (8+z)))),.d (.int .i64 (v_ x (IntKind.i64.wrap (8+z)))),.agg (I.vc (fE x (IntKind.i64.wrap (8+z))) (.sl 10 0 (fE x (IntKind.i64.wrap (8+z))).streams.length) (.sl 11 0 (fE x (IntKind.i64.wrap (8+z))).packets.length))]else .J)::(bif S.getD 6 false then .d (.str (xz x (IntKind.i64.wrap (8+z))))else .J)::(bif S.getD 7 false then .d (.int .i64 (v_ x (IntKind.i64.wrap (8+z))))else .J)::(bif S.getD 8 false then .agg (I.vc (fE x (IntKind.i64.wrap (8+z))) (.sl 10 0 (fE x (IntKind.i64.wrap (8+z))).streams.length) (.sl 11 0 (fE x (IntKind.i64.wrap (8+z))).packets.length))else .J)::jn 44 []))))))),[bG,cE bs i h,bg,bT,bY,.ai 39 (x.streams.map aa.enc) true,.ai 2 (x.packets.map aC.enc) true,.box (I.vc x (.sl 5 0 x.streams.length) (.sl 6 0 x.packets.length)),.box I.bH,(bif S.getD 9 false then .box (I.vc (fE x (IntKind.i64.wrap (8+z))) (.sl 10 0 (fE x (IntKind.i64.wrap (8+z))).streams.length) (.sl 11 0 (fE x (IntKind.i64.wrap (8+z))).packets.length))else .box (I.vc x (.sl 5 0 x.streams.length) (.sl 6 0 x.packets.length)))]++(bif S.getD 4 false then [.af 39 ((fE x (IntKind.i64.wrap (8+z))).streams.map aa.enc),.af 2 ((fE x (IntKind.i64.wrap (8+z))).packets.map aC.enc)]else [])⟩
def Pg(bs:List Int)(bG bg bT bY:H)(x:I)(id:Int)(i:Nat)(h z:Int)(S:List Bool):St:=⟨(.ptr 1 0 0::.J::.J::.ptr 7 0 0::.ptr 8 0 0::.d (.int .i64 id)::.ptr 9 0 0::jn 18 (.agg (I.vc x (.sl 5 0 x.streams.length) (.sl 6 0 x.packets.length))::.ptr 1 0 0::.d (.int .i64 7)::.d (.bool false)::.d (.bool false)::jn 8 (.d (.bool false)::.d (.bool false)::.d (.bool false)::jn 8 (.d (.bool false)::.d (.bool false)::jn 8 (.d (.bool false)::.d (.bool false)::jn 9 (.d (.bool false)::.d (.bool false)::jn 19 (.d (.bool true)::.d (.bool false)::.d (.bool true)::(bif S.getD 5 false then .c6 [.d (.str (xz x (IntKind.i64.wrap (8+z)))),.d (.int .i64 (v_ x (IntKind.i64.wrap (8+z)))),.agg (I.vc (fE x (IntKind.i64.wrap (8+z))) (.sl 10 0 (fE x (IntKind.i64.wrap (8+z))).streams.length) (.sl 11 0 (fE x (IntKind.i64.wrap (8+z))).packets.length))]else .J)::(bif S.getD 0 false then .agg (I.vc x (.sl 5 0 x.streams.length) (.sl 6 0 x.packets.length))else .J)::(bif S.getD 1 false then .ptr 1 0 0 else .J)::(bif S.getD 2 false then .d (.int .i64 z)else .J)::(bif S.getD 3 false then .d (.int .i64 (IntKind.i64.wrap (8+z)))else .J)::(bif S.getD 4 false then .c6 [.d (.str (xz x (IntKind.i64.wrap (8+z)))),.d (.int .i64 (v_ x (IntKind.i64.wrap (8+z)))),.agg (I.vc (fE x (IntKind.i64.wrap (8+z))) (.sl 10 0 (fE x (IntKind.i64.wrap (8+z))).streams.length) (.sl 11 0 (fE x (IntKind.i64.wrap (8+z))).packets.length))]else .J)::(bif S.getD 6 false then .d (.str (xz x (IntKind.i64.wrap (8+z))))else .J)::(bif S.getD 7 false then .d (.int .i64 (v_ x (IntKind.i64.wrap (8+z))))else .J)::(bif S.getD 8 false then .agg (I.vc (fE x (IntKind.i64.wrap (8+z))) (.sl 10 0 (fE x (IntKind.i64.wrap (8+z))).streams.length) (.sl 11 0 (fE x (IntKind.i64.wrap (8+z))).packets.length))else .J)::jn 44 []))))))),[bG,cE bs i h,bg,bT,bY,.ai 39 (x.streams.map aa.enc) true,.ai 2 (x.packets.map aC.enc) true,.box (I.vc x (.sl 5 0 x.streams.length) (.sl 6 0 x.packets.length)),.box I.bH,(bif S.getD 9 false then .box (I.vc (fE x (IntKind.i64.wrap (8+z))) (.sl 10 0 (fE x (IntKind.i64.wrap (8+z))).streams.length) (.sl 11 0 (fE x (IntKind.i64.wrap (8+z))).packets.length))else .box (I.vc x (.sl 5 0 x.streams.length) (.sl 6 0 x.packets.length)))]++(bif S.getD 4 false then [.af 39 ((fE x (IntKind.i64.wrap (8+z))).streams.map aa.enc),.af 2 ((fE x (IntKind.i64.wrap (8+z))).packets.map aC.enc)]else [])⟩
def Ph(bs:List Int)(bG bg bT bY:H)(x:I)(id:Int)(i:Nat)(h:Int)(z:Nat×Int)(S:List Bool):St:=⟨(.ptr 1 0 0::.J::.J::.ptr 7 0 0::.ptr 8 0 0::.d (.int .i64 id)::.ptr 9 0 0::jn 3 ((bif S.getD 10 false then .d (.int .i64 z.2)else .J)::jn 14 (.agg (I.vc x (.sl 5 0 x.streams.length) (.sl 6 0 x.packets.length))::.ptr 1 0 0::.d (.int .i64 9)::.d (.bool false)::.d (.bool false)::jn 8 (.d (.bool false)::.d (.bool false)::.d (.bool false)::jn 8 (.d (.bool false)::.d (.bool false)::jn 8 (.d (.bool false)::.d (.bool false)::jn 9 (.d (.bool false)::.d (.bool false)::jn 19 (.d (.bool false)::.d (.bool false)::.d (.bool false)::jn 9 (.d (.bool false)::.d (.bool false)::jn 11 (.d (.bool true)::.d (.bool true)::.ptr 7 0 47::.sl 6 0 x.packets.length::.d (.int .i64 x.packets.length)::.d (.bool true)::(bif S.getD 0 false then .ptr 7 0 47 else .J)::(bif S.getD 1 false then .sl 6 0 x.packets.length else .J)::(bif S.getD 2 false then .ptr 1 0 0 else .J)::(bif S.getD 3 false then .ptr 7 0 47 else .J)::(bif S.getD 4 false then .sl 6 0 x.packets.length else .J)::(bif S.getD 5 false then .d (.int .i64 x.packets.length)else .J)::(bif S.getD 6 false then .d (.int .i64 z.1)else .J)::(bif S.getD 7 false then .ptr 6 z.1 0 else .J)::(bif S.getD 8 false then .ptr 6 z.1 0 else .J)::(bif S.getD 9 false then .d (.int .i64 z.2)else .J)::jn 15 [])))))))))),[bG,cE bs i h,bg,bT,bY,.ai 39 (x.streams.map aa.enc) true,.ai 2 (x.packets.map aC.enc) true,.box (I.vc x (.sl 5 0 x.streams.length) (.sl 6 0 x.packets.length)),.box I.bH,.box (I.vc x (.sl 5 0 x.streams.length) (.sl 6 0 x.packets.length))]⟩
set_option maxHeartbeats 16000000 in
theorem Yl(bs:List Int)(hm:bs.length≤maxLen)(i:Nat)(h:Int)(x:I)(m:Nat)(hv:b6 m x)(aoz:m≤18)(bG bg bT bY:H)(hq:rok 5 bG∧rok 5 bg∧rok 5 bT∧rok 5 bY)(kv:List V)(br:a6 5 kv)(K:V→List H→Prop)(hi:i≤bs.length)
  (hk:∀(cz:Nat) (h':Int) (y:I),cz≤bs.length→nL x y→K (gB y 5) ([bG,cE bs cz h',bg,bT,bY]++gP y)):dj Tryz.prog 144 kv ([bG,cE bs i h,bg,bT,bY]++gP x) [.ptr 1 0 0,gB x 5] K:=by
 have hz:=hv.sz (by omega);have aoA:=hv.jb;have Qj:=hv.v';have nc:∀(cz:Nat) (h':Int),roks 5 [bG,cE bs cz h',bg,bT,bY]:=fun cz h'=>⟨hq.1,by simp[cE,rok,a6,vok],hq.2.1,hq.2.2.1,hq.2.2.2,trivial⟩;have y0:∀ts:List V,a6 10 ts→a6 10 (ts++kv):=fun ts h=>zP h (mj (by omega) kv br);have JJ:rok 10 bG∧rok 10 bg∧rok 10 bT∧rok 10 bY:=⟨nd (by omega) _ hq.1,nd (by omega) _ hq.2.1,nd (by omega) _ hq.2.2.1,nd (by omega) _ hq.2.2.2⟩;refine dj.Wz ?_;refine dj.Wz ?_;refine dj.oq ?_;refine(yA (n:=147) (rs:=[.cell 4 37]) Tryz.func144 rfl Tryz.call144 rfl rfl ?_);simp only[gP,gB,bf,bn];have WW:∀(cz:Nat) (h':Int) (ts ts':List V),vsees (List.range 9) ts' ts→a6 9 ts'→kQ kv (List.range 9) ⟨ts,F_ bG (cE bs cz h') bg bT bY x⟩ ⟨ts',F_ bG (cE bs cz h') bg bT bY x⟩:=by
  intro cz h' ts ts' ag e2;have agQ:roks 9 (F_ bG (cE bs cz h') bg bT bY x):=by
   have:=DL (Ab (m:=5) (n:=9) (by omega) (nc cz h')) (ys:=[.ai 39 (x.streams.map aa.enc) true,.ai 2 (x.packets.map aC.enc) true,.box (I.vc x (.sl 5 0 x.streams.length) (.sl 6 0 x.packets.length)),.box I.bH]) (by simp[roks,rok,a6,vok]);exact this
  exact GG (hs:=F_ bG (cE bs cz h') bg bT bY x) agQ (mj (by simp[F_]) kv br) ag e2
 refine ej hZ 3 (α:=Nat×Int×Int) (fun y=>⟨(.ptr 1 0 0::.J::.J::.ptr 7 0 0::.ptr 8 0 0::.d (.int .i64 y.2.2)::jn 141 []),[bG,cE bs y.1 y.2.1,bg,bT,bY,.ai 39 (x.streams.map aa.enc) true,.ai 2 (x.packets.map aC.enc) true,.box (I.vc x (.sl 5 0 x.streams.length) (.sl 6 0 x.packets.length)),.box I.bH]⟩) (fun y=>y.1≤bs.length) ?_ ?_
 ·simp only[go_sem]
  cases gv:decide (0<(x.streams.length:Int))with
  |false=>
   simp only[go_sem];refine di.intro (i,h,0) (List.range 9) hi (WW i h _ _ ?_ ?_)
   ·simp[vsees,vsee,ren,List.range,List.range.loop]
   ·simp[a6,vok]
  |true=>
   simp only[go_sem];have Du:=ch gv;refine hH _ (iT (fun S σ=>∃i h z,i≤bs.length∧(z.1<x.streams.length∧((x.streams[z.1]?).getD iG).id=z.2)∧σ=O9 bs bG bg bT bY x 0 i h z S) (N:=11) rfl rfl ⟨i,h,(0,((x.streams[0]?).getD iG).id),‹_›,by first|assumption|(simp;done)|exact⟨by omega,rfl⟩,rfl⟩ ?_) ?_
   ·repeat'(first|exact iU|refine iV ?_ ?_)
    all_goals(
     rintro S σ F hl aX hp hcl ⟨eE,eg,z,c4,hc,rfl⟩ aZ;obtain⟨gq,cU,c9,cq,dd,iD,jI,j4,kM,mO,vI,rfl⟩:=Ll hl;simp only[List.getElem?_cons_succ,List.getElem?_cons_zero,uB]at aX;subst aX;simp[gQ,Region.binds]at hp
     repeat(obtain⟨c_,hp⟩:=hp;subst c_)
     try subst hp
     have av:=bZ aa.enc x.streams z.1 hc.1;have jc:=hc.2;have hc1:=hc.1;rw[dg hc.1,Option.getD_some]at jc;simp only[O9,pG,oV,cond_true,cond_false]
     repeat'(first
       |exact aZ _ ⟨eE,eg,z,c4,hc,rfl⟩
       |(refine b9 ?_)
       |(refine de ?_)
       |(obtain rfl:=ob (hcl 6 7 _ rfl (by decide) rfl);obtain rfl:=ob (hcl 7 8 _ rfl (by decide) rfl);obtain rfl:=ob (hcl 8 9 _ rfl (by decide) rfl);obtain rfl:=ob (hcl 9 10 _ rfl (by decide) rfl);simp only[cond_false];refine ae.inl (j0 bs hm eE eg [bG] [bg,bT,bY,.ai 39 (x.streams.map aa.enc) true,.ai 2 (x.packets.map aC.enc) true,.box (I.vc x (.sl 5 0 x.streams.length) (.sl 6 0 x.packets.length)),.box I.bH] _ (x.streams.length:Int) (by omega) (by omega) _ c4 fun dQ aj fe a3 dq ja=>?_);obtain⟨dC,rfl⟩:=Int.eq_ofNat_of_zero_le dq;simp only[go_sem,ep];exact aZ _ ⟨_,_,(dC,((x.streams[dC]?).getD iG).id),‹_›,⟨(by omega),rfl⟩,rfl⟩)
       |(refine⟨⟨by omega,by omega⟩,?_⟩)
       |(refine⟨hc1,?_⟩)
       |simp only[go_sem,lM,av,jc,aa.enc,aF]))
   rintro _ ⟨g_,aD,z,l3,hc,rfl⟩;simp only[O9,List.replicate,pG,oV,cond_true];simp only[go_sem];refine di.intro (g_,aD,z.2) (List.range 9) l3 (WW g_ aD _ _ ?_ ?_)
   ·simp[vsees,vsee,ren,List.range,List.range.loop]
   ·simp[a6,vok]
 rintro⟨eo,h1,id⟩ AW;simp only at AW;refine gO hZ ?_;simp only[go_sem];refine ae.inl (j0 bs hm eo h1 [bG] [bg,bT,bY,.ai 39 (x.streams.map aa.enc) true,.ai 2 (x.packets.map aC.enc) true,.box (I.vc x (.sl 5 0 x.streams.length) (.sl 6 0 x.packets.length)),.box I.bH,.box (I.vc x (.sl 5 0 x.streams.length) (.sl 6 0 x.packets.length))] _ 10 (by omega) (by omega) _ AW fun dk h2 k bR dt c2=>?_);have Pj:roks 10 [bG]∧roks 10 [bg,bT,bY,.ai 39 (x.streams.map aa.enc) true,.ai 2 (x.packets.map aC.enc) true,.box (I.vc x (.sl 5 0 x.streams.length) (.sl 6 0 x.packets.length)),.box I.bH,.box (I.vc x (.sl 5 0 x.streams.length) (.sl 6 0 x.packets.length))]:=⟨⟨JJ.1,trivial⟩,JJ.2.1,JJ.2.2.1,JJ.2.2.2,by simp[roks,rok,a6,vok]⟩;obtain rfl|rfl|rfl|rfl|rfl|rfl|rfl|rfl|rfl|rfl:k=0∨k=1∨k=2∨k=3∨k=4∨k=5∨k=6∨k=7∨k=8∨k=9:=by omega
 ·skip
  have d0:decide ((0:Int)=0)=true:=rfl;simp only[go_sem];have b1:∀b,_:=fun b=>PU x b hz;refine hH _ (iT (fun S σ=>∃i h z,i≤bs.length∧(True)∧σ=O_ bs bG bg bT bY x id i h z S) (N:=9) rfl rfl ⟨dk,h2,false,‹_›,by first|assumption|(simp;done)|exact⟨by omega,rfl⟩,rfl⟩ ?_) ?_
  ·repeat'(first|exact iU|refine iV ?_ ?_)
   all_goals(
    rintro S σ F hl aX hp hcl ⟨eE,eg,z,c4,hc,rfl⟩ aZ;obtain⟨gq,cU,c9,cq,dd,iD,jI,j4,kM,rfl⟩:=JG hl;simp only[List.getElem?_cons_succ,List.getElem?_cons_zero,uB]at aX;subst aX;simp[gQ,Region.binds]at hp
    repeat(obtain⟨c_,hp⟩:=hp;subst c_)
    try subst hp
    simp only[O_,pG,oV,cond_true,cond_false,bf,bn,List.append_nil]
    repeat'(first
      |exact aZ _ ⟨eE,eg,z,c4,hc,rfl⟩
      |(refine b9 ?_)
      |(refine de ?_)
      |(obtain rfl:=ob (hcl 2 3 _ rfl (by decide) rfl);obtain rfl:=ob (hcl 3 4 _ rfl (by decide) rfl);obtain rfl:=ob (hcl 4 5 _ rfl (by decide) rfl);obtain rfl:=ob (hcl 4 6 _ rfl (by decide) rfl);obtain rfl:=ob (hcl 4 7 _ rfl (by decide) rfl);obtain rfl:=ob (hcl 6 8 _ rfl (by decide) rfl);simp only[cond_false];refine ae.inl (vU bs hm eE eg [bG] [bg,bT,bY,.ai 39 (x.streams.map aa.enc) true,.ai 2 (x.packets.map aC.enc) true,.box (I.vc x (.sl 5 0 x.streams.length) (.sl 6 0 x.packets.length)),.box I.bH,.box (I.vc x (.sl 5 0 x.streams.length) (.sl 6 0 x.packets.length))] _ 2 (by omega) (by omega) _ c4 fun dQ aj dq a3=>?_);simp only[go_sem,ep];exact aZ _ ⟨_,_,dq,‹_›,by first|assumption|simp|(constructor<;>assumption),rfl⟩)
      |(refine ae.af (b1 _) ?_)
      |simp only[go_sem,lM,bf,bn]))
  rintro _ ⟨g_,aD,z,l3,hc,rfl⟩;simp only[O_,List.replicate,pG,oV,cond_true,bf,bn];simp only[go_sem,bf,bn];exact uI br _ 10 (by omega) (nc _ _) rfl rfl (hk _ _ _ (by assumption) (.G2 _))
 ·skip
  have d0:decide ((1:Int)=0)=false:=rfl;have e1:decide ((1:Int)=1)=true:=rfl;simp only[go_sem,d0];have b1:∀d:List UInt8,d.length≤8→_:=fun d hd=>KL x id d hz (by omega) (((hv.aE id).mono (show m≤m+1 by omega)).yd (by have:=NQ (hv.aE id).snd hd;rw[show(8 * (m+1:Nat):Int)=8 * m+8 from by omega];exact this) |>.sz (by omega));refine hH _ (iT (fun S σ=>∃i h z,i≤bs.length∧(z.length≤8)∧σ=O' bs bG bg bT bY x id i h z S) (N:=9) rfl rfl ⟨dk,h2,[],‹_›,by first|assumption|(simp;done)|exact⟨by omega,rfl⟩,rfl⟩ ?_) ?_
  ·repeat'(first|exact iU|refine iV ?_ ?_)
   all_goals(
    rintro S σ F hl aX hp hcl ⟨eE,eg,z,c4,hc,rfl⟩ aZ;obtain⟨gq,cU,c9,cq,dd,iD,jI,j4,kM,rfl⟩:=JG hl;simp only[List.getElem?_cons_succ,List.getElem?_cons_zero,uB]at aX;subst aX;simp[gQ,Region.binds]at hp
    repeat(obtain⟨c_,hp⟩:=hp;subst c_)
    try subst hp
    simp only[O',pG,oV,cond_true,cond_false,bf,bn,List.append_nil]
    repeat'(first
      |exact aZ _ ⟨eE,eg,z,c4,hc,rfl⟩
      |(refine b9 ?_)
      |(refine de ?_)
      |(obtain rfl:=ob (hcl 3 4 _ rfl (by decide) rfl);obtain rfl:=ob (hcl 4 5 _ rfl (by decide) rfl);obtain rfl:=ob (hcl 5 6 _ rfl (by decide) rfl);obtain rfl:=ob (hcl 5 7 _ rfl (by decide) rfl);obtain rfl:=ob (hcl 7 8 _ rfl (by decide) rfl);simp only[cond_false];refine ae.inl (GV bs hm eE eg [bG] [bg,bT,bY,.ai 39 (x.streams.map aa.enc) true,.ai 2 (x.packets.map aC.enc) true,.box (I.vc x (.sl 5 0 x.streams.length) (.sl 6 0 x.packets.length)),.box I.bH,.box (I.vc x (.sl 5 0 x.streams.length) (.sl 6 0 x.packets.length))] _ 8 Pj (y0 _ (by simp[a6,vok,Bq])) (by omega) _ c4 fun dQ aj cq a3 g3=>?_);simp only[go_sem,ep];exact aZ _ ⟨_,_,cq,‹_›,by first|assumption|simp|(constructor<;>assumption),rfl⟩)
      |(refine ae.af (b1 _ hc) ?_)
      |simp only[go_sem,lM,bf,bn]))
  rintro _ ⟨g_,aD,z,l3,hc,rfl⟩;simp only[O',List.replicate,pG,oV,cond_true,bf,bn];simp only[go_sem,bf,bn];exact uI br _ 10 (by omega) (nc _ _) rfl rfl (hk _ _ _ (by assumption) (.write _ _ hc))
 ·skip
  have d0:decide ((2:Int)=0)=false:=rfl;have e1:decide ((2:Int)=1)=false:=rfl;have gC:decide ((2:Int)=2)=true:=rfl;simp only[go_sem,d0,e1];have b1:∀d:List UInt8,d.length≤8→_:=fun d hd=>KL x id d hz (by omega) (((hv.aE id).mono (show m≤m+1 by omega)).yd (by have:=NQ (hv.aE id).snd hd;rw[show(8 * (m+1:Nat):Int)=8 * m+8 from by omega];exact this) |>.sz (by omega));refine hH _ (iT (fun S σ=>∃i h z,i≤bs.length∧(z.length≤8)∧σ=Pb bs bG bg bT bY x id i h z S) (N:=9) rfl rfl ⟨dk,h2,[],‹_›,by first|assumption|(simp;done)|exact⟨by omega,rfl⟩,rfl⟩ ?_) ?_
  ·repeat'(first|exact iU|refine iV ?_ ?_)
   all_goals(
    rintro S σ F hl aX hp hcl ⟨eE,eg,z,c4,hc,rfl⟩ aZ;obtain⟨gq,cU,c9,cq,dd,iD,jI,j4,kM,rfl⟩:=JG hl;simp only[List.getElem?_cons_succ,List.getElem?_cons_zero,uB]at aX;subst aX;simp[gQ,Region.binds]at hp
    repeat(obtain⟨c_,hp⟩:=hp;subst c_)
    try subst hp
    simp only[Pb,pG,oV,cond_true,cond_false,bf,bn,List.append_nil]
    repeat'(first
      |exact aZ _ ⟨eE,eg,z,c4,hc,rfl⟩
      |(refine b9 ?_)
      |(refine de ?_)
      |(obtain rfl:=ob (hcl 3 4 _ rfl (by decide) rfl);obtain rfl:=ob (hcl 4 5 _ rfl (by decide) rfl);obtain rfl:=ob (hcl 5 6 _ rfl (by decide) rfl);obtain rfl:=ob (hcl 5 7 _ rfl (by decide) rfl);obtain rfl:=ob (hcl 7 8 _ rfl (by decide) rfl);simp only[cond_false];refine ae.inl (GV bs hm eE eg [bG] [bg,bT,bY,.ai 39 (x.streams.map aa.enc) true,.ai 2 (x.packets.map aC.enc) true,.box (I.vc x (.sl 5 0 x.streams.length) (.sl 6 0 x.packets.length)),.box I.bH,.box (I.vc x (.sl 5 0 x.streams.length) (.sl 6 0 x.packets.length))] _ 8 Pj (y0 _ (by simp[a6,vok,Bq])) (by omega) _ c4 fun dQ aj cq a3 g3=>?_);simp only[go_sem,ep];exact aZ _ ⟨_,_,cq,‹_›,by first|assumption|simp|(constructor<;>assumption),rfl⟩)
      |(refine ae.af (b1 _ hc) ?_)
      |simp only[go_sem,lM,bf,bn]))
  rintro _ ⟨g_,aD,z,l3,hc,rfl⟩;simp only[Pb,List.replicate,pG,oV,cond_true,bf,bn];simp only[go_sem,bf,bn];exact uI br _ 10 (by omega) (nc _ _) rfl rfl (hk _ _ _ (by assumption) (.write _ _ hc))
 ·skip
  have d0:decide ((3:Int)=0)=false:=rfl;have e1:decide ((3:Int)=1)=false:=rfl;have gC:decide ((3:Int)=2)=false:=rfl;have jl:decide ((3:Int)=3)=true:=rfl;simp only[go_sem,d0,e1,gC];refine ae.inl (vU bs hm dk h2 [bG] [bg,bT,bY,.ai 39 (x.streams.map aa.enc) true,.ai 2 (x.packets.map aC.enc) true,.box (I.vc x (.sl 5 0 x.streams.length) (.sl 6 0 x.packets.length)),.box I.bH,.box (I.vc x (.sl 5 0 x.streams.length) (.sl 6 0 x.packets.length))] _ 2 (by omega) (by omega) _ bR fun dQ aj dq a3=>?_)
  cases dq with
  |true=>
   have b1:=PR x id hz (((hv.aE id).yd (NS (hv.aE id).snd)).sz (by omega));simp only[go_sem,lM];refine ae.af b1 ?_;simp only[go_sem,lM,bf,bn];exact uI br _ 10 (by omega) (nc _ _) rfl rfl (hk _ _ _ (by assumption) (.bd _))
  |false=>
   simp only[go_sem,bf,bn];exact O8 br _ (nc _ _) (hk _ _ _ (by assumption) .same)
 ·skip
  have d0:decide ((4:Int)=0)=false:=rfl;have e1:decide ((4:Int)=1)=false:=rfl;have gC:decide ((4:Int)=2)=false:=rfl;have jl:decide ((4:Int)=3)=false:=rfl;have pz:decide ((4:Int)=4)=true:=rfl;simp only[go_sem,d0,e1,gC,jl];have b1:∀k,_:=fun k=>ade x id k m hv (by omega);refine hH _ (iT (fun S σ=>∃i h z,i≤bs.length∧(True)∧σ=Pc bs bG bg bT bY x id i h z S) (N:=10) rfl rfl ⟨dk,h2,0,‹_›,by first|assumption|(simp;done)|exact⟨by omega,rfl⟩,rfl⟩ ?_) ?_
  ·repeat'(first|exact iU|refine iV ?_ ?_)
   all_goals(
    rintro S σ F hl aX hp hcl ⟨eE,eg,z,c4,hc,rfl⟩ aZ;obtain⟨gq,cU,c9,cq,dd,iD,jI,j4,kM,mO,rfl⟩:=JH hl;simp only[List.getElem?_cons_succ,List.getElem?_cons_zero,uB]at aX;subst aX;simp[gQ,Region.binds]at hp
    repeat(obtain⟨c_,hp⟩:=hp;subst c_)
    try subst hp
    simp only[Pc,pG,oV,cond_true,cond_false,bf,bn,List.append_nil]
    repeat'(first
      |exact aZ _ ⟨eE,eg,z,c4,hc,rfl⟩
      |(refine b9 ?_)
      |(refine de ?_)
      |(obtain rfl:=ob (hcl 3 4 _ rfl (by decide) rfl);obtain rfl:=ob (hcl 4 5 _ rfl (by decide) rfl);obtain rfl:=ob (hcl 5 6 _ rfl (by decide) rfl);obtain rfl:=ob (hcl 5 7 _ rfl (by decide) rfl);obtain rfl:=ob (hcl 5 8 _ rfl (by decide) rfl);obtain rfl:=ob (hcl 8 9 _ rfl (by decide) rfl);simp only[cond_false];refine ae.inl (j0 bs hm eE eg [bG] [bg,bT,bY,.ai 39 (x.streams.map aa.enc) true,.ai 2 (x.packets.map aC.enc) true,.box (I.vc x (.sl 5 0 x.streams.length) (.sl 6 0 x.packets.length)),.box I.bH,.box (I.vc x (.sl 5 0 x.streams.length) (.sl 6 0 x.packets.length))] _ 6 (by omega) (by omega) _ c4 fun dQ aj fe a3 dq ja=>?_);simp only[go_sem,ep];exact aZ _ ⟨_,_,fe,‹_›,by first|assumption|simp|(constructor<;>assumption),rfl⟩)
      |(refine ae.af (b1 _) ?_)
      |simp only[go_sem,lM,bf,bn]))
  rintro _ ⟨g_,aD,z,l3,hc,rfl⟩;simp only[Pc,List.replicate,pG,oV,cond_true,bf,bn];simp only[go_sem,bf,bn];exact uI br _ 10 (by omega) (nc _ _) rfl rfl (hk _ _ _ (by assumption) (.read _ _))
 ·skip
  have d0:decide ((5:Int)=0)=false:=rfl;have e1:decide ((5:Int)=1)=false:=rfl;have gC:decide ((5:Int)=2)=false:=rfl;have jl:decide ((5:Int)=3)=false:=rfl;have pz:decide ((5:Int)=4)=false:=rfl;have zK:decide ((5:Int)=5)=true:=rfl;simp only[go_sem,d0,e1,gC,jl,pz];refine ae.inl (vU bs hm dk h2 [bG] [bg,bT,bY,.ai 39 (x.streams.map aa.enc) true,.ai 2 (x.packets.map aC.enc) true,.box (I.vc x (.sl 5 0 x.streams.length) (.sl 6 0 x.packets.length)),.box I.bH,.box (I.vc x (.sl 5 0 x.streams.length) (.sl 6 0 x.packets.length))] _ 3 (by omega) (by omega) _ bR fun dQ aj dq a3=>?_)
  cases dq with
  |true=>
   have b1:∀k,_:=fun k=>P4 x id k hz (((hv.aE id).IJ k).sz (by omega));simp only[go_sem];refine hH _ (iT (fun S σ=>∃i h z,i≤bs.length∧(True)∧σ=Pd bs bG bg bT bY x id i h z S) (N:=9) rfl rfl ⟨dQ,aj,0,‹_›,by first|assumption|(simp;done)|exact⟨by omega,rfl⟩,rfl⟩ ?_) ?_
   ·repeat'(first|exact iU|refine iV ?_ ?_)
    all_goals(
     rintro S σ F hl aX hp hcl ⟨eE,eg,z,c4,hc,rfl⟩ aZ;obtain⟨gq,cU,c9,cq,dd,iD,jI,j4,kM,rfl⟩:=JG hl;simp only[List.getElem?_cons_succ,List.getElem?_cons_zero,uB]at aX;subst aX;simp[gQ,Region.binds]at hp
     repeat(obtain⟨c_,hp⟩:=hp;subst c_)
     try subst hp
     simp only[Pd,pG,oV,cond_true,cond_false,bf,bn,List.append_nil]
     repeat'(first
       |exact aZ _ ⟨eE,eg,z,c4,hc,rfl⟩
       |(refine b9 ?_)
       |(refine de ?_)
       |(obtain rfl:=ob (hcl 3 4 _ rfl (by decide) rfl);obtain rfl:=ob (hcl 4 5 _ rfl (by decide) rfl);obtain rfl:=ob (hcl 5 6 _ rfl (by decide) rfl);obtain rfl:=ob (hcl 5 7 _ rfl (by decide) rfl);obtain rfl:=ob (hcl 6 8 _ rfl (by decide) rfl);simp only[cond_false];refine ae.inl (j0 bs hm eE eg [bG] [bg,bT,bY,.ai 39 (x.streams.map aa.enc) true,.ai 2 (x.packets.map aC.enc) true,.box (I.vc x (.sl 5 0 x.streams.length) (.sl 6 0 x.packets.length)),.box I.bH,.box (I.vc x (.sl 5 0 x.streams.length) (.sl 6 0 x.packets.length))] _ 3 (by omega) (by omega) _ c4 fun dQ aj fe a3 dq ja=>?_);simp only[go_sem,ep];exact aZ _ ⟨_,_,fe,‹_›,by first|assumption|simp|(constructor<;>assumption),rfl⟩)
       |(refine ae.af (b1 _) ?_)
       |simp only[go_sem,lM,bf,bn]))
   rintro _ ⟨g_,aD,z,l3,hc,rfl⟩;simp only[Pd,List.replicate,pG,oV,cond_true,bf,bn];simp only[go_sem,bf,bn];exact uI br _ 10 (by omega) (nc _ _) rfl rfl (hk _ _ _ (by assumption) (.reset _ _))
  |false=>
   have b1:∀t:List UInt8,t∈[[117,61,49],[105],[117,61,53,44,32,105]]→_:=fun t ht=>PS x id t hz (by simp only[List.mem_cons,List.not_mem_nil,or_false]at ht;rcases ht with rfl|rfl|rfl<;>decide);simp only[go_sem];refine hH _ (iT (fun S σ=>∃i h z,i≤bs.length∧(z∈[[117,61,49],[105],[117,61,53,44,32,105]])∧σ=Pe bs bG bg bT bY x id i h z S) (N:=10) rfl rfl ⟨dQ,aj,[105],‹_›,by first|assumption|(simp;done)|exact⟨by omega,rfl⟩,rfl⟩ ?_) ?_
   ·repeat'(first|exact iU|refine iV ?_ ?_)
    all_goals(
     rintro S σ F hl aX hp hcl ⟨eE,eg,z,c4,hc,rfl⟩ aZ;obtain⟨gq,cU,c9,cq,dd,iD,jI,j4,kM,mO,rfl⟩:=JH hl;simp only[List.getElem?_cons_succ,List.getElem?_cons_zero,uB]at aX;subst aX;simp[gQ,Region.binds]at hp
     repeat(obtain⟨c_,hp⟩:=hp;subst c_)
     try subst hp
     simp only[Pe,pG,oV,cond_true,cond_false,bf,bn,List.append_nil]
     repeat'(first
       |exact aZ _ ⟨eE,eg,z,c4,hc,rfl⟩
       |(refine b9 ?_)
       |(refine de ?_)
       |(obtain rfl:=ob (hcl 4 5 _ rfl (by decide) rfl);obtain rfl:=ob (hcl 5 6 _ rfl (by decide) rfl);obtain rfl:=ob (hcl 6 7 _ rfl (by decide) rfl);obtain rfl:=ob (hcl 6 8 _ rfl (by decide) rfl);obtain rfl:=ob (hcl 7 9 _ rfl (by decide) rfl);simp only[cond_false];refine ae.inl (GU bs hm eE eg [bG] [bg,bT,bY,.ai 39 (x.streams.map aa.enc) true,.ai 2 (x.packets.map aC.enc) true,.box (I.vc x (.sl 5 0 x.streams.length) (.sl 6 0 x.packets.length)),.box I.bH,.box (I.vc x (.sl 5 0 x.streams.length) (.sl 6 0 x.packets.length)),.ai 1 ([[117,61,49],[105],[117,61,53,44,32,105]].map eS) true] _ 8 [[117,61,49],[105],[117,61,53,44,32,105]] rfl (by decide) (by decide) _ c4 fun dQ aj fe a3 dq=>?_);simp only[go_sem,ep];exact aZ _ ⟨_,_,fe,‹_›,by first|assumption|simp|(constructor<;>assumption),rfl⟩)
       |(refine ae.af (b1 _ hc) ?_)
       |(obtain rfl:=ob (hcl 3 4 _ rfl (by decide) rfl);obtain rfl:=ob (hcl 4 5 _ rfl (by decide) rfl);obtain rfl:=ob (hcl 5 6 _ rfl (by decide) rfl);obtain rfl:=ob (hcl 6 7 _ rfl (by decide) rfl);obtain rfl:=ob (hcl 6 8 _ rfl (by decide) rfl);obtain rfl:=ob (hcl 7 9 _ rfl (by decide) rfl);simp only[cond_false];skip)
       |(cases cq;exact Bool.noConfusion (show true=false from ob (hcl 3 4 _ rfl (by decide) rfl));simp only[cond_true])
       |simp only[go_sem,lM,bf,bn]))
   rintro _ ⟨g_,aD,z,l3,hc,rfl⟩;simp only[Pe,List.replicate,pG,oV,cond_true,bf,bn];simp only[go_sem,bf,bn];exact uI br _ 11 (by omega) (nc _ _) rfl rfl (hk _ _ _ (by assumption) (.Lm _ _))
 ·skip
  have d0:decide ((6:Int)=0)=false:=rfl;have e1:decide ((6:Int)=1)=false:=rfl;have gC:decide ((6:Int)=2)=false:=rfl;have jl:decide ((6:Int)=3)=false:=rfl;have pz:decide ((6:Int)=4)=false:=rfl;have zK:decide ((6:Int)=5)=false:=rfl;have Db:decide ((6:Int)=6)=true:=rfl;simp only[go_sem,d0,e1,gC,jl,pz,zK];have b1:∀b,_:=fun b=>Q9 x b m hv (by omega);refine hH _ (iT (fun S σ=>∃i h z,i≤bs.length∧(True)∧σ=Pf bs bG bg bT bY x id i h z S) (N:=10) rfl rfl ⟨dk,h2,0,‹_›,by first|assumption|(simp;done)|exact⟨by omega,rfl⟩,rfl⟩ ?_) ?_
  ·repeat'(first|exact iU|refine iV ?_ ?_)
   all_goals(
    rintro S σ F hl aX hp hcl ⟨eE,eg,z,c4,hc,rfl⟩ aZ;obtain⟨gq,cU,c9,cq,dd,iD,jI,j4,kM,mO,rfl⟩:=JH hl;simp only[List.getElem?_cons_succ,List.getElem?_cons_zero,uB]at aX;subst aX;simp[gQ,Region.binds]at hp
    repeat(obtain⟨c_,hp⟩:=hp;subst c_)
    try subst hp
    simp only[Pf,pG,oV,cond_true,cond_false,bf,bn,List.append_nil]
    repeat'(first
      |exact aZ _ ⟨eE,eg,z,c4,hc,rfl⟩
      |(refine b9 ?_)
      |(refine de ?_)
      |(obtain rfl:=ob (hcl 2 3 _ rfl (by decide) rfl);obtain rfl:=ob (hcl 3 4 _ rfl (by decide) rfl);obtain rfl:=ob (hcl 4 5 _ rfl (by decide) rfl);obtain rfl:=ob (hcl 5 6 _ rfl (by decide) rfl);obtain rfl:=ob (hcl 5 7 _ rfl (by decide) rfl);obtain rfl:=ob (hcl 5 8 _ rfl (by decide) rfl);obtain rfl:=ob (hcl 8 9 _ rfl (by decide) rfl);simp only[cond_false];refine ae.inl (j0 bs hm eE eg [bG] [bg,bT,bY,.ai 39 (x.streams.map aa.enc) true,.ai 2 (x.packets.map aC.enc) true,.box (I.vc x (.sl 5 0 x.streams.length) (.sl 6 0 x.packets.length)),.box I.bH,.box (I.vc x (.sl 5 0 x.streams.length) (.sl 6 0 x.packets.length))] _ 20 (by omega) (by omega) _ c4 fun dQ aj fe a3 dq ja=>?_);simp only[go_sem,ep];exact aZ _ ⟨_,_,fe,‹_›,by first|assumption|simp|(constructor<;>assumption),rfl⟩)
      |(refine ae.af (b1 _) ?_)
      |simp only[go_sem,lM,bf,bn]))
  rintro _ ⟨g_,aD,z,l3,hc,rfl⟩;simp only[Pf,List.replicate,pG,oV,cond_true,bf,bn];simp only[go_sem,bf,bn];exact uI br _ 10 (by omega) (nc _ _) rfl rfl (hk _ _ _ (by assumption) (.em _))
 ·skip
  have d0:decide ((7:Int)=0)=false:=rfl;have e1:decide ((7:Int)=1)=false:=rfl;have gC:decide ((7:Int)=2)=false:=rfl;have jl:decide ((7:Int)=3)=false:=rfl;have pz:decide ((7:Int)=4)=false:=rfl;have zK:decide ((7:Int)=5)=false:=rfl;have Db:decide ((7:Int)=6)=false:=rfl;have JK:decide ((7:Int)=7)=true:=rfl;simp only[go_sem,d0,e1,gC,jl,pz,zK,Db];have b1:∀b,_:=fun b=>Q9 x b m hv (by omega);refine hH _ (iT (fun S σ=>∃i h z,i≤bs.length∧(True)∧σ=Pg bs bG bg bT bY x id i h z S) (N:=10) rfl rfl ⟨dk,h2,0,‹_›,by first|assumption|(simp;done)|exact⟨by omega,rfl⟩,rfl⟩ ?_) ?_
  ·repeat'(first|exact iU|refine iV ?_ ?_)
   all_goals(
    rintro S σ F hl aX hp hcl ⟨eE,eg,z,c4,hc,rfl⟩ aZ;obtain⟨gq,cU,c9,cq,dd,iD,jI,j4,kM,mO,rfl⟩:=JH hl;simp only[List.getElem?_cons_succ,List.getElem?_cons_zero,uB]at aX;subst aX;simp[gQ,Region.binds]at hp
    repeat(obtain⟨c_,hp⟩:=hp;subst c_)
    try subst hp
    simp only[Pg,pG,oV,cond_true,cond_false,bf,bn,List.append_nil]
    repeat'(first
      |exact aZ _ ⟨eE,eg,z,c4,hc,rfl⟩
      |(refine b9 ?_)
      |(refine de ?_)
      |(obtain rfl:=ob (hcl 2 3 _ rfl (by decide) rfl);obtain rfl:=ob (hcl 3 4 _ rfl (by decide) rfl);obtain rfl:=ob (hcl 4 5 _ rfl (by decide) rfl);obtain rfl:=ob (hcl 5 6 _ rfl (by decide) rfl);obtain rfl:=ob (hcl 5 7 _ rfl (by decide) rfl);obtain rfl:=ob (hcl 5 8 _ rfl (by decide) rfl);obtain rfl:=ob (hcl 8 9 _ rfl (by decide) rfl);simp only[cond_false];refine ae.inl (j0 bs hm eE eg [bG] [bg,bT,bY,.ai 39 (x.streams.map aa.enc) true,.ai 2 (x.packets.map aC.enc) true,.box (I.vc x (.sl 5 0 x.streams.length) (.sl 6 0 x.packets.length)),.box I.bH,.box (I.vc x (.sl 5 0 x.streams.length) (.sl 6 0 x.packets.length))] _ 20 (by omega) (by omega) _ c4 fun dQ aj fe a3 dq ja=>?_);simp only[go_sem,ep];exact aZ _ ⟨_,_,fe,‹_›,by first|assumption|simp|(constructor<;>assumption),rfl⟩)
      |(refine ae.af (b1 _) ?_)
      |simp only[go_sem,lM,bf,bn]))
  rintro _ ⟨g_,aD,z,l3,hc,rfl⟩;simp only[Pg,List.replicate,pG,oV,cond_true,bf,bn];simp only[go_sem,bf,bn];exact uI br _ 10 (by omega) (nc _ _) rfl rfl (hk _ _ _ (by assumption) (.em _))
 ·skip
  have d0:decide ((8:Int)=0)=false:=rfl;have e1:decide ((8:Int)=1)=false:=rfl;have gC:decide ((8:Int)=2)=false:=rfl;have jl:decide ((8:Int)=3)=false:=rfl;have pz:decide ((8:Int)=4)=false:=rfl;have zK:decide ((8:Int)=5)=false:=rfl;have Db:decide ((8:Int)=6)=false:=rfl;have JK:decide ((8:Int)=7)=false:=rfl;have WX:decide ((8:Int)=8)=true:=rfl;simp only[go_sem,d0,e1,gC,jl,pz,zK,Db,JK];refine ae.inl (YE bs hm dk h2 [bG] [bg,bT,bY,.ai 39 (x.streams.map aa.enc) true,.ai 2 (x.packets.map aC.enc) true,.box (I.vc x (.sl 5 0 x.streams.length) (.sl 6 0 x.packets.length)),.box I.bH,.box (I.vc x (.sl 5 0 x.streams.length) (.sl 6 0 x.packets.length))] _ 10 rfl Pj (y0 _ (by simp[a6,vok])) _ bR fun dQ aj f a3 dw fs f3=>?_);simp only[go_sem,lM];have b1:=ac8 x f m hv (by omega) (by omega) ⟨fs,by omega⟩;refine ae.af b1 ?_;simp only[go_sem,lM,bf,bn]
  cases he:decide (CI x f=0)with
  |true=>
   simp only[go_sem,bf,bn];exact uI br _ 11 (by omega) (nc _ _) rfl rfl (hk _ _ _ (by assumption) (.hf f (by omega) ⟨fs,by omega⟩))
  |false=>
   simp only[go_sem,bf,bn];exact O8 br _ (nc _ _) (hk _ _ _ (by assumption) .same)
 ·skip
  have d0:decide ((9:Int)=0)=false:=rfl;have e1:decide ((9:Int)=1)=false:=rfl;have gC:decide ((9:Int)=2)=false:=rfl;have jl:decide ((9:Int)=3)=false:=rfl;have pz:decide ((9:Int)=4)=false:=rfl;have zK:decide ((9:Int)=5)=false:=rfl;have Db:decide ((9:Int)=6)=false:=rfl;have JK:decide ((9:Int)=7)=false:=rfl;have WX:decide ((9:Int)=8)=false:=rfl;have aoB:decide ((9:Int)=9)=true:=rfl;simp only[go_sem,d0,e1,gC,jl,pz,zK,Db,JK,WX]
  cases c_:decide (0<(x.packets.length:Int))with
  |false=>
   simp only[go_sem,bf,bn];exact O8 br _ (nc _ _) (hk _ _ _ (by assumption) .same)
  |true=>
   have aoC:=ch c_;simp only[go_sem];refine hH _ (iT (fun S σ=>∃i h z,i≤bs.length∧(z.1<x.packets.length∧((x.packets[z.1]?).getD (⟨0,[]⟩:aC)).number=z.2)∧σ=Ph bs bG bg bT bY x id i h z S) (N:=11) rfl rfl ⟨dk,h2,(0,((x.packets[0]?).getD (⟨0,[]⟩:aC)).number),‹_›,by first|assumption|(simp;done)|exact⟨by omega,rfl⟩,rfl⟩ ?_) ?_
   ·repeat'(first|exact iU|refine iV ?_ ?_)
    all_goals(
     rintro S σ F hl aX hp hcl ⟨eE,eg,z,c4,hc,rfl⟩ aZ;obtain⟨gq,cU,c9,cq,dd,iD,jI,j4,kM,mO,vI,rfl⟩:=Ll hl;simp only[List.getElem?_cons_succ,List.getElem?_cons_zero,uB]at aX;subst aX;simp[gQ,Region.binds]at hp
     repeat(obtain⟨c_,hp⟩:=hp;subst c_)
     try subst hp
     have av:=bZ aC.enc x.packets z.1 hc.1;have jc:=hc.2;have hc1:=hc.1;rw[dg hc.1,Option.getD_some]at jc;simp only[Ph,pG,oV,cond_true,cond_false]
     repeat'(first
       |exact aZ _ ⟨eE,eg,z,c4,hc,rfl⟩
       |(refine b9 ?_)
       |(refine de ?_)
       |(obtain rfl:=ob (hcl 6 7 _ rfl (by decide) rfl);obtain rfl:=ob (hcl 7 8 _ rfl (by decide) rfl);obtain rfl:=ob (hcl 8 9 _ rfl (by decide) rfl);obtain rfl:=ob (hcl 9 10 _ rfl (by decide) rfl);simp only[cond_false];refine ae.inl (j0 bs hm eE eg [bG] [bg,bT,bY,.ai 39 (x.streams.map aa.enc) true,.ai 2 (x.packets.map aC.enc) true,.box (I.vc x (.sl 5 0 x.streams.length) (.sl 6 0 x.packets.length)),.box I.bH,.box (I.vc x (.sl 5 0 x.streams.length) (.sl 6 0 x.packets.length))] _ (x.packets.length:Int) (by omega) (by omega) _ c4 fun dQ aj fe a3 dq ja=>?_);obtain⟨dC,rfl⟩:=Int.eq_ofNat_of_zero_le dq;simp only[go_sem,ep];exact aZ _ ⟨_,_,(dC,((x.packets[dC]?).getD (⟨0,[]⟩:aC)).number),‹_›,⟨(by omega),rfl⟩,rfl⟩)
       |(refine⟨⟨by omega,by omega⟩,?_⟩)
       |(refine⟨hc1,?_⟩)
       |simp only[go_sem,lM,av,jc,aC.enc,aF]))
   rintro _ ⟨g_,aD,z,l3,hc,rfl⟩;simp only[Ph,List.replicate,pG,oV,cond_true];simp only[go_sem];refine ae.inl (vU bs hm g_ aD [bG] [bg,bT,bY,.ai 39 (x.streams.map aa.enc) true,.ai 2 (x.packets.map aC.enc) true,.box (I.vc x (.sl 5 0 x.streams.length) (.sl 6 0 x.packets.length)),.box I.bH,.box (I.vc x (.sl 5 0 x.streams.length) (.sl 6 0 x.packets.length))] _ 3 (by omega) (by omega) _ l3 fun DF bX mX a5=>?_)
   cases mX with
   |true=>
    have b1:=Xc x z.2 m hv (by omega);simp only[go_sem,lM];refine ae.af b1 ?_;simp only[go_sem,lM,bf,bn];exact uI br _ 10 (by omega) (nc _ _) rfl rfl (hk _ _ _ (by assumption) (.Ln _))
   |false=>
    have b1:=W_ x z.2 m hv (by omega);simp only[go_sem,lM];refine ae.af b1 ?_;simp only[go_sem,lM,bf,bn];exact uI br _ 10 (by omega) (nc _ _) rfl rfl (hk _ _ _ (by assumption) (.Lo _))
set_option maxRecDepth 100000
theorem P'{ρ:List Nat}{m:Nat}:∀{xs ys:List V},uL ρ m xs→uL ρ m ys→uL ρ m (xs++ys)
 |[],_,_,h=>h
 |_Qa::_KM,_,h,k=>⟨h.1,P' h.2 k⟩
theorem Pv{kv:List V}{hs:List H}{n:Nat}(hn:hs.length=n)(hr:roks n hs)(br:a6 n kv)(y:I)(a:Nat)(ha:n≤a){ex:List H}{K:V→List H→Prop}(ag:aG (hs++ex) a=.ai 39 (y.streams.map aa.enc) true)(e2:aG (hs++ex) (a+1)=.ai 2 (y.packets.map aC.enc) true)
  (bF:K (gB y n) (hs++gP y)):o2 kv K (gB y a) (hs++ex):=by
 subst hn;refine⟨List.range hs.length++[a,a+1],gB y hs.length,hs++gP y,?_,bF⟩;refine KN (hs:=hs) (ex:=ex) [a,a+1] (by simp) (by simp;omega) hr ?_ (by simp[allOk,hok,gP]) br ?_ ?_
 ·simp only[gP,hsees,ag,e2];simp[hsee]
 ·have h1:=nE hs.length 0 [a,a+1];have h2:=nE hs.length 1 [a,a+1];simp only[Nat.add_zero,oV,pG]at h1 h2;simp[gB,vsees,vsee,ren,rens]
 ·simp[gB,gP,a6,vok]
theorem Yi{ts kv:List V}(Yj:uL (List.range 7) 7 ts)(br:a6 3 kv){bG c bg bT:H}(h0:rok 7 bG)(hc:rok 7 c)(h2:rok 7 bg)(aj:rok 7 bT)(cs:List V)(hcs:cs.length=50)(x:I) :
  kQ (ts++kv) (List.range 7) ⟨[.ptr 1 0 0,gB x 5],bG::c::bg::bT::.box cs::gP x⟩ ⟨[.ptr 1 0 0,gB x 5],bG::c::bg::bT::.box (List.replicate 50 .J)::gP x⟩:=by
 have hf:nF (List.range 7) 7:=yr (Nat.le_refl _);refine⟨List.nodup_range,?_,⟨BG hf h0,BG hf hc,BG hf h2,BG hf aj,hcs▸Qb _ cs,⟨rfl,rfl,rfl⟩,⟨rfl,rfl,rfl⟩,trivial⟩,?_,?_,P' Yj (uM hf (by simp[gP]) (mj (by omega) _ br))⟩
 ·simp[gB,vsees,vsee,ren,rens,List.range,List.range.loop]
 ·simp[gB,gP,a6,vok]
 ·exact BH (xs:=bG::c::bg::bT::.box (List.replicate 50 .J)::gP x) ⟨h0,hc,h2,aj,KO _ _,trivial,trivial,trivial⟩
def eP:H:=.box I.bH
set_option maxHeartbeats 8000000 in
theorem Xe(bs:List Int)(hm:bs.length≤maxLen)(i:Nat)(h:Int)(bG bg:H)(hq:rok 3 bG∧rok 3 bg)(kv:List V)(br:a6 3 kv)(K:V→List H→Prop)(hi:i≤bs.length)
  (hk:∀(cz:Nat) (h':Int) (y:I),cz≤bs.length→Drawn 14 y→K (gB y 3) ([bG,cE bs cz h',bg]++gP y)):dj Tryz.prog 82 kv [bG,cE bs i h,bg] [.ptr 1 0 0] K:=by
 have KP:∀ts:List V,a6 4 ts→a6 4 (ts++kv):=fun ts h=>zP h (mj (by omega) kv br);have Qc:roks 4 [bG]∧roks 4 [bg,eP]:=⟨⟨nd (by omega) _ hq.1,trivial⟩,nd (by omega) _ hq.2,by simp[eP,roks,rok,a6,vok]⟩;have KQ:∀(cz:Nat) (h':Int),roks 3 [bG,cE bs cz h',bg]:=fun cz h'=>⟨hq.1,by simp[cE,rok,a6,vok],hq.2,trivial⟩;have JQ:∀(cz:Nat) (h':Int),roks 4 [bG,cE bs cz h',bg,eP]:=fun cz h'=>⟨nd (by omega) _ hq.1,by simp[cE,rok,a6,vok],nd (by omega) _ hq.2,by simp[eP,rok,a6,vok],trivial⟩;have GD:rok 7 bG∧rok 7 bg:=⟨nd (by omega) _ hq.1,nd (by omega) _ hq.2⟩;refine dj.oq ?_;refine(en (n:=27) (rs:=[.cell 2 37]) Tryz.func82 rfl Tryz.call82 hZ rfl rfl ?_);simp only[go_sem];refine ae.inl (vU bs hm i h [bG] [bg,eP] _ 2 (by omega) (by omega) _ hi fun eo h1 dx bD=>?_);simp only[go_sem,bf,bn];refine ae.inl (Qd bs hm eo h1 [bG] [bg,eP] _ 4 rfl Qc (KP _ (by simp[a6,vok])) _ bD fun dk h2 o bR=>?_);simp only[go_sem,bf,bn];refine ae.inl (Qd bs hm dk h2 [bG] [bg,eP] _ 4 rfl Qc (KP _ (by simp[a6,vok])) _ bR fun dQ aj p a3=>?_);simp only[go_sem,bf,bn];have bo:=Yk dx o.ring o.bP o.mT o.c8 o.mU o.l0 o.fy o.iF p.ring p.bP p.mT p.c8 p.mU p.l0 p.fy p.iF;change PureCall _ _ _ [.agg (I.enc ((xq dx o p))),.one (.bool _)]at bo;have bz:=Drawn.new dx o p;generalize xq dx o p=x at bo bz;refine ae.intro bo ?_;simp only[go_sem,lM,bf,bn];refine ae.inl (j0 bs hm dQ aj [bG] [bg,eP,.ai 39 (x.streams.map aa.enc) true,.ai 2 (x.packets.map aC.enc) true,.box (I.vc x (.sl 4 0 x.streams.length) (.sl 5 0 x.packets.length))] _ 12 (by omega) (by omega) _ a3 fun g_ aD k a4 oA tN=>?_);obtain⟨k,rfl⟩:=Int.eq_ofNat_of_zero_le oA;simp only[go_sem,bf,bn];rw[show IntKind.i64.wrap (2+(k:Int))=((k+2:Nat):Int)by rw[bC]<;>omega];refine b5.intro (α:=Nat×Int×I×Nat) (fun y=>⟨(.ptr 1 0 0::.J::.ptr 3 0 0::.ptr 4 0 0::.J::.d (.int .i64 y.2.2.2)::jn 21 []),[bG,cE bs y.1 y.2.1,bg,eP,.box (I.vc (y.2.2.1) (.sl 5 0 (y.2.2.1).streams.length) (.sl 6 0 (y.2.2.1).packets.length)),.ai 39 ((y.2.2.1).streams.map aa.enc) true,.ai 2 ((y.2.2.1).packets.map aC.enc) true]⟩)
  (fun y=>y.2.2.2) (fun y=>y.1≤bs.length∧y.2.2.2≤14∧Drawn (14-y.2.2.2) y.2.2.1) (g_,aD,x,k+2) [0,1,2,3,6,4,5] ⟨a4,by simp only;omega,bz.mono (by omega)⟩ ?_ ?_
 ·refine KN (hs:=[bG,cE bs g_ aD,bg,eP]) (ex:=[.ai 39 (x.streams.map aa.enc) true,.ai 2 (x.packets.map aC.enc) true,.box (I.vc x (.sl 4 0 x.streams.length) (.sl 5 0 x.packets.length))]) (ex':=[.box (I.vc x (.sl 5 0 x.streams.length) (.sl 6 0 x.packets.length)),.ai 39 (x.streams.map aa.enc) true,.ai 2 (x.packets.map aC.enc) true]) [6,4,5] (by decide) (by simp) (JQ _ _) ?_ (by simp[allOk,hok,a6,vok]) (KP [] trivial) ?_ ?_
  ·simp[hsees,hsee,aG,vsees,vsee,ren,List.range,List.range.loop]
  ·simp[vsees,vsee,ren,List.range,List.range.loop]
  ·simp[a6,vok]
 ·rintro⟨DF,bX,x,n⟩ ⟨KR,hn,hd⟩;simp only at KR hn hd;have hx:=hd.nG (by omega);simp only[go_sem]
  cases n with
  |zero=>
   rw[show decide ((0:Int)<((0:Nat):Int))=false from rfl];simp only[go_sem,eP];exact Pv (n:=3) (hs:=[bG,cE bs DF bX,bg]) (ex:=[_,_,_,_]) rfl (KQ _ _) br x 5 (by omega) (by rfl) (by rfl) (hk _ _ _ KR hd)
  |succ n=>
   rw[show decide ((0:Int)<((n+1:Nat):Int))=true from bc (by omega)];simp only[go_sem];refine ae.iR [0,2,3,5] (by simp only[keepT,List.elem_cons,List.elem_nil,Nat.reduceBEq,Nat.reduceAdd,cond_true,cond_false];rfl) (dj.BI (Yi (by simp[uL,vsee,vok,ren,List.range,List.range.loop]) br GD.1 (by simp[cE,rok,a6,vok]) GD.2 (by simp[eP,rok,a6,vok]) _ rfl x) (Yl bs hm DF bX x (14-(n+1)) hx (by omega) bG bg eP (.box (List.replicate 50 .J)) ⟨nd (by omega) _ hq.1,nd (by omega) _ hq.2,by simp[eP,rok,a6,vok],KO 5 50⟩ _ (zP (by simp[a6,vok]) (mj (by omega) kv br)) _ KR fun GF eR y ec hy=>?_));simp only[go_sem,gB,gP,List.replicate,oW,List.length_nil,bf,bn];rw[show IntKind.i64.wrap (((n+1:Nat):Int)-1)=(n:Int)by rw[bC]<;>omega];refine bm.intro (GF,eR,y,n) (List.range 7) ⟨ec,by simp only;omega,by simp only;have:=hd.step hy;rwa [show 14-(n+1)+1=14-n from by omega]at this⟩ (Nat.lt_succ_self n) ?_;refine GG (hs:=[bG,cE bs GF eR,bg,eP,.box (I.vc y (.sl 5 0 y.streams.length) (.sl 6 0 y.packets.length)),.ai 39 (y.streams.map aa.enc) true,.ai 2 (y.packets.map aC.enc) true]) ⟨GD.1,by simp[cE,rok,a6,vok],GD.2,by simp[eP,rok,a6,vok],by simp[rok,a6,vok],trivial,trivial,trivial⟩ (mj (by simp) kv br) ?_ ?_
   ·simp[vsees,vsee,ren,List.range,List.range.loop]
   ·simp[a6,vok]
set_option maxRecDepth 100000
set_option maxHeartbeats 8000000 in
theorem Dj(bs:List Int)(hm:bs.length≤maxLen)(i:Nat)(h:Int)(bG:H)(hq:rok 2 bG)(kv:List V)(br:a6 2 kv)(K:V→List H→Prop)(hi:i≤bs.length)
  (hk:∀(cz:Nat) (h':Int) (y:I),cz≤bs.length→tE y→K (gB y 2) ([bG,cE bs cz h']++gP y)):dj Tryz.prog 32 kv [bG,cE bs i h] [.ptr 1 0 0] K:=by
 have hr2:∀(cz:Nat) (h':Int),roks 2 [bG,cE bs cz h']:=fun cz h'=>⟨hq,by simp[cE,rok,a6,vok],trivial⟩;refine dj.oq ?_;refine(en (n:=34) (rs:=[.cell 2 37]) Tryz.func32 rfl Tryz.call32 hZ rfl rfl ?_);simp only[go_sem];refine ae.inl (Xe bs hm i h bG eP ⟨nd (by omega) _ hq,by simp[eP,rok,a6,vok]⟩ _ (zP (by simp[a6,vok]) (mj (by omega) kv br)) _ hi fun eo h1 y bD bz=>?_);simp only[go_sem,gB,gP,eP,bf,bn];refine ae.inl (j0 bs hm eo h1 [bG] [.box I.bH,.ai 39 (y.streams.map aa.enc) true,.ai 2 (y.packets.map aC.enc) true,.box (I.vc y (.sl 3 0 y.streams.length) (.sl 4 0 y.packets.length))] _ 20 (by omega) (by omega) _ bD fun dk h2 k bR dt c2=>?_);have bd:∀(x:I) (dQ:Nat) (aj:Int) (cg jH:H) (ex:List H),dQ≤bs.length→tE x→o2 kv K (gB x 3) (bG::cE bs dQ aj::cg::.ai 39 (x.streams.map aa.enc) true::.ai 2 (x.packets.map aC.enc) true::jH::ex):=by
  intro x dQ aj cg jH ex Xf hx;exact Pv (n:=2) (hs:=[bG,cE bs dQ aj]) (ex:=cg::.ai 39 (x.streams.map aa.enc) true::.ai 2 (x.packets.map aC.enc) true::jH::ex) rfl (hr2 _ _) br x 3 (by omega) rfl rfl (hk _ _ _ Xf hx)
 obtain rfl|rfl|rfl|rfl|aD:k=0∨k=1∨k=2∨k=3∨4≤k:=by omega
 ·have d0:decide ((0:Int)=0)=true:=rfl;simp only[go_sem];refine ae.inl (zQ bs hm dk h2 [bG] [.box I.bH,.ai 39 (y.streams.map aa.enc) true,.ai 2 (y.packets.map aC.enc) true,.box (I.vc y (.sl 3 0 y.streams.length) (.sl 4 0 y.packets.length)),.ai 1 ([-1,3,7,256].map aW) true] _ 4 [-1,3,7,256] rfl (by decide) (by decide) _ bR fun dQ aj v a3 dq=>?_);simp only[go_sem,bf,bn];exact bd {y with closed:=v} dQ aj _ _ _ a3 ⟨y,_,_,_,_,bz,rfl⟩
 ·have d0:decide ((1:Int)=0)=false:=rfl;have e1:decide ((1:Int)=1)=true:=rfl;simp only[go_sem,d0];refine ae.inl (zQ bs hm dk h2 [bG] [.box I.bH,.ai 39 (y.streams.map aa.enc) true,.ai 2 (y.packets.map aC.enc) true,.box (I.vc y (.sl 3 0 y.streams.length) (.sl 4 0 y.packets.length)),.ai 1 ([-1,1000000,1000001].map aW) true] _ 4 [-1,1000000,1000001] rfl (by decide) (by decide) _ bR fun dQ aj v a3 dq=>?_);simp only[go_sem,bf,bn];exact bd {y with gh:=v} dQ aj _ _ _ a3 ⟨y,_,_,_,_,bz,rfl⟩
 ·have d0:decide ((2:Int)=0)=false:=rfl;have e1:decide ((2:Int)=1)=false:=rfl;have gC:decide ((2:Int)=2)=true:=rfl;simp only[go_sem,d0,e1];refine ae.inl (zQ bs hm dk h2 [bG] [.box I.bH,.ai 39 (y.streams.map aa.enc) true,.ai 2 (y.packets.map aC.enc) true,.box (I.vc y (.sl 3 0 y.streams.length) (.sl 4 0 y.packets.length)),.ai 1 ([-1,0].map aW) true] _ 4 [-1,0] rfl (by decide) (by decide) _ bR fun dQ aj v a3 dq=>?_);simp only[go_sem,bf,bn];exact bd {y with c8:={y.c8 with used:=v}} dQ aj _ _ _ a3 ⟨y,_,_,_,_,bz,rfl⟩
 ·have d0:decide ((3:Int)=0)=false:=rfl;have e1:decide ((3:Int)=1)=false:=rfl;have gC:decide ((3:Int)=2)=false:=rfl;have jl:decide ((3:Int)=3)=true:=rfl;simp only[go_sem,d0,e1,gC];refine ae.inl (zQ bs hm dk h2 [bG] [.box I.bH,.ai 39 (y.streams.map aa.enc) true,.ai 2 (y.packets.map aC.enc) true,.box (I.vc y (.sl 3 0 y.streams.length) (.sl 4 0 y.packets.length)),.ai 1 ([0,1000000,1000001].map aW) true] _ 4 [0,1000000,1000001] rfl (by decide) (by decide) _ bR fun dQ aj v a3 dq=>?_);simp only[go_sem,bf,bn];exact bd {y with number:=v} dQ aj _ _ _ a3 ⟨y,_,_,_,_,bz,rfl⟩
 ·have d0:decide (k=0)=false:=a_ (by omega);have e1:decide (k=1)=false:=a_ (by omega);have gC:decide (k=2)=false:=a_ (by omega);have jl:decide (k=3)=false:=a_ (by omega);simp only[go_sem,d0,e1,gC,jl,bf,bn];exact bd y dk h2 _ _ _ bR ⟨y,_,_,_,_,bz,rfl⟩
set_option maxRecDepth 100000
set_option maxHeartbeats 2000000 in
theorem QM(bs:List Int)(hm:bs.length≤maxLen)(i:Nat)(h:Int)(pre rest:List H)(kv:List V)(n:Nat)(hn:pre.length+(rest.length+1)=n)(hr:roks n pre∧roks n rest)(br:a6 n kv)(K:V→List H→Prop)(hi:i≤bs.length)
  (hk:∀(cz:Nat) (h' x:Int),cz≤bs.length→K (.d (.int .i64 x)) (pre++cE bs cz h'::rest)):dj Tryz.prog 114 kv (pre++cE bs i h::rest) [.ptr pre.length 0 0] K:=by
 have bd:∀(cz:Nat) (h' x:Int) (ex:List H),cz≤bs.length→o2 kv K (.d (.int .i64 x)) (pre++cE bs cz h'::(rest++ex)):=by
  intro cz h' x ex c4;subst hn;exact⟨List.range (pre.length+(rest.length+1)),.d (.int .i64 x),pre++cE bs cz h'::rest,Ac hr br (by simp only[vsees,vsee,ren,and_true]) (by simp[a6,vok]),hk cz h' x c4⟩
 refine dj.oq ?_;refine(en (n:=10) (rs:=[.tmp 2]) Tryz.func114 rfl Tryz.call114 hZ rfl rfl ?_);simp only[go_sem];refine ae.inl (vU bs hm i h pre rest _ 8 (by omega) (by omega) _ hi fun eo h1 dx bD=>?_);simp only[go_sem]
 cases dx with
 |true=>
  simp only[go_sem,fu,dN,dz,d_];refine ae.inl (zQ bs hm eo h1 pre (rest++[.ai 1 ([-1,4611686018427387903,4611686018427387904].map aW) true]) _ rest.length [-1,4611686018427387903,4611686018427387904] (by rw[d_];rfl) (by decide) (by decide) _ bD fun dk h2 x2 bR dt=>?_);simp only[go_sem];exact bd dk h2 x2 _ bR
 |false=>
  simp only[go_sem];refine ae.inl (j0 bs hm eo h1 pre rest _ 20 (by omega) (by omega) _ bD fun dk h2 x2 bR dt c2=>?_);simp only[go_sem];have:=bd dk h2 x2 [] bR
  rwa [List.append_nil]at this
def Lk(bs:List Int)(bG:H)(x:I)(i:Nat)(h:Int)(z:Nat×Int)(S:List Bool):St:=⟨[.ptr 1 0 0,.agg (I.vc x (.sl 2 0 x.streams.length) (.sl 3 0 x.packets.length)),.J,.ptr 5 0 0,(bif S.getD 10 false then .d (.int .i64 z.2)else .d (.int .i64 0)),.ptr 5 0 17,.sl 2 0 x.streams.length,.d (.int .i64 x.streams.length),.d (.bool true),.d (.bool true),.ptr 1 0 0,.d (.bool false),.d (.bool true),.d (.bool true),(bif S.getD 0 false then .ptr 5 0 17 else .J),(bif S.getD 1 false then .sl 2 0 x.streams.length else .J),(bif S.getD 2 false then .ptr 1 0 0 else .J),(bif S.getD 3 false then .ptr 5 0 17 else .J),(bif S.getD 4 false then .sl 2 0 x.streams.length else .J),(bif S.getD 5 false then .d (.int .i64 x.streams.length)else .J),(bif S.getD 6 false then .d (.int .i64 z.1)else .J),(bif S.getD 7 false then .ptr 2 z.1 0 else .J),(bif S.getD 8 false then .ptr 2 z.1 0 else .J),(bif S.getD 9 false then .d (.int .i64 z.2)else .J),.J,.J],[bG,cE bs i h,.ai 39 (x.streams.map aa.enc) true,.ai 2 (x.packets.map aC.enc) true,.box (I.vc x (.sl 2 0 x.streams.length) (.sl 3 0 x.packets.length)),.box (I.vc x (.sl 2 0 x.streams.length) (.sl 3 0 x.packets.length))]⟩
set_option maxHeartbeats 8000000 in
theorem Lf(bs:List Int)(hm:bs.length≤maxLen)(i:Nat)(h:Int)(x:I)(hl:x.streams.length≤1000)(bG:H)(hq:rok 5 bG)(kv:List V)(br:a6 5 kv)(K:V→List H→Prop)(hi:i≤bs.length)
  (hk:∀(cz:Nat) (h' id:Int),cz≤bs.length→K (.d (.int .i64 id)) [bG,cE bs cz h',.ai 39 (x.streams.map aa.enc) true,.ai 2 (x.packets.map aC.enc) true,.box (I.vc x (.sl 2 0 x.streams.length) (.sl 3 0 x.packets.length))]):dj Tryz.prog 53 kv [bG,cE bs i h,.ai 39 (x.streams.map aa.enc) true,.ai 2 (x.packets.map aC.enc) true,.box (I.vc x (.sl 2 0 x.streams.length) (.sl 3 0 x.packets.length))] [.ptr 1 0 0,.agg (I.vc x (.sl 2 0 x.streams.length) (.sl 3 0 x.packets.length))] K:=by
 have bd:∀(cz:Nat) (h' id:Int) (ex:List H),cz≤bs.length→o2 kv K (.d (.int .i64 id)) ([bG,cE bs cz h',.ai 39 (x.streams.map aa.enc) true,.ai 2 (x.packets.map aC.enc) true,.box (I.vc x (.sl 2 0 x.streams.length) (.sl 3 0 x.packets.length))]++ex):=by
  intro cz h' id ex c4;refine⟨List.range 5,.d (.int .i64 id),_,zR (hs:=[bG,cE bs cz h',.ai 39 (x.streams.map aa.enc) true,.ai 2 (x.packets.map aC.enc) true,.box (I.vc x (.sl 2 0 x.streams.length) (.sl 3 0 x.packets.length))]) ?_ br (by simp only[vsees,vsee,ren,and_true]) (by simp[a6,vok]),hk cz h' id c4⟩;exact⟨hq,by simp[cE,rok,a6,vok],by simp[roks,rok,a6,vok]⟩
 refine dj.oq ?_;refine(en (n:=26) (rs:=[.tmp 4]) Tryz.func53 rfl Tryz.call53 hZ rfl rfl ?_);simp only[go_sem];have QN:roks 6 [bG]∧roks 6 [.ai 39 (x.streams.map aa.enc) true,.ai 2 (x.packets.map aC.enc) true,.box (I.vc x (.sl 2 0 x.streams.length) (.sl 3 0 x.packets.length)),.box (I.vc x (.sl 2 0 x.streams.length) (.sl 3 0 x.packets.length))]:=⟨⟨nd (by omega) _ hq,trivial⟩,by simp[roks,rok,a6,vok]⟩
 cases gv:decide (0<(x.streams.length:Int))with
 |false=>
  refine de ?_;simp only[go_sem];refine de ?_;simp only[go_sem]
  try(refine de ?_;simp only[go_sem])
  refine ae.inl (QM bs hm i h [bG] [.ai 39 (x.streams.map aa.enc) true,.ai 2 (x.packets.map aC.enc) true,.box (I.vc x (.sl 2 0 x.streams.length) (.sl 3 0 x.packets.length)),.box (I.vc x (.sl 2 0 x.streams.length) (.sl 3 0 x.packets.length))] _ 6 rfl QN (zP (by simp[a6,vok]) (mj (by omega) kv br)) _ hi fun dk h2 x2 bR=>?_);simp only[go_sem,bf,bn];exact bd dk h2 x2 [_] bR
 |true=>
  have Du:=ch gv;refine b9 ?_;simp only[go_sem];refine b9 ?_;simp only[go_sem];refine ae.inl (vU bs hm i h [bG] [.ai 39 (x.streams.map aa.enc) true,.ai 2 (x.packets.map aC.enc) true,.box (I.vc x (.sl 2 0 x.streams.length) (.sl 3 0 x.packets.length)),.box (I.vc x (.sl 2 0 x.streams.length) (.sl 3 0 x.packets.length))] _ 5 (by omega) (by omega) _ hi fun eo h1 dx bD=>?_)
  cases dx with
  |true=>
   simp only[go_sem,bf,bn]
   try(refine b9 ?_;simp only[go_sem])
   refine ae.inl (QM bs hm eo h1 [bG] [.ai 39 (x.streams.map aa.enc) true,.ai 2 (x.packets.map aC.enc) true,.box (I.vc x (.sl 2 0 x.streams.length) (.sl 3 0 x.packets.length)),.box (I.vc x (.sl 2 0 x.streams.length) (.sl 3 0 x.packets.length))] _ 6 rfl QN (zP (by simp[a6,vok]) (mj (by omega) kv br)) _ bD fun dk h2 x2 bR=>?_);simp only[go_sem,bf,bn];exact bd dk h2 x2 [_] bR
  |false=>
   simp only[go_sem,bf,bn]
   try(refine b9 ?_;simp only[go_sem])
   refine hH _ (iT (fun S σ=>∃i h z,i≤bs.length∧(z.1<x.streams.length∧((x.streams[z.1]?).getD iG).id=z.2)∧σ=Lk bs bG x i h z S) (N:=11) rfl rfl ⟨eo,h1,(0,((x.streams[0]?).getD iG).id),‹_›,by first|assumption|(simp;done)|exact⟨by omega,rfl⟩,rfl⟩ ?_) ?_
   ·repeat'(first|exact iU|refine iV ?_ ?_)
    all_goals(
     rintro S σ F hl aX hp hcl ⟨eE,eg,z,c4,hc,rfl⟩ aZ;obtain⟨gq,cU,c9,cq,dd,iD,jI,j4,kM,mO,vI,rfl⟩:=Ll hl;simp only[List.getElem?_cons_succ,List.getElem?_cons_zero,uB]at aX;subst aX;simp[gQ,Region.binds]at hp
     repeat(obtain⟨c_,hp⟩:=hp;subst c_)
     try subst hp
     have av:=bZ aa.enc x.streams z.1 hc.1;have jc:=hc.2;have hc1:=hc.1;rw[dg hc.1,Option.getD_some]at jc;simp only[Lk,pG,oV,cond_true,cond_false]
     repeat'(first
       |exact aZ _ ⟨eE,eg,z,c4,hc,rfl⟩
       |(refine b9 ?_)
       |(refine de ?_)
       |(obtain rfl:=ob (hcl 6 7 _ rfl (by decide) rfl);obtain rfl:=ob (hcl 7 8 _ rfl (by decide) rfl);obtain rfl:=ob (hcl 8 9 _ rfl (by decide) rfl);obtain rfl:=ob (hcl 9 10 _ rfl (by decide) rfl);simp only[cond_false];refine ae.inl (j0 bs hm eE eg [bG] [.ai 39 (x.streams.map aa.enc) true,.ai 2 (x.packets.map aC.enc) true,.box (I.vc x (.sl 2 0 x.streams.length) (.sl 3 0 x.packets.length)),.box (I.vc x (.sl 2 0 x.streams.length) (.sl 3 0 x.packets.length))] _ (x.streams.length:Int) (by omega) (by omega) _ c4 fun dQ aj fe a3 dq ja=>?_);obtain⟨dC,rfl⟩:=Int.eq_ofNat_of_zero_le dq;simp only[go_sem,ep];exact aZ _ ⟨_,_,(dC,((x.streams[dC]?).getD iG).id),‹_›,⟨by omega,rfl⟩,rfl⟩)
       |(refine⟨⟨by omega,by omega⟩,?_⟩)
       |(refine⟨hc1,?_⟩)
       |simp only[go_sem,lM,av,jc,aa.enc,aF]))
   rintro _ ⟨g_,aD,z,l3,hc,rfl⟩;simp only[Lk,List.replicate,pG,oV,cond_true];simp only[go_sem];exact bd g_ aD z.2 [_] l3
set_option maxRecDepth 100000
theorem YI{S:List Bool}(h:S.length=5):∃a0 bD bR a3 a4,S=[a0,bD,bR,a3,a4]:=by
 match S,h with|[a0,bD,bR,a3,a4],_=>exact⟨a0,bD,bR,a3,a4,rfl⟩
theorem QK{S:List Bool}(h:S.length=6):∃a0 bD bR a3 a4 a5,S=[a0,bD,bR,a3,a4,a5]:=by
 match S,h with|[a0,bD,bR,a3,a4,a5],_=>exact⟨a0,bD,bR,a3,a4,a5,rfl⟩
theorem YJ{S:List Bool}(h:S.length=7):∃a0 bD bR a3 a4 a5 ec,S=[a0,bD,bR,a3,a4,a5,ec]:=by
 match S,h with|[a0,bD,bR,a3,a4,a5,ec],_=>exact⟨a0,bD,bR,a3,a4,a5,ec,rfl⟩
theorem YK{S:List Bool}(h:S.length=8):∃a0 bD bR a3 a4 a5 ec e9,S=[a0,bD,bR,a3,a4,a5,ec,e9]:=by
 match S,h with|[a0,bD,bR,a3,a4,a5,ec,e9],_=>exact⟨a0,bD,bR,a3,a4,a5,ec,e9,rfl⟩
def Ld(bs:List Int)(x:I)(i:Nat)(h:Int)(z:Bool)(S:List Bool):St:=⟨[.d (.sl 1 (bs.map eU8)),.J,.ptr 0 0 0,(bif S.getD 4 false then .d (.bool z)else .d (.bool false)),.ptr 1 0 0,.ptr 4 0 0,.d (.sl 1 (bs.map eU8)),.ptr 1 0 0,.ptr 1 0 0,.agg (I.vc x (.sl 2 0 x.streams.length) (.sl 3 0 x.packets.length)),(bif S.getD 0 false then .agg (I.vc x (.sl 2 0 x.streams.length) (.sl 3 0 x.packets.length))else .J),(bif S.getD 1 false then .ptr 1 0 0 else .J),(bif S.getD 2 false then .d (.bool z)else .J)],[(bif S.getD 3 false then .box (I.vc x (.sl 2 0 x.streams.length) (.sl 3 0 x.packets.length))else .box I.bH),cE bs i h,.ai 39 (x.streams.map aa.enc) true,.ai 2 (x.packets.map aC.enc) true,.box (I.vc x (.sl 2 0 x.streams.length) (.sl 3 0 x.packets.length))]⟩
set_option maxHeartbeats 8000000 in
theorem YL(bs:List Int):tP Tryz.prog 5 [.one (.sl 1 (bs.map eU8))] (fun rs=>∃(x:I) (u:Bool),tE x∧rs=[.agg (I.enc x),.one (.bool u)]):=by
 refine Af Tryz.func5 rfl Tryz.call5 hZ (.d (.sl 1 (bs.map eU8))::List.replicate 12 .J) rfl [.cell 2 37,.tmp 3] rfl ?_;intro ok;have hm:=fj ok;simp only[List.replicate];simp only[go_sem];refine ae.inl (BM bs hm [eP] _ (by simp[eP,roks,rok,a6,vok]) (by simp[a6,vok]) _ fun h1=>?_);simp only[go_sem,bf,bn];refine ae.inl (Dj bs hm 0 h1 eP (by simp[eP,rok,a6,vok]) _ (by simp[a6,vok]) _ (by omega) fun dk h2 x bR bz=>?_);have hI:=bz.nG;have tQ:x.streams.length≤1000:=by have:=hI.jb;omega
 simp only[go_sem,gB,gP,eP,bf,bn];refine hH _ (iT (fun S σ=>∃i h z,i≤bs.length∧True∧σ=Ld bs x i h z S) (N:=5) rfl rfl ⟨dk,h2,false,‹_›,by first|trivial|simp,rfl⟩ ?_) ?_
 ·repeat'(first|exact iU|refine iV ?_ ?_)
  all_goals(
   rintro S σ F hl aX hp hcl ⟨eE,eg,z,c4,hc,rfl⟩ aZ;obtain⟨gq,cU,c9,cq,dd,rfl⟩:=YI hl;simp only[List.getElem?_cons_succ,List.getElem?_cons_zero,uB]at aX;subst aX;simp[gQ,Region.binds]at hp
   repeat(obtain⟨c_,hp⟩:=hp;subst c_)
   try subst hp
   simp only[Ld,pG,oV,cond_true,cond_false]
   repeat'(first
     |exact aZ _ ⟨eE,eg,z,c4,hc,rfl⟩
     |(refine b9 ?_)
     |(refine de ?_)
     |(obtain rfl:=ob (hcl 2 3 _ rfl (by decide) rfl);obtain rfl:=ob (hcl 2 4 _ rfl (by decide) rfl);simp only[cond_false];refine ae.inl (vU bs hm eE eg [.box I.bH] [.ai 39 (x.streams.map aa.enc) true,.ai 2 (x.packets.map aC.enc) true,.box (I.vc x (.sl 2 0 x.streams.length) (.sl 3 0 x.packets.length))] _ 2 (by omega) (by omega) _ c4 fun dQ aj fe a3=>?_);simp only[go_sem,ep,bf,bn];exact aZ _ ⟨_,_,fe,‹_›,trivial,rfl⟩)
     |simp only[go_sem,bf,bn]))
 rintro _ ⟨g_,aD,z,l3,hc,rfl⟩;simp only[Ld,List.replicate,pG,oV,cond_true];simp only[go_sem];refine⟨_,⟨x,z,bz,rfl⟩,?_⟩;simp only[go_sem];simp[outOA]
def Le(bs:List Int)(x:I)(i:Nat)(h z:Int)(S:List Bool):St:=⟨[.d (.sl 1 (bs.map eU8)),.J,.ptr 0 0 0,(bif S.getD 5 false then .d (.int .i64 z)else .d (.int .i64 0)),.ptr 1 0 0,.ptr 4 0 0,.d (.sl 1 (bs.map eU8)),.ptr 1 0 0,.ptr 1 0 0,.agg (I.vc x (.sl 2 0 x.streams.length) (.sl 3 0 x.packets.length)),(bif S.getD 0 false then .agg (I.vc x (.sl 2 0 x.streams.length) (.sl 3 0 x.packets.length))else .J),(bif S.getD 1 false then .ptr 1 0 0 else .J),(bif S.getD 2 false then .agg (I.vc x (.sl 2 0 x.streams.length) (.sl 3 0 x.packets.length))else .J),(bif S.getD 3 false then .d (.int .i64 z)else .J)],[(bif S.getD 4 false then .box (I.vc x (.sl 2 0 x.streams.length) (.sl 3 0 x.packets.length))else .box I.bH),cE bs i h,.ai 39 (x.streams.map aa.enc) true,.ai 2 (x.packets.map aC.enc) true,.box (I.vc x (.sl 2 0 x.streams.length) (.sl 3 0 x.packets.length))]⟩
set_option maxHeartbeats 8000000 in
theorem YM(bs:List Int):tP Tryz.prog 15 [.one (.sl 1 (bs.map eU8))] (fun rs=>∃(x:I) (id:Int),tE x∧rs=[.agg (I.enc x),.one (.int .i64 id)]):=by
 refine Af Tryz.func15 rfl Tryz.call15 hZ (.d (.sl 1 (bs.map eU8))::List.replicate 13 .J) rfl [.cell 2 37,.tmp 3] rfl ?_;intro ok;have hm:=fj ok;simp only[List.replicate];simp only[go_sem];refine ae.inl (BM bs hm [eP] _ (by simp[eP,roks,rok,a6,vok]) (by simp[a6,vok]) _ fun h1=>?_);simp only[go_sem,bf,bn];refine ae.inl (Dj bs hm 0 h1 eP (by simp[eP,rok,a6,vok]) _ (by simp[a6,vok]) _ (by omega) fun dk h2 x bR bz=>?_);have hI:=bz.nG;have tQ:x.streams.length≤1000:=by have:=hI.jb;omega
 simp only[go_sem,gB,gP,eP,bf,bn];refine hH _ (iT (fun S σ=>∃i h z,i≤bs.length∧True∧σ=Le bs x i h z S) (N:=6) rfl rfl ⟨dk,h2,0,‹_›,by first|trivial|simp,rfl⟩ ?_) ?_
 ·repeat'(first|exact iU|refine iV ?_ ?_)
  all_goals(
   rintro S σ F hl aX hp hcl ⟨eE,eg,z,c4,hc,rfl⟩ aZ;obtain⟨gq,cU,c9,cq,dd,iD,rfl⟩:=QK hl;simp only[List.getElem?_cons_succ,List.getElem?_cons_zero,uB]at aX;subst aX;simp[gQ,Region.binds]at hp
   repeat(obtain⟨c_,hp⟩:=hp;subst c_)
   try subst hp
   simp only[Le,pG,oV,cond_true,cond_false]
   repeat'(first
     |exact aZ _ ⟨eE,eg,z,c4,hc,rfl⟩
     |(refine b9 ?_)
     |(refine de ?_)
     |(obtain rfl:=ob (hcl 3 4 _ rfl (by decide) rfl);obtain rfl:=ob (hcl 3 5 _ rfl (by decide) rfl);simp only[cond_false];refine ae.inl (Lf bs hm eE eg x tQ (.box I.bH) (by simp[rok,a6,vok]) _ (by simp[a6,vok,Bq]) _ c4 fun dQ aj fe a3=>?_);simp only[go_sem,ep];exact aZ _ ⟨_,_,fe,‹_›,trivial,rfl⟩)
     |simp only[go_sem,bf,bn]))
 rintro _ ⟨g_,aD,z,l3,hc,rfl⟩;simp only[Le,List.replicate,pG,oV,cond_true];simp only[go_sem];refine⟨_,⟨x,z,bz,rfl⟩,?_⟩;simp only[go_sem];simp[outOA]
def Lg(bs:List Int)(x:I)(i:Nat)(h z:Int)(S:List Bool):St:=⟨[.d (.sl 1 (bs.map eU8)),.J,.ptr 0 0 0,(bif S.getD 5 false then .d (.int .i64 z)else .d (.int .i64 0)),.ptr 1 0 0,.ptr 4 0 0,.d (.sl 1 (bs.map eU8)),.ptr 1 0 0,.ptr 1 0 0,.agg (I.vc x (.sl 2 0 x.streams.length) (.sl 3 0 x.packets.length)),(bif S.getD 0 false then .agg (I.vc x (.sl 2 0 x.streams.length) (.sl 3 0 x.packets.length))else .J),(bif S.getD 1 false then .ptr 1 0 0 else .J),(bif S.getD 2 false then .sl 5 0 6 else .J),(bif S.getD 3 false then .d (.int .i64 z)else .J)],[(bif S.getD 4 false then .box (I.vc x (.sl 2 0 x.streams.length) (.sl 3 0 x.packets.length))else .box I.bH),cE bs i h,.ai 39 (x.streams.map aa.enc) true,.ai 2 (x.packets.map aC.enc) true,.box (I.vc x (.sl 2 0 x.streams.length) (.sl 3 0 x.packets.length))]++(bif S.getD 2 false then [.ai 1 ([-1,0,1,9,1000,1001].map aW) true]else [])⟩
set_option maxHeartbeats 8000000 in
theorem YN(bs:List Int):tP Tryz.prog 28 [.one (.sl 1 (bs.map eU8))] (fun rs=>∃(x:I) (k:Int),tE x∧rs=[.agg (I.enc x),.one (.int .i64 k)]):=by
 refine Af Tryz.func28 rfl Tryz.call28 hZ (.d (.sl 1 (bs.map eU8))::List.replicate 13 .J) rfl [.cell 2 37,.tmp 3] rfl ?_;intro ok;have hm:=fj ok;simp only[List.replicate];simp only[go_sem];refine ae.inl (BM bs hm [eP] _ (by simp[eP,roks,rok,a6,vok]) (by simp[a6,vok]) _ fun h1=>?_);simp only[go_sem,bf,bn];refine ae.inl (Dj bs hm 0 h1 eP (by simp[eP,rok,a6,vok]) _ (by simp[a6,vok]) _ (by omega) fun dk h2 x bR bz=>?_);have hI:=bz.nG;have tQ:x.streams.length≤1000:=by have:=hI.jb;omega
 simp only[go_sem,gB,gP,eP,bf,bn];refine hH _ (iT (fun S σ=>∃i h z,i≤bs.length∧True∧σ=Lg bs x i h z S) (N:=6) rfl rfl ⟨dk,h2,0,‹_›,by first|trivial|simp,rfl⟩ ?_) ?_
 ·repeat'(first|exact iU|refine iV ?_ ?_)
  all_goals(
   rintro S σ F hl aX hp hcl ⟨eE,eg,z,c4,hc,rfl⟩ aZ;obtain⟨gq,cU,c9,cq,dd,iD,rfl⟩:=QK hl;simp only[List.getElem?_cons_succ,List.getElem?_cons_zero,uB]at aX;subst aX;simp[gQ,Region.binds]at hp
   repeat(obtain⟨c_,hp⟩:=hp;subst c_)
   try subst hp
   simp only[Lg,pG,oV,cond_true,cond_false,bf,bn,List.append_nil]
   repeat'(first
     |exact aZ _ ⟨eE,eg,z,c4,hc,rfl⟩
     |(refine b9 ?_)
     |(refine de ?_)
     |(obtain rfl:=ob (hcl 3 4 _ rfl (by decide) rfl);obtain rfl:=ob (hcl 3 5 _ rfl (by decide) rfl);simp only[cond_false];refine ae.inl (zQ bs hm eE eg [.box I.bH] [.ai 39 (x.streams.map aa.enc) true,.ai 2 (x.packets.map aC.enc) true,.box (I.vc x (.sl 2 0 x.streams.length) (.sl 3 0 x.packets.length)),.ai 1 ([-1,0,1,9,1000,1001].map aW) true] _ 3 [-1,0,1,9,1000,1001] rfl (by decide) (by decide) _ c4 fun dQ aj fe a3 dq=>?_);simp only[go_sem,ep,bf,bn];exact aZ _ ⟨_,_,fe,‹_›,trivial,rfl⟩)
     |simp only[go_sem,bf,bn]))
 rintro _ ⟨g_,aD,z,l3,hc,rfl⟩;simp only[Lg,List.replicate,pG,oV,cond_true,bf,bn];simp only[go_sem];refine⟨_,⟨x,z,bz,rfl⟩,?_⟩;simp only[go_sem];simp[outOA]
def Lh(bs:List Int)(x:I)(id:Int)(i:Nat)(h z:Int)(S:List Bool):St:=⟨[.d (.sl 1 (bs.map eU8)),.J,.ptr 0 0 0,(bif S.getD 6 false then .d (.int .i64 id)else .d (.int .i64 0)),(bif S.getD 7 false then .d (.int .i64 (IntKind.i64.wrap (z-1)))else .d (.int .i64 0)),.ptr 1 0 0,.ptr 4 0 0,.d (.int .i64 id),.d (.sl 1 (bs.map eU8)),.ptr 1 0 0,.ptr 1 0 0,.agg (I.vc x (.sl 2 0 x.streams.length) (.sl 3 0 x.packets.length)),.ptr 1 0 0,.agg (I.vc x (.sl 2 0 x.streams.length) (.sl 3 0 x.packets.length)),.d (.int .i64 id),(bif S.getD 0 false then .agg (I.vc x (.sl 2 0 x.streams.length) (.sl 3 0 x.packets.length))else .J),(bif S.getD 1 false then .d (.int .i64 id)else .J),(bif S.getD 2 false then .ptr 1 0 0 else .J),(bif S.getD 3 false then .d (.int .i64 z)else .J),(bif S.getD 4 false then .d (.int .i64 (IntKind.i64.wrap (z-1)))else .J)],[(bif S.getD 5 false then .box (I.vc x (.sl 2 0 x.streams.length) (.sl 3 0 x.packets.length))else .box I.bH),cE bs i h,.ai 39 (x.streams.map aa.enc) true,.ai 2 (x.packets.map aC.enc) true,.box (I.vc x (.sl 2 0 x.streams.length) (.sl 3 0 x.packets.length))]⟩
set_option maxHeartbeats 8000000 in
theorem QL(bs:List Int):tP Tryz.prog 20 [.one (.sl 1 (bs.map eU8))] (fun rs=>∃(x:I) (id k:Int),tE x∧rs=[.agg (I.enc x),.one (.int .i64 id),.one (.int .i64 k)]):=by
 refine Af Tryz.func20 rfl Tryz.call20 hZ (.d (.sl 1 (bs.map eU8))::List.replicate 19 .J) rfl [.cell 2 37,.tmp 3,.tmp 4] rfl ?_;intro ok;have hm:=fj ok;simp only[List.replicate];simp only[go_sem];refine ae.inl (BM bs hm [eP] _ (by simp[eP,roks,rok,a6,vok]) (by simp[a6,vok]) _ fun h1=>?_);simp only[go_sem,bf,bn];refine ae.inl (Dj bs hm 0 h1 eP (by simp[eP,rok,a6,vok]) _ (by simp[a6,vok]) _ (by omega) fun dk h2 x bR bz=>?_);have hI:=bz.nG;have tQ:x.streams.length≤1000:=by have:=hI.jb;omega
 simp only[go_sem,gB,gP,eP,lM,bf,bn];refine ae.inl (Lf bs hm dk h2 x tQ (.box I.bH) (by simp[rok,a6,vok]) _ (by simp[a6,vok]) _ bR fun dQ aj id a3=>?_);simp only[go_sem];refine hH _ (iT (fun S σ=>∃i h z,i≤bs.length∧True∧σ=Lh bs x id i h z S) (N:=8) rfl rfl ⟨dQ,aj,0,‹_›,by first|trivial|simp,rfl⟩ ?_) ?_
 ·repeat'(first|exact iU|refine iV ?_ ?_)
  all_goals(
   rintro S σ F hl aX hp hcl ⟨eE,eg,z,c4,hc,rfl⟩ aZ;obtain⟨gq,cU,c9,cq,dd,iD,jI,j4,rfl⟩:=YK hl;simp only[List.getElem?_cons_succ,List.getElem?_cons_zero,uB]at aX;subst aX;simp[gQ,Region.binds]at hp
   repeat(obtain⟨c_,hp⟩:=hp;subst c_)
   try subst hp
   simp only[Lh,pG,oV,cond_true,cond_false]
   repeat'(first
     |exact aZ _ ⟨eE,eg,z,c4,hc,rfl⟩
     |(refine b9 ?_)
     |(refine de ?_)
     |(obtain rfl:=ob (hcl 3 4 _ rfl (by decide) rfl);obtain rfl:=ob (hcl 3 5 _ rfl (by decide) rfl);obtain rfl:=ob (hcl 5 6 _ rfl (by decide) rfl);obtain rfl:=ob (hcl 4 7 _ rfl (by decide) rfl);simp only[cond_false];refine ae.inl (j0 bs hm eE eg [.box I.bH] [.ai 39 (x.streams.map aa.enc) true,.ai 2 (x.packets.map aC.enc) true,.box (I.vc x (.sl 2 0 x.streams.length) (.sl 3 0 x.packets.length))] _ 5 (by omega) (by omega) _ c4 fun dQ aj fe a3 dq ja=>?_);simp only[go_sem,ep,bf,bn];exact aZ _ ⟨_,_,fe,‹_›,trivial,rfl⟩)
     |simp only[go_sem,bf,bn]))
 rintro _ ⟨g_,aD,z,l3,hc,rfl⟩;simp only[Lh,List.replicate,pG,oV,cond_true];simp only[go_sem];refine⟨_,⟨x,id,IntKind.i64.wrap (z-1),bz,rfl⟩,?_⟩;simp only[go_sem];simp[outOA]
def Li(bs:List Int)(x:I)(id:Int)(i:Nat)(h:Int)(z:List UInt8)(S:List Bool):St:=⟨[.d (.sl 1 (bs.map eU8)),.J,.ptr 0 0 0,(bif S.getD 5 false then .d (.int .i64 id)else .d (.int .i64 0)),(bif S.getD 6 false then .d (.str z)else .d (.str [])),.ptr 1 0 0,.ptr 4 0 0,.d (.int .i64 id),.d (.sl 1 (bs.map eU8)),.ptr 1 0 0,.ptr 1 0 0,.agg (I.vc x (.sl 2 0 x.streams.length) (.sl 3 0 x.packets.length)),.ptr 1 0 0,.agg (I.vc x (.sl 2 0 x.streams.length) (.sl 3 0 x.packets.length)),.d (.int .i64 id),(bif S.getD 0 false then .agg (I.vc x (.sl 2 0 x.streams.length) (.sl 3 0 x.packets.length))else .J),(bif S.getD 1 false then .d (.int .i64 id)else .J),(bif S.getD 2 false then .ptr 1 0 0 else .J),(bif S.getD 3 false then .d (.str z)else .J)],[(bif S.getD 4 false then .box (I.vc x (.sl 2 0 x.streams.length) (.sl 3 0 x.packets.length))else .box I.bH),cE bs i h,.ai 39 (x.streams.map aa.enc) true,.ai 2 (x.packets.map aC.enc) true,.box (I.vc x (.sl 2 0 x.streams.length) (.sl 3 0 x.packets.length))]⟩
set_option maxHeartbeats 8000000 in
theorem YO(bs:List Int):tP Tryz.prog 12 [.one (.sl 1 (bs.map eU8))] (fun rs=>∃(x:I) (id:Int) (d:List UInt8),tE x∧d.length≤12∧rs=[.agg (I.enc x),.one (.int .i64 id),.one (.str d)]):=by
 refine Af Tryz.func12 rfl Tryz.call12 hZ (.d (.sl 1 (bs.map eU8))::List.replicate 18 .J) rfl [.cell 2 37,.tmp 3,.tmp 4] rfl ?_;intro ok;have hm:=fj ok;simp only[List.replicate];simp only[go_sem];refine ae.inl (BM bs hm [eP] _ (by simp[eP,roks,rok,a6,vok]) (by simp[a6,vok]) _ fun h1=>?_);simp only[go_sem,bf,bn];refine ae.inl (Dj bs hm 0 h1 eP (by simp[eP,rok,a6,vok]) _ (by simp[a6,vok]) _ (by omega) fun dk h2 x bR bz=>?_);have hI:=bz.nG;have tQ:x.streams.length≤1000:=by have:=hI.jb;omega
 simp only[go_sem,gB,gP,eP,lM,bf,bn];refine ae.inl (Lf bs hm dk h2 x tQ (.box I.bH) (by simp[rok,a6,vok]) _ (by simp[a6,vok]) _ bR fun dQ aj id a3=>?_);simp only[go_sem];refine hH _ (iT (fun S σ=>∃i h z,i≤bs.length∧z.length≤12∧σ=Li bs x id i h z S) (N:=7) rfl rfl ⟨dQ,aj,[],‹_›,by first|trivial|simp,rfl⟩ ?_) ?_
 ·repeat'(first|exact iU|refine iV ?_ ?_)
  all_goals(
   rintro S σ F hl aX hp hcl ⟨eE,eg,z,c4,hc,rfl⟩ aZ;obtain⟨gq,cU,c9,cq,dd,iD,jI,rfl⟩:=YJ hl;simp only[List.getElem?_cons_succ,List.getElem?_cons_zero,uB]at aX;subst aX;simp[gQ,Region.binds]at hp
   repeat(obtain⟨c_,hp⟩:=hp;subst c_)
   try subst hp
   simp only[Li,pG,oV,cond_true,cond_false]
   repeat'(first
     |exact aZ _ ⟨eE,eg,z,c4,hc,rfl⟩
     |(refine b9 ?_)
     |(refine de ?_)
     |(obtain rfl:=ob (hcl 3 4 _ rfl (by decide) rfl);obtain rfl:=ob (hcl 4 5 _ rfl (by decide) rfl);obtain rfl:=ob (hcl 3 6 _ rfl (by decide) rfl);simp only[cond_false];refine ae.inl (GV bs hm eE eg [.box I.bH] [.ai 39 (x.streams.map aa.enc) true,.ai 2 (x.packets.map aC.enc) true,.box (I.vc x (.sl 2 0 x.streams.length) (.sl 3 0 x.packets.length))] _ 12 (by simp[roks,rok,a6,vok]) (by simp[a6,vok,Bq]) (by omega) _ c4 fun dQ aj fe a3 g3=>?_);simp only[go_sem,ep,bf,bn];exact aZ _ ⟨_,_,fe,‹_›,by assumption,rfl⟩)
     |simp only[go_sem,bf,bn]))
 rintro _ ⟨g_,aD,z,l3,hc,rfl⟩;simp only[Li,List.replicate,pG,oV,cond_true];simp only[go_sem];refine⟨_,⟨x,id,z,bz,hc,rfl⟩,?_⟩;simp only[go_sem];simp[outOA]
set_option maxRecDepth 100000
theorem YP:∀x∈([[117,61,53],[117,61,48],[117,61,56],[117,61,55,55],[105],[32,105,61,63,48],[105,61,63,49,32],[120],[117,32,61,32,49],[],[73],[117,61,55,59,97]]:List (List UInt8)),x.length≤5:=by decide
theorem YQ:∀x∈([[44],[44,32],[59]]:List (List UInt8)),x.length≤2:=by decide
set_option maxHeartbeats 8000000 in
theorem YR(bs:List Int):tP Tryz.prog 75 [.one (.sl 1 (bs.map eU8))] (fun rs=>∃t:List UInt8,t.length≤100∧rs=[.one (.str t)]):=by
 refine Af Tryz.func75 rfl Tryz.call75 hZ (.d (.sl 1 (bs.map eU8))::List.replicate 26 .J) rfl [.tmp 2] rfl ?_;intro ok;have hm:=fj ok;simp only[List.replicate];simp only[go_sem];refine ae.inl (BM bs hm [] _ trivial (by simp[a6,vok]) _ fun h1=>?_);simp only[go_sem,bn,List.length_nil];refine ae.inl (j0 bs hm 0 h1 [] [] _ 4 (by omega) (by omega) _ (by omega) fun eo h1 x1 bD dx c1=>?_);obtain⟨k,rfl⟩:=Int.eq_ofNat_of_zero_le dx;simp only[go_sem,bn,List.length_nil];refine b5.intro (α:=Nat×Int×Nat×List UInt8) (fun y=>⟨(.d (.sl 1 (bs.map eU8))::.J::.d (.str [])::.ptr 0 0 0::.d (.str y.2.2.2)::.d (.int .i64 y.2.2.1)::jn 21 []),[cE bs y.1 y.2.1]⟩)
  (fun y=>y.2.2.1) (fun y=>y.1≤bs.length∧y.2.2.2.length+10 * y.2.2.1≤100) (eo,h1,k,[]) (List.range 1) ⟨bD,by simp only[List.length_nil];omega⟩ ?_ ?_
 ·exact QA (pre:=[]) (rest:=[]) ⟨trivial,trivial⟩ (by simp[a6]) (by simp[vsees,vsee,ren]) (by simp[a6,vok])
 ·rintro⟨dk,h2,n,s⟩ ⟨gD,hs⟩;simp only at hs;simp only[go_sem];refine bp (fun q=>?_) (fun q=>?_)
  ·have hn:=ch q;simp only[go_sem,bf,bn];refine ae.inl (GU bs hm dk h2 [] [.ai 1 (([[117,61,53],[117,61,48],[117,61,56],[117,61,55,55],[105],[32,105,61,63,48],[105,61,63,49,32],[120],[117,32,61,32,49],[],[73],[117,61,55,59,97]]:List (List UInt8)).map eS) true] _ 0 [[117,61,53],[117,61,48],[117,61,56],[117,61,55,55],[105],[32,105,61,63,48],[105,61,63,49,32],[120],[117,32,61,32,49],[],[73],[117,61,55,59,97]] rfl (by decide) (by decide) _ gD fun dQ aj x a3 dq=>?_);have hl:=YP x dq;simp only[go_sem,bn];refine⟨by simp only[maxLen];omega,?_⟩;refine bp (fun bg=>?_) (fun bg=>?_)
   ·simp only[go_sem,bf,bn];refine ae.inl (GU bs hm dQ aj [] [.ai 1 (([[117,61,53],[117,61,48],[117,61,56],[117,61,55,55],[105],[32,105,61,63,48],[105,61,63,49,32],[120],[117,32,61,32,49],[],[73],[117,61,55,59,97]]:List (List UInt8)).map eS) true,.ai 1 (([[44],[44,32],[59]]:List (List UInt8)).map eS) true] _ 1 [[44],[44,32],[59]] rfl (by decide) (by decide) _ a3 fun g_ aD DO a4 oA=>?_);have YS:=YQ DO oA;simp only[go_sem,bn];refine⟨by simp only[maxLen];omega,?_⟩;rw[bC (n:=(n:Int)-1) (by omega) (by omega)];refine bm.intro (g_,aD,n-1,(s++x)++DO) (List.range 1) ⟨a4,by simp only[List.length_append];omega⟩ (show n-1<n by omega) ?_;have e:((n-1:Nat):Int)=(n:Int)-1:=by omega
    simp only[e];exact Ac (pre:=[]) (rest:=[]) ⟨trivial,trivial⟩ (by simp[a6]) (by simp[vsees,vsee,ren]) (by simp[a6,vok])
   ·simp only[go_sem];rw[bC (n:=(n:Int)-1) (by omega) (by omega)];refine bm.intro (dQ,aj,n-1,s++x) (List.range 1) ⟨a3,by simp only[List.length_append];omega⟩ (show n-1<n by omega) ?_;have e:((n-1:Nat):Int)=(n:Int)-1:=by omega
    simp only[e];exact Ac (pre:=[]) (rest:=[]) ⟨trivial,trivial⟩ (by simp[a6]) (by simp[vsees,vsee,ren]) (by simp[a6,vok])
  ·simp only[go_sem];refine⟨_,⟨s,by omega,rfl⟩,?_⟩;simp only[go_sem]
set_option maxRecDepth 100000
theorem YT{S:List Bool}(h:S.length=7):∃a0 bD bR a3 a4 a5 ec,S=[a0,bD,bR,a3,a4,a5,ec]:=by
 match S,h with|[a0,bD,bR,a3,a4,a5,ec],_=>exact⟨a0,bD,bR,a3,a4,a5,ec,rfl⟩
def Lj(bs:List Int)(x:I)(id k:Int)(z:List UInt8)(S:List Bool):St:=⟨[.d (.sl 1 (bs.map eU8)),.J,.ptr 0 0 0,(bif S.getD 5 false then .d (.int .i64 id)else .d (.int .i64 0)),(bif S.getD 6 false then .d (.str z)else .d (.str [])),.ptr 3 0 0,.d (.int .i64 id),.d (.int .i64 k),.c6 [.agg (I.vc x (.sl 1 0 x.streams.length) (.sl 2 0 x.packets.length)),.d (.int .i64 id),.d (.int .i64 k)],.d (.sl 1 (bs.map eU8)),.c6 [.agg (I.vc x (.sl 1 0 x.streams.length) (.sl 2 0 x.packets.length)),.d (.int .i64 id),.d (.int .i64 k)],.agg (I.vc x (.sl 1 0 x.streams.length) (.sl 2 0 x.packets.length)),.d (.int .i64 id),.d (.int .i64 k),(bif S.getD 0 false then .agg (I.vc x (.sl 1 0 x.streams.length) (.sl 2 0 x.packets.length))else .J),(bif S.getD 1 false then .d (.int .i64 id)else .J),(bif S.getD 2 false then .d (.sl 1 (bs.map eU8))else .J),(bif S.getD 3 false then .d (.str z)else .J)],[(bif S.getD 4 false then .box (I.vc x (.sl 1 0 x.streams.length) (.sl 2 0 x.packets.length))else .box I.bH),.ai 39 (x.streams.map aa.enc) true,.ai 2 (x.packets.map aC.enc) true,.box (I.vc x (.sl 1 0 x.streams.length) (.sl 2 0 x.packets.length))]⟩
set_option maxHeartbeats 8000000 in
theorem YU(bs:List Int):tP Tryz.prog 25 [.one (.sl 1 (bs.map eU8))] (fun rs=>∃(x:I) (id:Int) (t:List UInt8),tE x∧t.length≤100∧rs=[.agg (I.enc x),.one (.int .i64 id),.one (.str t)]):=by
 refine Af Tryz.func25 rfl Tryz.call25 hZ (.d (.sl 1 (bs.map eU8))::List.replicate 17 .J) rfl [.cell 2 37,.tmp 3,.tmp 4] rfl ?_;intro ok;simp only[List.replicate];simp only[go_sem];refine ae.j' (QL bs) rfl ?_;rintro _ ⟨x,id,k,bz,rfl⟩;simp only[go_sem,ep,lM,bf,bn];refine hH _ (iT (fun S σ=>∃z,z.length≤100∧σ=Lj bs x id k z S) (N:=7) rfl rfl ⟨[],by simp,rfl⟩ ?_) ?_
 ·repeat'(first|exact iU|refine iV ?_ ?_)
  all_goals(
   rintro S σ F hl aX hp hcl ⟨z,hc,rfl⟩ aZ;obtain⟨gq,cU,c9,cq,dd,iD,jI,rfl⟩:=YT hl;simp only[List.getElem?_cons_succ,List.getElem?_cons_zero,uB]at aX;subst aX;simp[gQ,Region.binds]at hp
   repeat(obtain⟨c_,hp⟩:=hp;subst c_)
   try subst hp
   simp only[Lj,pG,oV,cond_true,cond_false]
   repeat'(first
     |exact aZ _ ⟨z,hc,rfl⟩
     |(refine b9 ?_)
     |(refine de ?_)
     |(obtain rfl:=ob (hcl 3 4 _ rfl (by decide) rfl);obtain rfl:=ob (hcl 4 5 _ rfl (by decide) rfl);obtain rfl:=ob (hcl 3 6 _ rfl (by decide) rfl);simp only[cond_false];refine ae.j' (YR bs) rfl ?_;rintro _ ⟨fe,G1,rfl⟩;simp only[go_sem,ep,bn];exact aZ _ ⟨fe,by assumption,rfl⟩)
     |simp only[go_sem,bf,bn]))
 rintro _ ⟨z,hc,rfl⟩;simp only[Lj,List.replicate,pG,oV,cond_true];simp only[go_sem];refine⟨_,⟨x,id,z,bz,hc,rfl⟩,?_⟩;simp only[go_sem];simp[outOA]
def insA(s:aa):List aa→List aa
 |[]=>[s]
 |x::l=>if s.id<x.id then s::x::l else x::insA s l
theorem Vp(s:aa):∀(l jF:List aa),l.foldl (iH s) (jF,true)=(jF++l,true)
 |[],jF=>by simp
 |x::l,jF=>by
  have e:iH s (jF,true) x=(jF++[x],true):=rfl;rw[List.foldl_cons,e,Vp s l];simp
theorem Vq(s:aa):∀(l jF:List aa),(if(l.foldl (iH s) (jF,false)).2 then(l.foldl (iH s) (jF,false)).1 else(l.foldl (iH s) (jF,false)).1++[s])=jF++insA s l
 |[],jF=>by simp[insA]
 |x::l,jF=>by
  rw[List.foldl_cons];by_cases h:s.id<x.id
  ·have e:iH s (jF,false) x=(jF++[s,x],true):=by simp[iH,h]
   rw[e,Vp];simp[insA,h]
  ·have e:iH s (jF,false) x=(jF++[x],false):=by simp[iH,h]
   rw[e,Vq s l (jF++[x])];simp[insA,h]
theorem Of{l:List aa}{s:aa}(h:fIx (ed s.id) l=-1):putS l s=insA s l:=by
 rw[Vr h];have:=Vq s l []
 rwa [bn]at this
theorem C2{s x:aa}:∀{l:List aa},x∈insA s l↔x=s∨x∈l
 |[]=>by simp[insA]
 |y::l=>by
  unfold insA;split
  ·simp
  ·rw[List.mem_cons,C2,List.mem_cons];constructor
   ·rintro(h|h|h)<;>simp[h]
   ·rintro(h|h|h)<;>simp[h]
theorem Vs{s:aa}:∀{l:List aa},(l.map (fun x=>x.id)).Pairwise (·<·)→s.id∉l.map (fun x=>x.id)→((insA s l).map (fun x=>x.id)).Pairwise (·<·)
 |[],_,_=>by simp[insA]
 |y::l,h,hn=>by
  rw[List.map_cons,List.pairwise_cons]at h;rw[List.map_cons,List.mem_cons,not_or]at hn;unfold insA;split
  ·rename_i hlt;rw[List.map_cons,List.pairwise_cons];refine⟨fun b hb=>?_,by rw[List.map_cons,List.pairwise_cons];exact h⟩;rw[List.map_cons,List.mem_cons]at hb;rcases hb with rfl|hb
   ·exact hlt
   ·have:=h.1 b hb;omega
  ·rename_i hlt;rw[List.map_cons,List.pairwise_cons];refine⟨fun b hb=>?_,Vs h.2 hn.2⟩;obtain⟨x,hx,rfl⟩:=List.mem_map.1 hb;rcases C2.1 hx with rfl|hx
   ·omega
   ·exact h.1 _ (List.mem_map.2 ⟨x,hx,rfl⟩)
theorem C3{l:List aa}{id:Int}:fIx (ed id) l=-1↔id∉l.map (fun x=>x.id):=by
 constructor
 ·intro h hm;obtain⟨x,hx,e⟩:=List.mem_map.1 hm;rcases ox (ed id) l with ⟨_,h2⟩|⟨j,ak,h1,_⟩
  ·rw[List.find?_eq_none]at h2;exact h2 x hx (by simpa [ed]using e)
  ·omega
 ·intro h;rcases ox (ed id) l with ⟨h1,_⟩|⟨j,ak,_,_,aj⟩
  ·exact h1
  ·exact absurd (List.mem_map.2 ⟨l[j],List.getElem_mem ak,by simpa [ed]using aj⟩) h
theorem Og{l:List aa}{id:Int}:(strOf l id).2=true↔id∈l.map (fun x=>x.id):=by
 constructor
 ·intro h;obtain⟨h1,h2⟩:=CR h;exact List.mem_map.2 ⟨_,h2,h1⟩
 ·intro h;obtain⟨x,hx,rfl⟩:=List.mem_map.1 h;exact IF hx
theorem Vt{l:List aa}{s:aa}(hf:(strOf l s.id).2=true):(putS l s).map (fun x=>x.id)=l.map (fun x=>x.id):=by
 obtain⟨h1,h2⟩:=CR hf;rcases ox (ed s.id) l with ⟨aj,_⟩|⟨i,hi,aj,_,aD⟩
 ·exact absurd (Og.1 hf) (C3.1 aj)
 ·rw[Dx aj,List.map_set];have:l[i].id=s.id:=by simpa [ed]using aD
  rw[←this,←List.getElem_map (f:=fun x:aa=>x.id) (h:=by simpa using hi)];exact List.set_getElem_self _
theorem A_{n:Int}:bJ n=true↔0≤n∧n≤4611686018427387903:=by simp[bJ,bN]
theorem Vu{m k:Nat}{x y:Int}(hx:x=m)(hy:y=k)(hm:m<2^64)(hk:k<2^64):bitI .and .i64 x y=IntKind.i64.wrap ((Nat.land m k:Nat):Int):=by
 subst hx hy;unfold bitI;simp only
 congr 1
 have ag:BitVec.ofInt IntKind.i64.bits (m:Int)=BitVec.ofNat 64 m:=by rw[BitVec.ofInt_natCast];rfl
 have e2:BitVec.ofInt IntKind.i64.bits (k:Int)=BitVec.ofNat 64 k:=by rw[BitVec.ofInt_natCast];rfl
 rw[ag,e2];have aj:(HAnd.hAnd (BitVec.ofNat 64 m) (BitVec.ofNat 64 k)).toNat=Nat.land m k:=by
  rw[BitVec.toNat_and,BitVec.toNat_ofNat,BitVec.toNat_ofNat,Nat.mod_eq_of_lt hm,Nat.mod_eq_of_lt hk];rfl
 exact congrArg Int.ofNat aj
theorem ae8{n:Int}(h:bJ n=true):bitI .and .i64 n 1=n % 2:=by
 have hq:=A_.1 h;obtain⟨m,rfl⟩:=Int.eq_ofNat_of_zero_le hq.1;have:=Vu (m:=m) (k:=1) rfl rfl (by omega) (by omega);rw[show Nat.land m 1=m % 2 from Nat.and_one_is_mod m]at this;rw[show(1:Int)=((1:Nat):Int)from rfl,this,bC (by omega) (by omega)];omega
theorem ae9{n:Int}(h:bJ n=true):bitI .and .i64 n 2=2 * (n / 2 % 2):=by
 have hq:=A_.1 h;obtain⟨m,rfl⟩:=Int.eq_ofNat_of_zero_le hq.1;have:=Vu (m:=m) (k:=2) rfl rfl (by omega) (by omega);have e:Nat.land m 2=2 * (m / 2 % 2):=by
  have h1:(HAnd.hAnd m 2) / 2=m / 2 % 2:=by rw[Nat.and_div_two];exact Nat.and_one_is_mod _
  have h2:(HAnd.hAnd m 2) % 2=0:=by
   rcases Nat.mod_two_eq_zero_or_one (HAnd.hAnd m 2)with h|h
   ·exact h
   ·exact absurd (Nat.and_mod_two_eq_one.1 h).2 (by decide)
  show HAnd.hAnd m 2=_
  omega
 rw[e]at this;rw[show(2:Int)=((2:Nat):Int)from rfl,this,bC (by omega) (by omega)];omega
theorem afa{n:Int}(h:bJ n=true):A8 n=decide (n % 2=1):=by unfold A8;rw[h,ae8 h];rfl
theorem Vv{n:Int}(h:bJ n=true):k7 n=decide (n / 2 % 2=1):=by
 unfold k7;rw[h,ae9 h,Bool.true_and];exact decide_eq_decide.2 (by omega)
theorem Vw{v:Bool}{n:Int}(h:bJ n=true):lB v n=decide (decide (n % 2=1)=v):=by unfold lB;rw[afa h,h];rfl
theorem afb{n:Int}(h:bJ n=true):fD n=n / 4:=by
 unfold fD;rw[h,if_pos rfl];exact Int.fdiv_eq_ediv_of_nonneg _ (by omega)
def fV(b:Bool):Int:=if b then 1 else 0
theorem Ve(b:Bool):0≤fV b∧fV b≤1:=by unfold fV;split<;>omega
theorem Vd{n:Int}(h0:0≤n)(h1:n≤1152921504606846975)(s u:Bool):mn n s u=4 * n+fV s+2 * fV u:=by
 unfold mn bN;rw[bc h0,bc h1]
 cases s<;>cases u<;>simp only[Bool.and_self,if_true,if_false,Bool.false_eq_true,fV,Int.add_zero,Int.mul_zero,Int.mul_one]
 ·rw[bC]<;>omega
 ·rw[bC (n:=n * 4),bC]<;>omega
 ·rw[bC (n:=n * 4),bC]<;>omega
 ·rw[bC (n:=n * 4) (by omega) (by omega),bC (n:=n * 4+1) (by omega) (by omega),bC]<;>omega
structure oY(v:Bool)(L:List Int)(o a:Bool→Int):Prop where
 q:∀n∈L,bJ n=true
 own:∀n∈L,decide (n % 2=1)=v→n / 4<o (decide (n / 2 % 2=1))
 peer:∀n∈L,decide (n % 2=1)≠v→n / 4<a (decide (n / 2 % 2=1))
 all:∀(u:Bool) (j:Int),0≤j→j<a u→4 * j+fV (!v)+2 * fV u∈L
 asc:L.Pairwise (·<·)
 M4:∀u,0≤a u
def iB(c:I)(u:Bool):Int:=(gS c u).opened
def oZ(c:I)(u:Bool):du:=if u then c.dI else c.dH
def ko(c:I)(u:Bool):Int:=(oZ c u).seen
def vA(c:I):List Int:=c.streams.map fun x=>x.id
def mh(c:I):Prop:=oY c.cr (vA c) (iB c) (ko c)
structure dK(c d:I):Prop where
 i:vA d=vA c
 s:d.cr=c.cr
 mc:d.eC.opened=c.eC.opened
 Fv:d.eB.opened=c.eB.opened
 CJ:d.dH.seen=c.dH.seen
 Fw:d.dI.seen=c.dI.seen
theorem dK.refl(c:I):dK c c:=⟨rfl,rfl,rfl,rfl,rfl,rfl⟩
theorem dK.trans{c d e:I}(h:dK c d)(k:dK d e):dK c e:=⟨k.i.trans h.i,k.s.trans h.s,k.mc.trans h.mc,k.Fv.trans h.Fv,k.CJ.trans h.CJ,k.Fw.trans h.Fw⟩
theorem mh.mK{c d:I}(h:mh c)(k:dK c d):mh d:=by
 have ag:iB d=iB c:=by funext u;unfold iB gS;split;exact k.Fv;exact k.mc
 have e2:ko d=ko c:=by funext u;unfold ko oZ;split;exact k.Fw;exact k.CJ
 unfold mh;rw[k.i,k.s,ag,e2];exact h
theorem zA{c:I}{id:Int}{s:aa}(hf:(strOf c.streams id).2=true)(hi:s.id=(aE c id).id):dK c (la c s):=
 ⟨Vt (by rw[hi,oT hf];exact hf),rfl,rfl,rfl,rfl,rfl⟩
theorem Vx(a:du):(i_ a).seen=a.seen:=by unfold i_;split<;>rfl
theorem afc(c:I)(s:aa):dK c (xo c s):=by
 unfold xo
 repeat' split
 all_goals first|exact dK.refl c|exact⟨rfl,rfl,rfl,rfl,rfl,Vx _⟩|exact⟨rfl,rfl,rfl,rfl,Vx _,rfl⟩
theorem Oh{c:I}{id:Int}{s:aa}(hf:(strOf c.streams id).2=true)(hi:s.id=(aE c id).id):dK c (dR c s):=by
 obtain⟨dy,eK,eL⟩:=NU c s;have h1:=afc c s;refine⟨?_,h1.s,h1.mc,h1.Fv,h1.CJ,h1.Fw⟩;have e:(tM c s).id=id:=by rw[eL,hi,oT hf]
 exact Vt (by rw[e];exact hf)
theorem afd(a:du):(w2 a).seen=a.seen:=by unfold w2;split<;>rfl
theorem Vy(a:du)(t:Bool):(jR a t).1.seen=a.seen:=by unfold jR;split;exact afd a;rfl
theorem Vz(a:fz)(l:Int):(w3 a l).opened=a.opened:=by unfold w3;split<;>rfl
theorem afe(c:I)(f:aq):dK c (lb c f):=by
 unfold lb
 repeat' split
 all_goals first
  |exact⟨rfl,rfl,rfl,rfl,rfl,rfl⟩
  |exact⟨rfl,rfl,rfl,rfl,rfl,Vy _ _⟩
  |exact⟨rfl,rfl,rfl,rfl,Vy _ _,rfl⟩
  |(rename_i hf;exact zA hf (G' c (aE c f.stream) f.kind).2.2)
theorem aff(c:I)(id:Int)(p:b2):dK c (Ap c id p):=by
 unfold Ap;split
 ·rename_i hok;have h:=zA (s:=u5 (aE c id) p) (UF hok) rfl;exact⟨h.i,rfl,rfl,rfl,rfl,rfl⟩
 ·exact dK.refl c
theorem afg{c:I}{id:Int}(hf:(strOf c.streams id).2=true):dK c (Hf c id):=by
 have h:=zA (s:=xC (aE c id)) hf rfl;exact⟨h.i,rfl,rfl,rfl,rfl,rfl⟩
theorem Oi:∀(n:Nat) (q:nP),dK q.x (fillGo n q).x
 |0,q=>dK.refl _
 |n+1,q=>by
  unfold fillGo;split
  ·exact dK.refl _
  ·rename_i h0;split
   ·split
    ·exact(aff q.x _ _).trans (Oi n (B0 q))
    ·exact dK.refl _
   ·exact(afg (LI (by omega))).trans (Oi n (Al q))
theorem VA:∀(l:List aq) (q:Ak),dK q.x (l.foldl m0 q).x
 |[],q=>dK.refl _
 |f::l,q=>by
  have h:dK q.x (m0 q f).x:=by
   unfold m0;split
   ·exact afe q.x f
   ·exact dK.refl _
  exact h.trans (VA l (m0 q f))
theorem afh(c:I)(b:Int):dK c (fE c b):=by
 have hB:dK c (ld c b).x:=(VA (je c) ⟨c,[],b⟩).trans (Oi 200 ⟨(dm c b).x,[],(dm c b).b4,(dm c b).cO⟩);unfold fE
 repeat' split
 all_goals first|exact hB|exact dK.refl c|exact⟨hB.i,hB.s,hB.mc,hB.Fv,hB.CJ,hB.Fw⟩
theorem VB(c:I)(id:Int)(d:List UInt8):dK c (eH c id d):=by
 unfold eH;split
 ·rename_i hg;exact zA (id:=id) (s:=fb (aE c id) (kz (aE c id).send d)) (wZ hg) rfl
 ·exact dK.refl c
theorem afi(c:I)(id:Int):dK c (uN c id):=by
 unfold uN;split
 ·rename_i hg;simp only[vO,cX]at hg;exact zA (id:=id) (s:=fb (aE c id) (mQ (aE c id).send)) (wZ hg.1) rfl
 ·exact dK.refl c
theorem afj(c:I)(id:Int)(t:List UInt8):dK c (jL c id t):=by
 unfold jL;split
 ·rename_i hg;exact zA (id:=id) (s:={aE c id with priority:=nk (aE c id).priority t}) (wZ hg) rfl
 ·exact dK.refl c
theorem afk(c:I)(id k:Int):dK c (jM c id k):=by
 unfold jM;split
 ·rename_i hg;simp only[o_,cX]at hg;exact Oh (id:=id) (s:=e3 (aE c id) k) (wZ hg.1) rfl
 ·exact dK.refl c
theorem Oj(c:I)(i:eh):dK c {c with dA:=i}:=⟨rfl,rfl,rfl,rfl,rfl,rfl⟩
theorem Jf{c x:I}{id:Int}{s:aa}(hx:dK c x)(hs:x.streams=c.streams)(hf:(strOf c.streams id).2=true)(hi:s.id=id):dK c (dR x s):=by
 refine hx.trans (Oh (id:=id) (by rw[hs];exact hf) ?_);unfold aE;rw[hs];exact hi.trans (CR hf).1.symm
theorem afl(c:I)(id m:Int):dK c (kR c id m):=by
 unfold kR;split
 ·rename_i hg;simp only[uv,cX]at hg;have hf:=hg.1.2;refine Jf ?_ (Np c id m).1 hf ((NZ c id m).2.2.trans (oT hf));unfold x7 uw;split
  ·exact Oj c _
  ·exact dK.refl c
 ·exact dK.refl c
theorem Ok(c:I)(s:aa)(e:Int):dK c (lp c s e):=by
 unfold lp;split
 ·exact dK.refl c
 ·exact Oj c _
theorem afm{m:Nat}{c:I}(hv:b6 m c)(f:aq)(h:xZ c f=0):dK (bV c f.stream) (zk c f):=by
 have hf:=zu hv (UI h);unfold zk;rw[if_pos h];exact Jf (Ok _ _ _) (Il _ _ _).1 hf ((UM _ f).trans (oT hf))
theorem afn{m:Nat}{c:I}(hv:b6 m c)(f:aq)(h:x8 c f=0):dK (bV c f.stream) (zm c f):=by
 have hf:=zu hv (UJ h);unfold zm;rw[if_pos h];refine Jf ?_ (Nq _ f).1 hf ((NX _ f).2.2.trans (oT hf));unfold x9 IH uw;split
 ·exact(Ok _ _ _).trans (Oj _ _)
 ·exact Ok _ _ _
theorem afo{m:Nat}{c:I}(hv:b6 m c)(f:aq)(h:x_ c f=0):dK (bV c f.stream) (zn c f):=by
 have hf:=zu hv (UK h);unfold zn;rw[if_pos h];exact Jf (dK.refl _) rfl hf ((UN _ f).trans (oT hf))
theorem afp(c:I)(f:aq):dK c (oi c f):=by
 unfold oi;split
 ·rename_i hg;simp only[CS,cX]at hg;exact Oh (id:=f.stream) hg.1 (UO _ f)
 ·exact dK.refl c
theorem afq(c:I)(f:aq):dK c (om c f):=by
 unfold om
 repeat' split
 all_goals first
  |exact⟨rfl,rfl,rfl,rfl,rfl,rfl⟩
  |(rename_i hg;simp only[CS,cX]at hg;exact zA (id:=f.stream) hg.1 (UP _ f))
theorem Ol{g:I→aq→I}(hg:∀c f,dK c (g c f)):∀(l:List aq) (c:I),dK c (l.foldl g c)
 |[],c=>dK.refl c
 |f::l,c=>(hg c f).trans (Ol hg l (g c f))
theorem afr(c:I)(n:Int):dK c (zM c n):=by
 unfold zM;split
 ·have h0:dK c (ly c n):=⟨rfl,rfl,rfl,rfl,rfl,rfl⟩;exact h0.trans (Ol afp _ (ly c n))
 ·exact dK.refl c
theorem afs(c:I)(n:Int):dK c (zO c n):=by
 unfold zO;split
 ·have h0:dK c (ly c n):=⟨rfl,rfl,rfl,rfl,rfl,rfl⟩;exact h0.trans (Ol afq _ (ly c n))
 ·exact dK.refl c
theorem oY.add{v:Bool}{l:List aa}{o a o' a':Bool→Int}{s:aa}(h:oY v (l.map fun x=>x.id) o a)(hn:s.id∉l.map fun x=>x.id)(hq:bJ s.id=true)(ax:∀u,o u≤o' u)(ha:∀u,a u≤a' u)
  (h1:decide (s.id % 2=1)=v→s.id / 4<o' (decide (s.id / 2 % 2=1))) (h2:decide (s.id % 2=1)≠v→s.id / 4<a' (decide (s.id / 2 % 2=1)))
  (aj:∀(u:Bool) (j:Int),0≤j→a u≤j→j<a' u→4 * j+fV (!v)+2 * fV u=s.id):oY v ((putS l s).map fun x=>x.id) o' a':=by
 rw[Of (C3.2 hn)];have hm:∀n,n∈(insA s l).map (fun x=>x.id)↔n=s.id∨n∈l.map fun x=>x.id:=by
  intro n;rw[List.mem_map,List.mem_map];constructor
  ·rintro⟨x,hx,rfl⟩;rcases C2.1 hx with rfl|hx
   ·exact .inl rfl
   ·exact .inr ⟨x,hx,rfl⟩
  ·rintro(rfl|⟨x,hx,rfl⟩)
   ·exact⟨s,C2.2 (.inl rfl),rfl⟩
   ·exact⟨x,C2.2 (.inr hx),rfl⟩
 refine⟨fun n hx=>?_,fun n hx hv=>?_,fun n hx hv=>?_,fun u j h0 ak=>?_,Vs h.asc hn,fun u=>Int.le_trans (h.M4 u) (ha u)⟩
 ·rcases(hm n).1 hx with rfl|hx
  ·exact hq
  ·exact h.q n hx
 ·rcases(hm n).1 hx with rfl|hx
  ·exact h1 hv
  ·exact Int.lt_of_lt_of_le (h.own n hx hv) (ax _)
 ·rcases(hm n).1 hx with rfl|hx
  ·exact h2 hv
  ·exact Int.lt_of_lt_of_le (h.peer n hx hv) (ha _)
 ·by_cases hlt:j<a u
  ·exact(hm _).2 (.inr (h.all u j h0 hlt))
  ·exact(hm _).2 (.inl (aj u j h0 (by omega) ak))
theorem VC{v:Bool}{i:Int}{o p:da}(h:mf i o p=true):(ft v i o p).id=i:=by unfold ft;rw[if_pos h]
theorem VD{c:I}(h:eQ c=true):gG c.own=true∧gG c.peer=true:=by
 simp only[eQ,vW,uV,cX,and_assoc]at h;exact⟨h.1,h.2.1⟩
theorem VE{c:I}(h:eQ c=true)(u:Bool):j_ (gS c u)=true∧kB (oZ c u)=true:=by
 simp only[eQ,vW,uV,cX,and_assoc]at h;obtain⟨_,_,_,_,_,h1,h2,aj,aD,_⟩:=h
 cases u
 ·exact⟨h1,aj⟩
 ·exact⟨h2,aD⟩
theorem aft{c:I}{u:Bool}(hc:eQ c=true)(ax:iY (gS c u)=true):0≤iB c u∧iB c u<1152921504606846976∧mn (k5 (gS c u)) c.cr u=4 * iB c u+fV c.cr+2 * fV u∧(kx (gS c u)).opened=iB c u+1:=by
 have h1:=(VE hc u).1;simp only[iY,cX,il]at ax;have h2:=h1;simp only[j_,bN,cX,il]at h2;have e:k5 (gS c u)=iB c u:=by unfold k5 iY;rw[h1,bc ax.2];rfl
 unfold iB at *;refine⟨by omega,by omega,?_,?_⟩
 ·rw[e,Vd]<;>omega
 ·unfold kx iY;rw[h1,bc ax.2];simp only[Bool.and_self,if_true];rw[bC]<;>omega
theorem afu(n:Int)(s u:Bool)(h:0≤n)(h1:n<1152921504606846976):bJ (4 * n+fV s+2 * fV u)=true∧decide ((4 * n+fV s+2 * fV u) % 2=1)=s∧(4 * n+fV s+2 * fV u) / 4=n∧decide ((4 * n+fV s+2 * fV u) / 2 % 2=1)=u:=by
 cases s<;>cases u<;>simp only[fV,if_true,if_false,Bool.false_eq_true]<;>refine⟨A_.2 (by omega),?_,by omega,?_⟩<;>simp<;>omega
theorem U1{c:I}(h:mh c)(u:Bool):mh (iZ c u)∧(o6 c u=true→lB c.cr (ow c u)=true∧k7 (ow c u)=u∧fIx (ed (ow c u)) c.streams=-1∧0≤fIx (ed (ow c u)) (iZ c u).streams):=by
 have hA:o6 c u=(nm c&&iY (gS c u)):=rfl;unfold iZ
 cases ha:nm c with
 |false=>rw[hA,ha];exact⟨h,fun h=>by cases h⟩
 |true=>
  have hc:eQ c=true:=by simp only[nm,fM,cX]at ha;exact ha.1.1
  rw[if_pos rfl]
  cases ax:iY (gS c u)with
  |false=>
   rw[hA,ha,ax];refine⟨h.mK ?_,fun h=>by cases h⟩;have e:(kx (gS c u)).opened=(gS c u).opened:=by unfold kx;rw[ax];split<;>(try split)<;>first|rfl|contradiction
   simp only[Bool.false_eq_true,if_false];unfold ku
   cases u
   ·exact⟨rfl,rfl,e,rfl,rfl,rfl⟩
   ·exact⟨rfl,rfl,rfl,e,rfl,rfl⟩
  |true=>
   obtain⟨eo,dk,dQ,g_⟩:=aft hc ax;obtain⟨c5,cS,fQ,ju⟩:=afu (iB c u) c.cr u eo dk;obtain⟨k1,k2⟩:=VD hc;have hI:ow c u=4 * iB c u+fV c.cr+2 * fV u:=by unfold ow;rw[hA,ha,ax];exact dQ
   rw[if_pos rfl];rw[dQ,hI];have hid:(ft c.cr (4 * iB c u+fV c.cr+2 * fV u) c.own c.peer).id=4 * iB c u+fV c.cr+2 * fV u:=VC (by unfold mf;rw[c5,k1,k2];rfl);have hn:4 * iB c u+fV c.cr+2 * fV u∉c.streams.map fun x=>x.id:=by
    intro hm;have:=h.own _ hm cS;rw[fQ,ju]at this;omega
   have HS:∀w,iB (ku c u) w=if w=u then iB c u+1 else iB c w:=by
    intro w
    cases u<;>cases w<;>simp[iB,gS,ku]at g_⊢<;>exact g_
   have nU:ko (ku c u)=ko c:=by funext w;cases u<;>cases w<;>rfl
   have afv:(ku c u).cr=c.cr:=by cases u<;>rfl
   refine⟨?_,fun _=>⟨?_,?_,C3.2 hn,?_⟩⟩
   ·have:=oY.add (o':=iB (ku c u)) (a':=ko c) (s:=ft c.cr (4 * iB c u+fV c.cr+2 * fV u) c.own c.peer) h (by rw[hid];exact hn) (by rw[hid];exact c5) (fun w=>by
     rw[HS];split
     ·rename_i e;rw[e];omega
     ·omega) (fun w=>Int.le_refl _) (fun _=>by rw[hid,fQ,ju,HS,if_pos rfl];omega) (fun hne=>absurd (by rw[hid];exact cS) hne) (fun w j _ h1 h2=>by omega)
    show oY (ku c u).cr _ (iB (ku c u)) (ko (ku c u))
    rw[afv,nU];exact this
   ·rw[Vw c5,cS];simp
   ·rw[Vv c5,ju]
   ·rcases ox (ed (4 * iB c u+fV c.cr+2 * fV u)) (putS c.streams (ft c.cr (4 * iB c u+fV c.cr+2 * fV u) c.own c.peer))with ⟨g1,_⟩|⟨j,ak,g1,_⟩
    ·rw[C3]at g1;refine absurd ?_ g1;rw[Of (C3.2 (by rw[hid];exact hn))];exact List.mem_map.2 ⟨_,C2.2 (.inl rfl),hid⟩
    ·rw[g1];omega
theorem afw{id:Int}{k:Nat}(h:bJ id=true)(hk:(k:Int)≤id / 4):k8 id k=id-4 * (k:Int):=by
 have hq:=A_.1 h;unfold k8;rw[bC (n:=4 * (k:Int)) (by omega) (by omega),bC]<;>omega
theorem oY.VF{v:Bool}{o p:da}{id:Int}{oo:Bool→Int}(Q:List aa→Prop)(gE:∀(l:List aa) (i:Int),Q l→mf i o p=true→i∉l.map (fun x=>x.id)→Q (putS l (ft v i o p)))
  (hq:bJ id=true) (hv:decide (id % 2=1)≠v) (Om:gG o=true∧gG p=true):∀(k:Nat) (l:List aa) (a:Bool→Int),(k:Int)≤id / 4+1→a (decide (id / 2 % 2=1))=id / 4+1-(k:Int)→oY v (l.map fun x=>x.id) oo a→Q l→
  oY v ((ensL v o p id k l).map fun x=>x.id) oo (fun u=>if u=decide (id / 2 % 2=1)then id / 4+1 else a u)∧Q (ensL v o p id k l)
 |0,l,a,_,ha,h,hl=>by
  have e:(fun u=>if u=decide (id / 2 % 2=1)then id / 4+1 else a u)=a:=by
   funext u;split
   ·rename_i hu;rw[hu,ha];omega
   ·rfl
  rw[e];exact⟨h,hl⟩
 |k+1,l,a,hk,ha,h,hl=>by
  have afx:=A_.1 hq;have ag:k8 id k=id-4 * (k:Int):=afw hq (by omega);have Jg:bJ (id-4 * (k:Int))=true:=A_.2 (by omega);have VG:mf (id-4 * (k:Int)) o p=true:=by unfold mf;rw[Jg,Om.1,Om.2];rfl
  have hid:(ft v (id-4 * (k:Int)) o p).id=id-4 * (k:Int):=VC VG;have vj:(id-4 * (k:Int)) % 2=id % 2:=by omega
  have y9:(id-4 * (k:Int)) / 2 % 2=id / 2 % 2:=by omega
  have Co:(id-4 * (k:Int)) / 4=id / 4-(k:Int):=by omega
  have hn:id-4 * (k:Int)∉l.map fun x=>x.id:=by
   intro hm;have:=h.peer _ hm (by rw[vj];exact hv);rw[y9,Co,ha]at this;omega
  have afy:decide (id % 2=1)=!v:=by
   cases v<;>cases hd:decide (id % 2=1)<;>simp_all
  have ML:=oY.add (o':=oo) (a':=fun u=>if u=decide (id / 2 % 2=1)then id / 4-(k:Int)+1 else a u) (s:=ft v (id-4 * (k:Int)) o p) h (by rw[hid];exact hn) (by rw[hid];exact Jg) (fun u=>Int.le_refl _)
   (fun u=>by
    split
    ·rename_i hu;rw[hu,ha];omega
    ·exact Int.le_refl _)
   (fun hw=>absurd (by rw[←hw,hid,vj]) hv) (fun _=>by rw[hid,y9,Co,if_pos rfl];omega)
   (fun u j h0 h1 h2=>by
    rw[hid];split at h2
    ·rename_i hu;rw[hu,ha]at h1;rw[←afy,hu];have ak:j=id / 4-(k:Int):=by omega
     subst ak;unfold fV;by_cases c1:id % 2=1<;>by_cases c2:id / 2 % 2=1<;>simp[c1,c2]<;>omega
    ·omega)
  have VH:=oY.VF (oo:=oo) Q gE hq hv Om k (putS l (ft v (id-4 * (k:Int)) o p)) (fun u=>if u=decide (id / 2 % 2=1)then id / 4-(k:Int)+1 else a u) (by omega) (by rw[if_pos rfl];omega) ML (gE l _ hl VG hn);have e2:(fun u=>if u=decide (id / 2 % 2=1)then id / 4+1 else(if u=decide (id / 2 % 2=1)then id / 4-(k:Int)+1 else a u))=fun u=>if u=decide (id / 2 % 2=1)then id / 4+1 else a u:=by
   funext u;split<;>rfl
  rw[e2]at VH
  show oY v ((ensL v o p id k (putS l (ft v (k8 id k) o p))).map _) _ _∧Q (ensL v o p id k (putS l (ft v (k8 id k) o p)))
  rw[ag];exact VH
theorem afz{c:I}(h:mh c)(id:Int)(Q:List aa→Prop)(gE:∀(l:List aa) (i:Int),Q l→mf i c.own c.peer=true→i∉l.map (fun x=>x.id)→Q (putS l (ft c.cr i c.own c.peer)))(hl:Q c.streams):mh (bV c id)∧Q (bV c id).streams:=by
 unfold bV;split
 ·rename_i hg;simp only[cX,Bool.not_eq_true',il,and_assoc]at hg;obtain⟨hc,hq,_,ax,bw⟩:=hg;have hv:decide (id % 2=1)≠c.cr:=by rw[Vw hq]at ax;simpa using ax
  have hu:=Vv hq;have hA:j8 c id=oZ c (decide (id / 2 % 2=1)):=by unfold j8 oZ;rw[hu]
  have Fx:=(VE hc (decide (id / 2 % 2=1))).2;simp only[uT,cX,Bool.not_eq_true',kk,and_assoc]at bw;obtain⟨hs,hn,_⟩:=bw;have Jh:=afb hq;have afx:=A_.1 hq;rw[hA,Jh]at hs;have jN:=hs;simp only[uU,cX,il,and_assoc]at jN;have vB:=Fx;simp only[kB,bN,cX,il,and_assoc]at vB;have bo:j9 c id=dL 0 (id / 4+1-ko c (decide (id / 2 % 2=1))):=by
   unfold j9 k9 ko;rw[hA,Jh,if_pos hs,bC (n:=id / 4+1) (by omega) (by omega),bC]<;>omega
  have afA:j9 c id=id / 4+1-ko c (decide (id / 2 % 2=1))∧0<j9 c id:=by
   rw[bo]at hn⊢;unfold dL at *;split at hn<;>simp_all<;>omega
  have B2:(iz (j8 c id) (fD id)).seen=id / 4+1:=by
   unfold iz;rw[hA,Jh,if_pos hs]
   show IntKind.i64.wrap ((oZ c _).seen+k9 (oZ c _) (id / 4))=_
   have e:k9 (oZ c (decide (id / 2 % 2=1))) (id / 4)=j9 c id:=by unfold j9;rw[hA,Jh]
   rw[e,afA.1];unfold ko;rw[bC]<;>omega
  have hk:((j9 c id).toNat:Int)=j9 c id:=Int.toNat_of_nonneg (by omega);have Gk:0≤ko c (decide (id / 2 % 2=1)):=h.M4 _;obtain⟨key,hL⟩:=oY.VF (v:=c.cr) (oo:=iB c) Q gE hq hv (VD hc) (j9 c id).toNat c.streams (ko c) (by rw[hk];omega) (by rw[hk];omega) h hl;have ag:iB (mq c id (iz (j8 c id) (fD id)))=iB c:=by funext u;unfold mq;split<;>rfl
  have e2:ko (mq c id (iz (j8 c id) (fD id)))=fun u=>if u=decide (id / 2 % 2=1)then id / 4+1 else ko c u:=by
   funext u
   unfold mq;rw[hu];by_cases c2:id / 2 % 2=1
   ·rw[bc c2];cases u<;>simp[ko,oZ,B2]
   ·rw[a_ c2];cases u<;>simp[ko,oZ,B2]
  have aY:(mq c id (iz (j8 c id) (fD id))).cr=c.cr:=by unfold mq;split<;>rfl
  refine⟨?_,hL⟩
  show oY (mq c id (iz (j8 c id) (fD id))).cr _ (iB (mq c id (iz (j8 c id) (fD id)))) (ko (mq c id (iz (j8 c id) (fD id))))
  rw[ag,e2,aY];exact key
 ·exact⟨h,hl⟩
theorem afB{c:I}(h:mh c)(id:Int):mh (bV c id):=(afz h id (fun _=>True) (fun _ _ _ _ _=>trivial) trivial).1
theorem afC{m:Nat}{c:I}(hv:b6 m c)(h:mh c)(f:aq):mh (vX c f):=by
 have he:=afB h f.stream;unfold vX;split
 ·by_cases h0:xZ c f=0
  ·exact he.mK (afm hv f h0)
  ·unfold zk;rw[if_neg h0];exact h
 ·split
  ·by_cases h0:x8 c f=0
   ·exact he.mK (afn hv f h0)
   ·unfold zm;rw[if_neg h0];exact h
  ·split
   ·by_cases h0:x_ c f=0
    ·exact he.mK (afo hv f h0)
    ·unfold zn;rw[if_neg h0];exact h
   ·unfold oN
    repeat' split
    all_goals first
     |exact h
     |exact h.mK ⟨rfl,rfl,rfl,rfl,rfl,rfl⟩
     |exact h.mK ⟨rfl,rfl,rfl,Vz _ _,rfl,rfl⟩
     |exact h.mK ⟨rfl,rfl,Vz _ _,rfl,rfl,rfl⟩
     |(unfold CF
       repeat' split
       all_goals first
        |exact h
        |exact he
        |(rename_i h0 _;exact he.mK (zA (id:=f.stream) (s:=CG (bV c f.stream) f) (zu hv (UL h0)) rfl)))
theorem afD{m:Nat}{x y:I}(hv:b6 m x)(h:mh x)(hs:nL x y):mh y:=by
 cases hs with
 |same=>exact h
 |G2 u=>exact(U1 h u).1
 |write id d _=>exact h.mK (VB x id d)
 |bd id=>exact h.mK (afi x id)
 |read id k=>exact h.mK (afl x id k)
 |reset id k=>exact h.mK (afk x id k)
 |Lm id t=>exact h.mK (afj x id t)
 |em b=>exact h.mK (afh x b)
 |hf f _ _=>exact afC hv h f
 |Ln n=>exact h.mK (afs x n)
 |Lo n=>exact h.mK (afr x n)
theorem afE(v:Bool)(o p:da):mh (xq v o p):=by
 unfold xq;split
 ·refine⟨by simp[vA],by simp[vA],by simp[vA],fun u j h0 h1=>?_,by simp[vA],fun u=>?_⟩
  ·exfalso;revert h1;unfold ko oZ yg;cases u<;>simp<;>split<;>simp<;>omega
  ·unfold ko oZ yg;cases u<;>simp<;>split<;>simp
 ·refine⟨by simp[vA],by simp[vA],by simp[vA],fun u j h0 h1=>?_,by simp[vA],fun u=>?_⟩
  ·exfalso;revert h1;unfold ko oZ;cases u<;>simp<;>omega
  ·unfold ko oZ;cases u<;>simp
theorem afF{k:Nat}{c:I}(h:Drawn k c)(hk:k≤1000):mh c:=by
 induction h with
 |new v o p=>exact afE v o p
 |step hd hs dr=>exact afD (hd.nG (by omega)) (dr (by omega)) hs
theorem tE.U2{y:I}(h:tE y):mh y:=by
 obtain⟨x,a,b,c,d,h,rfl⟩:=h;exact(afF h (by omega)).mK ⟨rfl,rfl,rfl,rfl,rfl,rfl⟩
set_option maxRecDepth 100000
set_option maxHeartbeats 4000000 in
theorem Px(b4:List aq)(hm:b4.length≤500)(num:Int)(kv:List V)(br:a6 1 kv)(K:V→List H→Prop)(hk:K (.d (.bool (!b4.all e_))) [.box [.d (.int .i64 num),.d (.sl 9 (b4.map aq.enc))]]) :
  dj Tryz.prog 206 kv [.box [.d (.int .i64 num),.d (.sl 9 (b4.map aq.enc))]] [.d (.sl 9 (b4.map aq.enc)),.fn 207 []] K:=by
 have bd:∀(ex:List H) (b:Bool),b=!b4.all e_→o2 kv K (.d (.bool b)) (.box [.d (.int .i64 num),.d (.sl 9 (b4.map aq.enc))]::ex):=by
  intro ex b hb;subst hb;exact⟨List.range 1,_,[.box [.d (.int .i64 num),.d (.sl 9 (b4.map aq.enc))]],zR (hs:=[.box [.d (.int .i64 num),.d (.sl 9 (b4.map aq.enc))]]) (ex:=ex) (by simp[roks,rok,a6,vok]) br (by simp[vsees,vsee,ren]) (by simp[a6,vok]),hk⟩
 have hx:∀ρ:List Nat,ρ=[0]→uL ρ 1 kv:=fun ρ e=>by subst e;exact uM (yr (m:=1) (n:=1) (by omega)) (by omega) br
 refine dj.oq ?_;refine(en (n:=9) (rs:=[.tmp 4]) Tryz.func206 rfl Tryz.call206 hZ rfl rfl ?_);simp only[go_sem];refine ae.inl (en (n:=19) (rs:=[.tmp 4]) Tryz.func248 rfl Tryz.call248 hZ rfl rfl ?_);simp only[go_sem,lM];refine b5.intro (fun i:Nat=>⟨(.d (.sl 9 (b4.map aq.enc))::.fn 207 []::.J::.J::.d (.int .i64 0)::.J::.d (.sl 9 (b4.map aq.enc))::.d (.int .i64 b4.length)::.d (.int .i64 i)::jn 10 []),[.box [.d (.int .i64 num),.d (.sl 9 (b4.map aq.enc))]]⟩)
   (fun i=>b4.length-i) (fun i=>i≤b4.length∧(b4.take i).all e_=true) 0 [0] ⟨by omega,by simp⟩ ?_ ?_
 ·simp only[go_sem];simp[hx];try trace_state
 ·rintro i ⟨hi,he⟩;by_cases h1:i<b4.length
  ·have ar:decide ((i:Int)<(b4.length:Int))=true:=bc (by omega);have av:=bZ aq.enc b4 i h1;have hw:IntKind.i64.wrap ((i:Int)+1)=((i+1:Nat):Int):=by rw[bC]<;>omega
   have hs:=Py e_ b4 i h1;have hn:=fun h=>Pz e_ b4 i h1 h;generalize b4[i]=f at *;have aZ:=Xk f.kind f.stream f.offset f.data f.bd f.code f.a8 f.bj f.fy;change PureCall _ _ _ [.one (.bool (e_ f))]at aZ;simp only[go_sem,lM,ar,av,aq.enc,aF];refine⟨⟨by omega,by omega⟩,?_⟩;refine ae.inl (en (n:=6) (rs:=[.tmp 2]) Tryz.func207 rfl Tryz.call207 hZ rfl rfl ?_);simp only[go_sem];refine ae.intro aZ ?_
   cases hb:e_ f with
   |true=>
    simp only[go_sem,hw,Bool.not_true];refine bm.intro (i+1) [0] ⟨by omega,by rw[hs,he,hb];rfl⟩ (by omega) ?_;simp only[go_sem];simp[hx]
   |false=>
    have:=hn hb;simp only[go_sem,Bool.not_false];have h0:decide ((0:Int)≤(i:Int))=true:=bc (by omega);exact bd _ _ (by simp[this])
  ·have ar:decide ((i:Int)<(b4.length:Int))=false:=a_ (by omega);obtain rfl:i=b4.length:=by omega
   rw[dB]at he;simp only[go_sem,ar];exact bd _ _ (by simp[he])
end Gv
