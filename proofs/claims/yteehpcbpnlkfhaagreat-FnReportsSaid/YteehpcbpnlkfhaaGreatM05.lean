/-
  Part of the proof: the machine, what functions compute, and the plain laws.
-/
import Derived.Test.YteehpcbpnlkfhaaGreatM04
set_option maxHeartbeats 80000000
set_option maxRecDepth 100000
namespace Gv
open Go Go.Proofs Tryz IntKind
open _root_.Bool renaming or_eq_true->arG,not_eq_true'->ab_,noConfusion->atM,true_and->af_,and_true->ate,true_or->att,false_and->ap_,and_false->asQ,and_self->asg,and_eq_false_iff->arR,not_eq_false'->atZ,eq_iff_iff->asa,false_eq_true->ai_,and_comm->aAx
open _root_.List renaming length_eq_zero_iff->arN,foldl_cons->An,getElem_map->ath,length->asy,sum_cons->azX,set_cons_succ->atX,getElem_cons_succ->azM,mem_singleton->jn,mem_flatMap->asK,mem_of_getElem?->arW,flatMap_append->ash,flatMap_cons->arM,flatMap_nil->auq,pairwise_cons->ag_,countP_cons->asZ,foldl_append->arD,any_eq_true->asX,find?_cons->atV,mem_cons->rD,mem_map->aa_,append_assoc->ah_,filter_cons->atg,filter_eq_self->asR,mem_filter->asC,filter_sublist->auB,set_cons_zero->aua,length_pos_iff->aq_,map_map->auf,all_eq_true->ae_,mem_range->asl,all_cons->as_,take_append_drop->ad_,mem_take_iff_getElem->atn,filter_append->asG,find?_eq_none->asF,take->atz,drop->atf,replicate->ea,length_take->arJ,length_drop->ar_,drop_of_length_le->azN,mem_of_mem_take->atL,mem_of_mem_drop->atJ,set_eq_take_append_cons_drop->atl,take_append_of_le_length->auv,range->pv,map_nil->asi,filter_filter->aAe,filter_congr->aAi,ext_getElem->aAl,elem_cons->arE,elem_nil->am_,mem_of_find?_eq_some->arK,filter_eq_nil_iff->aum
open _root_.Int renaming le_refl->atA,tmod_nonneg->atc,tmod_lt_of_pos->atk,cast_ofNat_Int->auH,add_zero->aAh
open _root_.List.cons renaming injEq->atR
open _root_.Nat renaming add_zero->ao_,add_assoc->arH,lor->aAj,mod_eq_of_lt->asb,lt_of_lt_of_le->asD,pow_le_pow_right->azT,div_lt_iff_lt_mul->aun,pow_pos->aAo,pow_add->azU
open _root_.Iff renaming rfl->aAF
open _root_.Go.IntKind renaming u8->aso,wrap->auC,bits->aue,signed->atG,i64->arV
open _root_.UInt8 renaming ofNat->ass
theorem Ag{n a b:Int}:cd n a b↔a<=n/\n<=b:=by simp[cd]
theorem Hh{c:d6}:jM c↔(0<=c.aX/\c.aX<=4611686018427387903)/\(0<=c.dV/\c.dV<=c.aX)/\(-1<=c.blocked/\c.blocked<=c.aX)/\(-1<=c.gA/\c.gA<=c.aX):=by
 simp only[jM,bN,Ag,bm,ed]
theorem ade{c:d6}(h:jM c):jM (lY c):=by
 unfold lY;split
 ·rw[Hh]at h⊢;simp only;omega
 exact h
theorem adf(c:d6):(lY c).dV=c.dV/\(lY c).aX=c.aX:=by unfold lY;split<;>exact⟨rfl,rfl⟩
theorem adg{c:d6}(h:jM c):jM (l' c):=by
 unfold l';split
 ·rw[Hh]at h⊢;simp only;omega
 exact h
theorem adh(c:d6):(l' c).dV=c.dV/\(l' c).aX=c.aX:=by unfold l';split<;>exact⟨rfl,rfl⟩
theorem adi{c:d6}{n:Int}(h:m4 c n):jM (iV c n)/\(iV c n).dV=c.dV+n/\(iV c n).aX=c.aX/\0<=n:=by
 have hh:=h;simp only[m4,bm,bH]at hh;obtain⟨⟨h1,h2⟩,ao⟩:=hh;have aH:=Hh.1 h1;rw[bw ω ω]at ao;unfold iV;rw[if_pos h];have e:i64.wrap (c.dV+n)=c.dV+n:=by rw[bw]<;>omega
 refine⟨?_,e,rfl,h2⟩;rw[Hh];simp only[e];omega
theorem Ol{w:ej}:l9 w↔(1<=w.cm/\w.cm<=4096)/\(1<=w.size/\w.size<=w.cm)/\(1<=w.aX/\w.aX<=4611686018427387903)/\(0<=w.seen/\w.seen<=w.aX)/\(0<=w.fa/\w.fa<=w.seen)/\w.aX<=w.fa+w.size/\(0<=w.k9/\w.k9<=1000000):=by
 simp only[l9,Ag,bm,ed,bH];constructor
 ·intro h;have e:i64.wrap (w.fa+w.size)=w.fa+w.size:=by rw[bw]<;>omega
  rw[e]at h;omega
 intro h;have e:i64.wrap (w.fa+w.size)=w.fa+w.size:=by rw[bw]<;>omega
 rw[e];omega
theorem adj{w:ej}{dA eU:Int}(h:l9 w):l9 (jO w dA eU):=by
 unfold jO;split
 ·rename_i hr;have h1:=Ol.1 h;simp only[nm,Ag,bm]at hr;obtain⟨⟨_,aZ⟩,bA⟩:=hr;have hs:w.size<=xV w dA eU/\xV w dA eU<=w.cm:=by
   unfold xV;rw[bw (n:=2 * w.size) ω ω];unfold cu
   repeat' split
   all_goals omega
  rw[Ol];simp only[cu];rw[bw (n:=w.fa+xV w dA eU) ω ω];split<;>omega
 ·exact h
theorem adk(w:ej)(dA eU:Int):(jO w dA eU).seen=w.seen/\(jO w dA eU).fa=w.fa:=by unfold jO;split<;>exact⟨rfl,rfl⟩
theorem C5{a:d9}:i_ a↔(0<=a.cm/\a.cm<=1000)/\(a.cm<=a.aX/\a.aX<=1152921504606846976)/\(0<=a.seen/\a.seen<=a.aX)/\(0<=a.cX/\a.cX<=a.seen)/\a.aX<=a.cX+a.cm:=by
 simp only[i_,Ag,bm,ed,bH];constructor
 ·intro h;have e:i64.wrap (a.cX+a.cm)=a.cX+a.cm:=by rw[bw]<;>omega
  rw[e]at h;omega
 intro h;have e:i64.wrap (a.cX+a.cm)=a.cX+a.cm:=by rw[bw]<;>omega
 rw[e];omega
theorem ao8{a:d9}(h:i_ a):i_ (lj a):=by
 unfold lj;split
 ·rename_i hr;have h1:=C5.1 h;simp only[rG,bm,bH]at hr;have e:i64.wrap (a.cX+a.cm)=a.cX+a.cm:=by rw[bw]<;>omega
  rw[e]at hr;rw[C5];simp only[e];omega
 exact h
theorem acH{a:d9}(h:i_ a):i_ (jy a):=by
 unfold jy;split
 ·rename_i hr;have h1:=C5.1 h;simp only[q0,bm,bH]at hr;have e:i64.wrap (a.cX+1)=a.cX+1:=by rw[bw]<;>omega
  rw[C5];simp only[e];omega
 exact h
theorem ab7{c:J}(h:l9 c.c7):l9 (nJ c).1/\(nJ c).1.seen=c.c7.seen:=by
 unfold nJ;split
 ·exact⟨adj h,(adk _ _ _).1⟩
 exact⟨h,rfl⟩
theorem Om{a:d9}{t:Bool}(h:i_ a):i_ (h4 a t).1:=by
 unfold h4;split
 ·exact ao8 h
 exact h
theorem ab6{c:J}{s:ae}(h:l9 s.bL):l9 (m0 c s).1/\(m0 c s).1.seen=s.bL.seen:=by
 unfold m0;split
 ·split
  ·exact⟨adj h,(adk _ _ _).1⟩
  exact⟨h,rfl⟩
 exact⟨h,rfl⟩
structure ao9(s:ae):Prop where
 q:bN s.id=true
 r6:jM s.cL=true
 r8:lZ s.aU=true
 ql:l9 s.bL=true
 r9:mJ s.cI=true
 q6:bN s.oe=true
 r_:s.ft\/s.fS=true
 eH:s.ag.b0<=s.cL.dV
 eG:s.aU.fR<=s.bL.seen
 eX:s.i4->s.ag.bp=4
 mW:s.gK->s.i5=true
 jS:s.oe≠0->s.i5=true
 c1:s.ft\/(s.ag.bp=0/\s.ag.aB.bS=0/\s.ag.bf=-1)
 cW:s.fS\/(s.aU.bp=0/\s.aU.fR=0/\s.i5=false)
theorem jE{s:ae}:dt s↔dU s.ag/\ao9 s:=by
 have apa:∀{a b:Bool},(!(a&&!b))↔(a->b=true):=by intro a b;cases a<;>cases b<;>simp
 have zH:∀{a:Bool} {p:Prop} [Decidable p],(!(a&&decide (¬p)))↔(a->p):=by
  intro a p _;cases a<;>simp
 have ayR:∀{p:Prop} [Decidable p] {b:Bool},(!(decide (¬p)&&!b))↔(¬p->b=true):=by
  intro p _ b;cases b<;>simp
 simp only[dt,Ci,F9,OE,OF,bm,arG,ed,apa,zH,ab_,bH,eC,Int.not_lt];constructor
 ·rintro⟨h0,h1,h2,ao,aH,bR,eQ,i',dK,m1,rq,EX,EY,EZ,E0⟩;exact⟨h0,h1,h2,ao,aH,bR,eQ,i',dK,m1,rq,EX,EY,EZ,E0⟩
 rintro⟨h0,h1,h2,ao,aH,bR,eQ,i',dK,m1,rq,EX,EY,EZ,E0⟩;exact⟨h0,h1,h2,ao,aH,bR,eQ,i',dK,m1,rq,EX,EY,EZ,E0⟩
theorem adl{s:aD}{B:Int}(hi:eJ B s)(hB:B<=1000000)(h:dU s)(h0:s.bp=0)(h1:s.aB.bS=0)(h2:s.bf=-1):BH s/\s.b0=0/\s.aS=0:=by
 have ok:=EP hi hB h ω;exact⟨ok,by have:=ok.jI;have:=ok.dW;omega,ok.dG.2 h2⟩
theorem adm{s:aD}(h1:s.b0=0)(h2:s.aS=0):h7 s=0:=by
 unfold h7;rw[if_neg ω,if_neg ω,if_neg ω]
theorem apb{s:aD}{p:bI}{B:Int}(hi:eJ B s)(hB:B<=1000000)(hp:jX s p)(h1:s.aB.bS=0)(h2:s.bf=-1):p.data=[]/\p.aS=false:=by
 obtain⟨dh,bO,_,df,h8,_⟩:=ET hi hB hp;refine⟨arN.1 ω,?_⟩;cases hf:p.aS
 ·rfl
 exact absurd h2 (Um hp hf)
theorem adn{s t:aD}{B:Int}(hi:eJ B s)(hB:B<=1000000)(h:dU s)(p:bI)(ht:t=iw s p\/t=iI s p) :
  dU t/\t.b0=s.b0/\(s.bp=4->t=s)/\(s.bp=0->s.aB.bS=0->s.bf=-1->t.bp=0/\t.aB.bS=0/\t.bf=-1)/\eJ B t:=by
 have bP:s.bp=4->iw s p=s/\iI s p=s:=λaH=>by
  have:j5 s p=false:=by simp[j5,aH]
  unfold iw iI;rw[this];exact⟨rfl,rfl⟩
 have cO:s.bp=0->s.aB.bS=0->s.bf=-1->j5 s p->p.data=[]/\p.aS=false:=λ_ h1 h2 hg=>by
  simp only[j5,bm]at hg;exact apb hi hB hg.2 h1 h2
 rcases ht with rfl|rfl
 ·refine⟨ao5 hi hB h,?_,λaH=>(bP aH).1,λh0 h1 h2=>?_,SZ hi⟩
  ·unfold iw;split
   ·show(e_ 3 (fC s p) p).b0=s.b0
    unfold e_ fC;split<;>split<;>rfl
   rfl
  unfold iw;split
  ·rename_i hg;obtain⟨gB,gC⟩:=cO h0 h1 h2 hg;obtain⟨ok,k1,k2⟩:=adl hi hB h h0 h1 h2;have Un:e_ 3 (fC s p) p=s:=by unfold e_ fC;rw[if_pos gB,gC];rfl
   rw[Un];refine⟨adm (s:=qZ s.aB s) k1 k2,?_,h2⟩
   show(k5 s.aB (jc s.bJ 0)).bS=0
   rw[(NA _ _).1];exact h1
  exact⟨h0,h1,h2⟩
 refine⟨ao3 hi hB h,?_,λaH=>(bP aH).2,λh0 h1 h2=>?_,aaI hi⟩
 ·unfold iI;split
  ·show(e_ 1 (jF s p) p).b0=s.b0
   unfold e_ jF;split<;>split<;>rfl
  rfl
 unfold iI;split
 ·rename_i hg;obtain⟨gB,gC⟩:=cO h0 h1 h2 hg;obtain⟨ok,k1,k2⟩:=adl hi hB h h0 h1 h2;have Un:e_ 1 (jF s p) p=s:=by unfold e_ jF;rw[if_pos gB,gC];rfl
  rw[Un];exact⟨adm k1 k2,h1,h2⟩
 exact⟨h0,h1,h2⟩
theorem apc{s:aD}(h:dU s):dU (jJ s)/\(jJ s).b0=s.b0/\(jJ s).aB=s.aB/\(jJ s).bf=s.bf/\(s.bp≠4->jJ s=s):=by
 unfold jJ;split
 ·rename_i hc;simp only[oM,bm,bH]at hc;refine⟨?_,rfl,rfl,rfl,λhn=>absurd hc.2 hn⟩;have h1:=hc.1;unfold dU at h1⊢;have aZ:jD s:=by simp[jD,hc.2]
  have bA:jD {s with bp:=5}:=by simp[jD]
  rw[aZ]at h1;rw[bA];exact h1
 exact⟨h,rfl,rfl,rfl,λ_=>rfl⟩
theorem TO{s:ae}{B:Int}(hi:eJ B s.ag)(hB:B<=1000000)(h:dt s)(f:al):dt (fg s f)/\(fg s f).ag.b0=s.ag.b0/\(fg s f).aU=s.aU:=by
 obtain⟨h0,ok⟩:=jE.1 h;unfold fg;split
 ·obtain⟨k1,k2,dd,il,_⟩:=adn hi hB h0 (gQ f) (.inl rfl);refine⟨jE.2 ⟨k1,ok.q,ok.r6,ok.r8,ok.ql,ok.r9,ok.q6,ok.r_,?_,ok.eG,λg=>?_,ok.mW,ok.jS,?_,ok.cW⟩,k2,rfl⟩
  ·show(iw s.ag (gQ f)).b0<=s.cL.dV
   rw[k2];exact ok.eH
  ·show(iw s.ag (gQ f)).bp=4
   have:=ok.eX g;rw[dd this];exact this
  rcases ok.c1 with g|⟨b5,b8,dI⟩
  ·exact .inl g
  exact .inr (il b5 b8 dI)
 split
 ·obtain⟨k1,k2,dd,il,ka⟩:=apc h0;refine⟨jE.2 ⟨k1,ok.q,ok.r6,ok.r8,ok.ql,ok.r9,ok.q6,ok.r_,?_,ok.eG,λg=>?_,ok.mW,ok.jS,?_,ok.cW⟩,k2,rfl⟩
  ·show(jJ s.ag).b0<=s.cL.dV
   rw[k2];exact ok.eH
  ·simp only at g⊢;split at g
   ·cases g
   rename_i hc;have aH:=ok.eX g;exact absurd (show oM s.ag=true by simp[oM,h0,aH]) hc
  rcases ok.c1 with g|⟨b5,b8,dI⟩
  ·exact .inl g
  refine .inr ?_;have e:=ka ω
  show(jJ s.ag).bp=0/\(jJ s.ag).aB.bS=0/\(jJ s.ag).bf=-1
  rw[e];exact⟨b5,b8,dI⟩
 split
 ·exact⟨jE.2 ⟨h0,ok.q,ok.r6,ok.r8,ok.ql,ok.r9,ok.q6,ok.r_,ok.eH,ok.eG,ok.eX,λg=>atM g,ok.jS,ok.c1,ok.cW⟩,rfl,rfl⟩
 exact⟨h,rfl,rfl⟩
theorem TP{s:ae}{B:Int}(hi:eJ B s.ag)(hB:B<=1000000)(h:dt s)(f:al)(b4:f.aY=5->s.i5):dt (gf s f)/\(gf s f).ag.b0=s.ag.b0/\(gf s f).aU=s.aU:=by
 obtain⟨h0,ok⟩:=jE.1 h;unfold gf;split
 ·obtain⟨k1,k2,dd,il,_⟩:=adn hi hB h0 (gQ f) (.inr rfl);refine⟨jE.2 ⟨k1,ok.q,ok.r6,ok.r8,ok.ql,ok.r9,ok.q6,ok.r_,?_,ok.eG,λg=>?_,ok.mW,ok.jS,?_,ok.cW⟩,k2,rfl⟩
  ·show(iI s.ag (gQ f)).b0<=s.cL.dV
   rw[k2];exact ok.eH
  ·show(iI s.ag (gQ f)).bp=4
   have:=ok.eX g;rw[dd this];exact this
  rcases ok.c1 with g|⟨b5,b8,dI⟩
  ·exact .inl g
  exact .inr (il b5 b8 dI)
 split
 ·exact⟨jE.2 ⟨h0,ok.q,ok.r6,ok.r8,ok.ql,ok.r9,ok.q6,ok.r_,ok.eH,ok.eG,λg=>cY g,ok.mW,ok.jS,ok.c1,ok.cW⟩,rfl,rfl⟩
 split
 ·rename_i hk;exact⟨jE.2 ⟨h0,ok.q,ok.r6,ok.r8,ok.ql,ok.r9,ok.q6,ok.r_,ok.eH,ok.eG,ok.eX,λ_=>b4 hk,ok.jS,ok.c1,ok.cW⟩,rfl,rfl⟩
 split
 ·exact⟨jE.2 ⟨h0,ok.q,ok.r6,ok.r8,ok.ql,ok.r9,ok.q6,ok.r_,ok.eH,ok.eG,ok.eX,ok.mW,ok.jS,ok.c1,ok.cW⟩,rfl,rfl⟩
 exact⟨h,rfl,rfl⟩
theorem apd{c:J}{s:ae}(h:dt s)(k:Int):dt (jT c s k)/\(jT c s k).ag.b0=s.ag.b0/\(jT c s k).aU=s.aU:=by
 obtain⟨h0,ok⟩:=jE.1 h;unfold jT;split
 ·exact⟨jE.2 ⟨h0,ok.q,ok.r6,ok.r8,ok.ql,ok.r9,ok.q6,ok.r_,ok.eH,ok.eG,λg=>atM g,ok.mW,ok.jS,ok.c1,ok.cW⟩,rfl,rfl⟩
 split
 ·exact⟨jE.2 ⟨h0,ok.q,ok.r6,ok.r8,ok.ql,ok.r9,ok.q6,ok.r_,ok.eH,ok.eG,ok.eX,λg=>atM g,ok.jS,ok.c1,ok.cW⟩,rfl,rfl⟩
 split
 ·obtain⟨eP,gl⟩:=ab6 (c:=c) ok.ql;refine⟨jE.2 ⟨h0,ok.q,ok.r6,ok.r8,?_,ok.r9,ok.q6,ok.r_,ok.eH,?_,ok.eX,ok.mW,ok.jS,ok.c1,ok.cW⟩,rfl,rfl⟩
  ·simp only;split
   ·exact eP
   exact ok.ql
  simp only;split
  ·rw[gl];exact ok.eG
  exact ok.eG
 split
 ·refine⟨jE.2 ⟨h0,ok.q,ade ok.r6,ok.r8,ok.ql,ok.r9,ok.q6,ok.r_,?_,ok.eG,ok.eX,ok.mW,ok.jS,ok.c1,ok.cW⟩,rfl,rfl⟩
  show s.ag.b0<=(lY s.cL).dV
  rw[(adf _).1];exact ok.eH
 exact⟨h,rfl,rfl⟩
theorem ape{s:ae}(h:dt s):dt (px s):=by
 obtain⟨h0,ok⟩:=jE.1 h;refine jE.2 ⟨h0,ok.q,adg ok.r6,ok.r8,ok.ql,ok.r9,ok.q6,ok.r_,?_,ok.eG,ok.eX,ok.mW,ok.jS,ok.c1,ok.cW⟩
 show s.ag.b0<=(l' s.cL).dV
 rw[(adh _).1];exact ok.eH
theorem apf{s:aD}(p:bI):s.b0<=(ga s p).b0:=by
 unfold ga;split
 ·show s.b0<=(ny (k4 s p) p).b0
  unfold ny k4;split<;>split
  all_goals(try simp only[dJ])
  all_goals(try split)
  all_goals omega
 exact atA _
theorem apg{s:ae}{B:Int}(hi:eJ B s.ag)(hB:B<=1000000)(h:dt s)(hc:s.ft)(p:bI)(hg:iD s.ag p)(hu:m4 s.cL (nq s p)) :
  dt (jC s p)/\(jC s p).ag.b0=s.ag.b0+nq s p/\0<=nq s p/\(jC s p).aU=s.aU:=by
 obtain⟨h0,ok⟩:=jE.1 h;obtain⟨g_,h6,oY,qn⟩:=adi hu;have aph:=EP hi hB h0 (by simp only[iD,qY,bm,bH,ed]at hg;exact hg.2.1);have c3:=hi.c3;have ak:=hi.ak;have zb:=(CV (ac8 (p:=p) hi hB h0)).2;have hm:=apf (s:=s.ag) p;have api:(ga s.ag p).aB=s.ag.aB:=by
  unfold ga;rw[if_pos hg]
  show(ny (k4 s.ag p) p).aB=s.ag.aB
  unfold ny k4;split<;>split<;>rfl
 rw[api]at zb;have hn:nq s p=(ga s.ag p).b0-s.ag.b0:=by
  have:=aph.jI;unfold nq;rw[bw]<;>omega
 refine⟨jE.2 ⟨ac8 hi hB h0,ok.q,g_,ok.r8,ok.ql,ok.r9,ok.q6,ok.r_,?_,ok.eG,λg=>?_,ok.mW,ok.jS,.inl hc,ok.cW⟩,?_,qn,rfl⟩
 ·show(ga s.ag p).b0<=(iV s.cL (nq s p)).dV
  rw[h6,hn];have:=ok.eH;omega
 ·have:=ok.eX g;simp only[iD,qY,bm,bH,ed]at hg;omega
 show(ga s.ag p).b0=_
 rw[hn];omega
structure fo(c:J):Prop where
 own:iz c.own=true
 cP:iz c.cP=true
 m3:∀s∈c.aa,dt s=true
 hH:(c.aa.map λs=>s.id).Pairwise (·<·)
 len:c.aa.length<=24
 o_:jM c.cn=true
 k3:l9 c.c7=true
 mj:km c.eY=true
 ml:km c.eZ=true
 mi:i_ c.dB=true
 kc:i_ c.dC=true
 hY:rl c.bU c.ai=true
 dw:-1<=c.dw/\c.dw<=4611686018427387903
 num:0<=c.bU/\c.bU<=1000000
 dA:0<=c.dA/\c.dA<=1000000
 nN:0<=c.cX/\c.cX<=255
 b0:c.aa.foldl (lB i9) 0<=c.cn.dV
 seen:c.aa.foldl (lB kj) 0<=c.c7.seen
theorem TJ{l:List ae}:lh dt l↔(∀s∈l,dt s=true)/\(l.map λs=>s.id).Pairwise (·<·)/\l.length<=24:=by
 simp only[lh,bm,Hf,bH,ed];constructor
 ·rintro⟨h1,h2,ao⟩;exact⟨h1,h2,by omega⟩
 rintro⟨h1,h2,ao⟩;exact⟨h1,h2,by omega⟩
theorem pz{c:J}:ew c↔fo c:=by
 simp only[ew,oi,xm,DW,bm,Ag,bH,ed];constructor
 ·rintro⟨h1,h2,ao,aH,bR,eQ,i',dK,m1,rq,EX,EY,EZ,E0,Uo,j',mf,iB,OG,p8⟩;have hs:=TJ.1 ao;simp only[lx,ao,if_true]at OG p8;exact⟨h1,h2,hs.1,hs.2.1,hs.2.2,aH,bR,eQ,i',dK,m1,rq,⟨EX,EY⟩,⟨EZ,E0⟩,⟨Uo,j'⟩,⟨mf,iB⟩,OG,p8⟩
 rintro⟨h1,h2,dW,cT,dS,aH,bR,eQ,i',dK,m1,rq,⟨EX,EY⟩,⟨EZ,E0⟩,⟨Uo,j'⟩,⟨mf,iB⟩,OG,p8⟩;have ao:=TJ.2 ⟨dW,cT,dS⟩;simp only[lx,ao,if_true];exact⟨h1,h2,trivial,aH,bR,eQ,i',dK,m1,rq,EX,EY,EZ,E0,Uo,j',mf,iB,OG,p8⟩
theorem He(f:ae->Int):∀(l m9:List ae) (n:Int),l.map f=m9.map f->l.foldl (lB f) n=m9.foldl (lB f) n
 |[],[],_,_=>rfl
 |[],_::_,_,h=>by simp at h
 |_::_,[],_,h=>by simp at h
 |x::l,y::m9,n,h=>by
  simp only[fe,atR]at h;rw[An,An,show lB f n x=lB f n y by unfold lB;rw[h.1]];exact He f l m9 _ h.2
theorem Oc{l:List ae}{s:ae}(hf:(bQ l s.id).2):∃i,∃hi:i<l.length,dv l s=l.set i s/\l[i]=(bQ l s.id).1:=by
 rcases m' (eB s.id) l with ⟨ao,_⟩|⟨i,hi,ao,bR,aH⟩
 ·exact absurd (T0.1 hf) (C_.1 ao)
 refine⟨i,hi,Lo ao,?_⟩;unfold bQ;rw[bR]
theorem Oh{β:Type}(f:ae->β){l:List ae}{s:ae}(hf:(bQ l s.id).2)(he:f s=f (bQ l s.id).1):(dv l s).map f=l.map f:=by
 obtain⟨i,hi,h1,h2⟩:=Oc hf;rw[h1,List.map_set,he,<-h2];have:(l.map f).set i (f l[i])=l.map f:=by
  have fw:i<(l.map f).length:=by simpa using hi
  have e:f l[i]=(l.map f)[i]:=by rw[ath]
  rw[e,List.set_getElem_self]
 exact this
theorem Ov{c:J}(h:fo c){id:Int}(hf:(bQ c.aa id).2){s:ae}(cO:s.id=(aC c id).id)(hs:dt s)(he:s.ag.b0=(aC c id).ag.b0)(hr:s.aU=(aC c id).aU):fo (lE c s):=by
 have Ky:(aC c id).id=id:=kb hf;have hi:s.id=id:=cO.trans Ky;have s7:(bQ c.aa s.id).2:=by rw[hi];exact hf
 have aE:(bQ c.aa s.id).1=aC c id:=by rw[hi];rfl
 have ak:(dv c.aa s).map (λs=>s.id)=c.aa.map λs=>s.id:=Ow s7;have ar:(dv c.aa s).map i9=c.aa.map i9:=Oh i9 s7 (by rw[aE];exact he);have a4:(dv c.aa s).map kj=c.aa.map kj:=Oh kj s7 (by rw[aE];show s.aU.fR=_;rw[hr];rfl);refine⟨h.own,h.cP,λx hx=>?_,?_,?_,h.o_,h.k3,h.mj,h.ml,h.mi,h.kc,h.hY,h.dw,h.num,h.dA,h.nN,?_,?_⟩
 ·rcases zw hx with g|rfl
  ·exact h.m3 x g
  exact hs
 ·show((dv c.aa s).map λs=>s.id).Pairwise _
  rw[ak];exact h.hH
 ·show(dv c.aa s).length<=24
  have:=congrArg asy ak;rw[I,I]at this;rw[this];exact h.len
 ·show(dv c.aa s).foldl _ 0<=_
  rw[He i9 _ _ 0 ar];exact h.b0
 show(dv c.aa s).foldl _ 0<=_
 rw[He kj _ _ 0 a4];exact h.seen
theorem xW{c:J}(h:fo c){id:Int}(hf:(bQ c.aa id).2):dt (aC c id):=h.m3 _ (Bu hf).2
theorem ado{a:jf}(h:km a):km {a with blocked:=-1}:=by
 simp only[km,Ag,bm]at h⊢;omega
theorem apj{c:J}(h:fo c)(f:al):fo (iU c f):=by
 have hc:=pz.2 h;unfold iU;rw[if_pos hc]
 repeat' split
 ·obtain⟨eP,gl⟩:=ab7 h.k3;exact⟨h.own,h.cP,h.m3,h.hH,h.len,h.o_,eP,h.mj,h.ml,h.mi,h.kc,h.hY,h.dw,h.num,h.dA,h.nN,h.b0,by show _<=(nJ c).1.seen;rw[gl];exact h.seen⟩
 ·exact⟨h.own,h.cP,h.m3,h.hH,h.len,h.o_,h.k3,h.mj,h.ml,h.mi,Om h.kc,h.hY,h.dw,h.num,h.dA,h.nN,h.b0,h.seen⟩
 ·exact⟨h.own,h.cP,h.m3,h.hH,h.len,h.o_,h.k3,h.mj,h.ml,Om h.mi,h.kc,h.hY,h.dw,h.num,h.dA,h.nN,h.b0,h.seen⟩
 ·exact⟨h.own,h.cP,h.m3,h.hH,h.len,ade h.o_,h.k3,h.mj,h.ml,h.mi,h.kc,h.hY,h.dw,h.num,h.dA,h.nN,by show _<=(lY c.cn).dV;rw[(adf _).1];exact h.b0,h.seen⟩
 ·exact⟨h.own,h.cP,h.m3,h.hH,h.len,h.o_,h.k3,h.mj,ado h.ml,h.mi,h.kc,h.hY,h.dw,h.num,h.dA,h.nN,h.b0,h.seen⟩
 ·exact⟨h.own,h.cP,h.m3,h.hH,h.len,h.o_,h.k3,ado h.mj,h.ml,h.mi,h.kc,h.hY,h.dw,h.num,h.dA,h.nN,h.b0,h.seen⟩
 ·rename_i hf;obtain⟨k1,k2,dd⟩:=apd (c:=c) (xW h hf) f.aY;exact Ov h hf (Cf c _ _).2.2 k1 k2 dd
 exact h
theorem Q4{c:J}(h:fo c){id:Int}(hf:(bQ c.aa id).2):fo (D9 c id):=by
 have h1:=Ov h hf (s:=px (aC c id)) rfl (ape (xW h hf)) rfl rfl;exact⟨h1.own,h1.cP,h1.m3,h1.hH,h1.len,adg h.o_,h1.k3,h1.mj,h1.ml,h1.mi,h1.kc,h1.hY,h1.dw,h1.num,h1.dA,h1.nN,by show _<=(l' c.cn).dV;rw[(adh _).1];exact h1.b0,h1.seen⟩
theorem adp(f:ae->Int):∀(l:List ae) (n:Int),(∀x∈l,0<=f x/\f x<=1000000)->l.length<=1000->0<=n->n<=4000000000000->l.foldl (lB f) n=n+(l.map f).sum
 |[],n,_,_,_,_=>by simp
 |x::l,n,h,hl,h0,h1=>by
  obtain⟨x0,x1⟩:=h x ξ;have key:∀(l:List ae) (n:Int),(∀x∈l,0<=f x/\f x<=1000000)->0<=n->n+1000000 * (l.length:Int)<=4611686018427387904->l.foldl (lB f) n=n+(l.map f).sum:=by
   intro l
   induction l with
   |nil=>intro n _ _ _;simp
   |cons y l c_=>
    intro n hy h0 h1;obtain⟨ayS,ayT⟩:=hy y ξ;rw[e0]at h1;have e:lB f n y=n+f y:=by
     unfold lB;rw[bw (n:=n+f y) ω ω,if_neg ω]
    rw[An,e,c_ _ (λz hz=>hy z (by simp[hz])) ω ω,fe,azX];omega
  refine key (x::l) n h h0 ?_;rw[e0]at hl⊢;omega
theorem adq(f:ae->Int):∀(l:List ae) (i:Nat) (hi:i<l.length) (s:ae),((l.set i s).map f).sum=(l.map f).sum-f l[i]+f s
 |x::l,0,_,s=>by simp;omega
 |x::l,i+1,hi,s=>by
  have:=adq f l i (by simpa using hi) s;simp only[atX,fe,azX,azM,this];omega
theorem adr{m:Nat}{c:J}(hv:bW m c)(hm:m<=1000)(h:fo c):∀s∈c.aa,0<=i9 s/\i9 s<=1000000:=λs hs=>by
 have h1:=(CV (jE.1 (h.m3 s hs)).1).2;have h2:=(hv.i7 s hs).snd.ak
 show 0<=s.ag.b0/\s.ag.b0<=1000000
 omega
theorem Q6{m:Nat}{c:J}(hv:bW m c)(hm:m<=1000)(h:fo c)(id:Int)(p:bI):fo (p_ c id p):=by
 unfold p_;split
 ·rename_i hg;simp only[py,xw,bm,ed]at hg;obtain⟨_,hf,hcs,Hm,acD,Is⟩:=hg;have qj:eJ (8 * m) (aC c id).ag:=(hv.aC id).snd;obtain⟨k1,k2,dd,il⟩:=apg qj ω (xW h hf) hcs p Hm acD;obtain⟨g_,h6,oY,qn⟩:=adi Is;have Ky:(aC c id).id=id:=kb hf;have s7:(bQ c.aa (jC (aC c id) p).id).2:=by show(bQ c.aa (aC c id).id).2=true;rw[Ky];exact hf
  have aE:(bQ c.aa (jC (aC c id) p).id).1=aC c id:=by show(bQ c.aa (aC c id).id).1=_;rw[Ky];rfl
  have ak:(dv c.aa (jC (aC c id) p)).map (λs=>s.id)=c.aa.map λs=>s.id:=Ow s7;have a4:(dv c.aa (jC (aC c id) p)).map kj=c.aa.map kj:=Oh kj s7 (by rw[aE];show(jC (aC c id) p).aU.fR=_;rw[il];rfl);have bu:(dv c.aa (jC (aC c id) p)).length=c.aa.length:=by
   have:=congrArg asy ak
   rwa [I,I]at this
  have b4:∀x∈dv c.aa (jC (aC c id) p),dt x:=λx hx=>by
   rcases zw hx with g|rfl
   ·exact h.m3 x g
   exact k1
  have apk:eJ (8 * m) (ga (aC c id).ag p):=QY qj (by
   simp only[iD,qY,bm,ed]at Hm;have:=(ET qj ω Hm.2.2.1).2.2.2.2.2;omega)
  have BD:∀x∈dv c.aa (jC (aC c id) p),0<=i9 x/\i9 x<=1000000:=λx hx=>by
   rcases zw hx with g|rfl
   ·exact adr hv hm h x g
   have h1:=(CV (jE.1 k1).1).2;have h2:(ga (aC c id).ag p).aB.bS<=8 * (m:Int):=apk.ak
   show 0<=(ga (aC c id).ag p).b0/\(ga (aC c id).ag p).b0<=1000000
   have ao:0<=(ga (aC c id).ag p).b0/\(ga (aC c id).ag p).b0<=(ga (aC c id).ag p).aB.bS:=h1;omega
  have apl:=adp i9 c.aa 0 (adr hv hm h) (by have:=h.len;omega) ω ω;have h9:=adp i9 (dv c.aa (jC (aC c id) p)) 0 BD (by rw[bu];have:=h.len;omega) ω ω;obtain⟨i,hi,dP,dO⟩:=Oc s7;have hT:=adq i9 c.aa i hi (jC (aC c id) p);rw[<-dP,dO,aE]at hT;refine⟨h.own,h.cP,b4,?_,by rw[bu];exact h.len,g_,h.k3,h.mj,h.ml,h.mi,h.kc,h.hY,?_,h.num,h.dA,h.nN,?_,?_⟩
  ·show((dv c.aa _).map λs=>s.id).Pairwise _
   rw[ak];exact h.hH
  ·have hq:=(jE.1 (xW h hf)).2.q;rw[Ky]at hq;have:=mC.1 hq
   show -1<=id/\id<=_
   omega
  ·show(dv c.aa _).foldl (lB i9) 0<=(iV c.cn _).dV
   rw[h6,h9,hT];have hs:=h.b0;rw[apl]at hs;have e:i9 (jC (aC c id) p)=i9 (aC c id)+nq (aC c id) p:=k2;omega
  show(dv c.aa _).foldl (lB kj) 0<=_
  rw[He kj _ _ 0 a4];exact h.seen
 exact h
theorem Ma{m:Nat}:∀(l:List al) (q:xt),bW m q.x->fo q.x->fo (l.foldl iC q).x/\bW m (l.foldl iC q).x
 |[],q,hv,h=>⟨h,hv⟩
 |f::l,q,hv,h=>by
  rw[An];have:fo (iC q f).x/\bW m (iC q f).x:=by
   unfold iC;split
   ·exact⟨apj h f,aaN hv f⟩
   exact⟨h,hv⟩
  exact Ma l _ this.2 this.1
structure oc(c d:J):Prop where
 p:d.ai=c.ai
 n:d.bU=c.bU
 v:d.bq=c.bq
 nN:d.cX=c.cX
theorem oc.refl(c:J):oc c c:=⟨rfl,rfl,rfl,rfl⟩
theorem oc.trans{c d e:J}(h:oc c d)(k:oc d e):oc c e:=⟨k.p.trans h.p,k.n.trans h.n,k.v.trans h.v,k.nN.trans h.nN⟩
theorem apm(c:J)(f:al):oc c (iU c f):=by
 unfold iU
 repeat' split
 all_goals exact⟨rfl,rfl,rfl,rfl⟩
theorem apn(c:J)(id:Int)(p:bI):oc c (p_ c id p):=by
 unfold p_;split<;>exact⟨rfl,rfl,rfl,rfl⟩
theorem ads:∀(l:List al) (q:xt),oc q.x (l.foldl iC q).x
 |[],q=>oc.refl _
 |f::l,q=>by
  rw[An];refine oc.trans ?_ (ads l _);unfold iC;split
  ·exact apm _ _
  exact oc.refl _
theorem Up:∀(n:Nat) (q:n5),oc q.x (ja n q).x
 |0,q=>oc.refl _
 |n+1,q=>by
  rw[ja]
  repeat' split
  ·exact oc.refl _
  ·exact oc.trans (d:=(yz q).x) (apn _ _ _) (Up n (yz q))
  ·exact oc.refl _
  exact oc.trans (d:=(sM q).x) ⟨rfl,rfl,rfl,rfl⟩ (Up n (sM q))
theorem XS(c:J)(b:Int):oc c (dy c b).x:=oc.trans (d:=(ck c b).x) (ads (fc c) ⟨c,[],b⟩) (Up 200 ⟨(ck c b).x,[],(ck c b).b2,(ck c b).room⟩)
theorem oH:bN 0:=by decide
theorem Hg{f:al}(h1:kindOk f.aY)(h2:jj f=f)(ao:bN f.ax)(aH:bN f.aP)(bR:bN f.cS)(eQ:bN f.aX)(i':bN f.bf)(dK:f.data.length<=400)
  (m1:f.aY=8->f.aP+f.data.length<=4611686018427387903) (rq:f.aY=18\/f.aY=22->f.aX<=1152921504606846976):eu f:=by
 simp only[eu,zM,h1,ao,aH,bR,eQ,i',bm,af_,ate,br h2,ab_,eC];refine⟨by omega,?_⟩;split
 ·rename_i hk;have:=m1 hk;rw[bH,bw]<;>omega
 split
 ·rename_i hk;exact br (rq hk)
 rfl
theorem ab3{k l:Int}(hk:k=16\/k=20)(h:bN l):eu (fV k l false):=by
 refine Hg ?_ ?_ oH oH oH h oH (by simp[fV]) (λg=>?_) (λg=>?_)
 ·rcases hk with rfl|rfl<;>rfl
 ·rcases hk with rfl|rfl<;>rfl
 ·exfalso;simp only[fV]at g;omega
 exfalso;simp only[fV]at g;omega
theorem Ok{k l:Int}{u:Bool}(hk:k=18\/k=22)(h0:0<=l)(h1:l<=1152921504606846976):eu (fV k l u):=by
 refine Hg ?_ ?_ oH oH oH (mC.2 (by show 0<=l/\l<=_;omega)) oH (by simp[fV]) (λg=>?_) (λ_=>h1)
 ·rcases hk with rfl|rfl<;>rfl
 ·rcases hk with rfl|rfl<;>rfl
 exfalso;simp only[fV]at g;omega
theorem ab4{k i l:Int}(hk:k=17\/k=21)(hi:bN i)(h:bN l):eu (nn k i l):=by
 refine Hg ?_ ?_ hi oH oH h oH (by simp[nn]) (λg=>?_) (λg=>?_)
 ·rcases hk with rfl|rfl<;>rfl
 ·rcases hk with rfl|rfl<;>rfl
 ·exfalso;simp only[nn]at g;omega
 exfalso;simp only[nn]at g;omega
theorem anq{i c z:Int}(hi:bN i)(hc:bN c)(hz:bN z):eu (ow 4 i c z):=
 Hg rfl rfl hi oH hc oH hz (by simp[ow]) (λg=>by simp[ow]at g) (λg=>by simp[ow]at g)
theorem anr{i c:Int}(hi:bN i)(hc:bN c):eu (ow 5 i c 0):=
 Hg rfl rfl hi oH hc oH oH (by simp[ow]) (λg=>by simp[ow]at g) (λg=>by simp[ow]at g)
theorem ab5{id:Int}{p:bI}(hi:bN id)(h0:0<=p.aP)(h1:p.aP+p.data.length<=4611686018427387903)(h2:p.data.length<=400):eu (gE id p):=
 Hg rfl rfl hi (mC.2 (by show 0<=p.aP/\p.aP<=_;omega)) oH oH oH h2 (λ_=>h1) (λg=>by simp[gE]at g)
theorem ans{s:aD}(h:dU s):bN s.cS/\i0 s.aB/\0<=s.b0/\s.b0<=s.aB.bS:=by
 have hr:=CV h;simp only[dU,lK,bm,ed]at h;exact⟨h.2.2.2.2.2.1,hr⟩
theorem ant{c:J}{s:ae}(h:dt s):∀f∈gD c s,eu f:=by
 obtain⟨h0,ok⟩:=jE.1 h;obtain⟨k1,k2,dd,il⟩:=ans h0;have hi:=oD k2;have ayM:=Hh.1 ok.r6;intro f hf;simp only[gD,e7]at hf;rcases hf with ((hf|hf)|hf)|hf
 ·unfold jP at hf;split at hf
  ·rw[jn.1 hf];exact anq ok.q k1 (mC.2 ω)
  cases hf
 ·unfold l_ at hf;split at hf
  ·rw[jn.1 hf];exact anr ok.q ok.q6
  cases hf
 ·unfold mZ at hf;split at hf
  ·rw[jn.1 hf];have hw:=Ol.1 (ab6 (c:=c) ok.ql).1;exact ab4 (.inl rfl) ok.q (mC.2 ω)
  cases hf
 unfold p1 at hf;split at hf
 ·rw[jn.1 hf];exact ab4 (.inr rfl) ok.q (mC.2 ω)
 cases hf
theorem anu{c:J}(h:fo c):∀f∈fc c,eu f:=by
 have Og:=Hh.1 h.o_;have sT:=h.mj;have anv:=h.ml;simp only[km,Ag,bm]at sT anv;have hw:=Ol.1 (ab7 h.k3).1;have Mm:=λt=>C5.1 (Om (t:=t) h.mi);have Cv:=λt=>C5.1 (Om (t:=t) h.kc);intro f hf;unfold fc at hf;split at hf
 ·simp only[e7,ED,EE]at hf;rcases hf with (((hf|hf)|hf)|hf)|((hf|hf)|hf)
  ·split at hf
   ·rw[jn.1 hf];exact ab3 (.inl rfl) (mC.2 ω)
   cases hf
  ·split at hf
   ·rw[jn.1 hf];have:=Mm c.mA;exact Ok (.inl rfl) ω ω
   cases hf
  ·split at hf
   ·rw[jn.1 hf];have:=Cv c.mB;exact Ok (.inl rfl) ω ω
   cases hf
  ·obtain⟨s,hs,hf⟩:=asK.1 hf;exact ant (h.m3 s hs) f hf
  ·split at hf
   ·rw[jn.1 hf];exact ab3 (.inr rfl) (mC.2 ω)
   cases hf
  ·split at hf
   ·rw[jn.1 hf];exact Ok (.inr rfl) ω ω
   cases hf
  split at hf
  ·rw[jn.1 hf];exact Ok (.inr rfl) ω ω
  cases hf
 cases hf
theorem ab8{s:aD}{m l:Int}{B:Int}(hi:eJ B s)(hB:B<=1000000)(h0:0<=m)(h1:m<=1000)(hok:kY s m l):0<=(jV s m l).aP/\(jV s m l).aP+(jV s m l).data.length<=s.aB.bS:=by
 have c3:=hi.c3;have ak:=hi.ak;unfold jV;rw[if_pos hok];split
 ·rename_i r hr;have hm:r∈s.bC:=arW hr;have sV:=(gr _).1 (((ho _).1 hi.p.1).1 r hm);have AF:=hi.p.2 r hm;have:=aaP s.aB r.low (i64.wrap (k6 r m l-r.low));simp only[kY,hr,bm,bH]at hok;obtain⟨_,k1,k2⟩:=hok;have LK:cu r.high l<=r.high:=by unfold cu;split<;>omega
  have hh:k6 r m l<=r.high:=by
   unfold k6 at k2⊢;split
   ·rename_i g;rw[if_pos g]at k2;have e:dJ m 0=m:=by unfold dJ;split<;>omega
    rw[e]at k2⊢;rw[bw (n:=cu r.high l-r.low) ω ω]at g;rw[bw]at k2⊢<;>omega
   exact LK
  have hw:i64.wrap (k6 r m l-r.low)=k6 r m l-r.low:=by rw[bw]<;>omega
  simp only;rw[hw]at this⊢;unfold dJ at this;split at this<;>omega
 rename_i hr;simp only[kY,hr,bm,jG,bH]at hok;obtain⟨⟨b5,b8⟩,dI⟩:=hok;have ok:=EP hi hB b5 b8;have hf:s.bf≠-1:=λg=>by have:=ok.dG.2 g;omega
 have:=ok.e9 hf;simp only[g1];omega
theorem ab9{s:aD}{id fB room:Int}{B:Int}(hi:eJ B s)(hB:B<=1000000)(hq:bN id):∀(n:Nat),n<=60->(pB s id fB room n).2->eu (gE id (pB s id fB room n).1)/\((eS (gE id (pB s id fB room n).1)).length:Int)<=room
 |0,_,h=>by simp[pB]at h
 |n+1,hn,h=>by
  have c3:=hi.c3;have ak:=hi.ak;unfold pB at h⊢;split
  ·rename_i hok;rw[if_pos hok]at h;split
   ·rename_i hr;obtain⟨k1,k2⟩:=ab8 hi hB (m:=(n+1:Nat)) (l:=fB) ω ω hok;have:=ID (m:=(n+1:Nat)) (l:=fB) ω ω hi.p ω;refine⟨ab5 hq k1 ?_ ?_,hr⟩
    ·show(jV s ((n+1:Nat):Int) fB).aP+(jV s ((n+1:Nat):Int) fB).data.length<=4611686018427387903
     omega
    show(jV s ((n+1:Nat):Int) fB).data.length<=400
    omega
   rename_i hr;rw[if_neg hr]at h;exact ab9 hi hB hq n ω h
  rename_i hok;rw[if_neg hok]at h;cases h
theorem anw{m:Nat}{c:J}(hv:bW m c)(hm:m<=1000)(h:fo c){id room:Int}(hp:(m2 c id room).2):eu (gE id (m2 c id room).1)/\((eS (gE id (m2 c id room).1)).length:Int)<=room:=by
 unfold m2 at hp⊢;split
 ·rename_i hg;rw[if_pos hg]at hp;simp only[yA,bm,ed]at hg;have hq:=(jE.1 (xW h hg.2.1)).2.q;rw[kb hg.2.1]at hq;exact ab9 (hv.aC id).snd ω hq _ (by unfold cu;split<;>omega) hp
 rename_i hg;rw[if_neg hg]at hp;cases hp
structure BF(b:Int)(b2:List al)(room:Int):Prop where
 ok:∀f∈b2,eu f=true
 r0:0<=room
 sum:((b2.flatMap eS).length:Int)+room=b
theorem BF.add{b room:Int}{b2:List al}{f:al}(h:BF b b2 room)(hb:b<=1000)(hf:eu f)(hl:((eS f).length:Int)<=room):BF b (b2++[f]) (i64.wrap (room-((eS f).length:Int))):=by
 have h0:=h.r0;have h1:=h.sum;have e:i64.wrap (room-((eS f).length:Int))=room-((eS f).length:Int):=by rw[bw]<;>omega
 refine⟨λg hg=>?_,by omega,?_⟩
 ·rcases e7.1 hg with hg|hg
  ·exact h.ok g hg
  rw[jn.1 hg];exact hf
 rw[e,ash,eh,arM,auq,ix];omega
theorem aca{b:Int}(hb:b<=1000):∀(l:List al) (q:xt),(∀f∈l,eu f=true)->BF b q.b2 q.room->BF b (l.foldl iC q).b2 (l.foldl iC q).room
 |[],q,_,h=>h
 |f::l,q,hl,h=>by
  rw[An];refine aca hb l _ (λg hg=>hl g (by simp[hg])) ?_;unfold iC;split
  ·rename_i hr;exact h.add hb (hl f ξ) hr
  exact h
theorem TQ{m:Nat}(hm:m<=1000){b:Int}(hb:b<=1000):∀(n:Nat) (q:n5),bW m q.x->fo q.x->BF b q.b2 q.room->BF b (ja n q).b2 (ja n q).room
 |0,q,_,_,h=>h
 |n+1,q,hv,hc,h=>by
  rw[ja];split
  ·exact h
  rename_i cO;have hf:=F8 (q:=q) ω;split
  ·rename_i hp;split
   ·obtain⟨k1,k2⟩:=anw hv hm hc (id:=fA q) (room:=q.room) hp;refine TQ hm hb n _ ?_ (Q6 hv hm hc _ _) (h.add hb k1 k2);exact IB hv _ _ (by have:=Iy hv hm (fA q) q.room;show(m2 q.x (fA q) q.room).1.data.length<=_;omega)
   exact h
  exact TQ hm hb n _ (IA hv hf) (Q4 hc hf) h
theorem ahI{m:Nat}{c:J}(hv:bW m c)(hm:m<=1000)(h:fo c){b:Int}(h0:0<=b)(hb:b<=1000):BF b (dy c b).b2 (dy c b).room:=by
 have hA:BF b (ck c b).b2 (ck c b).room:=aca hb (fc c) ⟨c,[],b⟩ (anu h) ⟨λf hf=>(by cases hf),h0,by simp⟩;obtain⟨h1,h2⟩:=Ma (m:=m) (fc c) ⟨c,[],b⟩ hv h;exact TQ hm hb 200 _ h2 h1 hA
theorem Oq{x:ab}{xs:List ab}(h:cN (x::xs)){n:Int}(hc:cp (x::xs) n):x.low<=n/\(n<x.high\/x.high<n):=by
 have h1:=(ho _).1 h;have h2:=ag_.1 h1.2;rw[mM,arG,nA]at hc;have hx:=(gr _).1 (h1.1 x ξ);rcases hc with hc|hc
 ·omega
 obtain⟨y,hy,ao⟩:=Hi.1 hc;have:=h2.1 y hy;omega
theorem abW:∀{xs ys:List ab},cN xs->cN ys->(∀n,cp xs n=cp ys n)->xs=ys
 |[],[],_,_,_=>rfl
 |[],y::ys,_,hy,h=>by
  have h1:=(gr _).1 (((ho _).1 hy).1 y ξ);have:=h y.low;rw[r5,mM,nA.2 ⟨by omega,h1.2.1⟩]at this;cases this
 |x::xs,[],hx,_,h=>by
  have h1:=(gr _).1 (((ho _).1 hx).1 x ξ);have:=h x.low;rw[r5,mM,nA.2 ⟨by omega,h1.2.1⟩]at this;cases this
 |x::xs,y::ys,hx,hy,h=>by
  have TV:=(ho _).1 hx;have TW:=(ho _).1 hy;have acm:=ag_.1 TV.2;have acn:=ag_.1 TW.2;have dY:=(gr _).1 (TV.1 x ξ);have mF:=(gr _).1 (TW.1 y ξ);have aco:∀n,x.low<=n->n<x.high->cp (x::xs) n:=λn a b=>by rw[mM,nA.2 ⟨a,b⟩,att]
  have acp:∀n,y.low<=n->n<y.high->cp (y::ys) n:=λn a b=>by rw[mM,nA.2 ⟨a,b⟩,att]
  have ak:x.low=y.low:=by
   have h1:=Oq hy ((h x.low).symm.trans (aco _ ω dY.2.1));have h2:=Oq hx ((h y.low).trans (acp _ ω mF.2.1));omega
  have ar:x.high=y.high:=by
   rcases Int.lt_trichotomy x.high y.high with g|g|g
   ·have:=Oq hx ((h x.high).trans (acp _ ω g));omega
   ·exact g
   have:=Oq hy ((h y.high).symm.trans (aco _ ω g));omega
  have e:x=y:=by cases x;cases y;simp only at ak ar;rw[ak,ar]
  subst e
  congr 1
  refine abW ((ho _).2 ⟨λz hz=>TV.1 z (by simp[hz]),acm.2⟩) ((ho _).2 ⟨λz hz=>TW.1 z (by simp[hz]),acn.2⟩) λn=>?_;have hn:=h n;rw[mM,mM]at hn
  cases hb:i1 x n
  ·rw[hb]at hn;exact hn
  rw[nA]at hb;have iM:cp xs n=false:=by
   cases hc:cp xs n
   ·rfl
   obtain⟨z,hz,ao⟩:=Hi.1 hc;have:=acm.1 z hz;omega
  have lP:cp ys n=false:=by
   cases hc:cp ys n
   ·rfl
   obtain⟨z,hz,ao⟩:=Hi.1 hc;have:=acn.1 z hz;omega
  rw[iM,lP]
def mL(id n:Int)(f:al):Bool:=nf id f&&i1 (DN f) n
def q8(fs:List al)(id n:Int):Nat:=fs.countP (mL id n)
def kd(l:List aL):List al:=l.flatMap λp=>p.bV
theorem acq(a b:List al)(id n:Int):q8 (a++b) id n=q8 a id n+q8 b id n:=by unfold q8;rw[List.countP_append]
theorem TX(f:al)(fs:List al)(id n:Int):q8 (f::fs) id n=q8 fs id n+(if mL id n f then 1 else 0):=by unfold q8;rw[asZ]
theorem abV{id n:Int}:∀(fs:List al) (cJ:List ab),cN cJ->(∀f∈fs,nf id f->c8 (DN f)=true)->cN (fs.foldl (lQ id) cJ)/\cp (fs.foldl (lQ id) cJ) n=(cp cJ n||fs.any (mL id n))
 |[],cJ,h,_=>⟨h,by simp⟩
 |f::fs,cJ,h,hf=>by
  rw[An];have h1:cN (lQ id cJ f)/\cp (lQ id cJ f) n=(cp cJ n||mL id n f):=by
   unfold lQ mL;cases hg:nf id f
   ·exact⟨by simpa using h,by simp⟩
   have hr:=hf f ξ hg;rw[if_pos rfl];exact⟨J0 h hr,by rw[Kq h hr,af_]⟩
  obtain⟨k1,k2⟩:=abV fs (lQ id cJ f) h1.1 λg hg=>hf g (by simp[hg]);refine⟨k1,?_⟩;rw[k2,h1.2,List.any_cons,Bool.or_assoc]
theorem ani(l:List aL)(id:Int):DK l id=(kd l).foldl (lQ id) []:=by
 have key:∀(l:List aL) (cJ:List ab),l.foldl (so id) cJ=(kd l).foldl (lQ id) cJ:=by
  intro l
  induction l with
  |nil=>intro cJ;rfl
  |cons p l c_=>
   intro cJ;have e:kd (p::l)=p.bV++kd l:=by unfold kd;rw[arM]
   rw[An,c_,e,arD];rfl
 exact key l []
theorem abX{fs:List al}{id n:Int}:fs.any (mL id n)↔0<q8 fs id n:=by
 unfold q8;rw[asX,List.countP_pos_iff]
def s9(s:aD)(f:al):Prop:=0<=f.aP/\f.aP+f.data.length<=s.aB.bS/\(f.aS->s.bf=f.aP+f.data.length)
structure gN(s t:ae):Prop where
 g:t.ag.bp<=3->s.ag.bp<=3/\(∀n,cp t.ag.bc n=cp s.ag.bc n)/\∀f,s9 s.ag f->s9 t.ag f
 i7:s.i5=false->t.i5=false
 ts:s.gK=false->t.gK=false
theorem gN.refl(s:ae):gN s s:=⟨λh=>⟨h,λ_=>rfl,λ_ h=>h⟩,λh=>h,λh=>h⟩
theorem gN.trans{s t u:ae}(h:gN s t)(k:gN t u):gN s u:=
 ⟨λg=>by obtain⟨k1,k2,dd⟩:=k.g g;obtain⟨h1,h2,ao⟩:=h.g k1;exact⟨h1,λn=>(k2 n).trans (h2 n),λf hf=>dd f (ao f hf)⟩,λg=>k.i7 (h.i7 g),λg=>k.ts (h.ts g)⟩
theorem gN.same{s t:ae}(h1:t.ag=s.ag)(h2:t.i5=s.i5)(ao:t.gK=s.gK\/t.gK=false):gN s t:=
 ⟨λg=>by rw[h1]at g⊢;exact⟨g,λ_=>rfl,λ_ h=>h⟩,λg=>by rw[h2];exact g,λg=>by rcases ao with h|h<;>rw[h];exact g⟩
def Hj(s:ae):Prop:=(s.ag.bp<=3->∀n,cp s.ag.bc n=false)/\s.i5=false/\s.gK=false
theorem Hj.nO{s t:ae}(h:Hj s)(k:gN s t):Hj t:=
 ⟨λg n=>by obtain⟨k1,k2,_⟩:=k.g g;rw[k2];exact h.1 k1 n,k.i7 h.2.1,k.ts h.2.2⟩
structure eT(c d:J):Prop where
 yS:∀id,(bQ c.aa id).2->(bQ d.aa id).2/\gN (aC c id) (aC d id)
 new:∀id,(bQ d.aa id).2->(bQ c.aa id).2\/Hj (aC d id)
theorem eT.refl(c:J):eT c c:=⟨λ_ h=>⟨h,gN.refl _⟩,λ_ h=>.inl h⟩
theorem eT.of{c d:J}(h:d.aa=c.aa):eT c d:=by
 refine⟨λid hf=>?_,λid hf=>?_⟩
 ·unfold aC;rw[h];exact⟨hf,gN.refl _⟩
 rw[h]at hf;exact .inl hf
theorem eT.trans{c d e:J}(h:eT c d)(k:eT d e):eT c e:=by
 refine⟨λid hf=>?_,λid hf=>?_⟩
 ·obtain⟨h1,h2⟩:=h.yS id hf;obtain⟨k1,k2⟩:=k.yS id h1;exact⟨k1,h2.trans k2⟩
 rcases k.new id hf with g|g
 ·rcases h.new id g with b8|b8
  ·exact .inl b8
  exact .inr (b8.nO (k.yS id g).2)
 exact .inr g
theorem BG(x:ae)(l:List ae)(id:Int):bQ (x::l) id=if x.id=id then(x,true)else bQ l id:=by
 unfold bQ;rw[atV];by_cases e:x.id=id
 ·have:eB id x:=by simp[eB,e]
  rw[this,if_pos e]
 have:eB id x=false:=by simp[eB,e]
 rw[this,if_neg e]
theorem acr{s:ae}{id:Int}:∀(l:List ae),s.id∉l.map (λx=>x.id)->bQ (qm s l) id=if s.id=id then(s,true)else bQ l id
 |[],_=>by rw[qm,BG]
 |x::l,h=>by
  rw[qm];split
  ·rw[BG]
  have h1:s.id≠x.id:=λe=>h (by simp[e]);have h2:s.id∉l.map (λx=>x.id):=λg=>h (by rw[fe];exact List.mem_cons_of_mem _ g);rw[BG,BG,acr l h2];by_cases e:x.id=id
  ·rw[if_pos e,if_pos e,if_neg (λg=>h1 (g.trans e.symm))]
  rw[if_neg e,if_neg e]
theorem anF{x s:ae}{l:List ae}(hf:s.id∈(x::l).map (λx=>x.id)):dv (x::l) s=if x.id=s.id then s::l else x::dv l s:=by
 unfold dv;rw[List.findIdx?_cons];by_cases e:x.id=s.id
 ·have:eB s.id x:=by simp[eB,e]
  rw[this,if_pos e];rfl
 have:eB s.id x=false:=by simp[eB,e]
 rw[this,if_neg e];have hm:s.id∈l.map (λx=>x.id):=by
  rw[fe]at hf;rcases rD.1 hf with h|h
  ·exact absurd h.symm e
  exact h
 cases hi:l.findIdx? (eB s.id)with
 |none=>
  exfalso;rw[List.findIdx?_eq_none_iff]at hi;obtain⟨y,hy,h2⟩:=aa_.1 hm;have:=hi y hy;simp[eB,h2]at this
 |some i=>rfl
theorem Kp{s:ae}{id:Int}(l:List ae):bQ (dv l s) id=if s.id=id then(s,true)else bQ l id:=by
 by_cases hm:s.id∈l.map (λx=>x.id)
 ·induction l with
  |nil=>cases hm
  |cons x l c_=>
   rw[anF hm];by_cases e:x.id=s.id
   ·rw[if_pos e,BG,BG];by_cases ar:s.id=id
    ·rw[if_pos ar,if_pos ar]
    rw[if_neg ar,if_neg ar,if_neg (λg=>ar (e.symm.trans g))]
   have zx:s.id∈l.map (λx=>x.id):=by
    rw[fe]at hm;rcases rD.1 hm with h|h
    ·exact absurd h.symm e
    exact h
   rw[if_neg e,BG,BG,c_ zx];by_cases ar:x.id=id
   ·rw[if_pos ar,if_pos ar,if_neg (λg=>e (ar.trans g.symm))]
   rw[if_neg ar,if_neg ar]
 ·rw[TY (C_.2 hm),acr l hm]
theorem eT.put{c d:J}{s:ae}(hd:d.aa=dv c.aa s)(hf:(bQ c.aa s.id).2)(hr:gN (aC c s.id) s):eT c d:=by
 have key:∀id,bQ d.aa id=if s.id=id then(s,true)else bQ c.aa id:=λid=>by rw[hd];exact Kp _
 refine⟨λid h=>?_,λid h=>?_⟩
 ·unfold aC;rw[key];by_cases e:s.id=id
  ·rw[if_pos e];subst e;exact⟨rfl,hr⟩
  rw[if_neg e];exact⟨h,gN.refl _⟩
 rw[key]at h;by_cases e:s.id=id
 ·subst e;exact .inl hf
 rw[if_neg e]at h;exact .inl h
theorem eT.add{c d:J}{s:ae}(hd:d.aa=dv c.aa s)(hf:(bQ c.aa s.id).2=false)(hr:Hj s):eT c d:=by
 have key:∀id,bQ d.aa id=if s.id=id then(s,true)else bQ c.aa id:=λid=>by rw[hd];exact Kp _
 refine⟨λid h=>?_,λid h=>?_⟩
 ·unfold aC;rw[key];by_cases e:s.id=id
  ·subst e;rw[hf]at h;cases h
  rw[if_neg e];exact⟨h,gN.refl _⟩
 unfold aC;rw[key]at h⊢;by_cases e:s.id=id
 ·rw[if_pos e];exact .inr hr
 rw[if_neg e]at h;exact .inl h
structure gY(c:J)(fs:List al):Prop where
 ka:∀f∈fs,f.aY≠5
 xY:∀f∈fs,f.aY=8->(bQ c.aa f.ax).2/\((aC c f.ax).ag.bp<=3->s9 (aC c f.ax).ag f)
 Af:∀id,(bQ c.aa id).2->(aC c id).ag.bp<=3->∀n,q8 fs id n=if cp (aC c id).ag.bc n then 1 else 0
 h_:∀id,(bQ c.aa id).2->(aC c id).i5=false/\(aC c id).gK=false
theorem TZ{fs:List al}{id n:Int}(h:∀f∈fs,f.aY=8->f.ax≠id):q8 fs id n=0:=by
 unfold q8;rw[List.countP_eq_zero];intro f hf hh;simp only[mL,nf,bm,bH]at hh;exact h f hf hh.1.1.1 hh.1.1.2
theorem gY.nO{c d:J}{fs:List al}(h:gY c fs)(k:eT c d):gY d fs:=by
 refine⟨h.ka,λf hf hk=>?_,λid hf hs n=>?_,λid hf=>?_⟩
 ·obtain⟨h1,h2⟩:=h.xY f hf hk;obtain⟨k1,k2⟩:=k.yS _ h1;refine⟨k1,λg=>?_⟩;obtain⟨b5,_,dI⟩:=k2.g g;exact dI f (h2 b5)
 ·rcases k.new id hf with g|g
  ·obtain⟨_,k2⟩:=k.yS id g;obtain⟨b5,b8,_⟩:=k2.g hs;rw[h.Af id g b5 n,b8]
  cases hc:(bQ c.aa id).2
  ·rw[g.1 hs n,if_neg ξ];refine TZ λf anG hk e=>?_;have:=(h.xY f anG hk).1;rw[e,hc]at this
   cases this
  obtain⟨_,k2⟩:=k.yS id hc;obtain⟨b5,b8,_⟩:=k2.g hs;rw[h.Af id hc b5 n,b8]
 rcases k.new id hf with g|g
 ·obtain⟨_,k2⟩:=k.yS id g;obtain⟨iM,lP⟩:=h.h_ id g;exact⟨k2.i7 iM,k2.ts lP⟩
 exact g.2
def k7(c:J):Prop:=gY c (kd c.ai)
theorem k7.nO{c d:J}(h:k7 c)(k:eT c d)(hp:d.ai=c.ai):k7 d:=by
 unfold k7;rw[hp];exact gY.nO h k
theorem anH(c:J)(s:ae):gN s (hO c s):=by
 unfold hO;split
 ·exact gN.same rfl rfl (.inl rfl)
 exact gN.refl _
theorem anI(c:J)(s:ae):(hO c s).id=s.id:=(z_ c s).2.2
theorem Hk{c x:J}{id:Int}{s:ae}(hx:x.aa=c.aa)(hf:(bQ c.aa id).2)(hi:s.id=id)(hr:gN (aC c id) s):eT c (eO x s):=by
 have cO:=anI x s;refine eT.put (s:=hO x s) (by show dv x.aa (hO x s)=_;rw[hx]) (by rw[cO,hi];exact hf) ?_;rw[cO,hi];exact hr.trans (anH x s)
theorem ES{c d:J}{id:Int}{s:ae}(hd:d.aa=dv c.aa s)(hf:(bQ c.aa id).2)(hi:s.id=(aC c id).id)(hr:gN (aC c id) s):eT c d:=by
 have h2:s.id=id:=hi.trans (kb hf);exact eT.put hd (by rw[h2];exact hf) (by rw[h2];exact hr)
theorem acs{s:aD}(h:pY s):dU s/\s.bp<=1/\s.bf=-1:=by
 simp only[pY,bm,bH,ed]at h;exact h
theorem acu{s t:aD}(hf:s.bf=-1)(he:s.aB.bS<=t.aB.bS){f:al}(h:s9 s f):s9 t f:=by
 obtain⟨h1,h2,ao⟩:=h;refine⟨h1,by omega,λg=>?_⟩;have:=ao g;omega
theorem anJ(r:dk)(d:List UInt8)(h:i0 r):r.bS<=(r1 r d).bS:=by
 have hi:=oD h;have hr:=SX r;have hn:nx r d=(cu (nM r) d.length).toNat:=rfl;simp only[r1];by_cases hp:0<nx r d
 ·have Ez:0<nM r:=by rw[hn]at hp;unfold cu at hp;split at hp<;>omega
  obtain⟨aZ,bA,c9⟩:=hr.2 Ez;have bu:(nx r d:Int)<=nM r:=by rw[hn];unfold cu;split<;>omega
  rw[bw]<;>omega
 rw[bw]<;>omega
theorem anK(s:ae)(d:List UInt8):gN s (fF s (rA s.ag d)):=by
 unfold fF rA;split
 ·rename_i h;obtain⟨h1,h2,ao⟩:=acs h;exact⟨λg=>⟨g,λ_=>rfl,λf hf=>acu ao (anJ _ _ (CV h1).1) hf⟩,λg=>g,λg=>g⟩
 exact gN.refl _
theorem anL(s:ae):gN s (fF s (xh s.ag)):=by
 unfold fF xh;split
 ·rename_i h;obtain⟨h1,h2,ao⟩:=acs h;exact⟨λg=>⟨g,λ_=>rfl,λf hf=>acu (t:={s.ag with bf:=s.ag.aB.bS,aS:=1}) ao (atA _) hf⟩,λg=>g,λg=>g⟩
 exact gN.refl _
theorem acv(s:ae)(k:Int):gN s (hF s k):=by
 unfold hF DU;split
 ·exact⟨λg=>absurd g ξ,λg=>g,λg=>g⟩
 exact⟨λg=>⟨g,λ_=>rfl,λ_ h=>h⟩,λg=>g,λg=>g⟩
theorem acw(v:Bool)(i:Int)(o p:e5):Hj (hN v i o p):=by
 unfold hN;split
 ·refine⟨λ_ n=>?_,rfl,rfl⟩
  show cp (sB o.aB).bc n=false
  have:=(Wv o.aB).2.2.1;rw[this];rfl
 exact⟨λ_ _=>rfl,rfl,rfl⟩
theorem abU{l:List ae}(h:(l.map (λx=>x.id)).Pairwise (·<·)){s:ae}(hs:s∈l):bQ l s.id=(s,true):=by
 have hf:=NB hs;obtain⟨h1,h2⟩:=Bu hf;have key:∀(l:List ae),(l.map (λx=>x.id)).Pairwise (·<·)->∀a∈l,∀b∈l,a.id=b.id->a=b:=by
  intro l
  induction l with
  |nil=>intro _ a ha;cases ha
  |cons x l c_=>
   intro h a ha b hb e;rw[fe,ag_]at h;rcases rD.1 ha with h1|h1<;>rcases rD.1 hb with h2|h2
   ·rw[h1,h2]
   ·have:=h.1 _ (aa_.2 ⟨b,h2,rfl⟩);rw[h1]at e;omega
   ·have:=h.1 _ (aa_.2 ⟨a,h1,rfl⟩);rw[h2]at e;omega
   exact c_ h.2 a h1 b h2 e
 have e:=key l h _ h2 _ hs h1;exact Prod.ext e hf
theorem acx{l:List ae}{id:Int}(h:id∉l.map λx=>x.id):(bQ l id).2=false:=by
 cases hb:(bQ l id).2
 ·rfl
 exact absurd (T0.1 hb) h
theorem Kr{c:J}(h:jq c)(id:Int):eT c (cD c id):=by
 have hq:=(acy h id (λl=>eT c {c with aa:=l}) (λl i hl hn hi=>?_) (eT.refl c)).2
 ·exact eT.trans hq (eT.of rfl)
 refine eT.trans hl (eT.add (s:=hN c.bq i c.own c.cP) rfl ?_ (acw _ _ _ _));rw[Ot hn];exact acx hi
theorem anM{c:J}(h:jq c)(u:Bool):eT c (l8 c u):=by
 have aG:=(acz h u).2;unfold l8;split
 ·rename_i hA;split
  ·rename_i cM;have hg:yj c u:=by unfold yj;rw[hA,cM];rfl
   obtain⟨_,_,dd,_⟩:=aG hg;have hi:sx c u=rz (p0 (ly c u)) c.bq u:=by unfold sx;rw[if_pos hg]
   rw[hi]at dd;have hc:ew c:=by
    simp only[xi,hZ,bm]at hA;exact hA.1.1
   obtain⟨c1,cW⟩:=T1 hc;obtain⟨dh,bO,cz,_⟩:=acA hc cM;have hn:pK (rz (p0 (ly c u)) c.bq u) c.own c.cP:=by
    simp only[pK,c1,cW,ate];rw[cz];exact(acB (k8 c u) c.bq u dh bO).1
   refine eT.add (s:=hN c.bq (rz (p0 (ly c u)) c.bq u) c.own c.cP) ?_ ?_ (acw _ _ _ _)
   ·rfl
   rw[Ot hn];exact acx (C_.1 dd)
  exact eT.of (NH c u).1
 exact eT.refl c
theorem anN(c:J)(id:Int)(d:List UInt8):eT c (my c id d):=by
 unfold my;split
 ·rename_i hg;exact ES rfl (Aa hg) rfl (anK _ d)
 exact eT.refl c
theorem anO(c:J)(id:Int):eT c (zu c id):=by
 unfold zu;split
 ·rename_i hg;have hf:(bQ c.aa id).2:=by
   simp only[DT,mv,bm]at hg;exact hg.1.1.2
  exact ES rfl hf rfl (anL _)
 ·exact eT.refl c
theorem anP(c:J)(id:Int)(t:List UInt8):eT c (mw c id t):=by
 unfold mw;split
 ·rename_i hg;exact ES (s:={aC c id with cI:=AO (aC c id).cI t}) rfl (Aa hg) rfl (gN.same rfl rfl (.inl rfl))
 exact eT.refl c
theorem anQ(c:J)(id k:Int):eT c (mx c id k):=by
 unfold mx;split
 ·rename_i hg;have hf:(bQ c.aa id).2:=by
   simp only[zv,mv,bm]at hg;exact hg.1.1.2
  exact Hk rfl hf (kb hf) (acv _ k)
 ·exact eT.refl c
theorem T2(s:ae)(e:Int):gN s (nu s e):=by
 unfold nu;split
 ·exact gN.refl s
 exact gN.same rfl rfl (.inl rfl)
theorem anR(c:J)(id m:Int):eT c (mD c id m):=by
 unfold mD;split
 ·rename_i hg;have hf:(bQ c.aa id).2:=by
   simp only[s5,bm]at hg;exact hg.1.2
  refine Hk (JT c id m).1 hf ((NG c id m).2.2.trans (kb hf)) ?_;unfold y1 xP J3 iH;split<;>exact gN.same rfl rfl (.inl rfl)
 ·exact eT.refl c
theorem anS{m:Nat}{c:J}(hv:bW m c)(h:jq c)(f:al):eT c (yW c f):=by
 unfold yW;split
 ·rename_i he;have hf:=xS hv (S2 he);refine eT.trans (Kr h f.ax) (Hk (GV _ _ _).1 hf ((S6 _ f).trans (kb hf)) ?_);unfold CU iH;exact(T2 _ _).trans (gN.same rfl rfl (.inl rfl))
 exact eT.refl c
theorem anT{m:Nat}{c:J}(hv:bW m c)(h:jq c)(f:al):eT c (y3 c f):=by
 unfold y3;split
 ·rename_i he;have hf:=xS hv (S3 he);refine eT.trans (Kr h f.ax) (Hk (JU _ f).1 hf ((NF _ f).2.2.trans (kb hf)) ?_);unfold y4 J2 xP iH;split
  ·exact(T2 _ _).trans (gN.same rfl rfl (.inl rfl))
  exact(T2 _ _).trans (gN.same rfl rfl (.inl rfl))
 exact eT.refl c
theorem anU{m:Nat}{c:J}(hv:bW m c)(h:jq c)(f:al):eT c (y6 c f):=by
 unfold y6;split
 ·rename_i he;have hf:=xS hv (S4 he);refine eT.trans (Kr h f.ax) (Hk rfl hf ((S9 _ f).trans (kb hf)) ?_);unfold sL;split
  ·exact acv _ _
  exact gN.refl _
 exact eT.refl c
theorem anV{m:Nat}{c:J}(hv:bW m c)(h:jq c)(f:al):eT c (Bn c f):=by
 unfold Bn;split
 ·rename_i he;have hf:=xS hv (S5 he);split
  ·exact eT.trans (Kr h f.ax) (ES (s:=EB (cD c f.ax) f) rfl hf rfl (gN.same rfl rfl (.inl rfl)))
  exact Kr h f.ax
 exact eT.refl c
theorem anW{m:Nat}{c:J}(hv:bW m c)(h:jq c)(f:al):eT c (pI c f):=by
 unfold pI;split
 ·split
  ·exact eT.of rfl
  split
  ·split<;>exact eT.of rfl
  split
  ·exact anV hv h f
  exact eT.refl c
 exact eT.refl c
theorem anX{m:Nat}{c:J}(hv:bW m c)(h:jq c)(f:al):eT c (rI c f):=by
 unfold rI;split
 ·exact anS hv h f
 split
 ·exact anT hv h f
 split
 ·exact anU hv h f
 exact anW hv h f
theorem Hl(c:J)(s:ae):(eO c s).ai=c.ai:=(zk c s).2
theorem Ks(c:J)(id:Int):(cD c id).ai=c.ai:=by
 unfold cD;split
 ·show(ot c id _).ai=_
  unfold ot;split<;>rfl
 rfl
theorem anY(c:J)(f:al):(rI c f).ai=c.ai:=by
 unfold rI;split
 ·unfold yW;split
  ·rw[Hl,(GV _ _ _).2,Ks]
  rfl
 split
 ·unfold y3;split
  ·rw[Hl,(JU _ f).2,Ks]
  rfl
 split
 ·unfold y6;split
  ·rw[Hl,Ks]
  rfl
 unfold pI;split
 ·split
  ·rfl
  split
  ·split<;>rfl
  split
  ·unfold Bn;split
   ·split
    ·exact Ks _ _
    exact Ks _ _
   rfl
  rfl
 rfl
theorem gY.anZ{c:J}{fs:List al}{f:al}(h:gY c fs)(bR:f.aY≠5)(dK:f.aY≠8):gY c (fs++[f]):=by
 refine⟨λg hg=>?_,λg hg hk=>?_,λid hf hs n=>?_,h.h_⟩
 ·rcases e7.1 hg with hg|hg
  ·exact h.ka g hg
  rw[jn.1 hg];exact bR
 ·rcases e7.1 hg with hg|hg
  ·exact h.xY g hg hk
  rw[jn.1 hg]at hk;exact absurd hk dK
 rw[acq,h.Af id hf hs n,TZ (fs:=[f]) (λg hg hk=>by rw[jn.1 hg]at hk;exact absurd hk dK)];rfl
theorem an0(c:J)(f:al):eT c (iU c f):=by
 unfold iU
 repeat' split
 all_goals first
  |exact eT.of rfl
  |(rename_i hf
    refine ES (s:=jT c (aC c f.ax) f.aY) rfl hf (Cf c _ _).2.2 (gN.same (Cf c _ _).1 ?_ ?_))
 ·unfold jT;repeat' split
  all_goals rfl
 unfold jT;repeat' split
 all_goals first|exact .inl rfl|exact .inr rfl
theorem an1(c:J){id:Int}(hf:(bQ c.aa id).2):eT c (D9 c id):=
 ES (s:=px (aC c id)) rfl hf rfl (gN.same rfl rfl (.inl rfl))
theorem an2{c:J}(h:fo c){fs:List al}(k:gY c fs):∀s∈c.aa,s.gK=false:=λs hs=>by
 have e:=abU h.hH hs;have:=(k.h_ s.id (by rw[e])).2;unfold aC at this;rw[e]at this;exact this
theorem an3{c:J}(hs:∀s∈c.aa,s.gK=false):∀f∈fc c,f.aY≠5/\f.aY≠8:=by
 intro f hf;unfold fc at hf;split at hf
 ·simp only[e7,ED,EE]at hf;rcases hf with (((hf|hf)|hf)|hf)|((hf|hf)|hf)
  ·split at hf
   ·rw[jn.1 hf];simp[fV]
   cases hf
  ·split at hf
   ·rw[jn.1 hf];simp[fV]
   cases hf
  ·split at hf
   ·rw[jn.1 hf];simp[fV]
   cases hf
  ·obtain⟨s,hm,hf⟩:=asK.1 hf;simp only[gD,e7]at hf;rcases hf with ((hf|hf)|hf)|hf
   ·unfold jP at hf;split at hf
    ·rw[jn.1 hf];simp[ow]
    cases hf
   ·unfold l_ at hf;rw[hs s hm,ap_,if_neg ξ]at hf;cases hf
   ·unfold mZ at hf;split at hf
    ·rw[jn.1 hf];simp[nn]
    cases hf
   unfold p1 at hf;split at hf
   ·rw[jn.1 hf];simp[nn]
   cases hf
  ·split at hf
   ·rw[jn.1 hf];simp[fV]
   cases hf
  ·split at hf
   ·rw[jn.1 hf];simp[fV]
   cases hf
  split at hf
  ·rw[jn.1 hf];simp[fV]
  cases hf
 cases hf
theorem acC:∀(l:List al) (q:xt) (fs:List al),(∀f∈l,f.aY≠5/\f.aY≠8)->gY q.x (fs++q.b2)->gY (l.foldl iC q).x (fs++(l.foldl iC q).b2)
 |[],q,fs,_,h=>h
 |f::l,q,fs,hl,h=>by
  rw[An];refine acC l _ fs (λg hg=>hl g (by simp[hg])) ?_;unfold iC;split
  ·obtain⟨ka,Ex⟩:=hl f ξ;have:=(h.nO (an0 q.x f)).anZ ka Ex;rw[ah_]at this;exact this
  exact h
theorem an4{s:aD}{p:bI}(h:iD s p):(ga s p).aB=s.aB/\(ga s p).bf=s.bf/\(ga s p).bc=(if p.data=[]then s.bc else f' s.bc (dD p))/\s.bp<=2:=by
 have hg:=h;simp only[iD,qY,bm,bH,ed]at hg;unfold ga;rw[if_pos h];unfold jY ny k4;split<;>split<;>exact⟨rfl,rfl,rfl,hg.2.1⟩
theorem an5{m:Nat}{c:J}{fs:List al}(hv:bW m c)(hm:m<=1000)(hc:fo c){id:Int}{p:bI}(hg:py c id p)(h:gY c fs):gY (p_ c id p) (fs++[gE id p]):=by
 have Bw:=hg;simp only[py,xw,bm,ed]at hg;obtain⟨_,hf,hcs,Hm,acD,Is⟩:=hg;have cO:(aC c id).id=id:=kb hf;have qj:eJ (8 * m) (aC c id).ag:=(hv.aC id).snd;have pA:=(jE.1 (xW hc hf)).1;obtain⟨dP,dO,ih,mb⟩:=an4 Hm;have ok:=EP qj ω pA mb;have acE:=Hm;simp only[iD,qY,bm,bH,ed,arG]at acE;obtain⟨_,_,hin,_,_,an6⟩:=acE;obtain⟨dh,bO,cz,df,h8,oW⟩:=ET qj ω hin;have key:∀j,bQ (p_ c id p).aa j=if id=j then(jC (aC c id) p,true)else bQ c.aa j:=λj=>by
  unfold p_;rw[if_pos Bw]
  show bQ (dv c.aa (jC (aC c id) p)) j=_
  rw[Kp]
  show(if(aC c id).id=j then _ else _)=_
  rw[cO]
 have A7:∀g,s9 (aC c id).ag g->s9 (jC (aC c id) p).ag g:=λg hg=>by
  obtain⟨b5,b8,dI⟩:=hg;exact⟨b5,by show _<=(ga (aC c id).ag p).aB.bS;rw[dP];exact b8,λe=>by show(ga (aC c id).ag p).bf=_;rw[dO];exact dI e⟩
 refine⟨λg q9=>?_,λg q9 hk=>?_,λj aI hs n=>?_,λj aI=>?_⟩
 ·rcases e7.1 q9 with q9|q9
  ·exact h.ka g q9
  rw[jn.1 q9];simp[gE]
 ·rcases e7.1 q9 with q9|q9
  ·obtain⟨h1,h2⟩:=h.xY g q9 hk;unfold aC;rw[key];by_cases e:id=g.ax
   ·rw[if_pos e];refine⟨rfl,λ_=>A7 g ?_⟩;rw[<-e]at h2;exact h2 ω
   rw[if_neg e];exact⟨h1,h2⟩
  rw[jn.1 q9,show(gE id p).ax=id from rfl];unfold aC;rw[key,if_pos rfl];refine⟨rfl,λ_=>⟨?_,?_,λe=>?_⟩⟩
  ·show 0<=p.aP;rw[<-df];exact dh
  ·show p.aP+(p.data.length:Int)<=(ga (aC c id).ag p).aB.bS
   rw[dP,<-h8];exact bO
  show(ga (aC c id).ag p).bf=p.aP+(p.data.length:Int)
  rw[dO];have acF:=hin;simp only[jX,bm,bH,ed,arG,ab_]at acF;have e':p.aS:=e;rcases acF.2.2.2 with g|⟨_,g⟩
  ·rw[e']at g;cases g
  rw[<-g];exact h8
 ·rw[acq];unfold aC at hs⊢;rw[key]at aI hs⊢;by_cases e:id=j
  ·subst e;rw[if_pos rfl]at hs⊢;rw[h.Af id hf ω n];have TU:(jC (aC c id) p).ag.bc=(if p.data=[]then(aC c id).ag.bc else f' (aC c id).ag.bc (dD p)):=ih;rw[TU];have ak:q8 [gE id p] id n=if mL id n (gE id p)then 1 else 0:=by unfold q8;rw[asZ,List.countP_nil];simp
   rw[ak];by_cases hd:p.data=[]
   ·rw[if_pos hd];have:mL id n (gE id p)=false:=by simp[mL,nf,gE,hd]
    rw[this];rfl
   rw[if_neg hd];have hr:=cz hd;have ar:mL id n (gE id p)=i1 (dD p) n:=by
    have:nf id (gE id p):=by simp[nf,gE,hd]
    unfold mL;rw[this,af_];rfl
   rw[ar,Kq qj.f.1 hr];cases hb:i1 (dD p) n
   ·simp
   have nY:gy (aC c id).ag.bC [dD p]=[dD p]:=by
    rcases an6 with g|g
    ·exact absurd g hd
    exact g
   have hp:cp (aC c id).ag.bC n:=by
    have:=T3 qj.p.1 hr n;rw[nY,mM,r5,Bool.or_false,hb,ate]at this;exact this.symm
   have an7:cp (aC c id).ag.bc n=false:=by
    cases hc2:cp (aC c id).ag.bc n
    ·rfl
    exact(ok.part.Kt n hp hc2).elim
   rw[an7];rfl
  rw[if_neg e]at aI hs⊢;have:q8 [gE id p] j n=0:=TZ λg hg _=>by rw[jn.1 hg];exact e
  rw[this,ao_];exact h.Af j aI hs n
 unfold aC;rw[key]at aI⊢;by_cases e:id=j
 ·rw[if_pos e];exact h.h_ id hf
 rw[if_neg e]at aI⊢;exact h.h_ j aI
theorem T4{m:Nat}(hm:m<=1000)(fs:List al):∀(n:Nat) (q:n5),bW m q.x->fo q.x->gY q.x (fs++q.b2)->gY (ja n q).x (fs++(ja n q).b2)
 |0,q,_,_,h=>h
 |n+1,q,hv,hc,h=>by
  rw[ja];split
  ·exact h
  rename_i cO;have hf:=F8 (q:=q) ω;split
  ·split
   ·rename_i hg;refine T4 hm fs n _ ?_ (Q6 hv hm hc _ _) ?_
    ·exact IB hv _ _ (by have:=Iy hv hm (fA q) q.room;show(m2 q.x (fA q) q.room).1.data.length<=_;omega)
    have:=an5 hv hm hc hg h;rw[ah_]at this;exact this
   exact h
  exact T4 hm fs n _ (IA hv hf) (Q4 hc hf) (h.nO (an1 q.x hf))
theorem an8{m:Nat}{c:J}(hv:bW m c)(hm:m<=1000)(h:k7 c)(b:Int):k7 (j_ c b):=by
 unfold j_;split
 ·rename_i hg;have hc:=pz.1 (by simp only[rJ,hZ,bm]at hg;exact hg.1.1.1);have h1:gY (ck c b).x (kd c.ai++(ck c b).b2):=acC (fc c) ⟨c,[],b⟩ (kd c.ai) (an3 (an2 hc h)) (by show gY c (kd c.ai++[]);rw[ix];exact h);obtain⟨k1,k2⟩:=Ma (m:=m) (fc c) ⟨c,[],b⟩ hv hc;have h2:gY (dy c b).x (kd c.ai++(dy c b).b2):=T4 hm (kd c.ai) 200 ⟨(ck c b).x,[],(ck c b).b2,(ck c b).room⟩ k2 k1 h1;have hs:=XS c b;split
  ·rename_i he;unfold k7;rw[hs.p];rw[he,ix]at h2;exact h2
  unfold k7;have e:kd ((dy c b).x.ai++[⟨c.bU,(dy c b).b2⟩])=kd c.ai++(dy c b).b2:=by
   unfold kd;rw[hs.p,ash,arM,auq,ix]
  rw[e];exact gY.nO h2 (eT.of rfl)
 exact h
theorem gY.an9{c:J}{fs gs:List al}(h:gY c fs)(k:fs.Perm gs):gY c gs:=
 ⟨λf hf=>h.ka f (k.mem_iff.2 hf),λf hf=>h.xY f (k.mem_iff.2 hf),λid hf hs n=>by rw[<-h.Af id hf hs n];exact(k.countP_eq _).symm,h.h_⟩
theorem gY.drop{c:J}{f:al}{fs:List al}(h:gY c (f::fs))(dK:f.aY≠8):gY c fs:=
 ⟨λg hg=>h.ka g (by simp[hg]),λg hg=>h.xY g (by simp[hg]),λid hf hs n=>by
  rw[<-h.Af id hf hs n,TX];have:mL id n f=false:=by simp[mL,nf,dK]
  rw[this];rfl,h.h_⟩
theorem gY.take{c d:J}{f:al}{fs:List al}{t:ae}(h:gY c (f::fs))(hd:d.aa=dv c.aa t)(hi:t.id=f.ax)(hf:(bQ c.aa f.ax).2)
  (hg:t.ag.bp<=3->(aC c f.ax).ag.bp<=3/\(∀n,cp t.ag.bc n=(cp (aC c f.ax).ag.bc n&&!mL f.ax n f))/\∀g,s9 (aC c f.ax).ag g->s9 t.ag g)
  (hs:t.i5=(aC c f.ax).i5) (ht:t.gK=(aC c f.ax).gK):gY d fs:=by
 have key:∀j,bQ d.aa j=if f.ax=j then(t,true)else bQ c.aa j:=λj=>by rw[hd,Kp,hi]
 refine⟨λg q9=>h.ka g (by simp[q9]),λg q9 hk=>?_,λj aI b4 n=>?_,λj aI=>?_⟩
 ·obtain⟨h1,h2⟩:=h.xY g (by simp[q9]) hk;unfold aC;rw[key];by_cases e:f.ax=g.ax
  ·rw[if_pos e];rw[<-e]at h2;exact⟨rfl,λq=>by obtain⟨a,_,b⟩:=hg q;exact b g (h2 a)⟩
  rw[if_neg e];exact⟨h1,h2⟩
 ·unfold aC at b4⊢;rw[key]at aI b4⊢;by_cases e:f.ax=j
  ·subst e;rw[if_pos rfl]at b4⊢;obtain⟨a,b,_⟩:=hg b4;have:=h.Af f.ax hf a n;rw[TX]at this;simp only;rw[b n];cases hb:mL f.ax n f
   ·rw[hb]at this;simpa using this
   rw[hb]at this;cases hc:cp (aC c f.ax).ag.bc n
   ·rw[hc]at this;simp at this
   rw[hc]at this;simp at this;simp[this]
  rw[if_neg e]at aI b4⊢;have:=h.Af j aI b4 n;rw[TX]at this;have hb:mL j n f=false:=by simp[mL,nf,e]
  rw[hb,if_neg ξ,ao_]at this;exact this
 unfold aC;rw[key]at aI⊢;by_cases e:f.ax=j
 ·rw[if_pos e];subst e;obtain⟨a,b⟩:=h.h_ f.ax hf;exact⟨hs.trans a,ht.trans b⟩
 rw[if_neg e]at aI⊢;exact h.h_ j aI
theorem aoa{s:aD}{p:bI}{B:Int}(hi:eJ B s)(hB:B<=1000000)(h1:0<=p.aP)(h2:p.aP+p.data.length<=s.aB.bS)(ao:p.aS->s.bf=p.aP+p.data.length):jX s p:=by
 have ak:=hi.ak;have cA:i64.wrap (s.aB.bS-p.aP)=s.aB.bS-p.aP:=by rw[bw]<;>omega
 have db:i64.wrap (p.aP+(p.data.length:Int))=p.aP+(p.data.length:Int):=by rw[bw]<;>omega
 simp only[jX,cA,db,bm,bH,ed,arG,ab_];refine⟨h1,by omega,by omega,?_⟩;cases hf:p.aS
 ·exact .inl rfl
 have:=ao hf;exact .inr ⟨by omega,by omega⟩
theorem aob{s:aD}{f:al}{B:Int}(hi:eJ B s)(hB:B<=1000000)(h:s9 s f):jX s (gQ f):=aoa hi hB h.1 h.2.1 h.2.2
theorem aoc{s:aD}{B:Int}(hi:eJ B s)(hB:B<=1000000)(h:dU s)(ao:s.bp=3)(n:Int):cp s.bc n=false:=by
 obtain⟨ok,b4⟩:=(Kn hi hB (Oj ω)).1 h;have hb:s.aS=3/\s.aB.base=s.aB.bS:=by
  rw[ao]at b4;unfold h7 at b4;split at b4
  ·assumption
  split at b4
  ·omega
  split at b4<;>omega
 cases hc:cp s.bc n
 ·rfl
 obtain⟨aod,iM⟩:=Ku hi.f hc;have g:=(T5 hi.a.1).2.1 n aod (by rw[ok.EU,hb.2];exact iM);exact(ok.part.Ou n hc g).elim
theorem acG{s t:aD}{f:al}{B:Int}(hi:eJ B s)(hB:B<=1000000)(h:dU s)(hk:f.aY=8)(ht:t=iw s (gQ f)\/t=iI s (gQ f))(hp:s.bp<=3->s9 s f) :
  t.bp<=3->s.bp<=3/\(∀n,cp t.bc n=(cp s.bc n&&!mL f.ax n f))/\∀g,s9 s g->s9 t g:=by
 intro b4;have Su:¬s.bp<=2->t=s:=λhn=>by
  have:j5 s (gQ f)=false:=by simp only[j5,bn hn,asQ,ap_]
  rcases ht with rfl|rfl
  ·unfold iw;rw[this];rfl
  unfold iI;rw[this];rfl
 by_cases h2:s.bp<=2
 ·have hin:=aob hi hB (hp ω);have hg:j5 s (gQ f):=by simp only[j5,h,hin,br h2,asg]
  obtain⟨dh,bO,cz,df,h8,oW⟩:=ET hi hB hin;have ef:t.bc=(if(gQ f).data=[]then s.bc else ia s.bc (gy s.bc [dD (gQ f)]))/\t.aB.bS=s.aB.bS/\t.bf=s.bf:=by
   rcases ht with rfl|rfl
   ·unfold iw;rw[if_pos hg];refine⟨?_,?_,?_⟩
    ·show(e_ 3 (fC s (gQ f)) (gQ f)).bc=_
     unfold e_ fC;split<;>split<;>rfl
    ·show(k5 s.aB _).bS=_
     exact(NA _ _).1
    show(e_ 3 (fC s (gQ f)) (gQ f)).bf=_
    unfold e_ fC;split<;>split<;>rfl
   unfold iI;rw[if_pos hg];unfold jY e_ jF;split<;>split<;>exact⟨rfl,rfl,rfl⟩
  obtain⟨dG,e9,f3⟩:=ef;refine⟨by omega,λn=>?_,λg aoe=>?_⟩
  ·rw[dG];by_cases hd:f.data=[]
   ·rw[if_pos (show(gQ f).data=[]from hd)];have:mL f.ax n f=false:=by simp[mL,nf,hd]
    rw[this];simp
   rw[if_neg (show ¬(gQ f).data=[]from hd),(T6 hi (cz hd)).2.2 n];have:mL f.ax n f=i1 (dD (gQ f)) n:=by
    have aof:nf f.ax f:=by simp[nf,hk,hd]
    unfold mL;rw[aof,af_];rfl
   rw[this]
  obtain⟨b5,b8,dI⟩:=aoe;exact⟨b5,by rw[e9];exact b8,λe=>by rw[f3];exact dI e⟩
 have e:=Su h2;rw[e]at b4⊢;have ao:s.bp=3:=by omega
 refine⟨b4,λn=>?_,λ_ hg=>hg⟩;rw[aoc hi hB h ao n];rfl
theorem aog{c:J}{s:ae}(h:dt s):dt (hO c s):=by
 unfold hO;split
 ·obtain⟨h0,ok⟩:=jE.1 h;exact jE.2 ⟨h0,ok.q,ok.r6,ok.r8,ok.ql,ok.r9,ok.q6,ok.r_,ok.eH,ok.eG,ok.eX,ok.mW,ok.jS,ok.c1,ok.cW⟩
 exact h
theorem aoh{c:J}(h:fo c){id:Int}(hf:(bQ c.aa id).2){s:ae}(cO:s.id=(aC c id).id)(hs:dt s)(he:s.ag.b0=(aC c id).ag.b0)(hr:s.aU=(aC c id).aU):fo (eO c s):=by
 have h1:=Ov h hf (s:=hO c s) ((z_ c s).2.2.trans cO) (aog hs) (by rw[(z_ c s).1];exact he) (by rw[(z_ c s).2.1];exact hr);have hA:(fI c s).own=c.own/\(fI c s).cP=c.cP/\(fI c s).cn=c.cn/\(fI c s).c7=c.c7/\(fI c s).eY=c.eY/\(fI c s).eZ=c.eZ/\(fI c s).dw=c.dw/\(fI c s).bU=c.bU/\(fI c s).dA=c.dA/\(fI c s).cX=c.cX/\i_ (fI c s).dB/\i_ (fI c s).dC:=by
  unfold fI;split
  ·split
   ·exact⟨rfl,rfl,rfl,rfl,rfl,rfl,rfl,rfl,rfl,rfl,h.mi,acH h.kc⟩
   exact⟨rfl,rfl,rfl,rfl,rfl,rfl,rfl,rfl,rfl,rfl,acH h.mi,h.kc⟩
  exact⟨rfl,rfl,rfl,rfl,rfl,rfl,rfl,rfl,rfl,rfl,h.mi,h.kc⟩
 obtain⟨cA,db,c0,eo,fr,fQ,f_,gk,gP,ib,nF,nG⟩:=hA;have hp:=(zk c s).2;exact⟨by show iz (fI c s).own=true;rw[cA];exact h.own,by show iz (fI c s).cP=true;rw[db];exact h.cP,h1.m3,h1.hH,h1.len,by show jM (fI c s).cn=true;rw[c0];exact h.o_,by show l9 (fI c s).c7=true;rw[eo];exact h.k3,by show km (fI c s).eY=true;rw[fr];exact h.mj,by show km (fI c s).eZ=true;rw[fQ];exact h.ml,nF,nG,
  by show rl (fI c s).bU (fI c s).ai=true;rw[gk,hp];exact h.hY,by show -1<=(fI c s).dw/\(fI c s).dw<=_;rw[f_];exact h.dw,by show 0<=(fI c s).bU/\(fI c s).bU<=_;rw[gk];exact h.num,by show 0<=(fI c s).dA/\(fI c s).dA<=_;rw[gP];exact h.dA,by show 0<=(fI c s).cX/\(fI c s).cX<=_;rw[ib];exact h.nN,
  by show _<=(fI c s).cn.dV;rw[c0];exact h1.b0,by show _<=(fI c s).c7.seen;rw[eo];exact h1.seen⟩
theorem Hc{c:J}{f:al}(h:qt c f):(bQ c.aa f.ax).2/\iv f.aY:=by
 simp only[qt,bm]at h;exact h
theorem abP{m:Nat}{c:J}(hv:bW m c)(hm:m<=1000)(hc:fo c){f:al}{fs:List al}(h:gY c (f::fs)):gY (ju c f) fs/\fo (ju c f)/\(ju c f).ai=c.ai:=by
 unfold ju;split
 ·rename_i hg;obtain⟨hf,_⟩:=Hc hg;have qj:eJ (8 * m) (aC c f.ax).ag:=(hv.aC f.ax).snd;have b4:=xW hc hf;obtain⟨k1,k2,dd⟩:=TO qj ω b4 f;have cO:=Fo (aC c f.ax) f;refine⟨?_,aoh hc hf cO k1 k2 dd,Hl _ _⟩;by_cases dK:f.aY=8
  ·have A7:=(h.xY f ξ dK).2;have pA:=(jE.1 b4).1;have e:fg (aC c f.ax) f=fF (aC c f.ax) (iw (aC c f.ax).ag (gQ f)):=by unfold fg;rw[if_pos dK]
   have hr:=acG qj ω pA dK (.inl rfl) A7;rw[e];have aG:=z_ c (fF (aC c f.ax) (iw (aC c f.ax).ag (gQ f)));refine h.take (t:=hO c (fF (aC c f.ax) (iw (aC c f.ax).ag (gQ f)))) rfl ?_ hf ?_ ?_ ?_
   ·rw[aG.2.2];exact kb hf
   ·rw[aG.1];exact hr
   ·unfold hO;split<;>rfl
   unfold hO;split<;>rfl
  have Bd:gN (aC c f.ax) (fg (aC c f.ax) f):=by
   unfold fg;rw[if_neg dK];split
   ·refine⟨λg=>?_,λg=>g,λg=>g⟩
    show(aC c f.ax).ag.bp<=3/\_
    have hh:(jJ (aC c f.ax).ag).bp<=3:=g;unfold jJ at hh⊢;split
    ·rename_i hr;rw[if_pos hr]at hh;simp at hh
    rename_i hr;rw[if_neg hr]at hh;exact⟨hh,λ_=>rfl,λ_ q=>q⟩
   split
   ·exact gN.same rfl rfl (.inr rfl)
   exact gN.refl _
  exact(h.drop dK).nO (Hk rfl hf (cO.trans (kb hf)) Bd)
 rename_i hg;refine⟨h.drop λdK=>hg ?_,hc,rfl⟩;have:=(h.xY f ξ dK).1;simp[qt,this,dK,iv]
theorem abR{m:Nat}{c:J}(hv:bW m c)(hm:m<=1000)(hc:fo c){f:al}{fs:List al}(h:gY c (f::fs)):gY (jK c f) fs/\fo (jK c f)/\(jK c f).ai=c.ai:=by
 unfold jK;split
 ·rename_i j';exact⟨(h.drop ω).nO (eT.of rfl),⟨hc.own,hc.cP,hc.m3,hc.hH,hc.len,hc.o_,hc.k3,hc.mj,hc.ml,hc.mi,hc.kc,hc.hY,hc.dw,hc.num,hc.dA,hc.nN,hc.b0,hc.seen⟩,rfl⟩
 split
 ·rename_i iB;split
  ·exact⟨(h.drop ω).nO (eT.of rfl),⟨hc.own,hc.cP,hc.m3,hc.hH,hc.len,hc.o_,hc.k3,hc.mj,hc.ml,hc.mi,hc.kc,hc.hY,hc.dw,hc.num,hc.dA,hc.nN,hc.b0,hc.seen⟩,rfl⟩
  exact⟨(h.drop ω).nO (eT.of rfl),⟨hc.own,hc.cP,hc.m3,hc.hH,hc.len,hc.o_,hc.k3,hc.mj,hc.ml,hc.mi,hc.kc,hc.hY,hc.dw,hc.num,hc.dA,hc.nN,hc.b0,hc.seen⟩,rfl⟩
 split
 ·rename_i hg;obtain⟨hf,_⟩:=Hc hg;have bR:f.aY≠5:=h.ka f ξ;have qj:eJ (8 * m) (aC c f.ax).ag:=(hv.aC f.ax).snd;have b4:=xW hc hf;obtain⟨k1,k2,dd⟩:=TP qj ω b4 f (λg=>absurd g bR);have cO:=J4 (aC c f.ax) f;refine⟨?_,Ov hc hf cO k1 k2 dd,rfl⟩;by_cases dK:f.aY=8
  ·have A7:=(h.xY f ξ dK).2;have pA:=(jE.1 b4).1;have e:gf (aC c f.ax) f=fF (aC c f.ax) (iI (aC c f.ax).ag (gQ f)):=by unfold gf;rw[if_pos dK]
   have hr:=acG qj ω pA dK (.inr rfl) A7;rw[e];exact h.take (t:=fF (aC c f.ax) (iI (aC c f.ax).ag (gQ f))) rfl (kb hf) hf hr rfl rfl
  have Bd:gN (aC c f.ax) (gf (aC c f.ax) f):=by
   unfold gf;rw[if_neg dK];split
   ·exact gN.same rfl rfl (.inl rfl)
   try rw[if_neg bR]
   split
   ·exact gN.same rfl rfl (.inl rfl)
   exact gN.refl _
  exact(h.drop dK).nO (ES rfl hf cO Bd)
 rename_i hg;refine⟨h.drop λdK=>hg ?_,hc,rfl⟩;have:=(h.xY f ξ dK).1;simp[qt,this,dK,iv]
theorem T7{m:Nat}(hm:m<=1000){g:J->al->J}(aE:∀c f,bW m c->bW m (g c f))(hg:∀{c:J} {f:al} {fs:List al},bW m c->fo c->gY c (f::fs)->gY (g c f) fs/\fo (g c f)/\(g c f).ai=c.ai) :
  ∀(l:List al) (c:J) (bM:List al),bW m c->fo c->gY c (l++bM)->gY (l.foldl g c) bM/\fo (l.foldl g c)/\(l.foldl g c).ai=c.ai
 |[],c,bM,_,hc,h=>⟨h,hc,rfl⟩
 |f::l,c,bM,hv,hc,h=>by
  rw[An];obtain⟨k1,k2,dd⟩:=hg hv hc h;obtain⟨Ep,Jg,RT⟩:=T7 hm aE hg l (g c f) bM (aE c f hv) k2 k1;exact⟨Ep,Jg,RT.trans dd⟩
theorem acI{n:Int}:∀{l:List aL} {p:aL},(l.map λp=>p.bU).Pairwise (·<·)->l.find? (f1 n)=some p->(kd l).Perm (p.bV++kd (l.filter λq=>!f1 n q))
 |[],_,_,h=>by cases h
 |q::l,p,hp,h=>by
  rw[fe,ag_]at hp;rw[atV]at h;have e:kd (q::l)=q.bV++kd l:=by unfold kd;rw[arM]
  rw[e,atg];cases hq:f1 n q
  ·rw[hq]at h;rw[if_pos ξ];have c_:=acI hp.2 h;have ar:kd (q::l.filter λq=>!f1 n q)=q.bV++kd (l.filter λq=>!f1 n q):=by unfold kd;rw[arM]
   rw[ar];refine(List.Perm.append_left _ c_).trans ?_;rw[<-ah_,<-ah_];exact List.Perm.append_right _ List.perm_append_comm
  rw[hq]at h;cases h
  have hn:q.bU=n:=by simpa [f1]using hq
  have hl:(l.filter λq=>!f1 n q)=l:=by
   rw[asR];intro r hr;have:=hp.1 _ (aa_.2 ⟨r,hr,rfl⟩);simp[f1];omega
  rw[if_neg ξ,hl]
theorem Od{c:J}(h:fo c)(n:Int):fo (g7 c n):=by
 refine⟨h.own,h.cP,h.m3,h.hH,h.len,h.o_,h.k3,h.mj,h.ml,h.mi,h.kc,?_,h.dw,h.num,h.dA,h.nN,h.b0,h.seen⟩;have hp:=h.hY;simp only[rl,Hf]at hp⊢;exact⟨λp AA=>hp.1 p (asC.1 AA).1,hp.2.sublist (auB.map _)⟩
theorem Oe{c:J}{n:Int}(hc:fo c)(h:k7 c)(hg:fD c n):gY (g7 c n) ((fP c.ai n).1.bV++kd (g7 c n).ai):=by
 have hp:=hc.hY;simp only[rl,Hf]at hp;simp only[fD,bm]at hg;have h2:=hg.2;unfold fP at h2⊢;split at h2
 ·rename_i p hf;exact(gY.an9 h (acI hp.2 hf)).nO (eT.of rfl)
 cases h2
theorem C2{c:J}{n:Int}(h:fD c n):ew c/\c.cX=0:=by
 simp only[fD,hZ,bm,bH]at h;exact h.1
theorem acJ{m:Nat}{c:J}(hv:bW m c)(hm:m<=1000)(h:k7 c){n:Int}(hg:fD c n):k7 (hK c n)/\fo (hK c n)/\(hK c n).ai=c.ai.filter λp=>!f1 n p:=by
 have hc:=pz.1 (C2 hg).1;unfold hK;rw[if_pos hg];obtain⟨k1,k2,dd⟩:=T7 hm (λc f h=>HD h f) (λhv hc h=>abP hv hm hc h) _ (g7 c n) (kd (g7 c n).ai) (zj hv n) (Od hc n) (Oe hc h hg);refine⟨?_,k2,dd⟩;unfold k7;rw[dd];exact k1
theorem TL{m:Nat}{c:J}(hv:bW m c)(hm:m<=1000)(h:k7 c){n:Int}(hg:fD c n):k7 (g0 c n)/\fo (g0 c n)/\(g0 c n).ai=c.ai.filter λp=>!f1 n p:=by
 have hc:=pz.1 (C2 hg).1;unfold g0;rw[if_pos hg];obtain⟨k1,k2,dd⟩:=T7 hm (λc f h=>HJ h f) (λhv hc h=>abR hv hm hc h) _ (g7 c n) (kd (g7 c n).ai) (zj hv n) (Od hc n) (Oe hc h hg);refine⟨?_,k2,dd⟩;unfold k7;rw[dd];exact k1
theorem aoi{m:Nat}{x y:J}(hv:bW m x)(hm:m<=1000)(aG:jq x)(h:k7 x)(hs:p7 x y):k7 y:=by
 cases hs with
 |same=>exact h
 |F3 u=>
  refine h.nO (anM aG u) ?_;unfold l8;split
  ·split
   ·exact(NH x u).2
   exact(NH x u).2
  rfl
 |LX id d hd=>exact h.nO (anN x id d) (by unfold my;split<;>rfl)
 |aS id=>exact h.nO (anO x id) (by unfold zu;split<;>rfl)
 |fa id k=>
  refine h.nO (anR x id k) ?_;unfold mD;split
  ·rw[Hl,(JT x id k).2]
  rfl
 |LY id k=>
  refine h.nO (anQ x id k) ?_;unfold mx;split
  ·exact Hl _ _
  rfl
 |LZ id t=>exact h.nO (anP x id t) (by unfold mw;split<;>rfl)
 |em b=>exact an8 hv hm h b
 |hf f hd ayN=>exact h.nO (anX hv aG f) (anY x f)
 |L0 n=>
  cases hg:fD x n
  ·unfold g0;rw[hg];exact h
  exact(TL hv hm h hg).1
 |L1 n=>
  cases hg:fD x n
  ·unfold hK;rw[hg];exact h
  exact(acJ hv hm h hg).1
theorem aoj(v:Bool)(o p:e5):k7 (rC v o p):=by
 have hs:(rC v o p).aa=[]/\(rC v o p).ai=[]:=by unfold rC;split<;>exact⟨rfl,rfl⟩
 unfold k7;rw[hs.2];have hn:∀id,(bQ (rC v o p).aa id).2=false:=λid=>by rw[hs.1];rfl
 exact⟨λf hf=>(by cases hf),λf hf=>(by cases hf),λid hf=>(by rw[hn]at hf;cases hf),λid hf=>(by rw[hn]at hf;cases hf)⟩
theorem aok{k:Nat}{x:J}(h:rB k x):k<=1000->k7 x:=by
 induction h with
 |new v o p=>exact λ_=>aoj v o p
 |@step k x y hx hs c_=>exact λhk=>aoi (hx.pf ω) ω (acK hx ω) (c_ ω) hs
theorem qv.Kv{y:J}(h:qv y):k7 y:=by
 obtain⟨x,a,b,c,d,hx,rfl⟩:=h;exact gY.nO (c:=x) (aok hx ω) (eT.of rfl)
def su(ok Fy:ae->Bool)(c:J):Bool:=qC ok c&&ss ok c&&DM ok c&&qA ok Fy c
theorem V2(c:J)(hz:gZ c):aM 13 [.agg (J.enc c)] [.one (.bool (su dt gL c))]:=by
 refine ayE 17 func13 call13 [.tmp 2] ?_;cases h1:qC dt c<;>cases h2:ss dt c<;>cases ao:DM dt c
 all_goals
  try simp only[go_sem]
  repeat'(first
   |((first|refine af.intro (by first|assumption|(apply V3<;>exact aT)|(apply V4<;>exact aT)|(apply VR<;>exact aT)|(apply VP<;>exact aT)) ?_|refine av.intro (by first|assumption|(apply V3<;>exact aT)|(apply V4<;>exact aT)|(apply VR<;>exact aT)|(apply VP<;>exact aT)) ?_|with_reducible apply cG|with_reducible apply dp|with_reducible apply mr|with_reducible apply lv|apply bo|apply fY)<;>simp only[go_sem,h1,h2,ao])
   |refine⟨ae7,?_⟩|fail)
  simp[su,h1,h2,ao]
theorem Kl{α:Type}(p:α->Bool)(t:α):∀(l:List α) (i:Nat) (hi:i<l.length),(l.set i t).countP p+(if p l[i]then 1 else 0)=l.countP p+(if p t then 1 else 0)
 |x::l,0,_=>by simp only[aua,asZ,List.getElem_cons_zero];omega
 |x::l,i+1,hi=>by
  have:=Kl p t l i (by simpa using hi);simp only[atX,asZ,azM];omega
theorem abK{α:Type}{p q:α->Bool}{l:List α}(h:∀x∈l,q x->p x){x:α}(hx:x∈l)(hp:p x)(hq:q x=false):l.countP q+1<=l.countP p:=by
 induction l with
 |nil=>cases hx
 |cons y l c_=>
  rw[asZ,asZ];have hm:l.countP q<=l.countP p:=List.countP_mono_left λz hz=>h z (by simp[hz]);rcases rD.1 hx with rfl|hx
  ·rw[hp,hq];simp;omega
  have:=c_ (λz hz=>h z (by simp[hz])) hx;have hy:=h y ξ;cases Mp:q y
  ·simp;omega
  rw[hy Mp];simp;omega
theorem ab1:∀(l:List Int) (cr hi:Int),cr<=hi->l.Pairwise (·<·)->(∀n∈l,cr<=n/\n<hi)->(l.length:Int)<=hi-cr
 |[],cr,hi,h,_,_=>by simp;omega
 |x::l,cr,hi,h,hp,hb=>by
  rw[ag_]at hp;obtain⟨h1,h2⟩:=hb x ξ;have:=ab1 l (x+1) hi ω hp.2 λn hn=>⟨by have:=hp.1 n hn;omega,(hb n (by simp[hn])).2⟩;rw[e0];omega
def y_(v u:Bool)(s:ae):Bool:=!jw v s.id&&(la s.id == u)
theorem abL{c:J}(aG:jq c)(u:Bool):((c.aa.countP (y_ c.bq u):Nat):Int)<=ln c u:=by
 have key:∀n∈(c.aa.filter (y_ c.bq u)).map λs=>s.id,n % 4=iJ (!c.bq)+2 * iJ u/\0<=n / 4/\n / 4<ln c u:=by
  intro n hn;obtain⟨s,hs,rfl⟩:=aa_.1 hn;obtain⟨h1,h2⟩:=asC.1 hs;have hm:s.id∈sj c:=aa_.2 ⟨s,h1,rfl⟩;have hq:=aG.q _ hm;have yf:=mC.1 hq;simp only[y_,bm,ab_,beq_iff_eq]at h2;obtain⟨k1,k2⟩:=h2;rw[TM hq,eC]at k1;rw[TN hq]at k2;have dd:=aG.cP _ hm k1;rw[k2]at dd;refine⟨?_,by omega,dd⟩;cases hv:c.bq<;>cases u<;>simp[hv]at k1 k2<;>simp[iJ]<;>omega
 have n8:((c.aa.filter (y_ c.bq u)).map λs=>s.id).Pairwise (·<·):=aG.hH.sublist (auB.map _);have aH:(((c.aa.filter (y_ c.bq u)).map λs=>s.id).map λn=>n / 4).Pairwise (·<·):=by
  rw[List.pairwise_map];refine n8.imp_of_mem λha hb na=>?_;have h1:=(key _ ha).1;have h2:=(key _ hb).1;omega
 have:=ab1 _ 0 (ln c u) (aG.Ng u) aH λn hn=>by
  obtain⟨k,hk,rfl⟩:=aa_.1 hn;exact(key k hk).2
 rw[I,I,<-List.countP_eq_length_filter]at this;omega
def l3(s:ae):Int×d6×ej×cf×Int×Bool:=(s.id,s.cL,s.bL,s.aU,s.ag.b0,s.fS)
structure s8(c d:J):Prop where
 v:d.bq=c.bq
 o_:d.cn=c.cn
 k3:d.c7=c.c7
 mj:d.eY=c.eY
 ml:d.eZ=c.eZ
 qU:d.dB.seen=c.dB.seen
 Hd:d.dC.seen=c.dC.seen
 nN:d.cX=c.cX
 BE:d.aa.map l3=c.aa.map l3
theorem s8.refl(c:J):s8 c c:=⟨rfl,rfl,rfl,rfl,rfl,rfl,rfl,rfl,rfl⟩
theorem s8.trans{c d e:J}(h:s8 c d)(k:s8 d e):s8 c e:=⟨k.v.trans h.v,k.o_.trans h.o_,k.k3.trans h.k3,k.mj.trans h.mj,k.ml.trans h.ml,k.qU.trans h.qU,k.Hd.trans h.Hd,k.nN.trans h.nN,k.BE.trans h.BE⟩
structure C4(c:J):Prop where
 i7:∀s∈c.aa,jw c.bq s.id=false->s.gu=gL s
 b:((c.aa.countP (gT c.bq):Nat):Int)=c.dB.cX
 u:((c.aa.countP (gS c.bq):Nat):Int)=c.dC.cX
theorem ab2{c:J}{id:Int}(hf:(bQ c.aa id).2){s:ae}(cO:s.id=(aC c id).id)(hk:l3 s=l3 (aC c id)):(dv c.aa s).map l3=c.aa.map l3:=by
 have hi:s.id=id:=cO.trans (kb hf);have s7:(bQ c.aa s.id).2:=by rw[hi];exact hf
 refine Oh l3 s7 ?_;rw[hk,hi];rfl
theorem anm{c:J}{id:Int}(hf:(bQ c.aa id).2){s:ae}(cO:s.id=(aC c id).id)(hk:l3 s=l3 (aC c id)):s8 c (eO c s):=by
 have h1:l3 (hO c s)=l3 s:=by unfold hO;split<;>rfl
 have h2:=ab2 hf (s:=hO c s) ((z_ c s).2.2.trans cO) (h1.trans hk);unfold eO fI;split
 ·split
  ·exact⟨rfl,rfl,rfl,rfl,rfl,rfl,Oi _,rfl,h2⟩
  exact⟨rfl,rfl,rfl,rfl,rfl,Oi _,rfl,rfl,h2⟩
 exact⟨rfl,rfl,rfl,rfl,rfl,rfl,rfl,rfl,h2⟩
theorem ann{s:ae}{B:Int}(hi:eJ B s.ag)(hB:B<=1000000)(h:dt s)(f:al):l3 (fg s f)=l3 s:=by
 have hs:=(TO hi hB h f).2.1;unfold l3;rw[hs];unfold fg
 repeat' split
 all_goals rfl
theorem ano{s:ae}{B:Int}(hi:eJ B s.ag)(hB:B<=1000000)(h:dt s)(f:al)(b4:f.aY=5->s.i5):l3 (gf s f)=l3 s:=by
 have hs:=(TP hi hB h f b4).2.1;unfold l3;rw[hs];unfold gf
 repeat' split
 all_goals rfl
theorem ang{m:Nat}{c:J}(hv:bW m c)(hm:m<=1000)(hc:fo c)(f:al):s8 c (ju c f):=by
 unfold ju;split
 ·rename_i hg;obtain⟨hf,_⟩:=Hc hg;exact anm hf (Fo _ f) (ann (hv.aC f.ax).snd ω (xW hc hf) f)
 exact s8.refl c
theorem anh{m:Nat}{c:J}(hv:bW m c)(hm:m<=1000)(hc:fo c){f:al}(bR:f.aY≠5):s8 c (jK c f):=by
 unfold jK
 repeat' split
 all_goals first
  |exact s8.refl c
  |exact⟨rfl,rfl,rfl,rfl,rfl,rfl,rfl,rfl,rfl⟩
  |(rename_i hg
    obtain⟨hf,_⟩:=Hc hg;exact⟨rfl,rfl,rfl,rfl,rfl,rfl,rfl,rfl,ab2 hf (J4 _ f) (ano (hv.aC f.ax).snd ω (xW hc hf) f (λg=>absurd g bR))⟩)
theorem am4{s:ae}{B:Int}(hi:eJ B s.ag)(hB:B<=1000000)(h:dt s)(f:al)(aG:gL s):gL (fg s f):=by
 have hk:=TO hi hB h f;simp only[gL,bm]at aG⊢;obtain⟨⟨_,eI⟩,gH⟩:=aG;have q4:(fg s f).ft=s.ft/\(fg s f).fS=s.fS:=by
  unfold fg
  repeat' split
  all_goals exact⟨rfl,rfl⟩
 refine⟨⟨hk.1,?_⟩,?_⟩
 ·simp only[C7,arG,ab_,bH]at eI⊢;rw[q4.1];rcases eI with (eI|eI)|eI
  ·exact .inl (.inl eI)
  ·refine .inl (.inr ?_);unfold fg;split
   ·show(iw s.ag (gQ f)).bp=3
    unfold iw;rw[if_neg (by simp[j5,eI])];exact eI
   split
   ·show(jJ s.ag).bp=3
    unfold jJ;rw[if_neg (by simp[oM,eI])];exact eI
   split<;>exact eI
  refine .inr ?_;unfold fg;split
  ·show(iw s.ag (gQ f)).bp=5
   unfold iw;rw[if_neg (by simp[j5,eI])];exact eI
  split
  ·show(jJ s.ag).bp=5
   unfold jJ;rw[if_neg (by simp[oM,eI])];exact eI
  split<;>exact eI
 unfold C8 at gH⊢;rw[q4.2,hk.2.2];exact gH
theorem anp{s:aD}{p:bI}{B:Int}(hi:eJ B s)(hB:B<=1000000)(h:dU s):((iI s p).bp=3↔s.bp=3)/\((iI s p).bp=5↔s.bp=5):=by
 unfold iI;split
 ·rename_i hg;simp only[j5,bm,bH,ed]at hg;have b4:=((Kn hi hB (Oj ω)).1 h).2;have hn:¬(s.aS=3/\s.aB.base=s.aB.bS):=λg=>by
   unfold h7 at b4;rw[if_pos g]at b4;omega
  have hr:(e_ 1 (jF s p) p).aB=s.aB:=by unfold e_ jF;split<;>split<;>rfl
  have hf:(e_ 1 (jF s p) p).aS=3->s.aS=3:=by
   unfold e_;split
   ·intro g;simp at g
   intro g;rw[<-g];unfold jF;split<;>rfl
  have ao:(jY (e_ 1 (jF s p) p)).bp≠3:=by
   show h7 (e_ 1 (jF s p) p)≠3
   unfold h7;rw[if_neg (λg=>hn ⟨hf g.1,by rw[hr]at g;exact g.2⟩)]
   repeat' split
   all_goals omega
  have bR:=(TK (e_ 1 (jF s p) p)).2;refine⟨⟨λg=>absurd g ao,λg=>by omega⟩,⟨λg=>?_,λg=>by omega⟩⟩;have:h7 (e_ 1 (jF s p) p)=5:=g;omega
 ·exact⟨aAF,aAF⟩
theorem ane{s:ae}{B:Int}(hi:eJ B s.ag)(hB:B<=1000000)(h:dt s)(f:al)(b4:f.aY=5->s.i5):gL (gf s f)=gL s/\(gf s f).gu=s.gu:=by
 have hk:=TP hi hB h f b4;have hc:(gf s f).ft=s.ft/\(gf s f).fS=s.fS/\(gf s f).gu=s.gu:=by
  unfold gf
  repeat' split
  all_goals exact⟨rfl,rfl,rfl⟩
 have hs:((gf s f).ag.bp=3↔s.ag.bp=3)/\((gf s f).ag.bp=5↔s.ag.bp=5):=by
  unfold gf;split
  ·exact anp hi hB (jE.1 h).1
  repeat' split
  all_goals exact⟨aAF,aAF⟩
 refine⟨?_,hc.2.2⟩;unfold gL;rw[hk.1,h]
 congr 1
 ·congr 1
  unfold C7;rw[hc.1,decide_eq_decide.2 hs.1,decide_eq_decide.2 hs.2]
 unfold C8;rw[hc.2.1,hk.2.2]
theorem am5{c:J}{s:ae}:gL (hO c s)=gL s:=by
 unfold hO;split
 ·rfl
 rfl
theorem am3{m:Nat}{c:J}(hv:bW m c)(hm:m<=1000)(hc:fo c)(aG:jq c)(h:C4 c)(f:al):C4 (ju c f):=by
 unfold ju;split
 ·rename_i hg;obtain⟨hf,_⟩:=Hc hg;have b4:=xW hc hf;have cO:=Fo (aC c f.ax) f;have hi:(aC c f.ax).id=f.ax:=kb hf;have BD:aC c f.ax∈c.aa:=(Bu hf).2;have sQ:(fg (aC c f.ax) f).gu=(aC c f.ax).gu:=by
   unfold fg
   repeat' split
   all_goals rfl
  have HG:=am4 (hv.aC f.ax).snd ω b4 f;obtain⟨s,hs⟩:∃s,s=aC c f.ax:=⟨_,rfl⟩;obtain⟨cT,lV⟩:∃t,t=fg (aC c f.ax) f:=⟨_,rfl⟩;rw[<-lV]at cO sQ HG⊢;rw[<-hs]at cO sQ HG hi BD;have TD:=(z_ c cT).2.2;have s7:(bQ c.aa (hO c cT).id).2:=by rw[TD,cO,hi];exact hf
  obtain⟨i,Ef,dP,dO⟩:=Oc s7;have TE:c.aa[i]=s:=by rw[dO,TD,cO,hi,hs];rfl
  have a5:(eO c cT).aa=c.aa.set i (hO c cT):=dP;have xX:(eO c cT).bq=c.bq:=by
   unfold eO fI;split
   ·split<;>rfl
   rfl
  have hcs:=h.i7 s BD;have rR:=Kl (gT c.bq) (hO c cT) c.aa i Ef;have y9:=Kl (gS c.bq) (hO c cT) c.aa i Ef;rw[TE]at rR y9;have ye:∀x∈(eO c cT).aa,jw (eO c cT).bq x.id=false->x.gu=gL x:=by
   intro x hx Ae;rw[xX]at Ae;rcases zw hx with g|g
   ·exact h.i7 x g Ae
   rw[g]at Ae⊢;rw[am5];rw[TD,cO]at Ae;have h1:=hcs Ae;unfold hO;split
   ·rename_i hB;simp only[om,bm]at hB;rw[hB.2]
   rename_i hB;rw[sQ,h1];cases abI:gL s
   ·cases am6:gL cT
    ·rfl
    exfalso;apply hB;simp only[om,am6,sQ,h1,abI,cO,Ae,b7,asg]
   rw[HG abI]
  cases hB:om c cT
  ·have cR:hO c cT=cT:=by unfold hO;rw[hB];rfl
   have a3:fI c cT=c:=by unfold fI;rw[hB];rfl
   rw[cR]at rR y9;have ak:gT c.bq cT=gT c.bq s:=by unfold gT;rw[cO,sQ]
   have ar:gS c.bq cT=gS c.bq s:=by unfold gS;rw[cO,sQ]
   rw[ak]at rR;rw[ar]at y9;refine⟨ye,?_,?_⟩
   ·rw[a5,xX,cR]
    show _=(fI c cT).dB.cX
    rw[a3,<-h.b];omega
   rw[a5,xX,cR]
   show _=(fI c cT).dC.cX
   rw[a3,<-h.u];omega
  have abJ:=hB;simp only[om,bm,ab_,sQ,cO]at abJ;obtain⟨⟨eH,eG⟩,eX⟩:=abJ;have cR:hO c cT={cT with gu:=true}:=by unfold hO;rw[hB];rfl
  have am7:gT c.bq (hO c cT)=!la s.id:=by rw[cR];unfold gT;simp only[cO,eG];rfl
  have am8:gS c.bq (hO c cT)=la s.id:=by rw[cR];unfold gS;simp only[cO,eG];rfl
  have qU:gT c.bq s=false:=by unfold gT;rw[eH];simp
  have Hd:gS c.bq s=false:=by unfold gS;rw[eH];simp
  rw[am7,qU]at rR;rw[am8,Hd]at y9;cases kl:la s.id
  ·rw[kl]at rR y9;have a3:fI c cT={c with dB:=jy c.dB}:=by unfold fI;rw[hB,if_pos rfl,cO,kl,if_neg ξ]
   have am9:=abK (p:=y_ c.bq false) (q:=gT c.bq) (l:=c.aa) (λx _ hx=>by
    simp only[gT,y_,bm,ab_]at hx⊢;exact⟨hx.1,by rw[hx.2.2];rfl⟩) BD (by simp[y_,eG,kl]) qU
   have ana:=abL aG false;have TF:=C5.1 hc.mi;have o4:=h.b;have anb:ln c false=c.dB.seen:=rfl;have TG:q0 c.dB:=by
    simp only[q0,hc.mi,af_,bH];omega
   refine⟨ye,?_,?_⟩
   ·rw[a5,xX]
    show _=(fI c cT).dB.cX
    rw[a3]
    show _=(jy c.dB).cX
    unfold jy;rw[if_pos TG]
    show _=i64.wrap (c.dB.cX+1)
    rw[bw ω ω];simp at rR;omega
   rw[a5,xX]
   show _=(fI c cT).dC.cX
   rw[a3];have:=h.u;simp at y9
   show _=c.dC.cX
   omega
  rw[kl]at rR y9;have a3:fI c cT={c with dC:=jy c.dC}:=by unfold fI;rw[hB,if_pos rfl,cO,kl,if_pos rfl]
  have am9:=abK (p:=y_ c.bq true) (q:=gS c.bq) (l:=c.aa) (λx _ hx=>by
   simp only[gS,y_,bm]at hx⊢;exact⟨hx.1,by rw[hx.2.2];rfl⟩) BD (by simp[y_,eG,kl]) Hd
  have ana:=abL aG true;have TF:=C5.1 hc.kc;have abM:=h.u;have anb:ln c true=c.dC.seen:=rfl;have TG:q0 c.dC:=by
   simp only[q0,hc.kc,af_,bH];omega
  refine⟨ye,?_,?_⟩
  ·rw[a5,xX]
   show _=(fI c cT).dB.cX
   rw[a3];have:=h.b;simp at rR
   show _=c.dB.cX
   omega
  rw[a5,xX]
  show _=(fI c cT).dC.cX
  rw[a3]
  show _=(jy c.dC).cX
  unfold jy;rw[if_pos TG]
  show _=i64.wrap (c.dC.cX+1)
  rw[bw ω ω];simp at y9;omega
 ·exact h
theorem anc{m:Nat}{c:J}(hv:bW m c)(hm:m<=1000)(hc:fo c)(h:C4 c){f:al}(bR:f.aY≠5):C4 (jK c f):=by
 unfold jK;split
 ·exact⟨h.i7,h.b,h.u⟩
 split
 ·split<;>exact⟨h.i7,h.b,h.u⟩
 split
 ·rename_i hg;obtain⟨hf,_⟩:=Hc hg;have b4:=xW hc hf;have cO:=J4 (aC c f.ax) f;have hi:(aC c f.ax).id=f.ax:=kb hf;have BD:aC c f.ax∈c.aa:=(Bu hf).2;obtain⟨dQ,eI⟩:=ane (hv.aC f.ax).snd ω b4 f (λg=>absurd g bR);obtain⟨s,hs⟩:∃s,s=aC c f.ax:=⟨_,rfl⟩;obtain⟨cT,lV⟩:∃t,t=gf (aC c f.ax) f:=⟨_,rfl⟩;rw[<-lV]at cO dQ eI⊢;rw[<-hs]at cO dQ eI hi BD;have s7:(bQ c.aa cT.id).2:=by rw[cO,hi];exact hf
  obtain⟨i,Ef,dP,dO⟩:=Oc s7;have TE:c.aa[i]=s:=by rw[dO,cO,hi,hs];rfl
  have rR:=Kl (gT c.bq) cT c.aa i Ef;have y9:=Kl (gS c.bq) cT c.aa i Ef;rw[TE]at rR y9;have ak:gT c.bq cT=gT c.bq s:=by unfold gT;rw[cO,eI]
  have ar:gS c.bq cT=gS c.bq s:=by unfold gS;rw[cO,eI]
  rw[ak]at rR;rw[ar]at y9;refine⟨λx hx Ae=>?_,?_,?_⟩
  ·rcases zw hx with g|g
   ·exact h.i7 x g Ae
   rw[g]at Ae⊢;have abN:jw c.bq cT.id=false:=Ae;rw[cO]at abN;rw[dQ,eI];exact h.i7 s BD abN
  ·show(((dv c.aa cT).countP (gT c.bq):Nat):Int)=c.dB.cX
   rw[dP,<-h.b];omega
  show(((dv c.aa cT).countP (gS c.bq):Nat):Int)=c.dC.cX
  rw[dP,<-h.u];omega
 exact h
structure C6(AL c:J):Prop where
 o:jq c
 G_:C4 AL->C4 c
 kc:s8 AL c
theorem TH{m:Nat}(hm:m<=1000){g:J->al->J}(aE:∀c f,bW m c->bW m (g c f))(hg:∀{c:J} {f:al} {fs:List al},bW m c->fo c->gY c (f::fs)->gY (g c f) fs/\fo (g c f)/\(g c f).ai=c.ai)
  {AL:J} (aI:∀{c:J} {f:al} {fs:List al},bW m c->fo c->gY c (f::fs)->C6 AL c->C6 AL (g c f)) :
  ∀(l:List al) (c:J) (bM:List al),bW m c->fo c->gY c (l++bM)->C6 AL c->C6 AL (l.foldl g c)
 |[],_,_,_,_,_,h=>h
 |f::l,c,bM,hv,hc,h,j=>by
  rw[An];obtain⟨k1,k2,_⟩:=hg hv hc h;exact TH hm aE hg aI l (g c f) bM (aE c f hv) k2 k1 (aI hv hc h j)
theorem abO{c:J}(aG:jq c)(n:Int):C6 c (g7 c n):=⟨aG.ob ⟨rfl,rfl,rfl,rfl,rfl,rfl⟩,λh=>⟨h.i7,h.b,h.u⟩,⟨rfl,rfl,rfl,rfl,rfl,rfl,rfl,rfl,rfl⟩⟩
theorem anf{m:Nat}{c:J}(hv:bW m c)(hm:m<=1000)(aG:jq c)(h:k7 c){n:Int}(hg:fD c n):C6 c (hK c n):=by
 have hc:=pz.1 (C2 hg).1;unfold hK;rw[if_pos hg];exact TH hm (λc f h=>HD h f) (λhv hc h=>abP hv hm hc h) (fun {c f fs} hv hc h j=>⟨j.o.ob (Pj c f),λq=>am3 hv hm hc j.o (j.G_ q) f,j.kc.trans (ang hv hm hc f)⟩) _ (g7 c n) (kd (g7 c n).ai) (zj hv n) (Od hc n) (Oe hc h hg) (abO aG n)
theorem abQ{m:Nat}{c:J}(hv:bW m c)(hm:m<=1000)(aG:jq c)(h:k7 c){n:Int}(hg:fD c n):C6 c (g0 c n):=by
 have hc:=pz.1 (C2 hg).1;unfold g0;rw[if_pos hg];exact TH hm (λc f h=>HJ h f) (λhv hc h=>abR hv hm hc h) (fun {c f fs} hv hc h j=>⟨j.o.ob (abS c f),λq=>anc hv hm hc (j.G_ q) (h.ka f ξ),j.kc.trans (anh hv hm hc (h.ka f ξ))⟩) _ (g7 c n) (kd (g7 c n).ai) (zj hv n) (Od hc n) (Oe hc h hg) (abO aG n)
theorem abT{m:Nat}{c:J}(hv:bW m c)(hm:m<=1000)(hc:fo c)(h:k7 c):∀s∈c.aa,s.ag.bp<=3->s.ag.bc=DK c.ai s.id:=by
 intro s hs ao;have e:=abU hc.hH hs;have aE:aC c s.id=s:=by unfold aC;rw[e]
 have xX:=(hv.i7 s hs).snd;have hok:∀f∈kd c.ai,nf s.id f->c8 (DN f):=λf hf hg=>by
  simp only[nf,bm,bH]at hg;obtain⟨⟨b5,b8⟩,dI⟩:=hg;have:=(h.xY f hf b5).2;rw[b8,aE]at this;obtain⟨k1,k2,_⟩:=this ao;have ak:=xX.ak;have hl:=aq_.2 dI;rw[gr];simp only[DN];rw[bw]<;>omega
 rw[ani];have hA:=λn=>abV (id:=s.id) (n:=n) (kd c.ai) [] (by simp[cN]) hok;refine abW xX.f.1 (hA 0).1 λn=>?_;rw[(hA n).2,r5,Bool.false_or];have sQ:=h.Af s.id (by rw[e]) (by rw[aE];exact ao) n;rw[aE]at sQ
 cases hb:cp s.ag.bc n
 ·rw[hb,if_neg ξ]at sQ;cases ha:(kd c.ai).any (mL s.id n)
  ·rfl
  have:=abX.1 ha;omega
 rw[hb,if_pos rfl]at sQ;exact(abX.2 ω).symm
theorem abY{f:Int×d6×ej×cf×Int×Bool->Bool}{p:ae->Bool}(hp:∀s,p s=f (l3 s)){l m9:List ae}(h:m9.map l3=l.map l3):m9.all p=l.all p:=by
 have e:∀l:List ae,l.all p=(l.map l3).all f:=λl=>by
  rw[List.all_map]
  congr 1
  funext s
  exact hp s
 rw[e,e,h]
theorem TI{β:Type}{f:Int×d6×ej×cf×Int×Bool->β}{p:ae->β}(hp:∀s,p s=f (l3 s)){l m9:List ae}(h:m9.map l3=l.map l3):m9.map p=l.map p:=by
 have e:∀l:List ae,l.map p=(l.map l3).map f:=λl=>by
  rw[auf]
  congr 1
  funext s
  exact hp s
 rw[e,e,h]
theorem abZ:∀(l m9:List ae) (n:Int),(l.map λs=>s.bL.fa)=(m9.map λs=>s.bL.fa)->l.foldl pV n=m9.foldl pV n
 |[],[],_,_=>rfl
 |[],_::_,_,h=>by simp at h
 |_::_,[],_,h=>by simp at h
 |x::l,y::m9,n,h=>by
  simp only[fe,atR]at h;rw[An,An,show pV n x=pV n y by unfold pV;rw[h.1]];exact abZ l m9 _ h.2
theorem Of{c:J}(h:fo c)(f:ae->Int):lx dt f c.aa=c.aa.foldl (lB f) 0:=by
 unfold lx;rw[TJ.2 ⟨h.m3,h.hH,h.len⟩,if_pos rfl]
theorem anj{c:J}(h:qA dt gL c):C4 c:=by
 simp only[qA,DJ,bm,ae_,bH,ed]at h;obtain⟨_,h1,_,_,h2,ao⟩:=h;refine⟨λs hs aG=>?_,h2,ao⟩;have:=h1 s hs;simp only[nV,aG,b7,af_,ab_,bne_eq_false_iff_eq]at this;exact this
theorem ank{m:Nat}{c d:J}(hv:bW m d)(hm:m<=1000)(hcc:fo c)(hc:fo d)(hp:k7 d)(ha:s8 c d)(Og:C4 d)(h:su dt gL c):su dt gL d:=by
 simp only[su,bm]at h⊢;obtain⟨⟨⟨h1,h2⟩,ao⟩,aH⟩:=h;have hd:oi dt d:=pz.2 hc;refine⟨⟨⟨?_,?_⟩,?_⟩,?_⟩
 ·simp only[qC,bm,bH]at h1⊢;refine⟨⟨hd,?_⟩,?_⟩
  ·rw[abY (p:=rn) (f:=λk=>!decide (k.2.1.dV≠k.2.2.2.2.1)) (λs=>rfl) ha.BE];exact h1.1.2
  rw[Of hc,ha.o_,<-h1.2,Of hcc];exact He _ _ _ _ (TI (p:=i9) (f:=λk=>k.2.2.2.2.1) (λs=>rfl) ha.BE)
 ·simp only[ss,bm,bH]at h2⊢;refine⟨⟨⟨hd,?_⟩,?_⟩,?_⟩
  ·rw[abY (p:=λs=>!pU s) (f:=λk=>!((k.2.2.2.2.2&&decide (k.2.2.1.seen≠k.2.2.2.1.fR))||decide (k.2.2.1.fa<k.2.2.2.1.bT.next))) (λs=>rfl) ha.BE];exact h2.1.1.2
  ·rw[Of hc,ha.k3,<-h2.1.2,Of hcc];exact He _ _ _ _ (TI (p:=kj) (f:=λk=>k.2.2.2.1.fR) (λs=>rfl) ha.BE)
  rw[ha.k3,<-h2.2];exact abZ _ _ _ (TI (p:=λs=>s.bL.fa) (f:=λk=>k.2.2.1.fa) (λs=>rfl) ha.BE)
 ·simp only[DM,bm,ae_];refine⟨hd,λs hs=>?_⟩;simp only[sr,ab_,arR,eC,atZ,bH];by_cases ao:s.ag.bp<4
  ·exact .inr (abT hv hm hc hp s hs ω)
  exact .inl ao
 simp only[qA,DJ,bm,ae_,bH,ed]at aH⊢;obtain⟨_,_,k2,dd,_,_⟩:=aH;have kZ:d.aa.countP (mS d.bq)=c.aa.countP (mS c.bq):=by
  have e:∀l:List ae,∀v,l.countP (mS v)=(l.map l3).countP λk=>jw v k.1:=λl v=>by
   rw[List.countP_map];rfl
  rw[e,e,ha.BE,ha.v]
 have fU:d.aa.length=c.aa.length:=by
  have:=congrArg asy ha.BE
  rwa [I,I]at this
 refine⟨hd,λs hs=>?_,?_,?_,Og.b,Og.u⟩
 ·simp only[nV,ab_,arR,atZ,bne_eq_false_iff_eq];cases aG:jw d.bq s.id
  ·exact .inr (Og.i7 s hs aG)
  exact .inl rfl
 ·rw[kZ,ha.mj,ha.ml];exact k2
 rw[kZ,fU,ha.qU,ha.Hd];exact dd
theorem anl{m:Nat}{c:J}(hv:bW m c)(hm:m<=1000)(hc:fo c)(h:k7 c)(hp:c.ai=[]):∀s∈c.aa,s.ag.bc=[]:=by
 intro s hs;by_cases ao:s.ag.bp<=3
 ·have:=abT hv hm hc h s hs ao;rw[hp]at this;exact this
 have pA:=(jE.1 (hc.m3 s hs)).1;cases hr:jD s.ag
 ·have:=((Kn (hv.i7 s hs).snd ω hr).1 pA).2;have:=(TK s.ag).2;omega
 unfold dU at pA;rw[hr,if_pos rfl]at pA;simp only[Km,bm,bH]at pA;exact arN.1 ω
theorem ab0{m:Nat}(hm:m<=1000):∀(h_:List Int) (c:J),bW m c->jq c->k7 c->fo c->c.cX=0->(c.ai.map λp=>p.bU)=h_->
  (h_.foldl g0 c).ai=[]/\fo (h_.foldl g0 c)/\k7 (h_.foldl g0 c)/\bW m (h_.foldl g0 c)
 |[],c,hv,_,h,hc,_,hn=>⟨List.map_eq_nil_iff.1 hn,hc,h,hv⟩
 |n::h_,c,hv,aG,h,hc,h0,hn=>by
  rw[An]
  cases hp:c.ai with
  |nil=>rw[hp]at hn;cases hn
  |cons p l=>
   rw[hp]at hn;simp only[fe,atR]at hn;obtain⟨h1,h2⟩:=hn;have n8:=hc.hY;simp only[rl,Hf]at n8;have n8:=n8.2;rw[hp,fe,ag_]at n8;have hg:fD c n:=by
    simp only[fD,hZ,pz.2 hc,h0,hS,af_];unfold fP;rw[hp,atV];have:f1 n p:=by simp[f1,h1]
    rw[this]
   obtain⟨k1,k2,dd⟩:=TL hv hm h hg;have j:=abQ hv hm aG h hg;refine ab0 hm h_ (g0 c n) (It hv n) j.o k1 k2 (j.kc.nN.trans h0) ?_;rw[dd,hp,atg];have ak:f1 n p:=by simp[f1,h1]
   have ar:(l.filter λq=>!f1 n q)=l:=by
    rw[asR];intro q hq;have:=n8.1 _ (aa_.2 ⟨q,hq,rfl⟩);simp[f1];omega
   rw[ak,if_neg ξ,ar];exact h2
def PL(c:J):Prop:=aM 121 [.agg (J.enc c)] [.one (.bool (qA e1 oh c))]
def Lb(c:J):List UInt8:=
 if !ki c then [102,111,114,109]else if !qC e1 c then [99,114,101,100,105,116,115]else if !ss e1 c then [119,105,110,100,111,119,115]else if !DP e1 c then [102,108,105,103,104,116]else if !qA e1 oh c then [99,111,117,110,116,115]else []
theorem aft(c:J)(hz:gZ c)(qB:xd c)(Lc:PL c):aM 59 [.agg (J.enc c)] [.one (.str (Lb c))]:=by
 refine ayE 23 func59 call59 [.tmp 2] ?_;have eQ:=afq c hz qB;have dK:=afr c hz qB;have rq:=afs c hz qB;unfold xd at qB;unfold PL at Lc;cases h0:ki c<;>cases h1:qC e1 c<;>cases h2:ss e1 c<;>cases ao:DP e1 c<;>cases aH:qA e1 oh c
 all_goals
  rw[h0]at qB;rw[h1]at eQ;rw[h2]at dK;rw[ao]at rq;rw[aH]at Lc
  try simp only[go_sem]
  repeat'((first|refine af.i ?_|refine av.i ?_)<;>simp only[go_sem])
  simp[Lb,h0,h1,h2,ao,aH]
def AJ(c:J):Bool:=ki c&&decide (Lb c=[])
theorem V1(c:J)(hz:gZ c)(qB:xd c)(Lc:PL c):aM 14 [.agg (J.enc c)] [.one (.bool (AJ c))]:=by
 refine ayE 10 func14 call14 [.tmp 2] ?_;have bG:=aft c hz qB Lc;unfold xd at qB;cases h0:ki c
 all_goals
  rw[h0]at qB
  try simp only[go_sem]
  repeat'((first|refine af.i ?_|refine av.i ?_|with_reducible apply cG|with_reducible apply dp)<;>simp only[go_sem])
  simp[AJ,h0]
theorem abE{α:Type}{key:α->Int}{ok:α->Bool}{l:List α}(h:xl key ok l):∀x∈l,ok x:=by
 intro x hx;obtain⟨i,hi,rfl⟩:=List.getElem_of_mem hx;simp only[xl,l6,ae_,asl]at h;have:=h i hi
 cases i with
 |zero=>rwa [AG _ _ _ hi]at this
 |succ j=>rw[zl _ _ _ _ hi,bm]at this;exact this.1
theorem amT{ok:ae->Bool}{c:J}(h:oi ok c):(∀s∈c.aa,ok s=true)/\(∀p∈c.ai,p.bV.all eu=true)/\jM c.cn:=by
 simp only[oi,xm,lh,bm,ed]at h;obtain⟨_,_,h1,_,h2,_,_,_,_,_,ao,_⟩:=h;refine⟨abE h1,λp hp=>?_,h2⟩;have:=abE ao p hp;simp only[yb,bm]at this;exact this.2
theorem amU{xs:List ab}{r:ab}(h:c8 r=false):f' xs r=xs:=by
 unfold f';rw[h];simp
theorem amV(id:Int)(cJ:List ab){f:al}(h:eu f):lQ id cJ f=pT id cJ f:=by
 by_cases hd:f.data=[]
 ·have h1:nf id f=false:=by unfold nf;simp[hd]
  unfold lQ pT;rw[h1];split
  ·contradiction
  split
  ·refine(amU ?_).symm;simp only[eu,zM,bN,cd,bm,ed,bH]at h;obtain⟨_,_,_,_,ao,aH,_⟩:=h;have hw:i64.wrap (f.aP+(([]:List UInt8).length:Int))=f.aP:=by rw[bw]<;>simp<;>omega
   unfold c8 DN;rw[hd,hw];simp
  rfl
 have h1:nf id f=FB id f:=by unfold nf FB;simp[hd]
 unfold lQ pT;rw[h1]
theorem abF(id:Int):∀(l:List al) (cJ:List ab),l.all eu->l.foldl (lQ id) cJ=l.foldl (pT id) cJ
 |[],_,_=>rfl
 |f::l,cJ,h=>by
  rw[as_,bm]at h;rw[An,An,amV id cJ h.1];exact abF id l _ h.2
theorem abG(id:Int):∀(l:List aL) (cJ:List ab),(∀p∈l,p.bV.all eu=true)->l.foldl (so id) cJ=l.foldl (zo id) cJ
 |[],_,_=>rfl
 |p::l,cJ,h=>by
  rw[An,An];have:so id cJ p=zo id cJ p:=abF id p.bV cJ (h p ξ);rw[this];exact abG id l _ λq hq=>h q (by simp[hq])
theorem amW{s:aD}(h:dU s):decide (s.bp<4)=(decide (s.bp≠4)&&decide (s.bp≠5)):=by
 simp only[dU,bm]at h;have h2:=h.2;split at h2
 ·rename_i ao;simp only[jD,arG,bH]at ao;rcases ao with ao|ao<;>rw[ao]<;>decide
 simp only[bm,bH]at h2;have aH:h7 s=3\/h7 s=2\/h7 s=1\/h7 s=0:=by
  unfold h7;repeat' split
  all_goals simp
 rw[<-h2.2]at aH;rcases aH with aH|aH|aH|aH<;>rw[aH]<;>decide
theorem amX{l:List aL}{s:ae}(h:dt s)(hp:∀p∈l,p.bV.all eu):sr l s=rp l s:=by
 simp only[dt,Ci,bm,ed]at h;unfold sr rp;rw[amW h.1,show DK l s.id=HQ l s.id from abG s.id l [] hp]
theorem TC{α:Type}{f g:α->Bool}:∀{l:List α},(∀x∈l,f x=g x)->l.all f=l.all g
 |[],_=>rfl
 |x::l,h=>by rw[as_,as_,h x ξ,TC λy hy=>h y (by simp[hy])]
def Hb(c:J):Prop:=∀s∈c.aa,ov s.ag
theorem bW.abH{m:Nat}{c:J}(h:bW m c):Hb c:=λs hs=>(h.i7 s hs).snd.Pl
theorem amY{c:J}(h:Hb c):qC dt c=qC e1 c:=by
 have hs:∀s∈c.aa,dt s=e1 s:=λs hs=>Fp (h s hs);unfold qC;rw[H_ hs,Lx hs]
theorem amZ{c:J}(h:Hb c):ss dt c=ss e1 c:=by
 have hs:∀s∈c.aa,dt s=e1 s:=λs hs=>Fp (h s hs);unfold ss;rw[H_ hs,Lx hs]
theorem am0{c:J}(h:Hb c):qA dt gL c=qA e1 oh c:=by
 have hs:∀s∈c.aa,dt s=e1 s:=λs hs=>Fp (h s hs);unfold qA;rw[H_ hs]
 congr 2
 refine TC λs hm=>?_;unfold nV gL oh;rw[hs s hm]
theorem am1{c:J}(h:Hb c):DM dt c=DP e1 c:=by
 have hs:∀s∈c.aa,dt s=e1 s:=λs hs=>Fp (h s hs);unfold DM DP;rw[<-H_ hs]
 cases hc:oi dt c
 ·rfl
 obtain⟨h1,h2,_⟩:=amT hc
 congr 1
 refine TC λs hm=>?_;rw[amX (h1 s hm) h2]
theorem am2{c:J}(h:Hb c):su dt gL c=AJ c:=by
 have ak:=amY h;have ar:=amZ h;have a4:=am1 h;have bP:=am0 h;unfold su AJ Lb;rw[ak,ar,a4,bP];have k:∀{b:Bool},qC e1 c=b->b->ki c:=λe hb=>by
  subst e;simp only[qC,bm]at hb;exact hb.1.1
 cases hi:ki c<;>cases h1:qC e1 c<;>cases h2:ss e1 c<;>cases ao:DP e1 c<;>cases aH:qA e1 oh c<;>simp
 all_goals(have:=k h1 rfl;rw[hi]at this;cases this)
theorem apY{l:List aL}{n:Int}{i:Nat}(hp:(l.map λp=>p.bU).Pairwise (·<·))(hi:i<l.length)(h:l[i].bU=n):(l.filter λp=>!f1 n p)=l.take i++l.drop (i+1):=by
 have hm:∀(a b:Nat) (ha:a<l.length) (hb:b<l.length),a<b->l[a].bU<l[b].bU:=λa b ha hb na=>by
  have:=List.pairwise_iff_getElem.1 hp a b (by simpa using ha) (by simpa using hb) na;simpa using this
 have e:l=l.take i++l[i]::l.drop (i+1):=by rw[<-List.drop_eq_getElem_cons hi,ad_]
 have h1:∀p∈l.take i,(!f1 n p):=λp zP=>by
  obtain⟨j,aI,rfl⟩:=atn.1 zP;have:=hm j i ω hi ω;simp[f1];omega
 have h2:∀p∈l.drop (i+1),(!f1 n p):=λp zP=>by
  obtain⟨j,aI,rfl⟩:=List.mem_drop_iff_getElem.1 zP;have:=hm i (i+1+j) hi ω ω;simp[f1];omega
 conv=>lhs;rw[e]
 rw[asG,List.filter_cons_of_neg (by simp[f1,h]),asR.2 h1,asR.2 h2]
theorem apU{c:J}{n:Int}{i:Nat}(hc:ew c)(hi:i<c.ai.length)(h:c.ai[i].bU=n):g7 c n={c with ai:=c.ai.take i++c.ai.drop (i+1)}:=by
 have hp:=(pz.1 hc).hY;simp only[rl,Hf]at hp;unfold g7;rw[apY hp.2 hi h]
theorem adQ{m:Nat}{c d:J}{n:Int}(hv:bW m d)(hm:m<=1000)(hc:fo c)(k:k7 d/\fo d/\d.ai=c.ai.filter λp=>!f1 n p)(j:C6 c d) :
  (fP d.ai n).2=false/\ki d/\(su dt gL c->AJ d=true):=by
 obtain⟨k1,k2,dd⟩:=k;refine⟨?_,?_,λh=>?_⟩
 ·have:(c.ai.filter λp=>!f1 n p).find? (f1 n)=none:=by
   rw[asF];intro p hp;have:=(asC.1 hp).2;simpa using this
  rw[dd];unfold fP;rw[this]
 ·rw[<-AQ hv.abH];exact pz.2 k2
 rw[<-am2 hv.abH];have h':=h;simp only[su,bm]at h';exact ank hv hm hc k2 k1 j.kc (j.G_ (anj h'.2)) h
theorem al1{c:J}(bD:qv c){n:Int}(hg:fD c n):(fP (hK c n).ai n).2=false/\ki (hK c n)/\(su dt gL c->AJ (hK c n)=true):=
 adQ (QJ bD.pf n) ω (pz.1 (C2 hg).1) (acJ bD.pf ω bD.Kv hg) (anf bD.pf ω bD.Uc bD.Kv hg)
theorem al2{c:J}(bD:qv c){n:Int}(hg:fD c n):ki (g0 c n)/\(su dt gL c->AJ (g0 c n)=true):=
 (adQ (It bD.pf n) ω (pz.1 (C2 hg).1) (TL bD.pf ω bD.Kv hg) (abQ bD.pf ω bD.Uc bD.Kv hg)).2
def xU(c:J):J:=(c.ai.map λp=>p.bU).foldl g0 c
theorem NM{m:Nat}:∀(l:List Int) {c:J},bW m c->bW m (l.foldl g0 c)
 |[],_,h=>h
 |n::l,_,h=>NM l (It h n)
def zd(n:Int)(s:ae):Int:=i64.wrap (n+jH s.ag.bc)
def C0(c:J):Int:=if ew c then c.aa.foldl zd 0 else 0
theorem adR:∀(l:List ae),(∀s∈l,s.ag.bc=[])->l.foldl zd 0=0
 |[],_=>rfl
 |s::l,h=>by
  have e:zd 0 s=0:=by unfold zd;rw[h s ξ];rfl
  rw[An,e];exact adR l λt ht=>h t (by simp[ht])
theorem al7{c:J}(bD:qv c)(hc:ew c)(h0:c.cX=0):(xU c).ai=[]/\C0 (xU c)=0:=by
 obtain⟨h1,h2,ao,aH⟩:=ab0 ω _ c bD.pf bD.Uc bD.Kv (pz.1 hc) h0 rfl;refine⟨h1,?_⟩;unfold C0;split
 ·exact adR _ (anl aH ω h2 ao h1)
 rfl
def UF:List (List bK):=cB 8 [6281,6279,6286,6304,6237,6439,5832,4374]
def adJ:List (List bK):=cB 8 [6206,6208,6201,6466,6520,6331,5832,4374]
attribute [go_sem] UF adJ
theorem apR{α:Type}(fi:List α)(i:Nat)(z:α)(hi:i<fi.length) :
  atz (i+(fi.length-(i+1))) (fi.take i++(atz (fi.length-(i+1)) (fi.drop (i+1))++atf (i+(fi.length-(i+1))) fi))++(ea (fi.length-(i+(fi.length-(i+1)))) z++atf (i+(fi.length-(i+1))+(fi.length-(i+(fi.length-(i+1))))) (fi.take i++(atz (fi.length-(i+1)) (fi.drop (i+1))++atf (i+(fi.length-(i+1))) fi)))=fi.take i++fi.drop (i+1)++[z]:=by
 have jk:(fi.take i++fi.drop (i+1)).length=i+(fi.length-(i+1)):=by simp only[eh,arJ,ar_];omega
 rw[eA (l:=fi.drop (i+1)) (by rw[ar_];omega),<-ah_ (fi.take i) (fi.drop (i+1)),List.take_left' jk,show fi.length-(i+(fi.length-(i+1)))=1 by omega,azN (l:=fi.take i++fi.drop (i+1)++atf (i+(fi.length-(i+1))) fi) (by simp only[eh,jk,ar_]at jk⊢;omega)];rfl
def Dx(c:J)(n:Int):J:=if fD c n then g7 c n else c
def Dy(c:J)(n:Int):List al:=if fD c n then(fP c.ai n).1.bV else []
theorem VE(c:J)(n:Int)(hz:gZ c)(bB:∀s∈c.aa,ov s.ag):aM 27 [.agg (J.enc c),.one (.i n)] [.agg (J.enc ((Dx c n))),.one (.azE (Dy c n)),.one (.bool (fD c n))]:=by
 refine m_ 38 func27 call27 [.cell 4 37,.tmp 5,.tmp 6] ?_;intro ok;clear ok;have aE:ew c=ki c:=AQ bB;have lL:=lo hz;have Q0:=HY c ω;have apT:=LC c hz;have adK:=abD c n;have bY:fD c n=((ki c&&decide (c.cX=0))&&(fP c.ai n).2):=by unfold fD hZ;rw[aE]
 have Dg:fD c n=false->Dx c n=c/\Dy c n=[]:=λh=>by unfold Dx Dy;rw[h];simp
 rcases m' (f1 n) c.ai with ⟨h1,h2⟩|⟨i,hi,h1,h2,ao⟩
 ·rw[h1]at adK;have hs:(fP c.ai n).2=false:=by unfold fP;rw[h2]
  rw[hs,asQ]at bY;obtain⟨iM,lP⟩:=Dg bY;have ak:decide ((-1:Int)<0):=by decide
  have i6:∀b:Bool,(bif !b then true else true)=true:=by intro b;cases b<;>rfl
  refine gJ bE ?_
  try simp only[go_sem]
  repeat'(first|((first|refine af.j ?_|refine av.j ?_|apply bo|refine a7 UF χ ψ ?_)<;>simp only[go_sem,I,i6])|refine⟨ae7,?_⟩|fail)
  rw[iM,lP,bY];simp
 obtain⟨aw,dm⟩:∃aw,aw=c.ai[i]:=⟨_,rfl⟩;have az:=b_ aL.enc c.ai i hi;have hs:fP c.ai n=(aw,true):=by unfold fP;rw[h2,dm]
 have hn:c.ai[i].bU=n:=by simpa [f1]using ao
 rw[<-dm]at az;rw[hs,ate]at bY;rw[h1]at adK;have ak:=bn (p:=(i:Int)<0) ω;have i6:∀b:Bool,(bif !b then true else false)=!b:=by intro b;cases b<;>rfl
 rw[<-bY]at apT;refine eE bE 3 (α:=Unit) (λ_=>⟨(aA 4 (.ptr 1 0 0::.an::.an::.ptr 4 0 0::.i i::aA 29 [])),[.box (J.bx c),.box J.ca,.aj 39 (c.aa.map ae.enc),.aj 2 (c.ai.map aL.enc),.azG c 2 3]⟩) (λ_=>fD c n=true) ?_ ?_
 ·skip
  try simp only[go_sem]
  repeat'((first|refine af.j ?_|refine av.j ?_|apply bo|refine a7 UF χ ψ ?_)<;>simp only[go_sem,I,ak,i6])
  cases hg:fD c n
  ·obtain⟨iM,lP⟩:=Dg hg;simp only[go_sem,I,b7];rw[iM,lP];simp
  simp only[go_sem,bz];refine cZ.intro () [0,1,2,3,4] (by first|trivial|exact hg) ?_;simp only[go_sem];simp
 rintro _ hg;have iM:Dx c n=g7 c n:=by unfold Dx;rw[hg];rfl
 have lP:Dy c n=aw.bV:=by unfold Dy;rw[hg,hs];rfl
 have ayV:=hz.2.2.1;have hw:=asc (i:=i);rw[iM,lP,hg,apU (C2 hg).1 hi hn];refine DB 3 i ?_;simp only[go_sem,I,az,aL.enc];refine gJ bE ?_
 try simp only[go_sem,hw,aF]
 repeat'(first|(apply bo<;>simp only[go_sem,I,hw,aF])|refine⟨ae7,?_⟩|fail)
 refine af.inl (agH (V0:=.sl 3 0 (i+(c.ai.length-(i+1)))) (ps:=c.ai) (i:=i) hi 3 [[.i 0,.sl 9 []]] (hf:=[.box (J.bx c),.box J.ca,.aj 39 (c.aa.map ae.enc),.azw (c.ai.take i++c.ai.drop (i+1)),.azG c 2 3,.azy aw.bV]) rfl rfl ?_ ?_)
 ·intro fi DO ef;have ar:=bn (p:=(i:Int)=((i+1:Nat):Int)) ω;simp only[go_sem,ix];refine gi (n:=33) (rs:=[.tmp 6]) func80 rfl call80 bE rfl rfl ?_
  try simp only[go_sem,ar,aF]
  repeat'(first|(refine a7 adJ χ ψ ?_<;>simp only[go_sem,DO,aF,Nat.sub_zero])|refine⟨ae7,?_⟩|fail)
  refine⟨⟨?_,?_,by omega⟩,?_⟩
  ·simp only[hP,bm,ae_]at ef⊢;exact⟨λx hx=>ef x (atL hx),λx hx=>ef x (atJ (atL hx)),λx hx=>ef x (atJ hx)⟩
  ·simp only[arJ,ar_];omega
  have:=apR fi i [.i 0,.sl 9 []] ω;rw[DO]at this;rw[this]
 simp only[go_sem];have di:((c.ai.take i++c.ai.drop (i+1)).map aL.enc).length=i+(c.ai.length-(i+1)):=by simp;omega
 have lO:=eA (Nat.le_of_eq di);rw[I]at di;simp only[I,di,fH,if_true,lO];simp[outOA]
section
variable {P:Program} {kv:List V} {c x y:Code} {σ:St} {K:St->Prop} {aw:List (Nat×(St->Prop))} {dc:St->Prop}
theorem aqm{OU:St->Prop}(h1:hG P kv x σ OU aw dc)(h2:∀σ',OU σ'->hG P kv y σ' K aw dc):hG P kv (.seq x y) σ K aw dc:=by
 intro B w0 kp Q a w b' cg dm a1 r;exact wp_seq (h1 B w0 kp _ a w b' (λσ' a' w' h' dR=>h2 σ' h' B w0 kp Q a' w' b' cg dm a1 dR) (λid σ' a' w' h' dR=>dm id σ' a' w' h' dR) (λσ' a' w' h' dR=>a1 σ' a' w' h' dR) r)
end
theorem HH{l:List ae}{s:ae}{i:Nat}(h:g2 (eB s.id) l=(i:Int))(hi:i<l.length):dv l s=l.take i++s::l.drop (i+1):=by
 have h2:l.findIdx? (eB s.id)=some i:=by
  unfold g2 at h;split at h
  ·rename_i j e;rw[e];congr 1;omega
  omega
 have e:dv l s=l.set i s:=by unfold dv;rw[h2]
 rw[e,atl,if_pos hi]
theorem amx{α:Type}{p:α->Bool}{l:List α}{i:Nat}{s:α}(h:g2 p l=(i:Int))(hi:i<l.length)(hs:p s):g2 p (l.take i++s::l.drop (i+1))=(i:Int):=by
 have h2:l.findIdx? p=some i:=by
  unfold g2 at h;split at h
  ·rename_i j e;rw[e];congr 1;omega
  omega
 rw[List.findIdx?_eq_some_iff_getElem]at h2;obtain⟨_,_,ao⟩:=h2;have hl:(l.take i).length=i:=by rw[arJ];omega
 refine II p _ i (by simp;omega) ?_ ?_
 ·rw[auv ω,eA ω,List.any_eq_false];intro x hx;obtain⟨j,aI,rfl⟩:=atn.1 hx;exact ao j ω
 rw[List.getElem_append_right ω];simp[hl,hs]
theorem amy{α β:Type}(f:α->β)(l:List α)(i:Nat)(hi:i<l.length)(y:α){o9:List α}(d':o9=l.take i++y::l.drop (i+1)) :
  o9.length=l.length/\(o9.map f)[i]?=some (f y)/\(o9.map f).take i=(l.map f).take i/\(o9.map f).drop (i+1)=(l.map f).drop (i+1)/\(l.map f).take i++f y::(l.map f).drop (i+1)=o9.map f:=by
 have hl:((l.map f).take i).length=i:=by rw[arJ,I];omega
 have e:(l.map f).take i++f y::(l.map f).drop (i+1)=o9.map f:=by rw[d'];simp
 refine⟨by rw[d'];simp;omega,?_,?_,?_,e⟩
 ·rw[<-e,List.getElem?_append_right ω,hl,Nat.sub_self];rfl
 ·rw[<-e,auv ω,eA ω]
 rw[<-e,List.drop_append,hl,azN ω,Nat.add_sub_cancel_left];rfl
theorem NQ(b:Bool){p:Prop}(h1:b->p)(h2:b=false->p):p:=by cases b<;>simp_all
def aet:List (List bK):=cB 12 [501956,501954,501948,501930,524839,524677,524191,522733,528160,511798,472392,354294]
attribute [go_sem] aet
def l4(kv:List V)(id:Nat)(S σ:St):Prop:=(∃ρ,lz kv ρ σ S)\/CN id σ (b1 (λmd=>∃ρ,lz kv ρ md S) .mk)
theorem l4.dA{kv:List V}{id:Nat}{S σ:St}(ρ:List Nat)(h:lz kv ρ σ S):l4 kv id S σ:=.inl ⟨ρ,h⟩
theorem l4.close{kv:List V}{id:Nat}{S σ:St}(h:CN id σ (b1 (λmd=>∃ρ,lz kv ρ md S) .mk)):l4 kv id S σ:=.inr h
theorem HE{P:Program}{kv:List V}{x y:Code}{σ:St}{K:St->Prop}{aw:List (Nat×(St->Prop))}{dc:St->Prop}(id:Nat)(S:St)(h1:hG P kv x σ (b1 (l4 kv id S) .mk) aw dc)(h2:hG P kv y S K aw dc):hG P kv (.seq x y) σ K aw dc:=by
 refine aqm h1 λσ' h=>?_;rcases h with ⟨ρ,h⟩|h
 ·exact L7 h h2
 obtain⟨md,k1,ρ,k2⟩:=MZ h;exact UY k1 (L7 k2 h2)
theorem amk{l:List ae}{s:ae}{i:Nat}(h:g2 (eB s.id) l=(i:Int))(hi:i<l.length):(dv l s).length=l.length:=by
 rw[HH h hi];simp;omega
theorem et.aqn{P:Program}{f:FuncId}{kv vs:List V}{hs:List H}{K:V->List H->Prop}(id:Nat)(h:et P f kv hs vs (λv hs'=>CN id ⟨[v],hs'⟩ (b1 (λσ=>σ.tmps=[v]/\K v σ.heap) .mk))):et P f kv hs vs K:=by
 intro B w0 kp us w b' Qw;refine(h B w0 kp us w b' Qw).mono ?_;rintro v w' ⟨x,hs',cg,r⟩;obtain⟨⟨ts,lV⟩,k1,k2,dd⟩:=MZ cg;simp only at k2 dd;subst k2;exact⟨x,lV,dd,GD k1 r⟩
theorem ae1(c:J)(Y:ae)(id:Int){i:Nat}(h1:g2 (eB id) c.aa=(i:Int))(hi:i<c.aa.length)(og:Y.id=id)(Fq:aM 88 [.agg (ae.enc Y)] [.one (.bool (gL Y))])(cV dh cz df oW:H)(kv:List V)(K:V->List H->Prop)
  (hk:∀ex:List H,K (.e8 []) (cV::dh::.aj 39 ((eO c Y).aa.map ae.enc)::cz::df::.box (J.a2 (eO c Y) (.sl 2 0 c.aa.length) (.sl 3 0 c.ai.length))::oW::ex)) :
  et prog 33 kv [cV,dh,.aj 39 ((dv c.aa Y).map ae.enc),cz,df,.box (J.a2 c (.sl 2 0 c.aa.length) (.sl 3 0 c.ai.length)),oW] [.ptr 5 0 0,.i id] K:=by
 obtain⟨o9,d'⟩:∃o9,o9=c.aa.take i++Y::c.aa.drop (i+1):=⟨_,rfl⟩;have hp:dv c.aa Y=o9:=by rw[d'];exact HH (by rw[og];exact h1) hi
 have aeu:dv c.aa {Y with gu:=true}=c.aa.take i++{Y with gu:=true}::c.aa.drop (i+1):=HH (by rw[show({Y with gu:=true}:ae).id=Y.id from rfl,og];exact h1) hi;obtain⟨aev,aqo,aqp,aqq,UZ⟩:=amy ae.enc c.aa i hi Y d';have zx:(c.aa.take i++{Y with gu:=true}::c.aa.drop (i+1)).map ae.enc=(c.aa.map ae.enc).take i++ae.enc {Y with gu:=true}::(c.aa.map ae.enc).drop (i+1):=by simp
 have aqr:eB id Y:=by simp[eB,og]
 have x_:=DA o9 id;rw[d',amx h1 hi aqr,<-d']at x_;have aew:la Y.id=la id:=by rw[og]
 have OS:om c Y=(!Y.gu&&!jw c.bq id&&gL Y):=by unfold om;rw[og]
 have hlt:i=((c.aa.map ae.enc).take i).length:=by rw[arJ,I];omega
 have aex:∀a:d9,aM 89 [.agg [.i a.cm,.i a.aX,.i a.seen,.i a.cX]] [.agg [.i ((jy a)).cm,.i ((jy a)).aX,.i ((jy a)).seen,.i ((jy a)).cX],.one (.bool (q0 a))]:=λa=>by apply apO
 have ay3:=aex c.dB;have ay4:=aex c.dC;rw[hp];rw[<-aev];rw[<-aev]at hk;refine et.aqn 2 ?_;refine Q5 (n:=43) (rs:=[]) func33 rfl call33 rfl rfl ?_;refine pR bE 1 ?_;simp only[go_sem];refine af.inl (gi (n:=16) (rs:=[.tmp 4]) func86 rfl call86 bE rfl rfl ?_);simp only[go_sem]
 try simp only[go_sem,I,aF]
 repeat'(first|((first|refine af.i ?_|refine av.i ?_|refine a7 aet χ ψ ?_)<;>simp only[go_sem,I,aF])|refine⟨ae7,?_⟩|fail)
 refine DB 2 i ?_;simp only[go_sem,I,aqo,aqp,aqq,ae.enc];refine gJ bE ?_;refine NQ (jw c.bq id) (λcM=>?_) (λcM=>?_)
 ·have Dk:om c Y=false:=by rw[OS,cM];simp
  rw[H3 Dk]at hk;simp only[hp]at hk
  try simp only[go_sem]
  repeat'(first|((first|refine af.intro (by first|assumption|apply H6) ?_|refine av.i ?_|with_reducible apply dp)<;>simp only[go_sem,I,cM])|refine⟨ae7,?_⟩|fail)
  simp only[<-UZ,ae.enc]at hk;exact hk _
 refine NQ Y.gu (λa3=>?_) (λa3=>?_)
 ·have Dk:om c Y=false:=by rw[OS,a3];simp
  rw[H3 Dk]at hk;simp only[hp]at hk
  try simp only[go_sem,a3]
  repeat'(first|((first|refine af.intro (by first|assumption|apply H6) ?_|refine av.i ?_|with_reducible apply cG|with_reducible apply dp)<;>simp only[go_sem,I,cM])|refine⟨ae7,?_⟩|fail)
  simp only[<-UZ,ae.enc,a3]at hk;exact hk _
 refine NQ (gL Y) (λhV=>?_) (λhV=>?_)
 ·have Dk:om c Y:=by rw[OS,cM,a3,hV];rfl
  rw[hV]at Fq;simp only[ae.enc,a3]at Fq
  try simp only[go_sem,a3]
  repeat'(first|((first|refine af.intro (by first|assumption|apply H6) ?_|refine av.i ?_|with_reducible apply cG)<;>simp only[go_sem,I,cM])|refine⟨ae7,?_⟩|fail)
  refine af.inl (gi (n:=13) (rs:=[.tmp 4]) func90 rfl call90 bE rfl rfl ?_);simp only[go_sem];refine NQ (la id) (λzf=>?_) (λzf=>?_)
  ·rw[P0 Dk (aew.trans zf)]at hk;simp only[aeu,zx,ae.enc]at hk
   try simp only[go_sem,I,zf]
   repeat'((first|refine af.intro (by first|assumption|apply B1) ?_|refine av.i ?_)<;>simp only[go_sem,zf])
   try simp only[go_sem,I]
   repeat'(first|(with_reducible apply dp<;>simp only[go_sem,I])|refine⟨ae7,?_⟩|fail)
   refine af.inl (gi (n:=13) (rs:=[.tmp 4]) func90 rfl call90 bE rfl rfl ?_);simp only[go_sem]
   try simp only[go_sem,I,zf]
   repeat'(first|((first|refine af.intro (by first|assumption|apply B1) ?_|refine av.i ?_|with_reducible apply cG|with_reducible apply dp)<;>simp only[go_sem,I,zf])|refine⟨ae7,?_⟩|fail)
   try simp only[go_sem,I]
   repeat'(first|(with_reducible apply dp<;>simp only[go_sem,I])|refine⟨ae7,?_⟩|fail)
   exact hk _
  rw[P1 Dk (aew.trans zf)]at hk;simp only[aeu,zx,ae.enc]at hk
  try simp only[go_sem,I,zf]
  repeat'((first|refine af.intro (by first|assumption|apply B1) ?_|refine av.i ?_)<;>simp only[go_sem,zf])
  try simp only[go_sem,I]
  repeat'(first|(with_reducible apply dp<;>simp only[go_sem,I])|refine⟨ae7,?_⟩|fail)
  refine af.inl (gi (n:=13) (rs:=[.tmp 4]) func90 rfl call90 bE rfl rfl ?_);simp only[go_sem]
  try simp only[go_sem,I,zf]
  repeat'(first|((first|refine af.intro (by first|assumption|apply B1) ?_|refine av.i ?_|with_reducible apply cG|with_reducible apply dp)<;>simp only[go_sem,I,zf])|refine⟨ae7,?_⟩|fail)
  try simp only[go_sem,I]
  repeat'(first|(with_reducible apply dp<;>simp only[go_sem,I])|refine⟨ae7,?_⟩|fail)
  exact hk _
 have Dk:om c Y=false:=by rw[OS,hV];simp
 rw[H3 Dk]at hk;simp only[hp]at hk;rw[hV]at Fq;simp only[ae.enc,a3]at Fq
 try simp only[go_sem,a3]
 repeat'(first|((first|refine af.intro (by first|assumption|apply H6) ?_|refine av.i ?_|with_reducible apply cG|with_reducible apply dp)<;>simp only[go_sem,I,cM])|refine⟨ae7,?_⟩|fail)
 simp only[<-UZ,ae.enc,a3]at hk;exact hk _
def aec:List (List bK):=cB 12 [502001,501999,502033,502015,501957,463522,463036,471298,466924,452830,501795,354294]
def aed:List (List bK):=cB 15 [13551746,14339077,14339071,14345896,14345950,14345761,14348542,14347084,14342359,14329225,14289859,14171761,13817467,12754584,9565938]
attribute [go_sem] aec aed
theorem UL(xs:List ab)(l h:Int)(hx:xs.length<=1048576):aM 138 [.one (.azA xs),.agg [.i l,.i h]] [.one (.azA (nw xs ⟨l,h⟩))]:=by
 refine aW 65 func138 call138 [.tmp 4] ?_;intro ok;have hm:=gw ok
 try simp only[go_sem]
 repeat'((first|refine af.intro (by apply Dd) ?_|refine av.intro (by apply KB) ?_|apply bo)<;>simp only[go_sem])
 refine bX (λh0=>?_) (λh0=>?_)
 ·have hg:(cN xs&&c8 ⟨l,h⟩)=false:=by revert h0;cases cN xs<;>cases c8 ⟨l,h⟩<;>simp
  try simp only[go_sem]
  repeat'(first|(refine af.intro (by(apply LB<;>exact aT)) ?_<;>simp only[go_sem,I])|refine⟨ae7,?_⟩|fail)
  all_goals simp[nw,hg]
 have hg:(cN xs&&c8 ⟨l,h⟩):=by revert h0;cases cN xs<;>cases c8 ⟨l,h⟩<;>simp
 simp only[go_sem,I];refine cb.intro (λi:Nat=>⟨(aA 3 (.ptr 0 0 0::.an::.sl 1 0 ((xs.take i).flatMap (jr ⟨l,h⟩)).length::aA 13 (.d (.azA xs)::.i xs.length::.i i::aA 43 []))),[.box [.i l,.i h],.azv ((xs.take i).flatMap (jr ⟨l,h⟩))]⟩)
  (λi=>xs.length-i) (λi=>i<=xs.length) 0 [0,1] ω ?_ ?_
 ·simp only[go_sem];simp
 intro i hi;by_cases h1:i<xs.length
 ·have aq:=aro (i:=i) (n:=xs.length);have az:=b_ ab.enc xs i h1;have hw:=d8 h1 hm;have e:=Hv (jr ⟨l,h⟩) xs i h1;have d':=At (jr ⟨l,h⟩) 2 (UI _) (xs.take i);have cR:(xs.take i).length=i:=by simp;omega
  generalize hq:(xs.take i).flatMap (jr ⟨l,h⟩)=cJ at e d'
  try simp only[go_sem,I,aF,az,ab.enc,aq]
  repeat'(first|(refine bX (λh=>?_) (λh=>?_)<;>simp only[go_sem,I])|refine⟨ae7,?_⟩|fail)
  all_goals(simp only[bH,eC]at *)
  all_goals rename_i h2
  all_goals first
   |(refine bt.intro (i+1) [0,6] ω ω ?_;simp only[go_sem,hw,e,jr,cu,dJ];rw[if_pos h2,if_pos h];simp[ab.enc];done)
   |(refine bt.intro (i+1) [0,4] ω ω ?_;simp only[go_sem,hw,e,jr,cu,dJ];rw[if_pos h2,if_neg h];simp[ab.enc];done)
   |(refine bt.intro (i+1) [0,4] ω ω ?_;simp only[go_sem,hw,e,jr,cu,dJ];rw[if_neg h2,if_pos h];simp[ab.enc];done)
   |(refine bt.intro (i+1) [0,1] ω ω ?_;simp only[go_sem,hw,e,jr,cu,dJ];rw[if_neg h2,if_neg h];simp;done)
 obtain⟨aq,rfl⟩:=arn (i:=i) (n:=xs.length);simp only[go_sem,I,aq,da];simp[nw,hg]
theorem UM(xs ys:List ab)(hx:xs.length<=1048576)(hy:ys.length<=8):aM 137 [.one (.azA xs),.one (.azA ys)] [.one (.azA (gy xs ys))]:=by
 refine aW 56 func137 call137 [.tmp 4] ?_;intro ok;have hm:=gw ok;clear ok;have dG:=Dd xs;have e9:=Dd ys
 try simp only[go_sem]
 repeat'((first|refine af.i ?_|refine av.i ?_|apply bo)<;>simp only[go_sem])
 refine bX (λh0=>?_) (λh0=>?_)
 ·have hg:(cN xs&&cN ys)=false:=by revert h0;cases cN xs<;>cases cN ys<;>simp
  try simp only[go_sem]
  repeat'(first|refine⟨ae7,?_⟩|fail)
  all_goals simp[gy,hg]
 have hg:(cN xs&&cN ys):=by revert h0;cases cN xs<;>cases cN ys<;>simp
 have hc:gy xs ys=xs.flatMap λx=>ys.flatMap (gj x):=by unfold gy;rw[hg,if_pos rfl]
 simp only[go_sem,I];refine cb.intro (λi:Nat=>⟨(.an::.d (.azA ys)::aA 3 (.sl 0 0 ((xs.take i).flatMap λx=>ys.flatMap (gj x)).length::aA 16 (.d (.azA xs)::.i xs.length::.i i::aA 31 []))),[.azv ((xs.take i).flatMap λx=>ys.flatMap (gj x))]⟩)
   (λi=>xs.length-i) (λi=>i<=xs.length) 0 [0] ω ?_ ?_
 ·simp only[go_sem];simp
 intro i hi;by_cases h1:i<xs.length
 ·have aq:=aro (i:=i) (n:=xs.length);have az:=b_ ab.enc xs i h1;have hw:=d8 h1 hm;have e:=Hv (λx=>ys.flatMap (gj x)) xs i h1;have d':=At (λx=>ys.flatMap (gj x)) ys.length (λx=>by have:=At (gj x) 1 (KJ x) ys;omega) (xs.take i);have cR:(xs.take i).length=i:=by simp;omega
  have HP:((xs.take i).flatMap λx=>ys.flatMap (gj x)).length<=8388608:=by
   have:ys.length * (xs.take i).length<=8 * 1048576:=Nat.mul_le_mul hy ω;omega
  generalize hq:((xs.take i).flatMap λx=>ys.flatMap (gj x))=cJ at e d' HP
  try simp only[go_sem,I,aF,az,ab.enc,aq]
  repeat'(first|refine⟨ae7,?_⟩|fail)
  refine cb.intro (λk:Nat=>⟨(.an::.d (.azA ys)::aA 3 (.sl 0 0 (cJ++(ys.take k).flatMap (gj xs[i])).length::.an::.ptr 1 0 0::aA 14 (.d (.azA xs)::.i xs.length::.i i::aA 3 (.d (.azA ys)::.i ys.length::.i k::aA 25 [])))),[.azv (cJ++(ys.take k).flatMap (gj xs[i])),.box [.d (.i xs[i].low),.d (.i xs[i].high)]]⟩)
   (λk=>ys.length-k) (λk=>k<=ys.length) 0 [0,1] ω ?_ ?_
  ·simp only[go_sem];simp
  intro k hk;by_cases h2:k<ys.length
  ·have gv:=aro (i:=k) (n:=ys.length);have mq:=b_ ab.enc ys k h2;have jx:=d8 (m:=8) (i:=k) ω (by simp[maxLen]);have ar:=Hv (gj xs[i]) ys k h2;have ap4:=At (gj xs[i]) 1 (KJ _) (ys.take k);have Ck:(ys.take k).length=k:=by simp;omega
   generalize yf:cJ++(ys.take k).flatMap (gj xs[i])=KK;have Hw:KK.length<=8388616:=by rw[<-yf,eh];omega
   have a4:cJ++(ys.take (k+1)).flatMap (gj xs[i])=KK++gj xs[i] ys[k]:=by rw[ar,<-ah_,yf]
   try simp only[go_sem,I,aF,mq,ab.enc,gv]
   repeat'(first|((first|refine a7 aec χ ψ ?_|refine bX (λh=>?_) (λh=>?_))<;>simp only[go_sem,I])|refine⟨ae7,?_⟩|fail)
   ·have hc:gj xs[i] ys[k]=[⟨dJ xs[i].low ys[k].low,cu xs[i].high ys[k].high⟩]:=by unfold gj;exact if_pos (cY h)
    rw[hc]at a4;have bP:=congrArg asy a4;simp only[eh,List.length_singleton]at bP;refine bt.intro (k+1) [4,1] ω ω ?_;simp only[go_sem,jx,a4,bP];simp[ab.enc,cu,dJ]
   have hc:gj xs[i] ys[k]=[]:=by unfold gj;exact if_neg (de h)
   rw[hc,ix]at a4;have bP:=congrArg asy a4;simp only[eh]at bP;refine bt.intro (k+1) [0,1] ω ω ?_;simp only[go_sem,jx,a4,bP];simp
  obtain⟨gv,rfl⟩:=arn (i:=k) (n:=ys.length);simp only[go_sem,I,gv,da];refine bt.intro (i+1) [0] ω ω ?_;simp only[go_sem,hw,e];simp
 obtain⟨aq,rfl⟩:=arn (i:=i) (n:=xs.length);rw[hc];simp only[go_sem,I,aq,da];simp
def sg(r:dk)(o:Int)(k:Nat):List Int:=(pv k).map λj=>r.cells[((o+(j:Nat)).tmod r.size).toNat]?.getD 0
theorem ap5(r:dk)(o:Int)(k:Nat):sg r o (k+1)=sg r o k++[r.cells[((o+(k:Nat)).tmod r.size).toNat]?.getD 0]:=by simp[sg,List.range_succ]
theorem ap6(r:dk)(o:Int)(k:Nat):(sg r o k).length=k:=by simp[sg]
theorem ap7(r:dk)(o:Int)(k:Nat):(sg r o k).map p4=ta r o k:=by unfold sg ta;rw[auf];rfl
theorem Tz(cU cK cQ:Int)(ct:List Int)(o n:Int):aM 293 [.agg [.i cU,.i cK,.i cQ,.sl 1 (ct.map bg)],.one (.i o),.one (.i n)] [.one (.str (y7 (⟨cU,cK,cQ,ct⟩:dk) o n)),.one (.bool (BJ (⟨cU,cK,cQ,ct⟩:dk) o n))]:=by
 refine ayE 56 func293 call293 [.tmp 6,.tmp 7] ?_;cases bD:BJ (⟨cU,cK,cQ,ct⟩:dk) o n
 ·try simp only[go_sem]
  repeat'((first|refine af.intro (by apply Hu) ?_|refine av.intro (by apply j7) ?_|apply bo)<;>simp only[go_sem])
  refine bX (λh0=>?_) (λh0=>?_)
  ·simp only[go_sem];simp[y7,bD]
  exfalso;simp[BJ,cd]at bD h0;grind
 have aE:i0 (⟨cU,cK,cQ,ct⟩:dk)/\cK<=o/\0<=n/\o<=cQ/\n<=i64.wrap (cQ-o):=by
  simp only[BJ,bm,bH,ed]at bD;exact bD
 obtain⟨aE,hb,BU,he,hn⟩:=aE;obtain⟨b5,b8,dI,lf,q',sb,x5,E6,x6⟩:=oD aE;simp only at b5 b8 dI lf q' sb x5 x6;have ak:cd o cK cQ:=by simp[cd];omega
 have a4:=bn (p:=n<0) ω;have bP:=bn (p:=i64.wrap (cQ-o)<n) ω;rw[bw (n:=cQ-o) ω ω]at hn;obtain⟨m,rfl⟩:=mU BU
 try simp only[go_sem]
 repeat'((first|refine af.intro (by first|apply Hu|apply j7) ?_|with_reducible apply cG)<;>simp only[go_sem,aE,ak,a4,bP])
 refine cb.intro (λk:Nat=>⟨(.an::.i o::.an::.ptr 0 0 0::aA 4 (.sl 1 0 k::aA 26 (.i m::.i k::aA 19 []))),[.box [.i cU,.i cK,.i cQ,.d (.sl 1 (ct.map bg))],.ay 1 ((sg (⟨cU,cK,cQ,ct⟩:dk) o k).map eU8) true]⟩)
  (λk=>m-k) (λk=>k<=m) 0 [0,1] ω ?_ ?_
 ·simp only[go_sem];simp[sg]
 intro k hk;have gz:=ap6 (⟨cU,cK,cQ,ct⟩:dk) o k;by_cases h1:k<m
 ·have aq:=aro (i:=k) (n:=m);have hw:=d8 (i:=k) (m:=100) ω (by simp[maxLen]);have eP:i64.wrap (o+(k:Int))=o+(k:Int):=by rw[bw]<;>omega
  have h9:=atc cU (show(0:Int)<=o+(k:Int)by omega);have hT:=atk (o+(k:Int)) (show 0<cU by omega);obtain⟨j,mN⟩:=mU h9;rw[mN]at hT;have aI:j<ct.length:=by omega
  have sf:=b_ bg _ j aI;have b4:sg (⟨cU,cK,cQ,ct⟩:dk) o (k+1)=sg (⟨cU,cK,cQ,ct⟩:dk) o k++[ct[j]]:=by rw[ap5];simp only[mN,aF,cy aI,kk]
  have hc:=x6 j aI;have OJ:aso.wrap ct[j]=ct[j]:=by
   unfold auC;simp[aue,atG];omega
  generalize sg (⟨cU,cK,cQ,ct⟩:dk) o k=cJ at *
  try simp only[go_sem,aq]
  repeat'(first|(refine a7 aed χ ψ ?_<;>simp only[go_sem,I,aF,eP,mN,sf,bg,OJ,gz])|refine⟨ae7,?_⟩|fail)
  all_goals(refine bt.intro (k+1) [0,3] ω ω ?_;simp only[go_sem,hw,b4];simp[eU8])
 obtain⟨aq,rfl⟩:=arn (i:=k) (n:=m);have hb:=ap7 (⟨cU,cK,cQ,ct⟩:dk) o k;have a1:y7 (⟨cU,cK,cQ,ct⟩:dk) o (k:Int)=ta (⟨cU,cK,cQ,ct⟩:dk) o k:=by unfold y7;rw[bD,if_pos rfl,aF]
 rw[a1,<-hb];have l7:((sg (⟨cU,cK,cQ,ct⟩:dk) o k).map eU8).take k=(sg (⟨cU,cK,cQ,ct⟩:dk) o k).map eU8:=eA (by rw[I,gz];exact fH _);simp only[go_sem,I,aq,gz,adI,l7]
theorem aqI{s:aD}(h:dU s):0<=s.bp:=by
 simp only[dU,bm]at h;have h2:=h.2;split at h2
 ·rename_i ao;simp only[jD,arG,bH]at ao;omega
 simp only[bm,bH]at h2;have aH:h7 s=3\/h7 s=2\/h7 s=1\/h7 s=0:=by
  unfold h7;repeat' split
  all_goals simp
 omega
def O8(s:aD):Bool:=zh s&&cd s.bp 0 2
theorem Ob{s:aD}(hn:ov s):O8 s=jG s:=by
 unfold O8 jG;rw[OZ hn];cases h:zh s
 ·rfl
 have h0:=aqI (s:=s) (by rw[OZ hn];exact h);have:cd s.bp 0 2=decide (s.bp<=2):=by
  unfold cd;rw[br h0];rfl
 rw[this]
theorem Kk(bb bh bj ba:Int)(a8:List Int)(aN aJ aO:List ab)(bd a_ a9 bk:Int)(hc:aN.length+aJ.length+aO.length<=524288):aM 135 [.agg [.i bb,.i bh,.i bj,.i ba,.sl 1 (a8.map bg),.azA aN,.azA aJ,.azA aO,.i bd,.i a_,.i a9,.i bk]] [.one (.bool (O8 (⟨bb,⟨bh,bj,ba,a8⟩,aN,aJ,aO,bd,a_,a9,bk⟩:aD)))]:=by
 refine aW 10 func135 call135 [.tmp 2] ?_;intro _
 try simp only[go_sem]
 repeat'((first|refine af.intro (by(apply U7<;>exact aT)) ?_|refine av.intro (by apply j7) ?_|apply bo)<;>simp only[go_sem])
 all_goals(apply fu;simp[O8])
def O7:List (List bK):=cB 9 [18674,18672,18706,18688,18630,19561,19075,17496,13122]
def Vc:List (List bK):=cB 12 [530378,530376,530383,530361,524110,523948,524515,522693,528120,511758,472392,354294]
attribute [go_sem] O7 Vc
theorem Vd{s:aD}(h0:0<=s.aS)(h1:s.aS<=3):Ay s=h7 s:=by
 unfold Ay h7
 repeat' split
 all_goals first|rfl|(exfalso;omega)
theorem Ve(bb bh bj ba:Int)(a8:List Int)(aN aJ aO:List ab)(bd a_ a9 bk cj:Int)(b6:List UInt8)(cl:Bool)(h0:0<=ba)(h1:ba<=4611686018427387903)(hd:b6.length<=1048576):aM 136 [.agg [.i bb,.i bh,.i bj,.i ba,.sl 1 (a8.map bg),.azA aN,.azA aJ,.azA aO,.i bd,.i a_,.i a9,.i bk],.agg [.i cj,.str b6,.bool cl]] [.one (.bool (jX (⟨bb,⟨bh,bj,ba,a8⟩,aN,aJ,aO,bd,a_,a9,bk⟩:aD) (⟨cj,b6,cl⟩:bI)))]:=by
 refine ayE 42 func136 call136 [.tmp 4] ?_;by_cases aG:0<=cj/\cj<=ba
 ·have eP:i64.wrap (ba-cj)=ba-cj:=by rw[bw]<;>omega
  have gl:i64.wrap (cj+(b6.length:Int))=cj+(b6.length:Int):=by rw[bw]<;>omega
  have ak:=bn (p:=cj<0) ω;have ar:=bn (p:=ba<cj) ω
  try simp only[go_sem,ak]
  repeat'((first|with_reducible apply cG|apply bo|refine bX (λh=>?_) (λh=>?_))<;>simp only[go_sem,eP,gl,ar])
  all_goals(apply fu;rw[asa];simp[jX,eP,gl]at *;first|omega|(constructor<;>intro g<;>simp_all<;>omega)|grind)
 have aE:jX (⟨bb,⟨bh,bj,ba,a8⟩,aN,aJ,aO,bd,a_,a9,bk⟩:aD) (⟨cj,b6,cl⟩:bI)=false:=by
  simp only[jX,arR,eC];by_cases h:0<=cj
  ·exact .inl (.inl (.inr (λg=>aG ⟨h,g⟩)))
  exact .inl (.inl (.inl h))
 rw[aE];by_cases h:cj<0
 ·have ak:=br (p:=cj<0) h
  try simp only[go_sem,ak]
  repeat'(first|(with_reducible apply dp<;>simp only[go_sem]))
 have ak:=bn (p:=cj<0) h;have ar:=br (p:=ba<cj) ω
 try simp only[go_sem,ak]
 repeat'((first|with_reducible apply cG|with_reducible apply dp)<;>simp only[go_sem,ar])
theorem Vf{s:aD}(h:dU s):0<=s.aS/\s.aS<=3:=by
 simp only[dU,lK,bm,ed]at h;have:=h.2.2.2.2.2.2.1;simpa [cd]using this
theorem amt(bb bh bj ba:Int)(a8:List Int)(aN aJ aO:List ab)(bd a_ a9 bk cj:Int)(b6:List UInt8)(cl:Bool)(hc:aN.length+aJ.length+aO.length<=524288)(hr:a8.length<=8388608)(hd:b6.length<=1048576)(hn:ov (⟨bb,⟨bh,bj,ba,a8⟩,aN,aJ,aO,bd,a_,a9,bk⟩:aD)):aM 254 [.agg [.i bb,.i bh,.i bj,.i ba,.sl 1 (a8.map bg),.azA aN,.azA aJ,.azA aO,.i bd,.i a_,.i a9,.i bk],.agg [.i cj,.str b6,.bool cl]] [.agg (aD.enc (ga (⟨bb,⟨bh,bj,ba,a8⟩,aN,aJ,aO,bd,a_,a9,bk⟩:aD) (⟨cj,b6,cl⟩:bI))),.one (.bool (iD (⟨bb,⟨bh,bj,ba,a8⟩,aN,aJ,aO,bd,a_,a9,bk⟩:aD) (⟨cj,b6,cl⟩:bI)))]:=by
 refine ayE 84 func254 call254 [.cell 4 65,.tmp 5] ?_;have q4:=Ob (s:=(⟨bb,⟨bh,bj,ba,a8⟩,aN,aJ,aO,bd,a_,a9,bk⟩:aD)) hn;have Vg:qY (⟨bb,⟨bh,bj,ba,a8⟩,aN,aJ,aO,bd,a_,a9,bk⟩:aD) (⟨cj,b6,cl⟩:bI)=(jG (⟨bb,⟨bh,bj,ba,a8⟩,aN,aJ,aO,bd,a_,a9,bk⟩:aD)&&jX (⟨bb,⟨bh,bj,ba,a8⟩,aN,aJ,aO,bd,a_,a9,bk⟩:aD) (⟨cj,b6,cl⟩:bI)&&!(decide (b6=[])&&!cl)&&!(cl&&decide (a_≠1))):=rfl;cases bB:jG (⟨bb,⟨bh,bj,ba,a8⟩,aN,aJ,aO,bd,a_,a9,bk⟩:aD)
 ·rw[bB]at q4;rw[bB,ap_,ap_,ap_]at Vg;have cM:iD (⟨bb,⟨bh,bj,ba,a8⟩,aN,aJ,aO,bd,a_,a9,bk⟩:aD) (⟨cj,b6,cl⟩:bI)=false:=by unfold iD;rw[Vg];rfl
  try simp only[go_sem]
  repeat'(first|((first|refine af.intro (by first|(apply zz<;>exact aT)|(apply Kk<;>exact aT)) ?_|with_reducible apply dp)<;>simp only[go_sem,I,q4,b7])|refine⟨ae7,?_⟩|fail)
  all_goals simp[ga,cM]
 rw[bB]at q4;have hw:=bB;simp only[jG,bm,bH]at hw;obtain⟨b5,b8,dI,lf,q',sb,x5,E6,x6⟩:=oD (Kj hw.1);simp only at b5 b8 dI lf q' sb x5 x6;have Dm:=Ve bb bh bj ba a8 aN aJ aO bd a_ a9 bk cj b6 cl ω ω hd;have ah:(bif bif !jX (⟨bb,⟨bh,bj,ba,a8⟩,aN,aJ,aO,bd,a_,a9,bk⟩:aD) (⟨cj,b6,cl⟩:bI)then true else(bif cl then decide (a_≠1)else false)then true else(bif decide (b6=[])then !cl else false))=!qY (⟨bb,⟨bh,bj,ba,a8⟩,aN,aJ,aO,bd,a_,a9,bk⟩:aD) (⟨cj,b6,cl⟩:bI):=by
  rw[Vg,bB];cases jX (⟨bb,⟨bh,bj,ba,a8⟩,aN,aJ,aO,bd,a_,a9,bk⟩:aD) (⟨cj,b6,cl⟩:bI)<;>cases decide (b6=[])<;>cases cl<;>cases decide (a_≠1)<;>rfl
 obtain⟨g_,h6⟩:=Vf hw.1;simp only at g_ h6;have ef:Ay (ny (k4 (⟨bb,⟨bh,bj,ba,a8⟩,aN,aJ,aO,bd,a_,a9,bk⟩:aD) (⟨cj,b6,cl⟩:bI)) (⟨cj,b6,cl⟩:bI))=h7 (ny (k4 (⟨bb,⟨bh,bj,ba,a8⟩,aN,aJ,aO,bd,a_,a9,bk⟩:aD) (⟨cj,b6,cl⟩:bI)) (⟨cj,b6,cl⟩:bI)):=by
  have:(k4 (⟨bb,⟨bh,bj,ba,a8⟩,aN,aJ,aO,bd,a_,a9,bk⟩:aD) (⟨cj,b6,cl⟩:bI)).aS=a_:=by unfold k4;split<;>rfl
  apply Vd<;>(unfold ny;split)<;>first|(rw[this];omega)|(show(0:Int)<=2;omega)|(show(2:Int)<=3;omega)
 have oF:=UM aN [dD (⟨cj,b6,cl⟩:bI)] ω ξ;have Tf:=VX (gy aN [dD (⟨cj,b6,cl⟩:bI)]) [dD (⟨cj,b6,cl⟩:bI)];have sn:=UL aN (dD (⟨cj,b6,cl⟩:bI)).low (dD (⟨cj,b6,cl⟩:bI)).high ω;have l5:=HS aJ (dD (⟨cj,b6,cl⟩:bI)).low (dD (⟨cj,b6,cl⟩:bI)).high ω;simp only[D.azA,fe,asi,ab.enc]at oF Tf
 try simp only[go_sem]
 repeat'((first|refine af.intro (by first|assumption|(apply zz<;>exact aT)|(apply Kk<;>exact aT)) ?_|refine av.i ?_|with_reducible apply cG|apply bo)<;>simp only[go_sem,I,q4])
 rw[ah];cases bY:qY (⟨bb,⟨bh,bj,ba,a8⟩,aN,aJ,aO,bd,a_,a9,bk⟩:aD) (⟨cj,b6,cl⟩:bI)
 ·have cM:iD (⟨bb,⟨bh,bj,ba,a8⟩,aN,aJ,aO,bd,a_,a9,bk⟩:aD) (⟨cj,b6,cl⟩:bI)=false:=by unfold iD;rw[bY];rfl
  try simp only[go_sem,I,b7]
  repeat'(first|refine⟨ae7,?_⟩|fail)
  all_goals simp[ga,cM]
 simp only[go_sem,bz];by_cases jt:b6=[]
 ·have a4:=bn (p:=b6≠[]) (λh=>h jt);have cM:iD (⟨bb,⟨bh,bj,ba,a8⟩,aN,aJ,aO,bd,a_,a9,bk⟩:aD) (⟨cj,b6,cl⟩:bI):=by unfold iD;rw[bY];simp only[jt,hS,att,asg]
  have a5:ga (⟨bb,⟨bh,bj,ba,a8⟩,aN,aJ,aO,bd,a_,a9,bk⟩:aD) (⟨cj,b6,cl⟩:bI)=jY (ny (k4 (⟨bb,⟨bh,bj,ba,a8⟩,aN,aJ,aO,bd,a_,a9,bk⟩:aD) (⟨cj,b6,cl⟩:bI)) (⟨cj,b6,cl⟩:bI)):=by unfold ga;rw[cM];rfl
  have bD:k4 (⟨bb,⟨bh,bj,ba,a8⟩,aN,aJ,aO,bd,a_,a9,bk⟩:aD) (⟨cj,b6,cl⟩:bI)=(⟨bb,⟨bh,bj,ba,a8⟩,aN,aJ,aO,bd,a_,a9,bk⟩:aD):=by unfold k4;exact if_pos jt
  rw[bD]at a5 ef;cases cl
  ·simp only[ny,ai_,if_false]at a5 ef
   try simp only[go_sem,I,a4]
   repeat'(first|((first|refine af.intro (by first|assumption|apply Dl) ?_|refine av.i ?_)<;>simp only[go_sem,I,ef])|refine⟨ae7,?_⟩|fail)
   all_goals(rw[a5,cM];simp[jY])
  simp only[ny,if_true]at a5 ef
  try simp only[go_sem,I,a4]
  repeat'(first|((first|refine af.intro (by first|assumption|apply Dl) ?_|refine av.i ?_)<;>simp only[go_sem,I,ef])|refine⟨ae7,?_⟩|fail)
  all_goals(rw[a5,cM];simp[jY])
 have a4:=br (p:=b6≠[]) jt;cases nY:decide (gy aN [dD (⟨cj,b6,cl⟩:bI)]=[dD (⟨cj,b6,cl⟩:bI)])
 ·have cM:iD (⟨bb,⟨bh,bj,ba,a8⟩,aN,aJ,aO,bd,a_,a9,bk⟩:aD) (⟨cj,b6,cl⟩:bI)=false:=by unfold iD;rw[bY];simp only[bn jt,nY,Bool.or_self,asQ]
  have a5:ga (⟨bb,⟨bh,bj,ba,a8⟩,aN,aJ,aO,bd,a_,a9,bk⟩:aD) (⟨cj,b6,cl⟩:bI)=(⟨bb,⟨bh,bj,ba,a8⟩,aN,aJ,aO,bd,a_,a9,bk⟩:aD):=by unfold ga;rw[cM];rfl
  try simp only[go_sem,a4]
  repeat'(first|((first|refine af.i ?_|refine av.i ?_|refine a7 O7 χ ψ ?_)<;>simp only[go_sem,I,nY,b7])|refine⟨ae7,?_⟩|fail)
  all_goals(rw[a5,cM];try simp[outOA,fb])
 have cM:iD (⟨bb,⟨bh,bj,ba,a8⟩,aN,aJ,aO,bd,a_,a9,bk⟩:aD) (⟨cj,b6,cl⟩:bI):=by unfold iD;rw[bY];simp only[nY,Bool.or_true,asg]
 have a5:ga (⟨bb,⟨bh,bj,ba,a8⟩,aN,aJ,aO,bd,a_,a9,bk⟩:aD) (⟨cj,b6,cl⟩:bI)=jY (ny (k4 (⟨bb,⟨bh,bj,ba,a8⟩,aN,aJ,aO,bd,a_,a9,bk⟩:aD) (⟨cj,b6,cl⟩:bI)) (⟨cj,b6,cl⟩:bI)):=by unfold ga;rw[cM];rfl
 have bD:k4 (⟨bb,⟨bh,bj,ba,a8⟩,aN,aJ,aO,bd,a_,a9,bk⟩:aD) (⟨cj,b6,cl⟩:bI)={(⟨bb,⟨bh,bj,ba,a8⟩,aN,aJ,aO,bd,a_,a9,bk⟩:aD)with bC:=nw aN (dD (⟨cj,b6,cl⟩:bI)),bc:=f' aJ (dD (⟨cj,b6,cl⟩:bI)),b0:=dJ a9 (dD (⟨cj,b6,cl⟩:bI)).high}:=by unfold k4;exact if_neg jt
 rw[bD]at a5 ef;cases cl
 ·simp only[ny,ai_,if_false]at a5 ef
  try simp only[go_sem,a4]
  repeat'(first|((first|refine af.intro (by first|assumption|apply Dl) ?_|refine av.i ?_|refine a7 O7 χ ψ ?_|refine a7 Vc χ ψ ?_)<;>simp only[go_sem,I,nY])|refine⟨ae7,?_⟩|fail)
  all_goals(rw[a5,cM];simp only[jY,<-ef];simp only[dJ];first|rfl|simp[outOA]|skip)
 simp only[ny,if_true]at a5 ef
 try simp only[go_sem,a4]
 repeat'(first|((first|refine af.intro (by first|assumption|apply Dl) ?_|refine av.i ?_|refine a7 O7 χ ψ ?_|refine a7 Vc χ ψ ?_)<;>simp only[go_sem,I,nY])|refine⟨ae7,?_⟩|fail)
 all_goals(rw[a5,cM];simp only[jY,<-ef];simp only[dJ];first|rfl|simp[outOA]|skip)
def aeF:List (List bK):=cB 8 [6200,6198,6448,6547,6493,6322,5832,4374]
def Vh:List (List bK):=cB 8 [6197,6478,6472,6454,6520,6319,5832,4374]
attribute [go_sem] aeF Vh
theorem aqD{S:List Bool}(h:S.length=11):∃fE cA db c0 eo fr fQ f_ gk gP ib,S=[fE,cA,db,c0,eo,fr,fQ,f_,gk,gP,ib]:=by
 match S,h with|[fE,cA,db,c0,eo,fr,fQ,f_,gk,gP,ib],_=>exact⟨fE,cA,db,c0,eo,fr,fQ,f_,gk,gP,ib,rfl⟩
def Vi(s:aD)(p:bI)(e:aD)(R:dk)(b:Bool)(g:Int)(S:List Bool):St:=⟨(.an::.an::.d (.bool true)::.ptr 0 0 0::.ptr 1 0 0::.an::.ptr 2 0 0::.ptr 7 0 0::aA 62 (.d (.bool true)::(aK S 6 (.e8 [.agg [.i R.size,.i R.base,.i R.bS,.sl 8 0 R.cells.length],.d (.bool b)]))::(aK S 0 (.ptr 7 0 1))::(aK S 1 (.agg [.i e.aB.size,.i e.aB.base,.i e.aB.bS,.sl 3 0 e.aB.cells.length]))::(aK S 2 (.ptr 7 0 7))::(aK S 3 (.sl 6 0 e.bJ.length))::(aK S 4 (.i g))::(aK S 5 (.e8 [.agg [.i R.size,.i R.base,.i R.bS,.sl 8 0 R.cells.length],.d (.bool b)]))::(aK S 7 (.agg [.i R.size,.i R.base,.i R.bS,.sl 8 0 R.cells.length]))::(aK S 8 (.d (.bool b)))::(aK S 9 (.ptr 7 0 1))::aA 4 [])),[.box (aD.bx s),.box [.i p.aP,.d (.str p.data),.d (.bool p.aS)],.box aD.ca,.azu e.aB.cells,.azv e.bC,.azv e.bc,.azv e.bJ,.box [.i e.bp,(bif S.getD 10 false then .i R.size else .i e.aB.size),(bif S.getD 10 false then .i R.base else .i e.aB.base),(bif S.getD 10 false then .i R.bS else .i e.aB.bS),(bif S.getD 10 false then .sl 8 0 R.cells.length else .sl 3 0 e.aB.cells.length),.sl 4 0 e.bC.length,.sl 5 0 e.bc.length,.sl 6 0 e.bJ.length,.i e.bf,.i e.aS,.i e.b0,.i e.cS]]++(bif S.getD 5 false then [.azu R.cells]else [])⟩
theorem aqE(r:dk)(t:Int)(hc:r.cells.length<=8388608):aM 140 [.agg [.i r.size,.i r.base,.i r.bS,.sl 1 (r.cells.map bg)],.one (.i t)] [.agg [.i ((k5 r t)).size,.i ((k5 r t)).base,.i ((k5 r t)).bS,.sl 1 (((k5 r t)).cells.map bg)],.one (.bool (ra r t))]:=by
 refine ayE 40 func140 call140 [.cell 4 62,.tmp 5] ?_;have ah:ra r t=(i0 r&&cd t r.base r.bS):=by unfold ra cd;rw[Bool.and_assoc]
 have WX:=j7 t r.base r.bS;have i6:(bif !i0 r then true else !cd t r.base r.bS)=!ra r t:=by rw[ah];cases i0 r<;>rfl
 cases bD:ra r t
 ·rw[bD]at ah i6;have a1:k5 r t=r:=by unfold k5;rw[bD];rfl
  cases aE:i0 r
  ·try simp only[go_sem]
   repeat'(first|((first|refine af.intro (by first|assumption|(apply Lz<;>exact aT)|apply Hu) ?_|refine av.i ?_|with_reducible apply dp)<;>simp only[go_sem,I,aE,b7])|refine⟨ae7,?_⟩|fail)
   rw[a1]
   try simp[outOA,fb]
  rw[aE,af_]at ah
  try simp only[go_sem]
  repeat'(first|((first|refine af.intro (by first|assumption|(apply Lz<;>exact aT)|apply Hu) ?_|refine av.i ?_|with_reducible apply cG)<;>simp only[go_sem,I,aE,bz,<-ah,b7])|refine⟨ae7,?_⟩|fail)
  rw[a1]
  try simp[outOA,fb]
 rw[bD]at ah;have aE:i0 r/\r.base<=t/\t<=r.bS:=by
  simp only[ra,bm,bH,ed]at bD;exact bD
 obtain⟨aE,hb,he⟩:=aE;rw[aE,af_]at ah;have a1:k5 r t=⟨r.size,t,r.bS,oK r.cells r.base r.size (t-r.base).toNat⟩:=by unfold k5;rw[bD];rfl
 obtain⟨b5,b8,dI,lf,q',sb,x5,E6,x6⟩:=oD aE
 try simp only[go_sem]
 repeat'((first|refine af.intro (by first|assumption|(apply Lz<;>exact aT)|apply Hu) ?_|refine av.i ?_|with_reducible apply cG)<;>simp only[go_sem,I,aE,bz,<-ah])
 refine cb.intro (λk:Nat=>⟨(.an::.i t::.ptr 0 0 0::.an::.ptr 1 0 0::.d (.bool false)::.ptr 3 0 0::.i (r.base+(k:Int))::aA 32 []),[.box [.i r.size,.i r.base,.i r.bS,.d (.sl 1 (r.cells.map bg))],.box [.i 0,.i 0,.i 0,.eg 1],.azu (oK r.cells r.base r.size k),.box [.i r.size,.i r.base,.i r.bS,.sl 2 0 r.cells.length]]⟩)
  (λk=>(t-r.base).toNat-k) (λk=>(k:Int)<=t-r.base) 0 [0,1,2,3] ω ?_ ?_
 ·simp only[go_sem];simp[oK]
 intro k hk;have hl:=G0 r.cells r.base r.size k;by_cases h1:(k:Int)<t-r.base
 ·have aq:=br (p:=r.base+(k:Int)<t) ω;have hw:i64.wrap (r.base+(k:Int)+1)=r.base+((k+1:Nat):Int):=by rw[bw]<;>omega
  have h9:=atc r.size (show(0:Int)<=r.base+(k:Int)by omega);have hT:=atk (r.base+(k:Int)) (show 0<r.size by omega);obtain⟨j,mN⟩:=mU h9;rw[mN]at hT;have aI:j<(oK r.cells r.base r.size k).length:=by omega
  have sf:=b_ bg _ j aI;have b4:oK r.cells r.base r.size (k+1)=(oK r.cells r.base r.size k).set j 0:=by rw[oK,mN,aF]
  try simp only[go_sem,aq]
  repeat'(first|(refine a7 aeF χ ψ ?_<;>simp only[go_sem,I,aF,mN,sf,bg,kk])|refine⟨ae7,?_⟩|fail)
  all_goals(first|(refine⟨⟨aI,by simp,by simp⟩,?_⟩)|skip)
  all_goals(refine bt.intro (k+1) [0,1,2,3] ω ω ?_;simp only[go_sem,hw,b4];simp[bg])
 have aq:=bn (p:=r.base+(k:Int)<t) ω;have sC:(t-r.base).toNat=k:=by omega
 rw[sC]at a1
 try simp only[go_sem,I,aq]
 rw[a1]
 try simp[outOA,hl,eA]
theorem aqF(s:aD)(p:bI)(hc:s.bC.length+s.bc.length+s.bJ.length<=262144)(hr:s.aB.cells.length<=8388608)(hd:p.data.length<=1048576)(hn:ov s):aM 83 [.agg (aD.enc s),.agg [.i p.aP,.str p.data,.bool p.aS],.one (.bool true)] [.agg (aD.enc ((iw s p)))]:=by
 refine m_ 85 func83 call83 [.cell 6 65] ?_;intro ok;clear ok;have q4:=Ob hn;have bY:j5 s p=(jG s&&jX s p):=rfl;have Dg:j5 s p=false->iw s p=s:=λh=>by unfold iw;rw[h];rfl
 have Ha:aM 135 [.agg (aD.enc s)] [.one (.bool (jG s))]:=by rw[<-q4];apply Kk;omega
 have i6:∀q:Bool,(bif !jG s then true else !q)=!(jG s&&q):=by intro q;cases jG s<;>rfl
 refine eE bE 6 (α:=aD) (λd=>⟨(.an::.an::.d (.bool true)::.ptr 0 0 0::.ptr 1 0 0::.an::.ptr 2 0 0::.ptr 7 0 0::.an::.i 3::aA 75 []),[.box (aD.bx s),.box [.i p.aP,.d (.str p.data),.d (.bool p.aS)],.box aD.ca,.azu d.aB.cells,.azv d.bC,.azv d.bc,.azv d.bJ,.box (aD.a2 d (.sl 3 0 d.aB.cells.length) (.sl 4 0 d.bC.length) (.sl 5 0 d.bc.length) (.sl 6 0 d.bJ.length))]⟩) (λd=>d=fC s p/\j5 s p=true) ?_ ?_
 ·skip
  cases bB:jG s with
  |false=>
   rw[bB]at bY Ha
   try simp only[go_sem]
   repeat'(first|((first|refine af.intro (by first|assumption|(apply zz<;>exact aT)) ?_|refine av.i ?_|with_reducible apply dp)<;>simp only[go_sem,I,b7])|refine⟨ae7,?_⟩|fail)
   rw[Dg bY]
   all_goals simp[outOA,fb]
  |true=>
  have hw:=bB;simp only[jG,bm,bH]at hw;obtain⟨b5,b8,dI,lf,q',sb,x5,E6,x6⟩:=oD (Kj hw.1);have Dm:aM 136 [.agg (aD.enc s),.agg [.i p.aP,.str p.data,.bool p.aS]] [.one (.bool (jX s p))]:=by apply Ve<;>first|assumption|omega
  rw[bB,af_]at bY;rw[bB]at Ha;rw[<-bY]at Dm
  cases hA:j5 s p with
  |false=>
   rw[hA]at Dm
   try simp only[go_sem]
   repeat'(first|((first|refine af.intro (by first|assumption|(apply zz<;>exact aT)) ?_|refine av.i ?_|with_reducible apply cG)<;>simp only[go_sem,I,bz,b7])|refine⟨ae7,?_⟩|fail)
   rw[Dg hA]
   all_goals simp[outOA,fb]
  |true=>
  rw[hA]at Dm;have BN:=O6 hw.1
  try simp only[go_sem]
  repeat'((first|refine af.intro (by first|assumption|(apply zz<;>exact aT)) ?_|refine av.i ?_|with_reducible apply cG)<;>simp only[go_sem,I,bz])
  by_cases jt:p.data=[]
  ·have a4:=bn (p:=p.data≠[]) (λh=>h jt);have bD:fC s p=s:=by unfold fC;exact if_pos jt
   simp only[go_sem,a4];refine cZ.intro s [0,1,2,3,4,5,6,7] (by first|exact⟨bD.symm,hA⟩|exact bD.symm) ?_;simp only[go_sem];simp
  have a4:=br (p:=p.data≠[]) jt;have bD:fC s p={s with bc:=ia s.bc (gy s.bc [dD p]),bJ:=eD s.bJ (gy s.bc [dD p])}:=by unfold fC;exact if_neg jt
  have oF:=UM s.bc [dD p] ω ξ;simp only[D.azA,fe,asi,ab.enc]at oF;have Vb:=J1 s.bc (dD p)
  try simp only[go_sem,a4]
  repeat'((first|refine af.i ?_|refine av.i ?_)<;>simp only[go_sem,I])
  generalize hcc:gy s.bc [dD p]=c at *;refine cb.intro (λi:Nat=>⟨(.an::.an::.d (.bool true)::.ptr 0 0 0::.ptr 1 0 0::.an::.ptr 2 0 0::.ptr 7 0 0::.ptr 7 0 7::.i 3::aA 32 (.sl 8 0 c.length::.i c.length::.i i::aA 40 [])),[.box (aD.bx s),.box [.i p.aP,.d (.str p.data),.d (.bool p.aS)],.box aD.ca,.azu s.aB.cells,.azv s.bC,.azv (ia s.bc (c.take i)),.azv (eD s.bJ (c.take i)),.box (aD.a2 s (.sl 3 0 s.aB.cells.length) (.sl 4 0 s.bC.length) (.sl 5 0 (ia s.bc (c.take i)).length) (.sl 6 0 (eD s.bJ (c.take i)).length)),.azv c]⟩)
   (λi=>c.length-i) (λi=>i<=c.length) 0 [0,1,2,3,4,5,6,7,9] ω ?_ ?_
  ·simp only[go_sem];simp[ia,eD]
  intro i hi;have bG:=(GZ (c.take i) s.bc BN.2.1).2.1;have Hw:=qq (c.take i) s.bJ;have cR:(c.take i).length=i:=by simp;omega
  by_cases h1:i<c.length
  ·have aq:=aro (i:=i) (n:=c.length);have az:=b_ ab.enc c i h1;have jx:=d8 (i:=i) (m:=524288) ω (by simp[maxLen]);have zb:=O5 s.bc c i h1;have lV:=Au s.bJ c i h1;generalize Ho:ia s.bc (c.take i)=hj at *;generalize yf:eD s.bJ (c.take i)=KX at *;have sn:=UL hj c[i].low c[i].high ω;have l5:=HS KX c[i].low c[i].high ω
   try simp only[go_sem,I,aF,az,ab.enc,aq]
   repeat'(first|((first|refine af.i ?_|refine av.i ?_|refine a7 Vh χ ψ ?_)<;>simp only[go_sem,I])|refine⟨ae7,?_⟩|fail)
   refine bt.intro (i+1) [0,1,2,3,4,10,11,7,8] ω ω ?_;simp only[go_sem,jx,zb,lV];simp
  obtain⟨aq,rfl⟩:=arn (i:=i) (n:=c.length)
  try simp only[go_sem,aq,da]
  refine cZ.intro (fC s p) [0,1,2,3,4,5,6,7] (by first|exact⟨rfl,hA⟩|rfl) ?_;rw[bD];simp only[go_sem];simp
 rintro d ⟨KY,hA⟩;have hw:=hA;simp only[j5,bm,bH,ed]at hw;obtain⟨g_,h6⟩:=Vf hw.1;have KZ:d.aB=s.aB/\d.aS=s.aS:=by rw[KY];unfold fC;split<;>exact⟨rfl,rfl⟩
 have a5:iw s p=jY (qZ s.aB (e_ 3 d p)):=by unfold iw;rw[hA,KY];rfl
 obtain⟨e,he⟩:∃e,e=e_ 3 d p:=⟨_,rfl⟩;have K0:0<=e.aS/\e.aS<=3:=by rw[he];unfold e_;split<;>(try simp only)<;>omega
 have Vj:e.aB=s.aB:=by rw[he,<-KZ.1];unfold e_;split<;>rfl
 have ef:Ay (qZ s.aB e)=h7 (qZ s.aB e):=Vd K0.1 K0.2;have bG:e_ 3 d p=if(p.aS&&decide (s.aS=2))=true then {d with aS:=3}else d:=by rw[<-KZ.2];rfl
 have hg:(bif p.aS then decide (s.aS=2)else false)=(p.aS&&decide (s.aS=2)):=by cases p.aS<;>rfl
 refine eE bE 1 (α:=Unit) (λ_=>⟨(.an::.an::.d (.bool true)::.ptr 0 0 0::.ptr 1 0 0::.an::.ptr 2 0 0::.ptr 7 0 0::aA 77 []),[.box (aD.bx s),.box [.i p.aP,.d (.str p.data),.d (.bool p.aS)],.box aD.ca,.azu e.aB.cells,.azv e.bC,.azv e.bc,.azv e.bJ,.box (aD.a2 e (.sl 3 0 e.aB.cells.length) (.sl 4 0 e.bC.length) (.sl 5 0 e.bc.length) (.sl 6 0 e.bJ.length))]⟩) (λ_=>True) ?_ ?_
 ·skip
  try simp only[go_sem]
  repeat'(apply bo<;>simp only[go_sem])
  rw[hg];cases hb:(p.aS&&decide (s.aS=2))
  ·rw[hb,if_neg ξ,<-he]at bG
   try simp only[go_sem]
   refine cZ.intro () [0,1,2,3,4,5,6,7] trivial ?_;rw[bG];simp only[go_sem];simp
  rw[hb,if_pos rfl,<-he]at bG
  try simp only[go_sem]
  refine cZ.intro () [0,1,2,3,4,5,6,7] trivial ?_;rw[bG];simp only[go_sem];simp
 rintro _ _;rw[<-he]at a5;have Tg:=UH e.bJ 0;have ay6:aM 140 [.agg [.i e.aB.size,.i e.aB.base,.i e.aB.bS,.sl 1 (e.aB.cells.map bg)],.one (.i (jc e.bJ 0))] [.agg [.i ((k5 e.aB (jc e.bJ 0))).size,.i ((k5 e.aB (jc e.bJ 0))).base,.i ((k5 e.aB (jc e.bJ 0))).bS,.sl 1 (((k5 e.aB (jc e.bJ 0))).cells.map bg)],.one (.bool (ra e.aB (jc e.bJ 0)))]:=aqE _ _ (by rw[Vj];exact hr);have JJ:qZ s.aB e={e with aB:=k5 e.aB (jc e.bJ 0)}:=by unfold qZ;rw[Vj]
 rw[JJ]at a5 ef;generalize k5 e.aB (jc e.bJ 0)=R at *;generalize ra e.aB (jc e.bJ 0)=b at *;generalize jc e.bJ 0=g at *;refine pR bE 1 ?_;simp only[go_sem];refine lM _ (mQ (λS σ=>σ=Vi s p e R b g S) (N:=11) rfl rfl rfl ?_) ?_
 ·repeat'(first|exact nC|refine nD ?_ ?_)
  all_goals(
   rintro S σ F hl a5 hp hcl rfl bG;obtain⟨jI,dW,cT,dS,eW,nb,nR,nS,nT,qu,xb,rfl⟩:=aqD hl;simp only[nc,kf,cc]at a5;subst a5;simp[lN,Region.binds]at hp
   repeat(obtain⟨fh,hp⟩:=hp;subst fh)
   try subst hp
   try obtain rfl:=bZ (hcl 0 1 _ rfl ζ rfl)
   try obtain rfl:=bZ (hcl 1 5 _ rfl ζ rfl)
   try obtain rfl:=bZ (hcl 2 3 _ rfl ζ rfl)
   try obtain rfl:=bZ (hcl 3 4 _ rfl ζ rfl)
   try obtain rfl:=bZ (hcl 4 5 _ rfl ζ rfl)
   try obtain rfl:=bZ (hcl 5 6 _ rfl ζ rfl)
   try obtain rfl:=bZ (hcl 6 7 _ rfl ζ rfl)
   try obtain rfl:=bZ (hcl 6 8 _ rfl ζ rfl)
   try obtain rfl:=bZ (hcl 7 9 _ rfl ζ rfl)
   try obtain rfl:=bZ (hcl 9 10 _ rfl ζ rfl)
   simp only[Vi,aK,gm,gh,d4,eF,cx,cv,ix]
   repeat'(first
     |exact bG _ rfl
     |(apply cG)
     |(apply dp)
     |(refine af.i ?_;simp only[go_sem,I,cx,cv];exact bG _ rfl)
     |refine⟨ae7,?_⟩
     |simp only[go_sem,I,cx,cv]))
 rintro _ rfl;simp only[Vi,ea,aK,gm,gh,d4,cx,cv];simp only[go_sem];refine gJ bE ?_
 try simp only[go_sem,I]
 repeat'(first|((first|refine af.intro (by first|assumption|apply Dl) ?_|refine av.i ?_)<;>simp only[go_sem,I,ef])|refine⟨ae7,?_⟩|fail)
 rw[a5]
 try simp[jY]
theorem aqG(s:aD)(p:bI)(hc:s.bC.length+s.bc.length+s.bJ.length<=262144)(hr:s.aB.cells.length<=8388608)(hd:p.data.length<=1048576)(hn:ov s):aM 83 [.agg (aD.enc s),.agg [.i p.aP,.str p.data,.bool p.aS],.one (.bool false)] [.agg (aD.enc ((iI s p)))]:=by
 refine m_ 85 func83 call83 [.cell 6 65] ?_;intro ok;clear ok;have q4:=Ob hn;have bY:j5 s p=(jG s&&jX s p):=rfl;have Dg:j5 s p=false->iI s p=s:=λh=>by unfold iI;rw[h];rfl
 have Ha:aM 135 [.agg (aD.enc s)] [.one (.bool (jG s))]:=by rw[<-q4];apply Kk;omega
 have i6:∀q:Bool,(bif !jG s then true else !q)=!(jG s&&q):=by intro q;cases jG s<;>rfl
 refine eE bE 6 (α:=aD) (λd=>⟨(.an::.an::.d (.bool false)::.ptr 0 0 0::.ptr 1 0 0::.an::.ptr 2 0 0::.ptr 7 0 0::.an::.i 1::aA 75 []),[.box (aD.bx s),.box [.i p.aP,.d (.str p.data),.d (.bool p.aS)],.box aD.ca,.azu d.aB.cells,.azv d.bC,.azv d.bc,.azv d.bJ,.box (aD.a2 d (.sl 3 0 d.aB.cells.length) (.sl 4 0 d.bC.length) (.sl 5 0 d.bc.length) (.sl 6 0 d.bJ.length))]⟩) (λd=>d=jF s p/\j5 s p=true) ?_ ?_
 ·skip
  cases bB:jG s with
  |false=>
   rw[bB]at bY Ha
   try simp only[go_sem]
   repeat'(first|((first|refine af.intro (by first|assumption|(apply zz<;>exact aT)) ?_|refine av.i ?_|with_reducible apply dp)<;>simp only[go_sem,I,b7])|refine⟨ae7,?_⟩|fail)
   rw[Dg bY]
   all_goals simp[outOA,fb]
  |true=>
  have hw:=bB;simp only[jG,bm,bH]at hw;obtain⟨b5,b8,dI,lf,q',sb,x5,E6,x6⟩:=oD (Kj hw.1);have Dm:aM 136 [.agg (aD.enc s),.agg [.i p.aP,.str p.data,.bool p.aS]] [.one (.bool (jX s p))]:=by apply Ve<;>first|assumption|omega
  rw[bB,af_]at bY;rw[bB]at Ha;rw[<-bY]at Dm
  cases hA:j5 s p with
  |false=>
   rw[hA]at Dm
   try simp only[go_sem]
   repeat'(first|((first|refine af.intro (by first|assumption|(apply zz<;>exact aT)) ?_|refine av.i ?_|with_reducible apply cG)<;>simp only[go_sem,I,bz,b7])|refine⟨ae7,?_⟩|fail)
   rw[Dg hA]
   all_goals simp[outOA,fb]
  |true=>
  rw[hA]at Dm;have BN:=O6 hw.1
  try simp only[go_sem]
  repeat'((first|refine af.intro (by first|assumption|(apply zz<;>exact aT)) ?_|refine av.i ?_|with_reducible apply cG)<;>simp only[go_sem,I,bz])
  by_cases jt:p.data=[]
  ·have a4:=bn (p:=p.data≠[]) (λh=>h jt);have bD:jF s p=s:=by unfold jF;exact if_pos jt
   simp only[go_sem,a4];refine cZ.intro s [0,1,2,3,4,5,6,7] (by first|exact⟨bD.symm,hA⟩|exact bD.symm) ?_;simp only[go_sem];simp
  have a4:=br (p:=p.data≠[]) jt;have bD:jF s p={s with bc:=ia s.bc (gy s.bc [dD p]),bC:=eD s.bC (gy s.bc [dD p])}:=by unfold jF;exact if_neg jt
  have oF:=UM s.bc [dD p] ω ξ;simp only[D.azA,fe,asi,ab.enc]at oF;have Vb:=J1 s.bc (dD p)
  try simp only[go_sem,a4]
  repeat'((first|refine af.i ?_|refine av.i ?_)<;>simp only[go_sem,I])
  generalize hcc:gy s.bc [dD p]=c at *;refine cb.intro (λi:Nat=>⟨(.an::.an::.d (.bool false)::.ptr 0 0 0::.ptr 1 0 0::.an::.ptr 2 0 0::.ptr 7 0 0::.ptr 7 0 5::.i 1::aA 32 (.sl 8 0 c.length::.i c.length::.i i::aA 40 [])),[.box (aD.bx s),.box [.i p.aP,.d (.str p.data),.d (.bool p.aS)],.box aD.ca,.azu s.aB.cells,.azv (eD s.bC (c.take i)),.azv (ia s.bc (c.take i)),.azv s.bJ,.box (aD.a2 s (.sl 3 0 s.aB.cells.length) (.sl 4 0 (eD s.bC (c.take i)).length) (.sl 5 0 (ia s.bc (c.take i)).length) (.sl 6 0 s.bJ.length)),.azv c]⟩)
   (λi=>c.length-i) (λi=>i<=c.length) 0 [0,1,2,3,4,5,6,7,9] ω ?_ ?_
  ·simp only[go_sem];simp[ia,eD]
  intro i hi;have bG:=(GZ (c.take i) s.bc BN.2.1).2.1;have Hw:=qq (c.take i) s.bC;have cR:(c.take i).length=i:=by simp;omega
  by_cases h1:i<c.length
  ·have aq:=aro (i:=i) (n:=c.length);have az:=b_ ab.enc c i h1;have jx:=d8 (i:=i) (m:=524288) ω (by simp[maxLen]);have zb:=O5 s.bc c i h1;have lV:=Au s.bC c i h1;generalize Ho:ia s.bc (c.take i)=hj at *;generalize yf:eD s.bC (c.take i)=KX at *;have sn:=UL hj c[i].low c[i].high ω;have l5:=HS KX c[i].low c[i].high ω
   try simp only[go_sem,I,aF,az,ab.enc,aq]
   repeat'(first|((first|refine af.i ?_|refine av.i ?_|refine a7 Vh χ ψ ?_)<;>simp only[go_sem,I])|refine⟨ae7,?_⟩|fail)
   refine bt.intro (i+1) [0,1,2,3,11,10,6,7,8] ω ω ?_;simp only[go_sem,jx,zb,lV];simp
  obtain⟨aq,rfl⟩:=arn (i:=i) (n:=c.length)
  try simp only[go_sem,aq,da]
  refine cZ.intro (jF s p) [0,1,2,3,4,5,6,7] (by first|exact⟨rfl,hA⟩|rfl) ?_;rw[bD];simp only[go_sem];simp
 rintro d ⟨KY,hA⟩;have hw:=hA;simp only[j5,bm,bH,ed]at hw;obtain⟨g_,h6⟩:=Vf hw.1;have KZ:d.aB=s.aB/\d.aS=s.aS:=by rw[KY];unfold jF;split<;>exact⟨rfl,rfl⟩
 have a5:iI s p=jY (e_ 1 d p):=by unfold iI;rw[hA,KY];rfl
 obtain⟨e,he⟩:∃e,e=e_ 1 d p:=⟨_,rfl⟩;have K0:0<=e.aS/\e.aS<=3:=by rw[he];unfold e_;split<;>(try simp only)<;>omega
 have Vj:e.aB=s.aB:=by rw[he,<-KZ.1];unfold e_;split<;>rfl
 have ef:Ay e=h7 e:=Vd K0.1 K0.2;have bG:e_ 1 d p=if(p.aS&&decide (s.aS=2))=true then {d with aS:=1}else d:=by rw[<-KZ.2];rfl
 have hg:(bif p.aS then decide (s.aS=2)else false)=(p.aS&&decide (s.aS=2)):=by cases p.aS<;>rfl
 refine eE bE 1 (α:=Unit) (λ_=>⟨(.an::.an::.d (.bool false)::.ptr 0 0 0::.ptr 1 0 0::.an::.ptr 2 0 0::.ptr 7 0 0::aA 77 []),[.box (aD.bx s),.box [.i p.aP,.d (.str p.data),.d (.bool p.aS)],.box aD.ca,.azu e.aB.cells,.azv e.bC,.azv e.bc,.azv e.bJ,.box (aD.a2 e (.sl 3 0 e.aB.cells.length) (.sl 4 0 e.bC.length) (.sl 5 0 e.bc.length) (.sl 6 0 e.bJ.length))]⟩) (λ_=>True) ?_ ?_
 ·skip
  try simp only[go_sem]
  repeat'(apply bo<;>simp only[go_sem])
  rw[hg];cases hb:(p.aS&&decide (s.aS=2))
  ·rw[hb,if_neg ξ,<-he]at bG
   try simp only[go_sem]
   refine cZ.intro () [0,1,2,3,4,5,6,7] trivial ?_;rw[bG];simp only[go_sem];simp
  rw[hb,if_pos rfl,<-he]at bG
  try simp only[go_sem]
  refine cZ.intro () [0,1,2,3,4,5,6,7] trivial ?_;rw[bG];simp only[go_sem];simp
 rintro _ _;rw[<-he]at a5;refine gJ bE ?_
 try simp only[go_sem,I]
 repeat'(first|((first|refine af.intro (by first|assumption|apply Dl) ?_|refine av.i ?_)<;>simp only[go_sem,I,ef])|refine⟨ae7,?_⟩|fail)
 rw[a5]
 try simp[jY]
theorem ae2(s:aD)(p:bI)(hc:s.bC.length+s.bc.length+s.bJ.length<=262144)(hr:s.aB.cells.length<=8388608)(hd:p.data.length<=1048576)(hn:ov s):aM 30 [.agg (aD.enc s),.agg [.i p.aP,.str p.data,.bool p.aS]] [.agg (aD.enc ((iw s p)))]:=by
 refine ayE 8 func30 call30 [.cell 4 65] ?_;have f:=aqF s p hc hr hd hn;simp only[go_sem];refine af.intro f ?_;simp only[go_sem,I]
 try simp
theorem aml(s:aD)(p:bI)(hc:s.bC.length+s.bc.length+s.bJ.length<=262144)(hr:s.aB.cells.length<=8388608)(hd:p.data.length<=1048576)(hn:ov s):aM 38 [.agg (aD.enc s),.agg [.i p.aP,.str p.data,.bool p.aS]] [.agg (aD.enc ((iI s p)))]:=by
 refine ayE 8 func38 call38 [.cell 4 65] ?_;have f:=aqG s p hc hr hd hn;simp only[go_sem];refine af.intro f ?_;simp only[go_sem,I]
 try simp
theorem ae3(s:aD)(hc:s.bC.length+s.bc.length+s.bJ.length<=262144)(hr:s.aB.cells.length<=8388608)(hn:ov s):aM 32 [.agg (aD.enc s)] [.agg (aD.enc ((jJ s))),.one (.bool (oM s))]:=by
 refine ayE 18 func32 call32 [.cell 2 65,.tmp 3] ?_;have aE:zh s=dU s:=(OZ hn).symm;have ah:oM s=(dU s&&decide (s.bp=4)):=rfl;have sP:aM 85 [.agg (aD.enc s)] [.one (.bool (dU s))]:=by rw[<-aE];apply U7;omega
 have i6:(bif !dU s then true else decide (s.bp≠4))=!oM s:=by
  rw[ah,show decide (s.bp≠4)=!decide (s.bp=4)by simp];cases dU s<;>rfl
 try simp only[go_sem]
 repeat'((first|refine af.intro (by first|assumption|(apply zz<;>exact aT)) ?_|refine av.i ?_|apply bo)<;>simp only[go_sem,I])
 rw[i6];cases h:oM s
 ·have a1:jJ s=s:=by unfold jJ;rw[h];rfl
  try simp only[go_sem,I,b7]
  repeat'(first|refine⟨ae7,?_⟩|fail)
  rw[a1]
  try simp[outOA,fb]
 have a1:jJ s={s with bp:=5}:=by unfold jJ;rw[h];rfl
 try simp only[go_sem,I,bz]
 repeat'(first|refine⟨ae7,?_⟩|fail)
 rw[a1]
 try simp[outOA,fb]
theorem WT(jZ j0 j1 j2 j3 j4:Int):aM 287 [.agg [.i jZ,.i j0,.i j1,.i j2,.i j3,.i j4]] [.one (.bool (rF (⟨jZ,j0,j1,j2,j3,j4⟩:ej)))]:=by
 refine aW 25 func287 call287 [.tmp 2] ?_;intro _
 try simp only[go_sem]
 repeat'((first|refine af.intro (by apply S') ?_|apply bo)<;>simp only[go_sem])
 all_goals(apply fu;simp[rF])
theorem Qg(jZ j0 j1 j2 j3 j4 n t:Int):aM 243 [.agg [.i jZ,.i j0,.i j1,.i j2,.i j3,.i j4],.one (.i n),.one (.i t)] [.agg (ej.enc (jO (⟨jZ,j0,j1,j2,j3,j4⟩:ej) n t)),.one (.bool (nm (⟨jZ,j0,j1,j2,j3,j4⟩:ej) n t))]:=by
 refine aW 48 func243 call243 [.cell 6 30,.tmp 7] ?_;intro _
 try simp only[go_sem]
 repeat'((first|refine af.intro (by apply WT) ?_|refine av.intro (by apply j7) ?_|apply bo|refine bX (λh=>?_) (λh=>?_))<;>simp only[go_sem])
 all_goals(cases hc:nm (⟨jZ,j0,j1,j2,j3,j4⟩:ej) n t<;>first|(simp[jO,xV,cu,hc];done)|(simp[jO,xV,cu,hc];simp_all;done)|((try(simp only[bH,eC]at *));simp[jO,xV,cu, *];done)|(exfalso;simp[nm]at hc h;first|(simp_all;done)|(simp_all;omega)|omega|grind)|(exfalso;simp[nm,d1,c2]at *;first|(simp_all;done)|(simp_all;omega)|omega|grind))
theorem WV(fj fk fl fm:Int):aM 288 [.agg [.i fj,.i fk,.i fl,.i fm]] [.one (.bool (AS (⟨fj,fk,fl,fm⟩:d9)))]:=by
 refine aW 25 func288 call288 [.tmp 2] ?_;intro _
 try simp only[go_sem]
 repeat'((first|refine af.intro (by apply Ta) ?_|apply bo)<;>simp only[go_sem])
 all_goals(apply fu;simp[AS,and_comm,and_left_comm])
theorem Qh(fj fk fl fm:Int):aM 244 [.agg [.i fj,.i fk,.i fl,.i fm]] [.agg [.i (lj (⟨fj,fk,fl,fm⟩:d9)).cm,.i (lj (⟨fj,fk,fl,fm⟩:d9)).aX,.i (lj (⟨fj,fk,fl,fm⟩:d9)).seen,.i (lj (⟨fj,fk,fl,fm⟩:d9)).cX],.one (.bool (rG (⟨fj,fk,fl,fm⟩:d9)))]:=by
 refine aW 23 func244 call244 [.cell 2 34,.tmp 3] ?_;intro _
 try simp only[go_sem]
 repeat'((first|refine af.intro (by apply WV) ?_|apply bo|refine bX (λh=>?_) (λh=>?_))<;>simp only[go_sem])
 all_goals(cases hc:rG (⟨fj,fk,fl,fm⟩:d9)<;>first|(simp[lj,hc];done)|(simp[lj,hc];simp_all;done)|((try(simp only[bH,eC]at *));simp[lj, *];done)|(exfalso;simp[rG]at hc h;first|(simp_all;done)|(simp_all;omega)|omega|grind)|(exfalso;simp[rG,d1,c2]at *;first|(simp_all;done)|(simp_all;omega)|omega|grind))
theorem WZ(dz en dE ez:Int):aM 241 [.agg [.i dz,.i en,.i dE,.i ez]] [.one (.bool (oR (⟨dz,en,dE,ez⟩:d6)))]:=by
 refine aW 12 func241 call241 [.tmp 2] ?_;intro _
 try simp only[go_sem]
 repeat'((first|refine af.intro (by apply Ab) ?_|apply bo)<;>simp only[go_sem])
 all_goals(apply fu;simp[oR])
theorem abf(dz en dE ez:Int):aM 245 [.agg [.i dz,.i en,.i dE,.i ez]] [.agg [.i (lY (⟨dz,en,dE,ez⟩:d6)).aX,.i (lY (⟨dz,en,dE,ez⟩:d6)).dV,.i (lY (⟨dz,en,dE,ez⟩:d6)).blocked,.i (lY (⟨dz,en,dE,ez⟩:d6)).gA]]:=by
 refine aW 15 func245 call245 [.cell 2 28] ?_;intro _
 try simp only[go_sem]
 repeat'((first|refine af.intro (by apply Ab) ?_|apply bo|refine bX (λh=>?_) (λh=>?_))<;>simp only[go_sem])
 all_goals(cases hc:EN (⟨dz,en,dE,ez⟩:d6)<;>first|(simp[lY,hc];done)|(simp[lY,hc];simp_all;done)|((try(simp only[bH,eC]at *));simp[lY, *];done)|(exfalso;simp[EN]at hc h;first|(simp_all;done)|(simp_all;omega)|omega|grind)|(exfalso;simp[EN,d1,c2]at *;first|(simp_all;done)|(simp_all;omega)|omega|grind))
theorem ahS(dz en dE ez:Int):aM 195 [.agg [.i dz,.i en,.i dE,.i ez]] [.agg [.i (l' (⟨dz,en,dE,ez⟩:d6)).aX,.i (l' (⟨dz,en,dE,ez⟩:d6)).dV,.i (l' (⟨dz,en,dE,ez⟩:d6)).blocked,.i (l' (⟨dz,en,dE,ez⟩:d6)).gA]]:=by
 refine aW 28 func195 call195 [.cell 2 28] ?_;intro _
 try simp only[go_sem]
 repeat'((first|refine af.intro (by apply Ab) ?_|apply bo|refine bX (λh=>?_) (λh=>?_))<;>simp only[go_sem])
 all_goals(cases hc:EM (⟨dz,en,dE,ez⟩:d6)<;>first|(simp[l',hc];done)|(simp[l',hc];simp_all;done)|((try(simp only[bH,eC]at *));simp[l', *];done)|(exfalso;simp[EM]at hc h;first|(simp_all;done)|(simp_all;omega)|omega|grind)|(exfalso;simp[EM,d1,c2]at *;first|(simp_all;done)|(simp_all;omega)|omega|grind))
theorem abm(dz en dE ez n:Int):aM 255 [.agg [.i dz,.i en,.i dE,.i ez],.one (.i n)] [.agg [.i (iV (⟨dz,en,dE,ez⟩:d6) n).aX,.i (iV (⟨dz,en,dE,ez⟩:d6) n).dV,.i (iV (⟨dz,en,dE,ez⟩:d6) n).blocked,.i (iV (⟨dz,en,dE,ez⟩:d6) n).gA],.one (.bool (m4 (⟨dz,en,dE,ez⟩:d6) n))]:=by
 refine aW 26 func255 call255 [.cell 4 28,.tmp 5] ?_;intro _;have hb:m4 (⟨dz,en,dE,ez⟩:d6) n=(jM (⟨dz,en,dE,ez⟩:d6)&&cd n 0 (i64.wrap (dz-en))):=by
  rw[asa];simp[m4,cd,ed]
 cases aE:jM (⟨dz,en,dE,ez⟩:d6)
 ·rw[aE,ap_]at hb
  try simp only[go_sem]
  repeat'((first|refine af.intro (by apply Ab) ?_|with_reducible apply dp)<;>simp only[go_sem,aE])
  all_goals simp[iV,hb]
 rw[aE,af_]at hb;cases hi:cd n 0 (i64.wrap (dz-en))
 ·rw[hi]at hb
  try simp only[go_sem]
  repeat'((first|refine af.intro (by first|apply Ab|apply j7) ?_|with_reducible apply cG)<;>simp only[go_sem,aE,hi])
  all_goals simp[iV,hb]
 rw[hi]at hb
 try simp only[go_sem]
 repeat'((first|refine af.intro (by first|apply Ab|apply j7) ?_|with_reducible apply cG)<;>simp only[go_sem,aE,hi])
 all_goals simp[iV,hb]
theorem amD(dz en dE ez:Int):aM 252 [.agg [.i dz,.i en,.i dE,.i ez]] [.one (.i (yB (⟨dz,en,dE,ez⟩:d6)))]:=by
 refine aW 11 func252 call252 [.tmp 2] ?_;intro _;cases aE:jM (⟨dz,en,dE,ez⟩:d6)
 ·try simp only[go_sem]
  repeat'(refine af.intro (by apply Ab) ?_<;>simp only[go_sem,aE])
  all_goals simp[yB,aE]
 try simp only[go_sem]
 repeat'(refine af.intro (by apply Ab) ?_<;>simp only[go_sem,aE])
 all_goals simp[yB,aE]
def zA(c:J)(w:ej)(t:Bool):ej×Bool:=if rF w then(jO w c.dA c.own.eU,nm w c.dA c.own.eU)else(w,t)
theorem agi(s:ae):(bif bif s.fS then decide (s.aU.bp=0)else false then !s.i5 else false)=sE s:=by unfold sE;cases s.fS<;>cases decide (s.aU.bp=0)<;>rfl
theorem WR(r:cf)(h:0<=r.bp):aM 39 [.agg (cf.enc r)] [.one (.bool (decide (r.bp<2)))]:=by
 refine ayE 11 func39 call39 [.tmp 2] ?_
 try simp only[go_sem]
 repeat'(apply bo<;>simp only[go_sem])
 all_goals(apply fu;rw[asa];simp;omega)
theorem WS(c:J)(w:ej)(t:Bool):aM 238 [.agg (J.enc c),.agg (ej.enc w),.one (.bool t)] [.one (.i (zA c w t).1.aX),.one (.bool (zA c w t).2)]:=by
 refine ayE 29 func238 call238 [.tmp 6,.tmp 7] ?_;have f:aM 287 [.agg (ej.enc w)] [.one (.bool (rF w))]:=WT _ _ _ _ _ _;have g:aM 243 [.agg (ej.enc w),.one (.i c.dA),.one (.i c.own.eU)] [.agg (ej.enc ((jO w c.dA c.own.eU))),.one (.bool (nm w c.dA c.own.eU))]:=Qg _ _ _ _ _ _ _ _;cases h:rF w
 ·rw[h]at f;have e:zA c w t=(w,t):=by unfold zA;rw[h];rfl
  rw[e]
  try simp only[go_sem]
  refine af.intro f ?_
  try simp only[go_sem]
 rw[h]at f;have e:zA c w t=(jO w c.dA c.own.eU,nm w c.dA c.own.eU):=by unfold zA;rw[h];rfl
 rw[e]
 try simp only[go_sem]
 refine af.intro f ?_
 try simp only[go_sem]
 refine af.intro g ?_
 try simp only[go_sem]
theorem WU(a:d9)(t:Bool):aM 239 [.agg [.i a.cm,.i a.aX,.i a.seen,.i a.cX],.one (.bool t)] [.one (.i (h4 a t).1.aX),.one (.bool (h4 a t).2)]:=by
 refine ayE 22 func239 call239 [.tmp 4,.tmp 5] ?_;have f:aM 288 [.agg [.i a.cm,.i a.aX,.i a.seen,.i a.cX]] [.one (.bool (AS a))]:=WV _ _ _ _;have g:aM 244 [.agg [.i a.cm,.i a.aX,.i a.seen,.i a.cX]] [.agg [.i ((lj a)).cm,.i ((lj a)).aX,.i ((lj a)).seen,.i ((lj a)).cX],.one (.bool (rG a))]:=Qh _ _ _ _;cases h:AS a
 ·rw[h]at f;have e:h4 a t=(a,t):=by unfold h4;rw[h];rfl
  rw[e]
  try simp only[go_sem]
  refine af.intro f ?_
  try simp only[go_sem]
 rw[h]at f;have e:h4 a t=(lj a,rG a):=by unfold h4;rw[h];rfl
 rw[e]
 try simp only[go_sem]
 refine af.intro f ?_
 try simp only[go_sem]
 refine af.intro g ?_
 try simp only[go_sem]
theorem agj(c:J)(s:ae)(hr:0<=s.aU.bp):aM 240 [.agg (J.enc c),.agg (ae.enc s)] [.one (.azE (gD c s))]:=by
 refine m_ 92 func240 call240 [.tmp 4] ?_;intro ok;clear ok;have WW:=WR s.aU hr;have WX:=WS c s.bL s.k_;have WY:aM 241 [.agg [.i s.cL.aX,.i s.cL.dV,.i s.cL.blocked,.i s.cL.gA]] [.one (.bool (oR s.cL))]:=WZ _ _ _ _;have ah:gD c s=jP s++l_ s++mZ c s++p1 s:=rfl;have d':=AT c s;rw[ah]at d';simp only[eh]at d';refine eE bE 3 (α:=List al) (λfs=>⟨(.an::.an::.ptr 0 0 0::.ptr 1 0 0::.an::.sl 2 0 fs.length::aA 86 []),[.box (J.bx c),.box (ae.bx s),.azy fs]⟩) (λfs=>fs=jP s) ?_ ?_
 ·skip
  try simp only[go_sem]
  repeat'((first|refine af.i ?_|refine av.i ?_)<;>simp only[go_sem,I])
  cases h:s.i4
  ·simp only[go_sem];refine cZ.intro (jP s) [0,1,2] rfl ?_;simp only[go_sem];simp[jP,h]
  try simp only[go_sem]
  repeat'(first|refine⟨ae7,?_⟩|fail)
  refine cZ.intro (jP s) [0,1,4] rfl ?_;simp only[go_sem];simp[jP,h,ow,al.enc]
 rintro fs dj;have ef:fs.length<=4:=by rw[dj];(try simp only[eh]);omega
 refine eE bE 1 (α:=List al) (λfs=>⟨(.an::.an::.ptr 0 0 0::.ptr 1 0 0::.an::.sl 2 0 fs.length::aA 86 []),[.box (J.bx c),.box (ae.bx s),.azy fs]⟩) (λfs=>fs=jP s++l_ s) ?_ ?_
 ·skip
  try simp only[go_sem]
  repeat'((first|refine af.i ?_|refine av.i ?_|apply bo)<;>simp only[go_sem])
  rw[W0 s];cases h:s.gK&&decide (s.aU.bp<2)
  ·simp only[go_sem];refine cZ.intro (jP s++l_ s) [0,1,2] rfl ?_;simp only[go_sem];simp[l_,h,dj]
  try simp only[go_sem,I]
  repeat'(first|refine⟨ae7,?_⟩|fail)
  refine cZ.intro (jP s++l_ s) [0,1,4] rfl ?_;simp only[go_sem];simp[l_,h,dj,ow,al.enc]
 rintro fs dj;have ef:fs.length<=4:=by rw[dj];(try simp only[eh]);omega
 refine eE bE 1 (α:=List al) (λfs=>⟨(.an::.an::.ptr 0 0 0::.ptr 1 0 0::.an::.sl 2 0 fs.length::aA 86 []),[.box (J.bx c),.box (ae.bx s),.azy fs]⟩) (λfs=>fs=jP s++l_ s++mZ c s) ?_ ?_
 ·skip
  try simp only[go_sem]
  repeat'(apply bo<;>simp only[go_sem])
  rw[agi s];cases hg:sE s
  ·have bB:mZ c s=[]:=by unfold mZ m0;rw[hg];rfl
   simp only[go_sem];refine cZ.intro (jP s++l_ s++mZ c s) [0,1,2] rfl ?_;simp only[go_sem];simp[bB,dj]
  have hW:m0 c s=zA c s.bL s.k_:=by unfold m0;rw[hg];rfl
  simp only[go_sem];refine af.intro WX ?_;simp only[go_sem];cases h:(zA c s.bL s.k_).2
  ·have bB:mZ c s=[]:=by unfold mZ;rw[hW,h];rfl
   simp only[go_sem];refine cZ.intro (jP s++l_ s++mZ c s) [0,1,2] rfl ?_;simp only[go_sem];simp[bB,dj]
  have bB:mZ c s=[nn 17 s.id (zA c s.bL s.k_).1.aX]:=by unfold mZ;rw[hW,h];rfl
  try simp only[go_sem,I]
  repeat'(first|refine⟨ae7,?_⟩|fail)
  refine cZ.intro (jP s++l_ s++mZ c s) [0,1,4] rfl ?_;simp only[go_sem];simp[bB,dj,nn,al.enc]
 rintro fs dj;have ef:fs.length<=4:=by rw[dj];(try simp only[eh]);omega
 refine gJ bE ?_
 try simp only[go_sem]
 repeat'((first|refine af.i ?_|refine av.i ?_|apply bo)<;>simp only[go_sem,I])
 rw[W1 s];cases h:oR s.cL&&s.ft&&decide (0<(s.ag.bC.length:Int))
 ·have bG:p1 s=[]:=by unfold p1;rw[h];rfl
  try simp only[go_sem,I]
  repeat'(first|refine⟨ae7,?_⟩|fail)
  rw[ah,<-dj,bG];simp
 have bG:p1 s=[nn 21 s.id s.cL.aX]:=by unfold p1;rw[h];rfl
 try simp only[go_sem,I]
 repeat'(first|refine⟨ae7,?_⟩|fail)
 rw[ah,<-dj,bG];simp[nn,al.enc,eA]
theorem agk(c:J)(hz:gZ c)(bB:∀s∈c.aa,ov s.ag)(hr:∀s∈c.aa,0<=s.aU.bp):aM 189 [.agg (J.enc c)] [.one (.azE (fc c))]:=by
 refine m_ 112 func189 call189 [.tmp 2] ?_;intro ok;clear ok;have mo:c.aa.length<=30:=hz.1;have AU:=LC c hz;rw[show(ki c&&decide (c.cX=0))=hZ c by unfold hZ;rw[AQ bB]]at AU;have dG:=WS c c.c7 c.p2;rw[show zA c c.c7 c.p2=nJ c from rfl]at dG;have e9:=WU c.dB c.mA;have f3:=WU c.dC c.mB;have WY:aM 241 [.agg [.i c.cn.aX,.i c.cn.dV,.i c.cn.blocked,.i c.cn.gA]] [.one (.bool (oR c.cn))]:=WZ _ _ _ _;have ah:fc c=if hZ c then fJ c++gp c++g3 c++c.aa.flatMap (gD c)++(lT c++n2 c++xn c)else []:=rfl
 have cA:(fJ c).length<=1:=zB _ _;have db:(gp c).length<=1:=zB _ _;have c0:(g3 c).length<=1:=zB _ _;have qK:(lT c).length<=1:=zB _ _;have nI:(n2 c).length<=1:=zB _ _;have agl:=FQ (gD c) 4 c.aa λs _=>AT c s;refine eE bE 3 (α:=List al) (λfs=>⟨(.an::.ptr 0 0 0::.an::.sl 1 0 fs.length::aA 108 []),[.box (J.bx c),.azy fs]⟩) (λfs=>fs=[]/\hZ c=true) ?_ ?_
 ·skip
  try simp only[go_sem]
  repeat'((first|refine af.i ?_|refine av.i ?_)<;>simp only[go_sem])
  cases h:hZ c
  ·simp only[go_sem,b7];rw[ah,h];simp
  simp only[go_sem,bz];refine cZ.intro [] [0,1] (by first|exact⟨rfl,rfl⟩|rfl) ?_;simp only[go_sem];simp
 rintro fs ⟨dj,bG⟩;have ah:fc c=fJ c++gp c++g3 c++c.aa.flatMap (gD c)++(lT c++n2 c++xn c):=by rw[ah,bG];rfl
 have ef:fs.length<=0:=by rw[dj];simp
 refine eE bE 1 (α:=List al) (λfs=>⟨(.an::.ptr 0 0 0::.an::.sl 1 0 fs.length::aA 108 []),[.box (J.bx c),.azy fs]⟩) (λfs=>fs=fJ c) ?_ ?_
 ·skip
  try simp only[go_sem]
  repeat'((first|refine af.i ?_|refine av.i ?_)<;>simp only[go_sem])
  cases h:(nJ c).2
  ·have bB:fJ c=[]:=by unfold fJ;rw[h];rfl
   simp only[go_sem];refine cZ.intro (fJ c) [0,1] rfl ?_;simp only[go_sem];simp[bB,dj]
  have bB:fJ c=[fV 16 (nJ c).1.aX false]:=by unfold fJ;rw[h];rfl
  try simp only[go_sem,I]
  repeat'(first|refine⟨ae7,?_⟩|fail)
  refine cZ.intro (fJ c) [0,3] rfl ?_;simp only[go_sem];simp[bB,dj,fV,al.enc]
 clear ef dj;rintro fs dj;have ef:fs.length<=100:=by rw[dj];(try simp only[eh]);omega
 refine eE bE 1 (α:=List al) (λfs=>⟨(.an::.ptr 0 0 0::.an::.sl 1 0 fs.length::aA 108 []),[.box (J.bx c),.azy fs]⟩) (λfs=>fs=fJ c++gp c) ?_ ?_
 ·skip
  try simp only[go_sem]
  repeat'((first|refine af.i ?_|refine av.i ?_)<;>simp only[go_sem])
  cases h:(h4 c.dB c.mA).2
  ·have bB:gp c=[]:=by unfold gp;rw[h];rfl
   simp only[go_sem];refine cZ.intro (fJ c++gp c) [0,1] rfl ?_;simp only[go_sem];simp[bB,dj]
  have bB:gp c=[fV 18 (h4 c.dB c.mA).1.aX false]:=by unfold gp;rw[h];rfl
  try simp only[go_sem,I]
  repeat'(first|refine⟨ae7,?_⟩|fail)
  refine cZ.intro (fJ c++gp c) [0,3] rfl ?_;simp only[go_sem];simp[bB,dj,fV,al.enc]
 clear ef dj;rintro fs dj;have ef:fs.length<=100:=by rw[dj];(try simp only[eh]);omega
 refine eE bE 1 (α:=List al) (λfs=>⟨(.an::.ptr 0 0 0::.an::.sl 1 0 fs.length::aA 108 []),[.box (J.bx c),.azy fs]⟩) (λfs=>fs=fJ c++gp c++g3 c) ?_ ?_
 ·skip
  try simp only[go_sem]
  repeat'((first|refine af.i ?_|refine av.i ?_)<;>simp only[go_sem])
  cases h:(h4 c.dC c.mB).2
  ·have bB:g3 c=[]:=by unfold g3;rw[h];rfl
   simp only[go_sem];refine cZ.intro (fJ c++gp c++g3 c) [0,1] rfl ?_;simp only[go_sem];simp[bB,dj]
  have bB:g3 c=[fV 18 (h4 c.dC c.mB).1.aX true]:=by unfold g3;rw[h];rfl
  try simp only[go_sem,I]
  repeat'(first|refine⟨ae7,?_⟩|fail)
  refine cZ.intro (fJ c++gp c++g3 c) [0,3] rfl ?_;simp only[go_sem];simp[bB,dj,fV,al.enc,arH]
 clear ef dj;rintro fs dj;have ef:fs.length<=100:=by rw[dj];(try simp only[eh]);omega
 refine eE bE 1 (α:=List al) (λfs=>⟨(.an::.ptr 0 0 0::.an::.sl 1 0 fs.length::aA 108 []),[.box (J.bx c),.azy fs]⟩) (λfs=>fs=fJ c++gp c++g3 c++c.aa.flatMap (gD c)) ?_ ?_
 ·simp only[go_sem,I];subst dj;refine cb.intro (α:=Nat×List al) (λy=>⟨(.an::.ptr 0 0 0::.an::.sl 1 0 y.2.length::aA 57 (.d (.azD c.aa)::.i c.aa.length::.i y.1::aA 48 [])),[.box (J.bx c),.azy y.2]⟩)
   (λy=>c.aa.length-y.1) (λy=>y.1<=c.aa.length/\y.2=fJ c++gp c++g3 c++(c.aa.take y.1).flatMap (gD c)) (0,fJ c++gp c++g3 c) [0,1] ⟨by simp,by simp⟩ ?_ ?_
  ·simp only[go_sem];simp
  rintro⟨i,q⟩ ⟨hi,hq⟩;simp only at hi hq;by_cases h1:i<c.aa.length
  ·have aq:=aro (i:=i) (n:=c.aa.length);have az:=b_ ae.enc c.aa i h1;have hw:=asc (i:=i);have hs:fJ c++gp c++g3 c++(c.aa.take (i+1)).flatMap (gD c)=q++gD c c.aa[i]:=by
    rw[hq,gO,cy h1,ash];simp
   have iL:q.length<=3+4 * i:=by
    have:=FQ (gD c) 4 (c.aa.take i) λs _=>AT c s;rw[arJ]at this;rw[hq];simp only[eh];omega
   have agm:=AT c c.aa[i];have a5:=agj c c.aa[i] (hr _ (eK h1));generalize gD c c.aa[i]=r at *
   try simp only[go_sem,I,aF,az,ae.enc,aq]
   repeat'(first|((first|refine af.i ?_|refine av.i ?_)<;>simp only[go_sem,I])|refine⟨ae7,?_⟩|fail)
   refine bt.intro (i+1,q++r) [0,4] ⟨by simp only;omega,hs.symm⟩ (by simp only;omega) ?_;simp only[go_sem,hw];simp
  obtain⟨aq,rfl⟩:=arn (i:=i) (n:=c.aa.length);rw[da]at hq;subst hq;simp only[go_sem,aq];refine cZ.intro (fJ c++gp c++g3 c++c.aa.flatMap (gD c)) [0,1] rfl ?_;simp only[go_sem];simp
 clear ef dj;rintro fs dj;have ef:fs.length<=123:=by rw[dj];(try simp only[eh]);omega
 refine eE bE 1 (α:=List al) (λfs=>⟨(.an::.ptr 0 0 0::.an::.sl 1 0 fs.length::aA 108 []),[.box (J.bx c),.azy fs]⟩) (λfs=>fs=fJ c++gp c++g3 c++c.aa.flatMap (gD c)++lT c) ?_ ?_
 ·skip
  try simp only[go_sem]
  repeat'((first|refine af.i ?_|refine av.i ?_)<;>simp only[go_sem])
  cases h:oR c.cn
  ·have bB:lT c=[]:=by unfold lT;rw[h];rfl
   simp only[go_sem];refine cZ.intro (fJ c++gp c++g3 c++c.aa.flatMap (gD c)++lT c) [0,1] rfl ?_;simp only[go_sem];simp[bB,dj,arH]
  have bB:lT c=[fV 20 c.cn.aX false]:=by unfold lT;rw[h];rfl
  try simp only[go_sem,I]
  repeat'(first|refine⟨ae7,?_⟩|fail)
  refine cZ.intro (fJ c++gp c++g3 c++c.aa.flatMap (gD c)++lT c) [0,3] rfl ?_;simp only[go_sem];simp[bB,dj,fV,al.enc,arH]
 clear ef dj;rintro fs dj;have ef:fs.length<=130:=by rw[dj];(try simp only[eh]);omega
 refine eE bE 1 (α:=List al) (λfs=>⟨(.an::.ptr 0 0 0::.an::.sl 1 0 fs.length::aA 108 []),[.box (J.bx c),.azy fs]⟩) (λfs=>fs=fJ c++gp c++g3 c++c.aa.flatMap (gD c)++lT c++n2 c) ?_ ?_
 ·skip
  try simp only[go_sem]
  cases h:decide (c.eY.blocked=c.eY.aX)
  ·have bB:n2 c=[]:=by unfold n2;exact if_neg (de h)
   simp only[go_sem];refine cZ.intro (fJ c++gp c++g3 c++c.aa.flatMap (gD c)++lT c++n2 c) [0,1] rfl ?_;simp only[go_sem];simp[bB,dj,arH]
  have bB:n2 c=[fV 22 c.eY.aX false]:=by unfold n2;exact if_pos (cY h)
  try simp only[go_sem,I]
  repeat'(first|refine⟨ae7,?_⟩|fail)
  refine cZ.intro (fJ c++gp c++g3 c++c.aa.flatMap (gD c)++lT c++n2 c) [0,3] rfl ?_;simp only[go_sem];simp[bB,dj,fV,al.enc,arH]
 clear ef dj;rintro fs dj;have ef:fs.length<=130:=by rw[dj];(try simp only[eh]);omega
 refine gJ bE ?_
 try simp only[go_sem]
 cases h:decide (c.eZ.blocked=c.eZ.aX)
 ·have bB:xn c=[]:=by unfold xn;exact if_neg (de h)
  try simp only[go_sem,I]
  repeat'(first|refine⟨ae7,?_⟩|fail)
  rw[ah,<-ah_,<-ah_,<-dj,bB];simp
 have bB:xn c=[fV 22 c.eZ.aX true]:=by unfold xn;exact if_pos (cY h)
 try simp only[go_sem,I]
 repeat'(first|refine⟨ae7,?_⟩|fail)
 rw[ah,<-ah_,<-ah_,<-dj,bB];simp[fV,al.enc,eA]
theorem FI{c:J}{id:Int}{i:Nat}(h:g2 (eB id) c.aa=(i:Int))(hi:i<c.aa.length):aC c id=c.aa[i]:=by
 rcases m' (eB id) c.aa with ⟨b5,_⟩|⟨j,aI,b5,b8,dI⟩
 ·omega
 have:j=i:=by omega
 subst this;unfold aC bQ;rw[b8]
theorem PZ{l:List ae}{id:Int}{i:Nat}{Y:ae}(h:g2 (eB id) l=(i:Int))(hi:i<l.length)(og:Y.id=id):atz l.length ((l.map ae.enc).take i++Y.enc::(l.map ae.enc).drop (i+1))=(dv l Y).map ae.enc:=by
 rw[eA (by simp;omega),Lo (s:=Y) (i:=i) (by rw[og];exact h),atl,if_pos hi];simp
theorem H2{l:List ae}{id:Int}{i:Nat}(h:g2 (eB id) l=(i:Int))(hi:i<l.length):l[i].id=id:=by
 rcases m' (eB id) l with ⟨b5,_⟩|⟨j,aI,b5,b8,dI⟩
 ·omega
 have:j=i:=by omega
 subst this;simpa [eB]using dI
theorem acb{n:Int}(h:bN n):ll n≠0:=by
 have hq:=mC.1 h;unfold ll;rw[if_neg ω]
 repeat' split
 all_goals omega
theorem anx{n:Int}(h:bN n):fv n≠[]:=λe=>by
 have:=On n;rw[e]at this;exact acb h (by simpa using this.symm)
theorem TR{l:List Int}(h:∀n∈l,bN n):pC l=l.flatMap fv:=by
 unfold pC;rw[if_neg];simp only[asX,bH,not_exists,not_and];exact λn hn=>acb (h n hn)
theorem Mh{f:al}(h:eu f):kindOk f.aY/\jj f=f/\bN f.ax/\bN f.aP/\bN f.cS/\bN f.aX/\bN f.bf/\f.data.length<=400/\(f.aY=8->f.aP+f.data.length<=4611686018427387903)/\(f.aY=18\/f.aY=22->f.aX<=1152921504606846976):=by
 simp only[eu,zM,bm,bH,ed,ab_,eC]at h;obtain⟨h1,h2,ao,aH,bR,eQ,i',dK,m1⟩:=h;refine⟨h1,h2,ao,aH,bR,eQ,i',by omega,λhk=>?_,λhk=>?_⟩
 ·rw[if_pos hk,bH,bw ω ω]at m1;omega
 rw[if_neg ω,if_pos hk,bH]at m1;exact m1
theorem Mi{k:Int}(h:kindOk k):k=4\/k=5\/k=8\/k=16\/k=17\/k=18\/k=20\/k=21\/k=22:=by
 simp only[kindOk,arG,bH,or_assoc]at h;exact h
def Eb(f:al):List UInt8:=
 if f.aY=4 then fv 4++(fv f.ax++(fv f.cS++fv f.bf))
 else if f.aY=5 then fv 5++(fv f.ax++fv f.cS)
 else if f.aY=8 then fv ((if f.aS then 11 else 10)+(if f.aP=0 then 0 else 4))++(fv f.ax++((if f.aP=0 then []else fv f.aP)++(fv (f.data.length:Int)++f.data)))
 else if f.aY=16\/f.aY=20 then fv f.aY++fv f.aX
 else if f.aY=17\/f.aY=21 then fv f.aY++(fv f.ax++fv f.aX)
 else fv (f.aY+(if f.fG then 1 else 0))++fv f.aX
theorem Yb{f:al}(h:eu f):eS f=Eb f:=by
 obtain⟨h1,h2,ao,aH,bR,eQ,i',dK,m1,rq⟩:=Mh h;have q:∀n:Int,0<=n->n<=1000->bN n:=λn a b=>mC.2 ω;have hl:bN (f.data.length:Int):=q _ ω ω;unfold eS;rw[if_pos h];unfold IE Eb;have ar:∀a b:Int,bN a->bN b->pC [a,b]=fv a++fv b:=λa b ha hb=>by
  rw[TR (by simp[ha,hb])];simp
 have a4:∀a b c:Int,bN a->bN b->bN c->pC [a,b,c]=fv a++(fv b++fv c):=λa b c ha hb hc=>by
  rw[TR (by simp[ha,hb,hc])];simp
 have bP:∀a b c d:Int,bN a->bN b->bN c->bN d->pC [a,b,c,d]=fv a++(fv b++(fv c++fv d)):=λa b c d ha hb hc hd=>by
  rw[TR (by simp[ha,hb,hc,hd])];simp
 split
 ·exact bP _ _ _ _ (q 4 ω ω) ao bR i'
 split
 ·exact a4 _ _ _ (q 5 ω ω) ao bR
 split
 ·split
  ·rename_i h0;rw[a4 _ _ _ (by split<;>exact q _ ω ω) ao hl];simp
  rename_i h0;rw[bP _ _ _ _ (by split<;>exact q _ ω ω) ao aH hl];cases f.aS<;>simp
 split
 ·exact ar _ _ (q _ ω ω) eQ
 split
 ·exact a4 _ _ _ (q _ ω ω) ao eQ
 have hk:=Mi h1;cases f.fG
 ·rw[ar _ _ (by simp;exact q _ ω ω) eQ];simp
 have hw:i64.wrap (f.aY+1)=f.aY+1:=by rw[bw]<;>omega
 simp only[if_true,hw];rw[ar _ _ (q _ ω ω) eQ]
theorem acd{f:al}(h:eu f):eS f≠[]:=by
 obtain⟨h1,_⟩:=Mh h;have q:∀n:Int,0<=n->n<=1000->fv n≠[]:=λn a b=>anx (mC.2 ω);have hk:=Mi h1;have TS:∀{a b:List UInt8},a≠[]->a++b≠[]:=λha e=>ha (List.append_eq_nil_iff.1 e).1;rw[Yb h];unfold Eb
 repeat' split
 all_goals(refine TS (q _ ?_ ?_))
 all_goals first|omega|(split<;>omega)|(split<;>split<;>omega)
theorem ain{l:List al}(h:∀f∈l,eu f)(hl:(l.flatMap eS).length<=400):xv l=l.flatMap eS:=by
 unfold xv;rw[if_neg,if_neg ω];simp only[asX,bH,not_exists,not_and];exact λf hf=>acd (h f hf)
theorem L'{c:J}{b:Int}(h:rJ c b):ew c/\c.cX=0/\1<=b/\b<=400/\c.bU<1000000:=by
 simp only[rJ,hZ,bm,Ag,ab_,eC,bH]at h;obtain⟨⟨⟨h1,h2⟩,ao,aH⟩,bR⟩:=h;exact⟨h1,h2,ao,aH,by omega⟩
theorem acj{s:aD}{B:Int}(hi:eJ B s)(hB:B<=1000000){m l:Int}(h0:1<=m)(h1:m<=1000):kY s m l=kY s 1 l:=by
 have c3:=hi.c3;have ak:=hi.ak;unfold kY
 cases hr:s.bC[0]? with
 |none=>rfl
 |some r=>
  have hm:r∈s.bC:=arW hr;have sV:=(gr _).1 (((ho _).1 hi.p.1).1 r hm);have AF:=hi.p.2 r hm;simp only;by_cases hl:r.low<cu r.high l
  ·have hh:cu r.high l<=r.high:=by unfold cu;split<;>omega
   have key:∀k:Int,1<=k->k<=1000->decide (r.low<k6 r k l):=λk mg k1=>by
    rw[bH];unfold k6;split
    ·have e:dJ k 0=k:=by unfold dJ;split<;>omega
     rw[e,bw]<;>omega
    exact hl
   rw[key m h0 h1,key 1 ω ω]
  rw[bn hl];simp
def BC(s:aD)(id fB room:Int):Nat->bI×Bool
 |0=>(n7,false)
 |n+1=>if kY s (n+1:Nat) fB&&cd ((eS (gE id (jV s (n+1:Nat) fB))).length:Int) 1 room then(jV s (n+1:Nat) fB,true)else BC s id fB room n
theorem abC{s:aD}{id fB room:Int}{B:Int}(hi:eJ B s)(hB:B<=1000000)(hq:bN id):∀(n:Nat),n<=60->BC s id fB room n=pB s id fB room n
 |0,_=>rfl
 |n+1,hn=>by
  have c3:=hi.c3;have ak:=hi.ak;unfold BC pB;have Oo:=acj hi hB (m:=(n+1:Nat)) (l:=fB) ω ω;cases hok:kY s (n+1:Nat) fB
  ·rw[hok]at Oo;rw[if_neg ξ,if_neg ξ];have key:∀k:Nat,k<=60->BC s id fB room k=(n7,false):=by
    intro k
    induction k with
    |zero=>intro _;rfl
    |succ k c_=>
     intro hk;unfold BC;have:=acj hi hB (m:=(k+1:Nat)) (l:=fB) ω ω;rw[this,<-Oo,ap_,if_neg ξ,c_ ω]
   exact key n ω
  obtain⟨k1,k2⟩:=ab8 hi hB (m:=(n+1:Nat)) (l:=fB) ω ω hok;have fU:=ID (m:=(n+1:Nat)) (l:=fB) ω ω hi.p ω;have hf:eu (gE id (jV s (n+1:Nat) fB)):=ab5 hq k1 ω ω;have hne:=acd hf;have Ez:0<(eS (gE id (jV s (n+1:Nat) fB))).length:=aq_.2 hne;rw[if_pos rfl];by_cases hr:((eS (gE id (jV s (n+1:Nat) fB))).length:Int)<=room
  ·rw[if_pos hr,if_pos];rw[af_,Ag];omega
  rw[if_neg hr,if_neg,abC hi hB hq n ω];rw[af_,Ag];omega
theorem ack:∀(cH:List Int) (l:List ch),cH.foldl n6 l=l.filter λc=>!cH.contains c.id
 |[],l=>(asR.2 λ_ _=>rfl).symm
 |x::cH,l=>by
  rw[An,ack cH,n6,aAe];apply aAi;intro c _;rw[List.contains_cons];by_cases h:c.id=x
  ·simp[h]
  have:(c.id == x)=false:=by simpa using h
  simp[this,h]
def D'(x:J)(skip:List Int):List ch:=(x.aa.filter λs=>rL s&&!skip.contains s.id).map p9
theorem XU(q:n5):D' q.x q.skip=A1 q:=by
 unfold A1 D';rw[ack,zK,List.filter_map,aAe]
 congr 1
 apply aAi;intro s _;simp only[Function.comp_apply,p9];rw[aAx]
theorem Xe{m:Nat}(h:m<2^63):bitI .and .i64 (m:Int) 255=((m % 256:Nat):Int):=by
 have:=Qr (m:=m) (k:=255) rfl rfl ω ω;rw[show Nat.land m 255=m % 256 from Nat.and_two_pow_sub_one_eq_mod m 8]at this;rw[show(255:Int)=((255:Nat):Int)from rfl,this,bw ω ω]
theorem agq{m k:Nat}{x y:Int}(hx:x=m)(hy:y=k)(hm:m<2^64)(hk:k<2^64):bitI .or .i64 x y=i64.wrap ((aAj m k:Nat):Int):=by
 subst hx hy;unfold bitI;simp only
 congr 1
 have ak:BitVec.ofInt arV.bits (m:Int)=BitVec.ofNat 64 m:=by rw[BitVec.ofInt_natCast];rfl
 have ar:BitVec.ofInt arV.bits (k:Int)=BitVec.ofNat 64 k:=by rw[BitVec.ofInt_natCast];rfl
 rw[ak,ar];have ao:(HOr.hOr (BitVec.ofNat 64 m) (BitVec.ofNat 64 k)).toNat=aAj m k:=by
  rw[BitVec.toNat_or,BitVec.toNat_ofNat,BitVec.toNat_ofNat,asb hm,asb hk];rfl
 exact congrArg Int.ofNat ao
theorem Xf{m t i:Nat}(h:m<2^i):aAj m (2^i * t)=m+2^i * t:=by
 have h1:=Nat.two_pow_add_eq_or_of_lt h t;have h2:aAj m (2^i * t)=aAj (2^i * t) m:=Nat.or_comm m (2^i * t);rw[h2];exact h1.symm.trans (Nat.add_comm _ _)
theorem Qs{m t:Nat}(h:m<64)(ht:t=1\/t=2\/t=3):bitI .or .i64 (m:Int) ((64 * t:Nat):Int)=((m+64 * t:Nat):Int):=by
 rw[agq (m:=m) (k:=64 * t) rfl rfl ω ω,show aAj m (64 * t)=m+64 * t from Xf (i:=6) h,bw ω ω]
def AV(k:Nat):Nat:=if k=2 then 1 else if k=4 then 2 else if k=8 then 3 else 0
theorem agr{n:Int}(h:bN n):∃m k:Nat,n=(m:Int)/\ll n=(k:Int)/\(k=1\/k=2\/k=4\/k=8)/\m<2^(8 * k-2):=by
 have hq:=mC.1 h;obtain⟨m,rfl⟩:=mU hq.1;unfold ll;rw[if_neg ω];split
 ·exact⟨m,1,rfl,rfl,.inl rfl,by omega⟩
 split
 ·exact⟨m,2,rfl,rfl,.inr (.inl rfl),by omega⟩
 split
 ·exact⟨m,4,rfl,rfl,.inr (.inr (.inl rfl)),by omega⟩
 exact⟨m,8,rfl,rfl,.inr (.inr (.inr rfl)),by omega⟩
theorem Xg(m p:Nat):((m:Int)).fdiv (p:Int)=((m / p:Nat):Int):=by
 rw[Int.fdiv_eq_ediv_of_nonneg _ (Int.natCast_nonneg p),Int.natCast_ediv]
theorem ags{m k j:Nat}(hk:k=1\/k=2\/k=4\/k=8)(hm:m<2^(8 * k-2))(aI:j<k):B8 (m:Int) k j=((m / 2^(8 * j) % 256+(if j+1=k then 64 * AV k else 0):Nat):Int):=by
 have hb:m<2^62:=asD hm (azT ω ω);have LK:min (8 * j) 64=8 * j:=by omega
 have e:((m:Int)).fdiv (2^min (8 * j) 64)=((m / 2^(8 * j):Nat):Int):=by
  rw[LK,show((2:Int)^(8 * j))=((2^(8 * j):Nat):Int)by rw[Int.natCast_pow];rfl,Xg]
 have bu:m / 2^(8 * j)<=m:=Nat.div_le_self _ _;unfold B8;simp only;rw[e,Xe ω];split
 ·rename_i arp;have hlt:m / 2^(8 * j)<64:=by
   rw[aun (aAo ω)];have:64 * 2^(8 * j)=2^(8 * k-2):=by
    rw[show(64:Nat)=2^6 from rfl,<-azU]
    congr 1
    omega
   omega
  have AW:m / 2^(8 * j) % 256=m / 2^(8 * j):=asb ω;rw[AW];rcases hk with rfl|rfl|rfl|rfl
  ·rfl
  ·exact Qs (t:=1) hlt (.inl rfl)
  ·exact Qs (t:=2) hlt (.inr (.inl rfl))
  exact Qs (t:=3) hlt (.inr (.inr rfl))
 ·rfl
def B9(m k i:Nat):Nat:=m / 2^(8 * (k-1-i)) % 256+(if i=0 then 64 * AV k else 0)
theorem agt{m k i:Nat}(hk:k=1\/k=2\/k=4\/k=8)(hm:m<2^(8 * k-2)):B9 m k i<256:=by
 unfold B9;split
 ·rename_i hi;subst hi;have hlt:m / 2^(8 * (k-1-0))<64:=by
   rw[aun (aAo ω)];have:64 * 2^(8 * (k-1-0))=2^(8 * k-2):=by
    rw[show(64:Nat)=2^6 from rfl,<-azU]
    congr 1
    omega
   omega
  have:AV k<=3:=by unfold AV;(repeat' split)<;>omega
  have AW:m / 2^(8 * (k-1-0)) % 256=m / 2^(8 * (k-1-0)):=asb ω;rw[AW];omega
 ·have:=Nat.mod_lt (m / 2^(8 * (k-1-i))) (show 0<256 by omega);omega
theorem agu{n:Int}{m k:Nat}(hn:n=(m:Int))(hs:ll n=(k:Int))(hk:k=1\/k=2\/k=4\/k=8)(hm:m<2^(8 * k-2)):fv n=(pv k).map λi=>ass (B9 m k i):=by
 subst hn;unfold fv yp;rw[hs,aF];apply List.map_congr_left;intro x hx;have hx:=asl.1 hx;have hb:=agt (i:=x) hk hm;rw[ags hk hm ω];have e:(if k-1-x+1=k then 64 * AV k else 0)=if x=0 then 64 * AV k else 0:=by
  by_cases h:x=0
  ·rw[if_pos h,if_pos ω]
  rw[if_neg h,if_neg ω]
 rw[e]
 show p4 (bitI .and .i64 ((B9 m k x:Nat):Int) 255)=_
 rw[Xe ω,asb hb];rfl
def LL(m k i:Nat):Nat:=m / 2^(8 * (k-1-i))
theorem agv{m k:Nat}(hk:k=1\/k=2\/k=4\/k=8)(hm:m<2^(8 * k-2)):B9 m k 0 % 64=LL m k 0/\B9 m k 0 / 64=AV k/\2^AV k=k/\LL m k 0<64:=by
 have hlt:m / 2^(8 * (k-1-0))<64:=by
  rw[aun (aAo ω)];have:64 * 2^(8 * (k-1-0))=2^(8 * k-2):=by
   rw[show(64:Nat)=2^6 from rfl,<-azU]
   congr 1
   omega
  omega
 have AW:m / 2^(8 * (k-1-0)) % 256=m / 2^(8 * (k-1-0)):=asb ω;unfold B9 LL;rw[if_pos rfl,AW];refine⟨by omega,by omega,?_,hlt⟩;rcases hk with rfl|rfl|rfl|rfl<;>rfl
theorem adz(n:Int):aM 324 [.one (.i n)] [.one (.i (ll n))]:=by
 refine aW 16 func324 call324 [.tmp 2] ?_;intro _;cases aE:bN n
 ·have hs:ll n=0:=by
   unfold ll;rw[if_pos];by_cases h:n<0\/4611686018427387903<n
   ·exact h
   rw[mC.2 ω]at aE;cases aE
  try simp only[go_sem]
  repeat'(refine af.intro (by apply pW) ?_<;>simp only[go_sem,aE])
  all_goals simp[hs]
 have hq:=mC.1 aE
 try simp only[go_sem]
 repeat'((first|refine af.intro (by apply pW) ?_|refine bX (λh=>?_) (λh=>?_))<;>simp only[go_sem,aE])
 all_goals(simp only[bH,eC]at *;simp[ll, *];try omega)
def pO(m k j:Nat):List Int:=(pv k).map λi=>if k<=i+j then((m / 2^(8 * (k-1-i)) % 256:Nat):Int)else 0
theorem apy(m k:Nat):(pO m k 0).map eU8=ea k (eU8 0):=by
 apply aAl (by simp[pO]);intro i h1 h2;simp[pO]at h1;simp[pO];rw[if_neg ω]
theorem apz{m k j:Nat}(aI:j<k):((pO m k j).map eU8).set (k-1-j) (eU8 ((m / 2^(8 * j) % 256:Nat):Int))=(pO m k (j+1)).map eU8:=by
 apply aAl (by simp[pO]);intro i h1 h2;simp[pO]at h1;simp only[List.getElem_set,pO,ath,List.getElem_range];by_cases h:k-1-j=i
 ·rw[if_pos h,if_pos ω];have:k-1-i=j:=by omega
  rw[this]
 rw[if_neg h];by_cases ao:k<=i+j
 ·rw[if_pos ao,if_pos ω]
 rw[if_neg ao,if_neg ω]
theorem apA{m t:Nat}(h:m<64)(ht:t=1\/t=2\/t=3):bitI .or .u8 ((m:Nat):Int) ((64 * t:Nat):Int)=((m+64 * t:Nat):Int):=by
 have ak:BitVec.ofInt aso.bits (m:Int)=BitVec.ofNat 8 m:=by rw[BitVec.ofInt_natCast];rfl
 have ar:BitVec.ofInt aso.bits ((64 * t:Nat):Int)=BitVec.ofNat 8 (64 * t):=by rw[BitVec.ofInt_natCast];rfl
 unfold bitI;simp only;rw[ak,ar];have ao:(HOr.hOr (BitVec.ofNat 8 m) (BitVec.ofNat 8 (64 * t))).toNat=m+64 * t:=by
  rw[BitVec.toNat_or,BitVec.toNat_ofNat,BitVec.toNat_ofNat,asb ω,asb ω];exact Xf (i:=6) h
 refine(congrArg (λz:Nat=>aso.wrap (Int.ofNat z)) ao).trans ?_;rcases ht with rfl|rfl|rfl<;>(show aso.wrap ((_:Nat):Int)=_;unfold auC;simp[aue,atG];omega)
theorem apB(m:Nat):aso.wrap ((m:Nat):Int)=((m % 256:Nat):Int):=by
 unfold auC;simp[aue,atG]
theorem OI{α:Type}{l:List α}{x:α}:((x::l).length=1->l=[])/\((x::l).length=2->∃a,l=[a])/\((x::l).length=4->∃a b c,l=[a,b,c])/\((x::l).length=8->∃a b c d e f g,l=[a,b,c,d,e,f,g]):=by
 refine⟨λh=>?_,λh=>?_,λh=>?_,λh=>?_⟩
 ·match l,h with|[],_=>rfl
 ·match l,h with|[a],_=>exact⟨a,rfl⟩
 ·match l,h with|[a,b,c],_=>exact⟨a,b,c,rfl⟩
 match l,h with|[a,b,c,d,e,f,g],_=>exact⟨a,b,c,d,e,f,g,rfl⟩
theorem apC{m k:Nat}(hk:k=1\/k=2\/k=4\/k=8)(hm:m<2^(8 * k-2)):∃B7:List Int,pO m k k=((m / 2^(8 * (k-1-0)) % 256:Nat):Int)::B7/\
  ((pv k).map λi=>ass (B9 m k i))=(((m / 2^(8 * (k-1-0)) % 256+64 * AV k:Nat):Int)::B7).map p4/\m / 2^(8 * (k-1-0)) % 256<64:=by
 have hz:=agv hk hm;refine⟨(pv (k-1)).map λi=>((m / 2^(8 * (k-1-(i+1))) % 256:Nat):Int),?_,?_,?_⟩
 ·rcases hk with rfl|rfl|rfl|rfl<;>rfl
 ·rcases hk with rfl|rfl|rfl|rfl<;>rfl
 have:=hz.2.2.2;have:=hz.2.1;have h1:=hz.1;unfold LL at *;rw[asb ω];omega
theorem sN(n:Int):aM 291 [.one (.i n)] [.one (.str (fv n))]:=by
 refine aW 49 func291 call291 [.tmp 2] ?_;intro _;cases aE:bN n
 ·have hs:ll n=0:=by
   unfold ll;rw[if_pos];by_cases h:n<0\/4611686018427387903<n
   ·exact h
   rw[mC.2 ω]at aE;cases aE
  have he:fv n=[]:=by have:=apv n;rw[hs]at this;simpa using this
  try simp only[go_sem]
  repeat'(refine af.intro (by apply adz) ?_<;>simp only[go_sem,hs])
  all_goals simp[he]
 obtain⟨m,k,rfl,sC,hk,hm⟩:=agr aE;have ah:=agu rfl sC hk hm;rw[ah];have xz:=bn (p:=(k:Int)=0) ω;have Am:i64.wrap ((k:Int)-1)=(k:Int)-1:=by rw[bw]<;>omega
 have hz:=apy m k;have hb:m<2^62:=asD hm (azT ω ω)
 try simp only[go_sem]
 repeat'(first|(refine af.intro (by apply adz) ?_<;>simp only[go_sem,sC,xz,Am])|refine⟨ae7,?_⟩|fail)
 refine cb.intro (λj:Nat=>⟨(.i ((m / 2^(8 * j):Nat):Int)::.an::.an::.i (k:Int)::.sl 0 0 k::.i ((k:Int)-1-(j:Int))::aA 43 []),[.ay 1 ((pO m k j).map eU8) true]⟩)
  (λj=>k-j) (λj=>j<=k) 0 [0] ω ?_ ?_
 ·simp only[go_sem];simp[hz,eU8]
 intro j aI;have Cd:(pO m k j).length=k:=by simp[pO]
 by_cases h1:j<k
 ·have aq:=br (p:=0<=(k:Int)-1-(j:Int)) ω;have ar:i64.wrap ((k:Int)-1-(j:Int)-1)=(k:Int)-1-((j+1:Nat):Int):=by rw[bw]<;>omega
  have a4:((k:Int)-1-(j:Int)).toNat=k-1-j:=by omega
  have rN:=apz (m:=m) h1;have OJ:=apB (m / 2^(8 * j));have JF:shI .shr .i64 ((m / 2^(8 * j):Nat):Int) 8=some ((0:Int)<=8,.i ((m / 2^(8 * (j+1)):Nat):Int)):=by
   have:((m / 2^(8 * j):Nat):Int).fdiv (2^min (8:Int).toNat arV.bits)=((m / 2^(8 * (j+1)):Nat):Int):=by
    rw[show((2:Int)^min (8:Int).toNat arV.bits)=((2^8:Nat):Int)from rfl,Xg,Nat.div_div_eq_div_mul,<-azU]
    congr 3
   simp only[shI];rw[this]
  have qL:(List.map eU8 (pO m k j))[k-1-j]?=some (eU8 (pO m k j)[k-1-j]):=by rw[List.getElem?_map,cy (by rw[Cd];omega)];rfl
  have apD:ofVal (.int .u64 8)=.d (.int .u64 8):=rfl;simp only[go_sem,aq,a4,OJ,I,Cd,qL,apD,JF];refine⟨⟨by omega,by omega⟩,⟨by omega,by simp[eU8],by simp⟩,?_⟩;refine bt.intro (j+1) [0] ω ω ?_;simp only[go_sem,ar];have apF:∀(v:D) (x:Int),v::atf 1 (eU8 x)=[v]:=λv x=>rfl;simp only[apF];have apG:((pO m k j).map eU8).set (k-1-j) [.int .u8 ((m / 2^(8 * j) % 256:Nat):Int)]=(pO m k (j+1)).map eU8:=rN;rw[apG];simp
 have aq:=bn (p:=0<=(k:Int)-1-(j:Int)) ω;obtain rfl:j=k:=by omega
 simp only[go_sem,aq];obtain⟨B7,b5,b8,dI⟩:=apC hk hm;rw[b8];have ayU:0<j:=by omega
 rw[b5]at Cd;rw[b5];generalize m / 2^(8 * (j-1-0)) % 256=lD at *;have Uu:ofVal (.int .u8 64)=.d (.int .u8 64):=rfl;have Uv:ofVal (.int .u8 128)=.d (.int .u8 128):=rfl;have Uw:ofVal (.int .u8 192)=.d (.int .u8 192):=rfl;have Ux:=λt=>apA (t:=t) dI;rcases hk with rfl|rfl|rfl|rfl
 ·obtain rfl:=OI.1 Cd;have gC:decide (((1:Nat):Int)=2)=false:=by decide
  have jv:decide (((1:Nat):Int)=4)=false:=by decide
  have lq:decide (((1:Nat):Int)=8)=false:=by decide
  simp only[go_sem,gC,jv,lq,eU8,fe,asi,e0,g1];rfl
 ·obtain⟨a,rfl⟩:=OI.2.1 Cd;have gC:decide (((2:Nat):Int)=2):=by decide
  have jv:decide (((2:Nat):Int)=4)=false:=by decide
  have lq:decide (((2:Nat):Int)=8)=false:=by decide
  have aG:=Ux 1 ω;simp only[Nat.reduceMul,auH]at aG;simp only[go_sem,gC,eU8,fe,asi,e0,g1,kf,aua,Uu,aG];exact⟨by decide,by decide,by simp,rfl⟩
 ·obtain⟨a,b,c,rfl⟩:=OI.2.2.1 Cd;have gC:decide (((4:Nat):Int)=2)=false:=by decide
  have jv:decide (((4:Nat):Int)=4):=by decide
  have lq:decide (((4:Nat):Int)=8)=false:=by decide
  have aG:=Ux 2 ω;simp only[Nat.reduceMul,auH]at aG;simp only[go_sem,gC,jv,eU8,fe,asi,e0,g1,kf,aua,Uv,aG];exact⟨by decide,by decide,by simp,rfl,rfl⟩
 obtain⟨a,b,c,d,e,f,g,rfl⟩:=OI.2.2.2 Cd;have gC:decide (((8:Nat):Int)=2)=false:=by decide
 have jv:decide (((8:Nat):Int)=4)=false:=by decide
 have lq:decide (((8:Nat):Int)=8):=by decide
 have aG:=Ux 3 ω;simp only[Nat.reduceMul,auH]at aG;simp only[go_sem,gC,jv,lq,eU8,fe,asi,e0,g1,kf,aua,Uw,aG];exact⟨by decide,by decide,by simp,rfl,rfl⟩
def X':List (List bK):=cB 14 [4694423,4694434,4694428,4694409,4753768,4753606,4756360,4754902,4779688,4766566,4723960,4605822,4251528,3188646]
def Mg:List (List bK):=cB 12 [521627,521638,521632,521613,528484,528322,531076,529618,524920,511758,472392,354294]
def IJ:List (List bK):=cB 17 [126925826,127011238,127011232,127011214,126984916,127014277,127013791,127012333,127007920,126994798,126955351,126837252,128874442,127811560,124357194,114791256,86093442]
def IK:List (List bK):=cB 10 [56012,56131,56125,56107,56053,55890,58684,57226,52488,39366]
def Rc:List (List bK):=cB 9 [19346,19357,19351,19332,19642,19480,18954,17496,13122]
def IL:List (List bK):=cB 13 [1566986,1567726,1567720,1568065,1568011,1567849,1567351,1565892,1591042,1577920,1535274,1417176,1062882]
attribute [go_sem] X' Mg IJ IK Rc IL
theorem aij{α β:Type}(f:α->List β)(l:List α)(i:Nat):((l.take i).flatMap f).length<=(l.flatMap f).length:=by
 conv=>rhs;rw[<-ad_ i l,ash,eh]
 omega
theorem Rd(l:List Int)(hl:l.length<=8)(hq:∀n∈l,bN n):aM 290 [.one (.sl 1 (l.map bg))] [.one (.str (l.flatMap fv))]:=by
 refine aW 21 func290 call290 [.tmp 2] ?_;intro ok;have hm:=gw ok;clear ok;simp only[go_sem,I];refine cb.intro (λi:Nat=>⟨(aA 3 (.d (.str ((l.take i).flatMap fv))::.an::.an::.d (.sl 1 (l.map bg))::.i l.length::.i i::aA 12 [])),[]⟩)
   (λi=>l.length-i) (λi=>i<=l.length) 0 [] ω ?_ ?_
 ·simp only[go_sem];simp
 intro i hi;by_cases h1:i<l.length
 ·have aq:=aro (i:=i) (n:=l.length);have az:=b_ bg l i h1;have hw:=d8 h1 hm;have e:=Me fv l i h1;have d':=IG fv 8 (l.take i) (λx _=>xy x);have cR:(l.take i).length=i:=by simp;omega
  have hx:=xy l[i];have m5:=hq _ (eK h1);generalize (l.take i).flatMap fv=cJ at e d'
  try simp only[go_sem,I,aF,az,bg,aq]
  repeat'(first|(refine af.intro (by first|apply pW|apply sN) ?_<;>simp only[go_sem,m5,bz])|refine⟨ae7,?_⟩|fail)
  all_goals(refine bt.intro (i+1) [] ω ω ?_;simp only[go_sem,hw,e];try simp)
 obtain⟨aq,rfl⟩:=arn (i:=i) (n:=l.length);simp only[go_sem,aq,da]
theorem aik(n:Int):aM 289 [.one (.i n)] [.one (.str [ass (aso.wrap n).toNat])]:=by
 refine aW 7 func289 call289 [.tmp 2] ?_;intro _;simp only[go_sem]
theorem ail{k:Int}(h:0<=k)(h2:k<64):[ass (aso.wrap k).toNat]=fv k:=by
 obtain⟨m,rfl⟩:=mU h;have hm:m<64:=by omega
 revert hm
 revert m
 intro m h h2 hm;have:∀j:Fin 64,[ass (aso.wrap ((j.val:Nat):Int)).toNat]=fv ((j.val:Nat):Int):=by decide
 exact this ⟨m,hm⟩
theorem Ya(e6 eV fp:Int)(e2:List UInt8)(fW:Bool)(fN fK f0:Int)(gb:Bool):aM 242 [.agg [.i e6,.i eV,.i fp,.str e2,.bool fW,.i fN,.i fK,.i f0,.bool gb]] [.one (.str (eS (⟨e6,eV,fp,e2,fW,fN,fK,f0,gb⟩:al)))]:=by
 refine ayE 110 func242 call242 [.tmp 2] ?_;cases bG:eu (⟨e6,eV,fp,e2,fW,fN,fK,f0,gb⟩:al)
 ·have ah:eS (⟨e6,eV,fp,e2,fW,fN,fK,f0,gb⟩:al)=[]:=by unfold eS;rw[bG];rfl
  rw[ah]
  try simp only[go_sem]
  repeat'(refine af.intro (by apply pe) ?_<;>simp only[go_sem,bG])
 obtain⟨h1,h2,ao,aH,bR,eQ,i',dK,m1,rq⟩:=Mh bG;have xz:=Mi h1;rw[Yb bG];simp only at ao aH bR eQ i' dK m1 rq xz;have hd:bN (e2.length:Int):=mC.2 ω;have jk:=xy eV;have lF:=xy fp;have A3:=xy fN;have Md:=xy fK;have auW:=xy f0;have auX:=xy (e2.length:Int);have cz:=Rd [eV,fN,f0] ξ (by simp[ao,bR,i']);have bO:=Rd [eV,fN] ξ (by simp[ao,bR]);have dh:=Rd [eV,fK] ξ (by simp[ao,eQ]);simp only[fe,asi,bg,arM,auq,ix]at dh bO cz;have hk:∀k:Int,0<=k->k<64->aM 289 [.one (.i k)] [.one (.str (fv k))]:=λk h h2=>by
  have:=aik k
  rwa [ail h h2]at this
 have rM:∀k:Int,(fv k).length<=8:=xy;rcases xz with rfl|rfl|rfl|rfl|rfl|rfl|rfl|rfl|rfl
 ·have f:=hk 4 ω ω;have sO:=rM 4
  try simp only[go_sem]
  repeat'(first|((first|refine af.intro (by first|assumption|apply pe) ?_|refine av.i ?_|refine a7 X' χ ψ ?_)<;>simp only[go_sem,bG,bz,hS])|refine⟨ae7,?_⟩|fail)
  first|rfl|exact⟨by simp only[maxLen];omega,rfl⟩
 ·have f:=hk 5 ω ω;have sO:=rM 5
  try simp only[go_sem]
  repeat'(first|((first|refine af.intro (by first|assumption|apply pe) ?_|refine av.i ?_|refine a7 Mg χ ψ ?_)<;>simp only[go_sem,bG,bz,Int.reduceEq,hS,iW])|refine⟨ae7,?_⟩|fail)
  first|rfl|exact⟨by simp only[maxLen];omega,rfl⟩
 ·have aim:i64.wrap 10=10/\i64.wrap 11=11/\i64.wrap 14=14/\i64.wrap 15=15/\i64.wrap 0=0/\i64.wrap 4=4:=⟨rfl,rfl,rfl,rfl,rfl,rfl⟩;obtain⟨Cn,Co,Cp,Cq,Cr,Cs⟩:=aim;have dQ:oneB true=1:=rfl;have oy:oneB false=0:=rfl;by_cases aG:fp=0
  ·have c3:decide (fp≠0)=false:=by simp[aG]
   cases fW
   ·have f:=hk 10 ω ω;have sO:=rM 10
    try simp only[go_sem]
    repeat'(first|((first|refine af.intro (by first|assumption|apply pe) ?_|refine av.intro (by first|assumption|apply sA|apply sN) ?_|refine a7 IJ χ ψ ?_|refine a7 IK χ ψ ?_)<;>simp only[go_sem,bG,bz,Int.reduceEq,hS,iW,c3,oy,Cn,Cr,Int.reduceAdd,Int.reduceMul])|refine⟨ae7,?_⟩|fail)
    simp[Eb,aG]
   have f:=hk 11 ω ω;have sO:=rM 11
   try simp only[go_sem]
   repeat'(first|((first|refine af.intro (by first|assumption|apply pe) ?_|refine av.intro (by first|assumption|apply sA|apply sN) ?_|refine a7 IJ χ ψ ?_|refine a7 IK χ ψ ?_)<;>simp only[go_sem,bG,bz,Int.reduceEq,hS,iW,c3,oy,dQ,Co,Cr,Int.reduceAdd,Int.reduceMul])|refine⟨ae7,?_⟩|fail)
   simp[Eb,aG]
  have c3:decide (fp≠0):=by simp[aG]
  cases fW
  ·have f:=hk 14 ω ω;have sO:=rM 14
   try simp only[go_sem]
   repeat'(first|((first|refine af.intro (by first|assumption|apply pe|apply sN) ?_|refine av.intro (by first|assumption|apply sA|apply sN) ?_|refine a7 IJ χ ψ ?_|refine a7 IK χ ψ ?_)<;>simp only[go_sem,bG,bz,Int.reduceEq,hS,iW,c3,oy,dQ,Cn,Cp,Cs,Int.reduceAdd,Int.reduceMul])|refine⟨ae7,?_⟩|fail)
   simp[Eb,aG]
  have f:=hk 15 ω ω;have sO:=rM 15
  try simp only[go_sem]
  repeat'(first|((first|refine af.intro (by first|assumption|apply pe|apply sN) ?_|refine av.intro (by first|assumption|apply sA|apply sN) ?_|refine a7 IJ χ ψ ?_|refine a7 IK χ ψ ?_)<;>simp only[go_sem,bG,bz,Int.reduceEq,hS,iW,c3,dQ,Co,Cq,Cs,Int.reduceAdd,Int.reduceMul])|refine⟨ae7,?_⟩|fail)
  simp[Eb,aG]
 ·have f:=hk 16 ω ω;have sO:=rM 16
  try simp only[go_sem]
  repeat'(first|((first|refine af.intro (by first|assumption|apply pe) ?_|refine av.intro (by first|assumption|apply sN) ?_|refine a7 Rc χ ψ ?_)<;>simp only[go_sem,bG,bz,Int.reduceEq,hS,iW])|refine⟨ae7,?_⟩|fail)
  first|rfl|exact⟨by simp only[maxLen];omega,rfl⟩
 ·have f:=hk 17 ω ω;have sO:=rM 17
  try simp only[go_sem]
  repeat'(first|((first|refine af.intro (by first|assumption|apply pe) ?_|refine av.i ?_|refine a7 Mg χ ψ ?_)<;>simp only[go_sem,bG,bz,Int.reduceEq,hS,iW])|refine⟨ae7,?_⟩|fail)
  first|rfl|exact⟨by simp only[maxLen];omega,rfl⟩
 ·have dQ:oneB true=1:=rfl;have oy:oneB false=0:=rfl;have w0:i64.wrap 18=18:=rfl;have eP:i64.wrap 19=19:=rfl;cases gb
  ·have f:=hk 18 ω ω;have sO:=rM 18
   try simp only[go_sem]
   repeat'(first|((first|refine af.intro (by first|assumption|apply pe) ?_|refine av.intro (by first|assumption|apply sA|apply sN) ?_|refine a7 IL χ ψ ?_)<;>simp only[go_sem,bG,bz,Int.reduceEq,iW,oy,w0,aAh])|refine⟨ae7,?_⟩|fail)
   rfl
  have f:=hk 19 ω ω;have sO:=rM 19
  try simp only[go_sem]
  repeat'(first|((first|refine af.intro (by first|assumption|apply pe) ?_|refine av.intro (by first|assumption|apply sA|apply sN) ?_|refine a7 IL χ ψ ?_)<;>simp only[go_sem,bG,bz,Int.reduceEq,iW,dQ,eP,Int.reduceAdd])|refine⟨ae7,?_⟩|fail)
  rfl
 ·have f:=hk 20 ω ω;have sO:=rM 20
  try simp only[go_sem]
  repeat'(first|((first|refine af.intro (by first|assumption|apply pe) ?_|refine av.intro (by first|assumption|apply sN) ?_|refine a7 Rc χ ψ ?_)<;>simp only[go_sem,bG,bz,Int.reduceEq,hS,iW])|refine⟨ae7,?_⟩|fail)
  first|rfl|exact⟨by simp only[maxLen];omega,rfl⟩
 ·have f:=hk 21 ω ω;have sO:=rM 21
  try simp only[go_sem]
  repeat'(first|((first|refine af.intro (by first|assumption|apply pe) ?_|refine av.i ?_|refine a7 Mg χ ψ ?_)<;>simp only[go_sem,bG,bz,Int.reduceEq,hS,iW])|refine⟨ae7,?_⟩|fail)
  first|rfl|exact⟨by simp only[maxLen];omega,rfl⟩
 have dQ:oneB true=1:=rfl;have oy:oneB false=0:=rfl;have w0:i64.wrap 22=22:=rfl;have eP:i64.wrap 23=23:=rfl;cases gb
 ·have f:=hk 22 ω ω;have sO:=rM 22
  try simp only[go_sem]
  repeat'(first|((first|refine af.intro (by first|assumption|apply pe) ?_|refine av.intro (by first|assumption|apply sA|apply sN) ?_|refine a7 IL χ ψ ?_)<;>simp only[go_sem,bG,bz,Int.reduceEq,iW,oy,w0,aAh])|refine⟨ae7,?_⟩|fail)
  rfl
 have f:=hk 23 ω ω;have sO:=rM 23
 try simp only[go_sem]
 repeat'(first|((first|refine af.intro (by first|assumption|apply pe) ?_|refine av.intro (by first|assumption|apply sA|apply sN) ?_|refine a7 IL χ ψ ?_)<;>simp only[go_sem,bG,bz,Int.reduceEq,iW,dQ,eP,Int.reduceAdd])|refine⟨ae7,?_⟩|fail)
 rfl
theorem Q1(e6 eV fp:Int)(e2:List UInt8)(fW:Bool)(fN fK f0:Int)(gb:Bool)(_:e2.length<=1048576):aM 190 [.agg [.i e6,.i eV,.i fp,.str e2,.bool fW,.i fN,.i fK,.i f0,.bool gb]] [.one (.i (((eS (⟨e6,eV,fp,e2,fW,fN,fK,f0,gb⟩:al)).length:Int)))]:=by
 refine ayE 6 func190 call190 [.tmp 2] ?_
 try simp only[go_sem]
 repeat'(refine af.intro (by apply Ya) ?_<;>simp only[go_sem])
theorem ahV(l:List al)(hf:∀f∈l,eu f)(hl:(l.flatMap eS).length<=400):aM 198 [.one (.azE l)] [.one (.str (xv l))]:=by
 refine aW 24 func198 call198 [.tmp 2] ?_;intro ok;have hm:=gw ok;clear ok;rw[ain hf hl];simp only[go_sem,I];refine cb.intro (λi:Nat=>⟨(aA 3 (.d (.str ((l.take i).flatMap eS))::.an::.an::.d (.azE l)::.i l.length::.i i::aA 15 [])),[]⟩)
   (λi=>l.length-i) (λi=>i<=l.length) 0 [] ω ?_ ?_
 ·simp only[go_sem];simp
 intro i hi;by_cases h1:i<l.length
 ·have aq:=aro (i:=i) (n:=l.length);have az:=b_ al.enc l i h1;have hw:=d8 h1 hm;have e:=Me eS l i h1;have d':=aij eS l (i+1);rw[e,eh]at d';have m5:=hf _ (eK h1);have hd:=(Mh m5).2.2.2.2.2.2.2.1;generalize (l.take i).flatMap eS=cJ at e d';generalize l[i]=f at *;have sP:=pe f.aY f.ax f.aP f.data f.aS f.cS f.aX f.bf f.fG;have Gb:=Ya f.aY f.ax f.aP f.data f.aS f.cS f.aX f.bf f.fG;change PureCall _ _ _ [.one (.bool (eu f))]at sP;change PureCall _ _ _ [.one (.str (eS f))]at Gb;rw[m5]at sP;have aH:=bn (p:=400<((cJ.length+(eS f).length:Nat):Int)) ω
  try simp only[go_sem,I,aF,az,al.enc,aq]
  repeat'(first|((first|refine af.i ?_|refine av.i ?_)<;>simp only[go_sem,bz,aH])|refine⟨ae7,?_⟩|fail)
  all_goals(refine bt.intro (i+1) [] ω ω ?_;simp only[go_sem,hw,e];try simp)
 obtain⟨aq,rfl⟩:=arn (i:=i) (n:=l.length);simp only[go_sem,aq,da]
def aby:List (List bK):=cB 12 [501929,501927,501921,521950,521896,521734,531076,529618,525244,511771,472392,354294]
attribute [go_sem] aby
theorem amK{s:aD}(h:jG s)(hf:s.aS=1):0<=s.bf/\s.bf<=4611686018427387903:=by
 simp only[jG,bm,bH]at h;have hr:=oD (Kj h.1);simp only[dU,bm]at h;obtain⟨⟨_,h1⟩,h2⟩:=h;have aH:jD s=false:=by
  unfold jD;rw[bn ω,bn ω];rfl
 rw[aH]at h1;simp only[ai_,if_false,bm]at h1;have abz:=h1.1.2;simp only[BB,hf,bm,ab_,arR,eC]at abz;obtain⟨dG,e9⟩:=abz;have:decide (s.bf=-1)=false:=by simpa using dG
 have bR:=de this;have:s.bf=s.aB.bS:=by
  rcases e9 with g|g
  ·exact absurd bR g
  exact Classical.not_not.1 g
 omega
theorem amL{r:ab}{m l n:Int}(h0:0<=r.low)(h1:r.low<r.high)(h2:r.high<=4611686018427387903)(hm:1<=m)(zx:m<=1000)(hl:r.low<l)(hn:n=if m<r.high-r.low then m else r.high-r.low) :
  r.low<cu r.high l/\k6 r m l=r.low+(if l<r.low+n then l-r.low else n)/\0<(if l<r.low+n then l-r.low else n)/\(if l<r.low+n then l-r.low else n)<=r.high-r.low:=by
 have Tx:cu r.high l=if l<r.high then l else r.high:=rfl
 have amM:dJ m 0=m:=by unfold dJ;split<;>omega
 have sv:r.low<cu r.high l:=by rw[Tx];split<;>omega
 have G':cu r.high l<=r.high:=by rw[Tx];split<;>omega
 refine⟨sv,?_,?_,?_⟩
 ·unfold k6;rw[bw (n:=cu r.high l-r.low) ω ω,amM,bw (n:=r.low+m) ω ω,Tx,hn]
  repeat' split
  all_goals omega
 ·rw[hn];repeat' split
  all_goals omega
 rw[hn];repeat' split
 all_goals omega
theorem amN{s:aD}(h:dU s){r:ab}(hr:r∈s.bC):0<=r.low/\r.low<r.high/\r.high<=4611686018427387903:=by
 simp only[dU,lK,bm,ed]at h;exact(gr _).1 (((ho _).1 h.2.1).1 r hr)
theorem amO{S:List Bool}(h:S.length=17):∃fE cA db c0 eo fr fQ f_ gk gP ib nF nG qx qy qz ya,S=[fE,cA,db,c0,eo,fr,fQ,f_,gk,gP,ib,nF,nG,qx,qy,qz,ya]:=by
 match S,h with|[fE,cA,db,c0,eo,fr,fQ,f_,gk,gP,ib,nF,nG,qx,qy,qz,ya],_=>exact⟨fE,cA,db,c0,eo,fr,fQ,f_,gk,gP,ib,nF,nG,qx,qy,qz,ya,rfl⟩
def Ty(s:aD)(m l:Int)(S:List Bool):St:=⟨(.an::.i m::.i l::.ptr 0 0 0::.an::.an::.ptr 1 0 0::(aK S 16 (.d (.bool (decide (s.aS=1)))))::aA 8 (.ptr 0 0 5::.d (.azA s.bC)::.i s.bC.length::.d (.bool true)::(aK S 0 (.ptr 0 0 8))::(aK S 1 (.i s.bf))::(bif S.getD 2 false then .i (if 0>s.bf then 0 else s.bf)else .an)::(aK S 3 (.ptr 0 0 9))::(aK S 4 (.i s.aS))::(aK S 5 (.d (.bool (decide (s.aS=1)))))::(aK S 6 (.i (oneB (decide (s.aS=1)))))::(bif S.getD 7 false then .i (i64.wrap ((if 0>s.bf then 0 else s.bf) * oneB (decide (s.aS=1))))else .an)::(aK S 8 (.ptr 0 0 9))::(aK S 9 (.i s.aS))::(aK S 10 (.d (.bool (decide (s.aS=1)))))::(bif S.getD 11 false then .agg [.i (i64.wrap ((if 0>s.bf then 0 else s.bf) * oneB (decide (s.aS=1)))),.d (.str []),.d (.bool (decide (s.aS=1)))]else .an)::(aK S 12 (.ptr 0 0 9))::(aK S 13 (.i s.aS))::(aK S 14 (.d (.bool (decide (s.aS=1)))))::aA 54 [])),[.box (aD.bx s),.box [(bif S.getD 15 false then .i (i64.wrap ((if 0>s.bf then 0 else s.bf) * oneB (decide (s.aS=1))))else .i 0),.d (.str []),(bif S.getD 15 false then .d (.bool (decide (s.aS=1)))else .d (.bool false))]]⟩
theorem amP(s:aD)(m l:Int)(hc:s.bC.length+s.bc.length+s.bJ.length<=524288)(hn:ov s)(h0:1<=m)(h1:m<=1000):aM 253 [.agg (aD.enc s),.one (.i m),.one (.i l)] [.agg [.i ((jV s m l)).aP,.str ((jV s m l)).data,.bool ((jV s m l)).aS],.one (.bool (kY s m l))]:=by
 refine m_ 89 func253 call253 [.cell 6 77,.tmp 7] ?_;intro ok;clear ok;have q4:=Ob (s:=s) hn;have Ha:aM 135 [.agg (aD.enc s)] [.one (.bool (jG s))]:=by rw[<-q4];apply Kk;exact hc
 change hG _ _ _ _ (b1 (ij _ _ (xx s m l)) .mk) [] (b1 (ij _ _ (xx s m l)) .mk);refine eE bE 2 (α:=Unit) (λ_=>⟨(.an::.i m::.i l::.ptr 0 0 0::.an::.an::.ptr 1 0 0::aA 82 []),[.box (aD.bx s),.box [.i 0,.d (.str []),.d (.bool false)]]⟩) (λ_=>jG s=true) ?_ ?_
 ·skip
  try simp only[go_sem]
  repeat'((first|refine af.i ?_|refine av.i ?_)<;>simp only[go_sem])
  cases bB:jG s
  ·rw[EO (by simp[kY,bB])];simp only[go_sem,b7]
  simp only[go_sem,bz];refine cZ.intro () [0,1] (by first|trivial|exact bB) ?_;simp only[go_sem];simp
 rintro _ bB;refine gJ bE ?_;have hw:=bB;simp only[jG,bm,bH]at hw;by_cases hp:s.bC=[]
 ·have ar:decide ((s.bC.length:Int)=0):=by rw[hp];rfl
  simp only[go_sem,I,ar];refine lM _ (mQ (λS σ=>σ=Ty s m l S) (N:=17) rfl rfl rfl ?_) ?_
  ·repeat'(first|exact nC|refine nD ?_ ?_)
   all_goals(
    rintro S σ F hl a5 hp hcl rfl bG;obtain⟨jI,dW,cT,dS,eW,nb,nR,nS,nT,qu,xb,DG,DH,Fu,Fv,Fw,HN,rfl⟩:=amO hl;simp only[nc,kf,cc]at a5;subst a5;simp[lN,Region.binds]at hp
    repeat(obtain⟨fh,hp⟩:=hp;subst fh)
    try subst hp
    try obtain rfl:=bZ (hcl 0 1 _ rfl ζ rfl)
    try obtain rfl:=bZ (hcl 1 2 _ rfl ζ rfl)
    try obtain rfl:=bZ (hcl 2 7 _ rfl ζ rfl)
    try obtain rfl:=bZ (hcl 3 4 _ rfl ζ rfl)
    try obtain rfl:=bZ (hcl 4 5 _ rfl ζ rfl)
    try obtain rfl:=bZ (hcl 5 6 _ rfl ζ rfl)
    try obtain rfl:=bZ (hcl 6 7 _ rfl ζ rfl)
    try obtain rfl:=bZ (hcl 7 11 _ rfl ζ rfl)
    try obtain rfl:=bZ (hcl 8 9 _ rfl ζ rfl)
    try obtain rfl:=bZ (hcl 9 10 _ rfl ζ rfl)
    try obtain rfl:=bZ (hcl 10 11 _ rfl ζ rfl)
    try obtain rfl:=bZ (hcl 11 15 _ rfl ζ rfl)
    try obtain rfl:=bZ (hcl 12 13 _ rfl ζ rfl)
    try obtain rfl:=bZ (hcl 13 14 _ rfl ζ rfl)
    try obtain rfl:=bZ (hcl 14 16 _ rfl ζ rfl)
    try obtain rfl:=bZ (hcl 15 16 _ rfl ζ rfl)
    simp only[Ty,aK,gm,gh,d4,eF]
    repeat'(first
      |exact bG _ rfl
      |refine⟨ae7,?_⟩
      |(refine af.intro (sA _) ?_)
      |simp only[go_sem,cx,cv]))
  rintro _ rfl;simp only[Ty,ea,aK,gm,gh,d4];simp only[go_sem];by_cases hf:s.aS=1
  ·obtain⟨dG,e9⟩:=amK bB hf;rw[abA bB hp hf];have:(if 0>s.bf then 0 else s.bf)=s.bf:=if_neg ω;have e:i64.wrap ((if 0>s.bf then 0 else s.bf) * oneB (decide (s.aS=1)))=s.bf:=by
    rw[this,br hf,show oneB true=1 from rfl,Int.mul_one,bw]<;>omega
   rw[e,br hf]
  ·rw[EO (by simp[kY,bB,hp,hf])];have e:i64.wrap ((if 0>s.bf then 0 else s.bf) * oneB (decide (s.aS=1)))=0:=by
    rw[bn hf,show oneB false=0 from rfl,Int.mul_zero];rfl
   rw[e,bn hf]
 have fU:0<s.bC.length:=aq_.2 hp;have ar:=bn (p:=(s.bC.length:Int)=0) ω;have iZ:=b_ ab.enc s.bC 0 fU;have hr:s.bC[0]?=some s.bC[0]:=cy fU;have hb:=amN hw.1 (eK fU);generalize s.bC[0]=r at iZ hr hb;have eP:i64.wrap (r.high-r.low)=r.high-r.low:=by rw[bw]<;>omega
 obtain⟨n,hn⟩:∃n,n=if m<r.high-r.low then m else r.high-r.low:=⟨_,rfl⟩
 have yh:1<=n/\n<=1000:=by rw[hn];split<;>omega
 have gl:i64.wrap (r.low+n)=r.low+n:=by rw[bw]<;>omega
 have HI:=λk=>Tz s.aB.size s.aB.base s.aB.bS s.aB.cells r.low k
 try simp only[go_sem,I,ar,iZ,ab.enc,gM,eP,<-hn]
 repeat'(first|refine⟨ae7,?_⟩|fail)
 cases c1:decide (l<=r.low)
 ·obtain⟨dh,bO,cz,df⟩:=amL (l:=l) hb.1 hb.2.1 hb.2.2 h0 h1 (by have:=de c1;omega) hn;simp only[go_sem,gl];cases cW:decide (l<r.low+n)
  ·have q5:=de cW;rw[if_neg q5]at bO cz df;have ke:i64.wrap n=n:=by rw[bw]<;>omega
   have di:=bn (p:=n<=0) ω;rw[TA bB hr dh (by rw[bO];omega),bO,show r.low+n-r.low=n by omega,ke]
   try simp only[go_sem,di]
   repeat'((first|refine af.intro (by first|assumption|apply Tz) ?_|refine av.i ?_|apply bo)<;>simp only[go_sem,gl])
   all_goals(first|omega|(cases decide (s.aS=1)<;>rfl)|trace_state)
  have q5:=cY cW;rw[if_pos q5]at bO cz df;have ke:i64.wrap (l-r.low)=l-r.low:=by rw[bw]<;>omega
  have BQ:i64.wrap (r.low+(l-r.low))=r.low+(l-r.low):=by rw[bw]<;>omega
  have di:=bn (p:=l-r.low<=0) ω;rw[TA bB hr dh (by rw[bO];omega),bO,show r.low+(l-r.low)-r.low=l-r.low by omega,ke]
  try simp only[go_sem,ke,di]
  repeat'((first|refine af.intro (by first|assumption|apply Tz) ?_|refine av.i ?_|apply bo)<;>simp only[go_sem,BQ])
  all_goals(first|omega|(cases decide (s.aS=1)<;>rfl)|trace_state)
 rw[EO (by have:=cY c1;simp only[kY,bB,hr,af_,arR,eC];left;unfold cu;split<;>omega)];simp only[go_sem]
theorem sm{m:Nat}{c:J}(hv:bW m c):∀s∈c.aa,ov s.ag:=λs hs=>(hv.i7 s hs).snd.Pl
theorem XX(i cj:Int)(b6:List UInt8)(cl:Bool):aM 197 [.one (.i i),.agg [.i cj,.str b6,.bool cl]] [.agg (al.enc (gE i (⟨cj,b6,cl⟩:bI)))]:=by
 refine aW 13 func197 call197 [.cell 4 56] ?_;intro _
 try simp only[go_sem]
 all_goals simp[gE]
theorem amQ(room:Int):(if room<60 then room else 60)=cu room 60:=by unfold cu;(repeat' split)<;>omega
theorem ahP(c:J)(id room:Int)(m:Nat)(hv:bW m c)(hm:m<=20):aM 194 [.agg (J.enc c),.one (.i id),.one (.i room)] [.agg [.i ((m2 c id room).1).aP,.str ((m2 c id room).1).data,.bool ((m2 c id room).1).aS],.one (.bool (m2 c id room).2)]:=by
 refine ayE 80 func194 call194 [.cell 6 77,.tmp 7] ?_;have hz:=hv.sz hm;have G4:=DA c.aa id;have By:=B0 c hz;rw[<-AQ (sm hv)]at By;have a3:m2 c id room=if yA c id room then pB (aC c id).ag id (Cm c (aC c id)) room (cu room 60).toNat else(n7,false):=rfl
 have bY:yA c id room=(ew c&&(bQ c.aa id).2&&(aC c id).ft&&!decide (room<3)):=rfl;rcases m' (eB id) c.aa with ⟨h1,h2⟩|⟨i,hi,h1,h2,ao⟩
 ·rw[h1]at G4;have hs:(bQ c.aa id).2=false:=by unfold bQ;rw[h2]
  rw[hs,asQ,ap_,ap_]at bY;rw[bY]at a3;have ak:decide ((-1:Int)<0):=by decide
  cases aE:ew c
  ·rw[aE]at By
   try simp only[go_sem]
   repeat'((first|refine af.i ?_|refine av.i ?_|with_reducible apply dp)<;>simp only[go_sem,b7])
   simp[a3,n7]
  rw[aE]at By
  try simp only[go_sem]
  repeat'((first|refine af.i ?_|refine av.i ?_|with_reducible apply cG|with_reducible apply dp)<;>simp only[go_sem,bz])
  simp[a3,n7]
 rw[h1]at G4;have hs:(bQ c.aa id).2:=by unfold bQ;rw[h2]
 obtain⟨aw,dm⟩:∃aw,aw=c.aa[i]:=⟨_,rfl⟩;have pd:aw∈c.aa:=dm▸eK hi;have az:=b_ ae.enc c.aa i hi;rw[<-dm]at az;have Cl:aC c id=aw:=by rw[dm];exact FI h1 hi
 have cO:aw.id=id:=by rw[dm];exact H2 h1 hi
 rw[Cl]at bY a3;rw[hs,ate]at bY;obtain⟨dW,cT,dS,eW⟩:=hz.2.1 aw pd;have TB:=(hv.i7 aw pd).snd;have amR:=sm hv aw pd;have ak:=bn (p:=(i:Int)<0) ω;have i6:∀b q r:Bool,(bif bif bif !b then true else false then true else !q then true else r)=!(b&&q&&!r):=by intro b q r;cases b<;>cases q<;>cases r<;>rfl
 try simp only[go_sem]
 repeat'(first|((first|refine af.i ?_|refine av.i ?_|apply bo)<;>simp only[go_sem,I,ak,aF,az,ae.enc])|refine⟨ae7,?_⟩|fail)
 rw[i6,<-bY];cases hg:yA c id room
 ·rw[hg]at a3;simp only[go_sem,b7];simp[a3,n7]
 rw[hg,if_pos rfl]at a3;rw[hg]at bY;have H7:3<=room/\ew c:=by
  simp only[Bool.true_eq,bm,ab_,eC]at bY;exact⟨by omega,bY.1.1⟩
 have hq:bN id:=by
  have:=(jE.1 ((pz.1 H7.2).m3 aw pd)).2.q
  rwa [cO]at this
 try simp only[go_sem,I,bz,aF,az,ae.enc]
 repeat'(first|((first|refine af.i ?_|refine av.intro (by first|assumption|apply amD) ?_|refine a7 aby χ ψ ?_)<;>simp only[go_sem])|refine⟨ae7,?_⟩|fail)
 have abB:=amQ room;obtain⟨N,bB⟩:=mU (show 0<=cu room 60 by unfold cu;split<;>omega);have ah4:cu room 60<=60:=by unfold cu;split<;>omega
 have Mc:N<=60:=by omega
 rw[bB,aF]at a3;rw[bB]at abB;have B':(if i64.wrap (aw.ag.b0+yB c.cn)<aw.cL.aX then i64.wrap (aw.ag.b0+yB c.cn)else aw.cL.aX)=Cm c aw:=rfl;generalize Cm c aw=fB at *;rw[<-abC TB ω hq N Mc]at a3;refine cb.intro (λn:Nat=>⟨(.an::.i id::.i room::aA 3 (.ptr 1 0 0::.an::.an::.ptr 2 0 0::.i fB::.i n::aA 68 [])),[.box (J.bx c),.box [.i 0,.d (.str []),.d (.bool false)],.box (ae.bx aw)]⟩)
  (λn=>n) (λn=>n<=60/\BC aw.ag id fB room n=m2 c id room) N [0,1,2] ⟨Mc,a3.symm⟩ ?_ ?_
 ·simp only[go_sem];simp[abB,B']
 rintro n ⟨hn,ah⟩
 cases n with
 |zero=>
  have hd:decide ((1:Int)<=((0:Nat):Int))=false:=by decide
  simp only[go_sem,hd];rw[BC]at ah;rw[<-ah];simp[n7]
 |succ k=>
  have hd:=br (p:=(1:Int)<=((k+1:Nat):Int)) ω;have hw:i64.wrap (((k+1:Nat):Int)-1)=(k:Int):=by rw[bw]<;>omega
  rw[BC]at ah;have ayL:=amP aw.ag ((k+1:Nat):Int) fB ω amR ω ω;have gz:=ID (m:=((k+1:Nat):Int)) (l:=fB) ω ω TB.p (by have:=TB.ak;omega);generalize hp:jV aw.ag ((k+1:Nat):Int) fB=p at *;have IC:=Q1 8 id p.aP p.data p.aS 0 0 0 false ω;change PureCall _ _ _ [.one (.i ((eS (gE id p)).length:Int))]at IC
  try simp only[go_sem,hd]
  repeat'((first|refine af.i ?_|refine av.intro (by first|assumption|apply XX|apply j7) ?_|apply bo)<;>simp only[go_sem,gE])
  have JK:∀b q:Bool,(bif b then q else false)=(b&&q):=by intro b q;cases b<;>rfl
  rw[JK];change (if kY aw.ag ((k+1:Nat):Int) fB&&cd ((eS ⟨8,id,p.aP,p.data,p.aS,0,0,0,false⟩).length:Int) 1 room then(p,true)else BC aw.ag id fB room k)=_ at ah;generalize (kY aw.ag ((k+1:Nat):Int) fB&&cd ((eS ⟨8,id,p.aP,p.data,p.aS,0,0,0,false⟩).length:Int) 1 room)=q at *;cases q
  ·rw[if_neg ξ]at ah;simp only[go_sem];refine bt.intro k [0,1,2] ⟨by omega,ah⟩ ω ?_;simp only[go_sem,hw];simp
  rw[if_pos rfl]at ah;rw[<-ah];simp only[go_sem]
  try simp[outOA]
def NO:List (List bK):=cB 9 [18836,18834,18868,18850,18913,18711,19318,17496,13122]
def abj:List (List bK):=cB 12 [511676,511674,511668,511650,511717,511515,511029,503010,448335,521599,478953,354294]
def abk:List (List bK):=cB 9 [18593,18591,19678,19660,19606,19444,18958,17496,13122]
attribute [go_sem] NO abj abk
theorem abl{φ:c5}{T:Nat->Prop}{h:Array Obj}:∀{vs' vs:List V} {us:List Value},CH vs' vs->VRels φ T h vs us->VRels φ T h vs' us
 |[],[],_,_,g=>g
 |[],_::_,_,j,_=>j.elim
 |_::_,[],_,j,_=>j.elim
 |gX::vs',v::vs,us,j,g=>by
  obtain⟨u,c6,e,b5,b8⟩:=g;refine⟨u,c6,e,?_,abl j.2 b8⟩;rcases j.1 with rfl|rfl
  ·exact b5
  trivial
theorem Pm{P:Program}{kv:List V}{c:Code}{σ:St}{K:St->Prop}{aw:List (Nat×(St->Prop))}{dc:St->Prop}(d3:List Nat){ts:List V}(ht:i3 d3 0 σ.tmps=ts)(h:hG P kv c ⟨ts,σ.heap⟩ K aw dc):hG P kv c σ K aw dc:=by
 intro B w0 kp Q a w b' cg dm a1 r;obtain⟨a0,φ,r,bD⟩:=r;exact h B w0 kp Q a w b' cg dm a1 ⟨a0,φ,⟨abl (by rw[<-ht];exact RU d3 0 _) r.jA,r.kp,r.hp,r.dQ,r.eI,r.gH,r.iS,r.hR,r.bs,r.pg,r.np⟩,bD⟩
theorem ams{S:List Bool}(h:S.length=16):∃fE cA db c0 eo fr fQ f_ gk gP ib nF nG qx qy qz,S=[fE,cA,db,c0,eo,fr,fQ,f_,gk,gP,ib,nF,nG,qx,qy,qz]:=by
 match S,h with|[fE,cA,db,c0,eo,fr,fQ,f_,gk,gP,ib,nF,nG,qx,qy,qz],_=>exact⟨fE,cA,db,c0,eo,fr,fQ,f_,gk,gP,ib,nF,nG,qx,qy,qz,rfl⟩
def Tr(c:J)(id:Int)(i:Nat)(p:bI)(aw:ae)(dF:aD)(k1 k2:d6)(S:List Bool):St:=⟨(.an::.i id::aA 4 (.ptr 2 0 0::.an::.ptr 5 0 0::.an::.ptr 3 i 0::.ptr 15 0 0::.an::.an::.ptr 16 0 0::.an::.ptr 17 0 0::aA 73 [(aK S 0 (.ptr 3 i 0)),(aK S 1 (.ptr 3 i 0)),(aK S 2 (.agg (aD.a2 dF (.sl 11 0 dF.aB.cells.length) (.sl 12 0 dF.bC.length) (.sl 13 0 dF.bc.length) (.sl 14 0 dF.bJ.length)))),(aK S 3 (.agg [.i k1.aX,.i k1.dV,.i k1.blocked,.i k1.gA])),(aK S 4 (.agg [.i k2.aX,.i k2.dV,.i k2.blocked,.i k2.gA])),(aK S 5 (.i id)),(aK S 6 (.ptr 3 i 0)),(aK S 7 (.ptr 3 i 1)),(aK S 9 (.ptr 3 i 0)),(aK S 10 (.ptr 3 i 13)),(aK S 12 (.ptr 5 0 18)),(aK S 14 (.ptr 5 0 45)),.an])),[.box (J.bx c),.box [.i p.aP,.d (.str p.data),.d (.bool p.aS)],.box J.ca,.h3 39 ((c.aa.map ae.enc).take i) [.i aw.id,(bif S.getD 8 false then .i dF.bp else .i aw.ag.bp),(bif S.getD 8 false then .i dF.aB.size else .i aw.ag.aB.size),(bif S.getD 8 false then .i dF.aB.base else .i aw.ag.aB.base),(bif S.getD 8 false then .i dF.aB.bS else .i aw.ag.aB.bS),(bif S.getD 8 false then .sl 11 0 dF.aB.cells.length else .sl 6 0 aw.ag.aB.cells.length),(bif S.getD 8 false then .sl 12 0 dF.bC.length else .sl 7 0 aw.ag.bC.length),(bif S.getD 8 false then .sl 13 0 dF.bc.length else .sl 8 0 aw.ag.bc.length),(bif S.getD 8 false then .sl 14 0 dF.bJ.length else .sl 9 0 aw.ag.bJ.length),(bif S.getD 8 false then .i dF.bf else .i aw.ag.bf),(bif S.getD 8 false then .i dF.aS else .i aw.ag.aS),(bif S.getD 8 false then .i dF.b0 else .i aw.ag.b0),(bif S.getD 8 false then .i dF.cS else .i aw.ag.cS),(bif S.getD 11 false then .i k1.aX else .i aw.cL.aX),(bif S.getD 11 false then .i k1.dV else .i aw.cL.dV),(bif S.getD 11 false then .i k1.blocked else .i aw.cL.blocked),(bif S.getD 11 false then .i k1.gA else .i aw.cL.gA),.i aw.aU.bp,.i aw.aU.bT.next,.sl 10 0 aw.aU.bT.cq.length,.i aw.aU.bf,.i aw.aU.fR,.i aw.aU.cS,.i aw.bL.size,.i aw.bL.cm,.i aw.bL.aX,.i aw.bL.seen,.i aw.bL.fa,.i aw.bL.k9,.i aw.cI.ei,.d (.bool aw.cI.ic),.d (.bool aw.ft),.d (.bool aw.fS),.d (.bool aw.i4),.d (.bool aw.gK),.d (.bool aw.k_),.d (.bool aw.i5),.i aw.oe,.d (.bool aw.gu)] ((c.aa.map ae.enc).drop (i+1)),.aj 2 (c.ai.map aL.enc),.box [.d (.bool c.bq),.i c.own.aB,.i c.own.bL,.i c.own.nh,.i c.own.cn,.i c.own.ni,.i c.own.mz,.i c.own.fG,.i c.own.eU,.i c.cP.aB,.i c.cP.bL,.i c.cP.nh,.i c.cP.cn,.i c.cP.ni,.i c.cP.mz,.i c.cP.fG,.i c.cP.eU,.sl 3 0 c.aa.length,(bif S.getD 13 false then .i k2.aX else .i c.cn.aX),(bif S.getD 13 false then .i k2.dV else .i c.cn.dV),(bif S.getD 13 false then .i k2.blocked else .i c.cn.blocked),(bif S.getD 13 false then .i k2.gA else .i c.cn.gA),.i c.c7.size,.i c.c7.cm,.i c.c7.aX,.i c.c7.seen,.i c.c7.fa,.i c.c7.k9,.i c.eY.aX,.i c.eY.iy,.i c.eY.blocked,.i c.eZ.aX,.i c.eZ.iy,.i c.eZ.blocked,.i c.dB.cm,.i c.dB.aX,.i c.dB.seen,.i c.dB.cX,.i c.dC.cm,.i c.dC.aX,.i c.dC.seen,.i c.dC.cX,.d (.bool c.p2),.d (.bool c.mA),.d (.bool c.mB),(bif S.getD 15 false then .i id else .i c.dw),.i c.bU,.sl 4 0 c.ai.length,.i c.dA,.i c.cX],.azu aw.ag.aB.cells,.azv aw.ag.bC,.azv aw.ag.bc,.azv aw.ag.bJ,.ay 2 (aw.aU.bT.cq.map aR.enc) true,.azu dF.aB.cells,.azv dF.bC,.azv dF.bc,.azv dF.bJ,.box (aD.a2 dF (.sl 11 0 dF.aB.cells.length) (.sl 12 0 dF.bC.length) (.sl 13 0 dF.bc.length) (.sl 14 0 dF.bJ.length)),.box [.i k1.aX,.i k1.dV,.i k1.blocked,.i k1.gA],.box [.i k2.aX,.i k2.dV,.i k2.blocked,.i k2.gA]]⟩
theorem ahT(c:J)(id:Int)(p:bI)(hz:gZ c)(bB:∀s∈c.aa,ov s.ag)(hd:p.data.length<=1048576):aM 196 [.agg (J.enc c),.one (.i id),.agg [.i p.aP,.str p.data,.bool p.aS]] [.agg (J.enc ((p_ c id p))),.one (.bool (py c id p))]:=by
 refine m_ 103 func196 call196 [.cell 6 37,.tmp 7] ?_;intro ok;clear ok;have lL:=lo hz;have Q0:=HY c ω;have G4:=DA c.aa id;have By:=B0 c hz;rw[<-AQ bB]at By;have a3:p_ c id p=if py c id p then {c with cn:=iV c.cn (nq (aC c id) p),dw:=id,aa:=dv c.aa (jC (aC c id) p)}else c:=rfl
 have cM:py c id p=(xw c id&&(iD (aC c id).ag p&&m4 (aC c id).cL (nq (aC c id) p)&&m4 c.cn (nq (aC c id) p))):=rfl;have bY:xw c id=(ew c&&(bQ c.aa id).2&&(aC c id).ft):=rfl;rcases m' (eB id) c.aa with ⟨h1,h2⟩|⟨i,hi,h1,h2,ao⟩
 ·rw[h1]at G4;have hs:(bQ c.aa id).2=false:=by unfold bQ;rw[h2]
  rw[hs,asQ,ap_]at bY;rw[bY,ap_]at cM;rw[cM]at a3;have ak:decide ((-1:Int)<0):=by decide
  refine gJ bE ?_;cases aE:ew c
  ·rw[aE]at By
   try simp only[go_sem]
   repeat'(first|((first|refine af.j ?_|refine av.j ?_|with_reducible apply dp|apply bo|refine a7 NO χ ψ ?_)<;>simp only[go_sem,I,b7])|refine⟨ae7,?_⟩|fail)
   simp[a3,cM]
  rw[aE]at By
  try simp only[go_sem]
  repeat'(first|((first|refine af.j ?_|refine av.j ?_|with_reducible apply cG|with_reducible apply dp|apply bo|refine a7 NO χ ψ ?_)<;>simp only[go_sem,I,bz])|refine⟨ae7,?_⟩|fail)
  simp[a3,cM]
 obtain⟨aw,dm⟩:∃aw,aw=c.aa[i]:=⟨_,rfl⟩;have hm:aw∈c.aa:=dm▸eK hi;have az:=b_ ae.enc c.aa i hi;rw[<-dm]at az;have Cl:aC c id=aw:=by rw[dm];exact FI h1 hi
 have cO:aw.id=id:=by rw[dm];exact H2 h1 hi
 have hs:(bQ c.aa id).2:=by unfold bQ;rw[h2]
 rw[Cl]at cM a3 bY;rw[hs,ate]at bY;rw[h1]at G4;obtain⟨dW,cT,dS,eW⟩:=hz.2.1 aw hm;have ak:=bn (p:=(i:Int)<0) ω;have i6:∀b q:Bool,(bif bif !b then true else false then true else !q)=!(b&&q):=by intro b q;cases b<;>cases q<;>rfl
 refine eE bE 4 (α:=Unit) (λ_=>⟨(.an::.i id::.an::.ptr 0 0 0::.an::.ptr 1 0 0::.ptr 2 0 0::.an::.ptr 5 0 0::.an::.ptr 3 i 0::aA 92 []),[.box (J.bx c),.box [.i p.aP,.d (.str p.data),.d (.bool p.aS)],.box J.ca,.aj 39 (c.aa.map ae.enc),.aj 2 (c.ai.map aL.enc),.azG c 3 4]⟩) (λ_=>xw c id=true) ?_ ?_
 ·skip
  try simp only[go_sem]
  repeat'(first|((first|refine af.j ?_|refine av.j ?_|with_reducible apply dp|apply bo|refine a7 NO χ ψ ?_)<;>simp only[go_sem,I,ak,aF,az,ae.enc])|refine⟨ae7,?_⟩|fail)
  rw[i6,<-bY];cases hg:xw c id
  ·rw[hg,ap_]at cM;rw[cM]at a3;simp only[go_sem,I,b7];simp[a3,cM]
  simp only[go_sem,bz,aF];refine⟨by omega,?_⟩;refine cZ.intro () [0,1,2,3,4,5] (by first|trivial|exact hg) ?_;simp only[go_sem];simp
 rintro _ hg;rw[hg,af_]at cM;have hn:=bB aw hm;have Pn:aM 254 [.agg (aD.enc aw.ag),.agg [.i p.aP,.str p.data,.bool p.aS]] [.agg (aD.enc ((ga aw.ag p))),.one (.bool (iD aw.ag p))]:=by
  apply amt<;>first|assumption|omega
 have NP:nq aw p=i64.wrap ((ga aw.ag p).b0-aw.ag.b0):=rfl;have Ts:jC aw p={aw with ag:=ga aw.ag p,cL:=iV aw.cL (nq aw p)}:=rfl;rw[Ts]at a3;generalize ga aw.ag p=dF at *;generalize iD aw.ag p=b5 at *;rw[NP]at cM a3 Ts;refine DB 3 i ?_;simp only[go_sem,I,az,ae.enc];refine pR bE 1 ?_
 try simp only[go_sem]
 repeat'(first|((first|refine af.i ?_|refine av.i ?_|with_reducible apply dp|apply bo|refine a7 abj χ ψ ?_)<;>simp only[go_sem,I])|refine⟨ae7,?_⟩|fail)
 have amu:aM 255 [.agg [.i aw.cL.aX,.i aw.cL.dV,.i aw.cL.blocked,.i aw.cL.gA],.one (.i (i64.wrap (dF.b0-aw.ag.b0)))] [.agg [.i ((iV aw.cL (i64.wrap (dF.b0-aw.ag.b0)))).aX,.i ((iV aw.cL (i64.wrap (dF.b0-aw.ag.b0)))).dV,.i ((iV aw.cL (i64.wrap (dF.b0-aw.ag.b0)))).blocked,.i ((iV aw.cL (i64.wrap (dF.b0-aw.ag.b0)))).gA],.one (.bool (m4 aw.cL (i64.wrap (dF.b0-aw.ag.b0))))]:=abm _ _ _ _ _;have amv:aM 255 [.agg [.i c.cn.aX,.i c.cn.dV,.i c.cn.blocked,.i c.cn.gA],.one (.i (i64.wrap (dF.b0-aw.ag.b0)))] [.agg [.i ((iV c.cn (i64.wrap (dF.b0-aw.ag.b0)))).aX,.i ((iV c.cn (i64.wrap (dF.b0-aw.ag.b0)))).dV,.i ((iV c.cn (i64.wrap (dF.b0-aw.ag.b0)))).blocked,.i ((iV c.cn (i64.wrap (dF.b0-aw.ag.b0)))).gA],.one (.bool (m4 c.cn (i64.wrap (dF.b0-aw.ag.b0))))]:=abm _ _ _ _ _;refine pR bE 4 ?_
 try simp only[go_sem]
 repeat'(first|((first|refine af.j ?_|refine av.j ?_|with_reducible apply cG|with_reducible apply dp|apply bo|refine a7 abk χ ψ ?_)<;>simp only[go_sem])|refine⟨ae7,?_⟩|fail)
 clear amu amv;generalize i64.wrap (dF.b0-aw.ag.b0)=n at *;generalize iV aw.cL n=k1 at *;generalize iV c.cn n=k2 at *;generalize m4 aw.cL n=b8 at *;generalize m4 c.cn n=dI at *;have amw:∀a b q:Bool,(bif bif !a then true else !b then true else !q)=!(a&&b&&q):=by intro a b q;cases a<;>cases b<;>cases q<;>rfl
 rw[amw,<-cM];cases hk:py c id p
 ·rw[hk]at a3
  try simp only[go_sem,b7]
  repeat'(first|((first|refine af.j ?_|refine av.j ?_)<;>simp only[go_sem,I])|refine⟨ae7,?_⟩|fail)
  simp[a3]
 rw[hk,if_pos rfl]at a3;simp only[go_sem,bz];have hlt:i=((c.aa.map ae.enc).take i).length:=by rw[arJ,I];omega
 refine Pm [1,6,8,10,11,14,16] (by simp only[i3,arE,am_,Nat.reduceBEq,Nat.reduceAdd,d4,eF];rfl) ?_;refine pR bE 1 ?_;simp only[go_sem];refine lM _ (mQ (λS σ=>σ=Tr c id i p aw dF k1 k2 S) (N:=16) rfl rfl rfl ?_) ?_
 ·repeat'(first|exact nC|refine nD ?_ ?_)
  all_goals(
   rintro S σ F hl a5 hp hcl rfl bG;obtain⟨jI,dW,cT,dS,eW,nb,nR,nS,nT,qu,xb,DG,DH,Fu,Fv,Fw,rfl⟩:=ams hl;simp only[nc,kf,cc]at a5;subst a5;simp[lN,Region.binds]at hp
   repeat(obtain⟨fh,hp⟩:=hp;subst fh)
   try subst hp
   try obtain rfl:=bZ (hcl 0 6 _ rfl ζ rfl)
   try obtain rfl:=bZ (hcl 1 9 _ rfl ζ rfl)
   try obtain rfl:=bZ (hcl 2 6 _ rfl ζ rfl)
   try obtain rfl:=bZ (hcl 3 9 _ rfl ζ rfl)
   try obtain rfl:=bZ (hcl 4 12 _ rfl ζ rfl)
   try obtain rfl:=bZ (hcl 5 14 _ rfl ζ rfl)
   try obtain rfl:=bZ (hcl 6 7 _ rfl ζ rfl)
   try obtain rfl:=bZ (hcl 7 8 _ rfl ζ rfl)
   try obtain rfl:=bZ (hcl 8 9 _ rfl ζ rfl)
   try obtain rfl:=bZ (hcl 9 10 _ rfl ζ rfl)
   try obtain rfl:=bZ (hcl 10 11 _ rfl ζ rfl)
   try obtain rfl:=bZ (hcl 11 12 _ rfl ζ rfl)
   try obtain rfl:=bZ (hcl 12 13 _ rfl ζ rfl)
   try obtain rfl:=bZ (hcl 13 14 _ rfl ζ rfl)
   try obtain rfl:=bZ (hcl 14 15 _ rfl ζ rfl)
   simp only[Tr,aK,gm,gh,d4,eF]
   repeat'(first
     |exact bG _ rfl
     |refine⟨ae7,?_⟩
     |exact hlt
     |simp only[go_sem,cx,cv]))
 rintro _ rfl;simp only[Tr,ea,aK,gm,gh,d4];simp only[go_sem];refine abi 3 ?_;simp only[go_sem,I];refine au ?_;refine gJ bE ?_;have bu:(c.aa.length<=((c.aa.map ae.enc).take i).length+(((c.aa.map ae.enc).drop (i+1)).length+1))=True:=eq_true (by rw[arJ,ar_,I];omega);have cF:=PZ (Y:=jC aw p) h1 hi cO;rw[Ts]at cF;simp only[ae.enc]at cF
 try simp only[go_sem,I,bu,if_true]
 repeat'(first|refine⟨ae7,?_⟩|fail)
 rw[a3];simp only[cF]
theorem VI(f:al):aM 31 [.agg (al.enc f)] [.agg [.i f.aP,.str f.data,.bool f.aS]]:=by
 refine ayE 10 func31 call31 [.cell 2 77] ?_
 try simp only[go_sem]
theorem VG{c:J}{id:Int}{i:Nat}(h:g2 (eB id) c.aa=(i:Int))(hi:i<c.aa.length):(bQ c.aa id).2/\aC c id=c.aa[i]/\c.aa[i].id=id:=⟨by
 have:=FI h hi;rcases m' (eB id) c.aa with ⟨h1,h2⟩|⟨j,aI,h1,h2,ao⟩
 ·rw[h1]at h;omega
 unfold bQ;rw[h2],FI h hi,H2 h hi⟩
theorem amh{c:J}{id:Int}(h:(bQ c.aa id).2):aC c id∈c.aa:=by
 unfold aC;unfold bQ at h⊢;split
 ·rename_i s e;exact arK e
 rename_i e;rw[e]at h;cases h
def EJ(c:J):Prop:=∀s∈c.aa,0<=s.aU.bp
theorem ami(s:ae)(f:al):(gf s f).aU=s.aU:=by unfold gf;(repeat' split)<;>rfl
theorem EJ.cr{c:J}(h:EJ c)(f:al):EJ (jK c f):=by
 unfold jK
 repeat' split
 all_goals first|exact h|skip
 rename_i _ _ hg;simp only[qt,bm]at hg;intro s hs;rcases zw hs with h1|h1
 ·exact h s h1
 rw[h1,ami];exact h _ (amh hg.1)
theorem EJ.of{c:J}{n:Int}(h:fD c n):EJ (g7 c n):=λs hs=>by
 have h1:=(pz.1 (C2 h).1).m3 s hs;simp only[dt,Ci,F9,bm,ed]at h1;obtain⟨_,_,_,h2,_⟩:=h1;simp only[lZ,Cj,bm]at h2;have h:=h2.2
 repeat' split at h
 all_goals first|omega|cases h
theorem amj{S:List Bool}(h:S.length=11):∃fE cA db c0 eo fr fQ f_ gk gP ib,S=[fE,cA,db,c0,eo,fr,fQ,f_,gk,gP,ib]:=by
 match S,h with|[fE,cA,db,c0,eo,fr,fQ,f_,gk,gP,ib],_=>exact⟨fE,cA,db,c0,eo,fr,fQ,f_,gk,gP,ib,rfl⟩
def Tn(c x:J)(fs:List al)(f:al)(k i:Nat)(aw:ae)(dF:aD)(S:List Bool):St:=⟨(aA 4 (.ptr 1 0 0::.an::.ptr 5 0 0::aA 3 (.ptr 6 0 0::.an::.ptr 2 i 0::aA 10 (.sl 4 0 fs.length::.i fs.length::.i k::aA 39 (.i f.aY::.d (.bool true)::.d (.bool true)::(aK S 0 (.ptr 2 i 0))::(aK S 1 (.ptr 2 i 0))::(aK S 2 (.ptr 2 i 0))::(aK S 3 (.ptr 2 i 1))::(aK S 4 (.agg (aD.a2 aw.ag (.sl 7 0 aw.ag.aB.cells.length) (.sl 8 0 aw.ag.bC.length) (.sl 9 0 aw.ag.bc.length) (.sl 10 0 aw.ag.bJ.length))))::(aK S 5 (.agg (al.bx f)))::(aK S 6 (.agg [.i f.aP,.d (.str f.data),.d (.bool f.aS)]))::(aK S 7 (.agg (aD.a2 dF (.sl 12 0 dF.aB.cells.length) (.sl 13 0 dF.bC.length) (.sl 14 0 dF.bc.length) (.sl 15 0 dF.bJ.length))))::(aK S 8 (.ptr 2 i 0))::(aK S 9 (.ptr 2 i 1))::aA 28 []))))),[.box (J.bx c),.box J.ca,.h3 39 ((x.aa.map ae.enc).take i) [.i aw.id,(bif S.getD 10 false then .i dF.bp else .i aw.ag.bp),(bif S.getD 10 false then .i dF.aB.size else .i aw.ag.aB.size),(bif S.getD 10 false then .i dF.aB.base else .i aw.ag.aB.base),(bif S.getD 10 false then .i dF.aB.bS else .i aw.ag.aB.bS),(bif S.getD 10 false then .sl 12 0 dF.aB.cells.length else .sl 7 0 aw.ag.aB.cells.length),(bif S.getD 10 false then .sl 13 0 dF.bC.length else .sl 8 0 aw.ag.bC.length),(bif S.getD 10 false then .sl 14 0 dF.bc.length else .sl 9 0 aw.ag.bc.length),(bif S.getD 10 false then .sl 15 0 dF.bJ.length else .sl 10 0 aw.ag.bJ.length),(bif S.getD 10 false then .i dF.bf else .i aw.ag.bf),(bif S.getD 10 false then .i dF.aS else .i aw.ag.aS),(bif S.getD 10 false then .i dF.b0 else .i aw.ag.b0),(bif S.getD 10 false then .i dF.cS else .i aw.ag.cS),.i aw.cL.aX,.i aw.cL.dV,.i aw.cL.blocked,.i aw.cL.gA,.i aw.aU.bp,.i aw.aU.bT.next,.sl 11 0 aw.aU.bT.cq.length,.i aw.aU.bf,.i aw.aU.fR,.i aw.aU.cS,.i aw.bL.size,.i aw.bL.cm,.i aw.bL.aX,.i aw.bL.seen,.i aw.bL.fa,.i aw.bL.k9,.i aw.cI.ei,.d (.bool aw.cI.ic),.d (.bool aw.ft),.d (.bool aw.fS),.d (.bool aw.i4),.d (.bool aw.gK),.d (.bool aw.k_),.d (.bool aw.i5),.i aw.oe,.d (.bool aw.gu)] ((x.aa.map ae.enc).drop (i+1)),.aj 2 (x.ai.map aL.enc),.azy fs,.box (J.a2 x (.sl 2 0 x.aa.length) (.sl 3 0 x.ai.length)),.box (al.bx f),.azu aw.ag.aB.cells,.azv aw.ag.bC,.azv aw.ag.bc,.azv aw.ag.bJ,.ay 2 (aw.aU.bT.cq.map aR.enc) true]++(bif S.getD 7 false then [.azu dF.aB.cells,.azv dF.bC,.azv dF.bc,.azv dF.bJ]else [])⟩
def pM(c x:J)(fs:List al)(k:Nat):St:=⟨(aA 4 (.ptr 1 0 0::.an::.ptr 5 0 0::aA 16 (.sl 4 0 fs.length::.i fs.length::.i k::aA 80 []))),[.box (J.bx c),.box J.ca,.aj 39 (x.aa.map ae.enc),.aj 2 (x.ai.map aL.enc),.azy fs,.box (J.a2 x (.sl 2 0 x.aa.length) (.sl 3 0 x.ai.length))]⟩
theorem Ka(c x:J)(fs:List al)(k:Nat){id:Int}{i:Nat}{Y:ae}(h1:g2 (eB id) x.aa=(i:Int))(hi:i<x.aa.length)(og:Y.id=id):pM c (lE x Y) fs k =
  ⟨(aA 4 (.ptr 1 0 0::.an::.ptr 5 0 0::aA 16 (.sl 4 0 fs.length::.i fs.length::.i k::aA 80 []))),[.box (J.bx c),.box J.ca,.aj 39 ((x.aa.map ae.enc).take i++Y.enc::(x.aa.map ae.enc).drop (i+1)),.aj 2 (x.ai.map aL.enc),.azy fs,.box (J.a2 x (.sl 2 0 x.aa.length) (.sl 3 0 x.ai.length))]⟩:=by
 have h2:dv x.aa Y=x.aa.take i++Y::x.aa.drop (i+1):=HH (by rw[og];exact h1) hi;have ao:(dv x.aa Y).length=x.aa.length:=amk (by rw[og];exact h1) hi;simp only[pM,lE,ao];rw[h2];simp
theorem aa4(c:J)(n:Int)(m:Nat)(hv:bW m c)(hm:m<=20):aM 8 [.agg (J.enc c),.one (.i n)] [.agg (J.enc ((g0 c n))),.one (.bool (fD c n))]:=by
 refine m_ 106 func8 call8 [.cell 4 37,.tmp 5] ?_;intro ok;clear ok;have hz:=hv.sz hm;have a3:g0 c n=if fD c n then(fP c.ai n).1.bV.foldl jK (g7 c n)else c:=rfl
 have AB:=VE c n hz (sm hv);have b5:Dx c n=if fD c n then g7 c n else c:=rfl
 have b8:Dy c n=if fD c n then(fP c.ai n).1.bV else []:=rfl
 cases hg:fD c n with
 |false=>
  rw[hg,if_neg ξ]at a3 b5 b8;rw[b5,b8,hg]at AB;refine gJ bE ?_
  try simp only[go_sem]
  repeat'(first|((first|refine af.j ?_|refine av.j ?_|with_reducible apply dp)<;>simp only[go_sem,I,b7])|refine⟨ae7,?_⟩|fail)
  rw[a3]
  try simp[outOA,fb]
 |true=>
 have Bw:=hg;have AA:(fP c.ai n).1∈c.ai:=by
  simp only[fD,bm]at hg;have h2:=hg.2;unfold fP at h2⊢;split
  ·rename_i p hp;exact arK hp
  rename_i hp;rw[hp]at h2;cases h2
 have oL:=hz.2.2.2 _ AA;rw[hg,if_pos rfl]at a3 b5 b8;rw[b5,b8,hg]at AB;generalize (fP c.ai n).1=p at *;have x9:=zj hv n;have Gk:=EJ.of Bw;obtain⟨y,hy⟩:∃y,y=g7 c n:=⟨_,rfl⟩;rw[<-hy]at a3 AB x9 Gk;obtain⟨fs,dj⟩:∃fs,fs=p.bV:=⟨_,rfl⟩;unfold AE at oL;rw[<-dj]at a3 AB oL;refine eE bE 3 (α:=Unit) (λ_=>⟨(aA 4 (.ptr 1 0 0::.an::.ptr 5 0 0::.sl 4 0 fs.length::aA 98 [])),[.box (J.bx c),.box J.ca,.aj 39 (y.aa.map ae.enc),.aj 2 (y.ai.map aL.enc),.aj 9 (fs.map al.enc),.box (J.a2 y (.sl 2 0 y.aa.length) (.sl 3 0 y.ai.length))]⟩) (λ_=>True) ?_ ?_
 ·skip
  try simp only[go_sem]
  repeat'(first|((first|refine af.j ?_|refine av.j ?_|with_reducible apply cG|with_reducible apply dp)<;>simp only[go_sem,I,bz])|refine⟨ae7,?_⟩|fail)
  refine cZ.intro () [0,1,2,3,4,5] trivial ?_;simp only[go_sem];simp
 rintro _ _;refine Fl 4 rfl ?_;simp only[go_sem];refine HE 2 (pM c (g0 c n) fs fs.length) ?_ ?_
 rotate_left
 ·refine gJ bE ?_;simp only[pM]
  try simp only[go_sem,I]
  repeat'(first|((first|with_reducible apply cG|with_reducible apply dp)<;>simp only[go_sem,I])|refine⟨ae7,?_⟩|fail)
  try simp
 refine pR bE 1 ?_;simp only[go_sem];refine Dz ?_;refine VF (α:=Nat×J) (λq=>pM c q.2 fs q.1) (λq=>fs.length-q.1) (λq=>q.1<=fs.length/\q.2=(fs.take q.1).foldl jK y/\EJ q.2) (0,y) [0,1,2,3,4,5] ⟨by simp,by simp,Gk⟩ ?_ ?_
 ·simp only[pM,go_sem];simp
 rintro⟨k,x⟩ ⟨hk,hx,To⟩;simp only at hk hx To⊢;by_cases h1:k<fs.length
 rotate_left
 ·obtain⟨aq,rfl⟩:=arn (i:=k) (n:=fs.length);rw[da,<-a3]at hx;refine gJ bE ?_;simp only[pM,go_sem,aq];refine l4.dA [0,1,2,3,4,5] ?_;rw[hx];simp only[go_sem];simp
 have aq:=aro (i:=k) (n:=fs.length);have az:=b_ al.enc fs k h1;have gz:=oL.1;have hw:=asc (i:=k);have rh:=oL.2 _ (eK h1);have b4:(fs.take (k+1)).foldl jK y=jK x fs[k]:=by
  rw[gO,cy h1,arD,<-hx];rfl
 have mn:bW m x:=by rw[hx];exact Dv (λc f h=>HJ h f) _ _ x9
 generalize fs[k]=f at *;refine pR bE 2 ?_;simp only[pM,go_sem,aq];refine HE 2 (pM c (jK x f) fs k) ?_ ?_
 rotate_left
 ·refine gJ bE ?_;simp only[pM,go_sem,hw];refine bt.intro (k+1,jK x f) [0,1,2,3,4,5] ⟨by simp only;omega,b4.symm,To.cr f⟩ (show fs.length-(k+1)<fs.length-k by omega) ?_;simp only[go_sem];simp
 clear b4 hx;have mP:=mn.sz hm;have x_:=DA x.aa f.ax;have l5:aM 29 [.agg (al.enc f)] [.one (.bool (iv f.aY))]:=by apply Fm
 have d':jK x f=if f.aY=16 then {x with p2:=true}else if f.aY=18 then(if f.fG then {x with mB:=true}else {x with mA:=true})else if qt x f then lE x (gf (aC x f.ax) f)else x:=rfl
 refine Dz ?_;by_cases j':f.aY=16
 ·have s6:=br (p:=f.aY=16) j';have na:iv f.aY=false:=by rw[j'];rfl
  rw[if_pos j']at d';rw[na]at l5;refine gJ bE ?_
  try simp only[go_sem,I,aF,az,al.enc,s6]
  repeat'(first|((first|refine af.i ?_|refine av.i ?_|with_reducible apply dp)<;>simp only[go_sem,b7])|refine⟨ae7,?_⟩|fail)
  refine l4.dA [0,1,2,3,4,5] ?_;rw[d'];simp only[pM,go_sem];simp
 have s6:=bn (p:=f.aY=16) j';rw[if_neg j']at d';by_cases iB:f.aY=18
 ·have y8:=br (p:=f.aY=18) iB;have na:iv f.aY=false:=by rw[iB];rfl
  rw[if_pos iB]at d';rw[na]at l5;refine gJ bE ?_;cases hu:f.fG
  ·rw[hu,if_neg ξ]at d';simp only[al.enc,hu]at l5
   try simp only[go_sem,I,aF,az,al.enc,s6,y8,hu]
   repeat'(first|((first|refine af.i ?_|refine av.i ?_|with_reducible apply cG|with_reducible apply dp)<;>simp only[go_sem,I,y8,b7])|refine⟨ae7,?_⟩|fail)
   refine l4.dA [0,1,2,3,4,5] ?_;rw[d'];simp only[pM,go_sem];simp
  rw[hu,if_pos rfl]at d';simp only[al.enc,hu]at l5
  try simp only[go_sem,I,aF,az,al.enc,s6,y8,hu]
  repeat'(first|((first|refine af.i ?_|refine av.i ?_|with_reducible apply cG|with_reducible apply dp)<;>simp only[go_sem,I,b7])|refine⟨ae7,?_⟩|fail)
  refine l4.dA [0,1,2,3,4,5] ?_;rw[d'];simp only[pM,go_sem];simp
 have y8:=bn (p:=f.aY=18) iB;rw[if_neg iB]at d';have hA:qt x f=((bQ x.aa f.ax).2&&iv f.aY):=rfl;rcases m' (eB f.ax) x.aa with ⟨dG,e9⟩|⟨i,hi,dG,e9,f3⟩
 ·have hs:(bQ x.aa f.ax).2=false:=by unfold bQ;rw[e9]
  rw[hs,ap_]at hA;rw[hA,if_neg ξ]at d';rw[dG]at x_;have ak:decide ((-1:Int)<0):=by decide
  have i6:∀b:Bool,(bif !b then true else true)=true:=by intro b;cases b<;>rfl
  refine gJ bE ?_
  try simp only[go_sem,I,aF,az,al.enc,s6,y8]
  repeat'(first|((first|refine af.i ?_|refine av.i ?_|with_reducible apply dp|apply bo)<;>simp only[go_sem,I,y8,i6])|refine⟨ae7,?_⟩|fail)
  refine l4.dA [0,1,2,3,4,5] ?_;rw[d'];simp only[pM,go_sem];simp
 obtain⟨dh,bO,cz⟩:=VG dG hi;obtain⟨aw,dm⟩:∃aw,aw=x.aa[i]:=⟨_,rfl⟩;have pd:aw∈x.aa:=dm▸eK hi;have HF:=b_ ae.enc x.aa i hi;rw[<-dm]at HF bO cz;rw[dh,af_]at hA;rw[hA,bO]at d';rw[dG]at x_;have ak:=bn (p:=(i:Int)<0) ω;have i6:∀b:Bool,(bif !b then true else false)=!b:=by intro b;cases b<;>rfl
 cases na:iv f.aY with
 |false=>
  rw[na,if_neg ξ]at d';rw[na]at l5;refine gJ bE ?_
  try simp only[go_sem,I,aF,az,al.enc,s6,y8]
  repeat'(first|((first|refine af.i ?_|refine av.i ?_|with_reducible apply dp)<;>simp only[go_sem,I,y8,b7])|refine⟨ae7,?_⟩|fail)
  refine l4.dA [0,1,2,3,4,5] ?_;rw[d'];simp only[pM,go_sem];simp
 |true=>
 rw[na,if_pos rfl]at d';rw[na]at l5;have iL:((x.aa.map ae.enc).take i).length=i:=by rw[arJ,I];omega
 have hlt:i=((x.aa.map ae.enc).take i).length:=iL.symm;refine pR bE 4 ?_
 try simp only[go_sem,I,aF,az,al.enc,s6,y8]
 repeat'(first|((first|refine af.i ?_|refine av.i ?_|with_reducible apply cG|with_reducible apply dp)<;>simp only[go_sem,I,y8,ak,bz])|refine⟨ae7,?_⟩|fail)
 refine DB 2 i ?_;simp only[go_sem,I,HF,ae.enc];refine pR bE 2 ?_
 try simp only[go_sem,aF]
 repeat'(first|refine⟨ae7,?_⟩|fail)
 refine Pm [4,6,10,12,23,24,25,65] (by simp only[i3,arE,am_,Nat.reduceBEq,Nat.reduceAdd,d4,eF];rfl) ?_;refine Dz ?_;refine gJ bE ?_;by_cases dK:f.aY=8
 ·have lq:=br (p:=f.aY=8) dK;have a5:gf aw f=fF aw (iI aw.ag (gQ f)):=by unfold gf;rw[if_pos dK]
  have cO:(fF aw (iI aw.ag (gQ f))).id=f.ax:=cz;obtain⟨dW,cT,dS,eW⟩:=mP.2.1 aw pd;have HI:=VI f;have Pn:aM 38 [.agg (aD.enc aw.ag),.agg [.i f.aP,.str f.data,.bool f.aS]] [.agg (aD.enc ((iI aw.ag (gQ f))))]:=aml aw.ag (gQ f) ω ω (by show f.data.length<=1048576;omega) (sm mn aw pd);generalize iI aw.ag (gQ f)=dF at *;simp only[go_sem,lq];refine lM _ (mQ (λS σ=>σ=Tn c x fs f k i aw dF S) (N:=11) rfl rfl rfl ?_) ?_
  ·repeat'(first|exact nC|refine nD ?_ ?_)
   all_goals(
    rintro S σ F hl a5 hp hcl rfl bG;obtain⟨jI,dW,cT,dS,eW,nb,nR,nS,nT,qu,xb,rfl⟩:=amj hl;simp only[nc,kf,cc]at a5;subst a5;simp[lN,Region.binds]at hp
    repeat(obtain⟨fh,hp⟩:=hp;subst fh)
    try subst hp
    try obtain rfl:=bZ (hcl 0 8 _ rfl ζ rfl)
    try obtain rfl:=bZ (hcl 1 2 _ rfl ζ rfl)
    try obtain rfl:=bZ (hcl 2 3 _ rfl ζ rfl)
    try obtain rfl:=bZ (hcl 3 4 _ rfl ζ rfl)
    try obtain rfl:=bZ (hcl 4 7 _ rfl ζ rfl)
    try obtain rfl:=bZ (hcl 5 6 _ rfl ζ rfl)
    try obtain rfl:=bZ (hcl 6 7 _ rfl ζ rfl)
    try obtain rfl:=bZ (hcl 7 8 _ rfl ζ rfl)
    try obtain rfl:=bZ (hcl 8 9 _ rfl ζ rfl)
    try obtain rfl:=bZ (hcl 9 10 _ rfl ζ rfl)
    simp only[Tn,aK,gm,gh,d4,eF,cx,cv,ix]
    repeat'(first
      |exact bG _ rfl
      |(apply cG)
      |(apply dp)
        |refine⟨ae7,?_⟩
        |(refine⟨⟨hlt,by omega⟩,?_⟩)
        |(refine af.i ?_;simp only[go_sem,I,cx,cv];exact bG _ rfl)
      |simp only[go_sem,I,cx,cv]))
  rintro _ rfl;simp only[Tn,ea,aK,gm,gh,d4,cx,cv];refine l4.close ?_;simp only[go_sem,I]
  try refine au ?_
  refine⟨[0,1,2,3,4,5],?_⟩;rw[d',a5,Ka c x fs k dG hi cO];simp only[ae.enc,fF,go_sem];simp
 have lq:=bn (p:=f.aY=8) dK;by_cases aH:f.aY=4
 ·have jv:=br (p:=f.aY=4) aH;have a5:gf aw f={aw with i4:=decide (aw.ag.bp=4)}:=by unfold gf;rw[if_neg dK,if_pos aH]
  have cO:({aw with i4:=decide (aw.ag.bp=4)}:ae).id=f.ax:=cz
  try simp only[go_sem,lq,jv,iL]
  refine l4.close ?_;simp only[go_sem,I]
  try refine au ?_
  refine⟨[0,1,2,3,4,5],?_⟩;rw[d',a5,Ka c x fs k dG hi cO];simp only[ae.enc,go_sem];simp
 have jv:=bn (p:=f.aY=4) aH;by_cases bR:f.aY=5
 ·have rj:=br (p:=f.aY=5) bR;have a5:gf aw f={aw with gK:=decide (aw.aU.bp<2)}:=by unfold gf;rw[if_neg dK,if_neg aH,if_pos bR]
  have cO:({aw with gK:=decide (aw.aU.bp<2)}:ae).id=f.ax:=cz;have WW:=WR aw.aU (To aw pd)
  try simp only[go_sem,I,lq,jv,rj,iL]
  repeat'((first|refine af.i ?_|refine av.i ?_)<;>simp only[go_sem,iL])
  refine l4.close ?_;simp only[go_sem,I]
  try refine au ?_
  refine⟨[0,1,2,3,4,5],?_⟩;rw[d',a5,Ka c x fs k dG hi cO];simp only[ae.enc,go_sem];simp
 have rj:=bn (p:=f.aY=5) bR;by_cases mf:f.aY=17
 ·have Tp:=br (p:=f.aY=17) mf;have a5:gf aw f={aw with k_:=true}:=by unfold gf;rw[if_neg dK,if_neg aH,if_neg bR,if_pos mf]
  have cO:({aw with k_:=true}:ae).id=f.ax:=cz
  try simp only[go_sem,lq,jv,rj,Tp,iL]
  refine l4.close ?_;simp only[go_sem,I]
  try refine au ?_
  refine⟨[0,1,2,3,4,5],?_⟩;rw[d',a5,Ka c x fs k dG hi cO];simp only[ae.enc,go_sem];simp
 have Tp:=bn (p:=f.aY=17) mf;have a5:gf aw f=aw:=by unfold gf;rw[if_neg dK,if_neg aH,if_neg bR,if_neg mf]
 have cO:aw.id=f.ax:=cz
 try simp only[go_sem,lq,jv,rj,Tp]
 refine l4.close ?_;simp only[go_sem,I]
 try refine au ?_
 refine⟨[0,1,2,3,4,5],?_⟩;rw[d',a5,Ka c x fs k dG hi cO];simp only[ae.enc,go_sem];simp
theorem aeZ(c:J)(f:al):(ju c f).ai=c.ai/\(ju c f).aa.length=c.aa.length:=by
 refine⟨?_,?_⟩
 ·unfold ju;split
  ·exact(zk c _).2
  rfl
 have:=congrArg asy (Pj c f).i;simpa [sj]using this
theorem ae0{S:List Bool}(h:S.length=11):∃fE cA db c0 eo fr fQ f_ gk gP ib,S=[fE,cA,db,c0,eo,fr,fQ,f_,gk,gP,ib]:=by
 match S,h with|[fE,cA,db,c0,eo,fr,fQ,f_,gk,gP,ib],_=>exact⟨fE,cA,db,c0,eo,fr,fQ,f_,gk,gP,ib,rfl⟩
def Pk(c x:J)(fs:List al)(f:al)(k i:Nat)(aw:ae)(dF:aD)(S:List Bool):St:=⟨(aA 4 (.ptr 1 0 0::.an::.ptr 5 0 0::aA 3 (.ptr 6 0 0::.an::.ptr 2 i 0::aA 12 (.sl 4 0 fs.length::.i fs.length::.i k::aA 20 (.i f.aY::.d (.bool true)::.d (.bool true)::(aK S 0 (.ptr 2 i 0))::(aK S 1 (.ptr 2 i 0))::(aK S 2 (.ptr 2 i 0))::(aK S 3 (.ptr 2 i 1))::(aK S 4 (.agg (aD.a2 aw.ag (.sl 7 0 aw.ag.aB.cells.length) (.sl 8 0 aw.ag.bC.length) (.sl 9 0 aw.ag.bc.length) (.sl 10 0 aw.ag.bJ.length))))::(aK S 5 (.agg (al.bx f)))::(aK S 6 (.agg [.i f.aP,.d (.str f.data),.d (.bool f.aS)]))::(aK S 7 (.agg (aD.a2 dF (.sl 12 0 dF.aB.cells.length) (.sl 13 0 dF.bC.length) (.sl 14 0 dF.bc.length) (.sl 15 0 dF.bJ.length))))::(aK S 8 (.ptr 2 i 0))::(aK S 9 (.ptr 2 i 1))::aA 28 []))))),[.box (J.bx c),.box J.ca,.h3 39 ((x.aa.map ae.enc).take i) [.i aw.id,(bif S.getD 10 false then .i dF.bp else .i aw.ag.bp),(bif S.getD 10 false then .i dF.aB.size else .i aw.ag.aB.size),(bif S.getD 10 false then .i dF.aB.base else .i aw.ag.aB.base),(bif S.getD 10 false then .i dF.aB.bS else .i aw.ag.aB.bS),(bif S.getD 10 false then .sl 12 0 dF.aB.cells.length else .sl 7 0 aw.ag.aB.cells.length),(bif S.getD 10 false then .sl 13 0 dF.bC.length else .sl 8 0 aw.ag.bC.length),(bif S.getD 10 false then .sl 14 0 dF.bc.length else .sl 9 0 aw.ag.bc.length),(bif S.getD 10 false then .sl 15 0 dF.bJ.length else .sl 10 0 aw.ag.bJ.length),(bif S.getD 10 false then .i dF.bf else .i aw.ag.bf),(bif S.getD 10 false then .i dF.aS else .i aw.ag.aS),(bif S.getD 10 false then .i dF.b0 else .i aw.ag.b0),(bif S.getD 10 false then .i dF.cS else .i aw.ag.cS),.i aw.cL.aX,.i aw.cL.dV,.i aw.cL.blocked,.i aw.cL.gA,.i aw.aU.bp,.i aw.aU.bT.next,.sl 11 0 aw.aU.bT.cq.length,.i aw.aU.bf,.i aw.aU.fR,.i aw.aU.cS,.i aw.bL.size,.i aw.bL.cm,.i aw.bL.aX,.i aw.bL.seen,.i aw.bL.fa,.i aw.bL.k9,.i aw.cI.ei,.d (.bool aw.cI.ic),.d (.bool aw.ft),.d (.bool aw.fS),.d (.bool aw.i4),.d (.bool aw.gK),.d (.bool aw.k_),.d (.bool aw.i5),.i aw.oe,.d (.bool aw.gu)] ((x.aa.map ae.enc).drop (i+1)),.aj 2 (x.ai.map aL.enc),.azy fs,.box (J.a2 x (.sl 2 0 x.aa.length) (.sl 3 0 x.ai.length)),.box (al.bx f),.azu aw.ag.aB.cells,.azv aw.ag.bC,.azv aw.ag.bc,.azv aw.ag.bJ,.ay 2 (aw.aU.bT.cq.map aR.enc) true]++(bif S.getD 7 false then [.azu dF.aB.cells,.azv dF.bC,.azv dF.bc,.azv dF.bJ]else [])⟩
def sk(c x:J)(fs:List al)(k:Nat):St:=⟨(aA 4 (.ptr 1 0 0::.an::.ptr 5 0 0::aA 18 (.sl 4 0 fs.length::.i fs.length::.i k::aA 61 []))),[.box (J.bx c),.box J.ca,.aj 39 (x.aa.map ae.enc),.aj 2 (x.ai.map aL.enc),.azy fs,.box (J.a2 x (.sl 2 0 x.aa.length) (.sl 3 0 x.ai.length))]⟩
def Dw(c x:J)(fs:List al)(f:al)(k:Nat)(l:List (List D)):St:=⟨(aA 4 (.ptr 1 0 0::.an::.ptr 5 0 0::aA 3 (.ptr 6 0 0::aA 14 (.sl 4 0 fs.length::.i fs.length::.i k::aA 61 [])))),[.box (J.bx c),.box J.ca,.aj 39 l,.aj 2 (x.ai.map aL.enc),.azy fs,.box (J.a2 x (.sl 2 0 x.aa.length) (.sl 3 0 x.ai.length)),.box (al.bx f)]⟩
theorem VD(c:J)(n:Int)(m:Nat)(hv:bW m c)(hm:m<=20):aM 6 [.agg (J.enc c),.one (.i n)] [.agg (J.enc ((hK c n))),.one (.bool (fD c n))]:=by
 refine m_ 89 func6 call6 [.cell 4 37,.tmp 5] ?_;intro ok;clear ok;have hz:=hv.sz hm;have a3:hK c n=if fD c n then(fP c.ai n).1.bV.foldl ju (g7 c n)else c:=rfl
 have AB:=VE c n hz (sm hv);have b5:Dx c n=if fD c n then g7 c n else c:=rfl
 have b8:Dy c n=if fD c n then(fP c.ai n).1.bV else []:=rfl
 cases hg:fD c n with
 |false=>
  rw[hg,if_neg ξ]at a3 b5 b8;rw[b5,b8,hg]at AB;refine gJ bE ?_
  try simp only[go_sem]
  repeat'(first|((first|refine af.j ?_|refine av.j ?_|apply bo)<;>simp only[go_sem,I,b7])|refine⟨ae7,?_⟩|fail)
  rw[a3]
  try simp[outOA,fb]
 |true=>
 have AA:(fP c.ai n).1∈c.ai:=by
  simp only[fD,bm]at hg;have h2:=hg.2;unfold fP at h2⊢;split
  ·rename_i p hp;exact arK hp
  rename_i hp;rw[hp]at h2;cases h2
 have oL:=hz.2.2.2 _ AA;rw[hg,if_pos rfl]at a3 b5 b8;rw[b5,b8,hg]at AB;generalize (fP c.ai n).1=p at *;have x9:=zj hv n;obtain⟨y,hy⟩:∃y,y=g7 c n:=⟨_,rfl⟩;rw[<-hy]at a3 AB x9;obtain⟨fs,dj⟩:∃fs,fs=p.bV:=⟨_,rfl⟩;unfold AE at oL;rw[<-dj]at a3 AB oL;refine eE bE 3 (α:=Unit) (λ_=>⟨(aA 4 (.ptr 1 0 0::.an::.ptr 5 0 0::.sl 4 0 fs.length::aA 81 [])),[.box (J.bx c),.box J.ca,.aj 39 (y.aa.map ae.enc),.aj 2 (y.ai.map aL.enc),.aj 9 (fs.map al.enc),.box (J.a2 y (.sl 2 0 y.aa.length) (.sl 3 0 y.ai.length))]⟩) (λ_=>True) ?_ ?_
 ·skip
  try simp only[go_sem]
  repeat'(first|((first|refine af.j ?_|refine av.j ?_|with_reducible apply dp)<;>simp only[go_sem,I,bz])|refine⟨ae7,?_⟩|fail)
  refine cZ.intro () [0,1,2,3,4,5] trivial ?_;simp only[go_sem];simp
 rintro _ _;refine Fl 4 rfl ?_;simp only[go_sem];refine HE 2 (sk c (hK c n) fs fs.length) ?_ ?_
 rotate_left
 ·refine gJ bE ?_;simp only[sk]
  try simp only[go_sem,I]
  repeat'(first|(with_reducible apply cG<;>simp only[go_sem,I])|refine⟨ae7,?_⟩|fail)
  try simp
 refine pR bE 1 ?_;simp only[go_sem];refine Dz ?_;refine VF (α:=Nat×J) (λq=>sk c q.2 fs q.1) (λq=>fs.length-q.1) (λq=>q.1<=fs.length/\q.2=(fs.take q.1).foldl ju y) (0,y) [0,1,2,3,4,5] ⟨by simp,by simp⟩ ?_ ?_
 ·simp only[sk,go_sem];simp
 rintro⟨k,x⟩ ⟨hk,hx⟩;simp only at hk hx⊢;by_cases h1:k<fs.length
 rotate_left
 ·obtain⟨aq,rfl⟩:=arn (i:=k) (n:=fs.length);rw[da,<-a3]at hx;refine gJ bE ?_;simp only[sk,go_sem,aq];refine l4.dA [0,1,2,3,4,5] ?_;rw[hx];simp only[go_sem];simp
 have aq:=aro (i:=k) (n:=fs.length);have az:=b_ al.enc fs k h1;have gz:=oL.1;have hw:=asc (i:=k);have rh:=oL.2 _ (eK h1);have b4:(fs.take (k+1)).foldl ju y=ju x fs[k]:=by
  rw[gO,cy h1,arD,<-hx];rfl
 have mn:bW m x:=by rw[hx];exact Dv (λc f h=>HD h f) _ _ x9
 generalize fs[k]=f at *;refine pR bE 2 ?_;simp only[sk,go_sem,aq];refine HE 2 (sk c (ju x f) fs k) ?_ ?_
 rotate_left
 ·refine gJ bE ?_;simp only[sk,go_sem,hw];refine bt.intro (k+1,ju x f) [0,1,2,3,4,5] ⟨by simp only;omega,b4.symm⟩ (show fs.length-(k+1)<fs.length-k by omega) ?_;simp only[go_sem];simp
 clear b4 hx;have mP:=mn.sz hm;have x_:=DA x.aa f.ax;have l5:aM 29 [.agg (al.enc f)] [.one (.bool (iv f.aY))]:=by apply Fm
 have d':ju x f=if qt x f then eO x (fg (aC x f.ax) f)else x:=rfl
 refine Dz ?_;have hA:qt x f=((bQ x.aa f.ax).2&&iv f.aY):=rfl;rcases m' (eB f.ax) x.aa with ⟨dG,e9⟩|⟨i,hi,dG,e9,f3⟩
 ·have hs:(bQ x.aa f.ax).2=false:=by unfold bQ;rw[e9]
  rw[hs,ap_]at hA;rw[hA,if_neg ξ]at d';rw[dG]at x_;have ak:decide ((-1:Int)<0):=by decide
  have i6:∀b:Bool,(bif !b then true else true)=true:=by intro b;cases b<;>rfl
  refine gJ bE ?_
  try simp only[go_sem,I,aF,az,al.enc]
  repeat'(first|((first|refine af.i ?_|refine av.i ?_|apply bo)<;>simp only[go_sem,i6])|refine⟨ae7,?_⟩|fail)
  refine l4.dA [0,1,2,3,4,5] ?_;rw[d'];simp only[sk,go_sem];simp
 obtain⟨dh,bO,cz⟩:=VG dG hi;obtain⟨aw,dm⟩:∃aw,aw=x.aa[i]:=⟨_,rfl⟩;have pd:aw∈x.aa:=dm▸eK hi;have HF:=b_ ae.enc x.aa i hi;rw[<-dm]at HF bO cz;rw[dh,af_]at hA;rw[hA,bO]at d';rw[dG]at x_;have ak:=bn (p:=(i:Int)<0) ω;have i6:∀b:Bool,(bif !b then true else false)=!b:=by intro b;cases b<;>rfl
 cases na:iv f.aY with
 |false=>
  rw[na,if_neg ξ]at d';rw[na]at l5;refine gJ bE ?_
  try simp only[go_sem,I,aF,az,al.enc]
  repeat'(first|((first|refine af.i ?_|refine av.i ?_|with_reducible apply dp)<;>simp only[go_sem,b7])|refine⟨ae7,?_⟩|fail)
  refine l4.dA [0,1,2,3,4,5] ?_;rw[d'];simp only[sk,go_sem];simp
 |true=>
 rw[na,if_pos rfl]at d';rw[na]at l5;have iL:((x.aa.map ae.enc).take i).length=i:=by rw[arJ,I];omega
 have hlt:i=((x.aa.map ae.enc).take i).length:=iL.symm;obtain⟨Y,og⟩:∃Y,Y=fg aw f:=⟨_,rfl⟩;have cO:Y.id=f.ax:=by rw[og,Fo];exact cz
 have BP:hD m Y:=og▸Ph (mn.i7 aw pd) f;have HG:oh Y=gL Y:=by unfold oh gL;rw[Fp BP.snd.Pl]
 have Fq:aM 88 [.agg (ae.enc Y)] [.one (.bool (gL Y))]:=by
  obtain⟨eP,gl,ke,BQ⟩:=BP.sz hm;rw[<-HG];apply VH<;>first|assumption|omega|(intro fM hc;have:=ke fM hc;omega)
 rw[<-og]at d';have hl:(dv x.aa Y).map ae.enc=(x.aa.map ae.enc).take i++Y.enc::(x.aa.map ae.enc).drop (i+1):=by rw[HH (by rw[cO];exact dG) hi];simp
 refine pR bE 3 ?_
 try simp only[go_sem,I,aF,az,al.enc]
 repeat'(first|((first|refine af.i ?_|refine av.i ?_|with_reducible apply cG)<;>simp only[go_sem,ak,bz])|refine⟨ae7,?_⟩|fail)
 refine DB 2 i ?_;simp only[go_sem,I,HF,ae.enc];refine pR bE 1 ?_
 try simp only[go_sem,aF]
 repeat'(first|refine⟨ae7,?_⟩|fail)
 refine HE 2 (Dw c x fs f k ((dv x.aa Y).map ae.enc)) ?_ ?_
 rotate_left
 ·have pS:=aeZ x f;rw[d']at pS;refine gJ bE ?_;simp only[Dw,go_sem];refine af.inl (ae1 x Y f.ax dG hi cO Fq _ _ _ _ _ _ _ λex=>?_);simp only[go_sem];refine l4.dA [0,1,2,3,4,5] ?_;rw[d'];simp only[sk,pS.1,pS.2,go_sem];simp
 refine pR bE 1 ?_
 try simp only[go_sem]
 refine Pm [4,6,10,12,25,26,27,48] (by simp only[i3,arE,am_,Nat.reduceBEq,Nat.reduceAdd,d4,eF];rfl) ?_;refine Dz ?_;refine gJ bE ?_;obtain⟨dW,cT,dS,eW⟩:=mP.2.1 aw pd;by_cases dK:f.aY=8
 ·have lq:=br (p:=f.aY=8) dK;have a5:fg aw f=fF aw (iw aw.ag (gQ f)):=by unfold fg;rw[if_pos dK]
  have HI:=VI f;have Pn:aM 30 [.agg (aD.enc aw.ag),.agg [.i f.aP,.str f.data,.bool f.aS]] [.agg (aD.enc ((iw aw.ag (gQ f))))]:=ae2 aw.ag (gQ f) ω ω (by show f.data.length<=1048576;omega) (sm mn aw pd);generalize iw aw.ag (gQ f)=dF at *;simp only[go_sem,lq];refine lM _ (mQ (λS σ=>σ=Pk c x fs f k i aw dF S) (N:=11) rfl rfl rfl ?_) ?_
  ·repeat'(first|exact nC|refine nD ?_ ?_)
   all_goals(
    rintro S σ F hl a5 hp hcl rfl bG;obtain⟨jI,dW,cT,dS,eW,nb,nR,nS,nT,qu,xb,rfl⟩:=ae0 hl;simp only[nc,kf,cc]at a5;subst a5;simp[lN,Region.binds]at hp
    repeat(obtain⟨fh,hp⟩:=hp;subst fh)
    try subst hp
    try obtain rfl:=bZ (hcl 0 8 _ rfl ζ rfl)
    try obtain rfl:=bZ (hcl 1 2 _ rfl ζ rfl)
    try obtain rfl:=bZ (hcl 2 3 _ rfl ζ rfl)
    try obtain rfl:=bZ (hcl 3 4 _ rfl ζ rfl)
    try obtain rfl:=bZ (hcl 4 7 _ rfl ζ rfl)
    try obtain rfl:=bZ (hcl 5 6 _ rfl ζ rfl)
    try obtain rfl:=bZ (hcl 6 7 _ rfl ζ rfl)
    try obtain rfl:=bZ (hcl 7 8 _ rfl ζ rfl)
    try obtain rfl:=bZ (hcl 8 9 _ rfl ζ rfl)
    try obtain rfl:=bZ (hcl 9 10 _ rfl ζ rfl)
    simp only[Pk,aK,gm,gh,d4,eF,cx,cv,ix]
    repeat'(first
      |exact bG _ rfl
      |(apply cG)
      |(apply dp)
        |refine⟨ae7,?_⟩
        |(refine⟨⟨hlt,by omega⟩,?_⟩)
        |(refine af.i ?_;simp only[go_sem,I,cx,cv];exact bG _ rfl)
      |simp only[go_sem,I,cx,cv]))
  rintro _ rfl;simp only[Pk,ea,aK,gm,gh,d4,cx,cv];refine l4.close ?_;simp only[go_sem,I]
  try refine au ?_
  refine⟨[0,1,2,3,4,5,6],?_⟩;rw[hl,og.trans a5];simp only[Dw,ae.enc,fF,go_sem];simp
 have lq:=bn (p:=f.aY=8) dK;by_cases aH:f.aY=4
 ·have jv:=br (p:=f.aY=4) aH;have a5:fg aw f={aw with ag:=jJ aw.ag,i4:=if oM aw.ag then false else aw.i4}:=by unfold fg;rw[if_neg dK,if_pos aH]
  have sn:=ae3 aw.ag ω ω (sm mn aw pd);cases hr:oM aw.ag
  ·have AF:jJ aw.ag=aw.ag:=by unfold jJ;rw[hr];rfl
   rw[hr,if_neg ξ,AF]at a5;rw[hr]at sn
   try simp only[go_sem,I,lq,jv,iL]
   repeat'((first|refine af.i ?_|refine av.i ?_)<;>simp only[go_sem,I])
   refine l4.close ?_;simp only[go_sem,I]
   try refine au ?_
   refine⟨[0,1,2,3,4,5,6],?_⟩;rw[hl,og.trans a5];simp only[Dw,ae.enc,go_sem];simp
  rw[hr,if_pos rfl]at a5;rw[hr]at sn;generalize jJ aw.ag=dF at *
  try simp only[go_sem,I,lq,jv,iL]
  repeat'((first|refine af.i ?_|refine av.i ?_)<;>simp only[go_sem,I,iL])
  refine l4.close ?_;simp only[go_sem,I]
  try refine au ?_
  refine⟨[0,1,2,3,4,5,6],?_⟩;rw[hl,og.trans a5];simp only[Dw,ae.enc,go_sem];simp
 have jv:=bn (p:=f.aY=4) aH;by_cases bR:f.aY=5
 ·have rj:=br (p:=f.aY=5) bR;have a5:fg aw f={aw with gK:=false}:=by unfold fg;rw[if_neg dK,if_neg aH,if_pos bR]
  try simp only[go_sem,lq,jv,rj,iL]
  refine l4.close ?_;simp only[go_sem,I]
  try refine au ?_
  refine⟨[0,1,2,3,4,5,6],?_⟩;rw[hl,og.trans a5];simp only[Dw,ae.enc,go_sem];simp
 have rj:=bn (p:=f.aY=5) bR;have a5:fg aw f=aw:=by unfold fg;rw[if_neg dK,if_neg aH,if_neg bR]
 try simp only[go_sem,lq,jv,rj]
 refine l4.close ?_;simp only[go_sem,I]
 try refine au ?_
 refine⟨[0,1,2,3,4,5,6],?_⟩;rw[hl,og.trans a5];simp only[Dw,ae.enc,go_sem];simp
theorem amp(c:J):(nJ c).1=jO c.c7 c.dA c.own.eU:=by
 unfold nJ;cases h:rF c.c7
 ·unfold jO nm;rw[h];rfl
 rfl
theorem abh(a:d9)(t:Bool):(h4 a t).1=lj a:=by
 unfold h4;cases h:AS a
 ·unfold lj rG;rw[h];rfl
 rfl
def Bx(c:J)(s:ae)(k:Int):ae:=
 if k=4 then {s with i4:=false}else if k=5 then {s with gK:=false}else if k=17 then {s with bL:=jO s.bL c.dA c.own.eU,k_:=false}else if k=21 then {s with cL:=lY s.cL}else s
theorem amq{c:J}{s:ae}{k:Int}(h:k=17->sE s):Bx c s k=jT c s k:=by
 unfold Bx jT;by_cases mf:k=17
 ·subst mf;have hg:=h rfl;have:(if(m0 c s).2 then(m0 c s).1 else s.bL)=jO s.bL c.dA c.own.eU:=by
   unfold m0;rw[if_pos hg];cases hm:rF s.bL
   ·have:jO s.bL c.dA c.own.eU=s.bL:=by unfold jO nm;rw[hm];rfl
    rw[this];cases s.k_<;>rfl
   simp only[if_true];cases hr:nm s.bL c.dA c.own.eU
   ·unfold jO;rw[hr];rfl
   rfl
  simp only[this]
 ·rw[if_neg mf,if_neg mf]
theorem amr(c:J)(s:ae)(k:Int):(Bx c s k).ag=s.ag/\(Bx c s k).aU=s.aU/\(Bx c s k).id=s.id:=by
 unfold Bx
 repeat' split
 all_goals exact⟨rfl,rfl,rfl⟩
theorem anE(c:J)(s:ae)(k:Int):sE (jT c s k)=sE s:=by
 unfold jT
 repeat' split
 all_goals rfl
theorem aci:∀{l:List ae},(l.map λs=>s.id).Pairwise (·<·)->∀{s:ae},s∈l->bQ l s.id=(s,true)
 |[],_,_,hs=>by cases hs
 |x::l,h,s,hs=>by
  rw[fe,ag_]at h;rw[BG];rcases rD.1 hs with rfl|hs
  ·rw[if_pos rfl]
  have:=h.1 s.id (List.mem_map_of_mem hs);rw[if_neg ω];exact aci h.2 hs
def D_(x:J)(f:al):Prop:=kindOk f.aY/\f.aY≠8/\(f.aY=17->sE (aC x f.ax)=true)
theorem ahF{x:J}{g:al}(h:D_ x g)(f:al):D_ (iU x f) g:=by
 refine⟨h.1,h.2.1,λhk=>?_⟩;have h2:=h.2.2 hk;unfold iU
 repeat' split
 all_goals first
  |exact h2
  |skip
 rename_i hf;unfold aC lE;rw[Kp];split
 ·rename_i he;have he:(jT x (aC x f.ax) f.aY).id=g.ax:=he;rw[(Cf _ _ _).2.2,kb hf]at he
  show sE (jT x (aC x f.ax) f.aY)=true
  rw[anE,he];exact h2
 exact h2
theorem ahC{c:J}(h:fo c):∀f∈fc c,D_ c f:=by
 intro f hf;unfold fc at hf;split at hf
 ·simp only[e7,ED,EE]at hf;have u:∀(k l:Int) (u:Bool),kindOk k->k≠8->k≠17->f=fV k l u->D_ c f:=λk l u o a b e=>by subst e;exact⟨o,a,λg=>absurd g b⟩
  rcases hf with (((hf|hf)|hf)|hf)|((hf|hf)|hf)
  all_goals first
   |(split at hf
     ·exact u _ _ _ rfl ζ ζ (jn.1 hf)
     cases hf)
   |skip
  obtain⟨s,hs,hf⟩:=asK.1 hf;have aE:aC c s.id=s:=by unfold aC;rw[aci h.hH hs]
  simp only[gD,e7]at hf;rcases hf with ((hf|hf)|hf)|hf
  ·unfold jP at hf;split at hf
   ·rw[jn.1 hf];exact⟨rfl,(λg=>by cases g),λg=>by cases g⟩
   cases hf
  ·unfold l_ at hf;split at hf
   ·rw[jn.1 hf];exact⟨rfl,(λg=>by cases g),λg=>by cases g⟩
   cases hf
  ·unfold mZ at hf;split at hf
   ·rename_i hw;rw[jn.1 hf];refine⟨rfl,(λg=>by cases g),λ_=>?_⟩
    show sE (aC c s.id)=true
    rw[aE];unfold m0 at hw;split at hw
    ·assumption
    cases hw
   cases hf
  unfold p1 at hf;split at hf
  ·rw[jn.1 hf];exact⟨rfl,(λg=>by cases g),λg=>by cases g⟩
  cases hf
 cases hf
def abc:List (List bK):=cB 10 [56501,56499,56533,56515,56821,56659,56133,57955,52488,39366]
attribute [go_sem] abc
def EK(c:J)(f:al)(aw e:ae)(i:Nat):List H:=[.box (J.bx c),.box (al.bx f),.box J.ca,.h3 39 ((c.aa.map ae.enc).take i) (ae.a2 e (.sl 6 0 aw.ag.aB.cells.length) (.sl 7 0 aw.ag.bC.length) (.sl 8 0 aw.ag.bc.length) (.sl 9 0 aw.ag.bJ.length) (.sl 10 0 aw.aU.bT.cq.length)) ((c.aa.map ae.enc).drop (i+1)),.aj 2 (c.ai.map aL.enc),.azG c 3 4,.azu aw.ag.aB.cells,.azv aw.ag.bC,.azv aw.ag.bc,.azv aw.ag.bJ,.ay 2 (aw.aU.bT.cq.map aR.enc) true]
theorem amm{S:List Bool}(h:S.length=21):∃fE cA db c0 eo fr fQ f_ gk gP ib nF nG qx qy qz ya DC DD DE DF,S=[fE,cA,db,c0,eo,fr,fQ,f_,gk,gP,ib,nF,nG,qx,qy,qz,ya,DC,DD,DE,DF]:=by
 match S,h with|[fE,cA,db,c0,eo,fr,fQ,f_,gk,gP,ib,nF,nG,qx,qy,qz,ya,DC,DD,DE,DF],_=>exact⟨fE,cA,db,c0,eo,fr,fQ,f_,gk,gP,ib,nF,nG,qx,qy,qz,ya,DC,DD,DE,DF,rfl⟩
def Tq(c:J)(f:al)(aw:ae)(i:Nat)(k:Int)(S:List Bool):St:=⟨(.ptr 5 0 0::.ptr 3 i 0::.i k::aA 3 (.i k::.d (.bool false)::.d (.bool false)::aA 3 (.d (.bool false)::.d (.bool false)::aA 3 (.d (.bool true)::.d (.bool true)::(aK S 15 (.e8 [.agg (ej.bx (jO aw.bL c.dA c.own.eU)),.d (.bool (nm aw.bL c.dA c.own.eU))]))::(aK S 0 (.ptr 3 i 0))::(aK S 1 (.ptr 3 i 0))::(aK S 2 (.ptr 3 i 0))::(aK S 3 (.ptr 3 i 23))::(aK S 4 (.agg (ej.bx aw.bL)))::(aK S 5 (.ptr 5 0 0))::(aK S 6 (.ptr 5 0 0))::(aK S 7 (.ptr 5 0 48))::(aK S 8 (.i c.dA))::(aK S 9 (.ptr 5 0 0))::(aK S 10 (.ptr 5 0 0))::(aK S 11 (.ptr 5 0 1))::(aK S 12 (.ptr 5 0 8))::(aK S 13 (.i c.own.eU))::(aK S 14 (.e8 [.agg (ej.bx (jO aw.bL c.dA c.own.eU)),.d (.bool (nm aw.bL c.dA c.own.eU))]))::(aK S 16 (.agg (ej.bx (jO aw.bL c.dA c.own.eU))))::(aK S 17 (.d (.bool (nm aw.bL c.dA c.own.eU))))::(aK S 18 (.ptr 3 i 0))::(aK S 19 (.ptr 3 i 23))::aA 13 [])))),EK c f aw {aw with bL:=(bif S.getD 20 false then jO aw.bL c.dA c.own.eU else aw.bL)} i⟩
theorem amn(c:J)(f:al)(aw:ae)(i:Nat)(k:Int)(hi:i<c.aa.length)(kv:List V)(K:V->List H->Prop)(cg:K (.e8 []) (EK c f aw (Bx c aw k) i)):et prog 247 kv (EK c f aw aw i) [.ptr 5 0 0,.ptr 3 i 0,.i k] K:=by
 have hlt:i=((c.aa.map ae.enc).take i).length:=by rw[arJ,I];omega
 refine(gi (n:=52) (rs:=[]) func247 rfl call247 bE rfl rfl ?_);unfold Bx at cg;simp only[go_sem,EK];cases il:decide (k=4)
 ·rw[if_neg (de il)]at cg;simp only[go_sem];cases ka:decide (k=5)
  ·rw[if_neg (de ka)]at cg;simp only[go_sem];cases abd:decide (k=17)
   ·rw[if_neg (de abd)]at cg;simp only[go_sem];cases abe:decide (k=21)
    ·rw[if_neg (de abe)]at cg;simp only[go_sem];exact cg
    rw[if_pos (cY abe)]at cg
    try simp only[go_sem]
    repeat'(first|(refine af.intro (by apply abf) ?_<;>simp only[go_sem])|refine⟨ae7,?_⟩|fail)
    first|exact cg|exact⟨hlt,cg⟩
   rw[if_pos (cY abd)]at cg;have sn:aM 243 [.agg (ej.enc aw.bL),.one (.i c.dA),.one (.i c.own.eU)] [.agg (ej.enc ((jO aw.bL c.dA c.own.eU))),.one (.bool (nm aw.bL c.dA c.own.eU))]:=Qg _ _ _ _ _ _ _ _;simp only[go_sem];refine lM _ (mQ (λS σ=>σ=Tq c f aw i k S) (N:=21) rfl rfl rfl ?_) ?_
   ·repeat'(first|exact nC|refine nD ?_ ?_)
    all_goals(
     rintro S σ F hl a5 hp hcl rfl bG;obtain⟨jI,dW,cT,dS,eW,nb,nR,nS,nT,qu,xb,DG,DH,Fu,Fv,Fw,HN,K7,K8,K9,K_,rfl⟩:=amm hl;simp only[nc,kf,cc]at a5;subst a5;simp[lN,Region.binds]at hp
     repeat(obtain⟨fh,hp⟩:=hp;subst fh)
     try subst hp
     try obtain rfl:=bZ (hcl 0 18 _ rfl ζ rfl)
     try obtain rfl:=bZ (hcl 1 2 _ rfl ζ rfl)
     try obtain rfl:=bZ (hcl 2 3 _ rfl ζ rfl)
     try obtain rfl:=bZ (hcl 3 4 _ rfl ζ rfl)
     try obtain rfl:=bZ (hcl 4 14 _ rfl ζ rfl)
     try obtain rfl:=bZ (hcl 5 6 _ rfl ζ rfl)
     try obtain rfl:=bZ (hcl 6 7 _ rfl ζ rfl)
     try obtain rfl:=bZ (hcl 7 8 _ rfl ζ rfl)
     try obtain rfl:=bZ (hcl 8 14 _ rfl ζ rfl)
     try obtain rfl:=bZ (hcl 9 10 _ rfl ζ rfl)
     try obtain rfl:=bZ (hcl 10 11 _ rfl ζ rfl)
     try obtain rfl:=bZ (hcl 11 12 _ rfl ζ rfl)
     try obtain rfl:=bZ (hcl 12 13 _ rfl ζ rfl)
     try obtain rfl:=bZ (hcl 13 14 _ rfl ζ rfl)
     try obtain rfl:=bZ (hcl 14 15 _ rfl ζ rfl)
     try obtain rfl:=bZ (hcl 15 16 _ rfl ζ rfl)
     try obtain rfl:=bZ (hcl 15 17 _ rfl ζ rfl)
     try obtain rfl:=bZ (hcl 16 18 _ rfl ζ rfl)
     try obtain rfl:=bZ (hcl 18 19 _ rfl ζ rfl)
     try obtain rfl:=bZ (hcl 19 20 _ rfl ζ rfl)
     simp only[Tq,EK,aK,gm,gh,d4,eF]
     repeat'(first
       |exact bG _ rfl
       |refine⟨ae7,?_⟩
       |exact hlt
       |(refine af.intro sn ?_)
       |simp only[go_sem,cx,cv]))
   rintro _ rfl;simp only[Tq,EK,ea,aK,gm,gh,d4];simp only[go_sem]
   first|exact cg|exact⟨hlt,cg⟩
  rw[if_pos (cY ka)]at cg
  try simp only[go_sem]
  repeat'(first|refine⟨ae7,?_⟩|fail)
  first|exact cg|exact⟨hlt,cg⟩
 rw[if_pos (cY il)]at cg
 try simp only[go_sem]
 repeat'(first|refine⟨ae7,?_⟩|fail)
 exact cg
theorem abg{k:Int}(h:iv k):k=4\/k=5\/k=8\/k=17\/k=21:=by
 simpa [iv,or_assoc]using h
theorem ahG(c:J)(f:al)(hz:gZ c)(bB:∀s∈c.aa,ov s.ag)(ht:D_ c f):aM 191 [.agg (J.enc c),.agg (al.enc f)] [.agg (J.enc ((iU c f)))]:=by
 refine m_ 86 func191 call191 [.cell 4 37] ?_;intro ok;clear ok;have lL:=lo hz;have Q0:=HY c ω;have G4:=DA c.aa f.ax;have By:=B0 c hz;rw[<-AQ bB]at By;obtain⟨l7,ayK,amo⟩:=ht;have xM:ew c->iU c f=if f.aY=16 then {c with c7:=jO c.c7 c.dA c.own.eU,p2:=false}
   else if f.aY=18 then(if f.fG then {c with dC:=lj c.dC,mB:=false}else {c with dB:=lj c.dB,mA:=false})
   else if f.aY=20 then {c with cn:=lY c.cn}
   else if f.aY=22 then(if f.fG then {c with eZ:={c.eZ with blocked:=-1}}else {c with eY:={c.eY with blocked:=-1}})
   else if(bQ c.aa f.ax).2 then lE c (jT c (aC c f.ax) f.aY)else c:=λh=>by
  unfold iU;rw[if_pos h,amp,abh,abh]
 refine eE bE 3 (α:=Unit) (λ_=>⟨(.an::.an::.ptr 0 0 0::.ptr 1 0 0::.ptr 2 0 0::.ptr 5 0 0::.i (g2 (eB f.ax) c.aa)::aA 79 []),[.box (J.bx c),.box (al.bx f),.box J.ca,.aj 39 (c.aa.map ae.enc),.aj 2 (c.ai.map aL.enc),.azG c 3 4]⟩) (λ_=>ew c/\(iv f.aY->¬g2 (eB f.ax) c.aa<0)) ?_ ?_
 ·skip
  try simp only[go_sem]
  repeat'((first|refine af.j ?_|refine av.aj (by first|assumption|apply Fm) ?_|apply bo|refine a7 abc χ ψ ?_)<;>simp only[go_sem,I])
  cases aE:ew c
  ·have ah:iU c f=c:=by unfold iU;rw[aE];rfl
   simp only[go_sem,I,b7,d4];simp[ah]
  have ah:=xM aE;cases hA:iv f.aY
  ·simp only[go_sem,bz,eF];refine cZ.intro () [0,1,2,3,4,5] ξ ?_;simp only[go_sem];simp
  cases hx:decide (g2 (eB f.ax) c.aa<0)
  ·simp only[go_sem,bz,eF,d4];refine cZ.intro () [0,1,2,3,4,5] (by have:=de hx;first|exact this|simpa using this) ?_;simp only[go_sem];simp
  have hs:(bQ c.aa f.ax).2=false:=by
   rcases m' (eB f.ax) c.aa with ⟨h1,h2⟩|⟨i,hi,h1,h2,ao⟩
   ·unfold bQ;rw[h2]
   have:=cY hx;omega
  have hk:=abg hA;rw[if_neg ω,if_neg ω,if_neg ω,if_neg ω,hs]at ah;simp only[go_sem,I,bz,eF,d4];simp[ah]
 rintro _ ⟨aE,G5⟩;have ah:=xM aE;cases hA:iv f.aY
 ·have hk:f.aY=16\/f.aY=18\/f.aY=20\/f.aY=22:=by
   rcases Mi l7 with h|h|h|h|h|h|h|h|h<;>first|omega|(exfalso;rw[h]at hA;exact absurd hA ζ)
  refine gJ bE ?_;simp only[go_sem];cases Kb:decide (f.aY=16)
  ·rw[if_neg (de Kb)]at ah;simp only[go_sem];cases Kc:decide (f.aY=18)
   ·rw[if_neg (de Kc)]at ah;simp only[go_sem];cases Kd:decide (f.aY=20)
    ·have NN:=br (p:=f.aY=22) (by have:=de Kb;have:=de Kc;have:=de Kd;omega);rw[if_neg (de Kd),if_pos (cY NN)]at ah;simp only[go_sem,NN];cases hu:f.fG
     ·rw[hu]at ah
      try simp only[go_sem,I]
      refine af.inl (gi (n:=12) (rs:=[.tmp 4]) func246 rfl call246 bE rfl rfl ?_);simp only[go_sem,I]
      try simp only[go_sem,I,hu]
      repeat'(first|refine⟨ae7,?_⟩|fail)
      simp[ah]
     rw[hu]at ah
     try simp only[go_sem,I]
     refine af.inl (gi (n:=12) (rs:=[.tmp 4]) func246 rfl call246 bE rfl rfl ?_);simp only[go_sem,I]
     try simp only[go_sem,I,hu]
     repeat'(first|refine⟨ae7,?_⟩|fail)
     simp[ah]
    rw[if_pos (cY Kd)]at ah
    try simp only[go_sem]
    repeat'(first|((first|refine af.aj (by first|assumption|apply abf) ?_|refine av.j ?_)<;>simp only[go_sem,I])|refine⟨ae7,?_⟩|fail)
    simp[ah]
   rw[if_pos (cY Kc)]at ah;simp only[go_sem];cases hu:f.fG
   ·rw[hu]at ah
    try simp only[go_sem]
    repeat'(first|((first|refine af.aj (by first|assumption|apply Qh) ?_|refine av.j ?_)<;>simp only[go_sem,I])|refine⟨ae7,?_⟩|fail)
    simp[ah]
   rw[hu]at ah
   try simp only[go_sem]
   repeat'(first|((first|refine af.aj (by first|assumption|apply Qh) ?_|refine av.j ?_)<;>simp only[go_sem,I])|refine⟨ae7,?_⟩|fail)
   simp[ah]
  rw[if_pos (cY Kb)]at ah
  try simp only[go_sem]
  repeat'(first|((first|refine af.aj (by first|assumption|apply Qg) ?_|refine av.j ?_)<;>simp only[go_sem,I])|refine⟨ae7,?_⟩|fail)
  simp[ah]
 have hk:=abg hA;have Kb:=bn (p:=f.aY=16) ω;have Kc:=bn (p:=f.aY=18) ω;have Kd:=bn (p:=f.aY=20) ω;have NN:=bn (p:=f.aY=22) ω;rw[if_neg ω,if_neg ω,if_neg ω,if_neg ω]at ah;rcases m' (eB f.ax) c.aa with ⟨h1,h2⟩|⟨i,hi,h1,h2,ao⟩
 ·have:=G5 hA;omega
 obtain⟨aw,dm⟩:∃aw,aw=c.aa[i]:=⟨_,rfl⟩;have hm:aw∈c.aa:=dm▸eK hi;have az:=b_ ae.enc c.aa i hi;rw[<-dm]at az;have Cl:aC c f.ax=aw:=by rw[dm];exact FI h1 hi
 have cO:aw.id=f.ax:=by rw[dm];exact H2 h1 hi
 have hs:(bQ c.aa f.ax).2:=by unfold bQ;rw[h2]
 rw[hs,if_pos rfl,Cl,<-amq (λg=>by have:=amo g;rwa [Cl]at this)]at ah;obtain⟨gB,gC,lr⟩:=amr c aw f.aY;have cF:=PZ (Y:=Bx c aw f.aY) h1 hi (lr.trans cO);simp only[ae.enc,gB,gC]at cF;rw[h1];refine DB 3 i ?_;simp only[go_sem,I,az,ae.enc];refine pR bE 1 ?_;simp only[go_sem,Kb,Kc,Kd,NN]
 try simp only[go_sem,I,hA]
 repeat'((first|refine af.intro (by first|assumption|apply Fm) ?_|refine av.i ?_)<;>simp only[go_sem,hA])
 have hlt:i=((c.aa.map ae.enc).take i).length:=by rw[arJ,I];omega
 apply L2;(focus ((repeat'(first|exact F6|(refine F7 ?_ ?_)|(refine L3 rfl ?_)|(refine L4 rfl ?_)|(refine af.inl (amn c f aw i f.aY hi _ _ ?_))|refine⟨ae7,?_⟩|(simp only[go_sem,g9,EK,aF])));all_goals exact rfl));simp only[go_sem];refine abi 3 ?_;simp only[go_sem,I];refine au ?_;refine gJ bE ?_;have bu:(c.aa.length<=((c.aa.map ae.enc).take i).length+(((c.aa.map ae.enc).drop (i+1)).length+1))=True:=eq_true (by rw[arJ,ar_,I];omega)
 try simp only[go_sem,I,bu,if_true]
 repeat'(first|refine⟨ae7,?_⟩|fail)
 rw[ah];simp only[lE,gB,gC,cF]
theorem TT{α:Type}{P:List α->Prop}(h0:P [])(h1:∀l x,P l->P (l++[x]))(l:List α):P l:=by
 have key:∀r:List α,P r.reverse:=by
  intro r
  induction r with
  |nil=>exact h0
  |cons x r c_=>rw[List.reverse_cons];exact h1 _ _ c_
 have:=key l.reverse
 rwa [List.reverse_reverse]at this
theorem ace{α:Type}{p q:α->Bool}:∀{l:List α},(∀x∈l,p x=q x)->l.find? p=l.find? q
 |[],_=>rfl
 |x::l,h=>by rw[atV,atV,h x ξ,ace (l:=l) λy hy=>h y (by simp[hy])]
def gI(l:List ch):Int:=l.foldl (λm c=>cu m c.cI.ei) 7
def iu(l:List ch):List ch:=l.filter λc=>decide (c.cI.ei=gI l)
def C9(l:List ch)(dw:Int):Int:=if l=[]\/mm l=false then -1 else match l.find? (λc=>decide (dw<c.id))with|some c=>c.id|none=>(l[0]?.getD (⟨0,⟨0,false⟩⟩:ch)).id
def ER(l:List ch)(dw:Int):Int:=if l=[]\/mm l=false then -1 else match(iu l).find? (λc=>!c.cI.ic)with|some c=>c.id|none=>C9 (iu l) dw
theorem anz(l:List ch):mm l=xl (λc=>c.id) (λc=>bN c.id&&mJ c.cI) l:=rfl
theorem acf{l:List ch}:mm l↔(∀c∈l,bN c.id/\mJ c.cI=true)/\(l.map λc=>c.id).Pairwise (·<·):=by
 rw[anz,Hf];simp only[bm]
theorem Ko(l:List ch)(c:ch):gI (l++[c])=cu (gI l) c.cI.ei:=by
 unfold gI;rw[arD];rfl
theorem anA:∀(l:List ch),gI l<=7/\∀c∈l,gI l<=c.cI.ei:=by
 intro l;refine TT (P:=λl=>gI l<=7/\∀c∈l,gI l<=c.cI.ei) ⟨atA 7,λc hc=>by cases hc⟩ (λl c c_=>?_) l;rw[Ko];refine⟨by unfold cu;split<;>omega,λd hd=>?_⟩;rcases e7.1 hd with hd|hd
 ·have:=c_.2 d hd;unfold cu;split<;>omega
 rw[jn.1 hd];unfold cu;split<;>omega
theorem acg:∀(l:List ch),(∀c∈l,c.cI.ei<=7)->l≠[]->oI l=(gI l,(iu l).map λc=>c.id):=by
 intro l;refine TT (P:=λl=>(∀c∈l,c.cI.ei<=7)->l≠[]->oI l=(gI l,(iu l).map λc=>c.id)) (λ_ h=>absurd rfl h) (λl c c_=>?_) l;intro h _;have hc:=h c ξ;have hl:∀d∈l,d.cI.ei<=7:=λd hd=>h d (by simp[hd]);have bu:=anA l;have e:oI (l++[c])=q7 (oI l) c:=by unfold oI;rw[arD];rfl
 have hu:iu (l++[c])=(l.filter λd=>decide (d.cI.ei=cu (gI l) c.cI.ei))++(if c.cI.ei=cu (gI l) c.cI.ei then [c]else []):=by
  unfold iu;rw[asG,Ko,atg,List.filter_nil]
  congr 1
  by_cases hh:c.cI.ei=cu (gI l) c.cI.ei
  ·rw[if_pos hh,if_pos (br hh)]
  rw[if_neg hh,if_neg (by simpa using hh)]
 rw[e,Ko,hu];by_cases hn:l=[]
 ·subst hn;have c3:oI []=(8,[]):=rfl;rw[c3];have Ey:gI []=7:=rfl;have em:cu 7 c.cI.ei=c.cI.ei:=by unfold cu;split<;>omega
  rw[Ey,em,if_pos rfl];unfold q7;rw[if_pos (by simp only;omega)];rfl
 rw[c_ hl hn];unfold q7;simp only;by_cases h1:c.cI.ei<gI l
 ·have em:cu (gI l) c.cI.ei=c.cI.ei:=by unfold cu;rw[if_pos h1]
  rw[if_pos h1,em,if_pos rfl];have TU:(l.filter λd=>decide (d.cI.ei=c.cI.ei))=[]:=by
   rw[aum];intro d hd;have:=bu.2 d hd;simp only[bH];omega
  rw[TU];rfl
 have em:cu (gI l) c.cI.ei=gI l:=by unfold cu;rw[if_neg h1]
 rw[if_neg h1,em];by_cases h2:c.cI.ei=gI l
 ·rw[if_pos h2,if_pos h2,List.map_append];rfl
 rw[if_neg h2,if_neg h2,ix];rfl
theorem anB:∀(l:List ch),(∀c∈l,c.cI.ei<=7)->l≠[]->∃c∈l,c.cI.ei=gI l:=by
 intro l;refine TT (P:=λl=>(∀c∈l,c.cI.ei<=7)->l≠[]->∃c∈l,c.cI.ei=gI l) (λ_ h=>absurd rfl h) (λl c c_=>?_) l;intro dd _;rw[Ko];by_cases h0:l=[]
 ·subst h0;refine⟨c,by simp,?_⟩;have:=dd c ξ;have Ey:gI []=7:=rfl;rw[Ey];unfold cu;split<;>omega
 by_cases h1:c.cI.ei<gI l
 ·exact⟨c,by simp,by unfold cu;rw[if_pos h1]⟩
 obtain⟨d,hd,e⟩:=c_ (λd hd=>dd d (by simp[hd])) h0;exact⟨d,by simp[hd],by unfold cu;rw[if_neg h1];exact e⟩
theorem anC{l:List ch}(h:(l.map λc=>c.id).Pairwise (·<·)){a b:ch}(ha:a∈l)(hb:b∈l)(e:a.id=b.id):a=b:=by
 induction l with
 |nil=>cases ha
 |cons x l c_=>
  rw[fe,ag_]at h;rcases rD.1 ha with h1|h1<;>rcases rD.1 hb with h2|h2
  ·rw[h1,h2]
  ·have:=h.1 _ (aa_.2 ⟨b,h2,rfl⟩);rw[h1]at e;omega
  ·have:=h.1 _ (aa_.2 ⟨a,h1,rfl⟩);rw[h2]at e;omega
  exact c_ h.2 h1 h2
theorem ach:∀{m:List Int} {x:Int},m.Pairwise (·<·)->x∈m->(m.filter λy=>decide (y=x))=[x]
 |y::m,x,h,hx=>by
  rw[ag_]at h;rw[atg];by_cases e:y=x
  ·subst e;rw[if_pos ξ];have:(m.filter λz=>decide (z=y))=[]:=by
    rw[aum];intro z hz;have:=h.1 z hz;simp only[bH];omega
   rw[this]
  ·rw[if_neg (by simpa using e)];rcases rD.1 hx with hx|hx
   ·exact absurd hx.symm e
   exact ach h.2 hx
theorem anD{m:List Int}{x:Int}(hx:x∉m):(m.filter λy=>decide (y=x))=[]:=by
 rw[aum];intro z hz;simp only[bH];rintro rfl;exact hx hz
theorem ahN(l:List ch)(dw:Int):ER l dw=zL l dw:=by
 unfold ER zL;by_cases h:l=[]\/mm l=false
 ·rw[if_pos h];have hm:r2 l=[]:=by
   rcases h with rfl|h
   ·rfl
   unfold r2;rw[h];rfl
  rw[hm];have h1:l.find? (r7 [])=none:=by
   rw[asF];intro c _;simp[r7]
  have h2:pJ [] l=[]:=by simp[pJ]
  rw[h1,h2];rfl
 ·rw[if_neg h];have hn:l≠[]:=λe=>h (.inl e);have ha:mm l:=by cases hh:mm l with|true=>rfl|false=>exact absurd (.inr hh) h
  obtain⟨k1,k2⟩:=acf.1 ha;have dd:∀c∈l,c.cI.ei<=7:=λc hc=>by
   have:=(k1 c hc).2;simp only[mJ,cd,bm,bH]at this;omega
  have hm:r2 l=(iu l).map λc=>c.id:=by unfold r2;rw[ha,if_pos rfl,acg l dd hn]
  have CQ:(iu l).Sublist l:=auB;have yK:∀c∈l,(c.id∈(iu l).map λc=>c.id)↔c∈iu l:=λc hc=>by
   constructor
   ·intro hx;obtain⟨d,hd,e⟩:=aa_.1 hx;rw[<-anC k2 (CQ.subset hd) hc e];exact hd
   intro hx;exact aa_.2 ⟨c,hx,rfl⟩
  have n8:((iu l).map λc=>c.id).Pairwise (·<·):=k2.sublist (CQ.map _);rw[hm];have h1:l.find? (r7 ((iu l).map λc=>c.id))=(iu l).find? λc=>!c.cI.ic:=by
   unfold iu;rw[List.find?_filter];apply ace;intro c hc;have:=yK c hc;simp only[r7];have hu:c∈iu l↔c.cI.ei=gI l:=by unfold iu;simp[hc]
   have Oo:(((l.filter λc=>decide (c.cI.ei=gI l)).map λc=>c.id).any λx=>decide (x=c.id))=decide (c.cI.ei=gI l):=by
    rw[asa,asX,bH,<-hu,<-this];constructor
    ·rintro⟨x,hx,e⟩;rw[bH]at e;rw[<-e];exact hx
    intro hx;exact⟨_,hx,by simp⟩
   rw[Oo,aAx];generalize decide (c.cI.ei=gI l)=b;cases b<;>cases c.cI.ic<;>simp
  have h2:pJ ((iu l).map λc=>c.id) l=(iu l).map λc=>c.id:=by
   have key:∀(m9:List ch),(∀c∈m9,c∈l)->m9.flatMap (λc=>((iu l).map λc=>c.id).filter λx=>decide (x=c.id))=(m9.filter λc=>decide (c.cI.ei=gI l)).map λc=>c.id:=by
    intro m9
    induction m9 with
    |nil=>intro _;rfl
    |cons c m9 c_=>
     intro hs;have hc:=hs c ξ;rw[arM,c_ λd hd=>hs d (by simp[hd]),atg];have hu:c∈iu l↔c.cI.ei=gI l:=by unfold iu;simp[hc]
     by_cases e:c.cI.ei=gI l
     ·rw[if_pos (by simpa using e),ach n8 ((yK c hc).2 (hu.2 e))];rfl
     rw[if_neg (by simpa using e),anD λhx=>e (hu.1 ((yK c hc).1 hx))];rfl
   exact key l λc hc=>hc
  rw[h1,h2];cases X_:(iu l).find? (λc=>!c.cI.ic)with
  |some c=>rfl
  |none=>
   simp only;unfold C9;have hne:iu l≠[]:=λe=>by
    have ao:=congrArg asy h2;have:oI l=(gI l,[]):=by rw[acg l dd hn,e];rfl
    have n':∃c∈l,c.cI.ei=gI l:=by
     exact anB l dd hn
    obtain⟨c,hc,abM⟩:=n';have:c∈iu l:=by unfold iu;simp[hc,abM]
    rw[e]at this;cases this
   have TF:mm (iu l):=acf.2 ⟨λc hc=>k1 c (CQ.subset hc),n8⟩;rw[if_neg (by rw[TF];simp[hne])];unfold z';rw[List.find?_map];have hf:((iu l).find? ((λx=>decide (dw<x))∘λc=>c.id))=(iu l).find? λc=>decide (dw<c.id):=rfl;rw[hf]
   cases(iu l).find? λc=>decide (dw<c.id)with
   |some c=>rfl
   |none=>
    simp only[Option.map_none]
    cases hq:iu l with
    |nil=>exact absurd hq hne
    |cons d m9=>rfl
end Gv
