/-
  Part of the proof: the machine, what functions compute, and the plain laws.
-/
import Derived.Test.YtadnpafpbheedaaGreatM04
set_option maxHeartbeats 80000000
set_option maxRecDepth 100000
namespace Gv
open Go Go.Proofs Tryz IntKind
theorem Rw{S:List Bool}(h:S.length=9):∃e8 cB cJ ct eA fb fs fT gK,S=[e8,cB,cJ,ct,eA,fb,fs,fT,gK]:=by
 match S,h with|[e8,cB,cJ,ct,eA,fb,fs,fT,gK],_=>exact⟨e8,cB,cJ,ct,eA,fb,fs,fT,gK,rfl⟩
theorem Rx{S:List Bool}(h:S.length=10):∃e8 cB cJ ct eA fb fs fT gK g2,S=[e8,cB,cJ,ct,eA,fb,fs,fT,gK,g2]:=by
 match S,h with|[e8,cB,cJ,ct,eA,fb,fs,fT,gK,g2],_=>exact⟨e8,cB,cJ,ct,eA,fb,fs,fT,gK,g2,rfl⟩
theorem M6{S:List Bool}(h:S.length=11):∃e8 cB cJ ct eA fb fs fT gK g2 iF,S=[e8,cB,cJ,ct,eA,fb,fs,fT,gK,g2,iF]:=by
 match S,h with|[e8,cB,cJ,ct,eA,fb,fs,fT,gK,g2,iF],_=>exact⟨e8,cB,cJ,ct,eA,fb,fs,fT,gK,g2,iF,rfl⟩
def jr(y:aa):List H:=[.ah 39 (y.ab.map af.enc) true,.ah 2 (y.an.map aT.enc) true]
def jb(y:aa)(a:Nat):V:=.agg (aa.aG y (.sl a 0 y.ab.length) (.sl (a+1) 0 y.an.length))
def LS(K:V→List H→Prop):V→List H→Prop:=fun x hs'=>K x hs'∨∃id sz xs,a5 hs' id=.aj sz xs∧K x (cO hs' id (.ah sz xs true))
theorem yz{kv:List V}(bJ:bk 5 kv)(y:aa)(a:Nat)(ha:5≤a){bb c bX bu bS:H}(hq:dB 5 [bb,c,bX,bu,bS]){ex:List H}{K:V→List H→Prop}(ag:a5 (bb::c::bX::bu::bS::ex) a=.aj 39 (y.ab.map af.enc))(ar:a5 (bb::c::bX::bu::bS::ex) (a+1)=.aj 2 (y.an.map aT.enc))
  (cd:K (jb y 5) ([bb,c,bX,bu,bS]++jr y)):oW kv (LS (LS K)) (jb y a) (bb::c::bX::bu::bS::ex):=by
 refine⟨List.range 5++[a,a+1],jb y 5,[bb,c,bX,bu,bS]++[H.aj 39 (y.ab.map af.enc),H.aj 2 (y.an.map aT.enc)],?_,Or.inr ⟨5,39,_,rfl,Or.inr ⟨6,2,_,rfl,cd⟩⟩⟩;refine BD (hs:=[bb,c,bX,bu,bS]) (ex:=ex) [a,a+1] ξ (by simp;omega) hq ?_ (by simp[lV,hok]) bJ ?_ ?_
 ·simp only[bz,bx,hsees,ag,ar];simp[hsee]
 ·simp[jb,vsees,vsee,ren,rens,List.range,List.range.loop]
 ·simp[jb,bk,vok]
theorem Ry{kv:List V}(bJ:bk 5 kv)(x:aa){bb c bX bu bS:H}(hq:dB 5 [bb,c,bX,bu,bS]){ex:List H}{K:V→List H→Prop}(cd:K (jb x 5) ([bb,c,bX,bu,bS]++jr x)) :
  oW kv (LS (LS K)) (jb x 5) (bb::c::bX::bu::bS::.ah 39 (x.ab.map af.enc) true::.ah 2 (x.an.map aT.enc) true::ex):=by
 have hr:dB 7 ([bb,c,bX,bu,bS]++jr x):=Fk (BO (m:=5) (n:=7) ω hq) (by simp[jr,dB,cA]);refine⟨List.range 7,jb x 5,[bb,c,bX,bu,bS]++jr x,?_,Or.inl (Or.inl cd)⟩;refine zS (hs:=[bb,c,bX,bu,bS]++jr x) (ex:=ex) hr (ly (by simp[jr]) _ bJ) ?_ ?_
 ·simp[jb,jr,vsees,vsee,ren,rens,List.range,List.range.loop]
 ·simp[jb,jr,bk,vok]
def Ii(bb c bX bu bS:H)(x:aa):List H:=[bb,c,bX,bu,bS,.ah 39 (x.ab.map af.enc) true,.ah 2 (x.an.map aT.enc) true,.box (aa.aG x (.sl 5 0 x.ab.length) (.sl 6 0 x.an.length)),.box aa.cc]
def Rz(bs:List Int)(bb bX bu bS:H)(x:aa)(id:Int)(i:Nat)(h:Int)(z:Nat×Int)(S:List Bool):St:=⟨(.ptr 1 0 0::.agg (aa.aG x (.sl 5 0 x.ab.length) (.sl 6 0 x.an.length))::.al::.ptr 7 0 0::.ptr 8 0 0::(bif S.getD 10 false then .i z.2 else .i id)::aA 5 (.ptr 7 0 17::.sl 5 0 x.ab.length::.i x.ab.length::.d (.bool true)::(aw S 0 (.ptr 7 0 17))::(aw S 1 (.sl 5 0 x.ab.length))::(aw S 2 (.ptr 1 0 0))::(aw S 3 (.ptr 7 0 17))::(aw S 4 (.sl 5 0 x.ab.length))::(aw S 5 (.i x.ab.length))::(aw S 6 (.i z.1))::(aw S 7 (.ptr 5 z.1 0))::(aw S 8 (.ptr 5 z.1 0))::(aw S 9 (.i z.2))::aA 122 [])),[bb,cv bs i h,bX,bu,bS,.ah 39 (x.ab.map af.enc) true,.ah 2 (x.an.map aT.enc) true,.box (aa.aG x (.sl 5 0 x.ab.length) (.sl 6 0 x.an.length)),.box aa.cc]⟩
def RA(bs:List Int)(bb bX bu bS:H)(x:aa)(id:Int)(i:Nat)(h:Int)(z:Bool)(S:List Bool):St:=⟨(.ptr 1 0 0::.al::.al::.ptr 7 0 0::.ptr 8 0 0::.i id::.ptr 9 0 0::aA 18 (.agg (aa.aG x (.sl 5 0 x.ab.length) (.sl 6 0 x.an.length))::.ptr 1 0 0::.i 0::.d (.bool true)::.d (.bool true)::(aw S 4 (.eh [.i (E8 x z),.agg (aa.aG (nw x z) (.sl 10 0 (nw x z).ab.length) (.sl 11 0 (nw x z).an.length)),.d (.bool (BA x z))]))::(aw S 0 (.agg (aa.aG x (.sl 5 0 x.ab.length) (.sl 6 0 x.an.length))))::(aw S 1 (.ptr 1 0 0))::(aw S 2 (.d (.bool z)))::(aw S 3 (.eh [.i (E8 x z),.agg (aa.aG (nw x z) (.sl 10 0 (nw x z).ab.length) (.sl 11 0 (nw x z).an.length)),.d (.bool (BA x z))]))::(aw S 5 (.i (E8 x z)))::(aw S 6 (.agg (aa.aG (nw x z) (.sl 10 0 (nw x z).ab.length) (.sl 11 0 (nw x z).an.length))))::(aw S 7 (.d (.bool (BA x z))))::aA 109 [])),[bb,cv bs i h,bX,bu,bS,.ah 39 (x.ab.map af.enc) true,.ah 2 (x.an.map aT.enc) true,.box (aa.aG x (.sl 5 0 x.ab.length) (.sl 6 0 x.an.length)),.box aa.cc,(bif S.getD 8 false then .box (aa.aG (nw x z) (.sl 10 0 (nw x z).ab.length) (.sl 11 0 (nw x z).an.length))else .box (aa.aG x (.sl 5 0 x.ab.length) (.sl 6 0 x.an.length)))]++(bif S.getD 3 false then [.aj 39 ((nw x z).ab.map af.enc),.aj 2 ((nw x z).an.map aT.enc)]else [])⟩
def LU(bs:List Int)(bb bX bu bS:H)(x:aa)(id:Int)(RB akY akZ:V)(i:Nat)(h:Int)(z:List UInt8)(S:List Bool):St:=⟨(.ptr 1 0 0::.al::.al::.ptr 7 0 0::.ptr 8 0 0::.i id::.ptr 9 0 0::aA 18 (.agg (aa.aG x (.sl 5 0 x.ab.length) (.sl 6 0 x.an.length))::.ptr 1 0 0::RB::.d (.bool false)::.d (.bool false)::aA 8 (.d (.bool true)::akY::akZ::(aw S 5 (.eh [.i (Fb x id z),.agg (aa.aG (nA x id z) (.sl 10 0 (nA x id z).ab.length) (.sl 11 0 (nA x id z).an.length))]))::(aw S 0 (.agg (aa.aG x (.sl 5 0 x.ab.length) (.sl 6 0 x.an.length))))::(aw S 1 (.i id))::(aw S 2 (.ptr 1 0 0))::(aw S 3 (.d (.str z)))::(aw S 4 (.eh [.i (Fb x id z),.agg (aa.aG (nA x id z) (.sl 10 0 (nA x id z).ab.length) (.sl 11 0 (nA x id z).an.length))]))::(aw S 6 (.i (Fb x id z)))::(aw S 7 (.agg (aa.aG (nA x id z) (.sl 10 0 (nA x id z).ab.length) (.sl 11 0 (nA x id z).an.length))))::aA 98 []))),[bb,cv bs i h,bX,bu,bS,.ah 39 (x.ab.map af.enc) true,.ah 2 (x.an.map aT.enc) true,.box (aa.aG x (.sl 5 0 x.ab.length) (.sl 6 0 x.an.length)),.box aa.cc,(bif S.getD 8 false then .box (aa.aG (nA x id z) (.sl 10 0 (nA x id z).ab.length) (.sl 11 0 (nA x id z).an.length))else .box (aa.aG x (.sl 5 0 x.ab.length) (.sl 6 0 x.an.length)))]++(bif S.getD 4 false then [.aj 39 ((nA x id z).ab.map af.enc),.aj 2 ((nA x id z).an.map aT.enc)]else [])⟩
def RC(bs:List Int)(bb bX bu bS:H)(x:aa)(id:Int)(i:Nat)(h z:Int)(S:List Bool):St:=⟨(.ptr 1 0 0::.al::.al::.ptr 7 0 0::.ptr 8 0 0::.i id::.ptr 9 0 0::aA 18 (.agg (aa.aG x (.sl 5 0 x.ab.length) (.sl 6 0 x.an.length))::.ptr 1 0 0::.i 4::.d (.bool false)::.d (.bool false)::aA 8 (.d (.bool false)::.d (.bool false)::.d (.bool false)::aA 8 (.d (.bool false)::.d (.bool false)::aA 8 (.d (.bool true)::.d (.bool true)::(aw S 5 (.eh [.d (.str (Hc x id z)),.d (.bool (Hd x id z)),.agg (aa.aG (nG x id z) (.sl 10 0 (nG x id z).ab.length) (.sl 11 0 (nG x id z).an.length))]))::(aw S 0 (.agg (aa.aG x (.sl 5 0 x.ab.length) (.sl 6 0 x.an.length))))::(aw S 1 (.i id))::(aw S 2 (.ptr 1 0 0))::(aw S 3 (.i z))::(aw S 4 (.eh [.d (.str (Hc x id z)),.d (.bool (Hd x id z)),.agg (aa.aG (nG x id z) (.sl 10 0 (nG x id z).ab.length) (.sl 11 0 (nG x id z).an.length))]))::(aw S 6 (.d (.str (Hc x id z))))::(aw S 7 (.d (.bool (Hd x id z))))::(aw S 8 (.agg (aa.aG (nG x id z) (.sl 10 0 (nG x id z).ab.length) (.sl 11 0 (nG x id z).an.length))))::aA 77 []))))),[bb,cv bs i h,bX,bu,bS,.ah 39 (x.ab.map af.enc) true,.ah 2 (x.an.map aT.enc) true,.box (aa.aG x (.sl 5 0 x.ab.length) (.sl 6 0 x.an.length)),.box aa.cc,(bif S.getD 9 false then .box (aa.aG (nG x id z) (.sl 10 0 (nG x id z).ab.length) (.sl 11 0 (nG x id z).an.length))else .box (aa.aG x (.sl 5 0 x.ab.length) (.sl 6 0 x.an.length)))]++(bif S.getD 4 false then [.aj 39 ((nG x id z).ab.map af.enc),.aj 2 ((nG x id z).an.map aT.enc)]else [])⟩
def RD(bs:List Int)(bb bX bu bS:H)(x:aa)(id:Int)(i:Nat)(h z:Int)(S:List Bool):St:=⟨(.ptr 1 0 0::.al::.al::.ptr 7 0 0::.ptr 8 0 0::.i id::.ptr 9 0 0::aA 18 (.agg (aa.aG x (.sl 5 0 x.ab.length) (.sl 6 0 x.an.length))::.ptr 1 0 0::.i 5::.d (.bool false)::.d (.bool false)::aA 8 (.d (.bool false)::.d (.bool false)::.d (.bool false)::aA 8 (.d (.bool false)::.d (.bool false)::aA 8 (.d (.bool false)::.d (.bool false)::aA 9 (.d (.bool true)::.d (.bool true)::.ptr 1 0 0::.d (.bool true)::(aw S 5 (.eh [.agg (aa.aG (nx x id z) (.sl 10 0 (nx x id z).ab.length) (.sl 11 0 (nx x id z).an.length)),.d (.bool (z3 x id z))]))::(aw S 0 (.agg (aa.aG x (.sl 5 0 x.ab.length) (.sl 6 0 x.an.length))))::(aw S 1 (.i id))::(aw S 2 (.ptr 1 0 0))::(aw S 3 (.i z))::(aw S 4 (.eh [.agg (aa.aG (nx x id z) (.sl 10 0 (nx x id z).ab.length) (.sl 11 0 (nx x id z).an.length)),.d (.bool (z3 x id z))]))::(aw S 6 (.agg (aa.aG (nx x id z) (.sl 10 0 (nx x id z).ab.length) (.sl 11 0 (nx x id z).an.length))))::(aw S 7 (.d (.bool (z3 x id z))))::aA 65 [])))))),[bb,cv bs i h,bX,bu,bS,.ah 39 (x.ab.map af.enc) true,.ah 2 (x.an.map aT.enc) true,.box (aa.aG x (.sl 5 0 x.ab.length) (.sl 6 0 x.an.length)),.box aa.cc,(bif S.getD 8 false then .box (aa.aG (nx x id z) (.sl 10 0 (nx x id z).ab.length) (.sl 11 0 (nx x id z).an.length))else .box (aa.aG x (.sl 5 0 x.ab.length) (.sl 6 0 x.an.length)))]++(bif S.getD 4 false then [.aj 39 ((nx x id z).ab.map af.enc),.aj 2 ((nx x id z).an.map aT.enc)]else [])⟩
def RE(bs:List Int)(bb bX bu bS:H)(x:aa)(id:Int)(i:Nat)(h:Int)(z:List UInt8)(S:List Bool):St:=⟨(.ptr 1 0 0::.al::.al::.ptr 7 0 0::.ptr 8 0 0::.i id::.ptr 9 0 0::aA 18 (.agg (aa.aG x (.sl 5 0 x.ab.length) (.sl 6 0 x.an.length))::.ptr 1 0 0::.i 5::.d (.bool false)::.d (.bool false)::aA 8 (.d (.bool false)::.d (.bool false)::.d (.bool false)::aA 8 (.d (.bool false)::.d (.bool false)::aA 8 (.d (.bool false)::.d (.bool false)::aA 9 (.d (.bool true)::.d (.bool true)::.ptr 1 0 0::.d (.bool false)::aA 8 ((aw S 6 (.eh [.agg (aa.aG (nv x id z) (.sl 11 0 (nv x id z).ab.length) (.sl 12 0 (nv x id z).an.length)),.d (.bool (lS x id))]))::(aw S 0 (.agg (aa.aG x (.sl 5 0 x.ab.length) (.sl 6 0 x.an.length))))::(aw S 1 (.i id))::(aw S 2 (.ptr 1 0 0))::(aw S 3 (.sl 10 0 3))::(aw S 4 (.d (.str z)))::(aw S 5 (.eh [.agg (aa.aG (nv x id z) (.sl 11 0 (nv x id z).ab.length) (.sl 12 0 (nv x id z).an.length)),.d (.bool (lS x id))]))::(aw S 7 (.agg (aa.aG (nv x id z) (.sl 11 0 (nv x id z).ab.length) (.sl 12 0 (nv x id z).an.length))))::(aw S 8 (.d (.bool (lS x id))))::aA 56 []))))))),[bb,cv bs i h,bX,bu,bS,.ah 39 (x.ab.map af.enc) true,.ah 2 (x.an.map aT.enc) true,.box (aa.aG x (.sl 5 0 x.ab.length) (.sl 6 0 x.an.length)),.box aa.cc,(bif S.getD 9 false then .box (aa.aG (nv x id z) (.sl 11 0 (nv x id z).ab.length) (.sl 12 0 (nv x id z).an.length))else .box (aa.aG x (.sl 5 0 x.ab.length) (.sl 6 0 x.an.length)))]++(bif S.getD 3 false then [.ah 1 ([[117,61,49],[105],[117,61,53,44,32,105]].map n8) true]else [])++(bif S.getD 5 false then [.aj 39 ((nv x id z).ab.map af.enc),.aj 2 ((nv x id z).an.map aT.enc)]else [])⟩
def LV(bs:List Int)(bb bX bu bS:H)(x:aa)(id:Int)(RB ak0 ak1:V)(i:Nat)(h z:Int)(S:List Bool):St:=⟨(.ptr 1 0 0::.al::.al::.ptr 7 0 0::.ptr 8 0 0::.i id::.ptr 9 0 0::aA 18 (.agg (aa.aG x (.sl 5 0 x.ab.length) (.sl 6 0 x.an.length))::.ptr 1 0 0::RB::.d (.bool false)::.d (.bool false)::aA 8 (.d (.bool false)::.d (.bool false)::.d (.bool false)::aA 8 (.d (.bool false)::.d (.bool false)::aA 8 (.d (.bool false)::.d (.bool false)::aA 9 (.d (.bool false)::.d (.bool false)::aA 19 (.d (.bool true)::ak0::ak1::(aw S 5 (.eh [.d (.str (me x (i64.wrap (8+z)))),.i (nH x (i64.wrap (8+z))),.agg (aa.aG (gy x (i64.wrap (8+z))) (.sl 10 0 (gy x (i64.wrap (8+z))).ab.length) (.sl 11 0 (gy x (i64.wrap (8+z))).an.length))]))::(aw S 0 (.agg (aa.aG x (.sl 5 0 x.ab.length) (.sl 6 0 x.an.length))))::(aw S 1 (.ptr 1 0 0))::(aw S 2 (.i z))::(aw S 3 (.i (i64.wrap (8+z))))::(aw S 4 (.eh [.d (.str (me x (i64.wrap (8+z)))),.i (nH x (i64.wrap (8+z))),.agg (aa.aG (gy x (i64.wrap (8+z))) (.sl 10 0 (gy x (i64.wrap (8+z))).ab.length) (.sl 11 0 (gy x (i64.wrap (8+z))).an.length))]))::(aw S 6 (.d (.str (me x (i64.wrap (8+z))))))::(aw S 7 (.i (nH x (i64.wrap (8+z)))))::(aw S 8 (.agg (aa.aG (gy x (i64.wrap (8+z))) (.sl 10 0 (gy x (i64.wrap (8+z))).ab.length) (.sl 11 0 (gy x (i64.wrap (8+z))).an.length))))::aA 44 []))))))),[bb,cv bs i h,bX,bu,bS,.ah 39 (x.ab.map af.enc) true,.ah 2 (x.an.map aT.enc) true,.box (aa.aG x (.sl 5 0 x.ab.length) (.sl 6 0 x.an.length)),.box aa.cc,(bif S.getD 9 false then .box (aa.aG (gy x (i64.wrap (8+z))) (.sl 10 0 (gy x (i64.wrap (8+z))).ab.length) (.sl 11 0 (gy x (i64.wrap (8+z))).an.length))else .box (aa.aG x (.sl 5 0 x.ab.length) (.sl 6 0 x.an.length)))]++(bif S.getD 4 false then [.aj 39 ((gy x (i64.wrap (8+z))).ab.map af.enc),.aj 2 ((gy x (i64.wrap (8+z))).an.map aT.enc)]else [])⟩
def RF(bs:List Int)(bb bX bu bS:H)(x:aa)(id:Int)(i:Nat)(h:Int)(z:Nat×Int)(S:List Bool):St:=⟨(.ptr 1 0 0::.al::.al::.ptr 7 0 0::.ptr 8 0 0::.i id::.ptr 9 0 0::aA 3 ((aw S 10 (.i z.2))::aA 14 (.agg (aa.aG x (.sl 5 0 x.ab.length) (.sl 6 0 x.an.length))::.ptr 1 0 0::.i 9::.d (.bool false)::.d (.bool false)::aA 8 (.d (.bool false)::.d (.bool false)::.d (.bool false)::aA 8 (.d (.bool false)::.d (.bool false)::aA 8 (.d (.bool false)::.d (.bool false)::aA 9 (.d (.bool false)::.d (.bool false)::aA 19 (.d (.bool false)::.d (.bool false)::.d (.bool false)::aA 9 (.d (.bool false)::.d (.bool false)::aA 11 (.d (.bool true)::.d (.bool true)::.ptr 7 0 47::.sl 6 0 x.an.length::.i x.an.length::.d (.bool true)::(aw S 0 (.ptr 7 0 47))::(aw S 1 (.sl 6 0 x.an.length))::(aw S 2 (.ptr 1 0 0))::(aw S 3 (.ptr 7 0 47))::(aw S 4 (.sl 6 0 x.an.length))::(aw S 5 (.i x.an.length))::(aw S 6 (.i z.1))::(aw S 7 (.ptr 6 z.1 0))::(aw S 8 (.ptr 6 z.1 0))::(aw S 9 (.i z.2))::aA 15 [])))))))))),[bb,cv bs i h,bX,bu,bS,.ah 39 (x.ab.map af.enc) true,.ah 2 (x.an.map aT.enc) true,.box (aa.aG x (.sl 5 0 x.ab.length) (.sl 6 0 x.an.length)),.box aa.cc,.box (aa.aG x (.sl 5 0 x.ab.length) (.sl 6 0 x.an.length))]⟩
theorem abg(bs:List Int)(hm:bs.length≤maxLen)(i:Nat)(h:Int)(x:aa)(m:Nat)(hv:cI m x)(atl:m≤18)(bb bX bu bS:H)(hq:cA 5 bb∧cA 5 bX∧cA 5 bu∧cA 5 bS)(kv:List V)(bJ:bk 5 kv)(K:V→List H→Prop)(hi:i≤bs.length)
  (hk:∀(cF:Nat) (h':Int) (y:aa),cF≤bs.length→qh x y→K (jb y 5) ([bb,cv bs cF h',bX,bu,bS]++jr y)):d6 prog 164 kv ([bb,cv bs i h,bX,bu,bS]++jr x) [.ptr 1 0 0,jb x 5] K:=by
 have hz:=hv.sz ω;have atm:=hv.l2;have Sw:=hv.vw;have lr:∀(cF:Nat) (h':Int),dB 5 [bb,cv bs cF h',bX,bu,bS]:=fun cF h'=>⟨hq.1,by simp[cv,cA,bk,vok],hq.2.1,hq.2.2.1,hq.2.2.2,trivial⟩;have xI:∀ts:List V,bk 10 ts→bk 10 (ts++kv):=fun ts h=>v9 h (ly ω kv bJ);have w_:cA 10 bb∧cA 10 bX∧cA 10 bu∧cA 10 bS:=⟨jV ω _ hq.1,jV ω _ hq.2.1,jV ω _ hq.2.2.1,jV ω _ hq.2.2.2⟩;refine d6.Z5 ?_;refine d6.Z5 ?_;refine d6.n2 ?_;refine(NC (n:=147) (rs:=[.cell 4 37]) func164 rfl call164 rfl rfl ?_);simp only[jr,jb,bz,bx];have aai:∀(cF:Nat) (h':Int) (ts ts':List V),vsees (List.range 9) ts' ts→bk 9 ts'→lC kv (List.range 9) ⟨ts,Ii bb (cv bs cF h') bX bu bS x⟩ ⟨ts',Ii bb (cv bs cF h') bX bu bS x⟩:=by
  intro cF h' ts ts' ag ar;have ak2:dB 9 (Ii bb (cv bs cF h') bX bu bS x):=by
   have:=Fk (BO (m:=5) (n:=9) ω (lr cF h')) (ys:=[.ah 39 (x.ab.map af.enc) true,.ah 2 (x.an.map aT.enc) true,.box (aa.aG x (.sl 5 0 x.ab.length) (.sl 6 0 x.an.length)),.box aa.cc]) (by simp[dB,cA,bk,vok]);exact this
  exact Ff (hs:=Ii bb (cv bs cF h') bX bu bS x) ak2 (ly (by simp[Ii]) kv bJ) ag ar
 refine e2 b2 3 (α:=Nat×Int×Int) (fun y=>⟨(.ptr 1 0 0::.al::.al::.ptr 7 0 0::.ptr 8 0 0::.i y.2.2::aA 141 []),[bb,cv bs y.1 y.2.1,bX,bu,bS,.ah 39 (x.ab.map af.enc) true,.ah 2 (x.an.map aT.enc) true,.box (aa.aG x (.sl 5 0 x.ab.length) (.sl 6 0 x.an.length)),.box aa.cc]⟩) (fun y=>y.1≤bs.length) ?_ ?_
 ·simp only[go_sem]
  cases iL:decide (0<(x.ab.length:Int))with
  |false=>
   simp only[go_sem];refine dm.intro (i,h,0) (List.range 9) hi (aai i h _ _ ?_ ?_)
   ·simp[vsees,vsee,ren,List.range,List.range.loop]
   ·simp[bk,vok]
  |true=>
   simp only[go_sem];have E3:=cQ iL;refine gC _ (ia (fun S σ=>∃i h z,i≤bs.length∧(z.1<x.ab.length∧((x.ab[z.1]?).getD lD).id=z.2)∧σ=Rz bs bb bX bu bS x 0 i h z S) (N:=11) rfl rfl ⟨i,h,(0,((x.ab[0]?).getD lD).id),‹_›,by first|assumption|(simp;done)|exact⟨by omega,rfl⟩,rfl⟩ ?_) ?_
   ·repeat'(first|exact jW|refine jX ?_ ?_)
    all_goals(
     rintro S σ F hl a1 hp hcl ⟨e4,eX,z,dC,hc,rfl⟩ bB;obtain⟨ib,dW,ek,dt,eF,jE,kb,kc,ks,ns,pr,rfl⟩:=M6 hl;simp only[fm,eW,b4]at a1;subst a1;simp[ix,Region.binds]at hp
     repeat(obtain⟨eu,hp⟩:=hp;subst eu)
     try subst hp
     have aB:=cq af.enc x.ab z.1 hc.1;have nF:=hc.2;have hc1:=hc.1;rw[cD hc.1,fh]at nF;simp only[Rz,aw,e3,e0,c_,dK]
     repeat'(first
       |exact bB _ ⟨e4,eX,z,dC,hc,rfl⟩
       |(refine cN ?_)
       |(refine eB ?_)
       |(obtain rfl:=bd (hcl 6 7 _ rfl ζ rfl);obtain rfl:=bd (hcl 7 8 _ rfl ζ rfl);obtain rfl:=bd (hcl 8 9 _ rfl ζ rfl);obtain rfl:=bd (hcl 9 10 _ rfl ζ rfl);simp only[dK];refine ae.inl (g1 bs hm e4 eX [bb] [bX,bu,bS,.ah 39 (x.ab.map af.enc) true,.ah 2 (x.an.map aT.enc) true,.box (aa.aG x (.sl 5 0 x.ab.length) (.sl 6 0 x.an.length)),.box aa.cc] _ (x.ab.length:Int) ω ω _ dC fun dV ao gx ct c8 hE=>?_);obtain⟨dR,rfl⟩:=kt c8;simp only[go_sem,fM];exact bB _ ⟨_,_,(dR,((x.ab[dR]?).getD lD).id),‹_›,⟨ω,rfl⟩,rfl⟩)
       |(refine⟨⟨by omega,by omega⟩,?_⟩)
       |(refine⟨hc1,?_⟩)
       |simp only[go_sem,I,aB,nF,af.enc,aE]))
   rintro _ ⟨jH,aN,z,oy,hc,rfl⟩;simp only[Rz,List.replicate,aw,e3,e0,c_];simp only[go_sem];refine dm.intro (jH,aN,z.2) (List.range 9) oy (aai jH aN _ _ ?_ ?_)
   ·simp[vsees,vsee,ren,List.range,List.range.loop]
   ·simp[bk,vok]
 rintro⟨f2,h1,id⟩ LL;simp only at LL;refine lx b2 ?_;simp only[go_sem];refine ae.inl (g1 bs hm f2 h1 [bb] [bX,bu,bS,.ah 39 (x.ab.map af.enc) true,.ah 2 (x.an.map aT.enc) true,.box (aa.aG x (.sl 5 0 x.ab.length) (.sl 6 0 x.an.length)),.box aa.cc,.box (aa.aG x (.sl 5 0 x.ab.length) (.sl 6 0 x.an.length))] _ 10 ω ω _ LL fun dG h2 k cJ cW eE=>?_);have Cv:dB 10 [bb]∧dB 10 [bX,bu,bS,.ah 39 (x.ab.map af.enc) true,.ah 2 (x.an.map aT.enc) true,.box (aa.aG x (.sl 5 0 x.ab.length) (.sl 6 0 x.an.length)),.box aa.cc,.box (aa.aG x (.sl 5 0 x.ab.length) (.sl 6 0 x.an.length))]:=⟨⟨w_.1,trivial⟩,w_.2.1,w_.2.2.1,w_.2.2.2,by simp[dB,cA,bk,vok]⟩;obtain rfl|RG|rfl|rfl|rfl|RG|rfl|rfl:k=0∨(k=1∨k=2)∨k=3∨k=4∨k=5∨(k=6∨k=7)∨k=8∨k=9:=by omega
 ·skip
  have d0:decide ((0:Int)=0)=true:=rfl;simp only[go_sem];have c3:∀b,_:=fun b=>aa8 x b hz;refine gC _ (ia (fun S σ=>∃i h z,i≤bs.length∧(True)∧σ=RA bs bb bX bu bS x id i h z S) (N:=9) rfl rfl ⟨dG,h2,false,‹_›,by first|assumption|(simp;done)|exact⟨by omega,rfl⟩,rfl⟩ ?_) ?_
  ·repeat'(first|exact jW|refine jX ?_ ?_)
   all_goals(
    rintro S σ F hl a1 hp hcl ⟨e4,eX,z,dC,hc,rfl⟩ bB;obtain⟨ib,dW,ek,dt,eF,jE,kb,kc,ks,rfl⟩:=Rw hl;simp only[fm,eW,b4]at a1;subst a1;simp[ix,Region.binds]at hp
    repeat(obtain⟨eu,hp⟩:=hp;subst eu)
    try subst hp
    simp only[RA,aw,e3,e0,c_,dK,bz,bx,gm]
    repeat'(first
      |exact bB _ ⟨e4,eX,z,dC,hc,rfl⟩
      |(refine cN ?_)
      |(refine eB ?_)
      |(obtain rfl:=bd (hcl 2 3 _ rfl ζ rfl);obtain rfl:=bd (hcl 3 4 _ rfl ζ rfl);obtain rfl:=bd (hcl 4 5 _ rfl ζ rfl);obtain rfl:=bd (hcl 4 6 _ rfl ζ rfl);obtain rfl:=bd (hcl 4 7 _ rfl ζ rfl);obtain rfl:=bd (hcl 6 8 _ rfl ζ rfl);simp only[dK];refine ae.inl (p' bs hm e4 eX [bb] [bX,bu,bS,.ah 39 (x.ab.map af.enc) true,.ah 2 (x.an.map aT.enc) true,.box (aa.aG x (.sl 5 0 x.ab.length) (.sl 6 0 x.an.length)),.box aa.cc,.box (aa.aG x (.sl 5 0 x.ab.length) (.sl 6 0 x.an.length))] _ 2 ω ω _ dC fun dV ao c8 ct=>?_);simp only[go_sem,fM];exact bB _ ⟨_,_,c8,‹_›,by first|assumption|simp|(constructor<;>assumption),rfl⟩)
      |(refine ae.aj (c3 _) ?_)
      |simp only[go_sem,I,bz,bx]))
  rintro _ ⟨jH,aN,z,oy,hc,rfl⟩;simp only[RA,List.replicate,aw,e3,e0,c_,bz,bx];simp only[go_sem,bz,bx];exact yz bJ _ 10 ω (lr _ _) rfl rfl (hk _ _ _ ‹_› (.I1 _))
 ·skip
  have PU:decide ((1:Int)=0)=false:=rfl;have ahQ:decide ((1:Int)=1)=true:=rfl;have PV:decide ((2:Int)=0)=false:=rfl;have PW:decide ((2:Int)=1)=false:=rfl;have ahR:decide ((2:Int)=2)=true:=rfl;have c3:∀d:List UInt8,d.length≤8→_:=fun d hd=>abd x id d hz ω (((hv.aO id).mono (show m≤m+1 by omega)).Eo (by have:=Pw (hv.aO id).snd hd;rw[show(8 * (m+1:Nat):Int)=8 * m+8 from by omega];exact this) |>.sz ω);obtain rfl|rfl:=RG
  all_goals simp only[go_sem,PU,PV,PW]
  all_goals(first|(refine gC _ (ia (fun S σ=>∃i h z,i≤bs.length∧(z.length≤8)∧σ=LU bs bb bX bu bS x id (.i 1) (.d (.bool true)) (.al) i h z S) (N:=9) rfl rfl ⟨dG,h2,[],‹_›,by first|assumption|(simp;done)|exact⟨by omega,rfl⟩,rfl⟩ ?_) ?_)|(refine gC _ (ia (fun S σ=>∃i h z,i≤bs.length∧(z.length≤8)∧σ=LU bs bb bX bu bS x id (.i 2) (.d (.bool false)) (.d (.bool true)) i h z S) (N:=9) rfl rfl ⟨dG,h2,[],‹_›,by first|assumption|(simp;done)|exact⟨by omega,rfl⟩,rfl⟩ ?_) ?_))
  all_goals(try(
   rintro _ ⟨jH,aN,z,oy,hc,rfl⟩;simp only[LU,List.replicate,aw,e3,e0,c_,bz,bx];simp only[go_sem,bz,bx];exact yz bJ _ 10 ω (lr _ _) rfl rfl (hk _ _ _ ‹_› (.To _ _ hc))))
  all_goals(repeat'(first|exact jW|refine jX ?_ ?_))
  all_goals(
   rintro S σ F hl a1 hp hcl ⟨e4,eX,z,dC,hc,rfl⟩ bB;obtain⟨ib,dW,ek,dt,eF,jE,kb,kc,ks,rfl⟩:=Rw hl;simp only[fm,eW,b4]at a1;subst a1;simp[ix,Region.binds]at hp
   repeat(obtain⟨eu,hp⟩:=hp;subst eu)
   try subst hp
   simp only[LU,aw,e3,e0,c_,dK,bz,bx,gm]
   repeat'(first
     |exact bB _ ⟨e4,eX,z,dC,hc,rfl⟩
     |(refine cN ?_)
     |(refine eB ?_)
     |(obtain rfl:=bd (hcl 3 4 _ rfl ζ rfl);obtain rfl:=bd (hcl 4 5 _ rfl ζ rfl);obtain rfl:=bd (hcl 5 6 _ rfl ζ rfl);obtain rfl:=bd (hcl 5 7 _ rfl ζ rfl);obtain rfl:=bd (hcl 7 8 _ rfl ζ rfl);simp only[dK];refine ae.inl (IT bs hm e4 eX [bb] [bX,bu,bS,.ah 39 (x.ab.map af.enc) true,.ah 2 (x.an.map aT.enc) true,.box (aa.aG x (.sl 5 0 x.ab.length) (.sl 6 0 x.an.length)),.box aa.cc,.box (aa.aG x (.sl 5 0 x.ab.length) (.sl 6 0 x.an.length))] _ 8 Cv (xI _ (by simp[bk,vok,C'])) ω _ dC fun dV ao dt ct d4=>?_);simp only[go_sem,fM];exact bB _ ⟨_,_,dt,‹_›,by first|assumption|simp|(constructor<;>assumption),rfl⟩)
     |(refine ae.aj (c3 _ hc) ?_)
     |simp only[go_sem,I,bz,bx]))
 ·skip
  have d0:decide ((3:Int)=0)=false:=rfl;have fw:decide ((3:Int)=1)=false:=rfl;have fH:decide ((3:Int)=2)=false:=rfl;have h4:decide ((3:Int)=3)=true:=rfl;simp only[go_sem,d0,fw,fH];refine ae.inl (p' bs hm dG h2 [bb] [bX,bu,bS,.ah 39 (x.ab.map af.enc) true,.ah 2 (x.an.map aT.enc) true,.box (aa.aG x (.sl 5 0 x.ab.length) (.sl 6 0 x.an.length)),.box aa.cc,.box (aa.aG x (.sl 5 0 x.ab.length) (.sl 6 0 x.an.length))] _ 2 ω ω _ cJ fun dV ao c8 ct=>?_)
  cases c8 with
  |true=>
   have c3:=aa4 x id hz (((hv.aO id).Eo (Px (hv.aO id).snd)).sz ω);simp only[go_sem,I];refine ae.aj c3 ?_;simp only[go_sem,I,bz,bx];exact yz bJ _ 10 ω (lr _ _) rfl rfl (hk _ _ _ ‹_› (.aW _))
  |false=>
   simp only[go_sem,bz,bx];exact Ry bJ _ (lr _ _) (hk _ _ _ ‹_› .same)
 ·skip
  have d0:decide ((4:Int)=0)=false:=rfl;have fw:decide ((4:Int)=1)=false:=rfl;have fH:decide ((4:Int)=2)=false:=rfl;have h4:decide ((4:Int)=3)=false:=rfl;have kF:decide ((4:Int)=4)=true:=rfl;simp only[go_sem,d0,fw,fH,h4];have c3:∀k,_:=fun k=>agM x id k m hv ω;refine gC _ (ia (fun S σ=>∃i h z,i≤bs.length∧(True)∧σ=RC bs bb bX bu bS x id i h z S) (N:=10) rfl rfl ⟨dG,h2,0,‹_›,by first|assumption|(simp;done)|exact⟨by omega,rfl⟩,rfl⟩ ?_) ?_
  ·repeat'(first|exact jW|refine jX ?_ ?_)
   all_goals(
    rintro S σ F hl a1 hp hcl ⟨e4,eX,z,dC,hc,rfl⟩ bB;obtain⟨ib,dW,ek,dt,eF,jE,kb,kc,ks,ns,rfl⟩:=Rx hl;simp only[fm,eW,b4]at a1;subst a1;simp[ix,Region.binds]at hp
    repeat(obtain⟨eu,hp⟩:=hp;subst eu)
    try subst hp
    simp only[RC,aw,e3,e0,c_,dK,bz,bx,gm]
    repeat'(first
      |exact bB _ ⟨e4,eX,z,dC,hc,rfl⟩
      |(refine cN ?_)
      |(refine eB ?_)
      |(obtain rfl:=bd (hcl 3 4 _ rfl ζ rfl);obtain rfl:=bd (hcl 4 5 _ rfl ζ rfl);obtain rfl:=bd (hcl 5 6 _ rfl ζ rfl);obtain rfl:=bd (hcl 5 7 _ rfl ζ rfl);obtain rfl:=bd (hcl 5 8 _ rfl ζ rfl);obtain rfl:=bd (hcl 8 9 _ rfl ζ rfl);simp only[dK];refine ae.inl (g1 bs hm e4 eX [bb] [bX,bu,bS,.ah 39 (x.ab.map af.enc) true,.ah 2 (x.an.map aT.enc) true,.box (aa.aG x (.sl 5 0 x.ab.length) (.sl 6 0 x.an.length)),.box aa.cc,.box (aa.aG x (.sl 5 0 x.ab.length) (.sl 6 0 x.an.length))] _ 6 ω ω _ dC fun dV ao gx ct c8 hE=>?_);simp only[go_sem,fM];exact bB _ ⟨_,_,gx,‹_›,by first|assumption|simp|(constructor<;>assumption),rfl⟩)
      |(refine ae.aj (c3 _) ?_)
      |simp only[go_sem,I,bz,bx]))
  rintro _ ⟨jH,aN,z,oy,hc,rfl⟩;simp only[RC,List.replicate,aw,e3,e0,c_,bz,bx];simp only[go_sem,bz,bx];exact yz bJ _ 10 ω (lr _ _) rfl rfl (hk _ _ _ ‹_› (.gF _ _))
 ·skip
  have d0:decide ((5:Int)=0)=false:=rfl;have fw:decide ((5:Int)=1)=false:=rfl;have fH:decide ((5:Int)=2)=false:=rfl;have h4:decide ((5:Int)=3)=false:=rfl;have kF:decide ((5:Int)=4)=false:=rfl;have vW:decide ((5:Int)=5)=true:=rfl;simp only[go_sem,d0,fw,fH,h4,kF];refine ae.inl (p' bs hm dG h2 [bb] [bX,bu,bS,.ah 39 (x.ab.map af.enc) true,.ah 2 (x.an.map aT.enc) true,.box (aa.aG x (.sl 5 0 x.ab.length) (.sl 6 0 x.an.length)),.box aa.cc,.box (aa.aG x (.sl 5 0 x.ab.length) (.sl 6 0 x.an.length))] _ 3 ω ω _ cJ fun dV ao c8 ct=>?_)
  cases c8 with
  |true=>
   have c3:∀k,_:=fun k=>aba x id k hz (((hv.aO id).PD k).sz ω);simp only[go_sem];refine gC _ (ia (fun S σ=>∃i h z,i≤bs.length∧(True)∧σ=RD bs bb bX bu bS x id i h z S) (N:=9) rfl rfl ⟨dV,ao,0,‹_›,by first|assumption|(simp;done)|exact⟨by omega,rfl⟩,rfl⟩ ?_) ?_
   ·repeat'(first|exact jW|refine jX ?_ ?_)
    all_goals(
     rintro S σ F hl a1 hp hcl ⟨e4,eX,z,dC,hc,rfl⟩ bB;obtain⟨ib,dW,ek,dt,eF,jE,kb,kc,ks,rfl⟩:=Rw hl;simp only[fm,eW,b4]at a1;subst a1;simp[ix,Region.binds]at hp
     repeat(obtain⟨eu,hp⟩:=hp;subst eu)
     try subst hp
     simp only[RD,aw,e3,e0,c_,dK,bz,bx,gm]
     repeat'(first
       |exact bB _ ⟨e4,eX,z,dC,hc,rfl⟩
       |(refine cN ?_)
       |(refine eB ?_)
       |(obtain rfl:=bd (hcl 3 4 _ rfl ζ rfl);obtain rfl:=bd (hcl 4 5 _ rfl ζ rfl);obtain rfl:=bd (hcl 5 6 _ rfl ζ rfl);obtain rfl:=bd (hcl 5 7 _ rfl ζ rfl);obtain rfl:=bd (hcl 6 8 _ rfl ζ rfl);simp only[dK];refine ae.inl (g1 bs hm e4 eX [bb] [bX,bu,bS,.ah 39 (x.ab.map af.enc) true,.ah 2 (x.an.map aT.enc) true,.box (aa.aG x (.sl 5 0 x.ab.length) (.sl 6 0 x.an.length)),.box aa.cc,.box (aa.aG x (.sl 5 0 x.ab.length) (.sl 6 0 x.an.length))] _ 3 ω ω _ dC fun dV ao gx ct c8 hE=>?_);simp only[go_sem,fM];exact bB _ ⟨_,_,gx,‹_›,by first|assumption|simp|(constructor<;>assumption),rfl⟩)
       |(refine ae.aj (c3 _) ?_)
       |simp only[go_sem,I,bz,bx]))
   rintro _ ⟨jH,aN,z,oy,hc,rfl⟩;simp only[RD,List.replicate,aw,e3,e0,c_,bz,bx];simp only[go_sem,bz,bx];exact yz bJ _ 10 ω (lr _ _) rfl rfl (hk _ _ _ ‹_› (.Tp _ _))
  |false=>
   have c3:∀t:List UInt8,t∈[[117,61,49],[105],[117,61,53,44,32,105]]→_:=fun t ht=>aa5 x id t hz (by simp only[List.mem_cons,List.not_mem_nil,or_false]at ht;rcases ht with rfl|rfl|rfl<;>decide);simp only[go_sem];refine gC _ (ia (fun S σ=>∃i h z,i≤bs.length∧(z∈[[117,61,49],[105],[117,61,53,44,32,105]])∧σ=RE bs bb bX bu bS x id i h z S) (N:=10) rfl rfl ⟨dV,ao,[105],‹_›,by first|assumption|(simp;done)|exact⟨by omega,rfl⟩,rfl⟩ ?_) ?_
   ·repeat'(first|exact jW|refine jX ?_ ?_)
    all_goals(
     rintro S σ F hl a1 hp hcl ⟨e4,eX,z,dC,hc,rfl⟩ bB;obtain⟨ib,dW,ek,dt,eF,jE,kb,kc,ks,ns,rfl⟩:=Rx hl;simp only[fm,eW,b4]at a1;subst a1;simp[ix,Region.binds]at hp
     repeat(obtain⟨eu,hp⟩:=hp;subst eu)
     try subst hp
     simp only[RE,aw,e3,e0,c_,dK,bz,bx,gm]
     repeat'(first
       |exact bB _ ⟨e4,eX,z,dC,hc,rfl⟩
       |(refine cN ?_)
       |(refine eB ?_)
       |(obtain rfl:=bd (hcl 4 5 _ rfl ζ rfl);obtain rfl:=bd (hcl 5 6 _ rfl ζ rfl);obtain rfl:=bd (hcl 6 7 _ rfl ζ rfl);obtain rfl:=bd (hcl 6 8 _ rfl ζ rfl);obtain rfl:=bd (hcl 7 9 _ rfl ζ rfl);simp only[dK];refine ae.inl (S3 bs hm e4 eX [bb] [bX,bu,bS,.ah 39 (x.ab.map af.enc) true,.ah 2 (x.an.map aT.enc) true,.box (aa.aG x (.sl 5 0 x.ab.length) (.sl 6 0 x.an.length)),.box aa.cc,.box (aa.aG x (.sl 5 0 x.ab.length) (.sl 6 0 x.an.length)),.ah 1 ([[117,61,49],[105],[117,61,53,44,32,105]].map n8) true] _ 8 [[117,61,49],[105],[117,61,53,44,32,105]] rfl ζ ζ _ dC fun dV ao gx ct c8=>?_);simp only[go_sem,fM];exact bB _ ⟨_,_,gx,‹_›,by first|assumption|simp|(constructor<;>assumption),rfl⟩)
       |(refine ae.aj (c3 _ hc) ?_)
       |(obtain rfl:=bd (hcl 3 4 _ rfl ζ rfl);obtain rfl:=bd (hcl 4 5 _ rfl ζ rfl);obtain rfl:=bd (hcl 5 6 _ rfl ζ rfl);obtain rfl:=bd (hcl 6 7 _ rfl ζ rfl);obtain rfl:=bd (hcl 6 8 _ rfl ζ rfl);obtain rfl:=bd (hcl 7 9 _ rfl ζ rfl);simp only[dK];skip)
       |(cases dt;exact Bool.noConfusion (show true=false from bd (hcl 3 4 _ rfl ζ rfl));simp only[c_])
       |simp only[go_sem,I,bz,bx]))
   rintro _ ⟨jH,aN,z,oy,hc,rfl⟩;simp only[RE,List.replicate,aw,e3,e0,c_,bz,bx];simp only[go_sem,bz,bx];exact yz bJ _ 11 ω (lr _ _) rfl rfl (hk _ _ _ ‹_› (.Tq _ _))
 ·skip
  have ak3:decide ((6:Int)=0)=false:=rfl;have ak4:decide ((6:Int)=1)=false:=rfl;have ak5:decide ((6:Int)=2)=false:=rfl;have ak6:decide ((6:Int)=3)=false:=rfl;have ak7:decide ((6:Int)=4)=false:=rfl;have ak8:decide ((6:Int)=5)=false:=rfl;have atn:decide ((6:Int)=6)=true:=rfl;have ak9:decide ((7:Int)=0)=false:=rfl;have ala:decide ((7:Int)=1)=false:=rfl;have alb:decide ((7:Int)=2)=false:=rfl;have alc:decide ((7:Int)=3)=false:=rfl;have ald:decide ((7:Int)=4)=false:=rfl;have ale:decide ((7:Int)=5)=false:=rfl;have alf:decide ((7:Int)=6)=false:=rfl;have ato:decide ((7:Int)=7)=true:=rfl;have c3:∀b,_:=fun b=>Nm x b m hv ω;obtain rfl|rfl:=RG
  all_goals simp only[go_sem,ak3,ak4,ak5,ak6,ak7,ak8,ak9,ala,alb,alc,ald,ale,alf]
  all_goals(first|(refine gC _ (ia (fun S σ=>∃i h z,i≤bs.length∧(True)∧σ=LV bs bb bX bu bS x id (.i 6) (.d (.bool true)) (.al) i h z S) (N:=10) rfl rfl ⟨dG,h2,0,‹_›,by first|assumption|(simp;done)|exact⟨by omega,rfl⟩,rfl⟩ ?_) ?_)|(refine gC _ (ia (fun S σ=>∃i h z,i≤bs.length∧(True)∧σ=LV bs bb bX bu bS x id (.i 7) (.d (.bool false)) (.d (.bool true)) i h z S) (N:=10) rfl rfl ⟨dG,h2,0,‹_›,by first|assumption|(simp;done)|exact⟨by omega,rfl⟩,rfl⟩ ?_) ?_))
  all_goals(try(
   rintro _ ⟨jH,aN,z,oy,hc,rfl⟩;simp only[LV,List.replicate,aw,e3,e0,c_,bz,bx];simp only[go_sem,bz,bx];exact yz bJ _ 10 ω (lr _ _) rfl rfl (hk _ _ _ ‹_› (.em _))))
  all_goals(repeat'(first|exact jW|refine jX ?_ ?_))
  all_goals(
   rintro S σ F hl a1 hp hcl ⟨e4,eX,z,dC,hc,rfl⟩ bB;obtain⟨ib,dW,ek,dt,eF,jE,kb,kc,ks,ns,rfl⟩:=Rx hl;simp only[fm,eW,b4]at a1;subst a1;simp[ix,Region.binds]at hp
   repeat(obtain⟨eu,hp⟩:=hp;subst eu)
   try subst hp
   simp only[LV,aw,e3,e0,c_,dK,bz,bx,gm]
   repeat'(first
     |exact bB _ ⟨e4,eX,z,dC,hc,rfl⟩
     |(refine cN ?_)
     |(refine eB ?_)
     |(obtain rfl:=bd (hcl 2 3 _ rfl ζ rfl);obtain rfl:=bd (hcl 3 4 _ rfl ζ rfl);obtain rfl:=bd (hcl 4 5 _ rfl ζ rfl);obtain rfl:=bd (hcl 5 6 _ rfl ζ rfl);obtain rfl:=bd (hcl 5 7 _ rfl ζ rfl);obtain rfl:=bd (hcl 5 8 _ rfl ζ rfl);obtain rfl:=bd (hcl 8 9 _ rfl ζ rfl);simp only[dK];refine ae.inl (g1 bs hm e4 eX [bb] [bX,bu,bS,.ah 39 (x.ab.map af.enc) true,.ah 2 (x.an.map aT.enc) true,.box (aa.aG x (.sl 5 0 x.ab.length) (.sl 6 0 x.an.length)),.box aa.cc,.box (aa.aG x (.sl 5 0 x.ab.length) (.sl 6 0 x.an.length))] _ 20 ω ω _ dC fun dV ao gx ct c8 hE=>?_);simp only[go_sem,fM];exact bB _ ⟨_,_,gx,‹_›,by first|assumption|simp|(constructor<;>assumption),rfl⟩)
     |(refine ae.aj (c3 _) ?_)
     |simp only[go_sem,I,bz,bx]))
 ·skip
  have d0:decide ((8:Int)=0)=false:=rfl;have fw:decide ((8:Int)=1)=false:=rfl;have fH:decide ((8:Int)=2)=false:=rfl;have h4:decide ((8:Int)=3)=false:=rfl;have kF:decide ((8:Int)=4)=false:=rfl;have vW:decide ((8:Int)=5)=false:=rfl;have yf:decide ((8:Int)=6)=false:=rfl;have A5:decide ((8:Int)=7)=false:=rfl;have rm:decide ((8:Int)=8)=true:=rfl;simp only[go_sem,d0,fw,fH,h4,kF,vW,yf,A5];refine ae.inl (ab7 bs hm dG h2 [bb] [bX,bu,bS,.ah 39 (x.ab.map af.enc) true,.ah 2 (x.an.map aT.enc) true,.box (aa.aG x (.sl 5 0 x.ab.length) (.sl 6 0 x.an.length)),.box aa.cc,.box (aa.aG x (.sl 5 0 x.ab.length) (.sl 6 0 x.an.length))] _ 10 rfl Cv (xI _ (by simp[bk,vok])) _ cJ fun dV ao f ct eH fU f3=>?_);simp only[go_sem,I];have c3:=agI x f m hv ω ω ⟨fU,by omega⟩;refine ae.aj c3 ?_;simp only[go_sem,I,bz,bx]
  cases he:decide (El x f=0)with
  |true=>
   simp only[go_sem,bz,bx];exact yz bJ _ 11 ω (lr _ _) rfl rfl (hk _ _ _ ‹_› (.hf f ω ⟨fU,by omega⟩))
  |false=>
   simp only[go_sem,bz,bx];exact Ry bJ _ (lr _ _) (hk _ _ _ ‹_› .same)
 ·skip
  have d0:decide ((9:Int)=0)=false:=rfl;have fw:decide ((9:Int)=1)=false:=rfl;have fH:decide ((9:Int)=2)=false:=rfl;have h4:decide ((9:Int)=3)=false:=rfl;have kF:decide ((9:Int)=4)=false:=rfl;have vW:decide ((9:Int)=5)=false:=rfl;have yf:decide ((9:Int)=6)=false:=rfl;have A5:decide ((9:Int)=7)=false:=rfl;have rm:decide ((9:Int)=8)=false:=rfl;have ah4:decide ((9:Int)=9)=true:=rfl;simp only[go_sem,d0,fw,fH,h4,kF,vW,yf,A5,rm]
  cases eu:decide (0<(x.an.length:Int))with
  |false=>
   simp only[go_sem,bz,bx];exact Ry bJ _ (lr _ _) (hk _ _ _ ‹_› .same)
  |true=>
   have atp:=cQ eu;simp only[go_sem];refine gC _ (ia (fun S σ=>∃i h z,i≤bs.length∧(z.1<x.an.length∧((x.an[z.1]?).getD (⟨0,[]⟩:aT)).bO=z.2)∧σ=RF bs bb bX bu bS x id i h z S) (N:=11) rfl rfl ⟨dG,h2,(0,((x.an[0]?).getD (⟨0,[]⟩:aT)).bO),‹_›,by first|assumption|(simp;done)|exact⟨by omega,rfl⟩,rfl⟩ ?_) ?_
   ·repeat'(first|exact jW|refine jX ?_ ?_)
    all_goals(
     rintro S σ F hl a1 hp hcl ⟨e4,eX,z,dC,hc,rfl⟩ bB;obtain⟨ib,dW,ek,dt,eF,jE,kb,kc,ks,ns,pr,rfl⟩:=M6 hl;simp only[fm,eW,b4]at a1;subst a1;simp[ix,Region.binds]at hp
     repeat(obtain⟨eu,hp⟩:=hp;subst eu)
     try subst hp
     have aB:=cq aT.enc x.an z.1 hc.1;have nF:=hc.2;have hc1:=hc.1;rw[cD hc.1,fh]at nF;simp only[RF,aw,e3,e0,c_,dK]
     repeat'(first
       |exact bB _ ⟨e4,eX,z,dC,hc,rfl⟩
       |(refine cN ?_)
       |(refine eB ?_)
       |(obtain rfl:=bd (hcl 6 7 _ rfl ζ rfl);obtain rfl:=bd (hcl 7 8 _ rfl ζ rfl);obtain rfl:=bd (hcl 8 9 _ rfl ζ rfl);obtain rfl:=bd (hcl 9 10 _ rfl ζ rfl);simp only[dK];refine ae.inl (g1 bs hm e4 eX [bb] [bX,bu,bS,.ah 39 (x.ab.map af.enc) true,.ah 2 (x.an.map aT.enc) true,.box (aa.aG x (.sl 5 0 x.ab.length) (.sl 6 0 x.an.length)),.box aa.cc,.box (aa.aG x (.sl 5 0 x.ab.length) (.sl 6 0 x.an.length))] _ (x.an.length:Int) ω ω _ dC fun dV ao gx ct c8 hE=>?_);obtain⟨dR,rfl⟩:=kt c8;simp only[go_sem,fM];exact bB _ ⟨_,_,(dR,((x.an[dR]?).getD (⟨0,[]⟩:aT)).bO),‹_›,⟨ω,rfl⟩,rfl⟩)
       |(refine⟨⟨by omega,by omega⟩,?_⟩)
       |(refine⟨hc1,?_⟩)
       |simp only[go_sem,I,aB,nF,aT.enc,aE]))
   rintro _ ⟨jH,aN,z,oy,hc,rfl⟩;simp only[RF,List.replicate,aw,e3,e0,c_];simp only[go_sem];refine ae.inl (p' bs hm jH aN [bb] [bX,bu,bS,.ah 39 (x.ab.map af.enc) true,.ah 2 (x.an.map aT.enc) true,.box (aa.aG x (.sl 5 0 x.ab.length) (.sl 6 0 x.an.length)),.box aa.cc,.box (aa.aG x (.sl 5 0 x.ab.length) (.sl 6 0 x.an.length))] _ 3 ω ω _ oy fun xn b6 lb fb=>?_)
   cases lb with
   |true=>
    have c3:=aax x z.2 m hv ω;simp only[go_sem,I];refine ae.aj c3 ?_;simp only[go_sem,I,bz,bx];exact yz bJ _ 10 ω (lr _ _) rfl rfl (hk _ _ _ ‹_› (.Tr _))
   |false=>
    have c3:=aau x z.2 m hv ω;simp only[go_sem,I];refine ae.aj c3 ?_;simp only[go_sem,I,bz,bx];exact yz bJ _ 10 ω (lr _ _) rfl rfl (hk _ _ _ ‹_› (.Ts _))
theorem Mw{ρ:List Nat}{m:Nat}:∀{xs ys:List V},qT ρ m xs→qT ρ m ys→qT ρ m (xs++ys)
 |[],_,_,h=>h
 |_::_,_,h,k=>⟨h.1,Mw h.2 k⟩
theorem RS{kv:List V}{hs:List H}{n:Nat}(hn:hs.length=n)(hr:dB n hs)(bJ:bk n kv)(y:aa)(a:Nat)(ha:n≤a){ex:List H}{K:V→List H→Prop}(ag:a5 (hs++ex) a=.ah 39 (y.ab.map af.enc) true)(ar:a5 (hs++ex) (a+1)=.ah 2 (y.an.map aT.enc) true)
  (cd:K (jb y n) (hs++jr y)):oW kv K (jb y a) (hs++ex):=by
 subst hn;refine⟨List.range hs.length++[a,a+1],jb y hs.length,hs++jr y,?_,cd⟩;refine BD (hs:=hs) (ex:=ex) [a,a+1] ξ (by simp;omega) hr ?_ (by simp[lV,hok,jr]) bJ ?_ ?_
 ·simp only[jr,hsees,ag,ar];simp[hsee]
 ·have h1:=nB hs.length 0 [a,a+1];have h2:=nB hs.length 1 [a,a+1];simp only[Nat.add_zero,e0,e3]at h1 h2;simp[jb,vsees,vsee,ren,rens]
 ·simp[jb,jr,bk,vok]
theorem abe{ts kv:List V}(Mx:qT (List.range 7) 7 ts)(bJ:bk 3 kv){bb c bX bu:H}(h0:cA 7 bb)(hc:cA 7 c)(h2:cA 7 bX)(ao:cA 7 bu)(cs:List V)(hcs:cs.length=50)(x:aa) :
  lC (ts++kv) (List.range 7) ⟨[.ptr 1 0 0,jb x 5],bb::c::bX::bu::.box cs::jr x⟩ ⟨[.ptr 1 0 0,jb x 5],bb::c::bX::bu::.box (List.replicate 50 .al)::jr x⟩:=by
 have hf:o0 (List.range 7) 7:=yI (fE _);refine⟨List.nodup_range,?_,⟨wj hf h0,wj hf hc,wj hf h2,wj hf ao,hcs▸My _ cs,⟨rfl,rfl,rfl⟩,⟨rfl,rfl,rfl⟩,trivial⟩,?_,?_,Mw Mx (u_ hf (by simp[jr]) (ly ω _ bJ))⟩
 ·simp[jb,vsees,vsee,ren,rens,List.range,List.range.loop]
 ·simp[jb,jr,bk,vok]
 ·exact BE (xs:=bb::c::bX::bu::.box (List.replicate 50 .al)::jr x) ⟨h0,hc,h2,ao,Fc _ _,trivial,trivial,trivial⟩
def h3:H:=.box aa.cc
theorem aaz(bs:List Int)(hm:bs.length≤maxLen)(i:Nat)(h:Int)(bb bX:H)(hq:cA 3 bb∧cA 3 bX)(kv:List V)(bJ:bk 3 kv)(K:V→List H→Prop)(hi:i≤bs.length)
  (hk:∀(cF:Nat) (h':Int) (y:aa),cF≤bs.length→vf 14 y→K (jb y 3) ([bb,cv bs cF h',bX]++jr y)):d6 prog 77 kv [bb,cv bs i h,bX] [.ptr 1 0 0] K:=by
 have Fe:∀ts:List V,bk 4 ts→bk 4 (ts++kv):=fun ts h=>v9 h (ly ω kv bJ);have IF:dB 4 [bb]∧dB 4 [bX,h3]:=⟨⟨jV ω _ hq.1,trivial⟩,jV ω _ hq.2,by simp[h3,dB,cA,bk,vok]⟩;have wk:∀(cF:Nat) (h':Int),dB 3 [bb,cv bs cF h',bX]:=fun cF h'=>⟨hq.1,by simp[cv,cA,bk,vok],hq.2,trivial⟩;have L1:∀(cF:Nat) (h':Int),dB 4 [bb,cv bs cF h',bX,h3]:=fun cF h'=>⟨jV ω _ hq.1,by simp[cv,cA,bk,vok],jV ω _ hq.2,by simp[h3,cA,bk,vok],trivial⟩;have IG:cA 7 bb∧cA 7 bX:=⟨jV ω _ hq.1,jV ω _ hq.2⟩;refine d6.n2 ?_;refine(fY (n:=27) (rs:=[.cell 2 37]) func77 rfl call77 b2 rfl rfl ?_);simp only[go_sem];refine ae.inl (p' bs hm i h [bb] [bX,h3] _ 2 ω ω _ hi fun f2 h1 db cB=>?_);simp only[go_sem,bz,bx];refine ae.inl (Sp bs hm f2 h1 [bb] [bX,h3] _ 4 rfl IF (Fe _ (by simp[bk,vok])) _ cB fun dG h2 o cJ=>?_);simp only[go_sem,bz,bx];refine ae.inl (Sp bs hm dG h2 [bb] [bX,h3] _ 4 rfl IF (Fe _ (by simp[bk,vok])) _ cJ fun dV ao p ct=>?_);simp only[go_sem,bz,bx];have bH:=abf db o.av o.b1 o.lW o.cm o.lX o.k8 o.ft o.eP p.av p.b1 p.lW p.cm p.lX p.k8 p.ft p.eP;change PureCall _ _ _ [.agg (aa.enc ((BF db o p))),.one (.bool _)]at bH;have b5:=vf.new db o p;generalize BF db o p=x at bH b5;refine ae.intro bH ?_;simp only[go_sem,I,bz,bx];refine ae.inl (g1 bs hm dV ao [bb] [bX,h3,.ah 39 (x.ab.map af.enc) true,.ah 2 (x.an.map aT.enc) true,.box (aa.aG x (.sl 4 0 x.ab.length) (.sl 5 0 x.an.length))] _ 12 ω ω _ ct fun jH aN k eA je qX=>?_);obtain⟨k,rfl⟩:=kt je;simp only[go_sem,bz,bx];rw[show i64.wrap (2+(k:Int))=((k+2:Nat):Int)by rw[bA]<;>omega];refine cr.intro (α:=Nat×Int×aa×Nat) (fun y=>⟨(.ptr 1 0 0::.al::.ptr 3 0 0::.ptr 4 0 0::.al::.i y.2.2.2::aA 21 []),[bb,cv bs y.1 y.2.1,bX,h3,.box (aa.aG (y.2.2.1) (.sl 5 0 (y.2.2.1).ab.length) (.sl 6 0 (y.2.2.1).an.length)),.ah 39 ((y.2.2.1).ab.map af.enc) true,.ah 2 ((y.2.2.1).an.map aT.enc) true]⟩)
  (fun y=>y.2.2.2) (fun y=>y.1≤bs.length∧y.2.2.2≤14∧vf (14-y.2.2.2) y.2.2.1) (jH,aN,x,k+2) [0,1,2,3,6,4,5] ⟨eA,by simp only;omega,b5.mono ω⟩ ?_ ?_
 ·refine BD (hs:=[bb,cv bs jH aN,bX,h3]) (ex:=[.ah 39 (x.ab.map af.enc) true,.ah 2 (x.an.map aT.enc) true,.box (aa.aG x (.sl 4 0 x.ab.length) (.sl 5 0 x.an.length))]) (ex':=[.box (aa.aG x (.sl 5 0 x.ab.length) (.sl 6 0 x.an.length)),.ah 39 (x.ab.map af.enc) true,.ah 2 (x.an.map aT.enc) true]) [6,4,5] ζ ξ (L1 _ _) ?_ (by simp[lV,hok,bk,vok]) (Fe [] trivial) ?_ ?_
  ·simp[hsees,hsee,a5,vsees,vsee,ren,List.range,List.range.loop]
  ·simp[vsees,vsee,ren,List.range,List.range.loop]
  ·simp[bk,vok]
 ·rintro⟨xn,b6,x,n⟩ ⟨BG,hn,hd⟩;simp only at BG hn hd;have hx:=hd.qa ω;simp only[go_sem]
  cases n with
  |zero=>
   rw[show decide ((0:Int)<((0:Nat):Int))=false from rfl];simp only[go_sem,h3];exact RS (n:=3) (hs:=[bb,cv bs xn b6,bX]) (ex:=[_,_,_,_]) rfl (wk _ _) bJ x 5 ω ψ ψ (hk _ _ _ BG hd)
  |succ n=>
   rw[show decide ((0:Int)<((n+1:Nat):Int))=true from bC ω];simp only[go_sem];refine ae.jD [0,2,3,5] (by simp only[hZ,List.elem_cons,List.elem_nil,Nat.reduceBEq,Nat.reduceAdd,c_,dK];rfl) (d6.BH (abe (by simp[qT,vsee,vok,ren,List.range,List.range.loop]) bJ IG.1 (by simp[cv,cA,bk,vok]) IG.2 (by simp[h3,cA,bk,vok]) _ rfl x) (abg bs hm xn b6 x (14-(n+1)) hx ω bb bX h3 (.box (List.replicate 50 .al)) ⟨jV ω _ hq.1,jV ω _ hq.2,by simp[h3,cA,bk,vok],Fc 5 50⟩ _ (v9 (by simp[bk,vok]) (ly ω kv bJ)) _ BG fun yP dP y fs hy=>?_));simp only[go_sem,jb,jr,List.replicate,dA,eI,bz,bx];rw[show i64.wrap (((n+1:Nat):Int)-1)=(n:Int)by rw[bA]<;>omega];refine bE.intro (yP,dP,y,n) (List.range 7) ⟨fs,by simp only;omega,by simp only;have:=hd.step hy;rwa [show 14-(n+1)+1=14-n from by omega]at this⟩ (Nat.lt_succ_self n) ?_;refine Ff (hs:=[bb,cv bs yP dP,bX,h3,.box (aa.aG y (.sl 5 0 y.ab.length) (.sl 6 0 y.an.length)),.ah 39 (y.ab.map af.enc) true,.ah 2 (y.an.map aT.enc) true]) ⟨IG.1,by simp[cv,cA,bk,vok],IG.2,by simp[h3,cA,bk,vok],by simp[cA,bk,vok],trivial,trivial,trivial⟩ (ly ξ kv bJ) ?_ ?_
   ·simp[vsees,vsee,ren,List.range,List.range.loop]
   ·simp[bk,vok]
theorem L2(bs:List Int)(hm:bs.length≤maxLen)(i:Nat)(h:Int)(bb:H)(hq:cA 2 bb)(kv:List V)(bJ:bk 2 kv)(K:V→List H→Prop)(hi:i≤bs.length)
  (hk:∀(cF:Nat) (h':Int) (y:aa),cF≤bs.length→zP y→K (jb y 2) ([bb,cv bs cF h']++jr y)):d6 prog 27 kv [bb,cv bs i h] [.ptr 1 0 0] K:=by
 have hr2:∀(cF:Nat) (h':Int),dB 2 [bb,cv bs cF h']:=fun cF h'=>⟨hq,by simp[cv,cA,bk,vok],trivial⟩;refine d6.n2 ?_;refine(fY (n:=34) (rs:=[.cell 2 37]) func27 rfl call27 b2 rfl rfl ?_);simp only[go_sem];refine ae.inl (aaz bs hm i h bb h3 ⟨jV ω _ hq,by simp[h3,cA,bk,vok]⟩ _ (v9 (by simp[bk,vok]) (ly ω kv bJ)) _ hi fun f2 h1 y cB b5=>?_);simp only[go_sem,jb,jr,h3,bz,bx];refine ae.inl (g1 bs hm f2 h1 [bb] [.box aa.cc,.ah 39 (y.ab.map af.enc) true,.ah 2 (y.an.map aT.enc) true,.box (aa.aG y (.sl 3 0 y.ab.length) (.sl 4 0 y.an.length))] _ 20 ω ω _ cB fun dG h2 k cJ cW eE=>?_);have aW:∀(x:aa) (dV:Nat) (ao:Int) (c6 js:H) (ex:List H),dV≤bs.length→zP x→oW kv K (jb x 3) (bb::cv bs dV ao::c6::.ah 39 (x.ab.map af.enc) true::.ah 2 (x.an.map aT.enc) true::js::ex):=by
  intro x dV ao c6 js ex yA hx;exact RS (n:=2) (hs:=[bb,cv bs dV ao]) (ex:=c6::.ah 39 (x.ab.map af.enc) true::.ah 2 (x.an.map aT.enc) true::js::ex) rfl (hr2 _ _) bJ x 3 ω rfl rfl (hk _ _ _ yA hx)
 obtain rfl|rfl|rfl|rfl|aN:k=0∨k=1∨k=2∨k=3∨4≤k:=by omega
 ·have d0:decide ((0:Int)=0)=true:=rfl;simp only[go_sem];refine ae.inl (yB bs hm dG h2 [bb] [.box aa.cc,.ah 39 (y.ab.map af.enc) true,.ah 2 (y.an.map aT.enc) true,.box (aa.aG y (.sl 3 0 y.ab.length) (.sl 4 0 y.an.length)),.ah 1 ([-1,3,7,256].map aR) true] _ 4 [-1,3,7,256] rfl ζ ζ _ cJ fun dV ao v ct c8=>?_);simp only[go_sem,bz,bx];exact aW {y with d9:=v} dV ao _ _ _ ct ⟨y,_,_,_,_,b5,rfl⟩
 ·have d0:decide ((1:Int)=0)=false:=rfl;have fw:decide ((1:Int)=1)=true:=rfl;simp only[go_sem,d0];refine ae.inl (yB bs hm dG h2 [bb] [.box aa.cc,.ah 39 (y.ab.map af.enc) true,.ah 2 (y.an.map aT.enc) true,.box (aa.aG y (.sl 3 0 y.ab.length) (.sl 4 0 y.an.length)),.ah 1 ([-1,1000000,1000001].map aR) true] _ 4 [-1,1000000,1000001] rfl ζ ζ _ cJ fun dV ao v ct c8=>?_);simp only[go_sem,bz,bx];exact aW {y with ef:=v} dV ao _ _ _ ct ⟨y,_,_,_,_,b5,rfl⟩
 ·have d0:decide ((2:Int)=0)=false:=rfl;have fw:decide ((2:Int)=1)=false:=rfl;have fH:decide ((2:Int)=2)=true:=rfl;simp only[go_sem,d0,fw];refine ae.inl (yB bs hm dG h2 [bb] [.box aa.cc,.ah 39 (y.ab.map af.enc) true,.ah 2 (y.an.map aT.enc) true,.box (aa.aG y (.sl 3 0 y.ab.length) (.sl 4 0 y.an.length)),.ah 1 ([-1,0].map aR) true] _ 4 [-1,0] rfl ζ ζ _ cJ fun dV ao v ct c8=>?_);simp only[go_sem,bz,bx];exact aW {y with cm:={y.cm with eg:=v}} dV ao _ _ _ ct ⟨y,_,_,_,_,b5,rfl⟩
 ·have d0:decide ((3:Int)=0)=false:=rfl;have fw:decide ((3:Int)=1)=false:=rfl;have fH:decide ((3:Int)=2)=false:=rfl;have h4:decide ((3:Int)=3)=true:=rfl;simp only[go_sem,d0,fw,fH];refine ae.inl (yB bs hm dG h2 [bb] [.box aa.cc,.ah 39 (y.ab.map af.enc) true,.ah 2 (y.an.map aT.enc) true,.box (aa.aG y (.sl 3 0 y.ab.length) (.sl 4 0 y.an.length)),.ah 1 ([0,1000000,1000001].map aR) true] _ 4 [0,1000000,1000001] rfl ζ ζ _ cJ fun dV ao v ct c8=>?_);simp only[go_sem,bz,bx];exact aW {y with bO:=v} dV ao _ _ _ ct ⟨y,_,_,_,_,b5,rfl⟩
 ·have d0:=bm (p:=k=0) ω;have fw:=bm (p:=k=1) ω;have fH:=bm (p:=k=2) ω;have h4:=bm (p:=k=3) ω;simp only[go_sem,d0,fw,fH,h4,bz,bx];exact aW y dG h2 _ _ _ cJ ⟨y,_,_,_,_,b5,rfl⟩
def k4(r:J)(n:Int):Bool:=decide (r.low≤n)&&decide (n<r.high)
def dI(xs:List J)(n:Int):Bool:=xs.any fun r=>k4 r n
theorem qM{r:J}{n:Int}:k4 r n=true↔r.low≤n∧n<r.high:=by simp[k4]
theorem zC(n:Int):dI [] n=false:=rfl
theorem rp(x:J)(xs:List J)(n:Int):dI (x::xs) n=(k4 x n||dI xs n):=by simp[dI]
theorem YJ(xs ys:List J)(n:Int):dI (xs++ys) n=(dI xs n||dI ys n):=by simp[dI]
theorem YK{xs:List J}{n:Int}:dI xs n=true↔∃r∈xs,r.low≤n∧n<r.high:=by simp[dI,k4]
theorem Qu{a b:Bool}(h:a=true↔b=true):a=b:=by cases a<;>cases b<;>simp_all
theorem Qv(n:Int):∀(xs:List J) (r:J),(∀x∈xs,dj x=true)→dj r=true→dI (n0 xs r) n=(dI xs n||k4 r n)
 |[],r,_,_=>by simp[n0,dI]
 |x::xs,r,h1,hr=>by
  have hx:=(gI _).1 (h1 x ξ);have kj:=(gI _).1 hr;have ma:∀y∈xs,dj y=true:=fun y hy=>h1 y (by simp[hy]);rw[n0];split
  ·rw[rp,rp,Qv n xs r ma hr,Bool.or_assoc]
  ·split
   ·rw[rp,Bool.or_comm]
   ·have hm:dj ⟨cj r.low x.low,dp r.high x.high⟩=true:=by
     rw[gI];simp only[cj,dp];refine⟨?_,?_,?_⟩<;>(repeat' split)<;>omega
    rw[Qv n xs _ ma hm,rp];apply Qu;simp only[Bool.or_eq_true,qM,cj,dp]
    repeat' split
    all_goals(constructor<;>intro h<;>rcases h with h|h<;>(try(rcases h with h|h))<;>(first|(exact .inl (.inl ω))|(exact .inl (.inr h))|(exact .inl h)|(exact .inr ω)|skip))
    all_goals(by_cases hq:x.low≤n∧n<x.high)
    all_goals first|(exact .inl (.inl hq))|(exact .inr ω)
theorem Qw{xs:List J}{r:J}(h:cY xs=true)(hr:dj r=true)(n:Int):dI (gT xs r) n=(dI xs n||k4 r n):=by
 rw[Qx h hr];exact Qv n xs r ((h_ xs).1 h).1 hr
theorem Qy(n:Int):∀(ys xs:List J),cY xs=true→(∀y∈ys,dj y=true)→dI (fg xs ys) n=(dI xs n||dI ys n)
 |[],xs,_,_=>by simp[fg,zC]
 |y::ys,xs,h,hy=>by
  have e:fg xs (y::ys)=fg (gT xs y) ys:=rfl;rw[e,Qy n ys _ (Kw h (hy y ξ)) (fun z hz=>hy z (by simp[hz])),Qw h (hy y ξ),rp,Bool.or_assoc]
theorem ajk{r x:J}(hr:dj r=true)(n:Int):dI (ir r x) n=(k4 x n&&!k4 r n):=by
 have h1:=(gI _).1 hr;apply Qu;unfold ir;rw[YJ,Bool.or_eq_true,bW,Bool.not_eq_true',qM];have hn:k4 r n=false↔(n<r.low∨r.high≤n):=by
  cases hb:k4 r n with
  |true=>rw[qM]at hb;simp;omega
  |false=>
   simp only[true_iff];rcases Decidable.em (n<r.low)with h|h
   ·exact .inl h
   ·refine .inr ?_;rcases Decidable.em (r.high≤n)with h2|h2
    ·exact h2
    ·exact absurd ((qM (r:=r) (n:=n)).2 ⟨by omega,by omega⟩) (by rw[hb];decide)
 rw[hn];constructor
 ·rintro(h|h)
  ·split at h
   ·rw[rp,zC,Bool.or_false,qM]at h;simp only[cj]at h;split at h<;>omega
   ·cases h
  ·split at h
   ·rw[rp,zC,Bool.or_false,qM]at h;simp only[dp]at h;split at h<;>omega
   ·cases h
 ·rintro⟨h2,ao|ao⟩
  ·refine .inl ?_;rw[if_pos (by simp only[cj];split<;>omega),rp,zC,Bool.or_false,qM];simp only[cj];split<;>omega
  ·refine .inr ?_;rw[if_pos (by simp only[dp];split<;>omega),rp,zC,Bool.or_false,qM];simp only[dp];split<;>omega
theorem Qz{f:J→List J}{n:Int}:∀(xs:List J),dI (xs.flatMap f) n=xs.any fun x=>dI (f x) n
 |[]=>rfl
 |x::xs=>by rw[List.flatMap_cons,YJ,List.any_cons,Qz xs]
theorem YL{xs:List J}{p:J→Bool}{b:Bool}:(xs.any fun x=>p x&&b)=(xs.any p&&b):=by
 induction xs with
 |nil=>cases b<;>rfl
 |cons x xs df=>rw[List.any_cons,List.any_cons,df];cases p x<;>cases b<;>simp
theorem YM{xs:List J}{r:J}(h:cY xs=true)(hr:dj r=true)(n:Int):dI (mh xs r) n=(dI xs n&&!k4 r n):=by
 unfold mh;rw[h,hr,Bool.and_self,if_pos rfl,Qz];simp only[ajk hr];exact YL
theorem ajl(x y:J)(n:Int):dI (f1 x y) n=(k4 x n&&k4 y n):=by
 apply Qu;unfold f1;rw[bW,qM,qM];constructor
 ·intro h;split at h
  ·rw[rp,zC,Bool.or_false,qM]at h;simp only[cj,dp]at h;split at h<;>split at h<;>omega
  ·cases h
 ·rintro⟨h1,h2⟩;rw[if_pos (by simp only[cj,dp];split<;>split<;>omega),rp,zC,Bool.or_false,qM];simp only[cj,dp];split<;>split<;>omega
theorem ajm{xs:List J}{r:J}(h:cY xs=true)(hr:dj r=true)(n:Int):dI (iE xs [r]) n=(dI xs n&&k4 r n):=by
 have h1:cY [r]=true:=(h_ _).2 ⟨by simpa using hr,by simp⟩;unfold iE;rw[h,h1,Bool.and_self,if_pos rfl,Qz];have:(fun x=>dI ([r].flatMap (f1 x)) n)=fun x=>k4 x n&&k4 r n:=by
  funext x
  rw[List.flatMap_cons,List.flatMap_nil,gm,ajl]
 rw[this];exact YL
def iu(p:Int→Bool)(E:Nat):Nat:=(List.range E).countP fun k:Nat=>p (k:Int)
theorem yh(p:Int→Bool)(E:Nat):iu p (E+1)=iu p E+(if p (E:Int)then 1 else 0):=by
 unfold iu;rw[List.range_succ,List.countP_append,List.countP_cons,List.countP_nil];simp
theorem Lj(p:Int→Bool)(E:Nat):iu p E≤E:=by
 induction E with
 |zero=>simp[iu]
 |succ E df=>rw[yh];split<;>omega
theorem YN{p:Int→Bool}{E:Nat}:iu p E=E↔∀n:Int,0≤n→n<E→p n=true:=by
 induction E with
 |zero=>simp[iu];intro n h1 h2;omega
 |succ E df=>
  have hl:=Lj p E;rw[yh];constructor
  ·intro h n h0 h1;by_cases he:p (E:Int)=true
   ·rw[if_pos he]at h;rcases Int.lt_or_le n E with h2|h2
    ·exact df.1 ω n h0 h2
    ·have:n=(E:Int):=by omega
     rw[this];exact he
   ·rw[if_neg he]at h;omega
  ·intro h;rw[if_pos (h E ω ω),df.2 fun n h0 h1=>h n h0 ω]
theorem QA{p q:Int→Bool}(E:Nat)(h:∀n:Int,0≤n→n<E→¬(p n=true∧q n=true)):iu (fun n=>p n||q n) E=iu p E+iu q E:=by
 induction E with
 |zero=>simp[iu]
 |succ E df=>
  rw[yh,yh,yh,df fun n h0 h1=>h n h0 ω];have:=h E ω ω
  show(iu p E+iu q E)+(if(p (E:Int)||q (E:Int))=true then 1 else 0)=_
  cases hp:p (E:Int)<;>cases hq:q (E:Int)
  ·simp
  ·simp;omega
  ·simp;omega
  ·exact absurd ⟨hp,hq⟩ this
theorem ajn{r:J}{E:Nat}(h0:0≤r.low)(h1:r.low≤r.high)(h2:r.high≤E):(iu (k4 r) E:Int)=r.high-r.low:=by
 have key:∀E:Nat,(iu (k4 r) E:Int)=(if(E:Int)≤r.low then 0 else if(E:Int)≤r.high then E-r.low else r.high-r.low):=by
  intro E
  induction E with
  |zero=>rw[if_pos ω];simp[iu]
  |succ E df=>
   rw[yh,Int.natCast_add,df];have hin:k4 r (E:Int)=true↔r.low≤(E:Int)∧(E:Int)<r.high:=qM;by_cases hq:k4 r (E:Int)=true
   ·rw[if_pos hq];have:=hin.1 hq
    repeat' split
    all_goals omega
   ·rw[if_neg hq];have:¬(r.low≤(E:Int)∧(E:Int)<r.high):=fun g=>hq (hin.2 g)
    repeat' split
    all_goals omega
 rw[key]
 repeat' split
 all_goals omega
theorem ajo(x:J)(xs:List J):hY (x::xs)=(x.high-x.low)+hY xs:=by
 have:∀(xs:List J) (a:Int),xs.foldl (fun n r=>n+(r.high-r.low)) a=a+hY xs:=by
  intro xs
  induction xs with
  |nil=>intro a;simp[hY]
  |cons y ys df=>intro a;unfold hY;rw[List.foldl_cons,List.foldl_cons,df,df (0+_)];omega
 unfold hY;rw[List.foldl_cons,this];unfold hY;omega
theorem YO{E:Nat}:∀(xs:List J),(∀x∈xs,dj x=true∧x.high≤E)→xs.Pairwise (fun a b=>a.high<b.low)→hY xs=iu (dI xs) E
 |[],_,_=>by
  have:iu (dI []) E=0:=by
   unfold iu;rw[List.countP_eq_zero];intro k _;simp[zC]
  rw[this];rfl
 |x::xs,h,hp=>by
  obtain⟨h1,h2⟩:=h x ξ;have hr:=(gI _).1 h1;rw[List.pairwise_cons]at hp;rw[ajo,YO xs (fun y hy=>h y (by simp[hy])) hp.2];have e:dI (x::xs)=fun n=>k4 x n||dI xs n:=by funext n;exact rp x xs n
  rw[e,QA,Int.natCast_add,ajn hr.1 ω h2];rintro n _ _ ⟨cn,cG⟩;rw[qM]at cn;obtain⟨y,hy,d4⟩:=YK.1 cG;have:=hp.1 y hy;omega
theorem Lk{xs:List J}{E:Nat}(h:kI E xs):jq xs=iu (dI xs) E:=by
 have h1:=(h_ xs).1 h.1;unfold jq;rw[if_pos h.1];exact YO xs (fun x hx=>⟨h1.1 x hx,h.2 x hx⟩) h1.2
theorem QB{xs:List J}{E n:Int}(h:kI E xs)(hc:dI xs n=true):0≤n∧n<E:=by
 obtain⟨r,hr,h1⟩:=YK.1 hc;have h2:=(gI _).1 (((h_ xs).1 h.1).1 r hr);have:=h.2 r hr;omega
structure Ll(p f a:List J)(E:Int):Prop where
 all:∀n,0≤n→n<E→dI p n=true∨dI f n=true∨dI a n=true
 ajp:∀n,dI p n=true→dI f n=true→False
 pa:∀n,dI p n=true→dI a n=true→False
 YP:∀n,dI f n=true→dI a n=true→False
theorem YQ(p q:Int→Bool)(E:Nat):iu (fun n=>p n||q n) E+iu (fun n=>p n&&q n) E=iu p E+iu q E:=by
 induction E with
 |zero=>simp[iu]
 |succ E df=>
  rw[yh,yh,yh,yh]
  cases p (E:Int)<;>cases q (E:Int)<;>simp<;>omega
theorem QC{p:Int→Bool}{E:Nat}(h:iu p E=0):∀n:Int,0≤n→n<E→p n=true→False:=by
 intro n h0 h1 hp;unfold iu at h;rw[List.countP_eq_zero]at h;have:=h n.toNat (List.mem_range.2 ω);rw[Int.toNat_of_nonneg h0]at this;exact this hp
theorem ajq{s:au}{B:Int}(hi:fA B s)(hB:B≤1000000):(jq (l' s)=s.av.cu∧yi s=s.av.cu)↔Ll s.aP s.aM s.a0 s.av.cu:=by
 have h0:=hi.dc;have h1:=hi.ag;obtain⟨E,ai⟩:=kt h0;have hp:=hi.p;have hf:=hi.f;have ha:=hi.a;have YR:=((h_ _).1 hf.1).1;have YS:=((h_ _).1 ha.1).1;have f0:kI s.av.cu (fg s.aP s.aM):=Cr _ _ hp fun y hy=>⟨YR y hy,hf.2 y hy⟩;have jA:kI s.av.cu (l' s):=Cr _ _ f0 fun y hy=>⟨YS y hy,ha.2 y hy⟩;have ep:dI (l' s)=fun n=>(dI s.aP n||dI s.aM n)||dI s.a0 n:=by
  funext n
  unfold l';rw[Qy n _ _ f0.1 YS,Qy n _ _ hp.1 YR]
 have vw:=Lj (dI s.aP) E;have as8:=Lj (dI s.aM) E;have as9:=Lj (dI s.a0) E;have ag:=YQ (dI s.aP) (dI s.aM) E;have ar:=YQ (fun n=>dI s.aP n||dI s.aM n) (dI s.a0) E;unfold yi;rw[ai]at jA hp hf ha⊢;rw[Lk jA,Lk hp,Lk hf,Lk ha,ep];rw[bA (n:=(iu (dI s.aP) E:Int)+iu (dI s.aM) E) ω ω,bA ω ω];constructor
 ·rintro⟨cn,cG⟩;have d4:iu (fun n=>(dI s.aP n||dI s.aM n)||dI s.a0 n) E=E:=by omega
  have qY:iu (fun n=>dI s.aP n&&dI s.aM n) E=0:=by omega
  have nC:iu (fun n=>(dI s.aP n||dI s.aM n)&&dI s.a0 n) E=0:=by omega
  refine⟨fun n j_ k1=>?_,fun n j_ k1=>?_,fun n j_ k1=>?_,fun n j_ k1=>?_⟩
  ·have:=YN.1 d4 n j_ k1;simp only[Bool.or_eq_true,or_assoc]at this;exact this
  ·obtain⟨bb,bD⟩:=QB hp j_;exact QC qY n bb bD (by simp only[j_,k1,Bool.and_self])
  ·obtain⟨bb,bD⟩:=QB hp j_;exact QC nC n bb bD (by simp only[j_,k1,Bool.true_or,Bool.and_self])
  ·obtain⟨bb,bD⟩:=QB hf j_;exact QC nC n bb bD (by simp only[j_,k1,Bool.or_true,Bool.and_self])
 ·rintro⟨cn,cG,d4,ic⟩;have eH:iu (fun n=>(dI s.aP n||dI s.aM n)||dI s.a0 n) E=E:=YN.2 fun n j_ k1=>by
   simp only[Bool.or_eq_true,or_assoc];exact cn n j_ k1
  have qY:=QA (p:=dI s.aP) (q:=dI s.aM) E fun n _ _ hh=>cG n hh.1 hh.2;have nC:=QA (p:=fun n=>dI s.aP n||dI s.aM n) (q:=dI s.a0) E fun n _ _ hh=>by
   rcases Bool.or_eq_true_iff.1 hh.1 with h|h
   ·exact d4 n h hh.2
   ·exact ic n h hh.2
  rw[eH]at nC;exact⟨by rw[eH],by omega⟩
theorem ajr{s:au}{B:Int}(hi:fA B s)(h:jq (l' s)=s.av.cu):(decide (0<s.av.cu)&&decide (p2 (l' s)≠s.av.cu))=false:=by
 have hp:=hi.p;have hf:=hi.f;have ha:=hi.a;have f0:kI s.av.cu (fg s.aP s.aM):=Cr _ _ hp fun y hy=>⟨((h_ _).1 hf.1).1 y hy,hf.2 y hy⟩;have jA:kI s.av.cu (l' s):=Cr _ _ f0 fun y hy=>⟨((h_ _).1 ha.1).1 y hy,ha.2 y hy⟩;by_cases h0:0<s.av.cu
 ·have:=YT jA.1 jA.2 h h0;simp[this]
 ·simp[h0]
theorem ajs{xs:List J}{n:Int}:below xs n=true↔∀x∈xs,x.high≤n:=by simp[below]
structure Lm(s:au):Prop where
 av:kr s.av=true
 ib:0≤s.cw
 dW:s.cw≤s.av.cu
 ki:0≤s.aW∧s.aW≤3
 part:Ll s.aP s.aM s.a0 s.av.cu
 QD:rk s.a0 0=s.av.base
 c4:s.c4=0
 QE:∀x∈s.aM,x.high≤s.cw
 QF:∀x∈s.a0,x.high≤s.cw
 eH:s.aW=0↔s.br=-1
 fU:s.br≠-1→s.br=s.av.cu
theorem YU{s:au}(h:s.b0≤3):km s=false:=by
 unfold km;rw[bm (show ¬s.b0=4 by omega),bm (show ¬s.b0=5 by omega)];rfl
theorem YV{s:au}{B:Int}(hi:fA B s)(hB:B≤1000000)(hr:km s=false):e1 s=true↔Lm s∧s.b0=lg s:=by
 have YW:=ajq hi hB;have Qm:=hi.p.1;have ajt:=hi.f.1;have aju:=hi.a.1;unfold e1;rw[hr,if_neg ζ];simp only[j',oj,zy,ca,bW,fJ,b8,Bool.not_eq_true',beq_iff_eq,ajs];constructor
 ·rintro⟨k1,_,_,_,oc,GP,V6,GQ,GR,xR,zd,JT,Cd,Ln,db,cW,eH,fU,ml⟩;refine⟨⟨k1,oc,GP,⟨GQ,GR⟩,YW.1 ⟨xR,zd⟩,Cd,Ln,db,cW,?_,?_⟩,ml⟩
  ·rw[decide_eq_decide]at eH;exact eH
  ·intro hn;rw[Bool.and_eq_false_iff,eG,eG]at fU;rcases fU with h|h
   ·exact absurd hn h
   ·exact Decidable.not_not.1 h
 ·rintro⟨⟨k1,oc,GP,⟨GQ,GR⟩,ajv,Cd,Ln,db,cW,eH,fU⟩,ml⟩;obtain⟨xR,zd⟩:=YW.2 ajv;refine⟨k1,Qm,ajt,aju,oc,GP,?_,GQ,GR,xR,zd,ajr hi xR,Cd,Ln,db,cW,?_,?_,ml⟩
  ·rw[Ln];decide
  ·rw[decide_eq_decide];exact eH
  ·rw[Bool.and_eq_false_iff,eG,eG];by_cases hn:s.br=-1
   ·exact .inl fun g=>g hn
   ·exact .inr fun g=>g (fU hn)
theorem ajw(s:au):(lp s).b0=lg (lp s):=by
 show lg s=lg {s with b0:=lg s}
 unfold lg;simp only;by_cases h1:s.aW=3∧s.av.base=s.av.cu
 ·rw[if_pos h1,if_pos h1]
 ·rw[if_neg h1,if_neg h1];by_cases h2:1<s.aW∨s.aW=1∧s.b0=2
  ·rw[if_pos h2];rcases h2 with h2|h2
   ·rw[if_pos (.inl h2)]
   ·rw[if_pos (.inr ⟨h2.1,rfl⟩)]
  ·rw[if_neg h2];by_cases ao:0<s.cw∨s.aW=1∧s.b0=1
   ·rw[if_pos ao];rw[if_neg ω];rcases ao with ao|ao
    ·rw[if_pos (.inl ao)]
    ·rw[if_pos (.inr ⟨ao.1,rfl⟩)]
   ·rw[if_neg ao];rw[if_neg ω,if_neg ω]
theorem ajx(s:au):0≤lg s∧lg s≤3:=by
 unfold lg
 repeat' split
 all_goals omega
theorem ajy{s:au}{B:Int}(hi:fA B s)(hB:B≤1000000)(h:Lm s):e1 (lp s)=true:=by
 have dx:=ajx s;exact(YV (Kz hi) hB (YU (s:=lp s) dx.2)).2 ⟨⟨h.av,h.ib,h.dW,h.ki,h.part,h.QD,h.c4,h.QE,h.QF,h.eH,h.fU⟩,ajw s⟩
theorem YX{s:au}{p:bL}{B:Int}(hi:fA B s)(hB:B≤1000000)(h:nd s p=true):0≤(eN p).low∧(eN p).high≤s.av.cu∧(p.data≠[]→dj (eN p)=true)∧(eN p).low=p.aH∧(eN p).high=p.aH+p.data.length∧p.data.length≤1000000:=by
 have h0:=hi.dc;have h1:=hi.ag;have hh:=h;simp only[nd,bW,b8,fJ]at hh;obtain⟨cn,cG,d4,_⟩:=hh;rw[bA ω ω]at d4;obtain⟨k1,k2,dR⟩:=Xb h ω ω;refine⟨k1,k2,fun hn=>(gI _).2 (by have:=dR hn;omega),rfl,?_,by omega⟩;simp only[eN];rw[bA ω ω]
theorem ajz{p f a GV jm:List J}{E:Int}(h:Ll p f a E)(hc:∀n,(dI GV n||dI jm n)=(dI p n||dI f n))(hd:∀n,dI GV n=true→dI jm n=true→False):Ll GV jm a E:=by
 refine⟨fun n h0 h1=>?_,hd,fun n h1 h2=>?_,fun n h1 h2=>?_⟩
 ·have:=h.all n h0 h1;have e:=hc n;rw[←or_assoc,←Bool.or_eq_true]at this⊢;rw[e];exact this
 ·have e:=hc n;rw[h1,Bool.true_or]at e;rcases Bool.or_eq_true_iff.1 e.symm with g|g
  ·exact h.pa n g h2
  ·exact h.YP n g h2
 ·have e:=hc n;rw[h1,Bool.or_true]at e;rcases Bool.or_eq_true_iff.1 e.symm with g|g
  ·exact h.pa n g h2
  ·exact h.YP n g h2
theorem Qi{s:au}{B:Int}(hi:fA B s)(hB:B≤1000000)(h:e1 s=true)(hs:s.b0≤2):Lm s:=((YV hi hB (YU ω)).1 h).1
theorem YY{s:au}{p:bL}{B:Int}(hi:fA B s)(hB:B≤1000000)(h:e1 s=true):e1 (gv s p)=true:=by
 unfold gv;split
 ·rename_i hw;have vG:=hw;simp only[h8,rj,bW,fJ,Bool.or_eq_true,b8,Bool.not_eq_true']at hw;obtain⟨_,cG,d4,_,la,vX⟩:=hw;have ok:=Qi hi hB h cG;obtain⟨bD,bX,bu,bS,dD,wF⟩:=YX hi hB d4;have QG:p.aW=true→s.aW=1∧s.br≠-1:=fun hp=>by
   rw[hp]at la;refine⟨by simpa using la,?_⟩;simp only[nd,hp,bW,fJ,b8]at d4;exact(by simpa using d4.2.2.2:_∧_).1
  have b5:fA B (jQ s p)∧Lm (jQ s p):=by
   unfold jQ;split
   ·exact⟨hi,ok⟩
   ·rename_i hne;have hr:=bu hne;have kj:=(gI _).1 hr;have n5:iE s.aP [eN p]=[eN p]:=by
     rcases vX with g|g
     ·exact absurd g hne
     ·exact g
    have hin:∀n,k4 (eN p) n=true→dI s.aP n=true:=fun n hn=>by
     have:=ajm hi.p.1 hr n;rw[n5,rp,zC,Bool.or_false,hn,Bool.and_true]at this;exact this.symm
    refine⟨⟨W3 hi.p,Hl hi.f hr bX,hi.a,hi.dc,hi.ag,hi.c⟩,ok.av,?_,?_,ok.ki,?_,ok.QD,ok.c4,?_,?_,ok.eH,ok.fU⟩
    ·simp only[dp];have:=ok.ib;split<;>omega
    ·simp only[dp];have:=ok.dW;split<;>omega
    ·refine ajz ok.part (fun n=>?_) fun n h1 h2=>?_
     ·simp only;rw[YM hi.p.1 hr,Qw hi.f.1 hr]
      cases hn:k4 (eN p) n with
      |true=>rw[hin n hn];simp
      |false=>simp
     ·rw[YM hi.p.1 hr,bW]at h1;rw[Qw hi.f.1 hr,Bool.or_eq_true]at h2;rcases h2 with h2|h2
      ·exact ok.part.ajp n h1.1 h2
      ·rw[h2]at h1;exact absurd h1.2 ζ
    ·have hu:kI (dp s.cw (eN p).high) s.aM:=⟨hi.f.1,fun x hx=>by have:=ok.QE x hx;simp only[dp];split<;>omega⟩;exact(Hl hu hr (by simp only[dp];split<;>omega)).2
    ·intro x hx;have:=ok.QF x hx;simp only[dp];split<;>omega
  refine ajy (Xc b5.1) hB ?_;have ajA:(jQ s p).aW=s.aW∧(jQ s p).br=s.br:=by unfold jQ;split<;>exact⟨rfl,rfl⟩
  obtain⟨_,yj⟩:=b5;unfold mj;split
  ·rename_i hp;obtain⟨k1,k2⟩:=QG hp;refine⟨yj.av,yj.ib,yj.dW,⟨by simp,by simp⟩,yj.part,yj.QD,yj.c4,yj.QE,yj.QF,?_,yj.fU⟩;simp only;rw[ajA.2];constructor
   ·intro g;omega
   ·intro g;exact absurd g k2
  ·exact yj
 ·exact h
def pk(s:af):List af→List af
 |[]=>[s]
 |x::l=>if s.id<x.id then s::x::l else x::pk s l
theorem YC(s:af):∀(l hF:List af),l.foldl (jZ s) (hF,true)=(hF++l,true)
 |[],hF=>by simp
 |x::l,hF=>by
  have e:jZ s (hF,true) x=(hF++[x],true):=rfl;rw[List.foldl_cons,e,YC s l];simp
theorem YD(s:af):∀(l hF:List af),(if(l.foldl (jZ s) (hF,false)).2 then(l.foldl (jZ s) (hF,false)).1 else(l.foldl (jZ s) (hF,false)).1++[s])=hF++pk s l
 |[],hF=>by simp[pk]
 |x::l,hF=>by
  rw[List.foldl_cons];by_cases h:s.id<x.id
  ·have e:jZ s (hF,false) x=(hF++[s,x],true):=by simp[jZ,h]
   rw[e,YC];simp[pk,h]
  ·have e:jZ s (hF,false) x=(hF++[x],false):=by simp[jZ,h]
   rw[e,YD s l (hF++[x])];simp[pk,h]
theorem Yz{l:List af}{s:af}(h:iH (fp s.id) l=-1):eC l s=pk s l:=by
 rw[YE h];have:=YD s l []
 rwa [bx]at this
theorem HO{s x:af}:∀{l:List af},x∈pk s l↔x=s∨x∈l
 |[]=>by simp[pk]
 |y::l=>by
  unfold pk;split
  ·simp
  ·rw[List.mem_cons,HO,List.mem_cons];constructor
   ·rintro(h|h|h)<;>simp[h]
   ·rintro(h|h|h)<;>simp[h]
theorem YF{s:af}:∀{l:List af},(l.map (fun x=>x.id)).Pairwise (·<·)→s.id∉l.map (fun x=>x.id)→((pk s l).map (fun x=>x.id)).Pairwise (·<·)
 |[],_,_=>by simp[pk]
 |y::l,h,hn=>by
  rw[eT,List.pairwise_cons]at h;rw[eT,List.mem_cons,not_or]at hn;unfold pk;split
  ·rename_i hlt;rw[eT,List.pairwise_cons];refine⟨fun b hb=>?_,by rw[eT,List.pairwise_cons];exact h⟩;rw[eT,List.mem_cons]at hb;rcases hb with rfl|hb
   ·exact hlt
   ·have:=h.1 b hb;omega
  ·rename_i hlt;rw[eT,List.pairwise_cons];refine⟨fun b hb=>?_,YF h.2 hn.2⟩;obtain⟨x,hx,rfl⟩:=List.mem_map.1 hb;rcases HO.1 hx with rfl|hx
   ·omega
   ·exact h.1 _ (List.mem_map.2 ⟨x,hx,rfl⟩)
theorem Lg{l:List af}{id:Int}:iH (fp id) l=-1↔id∉l.map (fun x=>x.id):=by
 constructor
 ·intro h hm;obtain⟨x,hx,e⟩:=List.mem_map.1 hm;rcases oq (fp id) l with ⟨_,h2⟩|⟨j,aK,h1,_⟩
  ·rw[List.find?_eq_none]at h2;exact h2 x hx (by simpa [fp]using e)
  ·omega
 ·intro h;rcases oq (fp id) l with ⟨h1,_⟩|⟨j,aK,_,_,ao⟩
  ·exact h1
  ·exact absurd (List.mem_map.2 ⟨l[j],eS aK,by simpa [fp]using ao⟩) h
theorem YG{l:List af}{id:Int}:(cf l id).2=true↔id∈l.map (fun x=>x.id):=by
 constructor
 ·intro h;obtain⟨h1,h2⟩:=Hn h;exact List.mem_map.2 ⟨_,h2,h1⟩
 ·intro h;obtain⟨x,hx,rfl⟩:=List.mem_map.1 h;exact Pz hx
theorem YH{l:List af}{s:af}(hf:(cf l s.id).2=true):(eC l s).map (fun x=>x.id)=l.map (fun x=>x.id):=by
 obtain⟨h1,h2⟩:=Hn hf;rcases oq (fp s.id) l with ⟨ao,_⟩|⟨i,hi,ao,_,aN⟩
 ·exact absurd (YG.1 hf) (Lg.1 ao)
 ·rw[IB ao,List.map_set];have:l[i].id=s.id:=by simpa [fp]using aN
  rw[←this,←List.getElem_map (f:=fun x:af=>x.id) (h:=by simpa using hi)];exact List.set_getElem_self _
theorem ov{n:Int}:bQ n=true↔0≤n∧n≤4611686018427387903:=by simp[bQ,ca]
theorem ab3{m k:Nat}{x y:Int}(hx:x=m)(hy:y=k)(hm:m<2^64)(hk:k<2^64):bitI .and .i64 x y=i64.wrap ((Nat.land m k:Nat):Int):=by
 subst hx hy;unfold bitI;simp only
 congr 1
 have ag:BitVec.ofInt IntKind.i64.bits (m:Int)=BitVec.ofNat 64 m:=by rw[BitVec.ofInt_natCast];rfl
 have ar:BitVec.ofInt IntKind.i64.bits (k:Int)=BitVec.ofNat 64 k:=by rw[BitVec.ofInt_natCast];rfl
 rw[ag,ar];have ao:(HAnd.hAnd (BitVec.ofNat 64 m) (BitVec.ofNat 64 k)).toNat=Nat.land m k:=by
  rw[BitVec.toNat_and,BitVec.toNat_ofNat,BitVec.toNat_ofNat,Nat.mod_eq_of_lt hm,Nat.mod_eq_of_lt hk];rfl
 exact congrArg Int.ofNat ao
def Li(b:Bool):Int:=if b then 1 else 0
structure Qt(v:Bool)(HP:List Int)(o a:Bool→Int):Prop where
 q:∀n∈HP,bQ n=true
 own:∀n∈HP,decide (n % 2=1)=v→n / 4<o (decide (n / 2 % 2=1))
 da:∀n∈HP,decide (n % 2=1)≠v→n / 4<a (decide (n / 2 % 2=1))
 all:∀(u:Bool) (j:Int),0≤j→j<a u→4 * j+Li (!v)+2 * Li u∈HP
 i0:HP.Pairwise (·<·)
 Wv:∀u,0≤a u
def YI(c:aa):List Int:=c.ab.map fun x=>x.id
structure EB(c d:aa):Prop where
 i:YI d=YI c
 s:d.eO=c.eO
 qF:d.fe.jO=c.fe.jO
 qG:d.fc.jO=c.fc.jO
 qI:d.eo.seen=c.eo.seen
 qJ:d.en.seen=c.en.seen
theorem EB.refl(c:aa):EB c c:=⟨rfl,rfl,rfl,rfl,rfl,rfl⟩
theorem EB.trans{c d e:aa}(h:EB c d)(k:EB d e):EB c e:=⟨k.i.trans h.i,k.s.trans h.s,k.qF.trans h.qF,k.qG.trans h.qG,k.qI.trans h.qI,k.qJ.trans h.qJ⟩
theorem Qt.add{v:Bool}{l:List af}{o a vD gz:Bool→Int}{s:af}(h:Qt v (l.map fun x=>x.id) o a)(hn:s.id∉l.map fun x=>x.id)(hq:bQ s.id=true)(aJ:∀u,o u≤vD u)(ha:∀u,a u≤gz u)
  (h1:decide (s.id % 2=1)=v→s.id / 4<vD (decide (s.id / 2 % 2=1))) (h2:decide (s.id % 2=1)≠v→s.id / 4<gz (decide (s.id / 2 % 2=1)))
  (ao:∀(u:Bool) (j:Int),0≤j→a u≤j→j<gz u→4 * j+Li (!v)+2 * Li u=s.id):Qt v ((eC l s).map fun x=>x.id) vD gz:=by
 rw[Yz (Lg.2 hn)];have hm:∀n,n∈(pk s l).map (fun x=>x.id)↔n=s.id∨n∈l.map fun x=>x.id:=by
  intro n;rw[List.mem_map,List.mem_map];constructor
  ·rintro⟨x,hx,rfl⟩;rcases HO.1 hx with rfl|hx
   ·exact .inl rfl
   ·exact .inr ⟨x,hx,rfl⟩
  ·rintro(rfl|⟨x,hx,rfl⟩)
   ·exact⟨s,HO.2 (.inl rfl),rfl⟩
   ·exact⟨x,HO.2 (.inr hx),rfl⟩
 refine⟨fun n hx=>?_,fun n hx hv=>?_,fun n hx hv=>?_,fun u j h0 aK=>?_,YF h.i0 hn,fun u=>Int.le_trans (h.Wv u) (ha u)⟩
 ·rcases(hm n).1 hx with rfl|hx
  ·exact hq
  ·exact h.q n hx
 ·rcases(hm n).1 hx with rfl|hx
  ·exact h1 hv
  ·exact Int.lt_of_lt_of_le (h.own n hx hv) (aJ _)
 ·rcases(hm n).1 hx with rfl|hx
  ·exact h2 hv
  ·exact Int.lt_of_lt_of_le (h.da n hx hv) (ha _)
 ·by_cases hlt:j<a u
  ·exact(hm _).2 (.inr (h.all u j h0 hlt))
  ·exact(hm _).2 (.inl (ao u j h0 ω aK))
theorem K_{α:Type}{key:α→Int}{ok:α→Bool}{l:List α}:xt key ok l=true↔(∀x∈l,ok x=true)∧(l.map key).Pairwise (·<·):=by
 have hB:xt key ok l=true↔(∀(i:Nat) (h:i<l.length),ok l[i]=true)∧∀(j:Nat) (h:j+1<l.length),key l[j]<key l[j+1]:=by
  simp only[xt,k6,List.all_eq_true,List.mem_range];constructor
  ·intro h;refine⟨fun i hi=>?_,fun j aK=>?_⟩
   ·have:=h i hi
    cases i with
    |zero=>rwa [zQ _ _ _ hi]at this
    |succ j=>rw[yC _ _ _ _ hi,bW]at this;exact this.1
   ·have:=h (j+1) aK;rw[yC _ _ _ _ aK,bW]at this;exact cQ this.2
  ·rintro⟨h1,h2⟩ i hi
   cases i with
   |zero=>rw[zQ _ _ _ hi];exact h1 0 hi
   |succ j=>rw[yC _ _ _ _ hi,bW];exact⟨h1 _ hi,bC (h2 j hi)⟩
 rw[hB];constructor
 ·rintro⟨h1,h2⟩;refine⟨fun x hx=>?_,List.pairwise_iff_getElem.2 fun i j hi aK oa=>?_⟩
  ·obtain⟨i,hi,rfl⟩:=List.getElem_of_mem hx;exact h1 i hi
  ·rw[List.getElem_map,List.getElem_map];rw[I]at hi aK;obtain⟨d,rfl⟩:=Nat.le.dest (show i+1≤j from oa);clear oa
   induction d with
   |zero=>exact h2 i aK
   |succ d df=>exact Int.lt_trans (df (by simp;omega) ω) (h2 (i+1+d) aK)
 ·rintro⟨h1,h2⟩;refine⟨fun i hi=>h1 _ (eS hi),fun j aK=>?_⟩;have:=List.pairwise_iff_getElem.1 h2 j (j+1) (by simp;omega) (by simpa using aK) ω
  rwa [List.getElem_map,List.getElem_map]at this
theorem qH{n a b:Int}:ca n a b=true↔a≤n∧n≤b:=by simp[ca]
theorem A_{c:dU}:ju c=true↔(0≤c.aZ∧c.aZ≤4611686018427387903)∧(0≤c.eg∧c.eg≤c.aZ)∧(-1≤c.blocked∧c.blocked≤c.aZ)∧(-1≤c.gr∧c.gr≤c.aZ):=by
 simp only[ju,bQ,qH,bW,fJ]
theorem YZ{c:dU}(h:ju c=true):ju (kl c)=true:=by
 unfold kl;split
 ·rw[A_]at h⊢;simp only;omega
 ·exact h
theorem Y0(c:dU):(kl c).eg=c.eg∧(kl c).aZ=c.aZ:=by unfold kl;split<;>exact⟨rfl,rfl⟩
theorem Y1{c:dU}(h:ju c=true):ju (kB c)=true:=by
 unfold kB;split
 ·rw[A_]at h⊢;simp only;omega
 ·exact h
theorem Y2(c:dU):(kB c).eg=c.eg∧(kB c).aZ=c.aZ:=by unfold kB;split<;>exact⟨rfl,rfl⟩
theorem Y3{c:dU}{n:Int}(h:lJ c n=true):ju (hP c n)=true∧(hP c n).eg=c.eg+n∧(hP c n).aZ=c.aZ∧0≤n:=by
 have hh:=h;simp only[lJ,bW,b8]at hh;obtain⟨⟨h1,h2⟩,ao⟩:=hh;have aN:=A_.1 h1;rw[bA ω ω]at ao;unfold hP;rw[if_pos h];have e:i64.wrap (c.eg+n)=c.eg+n:=by rw[bA]<;>omega
 refine⟨?_,e,rfl,h2⟩;rw[A_];simp only[e];omega
theorem La{w:eD}:k9 w=true↔(1≤w.ck∧w.ck≤4096)∧(1≤w.size∧w.size≤w.ck)∧(1≤w.aZ∧w.aZ≤4611686018427387903)∧(0≤w.seen∧w.seen≤w.aZ)∧(0≤w.gF∧w.gF≤w.seen)∧w.aZ≤w.gF+w.size∧(0≤w.kk∧w.kk≤1000000):=by
 simp only[k9,qH,bW,fJ,b8];constructor
 ·intro h;have e:i64.wrap (w.gF+w.size)=w.gF+w.size:=by rw[bA]<;>omega
  rw[e]at h;omega
 ·intro h;have e:i64.wrap (w.gF+w.size)=w.gF+w.size:=by rw[bA]<;>omega
  rw[e];omega
theorem Y4{w:eD}{ef eP:Int}(h:k9 w=true):k9 (iJ w ef eP)=true:=by
 unfold iJ;split
 ·rename_i hr;have h1:=La.1 h;simp only[lZ,qH,bW]at hr;obtain⟨⟨_,aY⟩,bn⟩:=hr;have hs:w.size≤vY w ef eP∧vY w ef eP≤w.ck:=by
   unfold vY;rw[bA (n:=2 * w.size) ω ω];unfold cj
   repeat' split
   all_goals omega
  rw[La];simp only[cj];rw[bA (n:=w.gF+vY w ef eP) ω ω];split<;>omega
 ·exact h
theorem Y5(w:eD)(ef eP:Int):(iJ w ef eP).seen=w.seen∧(iJ w ef eP).gF=w.gF:=by unfold iJ;split<;>exact⟨rfl,rfl⟩
theorem Lb{a:eL}:jJ a=true↔(0≤a.ck∧a.ck≤1000)∧(a.ck≤a.aZ∧a.aZ≤1152921504606846976)∧(0≤a.seen∧a.seen≤a.aZ)∧(0≤a.d9∧a.d9≤a.seen)∧a.aZ≤a.d9+a.ck:=by
 simp only[jJ,qH,bW,fJ,b8];constructor
 ·intro h;have e:i64.wrap (a.d9+a.ck)=a.d9+a.ck:=by rw[bA]<;>omega
  rw[e]at h;omega
 ·intro h;have e:i64.wrap (a.d9+a.ck)=a.d9+a.ck:=by rw[bA]<;>omega
  rw[e];omega
theorem ajB{a:eL}(h:jJ a=true):jJ (kf a)=true:=by
 unfold kf;split
 ·rename_i hr;have h1:=Lb.1 h;simp only[qe,bW,b8]at hr;have e:i64.wrap (a.d9+a.ck)=a.d9+a.ck:=by rw[bA]<;>omega
  rw[e]at hr;rw[Lb];simp only[e];omega
 ·exact h
theorem Yl{c:aa}(h:k9 c.dq=true):k9 (md c).1=true∧(md c).1.seen=c.dq.seen:=by
 unfold md;split
 ·exact⟨Y4 h,(Y5 _ _ _).1⟩
 ·exact⟨h,rfl⟩
theorem Lc{a:eL}{t:Bool}(h:jJ a=true):jJ (hD a t).1=true:=by
 unfold hD;split
 ·exact ajB h
 ·exact h
theorem Yk{c:aa}{s:af}(h:k9 s.b1=true):k9 (lE c s).1=true∧(lE c s).1.seen=s.b1.seen:=by
 unfold lE;split
 ·split
  ·exact⟨Y4 h,(Y5 _ _ _).1⟩
  ·exact⟨h,rfl⟩
 ·exact⟨h,rfl⟩
structure ajC(s:af):Prop where
 q:bQ s.id=true
 CF:ju s.cV=true
 EC:kC s.a2=true
 A':k9 s.b1=true
 ED:lu s.cL=true
 CG:bQ s.oB=true
 EE:s.fF=true∨s.gO=true
 db:s.ak.cw≤s.cV.eg
 cW:s.a2.gw≤s.b1.seen
 c8:s.jG=true→s.ak.b0=4
 je:s.hL=true→s.j2=true
 lb:s.oB≠0→s.j2=true
 ep:s.fF=true∨(s.ak.b0=0∧s.ak.av.cu=0∧s.ak.br=-1)
 eE:s.gO=true∨(s.a2.b0=0∧s.a2.gw=0∧s.j2=false)
theorem oE{s:af}:gh s=true↔e1 s.ak=true∧ajC s:=by
 have ajD:∀{a b:Bool},(!(a&&!b))=true↔(a=true→b=true):=by intro a b;cases a<;>cases b<;>simp
 have qo:∀{a:Bool} {p:Prop} [Decidable p],(!(a&&decide (¬p)))=true↔(a=true→p):=by
  intro a p _;cases a<;>simp
 have ata:∀{p:Prop} [Decidable p] {b:Bool},(!(decide (¬p)&&!b))=true↔(¬p→b=true):=by
  intro p _ b;cases b<;>simp
 simp only[gh,Dy,FQ,Lo,Lp,bW,Bool.or_eq_true,fJ,ajD,qo,Bool.not_eq_true',b8,eG,Int.not_lt];constructor
 ·rintro⟨h0,h1,h2,ao,aN,b6,dP,gY,e9,j4,o2,CI,CJ,CK,CL⟩;exact⟨h0,h1,h2,ao,aN,b6,dP,gY,e9,j4,o2,CI,CJ,CK,CL⟩
 ·rintro⟨h0,h1,h2,ao,aN,b6,dP,gY,e9,j4,o2,CI,CJ,CK,CL⟩;exact⟨h0,h1,h2,ao,aN,b6,dP,gY,e9,j4,o2,CI,CJ,CK,CL⟩
theorem ajE{c:aa}{s:af}(h:gh s=true)(k:Int):gh (jN c s k)=true∧(jN c s k).ak.cw=s.ak.cw∧(jN c s k).a2=s.a2:=by
 obtain⟨h0,ok⟩:=oE.1 h;unfold jN;split
 ·exact⟨oE.2 ⟨h0,ok.q,ok.CF,ok.EC,ok.A',ok.ED,ok.CG,ok.EE,ok.db,ok.cW,fun g=>Bool.noConfusion g,ok.je,ok.lb,ok.ep,ok.eE⟩,rfl,rfl⟩
 split
 ·exact⟨oE.2 ⟨h0,ok.q,ok.CF,ok.EC,ok.A',ok.ED,ok.CG,ok.EE,ok.db,ok.cW,ok.c8,fun g=>Bool.noConfusion g,ok.lb,ok.ep,ok.eE⟩,rfl,rfl⟩
 split
 ·obtain⟨cE,fZ⟩:=Yk (c:=c) ok.A';refine⟨oE.2 ⟨h0,ok.q,ok.CF,ok.EC,?_,ok.ED,ok.CG,ok.EE,ok.db,?_,ok.c8,ok.je,ok.lb,ok.ep,ok.eE⟩,rfl,rfl⟩
  ·simp only;split
   ·exact cE
   ·exact ok.A'
  ·simp only;split
   ·rw[fZ];exact ok.cW
   ·exact ok.cW
 split
 ·refine⟨oE.2 ⟨h0,ok.q,YZ ok.CF,ok.EC,ok.A',ok.ED,ok.CG,ok.EE,?_,ok.cW,ok.c8,ok.je,ok.lb,ok.ep,ok.eE⟩,rfl,rfl⟩
  show s.ak.cw≤(kl s.cV).eg
  rw[(Y0 _).1];exact ok.db
 ·exact⟨h,rfl,rfl⟩
theorem ajF{s:af}(h:gh s=true):gh (pL s)=true:=by
 obtain⟨h0,ok⟩:=oE.1 h;refine oE.2 ⟨h0,ok.q,Y1 ok.CF,ok.EC,ok.A',ok.ED,ok.CG,ok.EE,?_,ok.cW,ok.c8,ok.je,ok.lb,ok.ep,ok.eE⟩
 show s.ak.cw≤(kB s.cV).eg
 rw[(Y2 _).1];exact ok.db
theorem ajG{s:au}(p:bL):s.cw≤(gv s p).cw:=by
 unfold gv;split
 ·show s.cw≤(mj (jQ s p) p).cw
  unfold mj jQ;split<;>split
  all_goals(try simp only[dp])
  all_goals(try split)
  all_goals omega
 ·exact Int.le_refl _
theorem ajH{s:af}{B:Int}(hi:fA B s.ak)(hB:B≤1000000)(h:gh s=true)(hc:s.fF=true)(p:bL)(hg:h8 s.ak p=true)(hu:lJ s.cV (l5 s p)=true) :
  gh (jx s p)=true∧(jx s p).ak.cw=s.ak.cw+l5 s p∧0≤l5 s p∧(jx s p).a2=s.a2:=by
 obtain⟨h0,ok⟩:=oE.1 h;obtain⟨f0,jA,pN,jM⟩:=Y3 hu;have ajI:=Qi hi hB h0 (by simp only[h8,rj,bW,b8,fJ]at hg;exact hg.2.1);have dc:=hi.dc;have ag:=hi.ag;have CM:=(Cs (YY (p:=p) hi hB h0)).2;have hm:=ajG (s:=s.ak) p;have ajJ:(gv s.ak p).av=s.ak.av:=by
  unfold gv;rw[if_pos hg]
  show(mj (jQ s.ak p) p).av=s.ak.av
  unfold mj jQ;split<;>split<;>rfl
 rw[ajJ]at CM;have hn:l5 s p=(gv s.ak p).cw-s.ak.cw:=by
  have:=ajI.ib;unfold l5;rw[bA]<;>omega
 refine⟨oE.2 ⟨YY hi hB h0,ok.q,f0,ok.EC,ok.A',ok.ED,ok.CG,ok.EE,?_,ok.cW,fun g=>?_,ok.je,ok.lb,.inl hc,ok.eE⟩,?_,jM,rfl⟩
 ·show(gv s.ak p).cw≤(hP s.cV (l5 s p)).eg
  rw[jA,hn];have:=ok.db;omega
 ·have:=ok.c8 g;simp only[h8,rj,bW,b8,fJ]at hg;omega
 ·show(gv s.ak p).cw=_
  rw[hn];omega
structure iZ(c:aa):Prop where
 own:jg c.own=true
 da:jg c.da=true
 oD:∀s∈c.ab,gh s=true
 i0:(c.ab.map fun s=>s.id).Pairwise (·<·)
 len:c.ab.length≤24
 xa:ju c.cm=true
 pg:k9 c.dq=true
 qF:kx c.fe=true
 qG:kx c.fc=true
 qI:jJ c.eo=true
 qJ:jJ c.en=true
 i4:wa c.bO c.an=true
 dE:-1≤c.dE∧c.dE≤4611686018427387903
 num:0≤c.bO∧c.bO≤1000000
 ef:0≤c.ef∧c.ef≤1000000
 rn:0≤c.d9∧c.d9≤255
 cw:c.ab.foldl (ke jf) 0≤c.cm.eg
 seen:c.ab.foldl (ke ku) 0≤c.dq.seen
theorem Y6{l:List af}:j0 gh l=true↔(∀s∈l,gh s=true)∧(l.map fun s=>s.id).Pairwise (·<·)∧l.length≤24:=by
 simp only[j0,bW,K_,b8,fJ];constructor
 ·rintro⟨h1,h2,ao⟩;exact⟨h1,h2,by omega⟩
 ·rintro⟨h1,h2,ao⟩;exact⟨h1,h2,by omega⟩
theorem Am{c:aa}:gq c=true↔iZ c:=by
 simp only[gq,z6,yR,BK,bW,qH,b8,fJ];constructor
 ·rintro⟨h1,h2,ao,aN,b6,dP,gY,e9,j4,o2,CI,CJ,CK,CL,QH,lH,nc,jv,Lq,o5⟩;have hs:=Y6.1 ao;simp only[nE,ao,if_true]at Lq o5;exact⟨h1,h2,hs.1,hs.2.1,hs.2.2,aN,b6,dP,gY,e9,j4,o2,⟨CI,CJ⟩,⟨CK,CL⟩,⟨QH,lH⟩,⟨nc,jv⟩,Lq,o5⟩
 ·rintro⟨h1,h2,dW,ek,dt,aN,b6,dP,gY,e9,j4,o2,⟨CI,CJ⟩,⟨CK,CL⟩,⟨QH,lH⟩,⟨nc,jv⟩,Lq,o5⟩;have ao:=Y6.2 ⟨dW,ek,dt⟩;simp only[nE,ao,if_true];exact⟨h1,h2,trivial,aN,b6,dP,gY,e9,j4,o2,CI,CJ,CK,CL,QH,lH,nc,jv,Lq,o5⟩
theorem Lr(f:af→Int):∀(l vZ:List af) (n:Int),l.map f=vZ.map f→l.foldl (ke f) n=vZ.foldl (ke f) n
 |[],[],_,_=>rfl
 |[],_::_,_,h=>by simp at h
 |_::_,[],_,h=>by simp at h
 |x::l,y::vZ,n,h=>by
  simp only[eT,List.cons.injEq]at h;rw[List.foldl_cons,List.foldl_cons,show ke f n x=ke f n y by unfold ke;rw[h.1]];exact Lr f l vZ _ h.2
theorem Y7{l:List af}{s:af}(hf:(cf l s.id).2=true):∃i,∃hi:i<l.length,eC l s=l.set i s∧l[i]=(cf l s.id).1:=by
 rcases oq (fp s.id) l with ⟨ao,_⟩|⟨i,hi,ao,b6,aN⟩
 ·exact absurd (YG.1 hf) (Lg.1 ao)
 ·refine⟨i,hi,IB ao,?_⟩;unfold cf;rw[b6]
theorem QI{β:Type}(f:af→β){l:List af}{s:af}(hf:(cf l s.id).2=true)(he:f s=f (cf l s.id).1):(eC l s).map f=l.map f:=by
 obtain⟨i,hi,h1,h2⟩:=Y7 hf;rw[h1,List.map_set,he,←h2];have:(l.map f).set i (f l[i])=l.map f:=by
  have dC:i<(l.map f).length:=by simpa using hi
  have e:f l[i]=(l.map f)[i]:=by rw[List.getElem_map]
  rw[e,List.set_getElem_self]
 exact this
theorem Y8{c:aa}(h:iZ c){id:Int}(hf:(cf c.ab id).2=true){s:af}(gg:s.id=(aO c id).id)(hs:gh s=true)(he:s.ak.cw=(aO c id).ak.cw)(hr:s.a2=(aO c id).a2):iZ (lI c s):=by
 have HQ:(aO c id).id=id:=w7 hf;have hi:s.id=id:=gg.trans HQ;have CN:(cf c.ab s.id).2=true:=by rw[hi];exact hf
 have aS:(cf c.ab s.id).1=aO c id:=by rw[hi];rfl
 have ag:(eC c.ab s).map (fun s=>s.id)=c.ab.map fun s=>s.id:=YH CN;have ar:(eC c.ab s).map jf=c.ab.map jf:=QI jf CN (by rw[aS];exact he);have ba:(eC c.ab s).map ku=c.ab.map ku:=QI ku CN (by rw[aS];show s.a2.gw=_;rw[hr];rfl);refine⟨h.own,h.da,fun x hx=>?_,?_,?_,h.xa,h.pg,h.qF,h.qG,h.qI,h.qJ,h.i4,h.dE,h.num,h.ef,h.rn,?_,?_⟩
 ·rcases BI hx with g|rfl
  ·exact h.oD x g
  ·exact hs
 ·show((eC c.ab s).map fun s=>s.id).Pairwise _
  rw[ag];exact h.i0
 ·show(eC c.ab s).length≤24
  have:=congrArg List.length ag;rw[I,I]at this;rw[this];exact h.len
 ·show(eC c.ab s).foldl _ 0≤_
  rw[Lr jf _ _ 0 ar];exact h.cw
 ·show(eC c.ab s).foldl _ 0≤_
  rw[Lr ku _ _ 0 ba];exact h.seen
theorem HK{c:aa}(h:iZ c){id:Int}(hf:(cf c.ab id).2=true):gh (aO c id)=true:=h.oD _ (Hn hf).2
theorem Y9{a:iy}(h:kx a=true):kx {a with blocked:=-1}=true:=by
 simp only[kx,qH,bW]at h⊢;omega
theorem ajK{c:aa}(h:iZ c)(f:aq):iZ (iV c f):=by
 have hc:=Am.2 h;unfold iV;rw[if_pos hc]
 repeat' split
 ·obtain⟨cE,fZ⟩:=Yl h.pg;exact⟨h.own,h.da,h.oD,h.i0,h.len,h.xa,cE,h.qF,h.qG,h.qI,h.qJ,h.i4,h.dE,h.num,h.ef,h.rn,h.cw,by show _≤(md c).1.seen;rw[fZ];exact h.seen⟩
 ·exact⟨h.own,h.da,h.oD,h.i0,h.len,h.xa,h.pg,h.qF,h.qG,h.qI,Lc h.qJ,h.i4,h.dE,h.num,h.ef,h.rn,h.cw,h.seen⟩
 ·exact⟨h.own,h.da,h.oD,h.i0,h.len,h.xa,h.pg,h.qF,h.qG,Lc h.qI,h.qJ,h.i4,h.dE,h.num,h.ef,h.rn,h.cw,h.seen⟩
 ·exact⟨h.own,h.da,h.oD,h.i0,h.len,YZ h.xa,h.pg,h.qF,h.qG,h.qI,h.qJ,h.i4,h.dE,h.num,h.ef,h.rn,by show _≤(kl c.cm).eg;rw[(Y0 _).1];exact h.cw,h.seen⟩
 ·exact⟨h.own,h.da,h.oD,h.i0,h.len,h.xa,h.pg,h.qF,Y9 h.qG,h.qI,h.qJ,h.i4,h.dE,h.num,h.ef,h.rn,h.cw,h.seen⟩
 ·exact⟨h.own,h.da,h.oD,h.i0,h.len,h.xa,h.pg,Y9 h.qF,h.qG,h.qI,h.qJ,h.i4,h.dE,h.num,h.ef,h.rn,h.cw,h.seen⟩
 ·rename_i hf;obtain⟨k1,k2,dR⟩:=ajE (c:=c) (HK h hf) f.bp;exact Y8 h hf (FG c _ _).2.2 k1 k2 dR
 ·exact h
theorem NB{c:aa}(h:iZ c){id:Int}(hf:(cf c.ab id).2=true):iZ (FN c id):=by
 have h1:=Y8 h hf (s:=pL (aO c id)) rfl (ajF (HK h hf)) rfl rfl;exact⟨h1.own,h1.da,h1.oD,h1.i0,h1.len,Y1 h.xa,h1.pg,h1.qF,h1.qG,h1.qI,h1.qJ,h1.i4,h1.dE,h1.num,h1.ef,h1.rn,by show _≤(kB c.cm).eg;rw[(Y2 _).1];exact h1.cw,h1.seen⟩
theorem Y_(f:af→Int):∀(l:List af) (n:Int),(∀x∈l,0≤f x∧f x≤1000000)→l.length≤1000→0≤n→n≤4000000000000→l.foldl (ke f) n=n+(l.map f).sum
 |[],n,_,_,_,_=>by simp
 |x::l,n,h,hl,h0,h1=>by
  obtain⟨x0,x1⟩:=h x ξ;have key:∀(l:List af) (n:Int),(∀x∈l,0≤f x∧f x≤1000000)→0≤n→n+1000000 * (l.length:Int)≤4611686018427387904→l.foldl (ke f) n=n+(l.map f).sum:=by
   intro l
   induction l with
   |nil=>intro n _ _ _;simp
   |cons y l df=>
    intro n hy h0 h1;obtain⟨atb,atc⟩:=hy y ξ;rw[dA]at h1;have e:ke f n y=n+f y:=by
     unfold ke;rw[bA (n:=n+f y) ω ω,if_neg ω]
    rw[List.foldl_cons,e,df _ (fun z hz=>hy z (by simp[hz])) ω ω,eT,List.sum_cons];omega
  refine key (x::l) n h h0 ?_;rw[dA]at hl⊢;omega
theorem Y'(f:af→Int):∀(l:List af) (i:Nat) (hi:i<l.length) (s:af),((l.set i s).map f).sum=(l.map f).sum-f l[i]+f s
 |x::l,0,_,s=>by simp;omega
 |x::l,i+1,hi,s=>by
  have:=Y' f l i (by simpa using hi) s;simp only[List.set_cons_succ,eT,List.sum_cons,List.getElem_cons_succ,this];omega
theorem Za{m:Nat}{c:aa}(hv:cI m c)(hm:m≤1000)(h:iZ c):∀s∈c.ab,0≤jf s∧jf s≤1000000:=fun s hs=>by
 have h1:=(Cs (oE.1 (h.oD s hs)).1).2;have h2:=(hv.ml s hs).snd.ag
 show 0≤s.ak.cw∧s.ak.cw≤1000000
 omega
theorem NF{m:Nat}{c:aa}(hv:cI m c)(hm:m≤1000)(h:iZ c)(id:Int)(p:bL):iZ (q5 c id p):=by
 unfold q5;split
 ·rename_i hg;simp only[o7,wD,bW,fJ]at hg;obtain⟨_,hf,hcs,QJ,ajL,I0⟩:=hg;have G0:fA (8 * m) (aO c id).ak:=(hv.aO id).snd;obtain⟨k1,k2,dR,i1⟩:=ajH G0 ω (HK h hf) hcs p QJ ajL;obtain⟨f0,jA,pN,jM⟩:=Y3 I0;have HQ:(aO c id).id=id:=w7 hf;have CN:(cf c.ab (jx (aO c id) p).id).2=true:=by show(cf c.ab (aO c id).id).2=true;rw[HQ];exact hf
  have aS:(cf c.ab (jx (aO c id) p).id).1=aO c id:=by show(cf c.ab (aO c id).id).1=_;rw[HQ];rfl
  have ag:(eC c.ab (jx (aO c id) p)).map (fun s=>s.id)=c.ab.map fun s=>s.id:=YH CN;have ba:(eC c.ab (jx (aO c id) p)).map ku=c.ab.map ku:=QI ku CN (by rw[aS];show(jx (aO c id) p).a2.gw=_;rw[i1];rfl);have bt:(eC c.ab (jx (aO c id) p)).length=c.ab.length:=by
   have:=congrArg List.length ag
   rwa [I,I]at this
  have dx:∀x∈eC c.ab (jx (aO c id) p),gh x=true:=fun x hx=>by
   rcases BI hx with g|rfl
   ·exact h.oD x g
   ·exact k1
  have ajM:fA (8 * m) (gv (aO c id).ak p):=FO G0 (by
   simp only[h8,rj,bW,fJ]at QJ;have:=(YX G0 ω QJ.2.2.1).2.2.2.2.2;omega)
  have Qn:∀x∈eC c.ab (jx (aO c id) p),0≤jf x∧jf x≤1000000:=fun x hx=>by
   rcases BI hx with g|rfl
   ·exact Za hv hm h x g
   ·have h1:=(Cs (oE.1 k1).1).2;have h2:(gv (aO c id).ak p).av.cu≤8 * (m:Int):=ajM.ag
    show 0≤(gv (aO c id).ak p).cw∧(gv (aO c id).ak p).cw≤1000000
    have ao:0≤(gv (aO c id).ak p).cw∧(gv (aO c id).ak p).cw≤(gv (aO c id).ak p).av.cu:=h1;omega
  have ajN:=Y_ jf c.ab 0 (Za hv hm h) (by have:=h.len;omega) ω ω;have ih:=Y_ jf (eC c.ab (jx (aO c id) p)) 0 Qn (by rw[bt];have:=h.len;omega) ω ω;obtain⟨i,hi,eY,eK⟩:=Y7 CN;have hQ:=Y' jf c.ab i hi (jx (aO c id) p);rw[←eY,eK,aS]at hQ;refine⟨h.own,h.da,dx,?_,by rw[bt];exact h.len,f0,h.pg,h.qF,h.qG,h.qI,h.qJ,h.i4,?_,h.num,h.ef,h.rn,?_,?_⟩
  ·show((eC c.ab _).map fun s=>s.id).Pairwise _
   rw[ag];exact h.i0
  ·have hq:=(oE.1 (HK h hf)).2.q;rw[HQ]at hq;have:=ov.1 hq
   show -1≤id∧id≤_
   omega
  ·show(eC c.ab _).foldl (ke jf) 0≤(hP c.cm _).eg
   rw[jA,ih,hQ];have hs:=h.cw;rw[ajN]at hs;have e:jf (jx (aO c id) p)=jf (aO c id)+l5 (aO c id) p:=k2;omega
  ·show(eC c.ab _).foldl (ke ku) 0≤_
   rw[Lr ku _ _ 0 ba];exact h.seen
 ·exact h
theorem Jc{m:Nat}:∀(l:List aq) (q:xB),cI m q.x→iZ q.x→iZ (l.foldl jw q).x∧cI m (l.foldl jw q).x
 |[],q,hv,h=>⟨h,hv⟩
 |f::l,q,hv,h=>by
  rw[List.foldl_cons];have:iZ (jw q f).x∧cI m (jw q f).x:=by
   unfold jw;split
   ·exact⟨ajK h f,Xl hv f⟩
   ·exact⟨h,hv⟩
  exact Jc l _ this.2 this.1
theorem QK{m:Nat}(hm:m≤1000):∀(n:Nat) (q:nI),cI m q.x→iZ q.x→iZ (iW n q).x
 |0,q,_,h=>h
 |n+1,q,hv,h=>by
  rw[iW];split
  ·exact h
  ·rename_i gg;have hf:=FK (q:=q) ω;split
   ·split
    ·refine QK hm n _ ?_ (NF hv hm h _ _);exact FP hv _ _ (by have:=BY hv hm (fl q) q.room;show(iX q.x (fl q) q.room).1.data.length≤_;omega)
    ·exact h
   ·exact QK hm n _ (FM hv hf) (NB h hf)
theorem ai5{m:Nat}{c:aa}(hv:cI m c)(hm:m≤1000)(h:iZ c)(b:Int):iZ (c5 c b).x:=by
 obtain⟨h1,h2⟩:=Jc (m:=m) (fq c) ⟨c,[],b⟩ hv h;exact QK hm 200 _ h2 h1
structure nj(c d:aa):Prop where
 p:d.an=c.an
 n:d.bO=c.bO
 v:d.eO=c.eO
 rn:d.d9=c.d9
theorem nj.refl(c:aa):nj c c:=⟨rfl,rfl,rfl,rfl⟩
theorem nj.trans{c d e:aa}(h:nj c d)(k:nj d e):nj c e:=⟨k.p.trans h.p,k.n.trans h.n,k.v.trans h.v,k.rn.trans h.rn⟩
theorem ajO(c:aa)(f:aq):nj c (iV c f):=by
 unfold iV
 repeat' split
 all_goals exact⟨rfl,rfl,rfl,rfl⟩
theorem ajP(c:aa)(id:Int)(p:bL):nj c (q5 c id p):=by
 unfold q5;split<;>exact⟨rfl,rfl,rfl,rfl⟩
theorem Zb:∀(l:List aq) (q:xB),nj q.x (l.foldl jw q).x
 |[],q=>nj.refl _
 |f::l,q=>by
  rw[List.foldl_cons];refine nj.trans ?_ (Zb l _);unfold jw;split
  ·exact ajO _ _
  ·exact nj.refl _
theorem QL:∀(n:Nat) (q:nI),nj q.x (iW n q).x
 |0,q=>nj.refl _
 |n+1,q=>by
  rw[iW]
  repeat' split
  ·exact nj.refl _
  ·exact nj.trans (d:=(xF q).x) (ajP _ _ _) (QL n (xF q))
  ·exact nj.refl _
  ·exact nj.trans (d:=(vy q).x) ⟨rfl,rfl,rfl,rfl⟩ (QL n (vy q))
theorem Jd(c:aa)(b:Int):nj c (c5 c b).x:=nj.trans (d:=(ch c b).x) (Zb (fq c) ⟨c,[],b⟩) (QL 200 ⟨(ch c b).x,[],(ch c b).bY,(ch c b).room⟩)
theorem nY:bQ 0=true:=by decide
theorem EA{f:aq}(h1:kindOk f.bp=true)(h2:gE f=f)(ao:bQ f.aC=true)(aN:bQ f.aH=true)(b6:bQ f.c4=true)(dP:bQ f.aZ=true)(gY:bQ f.br=true)(e9:f.data.length≤400)
  (j4:f.bp=8→f.aH+f.data.length≤4611686018427387903) (o2:f.bp=18∨f.bp=22→f.aZ≤1152921504606846976):d_ f=true:=by
 simp only[d_,y2,h1,ao,aN,b6,dP,gY,bW,Bool.true_and,Bool.and_true,bC h2,Bool.not_eq_true',eG];refine⟨by omega,?_⟩;split
 ·rename_i hk;have:=j4 hk;rw[b8,bA]<;>omega
 ·split
  ·rename_i hk;exact bC (o2 hk)
  ·rfl
theorem Yh{k l:Int}(hk:k=16∨k=20)(h:bQ l=true):d_ (gi k l false)=true:=by
 refine EA ?_ ?_ nY nY nY h nY (by simp[gi]) (fun g=>?_) (fun g=>?_)
 ·rcases hk with rfl|rfl<;>rfl
 ·rcases hk with rfl|rfl<;>rfl
 ·exfalso;simp only[gi]at g;omega
 ·exfalso;simp only[gi]at g;omega
theorem K'{k l:Int}{u:Bool}(hk:k=18∨k=22)(h0:0≤l)(h1:l≤1152921504606846976):d_ (gi k l u)=true:=by
 refine EA ?_ ?_ nY nY nY (ov.2 (by show 0≤l∧l≤_;omega)) nY (by simp[gi]) (fun g=>?_) (fun _=>h1)
 ·rcases hk with rfl|rfl<;>rfl
 ·rcases hk with rfl|rfl<;>rfl
 ·exfalso;simp only[gi]at g;omega
theorem Yi{k i l:Int}(hk:k=17∨k=21)(hi:bQ i=true)(h:bQ l=true):d_ (m3 k i l)=true:=by
 refine EA ?_ ?_ hi nY nY h nY (by simp[m3]) (fun g=>?_) (fun g=>?_)
 ·rcases hk with rfl|rfl<;>rfl
 ·rcases hk with rfl|rfl<;>rfl
 ·exfalso;simp only[m3]at g;omega
 ·exfalso;simp only[m3]at g;omega
theorem aiZ{i c z:Int}(hi:bQ i=true)(hc:bQ c=true)(hz:bQ z=true):d_ (n7 4 i c z)=true:=
 EA rfl rfl hi nY hc nY hz (by simp[n7]) (fun g=>by simp[n7]at g) (fun g=>by simp[n7]at g)
theorem ai0{i c:Int}(hi:bQ i=true)(hc:bQ c=true):d_ (n7 5 i c 0)=true:=
 EA rfl rfl hi nY hc nY nY (by simp[n7]) (fun g=>by simp[n7]at g) (fun g=>by simp[n7]at g)
theorem Yj{id:Int}{p:bL}(hi:bQ id=true)(h0:0≤p.aH)(h1:p.aH+p.data.length≤4611686018427387903)(h2:p.data.length≤400):d_ (gG id p)=true:=
 EA rfl rfl hi (ov.2 (by show 0≤p.aH∧p.aH≤_;omega)) nY nY nY h2 (fun _=>h1) (fun g=>by simp[gG]at g)
theorem ai1{s:au}(h:e1 s=true):bQ s.c4=true∧kr s.av=true∧0≤s.cw∧s.cw≤s.av.cu:=by
 have hr:=Cs h;simp only[e1,j',bW,fJ]at h;exact⟨h.2.2.2.2.2.1,hr⟩
theorem ai2{c:aa}{s:af}(h:gh s=true):∀f∈gk c s,d_ f=true:=by
 obtain⟨h0,ok⟩:=oE.1 h;obtain⟨k1,k2,dR,i1⟩:=ai1 h0;have hi:=qz k2;have as6:=A_.1 ok.CF;intro f hf;simp only[gk,fi]at hf;rcases hf with ((hf|hf)|hf)|hf
 ·unfold ji at hf;split at hf
  ·rw[List.mem_singleton.1 hf];exact aiZ ok.q k1 (ov.2 ω)
  ·cases hf
 ·unfold k' at hf;split at hf
  ·rw[List.mem_singleton.1 hf];exact ai0 ok.q ok.CG
  ·cases hf
 ·unfold l0 at hf;split at hf
  ·rw[List.mem_singleton.1 hf];have hw:=La.1 (Yk (c:=c) ok.A').1;exact Yi (.inl rfl) ok.q (ov.2 ω)
  ·cases hf
 ·unfold pE at hf;split at hf
  ·rw[List.mem_singleton.1 hf];exact Yi (.inr rfl) ok.q (ov.2 ω)
  ·cases hf
theorem ai3{c:aa}(h:iZ c):∀f∈fq c,d_ f=true:=by
 have as7:=A_.1 h.xa;have q9:=h.qF;have ai4:=h.qG;simp only[kx,qH,bW]at q9 ai4;have hw:=La.1 (Yl h.pg).1;have Jq:=fun t=>Lb.1 (Lc (t:=t) h.qI);have Az:=fun t=>Lb.1 (Lc (t:=t) h.qJ);intro f hf;unfold fq at hf;split at hf
 ·simp only[fi,Ep,Er]at hf;rcases hf with (((hf|hf)|hf)|hf)|((hf|hf)|hf)
  ·split at hf
   ·rw[List.mem_singleton.1 hf];exact Yh (.inl rfl) (ov.2 ω)
   ·cases hf
  ·split at hf
   ·rw[List.mem_singleton.1 hf];have:=Jq c.lF;exact K' (.inl rfl) ω ω
   ·cases hf
  ·split at hf
   ·rw[List.mem_singleton.1 hf];have:=Az c.lG;exact K' (.inl rfl) ω ω
   ·cases hf
  ·obtain⟨s,hs,hf⟩:=List.mem_flatMap.1 hf;exact ai2 (h.oD s hs) f hf
  ·split at hf
   ·rw[List.mem_singleton.1 hf];exact Yh (.inr rfl) (ov.2 ω)
   ·cases hf
  ·split at hf
   ·rw[List.mem_singleton.1 hf];exact K' (.inr rfl) ω ω
   ·cases hf
  ·split at hf
   ·rw[List.mem_singleton.1 hf];exact K' (.inr rfl) ω ω
   ·cases hf
 ·cases hf
theorem Ym{s:au}{m l:Int}{B:Int}(hi:fA B s)(hB:B≤1000000)(h0:0≤m)(h1:m≤1000)(hok:gH s m l=true):0≤(eM s m l).aH∧(eM s m l).aH+(eM s m l).data.length≤s.av.cu:=by
 have dc:=hi.dc;have ag:=hi.ag;unfold eM;rw[if_pos hok];split
 ·rename_i r hr;have hm:r∈s.aP:=List.mem_of_getElem? hr;have y9:=(gI _).1 (((h_ _).1 hi.p.1).1 r hm);have hr2:=hi.p.2 r hm;have:=KB s.av r.low (i64.wrap (hX r m l-r.low));simp only[gH,hr,bW,b8]at hok;obtain⟨_,k1,k2⟩:=hok;have Fx:cj r.high l≤r.high:=by unfold cj;split<;>omega
  have hh:hX r m l≤r.high:=by
   unfold hX at k2⊢;split
   ·rename_i g;rw[if_pos g]at k2;have e:dp m 0=m:=by unfold dp;split<;>omega
    rw[e]at k2⊢;rw[bA (n:=cj r.high l-r.low) ω ω]at g;rw[bA]at k2⊢<;>omega
   ·exact Fx
  have hw:i64.wrap (hX r m l-r.low)=hX r m l-r.low:=by rw[bA]<;>omega
  simp only;rw[hw]at this⊢;unfold dp at this;split at this<;>omega
 ·rename_i hr;simp only[gH,hr,bW,nW,b8]at hok;obtain⟨⟨cn,cG⟩,d4⟩:=hok;have ok:=Qi hi hB cn cG;have hf:s.br≠-1:=fun g=>by have:=ok.eH.2 g;omega
  have:=ok.fU hf;simp only[eI];omega
theorem Yn{s:au}{id fr room:Int}{B:Int}(hi:fA B s)(hB:B≤1000000)(hq:bQ id=true):∀(n:Nat),n≤60→(oF s id fr room n).2=true→d_ (gG id (oF s id fr room n).1)=true∧((dy (gG id (oF s id fr room n).1)).length:Int)≤room
 |0,_,h=>by simp[oF]at h
 |n+1,hn,h=>by
  have dc:=hi.dc;have ag:=hi.ag;unfold oF at h⊢;split
  ·rename_i hok;rw[if_pos hok]at h;split
   ·rename_i hr;obtain⟨k1,k2⟩:=Ym hi hB (m:=(n+1:Nat)) (l:=fr) ω ω hok;have:=DC (m:=(n+1:Nat)) (l:=fr) ω ω hi.p ω;refine⟨Yj hq k1 ?_ ?_,hr⟩
    ·show(eM s ((n+1:Nat):Int) fr).aH+(eM s ((n+1:Nat):Int) fr).data.length≤4611686018427387903
     omega
    ·show(eM s ((n+1:Nat):Int) fr).data.length≤400
     omega
   ·rename_i hr;rw[if_neg hr]at h;exact Yn hi hB hq n ω h
  ·rename_i hok;rw[if_neg hok]at h;cases h
theorem XO{m:Nat}{c:aa}(hv:cI m c)(hm:m≤1000)(h:iZ c){id room:Int}(hp:(iX c id room).2=true):d_ (gG id (iX c id room).1)=true∧((dy (gG id (iX c id room).1)).length:Int)≤room:=by
 unfold iX at hp⊢;split
 ·rename_i hg;rw[if_pos hg]at hp;simp only[vz,bW,fJ]at hg;have hq:=(oE.1 (HK h hg.2.1)).2.q;rw[w7 hg.2.1]at hq;exact Yn (hv.aO id).snd ω hq _ (by unfold cj;split<;>omega) hp
 ·rename_i hg;rw[if_neg hg]at hp;cases hp
structure zA(b:Int)(bY:List aq)(room:Int):Prop where
 ok:∀f∈bY,d_ f=true
 r0:0≤room
 sum:((bY.flatMap dy).length:Int)+room=b
theorem zA.add{b room:Int}{bY:List aq}{f:aq}(h:zA b bY room)(hb:b≤1000)(hf:d_ f=true)(hl:((dy f).length:Int)≤room):zA b (bY++[f]) (i64.wrap (room-((dy f).length:Int))):=by
 have h0:=h.r0;have h1:=h.sum;have e:i64.wrap (room-((dy f).length:Int))=room-((dy f).length:Int):=by rw[bA]<;>omega
 refine⟨fun g hg=>?_,by omega,?_⟩
 ·rcases fi.1 hg with hg|hg
  ·exact h.ok g hg
  ·rw[List.mem_singleton.1 hg];exact hf
 ·rw[e,List.flatMap_append,dY,List.flatMap_cons,List.flatMap_nil,gm];omega
theorem Yo{b:Int}(hb:b≤1000):∀(l:List aq) (q:xB),(∀f∈l,d_ f=true)→zA b q.bY q.room→zA b (l.foldl jw q).bY (l.foldl jw q).room
 |[],q,_,h=>h
 |f::l,q,hl,h=>by
  rw[List.foldl_cons];refine Yo hb l _ (fun g hg=>hl g (by simp[hg])) ?_;unfold jw;split
  ·rename_i hr;exact h.add hb (hl f ξ) hr
  ·exact h
theorem Qj{m:Nat}(hm:m≤1000){b:Int}(hb:b≤1000):∀(n:Nat) (q:nI),cI m q.x→iZ q.x→zA b q.bY q.room→zA b (iW n q).bY (iW n q).room
 |0,q,_,_,h=>h
 |n+1,q,hv,hc,h=>by
  rw[iW];split
  ·exact h
  ·rename_i gg;have hf:=FK (q:=q) ω;split
   ·rename_i hp;split
    ·obtain⟨k1,k2⟩:=XO hv hm hc (id:=fl q) (room:=q.room) hp;refine Qj hm hb n _ ?_ (NF hv hm hc _ _) (h.add hb k1 k2);exact FP hv _ _ (by have:=BY hv hm (fl q) q.room;show(iX q.x (fl q) q.room).1.data.length≤_;omega)
    ·exact h
   ·exact Qj hm hb n _ (FM hv hf) (NB hc hf) h
theorem Nz{m:Nat}{c:aa}(hv:cI m c)(hm:m≤1000)(h:iZ c){b:Int}(h0:0≤b)(hb:b≤1000):zA b (c5 c b).bY (c5 c b).room:=by
 have hA:zA b (ch c b).bY (ch c b).room:=Yo hb (fq c) ⟨c,[],b⟩ (ai3 h) ⟨fun f hf=>(by cases hf),h0,by simp⟩;obtain⟨h1,h2⟩:=Jc (m:=m) (fq c) ⟨c,[],b⟩ hv h;exact Qj hm hb 200 _ h2 h1 hA
theorem ail{m:Nat}{c:aa}(hv:cI m c)(hm:m≤1000)(h:iZ c)(b:Int):iZ (gy c b):=by
 unfold gy;split
 ·rename_i hg;simp only[pI,bW,qH,Bool.not_eq_true',eG]at hg;have h1:=ai5 hv hm h b;have h2:=Jd c b;split
  ·exact h1
  ·have bB:=Nz hv hm h (b:=b) ω ω;have hn:=h.num;have hw:i64.wrap (c.bO+1)=c.bO+1:=by rw[bA]<;>omega
   refine⟨h1.own,h1.da,h1.oD,h1.i0,h1.len,h1.xa,h1.pg,h1.qF,h1.qG,h1.qI,h1.qJ,?_,h1.dE,?_,h1.ef,h1.rn,h1.cw,h1.seen⟩
   ·have hp:=h1.i4;rw[h2.p,h2.n]at hp;simp only[h2.p,hw];simp only[wa,K_]at hp⊢;obtain⟨eY,eK⟩:=hp;have key:∀p∈c.an,0≤p.bO∧p.bO≤c.bO-1∧p.c0.all d_=true:=fun p hp=>by
     have:=eY p hp;simp only[qS,qH,bW]at this;rw[bA (n:=c.bO-1) ω ω]at this;exact⟨this.1.1,this.1.2,this.2⟩
    have cE:i64.wrap (c.bO+1-1)=c.bO:=by rw[bA]<;>omega
    refine⟨fun p hp=>?_,?_⟩
    ·simp only[qS,cE,qH,bW];rcases fi.1 hp with hp|hp
     ·obtain⟨bD,bX,bu⟩:=key p hp;exact⟨by omega,bu⟩
     ·rw[List.mem_singleton.1 hp];exact⟨by show 0≤c.bO∧c.bO≤c.bO;omega,List.all_eq_true.2 bB.ok⟩
    ·rw[List.map_append,List.pairwise_append];refine⟨eK,by simp,fun a ha b hb=>?_⟩;obtain⟨p,hp,rfl⟩:=List.mem_map.1 ha;simp only[eT,List.map_nil,List.mem_singleton]at hb;subst hb;have:=key p hp;omega
   ·show 0≤i64.wrap (c.bO+1)∧i64.wrap (c.bO+1)≤1000000
    rw[hw];omega
 ·exact h
theorem Yp{n:Int}(h:bQ n=true):jL n≠0:=by
 have hq:=ov.1 h;unfold jL;rw[if_neg ω]
 repeat' split
 all_goals omega
theorem ai6{n:Int}(h:bQ n=true):bM n≠[]:=fun e=>by
 have:=Ld n;rw[e]at this;exact Yp h (by simpa using this.symm)
theorem Qk{l:List Int}(h:∀n∈l,bQ n=true):oG l=l.flatMap bM:=by
 unfold oG;rw[if_neg];simp only[List.any_eq_true,b8,not_exists,not_and];exact fun n hn=>Yp (h n hn)
theorem z'{f:aq}(h:d_ f=true):kindOk f.bp=true∧gE f=f∧bQ f.aC=true∧bQ f.aH=true∧bQ f.c4=true∧bQ f.aZ=true∧bQ f.br=true∧f.data.length≤400∧(f.bp=8→f.aH+f.data.length≤4611686018427387903)∧(f.bp=18∨f.bp=22→f.aZ≤1152921504606846976):=by
 simp only[d_,y2,bW,b8,fJ,Bool.not_eq_true',eG]at h;obtain⟨h1,h2,ao,aN,b6,dP,gY,e9,j4⟩:=h;refine⟨h1,h2,ao,aN,b6,dP,gY,by omega,fun hk=>?_,fun hk=>?_⟩
 ·rw[if_pos hk,b8,bA ω ω]at j4;omega
 ·rw[if_neg ω,if_pos hk,b8]at j4;exact j4
theorem Dl{k:Int}(h:kindOk k=true):k=4∨k=5∨k=8∨k=16∨k=17∨k=18∨k=20∨k=21∨k=22:=by
 simp only[kindOk,Bool.or_eq_true,b8,or_assoc]at h;exact h
def gL(f:aq):List UInt8:=
 if f.bp=4 then bM 4++(bM f.aC++(bM f.c4++bM f.br))
 else if f.bp=5 then bM 5++(bM f.aC++bM f.c4)
 else if f.bp=8 then bM ((if f.aW then 11 else 10)+(if f.aH=0 then 0 else 4))++(bM f.aC++((if f.aH=0 then []else bM f.aH)++(bM (f.data.length:Int)++f.data)))
 else if f.bp=16∨f.bp=20 then bM f.bp++bM f.aZ
 else if f.bp=17∨f.bp=21 then bM f.bp++(bM f.aC++bM f.aZ)
 else bM (f.bp+(if f.ft then 1 else 0))++bM f.aZ
theorem Fs{f:aq}(h:d_ f=true):dy f=gL f:=by
 obtain⟨h1,h2,ao,aN,b6,dP,gY,e9,j4,o2⟩:=z' h;have q:∀n:Int,0≤n→n≤1000→bQ n=true:=fun n a b=>ov.2 ω;have hl:bQ (f.data.length:Int)=true:=q _ ω ω;unfold dy;rw[if_pos h];unfold FT gL;have ar:∀a b:Int,bQ a=true→bQ b=true→oG [a,b]=bM a++bM b:=fun a b ha hb=>by
  rw[Qk (by simp[ha,hb])];simp
 have ba:∀a b c:Int,bQ a=true→bQ b=true→bQ c=true→oG [a,b,c]=bM a++(bM b++bM c):=fun a b c ha hb hc=>by
  rw[Qk (by simp[ha,hb,hc])];simp
 have bF:∀a b c d:Int,bQ a=true→bQ b=true→bQ c=true→bQ d=true→oG [a,b,c,d]=bM a++(bM b++(bM c++bM d)):=fun a b c d ha hb hc hd=>by
  rw[Qk (by simp[ha,hb,hc,hd])];simp
 split
 ·exact bF _ _ _ _ (q 4 ω ω) ao b6 gY
 split
 ·exact ba _ _ _ (q 5 ω ω) ao b6
 split
 ·split
  ·rename_i h0;rw[ba _ _ _ (by split<;>exact q _ ω ω) ao hl];simp
  ·rename_i h0;rw[bF _ _ _ _ (by split<;>exact q _ ω ω) ao aN hl]
   cases f.aW<;>simp
 split
 ·exact ar _ _ (q _ ω ω) dP
 split
 ·exact ba _ _ _ (q _ ω ω) ao dP
 ·have hk:=Dl h1
  cases f.ft
  ·rw[ar _ _ (by simp;exact q _ ω ω) dP];simp
  ·have hw:i64.wrap (f.bp+1)=f.bp+1:=by rw[bA]<;>omega
   simp only[if_true,hw];rw[ar _ _ (q _ ω ω) dP]
theorem Ql{f:aq}(h:d_ f=true):dy f≠[]:=by
 obtain⟨h1,_⟩:=z' h;have q:∀n:Int,0≤n→n≤1000→bM n≠[]:=fun n a b=>ai6 (ov.2 ω);have hk:=Dl h1;have Qm:∀{a b:List UInt8},a≠[]→a++b≠[]:=fun ha e=>ha (List.append_eq_nil_iff.1 e).1;rw[Fs h];unfold gL
 repeat' split
 all_goals(refine Qm (q _ ?_ ?_))
 all_goals first|omega|(split<;>omega)|(split<;>split<;>omega)
theorem Un{l:List aq}(h:∀f∈l,d_ f=true)(hl:(l.flatMap dy).length≤400):vv l=l.flatMap dy:=by
 unfold vv;rw[if_neg,if_neg ω];simp only[List.any_eq_true,b8,not_exists,not_and];exact fun f hf=>Ql (h f hf)
theorem Dz{c:aa}{b:Int}(h:pI c b=true):gq c=true∧c.d9=0∧1≤b∧b≤400∧c.bO<1000000:=by
 simp only[pI,iv,bW,qH,Bool.not_eq_true',eG,b8]at h;obtain⟨⟨⟨h1,h2⟩,ao,aN⟩,b6⟩:=h;exact⟨h1,h2,ao,aN,by omega⟩
theorem aik{m:Nat}{c:aa}(hv:cI m c)(hm:m≤1000){b:Int}(h:oC c b=true) :
  me c b=(c5 c b).bY.flatMap dy∧(∀f∈(c5 c b).bY,d_ f=true)∧((me c b).length:Int)≤b∧me c b≠[]∧(gy c b).bO=c.bO+1∧jT (gy c b).an c.bO=(⟨c.bO,(c5 c b).bY⟩,true)∧nH c b=c.bO∧0≤c.bO:=by
 have aJ:=h;simp only[oC,bW,Bool.not_eq_true',eG]at h;obtain⟨hg,hne⟩:=h;obtain⟨cn,cG,d4,ic,la⟩:=Dz hg;have hc:=Am.1 cn;have bB:=Nz hv hm hc (b:=b) ω ω;have hs:=bB.sum;have hr:=bB.r0;have hn:=hc.num;have ag:me c b=(c5 c b).bY.flatMap dy:=by
  unfold me;rw[if_pos aJ];exact Un bB.ok ω
 have ai:gy c b={(c5 c b).x with an:=(c5 c b).x.an++[⟨c.bO,(c5 c b).bY⟩],bO:=i64.wrap (c.bO+1)}:=by
  unfold gy;rw[if_pos hg,if_neg hne]
 have Qn:=Jd c b;refine⟨ag,bB.ok,by rw[ag];omega,?_,?_,?_,by unfold nH;rw[if_pos aJ],by omega⟩
 ·rw[ag]
  cases o6:(c5 c b).bY with
  |nil=>exact absurd o6 hne
  |cons f l=>
   rw[List.flatMap_cons];intro e;exact Ql (bB.ok f (by rw[o6];simp)) (List.append_eq_nil_iff.1 e).1
 ·rw[ai]
  show i64.wrap (c.bO+1)=c.bO+1
  rw[bA]<;>omega
 ·rw[ai];simp only[Qn.p];unfold jT;have hp:=hc.i4;simp only[wa,K_]at hp;have Wl:c.an.find? (jU c.bO)=none:=by
   rw[List.find?_eq_none];intro p ES;have:=hp.1 p ES;simp only[qS,qH,bW]at this;rw[bA (n:=c.bO-1) ω ω]at this;simp only[jU,b8];omega
  rw[List.find?_append,Wl];simp[jU]
theorem aij{c:aa}{b:Int}(h:oC c b=false):me c b=[]∧(gy c b).an.length=c.an.length∧nH c b=-1:=by
 refine⟨by unfold me;rw[h];rfl,?_,by unfold nH;rw[h];rfl⟩;unfold gy;split
 ·rename_i hg;have hf:(c5 c b).bY=[]:=by
   simp only[oC,hg,Bool.true_and,Bool.not_eq_false',b8]at h;exact h
  rw[if_pos hf,(Jd c b).p]
 ·rfl
theorem aim{c:aa}(h:iZ c):c.cm.eg≤c.cm.aZ∧∀s∈c.ab,s.cV.eg≤s.cV.aZ:=by
 refine⟨by have:=A_.1 h.xa;omega,fun s hs=>?_⟩;have:=A_.1 (oE.1 (h.oD s hs)).2.CF;omega
theorem Yv{s:au}{B:Int}(hi:fA B s)(hB:B≤1000000){m l:Int}(h0:1≤m)(h1:m≤1000):gH s m l=gH s 1 l:=by
 have dc:=hi.dc;have ag:=hi.ag;unfold gH
 cases hr:s.aP[0]? with
 |none=>rfl
 |some r=>
  have hm:r∈s.aP:=List.mem_of_getElem? hr;have y9:=(gI _).1 (((h_ _).1 hi.p.1).1 r hm);have hr2:=hi.p.2 r hm;simp only;by_cases hl:r.low<cj r.high l
  ·have hh:cj r.high l≤r.high:=by unfold cj;split<;>omega
   have key:∀k:Int,1≤k→k≤1000→decide (r.low<hX r k l)=true:=fun k j_ k1=>by
    rw[b8];unfold hX;split
    ·have e:dp k 0=k:=by unfold dp;split<;>omega
     rw[e,bA]<;>omega
    ·exact hl
   rw[key m h0 h1,key 1 ω ω]
  ·rw[bm hl];simp
def zz(s:au)(id fr room:Int):Nat→bL×Bool
 |0=>(mf,false)
 |n+1=>if gH s (n+1:Nat) fr&&ca ((dy (gG id (eM s (n+1:Nat) fr))).length:Int) 1 room then(eM s (n+1:Nat) fr,true)else zz s id fr room n
theorem Yg{s:au}{id fr room:Int}{B:Int}(hi:fA B s)(hB:B≤1000000)(hq:bQ id=true):∀(n:Nat),n≤60→zz s id fr room n=oF s id fr room n
 |0,_=>rfl
 |n+1,hn=>by
  have dc:=hi.dc;have ag:=hi.ag;unfold zz oF;have Le:=Yv hi hB (m:=(n+1:Nat)) (l:=fr) ω ω
  cases hok:gH s (n+1:Nat) fr with
  |true=>
   obtain⟨k1,k2⟩:=Ym hi hB (m:=(n+1:Nat)) (l:=fr) ω ω hok;have fK:=DC (m:=(n+1:Nat)) (l:=fr) ω ω hi.p ω;have hf:d_ (gG id (eM s (n+1:Nat) fr))=true:=Yj hq k1 ω ω;have hne:=Ql hf;have GX:0<(dy (gG id (eM s (n+1:Nat) fr))).length:=List.length_pos_iff.2 hne;rw[if_pos rfl];by_cases hr:((dy (gG id (eM s (n+1:Nat) fr))).length:Int)≤room
   ·rw[if_pos hr,if_pos];rw[Bool.true_and,qH];omega
   ·rw[if_neg hr,if_neg,Yg hi hB hq n ω];rw[Bool.true_and,qH];omega
  |false=>
   rw[hok]at Le;rw[if_neg ξ,if_neg ξ];have key:∀k:Nat,k≤60→zz s id fr room k=(mf,false):=by
    intro k
    induction k with
    |zero=>intro _;rfl
    |succ k df=>
     intro hk;unfold zz;have:=Yv hi hB (m:=(k+1:Nat)) (l:=fr) ω ω;rw[this,←Le,Bool.false_and,if_neg ξ,df ω]
   exact key n ω
theorem Yw:∀(cz:List Int) (l:List b9),cz.foldl m7 l=l.filter fun c=>!cz.contains c.id
 |[],l=>(List.filter_eq_self.2 fun _ _=>rfl).symm
 |x::cz,l=>by
  rw[List.foldl_cons,Yw cz,m7,List.filter_filter];apply List.filter_congr;intro c _;rw[List.contains_cons];by_cases h:c.id=x
  ·simp[h]
  ·have:(c.id == x)=false:=by simpa using h
   simp[this,h]
def B3(x:aa)(skip:List Int):List b9:=(x.ab.filter fun s=>qk s&&!skip.contains s.id).map o8
theorem T2(q:nI):B3 q.x q.skip=y1 q:=by
 unfold y1 B3;rw[Yw,xC,List.filter_map,List.filter_filter]
 congr 1
 apply List.filter_congr;intro s _;simp only[Function.comp_apply,o8];rw[Bool.and_comm]
theorem Ti{m:Nat}(h:m<2^63):bitI .and .i64 (m:Int) 255=((m % 256:Nat):Int):=by
 have:=ab3 (m:=m) (k:=255) rfl rfl ω ω;rw[show Nat.land m 255=m % 256 from Nat.and_two_pow_sub_one_eq_mod m 8]at this;rw[show(255:Int)=((255:Nat):Int)from rfl,this,bA ω ω]
theorem S_{m k:Nat}{x y:Int}(hx:x=m)(hy:y=k)(hm:m<2^64)(hk:k<2^64):bitI .or .i64 x y=i64.wrap ((Nat.lor m k:Nat):Int):=by
 subst hx hy;unfold bitI;simp only
 congr 1
 have ag:BitVec.ofInt IntKind.i64.bits (m:Int)=BitVec.ofNat 64 m:=by rw[BitVec.ofInt_natCast];rfl
 have ar:BitVec.ofInt IntKind.i64.bits (k:Int)=BitVec.ofNat 64 k:=by rw[BitVec.ofInt_natCast];rfl
 rw[ag,ar];have ao:(HOr.hOr (BitVec.ofNat 64 m) (BitVec.ofNat 64 k)).toNat=Nat.lor m k:=by
  rw[BitVec.toNat_or,BitVec.toNat_ofNat,BitVec.toNat_ofNat,Nat.mod_eq_of_lt hm,Nat.mod_eq_of_lt hk];rfl
 exact congrArg Int.ofNat ao
theorem M0{m t i:Nat}(h:m<2^i):Nat.lor m (2^i * t)=m+2^i * t:=by
 have h1:=Nat.two_pow_add_eq_or_of_lt h t;have h2:Nat.lor m (2^i * t)=Nat.lor (2^i * t) m:=Nat.or_comm m (2^i * t);rw[h2];exact h1.symm.trans (Nat.add_comm _ _)
theorem M3{m t:Nat}(h:m<64)(ht:t=1∨t=2∨t=3):bitI .or .i64 (m:Int) ((64 * t:Nat):Int)=((m+64 * t:Nat):Int):=by
 rw[S_ (m:=m) (k:=64 * t) rfl rfl ω ω,show Nat.lor m (64 * t)=m+64 * t from M0 (i:=6) h,bA ω ω]
def vo(k:Nat):Nat:=if k=2 then 1 else if k=4 then 2 else if k=8 then 3 else 0
theorem Tg{n:Int}(h:bQ n=true):∃m k:Nat,n=(m:Int)∧jL n=(k:Int)∧(k=1∨k=2∨k=4∨k=8)∧m<2^(8 * k-2):=by
 have hq:=ov.1 h;obtain⟨m,rfl⟩:=kt hq.1;unfold jL;rw[if_neg ω];split
 ·exact⟨m,1,rfl,rfl,.inl rfl,by omega⟩
 ·split
  ·exact⟨m,2,rfl,rfl,.inr (.inl rfl),by omega⟩
  ·split
   ·exact⟨m,4,rfl,rfl,.inr (.inr (.inl rfl)),by omega⟩
   ·exact⟨m,8,rfl,rfl,.inr (.inr (.inr rfl)),by omega⟩
theorem M1(m p:Nat):((m:Int)).fdiv (p:Int)=((m / p:Nat):Int):=by
 rw[Int.fdiv_eq_ediv_of_nonneg _ (Int.natCast_nonneg p),Int.natCast_ediv]
theorem ab4{m k j:Nat}(hk:k=1∨k=2∨k=4∨k=8)(hm:m<2^(8 * k-2))(aK:j<k):Ab (m:Int) k j=((m / 2^(8 * j) % 256+(if j+1=k then 64 * vo k else 0):Nat):Int):=by
 have hb:m<2^62:=Nat.lt_of_lt_of_le hm (Nat.pow_le_pow_right ω ω);have Fx:min (8 * j) 64=8 * j:=by omega
 have e:((m:Int)).fdiv (2^min (8 * j) 64)=((m / 2^(8 * j):Nat):Int):=by
  rw[Fx,show((2:Int)^(8 * j))=((2^(8 * j):Nat):Int)by rw[Int.natCast_pow];rfl,M1]
 have bt:m / 2^(8 * j)≤m:=Nat.div_le_self _ _;unfold Ab;simp only;rw[e,Ti ω];split
 ·rename_i alA;have hlt:m / 2^(8 * j)<64:=by
   rw[Nat.div_lt_iff_lt_mul (Nat.pow_pos ω)];have:64 * 2^(8 * j)=2^(8 * k-2):=by
    rw[show(64:Nat)=2^6 from rfl,←Nat.pow_add]
    congr 1
    omega
   omega
  have BQ:m / 2^(8 * j) % 256=m / 2^(8 * j):=Nat.mod_eq_of_lt ω;rw[BQ];rcases hk with rfl|rfl|rfl|rfl
  ·rfl
  ·exact M3 (t:=1) hlt (.inl rfl)
  ·exact M3 (t:=2) hlt (.inr (.inl rfl))
  ·exact M3 (t:=3) hlt (.inr (.inr rfl))
 ·rfl
def ow(m k i:Nat):Nat:=m / 2^(8 * (k-1-i)) % 256+(if i=0 then 64 * vo k else 0)
theorem IV{m k i:Nat}(hk:k=1∨k=2∨k=4∨k=8)(hm:m<2^(8 * k-2)):ow m k i<256:=by
 unfold ow;split
 ·rename_i hi;subst hi;have hlt:m / 2^(8 * (k-1-0))<64:=by
   rw[Nat.div_lt_iff_lt_mul (Nat.pow_pos ω)];have:64 * 2^(8 * (k-1-0))=2^(8 * k-2):=by
    rw[show(64:Nat)=2^6 from rfl,←Nat.pow_add]
    congr 1
    omega
   omega
  have:vo k≤3:=by unfold vo;(repeat' split)<;>omega
  have BQ:m / 2^(8 * (k-1-0)) % 256=m / 2^(8 * (k-1-0)):=Nat.mod_eq_of_lt ω;rw[BQ];omega
 ·have:=Nat.mod_lt (m / 2^(8 * (k-1-i))) (show 0<256 by omega);omega
theorem Th{n:Int}{m k:Nat}(hn:n=(m:Int))(hs:jL n=(k:Int))(hk:k=1∨k=2∨k=4∨k=8)(hm:m<2^(8 * k-2)):bM n=(List.range k).map fun i=>UInt8.ofNat (ow m k i):=by
 subst hn;unfold bM wv;rw[hs,aE];apply List.map_congr_left;intro x hx;have hx:=List.mem_range.1 hx;have hb:=IV (i:=x) hk hm;rw[ab4 hk hm ω];have e:(if k-1-x+1=k then 64 * vo k else 0)=if x=0 then 64 * vo k else 0:=by
  by_cases h:x=0
  ·rw[if_pos h,if_pos ω]
  ·rw[if_neg h,if_neg ω]
 rw[e]
 show o3 (bitI .and .i64 ((ow m k x:Nat):Int) 255)=_
 rw[Ti ω,Nat.mod_eq_of_lt hb];rfl
def ox(m k i:Nat):Nat:=m / 2^(8 * (k-1-i))
theorem abY(m k:Nat):ox m k (k-1)=m:=by unfold ox;rw[Nat.sub_self,Nat.mul_zero,Nat.pow_zero,Nat.div_one]
theorem abV{m k i:Nat}(hi:i+1<k):ox m k (i+1)=ox m k i * 256+ow m k (i+1):=by
 have e:8 * (k-1-i)=8 * (k-1-(i+1))+8:=by omega
 unfold ox ow;rw[if_neg ω,e,Nat.pow_add,←Nat.div_div_eq_div_mul];have:=Nat.div_add_mod (m / 2^(8 * (k-1-(i+1)))) 256;have ab5:(2:Nat)^8=256:=rfl;rw[ab5];omega
theorem Ta{m k:Nat}(hk:k=1∨k=2∨k=4∨k=8)(hm:m<2^(8 * k-2)):ow m k 0 % 64=ox m k 0∧ow m k 0 / 64=vo k∧2^vo k=k∧ox m k 0<64:=by
 have hlt:m / 2^(8 * (k-1-0))<64:=by
  rw[Nat.div_lt_iff_lt_mul (Nat.pow_pos ω)];have:64 * 2^(8 * (k-1-0))=2^(8 * k-2):=by
   rw[show(64:Nat)=2^6 from rfl,←Nat.pow_add]
   congr 1
   omega
  omega
 have BQ:m / 2^(8 * (k-1-0)) % 256=m / 2^(8 * (k-1-0)):=Nat.mod_eq_of_lt ω;unfold ow ox;rw[if_pos rfl,BQ];refine⟨by omega,by omega,?_,hlt⟩;rcases hk with rfl|rfl|rfl|rfl<;>rfl
theorem abW{m k i:Nat}:ox m k i≤m:=Nat.div_le_self _ _
theorem Zi(n:Int):aL 210 [.one (.int .i64 n)] [.one (.int .i64 (jL n))]:=by
 refine a3 16 func210 call210 [.tmp 2] ?_;intro _
 cases aS:bQ n with
 |false=>
  have hs:jL n=0:=by
   unfold jL;rw[if_pos];by_cases h:n<0∨4611686018427387903<n
   ·exact h
   ·rw[ov.2 ω]at aS;cases aS
  try simp only[go_sem]
  repeat'(refine ae.intro (by apply pt) ?_<;>simp only[go_sem,aS])
  all_goals simp[hs]
 |true=>
  have hq:=ov.1 aS
  try simp only[go_sem]
  repeat'((first|refine ae.intro (by apply pt) ?_|refine bP (fun h=>?_) (fun h=>?_))<;>simp only[go_sem,aS])
  all_goals(simp only[b8,eG]at *;simp[jL, *];try omega)
def oS(m k j:Nat):List Int:=(List.range k).map fun i=>if k≤i+j then((m / 2^(8 * (k-1-i)) % 256:Nat):Int)else 0
theorem ajZ(m k:Nat):(oS m k 0).map eU8=List.replicate k (eU8 0):=by
 apply List.ext_getElem (by simp[oS]);intro i h1 h2;simp[oS]at h1;simp[oS];rw[if_neg ω]
theorem aj0{m k j:Nat}(aK:j<k):((oS m k j).map eU8).set (k-1-j) (eU8 ((m / 2^(8 * j) % 256:Nat):Int))=(oS m k (j+1)).map eU8:=by
 apply List.ext_getElem (by simp[oS]);intro i h1 h2;simp[oS]at h1;simp only[List.getElem_set,oS,List.getElem_map,List.getElem_range];by_cases h:k-1-j=i
 ·rw[if_pos h,if_pos ω];have:k-1-i=j:=by omega
  rw[this]
 ·rw[if_neg h];by_cases ao:k≤i+j
  ·rw[if_pos ao,if_pos ω]
  ·rw[if_neg ao,if_neg ω]
theorem aj1{m t:Nat}(h:m<64)(ht:t=1∨t=2∨t=3):bitI .or .u8 ((m:Nat):Int) ((64 * t:Nat):Int)=((m+64 * t:Nat):Int):=by
 have ag:BitVec.ofInt IntKind.u8.bits (m:Int)=BitVec.ofNat 8 m:=by rw[BitVec.ofInt_natCast];rfl
 have ar:BitVec.ofInt IntKind.u8.bits ((64 * t:Nat):Int)=BitVec.ofNat 8 (64 * t):=by rw[BitVec.ofInt_natCast];rfl
 unfold bitI;simp only;rw[ag,ar];have ao:(HOr.hOr (BitVec.ofNat 8 m) (BitVec.ofNat 8 (64 * t))).toNat=m+64 * t:=by
  rw[BitVec.toNat_or,BitVec.toNat_ofNat,BitVec.toNat_ofNat,Nat.mod_eq_of_lt ω,Nat.mod_eq_of_lt ω];exact M0 (i:=6) h
 refine(congrArg (fun z:Nat=>IntKind.u8.wrap (Int.ofNat z)) ao).trans ?_;rcases ht with rfl|rfl|rfl<;>(show IntKind.u8.wrap ((_:Nat):Int)=_;unfold IntKind.wrap;simp[IntKind.bits,IntKind.signed];omega)
theorem aj2(m:Nat):IntKind.u8.wrap ((m:Nat):Int)=((m % 256:Nat):Int):=by
 unfold IntKind.wrap;simp[IntKind.bits,IntKind.signed]
theorem Lt{α:Type}{l:List α}{x:α}:((x::l).length=1→l=[])∧((x::l).length=2→∃a,l=[a])∧((x::l).length=4→∃a b c,l=[a,b,c])∧((x::l).length=8→∃a b c d e f g,l=[a,b,c,d,e,f,g]):=by
 refine⟨fun h=>?_,fun h=>?_,fun h=>?_,fun h=>?_⟩
 ·match l,h with|[],_=>rfl
 ·match l,h with|[a],_=>exact⟨a,rfl⟩
 ·match l,h with|[a,b,c],_=>exact⟨a,b,c,rfl⟩
 ·match l,h with|[a,b,c,d,e,f,g],_=>exact⟨a,b,c,d,e,f,g,rfl⟩
theorem aj3{m k:Nat}(hk:k=1∨k=2∨k=4∨k=8)(hm:m<2^(8 * k-2)):∃z_:List Int,oS m k k=((m / 2^(8 * (k-1-0)) % 256:Nat):Int)::z_∧
  ((List.range k).map fun i=>UInt8.ofNat (ow m k i))=(((m / 2^(8 * (k-1-0)) % 256+64 * vo k:Nat):Int)::z_).map o3∧m / 2^(8 * (k-1-0)) % 256<64:=by
 have hz:=Ta hk hm;refine⟨(List.range (k-1)).map fun i=>((m / 2^(8 * (k-1-(i+1))) % 256:Nat):Int),?_,?_,?_⟩
 ·rcases hk with rfl|rfl|rfl|rfl<;>rfl
 ·rcases hk with rfl|rfl|rfl|rfl<;>rfl
 ·have:=hz.2.2.2;have:=hz.2.1;have h1:=hz.1;unfold ox at *;rw[Nat.mod_eq_of_lt ω];omega
theorem q6(n:Int):aL 161 [.one (.int .i64 n)] [.one (.str (bM n))]:=by
 refine a3 49 func161 call161 [.tmp 2] ?_;intro _
 cases aS:bQ n with
 |false=>
  have hs:jL n=0:=by
   unfold jL;rw[if_pos];by_cases h:n<0∨4611686018427387903<n
   ·exact h
   ·rw[ov.2 ω]at aS;cases aS
  have he:bM n=[]:=by have:=ajW n;rw[hs]at this;simpa using this
  try simp only[go_sem]
  repeat'(refine ae.intro (by apply Zi) ?_<;>simp only[go_sem,hs])
  all_goals simp[he]
 |true=>
  obtain⟨m,k,rfl,qZ,hk,hm⟩:=Tg aS;have ai:=Th rfl qZ hk hm;rw[ai];have y5:=bm (p:=(k:Int)=0) ω;have q2:i64.wrap ((k:Int)-1)=(k:Int)-1:=by rw[bA]<;>omega
  have hz:=ajZ m k;have hb:m<2^62:=Nat.lt_of_lt_of_le hm (Nat.pow_le_pow_right ω ω)
  try simp only[go_sem]
  repeat'(first|(refine ae.intro (by apply Zi) ?_<;>simp only[go_sem,qZ,y5,q2])|(with_reducible refine az ?_)|fail)
  refine cr.intro (fun j:Nat=>⟨(.i ((m / 2^(8 * j):Nat):Int)::.al::.al::.i (k:Int)::.sl 0 0 k::.i ((k:Int)-1-(j:Int))::aA 43 []),[.ah 1 ((oS m k j).map eU8) true]⟩)
   (fun j=>k-j) (fun j=>j≤k) 0 [0] ω ?_ ?_
  ·simp only[go_sem];simp[hz,eU8]
  ·intro j aK;have Ai:(oS m k j).length=k:=by simp[oS]
   by_cases h1:j<k
   ·have ax:=bC (p:=0≤(k:Int)-1-(j:Int)) ω;have ar:i64.wrap ((k:Int)-1-(j:Int)-1)=(k:Int)-1-((j+1:Nat):Int):=by rw[bA]<;>omega
    have ba:((k:Int)-1-(j:Int)).toNat=k-1-j:=by omega
    have qn:=aj0 (m:=m) h1;have Lu:=aj2 (m / 2^(8 * j));have Aa:shI .shr .i64 ((m / 2^(8 * j):Nat):Int) 8=some ((0:Int)≤8,.i ((m / 2^(8 * (j+1)):Nat):Int)):=by
     have:((m / 2^(8 * j):Nat):Int).fdiv (2^min (8:Int).toNat IntKind.i64.bits)=((m / 2^(8 * (j+1)):Nat):Int):=by
      rw[show((2:Int)^min (8:Int).toNat IntKind.i64.bits)=((2^8:Nat):Int)from rfl,M1,Nat.div_div_eq_div_mul,←Nat.pow_add]
      congr 3
     simp only[shI];rw[this]
    have pH:(List.map eU8 (oS m k j))[k-1-j]?=some (eU8 (oS m k j)[k-1-j]):=by rw[List.getElem?_map,cD (by rw[Ai];omega)];rfl
    have MZ:ofVal (.int .u64 8)=.d (.int .u64 8):=rfl;simp only[go_sem,ax,ba,Lu,I,Ai,pH,MZ,Aa];refine⟨⟨by omega,by omega⟩,⟨by omega,by simp[eU8],by simp⟩,?_⟩;refine bE.intro (j+1) [0] ω ω ?_;simp only[go_sem,ar];have aj4:∀(v:D) (x:Int),v::List.drop 1 (eU8 x)=[v]:=fun v x=>rfl;simp only[aj4];have aj5:((oS m k j).map eU8).set (k-1-j) [.int .u8 ((m / 2^(8 * j) % 256:Nat):Int)]=(oS m k (j+1)).map eU8:=qn;rw[aj5];simp
   ·have ax:=bm (p:=0≤(k:Int)-1-(j:Int)) ω;obtain rfl:j=k:=by omega
    simp only[go_sem,ax];obtain⟨z_,cn,cG,d4⟩:=aj3 hk hm;rw[cG];have Td:0<j:=by omega
    rw[cn]at Ai;rw[cn];generalize m / 2^(8 * (j-1-0)) % 256=pQ at *;have Dm:ofVal (.int .u8 64)=.d (.int .u8 64):=rfl;have QQ:ofVal (.int .u8 128)=.d (.int .u8 128):=rfl;have QR:ofVal (.int .u8 192)=.d (.int .u8 192):=rfl;have Dn:=fun t=>aj1 (t:=t) d4;rcases hk with rfl|rfl|rfl|rfl
    ·obtain rfl:=Lt.1 Ai;have fH:decide (((1:Nat):Int)=2)=false:=by decide
     have kF:decide (((1:Nat):Int)=4)=false:=by decide
     have rm:decide (((1:Nat):Int)=8)=false:=by decide
     simp only[go_sem,fH,kF,rm,eU8,eT,List.map_nil,dA,eI];rfl
    ·obtain⟨a,rfl⟩:=Lt.2.1 Ai;have fH:decide (((2:Nat):Int)=2)=true:=by decide
     have kF:decide (((2:Nat):Int)=4)=false:=by decide
     have rm:decide (((2:Nat):Int)=8)=false:=by decide
     have aJ:=Dn 1 ω;simp only[Nat.reduceMul,Int.cast_ofNat_Int]at aJ;simp only[go_sem,fH,eU8,eT,List.map_nil,dA,eI,eW,List.set_cons_zero,Dm,aJ];exact⟨by decide,by decide,by simp,rfl⟩
    ·obtain⟨a,b,c,rfl⟩:=Lt.2.2.1 Ai;have fH:decide (((4:Nat):Int)=2)=false:=by decide
     have kF:decide (((4:Nat):Int)=4)=true:=by decide
     have rm:decide (((4:Nat):Int)=8)=false:=by decide
     have aJ:=Dn 2 ω;simp only[Nat.reduceMul,Int.cast_ofNat_Int]at aJ;simp only[go_sem,fH,kF,eU8,eT,List.map_nil,dA,eI,eW,List.set_cons_zero,QQ,aJ];exact⟨by decide,by decide,by simp,rfl,rfl⟩
    ·obtain⟨a,b,c,d,e,f,g,rfl⟩:=Lt.2.2.2 Ai;have fH:decide (((8:Nat):Int)=2)=false:=by decide
     have kF:decide (((8:Nat):Int)=4)=false:=by decide
     have rm:decide (((8:Nat):Int)=8)=true:=by decide
     have aJ:=Dn 3 ω;simp only[Nat.reduceMul,Int.cast_ofNat_Int]at aJ;simp only[go_sem,fH,kF,rm,eU8,eT,List.map_nil,dA,eI,eW,List.set_cons_zero,QR,aJ];exact⟨by decide,by decide,by simp,rfl,rfl⟩
def Ul:List (List bR):=cS 14 [4694423,4694434,4694428,4694409,4753768,4753606,4756360,4754902,4779688,4766566,4723960,4605822,4251528,3188646]
def Jl:List (List bR):=cS 12 [521627,521638,521632,521613,528484,528322,531076,529618,524920,511758,472392,354294]
def FX:List (List bR):=cS 17 [126925826,127011238,127011232,127011214,126984916,127014277,127013791,127012333,127007920,126994798,126955351,126837252,128874442,127811560,124357194,114791256,86093442]
def FY:List (List bR):=cS 10 [56012,56131,56125,56107,56053,55890,58684,57226,52488,39366]
def NO:List (List bR):=cS 9 [19346,19357,19351,19332,19642,19480,18954,17496,13122]
def FZ:List (List bR):=cS 13 [1566986,1567726,1567720,1568065,1568011,1567849,1567351,1565892,1591042,1577920,1535274,1417176,1062882]
attribute [go_sem] Ul Jl FX FY NO FZ
theorem adN{α β:Type}(f:α→List β)(l:List α)(i:Nat):((l.take i).flatMap f).length≤(l.flatMap f).length:=by
 conv=>rhs;rw[←List.take_append_drop i l,List.flatMap_append,dY]
 omega
theorem NP(l:List Int)(hl:l.length≤8)(hq:∀n∈l,bQ n=true):aL 160 [.one (.sl 1 (l.map aR))] [.one (.str (l.flatMap bM))]:=by
 refine a3 21 func160 call160 [.tmp 2] ?_;intro ok;have hm:=fI ok;clear ok;simp only[go_sem,I];refine cr.intro (fun i:Nat=>⟨(aA 3 (.d (.str ((l.take i).flatMap bM))::.al::.al::.d (.sl 1 (l.map aR))::.i l.length::.i i::aA 12 [])),[]⟩)
   (fun i=>l.length-i) (fun i=>i≤l.length) 0 [] ω ?_ ?_
 ·simp only[go_sem];simp
 ·intro i hi;by_cases h1:i<l.length
  ·have ax:=bC (p:=(i:Int)<(l.length:Int)) ω;have aB:=cq aR l i h1;have hw:=dX h1 hm;have e:=Fu bM l i h1;have g6:=FV bM 8 (l.take i) (fun x _=>vB x);have cM:(l.take i).length=i:=by simp;omega
   have hx:=vB l[i];have m6:=hq _ (eS h1);generalize (l.take i).flatMap bM=hF at e g6
   try simp only[go_sem,I,aE,aB,aR,ax]
   repeat'(first|(refine ae.intro (by first|apply pt|apply q6) ?_<;>simp only[go_sem,m6,bN])|(with_reducible refine az ?_)|fail)
   all_goals(refine bE.intro (i+1) [] ω ω ?_;simp only[go_sem,hw,e];try simp)
  ·have ax:=bm (p:=(i:Int)<(l.length:Int)) ω;obtain rfl:i=l.length:=by omega
   simp only[go_sem,ax,d3]
theorem adO(n:Int):aL 159 [.one (.int .i64 n)] [.one (.str [UInt8.ofNat (IntKind.u8.wrap n).toNat])]:=by
 refine a3 7 func159 call159 [.tmp 2] ?_;intro _;simp only[go_sem]
theorem adP{k:Int}(h:0≤k)(h2:k<64):[UInt8.ofNat (IntKind.u8.wrap k).toNat]=bM k:=by
 obtain⟨m,rfl⟩:=kt h;have hm:m<64:=by omega
 revert hm
 revert m
 intro m h h2 hm;have:∀j:Fin 64,[UInt8.ofNat (IntKind.u8.wrap ((j.val:Nat):Int)).toNat]=bM ((j.val:Nat):Int):=by decide
 exact this ⟨m,hm⟩
theorem Um(eZ eR e_:Int)(eU:List UInt8)(fG:Bool)(fy fv fR:Int)(fV:Bool):aL 76 [.agg [.int .i64 eZ,.int .i64 eR,.int .i64 e_,.str eU,.bool fG,.int .i64 fy,.int .i64 fv,.int .i64 fR,.bool fV]] [.one (.str (dy (⟨eZ,eR,e_,eU,fG,fy,fv,fR,fV⟩:aq)))]:=by
 refine a3 110 func76 call76 [.tmp 2] ?_;intro ok;clear ok
 cases bB:d_ (⟨eZ,eR,e_,eU,fG,fy,fv,fR,fV⟩:aq)with
 |false=>
  have ai:dy (⟨eZ,eR,e_,eU,fG,fy,fv,fR,fV⟩:aq)=[]:=by unfold dy;rw[bB];rfl
  rw[ai]
  try simp only[go_sem]
  repeat'(refine ae.intro (by apply oo) ?_<;>simp only[go_sem,bB])
 |true=>
  obtain⟨h1,h2,ao,aN,b6,dP,gY,e9,j4,o2⟩:=z' bB;have y5:=Dl h1;rw[Fs bB];simp only at ao aN b6 dP gY e9 j4 o2 y5;have hd:bQ (eU.length:Int)=true:=ov.2 ω;have jy:=vB eR;have j5:=vB e_;have y3:=vB fy;have Ji:=vB fv;have aoW:=vB fR;have aoX:=vB (eU.length:Int);have bu:=NP [eR,fy,fR] ξ (by simp[ao,b6,gY]);have bX:=NP [eR,fy] ξ (by simp[ao,b6]);have bD:=NP [eR,fv] ξ (by simp[ao,dP]);simp only[eT,List.map_nil,aR,List.flatMap_cons,List.flatMap_nil,gm]at bD bX bu;have hk:∀k:Int,0≤k→k<64→aL 159 [.one (.int .i64 k)] [.one (.str (bM k))]:=fun k h h2=>by
   have:=adO k
   rwa [adP h h2]at this
  have ql:∀k:Int,(bM k).length≤8:=vB;rcases y5 with rfl|rfl|rfl|rfl|rfl|rfl|rfl|rfl|rfl
  ·have f:=hk 4 ω ω;have q7:=ql 4
   try simp only[go_sem]
   repeat'(first|((first|refine ae.intro (by first|assumption|apply oo) ?_|refine ay.intro ‹_› ?_|refine bo Ul χ ψ ?_)<;>simp only[go_sem,bB,bN,eJ])|(with_reducible refine az ?_)|fail)
   first|rfl|exact⟨by simp only[maxLen];omega,rfl⟩
  ·have f:=hk 5 ω ω;have q7:=ql 5
   try simp only[go_sem]
   repeat'(first|((first|refine ae.intro (by first|assumption|apply oo) ?_|refine ay.intro ‹_› ?_|refine bo Jl χ ψ ?_)<;>simp only[go_sem,bB,bN,Int.reduceEq,eJ,eQ])|(with_reducible refine az ?_)|fail)
   first|rfl|exact⟨by simp only[maxLen];omega,rfl⟩
  ·have adQ:i64.wrap 10=10∧i64.wrap 11=11∧i64.wrap 14=14∧i64.wrap 15=15∧i64.wrap 0=0∧i64.wrap 4=4:=⟨rfl,rfl,rfl,rfl,rfl,rfl⟩;obtain⟨Ar,As,At,Au,Av,Aw⟩:=adQ;have dZ:oneB true=1:=rfl;have n':oneB false=0:=rfl;by_cases aJ:e_=0
   ·have dc:decide (e_≠0)=false:=by simp[aJ]
    cases fG with
    |false=>
     have f:=hk 10 ω ω;have q7:=ql 10
     try simp only[go_sem]
     repeat'(first|((first|refine ae.intro (by first|assumption|apply oo) ?_|refine ay.intro (by first|assumption|apply y6|apply q6) ?_|refine bo FX χ ψ ?_|refine bo FY χ ψ ?_)<;>simp only[go_sem,bB,bN,Int.reduceEq,eJ,eQ,dc,n',Ar,Av,Int.reduceAdd,Int.reduceMul])|(with_reducible refine az ?_)|fail)
     simp[gL,aJ]
    |true=>
     have f:=hk 11 ω ω;have q7:=ql 11
     try simp only[go_sem]
     repeat'(first|((first|refine ae.intro (by first|assumption|apply oo) ?_|refine ay.intro (by first|assumption|apply y6|apply q6) ?_|refine bo FX χ ψ ?_|refine bo FY χ ψ ?_)<;>simp only[go_sem,bB,bN,Int.reduceEq,eJ,eQ,dc,n',dZ,As,Av,Int.reduceAdd,Int.reduceMul])|(with_reducible refine az ?_)|fail)
     simp[gL,aJ]
   ·have dc:decide (e_≠0)=true:=by simp[aJ]
    cases fG with
    |false=>
     have f:=hk 14 ω ω;have q7:=ql 14
     try simp only[go_sem]
     repeat'(first|((first|refine ae.intro (by first|assumption|apply oo|apply q6) ?_|refine ay.intro (by first|assumption|apply y6|apply q6) ?_|refine bo FX χ ψ ?_|refine bo FY χ ψ ?_)<;>simp only[go_sem,bB,bN,Int.reduceEq,eJ,eQ,dc,n',dZ,Ar,At,Aw,Int.reduceAdd,Int.reduceMul])|(with_reducible refine az ?_)|fail)
     simp[gL,aJ]
    |true=>
     have f:=hk 15 ω ω;have q7:=ql 15
     try simp only[go_sem]
     repeat'(first|((first|refine ae.intro (by first|assumption|apply oo|apply q6) ?_|refine ay.intro (by first|assumption|apply y6|apply q6) ?_|refine bo FX χ ψ ?_|refine bo FY χ ψ ?_)<;>simp only[go_sem,bB,bN,Int.reduceEq,eJ,eQ,dc,dZ,As,Au,Aw,Int.reduceAdd,Int.reduceMul])|(with_reducible refine az ?_)|fail)
     simp[gL,aJ]
  ·have f:=hk 16 ω ω;have q7:=ql 16
   try simp only[go_sem]
   repeat'(first|((first|refine ae.intro (by first|assumption|apply oo) ?_|refine ay.intro (by first|assumption|apply q6) ?_|refine bo NO χ ψ ?_)<;>simp only[go_sem,bB,bN,Int.reduceEq,eJ,eQ])|(with_reducible refine az ?_)|fail)
   first|rfl|exact⟨by simp only[maxLen];omega,rfl⟩
  ·have f:=hk 17 ω ω;have q7:=ql 17
   try simp only[go_sem]
   repeat'(first|((first|refine ae.intro (by first|assumption|apply oo) ?_|refine ay.intro ‹_› ?_|refine bo Jl χ ψ ?_)<;>simp only[go_sem,bB,bN,Int.reduceEq,eJ,eQ])|(with_reducible refine az ?_)|fail)
   first|rfl|exact⟨by simp only[maxLen];omega,rfl⟩
  ·have dZ:oneB true=1:=rfl;have n':oneB false=0:=rfl;have w0:i64.wrap 18=18:=rfl;have cE:i64.wrap 19=19:=rfl
   cases fV with
   |false=>
    have f:=hk 18 ω ω;have q7:=ql 18
    try simp only[go_sem]
    repeat'(first|((first|refine ae.intro (by first|assumption|apply oo) ?_|refine ay.intro (by first|assumption|apply y6|apply q6) ?_|refine bo FZ χ ψ ?_)<;>simp only[go_sem,bB,bN,Int.reduceEq,eQ,n',w0,Int.add_zero])|(with_reducible refine az ?_)|fail)
    rfl
   |true=>
    have f:=hk 19 ω ω;have q7:=ql 19
    try simp only[go_sem]
    repeat'(first|((first|refine ae.intro (by first|assumption|apply oo) ?_|refine ay.intro (by first|assumption|apply y6|apply q6) ?_|refine bo FZ χ ψ ?_)<;>simp only[go_sem,bB,bN,Int.reduceEq,eQ,dZ,cE,Int.reduceAdd])|(with_reducible refine az ?_)|fail)
    rfl
  ·have f:=hk 20 ω ω;have q7:=ql 20
   try simp only[go_sem]
   repeat'(first|((first|refine ae.intro (by first|assumption|apply oo) ?_|refine ay.intro (by first|assumption|apply q6) ?_|refine bo NO χ ψ ?_)<;>simp only[go_sem,bB,bN,Int.reduceEq,eJ,eQ])|(with_reducible refine az ?_)|fail)
   first|rfl|exact⟨by simp only[maxLen];omega,rfl⟩
  ·have f:=hk 21 ω ω;have q7:=ql 21
   try simp only[go_sem]
   repeat'(first|((first|refine ae.intro (by first|assumption|apply oo) ?_|refine ay.intro ‹_› ?_|refine bo Jl χ ψ ?_)<;>simp only[go_sem,bB,bN,Int.reduceEq,eJ,eQ])|(with_reducible refine az ?_)|fail)
   first|rfl|exact⟨by simp only[maxLen];omega,rfl⟩
  ·have dZ:oneB true=1:=rfl;have n':oneB false=0:=rfl;have w0:i64.wrap 22=22:=rfl;have cE:i64.wrap 23=23:=rfl
   cases fV with
   |false=>
    have f:=hk 22 ω ω;have q7:=ql 22
    try simp only[go_sem]
    repeat'(first|((first|refine ae.intro (by first|assumption|apply oo) ?_|refine ay.intro (by first|assumption|apply y6|apply q6) ?_|refine bo FZ χ ψ ?_)<;>simp only[go_sem,bB,bN,Int.reduceEq,eQ,n',w0,Int.add_zero])|(with_reducible refine az ?_)|fail)
    rfl
   |true=>
    have f:=hk 23 ω ω;have q7:=ql 23
    try simp only[go_sem]
    repeat'(first|((first|refine ae.intro (by first|assumption|apply oo) ?_|refine ay.intro (by first|assumption|apply y6|apply q6) ?_|refine bo FZ χ ψ ?_)<;>simp only[go_sem,bB,bN,Int.reduceEq,eQ,dZ,cE,Int.reduceAdd])|(with_reducible refine az ?_)|fail)
    rfl
theorem Jb(eZ eR e_:Int)(eU:List UInt8)(fG:Bool)(fy fv fR:Int)(fV:Bool)(_:eU.length≤1048576):aL 21 [.agg [.int .i64 eZ,.int .i64 eR,.int .i64 e_,.str eU,.bool fG,.int .i64 fy,.int .i64 fv,.int .i64 fR,.bool fV]] [.one (.int .i64 (((dy (⟨eZ,eR,e_,eU,fG,fy,fv,fR,fV⟩:aq)).length:Int)))]:=by
 refine a3 6 func21 call21 [.tmp 2] ?_;intro ok;clear ok
 try simp only[go_sem]
 repeat'(refine ae.intro (by apply Um) ?_<;>simp only[go_sem])
theorem ads(l:List aq)(hf:∀f∈l,d_ f=true)(hl:(l.flatMap dy).length≤400):aL 38 [.one (.sl 9 (l.map aq.enc))] [.one (.str (vv l))]:=by
 refine a3 24 func38 call38 [.tmp 2] ?_;intro ok;have hm:=fI ok;clear ok;rw[Un hf hl];simp only[go_sem,I];refine cr.intro (fun i:Nat=>⟨(aA 3 (.d (.str ((l.take i).flatMap dy))::.al::.al::.d (.sl 9 (l.map aq.enc))::.i l.length::.i i::aA 15 [])),[]⟩)
   (fun i=>l.length-i) (fun i=>i≤l.length) 0 [] ω ?_ ?_
 ·simp only[go_sem];simp
 ·intro i hi;by_cases h1:i<l.length
  ·have ax:=bC (p:=(i:Int)<(l.length:Int)) ω;have aB:=cq aq.enc l i h1;have hw:=dX h1 hm;have e:=Fu dy l i h1;have g6:=adN dy l (i+1);rw[e,dY]at g6;have m6:=hf _ (eS h1);have hd:=(z' m6).2.2.2.2.2.2.2.1;generalize (l.take i).flatMap dy=hF at e g6;generalize l[i]=f at *;have vl:=oo f.bp f.aC f.aH f.data f.aW f.c4 f.aZ f.br f.ft;have adR:=Um f.bp f.aC f.aH f.data f.aW f.c4 f.aZ f.br f.ft;change PureCall _ _ _ [.one (.bool (d_ f))]at vl;change PureCall _ _ _ [.one (.str (dy f))]at adR;rw[m6]at vl;have aN:=bm (p:=400<((hF.length+(dy f).length:Nat):Int)) ω
   try simp only[go_sem,I,aE,aB,aq.enc,ax]
   repeat'(first|((first|refine ae.intro ‹_› ?_|refine ay.intro ‹_› ?_)<;>simp only[go_sem,bN,aN])|(with_reducible refine az ?_)|fail)
   all_goals(refine bE.intro (i+1) [] ω ω ?_;simp only[go_sem,hw,e];try simp)
  ·have ax:=bm (p:=(i:Int)<(l.length:Int)) ω;obtain rfl:i=l.length:=by omega
   simp only[go_sem,ax,d3]
def Yb:List (List bR):=cS 12 [501929,501927,501921,521950,521896,521734,531076,529618,525244,511771,472392,354294]
attribute [go_sem] Yb
theorem aiQ{s:au}(h:nW s=true)(hf:s.aW=1):0≤s.br∧s.br≤4611686018427387903:=by
 simp only[nW,bW,b8]at h;have hr:=qz (Qb h.1);simp only[e1,bW]at h;obtain⟨⟨_,h1⟩,h2⟩:=h;have aN:km s=false:=by
  unfold km;rw[bm ω,bm ω];rfl
 rw[aN]at h1;simp only[Bool.false_eq_true,if_false,bW]at h1;have Yc:=h1.1.2;simp only[zy,hf,bW,Bool.not_eq_true',Bool.and_eq_false_iff,eG]at Yc;obtain⟨eH,fU⟩:=Yc;have:decide (s.br=-1)=false:=by simpa using eH
 have b6:=c2 this;have:s.br=s.av.cu:=by
  rcases fU with g|g
  ·exact absurd b6 g
  ·exact Classical.not_not.1 g
 omega
theorem aiR{r:J}{m l n:Int}(h0:0≤r.low)(h1:r.low<r.high)(h2:r.high≤4611686018427387903)(hm:1≤m)(xr:m≤1000)(hl:r.low<l)(hn:n=if m<r.high-r.low then m else r.high-r.low) :
  r.low<cj r.high l∧hX r m l=r.low+(if l<r.low+n then l-r.low else n)∧0<(if l<r.low+n then l-r.low else n)∧(if l<r.low+n then l-r.low else n)≤r.high-r.low:=by
 have Qc:cj r.high l=if l<r.high then l else r.high:=rfl
 have aiS:dp m 0=m:=by unfold dp;split<;>omega
 have xg:r.low<cj r.high l:=by rw[Qc];split<;>omega
 have Qa:cj r.high l≤r.high:=by rw[Qc];split<;>omega
 refine⟨xg,?_,?_,?_⟩
 ·unfold hX;rw[bA (n:=cj r.high l-r.low) ω ω,aiS,bA (n:=r.low+m) ω ω,Qc,hn]
  repeat' split
  all_goals omega
 ·rw[hn];repeat' split
  all_goals omega
 ·rw[hn];repeat' split
  all_goals omega
theorem XK{s:au}(h:e1 s=true){r:J}(hr:r∈s.aP):0≤r.low∧r.low<r.high∧r.high≤4611686018427387903:=by
 simp only[e1,j',bW,fJ]at h;exact(gI _).1 (((h_ _).1 h.2.1).1 r hr)
theorem aiT{S:List Bool}(h:S.length=17):∃e8 cB cJ ct eA fb fs fT gK g2 iF nm nn np nq nr pq,S=[e8,cB,cJ,ct,eA,fb,fs,fT,gK,g2,iF,nm,nn,np,nq,nr,pq]:=by
 match S,h with|[e8,cB,cJ,ct,eA,fb,fs,fT,gK,g2,iF,nm,nn,np,nq,nr,pq],_=>exact⟨e8,cB,cJ,ct,eA,fb,fs,fT,gK,g2,iF,nm,nn,np,nq,nr,pq,rfl⟩
def Qd(s:au)(m l:Int)(S:List Bool):St:=⟨(.al::.i m::.i l::.ptr 0 0 0::.al::.al::.ptr 1 0 0::(aw S 16 (.d (.bool (decide (s.aW=1)))))::aA 8 (.ptr 0 0 5::.d (.sl 2 (s.aP.map J.enc))::.i s.aP.length::.d (.bool true)::(aw S 0 (.ptr 0 0 8))::(aw S 1 (.i s.br))::(bif S.getD 2 false then .i (if 0>s.br then 0 else s.br)else .al)::(aw S 3 (.ptr 0 0 9))::(aw S 4 (.i s.aW))::(aw S 5 (.d (.bool (decide (s.aW=1)))))::(aw S 6 (.i (oneB (decide (s.aW=1)))))::(bif S.getD 7 false then .i (i64.wrap ((if 0>s.br then 0 else s.br) * oneB (decide (s.aW=1))))else .al)::(aw S 8 (.ptr 0 0 9))::(aw S 9 (.i s.aW))::(aw S 10 (.d (.bool (decide (s.aW=1)))))::(bif S.getD 11 false then .agg [.i (i64.wrap ((if 0>s.br then 0 else s.br) * oneB (decide (s.aW=1)))),.d (.str []),.d (.bool (decide (s.aW=1)))]else .al)::(aw S 12 (.ptr 0 0 9))::(aw S 13 (.i s.aW))::(aw S 14 (.d (.bool (decide (s.aW=1)))))::aA 54 [])),[.box (au.bT s),.box [(bif S.getD 15 false then .i (i64.wrap ((if 0>s.br then 0 else s.br) * oneB (decide (s.aW=1))))else .i 0),.d (.str []),(bif S.getD 15 false then .d (.bool (decide (s.aW=1)))else .d (.bool false))]]⟩
theorem aiU(s:au)(m l:Int)(hc:s.aP.length+s.aM.length+s.a0.length≤524288)(hn:wo s)(h0:1≤m)(h1:m≤1000):aL 65 [.agg (au.enc s),.one (.int .i64 m),.one (.int .i64 l)] [.agg [.int .i64 ((eM s m l)).aH,.str ((eM s m l)).data,.bool ((eM s m l)).aW],.one (.bool (gH s m l))]:=by
 refine om 89 func65 call65 [.cell 6 70,.tmp 7] ?_;intro ok;clear ok;have A9:=Yd (s:=s) hn;have as5:aL 128 [.agg (au.enc s)] [.one (.bool (nW s))]:=by rw[←A9];apply Qe;exact hc
 change iB _ _ _ _ (b3 (g8 _ _ (vA s m l)) .mk) [] (b3 (g8 _ _ (vA s m l)) .mk);refine e2 b2 2 (α:=Unit) (fun _=>⟨(.al::.i m::.i l::.ptr 0 0 0::.al::.al::.ptr 1 0 0::aA 82 []),[.box (au.bT s),.box [.i 0,.d (.str []),.d (.bool false)]]⟩) (fun _=>nW s=true) ?_ ?_
 ·skip
  try simp only[go_sem]
  repeat'((first|refine ae.intro ‹_› ?_|refine ay.intro ‹_› ?_)<;>simp only[go_sem])
  cases bH:nW s with
  |false=>
   rw[CE (by simp[gH,bH])];simp only[go_sem,cR]
  |true=>
   simp only[go_sem,bN];refine dm.intro () [0,1] (by first|trivial|exact bH) ?_;simp only[go_sem];simp
 rintro _ bH;refine lx b2 ?_;have hw:=bH;simp only[nW,bW,b8]at hw;by_cases hp:s.aP=[]
 ·have ar:decide ((s.aP.length:Int)=0)=true:=by rw[hp];rfl
  simp only[go_sem,I,ar];refine gC _ (ia (fun S σ=>σ=Qd s m l S) (N:=17) rfl rfl rfl ?_) ?_
  ·repeat'(first|exact jW|refine jX ?_ ?_)
   all_goals(
    rintro S σ F hl a1 hp hcl rfl bB;obtain⟨ib,dW,ek,dt,eF,jE,kb,kc,ks,ns,pr,yD,yE,yF,yG,yH,zR,rfl⟩:=aiT hl;simp only[fm,eW,b4]at a1;subst a1;simp[ix,Region.binds]at hp
    repeat(obtain⟨eu,hp⟩:=hp;subst eu)
    try subst hp
    try obtain rfl:=bd (hcl 0 1 _ rfl ζ rfl)
    try obtain rfl:=bd (hcl 1 2 _ rfl ζ rfl)
    try obtain rfl:=bd (hcl 2 7 _ rfl ζ rfl)
    try obtain rfl:=bd (hcl 3 4 _ rfl ζ rfl)
    try obtain rfl:=bd (hcl 4 5 _ rfl ζ rfl)
    try obtain rfl:=bd (hcl 5 6 _ rfl ζ rfl)
    try obtain rfl:=bd (hcl 6 7 _ rfl ζ rfl)
    try obtain rfl:=bd (hcl 7 11 _ rfl ζ rfl)
    try obtain rfl:=bd (hcl 8 9 _ rfl ζ rfl)
    try obtain rfl:=bd (hcl 9 10 _ rfl ζ rfl)
    try obtain rfl:=bd (hcl 10 11 _ rfl ζ rfl)
    try obtain rfl:=bd (hcl 11 15 _ rfl ζ rfl)
    try obtain rfl:=bd (hcl 12 13 _ rfl ζ rfl)
    try obtain rfl:=bd (hcl 13 14 _ rfl ζ rfl)
    try obtain rfl:=bd (hcl 14 16 _ rfl ζ rfl)
    try obtain rfl:=bd (hcl 15 16 _ rfl ζ rfl)
    simp only[Qd,aw,e3,e0,c_,dK]
    repeat'(first
      |exact bB _ rfl
      |(with_reducible refine az ?_)
      |(refine ae.intro (y6 _) ?_)
      |simp only[go_sem,bz,bx]))
  rintro _ rfl;simp only[Qd,List.replicate,aw,e3,e0,c_];simp only[go_sem];by_cases hf:s.aW=1
  ·obtain⟨eH,fU⟩:=aiQ bH hf;rw[Ye bH hp hf];have:(if 0>s.br then 0 else s.br)=s.br:=if_neg ω;have e:i64.wrap ((if 0>s.br then 0 else s.br) * oneB (decide (s.aW=1)))=s.br:=by
    rw[this,bC hf,show oneB true=1 from rfl,Int.mul_one,bA]<;>omega
   rw[e,bC hf]
  ·rw[CE (by simp[gH,bH,hp,hf])];have e:i64.wrap ((if 0>s.br then 0 else s.br) * oneB (decide (s.aW=1)))=0:=by
    rw[bm hf,show oneB false=0 from rfl,Int.mul_zero];rfl
   rw[e,bm hf]
 ·have fK:0<s.aP.length:=List.length_pos_iff.2 hp;have ar:=bm (p:=(s.aP.length:Int)=0) ω;have iL:=cq J.enc s.aP 0 fK;have hr:s.aP[0]?=some s.aP[0]:=cD fK;have hb:=XK hw.1 (eS fK);generalize s.aP[0]=r at iL hr hb;have cE:i64.wrap (r.high-r.low)=r.high-r.low:=by rw[bA]<;>omega
  obtain⟨n,hn⟩:∃n,n=if m<r.high-r.low then m else r.high-r.low:=⟨_,rfl⟩
  have we:1≤n∧n≤1000:=by rw[hn];split<;>omega
  have fZ:i64.wrap (r.low+n)=r.low+n:=by rw[bA]<;>omega
  have Cw:=fun k=>Qf s.av.size s.av.base s.av.cu s.av.cells r.low k
  try simp only[go_sem,I,ar,iL,J.enc,el,cE,←hn]
  repeat'(first|(with_reducible refine az ?_)|fail)
  cases ep:decide (l≤r.low)with
  |true=>
   rw[CE (by have:=cQ ep;simp only[gH,bH,hr,Bool.true_and,Bool.and_eq_false_iff,eG];left;unfold cj;split<;>omega)];simp only[go_sem]
  |false=>
   obtain⟨bD,bX,bu,bS⟩:=aiR (l:=l) hb.1 hb.2.1 hb.2.2 h0 h1 (by have:=c2 ep;omega) hn;simp only[go_sem,fZ]
   cases eE:decide (l<r.low+n)with
   |true=>
    have pZ:=cQ eE;rw[if_pos pZ]at bX bu bS;have ny:i64.wrap (l-r.low)=l-r.low:=by rw[bA]<;>omega
    have E_:i64.wrap (r.low+(l-r.low))=r.low+(l-r.low):=by rw[bA]<;>omega
    have c6:=bm (p:=l-r.low≤0) ω;rw[Qg bH hr bD (by rw[bX];omega),bX,show r.low+(l-r.low)-r.low=l-r.low by omega,ny]
    try simp only[go_sem,ny,c6]
    repeat'((first|refine ae.intro (by first|assumption|apply Qf) ?_|refine ay.intro ‹_› ?_|refine bw ?_)<;>simp only[go_sem,E_])
    all_goals(first|omega|(cases decide (s.aW=1)<;>rfl)|trace_state)
   |false=>
    have pZ:=c2 eE;rw[if_neg pZ]at bX bu bS;have ny:i64.wrap n=n:=by rw[bA]<;>omega
    have c6:=bm (p:=n≤0) ω;rw[Qg bH hr bD (by rw[bX];omega),bX,show r.low+n-r.low=n by omega,ny]
    try simp only[go_sem,c6]
    repeat'((first|refine ae.intro (by first|assumption|apply Qf) ?_|refine ay.intro ‹_› ?_|refine bw ?_)<;>simp only[go_sem,fZ])
    all_goals(first|omega|(cases decide (s.aW=1)<;>rfl)|trace_state)
theorem B0{m:Nat}{c:aa}(hv:cI m c):∀s∈c.ab,wo s.ak:=fun s hs=>(hv.ml s hs).snd.agW
theorem Jg(i b_:Int)(bZ:List UInt8)(cb:Bool):aL 22 [.one (.int .i64 i),.agg [.int .i64 b_,.str bZ,.bool cb]] [.agg (aq.enc (gG i (⟨b_,bZ,cb⟩:bL)))]:=by
 refine a3 13 func22 call22 [.cell 4 82] ?_;intro _
 try simp only[go_sem]
 all_goals simp[gG]
theorem aiV(room:Int):(if room<60 then room else 60)=cj room 60:=by unfold cj;(repeat' split)<;>omega
theorem T4(c:aa)(id room:Int)(m:Nat)(hv:cI m c)(hm:m≤20):aL 14 [.agg (aa.enc c),.one (.int .i64 id),.one (.int .i64 room)] [.agg [.int .i64 ((iX c id room).1).aH,.str ((iX c id room).1).data,.bool ((iX c id room).1).aW],.one (.bool (iX c id room).2)]:=by
 refine a3 80 func14 call14 [.cell 6 70,.tmp 7] ?_;intro ok;clear ok;have hz:=hv.sz hm;have Ev:=Jf c.ab id;have zx:=Hr c hz;rw[←Di (B0 hv)]at zx;have bq:iX c id room=if vz c id room then oF (aO c id).ak id (Aq c (aO c id)) room (cj room 60).toNat else(mf,false):=rfl
 have b7:vz c id room=(gq c&&(cf c.ab id).2&&(aO c id).fF&&!decide (room<3)):=rfl;rcases oq (fp id) c.ab with ⟨h1,h2⟩|⟨i,hi,h1,h2,ao⟩
 ·rw[h1]at Ev;have hs:(cf c.ab id).2=false:=by unfold cf;rw[h2]
  rw[hs,Bool.and_false,Bool.false_and,Bool.false_and]at b7;rw[b7]at bq;have ag:decide ((-1:Int)<0)=true:=by decide
  cases aS:gq c with
  |false=>
   rw[aS]at zx
   try simp only[go_sem]
   repeat'((first|refine ae.intro ‹_› ?_|refine ay.intro ‹_› ?_|with_reducible refine eB ?_)<;>simp only[go_sem,cR])
   simp[bq,mf]
  |true=>
   rw[aS]at zx
   try simp only[go_sem]
   repeat'((first|refine ae.intro ‹_› ?_|refine ay.intro ‹_› ?_|with_reducible refine cN ?_|with_reducible refine eB ?_)<;>simp only[go_sem,bN])
   simp[bq,mf]
 ·rw[h1]at Ev;have hs:(cf c.ab id).2=true:=by unfold cf;rw[h2]
  obtain⟨aX,dF⟩:∃aX,aX=c.ab[i]:=⟨_,rfl⟩;have A1:aX∈c.ab:=dF▸eS hi;have aB:=cq af.enc c.ab i hi;rw[←dF]at aB;have Ap:aO c id=aX:=by rw[dF];exact IA h1 hi
  have gg:aX.id=id:=by rw[dF];exact IC h1 hi
  rw[Ap]at b7 bq;rw[hs,Bool.and_true]at b7;obtain⟨dW,ek,dt,eF⟩:=hz.2.1 aX A1;have Qh:=(hv.ml aX A1).snd;have aiW:=B0 hv aX A1;have ag:=bm (p:=(i:Int)<0) ω;have P6:∀b q r:Bool,(bif bif bif !b then true else false then true else !q then true else r)=!(b&&q&&!r):=by intro b q r;cases b<;>cases q<;>cases r<;>rfl
  try simp only[go_sem]
  repeat'(first|((first|refine ae.intro ‹_› ?_|refine ay.intro ‹_› ?_|refine bw ?_)<;>simp only[go_sem,I,ag,aE,aB,af.enc])|(with_reducible refine az ?_)|fail)
  rw[P6,←b7]
  cases hg:vz c id room with
  |false=>
   rw[hg]at bq;simp only[go_sem,cR];simp[bq,mf]
  |true=>
   rw[hg,if_pos rfl]at bq;rw[hg]at b7;have wk:3≤room∧gq c=true:=by
    simp only[Bool.true_eq,bW,Bool.not_eq_true',eG]at b7;exact⟨by omega,b7.1.1⟩
   have hq:bQ id=true:=by
    have:=(oE.1 ((Am.1 wk.2).oD aX A1)).2.q
    rwa [gg]at this
   try simp only[go_sem,I,bN,aE,aB,af.enc]
   repeat'(first|((first|refine ae.intro ‹_› ?_|refine ay.intro (by first|assumption|apply aiJ) ?_|refine bo Yb χ ψ ?_)<;>simp only[go_sem])|(with_reducible refine az ?_)|fail)
   have Yf:=aiV room;obtain⟨N,bH⟩:=kt (show 0≤cj room 60 by unfold cj;split<;>omega);have adA:cj room 60≤60:=by unfold cj;split<;>omega
   have Jh:N≤60:=by omega
   rw[bH,aE]at bq;rw[bH]at Yf;have FR:(if i64.wrap (aX.ak.cw+wE c.cm)<aX.cV.aZ then i64.wrap (aX.ak.cw+wE c.cm)else aX.cV.aZ)=Aq c aX:=rfl;generalize Aq c aX=fr at *;rw[←Yg Qh ω hq N Jh]at bq;refine cr.intro (fun n:Nat=>⟨(.al::.i id::.i room::aA 3 (.ptr 1 0 0::.al::.al::.ptr 2 0 0::.i fr::.i n::aA 68 [])),[.box (aa.bT c),.box [.i 0,.d (.str []),.d (.bool false)],.box (af.bT aX)]⟩)
    (fun n=>n) (fun n=>n≤60∧zz aX.ak id fr room n=iX c id room) N [0,1,2] ⟨Jh,bq.symm⟩ ?_ ?_
   ·simp only[go_sem];simp[Yf,FR]
   ·rintro n ⟨hn,ai⟩
    cases n with
    |zero=>
     have hd:decide ((1:Int)≤((0:Nat):Int))=false:=by decide
     simp only[go_sem,hd];rw[zz]at ai;rw[←ai];simp[mf]
    |succ k=>
     have hd:=bC (p:=(1:Int)≤((k+1:Nat):Int)) ω;have hw:i64.wrap (((k+1:Nat):Int)-1)=(k:Int):=by rw[bA]<;>omega
     rw[zz]at ai;have Hw:=aiU aX.ak ((k+1:Nat):Int) fr ω aiW ω ω;have fD:=DC (m:=((k+1:Nat):Int)) (l:=fr) ω ω Qh.p (by have:=Qh.ag;omega);generalize hp:eM aX.ak ((k+1:Nat):Int) fr=p at *;have B2:=Jb 8 id p.aH p.data p.aW 0 0 0 false ω;change PureCall _ _ _ [.one (.int .i64 ((dy (gG id p)).length:Int))]at B2
     try simp only[go_sem,hd]
     repeat'((first|refine ae.intro ‹_› ?_|refine ay.intro (by first|assumption|apply Jg|apply jt) ?_|refine bw ?_)<;>simp only[go_sem,gG])
     have G5:∀b q:Bool,(bif b then q else false)=(b&&q):=by intro b q;cases b<;>rfl
     rw[G5];change (if gH aX.ak ((k+1:Nat):Int) fr&&ca ((dy ⟨8,id,p.aH,p.data,p.aW,0,0,0,false⟩).length:Int) 1 room then(p,true)else zz aX.ak id fr room k)=_ at ai;generalize (gH aX.ak ((k+1:Nat):Int) fr&&ca ((dy ⟨8,id,p.aH,p.data,p.aW,0,0,0,false⟩).length:Int) 1 room)=q at *
     cases q with
     |true=>
      rw[if_pos rfl]at ai;rw[←ai];simp only[go_sem]
      try simp[outOA]
     |false=>
      rw[if_neg ξ]at ai;simp only[go_sem];refine bE.intro k [0,1,2] ⟨by omega,ai⟩ ω ?_;simp only[go_sem,hw];simp
def gU:H:=.box au.cc
def nh:H:=.box [.i 0,.d (.str []),.d (.bool false)]
theorem Hx{kv:List V}{hs:List H}{n:Nat}(hn:hs.length=n)(hr:dB n hs)(bJ:bk n kv)(y:au)(a:Nat)(ha:n≤a){ex:List H}{K:V→List H→Prop}(ag:a5 (hs++ex) a=.ah 1 (y.av.cells.map aR) true)(ar:a5 (hs++ex) (a+1)=.ah 2 (y.aP.map J.enc) true)(ba:a5 (hs++ex) (a+2)=.ah 2 (y.aM.map J.enc) true)(bF:a5 (hs++ex) (a+3)=.ah 2 (y.a0.map J.enc) true)
  (cd:K (kL y n) (hs++ka y)):oW kv K (kL y a) (hs++ex):=by
 subst hn;refine⟨List.range hs.length++[a,a+1,a+2,a+3],kL y hs.length,hs++ka y,?_,cd⟩;refine BD (hs:=hs) (ex:=ex) [a,a+1,a+2,a+3] ξ (by simp;omega) hr ?_ (by simp[lV,hok,ka]) bJ ?_ ?_
 ·simp only[ka,hsees,ag,ar,ba,bF];simp[hsee]
 ·have h1:=nB hs.length 0 [a,a+1,a+2,a+3];have h2:=nB hs.length 1 [a,a+1,a+2,a+3];have ao:=nB hs.length 2 [a,a+1,a+2,a+3];have aN:=nB hs.length 3 [a,a+1,a+2,a+3];simp only[Nat.add_zero,e0,e3]at h1 h2 ao aN;simp[kL,vsees,vsee,ren,rens]
 ·simp[kL,ka,bk,vok]
theorem ah5{ts kv:List V}(Mx:qT (List.range 10) 10 ts)(bJ:bk 4 kv){bb bD c bu bS:H}(h0:cA 10 bb)(h1:cA 10 bD)(hc:cA 10 c)(ao:cA 10 bu)(aN:cA 10 bS)(cs:List V)(hcs:cs.length=12)(x:au) :
  lC (ts++kv) (List.range 10) ⟨[.ptr 2 0 0,kL x 6],bb::bD::c::bu::bS::.box cs::ka x⟩ ⟨[.ptr 2 0 0,kL x 6],bb::bD::c::bu::bS::.box (List.replicate 12 .al)::ka x⟩:=by
 have hf:o0 (List.range 10) 10:=yI (fE _);refine⟨List.nodup_range,?_,⟨wj hf h0,wj hf h1,wj hf hc,wj hf ao,wj hf aN,hcs▸My _ cs,⟨rfl,rfl,rfl⟩,⟨rfl,rfl,rfl⟩,⟨rfl,rfl,rfl⟩,⟨rfl,rfl,rfl⟩,trivial⟩,?_,?_,Mw Mx (u_ hf (by simp[ka]) (ly ω _ bJ))⟩
 ·simp[kL,vsees,vsee,ren,rens,List.range,List.range.loop]
 ·simp[kL,ka,bk,vok]
 ·exact BE (xs:=bb::bD::c::bu::bS::.box (List.replicate 12 .al)::ka x) ⟨h0,h1,hc,ao,aN,Fc _ _,trivial,trivial,trivial,trivial,trivial⟩
theorem ah6(bs:List Int)(hm:bs.length≤maxLen)(i:Nat)(h:Int)(bb bD bu:H)(hq:cA 4 bb∧cA 4 bD∧cA 4 bu)(kv:List V)(bJ:bk 4 kv)(K:V→List H→Prop)(hi:i≤bs.length)
  (hk:∀(cF:Nat) (h':Int) (y:au),cF≤bs.length→fA 112 y→K (kL y 4) ([bb,bD,cv bs cF h',bu]++ka y)):d6 prog 200 kv [bb,bD,cv bs i h,bu] [.ptr 2 0 0] K:=by
 have ah7:∀ts:List V,bk 5 ts→bk 5 (ts++kv):=fun ts h=>v9 h (ly ω kv bJ);have IF:∀(cF:Nat) (h':Int),dB 4 [bb,bD,cv bs cF h',bu]:=fun cF h'=>⟨hq.1,hq.2.1,by simp[cv,cA,bk,vok],hq.2.2,trivial⟩;have ah8:∀(cF:Nat) (h':Int),dB 5 [bb,bD,cv bs cF h',bu,gU]:=fun cF h'=>⟨jV ω _ hq.1,jV ω _ hq.2.1,by simp[cv,cA,bk,vok],jV ω _ hq.2.2,by simp[gU,cA,bk,vok],trivial⟩;have w_:cA 10 bb∧cA 10 bD∧cA 10 bu:=⟨jV ω _ hq.1,jV ω _ hq.2.1,jV ω _ hq.2.2⟩;refine d6.n2 ?_;refine(fY (n:=23) (rs:=[.cell 2 57]) func200 rfl call200 b2 rfl rfl ?_);simp only[go_sem];refine ae.inl (yB bs hm i h [bb,bD] [bu,gU,.ah 1 ([4,8,16].map aR) true] _ 2 [4,8,16] rfl ζ ζ _ hi fun f2 h1 n cB db=>?_);simp only[go_sem,bz,bx];have bH:aL 246 [.one (.int .i64 n)] [.agg (au.enc ((pD n))),.one (.bool (nS n))]:=XJ n;have aS:fA 0 (pD n):=W9 ω n;generalize pD n=x at bH aS;refine ae.intro bH ?_;simp only[go_sem,I,bz,bx];refine ae.inl (g1 bs hm f2 h1 [bb,bD] [bu,gU,.ah 1 ([4,8,16].map aR) true,.ah 1 ((x).av.cells.map aR) true,.ah 2 ((x).aP.map J.enc) true,.ah 2 ((x).aM.map J.enc) true,.ah 2 ((x).a0.map J.enc) true,.box (au.aG (x) (.sl 6 0 (x).av.cells.length) (.sl 7 0 (x).aP.length) (.sl 8 0 (x).aM.length) (.sl 9 0 (x).a0.length))] _ 14 ω ω _ cB fun jH aN k eA je qX=>?_);obtain⟨k,rfl⟩:=kt je;simp only[go_sem,bz,bx];refine cr.intro (α:=Nat×Int×au×Nat) (fun y=>⟨(.ptr 2 0 0::.al::.ptr 4 0 0::.ptr 5 0 0::.al::.i y.2.2.2::aA 17 []),[bb,bD,cv bs y.1 y.2.1,bu,gU,.box (au.aG (y.2.2.1) (.sl 6 0 (y.2.2.1).av.cells.length) (.sl 7 0 (y.2.2.1).aP.length) (.sl 8 0 (y.2.2.1).aM.length) (.sl 9 0 (y.2.2.1).a0.length)),.ah 1 ((y.2.2.1).av.cells.map aR) true,.ah 2 ((y.2.2.1).aP.map J.enc) true,.ah 2 ((y.2.2.1).aM.map J.enc) true,.ah 2 ((y.2.2.1).a0.map J.enc) true]⟩)
  (fun y=>y.2.2.2) (fun y=>y.1≤bs.length∧y.2.2.2≤14∧fA (8 * (14-y.2.2.2:Nat)) y.2.2.1) (jH,aN,x,k) [0,1,2,3,4,10,6,7,8,9] ⟨eA,by simp only;omega,aS.mono ω⟩ ?_ ?_
 ·refine BD (hs:=[bb,bD,cv bs jH aN,bu,gU]) (ex:=[.ah 1 ([4,8,16].map aR) true,.ah 1 ((x).av.cells.map aR) true,.ah 2 ((x).aP.map J.enc) true,.ah 2 ((x).aM.map J.enc) true,.ah 2 ((x).a0.map J.enc) true,.box (au.aG (x) (.sl 6 0 (x).av.cells.length) (.sl 7 0 (x).aP.length) (.sl 8 0 (x).aM.length) (.sl 9 0 (x).a0.length))]) (ex':=[.box (au.aG (x) (.sl 6 0 (x).av.cells.length) (.sl 7 0 (x).aP.length) (.sl 8 0 (x).aM.length) (.sl 9 0 (x).a0.length)),.ah 1 ((x).av.cells.map aR) true,.ah 2 ((x).aP.map J.enc) true,.ah 2 ((x).aM.map J.enc) true,.ah 2 ((x).a0.map J.enc) true]) [10,6,7,8,9] ζ ξ (ah8 _ _) ?_ (by simp[lV,hok,bk,vok]) (ah7 [] trivial) ?_ ?_
  ·simp[hsees,hsee,a5,vsees,vsee,ren,List.range,List.range.loop]
  ·simp[vsees,vsee,ren,List.range,List.range.loop]
  ·simp[bk,vok]
 ·rintro⟨xn,b6,x,n⟩ ⟨BG,hn,hd⟩;simp only at BG hn hd;simp only[go_sem]
  cases n with
  |zero=>
   rw[show decide ((0:Int)<((0:Nat):Int))=false from rfl];simp only[go_sem,gU];exact Hx (n:=4) (hs:=[bb,bD,cv bs xn b6,bu]) (ex:=[_,_,_,_,_,_]) rfl (IF _ _) bJ x 6 ω rfl rfl rfl rfl (hk _ _ _ BG hd)
  |succ n=>
   rw[show decide ((0:Int)<((n+1:Nat):Int))=true from bC ω];simp only[go_sem];refine ae.jD [0,2,3,5] (by simp only[hZ,List.elem_cons,List.elem_nil,Nat.reduceBEq,Nat.reduceAdd,c_,dK];rfl) (d6.BH (ah5 (by simp[qT,vsee,vok,ren,List.range,List.range.loop]) bJ w_.1 w_.2.1 (by simp[cv,cA,bk,vok]) w_.2.2 (by simp[gU,cA,bk,vok]) _ rfl x) (ahO bs hm xn b6 x _ hd ω bb bD bu gU (.box (List.replicate 12 .al)) ⟨jV ω _ hq.1,jV ω _ hq.2.1,jV ω _ hq.2.2,by simp[gU,cA,bk,vok],Fc 6 12⟩ _ (v9 (by simp[bk,vok]) (ly ω kv bJ)) _ BG fun yP dP y fs hy=>?_));simp only[go_sem,kL,ka,List.replicate,dA,eI,bz,bx];rw[show i64.wrap (((n+1:Nat):Int)-1)=(n:Int)by rw[bA]<;>omega];refine bE.intro (yP,dP,y,n) (List.range 10) ⟨fs,by simp only;omega,by simp only;exact hy.mono ω⟩ (Nat.lt_succ_self n) ?_;refine Ff (hs:=[bb,bD,cv bs yP dP,bu,gU,.box (au.aG (y) (.sl 6 0 (y).av.cells.length) (.sl 7 0 (y).aP.length) (.sl 8 0 (y).aM.length) (.sl 9 0 (y).a0.length)),.ah 1 ((y).av.cells.map aR) true,.ah 2 ((y).aP.map J.enc) true,.ah 2 ((y).aM.map J.enc) true,.ah 2 ((y).a0.map J.enc) true]) ⟨w_.1,w_.2.1,by simp[cv,cA,bk,vok],w_.2.2,by simp[gU,cA,bk,vok],by simp[cA,bk,vok],trivial,trivial,trivial,trivial,trivial⟩ (ly ξ kv bJ) ?_ ?_
   ·simp[vsees,vsee,ren,List.range,List.range.loop]
   ·simp[bk,vok]
theorem Tm(bs:List Int)(hm:bs.length≤maxLen)(i:Nat)(h:Int)(pre bG:List H)(kv:List V)(n:Nat)(hn:pre.length+(bG.length+1)=n)(hr:dB n pre∧dB n bG)(bJ:bk n kv)(K:V→List H→Prop)(hi:i≤bs.length)
  (hk:∀(cF:Nat) (h' x:Int),cF≤bs.length→K (.i x) (pre++cv bs cF h'::bG)):d6 prog 124 kv (pre++cv bs i h::bG) [.ptr pre.length 0 0] K:=by
 have aW:∀(cF:Nat) (h' x:Int) (ex:List H),cF≤bs.length→oW kv K (.i x) (pre++cv bs cF h'::(bG++ex)):=by
  intro cF h' x ex dC;subst hn;exact⟨List.range (pre.length+(bG.length+1)),.i x,pre++cv bs cF h'::bG,Fl hr bJ (by simp only[vsees,vsee,ren,and_true]) (by simp[bk,vok]),hk cF h' x dC⟩
 refine d6.n2 ?_;refine(fY (n:=10) (rs:=[.tmp 2]) func124 rfl call124 b2 rfl rfl ?_);simp only[go_sem];refine ae.inl (p' bs hm i h pre bG _ 8 ω ω _ hi fun f2 h1 db cB=>?_);simp only[go_sem]
 cases db with
 |true=>
  simp only[go_sem,l1,gX,gf,hM];refine ae.inl (yB bs hm f2 h1 pre (bG++[.ah 1 ([-1,4611686018427387903,4611686018427387904].map aR) true]) _ bG.length [-1,4611686018427387903,4611686018427387904] (by rw[hM];rfl) ζ ζ _ cB fun dG h2 x2 cJ cW=>?_);simp only[go_sem];exact aW dG h2 x2 _ cJ
 |false=>
  simp only[go_sem];refine ae.inl (g1 bs hm f2 h1 pre bG _ 20 ω ω _ cB fun dG h2 x2 cJ cW eE=>?_);simp only[go_sem];have:=aW dG h2 x2 [] cJ
  rwa [gm]at this
def M5(bs:List Int)(bb:H)(x:aa)(i:Nat)(h:Int)(z:Nat×Int)(S:List Bool):St:=⟨[.ptr 1 0 0,.agg (aa.aG x (.sl 2 0 x.ab.length) (.sl 3 0 x.an.length)),.al,.ptr 5 0 0,(bif S.getD 10 false then .i z.2 else .i 0),.ptr 5 0 17,.sl 2 0 x.ab.length,.i x.ab.length,.d (.bool true),.d (.bool true),.ptr 1 0 0,.d (.bool false),.d (.bool true),.d (.bool true),(aw S 0 (.ptr 5 0 17)),(aw S 1 (.sl 2 0 x.ab.length)),(aw S 2 (.ptr 1 0 0)),(aw S 3 (.ptr 5 0 17)),(aw S 4 (.sl 2 0 x.ab.length)),(aw S 5 (.i x.ab.length)),(aw S 6 (.i z.1)),(aw S 7 (.ptr 2 z.1 0)),(aw S 8 (.ptr 2 z.1 0)),(aw S 9 (.i z.2)),.al,.al],[bb,cv bs i h,.ah 39 (x.ab.map af.enc) true,.ah 2 (x.an.map aT.enc) true,.box (aa.aG x (.sl 2 0 x.ab.length) (.sl 3 0 x.an.length)),.box (aa.aG x (.sl 2 0 x.ab.length) (.sl 3 0 x.an.length))]⟩
theorem acb(bs:List Int)(hm:bs.length≤maxLen)(i:Nat)(h:Int)(x:aa)(hl:x.ab.length≤1000)(bb:H)(hq:cA 5 bb)(kv:List V)(bJ:bk 5 kv)(K:V→List H→Prop)(hi:i≤bs.length)
  (hk:∀(cF:Nat) (h' id:Int),cF≤bs.length→K (.i id) [bb,cv bs cF h',.ah 39 (x.ab.map af.enc) true,.ah 2 (x.an.map aT.enc) true,.box (aa.aG x (.sl 2 0 x.ab.length) (.sl 3 0 x.an.length))]):d6 prog 61 kv [bb,cv bs i h,.ah 39 (x.ab.map af.enc) true,.ah 2 (x.an.map aT.enc) true,.box (aa.aG x (.sl 2 0 x.ab.length) (.sl 3 0 x.an.length))] [.ptr 1 0 0,.agg (aa.aG x (.sl 2 0 x.ab.length) (.sl 3 0 x.an.length))] K:=by
 have aW:∀(cF:Nat) (h' id:Int) (ex:List H),cF≤bs.length→oW kv K (.i id) ([bb,cv bs cF h',.ah 39 (x.ab.map af.enc) true,.ah 2 (x.an.map aT.enc) true,.box (aa.aG x (.sl 2 0 x.ab.length) (.sl 3 0 x.an.length))]++ex):=by
  intro cF h' id ex dC;refine⟨List.range 5,.i id,_,zS (hs:=[bb,cv bs cF h',.ah 39 (x.ab.map af.enc) true,.ah 2 (x.an.map aT.enc) true,.box (aa.aG x (.sl 2 0 x.ab.length) (.sl 3 0 x.an.length))]) ?_ bJ (by simp only[vsees,vsee,ren,and_true]) (by simp[bk,vok]),hk cF h' id dC⟩;exact⟨hq,by simp[cv,cA,bk,vok],by simp[dB,cA,bk,vok]⟩
 refine d6.n2 ?_;refine(fY (n:=26) (rs:=[.tmp 4]) func61 rfl call61 b2 rfl rfl ?_);simp only[go_sem];have Tn:dB 6 [bb]∧dB 6 [.ah 39 (x.ab.map af.enc) true,.ah 2 (x.an.map aT.enc) true,.box (aa.aG x (.sl 2 0 x.ab.length) (.sl 3 0 x.an.length)),.box (aa.aG x (.sl 2 0 x.ab.length) (.sl 3 0 x.an.length))]:=⟨⟨jV ω _ hq,trivial⟩,by simp[dB,cA,bk,vok]⟩
 cases iL:decide (0<(x.ab.length:Int))with
 |false=>
  refine eB ?_;simp only[go_sem];refine eB ?_;simp only[go_sem]
  try(refine eB ?_;simp only[go_sem])
  refine ae.inl (Tm bs hm i h [bb] [.ah 39 (x.ab.map af.enc) true,.ah 2 (x.an.map aT.enc) true,.box (aa.aG x (.sl 2 0 x.ab.length) (.sl 3 0 x.an.length)),.box (aa.aG x (.sl 2 0 x.ab.length) (.sl 3 0 x.an.length))] _ 6 rfl Tn (v9 (by simp[bk,vok]) (ly ω kv bJ)) _ hi fun dG h2 x2 cJ=>?_);simp only[go_sem,bz,bx];exact aW dG h2 x2 [_] cJ
 |true=>
  have E3:=cQ iL;refine cN ?_;simp only[go_sem];refine cN ?_;simp only[go_sem];refine ae.inl (p' bs hm i h [bb] [.ah 39 (x.ab.map af.enc) true,.ah 2 (x.an.map aT.enc) true,.box (aa.aG x (.sl 2 0 x.ab.length) (.sl 3 0 x.an.length)),.box (aa.aG x (.sl 2 0 x.ab.length) (.sl 3 0 x.an.length))] _ 5 ω ω _ hi fun f2 h1 db cB=>?_)
  cases db with
  |true=>
   simp only[go_sem,bz,bx]
   try(refine cN ?_;simp only[go_sem])
   refine ae.inl (Tm bs hm f2 h1 [bb] [.ah 39 (x.ab.map af.enc) true,.ah 2 (x.an.map aT.enc) true,.box (aa.aG x (.sl 2 0 x.ab.length) (.sl 3 0 x.an.length)),.box (aa.aG x (.sl 2 0 x.ab.length) (.sl 3 0 x.an.length))] _ 6 rfl Tn (v9 (by simp[bk,vok]) (ly ω kv bJ)) _ cB fun dG h2 x2 cJ=>?_);simp only[go_sem,bz,bx];exact aW dG h2 x2 [_] cJ
  |false=>
   simp only[go_sem,bz,bx]
   try(refine cN ?_;simp only[go_sem])
   refine gC _ (ia (fun S σ=>∃i h z,i≤bs.length∧(z.1<x.ab.length∧((x.ab[z.1]?).getD lD).id=z.2)∧σ=M5 bs bb x i h z S) (N:=11) rfl rfl ⟨f2,h1,(0,((x.ab[0]?).getD lD).id),‹_›,by first|assumption|(simp;done)|exact⟨by omega,rfl⟩,rfl⟩ ?_) ?_
   ·repeat'(first|exact jW|refine jX ?_ ?_)
    all_goals(
     rintro S σ F hl a1 hp hcl ⟨e4,eX,z,dC,hc,rfl⟩ bB;obtain⟨ib,dW,ek,dt,eF,jE,kb,kc,ks,ns,pr,rfl⟩:=M6 hl;simp only[fm,eW,b4]at a1;subst a1;simp[ix,Region.binds]at hp
     repeat(obtain⟨eu,hp⟩:=hp;subst eu)
     try subst hp
     have aB:=cq af.enc x.ab z.1 hc.1;have nF:=hc.2;have hc1:=hc.1;rw[cD hc.1,fh]at nF;simp only[M5,aw,e3,e0,c_,dK]
     repeat'(first
       |exact bB _ ⟨e4,eX,z,dC,hc,rfl⟩
       |(refine cN ?_)
       |(refine eB ?_)
       |(obtain rfl:=bd (hcl 6 7 _ rfl ζ rfl);obtain rfl:=bd (hcl 7 8 _ rfl ζ rfl);obtain rfl:=bd (hcl 8 9 _ rfl ζ rfl);obtain rfl:=bd (hcl 9 10 _ rfl ζ rfl);simp only[dK];refine ae.inl (g1 bs hm e4 eX [bb] [.ah 39 (x.ab.map af.enc) true,.ah 2 (x.an.map aT.enc) true,.box (aa.aG x (.sl 2 0 x.ab.length) (.sl 3 0 x.an.length)),.box (aa.aG x (.sl 2 0 x.ab.length) (.sl 3 0 x.an.length))] _ (x.ab.length:Int) ω ω _ dC fun dV ao gx ct c8 hE=>?_);obtain⟨dR,rfl⟩:=kt c8;simp only[go_sem,fM];exact bB _ ⟨_,_,(dR,((x.ab[dR]?).getD lD).id),‹_›,⟨by omega,rfl⟩,rfl⟩)
       |(refine⟨⟨by omega,by omega⟩,?_⟩)
       |(refine⟨hc1,?_⟩)
       |simp only[go_sem,I,aB,nF,af.enc,aE]))
   rintro _ ⟨jH,aN,z,oy,hc,rfl⟩;simp only[M5,List.replicate,aw,e3,e0,c_];simp only[go_sem];exact aW jH aN z.2 [_] oy
theorem aca{S:List Bool}(h:S.length=8):∃e8 cB cJ ct eA fb fs fT,S=[e8,cB,cJ,ct,eA,fb,fs,fT]:=by
 match S,h with|[e8,cB,cJ,ct,eA,fb,fs,fT],_=>exact⟨e8,cB,cJ,ct,eA,fb,fs,fT,rfl⟩
def M4(bs:List Int)(x:aa)(id:Int)(i:Nat)(h z:Int)(S:List Bool):St:=⟨[.d (.sl 1 (bs.map eU8)),.al,.ptr 0 0 0,(bif S.getD 6 false then .i id else .i 0),(bif S.getD 7 false then .i (i64.wrap (z-1))else .i 0),.ptr 1 0 0,.ptr 4 0 0,.i id,.d (.sl 1 (bs.map eU8)),.ptr 1 0 0,.ptr 1 0 0,.agg (aa.aG x (.sl 2 0 x.ab.length) (.sl 3 0 x.an.length)),.ptr 1 0 0,.agg (aa.aG x (.sl 2 0 x.ab.length) (.sl 3 0 x.an.length)),.i id,(aw S 0 (.agg (aa.aG x (.sl 2 0 x.ab.length) (.sl 3 0 x.an.length)))),(aw S 1 (.i id)),(aw S 2 (.ptr 1 0 0)),(aw S 3 (.i z)),(aw S 4 (.i (i64.wrap (z-1))))],[(bif S.getD 5 false then .box (aa.aG x (.sl 2 0 x.ab.length) (.sl 3 0 x.an.length))else .box aa.cc),cv bs i h,.ah 39 (x.ab.map af.enc) true,.ah 2 (x.an.map aT.enc) true,.box (aa.aG x (.sl 2 0 x.ab.length) (.sl 3 0 x.an.length))]⟩
theorem Tl(bs:List Int):wx prog 13 [.one (.sl 1 (bs.map eU8))] (fun rs=>∃(x:aa) (id k:Int),zP x∧rs=[.agg (aa.enc x),.one (.int .i64 id),.one (.int .i64 k)]):=by
 refine Ds func13 rfl call13 b2 (.d (.sl 1 (bs.map eU8))::List.replicate 19 .al) rfl [.cell 2 37,.tmp 3,.tmp 4] rfl ?_;intro ok;have hm:=fI ok;simp only[List.replicate];simp only[go_sem];refine ae.inl (Fp bs hm [h3] _ (by simp[h3,dB,cA,bk,vok]) (by simp[bk,vok]) _ fun h1=>?_);simp only[go_sem,bz,bx];refine ae.inl (L2 bs hm 0 h1 h3 (by simp[h3,cA,bk,vok]) _ (by simp[bk,vok]) _ ω fun dG h2 x cJ b5=>?_);have aS:=b5.qa;have hl:x.ab.length≤1000:=by have:=aS.l2;omega
 simp only[go_sem,jb,jr,h3,I,bz,bx];refine ae.inl (acb bs hm dG h2 x hl (.box aa.cc) (by simp[cA,bk,vok]) _ (by simp[bk,vok]) _ cJ fun dV ao id ct=>?_);simp only[go_sem];refine gC _ (ia (fun S σ=>∃i h z,i≤bs.length∧True∧σ=M4 bs x id i h z S) (N:=8) rfl rfl ⟨dV,ao,0,‹_›,trivial,rfl⟩ ?_) ?_
 ·repeat'(first|exact jW|refine jX ?_ ?_)
  all_goals(
   rintro S σ F hl a1 hp hcl ⟨e4,eX,z,dC,hc,rfl⟩ bB;obtain⟨ib,dW,ek,dt,eF,jE,kb,kc,rfl⟩:=aca hl;simp only[fm,eW,b4]at a1;subst a1;simp[ix,Region.binds]at hp
   repeat(obtain⟨eu,hp⟩:=hp;subst eu)
   try subst hp
   simp only[M4,aw,e3,e0,c_,dK]
   repeat'(first
     |exact bB _ ⟨e4,eX,z,dC,hc,rfl⟩
     |(refine cN ?_)
     |(refine eB ?_)
     |(obtain rfl:=bd (hcl 3 4 _ rfl ζ rfl);obtain rfl:=bd (hcl 3 5 _ rfl ζ rfl);obtain rfl:=bd (hcl 5 6 _ rfl ζ rfl);obtain rfl:=bd (hcl 4 7 _ rfl ζ rfl);simp only[dK];refine ae.inl (g1 bs hm e4 eX [.box aa.cc] [.ah 39 (x.ab.map af.enc) true,.ah 2 (x.an.map aT.enc) true,.box (aa.aG x (.sl 2 0 x.ab.length) (.sl 3 0 x.an.length))] _ 16 ω ω _ dC fun dV ao gx ct c8 hE=>?_);simp only[go_sem,fM];exact bB _ ⟨_,_,gx,‹_›,trivial,rfl⟩)
     |simp only[go_sem,bz,bx]))
 rintro _ ⟨jH,aN,z,oy,hc,rfl⟩;simp only[M4,List.replicate,aw,e3,e0,c_];simp only[go_sem];refine⟨_,⟨x,id,i64.wrap (z-1),b5,rfl⟩,?_⟩;simp only[go_sem];simp[outOA]
theorem ah9(bs:List Int)(hm:bs.length≤maxLen)(i:Nat)(h:Int)(bb bD:H)(hq:cA 3 bb∧cA 3 bD)(kv:List V)(bJ:bk 3 kv)(K:V→List H→Prop)(hi:i≤bs.length)
  (hk:∀(cF:Nat) (h':Int) (y:au),cF≤bs.length→y.aP.length+y.aM.length+y.a0.length≤1000→K (kL y 3) ([bb,bD,cv bs cF h']++ka y)):d6 prog 143 kv [bb,bD,cv bs i h] [.ptr 2 0 0] K:=by
 have Fe:∀ts:List V,bk 4 ts→bk 4 (ts++kv):=fun ts h=>v9 h (ly ω kv bJ);have wk:∀(cF:Nat) (h':Int),dB 3 [bb,bD,cv bs cF h']:=fun cF h'=>⟨hq.1,hq.2,by simp[cv,cA,bk,vok],trivial⟩;have aia:cA 4 bb∧cA 4 bD∧cA 4 gU:=⟨jV ω _ hq.1,jV ω _ hq.2,by simp[gU,cA,bk,vok]⟩;refine d6.n2 ?_;refine(fY (n:=37) (rs:=[.cell 2 57]) func143 rfl call143 b2 rfl rfl ?_);simp only[go_sem];refine ae.inl (ah6 bs hm i h bb bD gU aia _ (Fe _ (by simp[bk,vok])) _ hi fun f2 h1 x cB hx=>?_);have d':x.aP.length+x.aM.length+x.a0.length≤400:=by have:=hx.size;omega
 simp only[go_sem,kL,ka,bz,bx];refine ae.inl (g1 bs hm f2 h1 [bb,bD] [gU,.ah 1 ((x).av.cells.map aR) true,.ah 2 ((x).aP.map J.enc) true,.ah 2 ((x).aM.map J.enc) true,.ah 2 ((x).a0.map J.enc) true,.box (au.aG (x) (.sl 4 0 (x).av.cells.length) (.sl 5 0 (x).aP.length) (.sl 6 0 (x).aM.length) (.sl 7 0 (x).a0.length))] _ 16 ω ω _ cB fun dG h2 k cJ cW eE=>?_);obtain rfl|rfl|rfl|rfl|aib:k=0∨k=1∨k=2∨k=3∨4≤k:=by omega
 ·skip
  have d0:decide ((0:Int)=0)=true:=rfl;simp only[go_sem];refine ae.inl (g1 bs hm dG h2 [bb,bD] [gU,.ah 1 ((x).av.cells.map aR) true,.ah 2 ((x).aP.map J.enc) true,.ah 2 ((x).aM.map J.enc) true,.ah 2 ((x).a0.map J.enc) true,.box (au.aG (x) (.sl 4 0 (x).av.cells.length) (.sl 5 0 (x).aP.length) (.sl 6 0 (x).aM.length) (.sl 7 0 (x).a0.length))] _ 8 ω ω _ cJ fun dV ao z ct c8 hE=>?_);simp only[go_sem,gU,bz,bx];exact Hx (n:=3) (hs:=[bb,bD,cv bs dV ao]) (ex:=[_,_,_,_,_,_]) rfl (wk _ _) bJ {x with b0:=(i64.wrap (z-1))} 4 ω rfl rfl rfl rfl (hk _ _ _ ‹_› (by simp only;omega))
 ·skip
  have d0:decide ((1:Int)=0)=false:=rfl;have fw:decide ((1:Int)=1)=true:=rfl;simp only[go_sem,d0];refine ae.inl (g1 bs hm dG h2 [bb,bD] [gU,.ah 1 ((x).av.cells.map aR) true,.ah 2 ((x).aP.map J.enc) true,.ah 2 ((x).aM.map J.enc) true,.ah 2 ((x).a0.map J.enc) true,.box (au.aG (x) (.sl 4 0 (x).av.cells.length) (.sl 5 0 (x).aP.length) (.sl 6 0 (x).aM.length) (.sl 7 0 (x).a0.length))] _ 6 ω ω _ cJ fun dV ao z ct c8 hE=>?_);simp only[go_sem,gU,bz,bx];exact Hx (n:=3) (hs:=[bb,bD,cv bs dV ao]) (ex:=[_,_,_,_,_,_]) rfl (wk _ _) bJ {x with aW:=(i64.wrap (z-1))} 4 ω rfl rfl rfl rfl (hk _ _ _ ‹_› (by simp only;omega))
 ·skip
  have d0:decide ((2:Int)=0)=false:=rfl;have fw:decide ((2:Int)=1)=false:=rfl;have fH:decide ((2:Int)=2)=true:=rfl;simp only[go_sem,d0,fw];refine ae.inl (yB bs hm dG h2 [bb,bD] [gU,.ah 1 ((x).av.cells.map aR) true,.ah 2 ((x).aP.map J.enc) true,.ah 2 ((x).aM.map J.enc) true,.ah 2 ((x).a0.map J.enc) true,.box (au.aG (x) (.sl 4 0 (x).av.cells.length) (.sl 5 0 (x).aP.length) (.sl 6 0 (x).aM.length) (.sl 7 0 (x).a0.length)),.ah 1 ([-1,0,3,50].map aR) true] _ 6 [-1,0,3,50] rfl ζ ζ _ cJ fun dV ao z ct c8=>?_);simp only[go_sem,gU,bz,bx];exact Hx (n:=3) (hs:=[bb,bD,cv bs dV ao]) (ex:=[_,_,_,_,_,_,_]) rfl (wk _ _) bJ {x with cw:=z} 4 ω rfl rfl rfl rfl (hk _ _ _ ‹_› (by simp only;omega))
 ·skip
  have d0:decide ((3:Int)=0)=false:=rfl;have fw:decide ((3:Int)=1)=false:=rfl;have fH:decide ((3:Int)=2)=false:=rfl;have h4:decide ((3:Int)=3)=true:=rfl;simp only[go_sem,d0,fw,fH];refine gC (fun σ'=>∃(i:Nat) (h z:Int) (iM f0 jM iN iO iP u8 iQ iR iS iT iU jR jS u16 kM kN kO kP kQ kR kS kT kU kV kW kX kY kZ k0 u32 nT nU nV pj:V),i≤bs.length∧σ'=⟨[iM,f0,.ptr 3 0 0,.ptr 8 0 0,jM,iN,iO,iP,u8,iQ,iR,iS,iT,iU,jR,jS,u16,kM,kN,kO,kP,kQ,kR,kS,kT,kU,kV,kW,kX,kY,kZ,k0,u32,nT,nU,nV,pj],[bb,bD,cv bs i h,gU,.ah 1 (x.av.cells.map aR) true,.eb,.ah 2 (x.aM.map J.enc) true,.ah 2 (x.a0.map J.enc) true,.box (au.aG (x) (.sl 4 0 (x).av.cells.length) (.sl 10 0 (x.aP.length+1)) (.sl 6 0 (x).aM.length) (.sl 7 0 (x).a0.length)),.ah 2 [J.enc ⟨z,9⟩] true,.ah 2 (x.aP.map J.enc++[J.enc ⟨z,9⟩]) true]⟩) ?_ ?_
  ·(repeat'(first|exact vp|(refine vq ?_ ?_)|(refine xx rfl ?_)|(refine xy rfl ?_)|(refine ae.inl (g1 bs hm dG h2 [bb,bD] [gU,.ah 1 ((x).av.cells.map aR) true,.ah 2 ((x).aP.map J.enc) true,.ah 2 ((x).aM.map J.enc) true,.ah 2 ((x).a0.map J.enc) true,.box (au.aG (x) (.sl 4 0 (x).av.cells.length) (.sl 5 0 (x).aP.length) (.sl 6 0 (x).aM.length) (.sl 7 0 (x).a0.length))] _ 9 ω ω _ cJ fun dV ao z ct c8 hE=>?_))|(refine⟨⟨by omega,rfl⟩,?_⟩)|simp only[go_sem,fM,I,bz,bx]))
   all_goals exact⟨_,_,_,_,_,_,_,_,_,_,_,_,_,_,_,_,_,_,_,_,_,_,_,_,_,_,_,_,_,_,_,_,_,_,_,_,_,_,ct,rfl⟩
  rintro _ ⟨dV,ao,z,iM,f0,jM,iN,iO,iP,u8,iQ,iR,iS,iT,iU,jR,jS,u16,kM,kN,kO,kP,kQ,kR,kS,kT,kU,kV,kW,kX,kY,kZ,k0,u32,nT,nU,nV,pj,ct,rfl⟩;simp only[go_sem,gU,bz,bx];refine⟨List.range 3++[4,10,6,7],kL {x with aP:=x.aP++[⟨z,9⟩]} 3,[bb,bD,cv bs dV ao]++ka {x with aP:=x.aP++[⟨z,9⟩]},?_,hk _ _ _ ct (by simp;omega)⟩;refine BD (hs:=[bb,bD,cv bs dV ao]) (ex:=[_,_,_,_,_,_,_,_]) [4,10,6,7] ζ ξ (wk _ _) ?_ (by simp[ka,lV,hok]) bJ ?_ ?_
  ·simp[ka,hsees,hsee,a5]
  ·simp[kL,vsees,vsee,ren,rens,List.range,List.range.loop]
  ·simp[kL,ka,bk,vok]
 ·skip
  have d0:=bm (p:=k=0) ω;have fw:=bm (p:=k=1) ω;have fH:=bm (p:=k=2) ω;have h4:=bm (p:=k=3) ω;simp only[go_sem,d0,fw,fH,h4,I];simp only[go_sem,gU];exact Hx (n:=3) (hs:=[bb,bD,cv bs dG h2]) (ex:=[_,_,_,_,_,_]) rfl (wk _ _) bJ x 4 ω rfl rfl rfl rfl (hk _ _ _ ‹_› ω)
theorem aic{S:List Bool}(h:S.length=11):∃e8 cB cJ ct eA fb fs fT gK g2 iF,S=[e8,cB,cJ,ct,eA,fb,fs,fT,gK,g2,iF]:=by
 match S,h with|[e8,cB,cJ,ct,eA,fb,fs,fT,gK,g2,iF],_=>exact⟨e8,cB,cJ,ct,eA,fb,fs,fT,gK,g2,iF,rfl⟩
theorem aid{s:au}{m l:Int}(h0:0≤m)(h1:m≤1000):((eM s m l).data.length:Int)≤m:=by
 unfold eM;split
 ·split
  ·rename_i hok _ r hr;have hm:r∈s.aP:=List.mem_of_getElem? hr;have:=KB s.av r.low (i64.wrap (hX r m l-r.low));simp only[gH,nW,hr,bW,b8]at hok;obtain⟨⟨j_,_⟩,k1,k2⟩:=hok;have y9:=XK j_ hm;have Fx:cj r.high l≤r.high:=by unfold cj;split<;>omega
   have hh:hX r m l-r.low≤m∧0≤hX r m l-r.low:=by
    unfold hX at k2⊢;split
    ·rename_i g;rw[if_pos g]at k2;have e:dp m 0=m:=by unfold dp;split<;>omega
     rw[e]at k2⊢;rw[bA]at k2⊢<;>omega
    ·rename_i g;rw[bA]at g<;>omega
   have hw:i64.wrap (hX r m l-r.low)=hX r m l-r.low:=by rw[bA]<;>omega
   simp only;rw[hw]at this⊢;unfold dp at this;split at this<;>omega
  ·simpa using h0
 ·simp[mf];omega
def PX(bs:List Int)(x:au)(i:Nat)(h z:Int)(S:List Bool):St:=⟨(.d (.sl 1 (bs.map eU8))::.al::.ptr 0 0 0::.ptr 1 0 0::.ptr 2 0 0::.ptr 7 0 0::(aw S 8 (.ptr 8 0 0))::(aw S 10 (.d (.bool (gH x (i64.wrap (1+z)) 100))))::.d (.sl 1 (bs.map eU8))::.ptr 2 0 0::.ptr 2 0 0::.agg (au.aG (x) (.sl 3 0 (x).av.cells.length) (.sl 4 0 (x).aP.length) (.sl 5 0 (x).aM.length) (.sl 6 0 (x).a0.length))::(aw S 5 (.eh [.agg [.d (.int .i64 (eM x (i64.wrap (1+z)) 100).aH),.d (.str (eM x (i64.wrap (1+z)) 100).data),.d (.bool (eM x (i64.wrap (1+z)) 100).aW)],.d (.bool (gH x (i64.wrap (1+z)) 100))]))::(aw S 0 (.agg (au.aG (x) (.sl 3 0 (x).av.cells.length) (.sl 4 0 (x).aP.length) (.sl 5 0 (x).aM.length) (.sl 6 0 (x).a0.length))))::(aw S 1 (.ptr 2 0 0))::(aw S 2 (.i z))::(aw S 3 (.i (i64.wrap (1+z))))::(aw S 4 (.eh [.agg [.d (.int .i64 (eM x (i64.wrap (1+z)) 100).aH),.d (.str (eM x (i64.wrap (1+z)) 100).data),.d (.bool (eM x (i64.wrap (1+z)) 100).aW)],.d (.bool (gH x (i64.wrap (1+z)) 100))]))::(aw S 6 (.agg [.d (.int .i64 (eM x (i64.wrap (1+z)) 100).aH),.d (.str (eM x (i64.wrap (1+z)) 100).data),.d (.bool (eM x (i64.wrap (1+z)) 100).aW)]))::(aw S 7 (.d (.bool (gH x (i64.wrap (1+z)) 100))))::aA 16 []),[gU,nh,cv bs i h,.ah 1 ((x).av.cells.map aR) true,.ah 2 ((x).aP.map J.enc) true,.ah 2 ((x).aM.map J.enc) true,.ah 2 ((x).a0.map J.enc) true,.box (au.aG (x) (.sl 3 0 (x).av.cells.length) (.sl 4 0 (x).aP.length) (.sl 5 0 (x).aM.length) (.sl 6 0 (x).a0.length))]++(bif S.getD 8 false then [.box [(bif S.getD 9 false then .d (.int .i64 (eM x (i64.wrap (1+z)) 100).aH)else .i 0),.d (.str (bif S.getD 9 false then(eM x (i64.wrap (1+z)) 100).data else [])),.d (.bool (bif S.getD 9 false then(eM x (i64.wrap (1+z)) 100).aW else false))]]else [])⟩
theorem XL(bs:List Int):wx prog 70 [.one (.sl 1 (bs.map eU8))] (fun rs=>∃(s:au) (p:bL),p.data.length≤1000∧rs=[.agg (au.enc s),.agg [.int .i64 p.aH,.str p.data,.bool p.aW]]):=by
 refine Ds func70 rfl call70 b2 (.d (.sl 1 (bs.map eU8))::List.replicate 35 .al) rfl [.cell 2 57,.cell 3 70] rfl ?_;intro ok;have hm:=fI ok;simp only[List.replicate];simp only[go_sem];refine ae.inl (Fp bs hm [gU,nh] _ (by simp[gU,nh,dB,cA,bk,vok]) (by simp[bk,vok]) _ fun h1=>?_);simp only[go_sem,bz,bx];refine ae.inl (ah9 bs hm 0 h1 gU nh (by simp[gU,nh,cA,bk,vok]) _ (by simp[bk,vok]) _ ω fun dG h2 x cJ d'=>?_);simp only[go_sem,kL,ka,bz,bx];have xI:∀ts:List V,bk 9 ts→bk 9 (ts++[]):=fun ts h=>by simpa using h
 have Hw:∀m l:Int,aL 69 [.agg (au.enc x),.one (.int .i64 m),.one (.int .i64 l)] [.agg [.int .i64 ((eM x m l)).aH,.str ((eM x m l)).data,.bool ((eM x m l)).aW],.one (.bool (gH x m l))]:=fun m l=>by apply NH;omega
 refine gC _ (ia (fun S σ=>∃i h z,i≤bs.length∧(0≤z∧z<5)∧σ=PX bs x i h z S) (N:=11) rfl rfl ⟨dG,h2,0,‹_›,by first|trivial|(simp;done),rfl⟩ ?_) ?_
 ·repeat'(first|exact jW|refine jX ?_ ?_)
  all_goals(
   rintro S σ F hl a1 hp hcl ⟨e4,eX,z,dC,hc,rfl⟩ bB;obtain⟨ib,dW,ek,dt,eF,jE,kb,kc,ks,ns,pr,rfl⟩:=aic hl;simp only[fm,eW,b4]at a1;subst a1;simp[ix,Region.binds]at hp
   repeat(obtain⟨eu,hp⟩:=hp;subst eu)
   try subst hp
   try obtain rfl:=bd (hcl 0 4 _ rfl ζ rfl)
   try obtain rfl:=bd (hcl 1 2 _ rfl ζ rfl)
   try obtain rfl:=bd (hcl 2 3 _ rfl ζ rfl)
   try obtain rfl:=bd (hcl 3 4 _ rfl ζ rfl)
   try obtain rfl:=bd (hcl 4 5 _ rfl ζ rfl)
   try obtain rfl:=bd (hcl 5 6 _ rfl ζ rfl)
   try obtain rfl:=bd (hcl 5 7 _ rfl ζ rfl)
   try obtain rfl:=bd (hcl 6 9 _ rfl ζ rfl)
   try obtain rfl:=bd (hcl 7 10 _ rfl ζ rfl)
   try obtain rfl:=bd (hcl 8 9 _ rfl ζ rfl)
   try obtain rfl:=bd (hcl 9 10 _ rfl ζ rfl)
   simp only[PX,aw,e3,e0,c_,dK,bz,bx,gm]
   repeat'(first
     |exact bB _ ⟨e4,eX,z,dC,hc,rfl⟩
     |(refine cN ?_)
     |(refine eB ?_)
     |(cases ks<;>simp only[c_,dK])
     |(refine ae.inl (g1 bs hm e4 eX [gU,nh] [.ah 1 ((x).av.cells.map aR) true,.ah 2 ((x).aP.map J.enc) true,.ah 2 ((x).aM.map J.enc) true,.ah 2 ((x).a0.map J.enc) true,.box (au.aG (x) (.sl 3 0 (x).av.cells.length) (.sl 4 0 (x).aP.length) (.sl 5 0 (x).aM.length) (.sl 6 0 (x).a0.length))] _ 5 ω ω _ dC fun dV ao gx ct c8 hE=>?_);simp only[go_sem,fM];exact bB _ ⟨_,_,gx,‹_›,by first|exact⟨c8,hE⟩|trivial,rfl⟩)
     |(refine ae.inl (g1 bs hm e4 eX [gU,nh] [.ah 1 ((x).av.cells.map aR) true,.ah 2 ((x).aP.map J.enc) true,.ah 2 ((x).aM.map J.enc) true,.ah 2 ((x).a0.map J.enc) true,.box (au.aG (x) (.sl 3 0 (x).av.cells.length) (.sl 4 0 (x).aP.length) (.sl 5 0 (x).aM.length) (.sl 6 0 (x).a0.length)),nh] _ 5 ω ω _ dC fun dV ao gx ct c8 hE=>?_);simp only[go_sem,fM];exact bB _ ⟨_,_,gx,‹_›,by first|exact⟨c8,hE⟩|trivial,rfl⟩)
     |(refine ae.intro (Hw _ 100) ?_)
     |simp only[go_sem,I,bz,bx,nh]))
 rintro _ ⟨dV,ao,z,yA,⟨hc1,hc2⟩,rfl⟩;simp only[PX,List.replicate,aw,e3,e0,c_,bz,bx];have fD:(eM x (i64.wrap (1+z)) 100).data.length≤1000:=by
  have hw:(i64.wrap (1+z))=1+z:=by rw[bA]<;>omega
  have:=aid (s:=x) (m:=(i64.wrap (1+z))) (l:=100) ω ω;omega
 generalize (eM x (i64.wrap (1+z)) 100)=p at *;generalize (gH x (i64.wrap (1+z)) 100)=g at *;have Cv:dB 9 [gU,nh]∧dB 9 [.ah 1 ((x).av.cells.map aR) true,.ah 2 ((x).aP.map J.enc) true,.ah 2 ((x).aM.map J.enc) true,.ah 2 ((x).a0.map J.enc) true,.box (au.aG (x) (.sl 3 0 (x).av.cells.length) (.sl 4 0 (x).aP.length) (.sl 5 0 (x).aM.length) (.sl 6 0 (x).a0.length)),.box [.i p.aH,.d (.str p.data),.d (.bool p.aW)]]:=by simp[gU,nh,dB,cA,bk,vok]
 simp only[go_sem]
 cases g
 all_goals(repeat(first|(refine cN ?_)|(refine eB ?_)|simp only[go_sem]))
 all_goals(try(refine ae.inl (p' bs hm dV ao [gU,nh] [.ah 1 ((x).av.cells.map aR) true,.ah 2 ((x).aP.map J.enc) true,.ah 2 ((x).aM.map J.enc) true,.ah 2 ((x).a0.map J.enc) true,.box (au.aG (x) (.sl 3 0 (x).av.cells.length) (.sl 4 0 (x).aP.length) (.sl 5 0 (x).aM.length) (.sl 6 0 (x).a0.length)),.box [.i p.aH,.d (.str p.data),.d (.bool p.aW)]] _ 4 ω ω _ yA fun jH aN b eA=>?_);cases b<;>simp only[go_sem,bz,bx]))
 all_goals(try(refine ae.inl (g1 bs hm _ _ [gU,nh] [.ah 1 ((x).av.cells.map aR) true,.ah 2 ((x).aP.map J.enc) true,.ah 2 ((x).aM.map J.enc) true,.ah 2 ((x).a0.map J.enc) true,.box (au.aG (x) (.sl 3 0 (x).av.cells.length) (.sl 4 0 (x).aP.length) (.sl 5 0 (x).aM.length) (.sl 6 0 (x).a0.length)),.box [.i p.aH,.d (.str p.data),.d (.bool p.aW)]] _ 12 ω ω _ ‹_› fun xn b6 oc fb lb Pd=>?_);simp only[go_sem,bz,bx];refine ae.inl (IT bs hm xn b6 [gU,nh] [.ah 1 ((x).av.cells.map aR) true,.ah 2 ((x).aP.map J.enc) true,.ah 2 ((x).aM.map J.enc) true,.ah 2 ((x).a0.map J.enc) true,.box (au.aG (x) (.sl 3 0 (x).av.cells.length) (.sl 4 0 (x).aP.length) (.sl 5 0 (x).aM.length) (.sl 6 0 (x).a0.length)),.box [.i p.aH,.d (.str p.data),.d (.bool p.aW)]] _ 4 Cv (xI _ (by simp[bk,vok])) ω _ fb fun yP dP d fs vX=>?_);simp only[go_sem,bz,bx];refine ae.inl (p' bs hm yP dP [gU,nh] [.ah 1 ((x).av.cells.map aR) true,.ah 2 ((x).aP.map J.enc) true,.ah 2 ((x).aM.map J.enc) true,.ah 2 ((x).a0.map J.enc) true,.box (au.aG (x) (.sl 3 0 (x).av.cells.length) (.sl 4 0 (x).aP.length) (.sl 5 0 (x).aM.length) (.sl 6 0 (x).a0.length)),.box [.i p.aH,.d (.str p.data),.d (.bool p.aW)]] _ 3 ω ω _ fs fun Tj gY f fT=>?_);simp only[go_sem,bz,bx]))
 all_goals simp only[go_sem,gU,nh]
 all_goals refine gC (fun σ'=>∃(q:bL) (i:Nat) (h:Int) (iM f0 jM iN iO iP u8 iQ iR iS iT iU jR jS u16 kM kN kO kP kQ kR kS kT kU kV kW kX kY kZ k0 u32 nT nU nV:V),q.data.length≤1000∧σ'=⟨[iM,f0,.ptr 0 0 0,.ptr 1 0 0,jM,iN,iO,iP,u8,iQ,iR,iS,iT,iU,jR,jS,u16,kM,kN,kO,kP,kQ,kR,kS,kT,kU,kV,kW,kX,kY,kZ,k0,u32,nT,nU,nV],[.box (au.aG (x) (.sl 3 0 (x).av.cells.length) (.sl 4 0 (x).aP.length) (.sl 5 0 (x).aM.length) (.sl 6 0 (x).a0.length)),.box [.i q.aH,.d (.str q.data),.d (.bool q.aW)],cv bs i h,.ah 1 ((x).av.cells.map aR) true,.ah 2 ((x).aP.map J.enc) true,.ah 2 ((x).aM.map J.enc) true,.ah 2 ((x).a0.map J.enc) true,.box (au.aG (x) (.sl 3 0 (x).av.cells.length) (.sl 4 0 (x).aP.length) (.sl 5 0 (x).aM.length) (.sl 6 0 (x).a0.length)),.box [.i q.aH,.d (.str q.data),.d (.bool q.aW)]]⟩) ?_ ?_
 all_goals(try(
  rintro _ ⟨q,i8,e9,iM,f0,jM,iN,iO,iP,u8,iQ,iR,iS,iT,iU,jR,jS,u16,kM,kN,kO,kP,kQ,kR,kS,kT,kU,kV,kW,kX,kY,kZ,k0,u32,nT,nU,nV,hq,rfl⟩;simp only[go_sem];refine⟨_,⟨x,q,hq,rfl⟩,?_⟩;simp only[go_sem];simp[outOA]))
 all_goals(repeat'(first|exact vp|(refine vq ?_ ?_)|(refine xx rfl ?_)|(refine xy rfl ?_)|simp only[go_sem,bz,bx]))
 all_goals first|exact⟨p,_,_,_,_,_,_,_,_,_,_,_,_,_,_,_,_,_,_,_,_,_,_,_,_,_,_,_,_,_,_,_,_,_,_,_,_,fD,rfl⟩|exact⟨⟨_,d,_⟩,_,_,_,_,_,_,_,_,_,_,_,_,_,_,_,_,_,_,_,_,_,_,_,_,_,_,_,_,_,_,_,_,_,_,_,_,by simp;omega,rfl⟩
theorem aie(bs:List Int):wx prog 19 [.one (.sl 1 (bs.map eU8))] (fun rs=>∃(k:Int) (p:bL),p.data.length≤1000∧rs=[.one (.int .i64 k),.agg [.int .i64 p.aH,.str p.data,.bool p.aW]]):=by
 refine Ds func19 rfl call19 b2 (.d (.sl 1 (bs.map eU8))::List.replicate 16 .al) rfl [.tmp 2,.cell 3 70] rfl ?_;intro ok;have hm:=fI ok;simp only[List.replicate];simp only[go_sem];refine ae.inl (Fp bs hm [nh] _ (by simp[nh,dB,cA,bk,vok]) (by simp[bk,vok]) _ fun h1=>?_);simp only[go_sem,bz,bx];refine ae.qo (XL bs) rfl ?_;rintro _ ⟨s,p,hp,rfl⟩;simp only[go_sem,fM,I,bz,bx];refine gC (fun σ'=>∃(i:Nat) (h z:Int) (iM f0 jM iN iO iP u8 iQ iR iS iT iU jR jS u16:V),σ'=⟨[iM,f0,.i z,.ptr 0 0 0,jM,iN,iO,iP,u8,iQ,iR,iS,iT,iU,jR,jS,u16],[.box [.i p.aH,.d (.str p.data),.d (.bool p.aW)],cv bs i h,.ah 1 ((s).av.cells.map aR) true,.ah 2 ((s).aP.map J.enc) true,.ah 2 ((s).aM.map J.enc) true,.ah 2 ((s).a0.map J.enc) true,.box (au.aG (s) (.sl 2 0 (s).av.cells.length) (.sl 3 0 (s).aP.length) (.sl 4 0 (s).aM.length) (.sl 5 0 (s).a0.length)),.box [.i p.aH,.d (.str p.data),.d (.bool p.aW)]]⟩) ?_ ?_
 ·(repeat'(first|exact vp|(refine vq ?_ ?_)|(refine xx rfl ?_)|(refine xy rfl ?_)|(refine ae.inl (g1 bs hm 0 h1 [nh] [.ah 1 ((s).av.cells.map aR) true,.ah 2 ((s).aP.map J.enc) true,.ah 2 ((s).aM.map J.enc) true,.ah 2 ((s).a0.map J.enc) true,.box (au.aG (s) (.sl 2 0 (s).av.cells.length) (.sl 3 0 (s).aP.length) (.sl 4 0 (s).aM.length) (.sl 5 0 (s).a0.length)),.box [.i p.aH,.d (.str p.data),.d (.bool p.aW)]] _ 9 ω ω _ ω fun dV ao yQ ct c8 hE=>?_))|(refine ae.inl (g1 bs hm 0 h1 [.box [.i p.aH,.d (.str p.data),.d (.bool p.aW)]] [.ah 1 ((s).av.cells.map aR) true,.ah 2 ((s).aP.map J.enc) true,.ah 2 ((s).aM.map J.enc) true,.ah 2 ((s).a0.map J.enc) true,.box (au.aG (s) (.sl 2 0 (s).av.cells.length) (.sl 3 0 (s).aP.length) (.sl 4 0 (s).aM.length) (.sl 5 0 (s).a0.length)),.box [.i p.aH,.d (.str p.data),.d (.bool p.aW)]] _ 9 ω ω _ ω fun dV ao yQ ct c8 hE=>?_))|simp only[go_sem,fM,nh,bz,bx]))
  all_goals exact⟨_,_,_,_,_,_,_,_,_,_,_,_,_,_,_,_,_,_,rfl⟩
 rintro _ ⟨dV,ao,z,iM,f0,jM,iN,iO,iP,u8,iQ,iR,iS,iT,iU,jR,jS,u16,rfl⟩;simp only[go_sem];refine⟨_,⟨z,p,hp,rfl⟩,?_⟩;simp only[go_sem]
 try simp[outOA,e7]
theorem aif(bs:List Int):wx prog 16 [.one (.sl 1 (bs.map eU8))] (fun rs=>∃(x:aa) (id:Int) (p:bL),zP x∧p.data.length≤1000∧rs=[.agg (aa.enc x),.one (.int .i64 id),.agg [.int .i64 p.aH,.str p.data,.bool p.aW]]):=by
 refine Ds func16 rfl call16 b2 (.d (.sl 1 (bs.map eU8))::List.replicate 32 .al) rfl [.cell 2 37,.tmp 3,.cell 4 70] rfl ?_;intro ok;have hm:=fI ok;simp only[List.replicate];simp only[go_sem];refine ae.qo (Tl bs) rfl ?_;rintro _ ⟨x,id,k,b5,rfl⟩;have Cw:=Nv x id k 14 b5.qa ω;have fD:(iX x id k).1.data.length≤1000:=by have:=BY b5.qa ω id k;omega
 generalize (iX x id k).1=p at *;generalize (iX x id k).2=g at *;simp only[go_sem,fM,I,bz,bx]
 try simp only[go_sem,I]
 repeat'((first|refine ae.intro ‹_› ?_|refine ay.intro ‹_› ?_)<;>simp only[go_sem])
 cases g with
 |true=>
  simp only[go_sem,bN];refine gC (fun σ'=>∃(iM f0 iN iO iP u8 iQ iR iS iT iU jR jS u16 kM kN kO kP kQ kR kS kT kU kV kW kX kY kZ k0 u32:V),σ'=⟨[iM,f0,.ptr 0 0 0,.i id,.ptr 1 0 0,iN,iO,iP,u8,iQ,iR,iS,iT,iU,jR,jS,u16,kM,kN,kO,kP,kQ,kR,kS,kT,kU,kV,kW,kX,kY,kZ,k0,u32],[.box (aa.aG x (.sl 2 0 x.ab.length) (.sl 3 0 x.an.length)),.box [.i p.aH,.d (.str p.data),.d (.bool p.aW)],.ah 39 (x.ab.map af.enc) true,.ah 2 (x.an.map aT.enc) true,.box (aa.aG x (.sl 2 0 x.ab.length) (.sl 3 0 x.an.length)),.box [.i p.aH,.d (.str p.data),.d (.bool p.aW)]]⟩) ?_ ?_
  ·(repeat'(first|exact vp|(refine vq ?_ ?_)|(refine xx rfl ?_)|(refine xy rfl ?_)|simp only[go_sem,bz,bx]))
   all_goals exact⟨_,_,_,_,_,_,_,_,_,_,_,_,_,_,_,_,_,_,_,_,_,_,_,_,_,_,_,_,_,_,rfl⟩
  rintro _ ⟨iM,f0,iN,iO,iP,u8,iQ,iR,iS,iT,iU,jR,jS,u16,kM,kN,kO,kP,kQ,kR,kS,kT,kU,kV,kW,kX,kY,kZ,k0,u32,rfl⟩;simp only[go_sem];refine⟨_,⟨x,id,p,b5,fD,rfl⟩,?_⟩;simp only[go_sem]
  try simp[outOA]
 |false=>
  simp only[go_sem,cR];refine ae.qo (XL bs) rfl ?_;rintro _ ⟨s,q,hq,rfl⟩;simp only[go_sem,fM,I,bz,bx];refine gC (fun σ'=>∃(iM f0 iN iO iP u8 iQ iR iS iT iU jR jS u16 kM kN kO kP kQ kR kS kT kU kV kW kX kY kZ k0 u32:V),σ'=⟨[iM,f0,.ptr 0 0 0,.i id,.ptr 1 0 0,iN,iO,iP,u8,iQ,iR,iS,iT,iU,jR,jS,u16,kM,kN,kO,kP,kQ,kR,kS,kT,kU,kV,kW,kX,kY,kZ,k0,u32],[.box (aa.aG x (.sl 2 0 x.ab.length) (.sl 3 0 x.an.length)),.box [.i q.aH,.d (.str q.data),.d (.bool q.aW)],.ah 39 (x.ab.map af.enc) true,.ah 2 (x.an.map aT.enc) true,.box (aa.aG x (.sl 2 0 x.ab.length) (.sl 3 0 x.an.length)),.box [.i q.aH,.d (.str q.data),.d (.bool q.aW)],.ah 1 ((s).av.cells.map aR) true,.ah 2 ((s).aP.map J.enc) true,.ah 2 ((s).aM.map J.enc) true,.ah 2 ((s).a0.map J.enc) true]⟩) ?_ ?_
  ·(repeat'(first|exact vp|(refine vq ?_ ?_)|(refine xx rfl ?_)|(refine xy rfl ?_)|simp only[go_sem,bz,bx]))
   all_goals exact⟨_,_,_,_,_,_,_,_,_,_,_,_,_,_,_,_,_,_,_,_,_,_,_,_,_,_,_,_,_,_,rfl⟩
  rintro _ ⟨iM,f0,iN,iO,iP,u8,iQ,iR,iS,iT,iU,jR,jS,u16,kM,kN,kO,kP,kQ,kR,kS,kT,kU,kV,kW,kX,kY,kZ,k0,u32,rfl⟩;simp only[go_sem];refine⟨_,⟨x,id,q,b5,hq,rfl⟩,?_⟩;simp only[go_sem]
  try simp[outOA]
theorem acd(bs:List Int):wx prog 20 [.one (.sl 1 (bs.map eU8))] (fun rs=>∃x:aa,zP x∧rs=[.agg (aa.enc x)]):=by
 refine Ds func20 rfl call20 b2 (.d (.sl 1 (bs.map eU8))::List.replicate 5 .al) rfl [.cell 2 37] rfl ?_;intro ok;have hm:=fI ok;simp only[List.replicate];simp only[go_sem];refine ae.inl (Fp bs hm [h3] _ (by simp[h3,dB,cA,bk,vok]) (by simp[bk,vok]) _ fun h1=>?_);simp only[go_sem,bz,bx];refine ae.inl (L2 bs hm 0 h1 h3 (by simp[h3,cA,bk,vok]) _ (by simp[bk,vok]) _ ω fun dG h2 x cJ b5=>?_);simp only[go_sem,jb,jr,h3,bz,bx];refine⟨_,⟨x,b5,rfl⟩,?_⟩;simp only[go_sem];simp[outOA]
theorem ace(bs:List Int):wx prog 5 [.one (.sl 1 (bs.map eU8))] (fun rs=>∃(x:aa) (b:Int),zP x∧rs=[.agg (aa.enc x),.one (.int .i64 b)]):=by
 refine Ds func5 rfl call5 b2 (.d (.sl 1 (bs.map eU8))::List.replicate 13 .al) rfl [.cell 2 37,.tmp 3] rfl ?_;intro ok;have hm:=fI ok;simp only[List.replicate];simp only[go_sem];refine ae.inl (Fp bs hm [h3] _ (by simp[h3,dB,cA,bk,vok]) (by simp[bk,vok]) _ fun h1=>?_);simp only[go_sem,bz,bx];refine ae.inl (L2 bs hm 0 h1 h3 (by simp[h3,cA,bk,vok]) _ (by simp[bk,vok]) _ ω fun dG h2 x cJ b5=>?_);simp only[go_sem,jb,jr,h3,bz,bx];refine gC (fun σ'=>∃(i:Nat) (h z:Int) (iM f0 jM iN iO iP u8 iQ iR iS iT iU:V),i≤bs.length∧σ'=⟨[iM,f0,.ptr 0 0 0,.i z,jM,iN,iO,iP,u8,iQ,iR,iS,iT,iU],[.box (aa.aG x (.sl 2 0 x.ab.length) (.sl 3 0 x.an.length)),cv bs i h,.ah 39 (x.ab.map af.enc) true,.ah 2 (x.an.map aT.enc) true,.box (aa.aG x (.sl 2 0 x.ab.length) (.sl 3 0 x.an.length)),.ah 1 ([0,1,3,6,10,20,40,400,401].map aR) true]⟩) ?_ ?_
 ·(repeat'(first|exact vp|(refine vq ?_ ?_)|(refine xx rfl ?_)|(refine xy rfl ?_)|(refine ae.inl (yB bs hm dG h2 [_] [.ah 39 (x.ab.map af.enc) true,.ah 2 (x.an.map aT.enc) true,.box (aa.aG x (.sl 2 0 x.ab.length) (.sl 3 0 x.an.length)),.ah 1 ([0,1,3,6,10,20,40,400,401].map aR) true] _ 3 [0,1,3,6,10,20,40,400,401] rfl ζ ζ _ cJ fun dV ao yQ ct c8=>?_))|simp only[go_sem,fM,bz,bx]))
  all_goals exact⟨_,_,_,_,_,_,_,_,_,_,_,_,_,_,_,ct,rfl⟩
 rintro _ ⟨dV,ao,z,iM,f0,jM,iN,iO,iP,u8,iQ,iR,iS,iT,iU,ct,rfl⟩;simp only[go_sem];refine⟨_,⟨x,z,b5,rfl⟩,?_⟩;simp only[go_sem];simp[outOA]
def Yx(id n:Int)(f:aq):Bool:=R0 id f&&k4 (aaH f) n
def Qr(bK:List aq)(id n:Int):Nat:=bK.countP (Yx id n)
def ajg(l:List aT):List aq:=l.flatMap fun p=>p.c0
def Qs(s:au)(f:aq):Prop:=0≤f.aH∧f.aH+f.data.length≤s.av.cu∧(f.aW=true→s.br=f.aH+f.data.length)
structure p1(s t:af):Prop where
 g:t.ak.b0≤3→s.ak.b0≤3∧(∀n,dI t.ak.aM n=dI s.ak.aM n)∧∀f,Qs s.ak f→Qs t.ak f
 ml:s.j2=false→t.j2=false
 ts:s.hL=false→t.hL=false
theorem p1.refl(s:af):p1 s s:=⟨fun h=>⟨h,fun _=>rfl,fun _ h=>h⟩,fun h=>h,fun h=>h⟩
theorem p1.trans{s t u:af}(h:p1 s t)(k:p1 t u):p1 s u:=
 ⟨fun g=>by obtain⟨k1,k2,dR⟩:=k.g g;obtain⟨h1,h2,ao⟩:=h.g k1;exact⟨h1,fun n=>(k2 n).trans (h2 n),fun f hf=>dR f (ao f hf)⟩,fun g=>k.ml (h.ml g),fun g=>k.ts (h.ts g)⟩
theorem p1.same{s t:af}(h1:t.ak=s.ak)(h2:t.j2=s.j2)(ao:t.hL=s.hL∨t.hL=false):p1 s t:=
 ⟨fun g=>by rw[h1]at g⊢;exact⟨g,fun _=>rfl,fun _ h=>h⟩,fun g=>by rw[h2];exact g,fun g=>by rcases ao with h|h<;>rw[h];exact g⟩
def HM(s:af):Prop:=(s.ak.b0≤3→∀n,dI s.ak.aM n=false)∧s.j2=false∧s.hL=false
theorem HM.Lf{s t:af}(h:HM s)(k:p1 s t):HM t:=
 ⟨fun g n=>by obtain⟨k1,k2,_⟩:=k.g g;rw[k2];exact h.1 k1 n,k.ml h.2.1,k.ts h.2.2⟩
structure qL(c d:aa):Prop where
 wV:∀id,(cf c.ab id).2=true→(cf d.ab id).2=true∧p1 (aO c id) (aO d id)
 new:∀id,(cf d.ab id).2=true→(cf c.ab id).2=true∨HM (aO d id)
theorem qL.refl(c:aa):qL c c:=⟨fun _ h=>⟨h,p1.refl _⟩,fun _ h=>.inl h⟩
theorem qL.of{c d:aa}(h:d.ab=c.ab):qL c d:=by
 refine⟨fun id hf=>?_,fun id hf=>?_⟩
 ·unfold aO;rw[h];exact⟨hf,p1.refl _⟩
 ·rw[h]at hf;exact .inl hf
theorem qL.trans{c d e:aa}(h:qL c d)(k:qL d e):qL c e:=by
 refine⟨fun id hf=>?_,fun id hf=>?_⟩
 ·obtain⟨h1,h2⟩:=h.wV id hf;obtain⟨k1,k2⟩:=k.wV id h1;exact⟨k1,h2.trans k2⟩
 ·rcases k.new id hf with g|g
  ·rcases h.new id g with cG|cG
   ·exact .inl cG
   ·exact .inr (cG.Lf (k.wV id g).2)
  ·exact .inr g
theorem zB(x:af)(l:List af)(id:Int):cf (x::l) id=if x.id=id then(x,true)else cf l id:=by
 unfold cf;rw[List.find?_cons];by_cases e:x.id=id
 ·have:fp id x=true:=by simp[fp,e]
  rw[this,if_pos e]
 ·have:fp id x=false:=by simp[fp,e]
  rw[this,if_neg e]
theorem Yy{s:af}{id:Int}:∀(l:List af),s.id∉l.map (fun x=>x.id)→cf (pk s l) id=if s.id=id then(s,true)else cf l id
 |[],_=>by rw[pk,zB]
 |x::l,h=>by
  rw[pk];split
  ·rw[zB]
  ·have h1:s.id≠x.id:=fun e=>h (by simp[e]);have h2:s.id∉l.map (fun x=>x.id):=fun g=>h (by rw[eT];exact List.mem_cons_of_mem _ g);rw[zB,zB,Yy l h2];by_cases e:x.id=id
   ·rw[if_pos e,if_pos e,if_neg (fun g=>h1 (g.trans e.symm))]
   ·rw[if_neg e,if_neg e]
theorem ajh{x s:af}{l:List af}(hf:s.id∈(x::l).map (fun x=>x.id)):eC (x::l) s=if x.id=s.id then s::l else x::eC l s:=by
 unfold eC;rw[List.findIdx?_cons];by_cases e:x.id=s.id
 ·have:fp s.id x=true:=by simp[fp,e]
  rw[this,if_pos e];rfl
 ·have:fp s.id x=false:=by simp[fp,e]
  rw[this,if_neg e];have hm:s.id∈l.map (fun x=>x.id):=by
   rw[eT]at hf;rcases List.mem_cons.1 hf with h|h
   ·exact absurd h.symm e
   ·exact h
  cases hi:l.findIdx? (fp s.id)with
  |none=>
   exfalso;rw[List.findIdx?_eq_none_iff]at hi;obtain⟨y,hy,h2⟩:=List.mem_map.1 hm;have:=hi y hy;simp[fp,h2]at this
  |some i=>rfl
theorem Qq{s:af}{id:Int}(l:List af):cf (eC l s) id=if s.id=id then(s,true)else cf l id:=by
 by_cases hm:s.id∈l.map (fun x=>x.id)
 ·induction l with
  |nil=>cases hm
  |cons x l df=>
   rw[ajh hm];by_cases e:x.id=s.id
   ·rw[if_pos e,zB,zB];by_cases ar:s.id=id
    ·rw[if_pos ar,if_pos ar]
    ·rw[if_neg ar,if_neg ar,if_neg (fun g=>ar (e.symm.trans g))]
   ·have xr:s.id∈l.map (fun x=>x.id):=by
     rw[eT]at hm;rcases List.mem_cons.1 hm with h|h
     ·exact absurd h.symm e
     ·exact h
    rw[if_neg e,zB,zB,df xr];by_cases ar:x.id=id
    ·rw[if_pos ar,if_pos ar,if_neg (fun g=>e (ar.trans g.symm))]
    ·rw[if_neg ar,if_neg ar]
 ·rw[Yz (Lg.2 hm),Yy l hm]
theorem qL.put{c d:aa}{s:af}(hd:d.ab=eC c.ab s)(hf:(cf c.ab s.id).2=true)(hr:p1 (aO c s.id) s):qL c d:=by
 have key:∀id,cf d.ab id=if s.id=id then(s,true)else cf c.ab id:=fun id=>by rw[hd];exact Qq _
 refine⟨fun id h=>?_,fun id h=>?_⟩
 ·unfold aO;rw[key];by_cases e:s.id=id
  ·rw[if_pos e];subst e;exact⟨rfl,hr⟩
  ·rw[if_neg e];exact⟨h,p1.refl _⟩
 ·rw[key]at h;by_cases e:s.id=id
  ·subst e;exact .inl hf
  ·rw[if_neg e]at h;exact .inl h
theorem qL.add{c d:aa}{s:af}(hd:d.ab=eC c.ab s)(hf:(cf c.ab s.id).2=false)(hr:HM s):qL c d:=by
 have key:∀id,cf d.ab id=if s.id=id then(s,true)else cf c.ab id:=fun id=>by rw[hd];exact Qq _
 refine⟨fun id h=>?_,fun id h=>?_⟩
 ·unfold aO;rw[key];by_cases e:s.id=id
  ·subst e;rw[hf]at h;cases h
  ·rw[if_neg e];exact⟨h,p1.refl _⟩
 ·unfold aO;rw[key]at h⊢;by_cases e:s.id=id
  ·rw[if_pos e];exact .inr hr
  ·rw[if_neg e]at h;exact .inl h
structure HN(c:aa)(bK:List aq):Prop where
 oc:∀f∈bK,f.bp≠5
 YA:∀f∈bK,f.bp=8→(cf c.ab f.aC).2=true∧((aO c f.aC).ak.b0≤3→Qs (aO c f.aC).ak f)
 YB:∀id,(cf c.ab id).2=true→(aO c id).ak.b0≤3→∀n,Qr bK id n=if dI (aO c id).ak.aM n then 1 else 0
 l9:∀id,(cf c.ab id).2=true→(aO c id).j2=false∧(aO c id).hL=false
theorem aji{bK:List aq}{id n:Int}(h:∀f∈bK,f.bp=8→f.aC≠id):Qr bK id n=0:=by
 unfold Qr;rw[List.countP_eq_zero];intro f hf hh;simp only[Yx,R0,bW,b8]at hh;exact h f hf hh.1.1.1 hh.1.1.2
theorem HN.Lf{c d:aa}{bK:List aq}(h:HN c bK)(k:qL c d):HN d bK:=by
 refine⟨h.oc,fun f hf hk=>?_,fun id hf hs n=>?_,fun id hf=>?_⟩
 ·obtain⟨h1,h2⟩:=h.YA f hf hk;obtain⟨k1,k2⟩:=k.wV _ h1;refine⟨k1,fun g=>?_⟩;obtain⟨cn,_,d4⟩:=k2.g g;exact d4 f (h2 cn)
 ·rcases k.new id hf with g|g
  ·obtain⟨_,k2⟩:=k.wV id g;obtain⟨cn,cG,_⟩:=k2.g hs;rw[h.YB id g cn n,cG]
  ·cases hc:(cf c.ab id).2 with
   |true=>
    obtain⟨_,k2⟩:=k.wV id hc;obtain⟨cn,cG,_⟩:=k2.g hs;rw[h.YB id hc cn n,cG]
   |false=>
    rw[g.1 hs n,if_neg ξ];refine aji fun f ajj hk e=>?_;have:=(h.YA f ajj hk).1;rw[e,hc]at this
    cases this
 ·rcases k.new id hf with g|g
  ·obtain⟨_,k2⟩:=k.wV id g;obtain⟨nL,qp⟩:=h.l9 id g;exact⟨k2.ml nL,k2.ts qp⟩
  ·exact g.2
def Lh(c:aa):Prop:=HN c (ajg c.an)
theorem Lh.Lf{c d:aa}(h:Lh c)(k:qL c d)(hp:d.an=c.an):Lh d:=by
 unfold Lh;rw[hp];exact HN.Lf h k
theorem aix(c:aa):(md c).1=iJ c.dq c.ef c.own.eP:=by
 unfold md
 cases h:qd c.dq with
 |true=>rfl
 |false=>unfold iJ lZ;rw[h];rfl
theorem XW(a:eL)(t:Bool):(hD a t).1=kf a:=by
 unfold hD
 cases h:yU a with
 |true=>rfl
 |false=>unfold kf qe;rw[h];rfl
def zw(c:aa)(s:af)(k:Int):af:=
 if k=4 then {s with jG:=false}else if k=5 then {s with hL:=false}else if k=17 then {s with b1:=iJ s.b1 c.ef c.own.eP,k_:=false}else if k=21 then {s with cV:=kl s.cV}else s
theorem aiz{c:aa}{s:af}{k:Int}(h:k=17→q1 s=true):zw c s k=jN c s k:=by
 unfold zw jN;by_cases nc:k=17
 ·subst nc;have hg:=h rfl;have:(if(lE c s).2 then(lE c s).1 else s.b1)=iJ s.b1 c.ef c.own.eP:=by
   unfold lE;rw[if_pos hg]
   cases hm:qd s.b1 with
   |true=>
    simp only[if_true]
    cases hr:lZ s.b1 c.ef c.own.eP with
    |true=>rfl
    |false=>unfold iJ;rw[hr];rfl
   |false=>
    have:iJ s.b1 c.ef c.own.eP=s.b1:=by unfold iJ lZ;rw[hm];rfl
    rw[this]
    cases s.k_<;>rfl
  simp only[this]
 ·rw[if_neg nc,if_neg nc]
theorem aiA(c:aa)(s:af)(k:Int):(zw c s k).ak=s.ak∧(zw c s k).a2=s.a2∧(zw c s k).id=s.id:=by
 unfold zw
 repeat' split
 all_goals exact⟨rfl,rfl,rfl⟩
theorem ajf(c:aa)(s:af)(k:Int):q1 (jN c s k)=q1 s:=by
 unfold jN
 repeat' split
 all_goals rfl
theorem Yu:∀{l:List af},(l.map fun s=>s.id).Pairwise (·<·)→∀{s:af},s∈l→cf l s.id=(s,true)
 |[],_,_,hs=>by cases hs
 |x::l,h,s,hs=>by
  rw[eT,List.pairwise_cons]at h;rw[zB];rcases List.mem_cons.1 hs with rfl|hs
  ·rw[if_pos rfl]
  ·have:=h.1 s.id (List.mem_map_of_mem hs);rw[if_neg ω];exact Yu h.2 hs
def B1(x:aa)(f:aq):Prop:=kindOk f.bp=true∧f.bp≠8∧(f.bp=17→q1 (aO x f.aC)=true)
theorem adg{x:aa}{g:aq}(h:B1 x g)(f:aq):B1 (iV x f) g:=by
 refine⟨h.1,h.2.1,fun hk=>?_⟩;have h2:=h.2.2 hk;unfold iV
 repeat' split
 all_goals first
  |exact h2
  |skip
 rename_i hf;unfold aO lI;rw[Qq];split
 ·rename_i he;have he:(jN x (aO x f.aC) f.bp).id=g.aC:=he;rw[(FG _ _ _).2.2,w7 hf]at he
  show q1 (jN x (aO x f.aC) f.bp)=true
  rw[ajf,he];exact h2
 ·exact h2
theorem adb{c:aa}(h:iZ c):∀f∈fq c,B1 c f:=by
 intro f hf;unfold fq at hf;split at hf
 ·simp only[fi,Ep,Er]at hf;have u:∀(k l:Int) (u:Bool),kindOk k=true→k≠8→k≠17→f=gi k l u→B1 c f:=fun k l u o a b e=>by subst e;exact⟨o,a,fun g=>absurd g b⟩
  rcases hf with (((hf|hf)|hf)|hf)|((hf|hf)|hf)
  all_goals first
   |(split at hf
     ·exact u _ _ _ rfl ζ ζ (List.mem_singleton.1 hf)
     ·cases hf)
   |skip
  obtain⟨s,hs,hf⟩:=List.mem_flatMap.1 hf;have aS:aO c s.id=s:=by unfold aO;rw[Yu h.i0 hs]
  simp only[gk,fi]at hf;rcases hf with ((hf|hf)|hf)|hf
  ·unfold ji at hf;split at hf
   ·rw[List.mem_singleton.1 hf];exact⟨rfl,(fun g=>by cases g),fun g=>by cases g⟩
   ·cases hf
  ·unfold k' at hf;split at hf
   ·rw[List.mem_singleton.1 hf];exact⟨rfl,(fun g=>by cases g),fun g=>by cases g⟩
   ·cases hf
  ·unfold l0 at hf;split at hf
   ·rename_i hw;rw[List.mem_singleton.1 hf];refine⟨rfl,(fun g=>by cases g),fun _=>?_⟩
    show q1 (aO c s.id)=true
    rw[aS];unfold lE at hw;split at hw
    ·assumption
    ·cases hw
   ·cases hf
  ·unfold pE at hf;split at hf
   ·rw[List.mem_singleton.1 hf];exact⟨rfl,(fun g=>by cases g),fun g=>by cases g⟩
   ·cases hf
 ·cases hf
def XR:List (List bR):=cS 10 [56501,56499,56533,56515,56821,56659,56133,57955,52488,39366]
attribute [go_sem] XR
def Cy(c:aa)(f:aq)(aX e:af)(i:Nat):List H:=[.box (aa.bT c),.box (aq.bT f),.box aa.cc,.hN 39 ((c.ab.map af.enc).take i) (af.aG e (.sl 6 0 aX.ak.av.cells.length) (.sl 7 0 aX.ak.aP.length) (.sl 8 0 aX.ak.aM.length) (.sl 9 0 aX.ak.a0.length) (.sl 10 0 aX.a2.bV.cp.length)) ((c.ab.map af.enc).drop (i+1)),.aj 2 (c.an.map aT.enc),.box (aa.aG c (.sl 3 0 c.ab.length) (.sl 4 0 c.an.length)),.ah 1 (aX.ak.av.cells.map aR) true,.ah 2 (aX.ak.aP.map J.enc) true,.ah 2 (aX.ak.aM.map J.enc) true,.ah 2 (aX.ak.a0.map J.enc) true,.ah 2 (aX.a2.bV.cp.map aU.enc) true]
theorem aiu{S:List Bool}(h:S.length=21):∃e8 cB cJ ct eA fb fs fT gK g2 iF nm nn np nq nr pq v_ v' Bs Bt,S=[e8,cB,cJ,ct,eA,fb,fs,fT,gK,g2,iF,nm,nn,np,nq,nr,pq,v_,v',Bs,Bt]:=by
 match S,h with|[e8,cB,cJ,ct,eA,fb,fs,fT,gK,g2,iF,nm,nn,np,nq,nr,pq,v_,v',Bs,Bt],_=>exact⟨e8,cB,cJ,ct,eA,fb,fs,fT,gK,g2,iF,nm,nn,np,nq,nr,pq,v_,v',Bs,Bt,rfl⟩
def P4(c:aa)(f:aq)(aX:af)(i:Nat)(k:Int)(S:List Bool):St:=⟨(.ptr 5 0 0::.ptr 3 i 0::.i k::aA 3 (.i k::.d (.bool false)::.d (.bool false)::aA 3 (.d (.bool false)::.d (.bool false)::aA 3 (.d (.bool true)::.d (.bool true)::(aw S 15 (.eh [.agg (eD.bT (iJ aX.b1 c.ef c.own.eP)),.d (.bool (lZ aX.b1 c.ef c.own.eP))]))::(aw S 0 (.ptr 3 i 0))::(aw S 1 (.ptr 3 i 0))::(aw S 2 (.ptr 3 i 0))::(aw S 3 (.ptr 3 i 23))::(aw S 4 (.agg (eD.bT aX.b1)))::(aw S 5 (.ptr 5 0 0))::(aw S 6 (.ptr 5 0 0))::(aw S 7 (.ptr 5 0 48))::(aw S 8 (.i c.ef))::(aw S 9 (.ptr 5 0 0))::(aw S 10 (.ptr 5 0 0))::(aw S 11 (.ptr 5 0 1))::(aw S 12 (.ptr 5 0 8))::(aw S 13 (.i c.own.eP))::(aw S 14 (.eh [.agg (eD.bT (iJ aX.b1 c.ef c.own.eP)),.d (.bool (lZ aX.b1 c.ef c.own.eP))]))::(aw S 16 (.agg (eD.bT (iJ aX.b1 c.ef c.own.eP))))::(aw S 17 (.d (.bool (lZ aX.b1 c.ef c.own.eP))))::(aw S 18 (.ptr 3 i 0))::(aw S 19 (.ptr 3 i 23))::aA 13 [])))),Cy c f aX {aX with b1:=(bif S.getD 20 false then iJ aX.b1 c.ef c.own.eP else aX.b1)} i⟩
theorem aiv(c:aa)(f:aq)(aX:af)(i:Nat)(k:Int)(hi:i<c.ab.length)(kv:List V)(K:V→List H→Prop)(cd:K (.eh []) (Cy c f aX (zw c aX k) i)):d6 prog 89 kv (Cy c f aX aX i) [.ptr 5 0 0,.ptr 3 i 0,.i k] K:=by
 have hlt:i=((c.ab.map af.enc).take i).length:=by rw[List.length_take,I];omega
 refine(fY (n:=52) (rs:=[]) func89 rfl call89 b2 rfl rfl ?_);unfold zw at cd;simp only[go_sem,Cy]
 cases i1:decide (k=4)with
 |true=>
  rw[if_pos (cQ i1)]at cd
  try simp only[go_sem]
  repeat'(first|(with_reducible refine az ?_)|fail)
  exact cd
 |false=>
  rw[if_neg (c2 i1)]at cd;simp only[go_sem]
  cases oc:decide (k=5)with
  |true=>
   rw[if_pos (cQ oc)]at cd
   try simp only[go_sem]
   repeat'(first|(with_reducible refine az ?_)|fail)
   first|exact cd|exact⟨hlt,cd⟩
  |false=>
   rw[if_neg (c2 oc)]at cd;simp only[go_sem]
   cases XS:decide (k=17)with
   |true=>
    rw[if_pos (cQ XS)]at cd;have h5:aL 85 [.agg (eD.enc aX.b1),.one (.int .i64 c.ef),.one (.int .i64 c.own.eP)] [.agg (eD.enc ((iJ aX.b1 c.ef c.own.eP))),.one (.bool (lZ aX.b1 c.ef c.own.eP))]:=MM _ _ _ _ _ _ _ _;simp only[go_sem];refine gC _ (ia (fun S σ=>σ=P4 c f aX i k S) (N:=21) rfl rfl rfl ?_) ?_
    ·repeat'(first|exact jW|refine jX ?_ ?_)
     all_goals(
      rintro S σ F hl a1 hp hcl rfl bB;obtain⟨ib,dW,ek,dt,eF,jE,kb,kc,ks,ns,pr,yD,yE,yF,yG,yH,zR,Bu,Bv,Iq,Ir,rfl⟩:=aiu hl;simp only[fm,eW,b4]at a1;subst a1;simp[ix,Region.binds]at hp
      repeat(obtain⟨eu,hp⟩:=hp;subst eu)
      try subst hp
      try obtain rfl:=bd (hcl 0 18 _ rfl ζ rfl)
      try obtain rfl:=bd (hcl 1 2 _ rfl ζ rfl)
      try obtain rfl:=bd (hcl 2 3 _ rfl ζ rfl)
      try obtain rfl:=bd (hcl 3 4 _ rfl ζ rfl)
      try obtain rfl:=bd (hcl 4 14 _ rfl ζ rfl)
      try obtain rfl:=bd (hcl 5 6 _ rfl ζ rfl)
      try obtain rfl:=bd (hcl 6 7 _ rfl ζ rfl)
      try obtain rfl:=bd (hcl 7 8 _ rfl ζ rfl)
      try obtain rfl:=bd (hcl 8 14 _ rfl ζ rfl)
      try obtain rfl:=bd (hcl 9 10 _ rfl ζ rfl)
      try obtain rfl:=bd (hcl 10 11 _ rfl ζ rfl)
      try obtain rfl:=bd (hcl 11 12 _ rfl ζ rfl)
      try obtain rfl:=bd (hcl 12 13 _ rfl ζ rfl)
      try obtain rfl:=bd (hcl 13 14 _ rfl ζ rfl)
      try obtain rfl:=bd (hcl 14 15 _ rfl ζ rfl)
      try obtain rfl:=bd (hcl 15 16 _ rfl ζ rfl)
      try obtain rfl:=bd (hcl 15 17 _ rfl ζ rfl)
      try obtain rfl:=bd (hcl 16 18 _ rfl ζ rfl)
      try obtain rfl:=bd (hcl 18 19 _ rfl ζ rfl)
      try obtain rfl:=bd (hcl 19 20 _ rfl ζ rfl)
      simp only[P4,Cy,aw,e3,e0,c_,dK]
      repeat'(first
        |exact bB _ rfl
        |(with_reducible refine az ?_)
        |exact hlt
        |(refine ae.intro h5 ?_)
        |simp only[go_sem,bz,bx]))
    rintro _ rfl;simp only[P4,Cy,List.replicate,aw,e3,e0,c_];simp only[go_sem]
    first|exact cd|exact⟨hlt,cd⟩
   |false=>
    rw[if_neg (c2 XS)]at cd;simp only[go_sem]
    cases XT:decide (k=21)with
    |true=>
     rw[if_pos (cQ XT)]at cd
     try simp only[go_sem]
     repeat'(first|(refine ae.intro (by apply XU) ?_<;>simp only[go_sem])|(with_reducible refine az ?_)|fail)
     first|exact cd|exact⟨hlt,cd⟩
    |false=>
     rw[if_neg (c2 XT)]at cd;simp only[go_sem];exact cd
theorem XV{k:Int}(h:h6 k=true):k=4∨k=5∨k=8∨k=17∨k=21:=by
 simpa [h6,or_assoc]using h
theorem adh(c:aa)(f:aq)(hz:jC c)(bH:∀s∈c.ab,wo s.ak)(ht:B1 c f):aL 33 [.agg (aa.enc c),.agg (aq.enc f)] [.agg (aa.enc ((iV c f)))]:=by
 refine om 86 func33 call33 [.cell 4 37] ?_;intro ok;clear ok;have lv:=k5 hz;have TZ:=Mt c ω;have Ev:=Jf c.ab f.aC;have zx:=Hr c hz;rw[←Di bH]at zx;obtain⟨mb,as4,aiw⟩:=ht;have vN:gq c=true→iV c f=if f.bp=16 then {c with dq:=iJ c.dq c.ef c.own.eP,pF:=false}
   else if f.bp=18 then(if f.ft then {c with en:=kf c.en,lG:=false}else {c with eo:=kf c.eo,lF:=false})
   else if f.bp=20 then {c with cm:=kl c.cm}
   else if f.bp=22 then(if f.ft then {c with fc:={c.fc with blocked:=-1}}else {c with fe:={c.fe with blocked:=-1}})
   else if(cf c.ab f.aC).2 then lI c (jN c (aO c f.aC) f.bp)else c:=fun h=>by
  unfold iV;rw[if_pos h,aix,XW,XW]
 refine e2 b2 3 (α:=Unit) (fun _=>⟨(.al::.al::.ptr 0 0 0::.ptr 1 0 0::.ptr 2 0 0::.ptr 5 0 0::.i (iH (fp f.aC) c.ab)::aA 79 []),[.box (aa.bT c),.box (aq.bT f),.box aa.cc,.aj 39 (c.ab.map af.enc),.aj 2 (c.an.map aT.enc),.box (aa.aG c (.sl 3 0 c.ab.length) (.sl 4 0 c.an.length))]⟩) (fun _=>gq c=true∧(h6 f.bp=true→¬iH (fp f.aC) c.ab<0)) ?_ ?_
 ·skip
  try simp only[go_sem]
  repeat'((first|refine ae.aj ‹_› ?_|refine ay.aj (by first|assumption|apply Jm) ?_|refine bw ?_|refine bo XR χ ψ ?_)<;>simp only[go_sem,I])
  cases aS:gq c with
  |false=>
   have ai:iV c f=c:=by unfold iV;rw[aS];rfl
   simp only[go_sem,I,cR,c_];simp[ai]
  |true=>
   have ai:=vN aS
   cases hA:h6 f.bp with
   |false=>
    simp only[go_sem,bN,dK];refine dm.intro () [0,1,2,3,4,5] ξ ?_;simp only[go_sem];simp
   |true=>
    cases hx:decide (iH (fp f.aC) c.ab<0)with
    |true=>
     have hs:(cf c.ab f.aC).2=false:=by
      rcases oq (fp f.aC) c.ab with ⟨h1,h2⟩|⟨i,hi,h1,h2,ao⟩
      ·unfold cf;rw[h2]
      ·have:=cQ hx;omega
     have hk:=XV hA;rw[if_neg ω,if_neg ω,if_neg ω,if_neg ω,hs]at ai;simp only[go_sem,I,bN,dK,c_];simp[ai]
    |false=>
     simp only[go_sem,bN,dK,c_];refine dm.intro () [0,1,2,3,4,5] (by have:=c2 hx;first|exact this|simpa using this) ?_;simp only[go_sem];simp
 rintro _ ⟨aS,aiy⟩;have ai:=vN aS
 cases hA:h6 f.bp with
 |true=>
  have hk:=XV hA;have HB:=bm (p:=f.bp=16) ω;have HC:=bm (p:=f.bp=18) ω;have HD:=bm (p:=f.bp=20) ω;have KL:=bm (p:=f.bp=22) ω;rw[if_neg ω,if_neg ω,if_neg ω,if_neg ω]at ai;rcases oq (fp f.aC) c.ab with ⟨h1,h2⟩|⟨i,hi,h1,h2,ao⟩
  ·have:=aiy hA;omega
  obtain⟨aX,dF⟩:∃aX,aX=c.ab[i]:=⟨_,rfl⟩;have hm:aX∈c.ab:=dF▸eS hi;have aB:=cq af.enc c.ab i hi;rw[←dF]at aB;have Ap:aO c f.aC=aX:=by rw[dF];exact IA h1 hi
  have gg:aX.id=f.aC:=by rw[dF];exact IC h1 hi
  have hs:(cf c.ab f.aC).2=true:=by unfold cf;rw[h2]
  rw[hs,if_pos rfl,Ap,←aiz (fun g=>by have:=aiw g;rwa [Ap]at this)]at ai;obtain⟨fw,fH,h4⟩:=aiA c aX f.bp;have cO:=Mu (Y:=zw c aX f.bp) h1 hi (h4.trans gg);simp only[af.enc,fw,fH]at cO;rw[h1];refine ND 3 i ?_;simp only[go_sem,I,aB,af.enc];refine DA b2 1 ?_;simp only[go_sem,HB,HC,HD,KL]
  try simp only[go_sem,I,hA]
  repeat'((first|refine ae.intro (by first|assumption|apply Jm) ?_|refine ay.intro ‹_› ?_)<;>simp only[go_sem,hA])
  have hlt:i=((c.ab.map af.enc).take i).length:=by rw[List.length_take,I];omega
  apply I6;(focus ((repeat'(first|exact vp|(refine vq ?_ ?_)|(refine xx rfl ?_)|(refine xy rfl ?_)|(refine ae.inl (aiv c f aX i f.bp hi _ _ ?_))|(with_reducible refine az ?_)|(simp only[go_sem,fM,Cy,aE])));all_goals exact rfl));simp only[go_sem];refine XX 3 ?_;simp only[go_sem,I];refine az ?_;refine lx b2 ?_;have bt:(c.ab.length≤((c.ab.map af.enc).take i).length+(((c.ab.map af.enc).drop (i+1)).length+1))=True:=eq_true (by rw[List.length_take,List.length_drop,I];omega)
  try simp only[go_sem,I,bt,if_true]
  repeat'(first|(with_reducible refine az ?_)|fail)
  rw[ai];simp only[lI,fw,fH,cO]
 |false=>
  have hk:f.bp=16∨f.bp=18∨f.bp=20∨f.bp=22:=by
   rcases Dl mb with h|h|h|h|h|h|h|h|h<;>first|omega|(exfalso;rw[h]at hA;exact absurd hA ζ)
  refine lx b2 ?_;simp only[go_sem]
  cases HB:decide (f.bp=16)with
  |true=>
   rw[if_pos (cQ HB)]at ai
   try simp only[go_sem]
   repeat'(first|((first|refine ae.aj (by first|assumption|apply MM) ?_|refine ay.aj ‹_› ?_)<;>simp only[go_sem,I])|(with_reducible refine az ?_)|fail)
   simp[ai]
  |false=>
   rw[if_neg (c2 HB)]at ai;simp only[go_sem]
   cases HC:decide (f.bp=18)with
   |true=>
    rw[if_pos (cQ HC)]at ai;simp only[go_sem]
    cases hu:f.ft with
    |true=>
     rw[hu]at ai
     try simp only[go_sem]
     repeat'(first|((first|refine ae.aj (by first|assumption|apply MN) ?_|refine ay.aj ‹_› ?_)<;>simp only[go_sem,I])|(with_reducible refine az ?_)|fail)
     simp[ai]
    |false=>
     rw[hu]at ai
     try simp only[go_sem]
     repeat'(first|((first|refine ae.aj (by first|assumption|apply MN) ?_|refine ay.aj ‹_› ?_)<;>simp only[go_sem,I])|(with_reducible refine az ?_)|fail)
     simp[ai]
   |false=>
    rw[if_neg (c2 HC)]at ai;simp only[go_sem]
    cases HD:decide (f.bp=20)with
    |true=>
     rw[if_pos (cQ HD)]at ai
     try simp only[go_sem]
     repeat'(first|((first|refine ae.aj (by first|assumption|apply XU) ?_|refine ay.aj ‹_› ?_)<;>simp only[go_sem,I])|(with_reducible refine az ?_)|fail)
     simp[ai]
    |false=>
     have KL:=bC (p:=f.bp=22) (by have:=c2 HB;have:=c2 HC;have:=c2 HD;omega);rw[if_neg (c2 HD),if_pos (cQ KL)]at ai;simp only[go_sem,KL]
     cases hu:f.ft with
     |true=>
      rw[hu]at ai
      try simp only[go_sem,I]
      refine ae.inl (fY (n:=12) (rs:=[.tmp 4]) func88 rfl call88 b2 rfl rfl ?_);simp only[go_sem,I]
      try simp only[go_sem,I,hu]
      repeat'(first|(with_reducible refine az ?_)|fail)
      simp[ai]
     |false=>
      rw[hu]at ai
      try simp only[go_sem,I]
      refine ae.inl (fY (n:=12) (rs:=[.tmp 4]) func88 rfl call88 b2 rfl rfl ?_);simp only[go_sem,I]
      try simp only[go_sem,I,hu]
      repeat'(first|(with_reducible refine az ?_)|fail)
      simp[ai]
theorem Qo{α:Type}{P:List α→Prop}(h0:P [])(h1:∀l x,P l→P (l++[x]))(l:List α):P l:=by
 have key:∀r:List α,P r.reverse:=by
  intro r
  induction r with
  |nil=>exact h0
  |cons x r df=>rw[List.reverse_cons];exact h1 _ _ df
 have:=key l.reverse
 rwa [List.reverse_reverse]at this
theorem Yq{α:Type}{p q:α→Bool}:∀{l:List α},(∀x∈l,p x=q x)→l.find? p=l.find? q
 |[],_=>rfl
 |x::l,h=>by rw[List.find?_cons,List.find?_cons,h x ξ,Yq (l:=l) fun y hy=>h y (by simp[hy])]
def gn(l:List b9):Int:=l.foldl (fun m c=>cj m c.cL.ew) 7
def ho(l:List b9):List b9:=l.filter fun c=>decide (c.cL.ew=gn l)
def Ba(l:List b9)(dE:Int):Int:=if l=[]∨k3 l=false then -1 else match l.find? (fun c=>decide (dE<c.id))with|some c=>c.id|none=>(l[0]?.getD (⟨0,⟨0,false⟩⟩:b9)).id
def CH(l:List b9)(dE:Int):Int:=if l=[]∨k3 l=false then -1 else match(ho l).find? (fun c=>!c.cL.hO)with|some c=>c.id|none=>Ba (ho l) dE
theorem ai7(l:List b9):k3 l=xt (fun c=>c.id) (fun c=>bQ c.id&&lu c.cL) l:=rfl
theorem Yr{l:List b9}:k3 l=true↔(∀c∈l,bQ c.id=true∧lu c.cL=true)∧(l.map fun c=>c.id).Pairwise (·<·):=by
 rw[ai7,K_];simp only[bW]
theorem HL(l:List b9)(c:b9):gn (l++[c])=cj (gn l) c.cL.ew:=by
 unfold gn;rw[List.foldl_append];rfl
theorem ai8:∀(l:List b9),gn l≤7∧∀c∈l,gn l≤c.cL.ew:=by
 intro l;refine Qo (P:=fun l=>gn l≤7∧∀c∈l,gn l≤c.cL.ew) ⟨Int.le_refl 7,fun c hc=>by cases hc⟩ (fun l c df=>?_) l
 ·rw[HL];refine⟨by unfold cj;split<;>omega,fun d hd=>?_⟩;rcases fi.1 hd with hd|hd
  ·have:=df.2 d hd;unfold cj;split<;>omega
  ·rw[List.mem_singleton.1 hd];unfold cj;split<;>omega
theorem Ys:∀(l:List b9),(∀c∈l,c.cL.ew≤7)→l≠[]→nZ l=(gn l,(ho l).map fun c=>c.id):=by
 intro l;refine Qo (P:=fun l=>(∀c∈l,c.cL.ew≤7)→l≠[]→nZ l=(gn l,(ho l).map fun c=>c.id)) (fun _ h=>absurd rfl h) (fun l c df=>?_) l
 ·intro h _;have hc:=h c ξ;have hl:∀d∈l,d.cL.ew≤7:=fun d hd=>h d (by simp[hd]);have bt:=ai8 l;have e:nZ (l++[c])=p0 (nZ l) c:=by unfold nZ;rw[List.foldl_append];rfl
  have hu:ho (l++[c])=(l.filter fun d=>decide (d.cL.ew=cj (gn l) c.cL.ew))++(if c.cL.ew=cj (gn l) c.cL.ew then [c]else []):=by
   unfold ho;rw[List.filter_append,HL,List.filter_cons,List.filter_nil]
   congr 1
   by_cases hh:c.cL.ew=cj (gn l) c.cL.ew
   ·rw[if_pos hh,if_pos (bC hh)]
   ·rw[if_neg hh,if_neg (by simpa using hh)]
  rw[e,HL,hu];by_cases hn:l=[]
  ·subst hn;have dc:nZ []=(8,[]):=rfl;rw[dc];have yW:gn []=7:=rfl;have em:cj 7 c.cL.ew=c.cL.ew:=by unfold cj;split<;>omega
   rw[yW,em,if_pos rfl];unfold p0;rw[if_pos (by simp only;omega)];rfl
  ·rw[df hl hn];unfold p0;simp only;by_cases h1:c.cL.ew<gn l
   ·have em:cj (gn l) c.cL.ew=c.cL.ew:=by unfold cj;rw[if_pos h1]
    rw[if_pos h1,em,if_pos rfl];have ai9:(l.filter fun d=>decide (d.cL.ew=c.cL.ew))=[]:=by
     rw[List.filter_eq_nil_iff];intro d hd;have:=bt.2 d hd;simp only[b8];omega
    rw[ai9];rfl
   ·have em:cj (gn l) c.cL.ew=gn l:=by unfold cj;rw[if_neg h1]
    rw[if_neg h1,em];by_cases h2:c.cL.ew=gn l
    ·rw[if_pos h2,if_pos h2,List.map_append];rfl
    ·rw[if_neg h2,if_neg h2,gm];rfl
theorem aja:∀(l:List b9),(∀c∈l,c.cL.ew≤7)→l≠[]→∃c∈l,c.cL.ew=gn l:=by
 intro l;refine Qo (P:=fun l=>(∀c∈l,c.cL.ew≤7)→l≠[]→∃c∈l,c.cL.ew=gn l) (fun _ h=>absurd rfl h) (fun l c df=>?_) l;intro dR _;rw[HL];by_cases h0:l=[]
 ·subst h0;refine⟨c,by simp,?_⟩;have:=dR c ξ;have yW:gn []=7:=rfl;rw[yW];unfold cj;split<;>omega
 ·by_cases h1:c.cL.ew<gn l
  ·exact⟨c,by simp,by unfold cj;rw[if_pos h1]⟩
  ·obtain⟨d,hd,e⟩:=df (fun d hd=>dR d (by simp[hd])) h0;exact⟨d,by simp[hd],by unfold cj;rw[if_neg h1];exact e⟩
theorem ajb{l:List b9}(h:(l.map fun c=>c.id).Pairwise (·<·)){a b:b9}(ha:a∈l)(hb:b∈l)(e:a.id=b.id):a=b:=by
 induction l with
 |nil=>cases ha
 |cons x l df=>
  rw[eT,List.pairwise_cons]at h;rcases List.mem_cons.1 ha with h1|h1<;>rcases List.mem_cons.1 hb with h2|h2
  ·rw[h1,h2]
  ·have:=h.1 _ (List.mem_map.2 ⟨b,h2,rfl⟩);rw[h1]at e;omega
  ·have:=h.1 _ (List.mem_map.2 ⟨a,h1,rfl⟩);rw[h2]at e;omega
  ·exact df h.2 h1 h2
theorem Yt:∀{m:List Int} {x:Int},m.Pairwise (·<·)→x∈m→(m.filter fun y=>decide (y=x))=[x]
 |y::m,x,h,hx=>by
  rw[List.pairwise_cons]at h;rw[List.filter_cons];by_cases e:y=x
  ·subst e;rw[if_pos ξ];have:(m.filter fun z=>decide (z=y))=[]:=by
    rw[List.filter_eq_nil_iff];intro z hz;have:=h.1 z hz;simp only[b8];omega
   rw[this]
  ·rw[if_neg (by simpa using e)];rcases List.mem_cons.1 hx with hx|hx
   ·exact absurd hx.symm e
   ·exact Yt h.2 hx
theorem ajc{m:List Int}{x:Int}(hx:x∉m):(m.filter fun y=>decide (y=x))=[]:=by
 rw[List.filter_eq_nil_iff];intro z hz;simp only[b8];rintro rfl;exact hx hz
theorem adn(l:List b9)(dE:Int):CH l dE=xD l dE:=by
 unfold CH xD;by_cases h:l=[]∨k3 l=false
 ·rw[if_pos h];have hm:qC l=[]:=by
   rcases h with rfl|h
   ·rfl
   ·unfold qC;rw[h];rfl
  rw[hm];have h1:l.find? (qK [])=none:=by
   rw[List.find?_eq_none];intro c _;simp[qK]
  have h2:oO [] l=[]:=by simp[oO]
  rw[h1,h2];rfl
 ·rw[if_neg h];have hn:l≠[]:=fun e=>h (.inl e);have ha:k3 l=true:=by cases hh:k3 l with|true=>rfl|false=>exact absurd (.inr hh) h
  obtain⟨k1,k2⟩:=Yr.1 ha;have dR:∀c∈l,c.cL.ew≤7:=fun c hc=>by
   have:=(k1 c hc).2;simp only[lu,ca,bW,b8]at this;omega
  have hm:qC l=(ho l).map fun c=>c.id:=by unfold qC;rw[ha,if_pos rfl,Ys l dR hn]
  have Qp:(ho l).Sublist l:=List.filter_sublist;have wP:∀c∈l,(c.id∈(ho l).map fun c=>c.id)↔c∈ho l:=fun c hc=>by
   constructor
   ·intro hx;obtain⟨d,hd,e⟩:=List.mem_map.1 hx;rw[←ajb k2 (Qp.subset hd) hc e];exact hd
   ·intro hx;exact List.mem_map.2 ⟨c,hx,rfl⟩
  have vF:((ho l).map fun c=>c.id).Pairwise (·<·):=k2.sublist (Qp.map _);rw[hm];have h1:l.find? (qK ((ho l).map fun c=>c.id))=(ho l).find? fun c=>!c.cL.hO:=by
   unfold ho;rw[List.find?_filter];apply Yq;intro c hc;have:=wP c hc;simp only[qK];have hu:c∈ho l↔c.cL.ew=gn l:=by unfold ho;simp[hc]
   have Le:(((l.filter fun c=>decide (c.cL.ew=gn l)).map fun c=>c.id).any fun x=>decide (x=c.id))=decide (c.cL.ew=gn l):=by
    rw[Bool.eq_iff_iff,List.any_eq_true,b8,←hu,←this];constructor
    ·rintro⟨x,hx,e⟩;rw[b8]at e;rw[←e];exact hx
    ·intro hx;exact⟨_,hx,by simp⟩
   rw[Le,Bool.and_comm];generalize decide (c.cL.ew=gn l)=b
   cases b<;>cases c.cL.hO<;>simp
  have h2:oO ((ho l).map fun c=>c.id) l=(ho l).map fun c=>c.id:=by
   have key:∀(vZ:List b9),(∀c∈vZ,c∈l)→vZ.flatMap (fun c=>((ho l).map fun c=>c.id).filter fun x=>decide (x=c.id))=(vZ.filter fun c=>decide (c.cL.ew=gn l)).map fun c=>c.id:=by
    intro vZ
    induction vZ with
    |nil=>intro _;rfl
    |cons c vZ df=>
     intro hs;have hc:=hs c ξ;rw[List.flatMap_cons,df fun d hd=>hs d (by simp[hd]),List.filter_cons];have hu:c∈ho l↔c.cL.ew=gn l:=by unfold ho;simp[hc]
     by_cases e:c.cL.ew=gn l
     ·rw[if_pos (by simpa using e),Yt vF ((wP c hc).2 (hu.2 e))];rfl
     ·rw[if_neg (by simpa using e),ajc fun hx=>e (hu.1 ((wP c hc).1 hx))];rfl
   exact key l fun c hc=>hc
  rw[h1,h2]
  cases Fw:(ho l).find? (fun c=>!c.cL.hO)with
  |some c=>rfl
  |none=>
   simp only;unfold Ba;have hne:ho l≠[]:=fun e=>by
    have ao:=congrArg List.length h2;have:nZ l=(gn l,[]):=by rw[Ys l dR hn,e];rfl
    have pe:∃c∈l,c.cL.ew=gn l:=by
     exact aja l dR hn
    obtain⟨c,hc,ajd⟩:=pe;have:c∈ho l:=by unfold ho;simp[hc,ajd]
    rw[e]at this
    cases this
   have aje:k3 (ho l)=true:=Yr.2 ⟨fun c hc=>k1 c (Qp.subset hc),vF⟩;rw[if_neg (by rw[aje];simp[hne])];unfold yb;rw[List.find?_map];have hf:((ho l).find? ((fun x=>decide (dE<x))∘fun c=>c.id))=(ho l).find? fun c=>decide (dE<c.id):=rfl;rw[hf]
   cases(ho l).find? fun c=>decide (dE<c.id)with
   |some c=>rfl
   |none=>
    simp only[Option.map_none]
    cases hq:ho l with
    |nil=>exact absurd hq hne
    |cons d vZ=>rfl
def Ra:List (List bR):=cS 25 [847288609442,847288609440,847288609434,847288609416,847288609362,847288609200,847288608714,847288607256,847288602882,847288589760,847288550394,847288432296,847288078002,847287015120,833279293242,833331905901,833303208087,833212331676,832954051350,832179210372,845542825758,838569256956,815907549834,753145430616,564859072962]
attribute [go_sem] Ra
theorem Z0(l:List b9):aL 90 [.one (.sl 3 (l.map b9.enc))] [.one (.bool (k3 l))]:=by
 refine a3 38 func90 call90 [.tmp 2] ?_;intro ok;have hm:=fI ok;clear ok;simp only[go_sem,I];refine cr.intro (fun i:Nat=>⟨(.d (.sl 3 (l.map b9.enc))::aA 4 (.d (.sl 3 (l.map b9.enc))::.i l.length::.i i::aA 30 [])),[]⟩)
  (fun i=>l.length-i) (fun i=>i≤l.length∧k6 (oT l) i=true) 0 [] ⟨by omega,by simp[k6]⟩ ?_ ?_
 ·simp only[go_sem];simp
 ·rintro i ⟨hi,he⟩;by_cases h1:i<l.length
  ·have ax:=bC (p:=(i:Int)<(l.length:Int)) ω;have aB:=cq b9.enc l i h1;have hw:=dX h1 hm;have hs:=C_ (oT l) i;have hf:=fun h=>EX (oT l) (n:=l.length) h1 h
   cases i with
   |zero=>
    have hb:=Z1 l h1;have h2:decide ((0:Int)<((0:Nat):Int))=false:=by decide
    try simp only[go_sem,I,aE,aB,b9.enc,ax]
    repeat'(first|((first|refine ay.intro (by first|apply pt|apply P9) ?_|with_reducible refine lR ?_|refine f' ?_|refine bo Ra χ ψ ?_|refine bP (fun h=>?_) (fun h=>?_))<;>simp only[go_sem,h2])|(with_reducible refine az ?_)|fail)
    ·have e:oT l 0=false:=by rw[hb];revert h;cases bQ l[0].id<;>cases lu l[0].cL<;>simp
     simp[k3,hf e]
    ·have e:oT l 0=true:=by rw[hb];revert h;cases bQ l[0].id<;>cases lu l[0].cL<;>simp
     refine bE.intro 1 [] ⟨by omega,by rw[hs,he,e];rfl⟩ ω ?_;simp only[go_sem,hw];try simp
   |succ j=>
    have hb:=Z2 l j h1;have g3:=cq b9.enc l j ω;have h2:=bC (p:=(0:Int)<((j+1:Nat):Int)) ω;have hp:i64.wrap (((j+1:Nat):Int)-1)=(j:Int):=by simp only[maxLen]at hm;rw[bA]<;>omega
    have bt:decide (l[j+1].id≤l[j].id)=!decide (l[j].id<l[j+1].id):=by by_cases h:l[j].id<l[j+1].id<;>simp[h]<;>omega
    try simp only[go_sem,I,aE,aB,b9.enc,ax]
    repeat'(first|((first|refine ay.intro (by first|apply pt|apply P9) ?_|refine f' ?_|refine bo Ra χ ψ ?_|refine bP (fun h=>?_) (fun h=>?_))<;>simp only[go_sem,I,aE,g3,b9.enc,h2,hp,bt])|(with_reducible refine az ?_)|fail)
    ·have e:oT l (j+1)=false:=by rw[hb];revert h;cases bQ l[j+1].id<;>cases lu l[j+1].cL<;>simp
     simp[k3,hf e]
    ·have e:oT l (j+1)=true:=by rw[hb];revert h;cases bQ l[j+1].id<;>cases lu l[j+1].cL<;>simp
     refine bE.intro (j+1+1) [] ⟨by omega,by rw[hs,he,e];rfl⟩ ω ?_;simp only[go_sem,hw];try simp
  ·have ax:=bm (p:=(i:Int)<(l.length:Int)) ω;obtain rfl:i=l.length:=by omega
   simp only[go_sem,ax];simp[k3,he]
theorem akv(l:List b9)(hl:l.length≤1000):aL 91 [.one (.sl 3 (l.map b9.enc))] [.one (.sl 3 ((ho l).map b9.enc))]:=by
 refine a3 39 func91 call91 [.tmp 2] ?_;intro ok;have hm:=fI ok;clear ok;simp only[go_sem,I];refine cr.intro (fun i:Nat=>⟨(.d (.sl 3 (l.map b9.enc))::.al::.al::.i (gn (l.take i))::.sl 0 0 0::aA 5 (.d (.sl 3 (l.map b9.enc))::.i l.length::.i i::aA 26 [])),[.ah 3 [] true]⟩)
  (fun i=>l.length-i) (fun i=>i≤l.length) 0 [0] ω ?_ ?_
 ·simp only[go_sem];simp[gn]
 ·intro i hi;by_cases h1:i<l.length
  ·have ax:=bC (p:=(i:Int)<(l.length:Int)) ω;have aB:=cq b9.enc l i h1;have hw:=dX h1 hm;have hu:gn (l.take (i+1))=cj (gn (l.take i)) l[i].cL.ew:=by
    rw[gV,cD h1];exact HL _ _
   try simp only[go_sem,I,aE,aB,b9.enc,ax]
   repeat'(first|(with_reducible refine az ?_)|fail)
   all_goals(refine bE.intro (i+1) [0] ω ω ?_;simp only[go_sem,hw,hu,cj];try simp)
  ·have ax:=bm (p:=(i:Int)<(l.length:Int)) ω;obtain rfl:i=l.length:=by omega
   simp only[go_sem,I,ax,d3];refine cr.intro (fun i:Nat=>⟨(.d (.sl 3 (l.map b9.enc))::.al::.al::.i (gn l)::.sl 0 0 ((l.take i).filter fun c=>decide (c.cL.ew=gn l)).length::aA 17 (.d (.sl 3 (l.map b9.enc))::.i l.length::.i i::aA 14 [])),[.ah 3 (((l.take i).filter fun c=>decide (c.cL.ew=gn l)).map b9.enc) true]⟩)
    (fun i=>l.length-i) (fun i=>i≤l.length) 0 [0] ω ?_ ?_
   ·simp only[go_sem];simp
   ·intro k hk;by_cases h2:k<l.length
    ·have g7:=bC (p:=(k:Int)<(l.length:Int)) ω;have FW:=cq b9.enc l k h2;have lQ:=dX h2 hm;have g6:((l.take k).filter fun c=>decide (c.cL.ew=gn l)).length≤k:=Nat.le_trans (List.length_filter_le _ _) (by simp;omega);have e:(l.take (k+1)).filter (fun c=>decide (c.cL.ew=gn l))=(l.take k).filter (fun c=>decide (c.cL.ew=gn l))++(if l[k].cL.ew=gn l then [l[k]]else []):=by
      rw[gV,cD h2,List.filter_append];by_cases hh:l[k].cL.ew=gn l<;>simp[hh]
     generalize (l.take k).filter (fun c=>decide (c.cL.ew=gn l))=hF at e g6;simp only[maxLen]at hm
     try simp only[go_sem,I,aE,FW,b9.enc,g7]
     repeat'(first|(refine bP (fun h=>?_) (fun h=>?_)<;>simp only[go_sem,I])|(with_reducible refine az ?_)|fail)
     all_goals(simp only[b8,eG]at *)
     all_goals first
      |(refine bE.intro (k+1) [3] ω ω ?_;simp only[go_sem,lQ,e];rw[if_pos h];simp[b9.enc];done)
      |(refine bE.intro (k+1) [0] ω ω ?_;simp only[go_sem,lQ,e];rw[if_neg h];simp;done)
    ·have g7:=bm (p:=(k:Int)<(l.length:Int)) ω;obtain rfl:k=l.length:=by omega
     simp only[go_sem,I,g7,d3];simp[ho]
theorem akw(l:List b9)(dE:Int):aL 92 [.one (.sl 3 (l.map b9.enc)),.one (.int .i64 dE)] [.one (.int .i64 (Ba l dE))]:=by
 refine a3 32 func92 call92 [.tmp 4] ?_;intro ok;have hm:=fI ok;clear ok;have w9:=Z0 l;by_cases hg:l=[]∨k3 l=false
 ·have gB:Ba l dE=-1:=by unfold Ba;rw[if_pos hg]
  rw[gB];by_cases h0:l=[]
  ·have dc:decide ((l.length:Int)=0)=true:=by rw[h0];rfl
   try simp only[go_sem,I,dc]
   repeat'(first|(with_reducible refine eB ?_<;>simp only[go_sem]))
  ·have dc:=bm (p:=(l.length:Int)=0) (by have:=List.length_pos_iff.2 h0;omega);rw[hg.resolve_left h0]at w9
   try simp only[go_sem,I,dc]
   repeat'((first|refine ae.intro ‹_› ?_|refine ay.intro ‹_› ?_|with_reducible refine cN ?_)<;>simp only[go_sem,cR])
 ·have h0:l≠[]:=fun h=>hg (.inl h);have h1:k3 l=true:=by cases h:k3 l with|true=>rfl|false=>exact absurd (.inr h) hg
  have fK:=List.length_pos_iff.2 h0;have dc:=bm (p:=(l.length:Int)=0) ω;have gB:Ba l dE=match l.find? (fun c=>decide (dE<c.id))with|some c=>c.id|none=>(l[0]?.getD (⟨0,⟨0,false⟩⟩:b9)).id:=by unfold Ba;rw[if_neg hg];try rfl
  rw[h1]at w9;rw[gB]
  try simp only[go_sem,I,dc]
  repeat'((first|refine ae.intro ‹_› ?_|refine ay.intro ‹_› ?_|with_reducible refine cN ?_)<;>simp only[go_sem,I,bN])
  refine cr.intro (fun i:Nat=>⟨(.d (.sl 3 (l.map b9.enc))::.i dE::aA 13 (.d (.sl 3 (l.map b9.enc))::.i l.length::.i i::aA 14 [])),[]⟩)
   (fun i=>l.length-i) (fun i=>i≤l.length∧(l.take i).any (fun c=>decide (dE<c.id))=false) 0 [] ⟨by omega,by simp⟩ ?_ ?_
  ·simp only[go_sem];simp
  ·rintro i ⟨hi,he⟩;by_cases h1:i<l.length
   ·have ax:=bC (p:=(i:Int)<(l.length:Int)) ω;have aB:=cq b9.enc l i h1;have hw:=dX h1 hm
    try simp only[go_sem,I,aE,aB,b9.enc,ax]
    repeat'(first|((first|refine ae.intro ‹_› ?_|refine ay.intro ‹_› ?_|refine bP (fun h=>?_) (fun h=>?_))<;>simp only[go_sem])|(with_reducible refine az ?_)|fail)
    ·have:=C9 (fun c:b9=>decide (dE<c.id)) l i h1 he h;simp[this]
    ·refine bE.intro (i+1) [] ⟨by omega,xe _ l i h1 he h⟩ ω ?_;simp only[go_sem,hw];try simp
   ·have ax:=bm (p:=(i:Int)<(l.length:Int)) ω;obtain rfl:i=l.length:=by omega
    rw[d3]at he;have hn:=EP _ l he;have iL:=cq b9.enc l 0 fK;have HA:(l[0]?.getD (⟨0,⟨0,false⟩⟩:b9)).id=l[0].id:=by rw[cD fK];rfl
    rw[hn];simp only;rw[HA]
    try simp only[go_sem,I,ax,iL,b9.enc,el]
    repeat'((first|refine ae.intro ‹_› ?_|refine ay.intro ‹_› ?_)<;>simp only[go_sem,I,ax,iL,b9.enc,el])
    all_goals first|omega|simp
theorem adm(l:List b9)(dE:Int)(hl:l.length≤1000):aL 34 [.one (.sl 3 (l.map b9.enc)),.one (.int .i64 dE)] [.one (.int .i64 (CH l dE))]:=by
 refine a3 34 func34 call34 [.tmp 4] ?_;intro ok;have hm:=fI ok;clear ok;have w9:=Z0 l;have BN:=akv l hl;have Cw:=akw (ho l) dE;by_cases hg:l=[]∨k3 l=false
 ·have gB:CH l dE=-1:=by unfold CH;rw[if_pos hg]
  rw[gB];by_cases h0:l=[]
  ·have dc:decide ((l.length:Int)=0)=true:=by rw[h0];rfl
   try simp only[go_sem,I,dc]
   repeat'(first|(with_reducible refine eB ?_<;>simp only[go_sem]))
  ·have dc:=bm (p:=(l.length:Int)=0) (by have:=List.length_pos_iff.2 h0;omega);rw[hg.resolve_left h0]at w9
   try simp only[go_sem,I,dc]
   repeat'((first|refine ae.intro ‹_› ?_|refine ay.intro ‹_› ?_|with_reducible refine cN ?_)<;>simp only[go_sem,cR])
 ·have h0:l≠[]:=fun h=>hg (.inl h);have h1:k3 l=true:=by cases h:k3 l with|true=>rfl|false=>exact absurd (.inr h) hg
  have fK:=List.length_pos_iff.2 h0;have dc:=bm (p:=(l.length:Int)=0) ω;have gB:CH l dE=match(ho l).find? (fun c=>!c.cL.hO)with|some c=>c.id|none=>Ba (ho l) dE:=by unfold CH;rw[if_neg hg];try rfl
  have pS:(ho l).length≤maxLen:=Nat.le_trans (List.length_filter_le _ _) hm;rw[h1]at w9;rw[gB];generalize ho l=u at *
  try simp only[go_sem,I,dc]
  repeat'((first|refine ae.intro ‹_› ?_|refine ay.intro ‹_› ?_|with_reducible refine cN ?_)<;>simp only[go_sem,I,bN])
  refine cr.intro (fun i:Nat=>⟨(.al::.i dE::aA 3 (.sl 0 0 u.length::aA 12 (.sl 0 0 u.length::.i u.length::.i i::aA 13 []))),[.ah 3 (u.map b9.enc) true]⟩)
   (fun i=>u.length-i) (fun i=>i≤u.length∧(u.take i).any (fun c=>!c.cL.hO)=false) 0 [0] ⟨by omega,by simp⟩ ?_ ?_
  ·simp only[go_sem];simp
  ·rintro i ⟨hi,he⟩;by_cases h1:i<u.length
   ·have ax:=bC (p:=(i:Int)<(u.length:Int)) ω;have aB:=cq b9.enc u i h1;have hw:=dX h1 pS
    try simp only[go_sem,I,aE,aB,b9.enc,ax]
    repeat'(first|(refine bP (fun h=>?_) (fun h=>?_)<;>simp only[go_sem])|(with_reducible refine az ?_)|fail)
    ·have:=C9 (fun c:b9=>!c.cL.hO) u i h1 he h;simp[this]
    ·refine bE.intro (i+1) [0] ⟨by omega,xe _ u i h1 he h⟩ ω ?_;simp only[go_sem,hw];try simp
   ·have ax:=bm (p:=(i:Int)<(u.length:Int)) ω;obtain rfl:i=u.length:=by omega
    rw[d3]at he;have hn:=EP _ u he;rw[hn]
    try simp only[go_sem,I,ax]
    repeat'(refine ae.intro ‹_› ?_<;>simp only[go_sem])
theorem alr(xs:List Int)(v:Int):aL 170 [.one (.sl 1 (xs.map aR)),.one (.int .i64 v)] [.one (.int .i64 (iH (fun x=>decide (v=x)) xs))]:=by
 refine a3 19 func170 call170 [.tmp 4] ?_;intro ok;have hm:=fI ok;clear ok;simp only[go_sem,I];refine cr.intro (fun i:Nat=>⟨(.d (.sl 1 (xs.map aR))::.i v::.al::.al::.i 0::.al::.al::.i xs.length::.i i::aA 10 []),[]⟩)
  (fun i=>xs.length-i) (fun i=>i≤xs.length∧(xs.take i).any (fun x=>decide (v=x))=false) 0 [] ⟨by omega,by simp⟩ ?_ ?_
 ·simp only[go_sem];simp
 ·rintro i ⟨hi,he⟩;by_cases h1:i<xs.length
  ·have ax:=bC (p:=(i:Int)<(xs.length:Int)) ω;have aB:=cq aR xs i h1;have hw:=dX h1 hm
   try simp only[go_sem,I,aE,aB,aR,ax]
   repeat'(first|(refine bP (fun h=>?_) (fun h=>?_)<;>simp only[go_sem])|(with_reducible refine az ?_)|fail)
   ·have:=Jj (fun x=>decide (v=x)) xs i h1 he h;simp[this]
   ·refine bE.intro (i+1) [] ⟨by omega,xe _ xs i h1 he h⟩ ω ?_;simp only[go_sem,hw];try simp
  ·have ax:=bm (p:=(i:Int)<(xs.length:Int)) ω;obtain rfl:i=xs.length:=by omega
   rw[d3]at he;simp only[go_sem,ax];simp[Jk _ _ he]
theorem als(xs:List Int)(v:Int):decide (0≤iH (fun x=>decide (v=x)) xs)=xs.contains v:=by
 rcases oq (fun x=>decide (v=x)) xs with ⟨h1,h2⟩|⟨i,hi,h1,h2,ao⟩
 ·have:xs.contains v=false:=by
   rw[List.find?_eq_none]at h2;simp only[List.contains_eq_any_beq,List.any_eq_false];intro x hx;have:=h2 x hx;simpa using this
  rw[h1,this];rfl
 ·have:xs.contains v=true:=by
   have e:v=xs[i]:=cQ ao;rw[e];simp
  rw[h1,this];exact bC ω
theorem alu(xs:List Int)(v:Int):aL 93 [.one (.sl 1 (xs.map aR)),.one (.int .i64 v)] [.one (.bool (xs.contains v))]:=by
 refine a3 9 func93 call93 [.tmp 4] ?_;intro ok;clear ok;have f:=alr xs v;rw[←als]
 try simp only[go_sem]
 refine ae.intro f ?_
 try simp only[go_sem]
def v7(skip:List Int)(s:af):Bool:=qk s&&!skip.contains s.id
theorem alv(skip:List Int)(l:List af)(i:Nat)(h:i<l.length):((l.take (i+1)).filter (v7 skip)).map o8=((l.take i).filter (v7 skip)).map o8++(if v7 skip l[i]then [o8 l[i]]else []):=by
 rw[gV,cD h,List.filter_append,List.map_append]
 cases hw:v7 skip l[i]<;>simp[hw]
theorem alw(s:af)(h:0≤s.ak.b0):(bif bif s.fF then ca s.ak.b0 0 2 else false then bif decide (0<(s.ak.aP.length:Int))then true else decide (s.ak.aW=1)else false)=qk s:=by
 have e:ca s.ak.b0 0 2=decide (s.ak.b0<3):=by
  unfold ca;rw[bC h,Bool.true_and];exact decide_eq_decide.2 ω
 unfold qk;rw[e]
 cases s.fF<;>cases decide (s.ak.b0<3)<;>cases decide (0<(s.ak.aP.length:Int))<;>rfl
theorem adl(c:aa)(skip:List Int)(hz:jC c)(dx:∀s∈c.ab,0≤s.ak.b0):aL 35 [.agg (aa.enc c),.one (.sl 1 (skip.map aR))] [.one (.sl 3 ((B3 c skip).map b9.enc))]:=by
 refine a3 56 func35 call35 [.tmp 4] ?_;intro ok;clear ok;have qf:=hz.1;have hW:B3 c skip=(c.ab.filter (v7 skip)).map o8:=rfl;rw[hW];simp only[go_sem,I];refine cr.intro (α:=Nat×List b9) (fun y=>⟨(.al::.d (.sl 1 (skip.map aR))::.ptr 0 0 0::.al::.al::.sl 1 0 y.2.length::aA 5 (.d (.sl 39 (c.ab.map af.enc))::.i c.ab.length::.i y.1::aA 42 [])),[.box (aa.bT c),.ah 3 (y.2.map b9.enc) true]⟩)
  (fun y=>c.ab.length-y.1) (fun y=>y.1≤c.ab.length∧y.2=((c.ab.take y.1).filter (v7 skip)).map o8) (0,[]) [0,1] ⟨by simp,by simp⟩ ?_ ?_
 ·simp only[go_sem];simp
 ·rintro⟨i,q⟩ ⟨hi,hq⟩;simp only at hi hq;by_cases h1:i<c.ab.length
  ·have ax:=bC (p:=(i:Int)<(c.ab.length:Int)) ω;have aB:=cq af.enc c.ab i h1;have hw:i64.wrap ((i:Int)+1)=((i+1:Nat):Int):=by rw[bA]<;>omega
   have hs:=alv skip c.ab i h1;rw[←hq]at hs;have mo:q.length≤i:=by rw[hq,I];exact Nat.le_trans (List.length_filter_le _ _) (by simp;omega)
   have b7:=alw c.ab[i] (dx _ (eS h1));have vV:=alu skip c.ab[i].id;generalize c.ab[i]=s at *
   try simp only[go_sem,I,aE,aB,af.enc,ax]
   repeat'(first|((first|refine ae.intro ‹_› ?_|refine ay.intro (by first|assumption|apply jt) ?_|refine bw ?_)<;>simp only[go_sem,I])|(with_reducible refine az ?_)|fail)
   rw[b7]
   cases hW:qk s with
   |true=>
    cases cd:skip.contains s.id with
    |false=>
     have hB:v7 skip s=true:=by unfold v7;rw[hW,cd];rfl
     rw[hB,if_pos rfl]at hs
     try simp only[go_sem,I,cR]
     repeat'(first|(with_reducible refine az ?_)|fail)
     refine bE.intro (i+1,q++[o8 s]) [0,4] ⟨by simp only;omega,hs.symm⟩ (by simp only;omega) ?_;simp only[go_sem,hw];simp[o8,b9.enc]
    |true=>
     have hB:v7 skip s=false:=by unfold v7;rw[hW,cd];rfl
     rw[hB,if_neg ξ,gm]at hs;simp only[go_sem,bN];refine bE.intro (i+1,q) [0,1] ⟨by simp only;omega,hs.symm⟩ (by simp only;omega) ?_;simp only[go_sem,hw];simp
   |false=>
    have hB:v7 skip s=false:=by unfold v7;rw[hW];rfl
    rw[hB,if_neg ξ,gm]at hs;simp only[go_sem];refine bE.intro (i+1,q) [0,1] ⟨by simp only;omega,hs.symm⟩ (by simp only;omega) ?_;simp only[go_sem,hw];simp
  ·have ax:=bm (p:=(i:Int)<(c.ab.length:Int)) ω;obtain rfl:i=c.ab.length:=by omega
   rw[d3]at hq;simp only[go_sem,I,ax];simp[hq]
def xu(c:aa)(w:eD)(t:Bool):eD×Bool:=if qd w then(iJ w c.ef c.own.eP,lZ w c.ef c.own.eP)else(w,t)
theorem abz(s:af):(bif bif s.gO then decide (s.a2.b0=0)else false then !s.j2 else false)=q1 s:=by unfold q1;cases s.gO<;>cases decide (s.a2.b0=0)<;>rfl
theorem abA(r:b')(h:0≤r.b0):aL 168 [.agg (b'.enc r)] [.one (.bool (decide (r.b0<2)))]:=by
 refine a3 11 func168 call168 [.tmp 2] ?_;intro ok;clear ok
 try simp only[go_sem]
 repeat'(refine bw ?_<;>simp only[go_sem])
 all_goals(refine gd ?_;rw[Bool.eq_iff_iff];simp;omega)
theorem SK(c:aa)(w:eD)(t:Bool):aL 80 [.agg (aa.enc c),.agg (eD.enc w),.one (.bool t)] [.one (.int .i64 (xu c w t).1.aZ),.one (.bool (xu c w t).2)]:=by
 refine a3 29 func80 call80 [.tmp 6,.tmp 7] ?_;intro ok;clear ok;have f:aL 166 [.agg (eD.enc w)] [.one (.bool (qd w))]:=SL _ _ _ _ _ _;have g:aL 85 [.agg (eD.enc w),.one (.int .i64 c.ef),.one (.int .i64 c.own.eP)] [.agg (eD.enc ((iJ w c.ef c.own.eP))),.one (.bool (lZ w c.ef c.own.eP))]:=MM _ _ _ _ _ _ _ _
 cases h:qd w with
 |false=>
  rw[h]at f;have e:xu c w t=(w,t):=by unfold xu;rw[h];rfl
  rw[e]
  try simp only[go_sem]
  refine ae.intro f ?_
  try simp only[go_sem]
 |true=>
  rw[h]at f;have e:xu c w t=(iJ w c.ef c.own.eP,lZ w c.ef c.own.eP):=by unfold xu;rw[h];rfl
  rw[e]
  try simp only[go_sem]
  refine ae.intro f ?_
  try simp only[go_sem]
  refine ae.intro g ?_
  try simp only[go_sem]
theorem SM(a:eL)(t:Bool):aL 81 [.agg [.int .i64 a.ck,.int .i64 a.aZ,.int .i64 a.seen,.int .i64 a.d9],.one (.bool t)] [.one (.int .i64 (hD a t).1.aZ),.one (.bool (hD a t).2)]:=by
 refine a3 22 func81 call81 [.tmp 4,.tmp 5] ?_;intro ok;clear ok;have f:aL 167 [.agg [.int .i64 a.ck,.int .i64 a.aZ,.int .i64 a.seen,.int .i64 a.d9]] [.one (.bool (yU a))]:=SN _ _ _ _;have g:aL 86 [.agg [.int .i64 a.ck,.int .i64 a.aZ,.int .i64 a.seen,.int .i64 a.d9]] [.agg [.int .i64 ((kf a)).ck,.int .i64 ((kf a)).aZ,.int .i64 ((kf a)).seen,.int .i64 ((kf a)).d9],.one (.bool (qe a))]:=MN _ _ _ _
 cases h:yU a with
 |false=>
  rw[h]at f;have e:hD a t=(a,t):=by unfold hD;rw[h];rfl
  rw[e]
  try simp only[go_sem]
  refine ae.intro f ?_
  try simp only[go_sem]
 |true=>
  rw[h]at f;have e:hD a t=(kf a,qe a):=by unfold hD;rw[h];rfl
  rw[e]
  try simp only[go_sem]
  refine ae.intro f ?_
  try simp only[go_sem]
  refine ae.intro g ?_
  try simp only[go_sem]
theorem abB(c:aa)(s:af)(hr:0≤s.a2.b0):aL 82 [.agg (aa.enc c),.agg (af.enc s)] [.one (.sl 9 ((gk c s).map aq.enc))]:=by
 refine om 92 func82 call82 [.tmp 4] ?_;intro ok;clear ok;have abC:=abA s.a2 hr;have MO:=SK c s.b1 s.k_;have SO:aL 83 [.agg [.int .i64 s.cV.aZ,.int .i64 s.cV.eg,.int .i64 s.cV.blocked,.int .i64 s.cV.gr]] [.one (.bool (n6 s.cV))]:=SP _ _ _ _;have ai:gk c s=ji s++k' s++l0 c s++pE s:=rfl;have g6:=yV c s;rw[ai]at g6;simp only[dY]at g6;refine e2 b2 3 (α:=List aq) (fun bK=>⟨(.al::.al::.ptr 0 0 0::.ptr 1 0 0::.al::.sl 2 0 bK.length::aA 86 []),[.box (aa.bT c),.box (af.bT s),.ah 9 (bK.map aq.enc) true]⟩) (fun bK=>bK=ji s) ?_ ?_
 ·skip
  try simp only[go_sem]
  repeat'((first|refine ae.intro ‹_› ?_|refine ay.intro ‹_› ?_)<;>simp only[go_sem,I])
  cases h:s.jG with
  |true=>
   try simp only[go_sem]
   repeat'(first|(with_reducible refine az ?_)|fail)
   refine dm.intro (ji s) [0,1,4] rfl ?_;simp only[go_sem];simp[ji,h,n7,aq.enc]
  |false=>
   simp only[go_sem];refine dm.intro (ji s) [0,1,2] rfl ?_;simp only[go_sem];simp[ji,h]
 rintro bK de;have e6:bK.length≤4:=by rw[de];(try simp only[dY]);omega
 refine e2 b2 1 (α:=List aq) (fun bK=>⟨(.al::.al::.ptr 0 0 0::.ptr 1 0 0::.al::.sl 2 0 bK.length::aA 86 []),[.box (aa.bT c),.box (af.bT s),.ah 9 (bK.map aq.enc) true]⟩) (fun bK=>bK=ji s++k' s) ?_ ?_
 ·skip
  try simp only[go_sem]
  repeat'((first|refine ae.intro ‹_› ?_|refine ay.intro ‹_› ?_|refine bw ?_)<;>simp only[go_sem])
  rw[SQ s]
  cases h:s.hL&&decide (s.a2.b0<2)with
  |true=>
   try simp only[go_sem,I]
   repeat'(first|(with_reducible refine az ?_)|fail)
   refine dm.intro (ji s++k' s) [0,1,4] rfl ?_;simp only[go_sem];simp[k',h,de,n7,aq.enc]
  |false=>
   simp only[go_sem];refine dm.intro (ji s++k' s) [0,1,2] rfl ?_;simp only[go_sem];simp[k',h,de]
 rintro bK de;have e6:bK.length≤4:=by rw[de];(try simp only[dY]);omega
 refine e2 b2 1 (α:=List aq) (fun bK=>⟨(.al::.al::.ptr 0 0 0::.ptr 1 0 0::.al::.sl 2 0 bK.length::aA 86 []),[.box (aa.bT c),.box (af.bT s),.ah 9 (bK.map aq.enc) true]⟩) (fun bK=>bK=ji s++k' s++l0 c s) ?_ ?_
 ·skip
  try simp only[go_sem]
  repeat'(refine bw ?_<;>simp only[go_sem])
  rw[abz s]
  cases hg:q1 s with
  |false=>
   have bH:l0 c s=[]:=by unfold l0 lE;rw[hg];rfl
   simp only[go_sem];refine dm.intro (ji s++k' s++l0 c s) [0,1,2] rfl ?_;simp only[go_sem];simp[bH,de]
  |true=>
   have hW:lE c s=xu c s.b1 s.k_:=by unfold lE;rw[hg];rfl
   simp only[go_sem];refine ae.intro MO ?_;simp only[go_sem]
   cases h:(xu c s.b1 s.k_).2 with
   |true=>
    have bH:l0 c s=[m3 17 s.id (xu c s.b1 s.k_).1.aZ]:=by unfold l0;rw[hW,h];rfl
    try simp only[go_sem,I]
    repeat'(first|(with_reducible refine az ?_)|fail)
    refine dm.intro (ji s++k' s++l0 c s) [0,1,4] rfl ?_;simp only[go_sem];simp[bH,de,m3,aq.enc]
   |false=>
    have bH:l0 c s=[]:=by unfold l0;rw[hW,h];rfl
    simp only[go_sem];refine dm.intro (ji s++k' s++l0 c s) [0,1,2] rfl ?_;simp only[go_sem];simp[bH,de]
 rintro bK de;have e6:bK.length≤4:=by rw[de];(try simp only[dY]);omega
 refine lx b2 ?_
 try simp only[go_sem]
 repeat'((first|refine ae.intro ‹_› ?_|refine ay.intro ‹_› ?_|refine bw ?_)<;>simp only[go_sem,I])
 rw[SR s]
 cases h:n6 s.cV&&s.fF&&decide (0<(s.ak.aP.length:Int))with
 |true=>
  have bB:pE s=[m3 21 s.id s.cV.aZ]:=by unfold pE;rw[h];rfl
  try simp only[go_sem,I]
  repeat'(first|(with_reducible refine az ?_)|fail)
  rw[ai,←de,bB];simp[m3,aq.enc,e7]
 |false=>
  have bB:pE s=[]:=by unfold pE;rw[h];rfl
  try simp only[go_sem,I]
  repeat'(first|(with_reducible refine az ?_)|fail)
  rw[ai,←de,bB];simp
theorem abD(c:aa)(hz:jC c)(bH:∀s∈c.ab,wo s.ak)(hr:∀s∈c.ab,0≤s.a2.b0):aL 32 [.agg (aa.enc c)] [.one (.sl 9 ((fq c).map aq.enc))]:=by
 refine om 112 func32 call32 [.tmp 2] ?_;intro ok;clear ok;have qf:c.ab.length≤30:=hz.1;have BN:=SS c hz;rw[show(BL c&&decide (c.d9=0))=iv c by unfold iv;rw[Di bH]]at BN;have eH:=SK c c.dq c.pF;rw[show xu c c.dq c.pF=md c from rfl]at eH;have fU:=SM c.eo c.lF;have f3:=SM c.en c.lG;have SO:aL 83 [.agg [.int .i64 c.cm.aZ,.int .i64 c.cm.eg,.int .i64 c.cm.blocked,.int .i64 c.cm.gr]] [.one (.bool (n6 c.cm))]:=SP _ _ _ _;have ai:fq c=if iv c then fu c++ga c++gD c++c.ab.flatMap (gk c)++(kg c++m4 c++vj c)else []:=rfl
 have cB:(fu c).length≤1:=xv _ _;have cJ:(ga c).length≤1:=xv _ _;have ct:(gD c).length≤1:=xv _ _;have qY:(kg c).length≤1:=xv _ _;have nC:(m4 c).length≤1:=xv _ _;have abE:=Dk (gk c) 4 c.ab fun s _=>yV c s;refine e2 b2 3 (α:=List aq) (fun bK=>⟨(.al::.ptr 0 0 0::.al::.sl 1 0 bK.length::aA 108 []),[.box (aa.bT c),.ah 9 (bK.map aq.enc) true]⟩) (fun bK=>bK=[]∧iv c=true) ?_ ?_
 ·skip
  try simp only[go_sem]
  repeat'((first|refine ae.intro ‹_› ?_|refine ay.intro ‹_› ?_)<;>simp only[go_sem])
  cases h:iv c with
  |false=>
   simp only[go_sem,cR];rw[ai,h];simp
  |true=>
   simp only[go_sem,bN];refine dm.intro [] [0,1] (by first|exact⟨rfl,rfl⟩|rfl) ?_;simp only[go_sem];simp
 rintro bK ⟨de,bB⟩;have ai:fq c=fu c++ga c++gD c++c.ab.flatMap (gk c)++(kg c++m4 c++vj c):=by rw[ai,bB];rfl
 have e6:bK.length≤0:=by rw[de];simp
 refine e2 b2 1 (α:=List aq) (fun bK=>⟨(.al::.ptr 0 0 0::.al::.sl 1 0 bK.length::aA 108 []),[.box (aa.bT c),.ah 9 (bK.map aq.enc) true]⟩) (fun bK=>bK=fu c) ?_ ?_
 ·skip
  try simp only[go_sem]
  repeat'((first|refine ae.intro ‹_› ?_|refine ay.intro ‹_› ?_)<;>simp only[go_sem])
  cases h:(md c).2 with
  |true=>
   have bH:fu c=[gi 16 (md c).1.aZ false]:=by unfold fu;rw[h];rfl
   try simp only[go_sem,I]
   repeat'(first|(with_reducible refine az ?_)|fail)
   refine dm.intro (fu c) [0,3] rfl ?_;simp only[go_sem];simp[bH,de,gi,aq.enc]
  |false=>
   have bH:fu c=[]:=by unfold fu;rw[h];rfl
   simp only[go_sem];refine dm.intro (fu c) [0,1] rfl ?_;simp only[go_sem];simp[bH,de]
 clear e6 de;rintro bK de;have e6:bK.length≤100:=by rw[de];(try simp only[dY]);omega
 refine e2 b2 1 (α:=List aq) (fun bK=>⟨(.al::.ptr 0 0 0::.al::.sl 1 0 bK.length::aA 108 []),[.box (aa.bT c),.ah 9 (bK.map aq.enc) true]⟩) (fun bK=>bK=fu c++ga c) ?_ ?_
 ·skip
  try simp only[go_sem]
  repeat'((first|refine ae.intro ‹_› ?_|refine ay.intro ‹_› ?_)<;>simp only[go_sem])
  cases h:(hD c.eo c.lF).2 with
  |true=>
   have bH:ga c=[gi 18 (hD c.eo c.lF).1.aZ false]:=by unfold ga;rw[h];rfl
   try simp only[go_sem,I]
   repeat'(first|(with_reducible refine az ?_)|fail)
   refine dm.intro (fu c++ga c) [0,3] rfl ?_;simp only[go_sem];simp[bH,de,gi,aq.enc]
  |false=>
   have bH:ga c=[]:=by unfold ga;rw[h];rfl
   simp only[go_sem];refine dm.intro (fu c++ga c) [0,1] rfl ?_;simp only[go_sem];simp[bH,de]
 clear e6 de;rintro bK de;have e6:bK.length≤100:=by rw[de];(try simp only[dY]);omega
 refine e2 b2 1 (α:=List aq) (fun bK=>⟨(.al::.ptr 0 0 0::.al::.sl 1 0 bK.length::aA 108 []),[.box (aa.bT c),.ah 9 (bK.map aq.enc) true]⟩) (fun bK=>bK=fu c++ga c++gD c) ?_ ?_
 ·skip
  try simp only[go_sem]
  repeat'((first|refine ae.intro ‹_› ?_|refine ay.intro ‹_› ?_)<;>simp only[go_sem])
  cases h:(hD c.en c.lG).2 with
  |true=>
   have bH:gD c=[gi 18 (hD c.en c.lG).1.aZ true]:=by unfold gD;rw[h];rfl
   try simp only[go_sem,I]
   repeat'(first|(with_reducible refine az ?_)|fail)
   refine dm.intro (fu c++ga c++gD c) [0,3] rfl ?_;simp only[go_sem];simp[bH,de,gi,aq.enc,Nat.add_assoc]
  |false=>
   have bH:gD c=[]:=by unfold gD;rw[h];rfl
   simp only[go_sem];refine dm.intro (fu c++ga c++gD c) [0,1] rfl ?_;simp only[go_sem];simp[bH,de]
 clear e6 de;rintro bK de;have e6:bK.length≤100:=by rw[de];(try simp only[dY]);omega
 refine e2 b2 1 (α:=List aq) (fun bK=>⟨(.al::.ptr 0 0 0::.al::.sl 1 0 bK.length::aA 108 []),[.box (aa.bT c),.ah 9 (bK.map aq.enc) true]⟩) (fun bK=>bK=fu c++ga c++gD c++c.ab.flatMap (gk c)) ?_ ?_
 ·simp only[go_sem,I];subst de;refine cr.intro (α:=Nat×List aq) (fun y=>⟨(.al::.ptr 0 0 0::.al::.sl 1 0 y.2.length::aA 57 (.d (.sl 39 (c.ab.map af.enc))::.i c.ab.length::.i y.1::aA 48 [])),[.box (aa.bT c),.ah 9 (y.2.map aq.enc) true]⟩)
   (fun y=>c.ab.length-y.1) (fun y=>y.1≤c.ab.length∧y.2=fu c++ga c++gD c++(c.ab.take y.1).flatMap (gk c)) (0,fu c++ga c++gD c) [0,1] ⟨by simp,by simp⟩ ?_ ?_
  ·simp only[go_sem];simp
  ·rintro⟨i,q⟩ ⟨hi,hq⟩;simp only at hi hq;by_cases h1:i<c.ab.length
   ·have ax:=bC (p:=(i:Int)<(c.ab.length:Int)) ω;have aB:=cq af.enc c.ab i h1;have hw:i64.wrap ((i:Int)+1)=((i+1:Nat):Int):=by rw[bA]<;>omega
    have hs:fu c++ga c++gD c++(c.ab.take (i+1)).flatMap (gk c)=q++gk c c.ab[i]:=by
     rw[hq,gV,cD h1,List.flatMap_append];simp
    have mo:q.length≤3+4 * i:=by
     have:=Dk (gk c) 4 (c.ab.take i) fun s _=>yV c s;rw[List.length_take]at this;rw[hq];simp only[dY];omega
    have abF:=yV c c.ab[i];have a1:=abB c c.ab[i] (hr _ (eS h1));generalize gk c c.ab[i]=r at *
    try simp only[go_sem,I,aE,aB,af.enc,ax]
    repeat'(first|((first|refine ae.intro ‹_› ?_|refine ay.intro ‹_› ?_)<;>simp only[go_sem,I])|(with_reducible refine az ?_)|fail)
    refine bE.intro (i+1,q++r) [0,4] ⟨by simp only;omega,hs.symm⟩ (by simp only;omega) ?_;simp only[go_sem,hw];simp
   ·have ax:=bm (p:=(i:Int)<(c.ab.length:Int)) ω;obtain rfl:i=c.ab.length:=by omega
    rw[d3]at hq;subst hq;simp only[go_sem,ax];refine dm.intro (fu c++ga c++gD c++c.ab.flatMap (gk c)) [0,1] rfl ?_;simp only[go_sem];simp
 clear e6 de;rintro bK de;have e6:bK.length≤123:=by rw[de];(try simp only[dY]);omega
 refine e2 b2 1 (α:=List aq) (fun bK=>⟨(.al::.ptr 0 0 0::.al::.sl 1 0 bK.length::aA 108 []),[.box (aa.bT c),.ah 9 (bK.map aq.enc) true]⟩) (fun bK=>bK=fu c++ga c++gD c++c.ab.flatMap (gk c)++kg c) ?_ ?_
 ·skip
  try simp only[go_sem]
  repeat'((first|refine ae.intro ‹_› ?_|refine ay.intro ‹_› ?_)<;>simp only[go_sem])
  cases h:n6 c.cm with
  |true=>
   have bH:kg c=[gi 20 c.cm.aZ false]:=by unfold kg;rw[h];rfl
   try simp only[go_sem,I]
   repeat'(first|(with_reducible refine az ?_)|fail)
   refine dm.intro (fu c++ga c++gD c++c.ab.flatMap (gk c)++kg c) [0,3] rfl ?_;simp only[go_sem];simp[bH,de,gi,aq.enc,Nat.add_assoc]
  |false=>
   have bH:kg c=[]:=by unfold kg;rw[h];rfl
   simp only[go_sem];refine dm.intro (fu c++ga c++gD c++c.ab.flatMap (gk c)++kg c) [0,1] rfl ?_;simp only[go_sem];simp[bH,de,Nat.add_assoc]
 clear e6 de;rintro bK de;have e6:bK.length≤130:=by rw[de];(try simp only[dY]);omega
 refine e2 b2 1 (α:=List aq) (fun bK=>⟨(.al::.ptr 0 0 0::.al::.sl 1 0 bK.length::aA 108 []),[.box (aa.bT c),.ah 9 (bK.map aq.enc) true]⟩) (fun bK=>bK=fu c++ga c++gD c++c.ab.flatMap (gk c)++kg c++m4 c) ?_ ?_
 ·skip
  try simp only[go_sem]
  cases h:decide (c.fe.blocked=c.fe.aZ)with
  |true=>
   have bH:m4 c=[gi 22 c.fe.aZ false]:=by unfold m4;exact if_pos (cQ h)
   try simp only[go_sem,I]
   repeat'(first|(with_reducible refine az ?_)|fail)
   refine dm.intro (fu c++ga c++gD c++c.ab.flatMap (gk c)++kg c++m4 c) [0,3] rfl ?_;simp only[go_sem];simp[bH,de,gi,aq.enc,Nat.add_assoc]
  |false=>
   have bH:m4 c=[]:=by unfold m4;exact if_neg (c2 h)
   simp only[go_sem];refine dm.intro (fu c++ga c++gD c++c.ab.flatMap (gk c)++kg c++m4 c) [0,1] rfl ?_;simp only[go_sem];simp[bH,de,Nat.add_assoc]
 clear e6 de;rintro bK de;have e6:bK.length≤130:=by rw[de];(try simp only[dY]);omega
 refine lx b2 ?_
 try simp only[go_sem]
 cases h:decide (c.fc.blocked=c.fc.aZ)with
 |true=>
  have bH:vj c=[gi 22 c.fc.aZ true]:=by unfold vj;exact if_pos (cQ h)
  try simp only[go_sem,I]
  repeat'(first|(with_reducible refine az ?_)|fail)
  rw[ai,←List.append_assoc,←List.append_assoc,←de,bH];simp[gi,aq.enc,e7]
 |false=>
  have bH:vj c=[]:=by unfold vj;exact if_neg (c2 h)
  try simp only[go_sem,I]
  repeat'(first|(with_reducible refine az ?_)|fail)
  rw[ai,←List.append_assoc,←List.append_assoc,←de,bH];simp
def TU:List (List bR):=cS 7 [2075,2077,2070,2173,2119,1944,1458]
def TV:List (List bR):=cS 12 [501956,501954,501948,501930,524839,524677,524191,522733,528160,511798,472392,354294]
def TW:List (List bR):=cS 14 [4773128,4780051,4780045,4780027,4779973,4779811,4782604,4781146,4776409,4763286,4723920,4605822,4251528,3188646]
def TX:List (List bR):=cS 9 [19322,19320,18706,18688,18634,16645,19314,17739,13122]
attribute [go_sem] TU TV TW TX
theorem ac5{c:aa}(h:c.bO≤1000000)(b:Int):(bif bif !iv c then true else !ca b 1 400 then true else decide (c.bO=1000000))=!pI c b:=by
 rw[←TP,show decide (c.bO=1000000)=decide (1000000≤c.bO)from decide_eq_decide.2 ω]
theorem ac6{s:au}(h:e1 s=true):0≤s.b0:=by
 simp only[e1,bW]at h;have h:=h.2
 cases hr:km s with
 |true=>
  simp only[km,Bool.or_eq_true,b8]at hr;omega
 |false=>
  rw[hr]at h;simp only[Bool.false_eq_true,if_false,bW,b8]at h;rw[h.2];unfold lg
  repeat' split
  all_goals omega
theorem ac7{c:aa}(h:iZ c){s:af}(hs:s∈c.ab):0≤s.a2.b0:=by
 have h1:=h.oD s hs;simp only[gh,Dy,FQ,bW,fJ]at h1;obtain⟨_,_,_,h2,_⟩:=h1;simp only[kC,BZ,bW]at h2;have h:=h2.2
 repeat' split at h
 all_goals first|omega|cases h
theorem ac8{c:aa}(h:iZ c):∀s∈c.ab,0≤s.ak.b0:=fun s hs=>ac6 (oE.1 (h.oD s hs)).1
theorem TY(c:aa)(b:Int)(m:Nat)(hv:cI m c)(hm:m≤20):aL 6 [.agg (aa.enc c),.one (.int .i64 b)] [.one (.str (me c b)),.one (.int .i64 (nH c b)),.agg (aa.enc ((gy c b)))]:=by
 refine om 145 func6 call6 [.tmp 4,.tmp 5,.cell 6 37] ?_;intro ok;clear ok;have hz:=hv.sz hm;have lv:=k5 hz;have bH:=B0 hv;have TZ:=Mt c ω;have BN:=SS c hz;rw[show(BL c&&decide (c.d9=0))=iv c by unfold iv;rw[Di bH]]at BN;obtain⟨hcl,px⟩:=Nn hv;refine e2 b2 4 (α:=Unit) (fun _=>⟨(.al::.i b::.ptr 0 0 0::aA 3 (.ptr 1 0 0::.ptr 4 0 0::.sl 5 0 0::.sl 6 0 0::.i b::aA 134 [])),[.box (aa.bT c),.box aa.cc,.aj 39 (c.ab.map af.enc),.aj 2 (c.an.map aT.enc),.box (aa.aG c (.sl 2 0 c.ab.length) (.sl 3 0 c.an.length)),.ah 9 [] true,.ah 1 [] true]⟩) (fun _=>pI c b=true) ?_ ?_
 ·skip
  cases bB:iv c with
  |false=>
   rw[bB]at BN;have hg:pI c b=false:=by unfold pI;rw[bB];rfl
   try simp only[go_sem]
   repeat'(first|((first|refine ae.aj ‹_› ?_|refine ay.aj ‹_› ?_|with_reducible refine eB ?_|refine bo [[.post,.dN,.dN,.post],[.dN,.post,.post,.post],[.dN,.pre,.post,.post],[.pre,.pre,.pre,.post]] χ ψ ?_)<;>simp only[go_sem,I,cR])|(with_reducible refine az ?_)|fail)
   simp[gy,me,nH,oC,hg]
  |true=>
   have ac9:c.bO≤1000000:=by
    have:gq c=true:=by unfold iv at bB;simp only[bW]at bB;exact bB.1
    exact(Am.1 this).num.2
   have b7:=ac5 ac9 b;rw[bB]at BN b7;simp only[bN,dK]at b7
   try simp only[go_sem]
   repeat'((first|refine ae.aj (by first|assumption|apply jt) ?_|refine ay.aj ‹_› ?_|with_reducible refine cN ?_|refine bw ?_)<;>simp only[go_sem,I])
   rw[b7]
   cases hg:pI c b with
   |false=>
    try simp only[go_sem,cR]
    repeat'(first|(refine bo [[.post,.dN,.dN,.post],[.dN,.post,.post,.post],[.dN,.pre,.post,.post],[.pre,.pre,.pre,.post]] χ ψ ?_<;>simp only[go_sem,I])|(with_reducible refine az ?_)|fail)
    simp[gy,me,nH,oC,hg]
   |true=>
    try simp only[go_sem,bN]
    repeat'(first|(with_reducible refine az ?_)|fail)
    refine dm.intro () [0,1,2,3,4,5,6] (by first|exact hg|trivial) ?_;simp only[go_sem];simp
 rintro _ hg;have cd:iZ c:=Am.1 (Dz hg).1;have ada:=adb cd;have hA:ch c b=(fq c).foldl jw ⟨c,[],b⟩:=rfl;have ade:=abD c hz bH (fun s hs=>ac7 cd hs);refine e2 b2 1 (α:=Unit) (fun _=>⟨(.al::.i b::.ptr 0 0 0::aA 3 (.ptr 1 0 0::.ptr 4 0 0::.sl 5 0 (ch c b).bY.length::.sl 6 0 0::.d (.int .i64 (ch c b).room)::aA 134 [])),[.box (aa.bT c),.box aa.cc,.aj 39 ((ch c b).x.ab.map af.enc),.aj 2 ((ch c b).x.an.map aT.enc),.box [.d (.bool (ch c b).x.eO),.d (.int .i64 (ch c b).x.own.av),.d (.int .i64 (ch c b).x.own.b1),.d (.int .i64 (ch c b).x.own.lW),.d (.int .i64 (ch c b).x.own.cm),.d (.int .i64 (ch c b).x.own.lX),.d (.int .i64 (ch c b).x.own.k8),.d (.int .i64 (ch c b).x.own.ft),.d (.int .i64 (ch c b).x.own.eP),.d (.int .i64 (ch c b).x.da.av),.d (.int .i64 (ch c b).x.da.b1),.d (.int .i64 (ch c b).x.da.lW),.d (.int .i64 (ch c b).x.da.cm),.d (.int .i64 (ch c b).x.da.lX),.d (.int .i64 (ch c b).x.da.k8),.d (.int .i64 (ch c b).x.da.ft),.d (.int .i64 (ch c b).x.da.eP),.sl 2 0 (ch c b).x.ab.length,.d (.int .i64 (ch c b).x.cm.aZ),.d (.int .i64 (ch c b).x.cm.eg),.d (.int .i64 (ch c b).x.cm.blocked),.d (.int .i64 (ch c b).x.cm.gr),.d (.int .i64 (ch c b).x.dq.size),.d (.int .i64 (ch c b).x.dq.ck),.d (.int .i64 (ch c b).x.dq.aZ),.d (.int .i64 (ch c b).x.dq.seen),.d (.int .i64 (ch c b).x.dq.gF),.d (.int .i64 (ch c b).x.dq.kk),.d (.int .i64 (ch c b).x.fe.aZ),.d (.int .i64 (ch c b).x.fe.jO),.d (.int .i64 (ch c b).x.fe.blocked),.d (.int .i64 (ch c b).x.fc.aZ),.d (.int .i64 (ch c b).x.fc.jO),.d (.int .i64 (ch c b).x.fc.blocked),.d (.int .i64 (ch c b).x.eo.ck),.d (.int .i64 (ch c b).x.eo.aZ),.d (.int .i64 (ch c b).x.eo.seen),.d (.int .i64 (ch c b).x.eo.d9),.d (.int .i64 (ch c b).x.en.ck),.d (.int .i64 (ch c b).x.en.aZ),.d (.int .i64 (ch c b).x.en.seen),.d (.int .i64 (ch c b).x.en.d9),.d (.bool (ch c b).x.pF),.d (.bool (ch c b).x.lF),.d (.bool (ch c b).x.lG),.d (.int .i64 (ch c b).x.dE),.d (.int .i64 (ch c b).x.bO),.sl 3 0 (ch c b).x.an.length,.d (.int .i64 (ch c b).x.ef),.d (.int .i64 (ch c b).x.d9)],.ah 9 ((ch c b).bY.map aq.enc) true,.ah 1 [] true]⟩) (fun _=>True) ?_ ?_
 ·simp only[go_sem];refine ae.intro ade ?_;simp only[go_sem,I];refine cr.intro (α:=Nat×xB) (fun y=>⟨(.al::.i b::.ptr 0 0 0::aA 3 (.ptr 1 0 0::.ptr 4 0 0::.sl 5 0 y.2.bY.length::.sl 6 0 0::.i y.2.room::aA 29 (.sl 7 0 (fq c).length::.d (.int .i64 (fq c).length)::.i y.1::aA 102 []))),[.box (aa.bT c),.box aa.cc,.aj 39 (y.2.x.ab.map af.enc),.aj 2 (y.2.x.an.map aT.enc),.box (aa.aG y.2.x (.sl 2 0 y.2.x.ab.length) (.sl 3 0 y.2.x.an.length)),.ah 9 (y.2.bY.map aq.enc) true,.ah 1 [] true,.ah 9 ((fq c).map aq.enc) true]⟩)
   (fun y=>(fq c).length-y.1) (fun y=>y.1≤(fq c).length∧y.2=((fq c).take y.1).foldl jw ⟨c,[],b⟩∧n9 m y.1 y.2.x y.2.bY∧∀f∈fq c,B1 y.2.x f) (0,⟨c,[],b⟩) [0,1,2,3,4,5,6,7] ⟨by simp,by simp,⟨hv,by simp,by simp⟩,ada⟩ ?_ ?_
  ·simp only[go_sem];simp
  ·rintro⟨i,q⟩ ⟨hi,hq,aS,cM⟩;simp only at hi hq aS cM;by_cases h1:i<(fq c).length
   ·have ax:=bC (p:=(i:Int)<((fq c).length:Int)) ω;have aB:=cq aq.enc (fq c) i h1;have hw:i64.wrap ((i:Int)+1)=((i+1:Nat):Int):=by rw[bA]<;>omega
    have hs:((fq c).take (i+1)).foldl jw ⟨c,[],b⟩=jw q (fq c)[i]:=by
     rw[gV,cD h1,List.foldl_append,←hq];rfl
    have FH:pJ (fq c)[i]:=px _ (eS h1);have yZ:=No aS FH;have adf:=cM _ (eS h1);have Ao:∀g∈fq c,B1 (jw q (fq c)[i]).x g:=fun g hg=>by
     unfold jw;split
     ·exact adg (cM g hg) _
     ·exact cM g hg
    generalize (fq c)[i]=f at *;have e6:f.data.length≤60:=FH;have alI:=adh q.x f (aS.c.sz hm) (B0 aS.c) adf;have B2:=Jb f.bp f.aC f.aH f.data f.aW f.c4 f.aZ f.br f.ft ω;change PureCall _ _ _ [.one (.int .i64 ((dy f).length:Int))]at B2;have y0:jw q f=if((dy f).length:Int)≤q.room then⟨iV q.x f,q.bY++[f],i64.wrap (q.room-((dy f).length:Int))⟩else q:=rfl
    have acT:=aS.n
    try simp only[go_sem,I,aE,aB,aq.enc,ax]
    repeat'(first|((first|refine ae.intro ‹_› ?_|refine ay.intro ‹_› ?_)<;>simp only[go_sem])|(with_reducible refine az ?_)|fail)
    cases pK:decide (((dy f).length:Int)≤q.room)with
    |true=>
     rw[if_pos (cQ pK)]at y0;rw[y0]at hs yZ Ao
     try simp only[go_sem,I]
     repeat'(first|((first|refine ae.aj ‹_› ?_|refine ay.aj ‹_› ?_)<;>simp only[go_sem,I])|(with_reducible refine az ?_)|fail)
     refine bE.intro (i+1,⟨iV q.x f,q.bY++[f],i64.wrap (q.room-((dy f).length:Int))⟩) [0,1,11,12,4,10,6,7] ⟨by simp only;omega,hs.symm,yZ,Ao⟩ (by simp only;omega) ?_;simp only[go_sem,hw];simp[aq.enc]
    |false=>
     rw[if_neg (c2 pK)]at y0;rw[y0]at hs yZ Ao;simp only[go_sem];refine bE.intro (i+1,q) [0,1,2,3,4,5,6,7] ⟨by simp only;omega,hs.symm,yZ,Ao⟩ (by simp only;omega) ?_;simp only[go_sem,hw];simp
   ·have ax:=bm (p:=(i:Int)<((fq c).length:Int)) ω;obtain rfl:i=(fq c).length:=by omega
    rw[d3,←hA]at hq;subst hq;simp only[go_sem,ax];refine dm.intro () [0,1,2,3,4,5,6] trivial ?_;simp only[go_sem];simp
 rintro _ _;have BV:=Nq hv b;have adi:iZ (ch c b).x:=(Jc (fq c) ⟨c,[],b⟩ hv cd).1;have BW:=Nr hv ω b;have hB:iW 200 ⟨(ch c b).x,[],(ch c b).bY,(ch c b).room⟩=c5 c b:=rfl;have bq:gy c b=if(c5 c b).bY=[]then(c5 c b).x else {(c5 c b).x with an:=(c5 c b).x.an++[⟨c.bO,(c5 c b).bY⟩],bO:=i64.wrap (c.bO+1)}:=by unfold gy;rw[hg];rfl
 have q3:oC c b=!decide ((c5 c b).bY=[]):=by unfold oC;rw[hg];rfl
 have cM:me c b=if oC c b then vv (c5 c b).bY else []:=rfl
 have T0:(c5 c b).x.bO=c.bO:=(Jd c b).n;have FA:=Nz hv ω cd (b:=b) (by have:=(Dz hg).2.2.1;omega) (by have:=(Dz hg).2.2.2.1;omega);have adj:=BV.n;generalize ch c b=BX at *;refine e2 b2 1 (α:=Unit) (fun _=>⟨(.al::.al::.ptr 0 0 0::aA 3 (.ptr 1 0 0::.ptr 4 0 0::.sl 5 0 (c5 c b).bY.length::aA 136 [])),[.box (aa.bT c),.box aa.cc,.aj 39 ((c5 c b).x.ab.map af.enc),.aj 2 ((c5 c b).x.an.map aT.enc),.box [.d (.bool (c5 c b).x.eO),.d (.int .i64 (c5 c b).x.own.av),.d (.int .i64 (c5 c b).x.own.b1),.d (.int .i64 (c5 c b).x.own.lW),.d (.int .i64 (c5 c b).x.own.cm),.d (.int .i64 (c5 c b).x.own.lX),.d (.int .i64 (c5 c b).x.own.k8),.d (.int .i64 (c5 c b).x.own.ft),.d (.int .i64 (c5 c b).x.own.eP),.d (.int .i64 (c5 c b).x.da.av),.d (.int .i64 (c5 c b).x.da.b1),.d (.int .i64 (c5 c b).x.da.lW),.d (.int .i64 (c5 c b).x.da.cm),.d (.int .i64 (c5 c b).x.da.lX),.d (.int .i64 (c5 c b).x.da.k8),.d (.int .i64 (c5 c b).x.da.ft),.d (.int .i64 (c5 c b).x.da.eP),.sl 2 0 (c5 c b).x.ab.length,.d (.int .i64 (c5 c b).x.cm.aZ),.d (.int .i64 (c5 c b).x.cm.eg),.d (.int .i64 (c5 c b).x.cm.blocked),.d (.int .i64 (c5 c b).x.cm.gr),.d (.int .i64 (c5 c b).x.dq.size),.d (.int .i64 (c5 c b).x.dq.ck),.d (.int .i64 (c5 c b).x.dq.aZ),.d (.int .i64 (c5 c b).x.dq.seen),.d (.int .i64 (c5 c b).x.dq.gF),.d (.int .i64 (c5 c b).x.dq.kk),.d (.int .i64 (c5 c b).x.fe.aZ),.d (.int .i64 (c5 c b).x.fe.jO),.d (.int .i64 (c5 c b).x.fe.blocked),.d (.int .i64 (c5 c b).x.fc.aZ),.d (.int .i64 (c5 c b).x.fc.jO),.d (.int .i64 (c5 c b).x.fc.blocked),.d (.int .i64 (c5 c b).x.eo.ck),.d (.int .i64 (c5 c b).x.eo.aZ),.d (.int .i64 (c5 c b).x.eo.seen),.d (.int .i64 (c5 c b).x.eo.d9),.d (.int .i64 (c5 c b).x.en.ck),.d (.int .i64 (c5 c b).x.en.aZ),.d (.int .i64 (c5 c b).x.en.seen),.d (.int .i64 (c5 c b).x.en.d9),.d (.bool (c5 c b).x.pF),.d (.bool (c5 c b).x.lF),.d (.bool (c5 c b).x.lG),.d (.int .i64 (c5 c b).x.dE),.d (.int .i64 (c5 c b).x.bO),.sl 3 0 (c5 c b).x.an.length,.d (.int .i64 (c5 c b).x.ef),.d (.int .i64 (c5 c b).x.d9)],.ah 9 ((c5 c b).bY.map aq.enc) true]⟩) (fun _=>True) ?_ ?_
 ·simp only[go_sem];refine cr.intro (α:=Nat×nI) (fun y=>⟨(.al::.al::.ptr 0 0 0::aA 3 (.ptr 1 0 0::.ptr 4 0 0::.sl 5 0 y.2.bY.length::.sl 6 0 y.2.skip.length::.i y.2.room::aA 51 (.i (200-(y.1:Int))::aA 82 []))),[.box (aa.bT c),.box aa.cc,.aj 39 (y.2.x.ab.map af.enc),.aj 2 (y.2.x.an.map aT.enc),.box (aa.aG y.2.x (.sl 2 0 y.2.x.ab.length) (.sl 3 0 y.2.x.an.length)),.ah 9 (y.2.bY.map aq.enc) true,.ah 1 (y.2.skip.map aR) true]⟩)
   (fun y=>y.1) (fun y=>y.1≤200∧iW y.1 y.2=c5 c b∧n9 m (302-y.1) y.2.x y.2.bY∧iZ y.2.x∧y.2.skip.length+y.1≤200) (200,⟨BX.x,[],BX.bY,BX.room⟩) [0,1,2,3,4,5,6] ⟨by simp,hB,⟨BV.c,by simpa using adj,BV.d⟩,adi,by simp⟩ ?_ ?_
  ·simp only[go_sem];simp
  ·rintro⟨n,q⟩ ⟨hn,ai,aS,Je,Ns⟩;simp only at hn ai aS Je Ns;have NA:=aS.c.sz hm
   cases n with
   |zero=>
    have hd:decide ((200:Int)-((0:Nat):Int)<200)=false:=by decide
    rw[iW]at ai;simp only[go_sem,hd];rw[ai];refine dm.intro () [0,1,2,3,4,5] trivial ?_;simp only[go_sem];simp
   |succ k=>
    have hd:=bC (p:=(200:Int)-((k+1:Nat):Int)<200) ω;have hw:i64.wrap ((200:Int)-((k+1:Nat):Int)+1)=200-(k:Int):=by rw[bA]<;>omega
    have acW:q.skip.length≤200:=by omega
    have Nt:(B3 q.x q.skip).length≤30:=by
     unfold B3;rw[I];exact Nat.le_trans (List.length_filter_le _ _) NA.1
    have adk:=adl q.x q.skip NA (ac8 Je);have T1:=adm (B3 q.x q.skip) q.x.dE ω;rw[adn,T2]at T1;rw[show xD (y1 q) q.x.dE=fl q from rfl]at T1;rw[T2]at adk Nt;have Nu:=FK (q:=q);rw[iW]at ai;have T3:=T4 q.x (fl q) q.room m aS.c hm;rw[show iX q.x (fl q) q.room=iY q from rfl]at T3;have fD:(iY q).1.data.length≤60:=BY aS.c ω (fl q) q.room
    try simp only[go_sem,hd]
    repeat'((first|refine ae.aj ‹_› ?_|refine ay.aj ‹_› ?_|refine bo TU χ ψ ?_)<;>simp only[go_sem,I])
    cases FL:decide (fl q<0)with
    |true=>
     rw[if_pos (cQ FL)]at ai;simp only[go_sem];rw[ai];refine dm.intro () [0,1,2,3,4,5] trivial ?_;simp only[go_sem];simp
    |false=>
     have Nw:=c2 FL;rw[if_neg Nw]at ai;have u7:=Nu ω
     try simp only[go_sem,I]
     repeat'((first|refine ae.aj ‹_› ?_|refine ay.aj ‹_› ?_)<;>simp only[go_sem])
     cases hp:(iY q).2 with
     |false=>
      rw[hp,if_neg ξ]at ai;simp only[go_sem,cR];have ado:=FM aS.c u7;have adp:=NB Je u7;have T5:FN q.x (fl q)={q.x with cm:=kB q.x.cm,ab:=eC q.x.ab (pL (aO q.x (fl q)))}:=rfl;have T6:=Jf q.x.ab (fl q);rcases oq (fp (fl q)) q.x.ab with ⟨cn,cG⟩|⟨i,hC,cn,cG,d4⟩
      ·exfalso;unfold cf at u7;rw[cG]at u7
       cases u7
      rw[cn]at T6;have aB:=cq af.enc q.x.ab i hC;have Ap:aO q.x (fl q)=q.x.ab[i]:=IA cn hC;have gg:q.x.ab[i].id=fl q:=IC cn hC;have cO:=Mu (Y:=pL q.x.ab[i]) cn hC gg;rw[e7 (by rw[dY,dA,List.length_take,List.length_drop,I];omega)]at cO;have fK:(eC q.x.ab (pL q.x.ab[i])).length=q.x.ab.length:=T7 (by show(cf q.x.ab q.x.ab[i].id).2=true;rw[gg];exact u7);have hlt:i=((q.x.ab.map af.enc).take i).length:=by rw[List.length_take,I];omega
      rw[Ap]at T5;generalize q.x.ab[i]=aX at *;simp only[af.enc,pL]at cO;refine ae.jD [2,6,7,8,9,10,14,62] (by simp only[hZ,List.elem_cons,List.elem_nil,Nat.reduceBEq,Nat.reduceAdd,c_,dK];rfl) (NC (n:=16) (rs:=[.tmp 4]) func36 rfl call36 rfl rfl ?_);simp only[go_sem];refine DA b2 2 ?_
      try simp only[go_sem]
      repeat'(first|((first|refine ae.intro ‹_› ?_|refine ay.intro ‹_› ?_|refine bo TV χ ψ ?_)<;>simp only[go_sem,I,aE])|(with_reducible refine az ?_)|fail)
      refine ND 2 i ?_;simp only[go_sem,I,aB,af.enc];refine lx b2 ?_
      try simp only[go_sem]
      repeat'(first|((first|refine ae.intro ‹_› ?_|refine ay.intro (by first|assumption|apply adq) ?_|with_reducible refine eB ?_|refine bo TW χ ψ ?_)<;>simp only[go_sem,I])|(with_reducible refine az ?_)|fail)
      refine bE.close 2 (k,vy q) [0,1,2,3,4,5,15] ⟨by simp only;omega,ai,⟨ado,by have:=aS.n;simp only[vy];omega,aS.d⟩,adp,by simp only[vy,dY,dA,eI];omega⟩ (by simp only;omega) ?_;simp only[go_sem,I,hw];refine az ?_;simp only[vy,T5,pL,←cO];simp;exact⟨fK,rfl⟩
     |true=>
      rw[hp,if_pos rfl]at ai;simp only[go_sem,I,bN];have alJ:=T8 q.x (fl q) (iY q).1 NA (B0 aS.c) ω;have Nx:=FP aS.c (fl q) (iY q).1 ω;have adr:=NF aS.c ω Je (fl q) (iY q).1
      try simp only[go_sem,I]
      repeat'((first|refine ae.aj ‹_› ?_|refine ay.aj ‹_› ?_|with_reducible refine cN ?_|refine bw ?_)<;>simp only[go_sem,I])
      cases qj:o7 q.x (fl q) (iY q).1 with
      |false=>
       rw[qj,if_neg ξ]at ai;simp only[go_sem,cR];rw[ai];refine dm.intro () [0,1,2,3,4,5] trivial ?_;simp only[go_sem];simp
      |true=>
       rw[qj,if_pos rfl]at ai;have B2:=Jb 8 (fl q) (iY q).1.aH (iY q).1.data (iY q).1.aW 0 0 0 false ω;change PureCall _ _ _ [.one (.int .i64 ((dy (gG (fl q) (iY q).1)).length:Int))]at B2;have ac4:=aS.n
       try simp only[go_sem,bN]
       repeat'(first|((first|refine ae.intro (by first|assumption|apply Jg) ?_|refine ay.intro ‹_› ?_)<;>simp only[go_sem,I,gG])|(with_reducible refine az ?_)|fail)
       refine bE.intro (k,xF q) [0,1,9,10,4,13,6] ⟨by simp only;omega,ai,(aS.add Nx (f:=gG (fl q) (iY q).1) fD).mono ω,adr,by simp only[xF];omega⟩ (by simp only;omega) ?_;simp only[go_sem,hw,xF,gG];simp
 rintro _ _;refine Il 3 rfl ?_;generalize c5 c b=n_ at *;refine lx b2 ?_;simp only[go_sem];have fD:n_.x.an.length≤20:=Nat.le_trans BW.c.vw hm;have hn:=cd.num;have T9:i64.wrap (i64.wrap (c.bO+1)-1)=c.bO:=by rw[bA (n:=c.bO+1) ω ω,bA]<;>omega
 cases o6:decide (n_.bY=[])with
 |true=>
  have wC:=cQ o6;have hd:=bC (p:=(n_.bY.length:Int)=0) (by rw[wC];rfl);rw[o6]at q3;rw[if_pos wC]at bq;rw[q3]at cM
  try simp only[go_sem,hd]
  repeat'(first|(refine bo [[.post,.dN,.dN,.post],[.dN,.post,.post,.post],[.dN,.pre,.post,.post],[.pre,.pre,.pre,.post]] χ ψ ?_<;>simp only[go_sem,I])|(with_reducible refine az ?_)|fail)
  simp[bq,cM,nH,q3]
 |false=>
  have wC:=c2 o6;have hd:=bm (p:=(n_.bY.length:Int)=0) (fun h=>wC (List.length_eq_zero_iff.1 ω));rw[o6]at q3;rw[if_neg wC]at bq;have alK:=ads n_.bY FA.ok (by have:=FA.sum;have:=FA.r0;have:=(Dz hg).2.2.2.1;omega)
  try simp only[go_sem,I,hd,T0]
  repeat'(first|((first|refine ae.intro ‹_› ?_|refine ay.intro ‹_› ?_|refine bo TX χ ψ ?_)<;>simp only[go_sem,I,T9])|(with_reducible refine az ?_)|fail)
  rw[q3]at cM;simp[bq,cM,nH,q3,aT.enc,e7]
theorem agR(c:aa)(m:Nat)(hv:cI m c)(hm:m≤20):aL 24 [.agg (aa.enc c)] [.one (.bool (decide (nH c 400≠-1)))]:=by
 refine a3 14 func24 call24 [.tmp 2] ?_;intro ok;clear ok;have f:=TY c 400 m hv hm;simp only[go_sem];refine ae.intro f ?_;simp only[go_sem,I]
theorem agS(c:aa)(m:Nat)(hv:cI m c)(hm:m≤20):aL 25 [.agg (aa.enc c)] [.one (.bool (decide (nH c 400≠-1)))]:=by
 refine a3 14 func25 call25 [.tmp 2] ?_;intro ok;clear ok;have f:=Nm c 400 m hv hm;simp only[go_sem];refine ae.intro f ?_;simp only[go_sem,I]
def ou(S:List UInt8)(a:Nat)(t:List UInt8):Prop:=a+t.length≤S.length∧∀i,i<t.length→S[a+i]?=t[i]?
theorem BP{S t u:List UInt8}{a:Nat}(h:ou S a (t++u)):ou S a t∧ou S (a+t.length) u:=by
 obtain⟨h1,h2⟩:=h;rw[dY]at h1 h2;refine⟨⟨by omega,fun i hi=>?_⟩,⟨by omega,fun i hi=>?_⟩⟩
 ·rw[h2 i ω,List.getElem?_append_left hi]
 ·rw[Nat.add_assoc,h2 (t.length+i) ω,List.getElem?_append_right ω,Nat.add_sub_cancel_left]
theorem ab2(S:List UInt8):ou S 0 S:=⟨by omega,fun i _=>by rw[Nat.zero_add]⟩
theorem S5{S t:List UInt8}{a:Nat}(h:ou S a t):(S.drop a).take t.length=t:=by
 apply List.ext_getElem?;intro i;rw[List.getElem?_take];split
 ·rename_i hi;rw[List.getElem?_drop,h.2 i hi]
 ·rw[List.getElem?_eq_none ω]
theorem abS{S:List UInt8}{a:Nat}{n:Int}(hn:bQ n=true)(h:ou S a (bM n)):∃m k:Nat,n=(m:Int)∧(k=1∨k=2∨k=4∨k=8)∧m<2^(8 * k-2)∧(bM n).length=k∧a+k≤S.length∧∀i,i<k→S[a+i]?=some (UInt8.ofNat (ow m k i)):=by
 obtain⟨m,k,rfl,qZ,hk,hm⟩:=Tg hn;have ai:=Th rfl qZ hk hm;have hl:(bM (m:Int)).length=k:=by rw[ai];simp
 refine⟨m,k,rfl,hk,hm,hl,by have:=h.1;omega,fun i hi=>?_⟩;rw[h.2 i ω,ai,List.getElem?_map,List.getElem?_range hi];rfl
theorem S8(x:Int):shI .shr .u8 x 6=some ((0:Int)≤6,.d (.int .u8 (x.fdiv 64))):=rfl
theorem Dm:ofVal (.int .u64 6)=.d (.int .u64 6):=rfl
theorem MZ:ofVal (.int .u64 8)=.d (.int .u64 8):=rfl
theorem S9{m k i:Nat}(hk:k=1∨k=2∨k=4∨k=8)(hm:m<2^(8 * k-2)):(UInt8.ofNat (ow m k i)).toNat=ow m k i:=by
 have:=IV (i:=i) hk hm;simp;omega
theorem abP(m:Nat)(h:m<256):bitI .and .u8 (m:Int) 63=((m % 64:Nat):Int):=by
 have:∀j:Fin 256,bitI .and .u8 ((j.val:Nat):Int) 63=((j.val % 64:Nat):Int):=by decide
 exact this ⟨m,h⟩
theorem abQ{v b:Nat}(hb:b<256)(hv:v * 256+b<2^62):bitI .or .i64 ((v * 256:Nat):Int) (b:Int)=((v * 256+b:Nat):Int):=by
 rw[S_ (m:=v * 256) (k:=b) rfl rfl ω ω];have:Nat.lor (v * 256) b=v * 256+b:=by
  have h1:=M0 (m:=b) (t:=v) (i:=8) ω;have h2:Nat.lor (v * 256) b=Nat.lor b (2^8 * v):=by rw[show v * 256=2^8 * v by omega];exact Nat.or_comm _ _
  rw[h2,h1];omega
 rw[this,bA]<;>omega
theorem abR{v:Nat}(hv:v * 256<2^62):shI .shl .i64 (v:Int) 8=some ((0:Int)≤8,.i ((v * 256:Nat):Int)):=by
 have:i64.wrap ((v:Int) * 2^min (8:Int).toNat IntKind.i64.bits)=((v * 256:Nat):Int):=by
  rw[show((2:Int)^min (8:Int).toNat IntKind.i64.bits)=256 from rfl,bA]<;>omega
 simp only[shI];rw[this]
theorem MY(S:List UInt8)(a:Nat)(n:Int)(hn:bQ n=true)(a1:S.length≤1000)(h:ou S a (bM n)):aL 185 [.one (.str S),.one (.int .i64 (a:Int))] [.one (.int .i64 n),.one (.int .i64 ((a+(bM n).length:Nat):Int)),.one (.bool true)]:=by
 refine a3 52 func185 call185 [.tmp 4,.tmp 5,.tmp 6] ?_;intro ok;clear ok;obtain⟨m,k,rfl,hk,hm,hl,ha,hb⟩:=abS hn h;rw[hl];clear hl h hn;have lO:=hb 0 ω;rw[Nat.add_zero]at lO;have S':=S9 (i:=0) hk hm;obtain⟨qY,nC,yQ,Dh⟩:=Ta hk hm;have hlt:=IV (i:=0) hk hm;have ag:=bm (p:=(a:Int)<0) ω;have ar:=bm (p:=(S.length:Int)≤(a:Int)) ω;have hf:((ow m k 0:Nat):Int).fdiv 64=((vo k:Nat):Int):=by
  rw[show(64:Int)=((64:Nat):Int)from rfl,M1,nC]
 have Aa:shI .shl .i64 1 ((vo k:Nat):Int)=some (0≤((vo k:Nat):Int),.i (k:Int)):=by
  rcases hk with rfl|rfl|rfl|rfl<;>rfl
 have Tb:bitI .and .u8 ((ow m k 0:Nat):Int) 63=((ox m k 0:Nat):Int):=by rw[abP _ hlt,qY]
 have IW:m<2^62:=Nat.lt_of_lt_of_le hm (Nat.pow_le_pow_right ω ω);have ba:i64.wrap ((S.length:Int)-(a:Int))=(S.length:Int)-(a:Int):=by rw[bA]<;>omega
 have bF:=bm (p:=(S.length:Int)-(a:Int)<(k:Int)) ω;have Tc:ofVal (.int .u8 63)=.d (.int .u8 63):=rfl;have cE:i64.wrap ((ox m k 0:Nat):Int)=((ox m k 0:Nat):Int):=by rw[bA]<;>omega
 try simp only[go_sem,ag]
 repeat'(first|(with_reducible refine cN ?_<;>simp only[go_sem,ar,aE,lO,fh,S',Dm,S8,hf,Aa,Tc,Tb,ba,bF,cE])|(with_reducible refine az ?_)|fail)
 refine cr.intro (fun j:Nat=>⟨(.d (.str S)::.i a::aA 5 (.i k::.i ((ox m k j:Nat):Int)::.i ((j+1:Nat):Int)::aA 42 [])),[]⟩)
  (fun j=>k-j) (fun j=>j+1≤k) 0 [] ω ?_ ?_
 ·simp only[go_sem];simp
 ·intro j aK;by_cases h1:j+1<k
  ·have ax:=bC (p:=((j+1:Nat):Int)<(k:Int)) ω;have hw:i64.wrap (((j+1:Nat):Int)+1)=((j+1+1:Nat):Int):=by rw[bA]<;>omega
   have abT:=hb (j+1) h1;have abU:=S9 (i:=j+1) hk hm;have Td:=IV (i:=j+1) hk hm;have hs:=abV (m:=m) h1;have bt:ox m k (j+1)≤m:=abW;have c6:i64.wrap ((a:Int)+((j+1:Nat):Int))=((a+(j+1):Nat):Int):=by rw[bA]<;>omega
   have p_:=abR (v:=ox m k j) ω;have Dn:=abQ (v:=ox m k j) Td ω;have abX:i64.wrap ((ow m k (j+1):Nat):Int)=((ow m k (j+1):Nat):Int):=by rw[bA]<;>omega
   rw[←hs]at Dn
   try simp only[go_sem,ax,c6,aE,abT,fh,abU,MZ,p_,abX,Dn]
   repeat'(first|(with_reducible refine az ?_)|fail)
   refine bE.intro (j+1) [] ω ω ?_;simp only[go_sem,hw];try simp
  ·have ax:=bm (p:=((j+1:Nat):Int)<(k:Int)) ω;obtain rfl:k=j+1:=by omega
   have hv:=abY m (j+1);rw[show j+1-1=j by omega]at hv;have js:i64.wrap ((a:Int)+((j+1:Nat):Int))=((a+(j+1):Nat):Int):=by rw[bA]<;>omega
   simp only[go_sem,ax,hv,js]
theorem Te{α:Type}{S:List UInt8}{a:Nat}{f:α→List UInt8}{l:List α}(h:ou S a (l.flatMap f))(i:Nat)(hi:i<l.length):ou S (a+((l.take i).flatMap f).length) (f l[i]):=by
 have e:l.flatMap f=(l.take i).flatMap f++(f l[i]++(l.drop (i+1)).flatMap f):=by
  conv=>lhs;rw[←List.take_append_drop i l,List.flatMap_append,List.drop_eq_getElem_cons hi,List.flatMap_cons]
 rw[e]at h;exact(BP (BP h).2).1
theorem vm(S:List UInt8)(a:Nat)(l:List Int)(hl:l.length≤8)(hq:∀n∈l,bQ n=true)(a1:S.length≤1000)(h:ou S a (l.flatMap bM)):aL 111 [.one (.str S),.one (.int .i64 (a:Int)),.one (.int .i64 (l.length:Int))] [.one (.sl 1 (l.map aR)),.one (.int .i64 ((a+(l.flatMap bM).length:Nat):Int)),.one (.bool true)]:=by
 refine a3 37 func111 call111 [.tmp 6,.tmp 7,.tmp 8] ?_;intro ok;clear ok;simp only[go_sem];refine cr.intro (fun i:Nat=>⟨(.d (.str S)::.i ((a+((l.take i).flatMap bM).length:Nat):Int)::.i l.length::aA 6 (.sl 0 0 i::.i i::aA 26 [])),[.ah 1 ((l.take i).map aR) true]⟩)
  (fun i=>l.length-i) (fun i=>i≤l.length) 0 [0] ω ?_ ?_
 ·simp only[go_sem];simp
 ·intro i hi;by_cases h1:i<l.length
  ·have ax:=bC (p:=(i:Int)<(l.length:Int)) ω;have hw:i64.wrap ((i:Int)+1)=((i+1:Nat):Int):=by rw[bA]<;>omega
   have e:=Fu bM l i h1;have b5:=MY S (a+((l.take i).flatMap bM).length) l[i] (hq _ (eS h1)) a1 (Te h i h1);have cM:(l.take i).length=i:=by simp;omega
   have em:(l.take (i+1)).map aR=(l.take i).map aR++[aR l[i]]:=by rw[gV,cD h1,List.map_append];rfl
   have yW:a+((l.take (i+1)).flatMap bM).length=a+((l.take i).flatMap bM).length+(bM l[i]).length:=by rw[e,dY,Nat.add_assoc]
   generalize l[i]=n at *
   try simp only[go_sem,ax]
   repeat'(first|((first|refine ae.intro ‹_› ?_|refine ay.intro ‹_› ?_)<;>simp only[go_sem,I,cM])|(with_reducible refine az ?_)|fail)
   refine bE.intro (i+1) [2] ω ω ?_;simp only[go_sem,hw,em,yW];try simp[aR]
  ·have ax:=bm (p:=(i:Int)<(l.length:Int)) ω;obtain rfl:i=l.length:=by omega
   simp only[go_sem,I,ax,d3];simp
end Gv
