/-
  Part of the proof: the machine, what functions compute, and the plain laws.
-/
import Derived.Test.YtbfdeenmnijpjaaGreatM02
namespace Gv
open Go Go.Proofs
set_option maxRecDepth 100000
def Ms:List (List bt):=cE 46 [8862938119652501095928,8862938119652501095926,8862938119652501095920,8862938119652501095902,8862938119652501095848,8862938119652501095686,8862938119652501095200,8862938119652501093742,8862938119652501089368,8862938119652501076246,8862938119652501036880,8862938119652481786906,8862938119652481432612,8862938119652480369730,8862938119652498615871,8862938119652489049933,8862938119652458049208,8862938119652371955766,8862938119652113675440,8862938119651338834462,8862938119649014311528,8862938119642040742726,8862938119621120036320,8862938119558357917102,8862938119370071559448,8862938118805212486486,8862938117110635267600,8862938112026903610942,8862938096775708640968,8862935580328538595258,8862935443067783865492,8862937776500614271514,8862936541153821703620,8862932560591934540406,8862921442470801429360,8862888088107402096222,8862788025017204096808,8862487835746610098566,8861587267934828103840,8858885564499482119662,8850780454193444167128,8826465123275330309526,8753519130520988736720,8534681152257964018302,7878167217468889863048,5908625413101667397286]
def Tw:List (List bt):=cE 16 [43046720,43046718,43046712,43046694,42309621,42309459,42308973,42336999,42332625,42319503,42279084,42958107,42603813,41452398,38263752,28697814]
attribute [go_sem] Ms Tw
def ub(r:bc):Bool:=fu r.buffer&&bM r.d2&&!decide (r.d2<iJ r.buffer)&&bM r.code&&!(decide (r.bg≠-1)&&decide (r.bg<r.d2))&&!decide (4611686018427387903<r.bg)&&!decide (r.bg < -1)
def vj(r:bc):Bool:=decide (r.bg≠-1)&&decide (IntKind.i64.wrap (r.buffer.next+(d5 r.buffer.next r.buffer.bd:Int))=r.bg)
def m3(r:bc):Bool:=
 if r.state=0 then decide (r.bg=-1)&&decide (r.code=0)
 else if r.state=1 then decide (r.bg≠-1)&&!vj r&&decide (r.code=0)
 else if r.state=2 then vj r&&decide (r.code=0)
 else if r.state=3 then vj r&&decide ((r.buffer.bd.length:Int)=0)&&decide (r.code=0)
 else if r.state=4∨r.state=5 then decide (r.bg≠-1)&&decide (r.d2=r.bg)&&decide ((r.buffer.bd.length:Int)=0)
 else false
def fj(r:bc):Bool:=ub r&&m3 r
theorem acp(r:bc):(bif bif bif bif bif bif !fu r.buffer then true else !bM r.d2 then true else decide (r.d2<iJ r.buffer)then true else !bM r.code then true else bif decide (r.bg≠-1)then decide (r.bg<r.d2)else false then true else decide (4611686018427387903<r.bg)then true else decide (r.bg < -1))=!ub r:=by
 unfold ub
 cases fu r.buffer<;>cases bM r.d2<;>cases decide (r.d2<iJ r.buffer)<;>cases bM r.code<;>cases decide (r.bg≠-1)<;>cases decide (r.bg<r.d2)<;>cases decide (4611686018427387903<r.bg)<;>cases decide (r.bg < -1)<;>rfl
set_option maxHeartbeats 4000000 in
theorem vm(b0 bW:Int)(bB:List ax)(ch b' cc:Int)(hb:∀c∈bB,c.data.length≤1048576)(hx:bB.length≤1048576):PureCall Tryz.prog 43 [.agg [.int .i64 b0,.int .i64 bW,.sl 2 (bB.map ax.enc),.int .i64 ch,.int .i64 b',.int .i64 cc]] [.one (.bool (fj (⟨b0,⟨bW,bB⟩,ch,b',cc⟩:bc)))]:=by
 refine aP 134 Tryz.func43 Tryz.call43 [.tmp 2] ?_;intro _;have ah:=acp (⟨b0,⟨bW,bB⟩,ch,b',cc⟩:bc)
 cases cU:ub (⟨b0,⟨bW,bB⟩,ch,b',cc⟩:bc)with
 |false=>
  rw[cU]at ah
  try simp only[go_sem]
  repeat'((first|refine ar.intro (by first|(apply na<;>first|assumption|omega)|apply gZ|(apply Nz<;>first|assumption|omega)) ?_|refine en ?_|refine a9 Ms (by kernel_rfl) (by rfl) ?_)<;>simp only[go_sem])
  rw[ah];simp only[go_sem,Bool.not_false];simp[fj,cU]
 |true=>
  rw[cU]at ah
  try simp only[go_sem]
  repeat'((first|refine ar.intro (by first|(apply na<;>first|assumption|omega)|apply gZ|(apply Nz<;>first|assumption|omega)) ?_|refine en ?_|refine a9 Ms (by kernel_rfl) (by rfl) ?_)<;>simp only[go_sem])
  rw[ah];simp only[go_sem,Bool.not_true]
  try simp only[go_sem,I]
  repeat'((first|refine ar.intro (by(apply BW<;>first|assumption|omega)) ?_|refine a8 ?_|refine en ?_|refine a9 Tw (by kernel_rfl) (by rfl) ?_|refine bq (fun h=>?_) (fun h=>?_))<;>simp only[go_sem,I])
  all_goals(rw[show fj (⟨b0,⟨bW,bB⟩,ch,b',cc⟩:bc)=m3 (⟨b0,⟨bW,bB⟩,ch,b',cc⟩:bc)from by unfold fj;rw[cU];rfl];clear cU ah;simp only[decide_eq_true_eq,decide_eq_false_iff_not]at *;first|(exfalso;omega)|(simp[m3,vj, *]))
def vK:bc:=⟨0,⟨0,[]⟩,-1,0,0⟩
theorem acq :PureCall Tryz.prog 199 [] [.agg (bc.enc (vK))]:=by
 refine aP 2 Tryz.func199 Tryz.call199 [.cell 0 53] ?_;intro _
 try simp only[go_sem]
 all_goals simp[vK]
def fV(r:bc)(e:Int):Int:=if fj r&&bM e then dg 0 (IntKind.i64.wrap (e-r.d2))else 0
theorem RH(b0 bW:Int)(bB:List ax)(ch b' cc e:Int)(hb:∀c∈bB,c.data.length≤1048576)(hx:bB.length≤1048576):PureCall Tryz.prog 253 [.agg [.int .i64 b0,.int .i64 bW,.sl 2 (bB.map ax.enc),.int .i64 ch,.int .i64 b',.int .i64 cc],.one (.int .i64 e)] [.one (.int .i64 (fV (⟨b0,⟨bW,bB⟩,ch,b',cc⟩:bc) e))]:=by
 refine aP 18 Tryz.func253 Tryz.call253 [.tmp 4] ?_;intro _
 try simp only[go_sem]
 repeat'((first|refine af.intro (by(apply vm<;>first|assumption|omega)) ?_|refine ar.intro (by apply gZ) ?_|refine a8 ?_|refine bq (fun h=>?_) (fun h=>?_))<;>simp only[go_sem])
 all_goals(cases h1:fj (⟨b0,⟨bW,bB⟩,ch,b',cc⟩:bc)<;>cases h2:bM e<;>simp_all [fV,dg])
def D1(r:bc):Bool:=fj r&&(decide (r.state=3)||decide (r.state=5))
theorem acr(b0 bW:Int)(bB:List ax)(ch b' cc:Int)(hb:∀c∈bB,c.data.length≤1048576)(hx:bB.length≤1048576):PureCall Tryz.prog 190 [.agg [.int .i64 b0,.int .i64 bW,.sl 2 (bB.map ax.enc),.int .i64 ch,.int .i64 b',.int .i64 cc]] [.one (.bool (D1 (⟨b0,⟨bW,bB⟩,ch,b',cc⟩:bc)))]:=by
 refine aP 15 Tryz.func190 Tryz.call190 [.tmp 2] ?_;intro _
 try simp only[go_sem]
 repeat'((first|refine af.intro (by(apply vm<;>first|assumption|omega)) ?_|refine a8 ?_)<;>simp only[go_sem])
 all_goals(refine ec ?_;simp[D1])
def vn(r:bc)(e:Int)(f:Bool):Int:=
 if((decide (r.bg≠-1)&&(decide (r.bg<e)||(f&&decide (e≠r.bg))))||(f&&decide (e<r.d2)))=true then 6 else 0
theorem Tx(b0 bW:Int)(bB:List ax)(ch b' cc e:Int)(f:Bool)(hx:bB.length≤1048576):PureCall Tryz.prog 251 [.agg [.int .i64 b0,.int .i64 bW,.sl 2 (bB.map ax.enc),.int .i64 ch,.int .i64 b',.int .i64 cc],.one (.int .i64 e),.one (.bool f)] [.one (.int .i64 (vn (⟨b0,⟨bW,bB⟩,ch,b',cc⟩:bc) e f))]:=by
 refine aP 34 Tryz.func251 Tryz.call251 [.tmp 6] ?_;intro _
 try simp only[go_sem]
 repeat'((first|refine a8 ?_|refine bq (fun h=>?_) (fun h=>?_))<;>simp only[go_sem])
 ·simp only[b7,cP]at h;unfold vn;rw[if_pos h]
 ·simp only[b7,cP]at h;unfold vn;rw[if_neg (by rw[h];simp)]
set_option maxRecDepth 100000
def jm(r:bc)(m:Int):Int:=if r.state=2∧r.buffer.next+(eR r.buffer.next r.buffer.bd m:Int)=r.bg then 3 else r.state
def g5(r:bc)(m:Int):bc:=
 if fj r then(if r.state=4 then {r with state:=5}else {r with state:=jm r m,buffer:=⟨r.buffer.next+(eR r.buffer.next r.buffer.bd m:Int),fE r.buffer.next r.buffer.bd m⟩})else r
def jI(r:bc)(m:Int):List UInt8:=if fj r&&!decide (r.state=4)then sD r.buffer.next r.buffer.bd m else []
set_option maxHeartbeats 4000000 in
theorem RO(b0 bW:Int)(bB:List ax)(ch b' cc m:Int)(hb:∀c∈bB,c.data.length≤1048576)(hx:bB.length≤1048576):PureCall Tryz.prog 12 [.agg [.int .i64 b0,.int .i64 bW,.sl 2 (bB.map ax.enc),.int .i64 ch,.int .i64 b',.int .i64 cc],.one (.int .i64 m)] [.one (.str (jI (⟨b0,⟨bW,bB⟩,ch,b',cc⟩:bc) m)),.agg (bc.enc (g5 (⟨b0,⟨bW,bB⟩,ch,b',cc⟩:bc) m))]:=by
 refine aP 42 Tryz.func12 Tryz.call12 [.tmp 4,.cell 5 53] ?_;intro _;have acs:=Vk bW bB m hb hx
 cases aO:fj (⟨b0,⟨bW,bB⟩,ch,b',cc⟩:bc)with
 |false=>
  try simp only[go_sem]
  repeat'(first|((first|refine af.intro (by first|assumption|(apply xd<;>first|assumption|omega)|(apply vm<;>first|assumption|omega)) ?_|refine ar.intro (by assumption) ?_|refine a9 [[.post,.cY,.post],[.cY,.post,.post],[.pre,.pre,.post]] (by kernel_rfl) (by rfl) ?_)<;>simp only[go_sem,I,aO])|(with_reducible refine aq ?_)|fail)
  all_goals simp[g5,jI,aO]
 |true=>
  by_cases aC:b0=4
  ·have ai:decide (b0=4)=true:=bk aC;have aL:g5 (⟨b0,⟨bW,bB⟩,ch,b',cc⟩:bc) m={(⟨b0,⟨bW,bB⟩,ch,b',cc⟩:bc)with state:=5}:=by unfold g5;rw[if_pos aO];exact if_pos aC
   have aQ:jI (⟨b0,⟨bW,bB⟩,ch,b',cc⟩:bc) m=[]:=by unfold jI;rw[aO];simp[aC]
   try simp only[go_sem]
   repeat'(first|((first|refine af.intro (by first|assumption|(apply xd<;>first|assumption|omega)|(apply vm<;>first|assumption|omega)) ?_|refine ar.intro (by assumption) ?_|refine a9 [[.post,.cY,.post],[.cY,.post,.post],[.pre,.pre,.post]] (by kernel_rfl) (by rfl) ?_)<;>simp only[go_sem,I,aO,ai])|(with_reducible refine aq ?_)|fail)
   all_goals(rw[aL,aQ];try simp[outOA,fk])
  ·have ai:decide (b0=4)=false:=bb aC;have aL:g5 (⟨b0,⟨bW,bB⟩,ch,b',cc⟩:bc) m={(⟨b0,⟨bW,bB⟩,ch,b',cc⟩:bc)with state:=jm (⟨b0,⟨bW,bB⟩,ch,b',cc⟩:bc) m,buffer:=⟨bW+(eR bW bB m:Int),fE bW bB m⟩}:=by unfold g5;rw[if_pos aO];exact if_neg aC
   have aQ:jI (⟨b0,⟨bW,bB⟩,ch,b',cc⟩:bc) m=sD bW bB m:=by unfold jI;rw[aO];simp[aC]
   try simp only[go_sem]
   repeat'(first|((first|refine af.intro (by first|assumption|(apply xd<;>first|assumption|omega)|(apply vm<;>first|assumption|omega)) ?_|refine ar.intro (by assumption) ?_|refine a8 ?_|refine a9 [[.post,.cY,.post,.post],[.cY,.post,.cY,.post],[.pre,.cY,.post,.post],[.pre,.pre,.pre,.post]] (by kernel_rfl) (by rfl) ?_|refine bq (fun h=>?_) (fun h=>?_))<;>simp only[go_sem,I,aO,ai])|(with_reducible refine aq ?_)|fail)
   ·simp only[b7,Bool.and_eq_true,decide_eq_true_eq]at h;have hq:jm (⟨b0,⟨bW,bB⟩,ch,b',cc⟩:bc) m=3:=by unfold jm;exact if_pos h
    rw[aL,aQ,hq]
    try simp[outOA,fk]
   ·have hq:jm (⟨b0,⟨bW,bB⟩,ch,b',cc⟩:bc) m=b0:=by
     unfold jm;refine if_neg fun g=>?_;rw[bk g.1,bk g.2]at h;cases h
    rw[aL,aQ,hq]
    try simp[outOA,fk]
def Bw(r:bc)(c f:Int):Bool:=fj r&&bM c&&bM f
def vb(r:bc)(c f:Int):Int:=if Bw r c f then vn r f true else 7
def x8(r:bc)(c f:Int):Bool:=Bw r c f&&!(decide (vn r f true≠0)||decide (1<r.state))
def tb(r:bc)(c f:Int):bc:=if x8 r c f then⟨4,⟨r.buffer.next,[]⟩,f,f,c⟩else r
set_option maxHeartbeats 4000000 in
theorem aah(b0 bW:Int)(bB:List ax)(ch b' cc c f:Int)(hb:∀c∈bB,c.data.length≤1048576)(hx:bB.length≤1048576):PureCall Tryz.prog 223 [.agg [.int .i64 b0,.int .i64 bW,.sl 2 (bB.map ax.enc),.int .i64 ch,.int .i64 b',.int .i64 cc],.one (.int .i64 c),.one (.int .i64 f)] [.agg (bc.enc (tb (⟨b0,⟨bW,bB⟩,ch,b',cc⟩:bc) c f)),.one (.int .i64 (vb (⟨b0,⟨bW,bB⟩,ch,b',cc⟩:bc) c f))]:=by
 refine aP 46 Tryz.func223 Tryz.call223 [.cell 6 53,.tmp 7] ?_;intro _
 cases cn:Bw (⟨b0,⟨bW,bB⟩,ch,b',cc⟩:bc) c f with
 |false=>
  have br:x8 (⟨b0,⟨bW,bB⟩,ch,b',cc⟩:bc) c f=false:=by simp[x8,cn]
  have ah:(bif bif !fj (⟨b0,⟨bW,bB⟩,ch,b',cc⟩:bc)then true else !bM c then true else !bM f)=true:=by
   have:=cn;unfold Bw at this
   revert this;cases fj (⟨b0,⟨bW,bB⟩,ch,b',cc⟩:bc)<;>cases bM c<;>cases bM f<;>simp
  try simp only[go_sem]
  repeat'((first|refine af.intro (by first|(apply xd<;>first|assumption|omega)|(apply vm<;>first|assumption|omega)) ?_|refine ar.intro (by apply gZ) ?_|refine a8 ?_)<;>simp only[go_sem,I])
  rw[ah];simp only[go_sem,I];simp[tb,br,vb,cn]
 |true=>
  have ah:(bif bif !fj (⟨b0,⟨bW,bB⟩,ch,b',cc⟩:bc)then true else !bM c then true else !bM f)=false:=by
   have:=cn;unfold Bw at this
   revert this;cases fj (⟨b0,⟨bW,bB⟩,ch,b',cc⟩:bc)<;>cases bM c<;>cases bM f<;>simp
  try simp only[go_sem]
  repeat'((first|refine af.intro (by first|(apply xd<;>first|assumption|omega)|(apply vm<;>first|assumption|omega)) ?_|refine ar.intro (by apply gZ) ?_|refine a8 ?_)<;>simp only[go_sem,I])
  rw[ah];simp only[go_sem]
  try simp only[go_sem,I]
  repeat'((first|refine af.intro (by(apply Tx<;>first|assumption|omega)) ?_|refine a8 ?_)<;>simp only[go_sem])
  refine bq (fun h=>?_) (fun h=>?_)
  ·have br:x8 (⟨b0,⟨bW,bB⟩,ch,b',cc⟩:bc) c f=false:=by unfold x8;simp only[cP]at h;rw[cn,h];rfl
   simp only[go_sem,I];simp[tb,br,vb,cn]
  ·have br:x8 (⟨b0,⟨bW,bB⟩,ch,b',cc⟩:bc) c f=true:=by unfold x8;simp only[cP]at h;rw[cn,h];rfl
   have h0:vn (⟨b0,⟨bW,bB⟩,ch,b',cc⟩:bc) f true=0:=by
    simp only[cP,Bool.or_eq_false_iff,decide_eq_false_iff_not]at h;omega
   simp only[go_sem]
   try simp only[go_sem,I]
   all_goals simp[tb,br,vb,cn,h0]
set_option maxRecDepth 100000
def Ty:List (List bt):=cE 6 [692,690,724,706,648,486]
def Mt:List (List bt):=cE 37 [450283905890997362,450283905890997360,450283905890997354,450283905890997336,450283905890997282,450283905890970876,450283905890970390,450283905890968932,450283905890993961,450283905890980839,450283905890938314,450283905890820216,450283905890465922,450283905889403040,450283905886214394,450283905876648456,450283905847950642,450283905761857200,450283905503576874,450283904728735896,450283902404212962,450283895430644160,450283874509937754,450283811747818536,450283623461460882,450283058602387920,450281364025169034,450276280293512376,450261029098542402,447744581928496692,447607321173766926,449940754004172948,448705407211605054,444724845324441840,433606724191330794,400252360791997656,300189270593998242]
def Tz:List (List bt):=cE 12 [531440,531438,531432,531414,522612,522450,521964,530307,525933,511758,472392,354294]
attribute [go_sem] Ty Mt Tz
theorem acu(n:Int)(xs:List ax)(hb:∀c∈xs,c.data.length≤1048576)(hx:xs.length≤1048576):PureCall Tryz.prog 107 [.agg [.int .i64 n,.sl 2 (xs.map ax.enc)]] [.one (.int .i64 (IntKind.i64.wrap (n+(d5 n xs:Int))))]:=by
 refine aP 8 Tryz.func107 Tryz.call107 [.tmp 2] ?_;intro _
 try simp only[go_sem]
 repeat'((first|refine ar.intro (by(apply Vb<;>first|assumption|omega)) ?_|refine a9 Ty (by kernel_rfl) (by rfl) ?_)<;>simp only[go_sem])
 all_goals simp
def Hv(r:bc):Bool:=fu r.buffer&&!decide (r.d2<iJ r.buffer)&&bM r.d2&&bM r.code&&!(decide (r.bg≠-1)&&!bz r.bg r.d2 4611686018427387903)
theorem acv(r:bc):(bif bif bif bif !fu r.buffer then true else decide (r.d2<iJ r.buffer)then true else !bM r.d2 then true else !bM r.code then true else bif decide (r.bg≠-1)then !bz r.bg r.d2 4611686018427387903 else false)=!Hv r:=by
 unfold Hv
 cases fu r.buffer<;>cases bM r.d2<;>cases decide (r.d2<iJ r.buffer)<;>cases bM r.code<;>cases decide (r.bg≠-1)<;>cases bz r.bg r.d2 4611686018427387903<;>rfl
theorem acw(r:bc):Hv r=ub r:=by
 rw[Bool.eq_iff_iff];simp only[Hv,ub,bM,bz,Bool.and_eq_true,Bool.not_eq_true',decide_eq_true_eq,decide_eq_false_iff_not,Bool.and_eq_false_iff,Bool.not_eq_false'];constructor
 ·rintro⟨⟨⟨⟨h1,h2⟩,ak⟩,aC⟩,bL⟩;refine⟨⟨⟨⟨⟨⟨h1,ak⟩,h2⟩,aC⟩,?_⟩,?_⟩,?_⟩<;>omega
 ·rintro⟨⟨⟨⟨⟨⟨h1,ak⟩,h2⟩,aC⟩,bL⟩,eD⟩,l5⟩;refine⟨⟨⟨⟨h1,h2⟩,ak⟩,aC⟩,?_⟩;omega
set_option maxHeartbeats 4000000 in
theorem D2(b0 bW:Int)(bB:List ax)(ch b' cc:Int)(hb:∀c∈bB,c.data.length≤1048576)(hx:bB.length≤1048576):PureCall Tryz.prog 65 [.agg [.int .i64 b0,.int .i64 bW,.sl 2 (bB.map ax.enc),.int .i64 ch,.int .i64 b',.int .i64 cc]] [.one (.bool (fj (⟨b0,⟨bW,bB⟩,ch,b',cc⟩:bc)))]:=by
 refine aP 116 Tryz.func65 Tryz.call65 [.tmp 2] ?_;intro _;have ah:=acv (⟨b0,⟨bW,bB⟩,ch,b',cc⟩:bc);rw[acw]at ah
 cases cU:ub (⟨b0,⟨bW,bB⟩,ch,b',cc⟩:bc)with
 |false=>
  rw[cU]at ah
  try simp only[go_sem]
  repeat'((first|refine ar.intro (by first|(apply vC<;>first|assumption|omega)|(apply Ny<;>first|assumption|omega)|apply tw|apply jM) ?_|refine en ?_|refine a9 Mt (by kernel_rfl) (by rfl) ?_)<;>simp only[go_sem])
  rw[ah];simp only[go_sem,Bool.not_false];simp[fj,cU]
 |true=>
  have h0:0≤b':=by
   have:=cU;simp only[ub,bM,bz,Bool.and_eq_true,decide_eq_true_eq,and_assoc]at this;exact this.2.1
  rw[cU]at ah
  try simp only[go_sem]
  repeat'((first|refine ar.intro (by first|(apply vC<;>first|assumption|omega)|(apply Ny<;>first|assumption|omega)|apply tw|apply jM) ?_|refine en ?_|refine a9 Mt (by kernel_rfl) (by rfl) ?_)<;>simp only[go_sem])
  rw[ah];simp only[go_sem,Bool.not_true]
  try simp only[go_sem,I]
  repeat'((first|refine ar.intro (by(apply acu<;>first|assumption|omega)) ?_|refine a8 ?_|refine en ?_|refine a9 Tz (by kernel_rfl) (by rfl) ?_|refine bq (fun h=>?_) (fun h=>?_))<;>simp only[go_sem,I])
  all_goals(rw[show fj (⟨b0,⟨bW,bB⟩,ch,b',cc⟩:bc)=m3 (⟨b0,⟨bW,bB⟩,ch,b',cc⟩:bc)from by unfold fj;rw[cU];rfl];clear cU ah;simp only[decide_eq_true_eq,decide_eq_false_iff_not]at *;first|(exfalso;omega)|(refine ec ?_;simp[m3,vj, *];done)|(refine ec ?_;simp[m3,vj, *];grind))
theorem acx(b0 bW:Int)(bB:List ax)(ch b' cc:Int)(hb:∀c∈bB,c.data.length≤1048576)(hx:bB.length≤1048576):PureCall Tryz.prog 149 [.agg [.int .i64 b0,.int .i64 bW,.sl 2 (bB.map ax.enc),.int .i64 ch,.int .i64 b',.int .i64 cc]] [.one (.bool (D1 (⟨b0,⟨bW,bB⟩,ch,b',cc⟩:bc)))]:=by
 refine aP 15 Tryz.func149 Tryz.call149 [.tmp 2] ?_;intro _
 try simp only[go_sem]
 repeat'((first|refine af.intro (by(apply D2<;>first|assumption|omega)) ?_|refine a8 ?_)<;>simp only[go_sem])
 all_goals(refine ec ?_;simp[D1])
set_option maxRecDepth 100000
set_option maxHeartbeats 8000000 in
theorem adm(aX a4 a5 a2:Int)(aU:List Int)(aD aA aE:List aa)(a3 aY aW a6:Int)(hc:aD.length+aA.length+aE.length≤524288)(ko:aA.length≤maxLen)(j0:aE.length≤maxLen)(cU:jl (⟨aX,⟨a4,a5,a2,aU⟩,aD,aA,aE,a3,aY,aW,a6⟩:aM)=true)(dV:lb (⟨aX,⟨a4,a5,a2,aU⟩,aD,aA,aE,a3,aY,aW,a6⟩:aM)=false)(vy:cx aD=true)(vz:cx aA=true)(vA:cx aE=true)(gM:aA=[]){oq ot ou ov ow u8 ox oy oz oA oB oC oD u16 oE oF oG oH oI oJ oK oL oM oN oO oP oQ oR oS u32 oT oU oV oW oX oY oZ o0 o1 o2 o3 o4 o5 o6 o7 o8 o9 o_ o' pb pc pd pe pf pg ph pj pk pl pn po u64 pq pr pt pw px py pz pA pB pC pD pE pF pG pH pI pJ pK pL pM pN pO pP pQ pR pS pT pU pV pW pX pY pZ p0 p1 p2 p3 p4 p5 p6 p7 p8 p9 p_ p' qa qb qc qd qe qf qg qh qi qj qk ql qm qn qo qp qq qs qt qu qv qw qx qy qz qA qB qC qD qE qF qG qH qI qJ qK qL qM qN qO qP qQ qR qS qT qU qV qW qX qY qZ q0 q1 q2 q3 q4 q5 q6 q7 q8 q9 q_ q' ra rb re rf rh ri rj rk rl rm rn rp rq rr ru rv ry rz rA rB rC rE rF rG rH rI rJ rK rL rM rN rO rP rQ rR rS rT rU rW rX rY rZ r1 r2 r3 r4 r5 r6 r7 r8 r9 r_ r' sa sb sc sd se sf sg sh si sj sk sm sn sq sr ss su sv sw sx:V} :
  codeE Tryz.prog [] (yd 5 (zF Tryz.f121)) ⟨[oq,.ptr 0 0 0,.d (.bool false),.d (.sl 2 (aD.map aa.enc)),ot,ou,ov,ow,u8,ox,oy,oz,oA,oB,oC,oD,u16,oE,oF,oG,oH,oI,oJ,oK,oL,oM,oN,oO,oP,oQ,oR,oS,u32,oT,oU,oV,oW,oX,oY,oZ,o0,o1,o2,o3,o4,o5,o6,o7,o8,o9,o_,o',pb,pc,pd,pe,pf,pg,ph,pj,pk,pl,pn,po,u64,pq,pr,pt,pw,px,py,pz,pA,pB,pC,pD,pE,pF,pG,pH,pI,pJ,pK,pL,pM,pN,pO,pP,pQ,pR,pS,pT,pU,pV,pW,pX,pY,pZ,p0,p1,p2,p3,p4,p5,p6,p7,p8,p9,p_,p',qa,qb,qc,qd,qe,qf,qg,qh,qi,qj,qk,ql,qm,qn,qo,qp,qq,qs,qt,qu,qv,qw,qx,qy,qz,qA,qB,qC,qD,qE,qF,qG,qH,qI,qJ,qK,qL,qM,qN,qO,qP,qQ,qR,qS,qT,qU,qV,qW,qX,qY,qZ,q0,q1,q2,q3,q4,q5,q6,q7,q8,q9,q_,q',ra,rb,re,rf,rh,ri,rj,rk,rl,rm,rn,rp,rq,rr,ru,rv,ry,rz,rA,rB,rC,rE,rF,rG,rH,rI,rJ,rK,rL,rM,rN,rO,rP,rQ,rR,rS,rT,rU,rW,rX,rY,rZ,r1,r2,r3,r4,r5,r6,r7,r8,r9,r_,r',sa,sb,sc,sd,se,sf,sg,sh,si,sj,sk,sm,sn,sq,sr,ss,su,sv,sw,sx],[.box [.d (.int .i64 aX),.d (.int .i64 a4),.d (.int .i64 a5),.d (.int .i64 a2),.d (.sl 1 (aU.map a')),.d (.sl 2 (aD.map aa.enc)),.d (.sl 2 (aA.map aa.enc)),.d (.sl 2 (aE.map aa.enc)),.d (.int .i64 a3),.d (.int .i64 aY),.d (.int .i64 aW),.d (.int .i64 a6)]]⟩ (bo (fL Tryz.prog [.tmp 2] [.one (.bool (ez (⟨aX,⟨a4,a5,a2,aU⟩,aD,aA,aE,a3,aY,aW,a6⟩:aM)))]) .mk) [] (bo (fL Tryz.prog [.tmp 2] [.one (.bool (ez (⟨aX,⟨a4,a5,a2,aU⟩,aD,aA,aE,a3,aY,aW,a6⟩:aM)))]) .mk):=by
 conv=>arg 3;whnf
 refine vo fun MR bU=>?_;simp only[go_sem];by_cases MS:aE=[]
 ·skip
  refine b9.intro (fun i:Nat=>⟨(.ab::.ptr 0 0 0::.d (.bool false)::.d (.sl 2 (aD.map aa.enc))::.ab::.d (.int .i64 i)::aF 240 []),[.box [.d (.int .i64 aX),.d (.int .i64 a4),.d (.int .i64 a5),.d (.int .i64 a2),.d (.sl 1 (aU.map a')),.d (.sl 2 (aD.map aa.enc)),.d (.sl 2 (aA.map aa.enc)),.d (.sl 2 (aE.map aa.enc)),.d (.int .i64 a3),.d (.int .i64 aY),.d (.int .i64 aW),.d (.int .i64 a6)]]⟩)
   (fun _=>0) (fun i=>i=0) 0 [0] rfl ?_ ?_
  ·simp only[go_sem];simp
  ·rintro _ rfl;have au:decide (((0:Nat):Int)<(aE.length:Int))=false:=bb (by rw[MS];simp);have hA:m8 (⟨aX,⟨a4,a5,a2,aU⟩,aD,aA,aE,a3,aY,aW,a6⟩:aM)=aD:=by unfold m8 dZ;simp only[gM,MS,List.foldl_nil]
   simp only[go_sem,I,au];exact bU _ (adn aX a4 a5 a2 aU aD aA aE a3 aY aW a6 hc ko j0 cU dV hA)
 ·skip
  have tW:aD=dZ aD aA:=by rw[gM];rfl
  have Uo:=MS;refine b9.intro (α:=Nat×Option (List aa)) (fun y=>match y.2 with
    |none=>⟨(.ab::.ptr 0 0 0::.d (.bool false)::.d (.sl 2 (aD.map aa.enc))::.ab::.d (.int .i64 y.1)::aF 240 []),[.box [.d (.int .i64 aX),.d (.int .i64 a4),.d (.int .i64 a5),.d (.int .i64 a2),.d (.sl 1 (aU.map a')),.d (.sl 2 (aD.map aa.enc)),.d (.sl 2 (aA.map aa.enc)),.d (.sl 2 (aE.map aa.enc)),.d (.int .i64 a3),.d (.int .i64 aY),.d (.int .i64 aW),.d (.int .i64 a6)]]⟩
    |some ys=>⟨(.ab::.ptr 0 0 0::.d (.bool false)::.sl 1 0 ys.length::.ab::.d (.int .i64 y.1)::aF 240 []),[.box [.d (.int .i64 aX),.d (.int .i64 a4),.d (.int .i64 a5),.d (.int .i64 a2),.d (.sl 1 (aU.map a')),.d (.sl 2 (aD.map aa.enc)),.d (.sl 2 (aA.map aa.enc)),.d (.sl 2 (aE.map aa.enc)),.d (.int .i64 a3),.d (.int .i64 aY),.d (.int .i64 aW),.d (.int .i64 a6)],.ao 2 (ys.map aa.enc) true]⟩)
   (fun y=>aE.length-y.1) (fun y=>y.1≤aE.length∧(y.2=none→y.1=0)∧y.2.getD aD=dZ (dZ aD aA) (aE.take y.1)) (0,none) [0] ⟨by simp,by simp,by simp only[Option.getD_none,List.take_zero];exact tW⟩ ?_ ?_
  ·simp only[go_sem];simp
  ·rintro⟨i,u6⟩ ⟨hi,hz,hy⟩;simp only at hi hz hy;have e9:=nL (aE.take i) (dZ aD aA);have Up:=nL aA aD;have cw:(aE.take i).length=i:=by simp;omega
   cases u6 with
   |none=>
    have nJ:=hz rfl;simp only[Option.getD_none]at hy;by_cases h1:i<aE.length
    ·have au:decide ((i:Int)<(aE.length:Int))=true:=bk (by omega);have aB:=b4 aa.enc aE i h1;have hw:=dE h1 j0;have cD:=yf (dZ aD aA) aE i h1;rw[←hy]at cD;have HF:aD.length≤1048576:=by rw[hy];omega
     try simp only[go_sem,I,aJ,aB,aa.enc,au]
     repeat'(first|((first|refine af.intro (by first|apply vq|(apply te<;>first|assumption|omega)) ?_|refine ar.intro (by first|apply uc|apply hP|apply gZ) ?_|refine a8 ?_)<;>simp only[go_sem,I])|(with_reducible refine aq ?_)|fail)
     refine bu.intro (i+1,some (fs aD aE[i])) [0,1] ⟨by omega,by simp,by simp[cD]⟩ (show aE.length-(i+1)<aE.length-i by omega) ?_;simp only[go_sem,hw];simp
    ·exfalso;exact absurd (List.length_pos_iff.2 Uo) (by omega)
   |some ys=>
    skip
    simp only[Option.getD_some]at hy;by_cases h1:i<aE.length
    ·have au:decide ((i:Int)<(aE.length:Int))=true:=bk (by omega);have aB:=b4 aa.enc aE i h1;have hw:=dE h1 j0;have cD:=yf (dZ aD aA) aE i h1;rw[←hy]at cD;have HF:ys.length≤1048576:=by rw[hy];omega
     try simp only[go_sem,I,aJ,aB,aa.enc,au]
     repeat'(first|((first|refine af.intro (by(apply te<;>first|assumption|omega)) ?_|refine a8 ?_)<;>simp only[go_sem,I])|(with_reducible refine aq ?_)|fail)
     refine bu.intro (i+1,some (fs ys aE[i])) [0,2] ⟨by omega,by simp,by simp[cD]⟩ (show aE.length-(i+1)<aE.length-i by omega) ?_;simp only[go_sem,hw];simp
    ·have au:decide ((i:Int)<(aE.length:Int))=false:=bb (by omega);obtain rfl:i=aE.length:=by omega
     rw[dK]at hy;have Ep:=hy;have hA:m8 (⟨aX,⟨a4,a5,a2,aU⟩,aD,aA,aE,a3,aY,aW,a6⟩:aM)=ys:=hy.symm;simp only[go_sem,I,au];exact bU _ (Uq aX a4 a5 a2 aU aD aA aE a3 aY aW a6 hc ko j0 cU dV ys hA (by rw[Ep];have:=nL aE (dZ aD aA);have:=nL aA aD;omega) (Ud vy vz vA (.inr Uo) Ep))
set_option maxHeartbeats 8000000 in
theorem ado(aX a4 a5 a2:Int)(aU:List Int)(aD aA aE:List aa)(a3 aY aW a6:Int)(hc:aD.length+aA.length+aE.length≤524288)(ko:aA.length≤maxLen)(j0:aE.length≤maxLen)(cU:jl (⟨aX,⟨a4,a5,a2,aU⟩,aD,aA,aE,a3,aY,aW,a6⟩:aM)=true)(dV:lb (⟨aX,⟨a4,a5,a2,aU⟩,aD,aA,aE,a3,aY,aW,a6⟩:aM)=false)(vy:cx aD=true)(vz:cx aA=true)(vA:cx aE=true)(gM:aA≠[])(aS:List aa)(cJ:aS=dZ aD aA){oq ot ou ov ow u8 ox oy oz oA oB oC oD u16 oE oF oG oH oI oJ oK oL oM oN oO oP oQ oR oS u32 oT oU oV oW oX oY oZ o0 o1 o2 o3 o4 o5 o6 o7 o8 o9 o_ o' pb pc pd pe pf pg ph pj pk pl pn po u64 pq pr pt pw px py pz pA pB pC pD pE pF pG pH pI pJ pK pL pM pN pO pP pQ pR pS pT pU pV pW pX pY pZ p0 p1 p2 p3 p4 p5 p6 p7 p8 p9 p_ p' qa qb qc qd qe qf qg qh qi qj qk ql qm qn qo qp qq qs qt qu qv qw qx qy qz qA qB qC qD qE qF qG qH qI qJ qK qL qM qN qO qP qQ qR qS qT qU qV qW qX qY qZ q0 q1 q2 q3 q4 q5 q6 q7 q8 q9 q_ q' ra rb re rf rh ri rj rk rl rm rn rp rq rr ru rv ry rz rA rB rC rE rF rG rH rI rJ rK rL rM rN rO rP rQ rR rS rT rU rW rX rY rZ r1 r2 r3 r4 r5 r6 r7 r8 r9 r_ r' sa sb sc sd se sf sg sh si sj sk sm sn sq sr ss su sv sw sx:V} :
  codeE Tryz.prog [] (yd 5 (zF Tryz.f121)) ⟨[oq,.ptr 0 0 0,.d (.bool false),.sl 1 0 aS.length,ot,ou,ov,ow,u8,ox,oy,oz,oA,oB,oC,oD,u16,oE,oF,oG,oH,oI,oJ,oK,oL,oM,oN,oO,oP,oQ,oR,oS,u32,oT,oU,oV,oW,oX,oY,oZ,o0,o1,o2,o3,o4,o5,o6,o7,o8,o9,o_,o',pb,pc,pd,pe,pf,pg,ph,pj,pk,pl,pn,po,u64,pq,pr,pt,pw,px,py,pz,pA,pB,pC,pD,pE,pF,pG,pH,pI,pJ,pK,pL,pM,pN,pO,pP,pQ,pR,pS,pT,pU,pV,pW,pX,pY,pZ,p0,p1,p2,p3,p4,p5,p6,p7,p8,p9,p_,p',qa,qb,qc,qd,qe,qf,qg,qh,qi,qj,qk,ql,qm,qn,qo,qp,qq,qs,qt,qu,qv,qw,qx,qy,qz,qA,qB,qC,qD,qE,qF,qG,qH,qI,qJ,qK,qL,qM,qN,qO,qP,qQ,qR,qS,qT,qU,qV,qW,qX,qY,qZ,q0,q1,q2,q3,q4,q5,q6,q7,q8,q9,q_,q',ra,rb,re,rf,rh,ri,rj,rk,rl,rm,rn,rp,rq,rr,ru,rv,ry,rz,rA,rB,rC,rE,rF,rG,rH,rI,rJ,rK,rL,rM,rN,rO,rP,rQ,rR,rS,rT,rU,rW,rX,rY,rZ,r1,r2,r3,r4,r5,r6,r7,r8,r9,r_,r',sa,sb,sc,sd,se,sf,sg,sh,si,sj,sk,sm,sn,sq,sr,ss,su,sv,sw,sx],[.box [.d (.int .i64 aX),.d (.int .i64 a4),.d (.int .i64 a5),.d (.int .i64 a2),.d (.sl 1 (aU.map a')),.d (.sl 2 (aD.map aa.enc)),.d (.sl 2 (aA.map aa.enc)),.d (.sl 2 (aE.map aa.enc)),.d (.int .i64 a3),.d (.int .i64 aY),.d (.int .i64 aW),.d (.int .i64 a6)],.ao 2 (aS.map aa.enc) true]⟩ (bo (fL Tryz.prog [.tmp 2] [.one (.bool (ez (⟨aX,⟨a4,a5,a2,aU⟩,aD,aA,aE,a3,aY,aW,a6⟩:aM)))]) .mk) [] (bo (fL Tryz.prog [.tmp 2] [.one (.bool (ez (⟨aX,⟨a4,a5,a2,aU⟩,aD,aA,aE,a3,aY,aW,a6⟩:aM)))]) .mk):=by
 conv=>arg 3;whnf
 refine vo fun MR bU=>?_;simp only[go_sem];subst cJ;refine b9.intro (α:=Nat×Option (List aa)) (fun y=>match y.2 with
   |none=>⟨(.ab::.ptr 0 0 0::.d (.bool false)::.d (.sl 2 (aD.map aa.enc))::.ab::.d (.int .i64 y.1)::aF 240 []),[.box [.d (.int .i64 aX),.d (.int .i64 a4),.d (.int .i64 a5),.d (.int .i64 a2),.d (.sl 1 (aU.map a')),.d (.sl 2 (aD.map aa.enc)),.d (.sl 2 (aA.map aa.enc)),.d (.sl 2 (aE.map aa.enc)),.d (.int .i64 a3),.d (.int .i64 aY),.d (.int .i64 aW),.d (.int .i64 a6)]]⟩
   |some ys=>⟨(.ab::.ptr 0 0 0::.d (.bool false)::.sl 1 0 ys.length::.ab::.d (.int .i64 y.1)::aF 240 []),[.box [.d (.int .i64 aX),.d (.int .i64 a4),.d (.int .i64 a5),.d (.int .i64 a2),.d (.sl 1 (aU.map a')),.d (.sl 2 (aD.map aa.enc)),.d (.sl 2 (aA.map aa.enc)),.d (.sl 2 (aE.map aa.enc)),.d (.int .i64 a3),.d (.int .i64 aY),.d (.int .i64 aW),.d (.int .i64 a6)],.ao 2 (ys.map aa.enc) true]⟩)
  (fun y=>aE.length-y.1) (fun y=>y.1≤aE.length∧(y.2=none→False)∧y.2.getD aD=dZ (dZ aD aA) (aE.take y.1)) (0,some (dZ aD aA)) [0,1] ⟨by simp,by simp,by simp[dZ]⟩ ?_ ?_
 ·simp only[go_sem];simp
 ·rintro⟨i,u6⟩ ⟨hi,hz,hy⟩;simp only at hi hz hy;have e9:=nL (aE.take i) (dZ aD aA);have Up:=nL aA aD;have cw:(aE.take i).length=i:=by simp;omega
  cases u6 with
  |none=>exact(hz rfl).elim
  |some ys=>
   skip
   simp only[Option.getD_some]at hy;by_cases h1:i<aE.length
   ·have au:decide ((i:Int)<(aE.length:Int))=true:=bk (by omega);have aB:=b4 aa.enc aE i h1;have hw:=dE h1 j0;have cD:=yf (dZ aD aA) aE i h1;rw[←hy]at cD;have HF:ys.length≤1048576:=by rw[hy];omega
    try simp only[go_sem,I,aJ,aB,aa.enc,au]
    repeat'(first|((first|refine af.intro (by first|apply vq|(apply te<;>first|assumption|omega)) ?_|refine ar.intro (by first|apply uc|apply hP|apply gZ) ?_|refine a8 ?_)<;>simp only[go_sem,I])|(with_reducible refine aq ?_)|fail)
    refine bu.intro (i+1,some (fs ys aE[i])) [0,2] ⟨by omega,by simp,by simp[cD]⟩ (show aE.length-(i+1)<aE.length-i by omega) ?_;simp only[go_sem,hw];simp
   ·have au:decide ((i:Int)<(aE.length:Int))=false:=bb (by omega);obtain rfl:i=aE.length:=by omega
    rw[dK]at hy;have Ep:=hy;have hA:m8 (⟨aX,⟨a4,a5,a2,aU⟩,aD,aA,aE,a3,aY,aW,a6⟩:aM)=ys:=hy.symm;simp only[go_sem,I,au];exact bU _ (Uq aX a4 a5 a2 aU aD aA aE a3 aY aW a6 hc ko j0 cU dV ys hA (by rw[Ep];have:=nL aE (dZ aD aA);have:=nL aA aD;omega) (Ud vy vz vA (.inl gM) Ep))
set_option maxHeartbeats 8000000 in
theorem adp(aX a4 a5 a2:Int)(aU:List Int)(aD aA aE:List aa)(a3 aY aW a6:Int)(hc:aD.length+aA.length+aE.length≤524288)(ko:aA.length≤maxLen)(j0:aE.length≤maxLen)(cU:jl (⟨aX,⟨a4,a5,a2,aU⟩,aD,aA,aE,a3,aY,aW,a6⟩:aM)=true)(dV:lb (⟨aX,⟨a4,a5,a2,aU⟩,aD,aA,aE,a3,aY,aW,a6⟩:aM)=false)(vy:cx aD=true)(vz:cx aA=true)(vA:cx aE=true){oq ot ou ov ow u8 ox oy oz oA oB oC oD u16 oE oF oG oH oI oJ oK oL oM oN oO oP oQ oR oS u32 oT oU oV oW oX oY oZ o0 o1 o2 o3 o4 o5 o6 o7 o8 o9 o_ o' pb pc pd pe pf pg ph pj pk pl pn po u64 pq pr pt pw px py pz pA pB pC pD pE pF pG pH pI pJ pK pL pM pN pO pP pQ pR pS pT pU pV pW pX pY pZ p0 p1 p2 p3 p4 p5 p6 p7 p8 p9 p_ p' qa qb qc qd qe qf qg qh qi qj qk ql qm qn qo qp qq qs qt qu qv qw qx qy qz qA qB qC qD qE qF qG qH qI qJ qK qL qM qN qO qP qQ qR qS qT qU qV qW qX qY qZ q0 q1 q2 q3 q4 q5 q6 q7 q8 q9 q_ q' ra rb re rf rh ri rj rk rl rm rn rp rq rr ru rv ry rz rA rB rC rE rF rG rH rI rJ rK rL rM rN rO rP rQ rR rS rT rU rW rX rY rZ r1 r2 r3 r4 r5 r6 r7 r8 r9 r_ r' sa sb sc sd se sf sg sh si sj sk sm sn sq sr ss su sv sw sx:V} :
  codeE Tryz.prog [] (yd 4 (zF Tryz.f121)) ⟨[oq,.ptr 0 0 0,.d (.bool false),.d (.sl 2 (aD.map aa.enc)),ot,ou,ov,ow,u8,ox,oy,oz,oA,oB,oC,oD,u16,oE,oF,oG,oH,oI,oJ,oK,oL,oM,oN,oO,oP,oQ,oR,oS,u32,oT,oU,oV,oW,oX,oY,oZ,o0,o1,o2,o3,o4,o5,o6,o7,o8,o9,o_,o',pb,pc,pd,pe,pf,pg,ph,pj,pk,pl,pn,po,u64,pq,pr,pt,pw,px,py,pz,pA,pB,pC,pD,pE,pF,pG,pH,pI,pJ,pK,pL,pM,pN,pO,pP,pQ,pR,pS,pT,pU,pV,pW,pX,pY,pZ,p0,p1,p2,p3,p4,p5,p6,p7,p8,p9,p_,p',qa,qb,qc,qd,qe,qf,qg,qh,qi,qj,qk,ql,qm,qn,qo,qp,qq,qs,qt,qu,qv,qw,qx,qy,qz,qA,qB,qC,qD,qE,qF,qG,qH,qI,qJ,qK,qL,qM,qN,qO,qP,qQ,qR,qS,qT,qU,qV,qW,qX,qY,qZ,q0,q1,q2,q3,q4,q5,q6,q7,q8,q9,q_,q',ra,rb,re,rf,rh,ri,rj,rk,rl,rm,rn,rp,rq,rr,ru,rv,ry,rz,rA,rB,rC,rE,rF,rG,rH,rI,rJ,rK,rL,rM,rN,rO,rP,rQ,rR,rS,rT,rU,rW,rX,rY,rZ,r1,r2,r3,r4,r5,r6,r7,r8,r9,r_,r',sa,sb,sc,sd,se,sf,sg,sh,si,sj,sk,sm,sn,sq,sr,ss,su,sv,sw,sx],[.box [.d (.int .i64 aX),.d (.int .i64 a4),.d (.int .i64 a5),.d (.int .i64 a2),.d (.sl 1 (aU.map a')),.d (.sl 2 (aD.map aa.enc)),.d (.sl 2 (aA.map aa.enc)),.d (.sl 2 (aE.map aa.enc)),.d (.int .i64 a3),.d (.int .i64 aY),.d (.int .i64 aW),.d (.int .i64 a6)]]⟩ (bo (fL Tryz.prog [.tmp 2] [.one (.bool (ez (⟨aX,⟨a4,a5,a2,aU⟩,aD,aA,aE,a3,aY,aW,a6⟩:aM)))]) .mk) [] (bo (fL Tryz.prog [.tmp 2] [.one (.bool (ez (⟨aX,⟨a4,a5,a2,aU⟩,aD,aA,aE,a3,aY,aW,a6⟩:aM)))]) .mk):=by
 conv=>arg 3;whnf
 refine vo fun MR bU=>?_;simp only[go_sem];by_cases MT:aA=[]
 ·skip
  refine b9.intro (fun i:Nat=>⟨(.ab::.ptr 0 0 0::.d (.bool false)::.d (.sl 2 (aD.map aa.enc))::.d (.int .i64 i)::aF 241 []),[.box [.d (.int .i64 aX),.d (.int .i64 a4),.d (.int .i64 a5),.d (.int .i64 a2),.d (.sl 1 (aU.map a')),.d (.sl 2 (aD.map aa.enc)),.d (.sl 2 (aA.map aa.enc)),.d (.sl 2 (aE.map aa.enc)),.d (.int .i64 a3),.d (.int .i64 aY),.d (.int .i64 aW),.d (.int .i64 a6)]]⟩)
   (fun _=>0) (fun i=>i=0) 0 [0] rfl ?_ ?_
  ·simp only[go_sem];simp
  ·rintro _ rfl;have au:decide (((0:Nat):Int)<(aA.length:Int))=false:=bb (by rw[MT];simp);simp only[go_sem,I,au];exact bU _ (adm aX a4 a5 a2 aU aD aA aE a3 aY aW a6 hc ko j0 cU dV vy vz vA MT)
 ·skip
  have Ur:=MT;have tW:aD=dZ aD []:=rfl;refine b9.intro (α:=Nat×Option (List aa)) (fun y=>match y.2 with
    |none=>⟨(.ab::.ptr 0 0 0::.d (.bool false)::.d (.sl 2 (aD.map aa.enc))::.d (.int .i64 y.1)::aF 241 []),[.box [.d (.int .i64 aX),.d (.int .i64 a4),.d (.int .i64 a5),.d (.int .i64 a2),.d (.sl 1 (aU.map a')),.d (.sl 2 (aD.map aa.enc)),.d (.sl 2 (aA.map aa.enc)),.d (.sl 2 (aE.map aa.enc)),.d (.int .i64 a3),.d (.int .i64 aY),.d (.int .i64 aW),.d (.int .i64 a6)]]⟩
    |some ys=>⟨(.ab::.ptr 0 0 0::.d (.bool false)::.sl 1 0 ys.length::.d (.int .i64 y.1)::aF 241 []),[.box [.d (.int .i64 aX),.d (.int .i64 a4),.d (.int .i64 a5),.d (.int .i64 a2),.d (.sl 1 (aU.map a')),.d (.sl 2 (aD.map aa.enc)),.d (.sl 2 (aA.map aa.enc)),.d (.sl 2 (aE.map aa.enc)),.d (.int .i64 a3),.d (.int .i64 aY),.d (.int .i64 aW),.d (.int .i64 a6)],.ao 2 (ys.map aa.enc) true]⟩)
   (fun y=>aA.length-y.1) (fun y=>y.1≤aA.length∧(y.2=none→y.1=0)∧y.2.getD aD=dZ aD (aA.take y.1)) (0,none) [0] ⟨by simp,by simp,by simp only[Option.getD_none,List.take_zero];exact tW⟩ ?_ ?_
  ·simp only[go_sem];simp
  ·rintro⟨i,u6⟩ ⟨hi,hz,hy⟩;simp only at hi hz hy;have e9:=nL (aA.take i) aD;have Up:=nL aA aD;have cw:(aA.take i).length=i:=by simp;omega
   cases u6 with
   |none=>
    have nJ:=hz rfl;simp only[Option.getD_none]at hy;by_cases h1:i<aA.length
    ·have au:decide ((i:Int)<(aA.length:Int))=true:=bk (by omega);have aB:=b4 aa.enc aA i h1;have hw:=dE h1 ko;have cD:=yf aD aA i h1;rw[←hy]at cD;have HF:aD.length≤1048576:=by rw[hy];omega
     try simp only[go_sem,I,aJ,aB,aa.enc,au]
     repeat'(first|((first|refine af.intro (by first|apply vq|(apply te<;>first|assumption|omega)) ?_|refine ar.intro (by first|apply uc|apply hP|apply gZ) ?_|refine a8 ?_)<;>simp only[go_sem,I])|(with_reducible refine aq ?_)|fail)
     refine bu.intro (i+1,some (fs aD aA[i])) [0,1] ⟨by omega,by simp,by simp[cD]⟩ (show aA.length-(i+1)<aA.length-i by omega) ?_;simp only[go_sem,hw];simp
    ·exfalso;exact absurd (List.length_pos_iff.2 Ur) (by omega)
   |some ys=>
    skip
    simp only[Option.getD_some]at hy;by_cases h1:i<aA.length
    ·have au:decide ((i:Int)<(aA.length:Int))=true:=bk (by omega);have aB:=b4 aa.enc aA i h1;have hw:=dE h1 ko;have cD:=yf aD aA i h1;rw[←hy]at cD;have HF:ys.length≤1048576:=by rw[hy];omega
     try simp only[go_sem,I,aJ,aB,aa.enc,au]
     repeat'(first|((first|refine af.intro (by(apply te<;>first|assumption|omega)) ?_|refine a8 ?_)<;>simp only[go_sem,I])|(with_reducible refine aq ?_)|fail)
     refine bu.intro (i+1,some (fs ys aA[i])) [0,2] ⟨by omega,by simp,by simp[cD]⟩ (show aA.length-(i+1)<aA.length-i by omega) ?_;simp only[go_sem,hw];simp
    ·have au:decide ((i:Int)<(aA.length:Int))=false:=bb (by omega);obtain rfl:i=aA.length:=by omega
     rw[dK]at hy;simp only[go_sem,I,au];exact bU _ (ado aX a4 a5 a2 aU aD aA aE a3 aY aW a6 hc ko j0 cU dV vy vz vA Ur ys hy)
set_option maxHeartbeats 8000000 in
theorem adq(aX a4 a5 a2:Int)(aU:List Int)(aD aA aE:List aa)(a3 aY aW a6:Int)(hc:aD.length+aA.length+aE.length≤524288)(ko:aA.length≤maxLen)(j0:aE.length≤maxLen)(cU:jl (⟨aX,⟨a4,a5,a2,aU⟩,aD,aA,aE,a3,aY,aW,a6⟩:aM)=true)(dV:lb (⟨aX,⟨a4,a5,a2,aU⟩,aD,aA,aE,a3,aY,aW,a6⟩:aM)=false)(vy:cx aD=true)(vz:cx aA=true)(vA:cx aE=true){oq mc ot ou ov ow u8 ox oy oz oA oB oC oD u16 oE oF oG oH oI oJ oK oL oM oN oO oP oQ oR oS u32 oT oU oV oW oX oY oZ o0 o1 o2 o3 o4 o5 o6 o7 o8 o9 o_ o' pb pc pd pe pf pg ph pj pk pl pn po u64 pq pr pt pw px py pz pA pB pC pD pE pF pG pH pI pJ pK pL pM pN pO pP pQ pR pS pT pU pV pW pX pY pZ p0 p1 p2 p3 p4 p5 p6 p7 p8 p9 p_ p' qa qb qc qd qe qf qg qh qi qj qk ql qm qn qo qp qq qs qt qu qv qw qx qy qz qA qB qC qD qE qF qG qH qI qJ qK qL qM qN qO qP qQ qR qS qT qU qV qW qX qY qZ q0 q1 q2 q3 q4 q5 q6 q7 q8 q9 q_ q' ra rb re rf rh ri rj rk rl rm rn rp rq rr ru rv ry rz rA rB rC rE rF rG rH rI rJ rK rL rM rN rO rP rQ rR rS rT rU rW rX rY rZ r1 r2 r3 r4 r5 r6 r7 r8 r9 r_ r' sa sb sc sd se sf sg sh si sj sk sm sn sq sr ss su sv sw sx:V} :
  codeE Tryz.prog [] (yd 3 (zF Tryz.f121)) ⟨[oq,.ptr 0 0 0,.d (.bool false),mc,ot,ou,ov,ow,u8,ox,oy,oz,oA,oB,oC,oD,u16,oE,oF,oG,oH,oI,oJ,oK,oL,oM,oN,oO,oP,oQ,oR,oS,u32,oT,oU,oV,oW,oX,oY,oZ,o0,o1,o2,o3,o4,o5,o6,o7,o8,o9,o_,o',pb,pc,pd,pe,pf,pg,ph,pj,pk,pl,pn,po,u64,pq,pr,pt,pw,px,py,pz,pA,pB,pC,pD,pE,pF,pG,pH,pI,pJ,pK,pL,pM,pN,pO,pP,pQ,pR,pS,pT,pU,pV,pW,pX,pY,pZ,p0,p1,p2,p3,p4,p5,p6,p7,p8,p9,p_,p',qa,qb,qc,qd,qe,qf,qg,qh,qi,qj,qk,ql,qm,qn,qo,qp,qq,qs,qt,qu,qv,qw,qx,qy,qz,qA,qB,qC,qD,qE,qF,qG,qH,qI,qJ,qK,qL,qM,qN,qO,qP,qQ,qR,qS,qT,qU,qV,qW,qX,qY,qZ,q0,q1,q2,q3,q4,q5,q6,q7,q8,q9,q_,q',ra,rb,re,rf,rh,ri,rj,rk,rl,rm,rn,rp,rq,rr,ru,rv,ry,rz,rA,rB,rC,rE,rF,rG,rH,rI,rJ,rK,rL,rM,rN,rO,rP,rQ,rR,rS,rT,rU,rW,rX,rY,rZ,r1,r2,r3,r4,r5,r6,r7,r8,r9,r_,r',sa,sb,sc,sd,se,sf,sg,sh,si,sj,sk,sm,sn,sq,sr,ss,su,sv,sw,sx],[.box [.d (.int .i64 aX),.d (.int .i64 a4),.d (.int .i64 a5),.d (.int .i64 a2),.d (.sl 1 (aU.map a')),.d (.sl 2 (aD.map aa.enc)),.d (.sl 2 (aA.map aa.enc)),.d (.sl 2 (aE.map aa.enc)),.d (.int .i64 a3),.d (.int .i64 aY),.d (.int .i64 aW),.d (.int .i64 a6)]]⟩ (bo (fL Tryz.prog [.tmp 2] [.one (.bool (ez (⟨aX,⟨a4,a5,a2,aU⟩,aD,aA,aE,a3,aY,aW,a6⟩:aM)))]) .mk) [] (bo (fL Tryz.prog [.tmp 2] [.one (.bool (ez (⟨aX,⟨a4,a5,a2,aU⟩,aD,aA,aE,a3,aY,aW,a6⟩:aM)))]) .mk):=by
 conv=>arg 3;whnf
 refine vo fun MR bU=>?_;simp only[go_sem];exact bU _ (adp aX a4 a5 a2 aU aD aA aE a3 aY aW a6 hc ko j0 cU dV vy vz vA)
set_option maxHeartbeats 8000000 in
theorem j1(aX a4 a5 a2:Int)(aU:List Int)(aD aA aE:List aa)(a3 aY aW a6:Int)(hc:aD.length+aA.length+aE.length≤524288):PureCall Tryz.prog 121 [.agg [.int .i64 aX,.int .i64 a4,.int .i64 a5,.int .i64 a2,.sl 1 (aU.map a'),.sl 2 (aD.map aa.enc),.sl 2 (aA.map aa.enc),.sl 2 (aE.map aa.enc),.int .i64 a3,.int .i64 aY,.int .i64 aW,.int .i64 a6]] [.one (.bool (ez (⟨aX,⟨a4,a5,a2,aU⟩,aD,aA,aE,a3,aY,aW,a6⟩:aM)))]:=by
 refine aP 246 Tryz.func121 Tryz.call121 [.tmp 2] ?_;intro ok;have ko:aA.length≤maxLen:=by simp only[maxLen];omega
 have j0:aE.length≤maxLen:=by simp only[maxLen];omega
 refine vo fun adr HG=>?_;simp only[go_sem];refine HG _ (vo fun K2 HH=>?_)
 try simp only[go_sem]
 repeat'(first|((first|refine af.intro (by first|apply vq|(apply te<;>first|assumption|omega)) ?_|refine ar.intro (by first|apply uc|apply hP|apply gZ) ?_|refine a8 ?_)<;>simp only[go_sem])|(with_reducible refine aq ?_)|fail)
 refine bq (fun h0=>?_) (fun h0=>?_)
 ·simp only[go_sem];have:jl (⟨aX,⟨a4,a5,a2,aU⟩,aD,aA,aE,a3,aY,aW,a6⟩:aM)=false:=by
   rw[Bool.eq_false_iff];intro g;simp[jl]at h0 g;simp_all
  simp[ez,this]
 ·have cU:jl (⟨aX,⟨a4,a5,a2,aU⟩,aD,aA,aE,a3,aY,aW,a6⟩:aM)=true:=by
   simp[jl]at h0⊢;simp_all
  have ads:(jk (⟨aX,⟨a4,a5,a2,aU⟩,aD,aA,aE,a3,aY,aW,a6⟩:aM).ring=true∧cx aD=true∧cx aA=true∧cx aE=true):=by
   simp only[jl,Bool.and_eq_true,and_assoc]at cU;exact⟨cU.1,cU.2.1,cU.2.2.1,cU.2.2.2.1⟩
  obtain⟨alf,vy,vz,vA⟩:=ads;simp only[go_sem];refine HH _ (vo fun adt HI=>?_)
  try simp only[go_sem]
  repeat'(first|((first|refine af.intro (by(apply te<;>first|assumption|omega)) ?_|refine a8 ?_)<;>simp only[go_sem])|(with_reducible refine aq ?_)|fail)
  refine bq (fun aL=>?_) (fun aL=>?_)
  ·have dV:lb (⟨aX,⟨a4,a5,a2,aU⟩,aD,aA,aE,a3,aY,aW,a6⟩:aM)=true:=by simpa [lb,cP]using aL
   simp only[go_sem]
   try simp only[go_sem,I]
   repeat'(refine a8 ?_<;>simp only[go_sem,I])
   all_goals(refine ec ?_;simp[ez,cU,dV,HJ])
  ·have dV:lb (⟨aX,⟨a4,a5,a2,aU⟩,aD,aA,aE,a3,aY,aW,a6⟩:aM)=false:=by simpa [lb,cP]using aL
   simp only[go_sem];exact HI _ (adq aX a4 a5 a2 aU aD aA aE a3 aY aW a6 hc ko j0 cU dV vy vz vA)
set_option maxRecDepth 100000
def Uv:List (List bt):=cE 14 [4162967,4162965,4162959,4163062,4163008,4163926,4163440,4250434,4246060,4232938,4193572,4074381,4517248,3188646]
attribute [go_sem] Uv
def IT:aM:=⟨0,⟨0,0,0,[]⟩,[],[],[],0,0,0,0⟩
def sJ(n:Int):aM:=if la n then⟨0,sK n,[],[],[],-1,0,0,0⟩else IT
set_option maxHeartbeats 1000000 in
theorem adA(n:Int):PureCall Tryz.prog 202 [.one (.int .i64 n)] [.agg (aM.enc (sJ n)),.one (.bool (la n))]:=by
 refine aP 16 Tryz.func202 Tryz.call202 [.cell 2 48,.tmp 3] ?_;intro _
 cases aO:la n with
 |false=>
  try simp only[go_sem]
  repeat'(refine af.intro (by apply TV) ?_<;>simp only[go_sem,aO])
  all_goals simp[sJ,IT,aO]
 |true=>
  have hn:=Ab aO
  try simp only[go_sem]
  repeat'(first|(refine af.intro (by apply TV) ?_<;>simp only[go_sem,aO])|(with_reducible refine aq ?_)|fail)
  all_goals simp[sJ,sK,aO,a']
def nc(s:aM):Bool:=ez s&&decide (s.state≤1)&&decide (s.bg=-1)
def sI(s:aM)(d:List UInt8):aM:=
 if nc s then {s with ring:=tf s.ring d,pending:=if 0<kG s.ring d then fs s.pending ⟨s.ring.cj,(tf s.ring d).cj⟩else s.pending}else s
def z8(s:aM)(d:List UInt8):Int:=if nc s then(kG s.ring d:Int)else 0
set_option maxHeartbeats 4000000 in
theorem Vw(aX a4 a5 a2:Int)(aU:List Int)(aD aA aE:List aa)(a3 aY aW a6:Int)(d:List UInt8)(hc:aD.length+aA.length+aE.length≤524288)(hr:aU.length≤8388608)(hd:d.length≤1048576):PureCall Tryz.prog 172 [.agg [.int .i64 aX,.int .i64 a4,.int .i64 a5,.int .i64 a2,.sl 1 (aU.map a'),.sl 2 (aD.map aa.enc),.sl 2 (aA.map aa.enc),.sl 2 (aE.map aa.enc),.int .i64 a3,.int .i64 aY,.int .i64 aW,.int .i64 a6],.one (.str d)] [.agg (aM.enc (sI (⟨aX,⟨a4,a5,a2,aU⟩,aD,aA,aE,a3,aY,aW,a6⟩:aM) d)),.one (.int .i64 (z8 (⟨aX,⟨a4,a5,a2,aU⟩,aD,aA,aE,a3,aY,aW,a6⟩:aM) d))]:=by
 refine aP 48 Tryz.func172 Tryz.call172 [.cell 4 48,.tmp 5] ?_;intro _
 cases hW:nc (⟨aX,⟨a4,a5,a2,aU⟩,aD,aA,aE,a3,aY,aW,a6⟩:aM)with
 |false=>
  try simp only[go_sem]
  repeat'((first|refine af.intro (by first|(apply nW<;>first|assumption|omega)|(apply j1<;>first|assumption|omega)) ?_|refine a8 ?_)<;>simp only[go_sem,I])
  refine bq (fun h0=>?_) (fun h0=>?_)
  ·simp only[go_sem,I];simp[sI,z8,hW]
  ·exfalso;simp[nc]at hW h0;grind
 |true=>
  have hw:=hW;simp only[nc,Bool.and_eq_true,decide_eq_true_eq,and_assoc]at hw;have ai:decide (1<aX)=false:=bb (by omega);have aj:decide (a3≠-1)=false:=bb (by omega)
  try simp only[go_sem]
  repeat'(first|((first|refine af.intro (by first|(apply nW<;>first|assumption|omega)|(apply j1<;>first|assumption|omega)|(apply ac2<;>first|assumption|omega)|(apply te<;>first|assumption|omega)) ?_|with_reducible refine ct ?_|refine bq (fun h=>?_) (fun h=>?_))<;>simp only[go_sem,I,hw.1,ai,aj])|(with_reducible refine aq ?_)|fail)
  ·have h':0<kG (⟨aX,⟨a4,a5,a2,aU⟩,aD,aA,aE,a3,aY,aW,a6⟩:aM).ring d:=by have:=cl h;simp only;omega
   simp only[sI,z8,hW,if_true,if_pos h']
   try simp[outOA,fk]
  ·have h':¬0<kG (⟨aX,⟨a4,a5,a2,aU⟩,aD,aA,aE,a3,aY,aW,a6⟩:aM).ring d:=by have:=cG h;simp only;omega
   simp only[sI,z8,hW,if_true,if_neg h']
   try simp[outOA,fk]
def uv(s:aM):aM:=if nc s then {s with bg:=s.ring.cj,ba:=1}else s
set_option maxHeartbeats 4000000 in
theorem Vo(aX a4 a5 a2:Int)(aU:List Int)(aD aA aE:List aa)(a3 aY aW a6:Int)(hc:aD.length+aA.length+aE.length≤524288)(hr:aU.length≤8388608):PureCall Tryz.prog 173 [.agg [.int .i64 aX,.int .i64 a4,.int .i64 a5,.int .i64 a2,.sl 1 (aU.map a'),.sl 2 (aD.map aa.enc),.sl 2 (aA.map aa.enc),.sl 2 (aE.map aa.enc),.int .i64 a3,.int .i64 aY,.int .i64 aW,.int .i64 a6]] [.agg (aM.enc (uv (⟨aX,⟨a4,a5,a2,aU⟩,aD,aA,aE,a3,aY,aW,a6⟩:aM))),.one (.bool (nc (⟨aX,⟨a4,a5,a2,aU⟩,aD,aA,aE,a3,aY,aW,a6⟩:aM)))]:=by
 refine aP 27 Tryz.func173 Tryz.call173 [.cell 2 48,.tmp 3] ?_;intro _
 cases hW:nc (⟨aX,⟨a4,a5,a2,aU⟩,aD,aA,aE,a3,aY,aW,a6⟩:aM)with
 |false=>
  try simp only[go_sem]
  repeat'((first|refine af.intro (by first|(apply nW<;>first|assumption|omega)|(apply j1<;>first|assumption|omega)) ?_|refine a8 ?_)<;>simp only[go_sem,I])
  refine bq (fun h0=>?_) (fun h0=>?_)
  ·simp only[go_sem,I];simp[uv,hW]
  ·exfalso;simp[nc]at hW h0;grind
 |true=>
  have hw:=hW;simp only[nc,Bool.and_eq_true,decide_eq_true_eq,and_assoc]at hw;have ai:decide (1<aX)=false:=bb (by omega);have aj:decide (a3≠-1)=false:=bb (by omega)
  try simp only[go_sem]
  repeat'(first|((first|refine af.intro (by first|(apply nW<;>first|assumption|omega)|(apply j1<;>first|assumption|omega)) ?_|with_reducible refine ct ?_)<;>simp only[go_sem,I,hw.1,ai,aj])|(with_reducible refine aq ?_)|fail)
  all_goals simp[uv,hW]
def sH(s:aM)(c:Int):Bool:=ez s&&decide (s.state≤2)&&bM c
def z6(s:aM)(c:Int):aM:=if sH s c then⟨4,⟨s.ring.size,s.sent,s.sent,List.replicate s.ring.size.toNat 0⟩,[],[],[],s.sent,0,s.sent,c⟩else s
theorem adB{s:aM}(h:ez s=true):jk s.ring=true:=by
 simp only[ez,jl,Bool.and_eq_true,and_assoc]at h;exact h.1
set_option maxHeartbeats 4000000 in
theorem NQ(aX a4 a5 a2:Int)(aU:List Int)(aD aA aE:List aa)(a3 aY aW a6 c:Int)(hc:aD.length+aA.length+aE.length≤524288)(hr:aU.length≤8388608):PureCall Tryz.prog 174 [.agg [.int .i64 aX,.int .i64 a4,.int .i64 a5,.int .i64 a2,.sl 1 (aU.map a'),.sl 2 (aD.map aa.enc),.sl 2 (aA.map aa.enc),.sl 2 (aE.map aa.enc),.int .i64 a3,.int .i64 aY,.int .i64 aW,.int .i64 a6],.one (.int .i64 c)] [.agg (aM.enc (z6 (⟨aX,⟨a4,a5,a2,aU⟩,aD,aA,aE,a3,aY,aW,a6⟩:aM) c)),.one (.bool (sH (⟨aX,⟨a4,a5,a2,aU⟩,aD,aA,aE,a3,aY,aW,a6⟩:aM) c))]:=by
 refine aP 41 Tryz.func174 Tryz.call174 [.cell 4 48,.tmp 5] ?_;intro _
 cases hW:sH (⟨aX,⟨a4,a5,a2,aU⟩,aD,aA,aE,a3,aY,aW,a6⟩:aM) c with
 |false=>
  try simp only[go_sem]
  repeat'((first|refine af.intro (by(apply j1<;>first|assumption|omega)) ?_|refine ar.intro (by apply gZ) ?_|refine a8 ?_)<;>simp only[go_sem])
  refine bq (fun h0=>?_) (fun h0=>?_)
  ·simp only[go_sem]
   try simp only[go_sem,I]
   repeat'(first|(refine af.intro (by(apply nW<;>first|assumption|omega)) ?_<;>simp only[go_sem,I])|(with_reducible refine aq ?_)|fail)
   all_goals simp[z6,hW]
  ·exfalso;simp[sH]at hW h0;grind
 |true=>
  have hw:=hW;simp only[sH,Bool.and_eq_true,decide_eq_true_eq,and_assoc]at hw;have hg:=vd (adB hw.1);simp only at hg;have ai:decide (2<aX)=false:=bb (by omega)
  try simp only[go_sem]
  repeat'(first|((first|refine af.intro (by first|(apply j1<;>first|assumption|omega)|apply gZ) ?_|with_reducible refine ct ?_|refine a9 Uv (by kernel_rfl) (by rfl) ?_)<;>simp only[go_sem,hw.1,ai,hw.2.2])|(with_reducible refine aq ?_)|fail)
  all_goals simp[z6,hW,a']
def zv(s:aM):Bool:=ez s&&decide (s.state=4)
def Bi(s:aM):aM:=if zv s then {s with state:=5}else s
set_option maxHeartbeats 4000000 in
theorem acW(aX a4 a5 a2:Int)(aU:List Int)(aD aA aE:List aa)(a3 aY aW a6:Int)(hc:aD.length+aA.length+aE.length≤524288)(hr:aU.length≤8388608):PureCall Tryz.prog 230 [.agg [.int .i64 aX,.int .i64 a4,.int .i64 a5,.int .i64 a2,.sl 1 (aU.map a'),.sl 2 (aD.map aa.enc),.sl 2 (aA.map aa.enc),.sl 2 (aE.map aa.enc),.int .i64 a3,.int .i64 aY,.int .i64 aW,.int .i64 a6]] [.agg (aM.enc (Bi (⟨aX,⟨a4,a5,a2,aU⟩,aD,aA,aE,a3,aY,aW,a6⟩:aM))),.one (.bool (zv (⟨aX,⟨a4,a5,a2,aU⟩,aD,aA,aE,a3,aY,aW,a6⟩:aM)))]:=by
 refine aP 18 Tryz.func230 Tryz.call230 [.cell 2 48,.tmp 3] ?_;intro _
 try simp only[go_sem]
 repeat'(first|((first|refine af.intro (by first|(apply nW<;>first|assumption|omega)|(apply j1<;>first|assumption|omega)) ?_|refine a8 ?_|refine bq (fun h=>?_) (fun h=>?_))<;>simp only[go_sem,I])|(with_reducible refine aq ?_)|fail)
 all_goals(cases hc2:zv (⟨aX,⟨a4,a5,a2,aU⟩,aD,aA,aE,a3,aY,aW,a6⟩:aM)<;>first|(simp[Bi,hc2];done)|(exfalso;simp[zv]at *;grind))
def n1:bS:=⟨0,[],false⟩
def BF(s:aM):Bool:=ez s&&decide (s.state≤2)
def km(r:aa)(most a1:Int):Int:=if most<IntKind.i64.wrap (c7 r.high a1-r.low)then IntKind.i64.wrap (r.low+dg most 0)else c7 r.high a1
def mN(s:aM)(most a1:Int):Bool:=
 BF s&&(match s.pending[0]? with|some r=>decide (r.low<c7 r.high a1)&&decide (r.low<km r most a1)|none=>decide (s.ba=1))
def mM(s:aM)(most a1:Int):bS:=
 if mN s most a1 then(match s.pending[0]? with|some r=>⟨r.low,zp s.ring r.low (IntKind.i64.wrap (km r most a1-r.low)),decide (s.ba=1)&&decide (km r most a1=s.bg)⟩|none=>⟨s.bg,[],true⟩)else n1
def uL(s:aM)(m l:Int):List AD:=[.agg [.int .i64 (mM s m l).offset,.str (mM s m l).data,.bool (mM s m l).ba],.one (.bool (mN s m l))]
theorem HM{s:aM}{m l:Int}(h:mN s m l=false):uL s m l=[.agg [.int .i64 0,.str [],.bool false],.one (.bool false)]:=by
 unfold uL mM;rw[h];simp[n1]
theorem adC{s:aM}{m l:Int}(bF:BF s=true)(hp:s.pending=[])(hf:s.ba=1):uL s m l=[.agg [.int .i64 s.bg,.str [],.bool true],.one (.bool true)]:=by
 have h:mN s m l=true:=by simp[mN,bF,hp,hf]
 unfold uL mM;rw[h,hp];simp
theorem adD{s:aM}{m l:Int}{r:aa}(bF:BF s=true)(hp:s.pending[0]?=some r)(h1:r.low<c7 r.high l)(h2:r.low<km r m l) :
  uL s m l=[.agg [.int .i64 r.low,.str (zp s.ring r.low (IntKind.i64.wrap (km r m l-r.low))),.bool (decide (s.ba=1)&&decide (km r m l=s.bg))],.one (.bool true)]:=by
 have h:mN s m l=true:=by simp[mN,bF,hp,h1,h2]
 unfold uL mM;rw[h,hp];simp
set_option maxHeartbeats 4000000 in
theorem W8(aX a4 a5 a2:Int)(aU:List Int)(aD aA aE:List aa)(a3 aY aW a6 m l:Int)(hc:aD.length+aA.length+aE.length≤524288):PureCall Tryz.prog 244 [.agg [.int .i64 aX,.int .i64 a4,.int .i64 a5,.int .i64 a2,.sl 1 (aU.map a'),.sl 2 (aD.map aa.enc),.sl 2 (aA.map aa.enc),.sl 2 (aE.map aa.enc),.int .i64 a3,.int .i64 aY,.int .i64 aW,.int .i64 a6],.one (.int .i64 m),.one (.int .i64 l)] [.agg [.int .i64 (mM (⟨aX,⟨a4,a5,a2,aU⟩,aD,aA,aE,a3,aY,aW,a6⟩:aM) m l).offset,.str (mM (⟨aX,⟨a4,a5,a2,aU⟩,aD,aA,aE,a3,aY,aW,a6⟩:aM) m l).data,.bool (mM (⟨aX,⟨a4,a5,a2,aU⟩,aD,aA,aE,a3,aY,aW,a6⟩:aM) m l).ba],.one (.bool (mN (⟨aX,⟨a4,a5,a2,aU⟩,aD,aA,aE,a3,aY,aW,a6⟩:aM) m l))]:=by
 refine aP 90 Tryz.func244 Tryz.call244 [.cell 6 220,.tmp 7] ?_;intro _
 show codeE _ _ _ _ (bo (fL _ _ (uL (⟨aX,⟨a4,a5,a2,aU⟩,aD,aA,aE,a3,aY,aW,a6⟩:aM) m l)) .mk) [] (bo (fL _ _ (uL (⟨aX,⟨a4,a5,a2,aU⟩,aD,aA,aE,a3,aY,aW,a6⟩:aM) m l)) .mk)
 cases bF:BF (⟨aX,⟨a4,a5,a2,aU⟩,aD,aA,aE,a3,aY,aW,a6⟩:aM)with
 |false=>
  rw[HM (by simp[mN,bF])]
  try simp only[go_sem]
  repeat'((first|refine af.intro (by(apply j1<;>first|assumption|omega)) ?_|refine a8 ?_)<;>simp only[go_sem])
  refine bq (fun h0=>?_) (fun h0=>?_)
  ·simp only[go_sem]
  ·exfalso;simp[BF]at bF h0;grind
 |true=>
  have hw:=bF;simp only[BF,Bool.and_eq_true,decide_eq_true_eq]at hw;have ai:decide (2<aX)=false:=bb (by omega);by_cases hp:aD=[]
  ·have aj:decide ((0:Int)<(aD.length:Int))=false:=bb (by rw[hp];simp);by_cases hf:aY=1
   ·have aT:decide (aY=1)=true:=bk hf;rw[adC bF hp hf]
    try simp only[go_sem]
    repeat'((first|refine af.intro (by(apply j1<;>first|assumption|omega)) ?_|with_reducible refine ct ?_)<;>simp only[go_sem,I,hw.1,ai,aj,aT])
   ·have aT:decide (aY=1)=false:=bb hf;rw[HM (by simp[mN,hp,hf])]
    try simp only[go_sem]
    repeat'((first|refine af.intro (by(apply j1<;>first|assumption|omega)) ?_|with_reducible refine ct ?_)<;>simp only[go_sem,I,hw.1,ai,aj,aT])
  ·have eB:0<aD.length:=List.length_pos_iff.2 hp;have aj:decide ((0:Int)<(aD.length:Int))=true:=bk (by omega);have gA:=b4 aa.enc aD 0 eB;have hr:aD[0]?=some aD[0]:=dk eB;generalize aD[0]=r at gA hr;by_cases dv:r.low<c7 r.high l
   ·have aT:decide ((if l<r.high then l else r.high)≤r.low)=false:=bb (by unfold c7 at dv;omega);by_cases dD:r.low<km r m l
    ·rw[adD bF hr dv dD]
     cases bj:decide (m<IntKind.i64.wrap ((if l<r.high then l else r.high)-r.low))with
     |true=>
      have hn:km r m l=IntKind.i64.wrap (r.low+if 0>m then 0 else m):=by unfold km c7 dg;rw[if_pos (cl bj)]
      rw[hn]at dD⊢;have cr:decide (IntKind.i64.wrap (r.low+if 0>m then 0 else m)≤r.low)=false:=bb (by omega)
      try simp only[go_sem]
      repeat'(first|((first|refine af.intro (by first|(apply j1<;>first|assumption|omega)|apply T0) ?_|with_reducible refine ct ?_|refine a8 ?_)<;>simp only[go_sem,I,hw.1,ai,aj,gA,aa.enc,Int.toNat_zero,aT,bj,cr])|(with_reducible refine aq ?_)|fail)
      all_goals first|omega|(simp only[b7])
     |false=>
      have hn:km r m l=(if l<r.high then l else r.high):=by unfold km c7;rw[if_neg (cG bj)]
      rw[hn]at dD⊢
      try simp only[go_sem]
      repeat'(first|((first|refine af.intro (by first|(apply j1<;>first|assumption|omega)|apply T0) ?_|with_reducible refine ct ?_|refine a8 ?_)<;>simp only[go_sem,I,hw.1,ai,aj,gA,aa.enc,Int.toNat_zero,aT,bj])|(with_reducible refine aq ?_)|fail)
      all_goals first|omega|(simp only[b7])
    ·rw[HM (by simp[mN,bF,hr,dD])];have bj:decide (m<IntKind.i64.wrap ((if l<r.high then l else r.high)-r.low))=true:=by
      refine bk (Classical.byContradiction fun g=>dD ?_);unfold km c7;rw[if_neg g];exact dv
     have hn:km r m l=IntKind.i64.wrap (r.low+if 0>m then 0 else m):=by unfold km c7 dg;rw[if_pos (cl bj)]
     rw[hn]at dD;have cr:decide (IntKind.i64.wrap (r.low+if 0>m then 0 else m)≤r.low)=true:=bk (by omega)
     try simp only[go_sem]
     repeat'((first|refine af.intro (by(apply j1<;>first|assumption|omega)) ?_|with_reducible refine ct ?_)<;>simp only[go_sem,I,hw.1,ai,aj,gA,aa.enc,Int.toNat_zero,aT,bj,cr])
     all_goals omega
   ·have aT:decide ((if l<r.high then l else r.high)≤r.low)=true:=bk (by unfold c7 at dv;omega);rw[HM (by simp[mN,bF,hr,dv])]
    try simp only[go_sem]
    repeat'((first|refine af.intro (by(apply j1<;>first|assumption|omega)) ?_|with_reducible refine ct ?_)<;>simp only[go_sem,I,hw.1,ai,aj,gA,aa.enc,Int.toNat_zero,aT])
    all_goals omega
def eA(p:bS):aa:=⟨p.offset,IntKind.i64.wrap (p.offset+(p.data.length:Int))⟩
theorem Es(cO:Int)(cz:List UInt8)(cI:Bool):PureCall Tryz.prog 257 [.agg [.int .i64 cO,.str cz,.bool cI]] [.agg [.int .i64 (eA (⟨cO,cz,cI⟩:bS)).low,.int .i64 (eA (⟨cO,cz,cI⟩:bS)).high]]:=by
 refine aP 12 Tryz.func257 Tryz.call257 [.cell 2 175] ?_;intro _
 try simp only[go_sem]
 all_goals simp[eA]
def ve(s:aM)(p:bS):Bool:=decide (0≤p.offset)&&decide (p.offset≤s.ring.cj)&&decide ((p.data.length:Int)≤IntKind.i64.wrap (s.ring.cj-p.offset))&&(!p.ba||(decide (s.bg≠-1)&&decide (IntKind.i64.wrap (p.offset+(p.data.length:Int))=s.bg)))
theorem BG(aX a4 a5 a2:Int)(aU:List Int)(aD aA aE:List aa)(a3 aY aW a6 cO:Int)(cz:List UInt8)(cI:Bool):PureCall Tryz.prog 255 [.agg [.int .i64 aX,.int .i64 a4,.int .i64 a5,.int .i64 a2,.sl 1 (aU.map a'),.sl 2 (aD.map aa.enc),.sl 2 (aA.map aa.enc),.sl 2 (aE.map aa.enc),.int .i64 a3,.int .i64 aY,.int .i64 aW,.int .i64 a6],.agg [.int .i64 cO,.str cz,.bool cI]] [.one (.bool (ve (⟨aX,⟨a4,a5,a2,aU⟩,aD,aA,aE,a3,aY,aW,a6⟩:aM) (⟨cO,cz,cI⟩:bS)))]:=by
 refine aP 49 Tryz.func255 Tryz.call255 [.tmp 4] ?_;intro _
 try simp only[go_sem]
 repeat'(refine a8 ?_<;>simp only[go_sem])
 all_goals(refine ec ?_;simp[ve,and_assoc])
set_option maxRecDepth 100000
def BI(s:ae):Bool:=!s.eo||decide (s.send.state=3)||decide (s.send.state=5)
theorem adK(g8 g9 g_ bx g':Int)(g7:List Int)(gv gw gx:List aa)(hF hQ hR hS hT hU hX hY hZ h3:Int)(eK:List ax)(h4 h5 h6 h7 h8 h9 h_ ia ib ic:Int)(ie ig ih ij ik il im:Bool)(iq:Int)(bb:Bool):PureCall Tryz.prog 151 [.agg [.int .i64 g8,.int .i64 g9,.int .i64 g_,.int .i64 bx,.int .i64 g',.sl 1 (g7.map a'),.sl 2 (gv.map aa.enc),.sl 2 (gw.map aa.enc),.sl 2 (gx.map aa.enc),.int .i64 hF,.int .i64 hQ,.int .i64 hR,.int .i64 hS,.int .i64 hT,.int .i64 hU,.int .i64 hX,.int .i64 hY,.int .i64 hZ,.int .i64 h3,.sl 2 (eK.map ax.enc),.int .i64 h4,.int .i64 h5,.int .i64 h6,.int .i64 h7,.int .i64 h8,.int .i64 h9,.int .i64 h_,.int .i64 ia,.int .i64 ib,.int .i64 ic,.bool ie,.bool ig,.bool ih,.bool ij,.bool ik,.bool il,.bool im,.int .i64 iq,.bool bb]] [.one (.bool (BI (⟨g8,⟨g9,⟨g_,bx,g',g7⟩,gv,gw,gx,hF,hQ,hR,hS⟩,⟨hT,hU,hX,hY⟩,⟨hZ,⟨h3,eK⟩,h4,h5,h6⟩,⟨h7,h8,h9,h_,ia,ib⟩,⟨ic,ie⟩,ig,ih,ij,ik,il,im,iq,bb⟩:ae)))]:=by
 refine aP 18 Tryz.func151 Tryz.call151 [.tmp 2] ?_;intro _
 try simp only[go_sem]
 repeat'(refine a8 ?_<;>simp only[go_sem])
 all_goals(refine ec ?_;simp[BI])
theorem adL(g8 g9 g_ bx g':Int)(g7:List Int)(gv gw gx:List aa)(hF hQ hR hS hT hU hX hY hZ h3:Int)(eK:List ax)(h4 h5 h6 h7 h8 h9 h_ ia ib ic:Int)(ie ig ih ij ik il im:Bool)(iq:Int)(bb:Bool):PureCall Tryz.prog 111 [.agg [.int .i64 g8,.int .i64 g9,.int .i64 g_,.int .i64 bx,.int .i64 g',.sl 1 (g7.map a'),.sl 2 (gv.map aa.enc),.sl 2 (gw.map aa.enc),.sl 2 (gx.map aa.enc),.int .i64 hF,.int .i64 hQ,.int .i64 hR,.int .i64 hS,.int .i64 hT,.int .i64 hU,.int .i64 hX,.int .i64 hY,.int .i64 hZ,.int .i64 h3,.sl 2 (eK.map ax.enc),.int .i64 h4,.int .i64 h5,.int .i64 h6,.int .i64 h7,.int .i64 h8,.int .i64 h9,.int .i64 h_,.int .i64 ia,.int .i64 ib,.int .i64 ic,.bool ie,.bool ig,.bool ih,.bool ij,.bool ik,.bool il,.bool im,.int .i64 iq,.bool bb]] [.one (.bool (BI (⟨g8,⟨g9,⟨g_,bx,g',g7⟩,gv,gw,gx,hF,hQ,hR,hS⟩,⟨hT,hU,hX,hY⟩,⟨hZ,⟨h3,eK⟩,h4,h5,h6⟩,⟨h7,h8,h9,h_,ia,ib⟩,⟨ic,ie⟩,ig,ih,ij,ik,il,im,iq,bb⟩:ae)))]:=by
 refine aP 18 Tryz.func111 Tryz.call111 [.tmp 2] ?_;intro _
 try simp only[go_sem]
 repeat'(refine a8 ?_<;>simp only[go_sem])
 all_goals(refine ec ?_;simp[BI])
def BJ(s:ae):Bool:=!s.eJ||D1 s.recv
theorem adM(g8 g9 g_ bx g':Int)(g7:List Int)(gv gw gx:List aa)(hF hQ hR hS hT hU hX hY hZ h3:Int)(eK:List ax)(h4 h5 h6 h7 h8 h9 h_ ia ib ic:Int)(ie ig ih ij ik il im:Bool)(iq:Int)(bb:Bool)(hb:∀c∈eK,c.data.length≤1048576)(hx:eK.length≤1048576):PureCall Tryz.prog 152 [.agg [.int .i64 g8,.int .i64 g9,.int .i64 g_,.int .i64 bx,.int .i64 g',.sl 1 (g7.map a'),.sl 2 (gv.map aa.enc),.sl 2 (gw.map aa.enc),.sl 2 (gx.map aa.enc),.int .i64 hF,.int .i64 hQ,.int .i64 hR,.int .i64 hS,.int .i64 hT,.int .i64 hU,.int .i64 hX,.int .i64 hY,.int .i64 hZ,.int .i64 h3,.sl 2 (eK.map ax.enc),.int .i64 h4,.int .i64 h5,.int .i64 h6,.int .i64 h7,.int .i64 h8,.int .i64 h9,.int .i64 h_,.int .i64 ia,.int .i64 ib,.int .i64 ic,.bool ie,.bool ig,.bool ih,.bool ij,.bool ik,.bool il,.bool im,.int .i64 iq,.bool bb]] [.one (.bool (BJ (⟨g8,⟨g9,⟨g_,bx,g',g7⟩,gv,gw,gx,hF,hQ,hR,hS⟩,⟨hT,hU,hX,hY⟩,⟨hZ,⟨h3,eK⟩,h4,h5,h6⟩,⟨h7,h8,h9,h_,ia,ib⟩,⟨ic,ie⟩,ig,ih,ij,ik,il,im,iq,bb⟩:ae)))]:=by
 refine aP 11 Tryz.func152 Tryz.call152 [.tmp 2] ?_;intro _
 try simp only[go_sem]
 repeat'((first|refine ar.intro (by(apply acr<;>first|assumption|omega)) ?_|refine a8 ?_)<;>simp only[go_sem])
 all_goals(refine ec ?_;simp[BJ])
theorem adN(g8 g9 g_ bx g':Int)(g7:List Int)(gv gw gx:List aa)(hF hQ hR hS hT hU hX hY hZ h3:Int)(eK:List ax)(h4 h5 h6 h7 h8 h9 h_ ia ib ic:Int)(ie ig ih ij ik il im:Bool)(iq:Int)(bb:Bool)(hb:∀c∈eK,c.data.length≤1048576)(hx:eK.length≤1048576):PureCall Tryz.prog 112 [.agg [.int .i64 g8,.int .i64 g9,.int .i64 g_,.int .i64 bx,.int .i64 g',.sl 1 (g7.map a'),.sl 2 (gv.map aa.enc),.sl 2 (gw.map aa.enc),.sl 2 (gx.map aa.enc),.int .i64 hF,.int .i64 hQ,.int .i64 hR,.int .i64 hS,.int .i64 hT,.int .i64 hU,.int .i64 hX,.int .i64 hY,.int .i64 hZ,.int .i64 h3,.sl 2 (eK.map ax.enc),.int .i64 h4,.int .i64 h5,.int .i64 h6,.int .i64 h7,.int .i64 h8,.int .i64 h9,.int .i64 h_,.int .i64 ia,.int .i64 ib,.int .i64 ic,.bool ie,.bool ig,.bool ih,.bool ij,.bool ik,.bool il,.bool im,.int .i64 iq,.bool bb]] [.one (.bool (BJ (⟨g8,⟨g9,⟨g_,bx,g',g7⟩,gv,gw,gx,hF,hQ,hR,hS⟩,⟨hT,hU,hX,hY⟩,⟨hZ,⟨h3,eK⟩,h4,h5,h6⟩,⟨h7,h8,h9,h_,ia,ib⟩,⟨ic,ie⟩,ig,ih,ij,ik,il,im,iq,bb⟩:ae)))]:=by
 refine aP 11 Tryz.func112 Tryz.call112 [.tmp 2] ?_;intro _
 try simp only[go_sem]
 repeat'((first|refine ar.intro (by(apply acx<;>first|assumption|omega)) ?_|refine a8 ?_)<;>simp only[go_sem])
 all_goals(refine ec ?_;simp[BJ])
def zx(s:ae):Bool:=bM s.id&&lz s.c2&&fj s.recv&&fl s.window&&mn s.priority&&bM s.lC&&(s.eo||s.eJ)
def zy(s:ae):Bool:=!decide (s.c2.used<s.send.sent)&&!decide (s.window.seen<s.recv.d2)&&!(s.ho&&decide (s.send.state≠4))&&!(s.hH&&!s.ky)&&!(decide (s.lC≠0)&&!s.ky)
def Bu(s:ae):Bool:=(s.eo||decide (s.send.state=0)&&decide (s.send.ring.cj=0)&&decide (s.send.bg=-1))&&(s.eJ||decide (s.recv.state=0)&&decide (s.recv.d2=0)&&!s.ky)
def k'(b:Bool)(s:ae):Bool:=b&&zx s&&zy s&&Bu s
def fm(s:ae):Bool:=k' (ez s.send) s
def gi(s:ae):Bool:=k' (wG s.send) s
theorem N8{s:ae}(hn:Ad s.send):fm s=gi s:=by unfold fm gi;rw[adv hn]
set_option maxHeartbeats 4000000 in
theorem UE(g8 g9 g_ bx g':Int)(g7:List Int)(gv gw gx:List aa)(hF hQ hR hS hT hU hX hY hZ h3:Int)(eK:List ax)(h4 h5 h6 h7 h8 h9 h_ ia ib ic:Int)(ie ig ih ij ik il im:Bool)(iq:Int)(bb:Bool)(hc:gv.length+gw.length+gx.length≤524288)(hb:∀c∈eK,c.data.length≤1048576)(hx:eK.length≤1048576):PureCall Tryz.prog 80 [.agg [.int .i64 g8,.int .i64 g9,.int .i64 g_,.int .i64 bx,.int .i64 g',.sl 1 (g7.map a'),.sl 2 (gv.map aa.enc),.sl 2 (gw.map aa.enc),.sl 2 (gx.map aa.enc),.int .i64 hF,.int .i64 hQ,.int .i64 hR,.int .i64 hS,.int .i64 hT,.int .i64 hU,.int .i64 hX,.int .i64 hY,.int .i64 hZ,.int .i64 h3,.sl 2 (eK.map ax.enc),.int .i64 h4,.int .i64 h5,.int .i64 h6,.int .i64 h7,.int .i64 h8,.int .i64 h9,.int .i64 h_,.int .i64 ia,.int .i64 ib,.int .i64 ic,.bool ie,.bool ig,.bool ih,.bool ij,.bool ik,.bool il,.bool im,.int .i64 iq,.bool bb]] [.one (.bool (fm (⟨g8,⟨g9,⟨g_,bx,g',g7⟩,gv,gw,gx,hF,hQ,hR,hS⟩,⟨hT,hU,hX,hY⟩,⟨hZ,⟨h3,eK⟩,h4,h5,h6⟩,⟨h7,h8,h9,h_,ia,ib⟩,⟨ic,ie⟩,ig,ih,ij,ik,il,im,iq,bb⟩:ae)))]:=by
 refine aP 140 Tryz.func80 Tryz.call80 [.tmp 2] ?_;intro _
 try simp only[go_sem]
 repeat'((first|refine af.intro (by apply gZ) ?_|refine ar.intro (by first|apply gZ|(apply j1<;>first|assumption|omega)|apply xc|(apply vm<;>first|assumption|omega)|apply B7|apply DR) ?_|refine a8 ?_|refine bq (fun h=>?_) (fun h=>?_))<;>simp only[go_sem])
 all_goals(refine ec ?_;simp only[fm,k',zx,zy,Bu,b7,cP]at *;grind)
set_option maxHeartbeats 4000000 in
theorem UF(g8 g9 g_ bx g':Int)(g7:List Int)(gv gw gx:List aa)(hF hQ hR hS hT hU hX hY hZ h3:Int)(eK:List ax)(h4 h5 h6 h7 h8 h9 h_ ia ib ic:Int)(ie ig ih ij ik il im:Bool)(iq:Int)(bb:Bool)(hc:gv.length+gw.length+gx.length≤524288)(hb:∀c∈eK,c.data.length≤1048576)(hx:eK.length≤1048576):PureCall Tryz.prog 88 [.agg [.int .i64 g8,.int .i64 g9,.int .i64 g_,.int .i64 bx,.int .i64 g',.sl 1 (g7.map a'),.sl 2 (gv.map aa.enc),.sl 2 (gw.map aa.enc),.sl 2 (gx.map aa.enc),.int .i64 hF,.int .i64 hQ,.int .i64 hR,.int .i64 hS,.int .i64 hT,.int .i64 hU,.int .i64 hX,.int .i64 hY,.int .i64 hZ,.int .i64 h3,.sl 2 (eK.map ax.enc),.int .i64 h4,.int .i64 h5,.int .i64 h6,.int .i64 h7,.int .i64 h8,.int .i64 h9,.int .i64 h_,.int .i64 ia,.int .i64 ib,.int .i64 ic,.bool ie,.bool ig,.bool ih,.bool ij,.bool ik,.bool il,.bool im,.int .i64 iq,.bool bb]] [.one (.bool (gi (⟨g8,⟨g9,⟨g_,bx,g',g7⟩,gv,gw,gx,hF,hQ,hR,hS⟩,⟨hT,hU,hX,hY⟩,⟨hZ,⟨h3,eK⟩,h4,h5,h6⟩,⟨h7,h8,h9,h_,ia,ib⟩,⟨ic,ie⟩,ig,ih,ij,ik,il,im,iq,bb⟩:ae)))]:=by
 refine aP 141 Tryz.func88 Tryz.call88 [.tmp 2] ?_;intro _
 try simp only[go_sem]
 repeat'((first|refine af.intro (by apply tw) ?_|refine ar.intro (by first|apply tw|(apply adu<;>first|assumption|omega)|apply Su|(apply D2<;>first|assumption|omega)|apply LO|apply abp) ?_|refine a8 ?_|refine bq (fun h=>?_) (fun h=>?_))<;>simp only[go_sem])
 all_goals(refine ec ?_;simp only[gi,k',zx,zy,Bu,b7,cP]at *;grind)
def vH(s:ae):Bool:=fm s&&BI s&&BJ s
def Hy(s:ae):Bool:=gi s&&BI s&&BJ s
theorem NS(g8 g9 g_ bx g':Int)(g7:List Int)(gv gw gx:List aa)(hF hQ hR hS hT hU hX hY hZ h3:Int)(eK:List ax)(h4 h5 h6 h7 h8 h9 h_ ia ib ic:Int)(ie ig ih ij ik il im:Bool)(iq:Int)(bb:Bool)(hc:gv.length+gw.length+gx.length≤524288)(hb:∀c∈eK,c.data.length≤1048576)(hx:eK.length≤1048576):PureCall Tryz.prog 115 [.agg [.int .i64 g8,.int .i64 g9,.int .i64 g_,.int .i64 bx,.int .i64 g',.sl 1 (g7.map a'),.sl 2 (gv.map aa.enc),.sl 2 (gw.map aa.enc),.sl 2 (gx.map aa.enc),.int .i64 hF,.int .i64 hQ,.int .i64 hR,.int .i64 hS,.int .i64 hT,.int .i64 hU,.int .i64 hX,.int .i64 hY,.int .i64 hZ,.int .i64 h3,.sl 2 (eK.map ax.enc),.int .i64 h4,.int .i64 h5,.int .i64 h6,.int .i64 h7,.int .i64 h8,.int .i64 h9,.int .i64 h_,.int .i64 ia,.int .i64 ib,.int .i64 ic,.bool ie,.bool ig,.bool ih,.bool ij,.bool ik,.bool il,.bool im,.int .i64 iq,.bool bb]] [.one (.bool (vH (⟨g8,⟨g9,⟨g_,bx,g',g7⟩,gv,gw,gx,hF,hQ,hR,hS⟩,⟨hT,hU,hX,hY⟩,⟨hZ,⟨h3,eK⟩,h4,h5,h6⟩,⟨h7,h8,h9,h_,ia,ib⟩,⟨ic,ie⟩,ig,ih,ij,ik,il,im,iq,bb⟩:ae)))]:=by
 refine aP 13 Tryz.func115 Tryz.call115 [.tmp 2] ?_;intro _
 try simp only[go_sem]
 repeat'((first|refine af.intro (by(apply UE<;>first|assumption|omega)) ?_|refine ar.intro (by first|apply adK|(apply adM<;>first|assumption|omega)) ?_|refine a8 ?_)<;>simp only[go_sem])
 all_goals(refine ec ?_;simp[vH])
theorem acT(g8 g9 g_ bx g':Int)(g7:List Int)(gv gw gx:List aa)(hF hQ hR hS hT hU hX hY hZ h3:Int)(eK:List ax)(h4 h5 h6 h7 h8 h9 h_ ia ib ic:Int)(ie ig ih ij ik il im:Bool)(iq:Int)(bb:Bool)(hc:gv.length+gw.length+gx.length≤524288)(hb:∀c∈eK,c.data.length≤1048576)(hx:eK.length≤1048576):PureCall Tryz.prog 70 [.agg [.int .i64 g8,.int .i64 g9,.int .i64 g_,.int .i64 bx,.int .i64 g',.sl 1 (g7.map a'),.sl 2 (gv.map aa.enc),.sl 2 (gw.map aa.enc),.sl 2 (gx.map aa.enc),.int .i64 hF,.int .i64 hQ,.int .i64 hR,.int .i64 hS,.int .i64 hT,.int .i64 hU,.int .i64 hX,.int .i64 hY,.int .i64 hZ,.int .i64 h3,.sl 2 (eK.map ax.enc),.int .i64 h4,.int .i64 h5,.int .i64 h6,.int .i64 h7,.int .i64 h8,.int .i64 h9,.int .i64 h_,.int .i64 ia,.int .i64 ib,.int .i64 ic,.bool ie,.bool ig,.bool ih,.bool ij,.bool ik,.bool il,.bool im,.int .i64 iq,.bool bb]] [.one (.bool (Hy (⟨g8,⟨g9,⟨g_,bx,g',g7⟩,gv,gw,gx,hF,hQ,hR,hS⟩,⟨hT,hU,hX,hY⟩,⟨hZ,⟨h3,eK⟩,h4,h5,h6⟩,⟨h7,h8,h9,h_,ia,ib⟩,⟨ic,ie⟩,ig,ih,ij,ik,il,im,iq,bb⟩:ae)))]:=by
 refine aP 13 Tryz.func70 Tryz.call70 [.tmp 2] ?_;intro _
 try simp only[go_sem]
 repeat'((first|refine af.intro (by(apply UF<;>first|assumption|omega)) ?_|refine ar.intro (by first|apply adL|(apply adN<;>first|assumption|omega)) ?_|refine a8 ?_)<;>simp only[go_sem])
 all_goals(refine ec ?_;simp[Hy])
def jc:ae:=⟨0,⟨0,⟨0,0,0,[]⟩,[],[],[],0,0,0,0⟩,⟨0,0,0,0⟩,⟨0,⟨0,[]⟩,0,0,0⟩,⟨0,0,0,0,0,0⟩,⟨0,false⟩,false,false,false,false,false,false,0,false⟩
def mX(i:Int)(o p:du):Bool:=bM i&&gO o&&gO p
def gq(v:Bool)(i:Int)(o p:du):ae:=
 if mX i o p then⟨i,sJ o.ring,x5 p.window,vK,wF o.window o.lu,vi,eo v i,eJ v i,false,false,false,false,0,false⟩else jc
theorem adO(i:Int)(o p:du):(bif bif !bM i then true else !gO o then true else !gO p)=!mX i o p:=by
 unfold mX
 cases bM i<;>cases gO o<;>cases gO p<;>rfl
set_option maxHeartbeats 4000000 in
theorem EL(v:Bool)(i yn bk yo zN zO zP zQ zR zS zL zT zU zV zW Eh Ei:Int):PureCall Tryz.prog 171 [.one (.bool v),.one (.int .i64 i),.agg [.int .i64 yn,.int .i64 bk,.int .i64 yo,.int .i64 zN,.int .i64 zO,.int .i64 zP,.int .i64 zQ,.int .i64 zR],.agg [.int .i64 zS,.int .i64 zL,.int .i64 zT,.int .i64 zU,.int .i64 zV,.int .i64 zW,.int .i64 Eh,.int .i64 Ei]] [.agg (ae.enc (gq v i (⟨yn,bk,yo,zN,zO,zP,zQ,zR⟩:du) (⟨zS,zL,zT,zU,zV,zW,Eh,Ei⟩:du))),.one (.bool (mX i (⟨yn,bk,yo,zN,zO,zP,zQ,zR⟩:du) (⟨zS,zL,zT,zU,zV,zW,Eh,Ei⟩:du)))]:=by
 refine aP 68 Tryz.func171 Tryz.call171 [.cell 8 57,.tmp 9] ?_;intro _;have ah:=adO i (⟨yn,bk,yo,zN,zO,zP,zQ,zR⟩:du) (⟨zS,zL,zT,zU,zV,zW,Eh,Ei⟩:du);have aQ:gq v i (⟨yn,bk,yo,zN,zO,zP,zQ,zR⟩:du) (⟨zS,zL,zT,zU,zV,zW,Eh,Ei⟩:du)=if mX i (⟨yn,bk,yo,zN,zO,zP,zQ,zR⟩:du) (⟨zS,zL,zT,zU,zV,zW,Eh,Ei⟩:du)then⟨i,sJ yn,x5 zL,vK,wF bk yo,vi,eo v i,eJ v i,false,false,false,false,0,false⟩else jc:=rfl
 try simp only[go_sem]
 repeat'((first|refine af.intro (by apply gZ) ?_|refine ar.intro (by apply B5) ?_|refine a8 ?_)<;>simp only[go_sem])
 rw[ah]
 cases bF:mX i (⟨yn,bk,yo,zN,zO,zP,zQ,zR⟩:du) (⟨zS,zL,zT,zU,zV,zW,Eh,Ei⟩:du)with
 |false=>
  rw[bF]at aQ;simp only[go_sem,Bool.not_false];rw[aQ];simp[jc]
 |true=>
  rw[bF]at aQ;simp only[go_sem,Bool.not_true]
  try simp only[go_sem]
  repeat'(first|(refine af.intro (by first|apply SN|apply acq|apply Lj|apply GC|apply adA|apply SJ|apply SK) ?_<;>simp only[go_sem])|(with_reducible refine aq ?_)|fail)
  all_goals(rw[aQ];simp[fk])
theorem zX{α:Type}(p:α→Bool)(xs:List α)(i:Nat)(h:i<xs.length)(h1:(xs.take i).any p=false)(h2:p xs[i]=false):(xs.take (i+1)).any p=false:=by
 rw[List.take_add_one,dk h,List.any_append,h1];simp[h2]
def hE{α:Type}(p:α→Bool)(xs:List α):Int:=match xs.findIdx? p with|some i=>(i:Int)|none=>-1
theorem Xi{α:Type}(xs:List α)(i:Nat)(h:i<xs.length):xs=xs.take i++xs[i]::xs.drop (i+1):=by rw[List.getElem_cons_drop,List.take_append_drop]
theorem Ex{α:Type}(p:α→Bool)(xs:List α)(i:Nat)(h:i<xs.length)(h1:(xs.take i).any p=false)(h2:p xs[i]=true):xs.find? p=some xs[i]:=by
 conv=>lhs;rw[Xi xs i h]
 have:(xs.take i).find? p=none:=by rw[List.find?_eq_none];intro x hx;have:=List.any_eq_false.1 h1 x hx;simpa using this
 rw[List.find?_append,this,List.find?_cons_of_pos h2];rfl
theorem H2{α:Type}(p:α→Bool)(xs:List α)(h:xs.any p=false):xs.find? p=none:=by
 rw[List.find?_eq_none];intro x hx;have:=List.any_eq_false.1 h x hx;simpa using this
theorem JI{α:Type}(p:α→Bool)(xs:List α)(i:Nat)(h:i<xs.length)(h1:(xs.take i).any p=false)(h2:p xs[i]=true):hE p xs=(i:Int):=by
 have:xs.findIdx? p=some i:=by
  rw[List.findIdx?_eq_some_iff_getElem];refine⟨h,h2,fun j av jE=>?_⟩;have:=List.any_eq_false.1 h1 xs[j] (List.mem_take_iff_getElem.2 ⟨j,by omega,rfl⟩);exact this jE
 rw[hE,this]
theorem Pm{α:Type}(p:α→Bool)(xs:List α)(h:xs.any p=false):hE p xs=-1:=by
 have:xs.findIdx? p=none:=by rw[List.findIdx?_eq_none_iff];intro x hx;have:=List.any_eq_false.1 h x hx;simpa using this
 rw[hE,this]
theorem Ac{α:Type}(p:α→Bool)(xs:List α):(hE p xs=-1∧xs.find? p=none)∨∃(i:Nat) (h:i<xs.length),hE p xs=(i:Int)∧xs.find? p=some xs[i]∧p xs[i]=true:=by
 unfold hE
 cases hf:xs.findIdx? p with
 |none=>left;refine⟨rfl,?_⟩;rw[List.findIdx?_eq_none_iff]at hf;rw[List.find?_eq_none];simpa using hf
 |some i=>
  right;rw[List.findIdx?_eq_some_iff_getElem]at hf;obtain⟨h,h1,h2⟩:=hf;refine⟨i,h,rfl,Ex p xs i h ?_ h1,h1⟩;rw[List.any_eq_false];intro x hx;obtain⟨j,av,rfl⟩:=List.mem_take_iff_getElem.1 hx;exact h2 j (by omega)
def iV(p:Nat→Bool)(n:Nat):Bool:=(List.range n).all p
theorem BS(p:Nat→Bool)(n:Nat):iV p (n+1)=(iV p n&&p n):=by simp[iV,List.range_succ]
theorem EB(p:Nat→Bool){i n:Nat}(h:i<n)(hb:p i=false):iV p n=false:=by
 simp only[iV,List.all_eq_false,List.mem_range];exact⟨i,h,by simp[hb]⟩
theorem Xj{p q:Nat→Bool}{n:Nat}(h:∀i,i<n→p i=q i):iV p n=iV q n:=by
 rw[Bool.eq_iff_iff];simp only[iV,List.all_eq_true,List.mem_range];exact⟨fun g i hi=>(h i hi)▸g i hi,fun g i hi=>(h i hi).symm▸g i hi⟩
def xb{α:Type}(key:α→Int)(ok:α→Bool)(l:List α)(i:Nat):Bool:=
 match l[i]? with
 |none=>false
 |some c=>ok c&&(match i with|0=>true|j+1=>(match l[j]? with|none=>false|some d=>decide (key d<key c)))
def tC{α:Type}(key:α→Int)(ok:α→Bool)(l:List α):Bool:=iV (xb key ok l) l.length
theorem um{α:Type}(key:α→Int)(ok:α→Bool)(l:List α)(h:0<l.length):xb key ok l 0=ok l[0]:=by
 simp[xb,dk h]
theorem uo{α:Type}(key:α→Int)(ok:α→Bool)(l:List α)(j:Nat)(h:j+1<l.length):xb key ok l (j+1)=(ok l[j+1]&&decide (key l[j]<key l[j+1])):=by
 simp[xb,dk h,dk (show j<l.length by omega)]
theorem VD{α:Type}{key:α→Int}{ok tE:α→Bool}{l:List α}(h:∀c∈l,ok c=tE c):tC key ok l=tC key tE l:=by
 refine Xj fun i hi=>?_
 cases i with
 |zero=>rw[um _ _ _ hi,um _ _ _ hi,h _ (List.getElem_mem hi)]
 |succ j=>rw[uo _ _ _ _ hi,uo _ _ _ _ hi,h _ (List.getElem_mem hi)]
set_option maxRecDepth 100000
def uN(k:Int):List UInt8:=
 if k=4 then [114,101,115,101,116]
 else if k=5 then [115,116,111,112]
 else if k=8 then [115,116,114,101,97,109]
 else if k=16 then [109,97,120,100,97,116,97]
 else if k=17 then [109,97,120,115,116,114,101,97,109,100,97,116,97]
 else if k=18 then [109,97,120,115,116,114,101,97,109,115]
 else if k=20 then [100,97,116,97,98,108,111,99,107,101,100]
 else if k=21 then [115,116,114,101,97,109,100,97,116,97,98,108,111,99,107,101,100]
 else if k=22 then [115,116,114,101,97,109,115,98,108,111,99,107,101,100]
 else []
def kindOk(k:Int):Bool:=decide (k=4)||decide (k=5)||decide (k=8)||decide (k=16)||decide (k=17)||decide (k=18)||decide (k=20)||decide (k=21)||decide (k=22)
theorem Pn(k:Int):(uN k == [])=!kindOk k:=by
 unfold uN kindOk
 repeat' split
 all_goals simp_all
theorem Xk(k:Int):PureCall Tryz.prog 123 [.one (.int .i64 k)] [.one (.str (uN k))]:=by
 refine aP 22 Tryz.func123 Tryz.call123 [.tmp 2] ?_;intro _
 try simp only[go_sem]
 repeat'(refine bq (fun h=>?_) (fun h=>?_)<;>simp only[go_sem])
 all_goals(simp only[decide_eq_true_eq,decide_eq_false_iff_not]at *;first|(exfalso;omega)|simp[uN, *])
theorem Xl(k:Int):PureCall Tryz.prog 128 [.one (.int .i64 k)] [.one (.str (uN k))]:=by
 refine aP 22 Tryz.func128 Tryz.call128 [.tmp 2] ?_;intro _
 try simp only[go_sem]
 repeat'(refine bq (fun h=>?_) (fun h=>?_)<;>simp only[go_sem])
 all_goals(simp only[decide_eq_true_eq,decide_eq_false_iff_not]at *;first|(exfalso;omega)|simp[uN, *])
def ke(k:Int):Bool:=decide (k=4)||decide (k=5)||decide (k=8)||decide (k=17)||decide (k=21)
theorem Cv(dQ dT ek:Int)(dU:List UInt8)(eL:Bool)(eV ey e1:Int)(e7:Bool):PureCall Tryz.prog 161 [.agg [.int .i64 dQ,.int .i64 dT,.int .i64 ek,.str dU,.bool eL,.int .i64 eV,.int .i64 ey,.int .i64 e1,.bool e7]] [.one (.bool (ke dQ))]:=by
 refine aP 11 Tryz.func161 Tryz.call161 [.tmp 2] ?_;intro _
 try simp only[go_sem]
 repeat'(refine bq (fun h=>?_) (fun h=>?_)<;>simp only[go_sem])
 all_goals(simp only[decide_eq_true_eq,decide_eq_false_iff_not]at *;first|(exfalso;omega)|simp[ke, *])
theorem Po(dQ dT ek:Int)(dU:List UInt8)(eL:Bool)(eV ey e1:Int)(e7:Bool):PureCall Tryz.prog 168 [.agg [.int .i64 dQ,.int .i64 dT,.int .i64 ek,.str dU,.bool eL,.int .i64 eV,.int .i64 ey,.int .i64 e1,.bool e7]] [.one (.bool (ke dQ))]:=by
 refine aP 11 Tryz.func168 Tryz.call168 [.tmp 2] ?_;intro _
 try simp only[go_sem]
 repeat'(refine bq (fun h=>?_) (fun h=>?_)<;>simp only[go_sem])
 all_goals(simp only[decide_eq_true_eq,decide_eq_false_iff_not]at *;first|(exfalso;omega)|simp[ke, *])
def gz(f:al):al:=
 ⟨f.bn,if ke f.bn then f.stream else 0,if f.bn=8 then f.offset else 0,if f.bn=8 then f.data else [],if f.bn=8 then f.ba else false,if f.bn=4∨f.bn=5 then f.code else 0,
  if f.bn=4∨f.bn=5∨f.bn=8 then 0 else f.a1,if f.bn=4 then f.bg else 0,if f.bn=18∨f.bn=22 then f.fc else false⟩
set_option maxHeartbeats 2000000 in
theorem Ot(dQ dT ek:Int)(dU:List UInt8)(eL:Bool)(eV ey e1:Int)(e7:Bool):PureCall Tryz.prog 124 [.agg [.int .i64 dQ,.int .i64 dT,.int .i64 ek,.str dU,.bool eL,.int .i64 eV,.int .i64 ey,.int .i64 e1,.bool e7]] [.agg (al.enc (gz (⟨dQ,dT,ek,dU,eL,eV,ey,e1,e7⟩:al)))]:=by
 refine aP 51 Tryz.func124 Tryz.call124 [.cell 2 120] ?_;intro _
 try simp only[go_sem]
 repeat'((first|refine af.intro (by apply Cv) ?_|refine bq (fun h=>?_) (fun h=>?_))<;>simp only[go_sem])
 all_goals(simp only[decide_eq_true_eq,decide_eq_false_iff_not]at *;first|(exfalso;omega)|(exfalso;simp_all [ke];done)|(simp[gz, *];done)|(simp[gz,ke]at *;simp[ *];done)|(simp_all [gz,ke];done))
def yV(f:al):Bool:=kindOk f.bn&&decide (gz f=f)&&bM f.stream&&bM f.offset&&bM f.code&&bM f.a1&&bM f.bg&&!decide (400<(f.data.length:Int))
def eQ(f:al):Bool:=yV f&&(if f.bn=8 then decide (f.offset≤IntKind.i64.wrap (4611686018427387903-(f.data.length:Int)))else if f.bn=18∨f.bn=22 then decide (f.a1≤1152921504606846976)else true)
set_option maxRecDepth 100000
def Pp:List (List bt):=cE 46 [8862938119652501095928,8862938119652501095926,8862938119652501095920,8862938119652501095902,8862938119652501095848,8862938119652501093499,8862938119652501093013,8862938119652501094714,8862938119652501089368,8862938119652501076246,8862938119652501036880,8862938119652500918782,8862938119652500564488,8862938119652499501606,8862938119652496312960,8862938119652486747022,8862938119652458049208,8862938119652371955766,8862938119652113675440,8862938119651338834462,8862938119649014311528,8862938119642040742726,8862938119621120036320,8862938119558357917102,8862938119370071559448,8862938118805212486486,8862938117110635267600,8862938112026903610942,8862938096775708640968,8862938051022123731046,8862937913761369001280,8862937501979104811982,8862936266632312244088,8862932560591934540406,8862921442470801429360,8862888088107402096222,8862788025017204096808,8862487835746610098566,8861587267934828103840,8858885564499482119662,8850780454193444167128,8826465123275330309526,8753519130520988736720,8534681152257964018302,7878167217468889863048,5908625413101667397286]
attribute [go_sem] Pp
theorem Pq(a b:al):(decide (a.bn=b.bn)&&(decide (a.stream=b.stream)&&(decide (a.offset=b.offset)&&(decide (a.data=b.data)&&(decide (a.ba=b.ba)&&(decide (a.code=b.code)&&(decide (a.a1=b.a1)&&(decide (a.bg=b.bg)&&decide (a.fc=b.fc)))))))))=decide (a=b):=by
 cases a;cases b
 rw[Bool.eq_iff_iff];simp only[Bool.and_eq_true,decide_eq_true_eq,al.mk.injEq]
theorem Xm(f:al):(bif bif bif bif bif bif bif !kindOk f.bn then true else !decide (gz f=f)then true else !bM f.stream then true else !bM f.offset then true else !bM f.code then true else !bM f.a1 then true else !bM f.bg then true else decide (400<(f.data.length:Int)))=!yV f:=by
 unfold yV
 cases kindOk f.bn<;>cases decide (gz f=f)<;>cases bM f.stream<;>cases bM f.offset<;>cases bM f.code<;>cases bM f.a1<;>cases bM f.bg<;>cases decide (400<(f.data.length:Int))<;>rfl
set_option maxHeartbeats 4000000 in
theorem yI(dQ dT ek:Int)(dU:List UInt8)(eL:Bool)(eV ey e1:Int)(e7:Bool):PureCall Tryz.prog 82 [.agg [.int .i64 dQ,.int .i64 dT,.int .i64 ek,.str dU,.bool eL,.int .i64 eV,.int .i64 ey,.int .i64 e1,.bool e7]] [.one (.bool (eQ (⟨dQ,dT,ek,dU,eL,eV,ey,e1,e7⟩:al)))]:=by
 refine aP 66 Tryz.func82 Tryz.call82 [.tmp 2] ?_;intro _;have hk:decide (uN dQ=[])=!kindOk dQ:=by have:=Pn dQ;rw[←this];cases uN dQ<;>rfl
 have hf:=Pq (gz (⟨dQ,dT,ek,dU,eL,eV,ey,e1,e7⟩:al)) (⟨dQ,dT,ek,dU,eL,eV,ey,e1,e7⟩:al);simp only at hf;have ah:=Xm (⟨dQ,dT,ek,dU,eL,eV,ey,e1,e7⟩:al)
 try simp only[go_sem]
 repeat'((first|refine ar.intro (by first|apply Xk|apply Ot|apply gZ) ?_|refine en ?_|refine a9 Pp (by kernel_rfl) (by rfl) ?_)<;>simp only[go_sem,hk,hf])
 rw[ah]
 cases cU:yV (⟨dQ,dT,ek,dU,eL,eV,ey,e1,e7⟩:al)with
 |false=>
  simp only[go_sem,Bool.not_false];simp[eQ,cU]
 |true=>
  simp only[go_sem,Bool.not_true]
  try simp only[go_sem]
  repeat'(refine bq (fun h=>?_) (fun h=>?_)<;>simp only[go_sem])
  all_goals(rw[show eQ (⟨dQ,dT,ek,dU,eL,eV,ey,e1,e7⟩:al)=(if dQ=8 then decide (ek≤IntKind.i64.wrap (4611686018427387903-(dU.length:Int)))else if dQ=18∨dQ=22 then decide (ey≤1152921504606846976)else true)from by unfold eQ;rw[cU];rfl];clear cU ah hf hk;simp only[decide_eq_true_eq,decide_eq_false_iff_not]at *;first|(exfalso;omega)|simp[*])
def ff(id:Int)(s:ae):Bool:=decide (s.id=id)
def bN(l:List ae)(id:Int):ae×Bool:=match l.find? (ff id)with|some s=>(s,true)|none=>(jc,false)
def iY(s:ae)(q:List ae×Bool)(x:ae):List ae×Bool:=
 if !q.2&&decide (s.id<x.id)then(q.1++[s,x],true)else(q.1++[x],q.2)
def jd(s:ae)(l:List ae):List ae×Bool:=l.foldl (iY s) ([],false)
def dq(l:List ae)(s:ae):List ae:=
 match l.findIdx? (ff s.id)with
 |some i=>l.set i s
 |none=>if(jd s l).2 then(jd s l).1 else(jd s l).1++[s]
def gu(ok:ae→Bool)(l:List ae):Bool:=tC (fun s=>s.id) ok l&&decide ((l.length:Int)≤24)
def l1(f:ae→Int)(n:Int)(s:ae):Int:=if 4611686018427387904<IntKind.i64.wrap (n+f s)then 4611686018427387904 else IntKind.i64.wrap (n+f s)
def kt(ok:ae→Bool)(f:ae→Int)(l:List ae):Int:=if gu ok l then l.foldl (l1 f) 0 else 0
def kU(s:ae):Int:=s.send.sent
def kV(s:ae):Int:=s.recv.d2
def uk(n:Int)(p:aI):Bool:=bz p.number 0 (IntKind.i64.wrap (n-1))&&p.frames.all eQ
def wV(n:Int)(l:List aI):Bool:=tC (fun p=>p.number) (uk n) l
def sM(ok:ae→Bool)(c:J):Bool:=gO c.own&&gO c.dr&&gu ok c.streams&&lz c.c0&&fl c.bO&&ku c.eT&&ku c.eS&&gN c.dA&&gN c.dz
def yH(ok:ae→Bool)(c:J):Bool:=bz c.eZ (-1) 4611686018427387903&&bz c.number 0 1000000&&bz c.hO 0 1000000&&bz c.closed 0 255&&decide (kt ok kU c.streams≤c.c0.used)&&decide (kt ok kV c.streams≤c.bO.seen)
def l2(ok:ae→Bool)(c:J):Bool:=sM ok c&&wV c.number c.packets&&yH ok c
def e6(c:J):Bool:=l2 fm c
def tD(c:J):Bool:=l2 gi c
theorem N5{ok tE:ae→Bool}{l:List ae}(h:∀s∈l,ok s=tE s):gu ok l=gu tE l:=by unfold gu;rw[VD h]
theorem N6{ok tE:ae→Bool}{f:ae→Int}{l:List ae}(h:∀s∈l,ok s=tE s):kt ok f l=kt tE f l:=by unfold kt;rw[N5 h]
theorem VE{ok tE:ae→Bool}{c:J}(h:∀s∈c.streams,ok s=tE s):l2 ok c=l2 tE c:=by unfold l2 sM yH;rw[N5 h,N6 h,N6 h]
theorem N7{c:J}(h:∀s∈c.streams,Ad s.send):e6 c=tD c:=VE fun s hs=>N8 (h s hs)
theorem IX(s:ae):∀(l:List ae) (q:List ae×Bool),(∀x∈(l.foldl (iY s) q).1,x∈q.1∨x∈l∨x=s)∧(l.foldl (iY s) q).1.length+q.2.toNat=q.1.length+l.length+(l.foldl (iY s) q).2.toNat
 |[],q=>⟨fun x hx=>Or.inl hx,by simp⟩
 |y::l,q=>by
  obtain⟨h1,h2⟩:=IX s l (iY s q y);rw[List.foldl_cons];refine⟨fun x hx=>?_,?_⟩
  ·rcases h1 x hx with h|h|h
   ·unfold iY at h;split at h
    ·simp only[List.mem_append,List.mem_cons,List.not_mem_nil,or_false]at h;rcases h with h|h|h
     ·exact Or.inl h
     ·exact Or.inr (Or.inr h)
     ·exact Or.inr (Or.inl (by simp[h]))
    ·simp only[List.mem_append,List.mem_cons,List.not_mem_nil,or_false]at h;rcases h with h|h
     ·exact Or.inl h
     ·exact Or.inr (Or.inl (by simp[h]))
   ·exact Or.inr (Or.inl (List.mem_cons_of_mem _ h))
   ·exact Or.inr (Or.inr h)
  ·have e:(iY s q y).1.length+q.2.toNat=q.1.length+1+(iY s q y).2.toNat:=by
    unfold iY
    cases hq:q.2<;>by_cases hlt:s.id<y.id<;>simp[hlt]
   rw[List.length_cons];omega
theorem N9(s:ae)(l:List ae):(jd s l).1.length=l.length+(jd s l).2.toNat:=by
 have:=(IX s l ([],false)).2;simpa [jd]using this
theorem yE{l:List ae}{s x:ae}(h:x∈dq l s):x∈l∨x=s:=by
 unfold dq at h;split at h
 ·rcases List.mem_or_eq_of_mem_set h with h|h
  ·exact Or.inl h
  ·exact Or.inr h
 ·have:=(IX s l ([],false)).1 x;simp only[List.not_mem_nil,false_or]at this;split at h
  ·exact this h
  ·rcases List.mem_append.1 h with h|h
   ·exact this h
   ·exact Or.inr (by simpa using h)
theorem ET(l:List ae)(s:ae):(dq l s).length≤l.length+1:=by
 unfold dq;split
 ·rw[List.length_set];omega
 ·have:=N9 s l;split
  ·rename_i h;rw[this,h];simp
  ·rename_i h;rw[List.length_append,this];simp only[Bool.not_eq_true]at h;rw[h];simp
set_option maxRecDepth 100000
def Nf:List (List bt):=cE 24 [282429536477,282429536479,282429536472,282429536454,282429536400,282429536238,282429535752,282429534294,282429529920,282429516798,277206298137,277206416235,277206002892,277204940010,277201751364,282250145619,282407983596,282321890154,282049260921,281274419943,278949897009,271969183278,251048476872,188286357654]
def HW:List (List bt):=cE 22 [31381059608,31381059606,31381059600,31381059582,31381059528,31381059366,31381058880,31381057422,31381053048,31381039926,31381000560,30862196046,30864144663,30863081781,30859715988,30850150050,30821452236,31316400954,31058120628,30218798142,27894275208,20920706406]
attribute [go_sem] Nf HW
def eb(s:ae):Prop:=s.send.pending.length+s.send.flight.length+s.send.cb.length≤1000∧s.send.ring.cells.length≤100∧(∀c∈s.recv.buffer.bd,c.data.length≤1000)∧s.recv.buffer.bd.length≤100
set_option maxHeartbeats 1000000 in
theorem IU(l:List ae)(id:Int):PureCall Tryz.prog 30 [.one (.sl 39 (l.map ae.enc)),.one (.int .i64 id)] [.one (.int .i64 (hE (ff id) l))]:=by
 refine aP 20 Tryz.func30 Tryz.call30 [.tmp 4] ?_;intro ok;have hm:=fZ ok;clear ok;simp only[go_sem];refine b9.intro (fun i:Nat=>⟨(.d (.sl 39 (l.map ae.enc))::.d (.int .i64 id)::aF 3 (.d (.int .i64 i)::aF 14 [])),[]⟩)
  (fun i=>l.length-i) (fun i=>i≤l.length∧(l.take i).any (ff id)=false) 0 [] ⟨by omega,by simp⟩ ?_ ?_
 ·simp only[go_sem];simp
 ·rintro i ⟨hi,he⟩;by_cases h1:i<l.length
  ·have au:decide ((i:Int)<(l.length:Int))=true:=bk (by omega);have aB:=b4 ae.enc l i h1;have hw:=dE h1 hm
   try simp only[go_sem,I,aJ,aB,ae.enc,au]
   repeat'(first|(refine bq (fun h=>?_) (fun h=>?_)<;>simp only[go_sem])|(with_reducible refine aq ?_)|fail)
   ·have:=JI (ff id) l i h1 he h;simp[this]
   ·refine bu.intro (i+1) [] ⟨by omega,zX _ l i h1 he h⟩ (by omega) ?_;simp only[go_sem,hw];try simp
  ·have au:decide ((i:Int)<(l.length:Int))=false:=bb (by omega);obtain rfl:i=l.length:=by omega
   rw[dK]at he;simp only[go_sem,I,au];simp[Pm _ _ he]
def lQ(ok:ae→Bool)(l:List ae)(i:Nat):Bool:=xb (fun s=>s.id) ok l i
theorem UL(ok:ae→Bool)(l:List ae)(h:0<l.length):lQ ok l 0=ok l[0]:=um _ _ _ h
theorem UM(ok:ae→Bool)(l:List ae)(j:Nat)(h:j+1<l.length):lQ ok l (j+1)=(ok l[j+1]&&decide (l[j].id<l[j+1].id)):=uo _ _ _ _ h
theorem UN{ok:ae→Bool}{l:List ae}(h:iV (lQ ok l) l.length=true):gu ok l=decide ((l.length:Int)≤24):=by
 have:tC (fun s:ae=>s.id) ok l=true:=h;unfold gu;rw[this];rfl
theorem UO{ok:ae→Bool}{l:List ae}{i:Nat}(hi:i<l.length)(h:lQ ok l i=false):gu ok l=false:=by
 have:tC (fun s:ae=>s.id) ok l=false:=EB (lQ ok l) hi h;unfold gu;rw[this];rfl
set_option maxHeartbeats 2000000 in
theorem B6(l:List ae)(hz:∀s∈l,eb s):PureCall Tryz.prog 33 [.one (.sl 39 (l.map ae.enc))] [.one (.bool (gu fm l))]:=by
 refine aP 37 Tryz.func33 Tryz.call33 [.tmp 2] ?_;intro ok;have hm:=fZ ok;clear ok;simp only[go_sem];refine b9.intro (fun i:Nat=>⟨(.d (.sl 39 (l.map ae.enc))::.ab::.ab::.d (.int .i64 i)::aF 33 []),[]⟩)
  (fun i=>l.length-i) (fun i=>i≤l.length∧iV (lQ fm l) i=true) 0 [] ⟨by omega,by simp[iV]⟩ ?_ ?_
 ·simp only[go_sem];simp
 ·rintro i ⟨hi,he⟩;by_cases h1:i<l.length
  ·have au:decide ((i:Int)<(l.length:Int))=true:=bk (by omega);have aB:=b4 ae.enc l i h1;have hw:=dE h1 hm;have hs:=BS (lQ fm l) i;have hf:=fun h=>UO (ok:=fm) (l:=l) h1 h;obtain⟨hc,_,hb,hx⟩:=hz _ (List.getElem_mem h1)
   replace hb:∀c∈l[i].recv.buffer.bd,c.data.length≤1048576:=fun c h=>by have:=hb c h;omega
   have bV:=UE l[i].id l[i].send.state l[i].send.ring.size l[i].send.ring.base l[i].send.ring.cj l[i].send.ring.cells l[i].send.pending l[i].send.flight l[i].send.cb l[i].send.bg l[i].send.ba l[i].send.sent l[i].send.code l[i].c2.a1 l[i].c2.used l[i].c2.blocked l[i].c2.i4 l[i].recv.state l[i].recv.buffer.next l[i].recv.buffer.bd l[i].recv.bg l[i].recv.d2 l[i].recv.code l[i].window.size l[i].window.most l[i].window.a1 l[i].window.seen l[i].window.read l[i].window.jU l[i].priority.iK l[i].priority.g2 l[i].eo l[i].eJ l[i].ho l[i].hH l[i].kb l[i].ky l[i].lC l[i].counted (by omega) hb (by omega);change PureCall _ _ _ [.one (.bool (fm l[i]))]at bV
   cases i with
   |zero=>
    have hb:=UL fm l h1;have h2:decide ((0:Int)<((0:Nat):Int))=false:=by decide
    try simp only[go_sem,I,au]
    repeat'(first|((first|refine af.intro (by assumption) ?_|refine ar.intro (by assumption) ?_|with_reducible refine j9 ?_|refine en ?_|refine a9 Nf (by kernel_rfl) (by rfl) ?_|refine bq (fun h=>?_) (fun h=>?_))<;>simp only[go_sem,I,aJ,aB,ae.enc,h2])|(with_reducible refine aq ?_)|fail)
    ·have e:lQ fm l 0=false:=by rw[hb];revert h;cases fm l[0]<;>simp
     simp[hf e]
    ·have e:lQ fm l 0=true:=by rw[hb];revert h;cases fm l[0]<;>simp
     refine bu.intro 1 [] ⟨by omega,by rw[hs,he,e];rfl⟩ (by omega) ?_;simp only[go_sem,hw];try simp
   |succ j=>
    have hb:=UM fm l j h1;have fQ:=b4 ae.enc l j (by omega);have h2:decide ((0:Int)<((j+1:Nat):Int))=true:=bk (by omega);have hp:IntKind.i64.wrap (((j+1:Nat):Int)-1)=(j:Int):=by simp only[maxLen]at hm;rw[bE]<;>omega
    try simp only[go_sem,I,au]
    repeat'(first|((first|refine af.intro (by assumption) ?_|refine ar.intro (by assumption) ?_|refine en ?_|refine a9 Nf (by kernel_rfl) (by rfl) ?_|refine bq (fun h=>?_) (fun h=>?_))<;>simp only[go_sem,I,aJ,aB,fQ,ae.enc,h2,hp])|(with_reducible refine aq ?_)|fail)
    ·have e:lQ fm l (j+1)=false:=by rw[hb];revert h;cases fm l[j+1]<;>simp
     simp[hf e]
    ·have e:lQ fm l (j+1)=true:=by rw[hb];revert h;cases fm l[j+1]<;>simp
     refine bu.intro (j+1+1) [] ⟨by omega,by rw[hs,he,e];rfl⟩ (by omega) ?_;simp only[go_sem,hw];try simp
  ·have au:decide ((i:Int)<(l.length:Int))=false:=bb (by omega);obtain rfl:i=l.length:=by omega
   simp only[go_sem,I,au];simp[UN he]
set_option maxHeartbeats 2000000 in
theorem DK(l:List ae)(hz:∀s∈l,eb s):PureCall Tryz.prog 47 [.one (.sl 39 (l.map ae.enc))] [.one (.bool (gu gi l))]:=by
 refine aP 35 Tryz.func47 Tryz.call47 [.tmp 2] ?_;intro ok;have hm:=fZ ok;clear ok;simp only[go_sem,I];refine b9.intro (fun i:Nat=>⟨(.d (.sl 39 (l.map ae.enc))::aF 4 (.d (.sl 39 (l.map ae.enc))::.d (.int .i64 l.length)::.d (.int .i64 i)::aF 27 [])),[]⟩)
  (fun i=>l.length-i) (fun i=>i≤l.length∧i≤24∧iV (lQ gi l) i=true) 0 [] ⟨by omega,by omega,by simp[iV]⟩ ?_ ?_
 ·simp only[go_sem];simp
 ·rintro i ⟨hi,alk,he⟩;by_cases h1:i<l.length
  ·have au:decide ((i:Int)<(l.length:Int))=true:=bk (by omega);have aB:=b4 ae.enc l i h1;have hw:=dE h1 hm;by_cases alm:i=24
   ·have ak:decide ((24:Int)≤(i:Int))=true:=bk (by omega);have hr:gu gi l=false:=by unfold gu;rw[show decide ((l.length:Int)≤24)=false from bb (by omega)];simp
    cases i with
    |zero=>omega
    |succ j=>
     have h2:decide ((0:Int)<((j+1:Nat):Int))=true:=bk (by omega)
     try simp only[go_sem,I,aJ,aB,ae.enc,au]
     repeat'(first|((first|with_reducible refine j9 ?_|refine a9 HW (by kernel_rfl) (by rfl) ?_)<;>simp only[go_sem,ak])|(with_reducible refine aq ?_)|fail)
     all_goals simp[hr]
   ·have ak:decide ((24:Int)≤(i:Int))=false:=bb (by omega);have hs:=BS (lQ gi l) i;have hf:=fun h=>UO (ok:=gi) (l:=l) h1 h;obtain⟨hc,_,hb,hx⟩:=hz _ (List.getElem_mem h1)
    replace hb:∀c∈l[i].recv.buffer.bd,c.data.length≤1048576:=fun c h=>by have:=hb c h;omega
    have bV:=UF l[i].id l[i].send.state l[i].send.ring.size l[i].send.ring.base l[i].send.ring.cj l[i].send.ring.cells l[i].send.pending l[i].send.flight l[i].send.cb l[i].send.bg l[i].send.ba l[i].send.sent l[i].send.code l[i].c2.a1 l[i].c2.used l[i].c2.blocked l[i].c2.i4 l[i].recv.state l[i].recv.buffer.next l[i].recv.buffer.bd l[i].recv.bg l[i].recv.d2 l[i].recv.code l[i].window.size l[i].window.most l[i].window.a1 l[i].window.seen l[i].window.read l[i].window.jU l[i].priority.iK l[i].priority.g2 l[i].eo l[i].eJ l[i].ho l[i].hH l[i].kb l[i].ky l[i].lC l[i].counted (by omega) hb (by omega);change PureCall _ _ _ [.one (.bool (gi l[i]))]at bV
    cases i with
    |zero=>
     have hb:=UL gi l h1;have h2:decide ((0:Int)<((0:Nat):Int))=false:=by decide
     try simp only[go_sem,I,aJ,aB,ae.enc,au]
     repeat'(first|((first|refine af.intro (by assumption) ?_|refine ar.intro (by assumption) ?_|with_reducible refine lk ?_|with_reducible refine j9 ?_|refine en ?_|refine a9 HW (by kernel_rfl) (by rfl) ?_|refine bq (fun h=>?_) (fun h=>?_))<;>simp only[go_sem,h2,ak])|(with_reducible refine aq ?_)|fail)
     ·have e:lQ gi l 0=false:=by rw[hb];revert h;cases gi l[0]<;>simp
      simp[hf e]
     ·have e:lQ gi l 0=true:=by rw[hb];revert h;cases gi l[0]<;>simp
      refine bu.intro 1 [] ⟨by omega,by omega,by rw[hs,he,e];rfl⟩ (by omega) ?_;simp only[go_sem,hw];try simp
    |succ j=>
     have hb:=UM gi l j h1;have fQ:=b4 ae.enc l j (by omega);have h2:decide ((0:Int)<((j+1:Nat):Int))=true:=bk (by omega);have hp:IntKind.i64.wrap (((j+1:Nat):Int)-1)=(j:Int):=by simp only[maxLen]at hm;rw[bE]<;>omega
     try simp only[go_sem,I,aJ,aB,ae.enc,au]
     repeat'(first|((first|refine af.intro (by assumption) ?_|refine ar.intro (by assumption) ?_|with_reducible refine lk ?_|refine en ?_|refine a9 HW (by kernel_rfl) (by rfl) ?_|refine bq (fun h=>?_) (fun h=>?_))<;>simp only[go_sem,I,aJ,fQ,ae.enc,h2,hp,ak])|(with_reducible refine aq ?_)|fail)
     ·have e:lQ gi l (j+1)=false:=by rw[hb];revert h;cases gi l[j+1]<;>simp
      simp[hf e]
     ·have e:lQ gi l (j+1)=true:=by rw[hb];revert h;cases gi l[j+1]<;>simp
      refine bu.intro (j+1+1) [] ⟨by omega,by omega,by rw[hs,he,e];rfl⟩ (by omega) ?_;simp only[go_sem,hw];try simp
  ·have au:decide ((i:Int)<(l.length:Int))=false:=bb (by omega);obtain rfl:i=l.length:=by omega
   have hr:gu gi l=true:=by rw[UN he];exact bk (by omega)
   simp only[go_sem,au];simp[hr]
set_option maxRecDepth 100000
def Ev:List (List bt):=cE 12 [531440,531438,531432,505089,505143,504954,504468,503010,528147,515025,472392,354294]
attribute [go_sem] Ev
theorem HX{p:Prop}{eH gg:Decidable p}{α:Type}(a b:α):@ite α p eH a b=@ite α p gg a b:=by rw[Subsingleton.elim eH gg]
theorem SX{l:List ae}{s:ae}{i:Nat}(h:hE (ff s.id) l=(i:Int)):dq l s=l.set i s:=by
 unfold dq;unfold hE at h;split at h
 ·rename_i j av;first|(rw[av];simp only;congr 1;omega)|(congr 1;omega)
 ·omega
theorem adU{l:List ae}{s:ae}(h:hE (ff s.id) l=-1):dq l s=if(jd s l).2 then(jd s l).1 else(jd s l).1++[s]:=by
 unfold dq;unfold hE at h;split at h
 ·omega
 ·rename_i av;first|rw[av]|rfl
theorem adV(s:ae)(l:List ae)(i:Nat)(h:i<l.length):jd s (l.take (i+1))=iY s (jd s (l.take i)) l[i]:=by
 unfold jd;rw[List.take_add_one,dk h,List.foldl_append];rfl
set_option maxHeartbeats 4000000 in
theorem kr(l:List ae)(s:ae)(hl:l.length≤1000)(hz:∀x∈l,eb x)(hs:eb s):PureCall Tryz.prog 76 [.one (.sl 39 (l.map ae.enc)),.agg (ae.enc s)] [.one (.sl 39 (((dq l s)).map ae.enc))]:=by
 refine aP 66 Tryz.func76 Tryz.call76 [.tmp 4] ?_;intro ok;have hm:=fZ ok;clear ok;obtain⟨c9,dc,cB,de⟩:=hs;simp only[go_sem];refine af.intro (IU l s.id) ?_;simp only[go_sem];rcases Ac (ff s.id) l with ⟨h1,h2⟩|⟨j,av,h1,h2,ak⟩
 ·have ah:=adU h1;rw[h1];refine b9.intro (fun i:Nat=>⟨(.d (.sl 39 (l.map ae.enc))::.ab::.ab::.ptr 0 0 0::.ab::.sl 1 0 (jd s (l.take i)).1.length::.d (.int .i64 (-1))::.d (.bool (jd s (l.take i)).2)::.d (.int .i64 i)::aF 57 []),[.box (ae.bC s),.ao 39 ((jd s (l.take i)).1.map ae.enc) true]⟩)
   (fun i=>l.length-i) (fun i=>i≤l.length) 0 [0,1] (by omega) ?_ ?_
  ·simp only[go_sem];simp[jd]
  ·intro i hi;have jv:=N9 s (l.take i);have cw:(l.take i).length=i:=by simp;omega
   rw[cw]at jv;have hb:(jd s (l.take i)).2.toNat≤1:=Bool.toNat_le _;by_cases aC:i<l.length
   ·have iQ:decide ((i:Int)<(l.length:Int))=true:=bk (by omega);have aB:=b4 ae.enc l i aC;have hw:=dE aC hm;obtain⟨tA,mD,vL,B3⟩:=hz _ (List.getElem_mem aC);have cD:=adV s l i aC;have bL:decide ((i:Int)=-1)=false:=bb (by omega);generalize jd s (l.take i)=q at *;obtain⟨out,Ng⟩:=q;simp only at jv hb;simp only[ae.enc]at aB
    cases Ng with
    |true=>
     have Ew:iY s (out,true) l[i]=(out++[l[i]],true):=rfl
     try simp only[go_sem,I,aJ,aB,iQ]
     repeat'(first|((first|refine af.intro (by(apply w7<;>first|assumption|omega)) ?_|with_reducible refine j9 ?_|refine a9 Ev (by kernel_rfl) (by rfl) ?_)<;>simp only[go_sem,I,Bool.cond_self])|(with_reducible refine aq ?_)|fail)
     all_goals(refine bu.intro (i+1) [0,9] (by omega) (by omega) ?_;simp only[go_sem,hw,cD,Ew];simp[ae.enc])
    |false=>
     cases hd:decide (s.id<l[i].id)with
     |true=>
      have Ew:iY s (out,false) l[i]=(out++[s,l[i]],true):=by unfold iY;rw[hd];rfl
      try simp only[go_sem,I,aJ,aB,iQ]
      repeat'(first|((first|refine af.intro (by(apply w7<;>first|assumption|omega)) ?_|with_reducible refine lk ?_|refine a9 Ev (by kernel_rfl) (by rfl) ?_)<;>simp only[go_sem,I,aJ,aB,hd])|(with_reducible refine aq ?_)|fail)
      all_goals(refine bu.intro (i+1) [0,17] (by omega) (by omega) ?_;simp only[go_sem,hw,cD,Ew];simp[ae.enc])
     |false=>
      have Ew:iY s (out,false) l[i]=(out++[l[i]],false):=by unfold iY;rw[hd];rfl
      try simp only[go_sem,I,aJ,aB,iQ]
      repeat'(first|((first|refine af.intro (by(apply w7<;>first|assumption|omega)) ?_|with_reducible refine lk ?_|refine a9 Ev (by kernel_rfl) (by rfl) ?_)<;>simp only[go_sem,I,aJ,aB,hd])|(with_reducible refine aq ?_)|fail)
      all_goals(refine bu.intro (i+1) [0,9] (by omega) (by omega) ?_;simp only[go_sem,hw,cD,Ew];simp[ae.enc])
   ·have iQ:decide ((i:Int)<(l.length:Int))=false:=bb (by omega);obtain rfl:i=l.length:=by omega
    rw[dK]at *;generalize jd s l=q at *;obtain⟨out,Ng⟩:=q
    cases Ng with
    |true=>
     try simp only[go_sem,I,iQ]
     repeat'(first|(with_reducible refine aq ?_)|fail)
     all_goals simp[ah]
    |false=>
     try simp only[go_sem,I,iQ]
     repeat'(first|(refine af.intro (by(apply w7<;>first|assumption|omega)) ?_<;>simp only[go_sem,I])|(with_reducible refine aq ?_)|fail)
     all_goals(simp only[Bool.toNat_false]at jv;refine⟨⟨by omega,rfl⟩,by simp,?_⟩;simp[ah,ae.enc,List.take_of_length_le])
 ·have ah:=SX h1;rw[h1];have eD:decide ((0:Int)≤(j:Int))=true:=bk (by omega);simp only[go_sem,eD];refine b9.intro (fun i:Nat=>⟨(.d (.sl 39 (l.map ae.enc))::.ab::.ab::.ptr 0 0 0::.ab::.sl 1 0 i::.d (.int .i64 (j:Int))::.d (.bool true)::.d (.int .i64 i)::aF 57 []),[.box (ae.bC s),.ao 39 (((l.set j s).take i).map ae.enc) true]⟩)
   (fun i=>l.length-i) (fun i=>i≤l.length) 0 [0,1] (by omega) ?_ ?_
  ·simp only[go_sem];simp
  ·intro i hi;have cw:((l.set j s).take i).length=i:=by simp;omega
   by_cases aC:i<l.length
   ·have iQ:decide ((i:Int)<(l.length:Int))=true:=bk (by omega);have aB:=b4 ae.enc l i aC;have hw:=dE aC hm;obtain⟨tA,mD,vL,B3⟩:=hz _ (List.getElem_mem aC);have cD:(l.set j s).take (i+1)=(l.set j s).take i++[(l.set j s)[i]'(by simpa using aC)]:=by
     rw[List.take_add_one,dk (by simpa using aC)];rfl
    simp only[ae.enc]at aB;by_cases mO:i=j
    ·subst mO;have hq:(l.set i s)[i]'(by simpa using aC)=s:=by simp
     rw[hq]at cD;have bL:decide ((i:Int)=(i:Int))=true:=by simp
     try simp only[go_sem,I,aJ,aB,iQ]
     repeat'(first|(refine af.intro (by(apply w7<;>first|assumption|omega)) ?_<;>simp only[go_sem,I])|(with_reducible refine aq ?_)|fail)
     all_goals(refine bu.intro (i+1) [0,14] (by omega) (by omega) ?_;simp only[go_sem,hw,cD];simp[ae.enc];omega)
    ·have hq:(l.set j s)[i]'(by simpa using aC)=l[i]:=by rw[List.getElem_set_ne (by omega)]
     rw[hq]at cD;have bL:decide ((i:Int)=(j:Int))=false:=bb (by omega)
     try simp only[go_sem,I,aJ,aB,iQ]
     repeat'(first|((first|refine af.intro (by(apply w7<;>first|assumption|omega)) ?_|with_reducible refine j9 ?_|refine a9 Ev (by kernel_rfl) (by rfl) ?_)<;>simp only[go_sem,I,bL,Bool.cond_self])|(with_reducible refine aq ?_)|fail)
     all_goals(refine bu.intro (i+1) [0,9] (by omega) (by omega) ?_;simp only[go_sem,hw,cD];simp[ae.enc];omega)
   ·have iQ:decide ((i:Int)<(l.length:Int))=false:=bb (by omega);obtain rfl:i=l.length:=by omega
    have T9:(l.set j s).take l.length=l.set j s:=List.take_of_length_le (by simp)
    try simp only[go_sem,I,iQ,T9]
    have Jn:∀v,List.take l.length ((l.map ae.enc).set j v)=(l.map ae.enc).set j v:=fun v=>List.take_of_length_le (by simp)
    all_goals simp[ah,outOA,Jn]
theorem HY(f:ae→Int)(l:List ae)(i:Nat)(h:i<l.length):(l.take (i+1)).foldl (l1 f) 0=l1 f ((l.take i).foldl (l1 f) 0) l[i]:=by
 rw[List.take_add_one,dk h,List.foldl_append];rfl
theorem Bt{ok:ae→Bool}{f:ae→Int}{l:List ae}(h:gu ok l=true):kt ok f l=l.foldl (l1 f) 0:=by unfold kt;rw[h];rfl
theorem HZ{ok:ae→Bool}{f:ae→Int}{l:List ae}(h:gu ok l=false):kt ok f l=0:=by unfold kt;rw[h];rfl
set_option maxHeartbeats 2000000 in
theorem VL(l:List ae)(hz:∀x∈l,eb x):PureCall Tryz.prog 40 [.one (.sl 39 (l.map ae.enc))] [.one (.int .i64 (kt fm kU l))]:=by
 refine aP 25 Tryz.func40 Tryz.call40 [.tmp 2] ?_;intro ok;have hm:=fZ ok;clear ok;simp only[go_sem]
 cases hA:gu fm l with
 |false=>
  have ah:=HZ (f:=kU) hA;refine b9.intro (fun i:Nat=>⟨(.d (.sl 39 (l.map ae.enc))::.ab::.ab::.d (.int .i64 0)::.d (.int .i64 i)::aF 20 []),[]⟩)
   (fun i=>0) (fun i=>i=0) 0 [] rfl ?_ ?_
  ·simp only[go_sem];simp
  ·rintro i rfl
   try simp only[go_sem,I]
   repeat'((first|refine ar.intro (by(apply B6<;>first|assumption|omega)) ?_|refine a8 ?_)<;>simp only[go_sem,hA,Bool.cond_self])
   all_goals simp[ah]
 |true=>
  have ah:=Bt (f:=kU) hA;refine b9.intro (fun i:Nat=>⟨(.d (.sl 39 (l.map ae.enc))::.ab::.ab::.d (.int .i64 ((l.take i).foldl (l1 kU) 0))::.d (.int .i64 i)::aF 20 []),[]⟩)
   (fun i=>l.length-i) (fun i=>i≤l.length) 0 [] (by omega) ?_ ?_
  ·simp only[go_sem];simp
  ·intro i hi;by_cases h1:i<l.length
   ·have au:decide ((i:Int)<(l.length:Int))=true:=bk (by omega);have aB:=b4 ae.enc l i h1;have hw:=dE h1 hm;have hs:=HY kU l i h1
    try simp only[go_sem,I,au]
    repeat'(first|((first|refine af.intro (by(apply B6<;>first|assumption|omega)) ?_|with_reducible refine ct ?_)<;>simp only[go_sem,I,aJ,aB,ae.enc,hA])|(with_reducible refine aq ?_)|fail)
    all_goals(refine bu.intro (i+1) [] (by omega) (by omega) ?_;simp only[go_sem,hw,hs];simp[l1,kU];try exact HX _ _)
   ·have au:decide ((i:Int)<(l.length:Int))=false:=bb (by omega);obtain rfl:i=l.length:=by omega
    try simp only[go_sem,I,au,dK]
    repeat'(first|(with_reducible refine dC ?_<;>simp only[go_sem,Bool.cond_self]))
    all_goals simp[ah]
set_option maxHeartbeats 2000000 in
theorem VM(l:List ae)(hz:∀x∈l,eb x):PureCall Tryz.prog 41 [.one (.sl 39 (l.map ae.enc))] [.one (.int .i64 (kt fm kV l))]:=by
 refine aP 25 Tryz.func41 Tryz.call41 [.tmp 2] ?_;intro ok;have hm:=fZ ok;clear ok;simp only[go_sem]
 cases hA:gu fm l with
 |false=>
  have ah:=HZ (f:=kV) hA;refine b9.intro (fun i:Nat=>⟨(.d (.sl 39 (l.map ae.enc))::.ab::.ab::.d (.int .i64 0)::.d (.int .i64 i)::aF 20 []),[]⟩)
   (fun i=>0) (fun i=>i=0) 0 [] rfl ?_ ?_
  ·simp only[go_sem];simp
  ·rintro i rfl
   try simp only[go_sem,I]
   repeat'((first|refine ar.intro (by(apply B6<;>first|assumption|omega)) ?_|refine a8 ?_)<;>simp only[go_sem,hA,Bool.cond_self])
   all_goals simp[ah]
 |true=>
  have ah:=Bt (f:=kV) hA;refine b9.intro (fun i:Nat=>⟨(.d (.sl 39 (l.map ae.enc))::.ab::.ab::.d (.int .i64 ((l.take i).foldl (l1 kV) 0))::.d (.int .i64 i)::aF 20 []),[]⟩)
   (fun i=>l.length-i) (fun i=>i≤l.length) 0 [] (by omega) ?_ ?_
  ·simp only[go_sem];simp
  ·intro i hi;by_cases h1:i<l.length
   ·have au:decide ((i:Int)<(l.length:Int))=true:=bk (by omega);have aB:=b4 ae.enc l i h1;have hw:=dE h1 hm;have hs:=HY kV l i h1
    try simp only[go_sem,I,au]
    repeat'(first|((first|refine af.intro (by(apply B6<;>first|assumption|omega)) ?_|with_reducible refine ct ?_)<;>simp only[go_sem,I,aJ,aB,ae.enc,hA])|(with_reducible refine aq ?_)|fail)
    all_goals(refine bu.intro (i+1) [] (by omega) (by omega) ?_;simp only[go_sem,hw,hs];simp[l1,kV];try exact HX _ _)
   ·have au:decide ((i:Int)<(l.length:Int))=false:=bb (by omega);obtain rfl:i=l.length:=by omega
    try simp only[go_sem,I,au,dK]
    repeat'(first|(with_reducible refine dC ?_<;>simp only[go_sem,Bool.cond_self]))
    all_goals simp[ah]
set_option maxRecDepth 100000
def IY:List (List bt):=cE 41 [36472996377170776916,36472996377170776914,36472996377170776921,36472996377170776899,36472996377170776845,36472996377170776683,36472996377170786038,36472996377170784580,36472996377170780206,36472996377170766720,36472996377170727354,36472996377170609256,36472996377170254962,36472996377169192080,36472996377166003434,36472984943861246454,36472984943832548640,36472984943932990989,36472984943617315035,36472984942842474057,36472984940517951123,36472995995360720040,36472995974440013634,36472996330092022536,36472996141805664882,36472995535105179108,36472993840527960222,36472988756796303564,36472973500378331442,36472927746793421520,36472790486038691754,36472378703774502456,36454466175282267993,36450760134904564311,36463731276226527198,36422964832071786696,36322901741873787282,36022712471279789040,35122144659497794314,32420441224151810136,24315330918113857602]
def N_:List (List bt):=cE 37 [450283905890997362,450283905890997360,450283905890997354,450283905890997336,450283905890997282,450283905890997120,450283905890996634,450283905890995176,450283905890990802,450283905890977680,450283905890938314,450283905890820216,450283905890465922,450283905889403040,450283905886214394,450283905876648456,450283905847950642,450283905761857200,450283905503576874,450283496774960979,450283494450438045,450283487476869243,450283889619336825,450283826857217607,450283638570859953,450283058602387920,450281364025169034,450276280293512376,442231274946851091,442185521361941169,442048260607211403,449963630796627909,448728284004060015,445022243626356333,433606724191330794,400252360791997656,300189270593998242]
attribute [go_sem] IY N_
def EA(p:aI):Prop:=p.frames.length≤500∧∀f∈p.frames,f.data.length≤60
def iH(c:J):Prop:=c.streams.length≤30∧(∀s∈c.streams,eb s)∧c.packets.length≤30∧∀p∈c.packets,EA p
theorem B4{α:Type}(f:α→Nat)(m:Nat):∀(xs:List α),(∀x∈xs,f x≤m)→lA f xs≤m * xs.length
 |[],_=>by simp[lA]
 |x::xs,h=>by
  have h1:=B4 f m xs (fun y hy=>h y (List.mem_cons_of_mem _ hy));have h2:=h x (by simp);have e:lA f (x::xs)=f x+lA f xs:=by simp[lA]
  rw[e,List.length_cons,Nat.mul_add];omega
theorem VF{s:ae}(h:eb s):ae.eC s≤101300:=by
 obtain⟨h1,h2,ak,aC⟩:=h;have:=B4 ax.eC 1000 s.recv.buffer.bd ak;simp only[ae.eC,aM.eC,c5.eC,bc.eC,ll.eC];omega
theorem VG{p:aI}(h:EA p):aI.eC p≤30500:=by
 obtain⟨h1,h2⟩:=h;have:=B4 al.eC 60 p.frames h2;simp only[aI.eC];omega
theorem jq{c:J}(h:iH c):J.eC c≤4194304:=by
 obtain⟨h1,h2,ak,aC⟩:=h;have a:=B4 ae.eC 101300 c.streams fun s hs=>VF (h2 s hs);have b:=B4 aI.eC 30500 c.packets fun p hp=>VG (aC p hp);simp only[J.eC];omega
theorem Nt{α:Type}(p:α→Bool)(xs:List α)(i:Nat)(h:i<xs.length):(xs.take (i+1)).all p=((xs.take i).all p&&p xs[i]):=by
 rw[List.take_add_one,dk h,List.all_append];simp
theorem Nu{α:Type}(p:α→Bool)(xs:List α)(i:Nat)(h:i<xs.length)(h2:p xs[i]=false):xs.all p=false:=by
 rw[List.all_eq_false];exact⟨_,List.getElem_mem h,by simp[h2]⟩
set_option maxHeartbeats 1000000 in
theorem N'(xs:List al):PureCall Tryz.prog 39 [.one (.sl 9 (xs.map al.enc))] [.one (.bool (xs.all eQ))]:=by
 refine aP 16 Tryz.func39 Tryz.call39 [.tmp 2] ?_;intro ok;have hm:=fZ ok;clear ok;simp only[go_sem];refine b9.intro (fun i:Nat=>⟨(.d (.sl 9 (xs.map al.enc))::.ab::.ab::.d (.int .i64 i)::aF 12 []),[]⟩)
  (fun i=>xs.length-i) (fun i=>i≤xs.length∧(xs.take i).all eQ=true) 0 [] ⟨by omega,by simp⟩ ?_ ?_
 ·simp only[go_sem];simp
 ·rintro i ⟨hi,he⟩;by_cases h1:i<xs.length
  ·have au:decide ((i:Int)<(xs.length:Int))=true:=bk (by omega);have aB:=b4 al.enc xs i h1;have hw:=dE h1 hm;have hs:=Nt eQ xs i h1;have bV:=yI xs[i].bn xs[i].stream xs[i].offset xs[i].data xs[i].ba xs[i].code xs[i].a1 xs[i].bg xs[i].fc;change PureCall _ _ _ [.one (.bool (eQ xs[i]))]at bV
   try simp only[go_sem,I,aJ,aB,al.enc,au]
   repeat'(first|((first|refine af.intro (by assumption) ?_|refine ar.intro (by assumption) ?_|refine bq (fun h=>?_) (fun h=>?_))<;>simp only[go_sem])|(with_reducible refine aq ?_)|fail)
   ·have:=Nu eQ xs i h1 (by simpa using h);simp[this]
   ·refine bu.intro (i+1) [] ⟨by omega,by rw[hs,he];simpa using h⟩ (by omega) ?_;simp only[go_sem,hw];try simp
  ·have au:decide ((i:Int)<(xs.length:Int))=false:=bb (by omega);obtain rfl:i=xs.length:=by omega
   rw[dK]at he;simp only[go_sem,I,au];simp[he]
def i'(n:Int)(l:List aI)(i:Nat):Bool:=xb (fun p=>p.number) (uk n) l i
theorem VH(n:Int)(l:List aI)(h:0<l.length):i' n l 0=(bz l[0].number 0 (IntKind.i64.wrap (n-1))&&l[0].frames.all eQ):=um _ _ _ h
theorem VI(n:Int)(l:List aI)(j:Nat)(h:j+1<l.length):i' n l (j+1)=(bz l[j+1].number 0 (IntKind.i64.wrap (n-1))&&l[j+1].frames.all eQ&&decide (l[j].number<l[j+1].number)):=uo _ _ _ _ h
theorem VJ(ok:ae→Bool)(c:J):(bif bif bif bif bif bif bif bif !gO c.own then true else !gO c.dr then true else !gu ok c.streams then true else !lz c.c0 then true else !fl c.bO then true else !ku c.eT then true else !ku c.eS then true else !gN c.dA then true else !gN c.dz)=!sM ok c:=by
 unfold sM
 cases gO c.own<;>cases gO c.dr<;>cases gu ok c.streams<;>cases lz c.c0<;>cases fl c.bO<;>cases ku c.eT<;>cases ku c.eS<;>cases gN c.dA<;>cases gN c.dz<;>rfl
theorem VK(ok:ae→Bool)(c:J):(bif bif bif bif bif bz c.eZ (-1) 4611686018427387903 then bz c.number 0 1000000 else false then bz c.hO 0 1000000 else false then bz c.closed 0 255 else false then decide (kt ok kU c.streams≤c.c0.used)else false then decide (kt ok kV c.streams≤c.bO.seen)else false)=yH ok c:=by
 unfold yH;simp only[b7]
set_option maxHeartbeats 8000000 in
theorem tB(c:J)(hz:iH c):PureCall Tryz.prog 10 [.agg (J.enc c)] [.one (.bool (e6 c))]:=by
 refine aP 140 Tryz.func10 Tryz.call10 [.tmp 2] ?_;intro ok;clear ok;obtain⟨tA,mD,vL,B3⟩:=hz;have ah:=VJ fm c;have hB:=VK fm c;have aO:e6 c=(sM fm c&&wV c.number c.packets&&yH fm c):=rfl
 try simp only[go_sem]
 repeat'((first|refine af.intro (by apply B5) ?_|refine ar.intro (by first|apply B5|(apply B6<;>first|assumption|omega)|apply xc|apply B7|apply IZ|apply EW) ?_|refine a8 ?_)<;>simp only[go_sem])
 rw[ah]
 cases hA:sM fm c with
 |false=>
  simp only[go_sem,Bool.not_false];simp[aO,hA]
 |true=>
  rw[hA]at aO;simp only[go_sem,Bool.not_true];refine b9.intro (fun i:Nat=>⟨(.ab::.ptr 0 0 0::.ab::.d (.int .i64 i)::aF 136 []),[.box (J.bC c)]⟩)
   (fun i=>c.packets.length-i) (fun i=>i≤c.packets.length∧iV (i' c.number c.packets) i=true) 0 [0] ⟨by omega,by simp[iV]⟩ ?_ ?_
  ·simp only[go_sem];simp
  ·rintro i ⟨hi,he⟩;by_cases h1:i<c.packets.length
   ·have au:decide ((i:Int)<(c.packets.length:Int))=true:=bk (by omega);have aB:=b4 aI.enc c.packets i h1;have hw:IntKind.i64.wrap ((i:Int)+1)=((i+1:Nat):Int):=by rw[bE]<;>omega
    have hs:=BS (i' c.number c.packets) i;have hf:i' c.number c.packets i=false→wV c.number c.packets=false:=fun h=>EB (i' c.number c.packets) h1 h
    cases i with
    |zero=>
     have hb:=VH c.number c.packets h1;have h2:decide ((0:Int)<((0:Nat):Int))=false:=by decide
     try simp only[go_sem,I,au]
     repeat'(first|((first|refine ar.intro (by first|apply hP|apply N') ?_|with_reducible refine j9 ?_|refine en ?_|refine a9 IY (by kernel_rfl) (by rfl) ?_|refine bq (fun h=>?_) (fun h=>?_))<;>simp only[go_sem,I,aJ,aB,aI.enc,h2])|(with_reducible refine aq ?_)|fail)
     ·have e:i' c.number c.packets 0=false:=by rw[hb];revert h;cases bz c.packets[0].number 0 (IntKind.i64.wrap (c.number-1))<;>cases c.packets[0].frames.all eQ<;>simp
      simp[aO,hf e]
     ·have e:i' c.number c.packets 0=true:=by rw[hb];revert h;cases bz c.packets[0].number 0 (IntKind.i64.wrap (c.number-1))<;>cases c.packets[0].frames.all eQ<;>simp
      refine bu.intro 1 [0] ⟨by omega,by rw[hs,he,e];rfl⟩ (by omega) ?_;simp only[go_sem,hw];try simp
    |succ j=>
     have hb:=VI c.number c.packets j h1;have fQ:=b4 aI.enc c.packets j (by omega);have h2:decide ((0:Int)<((j+1:Nat):Int))=true:=bk (by omega);have hp:IntKind.i64.wrap (((j+1:Nat):Int)-1)=(j:Int):=by rw[bE]<;>omega
     try simp only[go_sem,I,au]
     repeat'(first|((first|refine ar.intro (by first|apply hP|apply N') ?_|refine en ?_|refine a9 IY (by kernel_rfl) (by rfl) ?_|refine bq (fun h=>?_) (fun h=>?_))<;>simp only[go_sem,I,aJ,aB,fQ,aI.enc,h2,hp])|(with_reducible refine aq ?_)|fail)
     ·have e:i' c.number c.packets (j+1)=false:=by rw[hb];revert h;cases bz c.packets[j+1].number 0 (IntKind.i64.wrap (c.number-1))<;>cases c.packets[j+1].frames.all eQ<;>simp
      simp[aO,hf e]
     ·have e:i' c.number c.packets (j+1)=true:=by rw[hb];revert h;cases bz c.packets[j+1].number 0 (IntKind.i64.wrap (c.number-1))<;>cases c.packets[j+1].frames.all eQ<;>simp
      refine bu.intro (j+1+1) [0] ⟨by omega,by rw[hs,he,e];rfl⟩ (by omega) ?_;simp only[go_sem,hw];try simp
   ·have au:decide ((i:Int)<(c.packets.length:Int))=false:=bb (by omega);obtain rfl:i=c.packets.length:=by omega
    have gU:wV c.number c.packets=true:=he;rw[gU]at aO
    try simp only[go_sem,I,au]
    repeat'((first|refine ar.intro (by first|apply hP|(apply VL<;>first|assumption|omega)|(apply VM<;>first|assumption|omega)) ?_|refine en ?_|refine a9 N_ (by kernel_rfl) (by rfl) ?_)<;>simp only[go_sem])
    rw[hB];simp[aO]
theorem Oa(c:J):PureCall Tryz.prog 11 [.agg (J.enc c)] [.one (.bool (decide (c.closed≠0)))]:=by
 refine aP 6 Tryz.func11 Tryz.call11 [.tmp 2] ?_;intro _
 try simp only[go_sem]
def iS(c:J):Bool:=e6 c&&decide (c.closed=0)
set_option maxHeartbeats 2000000 in
theorem uj(c:J)(hz:iH c):PureCall Tryz.prog 25 [.agg (J.enc c)] [.one (.bool (iS c))]:=by
 refine aP 10 Tryz.func25 Tryz.call25 [.tmp 2] ?_;intro _
 try simp only[go_sem]
 repeat'((first|refine af.intro (by(apply tB<;>first|assumption|omega)) ?_|refine ar.intro (by apply Oa) ?_|refine a8 ?_)<;>simp only[go_sem])
 all_goals(refine ec ?_;simp[iS])
theorem lY{l:List ae}(hz:∀s∈l,eb s)(id:Int):eb (bN l id).1:=by
 unfold bN;split
 ·rename_i s h;exact hz _ (List.mem_of_find?_eq_some h)
 ·exact⟨by simp[jc],by simp[jc],by simp[jc],by simp[jc]⟩
set_option maxHeartbeats 4000000 in
theorem kR(c:J)(id:Int)(hz:iH c):PureCall Tryz.prog 9 [.agg (J.enc c),.one (.int .i64 id)] [.agg (ae.enc ((bN c.streams id).1)),.one (.bool (bN c.streams id).2)]:=by
 refine aP 20 Tryz.func9 Tryz.call9 [.cell 4 57,.tmp 5] ?_;intro ok;clear ok;obtain⟨tA,mD,vL,B3⟩:=hz;simp only[go_sem];refine af.intro (IU c.streams id) ?_;simp only[go_sem];rcases Ac (ff id) c.streams with ⟨h1,h2⟩|⟨j,av,h1,h2,ak⟩
 ·rw[h1];have ah:bN c.streams id=(jc,false):=by unfold bN;rw[h2]
  try simp only[go_sem]
  all_goals simp[ah,jc]
 ·rw[h1];have ah:bN c.streams id=(c.streams[j],true):=by unfold bN;rw[h2]
  have hlt:decide ((j:Int)<0)=false:=bb (by omega);have aB:=b4 ae.enc c.streams j av;obtain⟨cF,bh,bI,cd⟩:=mD _ (List.getElem_mem av)
  try simp only[go_sem,I,hlt,aJ,aB,ae.enc]
  repeat'(first|(refine af.intro (by(apply w7<;>first|assumption|omega)) ?_<;>simp only[go_sem,I,ae.enc])|(with_reducible refine aq ?_)|fail)
  all_goals simp[ah]
set_option maxRecDepth 100000
def alE:List (List bt):=cE 10 [58940,58938,58932,59035,58981,58077,58563,56862,52488,39366]
attribute [go_sem] alE
set_option maxHeartbeats 4000000 in
theorem Vl(c:J)(hx:J.eC c≤4194304):PureCall Tryz.prog 61 [.agg (J.enc c)] [.agg (J.enc c)]:=by
 refine aP 12 Tryz.func61 Tryz.call61 [.cell 2 37] ?_;intro _;simp only[J.eC]at hx
 try simp only[go_sem]
 repeat'((first|refine ar.intro (by first|(apply alI<;>first|assumption|omega)|(apply alJ<;>first|assumption|omega)) ?_|refine a9 alE (by kernel_rfl) (by rfl) ?_)<;>simp only[go_sem,I])
 all_goals simp
set_option maxHeartbeats 4000000 in
theorem gf(c:J)(hx:J.eC c≤4194304):PureCall Tryz.prog 24 [.agg (J.enc c)] [.agg (J.enc c)]:=by
 refine aP 33 Tryz.func24 Tryz.call24 [.cell 2 37] ?_;intro _;simp only[J.eC]at hx;have hm:c.streams.length≤maxLen:=by simp only[maxLen];omega
 simp only[go_sem];refine b9.intro (fun i:Nat=>⟨(.ab::.ptr 0 0 0::.ptr 1 0 0::.ptr 2 0 0::.d (.int .i64 i)::aF 28 []),[.box (J.bC c),.box J.bJ,.box (J.aK c (.sl 3 0 i) (.d (.sl 2 (c.packets.map aI.enc)))),.ao 39 ((c.streams.take i).map ae.enc) true]⟩)
   (fun i=>c.streams.length-i) (fun i=>i≤c.streams.length) 0 [0,1,2,3] (by omega) ?_ ?_
 ·simp only[go_sem];simp
 ·intro i hi;have hl:(c.streams.take i).length=i:=by simp;omega
  simp only[go_sem,I];refine bq (fun h1=>?_) (fun h1=>?_)
  ·simp only[decide_eq_true_eq]at h1;have hlt:i<c.streams.length:=by omega
   have aB:=b4 ae.enc c.streams i hlt;have hw:=dE hlt hm;have hb:=NL ae.eC c.streams i hlt;simp only[ae.eC,aM.eC,c5.eC,bc.eC,ll.eC]at hb;simp only[ae.enc]at aB;have mA:((c.streams.take i).map ae.enc).take i=(c.streams.take i).map ae.enc:=List.take_of_length_le (by rw[I,hl];exact Nat.le_refl _);have cD:=NM ae.enc c.streams i hlt;simp only[ae.enc]at cD
   try simp only[go_sem,I,aJ,aB]
   repeat'(first|(refine af.intro (by(apply w7<;>first|assumption|omega)) ?_<;>simp only[go_sem,I,hl,mA])|(with_reducible refine aq ?_)|fail)
   all_goals(refine bu.intro (i+1) [0,1,2,11] (by omega) (by omega) ?_;simp only[go_sem,hw];simp[cD])
  ·simp only[decide_eq_false_iff_not]at h1;have gY:i=c.streams.length:=by omega
   subst gY
   try simp only[go_sem,dK]
   repeat'(refine af.intro (by(apply Vm<;>first|assumption|omega)) ?_<;>simp only[go_sem,I])
   all_goals simp
@[go_sem] theorem aa.lD(a:aa):(⟨a.low,a.high⟩:aa)=a:=rfl
@[go_sem] theorem c5.lD(a:c5):(⟨a.size,a.base,a.cj,a.cells⟩:c5)=a:=rfl
@[go_sem] theorem aM.lD(a:aM):(⟨a.state,a.ring,a.pending,a.flight,a.cb,a.bg,a.ba,a.sent,a.code⟩:aM)=a:=rfl
@[go_sem] theorem ax.lD(a:ax):(⟨a.offset,a.data⟩:ax)=a:=rfl
@[go_sem] theorem ll.lD(a:ll):(⟨a.next,a.bd⟩:ll)=a:=rfl
@[go_sem] theorem bc.lD(a:bc):(⟨a.state,a.buffer,a.bg,a.d2,a.code⟩:bc)=a:=rfl
@[go_sem] theorem d7.lD(a:d7):(⟨a.a1,a.used,a.blocked,a.i4⟩:d7)=a:=rfl
@[go_sem] theorem da.lD(a:da):(⟨a.size,a.most,a.a1,a.seen,a.read,a.jU⟩:da)=a:=rfl
@[go_sem] theorem hJ.lD(a:hJ):(⟨a.iK,a.g2⟩:hJ)=a:=rfl
@[go_sem] theorem gp.lD(a:gp):(⟨a.a1,a.opened,a.blocked⟩:gp)=a:=rfl
@[go_sem] theorem dm.lD(a:dm):(⟨a.most,a.a1,a.seen,a.closed⟩:dm)=a:=rfl
@[go_sem] theorem du.lD(a:du):(⟨a.ring,a.window,a.lu,a.c0,a.lZ,a.kT,a.fc,a.hD⟩:du)=a:=rfl
@[go_sem] theorem al.lD(a:al):(⟨a.bn,a.stream,a.offset,a.data,a.ba,a.code,a.a1,a.bg,a.fc⟩:al)=a:=rfl
@[go_sem] theorem ae.lD(a:ae):(⟨a.id,a.send,a.c2,a.recv,a.window,a.priority,a.eo,a.eJ,a.ho,a.hH,a.kb,a.ky,a.lC,a.counted⟩:ae)=a:=rfl
@[go_sem] theorem bS.lD(a:bS):(⟨a.offset,a.data,a.ba⟩:bS)=a:=rfl
@[go_sem] theorem c4.lD(a:c4):(⟨a.id,a.priority⟩:c4)=a:=rfl
@[go_sem] theorem aI.lD(a:aI):(⟨a.number,a.frames⟩:aI)=a:=rfl
@[go_sem] theorem J.lD(a:J):(⟨a.df,a.own,a.dr,a.streams,a.c0,a.bO,a.eT,a.eS,a.dA,a.dz,a.vQ,a.mH,a.mI,a.eZ,a.number,a.packets,a.hO,a.closed⟩:J)=a:=rfl
set_option maxRecDepth 100000
def IP:List (List bt):=cE 12 [524867,524878,524872,524853,524799,521721,502524,444933,528160,514674,474579,354294]
def IQ:List (List bt):=cE 23 [90634871105,90634871103,90634871097,90634871079,90634873333,90634874224,90634873738,90634872199,90635133505,90635120383,90635081017,90634962919,90656128705,90655065823,90651877177,90642311239,90613347705,90527254263,89106712470,79421200245,92399786626,84845087091,62762119218]
def IS:List (List bt):=cE 10 [57956,58804,58798,58780,58726,58927,58321,56862,52488,39366]
attribute [go_sem] IP IQ IS
def lv(id:Int)(k:Nat):Int:=IntKind.i64.wrap (id-IntKind.i64.wrap (4 * (k:Int)))
def ks(v:Bool)(o p:du)(id:Int):Nat→List ae→List ae
 |0,l=>l
 |k+1,l=>ks v o p id k (dq l (gq v (lv id k) o p))
theorem VB(n:Int):(sJ n).ring.cells.length≤64∧(sJ n).pending=[]∧(sJ n).flight=[]∧(sJ n).cb=[]:=by
 unfold sJ;split
 ·rename_i h;have:=Ab h;refine⟨?_,rfl,rfl,rfl⟩;simp only[sK,h,if_true,List.length_replicate];omega
 ·simp[IT]
theorem BY(v:Bool)(i:Int)(o p:du):eb (gq v i o p):=by
 unfold gq;split
 ·obtain⟨h1,h2,ak,aC⟩:=VB o.ring;refine⟨by simp only[h2,ak,aC];simp,by simp only;omega,by simp[vK],by simp[vK]⟩
 ·exact⟨by simp[jc],by simp[jc],by simp[jc],by simp[jc]⟩
theorem NZ{l:List ae}{s:ae}(hz:∀x∈l,eb x)(hs:eb s):∀x∈dq l s,eb x:=fun x hx=>by
 rcases yE hx with h|rfl
 ·exact hz x h
 ·exact hs
def nd(c:J)(id:Int):dm:=if lp id then c.dz else c.dA
def lx(c:J)(id:Int):Int:=ly (nd c id) (g0 id)
def ux(c:J)(id:Int):Bool:=uy (nd c id) (g0 id)&&!decide (lx c id=0)&&!decide (24<IntKind.i64.wrap ((c.streams.length:Int)+lx c id))
def fG(c:J)(id:Int):Int:=if !(e6 c&&bM id)then 7 else if 0≤hE (ff id) c.streams then 0 else if lq c.df id then 5 else if ux c id then 0 else 4
def uz(c:J)(id:Int)(a:dm):J:=if lp id then {c with dz:=a}else {c with dA:=a}
def bw(c:J)(id:Int):J:=
 if e6 c&&bM id&&decide (hE (ff id) c.streams<0)&&!lq c.df id&&ux c id then
  {uz c id (j_ (nd c id) (g0 id))with streams:=ks c.df c.own c.dr id (lx c id).toNat c.streams}else c
theorem VC(a:dm)(i:Int):0≤ly a i∧ly a i≤1152921504606846977:=by
 unfold ly;split
 ·rename_i h;simp only[uy,gN,bz,Bool.and_eq_true,decide_eq_true_eq]at h;rw[bE (n:=i+1) (by omega) (by omega),bE (n:=i+1-a.seen) (by omega) (by omega)];unfold dg;split<;>omega
 ·omega
theorem B2{c:J}{id:Int}(h:ux c id=true)(hl:c.streams.length≤1000):0<lx c id∧(c.streams.length:Int)+lx c id≤24:=by
 have:=VC (nd c id) (g0 id);simp only[ux,Bool.and_eq_true,Bool.not_eq_true',decide_eq_false_iff_not]at h;unfold lx at h⊢;rw[bE (by omega) (by omega)]at h;omega
theorem N0(v:Bool)(o p:du)(id:Int):∀(k:Nat) (l:List ae),(ks v o p id k l).length≤l.length+k
 |0,l=>by simp[ks]
 |k+1,l=>by
  have h1:=N0 v o p id k (dq l (gq v (lv id k) o p));have h2:=ET l (gq v (lv id k) o p);rw[ks];omega
theorem N1(c:J)(id:Int)(a:dm)(h:nd c id=a):(bif bif !uy a (g0 id)then true else decide (ly a (g0 id)=0)then true else decide (24<IntKind.i64.wrap ((c.streams.length:Int)+ly a (g0 id))))=!ux c id:=by
 subst h;unfold ux lx
 cases uy (nd c id) (g0 id)<;>cases decide (ly (nd c id) (g0 id)=0)<;>cases decide (24<IntKind.i64.wrap ((c.streams.length:Int)+ly (nd c id) (g0 id)))<;>rfl
set_option maxHeartbeats 8000000 in
theorem EU(c:J)(id:Int)(hz:iH c):PureCall Tryz.prog 220 [.agg (J.enc c),.one (.int .i64 id)] [.agg (J.enc ((bw c id))),.one (.int .i64 (fG c id))]:=by
 refine aP 72 Tryz.func220 Tryz.call220 [.cell 4 37,.tmp 5] ?_;intro ok;clear ok;have j4:=jq hz;have eU:=hz;obtain⟨tA,mD,vL,B3⟩:=hz;have aQ:bw c id=if e6 c&&bM id&&decide (hE (ff id) c.streams<0)&&!lq c.df id&&ux c id then {uz c id (j_ (nd c id) (g0 id))with streams:=ks c.df c.own c.dr id (lx c id).toNat c.streams}else c:=rfl
 have ah:fG c id=if !(e6 c&&bM id)then 7 else if 0≤hE (ff id) c.streams then 0 else if lq c.df id then 5 else if ux c id then 0 else 4:=rfl
 try simp only[go_sem]
 repeat'((first|refine af.ag (by first|(apply gf<;>first|assumption|omega)|(apply tB<;>first|assumption|omega)) ?_|refine ar.ag (by apply gZ) ?_|refine a8 ?_)<;>simp only[go_sem,I])
 cases h1:e6 c&&bM id with
 |false=>
  have hb:(bif !e6 c then true else !bM id)=true:=by revert h1;cases e6 c<;>cases bM id<;>simp
  rw[h1]at aQ ah;simp only[hb];simp only[go_sem,I];simp[aQ,ah]
 |true=>
  have hb:(bif !e6 c then true else !bM id)=false:=by revert h1;cases e6 c<;>cases bM id<;>simp
  rw[h1]at aQ ah;simp only[hb];simp only[go_sem];refine af.intro (IU c.streams id) ?_;simp only[go_sem];rcases Ac (ff id) c.streams with ⟨d4,fD⟩|⟨j,av,d4,fD,f3⟩
  ·have IV:decide ((0:Int)≤-1)=false:=by decide
   have EV:decide ((-1:Int)<0)=true:=by decide
   rw[d4,EV]at aQ;rw[d4]at ah;simp only[d4,IV];simp only[go_sem];refine af.intro (BZ c.df id) ?_;simp only[go_sem]
   cases cn:lq c.df id with
   |true=>
    rw[cn]at aQ ah;simp only[go_sem,I];simp[aQ,ah]
   |false=>
    rw[cn]at aQ ah;simp only[go_sem];refine af.intro (yD id) ?_;simp only[go_sem]
    cases hC:lp id with
    |true=>
     have hA:nd c id=c.dz:=by unfold nd;rw[hC];rfl
     have hW:∀a,uz c id a={c with dz:=a}:=fun a=>by unfold uz;rw[hC];rfl
     have br:=N1 c id _ hA
     try simp only[go_sem]
     repeat'((first|refine af.ag (by assumption) ?_|refine ar.ag (by first|assumption|apply N2|apply N3) ?_|refine a8 ?_|refine a9 IP (by kernel_rfl) (by rfl) ?_)<;>simp only[go_sem,I])
     rw[br]
     cases hg:ux c id with
     |false=>
      rw[hg]at aQ ah;simp only[go_sem,I,Bool.not_false];simp[aQ,ah]
     |true=>
      rw[hg]at aQ ah;have hn:lx c id=ly c.dz (g0 id):=by unfold lx;rw[hA]
      simp only[go_sem,Bool.not_true];refine af.intro (yD id) ?_;simp only[go_sem,hC];obtain⟨lX,nV⟩:=B2 hg (by omega);rw[hn]at lX nV aQ;obtain⟨N,bF⟩:=Int.eq_ofNat_of_zero_le (show 0≤ly c.dz (g0 id)by omega);rw[bF]at lX nV aQ;rw[aJ]at aQ;have IW:IntKind.i64.wrap ((N:Int)-1)=(N:Int)-1:=by rw[bE]<;>omega
      refine af.gV [1,2,4,5,6] (by simp only[gn,List.elem_cons,List.elem_nil,Nat.reduceBEq,Nat.reduceAdd,cond_true,cond_false];rfl) (el (n:=44) (rs:=[]) Tryz.func250 rfl Tryz.call250 Tryz.checked.mixed rfl rfl ?_);simp only[go_sem,bF,IW];refine b9.intro (α:=Nat×List ae) (fun y=>⟨(.ptr 4 0 0::.d (.int .i64 id)::aF 4 (.d (.int .i64 ((y.1:Int)-1))::aF 37 [])),[.box (J.bC c),.box J.bJ,.ag 39 (y.2.map ae.enc),.ag 2 (c.packets.map aI.enc),.box (J.aK ({c with dz:=j_ c.dz (g0 id)}) (.sl 2 0 y.2.length) (.sl 3 0 c.packets.length)),.box [.d (.int .i64 c.dz.most),.d (.int .i64 c.dz.a1),.d (.int .i64 c.dz.seen),.d (.int .i64 c.dz.closed)],.box [.d (.int .i64 (j_ c.dz (g0 id)).most),.d (.int .i64 (j_ c.dz (g0 id)).a1),.d (.int .i64 (j_ c.dz (g0 id)).seen),.d (.int .i64 (j_ c.dz (g0 id)).closed)]]⟩)
       (fun y=>y.1) (fun y=>y.1≤N∧ks c.df c.own c.dr id y.1 y.2=ks c.df c.own c.dr id N c.streams∧y.2.length+y.1≤c.streams.length+N∧∀s∈y.2,eb s) (N,c.streams) [0,1,2,3,4,5,6] ⟨by omega,rfl,by simp,mD⟩ ?_ ?_
      ·simp only[go_sem];simp
      ·rintro⟨k,l⟩ ⟨hk,he,nQ,cH⟩;simp only at hk he nQ cH
       cases k with
       |zero=>
        have hd:decide ((0:Int)≤((0:Nat):Int)-1)=false:=by decide
        simp only[go_sem,hd];have yF:ks c.df c.own c.dr id N c.streams=l:=he.symm;rw[yF,hW,hA]at aQ;simp[aQ,ah,outOA]
       |succ k=>
        have hd:decide ((0:Int)≤(k:Int))=true:=bk (by omega);have sL:((k+1:Nat):Int)-1=(k:Int):=by omega
        have yG:IntKind.i64.wrap ((k:Int)-1)=(k:Int)-1:=by rw[bE]<;>omega
        have d6:IntKind.i64.wrap (id-IntKind.i64.wrap (4 * (k:Int)))=lv id k:=rfl;have gU:=kr l (gq c.df (lv id k) c.own c.dr) (by omega) cH (BY _ _ _ _)
        try simp only[go_sem,sL,hd]
        repeat'((first|refine af.ag (by assumption) ?_|refine ar.ag (by first|assumption|apply EL) ?_|refine a9 IQ (by kernel_rfl) (by rfl) ?_|refine a9 IS (by kernel_rfl) (by rfl) ?_)<;>simp only[go_sem,I,yG,d6])
        have N4:=ET l (gq c.df (lv id k) c.own c.dr);refine bu.intro (k,dq l (gq c.df (lv id k) c.own c.dr)) [0,1,13,3,4,5,6] ⟨by omega,he,by simp only;omega,NZ cH (BY _ _ _ _)⟩ (by simp only;omega) ?_;simp only[go_sem];simp
    |false=>
     have hA:nd c id=c.dA:=by unfold nd;rw[hC];rfl
     have hW:∀a,uz c id a={c with dA:=a}:=fun a=>by unfold uz;rw[hC];rfl
     have br:=N1 c id _ hA
     try simp only[go_sem]
     repeat'((first|refine ar.ag (by first|apply N2|apply N3) ?_|refine a8 ?_|refine a9 IP (by kernel_rfl) (by rfl) ?_)<;>simp only[go_sem,I])
     rw[br]
     cases hg:ux c id with
     |false=>
      rw[hg]at aQ ah;simp only[go_sem,I,Bool.not_false];simp[aQ,ah]
     |true=>
      rw[hg]at aQ ah;have hn:lx c id=ly c.dA (g0 id):=by unfold lx;rw[hA]
      simp only[go_sem,Bool.not_true];refine af.intro (yD id) ?_;simp only[go_sem,hC];obtain⟨lX,nV⟩:=B2 hg (by omega);rw[hn]at lX nV aQ;obtain⟨N,bF⟩:=Int.eq_ofNat_of_zero_le (show 0≤ly c.dA (g0 id)by omega);rw[bF]at lX nV aQ;rw[aJ]at aQ;have IW:IntKind.i64.wrap ((N:Int)-1)=(N:Int)-1:=by rw[bE]<;>omega
      refine af.gV [1,2,4,5,6] (by simp only[gn,List.elem_cons,List.elem_nil,Nat.reduceBEq,Nat.reduceAdd,cond_true,cond_false];rfl) (el (n:=44) (rs:=[]) Tryz.func250 rfl Tryz.call250 Tryz.checked.mixed rfl rfl ?_);simp only[go_sem,bF,IW];refine b9.intro (α:=Nat×List ae) (fun y=>⟨(.ptr 4 0 0::.d (.int .i64 id)::aF 4 (.d (.int .i64 ((y.1:Int)-1))::aF 37 [])),[.box (J.bC c),.box J.bJ,.ag 39 (y.2.map ae.enc),.ag 2 (c.packets.map aI.enc),.box (J.aK ({c with dA:=j_ c.dA (g0 id)}) (.sl 2 0 y.2.length) (.sl 3 0 c.packets.length)),.box [.d (.int .i64 c.dA.most),.d (.int .i64 c.dA.a1),.d (.int .i64 c.dA.seen),.d (.int .i64 c.dA.closed)],.box [.d (.int .i64 (j_ c.dA (g0 id)).most),.d (.int .i64 (j_ c.dA (g0 id)).a1),.d (.int .i64 (j_ c.dA (g0 id)).seen),.d (.int .i64 (j_ c.dA (g0 id)).closed)]]⟩)
       (fun y=>y.1) (fun y=>y.1≤N∧ks c.df c.own c.dr id y.1 y.2=ks c.df c.own c.dr id N c.streams∧y.2.length+y.1≤c.streams.length+N∧∀s∈y.2,eb s) (N,c.streams) [0,1,2,3,4,5,6] ⟨by omega,rfl,by simp,mD⟩ ?_ ?_
      ·simp only[go_sem];simp
      ·rintro⟨k,l⟩ ⟨hk,he,nQ,cH⟩;simp only at hk he nQ cH
       cases k with
       |zero=>
        have hd:decide ((0:Int)≤((0:Nat):Int)-1)=false:=by decide
        simp only[go_sem,hd];have yF:ks c.df c.own c.dr id N c.streams=l:=he.symm;rw[yF,hW,hA]at aQ;simp[aQ,ah,outOA]
       |succ k=>
        have hd:decide ((0:Int)≤(k:Int))=true:=bk (by omega);have sL:((k+1:Nat):Int)-1=(k:Int):=by omega
        have yG:IntKind.i64.wrap ((k:Int)-1)=(k:Int)-1:=by rw[bE]<;>omega
        have d6:IntKind.i64.wrap (id-IntKind.i64.wrap (4 * (k:Int)))=lv id k:=rfl;have gU:=kr l (gq c.df (lv id k) c.own c.dr) (by omega) cH (BY _ _ _ _)
        try simp only[go_sem,sL,hd]
        repeat'((first|refine af.ag (by assumption) ?_|refine ar.ag (by first|assumption|apply EL) ?_|refine a8 ?_|refine a9 IQ (by kernel_rfl) (by rfl) ?_|refine a9 IS (by kernel_rfl) (by rfl) ?_)<;>simp only[go_sem,I,yG,d6])
        have N4:=ET l (gq c.df (lv id k) c.own c.dr);refine bu.intro (k,dq l (gq c.df (lv id k) c.own c.dr)) [0,1,13,3,4,5,6] ⟨by omega,he,by simp only;omega,NZ cH (BY _ _ _ _)⟩ (by simp only;omega) ?_;simp only[go_sem];simp
  ·have IV:decide ((0:Int)≤(j:Int))=true:=bk (by omega);have EV:decide ((j:Int)<0)=false:=bb (by omega);rw[d4,EV]at aQ;rw[d4]at ah;simp only[d4,IV];simp only[go_sem,I];simp[aQ,ah]
theorem Ue{r x y:aa}(hr:cR r=true)(hx:cR x=true)(hy:y∈jL r x):cR y=true∧x.low≤y.low∧y.high≤x.high:=by
 have h1:=(gL _).1 hr;have h2:=(gL _).1 hx;unfold jL at hy;rcases List.mem_append.1 hy with hy|hy
 ·split at hy
  ·rename_i c;rw[List.mem_singleton.1 hy,gL];simp only[c7]at c⊢;refine⟨⟨by omega,c,?_⟩,by omega,?_⟩<;>split<;>omega
  ·cases hy
 ·split at hy
  ·rename_i c;rw[List.mem_singleton.1 hy,gL];simp only[dg]at c⊢;refine⟨⟨?_,c,by omega⟩,?_,by omega⟩<;>split<;>omega
  ·cases hy
theorem ac7{r x:aa}(hr:cR r=true):(jL r x).Pairwise (fun a b=>a.high<b.low):=by
 have h1:=(gL _).1 hr;unfold jL;split<;>split<;>simp[c7,dg]<;>(repeat' split)<;>omega
theorem Uf{r:aa}(hr:cR r=true):∀(xs:List aa),(∀x∈xs,cR x=true)→xs.Pairwise (fun a b=>a.high<b.low)→
  (∀y∈xs.flatMap (jL r),cR y=true∧∃x∈xs,x.low≤y.low∧y.high≤x.high)∧(xs.flatMap (jL r)).Pairwise (fun a b=>a.high<b.low)
 |[],_,_=>by simp
 |x::xs,h1,h2=>by
  have hG:=List.pairwise_cons.1 h2;obtain⟨cC,cT⟩:=Uf hr xs (fun y hy=>h1 y (by simp[hy])) hG.2;rw[List.flatMap_cons];refine⟨fun y hy=>?_,List.pairwise_append.2 ⟨ac7 hr,cT,fun a ha b hb=>?_⟩⟩
  ·rcases List.mem_append.1 hy with hy|hy
   ·have:=Ue hr (h1 x (by simp)) hy;exact⟨this.1,x,by simp,this.2⟩
   ·obtain⟨cF,z,hz,bh⟩:=cC y hy;exact⟨cF,z,by simp[hz],bh⟩
  ·have cF:=Ue hr (h1 x (by simp)) ha;obtain⟨_,z,hz,bh⟩:=cC b hb;have:=hG.1 z hz;omega
theorem Ug{r x:aa}(h:¬(x.low<r.low∧r.high<x.high)):(jL r x).length≤1:=by
 unfold jL;split<;>split<;>simp;rename_i dv dD;simp only[c7,dg]at dv dD;split at dv<;>split at dD<;>omega
theorem Uh{r:aa}:∀(xs:List aa),(∀x∈xs,r.low≤x.low)→(xs.flatMap (jL r)).length≤xs.length
 |[],_=>by simp
 |x::xs,h=>by
  have:=Uh xs (fun y hy=>h y (by simp[hy]));have:=Ug (r:=r) (x:=x) (fun g=>by have:=h x (by simp);omega);rw[List.flatMap_cons,List.length_append,List.length_cons];omega
theorem Ui{r:aa}(hr:cR r=true):∀(xs:List aa),xs.Pairwise (fun a b=>a.high<b.low)→(xs.flatMap (jL r)).length≤xs.length+1
 |[],_=>by simp
 |x::xs,h=>by
  have h':=List.pairwise_cons.1 h;have i0:=(gL _).1 hr;rw[List.flatMap_cons,List.length_append,List.length_cons];by_cases c:x.low<r.low∧r.high<x.high
  ·have:=Uh (r:=r) xs (fun y hy=>by have:=h'.1 y hy;omega);have:=T8 r x;omega
  ·have:=Ui hr xs h'.2;have:=Ug c;omega
theorem RZ{xs:List aa}{r:aa}(h:cx xs=true):cx (mW xs r)=true∧(mW xs r).length≤xs.length+1∧∀y∈mW xs r,∃x∈xs,x.low≤y.low∧y.high≤x.high:=by
 unfold mW;split
 ·rename_i g;have hr:cR r=true:=by revert g;rw[h];simp
  have hs:=(jK xs).1 h;obtain⟨cC,cT⟩:=Uf hr xs hs.1 hs.2;exact⟨(jK _).2 ⟨fun y hy=>(cC y hy).1,cT⟩,Ui hr xs hs.2,fun y hy=>(cC y hy).2⟩
 ·exact⟨h,by omega,fun y hy=>⟨y,hy,by omega,by omega⟩⟩
theorem ac8{x y z:aa}(hx:cR x=true)(hy:cR y=true)(hz:z∈hN x y):cR z=true∧x.low≤z.low∧z.high≤x.high:=by
 have h1:=(gL _).1 hx;have h2:=(gL _).1 hy;unfold hN at hz;split at hz
 ·rename_i c;rw[List.mem_singleton.1 hz,gL];simp only[c7,dg]at c⊢;refine⟨⟨?_,c,?_⟩,?_,?_⟩<;>split<;>omega
 ·cases hz
theorem LA(xs:List aa)(r:aa):(jj xs [r]).length≤xs.length∧∀z∈jj xs [r],cR z=true∧∃x∈xs,x.low≤z.low∧z.high≤x.high:=by
 unfold jj;split
 ·rename_i g;simp only[Bool.and_eq_true]at g;have hs:=(jK xs).1 g.1;have hr:=((jK [r]).1 g.2).1 r (by simp);have e:(xs.flatMap fun x=>[r].flatMap (hN x))=xs.flatMap fun x=>hN x r:=by
   congr 1;funext x;simp
  rw[e];refine⟨by have:=BB (fun x=>hN x r) 1 (fun x=>MF x r) xs;omega,fun z hz=>?_⟩;obtain⟨x,hx,hz⟩:=List.mem_flatMap.1 hz;have:=ac8 (hs.1 x hx) hr hz;exact⟨this.1,x,hx,this.2⟩
 ·exact⟨by simp,fun z hz=>by cases hz⟩
set_option maxRecDepth 100000
def HN:List (List bt):=cE 10 [59048,59046,59040,59022,56781,56619,56133,57915,52488,39366]
attribute [go_sem] HN
def Bj(s:aM)(p:bS):Bool:=ez s&&decide (s.state≤2)&&ve s p&&!(decide (p.data=[])&&!p.ba)&&!(p.ba&&decide (s.ba≠1))
def nk(s:aM)(p:bS):Bool:=Bj s p&&(decide (p.data=[])||decide (jj s.pending [eA p]=[eA p]))
def xR(s:aM)(p:bS):aM:=if p.data=[]then s else {s with pending:=mW s.pending (eA p),flight:=fs s.flight (eA p),sent:=dg s.sent (eA p).high}
def zm(s:aM)(p:bS):aM:=if p.ba then {s with ba:=2}else s
def nC(s:aM):aM:={s with state:=BE s}
def n0(s:aM)(p:bS):aM:=if nk s p then nC (zm (xR s p) p)else s
set_option maxHeartbeats 8000000 in
theorem W3(aX a4 a5 a2:Int)(aU:List Int)(aD aA aE:List aa)(a3 aY aW a6 cO:Int)(cz:List UInt8)(cI:Bool)(hc:aD.length+aA.length+aE.length≤524288)(hr:aU.length≤8388608)(hd:cz.length≤1048576):PureCall Tryz.prog 246 [.agg [.int .i64 aX,.int .i64 a4,.int .i64 a5,.int .i64 a2,.sl 1 (aU.map a'),.sl 2 (aD.map aa.enc),.sl 2 (aA.map aa.enc),.sl 2 (aE.map aa.enc),.int .i64 a3,.int .i64 aY,.int .i64 aW,.int .i64 a6],.agg [.int .i64 cO,.str cz,.bool cI]] [.agg (aM.enc (n0 (⟨aX,⟨a4,a5,a2,aU⟩,aD,aA,aE,a3,aY,aW,a6⟩:aM) (⟨cO,cz,cI⟩:bS))),.one (.bool (nk (⟨aX,⟨a4,a5,a2,aU⟩,aD,aA,aE,a3,aY,aW,a6⟩:aM) (⟨cO,cz,cI⟩:bS)))]:=by
 refine aP 89 Tryz.func246 Tryz.call246 [.cell 4 48,.tmp 5] ?_;intro _;have ah:(bif bif bif bif !ez (⟨aX,⟨a4,a5,a2,aU⟩,aD,aA,aE,a3,aY,aW,a6⟩:aM)then true else decide (2<aX)then true else !ve (⟨aX,⟨a4,a5,a2,aU⟩,aD,aA,aE,a3,aY,aW,a6⟩:aM) (⟨cO,cz,cI⟩:bS)then true else bif decide (cz=[])then !cI else false then true else bif cI then decide (aY≠1)else false)=!Bj (⟨aX,⟨a4,a5,a2,aU⟩,aD,aA,aE,a3,aY,aW,a6⟩:aM) (⟨cO,cz,cI⟩:bS):=by
  have e:decide (2<aX)=!decide (aX≤2):=by by_cases h:aX≤2<;>simp[h]<;>omega
  simp only[Bj,e]
  cases ez (⟨aX,⟨a4,a5,a2,aU⟩,aD,aA,aE,a3,aY,aW,a6⟩:aM)<;>cases decide (aX≤2)<;>cases ve (⟨aX,⟨a4,a5,a2,aU⟩,aD,aA,aE,a3,aY,aW,a6⟩:aM) (⟨cO,cz,cI⟩:bS)<;>cases decide (cz=[])<;>cases cI<;>cases decide (aY≠1)<;>rfl
 cases br:Bj (⟨aX,⟨a4,a5,a2,aU⟩,aD,aA,aE,a3,aY,aW,a6⟩:aM) (⟨cO,cz,cI⟩:bS)with
 |false=>
  have cn:nk (⟨aX,⟨a4,a5,a2,aU⟩,aD,aA,aE,a3,aY,aW,a6⟩:aM) (⟨cO,cz,cI⟩:bS)=false:=by simp[nk,br]
  rw[br]at ah
  try simp only[go_sem]
  repeat'((first|refine af.intro (by first|(apply nW<;>first|assumption|omega)|(apply j1<;>first|assumption|omega)) ?_|refine ar.intro (by apply BG) ?_|refine a8 ?_)<;>simp only[go_sem,I])
  rw[ah];simp only[go_sem,Bool.not_false,I];simp[n0,cn]
 |true=>
  have hw:=br;simp only[Bj,Bool.and_eq_true,decide_eq_true_eq,and_assoc]at hw;obtain⟨z0,kP,HO,HP,HQ⟩:=hw;rw[br]at ah;have Bn:=MG aD [eA (⟨cO,cz,cI⟩:bS)] (by omega) (by simp);have xY:=ME aD (eA (⟨cO,cz,cI⟩:bS)).low (eA (⟨cO,cz,cI⟩:bS)).high (by omega);have adE:=te aA (eA (⟨cO,cz,cI⟩:bS)).low (eA (⟨cO,cz,cI⟩:bS)).high (by omega)
  try simp only[go_sem]
  repeat'((first|refine af.intro (by first|assumption|(apply nW<;>first|assumption|omega)|(apply j1<;>first|assumption|omega)) ?_|refine ar.intro (by first|assumption|apply BG) ?_|refine a8 ?_)<;>simp only[go_sem,I])
  rw[ah];simp only[go_sem,Bool.not_true];by_cases mu:cz=[]
  ·have aT:decide (cz≠[])=false:=bb (fun h=>h mu);have cn:nk (⟨aX,⟨a4,a5,a2,aU⟩,aD,aA,aE,a3,aY,aW,a6⟩:aM) (⟨cO,cz,cI⟩:bS)=true:=by unfold nk;rw[br];simp only[mu,decide_true,Bool.true_or,Bool.and_self]
   have aQ:n0 (⟨aX,⟨a4,a5,a2,aU⟩,aD,aA,aE,a3,aY,aW,a6⟩:aM) (⟨cO,cz,cI⟩:bS)=nC (zm (xR (⟨aX,⟨a4,a5,a2,aU⟩,aD,aA,aE,a3,aY,aW,a6⟩:aM) (⟨cO,cz,cI⟩:bS)) (⟨cO,cz,cI⟩:bS)):=by unfold n0;rw[cn];rfl
   have bR:xR (⟨aX,⟨a4,a5,a2,aU⟩,aD,aA,aE,a3,aY,aW,a6⟩:aM) (⟨cO,cz,cI⟩:bS)=(⟨aX,⟨a4,a5,a2,aU⟩,aD,aA,aE,a3,aY,aW,a6⟩:aM):=by unfold xR;exact if_pos mu
   rw[bR]at aQ;clear ah br z0 HO HP HQ Bn xY adE
   try simp only[go_sem,aT]
   repeat'(first|((first|refine af.intro (by apply zK) ?_|refine bq (fun h=>?_) (fun h=>?_))<;>simp only[go_sem,I])|(with_reducible refine aq ?_)|fail)
   all_goals(rw[aQ,cn];subst h;simp only[nC,zm,if_true,Bool.false_eq_true,if_false];try simp[outOA])
  ·have aT:decide (cz≠[])=true:=bk mu;by_cases w3:jj aD [eA (⟨cO,cz,cI⟩:bS)]=[eA (⟨cO,cz,cI⟩:bS)]
   ·have cn:nk (⟨aX,⟨a4,a5,a2,aU⟩,aD,aA,aE,a3,aY,aW,a6⟩:aM) (⟨cO,cz,cI⟩:bS)=true:=by unfold nk;rw[br];simp only[w3,decide_true,Bool.or_true,Bool.and_self]
    have aQ:n0 (⟨aX,⟨a4,a5,a2,aU⟩,aD,aA,aE,a3,aY,aW,a6⟩:aM) (⟨cO,cz,cI⟩:bS)=nC (zm (xR (⟨aX,⟨a4,a5,a2,aU⟩,aD,aA,aE,a3,aY,aW,a6⟩:aM) (⟨cO,cz,cI⟩:bS)) (⟨cO,cz,cI⟩:bS)):=by unfold n0;rw[cn];rfl
    have bR:xR (⟨aX,⟨a4,a5,a2,aU⟩,aD,aA,aE,a3,aY,aW,a6⟩:aM) (⟨cO,cz,cI⟩:bS)={(⟨aX,⟨a4,a5,a2,aU⟩,aD,aA,aE,a3,aY,aW,a6⟩:aM)with pending:=mW aD (eA (⟨cO,cz,cI⟩:bS)),flight:=fs aA (eA (⟨cO,cz,cI⟩:bS)),sent:=dg aW (eA (⟨cO,cz,cI⟩:bS)).high}:=by unfold xR;exact if_neg mu
    rw[bR]at aQ;rw[w3]at Bn;clear ah br z0 HO HP HQ;have bj:decide (((1:Nat):Int)≠1)=false:=by decide
    try simp only[go_sem,aT,List.length_cons,List.length_nil]
    repeat'(first|((first|refine af.intro (by first|assumption|apply Es|apply zK) ?_|refine ar.intro (by assumption) ?_|with_reducible refine lk ?_|refine a9 HN (by kernel_rfl) (by rfl) ?_|refine bq (fun h=>?_) (fun h=>?_))<;>simp only[go_sem,I,bj,aa.enc,List.map_cons,List.map_nil,List.length_cons,List.length_nil,Int.toNat_zero])|(with_reducible refine aq ?_)|fail)
    all_goals(rw[aQ,cn];subst h;simp only[nC,zm,if_true,Bool.false_eq_true,if_false,dg];try rfl;try simp[outOA])
   ·have cn:nk (⟨aX,⟨a4,a5,a2,aU⟩,aD,aA,aE,a3,aY,aW,a6⟩:aM) (⟨cO,cz,cI⟩:bS)=false:=by unfold nk;rw[br];simp only[bb mu,bb w3,Bool.or_self,Bool.and_false]
    have aQ:n0 (⟨aX,⟨a4,a5,a2,aU⟩,aD,aA,aE,a3,aY,aW,a6⟩:aM) (⟨cO,cz,cI⟩:bS)=(⟨aX,⟨a4,a5,a2,aU⟩,aD,aA,aE,a3,aY,aW,a6⟩:aM):=by unfold n0;rw[cn];rfl
    by_cases hl:(jj aD [eA (⟨cO,cz,cI⟩:bS)]).length=1
    ·obtain⟨y,hy⟩:=List.length_eq_one_iff.1 hl;have bj:decide (((1:Nat):Int)≠1)=false:=by decide
     rw[hy]at Bn w3;have hne:¬(y.low=(eA (⟨cO,cz,cI⟩:bS)).low∧y.high=(eA (⟨cO,cz,cI⟩:bS)).high):=fun g=>w3 (by rw[show y=eA (⟨cO,cz,cI⟩:bS)from by cases y;cases g;simp_all]);have cr:(decide (y.low=(eA (⟨cO,cz,cI⟩:bS)).low)&&decide (y.high=(eA (⟨cO,cz,cI⟩:bS)).high))=false:=by
      rw[Bool.and_eq_false_iff,decide_eq_false_iff_not,decide_eq_false_iff_not];exact Classical.not_and_iff_not_or_not.1 hne
     clear ah br z0 HO HP HQ
     try simp only[go_sem,aT,List.length_cons,List.length_nil]
     repeat'(first|((first|refine af.intro (by first|assumption|apply Es) ?_|refine ar.intro (by assumption) ?_|with_reducible refine lk ?_|refine a9 HN (by kernel_rfl) (by rfl) ?_)<;>simp only[go_sem,I,bj,cr,aa.enc,List.map_cons,List.map_nil,List.length_cons,List.length_nil,Int.toNat_zero,Bool.not_false])|(with_reducible refine aq ?_)|fail)
     all_goals(rw[aQ,cn];try simp[outOA,fk])
    ·have bj:decide (((jj aD [eA (⟨cO,cz,cI⟩:bS)]).length:Int)≠1)=true:=bk (by omega);clear ah br z0 HO HP HQ
     try simp only[go_sem,aT]
     repeat'(first|((first|refine af.intro (by first|assumption|apply Es) ?_|refine ar.intro (by assumption) ?_|with_reducible refine j9 ?_|refine a9 HN (by kernel_rfl) (by rfl) ?_)<;>simp only[go_sem,I,bj])|(with_reducible refine aq ?_)|fail)
     all_goals(rw[aQ,cn];try simp[outOA,fk])
set_option maxRecDepth 100000
def MZ:List (List bt):=cE 12 [511640,511638,511753,511735,511681,511515,511029,503010,448335,521599,478953,354294]
def M0:List (List bt):=cE 7 [2069,2067,2182,2164,2110,1944,1458]
def M1:List (List bt):=cE 9 [19322,19320,19651,19669,19606,19444,18954,17496,13122]
attribute [go_sem] MZ M0 M1
def yi(s:aM)(p:bS):Bool:=ez s&&decide (s.state≤2)&&ve s p
def jY(g6 c:List aa):List aa:=c.foldl mW g6
theorem Uw(g6 c:List aa)(i:Nat)(h:i<c.length):jY g6 (c.take (i+1))=mW (jY g6 (c.take i)) c[i]:=vv mW g6 c i h
theorem GK:∀(c g6:List aa),cx g6=true→cx (jY g6 c)=true∧(jY g6 c).length≤g6.length+c.length∧∀y∈jY g6 c,∃x∈g6,x.low≤y.low∧y.high≤x.high
 |[],g6,h=>⟨h,by simp[jY],fun y hy=>⟨y,hy,by omega,by omega⟩⟩
 |r::c,g6,h=>by
  obtain⟨cC,cT,eI⟩:=RZ (r:=r) h;obtain⟨cF,bh,bI⟩:=GK c (mW g6 r) cC;refine⟨cF,by have e:jY g6 (r::c)=jY (mW g6 r) c:=rfl;rw[e,List.length_cons];omega,fun y hy=>?_⟩;obtain⟨x,hx,uS⟩:=bI y hy;obtain⟨z,hz,kX⟩:=eI x hx;exact⟨z,hz,by omega,by omega⟩
def nD(s:aM)(p:bS):aM:=if p.data=[]then s else {s with flight:=jY s.flight (jj s.flight [eA p]),cb:=dZ s.cb (jj s.flight [eA p])}
def lL(f:Int)(s:aM)(p:bS):aM:=if(p.ba&&decide (s.ba=2))=true then {s with ba:=f}else s
def DF(r:c5)(s:aM):aM:={s with ring:=vf r (tg s.cb 0)}
def xS(s:aM)(p:bS):aM:=if yi s p then nC (DF s.ring (lL 3 (nD s p) p))else s
theorem Ux(s:aM)(p:bS):(bif bif !ez s then true else decide (2<s.state)then true else !ve s p)=!yi s p:=by
 have e:decide (2<s.state)=!decide (s.state≤2):=by by_cases h:s.state≤2<;>simp[h]<;>omega
 simp only[yi,e]
 cases ez s<;>cases decide (s.state≤2)<;>cases ve s p<;>rfl
theorem Uy{s:aM}(h:ez s=true):cx s.pending=true∧cx s.flight=true∧cx s.cb=true:=by
 simp only[ez,jl,Bool.and_eq_true,and_assoc]at h;exact⟨h.2.1,h.2.2.1,h.2.2.2.1⟩
set_option maxHeartbeats 8000000 in
theorem acV(aX a4 a5 a2:Int)(aU:List Int)(aD aA aE:List aa)(a3 aY aW a6 cO:Int)(cz:List UInt8)(cI:Bool)(hc:aD.length+aA.length+aE.length≤262144)(hr:aU.length≤8388608)(hd:cz.length≤1048576):PureCall Tryz.prog 229 [.agg [.int .i64 aX,.int .i64 a4,.int .i64 a5,.int .i64 a2,.sl 1 (aU.map a'),.sl 2 (aD.map aa.enc),.sl 2 (aA.map aa.enc),.sl 2 (aE.map aa.enc),.int .i64 a3,.int .i64 aY,.int .i64 aW,.int .i64 a6],.agg [.int .i64 cO,.str cz,.bool cI]] [.agg (aM.enc (xS (⟨aX,⟨a4,a5,a2,aU⟩,aD,aA,aE,a3,aY,aW,a6⟩:aM) (⟨cO,cz,cI⟩:bS)))]:=by
 refine aP 81 Tryz.func229 Tryz.call229 [.cell 4 48] ?_;intro _;have ah:=Ux (⟨aX,⟨a4,a5,a2,aU⟩,aD,aA,aE,a3,aY,aW,a6⟩:aM) (⟨cO,cz,cI⟩:bS)
 cases br:yi (⟨aX,⟨a4,a5,a2,aU⟩,aD,aA,aE,a3,aY,aW,a6⟩:aM) (⟨cO,cz,cI⟩:bS)with
 |false=>
  rw[br]at ah
  try simp only[go_sem]
  repeat'((first|refine af.intro (by first|(apply nW<;>first|assumption|omega)|(apply j1<;>first|assumption|omega)) ?_|refine ar.intro (by apply BG) ?_|refine a8 ?_)<;>simp only[go_sem,I])
  rw[ah];simp only[go_sem,Bool.not_false,I];simp[xS,br]
 |true=>
  have hw:=br;simp only[yi,Bool.and_eq_true,decide_eq_true_eq,and_assoc]at hw;have Et:=Uy hw.1;simp only at Et;rw[br]at ah;have aQ:xS (⟨aX,⟨a4,a5,a2,aU⟩,aD,aA,aE,a3,aY,aW,a6⟩:aM) (⟨cO,cz,cI⟩:bS)=nC (DF (⟨aX,⟨a4,a5,a2,aU⟩,aD,aA,aE,a3,aY,aW,a6⟩:aM).ring (lL 3 (nD (⟨aX,⟨a4,a5,a2,aU⟩,aD,aA,aE,a3,aY,aW,a6⟩:aM) (⟨cO,cz,cI⟩:bS)) (⟨cO,cz,cI⟩:bS))):=by unfold xS;rw[br];rfl
  have Bn:=MG aA [eA (⟨cO,cz,cI⟩:bS)] (by omega) (by simp);have adF:=LA aA (eA (⟨cO,cz,cI⟩:bS))
  try simp only[go_sem]
  repeat'((first|refine af.intro (by first|assumption|(apply nW<;>first|assumption|omega)|(apply j1<;>first|assumption|omega)) ?_|refine ar.intro (by first|assumption|apply BG) ?_|refine a8 ?_)<;>simp only[go_sem,I])
  rw[ah];simp only[go_sem,Bool.not_true];by_cases mu:cz=[]
  ·have aT:decide (cz≠[])=false:=bb (fun h=>h mu);have bR:nD (⟨aX,⟨a4,a5,a2,aU⟩,aD,aA,aE,a3,aY,aW,a6⟩:aM) (⟨cO,cz,cI⟩:bS)=(⟨aX,⟨a4,a5,a2,aU⟩,aD,aA,aE,a3,aY,aW,a6⟩:aM):=by unfold nD;exact if_pos mu
   rw[bR]at aQ;clear ah br hw
   try simp only[go_sem,aT]
   repeat'(first|((first|refine af.intro (by first|assumption|apply zK) ?_|refine ar.intro (by first|assumption|apply wP|(apply TZ<;>first|assumption|omega)) ?_|refine a8 ?_|refine a9 MZ (by kernel_rfl) (by rfl) ?_|refine bq (fun h=>?_) (fun h=>?_))<;>simp only[go_sem,I])|(with_reducible refine aq ?_)|fail)
   all_goals(simp only[b7]at h;rw[aQ];simp only[nC,DF,lL,h,if_true,Bool.false_eq_true,if_false];try rfl;try simp[outOA])
  ·have aT:decide (cz≠[])=true:=bk mu;clear ah br hw
   try simp only[go_sem,aT]
   repeat'((first|refine af.intro (by assumption) ?_|refine ar.intro (by first|assumption|apply Es) ?_|refine a9 M0 (by kernel_rfl) (by rfl) ?_)<;>simp only[go_sem,I])
   have bR:nD (⟨aX,⟨a4,a5,a2,aU⟩,aD,aA,aE,a3,aY,aW,a6⟩:aM) (⟨cO,cz,cI⟩:bS)={(⟨aX,⟨a4,a5,a2,aU⟩,aD,aA,aE,a3,aY,aW,a6⟩:aM)with flight:=jY aA (jj aA [eA (⟨cO,cz,cI⟩:bS)]),cb:=dZ aE (jj aA [eA (⟨cO,cz,cI⟩:bS)])}:=by unfold nD;exact if_neg mu
   rw[bR]at aQ;generalize hcc:jj aA [eA (⟨cO,cz,cI⟩:bS)]=c at *;refine b9.intro (fun i:Nat=>⟨(.ab::.ab::.ptr 0 0 0::.ptr 1 0 0::.ptr 2 0 0::.ptr 7 0 0::.sl 8 0 c.length::.d (.int .i64 i)::aF 73 []),[.box [.d (.int .i64 aX),.d (.int .i64 a4),.d (.int .i64 a5),.d (.int .i64 a2),.d (.sl 1 (aU.map a')),.d (.sl 2 (aD.map aa.enc)),.d (.sl 2 (aA.map aa.enc)),.d (.sl 2 (aE.map aa.enc)),.d (.int .i64 a3),.d (.int .i64 aY),.d (.int .i64 aW),.d (.int .i64 a6)],.box [.d (.int .i64 cO),.d (.str cz),.d (.bool cI)],.box aM.bJ,.ao 1 (aU.map a') true,.ao 2 (aD.map aa.enc) true,.ao 2 ((jY aA (c.take i)).map aa.enc) true,.ao 2 ((dZ aE (c.take i)).map aa.enc) true,.box [.d (.int .i64 aX),.d (.int .i64 a4),.d (.int .i64 a5),.d (.int .i64 a2),.sl 3 0 aU.length,.sl 4 0 aD.length,.sl 5 0 (jY aA (c.take i)).length,.sl 6 0 (dZ aE (c.take i)).length,.d (.int .i64 a3),.d (.int .i64 aY),.d (.int .i64 aW),.d (.int .i64 a6)],.ao 2 (c.map aa.enc) true]⟩)
    (fun i=>c.length-i) (fun i=>i≤c.length) 0 [0,1,2,3,4,5,6,7,9] (by omega) ?_ ?_
   ·simp only[go_sem];simp[jY,dZ]
   ·intro i hi;have bV:=(GK (c.take i) aA Et.2.1).2.1;have hA:=nL (c.take i) aE;have cw:(c.take i).length=i:=by simp;omega
    by_cases h1:i<c.length
    ·have au:decide ((i:Int)<(c.length:Int))=true:=bk (by omega);have aB:=b4 aa.enc c i h1;have kP:=dE (i:=i) (m:=524288) (by omega) (by simp[maxLen]);have D_:=Uw aA c i h1;have nf:=yf aE c i h1;generalize adG:jY aA (c.take i)=g6 at *;generalize BT:dZ aE (c.take i)=adH at *;have xY:=ME g6 c[i].low c[i].high (by omega)
     try simp only[go_sem,au]
     repeat'(first|((first|refine af.intro (by assumption) ?_|refine ar.intro (by first|assumption|(apply te<;>first|assumption|omega)) ?_|refine a9 M1 (by kernel_rfl) (by rfl) ?_)<;>simp only[go_sem,I,aJ,aB,aa.enc])|(with_reducible refine aq ?_)|fail)
     refine bu.intro (i+1) [0,1,2,3,4,9,10,7,8] (by omega) (by omega) ?_;simp only[go_sem,kP,D_,nf];simp
    ·have au:decide ((i:Int)<(c.length:Int))=false:=bb (by omega);obtain rfl:i=c.length:=by omega
     rw[dK]at bV hA
     try simp only[go_sem,au,dK]
     repeat'(first|((first|refine af.intro (by first|assumption|apply zK) ?_|refine ar.intro (by first|assumption|apply wP|(apply TZ<;>first|assumption|omega)) ?_|refine a8 ?_|refine a9 MZ (by kernel_rfl) (by rfl) ?_|refine bq (fun h=>?_) (fun h=>?_))<;>simp only[go_sem,I])|(with_reducible refine aq ?_)|fail)
     all_goals(simp only[b7]at h;rw[aQ];simp only[nC,DF,lL,h,if_true,Bool.false_eq_true,if_false];try rfl;try simp[outOA])
def zn(s:aM)(p:bS):aM:=if p.data=[]then s else {s with flight:=jY s.flight (jj s.flight [eA p]),pending:=dZ s.pending (jj s.flight [eA p])}
def wA(s:aM)(p:bS):aM:=if yi s p then nC (lL 1 (zn s p) p)else s
set_option maxHeartbeats 8000000 in
theorem acX(aX a4 a5 a2:Int)(aU:List Int)(aD aA aE:List aa)(a3 aY aW a6 cO:Int)(cz:List UInt8)(cI:Bool)(hc:aD.length+aA.length+aE.length≤262144)(hr:aU.length≤8388608)(hd:cz.length≤1048576):PureCall Tryz.prog 227 [.agg [.int .i64 aX,.int .i64 a4,.int .i64 a5,.int .i64 a2,.sl 1 (aU.map a'),.sl 2 (aD.map aa.enc),.sl 2 (aA.map aa.enc),.sl 2 (aE.map aa.enc),.int .i64 a3,.int .i64 aY,.int .i64 aW,.int .i64 a6],.agg [.int .i64 cO,.str cz,.bool cI]] [.agg (aM.enc (wA (⟨aX,⟨a4,a5,a2,aU⟩,aD,aA,aE,a3,aY,aW,a6⟩:aM) (⟨cO,cz,cI⟩:bS)))]:=by
 refine aP 68 Tryz.func227 Tryz.call227 [.cell 4 48] ?_;intro _;have ah:=Ux (⟨aX,⟨a4,a5,a2,aU⟩,aD,aA,aE,a3,aY,aW,a6⟩:aM) (⟨cO,cz,cI⟩:bS)
 cases br:yi (⟨aX,⟨a4,a5,a2,aU⟩,aD,aA,aE,a3,aY,aW,a6⟩:aM) (⟨cO,cz,cI⟩:bS)with
 |false=>
  rw[br]at ah
  try simp only[go_sem]
  repeat'((first|refine af.intro (by first|(apply nW<;>first|assumption|omega)|(apply j1<;>first|assumption|omega)) ?_|refine ar.intro (by apply BG) ?_|refine a8 ?_)<;>simp only[go_sem,I])
  rw[ah];simp only[go_sem,Bool.not_false,I];simp[wA,br]
 |true=>
  have hw:=br;simp only[yi,Bool.and_eq_true,decide_eq_true_eq,and_assoc]at hw;have Et:=Uy hw.1;simp only at Et;rw[br]at ah;have aQ:wA (⟨aX,⟨a4,a5,a2,aU⟩,aD,aA,aE,a3,aY,aW,a6⟩:aM) (⟨cO,cz,cI⟩:bS)=nC (lL 1 (zn (⟨aX,⟨a4,a5,a2,aU⟩,aD,aA,aE,a3,aY,aW,a6⟩:aM) (⟨cO,cz,cI⟩:bS)) (⟨cO,cz,cI⟩:bS)):=by unfold wA;rw[br];rfl
  have Bn:=MG aA [eA (⟨cO,cz,cI⟩:bS)] (by omega) (by simp);have adF:=LA aA (eA (⟨cO,cz,cI⟩:bS))
  try simp only[go_sem]
  repeat'((first|refine af.intro (by first|assumption|(apply nW<;>first|assumption|omega)|(apply j1<;>first|assumption|omega)) ?_|refine ar.intro (by first|assumption|apply BG) ?_|refine a8 ?_)<;>simp only[go_sem,I])
  rw[ah];simp only[go_sem,Bool.not_true];by_cases mu:cz=[]
  ·have aT:decide (cz≠[])=false:=bb (fun h=>h mu);have bR:zn (⟨aX,⟨a4,a5,a2,aU⟩,aD,aA,aE,a3,aY,aW,a6⟩:aM) (⟨cO,cz,cI⟩:bS)=(⟨aX,⟨a4,a5,a2,aU⟩,aD,aA,aE,a3,aY,aW,a6⟩:aM):=by unfold zn;exact if_pos mu
   rw[bR]at aQ;clear ah br hw
   try simp only[go_sem,aT]
   repeat'(first|((first|refine af.intro (by first|assumption|apply zK) ?_|refine ar.intro (by assumption) ?_|refine a8 ?_|refine bq (fun h=>?_) (fun h=>?_))<;>simp only[go_sem,I])|(with_reducible refine aq ?_)|fail)
   all_goals(simp only[b7]at h;rw[aQ];simp only[nC,lL,h,if_true,Bool.false_eq_true,if_false];try rfl;try simp[outOA])
  ·have aT:decide (cz≠[])=true:=bk mu;clear ah br hw
   try simp only[go_sem,aT]
   repeat'((first|refine af.intro (by assumption) ?_|refine ar.intro (by first|assumption|apply Es) ?_|refine a9 M0 (by kernel_rfl) (by rfl) ?_)<;>simp only[go_sem,I])
   have bR:zn (⟨aX,⟨a4,a5,a2,aU⟩,aD,aA,aE,a3,aY,aW,a6⟩:aM) (⟨cO,cz,cI⟩:bS)={(⟨aX,⟨a4,a5,a2,aU⟩,aD,aA,aE,a3,aY,aW,a6⟩:aM)with flight:=jY aA (jj aA [eA (⟨cO,cz,cI⟩:bS)]),pending:=dZ aD (jj aA [eA (⟨cO,cz,cI⟩:bS)])}:=by unfold zn;exact if_neg mu
   rw[bR]at aQ;generalize hcc:jj aA [eA (⟨cO,cz,cI⟩:bS)]=c at *;refine b9.intro (fun i:Nat=>⟨(.ab::.ab::.ptr 0 0 0::.ptr 1 0 0::.ptr 2 0 0::.ptr 7 0 0::.sl 8 0 c.length::.d (.int .i64 i)::aF 60 []),[.box [.d (.int .i64 aX),.d (.int .i64 a4),.d (.int .i64 a5),.d (.int .i64 a2),.d (.sl 1 (aU.map a')),.d (.sl 2 (aD.map aa.enc)),.d (.sl 2 (aA.map aa.enc)),.d (.sl 2 (aE.map aa.enc)),.d (.int .i64 a3),.d (.int .i64 aY),.d (.int .i64 aW),.d (.int .i64 a6)],.box [.d (.int .i64 cO),.d (.str cz),.d (.bool cI)],.box aM.bJ,.ao 1 (aU.map a') true,.ao 2 ((dZ aD (c.take i)).map aa.enc) true,.ao 2 ((jY aA (c.take i)).map aa.enc) true,.ao 2 (aE.map aa.enc) true,.box [.d (.int .i64 aX),.d (.int .i64 a4),.d (.int .i64 a5),.d (.int .i64 a2),.sl 3 0 aU.length,.sl 4 0 (dZ aD (c.take i)).length,.sl 5 0 (jY aA (c.take i)).length,.sl 6 0 aE.length,.d (.int .i64 a3),.d (.int .i64 aY),.d (.int .i64 aW),.d (.int .i64 a6)],.ao 2 (c.map aa.enc) true]⟩)
    (fun i=>c.length-i) (fun i=>i≤c.length) 0 [0,1,2,3,4,5,6,7,9] (by omega) ?_ ?_
   ·simp only[go_sem];simp[jY,dZ]
   ·intro i hi;have bV:=(GK (c.take i) aA Et.2.1).2.1;have hA:=nL (c.take i) aD;have cw:(c.take i).length=i:=by simp;omega
    by_cases h1:i<c.length
    ·have au:decide ((i:Int)<(c.length:Int))=true:=bk (by omega);have aB:=b4 aa.enc c i h1;have kP:=dE (i:=i) (m:=524288) (by omega) (by simp[maxLen]);have D_:=Uw aA c i h1;have nf:=yf aD c i h1;generalize adG:jY aA (c.take i)=g6 at *;generalize BT:dZ aD (c.take i)=adH at *;have xY:=ME g6 c[i].low c[i].high (by omega)
     try simp only[go_sem,au]
     repeat'(first|((first|refine af.intro (by assumption) ?_|refine ar.intro (by first|assumption|(apply te<;>first|assumption|omega)) ?_|refine a9 M1 (by kernel_rfl) (by rfl) ?_)<;>simp only[go_sem,I,aJ,aB,aa.enc])|(with_reducible refine aq ?_)|fail)
     refine bu.intro (i+1) [0,1,2,3,10,9,6,7,8] (by omega) (by omega) ?_;simp only[go_sem,kP,D_,nf];simp
    ·have au:decide ((i:Int)<(c.length:Int))=false:=bb (by omega);obtain rfl:i=c.length:=by omega
     rw[dK]at bV hA
     try simp only[go_sem,au,dK]
     repeat'(first|((first|refine af.intro (by first|assumption|apply zK) ?_|refine ar.intro (by assumption) ?_|refine a8 ?_|refine bq (fun h=>?_) (fun h=>?_))<;>simp only[go_sem,I])|(with_reducible refine aq ?_)|fail)
     all_goals(simp only[b7]at h;rw[aQ];simp only[nC,lL,h,if_true,Bool.false_eq_true,if_false];try rfl;try simp[outOA])
set_option maxRecDepth 100000
def aw(c:J)(id:Int):ae:=(bN c.streams id).1
def jw(c:J)(id:Int):Bool:=iS c&&(bN c.streams id).2&&(aw c id).eo
theorem EK(c:J)(id:Int):(bif bif !iS c then true else !(bN c.streams id).2 then true else !(aw c id).eo)=!jw c id:=by
 unfold jw
 cases iS c<;>cases(bN c.streams id).2<;>cases(aw c id).eo<;>rfl
def f0(s:ae)(x:aM):ae:={s with send:=x}
def fF(c:J)(id:Int)(d:List UInt8):J:=if jw c id then {c with streams:=dq c.streams (f0 (aw c id) (sI (aw c id).send d))}else c
def xa(c:J)(id:Int)(d:List UInt8):Int:=if jw c id then z8 (aw c id).send d else 0
set_option maxHeartbeats 8000000 in
theorem NT(c:J)(id:Int)(d:List UInt8)(hz:iH c)(hd:d.length≤1048576)(hw:eb (f0 (aw c id) (sI (aw c id).send d))):PureCall Tryz.prog 136 [.agg (J.enc c),.one (.int .i64 id),.one (.str d)] [.one (.int .i64 (xa c id d)),.agg (J.enc ((fF c id d)))]:=by
 refine aP 50 Tryz.func136 Tryz.call136 [.tmp 6,.cell 7 37] ?_;intro ok;clear ok;have j4:=jq hz;have a0:fF c id d=if jw c id then {c with streams:=dq c.streams (f0 (aw c id) (sI (aw c id).send d))}else c:=rfl
 have bF:xa c id d=if jw c id then z8 (aw c id).send d else 0:=rfl
 have br:=EK c id;obtain⟨c9,dc,cB,de⟩:=lY hz.2.1 id;have cn:=kR c id hz;rw[show(bN c.streams id).1=aw c id from rfl]at c9 dc cB de cn;have gU:=kr c.streams (f0 (aw c id) (sI (aw c id).send d)) (by have:=hz.1;omega) hz.2.1 hw;generalize aw c id=s at *
 try simp only[go_sem]
 repeat'((first|refine af.ag (by first|assumption|(apply gf<;>first|assumption|omega)|(apply uj<;>first|assumption|omega)) ?_|refine ar.ag (by assumption) ?_|refine a8 ?_)<;>simp only[go_sem,I])
 rw[br]
 cases hg:jw c id with
 |false=>
  rw[hg]at a0 bF
  try simp only[go_sem,Bool.not_false]
  repeat'(first|((first|refine af.ag (by assumption) ?_|refine ar.ag (by assumption) ?_|refine a9 [[.post,.cY,.post],[.cY,.post,.post],[.pre,.pre,.post]] (by kernel_rfl) (by rfl) ?_)<;>simp only[go_sem,I])|(with_reducible refine aq ?_)|fail)
  all_goals simp[a0,bF]
 |true=>
  rw[hg]at a0 bF
  try simp only[go_sem,I,Bool.not_true]
  repeat'(first|((first|refine af.ag (by first|assumption|(apply Vw<;>first|assumption|omega)) ?_|refine ar.ag (by assumption) ?_|refine a9 [[.post,.cY,.post,.post],[.cY,.post,.cY,.post],[.pre,.cY,.post,.post],[.pre,.pre,.pre,.post]] (by kernel_rfl) (by rfl) ?_)<;>simp only[go_sem,I,f0])|(with_reducible refine aq ?_)|fail)
  all_goals simp[a0,bF,f0]
def ln(c:J)(s:ae):Bool:=!s.counted&&!lq c.df s.id&&vH s
def gG(c:J)(s:ae):ae:=if ln c s then {s with counted:=true}else s
def lr(c:J)(s:ae):J:=if ln c s then(if lp s.id then {c with dz:=iX c.dz}else {c with dA:=iX c.dA})else c
def dt(c:J)(s:ae):J:={lr c s with streams:=dq c.streams (gG c s)}
theorem NR(c:J)(s:ae):(bif bif s.counted then true else lq c.df s.id then true else !vH s)=!ln c s:=by
 unfold ln
 cases s.counted<;>cases lq c.df s.id<;>cases vH s<;>rfl
theorem B0{c:J}{s:ae}(h:ln c s=false):dt c s={c with streams:=dq c.streams s}:=by unfold dt lr gG;rw[h];rfl
theorem IG{c:J}{s:ae}(h:ln c s=true)(hu:lp s.id=true):dt c s={c with dz:=iX c.dz,streams:=dq c.streams {s with counted:=true}}:=by unfold dt lr gG;rw[h,hu];rfl
theorem IH{c:J}{s:ae}(h:ln c s=true)(hu:lp s.id=false):dt c s={c with dA:=iX c.dA,streams:=dq c.streams {s with counted:=true}}:=by unfold dt lr gG;rw[h,hu];rfl
set_option maxRecDepth 100000
def NP:List (List bt):=cE 22 [31381059608,31381059606,31381059600,31381059582,31381059528,31380272046,31380271560,31380270102,31380265728,31381049646,31381010280,31380892182,31380537888,31379465286,31376276640,31366710702,31338012888,31251919446,30993639120,30218798142,27894275208,20920706406]
def EM:List (List bt):=cE 10 [57956,58804,58798,58780,58726,58927,58321,56862,52488,39366]
attribute [go_sem] NP EM
def fe(s:ae)(k:Int):ae:={s with send:=z6 s.send k,ho:=true}
def vG(c:J)(id k:Int):Bool:=jw c id&&sH (aw c id).send k
def jP(c:J)(id k:Int):J:=if vG c id k then dt c (fe (aw c id) k)else c
set_option maxHeartbeats 8000000 in
theorem Vt(c:J)(id k:Int)(hz:iH c)(hw:eb (fe (aw c id) k)):PureCall Tryz.prog 139 [.agg (J.enc c),.one (.int .i64 id),.one (.int .i64 k)] [.agg (J.enc ((jP c id k))),.one (.bool (vG c id k))]:=by
 refine aP 50 Tryz.func139 Tryz.call139 [.cell 6 37,.tmp 7] ?_;intro ok;clear ok;have j4:=jq hz;have jb:c.streams.length≤1000:=by have:=hz.1;omega
 have jx:=hz.2.1;have a0:jP c id k=if vG c id k then dt c (fe (aw c id) k)else c:=rfl
 have bF:vG c id k=(jw c id&&sH (aw c id).send k):=rfl;have br:=EK c id;obtain⟨c9,dc,cB,de⟩:=lY hz.2.1 id;have cn:=kR c id hz;rw[show(bN c.streams id).1=aw c id from rfl]at c9 dc cB de cn;generalize aw c id=s at *
 try simp only[go_sem]
 repeat'((first|refine af.ag (by first|assumption|(apply gf<;>first|assumption|omega)|(apply uj<;>first|assumption|omega)) ?_|refine ar.ag (by assumption) ?_|refine a8 ?_)<;>simp only[go_sem,I])
 rw[br]
 cases hg:jw c id with
 |false=>
  rw[hg,Bool.false_and]at bF;rw[bF]at a0
  try simp only[go_sem,I,Bool.not_false]
  repeat'(first|((first|refine af.ag (by assumption) ?_|refine ar.ag (by assumption) ?_)<;>simp only[go_sem,I,Bool.not_false])|(with_reducible refine aq ?_)|fail)
  all_goals simp[a0,bF]
 |true=>
  rw[hg,Bool.true_and]at bF
  try simp only[go_sem,I,Bool.not_true]
  repeat'((first|refine af.ag (by first|assumption|(apply NQ<;>first|assumption|omega)) ?_|refine ar.ag (by assumption) ?_)<;>simp only[go_sem,I])
  cases hr:sH s.send k with
  |false=>
   rw[hr]at bF;rw[bF]at a0
   try simp only[go_sem,I,Bool.not_false]
   repeat'(first|((first|refine af.ag (by assumption) ?_|refine ar.ag (by assumption) ?_)<;>simp only[go_sem,I,Bool.not_false])|(with_reducible refine aq ?_)|fail)
   all_goals simp[a0,bF]
  |true=>
   rw[hr]at bF;rw[bF]at a0
   try simp only[go_sem,I,Bool.not_true]
   repeat'((first|refine af.ag (by assumption) ?_|refine ar.ag (by assumption) ?_)<;>simp only[go_sem,I,Bool.not_true])
   have z7:=NR c (fe s k);obtain⟨B,hv⟩:∃B,ln c (fe s k)=B:=⟨_,rfl⟩;rw[hv]at z7;simp only[fe]at z7;have nT:=hw;obtain⟨e5,gr,lo,EN⟩:=hw;have lo:∀d9∈((fe s k)).recv.buffer.bd,d9.data.length≤1048576:=fun d9 hc=>by have:=lo d9 hc;omega
   simp only[fe]at e5 gr lo EN;have Vu:=kr (c).streams ((fe s k)) jb jx nT;have Vv:=kr (c).streams {(fe s k)with counted:=true} jb jx nT;refine af.gV [6,7,8] (by simp only[gn,List.elem_cons,List.elem_nil,Nat.reduceBEq,Nat.reduceAdd,cond_true,cond_false];rfl) (el (n:=15) (rs:=[]) Tryz.func27 rfl Tryz.call27 Tryz.checked.mixed rfl rfl ?_);simp only[go_sem];refine af.gV [0,3] (by simp only[gn,List.elem_cons,List.elem_nil,Nat.reduceBEq,Nat.reduceAdd,cond_true,cond_false];rfl) (el (n:=62) (rs:=[]) Tryz.func75 rfl Tryz.call75 Tryz.checked.mixed rfl rfl ?_);simp only[go_sem]
   try simp only[go_sem,I,fe]
   repeat'((first|refine af.intro (by assumption) ?_|refine ar.intro (by first|assumption|apply BZ|(apply NS<;>first|assumption|omega)) ?_|refine en ?_|refine a9 NP (by kernel_rfl) (by rfl) ?_)<;>simp only[go_sem,I])
   rw[z7]
   cases B with
   |false=>
    have ah:=B0 hv;simp only[go_sem,Bool.not_false]
    try simp only[go_sem,I,fe]
    repeat'(first|((first|refine af.ag (by assumption) ?_|refine ar.ag (by assumption) ?_|refine a9 EM (by kernel_rfl) (by rfl) ?_)<;>simp only[go_sem,I,fe])|(with_reducible refine aq ?_)|fail)
    rw[ah]at a0;simp[a0,bF,fe]
   |true=>
    try simp only[go_sem,Bool.not_true]
    repeat'((first|refine af.intro (by first|assumption|apply yD) ?_|refine ar.intro (by assumption) ?_)<;>simp only[go_sem])
    cases hC:lp ((fe s k)).id with
    |true=>
     have ah:=IG hv hC;simp only[fe]at hC
     try simp only[go_sem,hC]
     repeat'((first|refine af.intro (by first|assumption|apply EO) ?_|refine ar.intro (by assumption) ?_)<;>simp only[go_sem])
     try simp only[go_sem,I,fe]
     repeat'(first|((first|refine af.ag (by assumption) ?_|refine ar.ag (by assumption) ?_|refine a9 EM (by kernel_rfl) (by rfl) ?_)<;>simp only[go_sem,I,fe])|(with_reducible refine aq ?_)|fail)
     rw[ah]at a0;simp[a0,bF,fe]
    |false=>
     have ah:=IH hv hC;simp only[fe]at hC
     try simp only[go_sem,hC]
     repeat'((first|refine af.intro (by first|assumption|apply EO) ?_|refine ar.intro (by assumption) ?_)<;>simp only[go_sem])
     try simp only[go_sem,I,fe]
     repeat'(first|((first|refine af.ag (by assumption) ?_|refine ar.ag (by assumption) ?_|refine a9 EM (by kernel_rfl) (by rfl) ?_)<;>simp only[go_sem,I,fe])|(with_reducible refine aq ?_)|fail)
     rw[ah]at a0;simp[a0,bF,fe]
set_option maxRecDepth 100000
def m5(n:Int):Int:=if n<0∨4611686018427387903<n then 0 else if n<64 then 1 else if n<16384 then 2 else if n<1073741824 then 4 else 8
theorem To(n:Int):PureCall Tryz.prog 260 [.one (.int .i64 n)] [.one (.int .i64 (m5 n))]:=by
 refine aP 19 Tryz.func260 Tryz.call260 [.tmp 2] ?_;intro _
 try simp only[go_sem]
 repeat'((first|refine a8 ?_|refine bq (fun h=>?_) (fun h=>?_))<;>simp only[go_sem])
 all_goals(simp only[decide_eq_true_eq,decide_eq_false_iff_not,cP,Bool.or_eq_true,Bool.or_eq_false_iff]at *;first|(exfalso;omega)|(simp[m5, *];try omega))
theorem Tp(n:Int):PureCall Tryz.prog 266 [.one (.int .i64 n)] [.one (.str [tc (bitI .and .i64 n 255)])]:=by
 refine aP 6 Tryz.func266 Tryz.call266 [.tmp 2] ?_;intro _;simp only[go_sem];refine af.intro (Tq _ (B8 n)) ?_;simp only[go_sem]
def Bx(n:Int)(k i:Nat):Int:=
 let b:=bitI .and .i64 (n.fdiv (2^min (8 * i) 64)) 255
 if i+1=k then(if k=2 then bitI .or .i64 b 64 else if k=4 then bitI .or .i64 b 128 else if k=8 then bitI .or .i64 b 192 else b)else b
def vl(n:Int)(k j:Nat):List UInt8:=(List.range j).map fun x=>tc (bitI .and .i64 (Bx n k (k-1-x)) 255)
def tk(n:Int):List UInt8:=vl n (m5 n).toNat (m5 n).toNat
theorem ack(n:Int)(k j:Nat):vl n k (j+1)=vl n k j++[tc (bitI .and .i64 (Bx n k (k-1-j)) 255)]:=by simp[vl,List.range_succ]
theorem Mm(n:Int):m5 n=0∨m5 n=1∨m5 n=2∨m5 n=4∨m5 n=8:=by
 unfold m5
 repeat' split
 all_goals simp
theorem Tr(n:Int):((tk n).length:Int)=m5 n:=by rcases Mm n with h|h|h|h|h<;>simp[tk,vl,h]
theorem Mn(n:Int):(tk n).length≤8:=by have:=Tr n;rcases Mm n with h|h|h|h|h<;>omega
set_option maxHeartbeats 2000000 in
theorem acm(n:Int):PureCall Tryz.prog 261 [.one (.int .i64 n)] [.one (.str (tk n))]:=by
 refine aP 42 Tryz.func261 Tryz.call261 [.tmp 2] ?_;intro _;obtain⟨k,hk⟩:∃k:Nat,m5 n=(k:Int):=⟨(tk n).length,(Tr n).symm⟩;have hc:k=0∨k=1∨k=2∨k=4∨k=8:=by have:=Mm n;omega
 have ah:tk n=vl n k k:=by simp[tk,hk]
 have zA:IntKind.i64.wrap ((k:Int)-1)=(k:Int)-1:=by rw[bE]<;>omega
 rw[ah]
 try simp only[go_sem]
 repeat'(refine af.intro (by apply To) ?_<;>simp only[go_sem,hk,zA])
 refine b9.intro (fun j:Nat=>⟨(.d (.int .i64 n)::.ab::.ab::.d (.int .i64 (k:Int))::.d (.str (vl n k j))::.d (.int .i64 ((k:Int)-1-(j:Int)))::aF 36 []),[]⟩)
   (fun j=>k-j) (fun j=>j≤k) 0 [] (by omega) ?_ ?_
 ·simp only[go_sem];simp[vl]
 ·intro j av;by_cases h1:j<k
  ·have au:decide (0≤(k:Int)-1-(j:Int))=true:=bk (by omega);have ai:IntKind.i64.wrap (8 * ((k:Int)-1-(j:Int)))=8 * ((k:Int)-1-(j:Int)):=by rw[bE]<;>omega
   have aj:IntKind.i64.wrap ((k:Int)-1-(j:Int)-1)=(k:Int)-1-((j+1:Nat):Int):=by rw[bE]<;>omega
   have aT:(8 * ((k:Int)-1-(j:Int))).toNat=8 * (k-1-j):=by omega
   have K':shI .shr .i64 n (8 * ((k:Int)-1-(j:Int)))=some ((0:Int)≤8 * ((k:Int)-1-(j:Int)),.d (.int .i64 (n.fdiv (2^min (8 * (k-1-j)) 64)))):=by simp only[shI];rw[aT];rfl
   have hs:=ack n k j;have Ft:(vl n k j).length=j:=by simp[vl]
   simp only[go_sem,au,ai,K'];refine⟨by omega,?_⟩;simp only[go_sem,zA];by_cases acn:j=0
   ·subst acn;have aC:decide ((k:Int)-1-((0:Nat):Int)=(k:Int)-1)=true:=bk (by omega);have sL:k-1+1=k:=by omega
    have hq:Bx n k (k-1-0)=(if k=2 then bitI .or .i64 (bitI .and .i64 (n.fdiv (2^min (8 * (k-1-0)) 64)) 255) 64 else if k=4 then bitI .or .i64 (bitI .and .i64 (n.fdiv (2^min (8 * (k-1-0)) 64)) 255) 128 else if k=8 then bitI .or .i64 (bitI .and .i64 (n.fdiv (2^min (8 * (k-1-0)) 64)) 255) 192 else bitI .and .i64 (n.fdiv (2^min (8 * (k-1-0)) 64)) 255):=by
     unfold Bx;rw[if_pos (show k-1-0+1=k by omega)]
    rw[hq]at hs
    try simp only[go_sem,aC]
    repeat'(first|((first|refine af.intro (by apply Tp) ?_|refine bq (fun h=>?_) (fun h=>?_))<;>simp only[go_sem,aj])|(with_reducible refine aq ?_)|fail)
    all_goals(simp only[decide_eq_true_eq,decide_eq_false_iff_not]at *;refine bu.intro 1 [] (by omega) (by omega) ?_;simp only[go_sem,hs];first|rw[if_pos (show k=2 by omega)]|rw[if_neg (show ¬k=2 by omega),if_pos (show k=4 by omega)]|rw[if_neg (show ¬k=2 by omega),if_neg (show ¬k=4 by omega),if_pos (show k=8 by omega)]|rw[if_neg (show ¬k=2 by omega),if_neg (show ¬k=4 by omega),if_neg (show ¬k=8 by omega)])
    all_goals simp
   ·have aC:decide ((k:Int)-1-(j:Int)=(k:Int)-1)=false:=bb (by omega);have hq:Bx n k (k-1-j)=bitI .and .i64 (n.fdiv (2^min (8 * (k-1-j)) 64)) 255:=by
     unfold Bx;rw[if_neg (show ¬k-1-j+1=k by omega)]
    rw[hq]at hs
    try simp only[go_sem,aC]
    repeat'(first|(refine af.intro (by apply Tp) ?_<;>simp only[go_sem,aj])|(with_reducible refine aq ?_)|fail)
    all_goals(refine bu.intro (j+1) [] (by omega) (by omega) ?_;simp only[go_sem,hs])
    all_goals simp
  ·have au:decide (0≤(k:Int)-1-(j:Int))=false:=bb (by omega);obtain rfl:j=k:=by omega
   try simp only[go_sem,au]
   all_goals simp
def sU(l:List Int):List UInt8:=if l.any (fun n=>decide (m5 n=0))then []else l.flatMap tk
theorem Pc{α β:Type}(f:α→List β)(l:List α)(i:Nat)(h:i<l.length):(l.take (i+1)).flatMap f=(l.take i).flatMap f++f l[i]:=by
 rw[List.take_add_one,dk h,List.flatMap_append];simp
theorem Fs{α β:Type}(f:α→List β)(b:Nat):∀(l:List α),(∀x∈l,(f x).length≤b)→(l.flatMap f).length≤b * l.length
 |[],_=>by simp
 |x::l,h=>by
  have h1:=Fs f b l (fun y hy=>h y (List.mem_cons_of_mem _ hy));have h2:=h x (by simp);rw[List.flatMap_cons,List.length_append,List.length_cons,Nat.mul_add];omega
theorem Az(l:List Int):(sU l).length≤8 * l.length:=by
 unfold sU;split
 ·simp
 ·exact Fs tk 8 l fun n _=>Mn n
theorem Pd{α:Type}(p:α→Bool)(xs:List α)(i:Nat)(h:i<xs.length)(h2:p xs[i]=true):xs.any p=true:=List.any_eq_true.2 ⟨_,List.getElem_mem h,h2⟩
theorem Pe{α:Type}(p:α→Bool)(xs:List α)(i:Nat)(h:i<xs.length)(h1:(xs.take i).any p=false)(h2:p xs[i]=false):(xs.take (i+1)).any p=false:=by
 rw[List.take_add_one,dk h,List.any_append,h1];simp[h2]
set_option maxHeartbeats 1000000 in
theorem vX(l:List Int)(hl:l.length≤100000):PureCall Tryz.prog 240 [.one (.sl 1 (l.map a'))] [.one (.str (sU l))]:=by
 refine aP 25 Tryz.func240 Tryz.call240 [.tmp 2] ?_;intro ok;have hm:=fZ ok;clear ok;simp only[go_sem];refine b9.intro (fun i:Nat=>⟨(.d (.sl 1 (l.map a'))::.ab::.ab::.d (.str ((l.take i).flatMap tk))::.d (.int .i64 i)::aF 20 []),[]⟩)
   (fun i=>l.length-i) (fun i=>i≤l.length∧(l.take i).any (fun n=>decide (m5 n=0))=false) 0 [] ⟨by omega,by simp⟩ ?_ ?_
 ·simp only[go_sem];simp
 ·rintro i ⟨hi,he⟩;by_cases h1:i<l.length
  ·have au:decide ((i:Int)<(l.length:Int))=true:=bk (by omega);have aB:=b4 a' l i h1;have hw:=dE h1 hm;have hs:=Pc tk l i h1;have hb:=Fs tk 8 (l.take i) fun n _=>Mn n;have cw:(l.take i).length=i:=by simp;omega
   rw[cw]at hb;have jt:=Mn l[i]
   try simp only[go_sem,I,aJ,aB,a',au]
   repeat'(first|((first|refine af.intro (by first|apply To|apply acm) ?_|refine bq (fun h=>?_) (fun h=>?_))<;>simp only[go_sem,I,aJ,aB,a'])|(with_reducible refine aq ?_)|fail)
   ·have:=Pd (fun n=>decide (m5 n=0)) l i h1 h;simp[sU,this]
   ·refine bu.intro (i+1) [] ⟨by omega,Pe _ l i h1 he h⟩ (by omega) ?_;simp only[go_sem,hw,hs];try simp
  ·have au:decide ((i:Int)<(l.length:Int))=false:=bb (by omega);obtain rfl:i=l.length:=by omega
   rw[dK]at *
   try simp only[go_sem,I,au]
   all_goals simp[sU,he]
set_option maxRecDepth 100000
def O':List (List bt):=cE 12 [504833,504844,504838,505183,505129,504967,504468,503010,528160,515038,472392,354294]
def Pa:List (List bt):=cE 15 [13630481,13630479,13630513,13630495,13630801,13630639,13639954,13638496,13634122,13620636,13581270,14260333,13906039,12754584,9565938]
attribute [go_sem] O' Pa
def Fp(f:al):List UInt8:=
 if f.bn=4 then sU [4,f.stream,f.code,f.bg]
 else if f.bn=5 then sU [5,f.stream,f.code]
 else if f.bn=8 then
  (if f.offset=0 then sU [if f.ba then 11 else 10,f.stream,(f.data.length:Int)]++f.data else sU [if f.ba then 15 else 14,f.stream,f.offset,(f.data.length:Int)]++f.data)
 else if f.bn=16∨f.bn=20 then sU [f.bn,f.a1]
 else if f.bn=17∨f.bn=21 then sU [f.bn,f.stream,f.a1]
 else sU [if f.fc then IntKind.i64.wrap (f.bn+1)else f.bn,f.a1]
def gC(f:al):List UInt8:=if eQ f then Fp f else []
theorem W9{f:al}(h:eQ f=true):f.data.length≤400:=by
 simp only[eQ,yV,Bool.and_eq_true,Bool.not_eq_true',decide_eq_false_iff_not]at h;omega
theorem JE(f:al):(gC f).length≤500:=by
 unfold gC;split
 ·rename_i h;have hd:=W9 h;unfold Fp
  repeat' split
  all_goals(try rw[List.length_append])
  all_goals(first|exact Nat.le_trans (Az _) (by simp)|exact Nat.le_trans (Nat.add_le_add (Az _) (Nat.le_refl _)) (by simp;omega))
 ·simp
set_option maxHeartbeats 4000000 in
theorem Pb(dQ dT ek:Int)(dU:List UInt8)(eL:Bool)(eV ey e1:Int)(e7:Bool)(hd:dU.length≤1048576):PureCall Tryz.prog 210 [.agg [.int .i64 dQ,.int .i64 dT,.int .i64 ek,.str dU,.bool eL,.int .i64 eV,.int .i64 ey,.int .i64 e1,.bool e7]] [.one (.str (gC (⟨dQ,dT,ek,dU,eL,eV,ey,e1,e7⟩:al)))]:=by
 refine aP 93 Tryz.func210 Tryz.call210 [.tmp 2] ?_;intro _
 cases bV:eQ (⟨dQ,dT,ek,dU,eL,eV,ey,e1,e7⟩:al)with
 |false=>
  try simp only[go_sem]
  repeat'(refine af.intro (by apply yI) ?_<;>simp only[go_sem,bV])
  all_goals simp[gC,bV]
 |true=>
  have ah:gC (⟨dQ,dT,ek,dU,eL,eV,ey,e1,e7⟩:al)=Fp (⟨dQ,dT,ek,dU,eL,eV,ey,e1,e7⟩:al):=by unfold gC;rw[bV];rfl
  rw[ah];have gH:=Az [10,dT,(dU.length:Int)];have gR:=Az [11,dT,(dU.length:Int)];have tP:=Az [14,dT,ek,(dU.length:Int)];have AA:=Az [15,dT,ek,(dU.length:Int)];simp only[List.length_cons,List.length_nil]at gH gR tP AA;have cF:=vX [4,dT,eV,e1] (by simp);have bh:=vX [5,dT,eV] (by simp);have bI:=vX [10,dT,(dU.length:Int)] (by simp);have cd:=vX [11,dT,(dU.length:Int)] (by simp);have gI:=vX [14,dT,ek,(dU.length:Int)] (by simp);have sV:=vX [15,dT,ek,(dU.length:Int)] (by simp);have yW:=vX [dQ,ey] (by simp);have JF:=vX [dQ,dT,ey] (by simp);have Fq:=vX [IntKind.i64.wrap (dQ+1),ey] (by simp);simp only[List.map_cons,List.map_nil,a']at cF bh bI cd gI sV yW JF Fq;have e5:IntKind.i64.wrap (10+1)=11:=by decide
  have gr:IntKind.i64.wrap (10+4)=14:=by decide
  have lo:IntKind.i64.wrap (11+4)=15:=by decide
  try simp only[go_sem]
  repeat'(first|((first|refine af.intro (by first|assumption|apply yI) ?_|refine ar.intro (by assumption) ?_|refine a9 O' (by kernel_rfl) (by rfl) ?_|refine a9 Pa (by kernel_rfl) (by rfl) ?_|refine bq (fun h=>?_) (fun h=>?_))<;>simp only[go_sem,bV,e5,gr,lo])|(with_reducible refine aq ?_)|fail)
  all_goals(clear ah bV cF bh bI cd gI sV yW JF Fq gH gR tP AA e5 gr lo;simp only[decide_eq_true_eq,decide_eq_false_iff_not]at *;first|(exfalso;omega)|(simp[Fp, *];done))
set_option maxHeartbeats 1000000 in
theorem Jy(dQ dT ek:Int)(dU:List UInt8)(eL:Bool)(eV ey e1:Int)(e7:Bool)(hd:dU.length≤1048576):PureCall Tryz.prog 177 [.agg [.int .i64 dQ,.int .i64 dT,.int .i64 ek,.str dU,.bool eL,.int .i64 eV,.int .i64 ey,.int .i64 e1,.bool e7]] [.one (.int .i64 (((gC (⟨dQ,dT,ek,dU,eL,eV,ey,e1,e7⟩:al)).length:Int)))]:=by
 refine aP 6 Tryz.func177 Tryz.call177 [.tmp 2] ?_;intro _;have:=JE (⟨dQ,dT,ek,dU,eL,eV,ey,e1,e7⟩:al)
 try simp only[go_sem]
 repeat'(refine af.intro (by(apply Pb<;>first|assumption|omega)) ?_<;>simp only[go_sem])
 all_goals simp
def xo(l:List al):List UInt8:=if l.any (fun f=>decide (gC f=[]))then []else if 400<(l.flatMap gC).length then []else l.flatMap gC
set_option maxHeartbeats 2000000 in
theorem WH(l:List al)(hl:l.length≤10000)(hd:∀f∈l,f.data.length≤1048576):PureCall Tryz.prog 180 [.one (.sl 9 (l.map al.enc))] [.one (.str (xo l))]:=by
 refine aP 26 Tryz.func180 Tryz.call180 [.tmp 2] ?_;intro ok;have hm:=fZ ok;clear ok;simp only[go_sem];refine b9.intro (fun i:Nat=>⟨(.d (.sl 9 (l.map al.enc))::.ab::.ab::.d (.str ((l.take i).flatMap gC))::.d (.int .i64 i)::aF 21 []),[]⟩)
   (fun i=>l.length-i) (fun i=>i≤l.length∧(l.take i).any (fun f=>decide (gC f=[]))=false) 0 [] ⟨by omega,by simp⟩ ?_ ?_
 ·simp only[go_sem];simp
 ·rintro i ⟨hi,he⟩;have hb:=Fs gC 500 (l.take i) fun n _=>JE n;have cw:(l.take i).length=i:=by simp;omega
  rw[cw]at hb;by_cases h1:i<l.length
  ·have au:decide ((i:Int)<(l.length:Int))=true:=bk (by omega);have aB:=b4 al.enc l i h1;have hw:=dE h1 hm;have hs:=Pc gC l i h1;have jt:=JE l[i];have bV:=Pb l[i].bn l[i].stream l[i].offset l[i].data l[i].ba l[i].code l[i].a1 l[i].bg l[i].fc (hd _ (List.getElem_mem h1));change PureCall _ _ _ [.one (.str (gC l[i]))]at bV
   try simp only[go_sem,I,aJ,aB,al.enc,au]
   repeat'(first|((first|refine af.intro (by assumption) ?_|refine ar.intro (by assumption) ?_|refine bq (fun h=>?_) (fun h=>?_))<;>simp only[go_sem])|(with_reducible refine aq ?_)|fail)
   ·have:=Pd (fun f=>decide (gC f=[])) l i h1 h;simp[xo,this]
   ·refine bu.intro (i+1) [] ⟨by omega,Pe _ l i h1 he h⟩ (by omega) ?_;simp only[go_sem,hw,hs];try simp
  ·have au:decide ((i:Int)<(l.length:Int))=false:=bb (by omega);obtain rfl:i=l.length:=by omega
   rw[dK]at *
   try simp only[go_sem,I,au]
   repeat'(refine bq (fun h=>?_) (fun h=>?_)<;>simp only[go_sem])
   ·have h0:=cl h;have:xo l=[]:=by unfold xo;rw[he];exact(if_neg (by simp)).trans (if_pos (by omega))
    simp[this]
   ·have h0:=cG h;have:xo l=l.flatMap gC:=by unfold xo;rw[he];exact(if_neg (by simp)).trans (if_neg (by omega))
    simp[this]
set_option maxRecDepth 100000
def MM:List (List bt):=cE 34 [16677181699666565,16677181699666567,16677181699666560,16677181699666542,16677181699666488,16677181699666326,16677181699665840,16677181699664382,16677181699640325,16677181699653447,16677181699607520,16677181699489422,16677181699135128,16677181698072246,16677181694883600,16677181685317662,16677181656619848,16677181570526406,16677181312246080,16677180537405102,16368754698691713,16368761672260515,16368737264769708,16368674502650490,16368486216292836,16666588848656331,16675909023360204,16670825291703546,16654726808124129,16608973223214207,16471712468484441,16059508303382622,14824161510814728,11118121133111046]
def HE:List (List bt):=cE 19 [1162251662,1162251664,1162251657,1162251639,1162261183,1162261345,1162260778,1162259320,1162254946,1162241784,1162202418,1161552879,1161907173,1160667144,1157478498,1147912560,1119214746,1033121304,774840978]
def MN:List (List bt):=cE 10 [49244,49246,49239,49221,58765,58927,58360,56902,52528,39366]
attribute [go_sem] MM HE MN
theorem Hr{α β:Type}(f:β→α→β)(b:β)(l:List α)(i:Nat)(h:i<l.length):(l.take (i+1)).foldl f b=f ((l.take i).foldl f b) l[i]:=by
 rw[List.take_add_one,dk h,List.foldl_append];rfl
def vw(l:List c4)(i:Nat):Bool:=xb (fun c=>c.id) (fun c=>bM c.id&&mn c.priority) l i
def zH(l:List c4):Bool:=iV (vw l) l.length
theorem ada(l:List c4)(h:0<l.length):vw l 0=(bM l[0].id&&mn l[0].priority):=um _ _ _ h
theorem adb(l:List c4)(j:Nat)(h:j+1<l.length):vw l (j+1)=(bM l[j+1].id&&mn l[j+1].priority&&decide (l[j].id<l[j+1].id)):=uo _ _ _ _ h
set_option maxHeartbeats 1000000 in
theorem Ul(l:List c4):PureCall Tryz.prog 262 [.one (.sl 3 (l.map c4.enc))] [.one (.bool (zH l))]:=by
 refine aP 44 Tryz.func262 Tryz.call262 [.tmp 2] ?_;intro ok;have hm:=fZ ok;clear ok;simp only[go_sem];refine b9.intro (fun i:Nat=>⟨(.d (.sl 3 (l.map c4.enc))::.ab::.ab::.d (.int .i64 i)::aF 40 []),[]⟩)
  (fun i=>l.length-i) (fun i=>i≤l.length∧iV (vw l) i=true) 0 [] ⟨by omega,by simp[iV]⟩ ?_ ?_
 ·simp only[go_sem];simp
 ·rintro i ⟨hi,he⟩;by_cases h1:i<l.length
  ·have au:decide ((i:Int)<(l.length:Int))=true:=bk (by omega);have aB:=b4 c4.enc l i h1;have hw:=dE h1 hm;have hs:=BS (vw l) i;have hf:=fun h=>EB (vw l) (n:=l.length) h1 h
   cases i with
   |zero=>
    have hb:=ada l h1;have h2:decide ((0:Int)<((0:Nat):Int))=false:=by decide
    try simp only[go_sem,I,au]
    repeat'(first|((first|refine ar.intro (by first|apply gZ|apply DR) ?_|with_reducible refine j9 ?_|refine en ?_|refine a9 MM (by kernel_rfl) (by rfl) ?_|refine bq (fun h=>?_) (fun h=>?_))<;>simp only[go_sem,I,aJ,aB,c4.enc,h2])|(with_reducible refine aq ?_)|fail)
    ·have e:vw l 0=false:=by rw[hb];revert h;cases bM l[0].id<;>cases mn l[0].priority<;>simp
     simp[zH,hf e]
    ·have e:vw l 0=true:=by rw[hb];revert h;cases bM l[0].id<;>cases mn l[0].priority<;>simp
     refine bu.intro 1 [] ⟨by omega,by rw[hs,he,e];rfl⟩ (by omega) ?_;simp only[go_sem,hw];try simp
   |succ j=>
    have hb:=adb l j h1;have fQ:=b4 c4.enc l j (by omega);have h2:decide ((0:Int)<((j+1:Nat):Int))=true:=bk (by omega);have hp:IntKind.i64.wrap (((j+1:Nat):Int)-1)=(j:Int):=by simp only[maxLen]at hm;rw[bE]<;>omega
    try simp only[go_sem,I,au]
    repeat'(first|((first|refine ar.intro (by first|apply gZ|apply DR) ?_|refine en ?_|refine a9 MM (by kernel_rfl) (by rfl) ?_|refine bq (fun h=>?_) (fun h=>?_))<;>simp only[go_sem,I,aJ,aB,fQ,c4.enc,h2,hp])|(with_reducible refine aq ?_)|fail)
    ·have e:vw l (j+1)=false:=by rw[hb];revert h;cases bM l[j+1].id<;>cases mn l[j+1].priority<;>simp
     simp[zH,hf e]
    ·have e:vw l (j+1)=true:=by rw[hb];revert h;cases bM l[j+1].id<;>cases mn l[j+1].priority<;>simp
     refine bu.intro (j+1+1) [] ⟨by omega,by rw[hs,he,e];rfl⟩ (by omega) ?_;simp only[go_sem,hw];try simp
  ·have au:decide ((i:Int)<(l.length:Int))=false:=bb (by omega);obtain rfl:i=l.length:=by omega
   simp only[go_sem,I,au];simp[zH,he]
def wC(l:List Int)(eZ:Int):Int:=match l.find? (fun x=>decide (eZ<x))with|some x=>x|none=>(match l with|[]=>-1|x::_=>x)
set_option maxHeartbeats 1000000 in
theorem ade(l:List Int)(eZ:Int):PureCall Tryz.prog 242 [.one (.sl 1 (l.map a')),.one (.int .i64 eZ)] [.one (.int .i64 (wC l eZ))]:=by
 refine aP 28 Tryz.func242 Tryz.call242 [.tmp 4] ?_;intro ok;have hm:=fZ ok;clear ok;simp only[go_sem];refine b9.intro (fun i:Nat=>⟨(.d (.sl 1 (l.map a'))::.d (.int .i64 eZ)::aF 3 (.d (.int .i64 i)::aF 22 [])),[]⟩)
  (fun i=>l.length-i) (fun i=>i≤l.length∧(l.take i).any (fun x=>decide (eZ<x))=false) 0 [] ⟨by omega,by simp⟩ ?_ ?_
 ·simp only[go_sem];simp
 ·rintro i ⟨hi,he⟩;by_cases h1:i<l.length
  ·have au:decide ((i:Int)<(l.length:Int))=true:=bk (by omega);have aB:=b4 a' l i h1;have hw:=dE h1 hm
   try simp only[go_sem,I,aJ,aB,a',au]
   repeat'(first|(refine bq (fun h=>?_) (fun h=>?_)<;>simp only[go_sem,I,aJ,aB,a'])|(with_reducible refine aq ?_)|fail)
   ·have:=Ex (fun x=>decide (eZ<x)) l i h1 he h;simp[wC,this]
   ·refine bu.intro (i+1) [] ⟨by omega,zX _ l i h1 he h⟩ (by omega) ?_;simp only[go_sem,hw];try simp
  ·have au:decide ((i:Int)<(l.length:Int))=false:=bb (by omega);obtain rfl:i=l.length:=by omega
   rw[dK]at he;have hn:=H2 _ l he
   cases l with
   |nil=>
    try simp only[go_sem]
    repeat'(refine bq (fun h=>?_) (fun h=>?_)<;>simp only[go_sem])
    all_goals first|(exfalso;simp at h;done)|simp[wC]
   |cons x r=>
    have h2:decide (((r.length+1:Nat):Int)=0)=false:=bb (by omega)
    try simp only[go_sem,I,List.length_cons,List.map_cons,a']
    repeat'(first|(refine bq (fun h=>?_) (fun h=>?_)<;>simp only[go_sem,I,List.length_cons,List.map_cons,h2])|(with_reducible refine aq ?_)|fail)
    all_goals first|(exfalso;simp at h;done)|(simp[wC,hn])
def tn(s:Int×List Int)(c:c4):Int×List Int:=
 if c.priority.iK<s.1 then(c.priority.iK,[c.id])else if c.priority.iK=s.1 then(s.1,s.2++[c.id])else s
def tp(l:List c4):Int×List Int:=l.foldl tn (8,[])
def vg(l:List c4):List Int:=if zH l then(tp l).2 else []
theorem MO:∀(l:List c4) (s:Int×List Int),(l.foldl tn s).2.length≤s.2.length+l.length
 |[],s=>by simp
 |c::l,s=>by
  have:=MO l (tn s c);rw[List.foldl_cons,List.length_cons];have:(tn s c).2.length≤s.2.length+1:=by
   unfold tn;split
   ·simp
   ·split<;>simp
  omega
set_option maxHeartbeats 2000000 in
theorem adf(l:List c4)(hl:l.length≤1048576):PureCall Tryz.prog 241 [.one (.sl 3 (l.map c4.enc))] [.one (.sl 1 ((vg l).map a'))]:=by
 refine aP 49 Tryz.func241 Tryz.call241 [.tmp 2] ?_;intro ok;have hm:=fZ ok;clear ok;have ah:vg l=if zH l then(tp l).2 else []:=rfl
 simp only[go_sem]
 cases hA:zH l with
 |false=>
  rw[hA]at ah;refine b9.intro (fun i:Nat=>⟨(.d (.sl 3 (l.map c4.enc))::.ab::.ab::.sl 0 0 0::.d (.int .i64 8)::.d (.int .i64 i)::aF 43 []),[.ao 1 [] true]⟩)
   (fun i=>0) (fun i=>i=0) 0 [0] rfl ?_ ?_
  ·simp only[go_sem];simp
  ·rintro i rfl
   try simp only[go_sem,I]
   repeat'(first|((first|refine ar.intro (by apply Ul) ?_|refine a8 ?_)<;>simp only[go_sem,hA,Bool.cond_self])|(with_reducible refine aq ?_)|fail)
   all_goals simp[ah]
 |true=>
  rw[hA]at ah;refine b9.intro (fun i:Nat=>⟨(.d (.sl 3 (l.map c4.enc))::.ab::.ab::.sl 0 0 (tp (l.take i)).2.length::.d (.int .i64 (tp (l.take i)).1)::.d (.int .i64 i)::aF 43 []),[.ao 1 ((tp (l.take i)).2.map a') true]⟩)
   (fun i=>l.length-i) (fun i=>i≤l.length) 0 [0] (by omega) ?_ ?_
  ·simp only[go_sem];simp[tp]
  ·intro i hi;by_cases h1:i<l.length
   ·have au:decide ((i:Int)<(l.length:Int))=true:=bk (by omega);have aB:=b4 c4.enc l i h1;have hw:=dE h1 hm;have hs:tp (l.take (i+1))=tn (tp (l.take i)) l[i]:=Hr _ _ _ _ h1;have jv:(tp (l.take i)).2.length≤i:=by
     have:=MO (l.take i) (8,[]);have cw:(l.take i).length=i:=by simp;omega
     simp only[List.length_nil]at this;unfold tp;omega
    generalize tp (l.take i)=q at *;obtain⟨Eg,out⟩:=q;simp only at jv
    try simp only[go_sem,I,au]
    repeat'(first|((first|refine af.intro (by apply Ul) ?_|with_reducible refine ct ?_|refine bq (fun h=>?_) (fun h=>?_))<;>simp only[go_sem,I,aJ,aB,c4.enc,hA])|(with_reducible refine aq ?_)|fail)
    ·have h0:=cl h;have hs':tn (Eg,out) l[i]=(l[i].priority.iK,[l[i].id]):=by unfold tn;exact if_pos h0
     refine bu.intro (i+1) [3] (by omega) (by omega) ?_;simp only[go_sem,hw,hs,hs'];simp[a']
    ·rename_i ak;have h0:=cG ak;have aC:=cl h;have hs':tn (Eg,out) l[i]=(Eg,out++[l[i].id]):=by unfold tn;exact(if_neg h0).trans (if_pos aC)
     refine bu.intro (i+1) [2] (by omega) (by omega) ?_;simp only[go_sem,hw,hs,hs'];simp[a']
    ·rename_i ak;have h0:=cG ak;have aC:=cG h;have hs':tn (Eg,out) l[i]=(Eg,out):=by unfold tn;exact(if_neg h0).trans (if_neg aC)
     refine bu.intro (i+1) [0] (by omega) (by omega) ?_;simp only[go_sem,hw,hs,hs'];simp
   ·have au:decide ((i:Int)<(l.length:Int))=false:=bb (by omega);obtain rfl:i=l.length:=by omega
    rw[dK]
    try simp only[go_sem,I,au]
    repeat'(first|(with_reducible refine dC ?_<;>simp only[go_sem,I])|(with_reducible refine aq ?_)|fail)
    all_goals simp[ah]
def kZ(l:List c4)(id:Int):List c4:=l.filter fun c=>decide (c.id≠id)
set_option maxHeartbeats 1000000 in
theorem WM(l:List c4)(id:Int)(hl:l.length≤1048576):PureCall Tryz.prog 214 [.one (.sl 3 (l.map c4.enc)),.one (.int .i64 id)] [.one (.sl 3 ((kZ l id).map c4.enc))]:=by
 refine aP 29 Tryz.func214 Tryz.call214 [.tmp 4] ?_;intro ok;have hm:=fZ ok;clear ok;simp only[go_sem];refine b9.intro (fun i:Nat=>⟨(.d (.sl 3 (l.map c4.enc))::.d (.int .i64 id)::aF 3 (.sl 0 0 (kZ (l.take i) id).length::.d (.int .i64 i)::aF 22 [])),[.ao 3 ((kZ (l.take i) id).map c4.enc) true]⟩)
  (fun i=>l.length-i) (fun i=>i≤l.length) 0 [0] (by omega) ?_ ?_
 ·simp only[go_sem];simp[kZ]
 ·intro i hi;by_cases h1:i<l.length
  ·have au:decide ((i:Int)<(l.length:Int))=true:=bk (by omega);have aB:=b4 c4.enc l i h1;have hw:=dE h1 hm;have hs:kZ (l.take (i+1)) id=kZ (l.take i) id++(if decide (l[i].id≠id)then [l[i]]else []):=by
    unfold kZ;rw[List.take_add_one,dk h1,List.filter_append];simp[List.filter_cons]
   have jv:(kZ (l.take i) id).length≤i:=Nat.le_trans (List.length_filter_le _ _) (by simp;omega);generalize kZ (l.take i) id=q at *
   try simp only[go_sem,I,aJ,aB,c4.enc,au]
   repeat'(first|(refine bq (fun h=>?_) (fun h=>?_)<;>simp only[go_sem,I,aJ,aB,c4.enc])|(with_reducible refine aq ?_)|fail)
   ·rw[h,if_pos rfl]at hs;refine bu.intro (i+1) [2] (by omega) (by omega) ?_;simp only[go_sem,hw,hs];simp[c4.enc]
   ·rw[h,if_neg (by simp)]at hs;refine bu.intro (i+1) [0] (by omega) (by omega) ?_;simp only[go_sem,hw,hs];simp
  ·have au:decide ((i:Int)<(l.length:Int))=false:=bb (by omega);obtain rfl:i=l.length:=by omega
   rw[dK]
   try simp only[go_sem,I,au]
   all_goals simp
def vx(m:List Int)(c:c4):Bool:=!c.priority.g2&&m.any (fun x=>decide (x=c.id))
def nE(m:List Int)(l:List c4):List Int:=l.flatMap fun c=>m.filter (fun x=>decide (x=c.id))
theorem adg(m:List Int)(c:c4):vx m c=true↔c.priority.g2=false∧∃x∈m,x=c.id:=by simp[vx]
theorem Um(m:List Int):∀l:List c4,(nE m l).length≤m.length * l.length
 |[]=>by simp[nE]
 |c::l=>by
  have h1:=Um m l;have h2:=List.length_filter_le (fun x=>decide (x=c.id)) m;unfold nE at h1⊢;rw[List.flatMap_cons,List.length_append,List.length_cons,Nat.mul_add];omega
def yQ(l:List c4)(eZ:Int):Int:=match l.find? (vx (vg l))with|some c=>c.id|none=>wC (nE (vg l) l) eZ
theorem adh(l:List c4):(vg l).length≤l.length:=by
 unfold vg;split
 ·have:=MO l (8,[]);simpa [tp]using this
 ·simp
set_option maxHeartbeats 4000000 in
theorem WO(l:List c4)(eZ:Int)(hl:l.length≤1000):PureCall Tryz.prog 215 [.one (.sl 3 (l.map c4.enc)),.one (.int .i64 eZ)] [.one (.int .i64 (yQ l eZ))]:=by
 refine aP 69 Tryz.func215 Tryz.call215 [.tmp 4] ?_;intro ok;have hm:=fZ ok;clear ok;have ah:yQ l eZ=match l.find? (vx (vg l))with|some c=>c.id|none=>wC (nE (vg l) l) eZ:=rfl
 have Rn:=adh l;simp only[go_sem];refine af.intro (adf l (by omega)) ?_;generalize vg l=m at *;simp only[go_sem,I];refine b9.intro (fun i:Nat=>⟨(.d (.sl 3 (l.map c4.enc))::.d (.int .i64 eZ)::aF 3 (.sl 0 0 m.length::.sl 1 0 (nE m (l.take i)).length::.d (.int .i64 i)::aF 61 [])),[.ao 1 (m.map a') true,.ao 1 ((nE m (l.take i)).map a') true]⟩)
  (fun i=>l.length-i) (fun i=>i≤l.length∧(l.take i).any (vx m)=false) 0 [0,1] ⟨by omega,by simp⟩ ?_ ?_
 ·simp only[go_sem];simp[nE]
 ·rintro i ⟨hi,he⟩;have cw:(l.take i).length=i:=by simp;omega
  have sE:=Um m (l.take i);have ald:m.length * (l.take i).length≤1000 * 1000:=Nat.mul_le_mul (by omega) (by omega);by_cases h1:i<l.length
  ·have au:decide ((i:Int)<(l.length:Int))=true:=bk (by omega);have aB:=b4 c4.enc l i h1;have hw:=dE h1 hm;have hs:nE m (l.take (i+1))=nE m (l.take i)++m.filter (fun x=>decide (x=l[i].id)):=by
    unfold nE;rw[List.take_add_one,dk h1,List.flatMap_append];simp
   generalize nE m (l.take i)=MP at *;simp only[go_sem,I,au];refine b9.intro (fun k:Nat=>⟨(.d (.sl 3 (l.map c4.enc))::.d (.int .i64 eZ)::aF 3 (.sl 0 0 m.length::.sl 1 0 (MP++(m.take k).filter (fun x=>decide (x=l[i].id))).length::.d (.int .i64 i)::.d (.int .i64 k)::aF 60 [])),[.ao 1 (m.map a') true,.ao 1 ((MP++(m.take k).filter (fun x=>decide (x=l[i].id))).map a') true]⟩)
    (fun k=>m.length-k) (fun k=>k≤m.length∧(l[i].priority.g2=false→(m.take k).any (fun x=>decide (x=l[i].id))=false)) 0 [0,1] ⟨by omega,by simp⟩ ?_ ?_
   ·simp only[go_sem];simp
   ·rintro k ⟨hk,Bh⟩;have gM:=List.length_filter_le (fun x=>decide (x=l[i].id)) (m.take k);have ale:(m.take k).length=k:=by simp;omega
    by_cases h2:k<m.length
    ·have hG:decide ((k:Int)<(m.length:Int))=true:=bk (by omega);have tN:=b4 a' m k h2;have vD:IntKind.i64.wrap ((k:Int)+1)=((k+1:Nat):Int):=by rw[bE]<;>omega
     have d':(m.take (k+1)).filter (fun x=>decide (x=l[i].id))=(m.take k).filter (fun x=>decide (x=l[i].id))++(if decide (m[k]=l[i].id)then [m[k]]else []):=by
      rw[List.take_add_one,dk h2,List.filter_append];simp[List.filter_cons]
     generalize ur:(m.take k).filter (fun x=>decide (x=l[i].id))=adi at *;have eB:(MP++adi).length≤1002000:=by rw[List.length_append];omega
     cases hd:decide (m[k]=l[i].id)with
     |true=>
      rw[hd,if_pos rfl]at d';have hx:=cl hd
      cases wQ:l[i].priority.g2 with
      |false=>
       have hh:vx m l[i]=true:=(adg _ _).2 ⟨wQ,_,List.getElem_mem h2,hx⟩;have hf:=Ex (vx m) l i h1 he hh
       try simp only[go_sem,hG]
       repeat'(first|((first|with_reducible refine lk ?_|refine a9 HE (by kernel_rfl) (by rfl) ?_)<;>simp only[go_sem,I,aJ,aB,tN,c4.enc,a',hd,wQ])|(with_reducible refine aq ?_)|fail)
       all_goals simp[ah,hf]
      |true=>
       try simp only[go_sem,hG]
       repeat'(first|((first|with_reducible refine lk ?_|refine a9 HE (by kernel_rfl) (by rfl) ?_|refine a9 MN (by kernel_rfl) (by rfl) ?_)<;>simp only[go_sem,I,aJ,aB,tN,c4.enc,a',hd,wQ])|(with_reducible refine aq ?_)|fail)
       all_goals first|omega|(refine bu.intro (k+1) [0,3] (by first|omega|exact⟨by omega,fun h=>by rw[wQ]at h;cases h⟩) (by omega) ?_;simp only[go_sem,vD,d'];simp[a',hx];try omega)
     |false=>
      rw[hd,if_neg (by simp)]at d'
      try simp only[go_sem,hG]
      repeat'(first|((first|with_reducible refine j9 ?_|refine a9 HE (by kernel_rfl) (by rfl) ?_|refine a9 MN (by kernel_rfl) (by rfl) ?_)<;>simp only[go_sem,I,aJ,aB,tN,c4.enc,a',hd,Bool.cond_self])|(with_reducible refine aq ?_)|fail)
      all_goals(refine bu.intro (k+1) [0,1] ⟨by omega,fun h=>zX _ m k h2 (Bh h) hd⟩ (by omega) ?_;simp only[go_sem,vD,d'];simp)
    ·have hG:decide ((k:Int)<(m.length:Int))=false:=bb (by omega);obtain rfl:k=m.length:=by omega
     rw[dK]at *;simp only[go_sem,I,hG,hw];have hh:vx m l[i]=false:=by
      cases wQ:l[i].priority.g2 with
      |true=>simp[vx,wQ]
      |false=>simp only[vx,Bh wQ];simp
     refine bu.intro (i+1) [0,1] ⟨by omega,zX _ l i h1 he hh⟩ (by omega) ?_;simp only[go_sem,hs];simp
  ·have au:decide ((i:Int)<(l.length:Int))=false:=bb (by omega);obtain rfl:i=l.length:=by omega
   rw[dK]at *;have hf:=H2 _ l he;rw[hf]at ah
   try simp only[go_sem,I,au]
   repeat'(refine af.intro (by apply ade) ?_<;>simp only[go_sem])
   all_goals simp[ah]
def k9(E:Int)(xs:List aa):Prop:=cx xs=true∧∀x∈xs,x.high≤E
theorem wz(E:Int):k9 E []:=⟨by simp[cx],by simp⟩
theorem GJ{E F:Int}{xs:List aa}(h:E≤F)(hx:k9 E xs):k9 F xs:=⟨hx.1,fun x hm=>by have:=hx.2 x hm;omega⟩
theorem Lx{E:Int}{xs:List aa}{r:aa}(hx:k9 E xs)(hr:cR r=true)(hh:r.high≤E):k9 E (fs xs r):=by
 refine⟨Ly hx.1 hr,?_⟩;refine Lp (fun x=>x.high≤E) xs r hh hx.2 ?_;intro a b ha hb _ _;simp only[dg]at *;split<;>omega
theorem aan{E:Int}{xs:List aa}{r:aa}(hx:k9 E xs):k9 E (mW xs r):=by
 obtain⟨h1,_,ak⟩:=RZ (r:=r) hx.1;refine⟨h1,fun y hy=>?_⟩;obtain⟨x,hm,aC⟩:=ak y hy;have:=hx.2 x hm;omega
theorem R0{E:Int}{g6 c:List aa}(hx:k9 E g6):k9 E (jY g6 c):=by
 obtain⟨h1,_,ak⟩:=GK c g6 hx.1;refine⟨h1,fun y hy=>?_⟩;obtain⟨x,hm,aC⟩:=ak y hy;have:=hx.2 x hm;omega
theorem Lz{E:Int}:∀(ys xs:List aa),k9 E xs→(∀y∈ys,cR y=true∧y.high≤E)→k9 E (dZ xs ys)
 |[],xs,h,_=>h
 |y::ys,xs,h,hy=>Lz ys (fs xs y) (Lx h (hy y (by simp)).1 (hy y (by simp)).2) fun z hz=>hy z (by simp[hz])
theorem R1{E:Int}{xs:List aa}{r:aa}(hx:k9 E xs):∀y∈jj xs [r],cR y=true∧y.high≤E:=by
 intro y hy;obtain⟨h1,x,hm,h2⟩:=(LA xs r).2 y hy;have:=hx.2 x hm;exact⟨h1,by omega⟩
theorem R2:∀(xs:List aa) (bK E:Int),(∀x∈xs,cR x=true∧bK≤x.low∧x.high≤E)→xs.Pairwise (fun a b=>a.high<b.low)→bK≤E→(xs.length:Int)≤E-bK
 |[],bK,E,_,_,h=>by simp;omega
 |x::xs,bK,E,hx,hp,h=>by
  obtain⟨h1,h2,ak⟩:=hx x (by simp);have aC:=(gL _).1 h1;rw[List.pairwise_cons]at hp;have:=R2 xs x.high E (fun y hy=>⟨(hx y (by simp[hy])).1,by have:=hp.1 y hy;omega,(hx y (by simp[hy])).2.2⟩) hp.2 ak;rw[List.length_cons];omega
theorem LB{E:Int}{xs:List aa}(h:k9 E xs)(ah:0≤E):(xs.length:Int)≤E:=by
 have h1:=(jK xs).1 h.1;have:=R2 xs 0 E (fun x hx=>⟨h1.1 x hx,((gL _).1 (h1.1 x hx)).1,h.2 x hx⟩) h1.2 ah;omega
structure gl(E:Int)(s:aM):Prop where
 p:k9 s.ring.cj s.pending
 f:k9 s.ring.cj s.flight
 a:k9 s.ring.cj s.cb
 dM:0≤s.ring.cj
 ai:s.ring.cj≤E
 c:s.ring.cells.length≤64
theorem gl.mono{E F:Int}{s:aM}(h:gl E s)(ah:E≤F):gl F s:=⟨h.p,h.f,h.a,h.dM,by have:=h.ai;omega,h.c⟩
theorem gl.R3{E:Int}{s:aM}(h:gl E s):Ad s:=by
 intro r hr;rcases hr with hr|hr|hr
 ·exact h.p.2 r hr
 ·exact h.f.2 r hr
 ·exact h.a.2 r hr
theorem gl.size{E:Int}{s:aM}(h:gl E s):((s.pending.length+s.flight.length+s.cb.length:Nat):Int)≤3 * E:=by
 have h1:=LB h.p h.dM;have h2:=LB h.f h.dM;have ak:=LB h.a h.dM;have:=h.ai;omega
theorem R4{E:Int}(ah:0≤E)(v w c:Int):gl E ⟨0,⟨0,0,0,[]⟩,[],[],[],v,w,c,0⟩:=⟨wz _,wz _,wz _,by simp,ah,by simp⟩
theorem aao{E:Int}(ah:0≤E)(n:Int):gl E (sJ n):=by
 unfold sJ;split
 ·rename_i h;have:=Ab h;refine⟨wz _,wz _,wz _,?_,?_,?_⟩
  ·simp[sK,h]
  ·simp only[sK,h,if_true];exact ah
  ·simp only[sK,h,if_true,List.length_replicate];omega
 ·exact R4 ah _ _ _
theorem LC{s:aM}(h:ez s=true):jk s.ring=true∧0≤s.sent∧s.sent≤s.ring.cj:=by
 simp only[ez,jl,bz,Bool.and_eq_true,and_assoc,decide_eq_true_eq]at h;exact⟨h.1,h.2.2.2.2.1,h.2.2.2.2.2.1⟩
theorem LD{E:Int}{s:aM}{d:List UInt8}(h:gl E s)(hd:d.length≤8):gl (E+8) (sI s d):=by
 unfold sI;split
 ·rename_i hw;have aap:jk s.ring=true:=by
   simp only[nc,Bool.and_eq_true]at hw;exact(LC hw.1.1).1
  have hi:=vd aap;have hr:=R5 s.ring;have hn:kG s.ring d=(c7 (k_ s.ring) d.length).toNat:=rfl;have lX:(kG s.ring d:Int)≤8:=by rw[hn];unfold c7;split<;>omega
  have h0:=h.dM;have h1:=h.ai;have he:(tf s.ring d).cj=s.ring.cj+(kG s.ring d:Int):=by
   simp only[tf];by_cases hp:0<kG s.ring d
   ·have Gp:0<k_ s.ring:=by rw[hn]at hp;unfold c7 at hp;split at hp<;>omega
    obtain⟨aH,aZ,ca⟩:=hr.2 Gp;have aR:(kG s.ring d:Int)≤k_ s.ring:=by rw[hn];unfold c7;split<;>omega
    rw[bE]<;>omega
   ·rw[bE]<;>omega
  have hq:0<kG s.ring d→(tf s.ring d).cj≤4611686018427387903:=fun hp=>by
   have Gp:0<k_ s.ring:=by rw[hn]at hp;unfold c7 at hp;split at hp<;>omega
   obtain⟨aH,aZ,ca⟩:=hr.2 Gp;have aR:(kG s.ring d:Int)≤k_ s.ring:=by rw[hn];unfold c7;split<;>omega
   omega
  have hm:s.ring.cj≤(tf s.ring d).cj:=by omega
  refine⟨?_,GJ hm h.f,GJ hm h.a,by simp only[he];omega,by simp only[he];omega,by simp only[tf,GL];exact h.c⟩;simp only;split
  ·rename_i hp;have:=hq hp;exact Lx (GJ hm h.p) ((gL _).2 (by simp only;omega)) (by simp)
  ·exact GJ hm h.p
 ·exact h.mono (by omega)
theorem R6{E:Int}{s:aM}(h:gl E s):gl E (uv s):=by
 unfold uv;split
 ·exact⟨h.p,h.f,h.a,h.dM,h.ai,h.c⟩
 ·exact h
theorem aaq{E:Int}{s:aM}(h:gl E s)(c:Int):gl E (z6 s c):=by
 unfold z6;split
 ·rename_i hw;simp only[sH,Bool.and_eq_true]at hw;obtain⟨aH,aZ,ca⟩:=LC hw.1.1;have hi:=vd aH;have h1:=h.ai;exact⟨wz _,wz _,wz _,aZ,by simp only;omega,by simp only[List.length_replicate];omega⟩
 ·exact h
theorem aar{E:Int}{s:aM}(h:gl E s):gl E (Bi s):=by
 unfold Bi;split
 ·exact⟨h.p,h.f,h.a,h.dM,h.ai,h.c⟩
 ·exact h
theorem aas{s:aM}{p:bS}(h:ve s p=true)(hq:s.ring.cj≤4611686018427387903)(hd:p.data.length≤1048576):0≤(eA p).low∧(eA p).high≤s.ring.cj∧(p.data≠[]→(eA p).low<(eA p).high):=by
 simp only[ve,Bool.and_eq_true,decide_eq_true_eq,and_assoc]at h;obtain⟨h1,h2,ak,_⟩:=h;rw[bE (by omega) (by omega)]at ak;simp only[eA];rw[bE (by omega) (by omega)];refine⟨h1,by omega,fun hn=>?_⟩;have:=List.length_pos_iff.2 hn;omega
theorem LF{E:Int}{s:aM}(h:gl E s):gl E (nC s):=⟨h.p,h.f,h.a,h.dM,h.ai,h.c⟩
theorem aat{E:Int}{s:aM}{p:bS}(h:gl E s):gl E (zm s p):=by
 unfold zm;split
 ·exact⟨h.p,h.f,h.a,h.dM,h.ai,h.c⟩
 ·exact h
theorem O4{E:Int}{s:aM}{p:bS}(h:gl E s)(hd:p.data.length≤1048576):gl E (n0 s p):=by
 unfold n0;split
 ·rename_i hw;refine LF (aat ?_);unfold xR;split
  ·exact h
  ·rename_i hne;simp only[nk,Bj,Bool.and_eq_true,and_assoc]at hw;obtain⟨cC,cT,eI,_⟩:=hw;have hi:=vd (LC cC).1;obtain⟨k1,k2,dw⟩:=aas eI (by omega) hd;have gj:=dw hne;exact⟨aan h.p,Lx h.f ((gL _).2 (by omega)) k2,h.a,h.dM,h.ai,h.c⟩
 ·exact h
theorem aau(r:c5)(t:Int):(vf r t).cj=r.cj∧(vf r t).cells.length=r.cells.length:=by
 unfold vf;split
 ·exact⟨rfl,GM _ _ _ _⟩
 ·exact⟨rfl,rfl⟩
theorem R7{E:Int}{s:aM}{p:bS}(f:Int)(h:gl E s):gl E (lL f s p):=by
 unfold lL;split
 ·exact⟨h.p,h.f,h.a,h.dM,h.ai,h.c⟩
 ·exact h
theorem aav(f:Int)(s:aM)(p:bS):(lL f s p).ring=s.ring:=by unfold lL;split<;>rfl
theorem aaw(s:aM)(p:bS):(nD s p).ring=s.ring:=by unfold nD;split<;>rfl
theorem aax{E:Int}{s:aM}{p:bS}(h:gl E s):gl E (xS s p):=by
 unfold xS;split
 ·have h1:gl E (lL 3 (nD s p) p):=by
   refine R7 3 ?_;unfold nD;split
   ·exact h
   ·exact⟨h.p,R0 h.f,Lz _ _ h.a (R1 h.f),h.dM,h.ai,h.c⟩
  have hr:(lL 3 (nD s p) p).ring=s.ring:=by rw[aav,aaw]
  have hd:=aau s.ring (tg (lL 3 (nD s p) p).cb 0);have e:(DF s.ring (lL 3 (nD s p) p)).ring.cj=(lL 3 (nD s p) p).ring.cj:=by rw[hr];exact hd.1
  refine LF ⟨?_,?_,?_,?_,?_,?_⟩
  ·rw[e];exact h1.p
  ·rw[e];exact h1.f
  ·rw[e];exact h1.a
  ·rw[e];exact h1.dM
  ·rw[e];exact h1.ai
  ·exact Nat.le_trans (Nat.le_of_eq hd.2) h.c
 ·exact h
theorem aay{E:Int}{s:aM}{p:bS}(h:gl E s):gl E (wA s p):=by
 unfold wA;split
 ·refine LF (R7 1 ?_);unfold zn;split
  ·exact h
  ·exact⟨Lz _ _ h.p (R1 h.f),R0 h.f,h.a,h.dM,h.ai,h.c⟩
 ·exact h
set_option maxRecDepth 100000
def Mu:List (List bt):=cE 15 [14348906,14348904,14348898,14348880,13611807,13611645,13611159,13639185,13634811,13621689,13581270,14260293,13905999,12754584,9565938]
attribute [go_sem] Mu
def Hw(r:bc)(o:Int)(d:List UInt8):Bool:=fj r&&decide (0≤o)&&decide (o≤IntKind.i64.wrap (4611686018427387903-(d.length:Int)))
def t8(r:bc)(o:Int)(d:List UInt8)(f:Bool):Int:=if Hw r o d then vn r (o+d.length) f else 7
def zB(r:bc)(o:Int)(d:List UInt8)(f:Bool):Bool:=Hw r o d&&!(decide (vn r (o+d.length) f≠0)||decide (1<r.state))
def xW(r:bc)(o:Int)(d:List UInt8):List ax:=lW r.buffer.next r.buffer.bd o d
def x'(r:bc)(o:Int)(d:List UInt8)(f:Bool):Int:=if f then o+d.length else r.bg
def By(r:bc)(o:Int)(d:List UInt8)(f:Bool):Bool:=decide (x' r o d f≠-1)&&decide (IntKind.i64.wrap (r.buffer.next+(d5 r.buffer.next (xW r o d):Int))=x' r o d f)
def oa(r:bc)(o:Int)(d:List UInt8)(f:Bool):bc:=
 if zB r o d f then⟨if By r o d f then 2 else if f then 1 else r.state,⟨r.buffer.next,xW r o d⟩,x' r o d f,dg r.d2 (o+d.length),r.code⟩else r
set_option maxHeartbeats 4000000 in
theorem Z5(b0 bW:Int)(bB:List ax)(ch b' cc o:Int)(d:List UInt8)(f:Bool)(hb:∀c∈bB,sC c)(hx:bB.length≤1000)(hd:d.length≤8)(az:0≤o∧o≤900):PureCall Tryz.prog 221 [.agg [.int .i64 b0,.int .i64 bW,.sl 2 (bB.map ax.enc),.int .i64 ch,.int .i64 b',.int .i64 cc],.one (.int .i64 o),.one (.str d),.one (.bool f)] [.agg (bc.enc (oa (⟨b0,⟨bW,bB⟩,ch,b',cc⟩:bc) o d f)),.one (.int .i64 (t8 (⟨b0,⟨bW,bB⟩,ch,b',cc⟩:bc) o d f))]:=by
 refine aP 79 Tryz.func221 Tryz.call221 [.cell 8 53,.tmp 9] ?_;intro _;have jt:∀c∈bB,c.data.length≤1048576:=fun c hc=>by have:=hb c hc;simp only[sC]at this;omega
 have hok:=NC (n:=bW) (off:=o) (data:=d) hb az.1 (by omega);have jv:=ND bW bB o d;have Mv:∀c∈lW bW bB o d,c.data.length≤1048576:=fun c hc=>by have:=hok c hc;simp only[sC]at this;omega
 have LV:=aal bW bB o d jt (by omega) (fun c hc=>by have:=hb c hc;simp only[sC]at this;omega) hd az.1 (by omega);have xY:=BW bW (lW bW bB o d) Mv (by omega);have e5:IntKind.i64.wrap (4611686018427387903-(d.length:Int))=4611686018427387903-(d.length:Int):=by rw[bE]<;>omega
 have gr:IntKind.i64.wrap (o+(d.length:Int))=o+(d.length:Int):=by rw[bE]<;>omega
 have ai:decide (o<0)=false:=bb (by omega);have aj:decide (4611686018427387903-(d.length:Int)<o)=false:=bb (by omega);have cU:Hw (⟨b0,⟨bW,bB⟩,ch,b',cc⟩:bc) o d=fj (⟨b0,⟨bW,bB⟩,ch,b',cc⟩:bc):=by
  unfold Hw;rw[e5,bk az.1,bk (show o≤4611686018427387903-(d.length:Int)by omega)];simp
 cases aO:fj (⟨b0,⟨bW,bB⟩,ch,b',cc⟩:bc)with
 |false=>
  have br:zB (⟨b0,⟨bW,bB⟩,ch,b',cc⟩:bc) o d f=false:=by unfold zB;rw[cU,aO];rfl
  have ah:t8 (⟨b0,⟨bW,bB⟩,ch,b',cc⟩:bc) o d f=7:=by unfold t8;rw[cU,aO];rfl
  try simp only[go_sem]
  repeat'(first|((first|refine af.intro (by first|assumption|(apply xd<;>first|assumption|omega)|(apply vm<;>first|assumption|omega)) ?_|refine ar.intro (by assumption) ?_|with_reducible refine dC ?_)<;>simp only[go_sem,I,aO])|(with_reducible refine aq ?_)|fail)
  all_goals(rw[ah];simp[oa,br])
 |true=>
  have ah:t8 (⟨b0,⟨bW,bB⟩,ch,b',cc⟩:bc) o d f=vn (⟨b0,⟨bW,bB⟩,ch,b',cc⟩:bc) (o+d.length) f:=by unfold t8;rw[cU,aO];rfl
  try simp only[go_sem]
  repeat'((first|refine af.intro (by first|assumption|(apply xd<;>first|assumption|omega)|(apply vm<;>first|assumption|omega)|(apply Tx<;>first|assumption|omega)) ?_|refine ar.intro (by assumption) ?_|with_reducible refine ct ?_|refine a8 ?_)<;>simp only[go_sem,I,aO,e5,gr,ai,aj])
  refine bq (fun h=>?_) (fun h=>?_)
  ·have br:zB (⟨b0,⟨bW,bB⟩,ch,b',cc⟩:bc) o d f=false:=by unfold zB;simp only[cP]at h;rw[cU,aO,h];rfl
   simp only[go_sem,I];rw[ah];simp[oa,br]
  ·have br:zB (⟨b0,⟨bW,bB⟩,ch,b',cc⟩:bc) o d f=true:=by unfold zB;simp only[cP]at h;rw[cU,aO,h];rfl
   have h0:vn (⟨b0,⟨bW,bB⟩,ch,b',cc⟩:bc) (o+d.length) f=0:=by
    simp only[cP,Bool.or_eq_false_iff,decide_eq_false_iff_not]at h;omega
   rw[h0]at ah;have aL:oa (⟨b0,⟨bW,bB⟩,ch,b',cc⟩:bc) o d f=⟨if By (⟨b0,⟨bW,bB⟩,ch,b',cc⟩:bc) o d f then 2 else if f then 1 else b0,⟨bW,xW (⟨b0,⟨bW,bB⟩,ch,b',cc⟩:bc) o d⟩,x' (⟨b0,⟨bW,bB⟩,ch,b',cc⟩:bc) o d f,dg b' (o+d.length),cc⟩:=by unfold oa;exact if_pos br
   simp only[go_sem]
   cases f with
   |true=>
    try simp only[go_sem]
    repeat'(first|((first|refine af.intro (by assumption) ?_|refine ar.intro (by assumption) ?_|refine en ?_|refine a9 Mu (by kernel_rfl) (by rfl) ?_|refine bq (fun h=>?_) (fun h=>?_))<;>simp only[go_sem,I])|(with_reducible refine aq ?_)|fail)
    ·simp only[b7]at h;have hq:By (⟨b0,⟨bW,bB⟩,ch,b',cc⟩:bc) o d true=true:=h;rw[ah,aL,hq];simp[dg,x',xW]
    ·simp only[b7]at h;have hq:By (⟨b0,⟨bW,bB⟩,ch,b',cc⟩:bc) o d true=false:=h;rw[ah,aL,hq];simp[dg,x',xW]
   |false=>
    try simp only[go_sem]
    repeat'(first|((first|refine af.intro (by assumption) ?_|refine ar.intro (by assumption) ?_|refine en ?_|refine a9 Mu (by kernel_rfl) (by rfl) ?_|refine bq (fun h=>?_) (fun h=>?_))<;>simp only[go_sem,I])|(with_reducible refine aq ?_)|fail)
    ·simp only[b7]at h;have hq:By (⟨b0,⟨bW,bB⟩,ch,b',cc⟩:bc) o d false=true:=h;rw[ah,aL,hq];simp[dg,x',xW]
    ·simp only[b7]at h;have hq:By (⟨b0,⟨bW,bB⟩,ch,b',cc⟩:bc) o d false=false:=h;rw[ah,aL,hq];simp[dg,x',xW]
structure e_(m:Nat)(s:ae):Prop where
 snd:gl (8 * m) s.send
 d9:∀c∈s.recv.buffer.bd,sC c
 vU:s.recv.buffer.bd.length≤m
structure bZ(m:Nat)(c:J):Prop where
 je:c.streams.length≤24
 kH:∀s∈c.streams,e_ m s
 uG:c.packets.length≤m
 kI:∀p∈c.packets,EA p
theorem e_.mono{m n:Nat}{s:ae}(h:e_ m s)(hm:m≤n):e_ n s:=⟨h.snd.mono (by omega),h.d9,by have:=h.vU;omega⟩
theorem bZ.mono{m n:Nat}{c:J}(h:bZ m c)(hm:m≤n):bZ n c:=⟨h.je,fun s hs=>(h.kH s hs).mono hm,by have:=h.uG;omega,h.kI⟩
theorem e_.sz{m:Nat}{s:ae}(h:e_ m s)(hm:m≤20):eb s:=by
 have h1:=h.snd.size;have h2:=h.snd.c;have ak:=h.vU;refine⟨by omega,by omega,fun c hc=>?_,by omega⟩;have:=h.d9 c hc;simp only[sC]at this;omega
theorem bZ.sz{m:Nat}{c:J}(h:bZ m c)(hm:m≤20):iH c:=by
 have h1:=h.je;have ak:=h.uG;exact⟨by omega,fun s hs=>(h.kH s hs).sz hm,by omega,h.kI⟩
theorem R8(m:Nat):e_ m jc:=⟨R4 (by omega) _ _ _,by simp[jc],by simp[jc]⟩
theorem R9(m:Nat)(v:Bool)(i:Int)(o p:du):e_ m (gq v i o p):=by
 unfold gq;split
 ·exact⟨aao (by omega) _,by simp[vK],by simp[vK]⟩
 ·exact R8 m
theorem aaz{m:Nat}{l:List ae}(h:∀s∈l,e_ m s)(id:Int):e_ m (bN l id).1:=by
 unfold bN;split
 ·rename_i s hs;exact h s (List.mem_of_find?_eq_some hs)
 ·exact R8 m
theorem oh{l:List ae}{id:Int}(h:(bN l id).2=true):(bN l id).1.id=id∧(bN l id).1∈l:=by
 unfold bN at h⊢;split at h
 ·rename_i s hs;have h1:=List.find?_some hs;exact⟨cl h1,List.mem_of_find?_eq_some hs⟩
 ·cases h
theorem aaA{l:List ae}{s:ae}(h:(bN l s.id).2=true):(dq l s).length=l.length:=by
 unfold dq;split
 ·rw[List.length_set]
 ·rename_i hn;obtain⟨h1,h2⟩:=oh h;rw[List.findIdx?_eq_none_iff]at hn;have:=hn _ h2;simp[ff,h1]at this
def jV(c:J)(s:ae):J:={c with streams:=dq c.streams s}
theorem R_{m:Nat}{c:J}{s:ae}(h:bZ m c)(hs:e_ m s)(hf:(bN c.streams s.id).2=true):bZ m (jV c s):=by
 refine⟨?_,fun x hx=>?_,h.uG,h.kI⟩
 ·simp only[jV,aaA hf];exact h.je
 ·rcases yE hx with hx|rfl
  ·exact h.kH x hx
  ·exact hs
theorem R'{v:Bool}{o p:du}{id:Int}:∀(k:Nat) (l:List ae) (x:ae),x∈ks v o p id k l→x∈l∨∃i,x=gq v i o p
 |0,l,x,h=>Or.inl h
 |k+1,l,x,h=>by
  rcases R' k _ x h with h|h
  ·rcases yE h with h|h
   ·exact Or.inl h
   ·exact Or.inr ⟨_,h⟩
  ·exact Or.inr h
theorem xQ{m:Nat}{c:J}(h:bZ m c)(id:Int):bZ m (bw c id):=by
 unfold bw;split
 ·rename_i hg;simp only[Bool.and_eq_true]at hg;have hn:=B2 hg.2 (by have:=h.je;omega);have hl:=N0 c.df c.own c.dr id (lx c id).toNat c.streams;have hw:(uz c id (j_ (nd c id) (g0 id))).packets=c.packets:=by unfold uz;split<;>rfl
  refine⟨by simp only;omega,fun x hx=>?_,by simp only[hw];exact h.uG,by simp only[hw];exact h.kI⟩;rcases R' _ _ x hx with hx|⟨i,rfl⟩
  ·exact h.kH x hx
  ·exact R9 m _ _ _ _
 ·exact h
def mF(c:J):da×Bool:=if yN c.bO then(wE c.bO c.hO c.own.hD,zt c.bO c.hO c.own.hD)else(c.bO,c.vQ)
def jB(a:dm)(t:Bool):dm×Bool:=if GW a then(x3 a,Bp a)else(a,t)
def Fe(s:ae):Bool:=s.eJ&&decide (s.recv.state=0)&&!s.ky
def l9(c:J)(s:ae):da×Bool:=if Fe s then(if yN s.window then(wE s.window c.hO c.own.hD,zt s.window c.hO c.own.hD)else(s.window,s.kb))else(s.window,false)
def uC(k i l:Int):al:=⟨k,i,0,[],false,0,l,0,false⟩
def iA(k l:Int)(u:Bool):al:=⟨k,0,0,[],false,0,l,0,u⟩
def xk(k i c z:Int):al:=⟨k,i,0,[],false,c,0,z,false⟩
def mG(s:ae):List al:=if s.ho then [xk 4 s.id s.send.code s.send.sent]else []
def sR(s:ae):List al:=if s.hH&&decide (s.recv.state<2)then [xk 5 s.id s.lC 0]else []
def vO(c:J)(s:ae):List al:=if(l9 c s).2 then [uC 17 s.id (l9 c s).1.a1]else []
def xj(s:ae):List al:=if sQ s.c2&&s.eo&&decide (0<(s.send.pending.length:Int))then [uC 21 s.id s.c2.a1]else []
def i2(c:J)(s:ae):List al:=mG s++sR s++vO c s++xj s
def GN(c:J):List al:=(if(mF c).2 then [iA 16 (mF c).1.a1 false]else [])++(if(jB c.dA c.mH).2 then [iA 18 (jB c.dA c.mH).1.a1 false]else [])++(if(jB c.dz c.mI).2 then [iA 18 (jB c.dz c.mI).1.a1 true]else [])
def GO(c:J):List al:=(if sQ c.c0 then [iA 20 c.c0.a1 false]else [])++(if c.eT.blocked=c.eT.a1 then [iA 22 c.eT.a1 false]else [])++(if c.eS.blocked=c.eS.a1 then [iA 22 c.eS.a1 true]else [])
def iB(c:J):List al:=if iS c then GN c++c.streams.flatMap (i2 c)++GO c else []
def ka(c:J)(s:ae)(k:Int):ae:=
 if k=4 then {s with ho:=false}else if k=5 then {s with hH:=false}else if k=17 then {s with window:=if(l9 c s).2 then(l9 c s).1 else s.window,kb:=false}else if k=21 then {s with c2:=uE s.c2}else s
def kc(c:J)(f:al):J:=
 if e6 c then
  (if f.bn=16 then {c with bO:=(mF c).1,vQ:=false}
   else if f.bn=18 then(if f.fc then {c with dz:=(jB c.dz false).1,mI:=false}else {c with dA:=(jB c.dA false).1,mH:=false})
   else if f.bn=20 then {c with c0:=uE c.c0}
   else if f.bn=22 then(if f.fc then {c with eS:={c.eS with blocked:=-1}}else {c with eT:={c.eT with blocked:=-1}})
   else if(bN c.streams f.stream).2 then jV c (ka c (aw c f.stream) f.bn)else c)
 else c
def mL(id:Int)(p:bS):al:=⟨8,id,p.offset,p.data,p.ba,0,0,0,false⟩
def Cu(c:J)(s:ae):Int:=c7 s.c2.a1 (IntKind.i64.wrap (s.send.sent+Ay c.c0))
def vW(s:aM)(id jW room:Int):Nat→bS×Bool
 |0=>(n1,false)
 |n+1=>if mN s (n+1:Nat) jW then(if((gC (mL id (mM s (n+1:Nat) jW))).length:Int)≤room then(mM s (n+1:Nat) jW,true)else vW s id jW room n)else(n1,false)
def yT(c:J)(id room:Int):Bool:=e6 c&&(bN c.streams id).2&&(aw c id).eo&&!decide (room<3)
def uH(c:J)(id room:Int):bS×Bool:=if yT c id room then vW (aw c id).send id (Cu c (aw c id)) room (c7 room 60).toNat else(n1,false)
def Aw(c:J)(id:Int):Bool:=e6 c&&(bN c.streams id).2&&(aw c id).eo
def uK(s:ae)(p:bS):Int:=IntKind.i64.wrap ((n0 s.send p).sent-s.send.sent)
def vV(c:J)(id:Int)(p:bS):Bool:=Aw c id&&(nk (aw c id).send p&&tO (aw c id).c2 (uK (aw c id) p)&&tO c.c0 (uK (aw c id) p))
def tM(s:ae)(p:bS):ae:={s with send:=n0 s.send p,c2:=uJ s.c2 (uK s p)}
def yU(c:J)(id:Int)(p:bS):J:=if vV c id p then {c with c0:=uJ c.c0 (uK (aw c id) p),eZ:=id,streams:=dq c.streams (tM (aw c id) p)}else c
def wants(s:ae):Bool:=s.eo&&decide (s.send.state<3)&&(decide (0<(s.send.pending.length:Int))||decide (s.send.ba=1))
def yS(s:ae):c4:=⟨s.id,s.priority⟩
def vS(c:J):List c4:=(c.streams.filter wants).map yS
def vT(s:ae):ae:={s with c2:=uI s.c2}
def Fo(c:J)(id:Int):J:={c with c0:=uI c.c0,streams:=dq c.streams (vT (aw c id))}
structure mK where
 x:J
 skip:List Int
 bT:List al
 room:Int
def Au(q:mK):List c4:=q.skip.foldl kZ (vS q.x)
def fS(q:mK):Int:=yQ (Au q) q.x.eZ
def kA(q:mK):bS×Bool:=uH q.x (fS q) q.room
def yR(q:mK):mK:=⟨Fo q.x (fS q),q.skip++[fS q],q.bT,q.room⟩
def Av(q:mK):mK:=⟨yU q.x (fS q) (kA q).1,q.skip,q.bT++[mL (fS q) (kA q).1],IntKind.i64.wrap (q.room-((gC (mL (fS q) (kA q).1)).length:Int))⟩
def jC:Nat→mK→mK
 |0,q=>q
 |k+1,q=>if fS q<0 then q else if(kA q).2 then(if vV q.x (fS q) (kA q).1 then jC k (Av q)else q)else jC k (yR q)
structure yP where
 x:J
 bT:List al
 room:Int
def mJ(q:yP)(f:al):yP:=if((gC f).length:Int)≤q.room then⟨kc q.x f,q.bT++[f],IntKind.i64.wrap (q.room-((gC f).length:Int))⟩else q
def Ar(c:J)(b:Int):Bool:=iS c&&bz b 1 400&&!decide (1000000≤c.number)
def dj(c:J)(b:Int):yP:=(iB c).foldl mJ ⟨c,[],b⟩
def kd(c:J)(b:Int):mK:=jC 200 ⟨(dj c b).x,[],(dj c b).bT,(dj c b).room⟩
def fo(c:J)(b:Int):J:=
 if Ar c b then(if(kd c b).bT=[]then(kd c b).x else {(kd c b).x with packets:=(kd c b).x.packets++[⟨c.number,(kd c b).bT⟩],number:=IntKind.i64.wrap (c.number+1)})else c
def As(c:J)(b:Int):Bool:=Ar c b&&!decide ((kd c b).bT=[])
def uF(c:J)(b:Int):Int:=if As c b then c.number else -1
def vP(c:J)(b:Int):List UInt8:=if As c b then xo (kd c b).bT else []
def lK(s:ae)(e:Int):Int:=fV s.recv e
def gK(c:J)(s:ae)(e:Int):Int:=if lK s e=0 then 0 else if gD s.window (lK s e)&&gD c.bO (lK s e)then 0 else 3
def i9(s:ae)(e:Int):ae:=if lK s e=0 then s else {s with window:=kl s.window (lK s e)}
def kk(c:J)(s:ae)(e:Int):J:=if lK s e=0 then c else {c with bO:=kl c.bO (lK s e)}
def od(s:ae)(t:Int):Int:=dg 0 (IntKind.i64.wrap (t-s.window.read))
def nA(s:ae)(t:Int):ae:={s with window:=iR s.window (od s t)}
def oc(c:J)(s:ae)(t:Int):J:={c with bO:=iR c.bO (od s t)}
def nw(f:al):Int:=IntKind.i64.wrap (f.offset+(f.data.length:Int))
def fi(s:ae)(r:bc):ae:={s with recv:=r}
def nx(c:J)(f:al)(k:Int):Bool:=e6 c&&eQ f&&decide (f.bn=k)
def wm(c:J)(f:al):Int:=
 if nx c f 8 then(if eJ c.df f.stream then(if fG c f.stream=0 then(if gK (bw c f.stream) (aw (bw c f.stream) f.stream) (nw f)=0 then t8 (aw (bw c f.stream) f.stream).recv f.offset f.data f.ba else gK (bw c f.stream) (aw (bw c f.stream) f.stream) (nw f))else fG c f.stream)else 5)else 7
def zh(x:J)(f:al):ae:=fi (i9 (aw x f.stream) (nw f)) (oa (aw x f.stream).recv f.offset f.data f.ba)
def zg(c:J)(f:al):J:=if wm c f=0 then dt (kk (bw c f.stream) (aw (bw c f.stream) f.stream) (nw f)) (zh (bw c f.stream) f)else c
def wx(c:J)(f:al):Int:=
 if nx c f 4 then(if eJ c.df f.stream then(if fG c f.stream=0 then(if gK (bw c f.stream) (aw (bw c f.stream) f.stream) f.bg=0 then vb (aw (bw c f.stream) f.stream).recv f.code f.bg else gK (bw c f.stream) (aw (bw c f.stream) f.stream) f.bg)else fG c f.stream)else 5)else 7
def GQ(x:J)(f:al):bc:=tb (aw x f.stream).recv f.code f.bg
def t'(x:J)(f:al):Bool:=decide ((GQ x f).state=4)&&decide ((aw x f.stream).recv.state≠4)
def GR(x:J)(f:al):ae:=i9 (aw x f.stream) f.bg
def LL(x:J)(f:al):J:=kk x (aw x f.stream) f.bg
def oe(x:J)(f:al):ae:=fi (if t' x f then nA (GR x f) f.bg else GR x f) (GQ x f)
def va(x:J)(f:al):J:=if t' x f then oc (LL x f) (GR x f) f.bg else LL x f
def zj(c:J)(f:al):J:=if wx c f=0 then dt (va (bw c f.stream) f) (oe (bw c f.stream) f)else c
def zl(c:J)(f:al):Int:=if nx c f 5 then(if eo c.df f.stream then fG c f.stream else 5)else 7
def nj(x:J)(f:al):ae:=if sH (aw x f.stream).send f.code then fe (aw x f.stream) f.code else aw x f.stream
def zk(c:J)(f:al):J:=if zl c f=0 then dt (bw c f.stream) (nj (bw c f.stream) f)else c
def Bf(c:J)(f:al):Bool:=if f.bn=21 then eJ c.df f.stream else eo c.df f.stream
def wv(c:J)(f:al):Int:=if Bf c f then fG c f.stream else 5
def Be(x:J)(f:al):ae:={aw x f.stream with c2:=u_ (aw x f.stream).c2 f.a1}
def zi(c:J)(f:al):J:=if wv c f=0 then(if f.bn=17 then jV (bw c f.stream) (Be (bw c f.stream) f)else bw c f.stream)else c
def Dz(c:J)(f:al):Bool:=e6 c&&eQ f
def t_(c:J)(f:al):Int:=if Dz c f then(if f.bn=16∨f.bn=18∨f.bn=20∨f.bn=22 then 0 else if f.bn=17∨f.bn=21 then wv c f else 7)else 7
def mU(c:J)(f:al):J:=
 if Dz c f then(if f.bn=16 then {c with c0:=u_ c.c0 f.a1}else if f.bn=18 then(if f.fc then {c with eS:=x4 c.eS f.a1}else {c with eT:=x4 c.eT f.a1})else if f.bn=17∨f.bn=21 then zi c f else c)else c
def Bg(c:J)(f:al):Int:=if f.bn=8 then wm c f else if f.bn=4 then wx c f else if f.bn=5 then zl c f else t_ c f
def uA(c:J)(f:al):J:=if f.bn=8 then zg c f else if f.bn=4 then zj c f else if f.bn=5 then zk c f else mU c f
def i_(c:J)(id:Int):Bool:=iS c&&(bN c.streams id).2&&(aw c id).eJ
def fX(c:J)(id m:Int):bc:=g5 (aw c id).recv m
def ti(c:J)(id m:Int):Bool:=decide ((fX c id m).state<4)
def mY(c:J)(id m:Int):ae:=fi (aw c id) (fX c id m)
def fW(c:J)(id m:Int):ae:=if ti c id m then nA (mY c id m) (fX c id m).buffer.next else mY c id m
def fr(c:J)(id m:Int):J:=if ti c id m then oc c (mY c id m) (fX c id m).buffer.next else c
def er(c:J)(id m:Int):J:=if i_ c id then dt (fr c id m) (fW c id m)else c
def ny(c:J)(id m:Int):List UInt8:=if i_ c id then jI (aw c id).recv m else []
def nz(c:J)(id m:Int):Bool:=i_ c id&&(decide ((fX c id m).state=3)||decide ((fX c id m).state=5))
def j3(n:Int)(p:aI):Bool:=decide (p.number=n)
def j2(xs:List aI)(n:Int):aI×Bool:=match xs.find? (j3 n)with|some p=>(p,true)|none=>(⟨0,[]⟩,false)
def lS(c:J)(n:Int):J:={c with packets:=c.packets.filter fun p=>!j3 n p}
def zu(f:al):bS:=⟨f.offset,f.data,f.ba⟩
def gm(s:ae)(f:al):ae:=
 if f.bn=8 then f0 s (xS s.send (zu f))else if f.bn=4 then {s with send:=Bi s.send,ho:=if zv s.send then false else s.ho}else if f.bn=5 then {s with hH:=false}else s
def Bl(c:J)(f:al):Bool:=(bN c.streams f.stream).2&&ke f.bn
def m9(c:J)(f:al):J:=if Bl c f then dt c (gm (aw c f.stream) f)else c
def kJ(s:ae)(f:al):ae:=
 if f.bn=8 then f0 s (wA s.send (zu f))else if f.bn=4 then {s with ho:=decide (s.send.state=4)}else if f.bn=5 then {s with hH:=decide (s.recv.state<2)}else if f.bn=17 then {s with kb:=true}else s
def m'(c:J)(f:al):J:=
 if f.bn=16 then {c with vQ:=true}else if f.bn=18 then(if f.fc then {c with mI:=true}else {c with mH:=true})else if Bl c f then jV c (kJ (aw c f.stream) f)else c
def lR(c:J)(n:Int):Bool:=iS c&&(j2 c.packets n).2
def yp(c:J)(n:Int):J:=if lR c n then(j2 c.packets n).1.frames.foldl m9 (lS c n)else c
def yr(c:J)(n:Int):J:=if lR c n then(j2 c.packets n).1.frames.foldl m' (lS c n)else c
def vJ(v:Bool)(o p:du):J:=
 if gO o&&gO p then⟨v,o,p,[],x5 p.c0,wF o.c0 o.lZ,Bq p.kT,Bq p.fc,zw o.kT,zw o.fc,false,false,false,-1,0,[],0,0⟩
 else⟨false,⟨0,0,0,0,0,0,0,0⟩,⟨0,0,0,0,0,0,0,0⟩,[],⟨0,0,0,0⟩,⟨0,0,0,0,0,0⟩,⟨0,0,0⟩,⟨0,0,0⟩,⟨0,0,0,0⟩,⟨0,0,0,0⟩,false,false,false,0,0,[],0,0⟩
theorem e_.same{m:Nat}{s t:ae}(h:e_ m s)(h1:t.send=s.send)(h2:t.recv=s.recv):e_ m t:=⟨h1▸h.snd,h2▸h.d9,h2▸h.vU⟩
theorem e_.zo{m:Nat}{s:ae}(h:e_ m s){x:aM}(hx:gl (8 * m) x):e_ m (f0 s x):=⟨hx,h.d9,h.vU⟩
theorem bZ.same{m:Nat}{c d:J}(h:bZ m c)(h1:d.streams=c.streams)(h2:d.packets=c.packets):bZ m d:=⟨h1▸h.je,h1▸h.kH,h2▸h.uG,h2▸h.kI⟩
theorem bZ.aw{m:Nat}{c:J}(h:bZ m c)(id:Int):e_ m (aw c id):=aaz h.kH id
theorem wB{c:J}{id:Int}(h:(bN c.streams id).2=true):(aw c id).id=id:=(oh h).1
theorem xT{m:Nat}{c:J}{id:Int}{s:ae}(h:bZ m c)(hf:(bN c.streams id).2=true)(hi:s.id=(aw c id).id)(hs:e_ m s):bZ m (jV c s):=
 R_ h hs (by rw[hi,wB hf];exact hf)
theorem yq(c:J)(s:ae):(lr c s).streams=c.streams∧(lr c s).packets=c.packets:=by
 unfold lr;repeat' split
 all_goals exact⟨rfl,rfl⟩
theorem Bk(c:J)(s:ae):(gG c s).send=s.send∧(gG c s).recv=s.recv∧(gG c s).id=s.id:=by
 unfold gG;split<;>exact⟨rfl,rfl,rfl⟩
theorem aaB(c:J)(s:ae):(dt c s).streams=(jV c (gG c s)).streams∧(dt c s).packets=(jV c (gG c s)).packets:=⟨rfl,(yq c s).2⟩
theorem LG{m:Nat}{c:J}{id:Int}{s:ae}(h:bZ m c)(hf:(bN c.streams id).2=true)(hi:s.id=id)(hs:e_ m s):bZ m (dt c s):=by
 obtain⟨dy,d_,ej⟩:=Bk c s;obtain⟨dh,c_⟩:=aaB c s;exact(R_ h (hs.same dy d_) (by rw[ej,hi];exact hf)).same dh c_
theorem eb.over{c:J}{s:ae}(h:eb s):eb (gG c s):=by
 obtain⟨dy,d_,ej⟩:=Bk c s;unfold eb;rw[dy,d_];exact h
theorem Fh(c:J)(s:ae)(k:Int):(ka c s k).send=s.send∧(ka c s k).recv=s.recv∧(ka c s k).id=s.id:=by
 unfold ka;repeat' split
 all_goals exact⟨rfl,rfl,rfl⟩
theorem aaC{m:Nat}{c:J}(h:bZ m c)(f:al):bZ m (kc c f):=by
 unfold kc
 repeat' split
 all_goals first
  |exact h.same rfl rfl
  |(rename_i hf;obtain⟨dy,d_,ej⟩:=Fh c (aw c f.stream) f.bn;exact xT h hf ej ((h.aw f.stream).same dy d_))
def ni(f:al):Prop:=f.data.length≤60
theorem aaD{c:J}{s:ae}:∀f∈i2 c s,ni f:=by
 intro f hf;simp only[i2,mG,sR,vO,xj,List.mem_append]at hf;rcases hf with ((hf|hf)|hf)|hf<;>(split at hf<;>simp at hf;subst hf;simp[ni,xk,uC])
theorem Co(c:J)(s:ae):(i2 c s).length≤4:=by
 simp only[i2,mG,sR,vO,xj,List.length_append];have h:∀(b:Bool) (f:al),(if b=true then [f]else []).length≤1:=fun b f=>by cases b<;>simp
 have h1:=h s.ho (xk 4 s.id s.send.code s.send.sent);have h2:=h (s.hH&&decide (s.recv.state<2)) (xk 5 s.id s.lC 0);have ak:=h (l9 c s).2 (uC 17 s.id (l9 c s).1.a1);have aC:=h (sQ s.c2&&s.eo&&decide (0<(s.send.pending.length:Int))) (uC 21 s.id s.c2.a1);omega
theorem Ff{α β:Type}(g:α→List β)(k:Nat):∀(l:List α),(∀x∈l,(g x).length≤k)→(l.flatMap g).length≤k * l.length
 |[],_=>by simp
 |x::l,h=>by
  have h1:=h x (by simp);have h2:=Ff g k l fun y hy=>h y (by simp[hy]);rw[List.flatMap_cons,List.length_append,List.length_cons,Nat.mul_add];omega
theorem aaE(c:J):(GN c).length≤3∧∀f∈GN c,ni f:=by
 unfold GN
 cases(mF c).2<;>cases(jB c.dA c.mH).2<;>cases(jB c.dz c.mI).2<;>simp[ni,iA]
theorem aaF(c:J):(GO c).length≤3∧∀f∈GO c,ni f:=by
 unfold GO
 cases sQ c.c0<;>by_cases h1:c.eT.blocked=c.eT.a1<;>by_cases h2:c.eS.blocked=c.eS.a1<;>simp[ni,iA,h1,h2]
theorem OU{m:Nat}{c:J}(h:bZ m c):(iB c).length≤102∧∀f∈iB c,ni f:=by
 unfold iB;split
 ·obtain⟨b5,cv⟩:=aaE c;obtain⟨tA,mD⟩:=aaF c;have:=Ff (i2 c) 4 c.streams fun s _=>Co c s;have:=h.je;refine⟨by simp only[List.length_append];omega,fun f hf=>?_⟩;rcases List.mem_append.1 hf with hf|hf
  ·rcases List.mem_append.1 hf with hf|hf
   ·exact cv f hf
   ·obtain⟨s,_,hs⟩:=List.mem_flatMap.1 hf;exact aaD f hs
  ·exact mD f hf
 ·simp
structure l_(m k:Nat)(x:J)(bT:List al):Prop where
 c:bZ m x
 n:bT.length≤k
 d:∀f∈bT,ni f
theorem l_.mono{m k j:Nat}{x:J}{bT:List al}(h:l_ m k x bT)(hk:k≤j):l_ m j x bT:=⟨h.c,by have:=h.n;omega,h.d⟩
theorem l_.add{m k:Nat}{x y:J}{bT:List al}{f:al}(h:l_ m k x bT)(hy:bZ m y)(hf:ni f):l_ m (k+1) y (bT++[f]):=
 ⟨hy,by have:=h.n;simp;omega,fun g hg=>by rcases List.mem_append.1 hg with hg|hg;exact h.d g hg;simp at hg;subst hg;exact hf⟩
theorem OW{m k:Nat}{q:yP}{f:al}(h:l_ m k q.x q.bT)(hf:ni f):l_ m (k+1) (mJ q f).x (mJ q f).bT:=by
 unfold mJ;split
 ·exact h.add (aaC h.c f) hf
 ·exact h.mono (by omega)
theorem Sa{m:Nat}:∀(l:List al) (k:Nat) (q:yP),l_ m k q.x q.bT→(∀f∈l,ni f)→l_ m (k+l.length) (l.foldl mJ q).x (l.foldl mJ q).bT
 |[],k,q,h,_=>h
 |f::l,k,q,h,hl=>by
  have:=Sa l (k+1) (mJ q f) (OW h (hl f (by simp))) fun g hg=>hl g (by simp[hg]);rw[List.length_cons,show k+(l.length+1)=k+1+l.length from by omega];exact this
theorem aaG(r:c5)(o n:Int):((zp r o n).length:Int)≤dg 0 n:=by
 unfold zp;split
 ·rw[Sb];unfold dg;split<;>omega
 ·unfold dg;simp;split<;>omega
theorem O_{s:aM}{m l:Int}(h0:0≤m)(h1:m≤1000)(hp:k9 s.ring.cj s.pending)(akS:s.ring.cj≤4611686018427387903):((mM s m l).data.length:Int)≤m:=by
 unfold mM;split
 ·split
  ·rename_i hok _ r hr;have hm:r∈s.pending:=List.mem_of_getElem? hr;have tY:=(gL _).1 (((jK _).1 hp.1).1 r hm);have hr2:=hp.2 r hm;have:=aaG s.ring r.low (IntKind.i64.wrap (km r m l-r.low));simp only[mN,hr,Bool.and_eq_true,decide_eq_true_eq]at hok;obtain⟨_,k1,k2⟩:=hok;have akT:c7 r.high l≤r.high:=by unfold c7;split<;>omega
   have hh:km r m l-r.low≤m∧0≤km r m l-r.low:=by
    unfold km at k2⊢;split
    ·rename_i g;rw[if_pos g]at k2;have e:dg m 0=m:=by unfold dg;split<;>omega
     rw[e]at k2⊢;rw[bE]at k2⊢<;>omega
    ·rename_i g;rw[bE]at g<;>omega
   have hw:IntKind.i64.wrap (km r m l-r.low)=km r m l-r.low:=by rw[bE]<;>omega
   simp only;rw[hw]at this⊢;unfold dg at this;split at this<;>omega
  ·simpa using h0
 ·simp[n1];omega
theorem Sc{s:aM}{id jW room:Int}(hp:k9 s.ring.cj s.pending)(he:s.ring.cj≤4611686018427387903):∀(n:Nat),n≤60→(vW s id jW room n).1.data.length≤60
 |0,_=>by simp[vW,n1]
 |n+1,hn=>by
  unfold vW;have:=O_ (m:=(n+1:Nat)) (l:=jW) (by omega) (by omega) hp he;split
  ·split
   ·show(mM s ((n+1:Nat):Int) jW).data.length≤60
    omega
   ·exact Sc hp he n (by omega)
  ·simp[n1]
theorem O1{m:Nat}{c:J}(h:bZ m c)(hm:m≤1000)(id room:Int):(uH c id room).1.data.length≤60:=by
 have hs:=(h.aw id).snd;unfold uH;split
 ·refine Sc hs.p (by have:=hs.ai;omega) _ ?_;unfold c7;split<;>omega
 ·simp[n1]
theorem Sd{c:J}{id:Int}{p:bS}(h:vV c id p=true):(bN c.streams id).2=true:=by
 simp only[vV,Aw,Bool.and_eq_true,and_assoc]at h;exact h.2.1
theorem O5{m:Nat}{c:J}(h:bZ m c)(id:Int)(p:bS)(hp:p.data.length≤1048576):bZ m (yU c id p):=by
 unfold yU;split
 ·rename_i hok;have:=xT (s:=tM (aw c id) p) h (Sd hok) rfl ⟨O4 (h.aw id).snd hp,(h.aw id).d9,(h.aw id).vU⟩;exact this.same rfl rfl
 ·exact h
theorem O3{m:Nat}{c:J}{id:Int}(h:bZ m c)(hf:(bN c.streams id).2=true):bZ m (Fo c id):=by
 have:=xT (s:=vT (aw c id)) h hf rfl ((h.aw id).same rfl rfl);exact this.same rfl rfl
theorem aaH(l:List Int)(eZ:Int):wC l eZ=-1∨wC l eZ∈l:=by
 unfold wC;split
 ·rename_i x hx;exact Or.inr (List.mem_of_find?_eq_some hx)
 ·split
  ·exact Or.inl rfl
  ·exact Or.inr (by simp)
theorem aaI(l:List c4)(eZ:Int):yQ l eZ=-1∨∃c∈l,c.id=yQ l eZ:=by
 unfold yQ;split
 ·rename_i c hc;exact Or.inr ⟨c,List.mem_of_find?_eq_some hc,rfl⟩
 ·rcases aaH (nE (vg l) l) eZ with h|h
  ·exact Or.inl h
  ·right;unfold nE at h⊢;obtain⟨c,hc,hx⟩:=List.mem_flatMap.1 h;exact⟨c,hc,by simpa using((List.mem_filter.1 hx).2:_) |> cl |>.symm⟩
theorem Se:∀(bP:List Int) (l:List c4) (c:c4),c∈bP.foldl kZ l→c∈l
 |[],_,_,h=>h
 |i::bP,l,c,h=>(List.mem_filter.1 (Se bP (kZ l i) c h)).1
theorem LH{l:List ae}{s:ae}(h:s∈l):(bN l s.id).2=true:=by
 unfold bN;split
 ·rfl
 ·rename_i hn;rw[List.find?_eq_none]at hn;have:=hn s h;simp[ff]at this
theorem JB{q:mK}(h:0≤fS q):(bN q.x.streams (fS q)).2=true:=by
 rcases aaI (Au q) q.x.eZ with h1|⟨c,hc,h1⟩
 ·unfold fS at h;omega
 ·have hw:=Se q.skip (vS q.x) c hc;obtain⟨s,hs,rfl⟩:=List.mem_map.1 hw;have:=LH (List.mem_filter.1 hs).1;have e:s.id=fS q:=h1;rw[←e];exact this
theorem LI{m:Nat}(hm:m≤1000):∀(n k:Nat) (q:mK),l_ m k q.x q.bT→l_ m (k+n) (jC n q).x (jC n q).bT
 |0,k,q,h=>h
 |n+1,k,q,h=>by
  unfold jC;split
  ·exact h.mono (by omega)
  ·rename_i h0;split
   ·split
    ·rw[show k+(n+1)=k+1+n from by omega];refine LI hm n (k+1) (Av q) ?_;have hl:=O1 h.c hm (fS q) q.room;exact h.add (O5 h.c _ _ (by unfold kA;omega)) hl
    ·exact h.mono (by omega)
   ·refine(LI hm n k (yR q) ⟨O3 h.c (JB (by omega)),h.n,h.d⟩).mono (by omega)
theorem OX{m:Nat}{c:J}(h:bZ m c)(b:Int):l_ m 102 (dj c b).x (dj c b).bT:=by
 obtain⟨h1,h2⟩:=OU h;exact(Sa (iB c) 0 ⟨c,[],b⟩ ⟨h,by simp,by simp⟩ h2).mono (by omega)
theorem OY{m:Nat}{c:J}(h:bZ m c)(hm:m≤1000)(b:Int):l_ m 302 (kd c b).x (kd c b).bT:=(LI hm 200 102 _ (OX h b)).mono (by omega)
theorem V8{m:Nat}{c:J}(h:bZ m c)(hm:m≤1000)(b:Int):bZ (m+1) (fo c b):=by
 have hb:=OY h hm b;unfold fo;split
 ·split
  ·exact hb.c.mono (by omega)
  ·have hc:=hb.c.mono (show m≤m+1 by omega);refine⟨hc.je,hc.kH,?_,fun p hp=>?_⟩
   ·have:=hb.c.uG;simp;omega
   ·rcases List.mem_append.1 hp with hp|hp
    ·exact hc.kI p hp
    ·simp at hp;subst hp;exact⟨by have:=hb.n;show(kd c b).bT.length≤500;omega,hb.d⟩
 ·exact h.mono (by omega)
theorem Sf(l:List ae)(s:ae):s∈dq l s:=by
 unfold dq;split
 ·rename_i i hi;rw[List.findIdx?_eq_some_iff_getElem]at hi;obtain⟨h,_⟩:=hi;exact List.mem_set h _
 ·have:∀(l:List ae) (q:List ae×Bool),(q.2=true→s∈q.1)→((l.foldl (iY s) q).2=true→s∈(l.foldl (iY s) q).1):=by
   intro l
   induction l with
   |nil=>intro q h;exact h
   |cons x l dx=>
    intro q h;rw[List.foldl_cons];refine dx _ ?_;unfold iY;split
    ·intro _;simp
    ·intro hq;simp only at hq⊢;exact List.mem_append_left _ (h hq)
  split
  ·rename_i h2;exact this l ([],false) (by simp) h2
  ·simp
theorem Sg{id:Int}(h:bM id=true):lv id 0=id:=by
 simp only[bM,bz,Bool.and_eq_true,decide_eq_true_eq]at h;unfold lv;simp only[Int.natCast_zero,Int.mul_zero];rw[bE (n:=0) (by omega) (by omega),bE]<;>omega
theorem Sh{v:Bool}{o p:du}{id:Int}(hn:mX id o p=true):∀(k:Nat) (l:List ae),0<k→(bN (ks v o p id k l) id).2=true
 |0,_,h=>by omega
 |k+1,l,_=>by
  cases k with
  |zero=>
   have hq:bM id=true:=by simp only[mX,Bool.and_eq_true]at hn;exact hn.1.1
   have hi:(gq v (lv id 0) o p).id=id:=by rw[Sg hq];unfold gq;rw[hn];rfl
   have:=LH (Sf l (gq v (lv id 0) o p));rw[hi]at this;exact this
  |succ k=>exact Sh hn (k+1) _ (by omega)
theorem Si{l:List ae}{id:Int}(h:0≤hE (ff id) l):(bN l id).2=true:=by
 rcases Ac (ff id) l with ⟨h1,_⟩|⟨j,av,h1,h2,ak⟩
 ·omega
 ·unfold bN;rw[h2]
theorem xU{m:Nat}{c:J}{id:Int}(hc:bZ m c)(h:fG c id=0):(bN (bw c id).streams id).2=true:=by
 unfold fG at h;split at h
 ·omega
 ·rename_i h1;simp only[Bool.not_eq_true',Bool.not_eq_false,Bool.and_eq_true]at h1;split at h
  ·rename_i h2;have e:bw c id=c:=by
    unfold bw;have:decide (hE (ff id) c.streams<0)=false:=bb (by omega);rw[this];simp
   rw[e];exact Si h2
  ·rename_i h2;split at h
   ·omega
   ·rename_i ak;split at h
    ·rename_i aC;have hlt:decide (hE (ff id) c.streams<0)=true:=bk (by omega);have e:(bw c id).streams=ks c.df c.own c.dr id (lx c id).toNat c.streams:=by
      unfold bw;rw[h1.1,h1.2,hlt,aC];have A':lq c.df id=false:=by simpa using ak
      rw[A'];rfl
     rw[e];obtain⟨lX,_⟩:=B2 aC (by have:=hc.je;omega);have hk:=h1.1;simp only[e6,l2,sM,Bool.and_eq_true,and_assoc]at hk;exact Sh (by simp only[mX,Bool.and_eq_true];exact⟨⟨h1.2,hk.1⟩,hk.2.1⟩) _ _ (by omega)
    ·omega
theorem GF(s:ae)(e:Int):(i9 s e).send=s.send∧(i9 s e).recv=s.recv∧(i9 s e).id=s.id:=by unfold i9;split<;>exact⟨rfl,rfl,rfl⟩
theorem Li(c:J)(s:ae)(e:Int):(kk c s e).streams=c.streams∧(kk c s e).packets=c.packets:=by unfold kk;split<;>exact⟨rfl,rfl⟩
def xV(m:Nat)(r:bc):Prop:=(∀c∈r.buffer.bd,sC c)∧r.buffer.bd.length≤m
theorem e_.aaJ{m:Nat}{s:ae}(h:e_ m s){r:bc}(hr:xV m r):e_ m (fi s r):=⟨h.snd,hr.1,hr.2⟩
theorem e_.db{m:Nat}{s:ae}(h:e_ m s):xV m s.recv:=⟨h.d9,h.vU⟩
theorem aaK{m:Nat}{r:bc}(h:xV m r)(o:Int)(d:List UInt8)(f:Bool)(hd:d.length≤8)(az:0≤o∧o≤900):xV (m+1) (oa r o d f):=by
 unfold oa;split
 ·have:=ND r.buffer.next r.buffer.bd o d;exact⟨NC h.1 az.1 (by omega),by have:=h.2;simp only[xW];omega⟩
 ·exact⟨h.1,by have:=h.2;omega⟩
theorem aaL{m:Nat}{r:bc}(h:xV m r)(c f:Int):xV m (tb r c f):=by
 unfold tb;split
 ·exact⟨by simp,by simp⟩
 ·exact h
theorem aaM{m:Nat}{r:bc}(h:xV m r)(k:Int):xV m (g5 r k):=by
 unfold g5;split
 ·split
  ·exact h
  ·exact⟨Vd h.1,by have:=Ve r.buffer.next r.buffer.bd k;have:=h.2;simp only;omega⟩
 ·exact h
theorem GP{m:Nat}{c x:J}{id:Int}{s:ae}(h:bZ m c)(hx:x.streams=c.streams∧x.packets=c.packets)(hf:(bN c.streams id).2=true)(hi:s.id=id)(hs:e_ m s):bZ m (dt x s):=
 LG (h.same hx.1 hx.2) (by rw[hx.1];exact hf) hi hs
theorem LJ{c:J}{f:al}(h:wm c f=0):fG c f.stream=0:=by
 unfold wm at h
 repeat' split at h
 all_goals first|omega|assumption
theorem LK{c:J}{f:al}(h:wx c f=0):fG c f.stream=0:=by
 unfold wx at h
 repeat' split at h
 all_goals first|omega|assumption
theorem Sj{c:J}{f:al}(h:zl c f=0):fG c f.stream=0:=by
 unfold zl at h
 repeat' split at h
 all_goals first|omega|assumption
theorem Sk{c:J}{f:al}(h:wv c f=0):fG c f.stream=0:=by
 unfold wv at h
 repeat' split at h
 all_goals first|omega|assumption
theorem RG{m:Nat}{x:J}{f:al}(h:bZ m x)(hd:f.data.length≤8)(az:0≤f.offset∧f.offset≤900):e_ (m+1) (zh x f):=by
 obtain⟨dy,d_,ej⟩:=GF (aw x f.stream) (nw f);exact(((h.aw f.stream).mono (show m≤m+1 by omega)).same dy d_).aaJ (aaK (h.aw f.stream).db _ _ _ hd az)
theorem aaN(x:J)(f:al):(zh x f).id=(aw x f.stream).id:=(GF (aw x f.stream) (nw f)).2.2
theorem aaO{m:Nat}{c:J}{f:al}(h:bZ m c)(hd:f.data.length≤8)(az:0≤f.offset∧f.offset≤900):bZ (m+1) (zg c f):=by
 unfold zg;split
 ·rename_i he;have hx:=xQ h f.stream;have hf:=xU h (LJ he);exact GP (hx.mono (by omega)) (Li _ _ _) hf ((aaN _ f).trans (wB hf)) (RG hx hd az)
 ·exact h.mono (by omega)
theorem RR(x:J)(f:al):(va x f).streams=x.streams∧(va x f).packets=x.packets:=by
 unfold va LL oc;split<;>exact Li _ _ _
theorem Sl(x:J)(f:al):(oe x f).send=(aw x f.stream).send∧(oe x f).recv=GQ x f∧(oe x f).id=(aw x f.stream).id:=by
 obtain⟨dy,d_,ej⟩:=GF (aw x f.stream) f.bg;unfold oe GR nA fi;split<;>exact⟨dy,rfl,ej⟩
theorem RQ{m:Nat}{x:J}{f:al}(h:bZ m x):e_ m (oe x f):=by
 obtain⟨dy,d_,ej⟩:=Sl x f;have hr:=aaL (h.aw f.stream).db f.code f.bg;exact⟨dy▸(h.aw f.stream).snd,by rw[d_];exact hr.1,by rw[d_];exact hr.2⟩
theorem aaP{m:Nat}{c:J}{f:al}(h:bZ m c):bZ m (zj c f):=by
 unfold zj;split
 ·rename_i he;have hx:=xQ h f.stream;have hf:=xU h (LK he);exact GP hx (RR _ f) hf ((Sl _ f).2.2.trans (wB hf)) (RQ hx)
 ·exact h
theorem e_.LM{m:Nat}{s:ae}(h:e_ m s)(k:Int):e_ m (fe s k):=⟨aaq h.snd k,h.d9,h.vU⟩
theorem RS{m:Nat}{x:J}{f:al}(h:bZ m x):e_ m (nj x f):=by
 unfold nj;split
 ·exact(h.aw f.stream).LM f.code
 ·exact h.aw f.stream
theorem Sm(x:J)(f:al):(nj x f).id=(aw x f.stream).id:=by unfold nj;split<;>rfl
theorem aaQ{m:Nat}{c:J}{f:al}(h:bZ m c):bZ m (zk c f):=by
 unfold zk;split
 ·rename_i he;have hx:=xQ h f.stream;have hf:=xU h (Sj he);exact GP hx ⟨rfl,rfl⟩ hf ((Sm _ f).trans (wB hf)) (RS hx)
 ·exact h
theorem aaR{m:Nat}{c:J}{f:al}(h:bZ m c):bZ m (zi c f):=by
 unfold zi;split
 ·rename_i he;have hx:=xQ h f.stream;have hf:=xU h (Sk he);split
  ·exact xT (id:=f.stream) hx hf rfl ((hx.aw f.stream).same rfl rfl)
  ·exact hx
 ·exact h
theorem aaS{m:Nat}{c:J}{f:al}(h:bZ m c):bZ m (mU c f):=by
 unfold mU
 repeat' split
 all_goals first|exact h.same rfl rfl|exact aaR h
theorem V9{m:Nat}{c:J}{f:al}(h:bZ m c)(hd:f.data.length≤8)(az:0≤f.offset∧f.offset≤900):bZ (m+1) (uA c f):=by
 unfold uA
 repeat' split
 ·exact aaO h hd az
 ·exact(aaP h).mono (by omega)
 ·exact(aaQ h).mono (by omega)
 ·exact(aaS h).mono (by omega)
theorem xX{c:J}{id:Int}(h:jw c id=true):(bN c.streams id).2=true:=by simp only[jw,Bool.and_eq_true]at h;exact h.1.2
theorem V4{m:Nat}{c:J}(h:bZ m c)(id:Int){d:List UInt8}(hd:d.length≤8):bZ (m+1) (fF c id d):=by
 unfold fF;split
 ·rename_i hg;have hw:e_ (m+1) (f0 (aw c id) (sI (aw c id).send d)):=((h.aw id).mono (by omega)).zo (by have:=LD (h.aw id).snd hd;rw[show(8 * (m+1:Nat):Int)=8 * m+8 from by omega];exact this);exact(xT (id:=id) (h.mono (show m≤m+1 by omega)) (xX hg) rfl hw)
 ·exact h.mono (by omega)
theorem V6{m:Nat}{c:J}(h:bZ m c)(id k:Int):bZ m (jP c id k):=by
 unfold jP;split
 ·rename_i hg;simp only[vG,Bool.and_eq_true]at hg;have hf:=xX hg.1;exact LG h hf (wB hf) ((h.aw id).LM k)
 ·exact h
theorem RN(c:J)(id m:Int):(fr c id m).streams=c.streams∧(fr c id m).packets=c.packets:=by unfold fr oc;split<;>exact⟨rfl,rfl⟩
theorem DG(c:J)(id m:Int):(fW c id m).send=(aw c id).send∧(fW c id m).recv=fX c id m∧(fW c id m).id=(aw c id).id:=by unfold fW nA mY fi;split<;>exact⟨rfl,rfl,rfl⟩
theorem Ll{m:Nat}{c:J}(h:bZ m c)(id k:Int):e_ m (fW c id k):=by
 obtain⟨dy,d_,ej⟩:=DG c id k;have hr:=aaM (h.aw id).db k;exact⟨dy▸(h.aw id).snd,by rw[d_];exact hr.1,by rw[d_];exact hr.2⟩
theorem Ox{m:Nat}{c:J}(h:bZ m c)(id k:Int):bZ m (er c id k):=by
 unfold er;split
 ·rename_i hg;simp only[i_,Bool.and_eq_true]at hg;have hf:=hg.1.2;exact GP h (RN c id k) hf ((DG c id k).2.2.trans (wB hf)) (Ll h id k)
 ·exact h
theorem Ey{m:Nat}{c:J}(h:bZ m c)(n:Int):bZ m (lS c n):=
 ⟨h.je,h.kH,Nat.le_trans (List.length_filter_le _ _) h.uG,fun p hp=>h.kI p (List.mem_filter.1 hp).1⟩
theorem Sn(s:ae)(f:al):(gm s f).id=s.id:=by
 unfold gm;repeat' split
 all_goals rfl
theorem Nl{m:Nat}{s:ae}(h:e_ m s)(f:al):e_ m (gm s f):=by
 unfold gm;split
 ·exact h.zo (aax h.snd)
 ·split
  ·exact⟨aar h.snd,h.d9,h.vU⟩
  ·split
   ·exact h.same rfl rfl
   ·exact h
theorem Nk{m:Nat}{c:J}(h:bZ m c)(f:al):bZ m (m9 c f):=by
 unfold m9;split
 ·rename_i hg;simp only[Bl,Bool.and_eq_true]at hg;exact LG h hg.1 ((Sn _ f).trans (wB hg.1)) (Nl (h.aw _) f)
 ·exact h
theorem So(s:ae)(f:al):(kJ s f).id=s.id:=by
 unfold kJ;repeat' split
 all_goals rfl
theorem Nn{m:Nat}{s:ae}(h:e_ m s)(f:al):e_ m (kJ s f):=by
 unfold kJ
 repeat' split
 ·exact h.zo (aay h.snd)
 all_goals exact h.same rfl rfl
theorem Nm{m:Nat}{c:J}(h:bZ m c)(f:al):bZ m (m' c f):=by
 unfold m'
 repeat' split
 all_goals first
  |exact h.same rfl rfl
  |(rename_i hg;simp only[Bl,Bool.and_eq_true]at hg;exact xT h hg.1 (So _ f) (Nn (h.aw _) f))
theorem BO{m:Nat}{g:J→al→J}(hg:∀c f,bZ m c→bZ m (g c f)):∀(l:List al) (c:J),bZ m c→bZ m (l.foldl g c)
 |[],_,h=>h
 |f::l,c,h=>BO hg l (g c f) (hg c f h)
theorem V'{m:Nat}{c:J}(h:bZ m c)(n:Int):bZ m (yp c n):=by
 unfold yp;split
 ·exact BO (fun c f h=>Nk h f) _ _ (Ey h n)
 ·exact h
theorem V_{m:Nat}{c:J}(h:bZ m c)(n:Int):bZ m (yr c n):=by
 unfold yr;split
 ·exact BO (fun c f h=>Nm h f) _ _ (Ey h n)
 ·exact h
theorem Wa(v:Bool)(o p:du):bZ 0 (vJ v o p):=by
 unfold vJ;split<;>exact⟨by simp,by simp,by simp,by simp⟩
theorem Ja{P:Program}{kv:List V}{ay:List Oper}{K:St→Prop}(Inv:Nat→List Bool→St→Prop)
  (h0:∀S σ,Inv 0 S σ→rdyE S ay [] S=[]∧K σ)
  (h1:∀n S σ (F:List Bool→St→Prop),Inv (n+1) S σ→(∀j' σ',Inv n j' σ'→F j' σ')→(rdyE S ay [] S=[]→K σ)∧tF (rdyE S ay [] S) fun o j'=>tG P kv ay σ o (bo (fun σ'=>F j' σ') .mk)) :
  ∀n S σ,Inv n S σ→exE P kv ay n S σ K
 |0,S,σ,h=>h0 S σ h
 |n+1,S,σ,h=>h1 n S σ (fun j' σ'=>exE P kv ay n j' σ' K) h fun j' σ' h'=>Ja Inv h0 h1 n j' σ' h'
theorem Oq{ay:List Oper}{S:List Bool}{Q:Prop}{x:Oper×List Bool}{r:List (Oper×List Bool)}{G:Oper→List Bool→Prop}(e:rdyE S ay [] S=x::r)(h:tF (x::r) G):(rdyE S ay [] S=[]→Q)∧tF (rdyE S ay [] S) G:=⟨fun h'=>(by rw[e]at h';cases h'),(by rw[e];exact h)⟩
set_option maxRecDepth 100000
def Pr:List (List bt):=cE 40 [12157665459056928800,12157665459056928798,12157665459056928792,12157665459056928774,12157665459056928720,12157665459056925642,12157665459056928315,12157665459056926857,12157665459056922240,12157665459056909118,12157665459056869752,12157665459056751654,12157665459056397360,12157665459055334478,12157665459052145832,12157665459042579894,12157665459013882080,12157665458927788638,12157665458669508312,12157665457894667334,12157665455570144400,12157665448596575598,12157665427675869192,12157665364913749974,12157665176627392320,12157664611768319358,12157662917191100472,12157657833459443814,12157642582264473840,12157596828679563918,12157459567924834152,12157047785660644854,12155812438868076960,12152106398490373278,12140988277357262232,12107633913957929094,12007570823759929680,11707381553165931438,10806813741383936712,8105110306037952534]
attribute [go_sem] Pr
theorem Js{P:Program}{kv:List V}{ay:List Oper}{σ:St}{K:St→Prop}(s:St)(h:exE P kv ay ay.length (List.replicate ay.length false) σ (fun σ'=>σ'=s))(hk:K s):AB P kv ay.toArray σ K:=j6 (fun σ'=>σ'=s) h (fun σ' e=>by rw[e];exact hk)
def oneB(b:Bool):Int:=if b then 1 else 0
def JJ:List (Nat×List Bool):=[(12,[false,false,false,false,false,false,false,false,false,false,false,false]),(11,[true,false,false,false,false,false,false,false,false,false,false,false]),(11,[false,false,true,false,false,false,false,false,false,false,false,false]),(11,[false,false,false,false,true,false,false,false,false,false,false,false]),(10,[true,true,false,false,false,false,false,false,false,false,false,false]),(10,[true,false,true,false,false,false,false,false,false,false,false,false]),(10,[true,false,false,false,true,false,false,false,false,false,false,false]),(10,[false,false,true,true,false,false,false,false,false,false,false,false]),(10,[false,false,true,false,true,false,false,false,false,false,false,false]),(10,[false,false,false,false,true,true,false,false,false,false,false,false]),(9,[true,true,true,false,false,false,false,false,false,false,false,false]),(9,[true,true,false,false,true,false,false,false,false,false,false,false]),(9,[true,true,false,false,false,false,true,false,false,false,false,false]),(9,[true,false,true,true,false,false,false,false,false,false,false,false]),(9,[true,false,true,false,true,false,false,false,false,false,false,false]),(9,[true,false,false,false,true,true,false,false,false,false,false,false]),(9,[false,false,true,true,true,false,false,false,false,false,false,false]),(9,[false,false,true,false,true,true,false,false,false,false,false,false]),(8,[true,true,true,true,false,false,false,false,false,false,false,false]),(8,[true,true,true,false,true,false,false,false,false,false,false,false]),(8,[true,true,true,false,false,false,true,false,false,false,false,false]),(8,[true,true,false,false,true,true,false,false,false,false,false,false]),(8,[true,true,false,false,true,false,true,false,false,false,false,false]),(8,[true,true,false,false,false,false,true,true,false,false,false,false]),(8,[true,false,true,true,true,false,false,false,false,false,false,false]),(8,[true,false,true,false,true,true,false,false,false,false,false,false]),(8,[false,false,true,true,true,true,false,false,false,false,false,false]),(7,[true,true,true,true,true,false,false,false,false,false,false,false]),(7,[true,true,true,true,false,false,true,false,false,false,false,false]),(7,[true,true,true,false,true,true,false,false,false,false,false,false]),(7,[true,true,true,false,true,false,true,false,false,false,false,false]),(7,[true,true,true,false,false,false,true,true,false,false,false,false]),(7,[true,true,false,false,true,true,true,false,false,false,false,false]),(7,[true,true,false,false,true,false,true,true,false,false,false,false]),(7,[true,false,true,true,true,true,false,false,false,false,false,false]),(6,[true,true,true,true,true,true,false,false,false,false,false,false]),(6,[true,true,true,true,true,false,true,false,false,false,false,false]),(6,[true,true,true,true,false,false,true,true,false,false,false,false]),(6,[true,true,true,false,true,true,true,false,false,false,false,false]),(6,[true,true,true,false,true,false,true,true,false,false,false,false]),(6,[true,true,false,false,true,true,true,true,false,false,false,false]),(5,[true,true,true,true,true,true,true,false,false,false,false,false]),(5,[true,true,true,true,true,false,true,true,false,false,false,false]),(5,[true,true,true,true,false,false,true,true,true,false,false,false]),(5,[true,true,true,false,true,true,true,true,false,false,false,false]),(4,[true,true,true,true,true,true,true,true,false,false,false,false]),(4,[true,true,true,true,true,false,true,true,true,false,false,false]),(4,[true,true,true,true,false,false,true,true,true,true,false,false]),(3,[true,true,true,true,true,true,true,true,true,false,false,false]),(3,[true,true,true,true,true,false,true,true,true,true,false,false]),(2,[true,true,true,true,true,true,true,true,true,true,false,false]),(1,[true,true,true,true,true,true,true,true,true,true,true,false]),(0,[true,true,true,true,true,true,true,true,true,true,true,true])]
def Fu(dT ek:Int)(dU:List UInt8)(eL:Bool)(eV ey e1:Int)(e7:Bool)(S:List Bool):St:=⟨(.agg [.d (.int .i64 8),.d (.int .i64 dT),.d (.int .i64 ek),.d (.str dU),.d (.bool eL),.d (.int .i64 eV),.d (.int .i64 ey),.d (.int .i64 e1),.d (.bool e7)]::.ptr 0 0 0::.ptr 1 0 0::.ptr 2 0 0::.ptr 0 0 0::.d (.int .i64 8)::.agg [.d (.int .i64 8),.d (.int .i64 0),.d (.int .i64 0),.d (.str []),.d (.bool false),.d (.int .i64 0),.d (.int .i64 0),.d (.int .i64 0),.d (.bool false)]::.agg [.d (.int .i64 8),.d (.int .i64 dT),.d (.int .i64 ek),.d (.str dU),.d (.bool eL),.d (.int .i64 eV),.d (.int .i64 ey),.d (.int .i64 e1),.d (.bool e7)]::.d (.bool true)::.ptr 0 0 1::.d (.int .i64 dT)::.ptr 2 0 1::.ptr 0 0 0::.d (.int .i64 8)::aF 3 (.d (.bool false)::.d (.bool false)::aF 6 (.d (.bool false)::.d (.bool false)::aF 3 (.d (.bool true)::.d (.bool true)::(bif S.getD 0 false then .ptr 0 0 2 else .ab)::(bif S.getD 1 false then .d (.int .i64 ek)else .ab)::(bif S.getD 2 false then .ptr 0 0 3 else .ab)::(bif S.getD 3 false then .d (.str dU)else .ab)::(bif S.getD 4 false then .ptr 0 0 4 else .ab)::(bif S.getD 5 false then .d (.bool eL)else .ab)::(bif S.getD 6 false then .ptr 2 0 2 else .ab)::(bif S.getD 8 false then .ptr 2 0 3 else .ab)::(bif S.getD 10 false then .ptr 2 0 4 else .ab)::aF 10 [])))),[.box [.d (.int .i64 8),.d (.int .i64 dT),.d (.int .i64 ek),.d (.str dU),.d (.bool eL),.d (.int .i64 eV),.d (.int .i64 ey),.d (.int .i64 e1),.d (.bool e7)],.box al.bJ,.box [.d (.int .i64 8),.d (.int .i64 dT),(bif S.getD 7 false then .d (.int .i64 ek)else .d (.int .i64 0)),(bif S.getD 9 false then .d (.str dU)else .d (.str [])),(bif S.getD 11 false then .d (.bool eL)else .d (.bool false)),.d (.int .i64 0),.d (.int .i64 0),.d (.int .i64 0),.d (.bool false)]]⟩
set_option maxHeartbeats 4000000 in
theorem Xn(dQ dT ek:Int)(dU:List UInt8)(eL:Bool)(eV ey e1:Int)(e7:Bool):PureCall Tryz.prog 129 [.agg [.int .i64 dQ,.int .i64 dT,.int .i64 ek,.str dU,.bool eL,.int .i64 eV,.int .i64 ey,.int .i64 e1,.bool e7]] [.agg (al.enc (gz (⟨dQ,dT,ek,dU,eL,eV,ey,e1,e7⟩:al)))]:=by
 refine aP 51 Tryz.func129 Tryz.call129 [.cell 2 120] ?_;intro _;by_cases fI:dQ=8
 ·subst fI;have ai:ke 8=true:=rfl
  try simp only[go_sem,show decide ((8:Int)=4)=false from rfl,show decide ((8:Int)=5)=false from rfl,show decide ((8:Int)=8)=true from rfl]
  repeat'(refine af.intro (by apply Po) ?_<;>simp only[go_sem,ai,show decide ((8:Int)=4)=false from rfl,show decide ((8:Int)=5)=false from rfl,show decide ((8:Int)=8)=true from rfl])
  refine j6 (fun σ'=>σ'=Fu dT ek dU eL eV ey e1 e7 (List.replicate 12 true)) ?_ ?_
  ·refine Ja (fun n S σ=>(n,S)∈JJ∧σ=Fu dT ek dU eL eV ey e1 e7 S) ?_ ?_ _ _ _ ⟨by first|exact List.Mem.head _|decide +kernel,rfl⟩
   ·rintro S σ ⟨aQ,rfl⟩;simp only[JJ,List.mem_cons,Prod.mk.injEq,List.not_mem_nil,or_false]at aQ;rcases aQ with ⟨hn,rfl⟩|⟨hn,rfl⟩|⟨hn,rfl⟩|⟨hn,rfl⟩|⟨hn,rfl⟩|⟨hn,rfl⟩|⟨hn,rfl⟩|⟨hn,rfl⟩|⟨hn,rfl⟩|⟨hn,rfl⟩|⟨hn,rfl⟩|⟨hn,rfl⟩|⟨hn,rfl⟩|⟨hn,rfl⟩|⟨hn,rfl⟩|⟨hn,rfl⟩|⟨hn,rfl⟩|⟨hn,rfl⟩|⟨hn,rfl⟩|⟨hn,rfl⟩|⟨hn,rfl⟩|⟨hn,rfl⟩|⟨hn,rfl⟩|⟨hn,rfl⟩|⟨hn,rfl⟩|⟨hn,rfl⟩|⟨hn,rfl⟩|⟨hn,rfl⟩|⟨hn,rfl⟩|⟨hn,rfl⟩|⟨hn,rfl⟩|⟨hn,rfl⟩|⟨hn,rfl⟩|⟨hn,rfl⟩|⟨hn,rfl⟩|⟨hn,rfl⟩|⟨hn,rfl⟩|⟨hn,rfl⟩|⟨hn,rfl⟩|⟨hn,rfl⟩|⟨hn,rfl⟩|⟨hn,rfl⟩|⟨hn,rfl⟩|⟨hn,rfl⟩|⟨hn,rfl⟩|⟨hn,rfl⟩|⟨hn,rfl⟩|⟨hn,rfl⟩|⟨hn,rfl⟩|⟨hn,rfl⟩|⟨hn,rfl⟩|⟨hn,rfl⟩|⟨hn,rfl⟩
    all_goals(first|exact absurd hn (by decide)|skip)
    exact⟨rfl,rfl⟩
   ·rintro n S σ F ⟨aQ,rfl⟩ bV;simp only[JJ,List.mem_cons,Prod.mk.injEq,List.not_mem_nil,or_false]at aQ;rcases aQ with ⟨hn,rfl⟩|⟨hn,rfl⟩|⟨hn,rfl⟩|⟨hn,rfl⟩|⟨hn,rfl⟩|⟨hn,rfl⟩|⟨hn,rfl⟩|⟨hn,rfl⟩|⟨hn,rfl⟩|⟨hn,rfl⟩|⟨hn,rfl⟩|⟨hn,rfl⟩|⟨hn,rfl⟩|⟨hn,rfl⟩|⟨hn,rfl⟩|⟨hn,rfl⟩|⟨hn,rfl⟩|⟨hn,rfl⟩|⟨hn,rfl⟩|⟨hn,rfl⟩|⟨hn,rfl⟩|⟨hn,rfl⟩|⟨hn,rfl⟩|⟨hn,rfl⟩|⟨hn,rfl⟩|⟨hn,rfl⟩|⟨hn,rfl⟩|⟨hn,rfl⟩|⟨hn,rfl⟩|⟨hn,rfl⟩|⟨hn,rfl⟩|⟨hn,rfl⟩|⟨hn,rfl⟩|⟨hn,rfl⟩|⟨hn,rfl⟩|⟨hn,rfl⟩|⟨hn,rfl⟩|⟨hn,rfl⟩|⟨hn,rfl⟩|⟨hn,rfl⟩|⟨hn,rfl⟩|⟨hn,rfl⟩|⟨hn,rfl⟩|⟨hn,rfl⟩|⟨hn,rfl⟩|⟨hn,rfl⟩|⟨hn,rfl⟩|⟨hn,rfl⟩|⟨hn,rfl⟩|⟨hn,rfl⟩|⟨hn,rfl⟩|⟨hn,rfl⟩|⟨hn,rfl⟩
    rotate_right 1
    ·exact absurd hn (by omega)
    all_goals(
     simp only[Nat.reduceEqDiff]at hn
     try subst hn
     simp only[Fu,List.getD_cons_succ,List.getD_cons_zero,cond_true,cond_false];refine Oq rfl ?_
     repeat'(first
      |exact Cm
      |(refine Cn ?_ ?_)
      |exact bV _ _ ⟨by first|exact List.Mem.head _|decide +kernel,rfl⟩
      |simp only[go_sem]))
  ·rintro _ rfl;simp only[Fu,List.replicate,List.getD_cons_succ,List.getD_cons_zero,cond_true];simp only[go_sem];simp[gz,ke]
 ·skip
  try simp only[go_sem]
  repeat'((first|refine af.intro (by apply Po) ?_|refine bq (fun h=>?_) (fun h=>?_))<;>simp only[go_sem])
  all_goals(first|(exfalso;simp only[decide_eq_true_eq,decide_eq_false_iff_not]at *;omega)|skip)
  all_goals(try(apply Js;(focus ((repeat'(first|exact Cm|(refine Cn ?_ ?_)|(refine Jt rfl ?_)|(refine Ju rfl ?_)|(simp only[go_sem])));all_goals exact rfl));simp only[go_sem]))
  all_goals(simp only[decide_eq_true_eq,decide_eq_false_iff_not]at *;first|(exfalso;omega)|(exfalso;simp_all [ke];done)|(simp[gz, *];done)|(simp[gz,ke]at *;simp[ *];done)|(simp_all [gz,ke];done))
theorem Xo(f:al):(bif bif bif bif bif bif !kindOk f.bn then true else !decide (f=gz f)then true else !bM f.stream then true else !bM f.offset then true else !bM f.code then true else !bM f.a1 then true else !bM f.bg)=!(kindOk f.bn&&decide (f=gz f)&&bM f.stream&&bM f.offset&&bM f.code&&bM f.a1&&bM f.bg):=by
 cases kindOk f.bn<;>cases decide (f=gz f)<;>cases bM f.stream<;>cases bM f.offset<;>cases bM f.code<;>cases bM f.a1<;>cases bM f.bg<;>rfl
def AE(f:al):Bool:=kindOk f.bn&&decide (f=gz f)&&bM f.stream&&bM f.offset&&bM f.code&&bM f.a1&&bM f.bg
theorem Xp(f:al):eQ f=(AE f&&if f.bn=18∨f.bn=22 then decide (f.a1≤1152921504606846976)else(decide ((f.data.length:Int)≤400)&&decide (f.offset≤IntKind.i64.wrap (4611686018427387903-(f.data.length:Int))))):=by
 by_cases hu:gz f=f
 ·have h1:f.offset=if f.bn=8 then f.offset else 0:=congrArg al.offset hu.symm
  have h2:f.data=if f.bn=8 then f.data else []:=congrArg al.data hu.symm
  have ai:decide (gz f=f)=true:=bk hu;have aj:decide (f=gz f)=true:=bk hu.symm;unfold eQ yV AE;rw[ai,aj];by_cases fI:f.bn=8
  ·have iL:¬(f.bn=18∨f.bn=22):=by omega
   simp only[fI,if_true];rw[←fI];simp only[iL,if_false];have e:(!decide (400<(f.data.length:Int)))=decide ((f.data.length:Int)≤400):=by by_cases h:(f.data.length:Int)≤400<;>simp[h]<;>omega
   rw[e];simp only[Bool.and_assoc]
  ·rw[if_neg fI]at h1 h2;have w:decide ((0:Int)≤IntKind.i64.wrap (4611686018427387903-(([]:List UInt8).length:Int)))=true:=by decide
   by_cases iL:f.bn=18∨f.bn=22
   ·rw[if_neg fI,if_pos iL,if_pos iL,h1,h2];simp
   ·rw[if_neg fI,if_neg iL,if_neg iL,h1,h2,w];simp
 ·have ai:decide (gz f=f)=false:=bb hu;have aj:decide (f=gz f)=false:=bb (fun h=>hu h.symm);unfold eQ yV AE;rw[ai,aj];simp
set_option maxHeartbeats 4000000 in
theorem U3(dQ dT ek:Int)(dU:List UInt8)(eL:Bool)(eV ey e1:Int)(e7:Bool):PureCall Tryz.prog 92 [.agg [.int .i64 dQ,.int .i64 dT,.int .i64 ek,.str dU,.bool eL,.int .i64 eV,.int .i64 ey,.int .i64 e1,.bool e7]] [.one (.bool (eQ (⟨dQ,dT,ek,dU,eL,eV,ey,e1,e7⟩:al)))]:=by
 refine aP 67 Tryz.func92 Tryz.call92 [.tmp 2] ?_;intro _;have hk:decide (uN dQ=[])=!kindOk dQ:=by have:=Pn dQ;rw[←this];cases uN dQ<;>rfl
 have hf:=Pq (⟨dQ,dT,ek,dU,eL,eV,ey,e1,e7⟩:al) (gz (⟨dQ,dT,ek,dU,eL,eV,ey,e1,e7⟩:al));simp only at hf;have ah:=Xo (⟨dQ,dT,ek,dU,eL,eV,ey,e1,e7⟩:al)
 try simp only[go_sem]
 repeat'((first|refine ar.intro (by first|apply Xl|apply Xn|apply tw) ?_|refine en ?_|refine a9 Pr (by kernel_rfl) (by rfl) ?_)<;>simp only[go_sem,hk,hf])
 rw[ah];rw[Xp]
 cases cU:AE (⟨dQ,dT,ek,dU,eL,eV,ey,e1,e7⟩:al)with
 |false=>
  unfold AE at cU;rw[cU];simp only[go_sem,Bool.not_false]
  try simp
 |true=>
  unfold AE at cU;rw[cU];simp only[go_sem,Bool.not_true]
  try simp only[go_sem]
  repeat'((first|refine a8 ?_|refine bq (fun h=>?_) (fun h=>?_))<;>simp only[go_sem])
  ·have h':dQ=18∨dQ=22:=by revert h;simp
   simp[h']
  ·have h':¬(dQ=18∨dQ=22):=by revert h;simp
   simp only[if_neg h',b7]
set_option maxRecDepth 100000
def OJ:List (List bt):=cE 10 [55769,57958,58963,58945,59008,58810,58324,56863,52488,39366]
attribute [go_sem] OJ
set_option maxHeartbeats 2000000 in
theorem OK(c:J):PureCall Tryz.prog 206 [.agg (J.enc c)] [.agg (da.enc ((mF c).1)),.one (.bool (mF c).2)]:=by
 refine aP 26 Tryz.func206 Tryz.call206 [.cell 2 30,.tmp 3] ?_;intro _
 try simp only[go_sem]
 repeat'(refine af.intro (by apply Jr) ?_<;>simp only[go_sem])
 cases h:yN c.bO with
 |true=>
  try simp only[go_sem]
  repeat'(refine af.intro (by apply OL) ?_<;>simp only[go_sem])
  simp[mF,h]
 |false=>
  simp only[go_sem];apply Js;(focus ((repeat'(first|exact Cm|(refine Cn ?_ ?_)|(refine Jt rfl ?_)|(refine Ju rfl ?_)|(simp only[go_sem])));all_goals exact rfl));simp only[go_sem];simp[mF,h]
theorem Fc(ed ee ef eg:Int)(t:Bool):PureCall Tryz.prog 207 [.agg [.int .i64 ed,.int .i64 ee,.int .i64 ef,.int .i64 eg],.one (.bool t)] [.agg [.int .i64 ((jB (⟨ed,ee,ef,eg⟩:dm) t).1).most,.int .i64 ((jB (⟨ed,ee,ef,eg⟩:dm) t).1).a1,.int .i64 ((jB (⟨ed,ee,ef,eg⟩:dm) t).1).seen,.int .i64 ((jB (⟨ed,ee,ef,eg⟩:dm) t).1).closed],.one (.bool ((jB (⟨ed,ee,ef,eg⟩:dm) t).2))]:=by
 refine aP 19 Tryz.func207 Tryz.call207 [.cell 4 34,.tmp 5] ?_;intro _
 try simp only[go_sem]
 repeat'((first|refine af.intro (by first|apply OM|apply Wq) ?_|refine bq (fun h=>?_) (fun h=>?_))<;>simp only[go_sem])
 all_goals simp[jB, *]
theorem Wr(s:ae):(bif bif !s.eJ then true else decide (s.recv.state≠0)then true else s.ky)=!Fe s:=by
 unfold Fe
 cases s.eJ<;>cases s.ky<;>by_cases h:s.recv.state=0<;>simp[h]
set_option maxHeartbeats 2000000 in
theorem ON(c:J)(s:ae):PureCall Tryz.prog 239 [.agg (J.enc c),.agg (ae.enc s)] [.agg (da.enc ((l9 c s).1)),.one (.bool (l9 c s).2)]:=by
 refine aP 43 Tryz.func239 Tryz.call239 [.cell 4 30,.tmp 5] ?_;intro _;have br:=Wr s
 try simp only[go_sem]
 repeat'(refine a8 ?_<;>simp only[go_sem])
 rw[br]
 cases hg:Fe s with
 |false=>
  try simp only[go_sem,Bool.not_false]
  all_goals simp[l9, *]
 |true=>
  try simp only[go_sem,Bool.not_true]
  repeat'(refine af.intro (by apply Jr) ?_<;>simp only[go_sem])
  cases h:yN s.window with
  |true=>
   try simp only[go_sem]
   repeat'(refine af.intro (by apply OL) ?_<;>simp only[go_sem])
   simp[l9,h,hg]
  |false=>
   simp only[go_sem];apply Js;(focus ((repeat'(first|exact Cm|(refine Cn ?_ ?_)|(refine Jt rfl ?_)|(refine Ju rfl ?_)|(simp only[go_sem])));all_goals exact rfl));simp only[go_sem];simp[l9,h,hg]
theorem Ws(s:ae):(bif bif sQ s.c2 then s.eo else false then decide (0<(s.send.pending.length:Int))else false)=(sQ s.c2&&s.eo&&decide (0<(s.send.pending.length:Int))):=by cases sQ s.c2<;>cases s.eo<;>rfl
theorem Wt(s:ae):(bif s.hH then decide (s.recv.state<2)else false)=(s.hH&&decide (s.recv.state<2)):=by cases s.hH<;>rfl
set_option maxHeartbeats 4000000 in
theorem Wu(c:J)(s:ae):PureCall Tryz.prog 208 [.agg (J.enc c),.agg (ae.enc s)] [.one (.sl 9 ((i2 c s).map al.enc))]:=by
 refine ui 78 Tryz.func208 Tryz.call208 [.tmp 4] ?_;intro ok;clear ok;have ah:i2 c s=mG s++sR s++vO c s++xj s:=rfl;have e9:=Co c s;rw[ah]at e9;simp only[List.length_append]at e9;refine eu Tryz.checked.mixed 3 (α:=List al) (fun cp=>⟨(.ab::.ab::.ptr 0 0 0::.ptr 1 0 0::.ab::.sl 2 0 cp.length::aF 72 []),[.box (J.bC c),.box (ae.bC s),.ao 9 (cp.map al.enc) true]⟩) (fun cp=>cp=mG s) ?_ ?_
 ·skip
  try simp only[go_sem]
  cases h:s.ho with
  |true=>
   try simp only[go_sem]
   repeat'(first|(with_reducible refine aq ?_)|fail)
   refine dp.intro (mG s) [0,1,4] rfl ?_;simp only[go_sem];simp[mG,h,xk,al.enc]
  |false=>
   simp only[go_sem];refine dp.intro (mG s) [0,1,2] rfl ?_;simp only[go_sem];simp[mG,h]
 rintro cp d';have gM:cp.length≤4:=by rw[d'];(try simp only[List.length_append]);omega
 refine eu Tryz.checked.mixed 1 (α:=List al) (fun cp=>⟨(.ab::.ab::.ptr 0 0 0::.ptr 1 0 0::.ab::.sl 2 0 cp.length::aF 72 []),[.box (J.bC c),.box (ae.bC s),.ao 9 (cp.map al.enc) true]⟩) (fun cp=>cp=mG s++sR s) ?_ ?_
 ·skip
  try simp only[go_sem]
  repeat'(refine a8 ?_<;>simp only[go_sem])
  rw[Wt s]
  cases h:s.hH&&decide (s.recv.state<2)with
  |true=>
   try simp only[go_sem,I]
   repeat'(first|(with_reducible refine aq ?_)|fail)
   refine dp.intro (mG s++sR s) [0,1,4] rfl ?_;simp only[go_sem];simp[sR,h,d',xk,al.enc]
  |false=>
   simp only[go_sem];refine dp.intro (mG s++sR s) [0,1,2] rfl ?_;simp only[go_sem];simp[sR,h,d']
 rintro cp d';have gM:cp.length≤4:=by rw[d'];(try simp only[List.length_append]);omega
 refine eu Tryz.checked.mixed 2 (α:=List al) (fun cp=>⟨(.ab::.ab::.ptr 0 0 0::.ptr 1 0 0::.ab::.sl 2 0 cp.length::aF 72 []),[.box (J.bC c),.box (ae.bC s),.ao 9 (cp.map al.enc) true]⟩) (fun cp=>cp=mG s++sR s++vO c s) ?_ ?_
 ·skip
  try simp only[go_sem]
  repeat'(refine af.intro (by apply ON) ?_<;>simp only[go_sem])
  cases h:(l9 c s).2 with
  |true=>
   try simp only[go_sem,I]
   repeat'(first|(with_reducible refine aq ?_)|fail)
   refine dp.intro (mG s++sR s++vO c s) [0,1,5] rfl ?_;simp only[go_sem];simp[vO,h,d',uC,al.enc]
  |false=>
   simp only[go_sem];refine dp.intro (mG s++sR s++vO c s) [0,1,2] rfl ?_;simp only[go_sem];simp[vO,h,d']
 rintro cp d';have gM:cp.length≤4:=by rw[d'];(try simp only[List.length_append]);omega
 refine jr Tryz.checked.mixed ?_
 try simp only[go_sem]
 repeat'((first|refine af.intro (by apply OO) ?_|refine a8 ?_)<;>simp only[go_sem,I])
 rw[Ws s]
 cases h:sQ s.c2&&s.eo&&decide (0<(s.send.pending.length:Int))with
 |true=>
  have bV:xj s=[uC 21 s.id s.c2.a1]:=by unfold xj;rw[h];rfl
  try simp only[go_sem,I]
  repeat'(first|(with_reducible refine aq ?_)|fail)
  rw[ah,←d',bV];simp[uC,al.enc,List.take_of_length_le]
 |false=>
  have bV:xj s=[]:=by unfold xj;rw[h];rfl
  try simp only[go_sem,I]
  repeat'(first|(with_reducible refine aq ?_)|fail)
  rw[ah,←d',bV];simp
def hI(c:J):List al:=(if(mF c).2 then [iA 16 (mF c).1.a1 false]else [])
def i3(c:J):List al:=(if(jB c.dA c.mH).2 then [iA 18 (jB c.dA c.mH).1.a1 false]else [])
def jT(c:J):List al:=(if(jB c.dz c.mI).2 then [iA 18 (jB c.dz c.mI).1.a1 true]else [])
def nY(c:J):List al:=(if sQ c.c0 then [iA 20 c.c0.a1 false]else [])
def uD(c:J):List al:=(if c.eT.blocked=c.eT.a1 then [iA 22 c.eT.a1 false]else [])
def Aq(c:J):List al:=(if c.eS.blocked=c.eS.a1 then [iA 22 c.eS.a1 true]else [])
theorem Cp(b:Prop)[Decidable b](f:al):(if b then [f]else []).length≤1:=by split<;>simp
set_option maxHeartbeats 8000000 in
theorem Wv(c:J)(hz:iH c):PureCall Tryz.prog 176 [.agg (J.enc c)] [.one (.sl 9 ((iB c).map al.enc))]:=by
 refine ui 113 Tryz.func176 Tryz.call176 [.tmp 2] ?_;intro ok;clear ok;have nh:c.streams.length≤30:=hz.1;have ah:iB c=if iS c then hI c++i3 c++jT c++c.streams.flatMap (i2 c)++(nY c++uD c++Aq c)else []:=rfl
 have b5:(hI c).length≤1:=Cp _ _;have cv:(i3 c).length≤1:=Cp _ _;have cm:(jT c).length≤1:=Cp _ _;have tA:(nY c).length≤1:=Cp _ _;have mD:(uD c).length≤1:=Cp _ _;have ad2:=Ff (i2 c) 4 c.streams fun s _=>Co c s;refine eu Tryz.checked.mixed 3 (α:=List al) (fun cp=>⟨(.ab::.ptr 0 0 0::.ab::.sl 1 0 cp.length::aF 109 []),[.box (J.bC c),.ao 9 (cp.map al.enc) true]⟩) (fun cp=>cp=[]∧iS c=true) ?_ ?_
 ·skip
  try simp only[go_sem]
  repeat'(refine af.intro (by(apply uj<;>first|assumption|omega)) ?_<;>simp only[go_sem])
  cases h:iS c with
  |false=>
   simp only[go_sem,Bool.not_false];rw[ah,h];simp
  |true=>
   simp only[go_sem,Bool.not_true];refine dp.intro [] [0,1] (by first|exact⟨rfl,rfl⟩|rfl) ?_;simp only[go_sem];simp
 rintro cp ⟨d',bV⟩;have ah:iB c=hI c++i3 c++jT c++c.streams.flatMap (i2 c)++(nY c++uD c++Aq c):=by rw[ah,bV];rfl
 have gM:cp.length≤0:=by rw[d'];simp
 refine eu Tryz.checked.mixed 2 (α:=List al) (fun cp=>⟨(.ab::.ptr 0 0 0::.ab::.sl 1 0 cp.length::aF 109 []),[.box (J.bC c),.ao 9 (cp.map al.enc) true]⟩) (fun cp=>cp=hI c) ?_ ?_
 ·skip
  try simp only[go_sem]
  repeat'(refine af.intro (by apply OK) ?_<;>simp only[go_sem])
  cases h:(mF c).2 with
  |true=>
   have bF:hI c=[iA 16 (mF c).1.a1 false]:=by unfold hI;rw[h];rfl
   try simp only[go_sem,I]
   repeat'(first|(with_reducible refine aq ?_)|fail)
   refine dp.intro (hI c) [0,4] rfl ?_;simp only[go_sem];simp[bF,d',iA,al.enc]
  |false=>
   have bF:hI c=[]:=by unfold hI;rw[h];rfl
   simp only[go_sem];refine dp.intro (hI c) [0,1] rfl ?_;simp only[go_sem];simp[bF,d']
 clear gM d';rintro cp d';have gM:cp.length≤100:=by rw[d'];(try simp only[List.length_append]);omega
 refine eu Tryz.checked.mixed 2 (α:=List al) (fun cp=>⟨(.ab::.ptr 0 0 0::.ab::.sl 1 0 cp.length::aF 109 []),[.box (J.bC c),.ao 9 (cp.map al.enc) true]⟩) (fun cp=>cp=hI c++i3 c) ?_ ?_
 ·skip
  try simp only[go_sem]
  repeat'(refine af.intro (by apply Fc) ?_<;>simp only[go_sem])
  cases h:(jB c.dA c.mH).2 with
  |true=>
   have bF:i3 c=[iA 18 (jB c.dA c.mH).1.a1 false]:=by unfold i3;rw[h];rfl
   try simp only[go_sem,I]
   repeat'(first|(with_reducible refine aq ?_)|fail)
   refine dp.intro (hI c++i3 c) [0,4] rfl ?_;simp only[go_sem];simp[bF,d',iA,al.enc]
  |false=>
   have bF:i3 c=[]:=by unfold i3;rw[h];rfl
   simp only[go_sem];refine dp.intro (hI c++i3 c) [0,1] rfl ?_;simp only[go_sem];simp[bF,d']
 clear gM d';rintro cp d';have gM:cp.length≤100:=by rw[d'];(try simp only[List.length_append]);omega
 refine eu Tryz.checked.mixed 2 (α:=List al) (fun cp=>⟨(.ab::.ptr 0 0 0::.ab::.sl 1 0 cp.length::aF 109 []),[.box (J.bC c),.ao 9 (cp.map al.enc) true]⟩) (fun cp=>cp=hI c++i3 c++jT c) ?_ ?_
 ·skip
  try simp only[go_sem]
  repeat'(refine af.intro (by apply Fc) ?_<;>simp only[go_sem])
  cases h:(jB c.dz c.mI).2 with
  |true=>
   have bF:jT c=[iA 18 (jB c.dz c.mI).1.a1 true]:=by unfold jT;rw[h];rfl
   try simp only[go_sem,I]
   repeat'(first|(with_reducible refine aq ?_)|fail)
   refine dp.intro (hI c++i3 c++jT c) [0,4] rfl ?_;simp only[go_sem];simp[bF,d',iA,al.enc,Nat.add_assoc]
  |false=>
   have bF:jT c=[]:=by unfold jT;rw[h];rfl
   simp only[go_sem];refine dp.intro (hI c++i3 c++jT c) [0,1] rfl ?_;simp only[go_sem];simp[bF,d']
 clear gM d';rintro cp d';have gM:cp.length≤100:=by rw[d'];(try simp only[List.length_append]);omega
 refine eu Tryz.checked.mixed 1 (α:=List al) (fun cp=>⟨(.ab::.ptr 0 0 0::.ab::.sl 1 0 cp.length::aF 109 []),[.box (J.bC c),.ao 9 (cp.map al.enc) true]⟩) (fun cp=>cp=hI c++i3 c++jT c++c.streams.flatMap (i2 c)) ?_ ?_
 ·simp only[go_sem];subst d';refine b9.intro (α:=Nat×List al) (fun y=>⟨(.ab::.ptr 0 0 0::.ab::.sl 1 0 y.2.length::aF 6 (.d (.int .i64 y.1)::aF 102 [])),[.box (J.bC c),.ao 9 (y.2.map al.enc) true]⟩)
   (fun y=>c.streams.length-y.1) (fun y=>y.1≤c.streams.length∧y.2=hI c++i3 c++jT c++(c.streams.take y.1).flatMap (i2 c)) (0,hI c++i3 c++jT c) [0,1] ⟨by simp,by simp⟩ ?_ ?_
  ·simp only[go_sem];simp
  ·rintro⟨i,q⟩ ⟨hi,hq⟩;simp only at hi hq;by_cases h1:i<c.streams.length
   ·have au:decide ((i:Int)<(c.streams.length:Int))=true:=bk (by omega);have aB:=b4 ae.enc c.streams i h1;have hw:IntKind.i64.wrap ((i:Int)+1)=((i+1:Nat):Int):=by rw[bE]<;>omega
    have hs:hI c++i3 c++jT c++(c.streams.take (i+1)).flatMap (i2 c)=q++i2 c c.streams[i]:=by
     rw[hq,List.take_add_one,dk h1,List.flatMap_append];simp
    have jv:q.length≤3+4 * i:=by
     have:=Ff (i2 c) 4 (c.streams.take i) fun s _=>Co c s;rw[List.length_take]at this;rw[hq];simp only[List.length_append];omega
    have ad3:=Co c c.streams[i];have aQ:=Wu c c.streams[i];generalize i2 c c.streams[i]=r at *
    try simp only[go_sem,I,au]
    repeat'(first|((first|refine af.intro (by assumption) ?_|refine ar.intro (by assumption) ?_|refine a9 OJ (by kernel_rfl) (by rfl) ?_)<;>simp only[go_sem,I,aJ,aB,ae.enc])|(with_reducible refine aq ?_)|fail)
    refine bu.intro (i+1,q++r) [0,3] ⟨by simp only;omega,hs.symm⟩ (by simp only;omega) ?_;simp only[go_sem,hw];simp
   ·have au:decide ((i:Int)<(c.streams.length:Int))=false:=bb (by omega);obtain rfl:i=c.streams.length:=by omega
    rw[dK]at hq;subst hq;simp only[go_sem,I,au];refine dp.intro (hI c++i3 c++jT c++c.streams.flatMap (i2 c)) [0,1] rfl ?_;simp only[go_sem];simp
 clear gM d';rintro cp d';have gM:cp.length≤123:=by rw[d'];(try simp only[List.length_append]);omega
 refine eu Tryz.checked.mixed 1 (α:=List al) (fun cp=>⟨(.ab::.ptr 0 0 0::.ab::.sl 1 0 cp.length::aF 109 []),[.box (J.bC c),.ao 9 (cp.map al.enc) true]⟩) (fun cp=>cp=hI c++i3 c++jT c++c.streams.flatMap (i2 c)++nY c) ?_ ?_
 ·skip
  try simp only[go_sem]
  repeat'(refine af.intro (by apply OO) ?_<;>simp only[go_sem])
  cases h:sQ c.c0 with
  |true=>
   have bF:nY c=[iA 20 c.c0.a1 false]:=by unfold nY;rw[h];rfl
   try simp only[go_sem,I]
   repeat'(first|(with_reducible refine aq ?_)|fail)
   refine dp.intro (hI c++i3 c++jT c++c.streams.flatMap (i2 c)++nY c) [0,3] rfl ?_;simp only[go_sem];simp[bF,d',iA,al.enc,Nat.add_assoc]
  |false=>
   have bF:nY c=[]:=by unfold nY;rw[h];rfl
   simp only[go_sem];refine dp.intro (hI c++i3 c++jT c++c.streams.flatMap (i2 c)++nY c) [0,1] rfl ?_;simp only[go_sem];simp[bF,d',Nat.add_assoc]
 clear gM d';rintro cp d';have gM:cp.length≤130:=by rw[d'];(try simp only[List.length_append]);omega
 refine eu Tryz.checked.mixed 1 (α:=List al) (fun cp=>⟨(.ab::.ptr 0 0 0::.ab::.sl 1 0 cp.length::aF 109 []),[.box (J.bC c),.ao 9 (cp.map al.enc) true]⟩) (fun cp=>cp=hI c++i3 c++jT c++c.streams.flatMap (i2 c)++nY c++uD c) ?_ ?_
 ·skip
  try simp only[go_sem]
  cases h:decide (c.eT.blocked=c.eT.a1)with
  |true=>
   have bF:uD c=[iA 22 c.eT.a1 false]:=by unfold uD;exact if_pos (cl h)
   try simp only[go_sem,I]
   repeat'(first|(with_reducible refine aq ?_)|fail)
   refine dp.intro (hI c++i3 c++jT c++c.streams.flatMap (i2 c)++nY c++uD c) [0,3] rfl ?_;simp only[go_sem];simp[bF,d',iA,al.enc,Nat.add_assoc]
  |false=>
   have bF:uD c=[]:=by unfold uD;exact if_neg (cG h)
   simp only[go_sem];refine dp.intro (hI c++i3 c++jT c++c.streams.flatMap (i2 c)++nY c++uD c) [0,1] rfl ?_;simp only[go_sem];simp[bF,d',Nat.add_assoc]
 clear gM d';rintro cp d';have gM:cp.length≤130:=by rw[d'];(try simp only[List.length_append]);omega
 refine jr Tryz.checked.mixed ?_
 try simp only[go_sem]
 cases h:decide (c.eS.blocked=c.eS.a1)with
 |true=>
  have bF:Aq c=[iA 22 c.eS.a1 true]:=by unfold Aq;exact if_pos (cl h)
  try simp only[go_sem,I]
  repeat'(first|(with_reducible refine aq ?_)|fail)
  rw[ah,←List.append_assoc,←List.append_assoc,←d',bF];simp[iA,al.enc,List.take_of_length_le]
 |false=>
  have bF:Aq c=[]:=by unfold Aq;exact if_neg (cG h)
  try simp only[go_sem,I]
  repeat'(first|(with_reducible refine aq ?_)|fail)
  rw[ah,←List.append_assoc,←List.append_assoc,←d',bF];simp
set_option maxRecDepth 100000
theorem O6(i cO:Int)(cz:List UInt8)(cI:Bool):PureCall Tryz.prog 219 [.one (.int .i64 i),.agg [.int .i64 cO,.str cz,.bool cI]] [.agg (al.enc (mL i (⟨cO,cz,cI⟩:bS)))]:=by
 refine aP 13 Tryz.func219 Tryz.call219 [.cell 4 120] ?_;intro _
 try simp only[go_sem]
 all_goals simp[mL]
theorem WY(s:ae):(bif bif s.eo then decide (s.send.state<3)else false then bif decide (0<(s.send.pending.length:Int))then true else decide (s.send.ba=1)else false)=wants s:=by
 unfold wants
 cases s.eo<;>cases decide (s.send.state<3)<;>cases decide (0<(s.send.pending.length:Int))<;>rfl
theorem WZ(l:List ae)(i:Nat)(h:i<l.length):((l.take (i+1)).filter wants).map yS=((l.take i).filter wants).map yS++(if wants l[i]then [yS l[i]]else []):=by
 rw[List.take_add_one,dk h,List.filter_append,List.map_append]
 cases hw:wants l[i]<;>simp[hw]
set_option maxHeartbeats 4000000 in
theorem WJ(c:J)(hz:iH c):PureCall Tryz.prog 213 [.agg (J.enc c)] [.one (.sl 3 ((vS c).map c4.enc))]:=by
 refine aP 49 Tryz.func213 Tryz.call213 [.tmp 2] ?_;intro ok;clear ok;have nh:=hz.1;simp only[go_sem];refine b9.intro (α:=Nat×List c4) (fun y=>⟨(.ab::.ptr 0 0 0::.ab::.sl 1 0 y.2.length::.d (.int .i64 y.1)::aF 44 []),[.box (J.bC c),.ao 3 (y.2.map c4.enc) true]⟩)
  (fun y=>c.streams.length-y.1) (fun y=>y.1≤c.streams.length∧y.2=((c.streams.take y.1).filter wants).map yS) (0,[]) [0,1] ⟨by simp,by simp⟩ ?_ ?_
 ·simp only[go_sem];simp
 ·rintro⟨i,q⟩ ⟨hi,hq⟩;simp only at hi hq;by_cases h1:i<c.streams.length
  ·have au:decide ((i:Int)<(c.streams.length:Int))=true:=bk (by omega);have aB:=b4 ae.enc c.streams i h1;have hw:IntKind.i64.wrap ((i:Int)+1)=((i+1:Nat):Int):=by rw[bE]<;>omega
   have hs:=WZ c.streams i h1;rw[←hq]at hs;have jv:q.length≤i:=by rw[hq,I];exact Nat.le_trans (List.length_filter_le _ _) (by simp;omega)
   have br:=WY c.streams[i];generalize c.streams[i]=s at *
   try simp only[go_sem,I,aJ,aB,ae.enc,au]
   repeat'(first|(refine a8 ?_<;>simp only[go_sem,I])|(with_reducible refine aq ?_)|fail)
   rw[br]
   cases hW:wants s with
   |true=>
    rw[hW,if_pos rfl]at hs
    try simp only[go_sem,I]
    repeat'(first|(with_reducible refine aq ?_)|fail)
    refine bu.intro (i+1,q++[yS s]) [0,4] ⟨by simp only;omega,hs.symm⟩ (by simp only;omega) ?_;simp only[go_sem,hw];simp[yS,c4.enc]
   |false=>
    rw[hW,if_neg (by simp),List.append_nil]at hs;simp only[go_sem];refine bu.intro (i+1,q) [0,1] ⟨by simp only;omega,hs.symm⟩ (by simp only;omega) ?_;simp only[go_sem,hw];simp
  ·have au:decide ((i:Int)<(c.streams.length:Int))=false:=bb (by omega);obtain rfl:i=c.streams.length:=by omega
   rw[dK]at hq;simp only[go_sem,I,au];simp[vS,hq]
theorem W0(c:J)(id room:Int):(bif bif bif !e6 c then true else !(bN c.streams id).2 then true else !(aw c id).eo then true else decide (room<3))=!yT c id room:=by
 unfold yT
 cases e6 c<;>cases(bN c.streams id).2<;>cases(aw c id).eo<;>cases decide (room<3)<;>rfl
theorem W1(c:J)(id:Int):(bif bif !e6 c then true else !(bN c.streams id).2 then true else !(aw c id).eo)=!Aw c id:=by
 unfold Aw
 cases e6 c<;>cases(bN c.streams id).2<;>cases(aw c id).eo<;>rfl
theorem W2(a b c:Bool):(bif bif !a then true else !b then true else !c)=!(a&&b&&c):=by cases a<;>cases b<;>cases c<;>rfl
set_option maxHeartbeats 8000000 in
theorem WW(c:J)(id:Int)(p:bS)(hz:iH c)(hd:p.data.length≤1048576)(hw:eb (tM (aw c id) p)):PureCall Tryz.prog 218 [.agg (J.enc c),.one (.int .i64 id),.agg [.int .i64 p.offset,.str p.data,.bool p.ba]] [.agg (J.enc ((yU c id p))),.one (.bool (vV c id p))]:=by
 refine aP 91 Tryz.func218 Tryz.call218 [.cell 6 37,.tmp 7] ?_;intro ok;clear ok;have j4:=jq hz;have a0:yU c id p=if vV c id p then {c with c0:=uJ c.c0 (uK (aw c id) p),eZ:=id,streams:=dq c.streams (tM (aw c id) p)}else c:=rfl
 have bF:vV c id p=(Aw c id&&(nk (aw c id).send p&&tO (aw c id).c2 (uK (aw c id) p)&&tO c.c0 (uK (aw c id) p))):=rfl;have br:=W1 c id;obtain⟨c9,dc,cB,de⟩:=lY hz.2.1 id;have cn:=kR c id hz;rw[show(bN c.streams id).1=aw c id from rfl]at c9 dc cB de cn;have gU:=kr c.streams (tM (aw c id) p) (by have:=hz.1;omega) hz.2.1 hw;generalize aw c id=s at *;have hn:IntKind.i64.wrap ((n0 s.send p).sent-s.send.sent)=uK s p:=rfl
 try simp only[go_sem]
 repeat'((first|refine af.ag (by first|assumption|(apply gf<;>first|assumption|omega)|(apply tB<;>first|assumption|omega)) ?_|refine ar.ag (by assumption) ?_|refine a8 ?_)<;>simp only[go_sem,I])
 rw[br]
 cases hg:Aw c id with
 |false=>
  rw[hg,Bool.false_and]at bF;rw[bF]at a0;simp only[go_sem,I,Bool.not_false];simp[a0,bF]
 |true=>
  rw[hg,Bool.true_and]at bF
  try simp only[go_sem,I,Bool.not_true]
  repeat'((first|refine af.ag (by first|assumption|(apply W3<;>first|assumption|omega)|apply W4) ?_|refine ar.ag (by assumption) ?_|refine a8 ?_)<;>simp only[go_sem,I,hn])
  have Jl:=W2 (nk s.send p) (tO s.c2 (uK s p)) (tO c.c0 (uK s p));rw[Jl,←bF]
  cases hk:vV c id p with
  |false=>
   rw[hk]at a0;simp only[go_sem,I,Bool.not_false];simp[a0]
  |true=>
   rw[hk]at a0
   try simp only[go_sem,I,Bool.not_true]
   repeat'(first|((first|refine af.ag (by assumption) ?_|refine ar.ag (by assumption) ?_)<;>simp only[go_sem,I,tM])|(with_reducible refine aq ?_)|fail)
   simp[a0,tM]
set_option maxRecDepth 100000
def O8:List (List bt):=cE 12 [501929,501927,501921,521950,521896,521734,531076,529618,525244,511771,472392,354294]
attribute [go_sem] O8
set_option maxHeartbeats 8000000 in
theorem WS(c:J)(id room:Int)(m:Nat)(hv:bZ m c)(hm:m≤20):PureCall Tryz.prog 216 [.agg (J.enc c),.one (.int .i64 id),.one (.int .i64 room)] [.agg [.int .i64 ((uH c id room).1).offset,.str ((uH c id room).1).data,.bool ((uH c id room).1).ba],.one (.bool (uH c id room).2)]:=by
 refine aP 73 Tryz.func216 Tryz.call216 [.cell 6 220,.tmp 7] ?_;intro ok;clear ok;have hz:=hv.sz hm;have JC:=(hv.aw id).snd;have Ax:=JC.p;have jD:(aw c id).send.ring.cj≤4611686018427387903:=by have:=JC.ai;omega
 clear JC;have a0:uH c id room=if yT c id room then vW (aw c id).send id (Cu c (aw c id)) room (c7 room 60).toNat else(n1,false):=rfl
 have br:=W0 c id room;have hl:Cu c (aw c id)=c7 (aw c id).c2.a1 (IntKind.i64.wrap ((aw c id).send.sent+Ay c.c0)):=rfl;obtain⟨c9,dc,cB,de⟩:=lY hz.2.1 id;have cn:=kR c id hz;rw[show(bN c.streams id).1=aw c id from rfl]at c9 dc cB de cn;have IM:yT c id room=true→3≤room:=fun h=>by
  simp only[yT,Bool.and_eq_true,Bool.not_eq_true',decide_eq_false_iff_not]at h;omega
 generalize aw c id=s at *
 try simp only[go_sem]
 repeat'((first|refine af.ag (by first|assumption|(apply tB<;>first|assumption|omega)) ?_|refine ar.ag (by assumption) ?_|refine a8 ?_)<;>simp only[go_sem,I])
 rw[br]
 cases hg:yT c id room with
 |false=>
  rw[hg]at a0;simp only[go_sem,Bool.not_false];simp[a0,n1]
 |true=>
  rw[hg,if_pos rfl]at a0;have ak:=IM hg
  try simp only[go_sem,Bool.not_true]
  repeat'((first|refine af.ag (by assumption) ?_|refine ar.ag (by first|assumption|apply W5) ?_|refine a9 O8 (by kernel_rfl) (by rfl) ?_)<;>simp only[go_sem])
  obtain⟨N,bF⟩:=Int.eq_ofNat_of_zero_le (show 0≤c7 room 60 by unfold c7;split<;>omega);have aeb:c7 room 60≤60:=by unfold c7;split<;>omega
  have W6:N≤60:=by omega
  rw[bF,aJ]at a0;have W7:(if 60<room then 60 else room)=(N:Int):=by rw[←bF];rfl
  have JD:(if IntKind.i64.wrap (s.send.sent+Ay c.c0)<s.c2.a1 then IntKind.i64.wrap (s.send.sent+Ay c.c0)else s.c2.a1)=Cu c s:=rfl;generalize Cu c s=jW at *;refine b9.intro (fun n:Nat=>⟨(.ab::.d (.int .i64 id)::.d (.int .i64 room)::.ptr 0 0 0::.ab::.ab::.ptr 1 0 0::.ab::.ptr 7 0 0::.ab::.d (.int .i64 jW)::.d (.int .i64 n)::aF 61 []),[.box (J.bC c),.box [.d (.int .i64 0),.d (.str []),.d (.bool false)],.ag 1 (s.send.ring.cells.map a'),.ag 2 (s.send.pending.map aa.enc),.ag 2 (s.send.flight.map aa.enc),.ag 2 (s.send.cb.map aa.enc),.ag 2 (s.recv.buffer.bd.map ax.enc),.box (ae.aK s (.sl 2 0 s.send.ring.cells.length) (.sl 3 0 s.send.pending.length) (.sl 4 0 s.send.flight.length) (.sl 5 0 s.send.cb.length) (.sl 6 0 s.recv.buffer.bd.length))]⟩)
   (fun n=>n) (fun n=>n≤60∧vW s.send id jW room n=uH c id room) N [0,1,2,3,4,5,6,7] ⟨W6,a0.symm⟩ ?_ ?_
  ·simp only[go_sem];simp[W7,JD]
  ·rintro n ⟨hn,ah⟩
   cases n with
   |zero=>
    have hd:decide ((0:Int)<((0:Nat):Int))=false:=by decide
    simp only[go_sem,hd];rw[vW]at ah;rw[←ah];simp[n1]
   |succ k=>
    have hd:decide ((0:Int)<((k+1:Nat):Int))=true:=bk (by omega);have hw:IntKind.i64.wrap (((k+1:Nat):Int)-1)=(k:Int):=by rw[bE]<;>omega
    rw[vW]at ah;have O9:=W8 s.send.state s.send.ring.size s.send.ring.base s.send.ring.cj s.send.ring.cells s.send.pending s.send.flight s.send.cb s.send.bg s.send.ba s.send.sent s.send.code ((k+1:Nat):Int) jW (by omega);change PureCall _ _ _ (uL s.send ((k+1:Nat):Int) jW)at O9;simp only[uL]at O9;generalize hp:mM s.send ((k+1:Nat):Int) jW=p at *
    try simp only[go_sem,I,hd]
    repeat'((first|refine af.intro (by assumption) ?_|refine ar.intro (by assumption) ?_)<;>simp only[go_sem])
    cases hok:mN s.send ((k+1:Nat):Int) jW with
    |false=>
     rw[hok]at ah;simp only[go_sem,Bool.not_false];rw[←ah];simp[n1]
    |true=>
     rw[hok,if_pos rfl]at ah;have fz:p.data.length≤1048576:=by
      have:=O_ (m:=((k+1:Nat):Int)) (l:=jW) (by omega) (by omega) Ax jD;rw[hp]at this;omega
     have Cq:=Jy 8 id p.offset p.data p.ba 0 0 0 false fz;change PureCall _ _ _ [.one (.int .i64 ((gC (mL id p)).length:Int))]at Cq
     try simp only[go_sem,Bool.not_true]
     repeat'((first|refine af.intro (by first|assumption|apply O6) ?_|refine ar.intro (by assumption) ?_)<;>simp only[go_sem,mL])
     cases vR:decide (((gC ⟨8,id,p.offset,p.data,p.ba,0,0,0,false⟩).length:Int)≤room)with
     |true=>
      have:((gC (mL id p)).length:Int)≤room:=cl vR;rw[if_pos this]at ah;rw[←ah];simp only[go_sem]
      try simp[outOA]
     |false=>
      have:¬((gC (mL id p)).length:Int)≤room:=cG vR;rw[if_neg this]at ah;simp only[go_sem];refine bu.intro k [0,1,2,3,4,5,6,7] ⟨by omega,ah⟩ (by omega) ?_;simp only[go_sem,hw];simp
end Gv
