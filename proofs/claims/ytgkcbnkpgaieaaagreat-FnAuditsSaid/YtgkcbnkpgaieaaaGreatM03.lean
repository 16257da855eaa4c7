/-
  Part of the proof: the machine, what functions compute, and the plain laws.
-/
import Derived.Test.YtgkcbnkpgaieaaaGreatM02
namespace Gv
open Go Go.Proofs
set_option maxRecDepth 100000
def mxInsS0:List (List Rl):=mxD 13 [1564802,1564800,1592104,1592122,1592059,1591897,1591411,1593229,1587766,1574644,1535274,1417176,1062882]
attribute [go_sem] mxInsS0
def lowS (n off:Int):Int:=if n > off then n else off
def valS (xs:List TChunk) (off:Int) (data:List UInt8) (o:Int):Int:=if byteAt xs o < 0 then byteD off data o else byteAt xs o
def bytS (xs:List TChunk) (off:Int) (data:List UInt8) (lo:Int) (k:Nat):List UInt8:=(List.range k).map fun j=>byI (valS xs off data (lo + (j:Nat)))
def chS (xs:List TChunk) (off:Int) (data:List UInt8) (r:TRange):TChunk:=⟨r.low,bytS xs off data r.low (r.high - r.low).toNat⟩
def rngS (n:Int) (xs:List TChunk) (off:Int) (data:List UInt8):List TRange:=addR (rngB xs) ⟨lowS n off,off + data.length⟩
def insOk (n:Int) (xs:List TChunk) (off:Int) (data:List UInt8):Bool:=isBuf ⟨n,xs⟩ && decide (data≠[]) && decide (lowS n off < off + data.length)
def insS (n:Int) (xs:List TChunk) (off:Int) (data:List UInt8):List TChunk:=
 if insOk n xs off data=true then (rngS n xs off data).map (chS xs off data) else xs
theorem bytS_succ (xs:List TChunk) (off:Int) (data:List UInt8) (lo:Int) (k:Nat):bytS xs off data lo (k + 1)=bytS xs off data lo k++[byI (valS xs off data (lo + (k:Nat)))]:=by
 simp [bytS,List.range_succ]
theorem bytS_len (xs:List TChunk) (off:Int) (data:List UInt8) (lo:Int) (k:Nat):(bytS xs off data lo k).length=k:=by simp [bytS]
/-- What the ranges of addR cover. -/
def covR (rs:List TRange) (q y:TRange):Prop:=∀ a,y.low≤a→a < y.high→(∃ x ∈ rs,x.low≤a∧a < x.high)∨(q.low≤a∧a < q.high)
def inR (E:Int) (y:TRange):Prop:=0≤y.low∧y.low≤E∧y.high≤E
theorem arS_all (Q:TRange→Prop) (rs:List TRange) (q:TRange) (hq:Q q) (hx:∀ x ∈ rs,Q x) (hm:∀ a b:TRange,Q a→Q b→¬ b.high < a.low→¬ a.high < b.low→Q ⟨minI a.low b.low,maxI a.high b.high⟩) :
  ∀ i,(∀ y ∈ (arS rs q i).1,Q y)∧Q (arS rs q i).2.2
 |0=>⟨(fun y hy=>by cases hy),hq⟩
 |i + 1=>by
  obtain ⟨h1,h2⟩:=arS_all Q rs q hq hx hm i
  rw [arS]
  split
  ·rename_i x he
   have hxm:=hx x (List.mem_of_getElem? he)
   unfold arStep
   split
   ·refine ⟨fun y hy=>?_,h2⟩
    rcases List.mem_append.1 hy with hy|hy
    ·exact h1 y hy
    ·rw [List.mem_singleton.1 hy];exact hxm
   ·rename_i g1
    split
    ·refine ⟨fun y hy=>?_,h2⟩
     rcases List.mem_append.1 hy with hy|hy
     ·split at hy
      ·exact h1 y hy
      ·rcases List.mem_append.1 hy with hy|hy
       ·exact h1 y hy
       ·rw [List.mem_singleton.1 hy];exact h2
     ·rw [List.mem_singleton.1 hy];exact hxm
    ·rename_i g2
     exact ⟨h1,hm _ _ h2 hxm g1 g2⟩
  ·exact ⟨h1,h2⟩
theorem addR_all (Q:TRange→Prop) (rs:List TRange) (q:TRange) (hq:Q q) (hx:∀ x ∈ rs,Q x) (hm:∀ a b:TRange,Q a→Q b→¬ b.high < a.low→¬ a.high < b.low→Q ⟨minI a.low b.low,maxI a.high b.high⟩):∀ y ∈ addR rs q,Q y:=by
 obtain ⟨h1,h2⟩:=arS_all Q rs q hq hx hm rs.length
 unfold addR
 split
 ·split
  ·exact h1
  ·intro y hy
   rcases List.mem_append.1 hy with hy|hy
   ·exact h1 y hy
   ·rw [List.mem_singleton.1 hy];exact h2
 ·exact hx
theorem addR_cov (rs:List TRange) (q:TRange):∀ y ∈ addR rs q,covR rs q y:=by
 refine addR_all _ rs q (fun a h1 h2=>.inr ⟨h1,h2⟩) (fun x hx a h1 h2=>.inl ⟨x,hx,h1,h2⟩) fun a b ha hb g1 g2 c h1 h2=>?_
 simp only [minI,maxI] at h1 h2
 by_cases k:a.low≤c∧c < a.high
 ·exact ha c k.1 k.2
 ·refine hb c ?_ ?_<;>(split at h1<;>split at h2<;>omega)
theorem addR_in (E:Int) (rs:List TRange) (q:TRange) (hq:inR E q) (hx:∀ x ∈ rs,inR E x):∀ y ∈ addR rs q,inR E y:=by
 refine addR_all _ rs q hq hx fun a b ha hb g1 g2=>?_
 simp only [inR,minI,maxI] at *
 refine ⟨?_,?_,?_⟩<;>split<;>omega
theorem byteAt_cov (o:Int):∀ (cs:List TChunk),(∀ c ∈ cs,0≤c.offset)→∀ x ∈ rngB cs,x.low≤o→o < x.high→0≤byteAt cs o
 |[],_,x,hx,_,_=>by cases hx
 |c::cs,h0,x,hx,h1,h2=>by
  rw [byteAt]
  by_cases g:hitB o c=true
  ·rw [if_pos g];omega
  ·rw [if_neg g]
   rcases List.mem_cons.1 hx with rfl|hx
   ·exact absurd ((hitB_iff _ _).2 ⟨by have:=h0 c (by simp);simp only at h1;omega,h0 c (by simp),h1,by simp only at h2;omega⟩) g
   ·exact byteAt_cov o cs (fun d hd=>h0 d (by simp [hd])) x hx h1 h2
theorem byteAt_lt (o:Int):∀ (cs:List TChunk),byteAt cs o < 256
 |[]=>by simp [byteAt]
 |c::cs=>by
  rw [byteAt];split
  ·have:=((c.data[(o - c.offset).toNat]?).getD 0).toNat_lt;omega
  ·exact byteAt_lt o cs
theorem valS_in (xs:List TChunk) (off:Int) (data:List UInt8) (o:Int):0≤valS xs off data o∧valS xs off data o≤255:=by
 unfold valS
 have:=byteAt_lt o xs
 split
 ·unfold byteD;have:=((data[(o - off).toNat]?).getD 0).toNat_lt;omega
 ·omega
set_option maxHeartbeats 4000000 in
theorem spec_InsertData (n:Int) (xs:List TChunk) (off:Int) (data:List UInt8) (hb:∀ c ∈ xs,c.data.length≤1048576) (hx:xs.length≤1048575) (hE:∀ c ∈ xs,c.offset≤1000∧c.offset + (c.data.length:Int)≤1000) (hd:data.length≤8) (ho:0≤off) (ho2:off + (data.length:Int)≤1000):PureCall Tryz.prog 236 [.agg [.int .i64 n,.sl 2 (xs.map TChunk.enc)],.one (.int .i64 off),.one (.str data)] [.agg [.int .i64 n,.sl 2 ((insS n xs off data).map TChunk.enc)]]:=by
 refine pureT 105 Tryz.func236 Tryz.call236 [.cell 6 49] ?_
 intro ok
 have hx1:xs.length≤1048576:=by omega
 have hx2:xs.length≤1048577:=by omega
 have e2:decide (off < 0)=false:=dF (by omega)
 have hw:IntKind.i64.wrap (4611686018427387903 - (data.length:Int))=4611686018427387903 - (data.length:Int):=by rw [w64]<;>omega
 have e3:decide (4611686018427387903 - (data.length:Int) < off)=false:=dF (by omega)
 have hw2:IntKind.i64.wrap (off + (data.length:Int))=off + (data.length:Int):=by rw [w64]<;>omega
 cases hI:isBuf ⟨n,xs⟩ with
 |false=>
  have hX:insS n xs off data=xs:=by unfold insS insOk;rw [hI];rfl
  try simp only [go_sem]
  repeat' (first|((first|refine CallS.intro (by first|(apply spec_IsBuffer<;>first|assumption|omega)|(apply spec_l6Copy<;>first|assumption|omega)) ?_|with_reducible refine gFalseS ?_)<;>simp only [go_sem,lM,hI])|(with_reducible refine sideI ?_)|fail)
  all_goals (rw [hX];try simp)
 |true=>
 obtain ⟨hn0,hn1,hck⟩:=isBuf_n hI
 by_cases hde:data=[]
 ·have e1:decide (data=[])=true:=dT hde
  have hX:insS n xs off data=xs:=by unfold insS insOk;simp [hde]
  try simp only [go_sem]
  repeat' (first|((first|refine CallS.intro (by first|(apply spec_IsBuffer<;>first|assumption|omega)|(apply spec_l6Copy<;>first|assumption|omega)) ?_|with_reducible refine gTrueS ?_|with_reducible refine gFalseS ?_)<;>simp only [go_sem,lM,hI,e1])|(with_reducible refine sideI ?_)|fail)
  all_goals (rw [hX];try simp)
 ·have e1:decide (data=[])=false:=dF hde
  obtain ⟨low,hL⟩:∃ low,(if n > off then n else off)=low:=⟨_,rfl⟩
  have hlo:off≤low∧0≤low:=by rw [← hL];split<;>omega
  by_cases hle:off + (data.length:Int)≤low
  ·have e4:decide (off + (data.length:Int)≤low)=true:=dT hle
   have hX:insS n xs off data=xs:=by unfold insS insOk lowS;rw [hL,dF (show ¬ low < off + (data.length:Int) by omega)];simp
   try simp only [go_sem]
   repeat' (first|((first|refine CallS.intro (by first|(apply spec_IsBuffer<;>first|assumption|omega)|(apply spec_l6Copy<;>first|assumption|omega)) ?_|with_reducible refine gTrueS ?_)<;>simp only [go_sem,lM,hI,e1,e2,hw,e3,hw2,hL,e4])|(with_reducible refine sideI ?_)|fail)
   all_goals (rw [hX];try simp)
  ·have e4:decide (off + (data.length:Int)≤low)=false:=dF hle
   have hX:insS n xs off data=(rngS n xs off data).map (chS xs off data):=by
    unfold insS insOk lowS;rw [hL,hI,dT hde,dT (show low < off + (data.length:Int) by omega)];rfl
   have hRl:(rngS n xs off data).length≤1048576:=by
    have:=addR_len (rngB xs) ⟨lowS n off,off + data.length⟩
    rw [rngB_len] at this;unfold rngS;omega
   have hRc:∀ y ∈ rngS n xs off data,covR (rngB xs) ⟨low,off + data.length⟩ y:=by
    unfold rngS lowS;rw [hL];exact addR_cov _ _
   have hRi:∀ y ∈ rngS n xs off data,inR 1000 y:=by
    refine addR_in 1000 _ _ ⟨by unfold lowS;rw [hL];exact hlo.2,by unfold lowS;rw [hL];show low≤1000;omega,ho2⟩ fun x hx=>?_
    obtain ⟨c,hc,rfl⟩:=List.mem_map.1 hx
    have:=chk_mem _ _ hck c hc
    have:=hE c hc
    exact ⟨by show 0≤c.offset;omega,this.1,this.2⟩
   have hRd:addR (rngB xs) ⟨low,off + (data.length:Int)⟩=rngS n xs off data:=by unfold rngS lowS;rw [hL]
   have hRb:rngsB n xs=rngB xs:=by unfold rngsB;rw [if_pos hI]
   have hrl:(rngB xs).length≤1048576:=by rw [rngB_len];omega
   try simp only [go_sem]
   repeat' ((first|refine CallS.intro (by first|(apply spec_IsBuffer<;>first|assumption|omega)|(apply spec_BufferRanges<;>first|assumption|omega)|(apply spec_AddRange<;>first|assumption|omega)) ?_|with_reducible refine gTrueS ?_)<;>simp only [go_sem,lM,hI,e1,e2,hw,e3,hw2,hL,e4,hRb,hRd])
   generalize rngS n xs off data=R at hX hRl hRc hRi
   refine LoopK.intro (fun i:Nat=>match i with
     |0=>⟨(.agg [.d (.int .i64 n),.d (.sl 2 (xs.map TChunk.enc))]::.d (.int .i64 off)::.d (.str data)::.ptr 0 0 0::.junk::.junk::.ptr 1 0 0::.d (.int .i64 low)::.d (.int .i64 (off + (data.length:Int)))::.ptr 2 0 0::.sl 3 0 R.length::.d (.int .i64 0)::jn 93 []),[.box [.d (.int .i64 n),.d (.sl 2 (xs.map TChunk.enc))],.box [.d (.int .i64 0),.nils 2],.box [.d (.int .i64 n),.nils 2],.arr 2 (R.map TRange.enc) true]⟩
     |i + 1=>⟨(.agg [.d (.int .i64 n),.d (.sl 2 (xs.map TChunk.enc))]::.d (.int .i64 off)::.d (.str data)::.ptr 0 0 0::.junk::.junk::.ptr 1 0 0::.d (.int .i64 low)::.d (.int .i64 (off + (data.length:Int)))::.ptr 2 0 0::.sl 3 0 R.length::.d (.int .i64 ((i + 1:Nat):Int))::jn 93 []),[.box [.d (.int .i64 n),.d (.sl 2 (xs.map TChunk.enc))],.box [.d (.int .i64 0),.nils 2],.box [.d (.int .i64 n),.sl 4 0 (i + 1)],.arr 2 (R.map TRange.enc) true,.arr 2 (((R.take (i + 1)).map (chS xs off data)).map TChunk.enc) true]⟩)
    (fun i=>R.length - i) (fun i=>i≤R.length) 0 [0,1,2,4] (by omega) ?_ ?_
   ·simp only [go_sem];simp
   ·intro i hi
    cases i with
    |zero=>
     simp only [go_sem]
     refine cSplit (fun h1=>?_) (fun h1=>?_)
     ·have h1':=oT h1
      have hlt:0 < R.length:=by omega
      have hri:=map_at TRange.enc R 0 hlt
      have hrin:=hRi R[0] (List.getElem_mem hlt)
      have hrcov:=hRc R[0] (List.getElem_mem hlt)
      have hwi:=inc (i:=0) (m:=R.length) hlt (by simp only [maxLen];omega)
      obtain ⟨k0,hk0⟩:∃ k0,(R[0].high - R[0].low).toNat=k0:=⟨_,rfl⟩
      have hin:=hrin
      simp only [inR] at hin
      simp only [go_sem,lM,Int.toNat_zero,hri,TRange.enc]
      repeat (with_reducible refine And.intro (by omega) ?_)
      try simp only [go_sem]
      refine LoopK.intro (fun k:Nat=>⟨(.agg [.d (.int .i64 n),.d (.sl 2 (xs.map TChunk.enc))]::.d (.int .i64 off)::.d (.str data)::.ptr 0 0 0::.junk::.junk::.ptr 1 0 0::.d (.int .i64 low)::.d (.int .i64 (off + (data.length:Int)))::.ptr 2 0 0::.sl 3 0 R.length::.d (.int .i64 0)::.d (.str (bytS xs off data R[0].low k))::.d (.int .i64 (R[0].low + (k:Nat)))::jn 91 []),[.box [.d (.int .i64 n),.d (.sl 2 (xs.map TChunk.enc))],.box [.d (.int .i64 0),.nils 2],.box [.d (.int .i64 n),.nils 2],.arr 2 (R.map TRange.enc) true]⟩)
       (fun k=>k0 - k) (fun k=>k≤k0) 0 [0,1,2,3] (by omega) ?_ ?_
      ·simp only [go_sem];simp [bytS]
      ·intro k hk
       simp only [go_sem,lM,Int.toNat_zero,hri,TRange.enc]
       repeat (with_reducible refine And.intro (by omega) ?_)
       try simp only [go_sem]
       have hbl:=bytS_len xs off data R[0].low k
       refine cSplit (fun h3=>?_) (fun h3=>?_)
       ·have h3':=oT h3
        have hsc:=bytS_succ xs off data R[0].low k
        have hws:IntKind.i64.wrap (R[0].low + (k:Int) + 1)=R[0].low + ((k + 1:Nat):Int):=by rw [w64]<;>omega
        simp only [go_sem]
        refine CallS.intro (spec_ByteAt n xs (R[0].low + (k:Int)) hb hx1) ?_
        simp only [go_sem]
        refine cSplit (fun h4=>?_) (fun h4=>?_)
        ·have h4':=oT h4
         have hca:low≤R[0].low + (k:Int)∧R[0].low + (k:Int) < off + (data.length:Int):=by
          rcases hrcov (R[0].low + (k:Int)) (by omega) (by omega) with ⟨x,hx3,g1,g2⟩|g
          ·have:=byteAt_cov (R[0].low + (k:Int)) xs (fun c hc=>by have:=chk_mem _ _ hck c hc;omega) x hx3 g1 g2;omega
          ·exact g
         have hwj:IntKind.i64.wrap (R[0].low + (k:Int) - off)=(((R[0].low + (k:Int) - off).toNat:Nat):Int):=by rw [w64]<;>omega
         have hjl:(R[0].low + (k:Int) - off).toNat < data.length:=by omega
         have hdj:data[(R[0].low + (k:Int) - off).toNat]?=some data[(R[0].low + (k:Int) - off).toNat]:=gE hjl
         have hv:((data[(R[0].low + (k:Int) - off).toNat].toNat:Nat):Int)=valS xs off data (R[0].low + (k:Int)):=by unfold valS byteD;rw [if_pos h4',hdj];rfl
         have hbt:IntKind.i64.wrap ((data[(R[0].low + (k:Int) - off).toNat].toNat:Nat):Int)=valS xs off data (R[0].low + (k:Int)):=by
          have:=data[(R[0].low + (k:Int) - off).toNat].toNat_lt
          rw [← hv,w64]<;>omega
         try simp only [go_sem,hwj,hdj,hbt,tN,Option.getD_some]
         repeat' (first|(with_reducible refine sideI ?_)|fail)
         refine CallS.intro (spec_l2Byte_one _ (valS_in xs off data _)) ?_
         try simp only [go_sem,hws,hbl]
         repeat' (first|(with_reducible refine sideI ?_)|fail)
         all_goals (
          try (with_reducible refine And.intro (by simp only [maxLen];omega) ?_)
          refine RoundE.intro (k + 1) [0,1,2,3] (by omega) (by omega) ?_
          simp only [go_sem,hsc]
          try simp)
        ·have h4':=oF h4
         have hv:byteAt xs (R[0].low + (k:Int))=valS xs off data (R[0].low + (k:Int)):=by unfold valS;rw [if_neg h4']
         simp only [go_sem,hv]
         refine CallS.intro (spec_l2Byte_one _ (valS_in xs off data _)) ?_
         try simp only [go_sem,hws,hbl]
         repeat' (first|(with_reducible refine sideI ?_)|fail)
         all_goals (
          try (with_reducible refine And.intro (by simp only [maxLen];omega) ?_)
          refine RoundE.intro (k + 1) [0,1,2,3] (by omega) (by omega) ?_
          simp only [go_sem,hsc]
          try simp)
       ·have h3':=oF h3
        have hke:k=k0:=by omega
        have hch:chS xs off data R[0]=⟨R[0].low,bytS xs off data R[0].low k⟩:=by unfold chS;rw [hk0,hke]
        have hst:((R.take (0 + 1)).map (chS xs off data)).map TChunk.enc=((R.take 0).map (chS xs off data)).map TChunk.enc++[[.int .i64 R[0].low,.str (bytS xs off data R[0].low k)]]:=by
         rw [List.take_add_one,gE hlt,Option.toList_some,List.map_append,List.map_append,List.map_singleton,List.map_singleton,hch];rfl
        try simp only [go_sem]
        repeat' (first|(refine drawE_intro mxInsS0 (by kernel_rfl) (by rfl) ?_<;>simp only [go_sem,lM,Int.toNat_zero,hri,TRange.enc])|(with_reducible refine sideI ?_)|fail)
        all_goals (
         refine RoundE.intro (0 + 1) [0,1,2,3,5] (by omega) (by omega) ?_
         simp only [go_sem,hst]
         simp
         try first|decide|omega)
     ·have h1':=oF h1
      try simp only [go_sem]
      all_goals (have hR0:R=[]:=List.length_eq_zero_iff.1 (by omega);rw [hX,hR0];try simp)
    |succ i=>
     simp only [go_sem]
     refine cSplit (fun h1=>?_) (fun h1=>?_)
     ·have h1':=oT h1
      have hlt:i + 1 < R.length:=by omega
      have hri:=map_at TRange.enc R (i + 1) hlt
      have hrin:=hRi R[i + 1] (List.getElem_mem hlt)
      have hrcov:=hRc R[i + 1] (List.getElem_mem hlt)
      have hwi:=inc (i:=(i + 1)) (m:=R.length) hlt (by simp only [maxLen];omega)
      obtain ⟨k0,hk0⟩:∃ k0,(R[i + 1].high - R[i + 1].low).toNat=k0:=⟨_,rfl⟩
      have hin:=hrin
      simp only [inR] at hin
      simp only [go_sem,lM,tN,hri,TRange.enc]
      repeat (with_reducible refine And.intro (by omega) ?_)
      try simp only [go_sem]
      refine LoopK.intro (fun k:Nat=>⟨(.agg [.d (.int .i64 n),.d (.sl 2 (xs.map TChunk.enc))]::.d (.int .i64 off)::.d (.str data)::.ptr 0 0 0::.junk::.junk::.ptr 1 0 0::.d (.int .i64 low)::.d (.int .i64 (off + (data.length:Int)))::.ptr 2 0 0::.sl 3 0 R.length::.d (.int .i64 ((i + 1:Nat):Int))::.d (.str (bytS xs off data R[i + 1].low k))::.d (.int .i64 (R[i + 1].low + (k:Nat)))::jn 91 []),[.box [.d (.int .i64 n),.d (.sl 2 (xs.map TChunk.enc))],.box [.d (.int .i64 0),.nils 2],.box [.d (.int .i64 n),.sl 4 0 (i + 1)],.arr 2 (R.map TRange.enc) true,.arr 2 (((R.take (i + 1)).map (chS xs off data)).map TChunk.enc) true]⟩)
       (fun k=>k0 - k) (fun k=>k≤k0) 0 [0,1,2,3,4] (by omega) ?_ ?_
      ·simp only [go_sem];simp [bytS]
      ·intro k hk
       simp only [go_sem,lM,tN,hri,TRange.enc]
       repeat (with_reducible refine And.intro (by omega) ?_)
       try simp only [go_sem]
       have hbl:=bytS_len xs off data R[i + 1].low k
       refine cSplit (fun h3=>?_) (fun h3=>?_)
       ·have h3':=oT h3
        have hsc:=bytS_succ xs off data R[i + 1].low k
        have hws:IntKind.i64.wrap (R[i + 1].low + (k:Int) + 1)=R[i + 1].low + ((k + 1:Nat):Int):=by rw [w64]<;>omega
        simp only [go_sem]
        refine CallS.intro (spec_ByteAt n xs (R[i + 1].low + (k:Int)) hb hx1) ?_
        simp only [go_sem]
        refine cSplit (fun h4=>?_) (fun h4=>?_)
        ·have h4':=oT h4
         have hca:low≤R[i + 1].low + (k:Int)∧R[i + 1].low + (k:Int) < off + (data.length:Int):=by
          rcases hrcov (R[i + 1].low + (k:Int)) (by omega) (by omega) with ⟨x,hx3,g1,g2⟩|g
          ·have:=byteAt_cov (R[i + 1].low + (k:Int)) xs (fun c hc=>by have:=chk_mem _ _ hck c hc;omega) x hx3 g1 g2;omega
          ·exact g
         have hwj:IntKind.i64.wrap (R[i + 1].low + (k:Int) - off)=(((R[i + 1].low + (k:Int) - off).toNat:Nat):Int):=by rw [w64]<;>omega
         have hjl:(R[i + 1].low + (k:Int) - off).toNat < data.length:=by omega
         have hdj:data[(R[i + 1].low + (k:Int) - off).toNat]?=some data[(R[i + 1].low + (k:Int) - off).toNat]:=gE hjl
         have hv:((data[(R[i + 1].low + (k:Int) - off).toNat].toNat:Nat):Int)=valS xs off data (R[i + 1].low + (k:Int)):=by unfold valS byteD;rw [if_pos h4',hdj];rfl
         have hbt:IntKind.i64.wrap ((data[(R[i + 1].low + (k:Int) - off).toNat].toNat:Nat):Int)=valS xs off data (R[i + 1].low + (k:Int)):=by
          have:=data[(R[i + 1].low + (k:Int) - off).toNat].toNat_lt
          rw [← hv,w64]<;>omega
         try simp only [go_sem,hwj,hdj,hbt,tN,Option.getD_some]
         repeat' (first|(with_reducible refine sideI ?_)|fail)
         refine CallS.intro (spec_l2Byte_one _ (valS_in xs off data _)) ?_
         try simp only [go_sem,hws,hbl]
         repeat' (first|(with_reducible refine sideI ?_)|fail)
         all_goals (
          try (with_reducible refine And.intro (by simp only [maxLen];omega) ?_)
          refine RoundE.intro (k + 1) [0,1,2,3,4] (by omega) (by omega) ?_
          simp only [go_sem,hsc]
          try simp)
        ·have h4':=oF h4
         have hv:byteAt xs (R[i + 1].low + (k:Int))=valS xs off data (R[i + 1].low + (k:Int)):=by unfold valS;rw [if_neg h4']
         simp only [go_sem,hv]
         refine CallS.intro (spec_l2Byte_one _ (valS_in xs off data _)) ?_
         try simp only [go_sem,hws,hbl]
         repeat' (first|(with_reducible refine sideI ?_)|fail)
         all_goals (
          try (with_reducible refine And.intro (by simp only [maxLen];omega) ?_)
          refine RoundE.intro (k + 1) [0,1,2,3,4] (by omega) (by omega) ?_
          simp only [go_sem,hsc]
          try simp)
       ·have h3':=oF h3
        have hke:k=k0:=by omega
        have hch:chS xs off data R[i + 1]=⟨R[i + 1].low,bytS xs off data R[i + 1].low k⟩:=by unfold chS;rw [hk0,hke]
        have hst:((R.take ((i + 1) + 1)).map (chS xs off data)).map TChunk.enc=((R.take (i + 1)).map (chS xs off data)).map TChunk.enc++[[.int .i64 R[i + 1].low,.str (bytS xs off data R[i + 1].low k)]]:=by
         rw [List.take_add_one,gE hlt,Option.toList_some,List.map_append,List.map_append,List.map_singleton,List.map_singleton,hch];rfl
        try simp only [go_sem,lM,hwi]
        repeat' (first|(refine drawE_intro mxInsS0 (by kernel_rfl) (by rfl) ?_<;>simp only [go_sem,lM,tN,hri,TRange.enc,hwi])|(with_reducible refine sideI ?_)|fail)
        all_goals (
         refine RoundE.intro (i + 1 + 1) [0,1,2,3,6] (by omega) (by omega) ?_
         simp only [go_sem,hst]
         simp
         try first|decide|omega)
     ·have h1':=oF h1
      try simp only [go_sem]
      all_goals (have hR0:R.length=i + 1:=(by omega);rw [List.take_of_length_le (Nat.le_of_eq hR0),hX];try simp [outOA,hR0,List.take_of_length_le])
set_option maxRecDepth 100000
def mxSndI0:List (List Rl):=mxD 54 [58149737003040059690380331,58149737003040059690380329,58149737003040059690380363,58149737003040059690380345,58149737003040059690380651,58149737003040059690380489,58149737003040059690389804,58149737003040059690388346,58149737003040059690383972,58149737003040059690370486,58149737003040059690331120,58149737003040059628034425,58149737003040059627680131,58149737003040059626617249,58149737003040059687910111,58149737003040059678344173,58149737003040059649646359,58149737003040059561250006,58149737003040059302969680,58149737003040058528128702,58149737003039930679367332,58149737003039923705798530,58149737003040042256468164,58149737003039979494348946,58149737003039777260853688,58149737003039212401780726,58149737003037517824561840,58149737003032434092905182,58149737002193618369556612,58149737002147864784646690,58149737002925675728115364,58149737002513893463926066,58149737001187039501538328,58149736997480999123834646,58149736986362877990723600,58149736953008514591390462,58149736852945424393391048,58149736552756153799392806,58149735652188342017398080,58149732950484906671413902,58149724845374600633461368,58149372273076287982526139,58149299327083533640953333,58149554638058173836458154,58148752232137876079157288,58146782690333508856691526,58140874064920407189294240,57165950871758632068742050,57112773243040717062166476,58016792931245272173951234,57538194272784037114771068,55996043039964501924079422,51688655113813386391457928,38766491335360039793593446]
attribute [go_sem] mxSndI0
def folI (s:TSender):Int:=
 if s.fin=3∧s.ring.base=s.ring.end' then 3
 else if (s.fin=2∨s.fin=3)∨(s.fin=1∧s.state=2) then 2
 else if 0 < s.sent∨(s.fin=1∧s.state=1) then 1 else 0
theorem impl_following (aF aK aL aI:Int) (aE:List Int) (aB aA aC:List TRange) (aJ aG aD aM:Int):PureCall Tryz.prog 113 [.agg [.int .i64 aF,.int .i64 aK,.int .i64 aL,.int .i64 aI,.sl 1 (aE.map eI),.sl 2 (aB.map TRange.enc),.sl 2 (aA.map TRange.enc),.sl 2 (aC.map TRange.enc),.int .i64 aJ,.int .i64 aG,.int .i64 aD,.int .i64 aM]] [.one (.int .i64 (folI (⟨aF,⟨aK,aL,aI,aE⟩,aB,aA,aC,aJ,aG,aD,aM⟩:TSender)))]:=by
 refine pureT 49 Tryz.func113 Tryz.call113 [.tmp 2] ?_
 intro _
 try simp only [go_sem]
 repeat' ((first|refine gSymS ?_|refine cSplit (fun h=>?_) (fun h=>?_))<;>simp only [go_sem])
 all_goals (simp at *;simp only [folI];repeat' split)
 all_goals first|rfl|(exfalso;grind)
def endB (xs:List TRange) (p:Int):Bool:=match xs.getLast? with|some r=>decide (p < r.high)|none=>false
theorem impl_endsBehind (xs:List TRange) (p:Int):PureCall Tryz.prog 112 [.one (.sl 2 (xs.map TRange.enc)),.one (.int .i64 p)] [.one (.bool (endB xs p))]:=by
 refine pureT 19 Tryz.func112 Tryz.call112 [.tmp 4] ?_
 intro ok
 have hm:=len_of ok
 by_cases h:xs.length=0
 ·have e1:decide ((0:Int) < (xs.length:Int))=false:=dF (by omega)
  try simp only [go_sem,lM,e1]
  repeat' (first|(with_reducible refine gFalseS ?_<;>simp only [go_sem]))
  all_goals simp [endB,List.length_eq_zero_iff.1 h]
 ·have e1:decide ((0:Int) < (xs.length:Int))=true:=dT (by omega)
  have hl:xs.length - 1 < xs.length:=by omega
  have hxi:=map_at TRange.enc xs (xs.length - 1) hl
  have w1:IntKind.i64.wrap ((xs.length:Int) - 1)=((xs.length - 1:Nat):Int):=by simp only [maxLen] at hm;rw [w64]<;>omega
  have hlast:xs.getLast?=some xs[xs.length - 1]:=by rw [List.getLast?_eq_getElem?,gE hl]
  try simp only [go_sem,lM,e1]
  repeat' (first|(with_reducible refine gTrueS ?_<;>simp only [go_sem,lM,w1,hxi,TRange.enc,tN])|(with_reducible refine sideI ?_)|fail)
  all_goals simp [endB,hlast]
def wholeI (a b c:List TRange) (e:Int):Bool:=
 decide (IntKind.i64.wrap (IntKind.i64.wrap (cntR a + cntR b) + cntR c)=e) && decide (cntR (foldA a (b++c))=e) && !endB (foldA a (b++c)) e
set_option maxHeartbeats 1000000 in
theorem impl_areWhole (a b c:List TRange) (e:Int) (hc:a.length + b.length + c.length≤524288):PureCall Tryz.prog 110 [.one (.sl 2 (a.map TRange.enc)),.one (.sl 2 (b.map TRange.enc)),.one (.sl 2 (c.map TRange.enc)),.one (.int .i64 e)] [.one (.bool (wholeI a b c e))]:=by
 refine pureT 47 Tryz.func110 Tryz.call110 [.tmp 8] ?_
 intro ok
 cases e1:decide (IntKind.i64.wrap (IntKind.i64.wrap (cntR a + cntR b) + cntR c)≠e) with
 |true=>
  have e1':=oT e1
  try simp only [go_sem]
  repeat' (refine CallS.intro (by apply impl_CountNumbers) ?_<;>simp only [go_sem,e1])
  all_goals simp [wholeI,e1']
 |false=>
  have e1':IntKind.i64.wrap (IntKind.i64.wrap (cntR a + cntR b) + cntR c)=e:=by have:=oF e1;omega
  try simp only [go_sem]
  repeat' (first|(refine CallS.intro (by first|apply impl_CountNumbers|(apply impl_copyRanges<;>first|assumption|omega)) ?_<;>simp only [go_sem,lM,e1])|(with_reducible refine sideI ?_)|fail)
  refine LoopK.intro (fun i:Nat=>⟨(jn 3 (.d (.int .i64 e)::jn 4 (.d (.bool false)::.sl 0 0 (foldA a ((b++c).take i)).length::jn 17 (.sl 1 0 (b++c).length::.d (.int .i64 (b++c).length)::.d (.int .i64 i)::jn 17 [])))),[.arr 2 ((foldA a ((b++c).take i)).map TRange.enc) true,.arr 2 ((b++c).map TRange.enc) true]⟩)
   (fun i=>(b++c).length - i) (fun i=>i≤(b++c).length) 0 [0,2] (by omega) ?_ ?_
  ·simp only [go_sem]
   simp [foldA]
  ·intro i hi
   generalize hbc:b++c=l at *
   have hl:l.length=b.length + c.length:=by rw [← hbc];simp
   have hL:=foldA_len (l.take i) a
   have hT:(l.take i).length=i:=by simp;omega
   by_cases h1:i < l.length
   ·have h1':decide ((i:Int) < (l.length:Int))=true:=dT (by omega)
    have hxi:=map_at TRange.enc l i h1
    have hw:=inc (i:=i) (m:=524288) (by omega) (by simp [maxLen])
    have hst:=foldA_take a l i h1
    generalize hq:foldA a (l.take i)=acc at *
    try simp only [go_sem,lM,tN,hxi,TRange.enc,h1']
    repeat' (first|(refine CallS.intro (by (apply impl_AddRange<;>first|assumption|omega)) ?_<;>simp only [go_sem,lM])|(with_reducible refine sideI ?_)|fail)
    refine RoundE.intro (i + 1) [3,1] (by omega) (by omega) ?_
    simp only [go_sem,hw,hst]
    simp
   ·have h1':decide ((i:Int) < (l.length:Int))=false:=dF (by omega)
    obtain rfl:i=l.length:=by omega
    try simp only [go_sem,lM,h1',tL]
    repeat' ((first|refine CallS.intro (by apply impl_CountNumbers) ?_|refine CallK.intro (by apply impl_endsBehind) ?_|refine gSymS ?_)<;>simp only [go_sem,lM])
    all_goals (refine one_bool ?_;simp [wholeI,hbc,e1'])
def finI (s:TSender):Int:=if s.fin=0 then -1 else s.ring.end'
def restI (s:TSender):Bool:=wholeI s.pending s.flight s.acked s.ring.end' && decide (gapR s.acked 0=s.ring.base) && !endB s.flight s.sent && !endB s.acked s.sent && decide (s.code=0) && decide (s.final=finI s) && decide (s.state=folI s)
def isSndI (s:TSender):Bool:=sndHead s && (if isRst s then rstOk s else restI s)
set_option maxHeartbeats 8000000 in
theorem impl_IsSender (aF aK aL aI:Int) (aE:List Int) (aB aA aC:List TRange) (aJ aG aD aM:Int) (hc:aB.length + aA.length + aC.length≤524288):PureCall Tryz.prog 91 [.agg [.int .i64 aF,.int .i64 aK,.int .i64 aL,.int .i64 aI,.sl 1 (aE.map eI),.sl 2 (aB.map TRange.enc),.sl 2 (aA.map TRange.enc),.sl 2 (aC.map TRange.enc),.int .i64 aJ,.int .i64 aG,.int .i64 aD,.int .i64 aM]] [.one (.bool (isSndI (⟨aF,⟨aK,aL,aI,aE⟩,aB,aA,aC,aJ,aG,aD,aM⟩:TSender)))]:=by
 refine pureT 161 Tryz.func91 Tryz.call91 [.tmp 2] ?_
 intro ok
 refine cutK fun K1 hK1=>?_
 simp only [go_sem]
 refine hK1 _ (cutK fun K2 hK2=>?_)
 try simp only [go_sem]
 repeat' ((first|refine CallS.intro (by apply impl_IsRing) ?_|refine CallK.intro (by first|apply impl_IsRanges|apply impl_within|apply impl_isQuic) ?_|refine gSymS ?_)<;>simp only [go_sem])
 refine cSplit (fun h0=>?_) (fun h0=>?_)
 ·simp only [go_sem]
  have:sndHead (⟨aF,⟨aK,aL,aI,aE⟩,aB,aA,aC,aJ,aG,aD,aM⟩:TSender)=false:=by
   rw [Bool.eq_false_iff];intro g;simp [sndHead] at h0 g;simp_all
  simp [isSndI,this]
 ·have hH:sndHead (⟨aF,⟨aK,aL,aI,aE⟩,aB,aA,aC,aJ,aG,aD,aM⟩:TSender)=true:=by
   simp [sndHead] at h0 ⊢;simp_all
  simp only [go_sem]
  refine hK2 _ (cutK fun K3 hK3=>?_)
  try simp only [go_sem]
  repeat' (refine gSymS ?_<;>simp only [go_sem])
  refine cSplit (fun hR=>?_) (fun hR=>?_)
  ·have hR':isRst (⟨aF,⟨aK,aL,aI,aE⟩,aB,aA,aC,aJ,aG,aD,aM⟩:TSender)=true:=by simpa [isRst,bif_or] using hR
   simp only [go_sem,lM]
   try simp only [go_sem,lM]
   repeat' (refine gSymS ?_<;>simp only [go_sem,lM])
   all_goals (refine one_bool ?_;simp [isSndI,hH,hR',rstOk];grind)
  ·have hR':isRst (⟨aF,⟨aK,aL,aI,aE⟩,aB,aA,aC,aJ,aG,aD,aM⟩:TSender)=false:=by simpa [isRst,bif_or] using hR
   simp only [go_sem]
   refine hK3 _ ?_
   cases e1:decide (aG=0) with
   |true=>
    have e1':=oT e1
    clear hK1 hK2 hK3
    try simp only [go_sem,e1]
    repeat' ((first|refine CallK.intro (by first|(apply impl_areWhole<;>first|assumption|omega)|apply impl_FirstGap|apply impl_endsBehind|apply impl_following) ?_|refine gSym ?_|refine drawE_intro mxSndI0 (by kernel_rfl) (by rfl) ?_)<;>simp only [go_sem])
    all_goals (subst e1';refine one_bool ?_;simp [isSndI,hH,hR',restI,finI,and_assoc])
   |false=>
    have e1':¬ aG=0:=oF e1
    try simp only [go_sem,e1]
    repeat' ((first|refine CallK.intro (by first|(apply impl_areWhole<;>first|assumption|omega)|apply impl_FirstGap|apply impl_endsBehind|apply impl_following) ?_|refine gSym ?_|refine drawE_intro mxSndI0 (by kernel_rfl) (by rfl) ?_)<;>simp only [go_sem])
    all_goals (refine one_bool ?_;simp [isSndI,hH,hR',restI,finI,e1',and_assoc])
/-- No range of a sender ends behind its end. -/
def noHole (s:TSender):Prop:=∀ r,r ∈ s.pending∨r ∈ s.flight∨r ∈ s.acked→r.high≤s.ring.end'
theorem below_endB {xs:List TRange} {p:Int} (h:areR xs=true):below xs p=!endB xs p:=by
 have hs:=(areR_iff xs).1 h
 rw [Bool.eq_iff_iff]
 unfold below endB
 cases hl:xs.getLast? with
 |none=>rw [List.getLast?_eq_none_iff.1 hl];simp
 |some r=>
  have hr:=List.mem_of_getLast? hl
  simp only [List.all_eq_true,decide_eq_true_eq,Bool.not_eq_true',decide_eq_false_iff_not,Int.not_lt]
  constructor
  ·intro g;exact g r hr
  ·intro g x hx
   obtain ⟨i,hi,rfl⟩:=List.getElem_of_mem hx
   have hlast:xs.getLast?=some (xs[xs.length - 1]'(by omega)):=by rw [List.getLast?_eq_getElem?,gE (by omega)]
   have he2:xs[xs.length - 1]'(by omega)=r:=Option.some.inj (hlast.symm.trans hl)
   by_cases he:i=xs.length - 1
   ·subst he;rw [he2];exact g
   ·have h1:=(List.pairwise_iff_getElem.1 hs.2) i (xs.length - 1) hi (by omega) (by omega)
    have h2:=(rOk_iff _).1 (hs.1 _ hr)
    rw [he2] at h1
    omega
theorem foldA_high {E:Int}:∀ (ys xs:List TRange),areR xs=true→(∀ y ∈ ys,rOk y=true)→(∀ x ∈ xs,x.high≤E)→(∀ y ∈ ys,y.high≤E)→∀ z ∈ foldA xs ys,z.high≤E
 |[],xs,_,_,hx,_,z,hz=>hx z hz
 |y::ys,xs,h,hy,hx,hh,z,hz=>by
  have h1:=areR_addR h (hy y (by simp))
  refine foldA_high ys (addR xs y) h1 (fun w hw=>hy w (by simp [hw])) ?_ (fun w hw=>hh w (by simp [hw])) z hz
  have:=addR_in E xs y ?_ ?_
  ·intro w hw;exact (this w hw).2.2
  ·have g:=(rOk_iff _).1 (hy y (by simp));have:=hh y (by simp);exact ⟨by omega,by omega,by omega⟩
  ·intro w hw
   have g:=(rOk_iff _).1 (((areR_iff xs).1 h).1 w hw);have:=hx w hw;exact ⟨by omega,by omega,by omega⟩
theorem isSnd_eq {s:TSender} (hn:noHole s):isSndS s=isSndI s:=by
 unfold isSndS isSndI
 cases hH:sndHead s with
 |false=>rfl
 |true=>
  simp only [Bool.true_and]
  cases hR:isRst s with
  |true=>rfl
  |false=>
   simp only [Bool.false_eq_true,if_false]
   have hh:=hH
   simp only [sndHead,Bool.and_eq_true,and_assoc] at hh
   obtain ⟨h1,h2,h3,h4,h5,h6,h7⟩:=hh
   have hg:=isRing_iff h1
   have hf:=(areR_iff s.flight).1 h3
   have ha:=(areR_iff s.acked).1 h4
   have hA1:=areR_foldA s.flight s.pending h2 hf.1
   have hA2:=areR_foldA s.acked _ hA1.1 ha.1
   have happ:foldA s.pending (s.flight++s.acked)=allR s:=by unfold allR foldA;rw [List.foldl_append]
   have hi1:=foldA_high (E:=s.ring.end') s.flight s.pending h2 hf.1 (fun x hx=>hn x (.inl hx)) (fun x hx=>hn x (.inr (.inl hx)))
   have hi2:=foldA_high (E:=s.ring.end') s.acked _ hA1.1 ha.1 hi1 (fun x hx=>hn x (.inr (.inr hx)))
   have hE:endB (allR s) s.ring.end'=false:=by
    have h8:=below_endB (p:=s.ring.end') hA2.1
    have h9:below (allR s) s.ring.end'=true:=by
     unfold below;rw [List.all_eq_true];intro x hx;exact dT (hi2 x hx)
    unfold allR at h9 ⊢
    rw [h9] at h8
    simpa using h8.symm
   have hfol:folI s=stOf s:=by
    simp only [inB,Bool.and_eq_true,decide_eq_true_eq] at h7
    unfold folI stOf
    by_cases c1:s.fin=3∧s.ring.base=s.ring.end'
    ·rw [if_pos c1,if_pos c1]
    ·rw [if_neg c1,if_neg c1]
     have:((s.fin=2∨s.fin=3)∨(s.fin=1∧s.state=2))↔(1 < s.fin∨(s.fin=1∧s.state=2)):=by omega
     simp only [this]
   have hfin:finOk s=decide (s.final=finI s):=by
    have:=hg.2.2.2.1;have:=hg.2.2.2.2.1
    unfold finOk finI
    by_cases c1:s.fin=0<;>by_cases c2:s.final=-1<;>simp [c1,c2]<;>omega
   have hmid:midOk s=(wholeI s.pending s.flight s.acked s.ring.end' && decide (gapR s.acked 0=s.ring.base) && decide (s.code=0)):=by
    unfold midOk wholeI sumR
    rw [happ,hE]
    have hfull:cntR (allR s)=s.ring.end'→0 < s.ring.end'→hi0 (allR s)=s.ring.end':=cnt_full hA2.1 hi2
    rw [Bool.eq_iff_iff]
    simp only [Bool.and_eq_true,decide_eq_true_eq,Bool.not_eq_true',Bool.and_eq_false_iff,decide_eq_false_iff_not,Bool.not_false,and_true]
    constructor
    ·rintro ⟨⟨⟨⟨a,b⟩,c⟩,d⟩,e⟩;exact ⟨⟨⟨b,a⟩,d⟩,e⟩
    ·rintro ⟨⟨⟨b,a⟩,d⟩,e⟩
     refine ⟨⟨⟨⟨a,b⟩,?_⟩,d⟩,e⟩
     by_cases c:0 < s.ring.end'
     ·right;intro g;exact g (hfull a c)
     ·left;exact c
   unfold restI
   rw [hmid,hfin,hfol,below_endB h3,below_endB h4]
   cases wholeI s.pending s.flight s.acked s.ring.end'<;>cases decide (gapR s.acked 0=s.ring.base)<;>cases decide (s.code=0)<;>cases endB s.flight s.sent<;>cases endB s.acked s.sent<;>cases decide (s.final=finI s)<;>simp
def okC (c:TChunk):Prop:=0≤c.offset∧c.offset≤1000∧c.offset + (c.data.length:Int)≤1000
theorem insS_ok {n:Int} {xs:List TChunk} {off:Int} {data:List UInt8} (h:∀ c ∈ xs,okC c) (ho:0≤off) (ho2:off + (data.length:Int)≤1000):∀ c ∈ insS n xs off data,okC c:=by
 unfold insS
 split
 ·rename_i hk
  intro c hc
  obtain ⟨r,hr,rfl⟩:=List.mem_map.1 hc
  simp only [insOk,Bool.and_eq_true,decide_eq_true_eq] at hk
  have hlo:0≤lowS n off:=by unfold lowS;split<;>omega
  have hin:=addR_in 1000 (rngB xs) ⟨lowS n off,off + data.length⟩ ⟨hlo,by show lowS n off≤1000;omega,ho2⟩ (fun x hx=>by
   obtain ⟨d,hd,rfl⟩:=List.mem_map.1 hx
   exact h d hd) r hr
  simp only [inR] at hin
  refine ⟨hin.1,hin.2.1,?_⟩
  show r.low + ((bytS xs off data r.low (r.high - r.low).toNat).length:Int)≤1000
  rw [bytS_len];omega
 ·exact h
theorem insS_len (n:Int) (xs:List TChunk) (off:Int) (data:List UInt8):(insS n xs off data).length≤xs.length + 1:=by
 unfold insS
 split
 ·rw [lM]
  have:=addR_len (rngB xs) ⟨lowS n off,off + data.length⟩
  rw [rngB_len] at this;exact this
 ·omega
theorem tkX_ok {n:Int} {xs:List TChunk} {most:Int} (h:∀ c ∈ xs,okC c):∀ c ∈ tkX n xs most,okC c:=by
 unfold tkX
 split
 ·exact h
 ·rename_i h1
  split
  ·exact fun c hc=>h c (List.mem_of_mem_drop hc)
  ·rename_i h2
   have hr:readB n xs≠0:=by unfold tkN at h1;omega
   obtain ⟨_,hlt,ho,hrl,htd⟩:=readB_pos hr
   have hk:tkN n xs most≤xs[0].data.length:=by unfold tkN;omega
   have hx:=h xs[0] (List.getElem_mem hlt)
   intro c hc
   rcases List.mem_cons.1 hc with rfl|hc
   ·simp only [okC] at hx ⊢
    rw [htd,List.length_drop]
    omega
   ·exact h c (List.mem_of_mem_drop hc)
theorem tkX_len (n:Int) (xs:List TChunk) (most:Int):(tkX n xs most).length≤xs.length:=by
 unfold tkX
 split
 ·omega
 ·rename_i h1
  have hr:readB n xs≠0:=by unfold tkN at h1;omega
  obtain ⟨_,hlt,_⟩:=readB_pos hr
  split
  ·simp
  ·simp;omega
set_option maxRecDepth 100000
def mxRcv0:List (List Rl):=mxD 46 [8862938119652501095928,8862938119652501095926,8862938119652501095920,8862938119652501095902,8862938119652501095848,8862938119652501095686,8862938119652501095200,8862938119652501093742,8862938119652501089368,8862938119652501076246,8862938119652501036880,8862938119652481786906,8862938119652481432612,8862938119652480369730,8862938119652498615871,8862938119652489049933,8862938119652458049208,8862938119652371955766,8862938119652113675440,8862938119651338834462,8862938119649014311528,8862938119642040742726,8862938119621120036320,8862938119558357917102,8862938119370071559448,8862938118805212486486,8862938117110635267600,8862938112026903610942,8862938096775708640968,8862935580328538595258,8862935443067783865492,8862937776500614271514,8862936541153821703620,8862932560591934540406,8862921442470801429360,8862888088107402096222,8862788025017204096808,8862487835746610098566,8861587267934828103840,8858885564499482119662,8850780454193444167128,8826465123275330309526,8753519130520988736720,8534681152257964018302,7878167217468889863048,5908625413101667397286]
def mxRcv1:List (List Rl):=mxD 16 [43046720,43046718,43046712,43046694,42309621,42309459,42308973,42336999,42332625,42319503,42279084,42958107,42603813,41452398,38263752,28697814]
attribute [go_sem] mxRcv0 mxRcv1
def rcvHead (r:TReceiver):Bool:=isBuf r.buffer && isQ r.highest && !decide (r.highest < endOf r.buffer) && isQ r.code && !(decide (r.final≠-1) && decide (r.final < r.highest)) && !decide (4611686018427387903 < r.final) && !decide (r.final < -1)
def rcvFull (r:TReceiver):Bool:=decide (r.final≠-1) && decide (IntKind.i64.wrap (r.buffer.next + (readB r.buffer.next r.buffer.chunks:Int))=r.final)
def rcvSt (r:TReceiver):Bool:=
 if r.state=0 then decide (r.final=-1) && decide (r.code=0)
 else if r.state=1 then decide (r.final≠-1) && !rcvFull r && decide (r.code=0)
 else if r.state=2 then rcvFull r && decide (r.code=0)
 else if r.state=3 then rcvFull r && decide ((r.buffer.chunks.length:Int)=0) && decide (r.code=0)
 else if r.state=4∨r.state=5 then decide (r.final≠-1) && decide (r.highest=r.final) && decide ((r.buffer.chunks.length:Int)=0)
 else false
def isRcv (r:TReceiver):Bool:=rcvHead r && rcvSt r
theorem rcvHead_guard (r:TReceiver):(bif bif bif bif bif bif !isBuf r.buffer then true else !isQ r.highest then true else decide (r.highest < endOf r.buffer) then true else !isQ r.code then true else bif decide (r.final≠-1) then decide (r.final < r.highest) else false then true else decide (4611686018427387903 < r.final) then true else decide (r.final < -1))=!rcvHead r:=by
 unfold rcvHead
 cases isBuf r.buffer<;>cases isQ r.highest<;>cases decide (r.highest < endOf r.buffer)<;>cases isQ r.code<;>cases decide (r.final≠-1)<;>cases decide (r.final < r.highest)<;>cases decide (4611686018427387903 < r.final)<;>cases decide (r.final < -1)<;>rfl
set_option maxHeartbeats 4000000 in
theorem spec_IsReceiver (aU aR:Int) (aO:List TChunk) (bA aX aY:Int) (hb:∀ c ∈ aO,c.data.length≤1048576) (hx:aO.length≤1048576):PureCall Tryz.prog 96 [.agg [.int .i64 aU,.int .i64 aR,.sl 2 (aO.map TChunk.enc),.int .i64 bA,.int .i64 aX,.int .i64 aY]] [.one (.bool (isRcv (⟨aU,⟨aR,aO⟩,bA,aX,aY⟩:TReceiver)))]:=by
 refine pureT 134 Tryz.func96 Tryz.call96 [.tmp 2] ?_
 intro _
 have hE:=rcvHead_guard (⟨aU,⟨aR,aO⟩,bA,aX,aY⟩:TReceiver)
 cases hH:rcvHead (⟨aU,⟨aR,aO⟩,bA,aX,aY⟩:TReceiver) with
 |false=>
  rw [hH] at hE
  try simp only [go_sem]
  repeat' ((first|refine CallK.intro (by first|(apply spec_IsBuffer<;>first|assumption|omega)|apply spec_l4Quic|(apply spec_EndOf<;>first|assumption|omega)) ?_|refine gSym ?_|refine drawE_intro mxRcv0 (by kernel_rfl) (by rfl) ?_)<;>simp only [go_sem])
  rw [hE]
  simp only [go_sem,Bool.not_false]
  simp [isRcv,hH]
 |true=>
  rw [hH] at hE
  try simp only [go_sem]
  repeat' ((first|refine CallK.intro (by first|(apply spec_IsBuffer<;>first|assumption|omega)|apply spec_l4Quic|(apply spec_EndOf<;>first|assumption|omega)) ?_|refine gSym ?_|refine drawE_intro mxRcv0 (by kernel_rfl) (by rfl) ?_)<;>simp only [go_sem])
  rw [hE]
  simp only [go_sem,Bool.not_true]
  try simp only [go_sem,lM]
  repeat' ((first|refine CallK.intro (by (apply spec_ReadyBytes<;>first|assumption|omega)) ?_|refine gSymS ?_|refine gSym ?_|refine drawE_intro mxRcv1 (by kernel_rfl) (by rfl) ?_|refine cSplit (fun h=>?_) (fun h=>?_))<;>simp only [go_sem,lM])
  all_goals (rw [show isRcv (⟨aU,⟨aR,aO⟩,bA,aX,aY⟩:TReceiver)=rcvSt (⟨aU,⟨aR,aO⟩,bA,aX,aY⟩:TReceiver) from by unfold isRcv;rw [hH];rfl];clear hH hE;simp only [decide_eq_true_eq,decide_eq_false_iff_not] at *;first|(exfalso;omega)|(simp [rcvSt,rcvFull, *]))
def newRcv:TReceiver:=⟨0,⟨0,[]⟩,-1,0,0⟩
theorem spec_NewReceiver :PureCall Tryz.prog 181 [] [.agg (TReceiver.enc (newRcv))]:=by
 refine pureT 2 Tryz.func181 Tryz.call181 [.cell 0 51] ?_
 intro _
 try simp only [go_sem]
 all_goals simp [newRcv]
def newBytes (r:TReceiver) (e:Int):Int:=if isRcv r && isQ e then maxI 0 (IntKind.i64.wrap (e - r.highest)) else 0
theorem spec_NewBytes (aU aR:Int) (aO:List TChunk) (bA aX aY e:Int) (hb:∀ c ∈ aO,c.data.length≤1048576) (hx:aO.length≤1048576):PureCall Tryz.prog 237 [.agg [.int .i64 aU,.int .i64 aR,.sl 2 (aO.map TChunk.enc),.int .i64 bA,.int .i64 aX,.int .i64 aY],.one (.int .i64 e)] [.one (.int .i64 (newBytes (⟨aU,⟨aR,aO⟩,bA,aX,aY⟩:TReceiver) e))]:=by
 refine pureT 18 Tryz.func237 Tryz.call237 [.tmp 4] ?_
 intro _
 try simp only [go_sem]
 repeat' ((first|refine CallS.intro (by (apply spec_IsReceiver<;>first|assumption|omega)) ?_|refine CallK.intro (by apply spec_l4Quic) ?_|refine gSymS ?_|refine cSplit (fun h=>?_) (fun h=>?_))<;>simp only [go_sem])
 all_goals (cases h1:isRcv (⟨aU,⟨aR,aO⟩,bA,aX,aY⟩:TReceiver)<;>cases h2:isQ e<;>simp_all [newBytes,maxI])
def isRcvd (r:TReceiver):Bool:=isRcv r && (decide (r.state=3) || decide (r.state=5))
theorem spec_IsReceived (aU aR:Int) (aO:List TChunk) (bA aX aY:Int) (hb:∀ c ∈ aO,c.data.length≤1048576) (hx:aO.length≤1048576):PureCall Tryz.prog 98 [.agg [.int .i64 aU,.int .i64 aR,.sl 2 (aO.map TChunk.enc),.int .i64 bA,.int .i64 aX,.int .i64 aY]] [.one (.bool (isRcvd (⟨aU,⟨aR,aO⟩,bA,aX,aY⟩:TReceiver)))]:=by
 refine pureT 15 Tryz.func98 Tryz.call98 [.tmp 2] ?_
 intro _
 try simp only [go_sem]
 repeat' ((first|refine CallS.intro (by (apply spec_IsReceiver<;>first|assumption|omega)) ?_|refine gSymS ?_)<;>simp only [go_sem])
 all_goals (refine one_bool ?_;simp [isRcvd])
def finalE (r:TReceiver) (e:Int) (f:Bool):Int:=
 if ((decide (r.final≠-1) && (decide (r.final < e) || (f && decide (e≠r.final)))) || (f && decide (e < r.highest)))=true then 6 else 0
theorem spec_l7Final (aU aR:Int) (aO:List TChunk) (bA aX aY e:Int) (f:Bool) (_hx:aO.length≤1048576):PureCall Tryz.prog 235 [.agg [.int .i64 aU,.int .i64 aR,.sl 2 (aO.map TChunk.enc),.int .i64 bA,.int .i64 aX,.int .i64 aY],.one (.int .i64 e),.one (.bool f)] [.one (.int .i64 (finalE (⟨aU,⟨aR,aO⟩,bA,aX,aY⟩:TReceiver) e f))]:=by
 refine pureT 34 Tryz.func235 Tryz.call235 [.tmp 6] ?_
 intro _
 try simp only [go_sem]
 repeat' ((first|refine gSymS ?_|refine cSplit (fun h=>?_) (fun h=>?_))<;>simp only [go_sem])
 ·simp only [bif_and,bif_or] at h
  unfold finalE
  rw [if_pos h]
 ·simp only [bif_and,bif_or] at h
  unfold finalE
  rw [if_neg (by rw [h];simp)]
set_option maxRecDepth 100000
def rdrSt (r:TReceiver) (m:Int):Int:=if r.state=2∧r.buffer.next + (tkN r.buffer.next r.buffer.chunks m:Int)=r.final then 3 else r.state
def readRcv (r:TReceiver) (m:Int):TReceiver:=
 if isRcv r then (if r.state=4 then { r with state:=5 } else { r with state:=rdrSt r m,buffer:=⟨r.buffer.next + (tkN r.buffer.next r.buffer.chunks m:Int),tkX r.buffer.next r.buffer.chunks m⟩ }) else r
def readRcvS (r:TReceiver) (m:Int):List UInt8:=if isRcv r && !decide (r.state=4) then tkS r.buffer.next r.buffer.chunks m else []
set_option maxHeartbeats 4000000 in
theorem spec_ReadReceiver (aU aR:Int) (aO:List TChunk) (bA aX aY m:Int) (hb:∀ c ∈ aO,c.data.length≤1048576) (hx:aO.length≤1048576):PureCall Tryz.prog 159 [.agg [.int .i64 aU,.int .i64 aR,.sl 2 (aO.map TChunk.enc),.int .i64 bA,.int .i64 aX,.int .i64 aY],.one (.int .i64 m)] [.one (.str (readRcvS (⟨aU,⟨aR,aO⟩,bA,aX,aY⟩:TReceiver) m)),.agg (TReceiver.enc (readRcv (⟨aU,⟨aR,aO⟩,bA,aX,aY⟩:TReceiver) m))]:=by
 refine pureT 42 Tryz.func159 Tryz.call159 [.tmp 4,.cell 5 51] ?_
 intro _
 have fT:=spec_TakeBytes_raw aR aO m hb hx
 cases hI:isRcv (⟨aU,⟨aR,aO⟩,bA,aX,aY⟩:TReceiver) with
 |false=>
  try simp only [go_sem]
  repeat' (first|((first|refine CallS.intro (by first|assumption|(apply spec_l7Copy<;>first|assumption|omega)|(apply spec_IsReceiver<;>first|assumption|omega)) ?_|refine CallK.intro (by assumption) ?_|refine drawE_intro [[.post,.un,.post],[.un,.post,.post],[.pre,.pre,.post]] (by kernel_rfl) (by rfl) ?_)<;>simp only [go_sem,lM,hI])|(with_reducible refine sideI ?_)|fail)
  all_goals simp [readRcv,readRcvS,hI]
 |true=>
  by_cases h4:aU=4
  ·have e1:decide (aU=4)=true:=dT h4
   have hR:readRcv (⟨aU,⟨aR,aO⟩,bA,aX,aY⟩:TReceiver) m={ (⟨aU,⟨aR,aO⟩,bA,aX,aY⟩:TReceiver) with state:=5 }:=by unfold readRcv;rw [if_pos hI];exact if_pos h4
   have hS:readRcvS (⟨aU,⟨aR,aO⟩,bA,aX,aY⟩:TReceiver) m=[]:=by unfold readRcvS;rw [hI];simp [h4]
   try simp only [go_sem]
   repeat' (first|((first|refine CallS.intro (by first|assumption|(apply spec_l7Copy<;>first|assumption|omega)|(apply spec_IsReceiver<;>first|assumption|omega)) ?_|refine CallK.intro (by assumption) ?_|refine drawE_intro [[.post,.un,.post],[.un,.post,.post],[.pre,.pre,.post]] (by kernel_rfl) (by rfl) ?_)<;>simp only [go_sem,lM,hI,e1])|(with_reducible refine sideI ?_)|fail)
   all_goals (rw [hR,hS];try simp [outOA,take_map_self])
  ·have e1:decide (aU=4)=false:=dF h4
   have hR:readRcv (⟨aU,⟨aR,aO⟩,bA,aX,aY⟩:TReceiver) m={ (⟨aU,⟨aR,aO⟩,bA,aX,aY⟩:TReceiver) with state:=rdrSt (⟨aU,⟨aR,aO⟩,bA,aX,aY⟩:TReceiver) m,buffer:=⟨aR + (tkN aR aO m:Int),tkX aR aO m⟩ }:=by unfold readRcv;rw [if_pos hI];exact if_neg h4
   have hS:readRcvS (⟨aU,⟨aR,aO⟩,bA,aX,aY⟩:TReceiver) m=tkS aR aO m:=by unfold readRcvS;rw [hI];simp [h4]
   try simp only [go_sem]
   repeat' (first|((first|refine CallS.intro (by first|assumption|(apply spec_l7Copy<;>first|assumption|omega)|(apply spec_IsReceiver<;>first|assumption|omega)) ?_|refine CallK.intro (by assumption) ?_|refine gSymS ?_|refine drawE_intro [[.post,.un,.post,.post],[.un,.post,.un,.post],[.pre,.un,.post,.post],[.pre,.pre,.pre,.post]] (by kernel_rfl) (by rfl) ?_|refine cSplit (fun h=>?_) (fun h=>?_))<;>simp only [go_sem,lM,hI,e1])|(with_reducible refine sideI ?_)|fail)
   ·simp only [bif_and,Bool.and_eq_true,decide_eq_true_eq] at h
    have hq:rdrSt (⟨aU,⟨aR,aO⟩,bA,aX,aY⟩:TReceiver) m=3:=by unfold rdrSt;exact if_pos h
    rw [hR,hS,hq]
    try simp [outOA,take_map_self]
   ·have hq:rdrSt (⟨aU,⟨aR,aO⟩,bA,aX,aY⟩:TReceiver) m=aU:=by
     unfold rdrSt;refine if_neg fun g=>?_
     rw [dT g.1,dT g.2] at h;cases h
    rw [hR,hS,hq]
    try simp [outOA,take_map_self]
def rrOk (r:TReceiver) (c f:Int):Bool:=isRcv r && isQ c && isQ f
def rrE (r:TReceiver) (c f:Int):Int:=if rrOk r c f then finalE r f true else 7
def rrGo (r:TReceiver) (c f:Int):Bool:=rrOk r c f && !(decide (finalE r f true≠0) || decide (1 < r.state))
def resetRcv (r:TReceiver) (c f:Int):TReceiver:=if rrGo r c f then ⟨4,⟨r.buffer.next,[]⟩,f,f,c⟩ else r
set_option maxHeartbeats 4000000 in
theorem spec_ReceiveReset (aU aR:Int) (aO:List TChunk) (bA aX aY c f:Int) (hb:∀ c ∈ aO,c.data.length≤1048576) (hx:aO.length≤1048576):PureCall Tryz.prog 208 [.agg [.int .i64 aU,.int .i64 aR,.sl 2 (aO.map TChunk.enc),.int .i64 bA,.int .i64 aX,.int .i64 aY],.one (.int .i64 c),.one (.int .i64 f)] [.agg (TReceiver.enc (resetRcv (⟨aU,⟨aR,aO⟩,bA,aX,aY⟩:TReceiver) c f)),.one (.int .i64 (rrE (⟨aU,⟨aR,aO⟩,bA,aX,aY⟩:TReceiver) c f))]:=by
 refine pureT 46 Tryz.func208 Tryz.call208 [.cell 6 51,.tmp 7] ?_
 intro _
 cases hO:rrOk (⟨aU,⟨aR,aO⟩,bA,aX,aY⟩:TReceiver) c f with
 |false=>
  have hG:rrGo (⟨aU,⟨aR,aO⟩,bA,aX,aY⟩:TReceiver) c f=false:=by simp [rrGo,hO]
  have hE:(bif bif !isRcv (⟨aU,⟨aR,aO⟩,bA,aX,aY⟩:TReceiver) then true else !isQ c then true else !isQ f)=true:=by
   have:=hO;unfold rrOk at this
   revert this;cases isRcv (⟨aU,⟨aR,aO⟩,bA,aX,aY⟩:TReceiver)<;>cases isQ c<;>cases isQ f<;>simp
  try simp only [go_sem]
  repeat' ((first|refine CallS.intro (by first|(apply spec_l7Copy<;>first|assumption|omega)|(apply spec_IsReceiver<;>first|assumption|omega)) ?_|refine CallK.intro (by apply spec_l4Quic) ?_|refine gSymS ?_)<;>simp only [go_sem,lM])
  rw [hE]
  simp only [go_sem,lM]
  simp [resetRcv,hG,rrE,hO]
 |true=>
  have hE:(bif bif !isRcv (⟨aU,⟨aR,aO⟩,bA,aX,aY⟩:TReceiver) then true else !isQ c then true else !isQ f)=false:=by
   have:=hO;unfold rrOk at this
   revert this;cases isRcv (⟨aU,⟨aR,aO⟩,bA,aX,aY⟩:TReceiver)<;>cases isQ c<;>cases isQ f<;>simp
  try simp only [go_sem]
  repeat' ((first|refine CallS.intro (by first|(apply spec_l7Copy<;>first|assumption|omega)|(apply spec_IsReceiver<;>first|assumption|omega)) ?_|refine CallK.intro (by apply spec_l4Quic) ?_|refine gSymS ?_)<;>simp only [go_sem,lM])
  rw [hE]
  simp only [go_sem]
  try simp only [go_sem,lM]
  repeat' ((first|refine CallS.intro (by (apply spec_l7Final<;>first|assumption|omega)) ?_|refine gSymS ?_)<;>simp only [go_sem])
  refine cSplit (fun h=>?_) (fun h=>?_)
  ·have hG:rrGo (⟨aU,⟨aR,aO⟩,bA,aX,aY⟩:TReceiver) c f=false:=by unfold rrGo;simp only [bif_or] at h;rw [hO,h];rfl
   simp only [go_sem,lM]
   simp [resetRcv,hG,rrE,hO]
  ·have hG:rrGo (⟨aU,⟨aR,aO⟩,bA,aX,aY⟩:TReceiver) c f=true:=by unfold rrGo;simp only [bif_or] at h;rw [hO,h];rfl
   have h0:finalE (⟨aU,⟨aR,aO⟩,bA,aX,aY⟩:TReceiver) f true=0:=by
    simp only [bif_or,Bool.or_eq_false_iff,decide_eq_false_iff_not] at h;omega
   simp only [go_sem]
   try simp only [go_sem,lM]
   all_goals simp [resetRcv,hG,rrE,hO,h0]
set_option maxRecDepth 100000
def mxRcvC0:List (List Rl):=mxD 6 [692,690,724,706,648,486]
def mxRcvC1:List (List Rl):=mxD 37 [450283905890997362,450283905890997360,450283905890997354,450283905890997336,450283905890997282,450283905890970876,450283905890970390,450283905890968932,450283905890993961,450283905890980839,450283905890938314,450283905890820216,450283905890465922,450283905889403040,450283905886214394,450283905876648456,450283905847950642,450283905761857200,450283905503576874,450283904728735896,450283902404212962,450283895430644160,450283874509937754,450283811747818536,450283623461460882,450283058602387920,450281364025169034,450276280293512376,450261029098542402,447744581928496692,447607321173766926,449940754004172948,448705407211605054,444724845324441840,433606724191330794,400252360791997656,300189270593998242]
def mxRcvC2:List (List Rl):=mxD 12 [531440,531438,531432,531414,522612,522450,521964,530307,525933,511758,472392,354294]
attribute [go_sem] mxRcvC0 mxRcvC1 mxRcvC2
theorem impl_readyEnd (n:Int) (xs:List TChunk) (hb:∀ c ∈ xs,c.data.length≤1048576) (hx:xs.length≤1048576):PureCall Tryz.prog 116 [.agg [.int .i64 n,.sl 2 (xs.map TChunk.enc)]] [.one (.int .i64 (IntKind.i64.wrap (n + (readB n xs:Int))))]:=by
 refine pureT 8 Tryz.func116 Tryz.call116 [.tmp 2] ?_
 intro _
 try simp only [go_sem]
 repeat' ((first|refine CallK.intro (by (apply impl_ReadyBytes<;>first|assumption|omega)) ?_|refine drawE_intro mxRcvC0 (by kernel_rfl) (by rfl) ?_)<;>simp only [go_sem])
 all_goals simp
def rcvHeadI (r:TReceiver):Bool:=isBuf r.buffer && !decide (r.highest < endOf r.buffer) && isQ r.highest && isQ r.code && !(decide (r.final≠-1) && !inB r.final r.highest 4611686018427387903)
theorem rcvHeadI_guard (r:TReceiver):(bif bif bif bif !isBuf r.buffer then true else decide (r.highest < endOf r.buffer) then true else !isQ r.highest then true else !isQ r.code then true else bif decide (r.final≠-1) then !inB r.final r.highest 4611686018427387903 else false)=!rcvHeadI r:=by
 unfold rcvHeadI
 cases isBuf r.buffer<;>cases isQ r.highest<;>cases decide (r.highest < endOf r.buffer)<;>cases isQ r.code<;>cases decide (r.final≠-1)<;>cases inB r.final r.highest 4611686018427387903<;>rfl
theorem rcvHead_eq (r:TReceiver):rcvHeadI r=rcvHead r:=by
 rw [Bool.eq_iff_iff]
 simp only [rcvHeadI,rcvHead,isQ,inB,Bool.and_eq_true,Bool.not_eq_true',decide_eq_true_eq,decide_eq_false_iff_not,Bool.and_eq_false_iff,Bool.not_eq_false']
 constructor
 ·rintro ⟨⟨⟨⟨h1,h2⟩,h3⟩,h4⟩,h5⟩
  refine ⟨⟨⟨⟨⟨⟨h1,h3⟩,h2⟩,h4⟩,?_⟩,?_⟩,?_⟩<;>omega
 ·rintro ⟨⟨⟨⟨⟨⟨h1,h3⟩,h2⟩,h4⟩,h5⟩,h6⟩,h7⟩
  refine ⟨⟨⟨⟨h1,h2⟩,h3⟩,h4⟩,?_⟩
  omega
set_option maxHeartbeats 4000000 in
theorem impl_IsReceiver (aU aR:Int) (aO:List TChunk) (bA aX aY:Int) (hb:∀ c ∈ aO,c.data.length≤1048576) (hx:aO.length≤1048576):PureCall Tryz.prog 92 [.agg [.int .i64 aU,.int .i64 aR,.sl 2 (aO.map TChunk.enc),.int .i64 bA,.int .i64 aX,.int .i64 aY]] [.one (.bool (isRcv (⟨aU,⟨aR,aO⟩,bA,aX,aY⟩:TReceiver)))]:=by
 refine pureT 116 Tryz.func92 Tryz.call92 [.tmp 2] ?_
 intro _
 have hE:=rcvHeadI_guard (⟨aU,⟨aR,aO⟩,bA,aX,aY⟩:TReceiver)
 rw [rcvHead_eq] at hE
 cases hH:rcvHead (⟨aU,⟨aR,aO⟩,bA,aX,aY⟩:TReceiver) with
 |false=>
  rw [hH] at hE
  try simp only [go_sem]
  repeat' ((first|refine CallK.intro (by first|(apply impl_IsBuffer<;>first|assumption|omega)|(apply impl_EndOf<;>first|assumption|omega)|apply impl_isQuic|apply impl_within) ?_|refine gSym ?_|refine drawE_intro mxRcvC1 (by kernel_rfl) (by rfl) ?_)<;>simp only [go_sem])
  rw [hE]
  simp only [go_sem,Bool.not_false]
  simp [isRcv,hH]
 |true=>
  have h0:0≤aX:=by
   have:=hH
   simp only [rcvHead,isQ,inB,Bool.and_eq_true,decide_eq_true_eq,and_assoc] at this;exact this.2.1
  rw [hH] at hE
  try simp only [go_sem]
  repeat' ((first|refine CallK.intro (by first|(apply impl_IsBuffer<;>first|assumption|omega)|(apply impl_EndOf<;>first|assumption|omega)|apply impl_isQuic|apply impl_within) ?_|refine gSym ?_|refine drawE_intro mxRcvC1 (by kernel_rfl) (by rfl) ?_)<;>simp only [go_sem])
  rw [hE]
  simp only [go_sem,Bool.not_true]
  try simp only [go_sem,lM]
  repeat' ((first|refine CallK.intro (by (apply impl_readyEnd<;>first|assumption|omega)) ?_|refine gSymS ?_|refine gSym ?_|refine drawE_intro mxRcvC2 (by kernel_rfl) (by rfl) ?_|refine cSplit (fun h=>?_) (fun h=>?_))<;>simp only [go_sem,lM])
  all_goals (rw [show isRcv (⟨aU,⟨aR,aO⟩,bA,aX,aY⟩:TReceiver)=rcvSt (⟨aU,⟨aR,aO⟩,bA,aX,aY⟩:TReceiver) from by unfold isRcv;rw [hH];rfl];clear hH hE;simp only [decide_eq_true_eq,decide_eq_false_iff_not] at *;first|(exfalso;omega)|(refine one_bool ?_;simp [rcvSt,rcvFull, *];done)|(refine one_bool ?_;simp [rcvSt,rcvFull, *];grind))
theorem impl_IsReceived (aU aR:Int) (aO:List TChunk) (bA aX aY:Int) (hb:∀ c ∈ aO,c.data.length≤1048576) (hx:aO.length≤1048576):PureCall Tryz.prog 94 [.agg [.int .i64 aU,.int .i64 aR,.sl 2 (aO.map TChunk.enc),.int .i64 bA,.int .i64 aX,.int .i64 aY]] [.one (.bool (isRcvd (⟨aU,⟨aR,aO⟩,bA,aX,aY⟩:TReceiver)))]:=by
 refine pureT 15 Tryz.func94 Tryz.call94 [.tmp 2] ?_
 intro _
 try simp only [go_sem]
 repeat' ((first|refine CallS.intro (by (apply impl_IsReceiver<;>first|assumption|omega)) ?_|refine gSymS ?_)<;>simp only [go_sem])
 all_goals (refine one_bool ?_;simp [isRcvd])
set_option maxRecDepth 100000
set_option maxHeartbeats 8000000 in
theorem isSender_5a (aF aK aL aI:Int) (aE:List Int) (aB aA aC:List TRange) (aJ aG aD aM:Int) (hc:aB.length + aA.length + aC.length≤524288) (hm3:aA.length≤maxLen) (hm4:aC.length≤maxLen) (hH:sndHead (⟨aF,⟨aK,aL,aI,aE⟩,aB,aA,aC,aJ,aG,aD,aM⟩:TSender)=true) (hR':isRst (⟨aF,⟨aK,aL,aI,aE⟩,aB,aA,aC,aJ,aG,aD,aM⟩:TSender)=false) (hpA:areR aB=true) (hfA:areR aA=true) (haA:areR aC=true) (hfl:aA=[]) {u0 u4 u5 u6 u7 u8 u9 u10 u11 u12 u13 u14 u15 u16 u17 u18 u19 u20 u21 u22 u23 u24 u25 u26 u27 u28 u29 u30 u31 u32 u33 u34 u35 u36 u37 u38 u39 u40 u41 u42 u43 u44 u45 u46 u47 u48 u49 u50 u51 u52 u53 u54 u55 u56 u57 u58 u59 u60 u61 u62 u63 u64 u65 u66 u67 u68 u69 u70 u71 u72 u73 u74 u75 u76 u77 u78 u79 u80 u81 u82 u83 u84 u85 u86 u87 u88 u89 u90 u91 u92 u93 u94 u95 u96 u97 u98 u99 u100 u101 u102 u103 u104 u105 u106 u107 u108 u109 u110 u111 u112 u113 u114 u115 u116 u117 u118 u119 u120 u121 u122 u123 u124 u125 u126 u127 u128 u129 u130 u131 u132 u133 u134 u135 u136 u137 u138 u139 u140 u141 u142 u143 u144 u145 u146 u147 u148 u149 u150 u151 u152 u153 u154 u155 u156 u157 u158 u159 u160 u161 u162 u163 u164 u165 u166 u167 u168 u169 u170 u171 u172 u173 u174 u175 u176 u177 u178 u179 u180 u181 u182 u183 u184 u185 u186 u187 u188 u189 u190 u191 u192 u193 u194 u195 u196 u197 u198 u199 u200 u201 u202 u203 u204 u205 u206 u207 u208 u209 u210 u211 u212 u213 u214 u215 u216 u217 u218 u219 u220 u221 u222 u223 u224 u225 u226 u227 u228 u229 u230 u231 u232 u233 u234 u235 u236 u237 u238 u239 u240 u241 u242 u243 u244 u245:V} :
  codeE Tryz.prog [] (restC 5 (bodyOf Tryz.f95)) ⟨[u0,.ptr 0 0 0,.d (.bool false),.d (.sl 2 (aB.map TRange.enc)),u4,u5,u6,u7,u8,u9,u10,u11,u12,u13,u14,u15,u16,u17,u18,u19,u20,u21,u22,u23,u24,u25,u26,u27,u28,u29,u30,u31,u32,u33,u34,u35,u36,u37,u38,u39,u40,u41,u42,u43,u44,u45,u46,u47,u48,u49,u50,u51,u52,u53,u54,u55,u56,u57,u58,u59,u60,u61,u62,u63,u64,u65,u66,u67,u68,u69,u70,u71,u72,u73,u74,u75,u76,u77,u78,u79,u80,u81,u82,u83,u84,u85,u86,u87,u88,u89,u90,u91,u92,u93,u94,u95,u96,u97,u98,u99,u100,u101,u102,u103,u104,u105,u106,u107,u108,u109,u110,u111,u112,u113,u114,u115,u116,u117,u118,u119,u120,u121,u122,u123,u124,u125,u126,u127,u128,u129,u130,u131,u132,u133,u134,u135,u136,u137,u138,u139,u140,u141,u142,u143,u144,u145,u146,u147,u148,u149,u150,u151,u152,u153,u154,u155,u156,u157,u158,u159,u160,u161,u162,u163,u164,u165,u166,u167,u168,u169,u170,u171,u172,u173,u174,u175,u176,u177,u178,u179,u180,u181,u182,u183,u184,u185,u186,u187,u188,u189,u190,u191,u192,u193,u194,u195,u196,u197,u198,u199,u200,u201,u202,u203,u204,u205,u206,u207,u208,u209,u210,u211,u212,u213,u214,u215,u216,u217,u218,u219,u220,u221,u222,u223,u224,u225,u226,u227,u228,u229,u230,u231,u232,u233,u234,u235,u236,u237,u238,u239,u240,u241,u242,u243,u244,u245],[.box [.d (.int .i64 aF),.d (.int .i64 aK),.d (.int .i64 aL),.d (.int .i64 aI),.d (.sl 1 (aE.map eI)),.d (.sl 2 (aB.map TRange.enc)),.d (.sl 2 (aA.map TRange.enc)),.d (.sl 2 (aC.map TRange.enc)),.d (.int .i64 aJ),.d (.int .i64 aG),.d (.int .i64 aD),.d (.int .i64 aM)]]⟩ (hide (retE Tryz.prog [.tmp 2] [.one (.bool (isSndS (⟨aF,⟨aK,aL,aI,aE⟩,aB,aA,aC,aJ,aG,aD,aM⟩:TSender)))]) .mk) [] (hide (retE Tryz.prog [.tmp 2] [.one (.bool (isSndS (⟨aF,⟨aK,aL,aI,aE⟩,aB,aA,aC,aJ,aG,aD,aM⟩:TSender)))]) .mk):=by
 conv=>arg 3;whnf
 refine cutK fun K6 hK=>?_
 simp only [go_sem]
 by_cases hne4:aC=[]
 ·skip
  refine LoopK.intro (fun i:Nat=>⟨(.junk::.ptr 0 0 0::.d (.bool false)::.d (.sl 2 (aB.map TRange.enc))::.junk::.d (.int .i64 i)::jn 240 []),[.box [.d (.int .i64 aF),.d (.int .i64 aK),.d (.int .i64 aL),.d (.int .i64 aI),.d (.sl 1 (aE.map eI)),.d (.sl 2 (aB.map TRange.enc)),.d (.sl 2 (aA.map TRange.enc)),.d (.sl 2 (aC.map TRange.enc)),.d (.int .i64 aJ),.d (.int .i64 aG),.d (.int .i64 aD),.d (.int .i64 aM)]]⟩)
   (fun _=>0) (fun i=>i=0) 0 [0] rfl ?_ ?_
  ·simp only [go_sem];simp
  ·rintro _ rfl
   have h1':decide (((0:Nat):Int) < (aC.length:Int))=false:=dF (by rw [hne4];simp)
   have hA:allR (⟨aF,⟨aK,aL,aI,aE⟩,aB,aA,aC,aJ,aG,aD,aM⟩:TSender)=aB:=by unfold allR foldA;simp only [hfl,hne4,List.foldl_nil]
   simp only [go_sem,lM,h1']
   exact hK _ (isSender_mid1 aF aK aL aI aE aB aA aC aJ aG aD aM hc hm3 hm4 hH hR' hA)
 ·skip
  have hbase:aB=foldA aB aA:=by rw [hfl];rfl
  have hneacked:=hne4
  refine LoopK.intro (α:=Nat×Option (List TRange)) (fun y=>match y.2 with
    |none=>⟨(.junk::.ptr 0 0 0::.d (.bool false)::.d (.sl 2 (aB.map TRange.enc))::.junk::.d (.int .i64 y.1)::jn 240 []),[.box [.d (.int .i64 aF),.d (.int .i64 aK),.d (.int .i64 aL),.d (.int .i64 aI),.d (.sl 1 (aE.map eI)),.d (.sl 2 (aB.map TRange.enc)),.d (.sl 2 (aA.map TRange.enc)),.d (.sl 2 (aC.map TRange.enc)),.d (.int .i64 aJ),.d (.int .i64 aG),.d (.int .i64 aD),.d (.int .i64 aM)]]⟩
    |some ys=>⟨(.junk::.ptr 0 0 0::.d (.bool false)::.sl 1 0 ys.length::.junk::.d (.int .i64 y.1)::jn 240 []),[.box [.d (.int .i64 aF),.d (.int .i64 aK),.d (.int .i64 aL),.d (.int .i64 aI),.d (.sl 1 (aE.map eI)),.d (.sl 2 (aB.map TRange.enc)),.d (.sl 2 (aA.map TRange.enc)),.d (.sl 2 (aC.map TRange.enc)),.d (.int .i64 aJ),.d (.int .i64 aG),.d (.int .i64 aD),.d (.int .i64 aM)],.arr 2 (ys.map TRange.enc) true]⟩)
   (fun y=>aC.length - y.1) (fun y=>y.1≤aC.length∧(y.2=none→y.1=0)∧y.2.getD aB=foldA (foldA aB aA) (aC.take y.1)) (0,none) [0] ⟨by simp,by simp,by simp only [Option.getD_none,List.take_zero];exact hbase⟩ ?_ ?_
  ·simp only [go_sem];simp
  ·rintro ⟨i,oy⟩ ⟨hi,hz,hy⟩
   simp only at hi hz hy
   have hL:=foldA_len (aC.take i) (foldA aB aA)
   have hL0:=foldA_len aA aB
   have hT:(aC.take i).length=i:=by simp;omega
   cases oy with
   |none=>
    have hi0:=hz rfl
    simp only [Option.getD_none] at hy
    by_cases h1:i < aC.length
    ·have h1':decide ((i:Int) < (aC.length:Int))=true:=dT (by omega)
     have hxi:=map_at TRange.enc aC i h1
     have hw:=inc h1 hm4
     have hst:=foldA_take (foldA aB aA) aC i h1
     rw [← hy] at hst
     have hLs:aB.length≤1048576:=by rw [hy];omega
     try simp only [go_sem,lM,tN,hxi,TRange.enc,h1']
     repeat' (first|((first|refine CallS.intro (by first|apply spec_IsRing|(apply spec_AddRange<;>first|assumption|omega)) ?_|refine CallK.intro (by first|apply spec_IsRanges|apply spec_l1In|apply spec_l4Quic) ?_|refine gSymS ?_)<;>simp only [go_sem,lM])|(with_reducible refine sideI ?_)|fail)
     refine RoundE.intro (i + 1,some (addR aB aC[i])) [0,1] ⟨by omega,by simp,by simp [hst]⟩ (show aC.length - (i + 1) < aC.length - i by omega) ?_
     simp only [go_sem,hw]
     simp
    ·exfalso;exact absurd (List.length_pos_iff.2 hneacked) (by omega)
   |some ys=>
    skip
    simp only [Option.getD_some] at hy
    by_cases h1:i < aC.length
    ·have h1':decide ((i:Int) < (aC.length:Int))=true:=dT (by omega)
     have hxi:=map_at TRange.enc aC i h1
     have hw:=inc h1 hm4
     have hst:=foldA_take (foldA aB aA) aC i h1
     rw [← hy] at hst
     have hLs:ys.length≤1048576:=by rw [hy];omega
     try simp only [go_sem,lM,tN,hxi,TRange.enc,h1']
     repeat' (first|((first|refine CallS.intro (by (apply spec_AddRange<;>first|assumption|omega)) ?_|refine gSymS ?_)<;>simp only [go_sem,lM])|(with_reducible refine sideI ?_)|fail)
     refine RoundE.intro (i + 1,some (addR ys aC[i])) [0,2] ⟨by omega,by simp,by simp [hst]⟩ (show aC.length - (i + 1) < aC.length - i by omega) ?_
     simp only [go_sem,hw]
     simp
    ·have h1':decide ((i:Int) < (aC.length:Int))=false:=dF (by omega)
     obtain rfl:i=aC.length:=by omega
     rw [tL] at hy
     have hXe:=hy
     have hA:allR (⟨aF,⟨aK,aL,aI,aE⟩,aB,aA,aC,aJ,aG,aD,aM⟩:TSender)=ys:=hy.symm
     simp only [go_sem,lM,h1']
     exact hK _ (isSender_mid2 aF aK aL aI aE aB aA aC aJ aG aD aM hc hm3 hm4 hH hR' ys hA (by rw [hXe];have:=foldA_len aC (foldA aB aA);have:=foldA_len aA aB;omega) (foldA_ne hpA hfA haA (.inr hneacked) hXe))
set_option maxHeartbeats 8000000 in
theorem isSender_5b (aF aK aL aI:Int) (aE:List Int) (aB aA aC:List TRange) (aJ aG aD aM:Int) (hc:aB.length + aA.length + aC.length≤524288) (hm3:aA.length≤maxLen) (hm4:aC.length≤maxLen) (hH:sndHead (⟨aF,⟨aK,aL,aI,aE⟩,aB,aA,aC,aJ,aG,aD,aM⟩:TSender)=true) (hR':isRst (⟨aF,⟨aK,aL,aI,aE⟩,aB,aA,aC,aJ,aG,aD,aM⟩:TSender)=false) (hpA:areR aB=true) (hfA:areR aA=true) (haA:areR aC=true) (hfl:aA≠[]) (X:List TRange) (hX:X=foldA aB aA) {u0 u4 u5 u6 u7 u8 u9 u10 u11 u12 u13 u14 u15 u16 u17 u18 u19 u20 u21 u22 u23 u24 u25 u26 u27 u28 u29 u30 u31 u32 u33 u34 u35 u36 u37 u38 u39 u40 u41 u42 u43 u44 u45 u46 u47 u48 u49 u50 u51 u52 u53 u54 u55 u56 u57 u58 u59 u60 u61 u62 u63 u64 u65 u66 u67 u68 u69 u70 u71 u72 u73 u74 u75 u76 u77 u78 u79 u80 u81 u82 u83 u84 u85 u86 u87 u88 u89 u90 u91 u92 u93 u94 u95 u96 u97 u98 u99 u100 u101 u102 u103 u104 u105 u106 u107 u108 u109 u110 u111 u112 u113 u114 u115 u116 u117 u118 u119 u120 u121 u122 u123 u124 u125 u126 u127 u128 u129 u130 u131 u132 u133 u134 u135 u136 u137 u138 u139 u140 u141 u142 u143 u144 u145 u146 u147 u148 u149 u150 u151 u152 u153 u154 u155 u156 u157 u158 u159 u160 u161 u162 u163 u164 u165 u166 u167 u168 u169 u170 u171 u172 u173 u174 u175 u176 u177 u178 u179 u180 u181 u182 u183 u184 u185 u186 u187 u188 u189 u190 u191 u192 u193 u194 u195 u196 u197 u198 u199 u200 u201 u202 u203 u204 u205 u206 u207 u208 u209 u210 u211 u212 u213 u214 u215 u216 u217 u218 u219 u220 u221 u222 u223 u224 u225 u226 u227 u228 u229 u230 u231 u232 u233 u234 u235 u236 u237 u238 u239 u240 u241 u242 u243 u244 u245:V} :
  codeE Tryz.prog [] (restC 5 (bodyOf Tryz.f95)) ⟨[u0,.ptr 0 0 0,.d (.bool false),.sl 1 0 X.length,u4,u5,u6,u7,u8,u9,u10,u11,u12,u13,u14,u15,u16,u17,u18,u19,u20,u21,u22,u23,u24,u25,u26,u27,u28,u29,u30,u31,u32,u33,u34,u35,u36,u37,u38,u39,u40,u41,u42,u43,u44,u45,u46,u47,u48,u49,u50,u51,u52,u53,u54,u55,u56,u57,u58,u59,u60,u61,u62,u63,u64,u65,u66,u67,u68,u69,u70,u71,u72,u73,u74,u75,u76,u77,u78,u79,u80,u81,u82,u83,u84,u85,u86,u87,u88,u89,u90,u91,u92,u93,u94,u95,u96,u97,u98,u99,u100,u101,u102,u103,u104,u105,u106,u107,u108,u109,u110,u111,u112,u113,u114,u115,u116,u117,u118,u119,u120,u121,u122,u123,u124,u125,u126,u127,u128,u129,u130,u131,u132,u133,u134,u135,u136,u137,u138,u139,u140,u141,u142,u143,u144,u145,u146,u147,u148,u149,u150,u151,u152,u153,u154,u155,u156,u157,u158,u159,u160,u161,u162,u163,u164,u165,u166,u167,u168,u169,u170,u171,u172,u173,u174,u175,u176,u177,u178,u179,u180,u181,u182,u183,u184,u185,u186,u187,u188,u189,u190,u191,u192,u193,u194,u195,u196,u197,u198,u199,u200,u201,u202,u203,u204,u205,u206,u207,u208,u209,u210,u211,u212,u213,u214,u215,u216,u217,u218,u219,u220,u221,u222,u223,u224,u225,u226,u227,u228,u229,u230,u231,u232,u233,u234,u235,u236,u237,u238,u239,u240,u241,u242,u243,u244,u245],[.box [.d (.int .i64 aF),.d (.int .i64 aK),.d (.int .i64 aL),.d (.int .i64 aI),.d (.sl 1 (aE.map eI)),.d (.sl 2 (aB.map TRange.enc)),.d (.sl 2 (aA.map TRange.enc)),.d (.sl 2 (aC.map TRange.enc)),.d (.int .i64 aJ),.d (.int .i64 aG),.d (.int .i64 aD),.d (.int .i64 aM)],.arr 2 (X.map TRange.enc) true]⟩ (hide (retE Tryz.prog [.tmp 2] [.one (.bool (isSndS (⟨aF,⟨aK,aL,aI,aE⟩,aB,aA,aC,aJ,aG,aD,aM⟩:TSender)))]) .mk) [] (hide (retE Tryz.prog [.tmp 2] [.one (.bool (isSndS (⟨aF,⟨aK,aL,aI,aE⟩,aB,aA,aC,aJ,aG,aD,aM⟩:TSender)))]) .mk):=by
 conv=>arg 3;whnf
 refine cutK fun K6 hK=>?_
 simp only [go_sem]
 subst hX
 refine LoopK.intro (α:=Nat×Option (List TRange)) (fun y=>match y.2 with
   |none=>⟨(.junk::.ptr 0 0 0::.d (.bool false)::.d (.sl 2 (aB.map TRange.enc))::.junk::.d (.int .i64 y.1)::jn 240 []),[.box [.d (.int .i64 aF),.d (.int .i64 aK),.d (.int .i64 aL),.d (.int .i64 aI),.d (.sl 1 (aE.map eI)),.d (.sl 2 (aB.map TRange.enc)),.d (.sl 2 (aA.map TRange.enc)),.d (.sl 2 (aC.map TRange.enc)),.d (.int .i64 aJ),.d (.int .i64 aG),.d (.int .i64 aD),.d (.int .i64 aM)]]⟩
   |some ys=>⟨(.junk::.ptr 0 0 0::.d (.bool false)::.sl 1 0 ys.length::.junk::.d (.int .i64 y.1)::jn 240 []),[.box [.d (.int .i64 aF),.d (.int .i64 aK),.d (.int .i64 aL),.d (.int .i64 aI),.d (.sl 1 (aE.map eI)),.d (.sl 2 (aB.map TRange.enc)),.d (.sl 2 (aA.map TRange.enc)),.d (.sl 2 (aC.map TRange.enc)),.d (.int .i64 aJ),.d (.int .i64 aG),.d (.int .i64 aD),.d (.int .i64 aM)],.arr 2 (ys.map TRange.enc) true]⟩)
  (fun y=>aC.length - y.1) (fun y=>y.1≤aC.length∧(y.2=none→False)∧y.2.getD aB=foldA (foldA aB aA) (aC.take y.1)) (0,some (foldA aB aA)) [0,1] ⟨by simp,by simp,by simp [foldA]⟩ ?_ ?_
 ·simp only [go_sem];simp
 ·rintro ⟨i,oy⟩ ⟨hi,hz,hy⟩
  simp only at hi hz hy
  have hL:=foldA_len (aC.take i) (foldA aB aA)
  have hL0:=foldA_len aA aB
  have hT:(aC.take i).length=i:=by simp;omega
  cases oy with
  |none=>exact (hz rfl).elim
  |some ys=>
   skip
   simp only [Option.getD_some] at hy
   by_cases h1:i < aC.length
   ·have h1':decide ((i:Int) < (aC.length:Int))=true:=dT (by omega)
    have hxi:=map_at TRange.enc aC i h1
    have hw:=inc h1 hm4
    have hst:=foldA_take (foldA aB aA) aC i h1
    rw [← hy] at hst
    have hLs:ys.length≤1048576:=by rw [hy];omega
    try simp only [go_sem,lM,tN,hxi,TRange.enc,h1']
    repeat' (first|((first|refine CallS.intro (by first|apply spec_IsRing|(apply spec_AddRange<;>first|assumption|omega)) ?_|refine CallK.intro (by first|apply spec_IsRanges|apply spec_l1In|apply spec_l4Quic) ?_|refine gSymS ?_)<;>simp only [go_sem,lM])|(with_reducible refine sideI ?_)|fail)
    refine RoundE.intro (i + 1,some (addR ys aC[i])) [0,2] ⟨by omega,by simp,by simp [hst]⟩ (show aC.length - (i + 1) < aC.length - i by omega) ?_
    simp only [go_sem,hw]
    simp
   ·have h1':decide ((i:Int) < (aC.length:Int))=false:=dF (by omega)
    obtain rfl:i=aC.length:=by omega
    rw [tL] at hy
    have hXe:=hy
    have hA:allR (⟨aF,⟨aK,aL,aI,aE⟩,aB,aA,aC,aJ,aG,aD,aM⟩:TSender)=ys:=hy.symm
    simp only [go_sem,lM,h1']
    exact hK _ (isSender_mid2 aF aK aL aI aE aB aA aC aJ aG aD aM hc hm3 hm4 hH hR' ys hA (by rw [hXe];have:=foldA_len aC (foldA aB aA);have:=foldA_len aA aB;omega) (foldA_ne hpA hfA haA (.inl hfl) hXe))
set_option maxHeartbeats 8000000 in
theorem isSender_4 (aF aK aL aI:Int) (aE:List Int) (aB aA aC:List TRange) (aJ aG aD aM:Int) (hc:aB.length + aA.length + aC.length≤524288) (hm3:aA.length≤maxLen) (hm4:aC.length≤maxLen) (hH:sndHead (⟨aF,⟨aK,aL,aI,aE⟩,aB,aA,aC,aJ,aG,aD,aM⟩:TSender)=true) (hR':isRst (⟨aF,⟨aK,aL,aI,aE⟩,aB,aA,aC,aJ,aG,aD,aM⟩:TSender)=false) (hpA:areR aB=true) (hfA:areR aA=true) (haA:areR aC=true) {u0 u4 u5 u6 u7 u8 u9 u10 u11 u12 u13 u14 u15 u16 u17 u18 u19 u20 u21 u22 u23 u24 u25 u26 u27 u28 u29 u30 u31 u32 u33 u34 u35 u36 u37 u38 u39 u40 u41 u42 u43 u44 u45 u46 u47 u48 u49 u50 u51 u52 u53 u54 u55 u56 u57 u58 u59 u60 u61 u62 u63 u64 u65 u66 u67 u68 u69 u70 u71 u72 u73 u74 u75 u76 u77 u78 u79 u80 u81 u82 u83 u84 u85 u86 u87 u88 u89 u90 u91 u92 u93 u94 u95 u96 u97 u98 u99 u100 u101 u102 u103 u104 u105 u106 u107 u108 u109 u110 u111 u112 u113 u114 u115 u116 u117 u118 u119 u120 u121 u122 u123 u124 u125 u126 u127 u128 u129 u130 u131 u132 u133 u134 u135 u136 u137 u138 u139 u140 u141 u142 u143 u144 u145 u146 u147 u148 u149 u150 u151 u152 u153 u154 u155 u156 u157 u158 u159 u160 u161 u162 u163 u164 u165 u166 u167 u168 u169 u170 u171 u172 u173 u174 u175 u176 u177 u178 u179 u180 u181 u182 u183 u184 u185 u186 u187 u188 u189 u190 u191 u192 u193 u194 u195 u196 u197 u198 u199 u200 u201 u202 u203 u204 u205 u206 u207 u208 u209 u210 u211 u212 u213 u214 u215 u216 u217 u218 u219 u220 u221 u222 u223 u224 u225 u226 u227 u228 u229 u230 u231 u232 u233 u234 u235 u236 u237 u238 u239 u240 u241 u242 u243 u244 u245:V} :
  codeE Tryz.prog [] (restC 4 (bodyOf Tryz.f95)) ⟨[u0,.ptr 0 0 0,.d (.bool false),.d (.sl 2 (aB.map TRange.enc)),u4,u5,u6,u7,u8,u9,u10,u11,u12,u13,u14,u15,u16,u17,u18,u19,u20,u21,u22,u23,u24,u25,u26,u27,u28,u29,u30,u31,u32,u33,u34,u35,u36,u37,u38,u39,u40,u41,u42,u43,u44,u45,u46,u47,u48,u49,u50,u51,u52,u53,u54,u55,u56,u57,u58,u59,u60,u61,u62,u63,u64,u65,u66,u67,u68,u69,u70,u71,u72,u73,u74,u75,u76,u77,u78,u79,u80,u81,u82,u83,u84,u85,u86,u87,u88,u89,u90,u91,u92,u93,u94,u95,u96,u97,u98,u99,u100,u101,u102,u103,u104,u105,u106,u107,u108,u109,u110,u111,u112,u113,u114,u115,u116,u117,u118,u119,u120,u121,u122,u123,u124,u125,u126,u127,u128,u129,u130,u131,u132,u133,u134,u135,u136,u137,u138,u139,u140,u141,u142,u143,u144,u145,u146,u147,u148,u149,u150,u151,u152,u153,u154,u155,u156,u157,u158,u159,u160,u161,u162,u163,u164,u165,u166,u167,u168,u169,u170,u171,u172,u173,u174,u175,u176,u177,u178,u179,u180,u181,u182,u183,u184,u185,u186,u187,u188,u189,u190,u191,u192,u193,u194,u195,u196,u197,u198,u199,u200,u201,u202,u203,u204,u205,u206,u207,u208,u209,u210,u211,u212,u213,u214,u215,u216,u217,u218,u219,u220,u221,u222,u223,u224,u225,u226,u227,u228,u229,u230,u231,u232,u233,u234,u235,u236,u237,u238,u239,u240,u241,u242,u243,u244,u245],[.box [.d (.int .i64 aF),.d (.int .i64 aK),.d (.int .i64 aL),.d (.int .i64 aI),.d (.sl 1 (aE.map eI)),.d (.sl 2 (aB.map TRange.enc)),.d (.sl 2 (aA.map TRange.enc)),.d (.sl 2 (aC.map TRange.enc)),.d (.int .i64 aJ),.d (.int .i64 aG),.d (.int .i64 aD),.d (.int .i64 aM)]]⟩ (hide (retE Tryz.prog [.tmp 2] [.one (.bool (isSndS (⟨aF,⟨aK,aL,aI,aE⟩,aB,aA,aC,aJ,aG,aD,aM⟩:TSender)))]) .mk) [] (hide (retE Tryz.prog [.tmp 2] [.one (.bool (isSndS (⟨aF,⟨aK,aL,aI,aE⟩,aB,aA,aC,aJ,aG,aD,aM⟩:TSender)))]) .mk):=by
 conv=>arg 3;whnf
 refine cutK fun K6 hK=>?_
 simp only [go_sem]
 by_cases hne3:aA=[]
 ·skip
  refine LoopK.intro (fun i:Nat=>⟨(.junk::.ptr 0 0 0::.d (.bool false)::.d (.sl 2 (aB.map TRange.enc))::.d (.int .i64 i)::jn 241 []),[.box [.d (.int .i64 aF),.d (.int .i64 aK),.d (.int .i64 aL),.d (.int .i64 aI),.d (.sl 1 (aE.map eI)),.d (.sl 2 (aB.map TRange.enc)),.d (.sl 2 (aA.map TRange.enc)),.d (.sl 2 (aC.map TRange.enc)),.d (.int .i64 aJ),.d (.int .i64 aG),.d (.int .i64 aD),.d (.int .i64 aM)]]⟩)
   (fun _=>0) (fun i=>i=0) 0 [0] rfl ?_ ?_
  ·simp only [go_sem];simp
  ·rintro _ rfl
   have h1':decide (((0:Nat):Int) < (aA.length:Int))=false:=dF (by rw [hne3];simp)
   simp only [go_sem,lM,h1']
   exact hK _ (isSender_5a aF aK aL aI aE aB aA aC aJ aG aD aM hc hm3 hm4 hH hR' hpA hfA haA hne3)
 ·skip
  have hneflight:=hne3
  have hbase:aB=foldA aB []:=rfl
  refine LoopK.intro (α:=Nat×Option (List TRange)) (fun y=>match y.2 with
    |none=>⟨(.junk::.ptr 0 0 0::.d (.bool false)::.d (.sl 2 (aB.map TRange.enc))::.d (.int .i64 y.1)::jn 241 []),[.box [.d (.int .i64 aF),.d (.int .i64 aK),.d (.int .i64 aL),.d (.int .i64 aI),.d (.sl 1 (aE.map eI)),.d (.sl 2 (aB.map TRange.enc)),.d (.sl 2 (aA.map TRange.enc)),.d (.sl 2 (aC.map TRange.enc)),.d (.int .i64 aJ),.d (.int .i64 aG),.d (.int .i64 aD),.d (.int .i64 aM)]]⟩
    |some ys=>⟨(.junk::.ptr 0 0 0::.d (.bool false)::.sl 1 0 ys.length::.d (.int .i64 y.1)::jn 241 []),[.box [.d (.int .i64 aF),.d (.int .i64 aK),.d (.int .i64 aL),.d (.int .i64 aI),.d (.sl 1 (aE.map eI)),.d (.sl 2 (aB.map TRange.enc)),.d (.sl 2 (aA.map TRange.enc)),.d (.sl 2 (aC.map TRange.enc)),.d (.int .i64 aJ),.d (.int .i64 aG),.d (.int .i64 aD),.d (.int .i64 aM)],.arr 2 (ys.map TRange.enc) true]⟩)
   (fun y=>aA.length - y.1) (fun y=>y.1≤aA.length∧(y.2=none→y.1=0)∧y.2.getD aB=foldA aB (aA.take y.1)) (0,none) [0] ⟨by simp,by simp,by simp only [Option.getD_none,List.take_zero];exact hbase⟩ ?_ ?_
  ·simp only [go_sem];simp
  ·rintro ⟨i,oy⟩ ⟨hi,hz,hy⟩
   simp only at hi hz hy
   have hL:=foldA_len (aA.take i) aB
   have hL0:=foldA_len aA aB
   have hT:(aA.take i).length=i:=by simp;omega
   cases oy with
   |none=>
    have hi0:=hz rfl
    simp only [Option.getD_none] at hy
    by_cases h1:i < aA.length
    ·have h1':decide ((i:Int) < (aA.length:Int))=true:=dT (by omega)
     have hxi:=map_at TRange.enc aA i h1
     have hw:=inc h1 hm3
     have hst:=foldA_take aB aA i h1
     rw [← hy] at hst
     have hLs:aB.length≤1048576:=by rw [hy];omega
     try simp only [go_sem,lM,tN,hxi,TRange.enc,h1']
     repeat' (first|((first|refine CallS.intro (by first|apply spec_IsRing|(apply spec_AddRange<;>first|assumption|omega)) ?_|refine CallK.intro (by first|apply spec_IsRanges|apply spec_l1In|apply spec_l4Quic) ?_|refine gSymS ?_)<;>simp only [go_sem,lM])|(with_reducible refine sideI ?_)|fail)
     refine RoundE.intro (i + 1,some (addR aB aA[i])) [0,1] ⟨by omega,by simp,by simp [hst]⟩ (show aA.length - (i + 1) < aA.length - i by omega) ?_
     simp only [go_sem,hw]
     simp
    ·exfalso;exact absurd (List.length_pos_iff.2 hneflight) (by omega)
   |some ys=>
    skip
    simp only [Option.getD_some] at hy
    by_cases h1:i < aA.length
    ·have h1':decide ((i:Int) < (aA.length:Int))=true:=dT (by omega)
     have hxi:=map_at TRange.enc aA i h1
     have hw:=inc h1 hm3
     have hst:=foldA_take aB aA i h1
     rw [← hy] at hst
     have hLs:ys.length≤1048576:=by rw [hy];omega
     try simp only [go_sem,lM,tN,hxi,TRange.enc,h1']
     repeat' (first|((first|refine CallS.intro (by (apply spec_AddRange<;>first|assumption|omega)) ?_|refine gSymS ?_)<;>simp only [go_sem,lM])|(with_reducible refine sideI ?_)|fail)
     refine RoundE.intro (i + 1,some (addR ys aA[i])) [0,2] ⟨by omega,by simp,by simp [hst]⟩ (show aA.length - (i + 1) < aA.length - i by omega) ?_
     simp only [go_sem,hw]
     simp
    ·have h1':decide ((i:Int) < (aA.length:Int))=false:=dF (by omega)
     obtain rfl:i=aA.length:=by omega
     rw [tL] at hy
     simp only [go_sem,lM,h1']
     exact hK _ (isSender_5b aF aK aL aI aE aB aA aC aJ aG aD aM hc hm3 hm4 hH hR' hpA hfA haA hneflight ys hy)
set_option maxHeartbeats 8000000 in
theorem isSender_3 (aF aK aL aI:Int) (aE:List Int) (aB aA aC:List TRange) (aJ aG aD aM:Int) (hc:aB.length + aA.length + aC.length≤524288) (hm3:aA.length≤maxLen) (hm4:aC.length≤maxLen) (hH:sndHead (⟨aF,⟨aK,aL,aI,aE⟩,aB,aA,aC,aJ,aG,aD,aM⟩:TSender)=true) (hR':isRst (⟨aF,⟨aK,aL,aI,aE⟩,aB,aA,aC,aJ,aG,aD,aM⟩:TSender)=false) (hpA:areR aB=true) (hfA:areR aA=true) (haA:areR aC=true) {u0 u3 u4 u5 u6 u7 u8 u9 u10 u11 u12 u13 u14 u15 u16 u17 u18 u19 u20 u21 u22 u23 u24 u25 u26 u27 u28 u29 u30 u31 u32 u33 u34 u35 u36 u37 u38 u39 u40 u41 u42 u43 u44 u45 u46 u47 u48 u49 u50 u51 u52 u53 u54 u55 u56 u57 u58 u59 u60 u61 u62 u63 u64 u65 u66 u67 u68 u69 u70 u71 u72 u73 u74 u75 u76 u77 u78 u79 u80 u81 u82 u83 u84 u85 u86 u87 u88 u89 u90 u91 u92 u93 u94 u95 u96 u97 u98 u99 u100 u101 u102 u103 u104 u105 u106 u107 u108 u109 u110 u111 u112 u113 u114 u115 u116 u117 u118 u119 u120 u121 u122 u123 u124 u125 u126 u127 u128 u129 u130 u131 u132 u133 u134 u135 u136 u137 u138 u139 u140 u141 u142 u143 u144 u145 u146 u147 u148 u149 u150 u151 u152 u153 u154 u155 u156 u157 u158 u159 u160 u161 u162 u163 u164 u165 u166 u167 u168 u169 u170 u171 u172 u173 u174 u175 u176 u177 u178 u179 u180 u181 u182 u183 u184 u185 u186 u187 u188 u189 u190 u191 u192 u193 u194 u195 u196 u197 u198 u199 u200 u201 u202 u203 u204 u205 u206 u207 u208 u209 u210 u211 u212 u213 u214 u215 u216 u217 u218 u219 u220 u221 u222 u223 u224 u225 u226 u227 u228 u229 u230 u231 u232 u233 u234 u235 u236 u237 u238 u239 u240 u241 u242 u243 u244 u245:V} :
  codeE Tryz.prog [] (restC 3 (bodyOf Tryz.f95)) ⟨[u0,.ptr 0 0 0,.d (.bool false),u3,u4,u5,u6,u7,u8,u9,u10,u11,u12,u13,u14,u15,u16,u17,u18,u19,u20,u21,u22,u23,u24,u25,u26,u27,u28,u29,u30,u31,u32,u33,u34,u35,u36,u37,u38,u39,u40,u41,u42,u43,u44,u45,u46,u47,u48,u49,u50,u51,u52,u53,u54,u55,u56,u57,u58,u59,u60,u61,u62,u63,u64,u65,u66,u67,u68,u69,u70,u71,u72,u73,u74,u75,u76,u77,u78,u79,u80,u81,u82,u83,u84,u85,u86,u87,u88,u89,u90,u91,u92,u93,u94,u95,u96,u97,u98,u99,u100,u101,u102,u103,u104,u105,u106,u107,u108,u109,u110,u111,u112,u113,u114,u115,u116,u117,u118,u119,u120,u121,u122,u123,u124,u125,u126,u127,u128,u129,u130,u131,u132,u133,u134,u135,u136,u137,u138,u139,u140,u141,u142,u143,u144,u145,u146,u147,u148,u149,u150,u151,u152,u153,u154,u155,u156,u157,u158,u159,u160,u161,u162,u163,u164,u165,u166,u167,u168,u169,u170,u171,u172,u173,u174,u175,u176,u177,u178,u179,u180,u181,u182,u183,u184,u185,u186,u187,u188,u189,u190,u191,u192,u193,u194,u195,u196,u197,u198,u199,u200,u201,u202,u203,u204,u205,u206,u207,u208,u209,u210,u211,u212,u213,u214,u215,u216,u217,u218,u219,u220,u221,u222,u223,u224,u225,u226,u227,u228,u229,u230,u231,u232,u233,u234,u235,u236,u237,u238,u239,u240,u241,u242,u243,u244,u245],[.box [.d (.int .i64 aF),.d (.int .i64 aK),.d (.int .i64 aL),.d (.int .i64 aI),.d (.sl 1 (aE.map eI)),.d (.sl 2 (aB.map TRange.enc)),.d (.sl 2 (aA.map TRange.enc)),.d (.sl 2 (aC.map TRange.enc)),.d (.int .i64 aJ),.d (.int .i64 aG),.d (.int .i64 aD),.d (.int .i64 aM)]]⟩ (hide (retE Tryz.prog [.tmp 2] [.one (.bool (isSndS (⟨aF,⟨aK,aL,aI,aE⟩,aB,aA,aC,aJ,aG,aD,aM⟩:TSender)))]) .mk) [] (hide (retE Tryz.prog [.tmp 2] [.one (.bool (isSndS (⟨aF,⟨aK,aL,aI,aE⟩,aB,aA,aC,aJ,aG,aD,aM⟩:TSender)))]) .mk):=by
 conv=>arg 3;whnf
 refine cutK fun K6 hK=>?_
 simp only [go_sem]
 exact hK _ (isSender_4 aF aK aL aI aE aB aA aC aJ aG aD aM hc hm3 hm4 hH hR' hpA hfA haA)
set_option maxHeartbeats 8000000 in
theorem spec_IsSender (aF aK aL aI:Int) (aE:List Int) (aB aA aC:List TRange) (aJ aG aD aM:Int) (hc:aB.length + aA.length + aC.length≤524288):PureCall Tryz.prog 95 [.agg [.int .i64 aF,.int .i64 aK,.int .i64 aL,.int .i64 aI,.sl 1 (aE.map eI),.sl 2 (aB.map TRange.enc),.sl 2 (aA.map TRange.enc),.sl 2 (aC.map TRange.enc),.int .i64 aJ,.int .i64 aG,.int .i64 aD,.int .i64 aM]] [.one (.bool (isSndS (⟨aF,⟨aK,aL,aI,aE⟩,aB,aA,aC,aJ,aG,aD,aM⟩:TSender)))]:=by
 refine pureT 246 Tryz.func95 Tryz.call95 [.tmp 2] ?_
 intro ok
 have hm3:aA.length≤maxLen:=by simp only [maxLen];omega
 have hm4:aC.length≤maxLen:=by simp only [maxLen];omega
 refine cutK fun K1 hK1=>?_
 simp only [go_sem]
 refine hK1 _ (cutK fun K2 hK2=>?_)
 try simp only [go_sem]
 repeat' (first|((first|refine CallS.intro (by first|apply spec_IsRing|(apply spec_AddRange<;>first|assumption|omega)) ?_|refine CallK.intro (by first|apply spec_IsRanges|apply spec_l1In|apply spec_l4Quic) ?_|refine gSymS ?_)<;>simp only [go_sem])|(with_reducible refine sideI ?_)|fail)
 refine cSplit (fun h0=>?_) (fun h0=>?_)
 ·simp only [go_sem]
  have:sndHead (⟨aF,⟨aK,aL,aI,aE⟩,aB,aA,aC,aJ,aG,aD,aM⟩:TSender)=false:=by
   rw [Bool.eq_false_iff];intro g;simp [sndHead] at h0 g;simp_all
  simp [isSndS,this]
 ·have hH:sndHead (⟨aF,⟨aK,aL,aI,aE⟩,aB,aA,aC,aJ,aG,aD,aM⟩:TSender)=true:=by
   simp [sndHead] at h0 ⊢;simp_all
  have hHH:(isRing (⟨aF,⟨aK,aL,aI,aE⟩,aB,aA,aC,aJ,aG,aD,aM⟩:TSender).ring=true∧areR aB=true∧areR aA=true∧areR aC=true):=by
   simp only [sndHead,Bool.and_eq_true,and_assoc] at hH;exact ⟨hH.1,hH.2.1,hH.2.2.1,hH.2.2.2.1⟩
  obtain ⟨hRg,hpA,hfA,haA⟩:=hHH
  simp only [go_sem]
  refine hK2 _ (cutK fun K3 hK3=>?_)
  try simp only [go_sem]
  repeat' (first|((first|refine CallS.intro (by (apply spec_AddRange<;>first|assumption|omega)) ?_|refine gSymS ?_)<;>simp only [go_sem])|(with_reducible refine sideI ?_)|fail)
  refine cSplit (fun hR=>?_) (fun hR=>?_)
  ·have hR':isRst (⟨aF,⟨aK,aL,aI,aE⟩,aB,aA,aC,aJ,aG,aD,aM⟩:TSender)=true:=by simpa [isRst,bif_or] using hR
   simp only [go_sem]
   try simp only [go_sem,lM]
   repeat' (refine gSymS ?_<;>simp only [go_sem,lM])
   all_goals (refine one_bool ?_;simp [isSndS,hH,hR',rstOk])
  ·have hR':isRst (⟨aF,⟨aK,aL,aI,aE⟩,aB,aA,aC,aJ,aG,aD,aM⟩:TSender)=false:=by simpa [isRst,bif_or] using hR
   simp only [go_sem]
   exact hK3 _ (isSender_3 aF aK aL aI aE aB aA aC aJ aG aD aM hc hm3 hm4 hH hR' hpA hfA haA)
set_option maxRecDepth 100000
def mxSndOps0:List (List Rl):=mxD 14 [4162967,4162965,4162959,4163062,4163008,4163926,4163440,4250434,4246060,4232938,4193572,4074381,4517248,3188646]
attribute [go_sem] mxSndOps0
def zSnd:TSender:=⟨0,⟨0,0,0,[]⟩,[],[],[],0,0,0,0⟩
def newSnd (n:Int):TSender:=if isRS n then ⟨0,newRing n,[],[],[],-1,0,0,0⟩ else zSnd
set_option maxHeartbeats 1000000 in
theorem spec_NewSender (n:Int):PureCall Tryz.prog 184 [.one (.int .i64 n)] [.agg (TSender.enc (newSnd n)),.one (.bool (isRS n))]:=by
 refine pureT 16 Tryz.func184 Tryz.call184 [.cell 2 46,.tmp 3] ?_
 intro _
 cases hI:isRS n with
 |false=>
  try simp only [go_sem]
  repeat' (refine CallS.intro (by apply spec_NewRing) ?_<;>simp only [go_sem,hI])
  all_goals simp [newSnd,zSnd,hI]
 |true=>
  have hn:=isRS_iff hI
  try simp only [go_sem]
  repeat' (first|(refine CallS.intro (by apply spec_NewRing) ?_<;>simp only [go_sem,hI])|(with_reducible refine sideI ?_)|fail)
  all_goals simp [newSnd,newRing,hI,eI]
def canW (s:TSender):Bool:=isSndS s && decide (s.state≤1) && decide (s.final=-1)
def wrSnd (s:TSender) (d:List UInt8):TSender:=
 if canW s then { s with ring:=writeR s.ring d,pending:=if 0 < wrN s.ring d then addR s.pending ⟨s.ring.end',(writeR s.ring d).end'⟩ else s.pending } else s
def wrSndN (s:TSender) (d:List UInt8):Int:=if canW s then (wrN s.ring d:Int) else 0
set_option maxHeartbeats 4000000 in
theorem spec_WriteSender (aF aK aL aI:Int) (aE:List Int) (aB aA aC:List TRange) (aJ aG aD aM:Int) (d:List UInt8) (hc:aB.length + aA.length + aC.length≤524288) (hr:aE.length≤8388608) (hd:d.length≤1048576):PureCall Tryz.prog 157 [.agg [.int .i64 aF,.int .i64 aK,.int .i64 aL,.int .i64 aI,.sl 1 (aE.map eI),.sl 2 (aB.map TRange.enc),.sl 2 (aA.map TRange.enc),.sl 2 (aC.map TRange.enc),.int .i64 aJ,.int .i64 aG,.int .i64 aD,.int .i64 aM],.one (.str d)] [.agg (TSender.enc (wrSnd (⟨aF,⟨aK,aL,aI,aE⟩,aB,aA,aC,aJ,aG,aD,aM⟩:TSender) d)),.one (.int .i64 (wrSndN (⟨aF,⟨aK,aL,aI,aE⟩,aB,aA,aC,aJ,aG,aD,aM⟩:TSender) d))]:=by
 refine pureT 48 Tryz.func157 Tryz.call157 [.cell 4 46,.tmp 5] ?_
 intro _
 cases hW:canW (⟨aF,⟨aK,aL,aI,aE⟩,aB,aA,aC,aJ,aG,aD,aM⟩:TSender) with
 |false=>
  try simp only [go_sem]
  repeat' ((first|refine CallS.intro (by first|(apply spec_l9Copy<;>first|assumption|omega)|(apply spec_IsSender<;>first|assumption|omega)) ?_|refine gSymS ?_)<;>simp only [go_sem,lM])
  refine cSplit (fun h0=>?_) (fun h0=>?_)
  ·simp only [go_sem,lM]
   simp [wrSnd,wrSndN,hW]
  ·exfalso
   simp [canW] at hW h0
   grind
 |true=>
  have hw:=hW
  simp only [canW,Bool.and_eq_true,decide_eq_true_eq,and_assoc] at hw
  have e1:decide (1 < aF)=false:=dF (by omega)
  have e2:decide (aJ≠-1)=false:=dF (by omega)
  try simp only [go_sem]
  repeat' (first|((first|refine CallS.intro (by first|(apply spec_l9Copy<;>first|assumption|omega)|(apply spec_IsSender<;>first|assumption|omega)|(apply spec_WriteRing<;>first|assumption|omega)|(apply spec_AddRange<;>first|assumption|omega)) ?_|with_reducible refine gTrueS ?_|refine cSplit (fun h=>?_) (fun h=>?_))<;>simp only [go_sem,lM,hw.1,e1,e2])|(with_reducible refine sideI ?_)|fail)
  ·have h':0 < wrN (⟨aF,⟨aK,aL,aI,aE⟩,aB,aA,aC,aJ,aG,aD,aM⟩:TSender).ring d:=by have:=oT h;simp only;omega
   simp only [wrSnd,wrSndN,hW,if_true,if_pos h']
   try simp [outOA,take_map_self]
  ·have h':¬ 0 < wrN (⟨aF,⟨aK,aL,aI,aE⟩,aB,aA,aC,aJ,aG,aD,aM⟩:TSender).ring d:=by have:=oF h;simp only;omega
   simp only [wrSnd,wrSndN,hW,if_true,if_neg h']
   try simp [outOA,take_map_self]
def closeSnd (s:TSender):TSender:=if canW s then { s with final:=s.ring.end',fin:=1 } else s
set_option maxHeartbeats 4000000 in
theorem spec_CloseSender (aF aK aL aI:Int) (aE:List Int) (aB aA aC:List TRange) (aJ aG aD aM:Int) (hc:aB.length + aA.length + aC.length≤524288) (hr:aE.length≤8388608):PureCall Tryz.prog 158 [.agg [.int .i64 aF,.int .i64 aK,.int .i64 aL,.int .i64 aI,.sl 1 (aE.map eI),.sl 2 (aB.map TRange.enc),.sl 2 (aA.map TRange.enc),.sl 2 (aC.map TRange.enc),.int .i64 aJ,.int .i64 aG,.int .i64 aD,.int .i64 aM]] [.agg (TSender.enc (closeSnd (⟨aF,⟨aK,aL,aI,aE⟩,aB,aA,aC,aJ,aG,aD,aM⟩:TSender))),.one (.bool (canW (⟨aF,⟨aK,aL,aI,aE⟩,aB,aA,aC,aJ,aG,aD,aM⟩:TSender)))]:=by
 refine pureT 27 Tryz.func158 Tryz.call158 [.cell 2 46,.tmp 3] ?_
 intro _
 cases hW:canW (⟨aF,⟨aK,aL,aI,aE⟩,aB,aA,aC,aJ,aG,aD,aM⟩:TSender) with
 |false=>
  try simp only [go_sem]
  repeat' ((first|refine CallS.intro (by first|(apply spec_l9Copy<;>first|assumption|omega)|(apply spec_IsSender<;>first|assumption|omega)) ?_|refine gSymS ?_)<;>simp only [go_sem,lM])
  refine cSplit (fun h0=>?_) (fun h0=>?_)
  ·simp only [go_sem,lM]
   simp [closeSnd,hW]
  ·exfalso
   simp [canW] at hW h0
   grind
 |true=>
  have hw:=hW
  simp only [canW,Bool.and_eq_true,decide_eq_true_eq,and_assoc] at hw
  have e1:decide (1 < aF)=false:=dF (by omega)
  have e2:decide (aJ≠-1)=false:=dF (by omega)
  try simp only [go_sem]
  repeat' (first|((first|refine CallS.intro (by first|(apply spec_l9Copy<;>first|assumption|omega)|(apply spec_IsSender<;>first|assumption|omega)) ?_|with_reducible refine gTrueS ?_)<;>simp only [go_sem,lM,hw.1,e1,e2])|(with_reducible refine sideI ?_)|fail)
  all_goals simp [closeSnd,hW]
def canR (s:TSender) (c:Int):Bool:=isSndS s && decide (s.state≤2) && isQ c
def resetSnd (s:TSender) (c:Int):TSender:=if canR s c then ⟨4,⟨s.ring.size,s.sent,s.sent,List.replicate s.ring.size.toNat 0⟩,[],[],[],s.sent,0,s.sent,c⟩ else s
theorem isSnd_ring {s:TSender} (h:isSndS s=true):isRing s.ring=true:=by
 simp only [isSndS,sndHead,Bool.and_eq_true,and_assoc] at h;exact h.1
set_option maxHeartbeats 4000000 in
theorem spec_ResetSender (aF aK aL aI:Int) (aE:List Int) (aB aA aC:List TRange) (aJ aG aD aM c:Int) (hc:aB.length + aA.length + aC.length≤524288) (hr:aE.length≤8388608):PureCall Tryz.prog 162 [.agg [.int .i64 aF,.int .i64 aK,.int .i64 aL,.int .i64 aI,.sl 1 (aE.map eI),.sl 2 (aB.map TRange.enc),.sl 2 (aA.map TRange.enc),.sl 2 (aC.map TRange.enc),.int .i64 aJ,.int .i64 aG,.int .i64 aD,.int .i64 aM],.one (.int .i64 c)] [.agg (TSender.enc (resetSnd (⟨aF,⟨aK,aL,aI,aE⟩,aB,aA,aC,aJ,aG,aD,aM⟩:TSender) c)),.one (.bool (canR (⟨aF,⟨aK,aL,aI,aE⟩,aB,aA,aC,aJ,aG,aD,aM⟩:TSender) c))]:=by
 refine pureT 41 Tryz.func162 Tryz.call162 [.cell 4 46,.tmp 5] ?_
 intro _
 cases hW:canR (⟨aF,⟨aK,aL,aI,aE⟩,aB,aA,aC,aJ,aG,aD,aM⟩:TSender) c with
 |false=>
  try simp only [go_sem]
  repeat' ((first|refine CallS.intro (by (apply spec_IsSender<;>first|assumption|omega)) ?_|refine CallK.intro (by apply spec_l4Quic) ?_|refine gSymS ?_)<;>simp only [go_sem])
  refine cSplit (fun h0=>?_) (fun h0=>?_)
  ·simp only [go_sem]
   try simp only [go_sem,lM]
   repeat' (first|(refine CallS.intro (by (apply spec_l9Copy<;>first|assumption|omega)) ?_<;>simp only [go_sem,lM])|(with_reducible refine sideI ?_)|fail)
   all_goals simp [resetSnd,hW]
  ·exfalso
   simp [canR] at hW h0
   grind
 |true=>
  have hw:=hW
  simp only [canR,Bool.and_eq_true,decide_eq_true_eq,and_assoc] at hw
  have hg:=isRing_iff (isSnd_ring hw.1)
  simp only at hg
  have e1:decide (2 < aF)=false:=dF (by omega)
  try simp only [go_sem]
  repeat' (first|((first|refine CallS.intro (by first|(apply spec_IsSender<;>first|assumption|omega)|apply spec_l4Quic) ?_|with_reducible refine gTrueS ?_|refine drawE_intro mxSndOps0 (by kernel_rfl) (by rfl) ?_)<;>simp only [go_sem,hw.1,e1,hw.2.2])|(with_reducible refine sideI ?_)|fail)
  all_goals simp [resetSnd,hW,eI]
def canAR (s:TSender):Bool:=isSndS s && decide (s.state=4)
def ackRst (s:TSender):TSender:=if canAR s then { s with state:=5 } else s
set_option maxHeartbeats 4000000 in
theorem spec_AckReset (aF aK aL aI:Int) (aE:List Int) (aB aA aC:List TRange) (aJ aG aD aM:Int) (hc:aB.length + aA.length + aC.length≤524288) (hr:aE.length≤8388608):PureCall Tryz.prog 215 [.agg [.int .i64 aF,.int .i64 aK,.int .i64 aL,.int .i64 aI,.sl 1 (aE.map eI),.sl 2 (aB.map TRange.enc),.sl 2 (aA.map TRange.enc),.sl 2 (aC.map TRange.enc),.int .i64 aJ,.int .i64 aG,.int .i64 aD,.int .i64 aM]] [.agg (TSender.enc (ackRst (⟨aF,⟨aK,aL,aI,aE⟩,aB,aA,aC,aJ,aG,aD,aM⟩:TSender))),.one (.bool (canAR (⟨aF,⟨aK,aL,aI,aE⟩,aB,aA,aC,aJ,aG,aD,aM⟩:TSender)))]:=by
 refine pureT 18 Tryz.func215 Tryz.call215 [.cell 2 46,.tmp 3] ?_
 intro _
 try simp only [go_sem]
 repeat' (first|((first|refine CallS.intro (by first|(apply spec_l9Copy<;>first|assumption|omega)|(apply spec_IsSender<;>first|assumption|omega)) ?_|refine gSymS ?_|refine cSplit (fun h=>?_) (fun h=>?_))<;>simp only [go_sem,lM])|(with_reducible refine sideI ?_)|fail)
 all_goals (cases hc2:canAR (⟨aF,⟨aK,aL,aI,aE⟩,aB,aA,aC,aJ,aG,aD,aM⟩:TSender)<;>first|(simp [ackRst,hc2];done)|(exfalso;simp [canAR] at *;grind))
def zP:TPiece:=⟨0,[],false⟩
def canN (s:TSender):Bool:=isSndS s && decide (s.state≤2)
def npHigh (r:TRange) (most limit:Int):Int:=if most < IntKind.i64.wrap (minI r.high limit - r.low) then IntKind.i64.wrap (r.low + maxI most 0) else minI r.high limit
def nextOk (s:TSender) (most limit:Int):Bool:=
 canN s && (match s.pending[0]? with|some r=>decide (r.low < minI r.high limit) && decide (r.low < npHigh r most limit)|none=>decide (s.fin=1))
def nextP (s:TSender) (most limit:Int):TPiece:=
 if nextOk s most limit then (match s.pending[0]? with|some r=>⟨r.low,peekR s.ring r.low (IntKind.i64.wrap (npHigh r most limit - r.low)),decide (s.fin=1) && decide (npHigh r most limit=s.final)⟩|none=>⟨s.final,[],true⟩) else zP
def nextA (s:TSender) (m l:Int):List AD:=[.agg [.int .i64 (nextP s m l).offset,.str (nextP s m l).data,.bool (nextP s m l).fin],.one (.bool (nextOk s m l))]
theorem next_no {s:TSender} {m l:Int} (h:nextOk s m l=false):nextA s m l=[.agg [.int .i64 0,.str [],.bool false],.one (.bool false)]:=by
 unfold nextA nextP;rw [h];simp [zP]
theorem next_fin {s:TSender} {m l:Int} (hN:canN s=true) (hp:s.pending=[]) (hf:s.fin=1):nextA s m l=[.agg [.int .i64 s.final,.str [],.bool true],.one (.bool true)]:=by
 have h:nextOk s m l=true:=by simp [nextOk,hN,hp,hf]
 unfold nextA nextP;rw [h,hp];simp
theorem next_yes {s:TSender} {m l:Int} {r:TRange} (hN:canN s=true) (hp:s.pending[0]?=some r) (h1:r.low < minI r.high l) (h2:r.low < npHigh r m l) :
  nextA s m l=[.agg [.int .i64 r.low,.str (peekR s.ring r.low (IntKind.i64.wrap (npHigh r m l - r.low))),.bool (decide (s.fin=1) && decide (npHigh r m l=s.final))],.one (.bool true)]:=by
 have h:nextOk s m l=true:=by simp [nextOk,hN,hp,h1,h2]
 unfold nextA nextP;rw [h,hp];simp
set_option maxHeartbeats 4000000 in
theorem spec_NextPiece (aF aK aL aI:Int) (aE:List Int) (aB aA aC:List TRange) (aJ aG aD aM m l:Int) (hc:aB.length + aA.length + aC.length≤524288):PureCall Tryz.prog 228 [.agg [.int .i64 aF,.int .i64 aK,.int .i64 aL,.int .i64 aI,.sl 1 (aE.map eI),.sl 2 (aB.map TRange.enc),.sl 2 (aA.map TRange.enc),.sl 2 (aC.map TRange.enc),.int .i64 aJ,.int .i64 aG,.int .i64 aD,.int .i64 aM],.one (.int .i64 m),.one (.int .i64 l)] [.agg [.int .i64 (nextP (⟨aF,⟨aK,aL,aI,aE⟩,aB,aA,aC,aJ,aG,aD,aM⟩:TSender) m l).offset,.str (nextP (⟨aF,⟨aK,aL,aI,aE⟩,aB,aA,aC,aJ,aG,aD,aM⟩:TSender) m l).data,.bool (nextP (⟨aF,⟨aK,aL,aI,aE⟩,aB,aA,aC,aJ,aG,aD,aM⟩:TSender) m l).fin],.one (.bool (nextOk (⟨aF,⟨aK,aL,aI,aE⟩,aB,aA,aC,aJ,aG,aD,aM⟩:TSender) m l))]:=by
 refine pureT 90 Tryz.func228 Tryz.call228 [.cell 6 206,.tmp 7] ?_
 intro _
 show codeE _ _ _ _ (hide (retE _ _ (nextA (⟨aF,⟨aK,aL,aI,aE⟩,aB,aA,aC,aJ,aG,aD,aM⟩:TSender) m l)) .mk) [] (hide (retE _ _ (nextA (⟨aF,⟨aK,aL,aI,aE⟩,aB,aA,aC,aJ,aG,aD,aM⟩:TSender) m l)) .mk)
 cases hN:canN (⟨aF,⟨aK,aL,aI,aE⟩,aB,aA,aC,aJ,aG,aD,aM⟩:TSender) with
 |false=>
  rw [next_no (by simp [nextOk,hN])]
  try simp only [go_sem]
  repeat' ((first|refine CallS.intro (by (apply spec_IsSender<;>first|assumption|omega)) ?_|refine gSymS ?_)<;>simp only [go_sem])
  refine cSplit (fun h0=>?_) (fun h0=>?_)
  ·simp only [go_sem]
  ·exfalso
   simp [canN] at hN h0
   grind
 |true=>
  have hw:=hN
  simp only [canN,Bool.and_eq_true,decide_eq_true_eq] at hw
  have e1:decide (2 < aF)=false:=dF (by omega)
  by_cases hp:aB=[]
  ·have e2:decide ((0:Int) < (aB.length:Int))=false:=dF (by rw [hp];simp)
   by_cases hf:aG=1
   ·have e3:decide (aG=1)=true:=dT hf
    rw [next_fin hN hp hf]
    try simp only [go_sem]
    repeat' ((first|refine CallS.intro (by (apply spec_IsSender<;>first|assumption|omega)) ?_|with_reducible refine gTrueS ?_)<;>simp only [go_sem,lM,hw.1,e1,e2,e3])
   ·have e3:decide (aG=1)=false:=dF hf
    rw [next_no (by simp [nextOk,hp,hf])]
    try simp only [go_sem]
    repeat' ((first|refine CallS.intro (by (apply spec_IsSender<;>first|assumption|omega)) ?_|with_reducible refine gTrueS ?_)<;>simp only [go_sem,lM,hw.1,e1,e2,e3])
  ·have hlen:0 < aB.length:=List.length_pos_iff.2 hp
   have e2:decide ((0:Int) < (aB.length:Int))=true:=dT (by omega)
   have hx0:=map_at TRange.enc aB 0 hlen
   have hr:aB[0]?=some aB[0]:=gE hlen
   generalize aB[0]=r at hx0 hr
   by_cases c1:r.low < minI r.high l
   ·have e3:decide ((if l < r.high then l else r.high)≤r.low)=false:=dF (by unfold minI at c1;omega)
    by_cases c2:r.low < npHigh r m l
    ·rw [next_yes hN hr c1 c2]
     cases e4:decide (m < IntKind.i64.wrap ((if l < r.high then l else r.high) - r.low)) with
     |true=>
      have hn:npHigh r m l=IntKind.i64.wrap (r.low + if 0 > m then 0 else m):=by unfold npHigh minI maxI;rw [if_pos (oT e4)]
      rw [hn] at c2 ⊢
      have e5:decide (IntKind.i64.wrap (r.low + if 0 > m then 0 else m)≤r.low)=false:=dF (by omega)
      try simp only [go_sem]
      repeat' (first|((first|refine CallS.intro (by first|(apply spec_IsSender<;>first|assumption|omega)|apply spec_PeekRing) ?_|with_reducible refine gTrueS ?_|refine gSymS ?_)<;>simp only [go_sem,lM,hw.1,e1,e2,hx0,TRange.enc,Int.toNat_zero,e3,e4,e5])|(with_reducible refine sideI ?_)|fail)
      all_goals first|omega|(simp only [bif_and])
     |false=>
      have hn:npHigh r m l=(if l < r.high then l else r.high):=by unfold npHigh minI;rw [if_neg (oF e4)]
      rw [hn] at c2 ⊢
      try simp only [go_sem]
      repeat' (first|((first|refine CallS.intro (by first|(apply spec_IsSender<;>first|assumption|omega)|apply spec_PeekRing) ?_|with_reducible refine gTrueS ?_|refine gSymS ?_)<;>simp only [go_sem,lM,hw.1,e1,e2,hx0,TRange.enc,Int.toNat_zero,e3,e4])|(with_reducible refine sideI ?_)|fail)
      all_goals first|omega|(simp only [bif_and])
    ·rw [next_no (by simp [nextOk,hN,hr,c2])]
     have e4:decide (m < IntKind.i64.wrap ((if l < r.high then l else r.high) - r.low))=true:=by
      refine dT (Classical.byContradiction fun g=>c2 ?_)
      unfold npHigh minI
      rw [if_neg g]
      exact c1
     have hn:npHigh r m l=IntKind.i64.wrap (r.low + if 0 > m then 0 else m):=by unfold npHigh minI maxI;rw [if_pos (oT e4)]
     rw [hn] at c2
     have e5:decide (IntKind.i64.wrap (r.low + if 0 > m then 0 else m)≤r.low)=true:=dT (by omega)
     try simp only [go_sem]
     repeat' ((first|refine CallS.intro (by (apply spec_IsSender<;>first|assumption|omega)) ?_|with_reducible refine gTrueS ?_)<;>simp only [go_sem,lM,hw.1,e1,e2,hx0,TRange.enc,Int.toNat_zero,e3,e4,e5])
     all_goals omega
   ·have e3:decide ((if l < r.high then l else r.high)≤r.low)=true:=dT (by unfold minI at c1;omega)
    rw [next_no (by simp [nextOk,hN,hr,c1])]
    try simp only [go_sem]
    repeat' ((first|refine CallS.intro (by (apply spec_IsSender<;>first|assumption|omega)) ?_|with_reducible refine gTrueS ?_)<;>simp only [go_sem,lM,hw.1,e1,e2,hx0,TRange.enc,Int.toNat_zero,e3])
    all_goals omega
def rngP (p:TPiece):TRange:=⟨p.offset,IntKind.i64.wrap (p.offset + (p.data.length:Int))⟩
theorem spec_l9Range (aZ:Int) (aQ:List UInt8) (aW:Bool):PureCall Tryz.prog 241 [.agg [.int .i64 aZ,.str aQ,.bool aW]] [.agg [.int .i64 (rngP (⟨aZ,aQ,aW⟩:TPiece)).low,.int .i64 (rngP (⟨aZ,aQ,aW⟩:TPiece)).high]]:=by
 refine pureT 12 Tryz.func241 Tryz.call241 [.cell 2 86] ?_
 intro _
 try simp only [go_sem]
 all_goals simp [rngP]
def inP (s:TSender) (p:TPiece):Bool:=decide (0≤p.offset) && decide (p.offset≤s.ring.end') && decide ((p.data.length:Int)≤IntKind.i64.wrap (s.ring.end' - p.offset)) && (!p.fin || (decide (s.final≠-1) && decide (IntKind.i64.wrap (p.offset + (p.data.length:Int))=s.final)))
theorem spec_l9Piece (aF aK aL aI:Int) (aE:List Int) (aB aA aC:List TRange) (aJ aG aD aM aZ:Int) (aQ:List UInt8) (aW:Bool):PureCall Tryz.prog 239 [.agg [.int .i64 aF,.int .i64 aK,.int .i64 aL,.int .i64 aI,.sl 1 (aE.map eI),.sl 2 (aB.map TRange.enc),.sl 2 (aA.map TRange.enc),.sl 2 (aC.map TRange.enc),.int .i64 aJ,.int .i64 aG,.int .i64 aD,.int .i64 aM],.agg [.int .i64 aZ,.str aQ,.bool aW]] [.one (.bool (inP (⟨aF,⟨aK,aL,aI,aE⟩,aB,aA,aC,aJ,aG,aD,aM⟩:TSender) (⟨aZ,aQ,aW⟩:TPiece)))]:=by
 refine pureT 49 Tryz.func239 Tryz.call239 [.tmp 4] ?_
 intro _
 try simp only [go_sem]
 repeat' (refine gSymS ?_<;>simp only [go_sem])
 all_goals (refine one_bool ?_;simp [inP,and_assoc])
set_option maxRecDepth 100000
def sendOver (s:TStream):Bool:=!s.canSend || decide (s.send.state=3) || decide (s.send.state=5)
theorem spec_IsSendOver (bX bY bZ cA cB:Int) (bW:List Int) (bT bU bV:List TRange) (cC cD cE cF cG cH cI cJ cK cL:Int) (bS:List TChunk) (cM cN cO cP cQ cR cS cT cU cV:Int) (cW cX cY cZ dA dC dD:Bool) (dE:Int) (dF:Bool):PureCall Tryz.prog 71 [.agg [.int .i64 bX,.int .i64 bY,.int .i64 bZ,.int .i64 cA,.int .i64 cB,.sl 1 (bW.map eI),.sl 2 (bT.map TRange.enc),.sl 2 (bU.map TRange.enc),.sl 2 (bV.map TRange.enc),.int .i64 cC,.int .i64 cD,.int .i64 cE,.int .i64 cF,.int .i64 cG,.int .i64 cH,.int .i64 cI,.int .i64 cJ,.int .i64 cK,.int .i64 cL,.sl 2 (bS.map TChunk.enc),.int .i64 cM,.int .i64 cN,.int .i64 cO,.int .i64 cP,.int .i64 cQ,.int .i64 cR,.int .i64 cS,.int .i64 cT,.int .i64 cU,.int .i64 cV,.bool cW,.bool cX,.bool cY,.bool cZ,.bool dA,.bool dC,.bool dD,.int .i64 dE,.bool dF]] [.one (.bool (sendOver (⟨bX,⟨bY,⟨bZ,cA,cB,bW⟩,bT,bU,bV,cC,cD,cE,cF⟩,⟨cG,cH,cI,cJ⟩,⟨cK,⟨cL,bS⟩,cM,cN,cO⟩,⟨cP,cQ,cR,cS,cT,cU⟩,⟨cV,cW⟩,cX,cY,cZ,dA,dC,dD,dE,dF⟩:TStream)))]:=by
 refine pureT 18 Tryz.func71 Tryz.call71 [.tmp 2] ?_
 intro _
 try simp only [go_sem]
 repeat' (refine gSymS ?_<;>simp only [go_sem])
 all_goals (refine one_bool ?_;simp [sendOver])
theorem impl_IsSendOver (bX bY bZ cA cB:Int) (bW:List Int) (bT bU bV:List TRange) (cC cD cE cF cG cH cI cJ cK cL:Int) (bS:List TChunk) (cM cN cO cP cQ cR cS cT cU cV:Int) (cW cX cY cZ dA dC dD:Bool) (dE:Int) (dF:Bool):PureCall Tryz.prog 66 [.agg [.int .i64 bX,.int .i64 bY,.int .i64 bZ,.int .i64 cA,.int .i64 cB,.sl 1 (bW.map eI),.sl 2 (bT.map TRange.enc),.sl 2 (bU.map TRange.enc),.sl 2 (bV.map TRange.enc),.int .i64 cC,.int .i64 cD,.int .i64 cE,.int .i64 cF,.int .i64 cG,.int .i64 cH,.int .i64 cI,.int .i64 cJ,.int .i64 cK,.int .i64 cL,.sl 2 (bS.map TChunk.enc),.int .i64 cM,.int .i64 cN,.int .i64 cO,.int .i64 cP,.int .i64 cQ,.int .i64 cR,.int .i64 cS,.int .i64 cT,.int .i64 cU,.int .i64 cV,.bool cW,.bool cX,.bool cY,.bool cZ,.bool dA,.bool dC,.bool dD,.int .i64 dE,.bool dF]] [.one (.bool (sendOver (⟨bX,⟨bY,⟨bZ,cA,cB,bW⟩,bT,bU,bV,cC,cD,cE,cF⟩,⟨cG,cH,cI,cJ⟩,⟨cK,⟨cL,bS⟩,cM,cN,cO⟩,⟨cP,cQ,cR,cS,cT,cU⟩,⟨cV,cW⟩,cX,cY,cZ,dA,dC,dD,dE,dF⟩:TStream)))]:=by
 refine pureT 18 Tryz.func66 Tryz.call66 [.tmp 2] ?_
 intro _
 try simp only [go_sem]
 repeat' (refine gSymS ?_<;>simp only [go_sem])
 all_goals (refine one_bool ?_;simp [sendOver])
def recvOver (s:TStream):Bool:=!s.canRecv || isRcvd s.recv
theorem spec_IsRecvOver (bX bY bZ cA cB:Int) (bW:List Int) (bT bU bV:List TRange) (cC cD cE cF cG cH cI cJ cK cL:Int) (bS:List TChunk) (cM cN cO cP cQ cR cS cT cU cV:Int) (cW cX cY cZ dA dC dD:Bool) (dE:Int) (dF:Bool) (hb:∀ c ∈ bS,c.data.length≤1048576) (hx:bS.length≤1048576):PureCall Tryz.prog 72 [.agg [.int .i64 bX,.int .i64 bY,.int .i64 bZ,.int .i64 cA,.int .i64 cB,.sl 1 (bW.map eI),.sl 2 (bT.map TRange.enc),.sl 2 (bU.map TRange.enc),.sl 2 (bV.map TRange.enc),.int .i64 cC,.int .i64 cD,.int .i64 cE,.int .i64 cF,.int .i64 cG,.int .i64 cH,.int .i64 cI,.int .i64 cJ,.int .i64 cK,.int .i64 cL,.sl 2 (bS.map TChunk.enc),.int .i64 cM,.int .i64 cN,.int .i64 cO,.int .i64 cP,.int .i64 cQ,.int .i64 cR,.int .i64 cS,.int .i64 cT,.int .i64 cU,.int .i64 cV,.bool cW,.bool cX,.bool cY,.bool cZ,.bool dA,.bool dC,.bool dD,.int .i64 dE,.bool dF]] [.one (.bool (recvOver (⟨bX,⟨bY,⟨bZ,cA,cB,bW⟩,bT,bU,bV,cC,cD,cE,cF⟩,⟨cG,cH,cI,cJ⟩,⟨cK,⟨cL,bS⟩,cM,cN,cO⟩,⟨cP,cQ,cR,cS,cT,cU⟩,⟨cV,cW⟩,cX,cY,cZ,dA,dC,dD,dE,dF⟩:TStream)))]:=by
 refine pureT 11 Tryz.func72 Tryz.call72 [.tmp 2] ?_
 intro _
 try simp only [go_sem]
 repeat' ((first|refine CallK.intro (by (apply spec_IsReceived<;>first|assumption|omega)) ?_|refine gSymS ?_)<;>simp only [go_sem])
 all_goals (refine one_bool ?_;simp [recvOver])
theorem impl_IsRecvOver (bX bY bZ cA cB:Int) (bW:List Int) (bT bU bV:List TRange) (cC cD cE cF cG cH cI cJ cK cL:Int) (bS:List TChunk) (cM cN cO cP cQ cR cS cT cU cV:Int) (cW cX cY cZ dA dC dD:Bool) (dE:Int) (dF:Bool) (hb:∀ c ∈ bS,c.data.length≤1048576) (hx:bS.length≤1048576):PureCall Tryz.prog 67 [.agg [.int .i64 bX,.int .i64 bY,.int .i64 bZ,.int .i64 cA,.int .i64 cB,.sl 1 (bW.map eI),.sl 2 (bT.map TRange.enc),.sl 2 (bU.map TRange.enc),.sl 2 (bV.map TRange.enc),.int .i64 cC,.int .i64 cD,.int .i64 cE,.int .i64 cF,.int .i64 cG,.int .i64 cH,.int .i64 cI,.int .i64 cJ,.int .i64 cK,.int .i64 cL,.sl 2 (bS.map TChunk.enc),.int .i64 cM,.int .i64 cN,.int .i64 cO,.int .i64 cP,.int .i64 cQ,.int .i64 cR,.int .i64 cS,.int .i64 cT,.int .i64 cU,.int .i64 cV,.bool cW,.bool cX,.bool cY,.bool cZ,.bool dA,.bool dC,.bool dD,.int .i64 dE,.bool dF]] [.one (.bool (recvOver (⟨bX,⟨bY,⟨bZ,cA,cB,bW⟩,bT,bU,bV,cC,cD,cE,cF⟩,⟨cG,cH,cI,cJ⟩,⟨cK,⟨cL,bS⟩,cM,cN,cO⟩,⟨cP,cQ,cR,cS,cT,cU⟩,⟨cV,cW⟩,cX,cY,cZ,dA,dC,dD,dE,dF⟩:TStream)))]:=by
 refine pureT 11 Tryz.func67 Tryz.call67 [.tmp 2] ?_
 intro _
 try simp only [go_sem]
 repeat' ((first|refine CallK.intro (by (apply impl_IsReceived<;>first|assumption|omega)) ?_|refine gSymS ?_)<;>simp only [go_sem])
 all_goals (refine one_bool ?_;simp [recvOver])
def strA (s:TStream):Bool:=isQ s.id && isCredit s.credit && isRcv s.recv && isWin s.window && isPri s.priority && isQ s.stopCode && (s.canSend || s.canRecv)
def strB (s:TStream):Bool:=!decide (s.credit.used < s.send.sent) && !decide (s.window.seen < s.recv.highest) && !(s.tellReset && decide (s.send.state≠4)) && !(s.tellStop && !s.stopped) && !(decide (s.stopCode≠0) && !s.stopped)
def strC (s:TStream):Bool:=(s.canSend || decide (s.send.state=0) && decide (s.send.ring.end'=0) && decide (s.send.final=-1)) && (s.canRecv || decide (s.recv.state=0) && decide (s.recv.highest=0) && !s.stopped)
def isStmW (b:Bool) (s:TStream):Bool:=b && strA s && strB s && strC s
def isStmS (s:TStream):Bool:=isStmW (isSndS s.send) s
def isStmI (s:TStream):Bool:=isStmW (isSndI s.send) s
theorem isStm_eq {s:TStream} (hn:noHole s.send):isStmS s=isStmI s:=by unfold isStmS isStmI;rw [isSnd_eq hn]
set_option maxHeartbeats 4000000 in
theorem spec_IsStream (bX bY bZ cA cB:Int) (bW:List Int) (bT bU bV:List TRange) (cC cD cE cF cG cH cI cJ cK cL:Int) (bS:List TChunk) (cM cN cO cP cQ cR cS cT cU cV:Int) (cW cX cY cZ dA dC dD:Bool) (dE:Int) (dF:Bool) (hc:bT.length + bU.length + bV.length≤524288) (hb:∀ c ∈ bS,c.data.length≤1048576) (hx:bS.length≤1048576):PureCall Tryz.prog 70 [.agg [.int .i64 bX,.int .i64 bY,.int .i64 bZ,.int .i64 cA,.int .i64 cB,.sl 1 (bW.map eI),.sl 2 (bT.map TRange.enc),.sl 2 (bU.map TRange.enc),.sl 2 (bV.map TRange.enc),.int .i64 cC,.int .i64 cD,.int .i64 cE,.int .i64 cF,.int .i64 cG,.int .i64 cH,.int .i64 cI,.int .i64 cJ,.int .i64 cK,.int .i64 cL,.sl 2 (bS.map TChunk.enc),.int .i64 cM,.int .i64 cN,.int .i64 cO,.int .i64 cP,.int .i64 cQ,.int .i64 cR,.int .i64 cS,.int .i64 cT,.int .i64 cU,.int .i64 cV,.bool cW,.bool cX,.bool cY,.bool cZ,.bool dA,.bool dC,.bool dD,.int .i64 dE,.bool dF]] [.one (.bool (isStmS (⟨bX,⟨bY,⟨bZ,cA,cB,bW⟩,bT,bU,bV,cC,cD,cE,cF⟩,⟨cG,cH,cI,cJ⟩,⟨cK,⟨cL,bS⟩,cM,cN,cO⟩,⟨cP,cQ,cR,cS,cT,cU⟩,⟨cV,cW⟩,cX,cY,cZ,dA,dC,dD,dE,dF⟩:TStream)))]:=by
 refine pureT 140 Tryz.func70 Tryz.call70 [.tmp 2] ?_
 intro _
 try simp only [go_sem]
 repeat' ((first|refine CallS.intro (by apply spec_l4Quic) ?_|refine CallK.intro (by first|apply spec_l4Quic|(apply spec_IsSender<;>first|assumption|omega)|apply spec_IsCredit|(apply spec_IsReceiver<;>first|assumption|omega)|apply spec_IsWindow|apply spec_IsPriority) ?_|refine gSymS ?_|refine cSplit (fun h=>?_) (fun h=>?_))<;>simp only [go_sem])
 all_goals (refine one_bool ?_;simp only [isStmS,isStmW,strA,strB,strC,bif_and,bif_or] at *;grind)
set_option maxHeartbeats 4000000 in
theorem impl_IsStream (bX bY bZ cA cB:Int) (bW:List Int) (bT bU bV:List TRange) (cC cD cE cF cG cH cI cJ cK cL:Int) (bS:List TChunk) (cM cN cO cP cQ cR cS cT cU cV:Int) (cW cX cY cZ dA dC dD:Bool) (dE:Int) (dF:Bool) (hc:bT.length + bU.length + bV.length≤524288) (hb:∀ c ∈ bS,c.data.length≤1048576) (hx:bS.length≤1048576):PureCall Tryz.prog 65 [.agg [.int .i64 bX,.int .i64 bY,.int .i64 bZ,.int .i64 cA,.int .i64 cB,.sl 1 (bW.map eI),.sl 2 (bT.map TRange.enc),.sl 2 (bU.map TRange.enc),.sl 2 (bV.map TRange.enc),.int .i64 cC,.int .i64 cD,.int .i64 cE,.int .i64 cF,.int .i64 cG,.int .i64 cH,.int .i64 cI,.int .i64 cJ,.int .i64 cK,.int .i64 cL,.sl 2 (bS.map TChunk.enc),.int .i64 cM,.int .i64 cN,.int .i64 cO,.int .i64 cP,.int .i64 cQ,.int .i64 cR,.int .i64 cS,.int .i64 cT,.int .i64 cU,.int .i64 cV,.bool cW,.bool cX,.bool cY,.bool cZ,.bool dA,.bool dC,.bool dD,.int .i64 dE,.bool dF]] [.one (.bool (isStmI (⟨bX,⟨bY,⟨bZ,cA,cB,bW⟩,bT,bU,bV,cC,cD,cE,cF⟩,⟨cG,cH,cI,cJ⟩,⟨cK,⟨cL,bS⟩,cM,cN,cO⟩,⟨cP,cQ,cR,cS,cT,cU⟩,⟨cV,cW⟩,cX,cY,cZ,dA,dC,dD,dE,dF⟩:TStream)))]:=by
 refine pureT 141 Tryz.func65 Tryz.call65 [.tmp 2] ?_
 intro _
 try simp only [go_sem]
 repeat' ((first|refine CallS.intro (by apply impl_isQuic) ?_|refine CallK.intro (by first|apply impl_isQuic|(apply impl_IsSender<;>first|assumption|omega)|apply impl_IsCredit|(apply impl_IsReceiver<;>first|assumption|omega)|apply impl_IsWindow|apply impl_IsPriority) ?_|refine gSymS ?_|refine cSplit (fun h=>?_) (fun h=>?_))<;>simp only [go_sem])
 all_goals (refine one_bool ?_;simp only [isStmI,isStmW,strA,strB,strC,bif_and,bif_or] at *;grind)
def overS (s:TStream):Bool:=isStmS s && sendOver s && recvOver s
def overI (s:TStream):Bool:=isStmI s && sendOver s && recvOver s
theorem spec_IsOver (bX bY bZ cA cB:Int) (bW:List Int) (bT bU bV:List TRange) (cC cD cE cF cG cH cI cJ cK cL:Int) (bS:List TChunk) (cM cN cO cP cQ cR cS cT cU cV:Int) (cW cX cY cZ dA dC dD:Bool) (dE:Int) (dF:Bool) (hc:bT.length + bU.length + bV.length≤524288) (hb:∀ c ∈ bS,c.data.length≤1048576) (hx:bS.length≤1048576):PureCall Tryz.prog 34 [.agg [.int .i64 bX,.int .i64 bY,.int .i64 bZ,.int .i64 cA,.int .i64 cB,.sl 1 (bW.map eI),.sl 2 (bT.map TRange.enc),.sl 2 (bU.map TRange.enc),.sl 2 (bV.map TRange.enc),.int .i64 cC,.int .i64 cD,.int .i64 cE,.int .i64 cF,.int .i64 cG,.int .i64 cH,.int .i64 cI,.int .i64 cJ,.int .i64 cK,.int .i64 cL,.sl 2 (bS.map TChunk.enc),.int .i64 cM,.int .i64 cN,.int .i64 cO,.int .i64 cP,.int .i64 cQ,.int .i64 cR,.int .i64 cS,.int .i64 cT,.int .i64 cU,.int .i64 cV,.bool cW,.bool cX,.bool cY,.bool cZ,.bool dA,.bool dC,.bool dD,.int .i64 dE,.bool dF]] [.one (.bool (overS (⟨bX,⟨bY,⟨bZ,cA,cB,bW⟩,bT,bU,bV,cC,cD,cE,cF⟩,⟨cG,cH,cI,cJ⟩,⟨cK,⟨cL,bS⟩,cM,cN,cO⟩,⟨cP,cQ,cR,cS,cT,cU⟩,⟨cV,cW⟩,cX,cY,cZ,dA,dC,dD,dE,dF⟩:TStream)))]:=by
 refine pureT 13 Tryz.func34 Tryz.call34 [.tmp 2] ?_
 intro _
 try simp only [go_sem]
 repeat' ((first|refine CallS.intro (by (apply spec_IsStream<;>first|assumption|omega)) ?_|refine CallK.intro (by first|apply spec_IsSendOver|(apply spec_IsRecvOver<;>first|assumption|omega)) ?_|refine gSymS ?_)<;>simp only [go_sem])
 all_goals (refine one_bool ?_;simp [overS])
theorem impl_IsOver (bX bY bZ cA cB:Int) (bW:List Int) (bT bU bV:List TRange) (cC cD cE cF cG cH cI cJ cK cL:Int) (bS:List TChunk) (cM cN cO cP cQ cR cS cT cU cV:Int) (cW cX cY cZ dA dC dD:Bool) (dE:Int) (dF:Bool) (hc:bT.length + bU.length + bV.length≤524288) (hb:∀ c ∈ bS,c.data.length≤1048576) (hx:bS.length≤1048576):PureCall Tryz.prog 30 [.agg [.int .i64 bX,.int .i64 bY,.int .i64 bZ,.int .i64 cA,.int .i64 cB,.sl 1 (bW.map eI),.sl 2 (bT.map TRange.enc),.sl 2 (bU.map TRange.enc),.sl 2 (bV.map TRange.enc),.int .i64 cC,.int .i64 cD,.int .i64 cE,.int .i64 cF,.int .i64 cG,.int .i64 cH,.int .i64 cI,.int .i64 cJ,.int .i64 cK,.int .i64 cL,.sl 2 (bS.map TChunk.enc),.int .i64 cM,.int .i64 cN,.int .i64 cO,.int .i64 cP,.int .i64 cQ,.int .i64 cR,.int .i64 cS,.int .i64 cT,.int .i64 cU,.int .i64 cV,.bool cW,.bool cX,.bool cY,.bool cZ,.bool dA,.bool dC,.bool dD,.int .i64 dE,.bool dF]] [.one (.bool (overI (⟨bX,⟨bY,⟨bZ,cA,cB,bW⟩,bT,bU,bV,cC,cD,cE,cF⟩,⟨cG,cH,cI,cJ⟩,⟨cK,⟨cL,bS⟩,cM,cN,cO⟩,⟨cP,cQ,cR,cS,cT,cU⟩,⟨cV,cW⟩,cX,cY,cZ,dA,dC,dD,dE,dF⟩:TStream)))]:=by
 refine pureT 13 Tryz.func30 Tryz.call30 [.tmp 2] ?_
 intro _
 try simp only [go_sem]
 repeat' ((first|refine CallS.intro (by (apply impl_IsStream<;>first|assumption|omega)) ?_|refine CallK.intro (by first|apply impl_IsSendOver|(apply impl_IsRecvOver<;>first|assumption|omega)) ?_|refine gSymS ?_)<;>simp only [go_sem])
 all_goals (refine one_bool ?_;simp [overI])
def zStr:TStream:=⟨0,⟨0,⟨0,0,0,[]⟩,[],[],[],0,0,0,0⟩,⟨0,0,0,0⟩,⟨0,⟨0,[]⟩,0,0,0⟩,⟨0,0,0,0,0,0⟩,⟨0,false⟩,false,false,false,false,false,false,0,false⟩
def nsOk (i:Int) (o p:TConf):Bool:=isQ i && isConf o && isConf p
def newStr (v:Bool) (i:Int) (o p:TConf):TStream:=
 if nsOk i o p then ⟨i,newSnd o.ring,newCredit p.window,newRcv,newWindow o.window o.windowMost,defPri,canSend v i,canRecv v i,false,false,false,false,0,false⟩ else zStr
theorem ns_guard (i:Int) (o p:TConf):(bif bif !isQ i then true else !isConf o then true else !isConf p)=!nsOk i o p:=by
 unfold nsOk
 cases isQ i<;>cases isConf o<;>cases isConf p<;>rfl
set_option maxHeartbeats 4000000 in
theorem spec_NewStream (v:Bool) (i dQ dR dT dV dW dX dY dZ eA dU eB eC eD eE eF eG:Int):PureCall Tryz.prog 155 [.one (.bool v),.one (.int .i64 i),.agg [.int .i64 dQ,.int .i64 dR,.int .i64 dT,.int .i64 dV,.int .i64 dW,.int .i64 dX,.int .i64 dY,.int .i64 dZ],.agg [.int .i64 eA,.int .i64 dU,.int .i64 eB,.int .i64 eC,.int .i64 eD,.int .i64 eE,.int .i64 eF,.int .i64 eG]] [.agg (TStream.enc (newStr v i (⟨dQ,dR,dT,dV,dW,dX,dY,dZ⟩:TConf) (⟨eA,dU,eB,eC,eD,eE,eF,eG⟩:TConf))),.one (.bool (nsOk i (⟨dQ,dR,dT,dV,dW,dX,dY,dZ⟩:TConf) (⟨eA,dU,eB,eC,eD,eE,eF,eG⟩:TConf)))]:=by
 refine pureT 68 Tryz.func155 Tryz.call155 [.cell 8 55,.tmp 9] ?_
 intro _
 have hE:=ns_guard i (⟨dQ,dR,dT,dV,dW,dX,dY,dZ⟩:TConf) (⟨eA,dU,eB,eC,eD,eE,eF,eG⟩:TConf)
 have hS:newStr v i (⟨dQ,dR,dT,dV,dW,dX,dY,dZ⟩:TConf) (⟨eA,dU,eB,eC,eD,eE,eF,eG⟩:TConf)=if nsOk i (⟨dQ,dR,dT,dV,dW,dX,dY,dZ⟩:TConf) (⟨eA,dU,eB,eC,eD,eE,eF,eG⟩:TConf) then ⟨i,newSnd dQ,newCredit dU,newRcv,newWindow dR dT,defPri,canSend v i,canRecv v i,false,false,false,false,0,false⟩ else zStr:=rfl
 try simp only [go_sem]
 repeat' ((first|refine CallS.intro (by apply spec_l4Quic) ?_|refine CallK.intro (by apply spec_IsConf) ?_|refine gSymS ?_)<;>simp only [go_sem])
 rw [hE]
 cases hN:nsOk i (⟨dQ,dR,dT,dV,dW,dX,dY,dZ⟩:TConf) (⟨eA,dU,eB,eC,eD,eE,eF,eG⟩:TConf) with
 |false=>
  rw [hN] at hS
  simp only [go_sem,Bool.not_false]
  rw [hS]
  simp [zStr]
 |true=>
  rw [hN] at hS
  simp only [go_sem,Bool.not_true]
  try simp only [go_sem]
  repeat' (first|(refine CallS.intro (by first|apply spec_DefaultPriority|apply spec_NewReceiver|apply spec_CanSendOn|apply spec_CanReceiveOn|apply spec_NewSender|apply spec_NewCredit|apply spec_NewWindow) ?_<;>simp only [go_sem])|(with_reducible refine sideI ?_)|fail)
  all_goals (rw [hS];simp [take_map_self])
theorem anyt_step {α:Type} (p:α→Bool) (xs:List α) (i:Nat) (h:i < xs.length) (h1:(xs.take i).any p=false) (h2:p xs[i]=false):(xs.take (i + 1)).any p=false:=by
 rw [List.take_add_one,gE h,List.any_append,h1];simp [h2]
def fIx {α:Type} (p:α→Bool) (xs:List α):Int:=match xs.findIdx? p with|some i=>(i:Int)|none=>-1
theorem split_at {α:Type} (xs:List α) (i:Nat) (h:i < xs.length):xs=xs.take i++xs[i]::xs.drop (i + 1):=by rw [List.getElem_cons_drop,List.take_append_drop]
theorem find_hit {α:Type} (p:α→Bool) (xs:List α) (i:Nat) (h:i < xs.length) (h1:(xs.take i).any p=false) (h2:p xs[i]=true):xs.find? p=some xs[i]:=by
 conv=>lhs;rw [split_at xs i h]
 have:(xs.take i).find? p=none:=by rw [List.find?_eq_none];intro x hx;have:=List.any_eq_false.1 h1 x hx;simpa using this
 rw [List.find?_append,this,List.find?_cons_of_pos h2];rfl
theorem find_miss {α:Type} (p:α→Bool) (xs:List α) (h:xs.any p=false):xs.find? p=none:=by
 rw [List.find?_eq_none];intro x hx;have:=List.any_eq_false.1 h x hx;simpa using this
theorem fIx_hit {α:Type} (p:α→Bool) (xs:List α) (i:Nat) (h:i < xs.length) (h1:(xs.take i).any p=false) (h2:p xs[i]=true):fIx p xs=(i:Int):=by
 have:xs.findIdx? p=some i:=by
  rw [List.findIdx?_eq_some_iff_getElem]
  refine ⟨h,h2,fun j hj hji=>?_⟩
  have:=List.any_eq_false.1 h1 xs[j] (List.mem_take_iff_getElem.2 ⟨j,by omega,rfl⟩)
  exact this hji
 rw [fIx,this]
theorem fIx_miss {α:Type} (p:α→Bool) (xs:List α) (h:xs.any p=false):fIx p xs=-1:=by
 have:xs.findIdx? p=none:=by rw [List.findIdx?_eq_none_iff];intro x hx;have:=List.any_eq_false.1 h x hx;simpa using this
 rw [fIx,this]
theorem fIx_cases {α:Type} (p:α→Bool) (xs:List α):(fIx p xs=-1∧xs.find? p=none)∨∃ (i:Nat) (h:i < xs.length),fIx p xs=(i:Int)∧xs.find? p=some xs[i]∧p xs[i]=true:=by
 unfold fIx
 cases hf:xs.findIdx? p with
 |none=>left;refine ⟨rfl,?_⟩;rw [List.findIdx?_eq_none_iff] at hf;rw [List.find?_eq_none];simpa using hf
 |some i=>
  right
  rw [List.findIdx?_eq_some_iff_getElem] at hf
  obtain ⟨h,h1,h2⟩:=hf
  refine ⟨i,h,rfl,find_hit p xs i h ?_ h1,h1⟩
  rw [List.any_eq_false]
  intro x hx
  obtain ⟨j,hj,rfl⟩:=List.mem_take_iff_getElem.1 hx
  exact h2 j (by omega)
/-- all places below n hold -/
def allN (p:Nat→Bool) (n:Nat):Bool:=(List.range n).all p
theorem allN_succ (p:Nat→Bool) (n:Nat):allN p (n + 1)=(allN p n && p n):=by simp [allN,List.range_succ]
theorem allN_false (p:Nat→Bool) {i n:Nat} (h:i < n) (hb:p i=false):allN p n=false:=by
 simp only [allN,List.all_eq_false,List.mem_range]
 exact ⟨i,h,by simp [hb]⟩
theorem allN_congr {p q:Nat→Bool} {n:Nat} (h:∀ i,i < n→p i=q i):allN p n=allN q n:=by
 rw [Bool.eq_iff_iff]
 simp only [allN,List.all_eq_true,List.mem_range]
 exact ⟨fun g i hi=>(h i hi) ▸ g i hi,fun g i hi=>(h i hi).symm ▸ g i hi⟩
/-- a list in ascending order whose elements are in order -/
def ascB {α:Type} (key:α→Int) (ok:α→Bool) (l:List α) (i:Nat):Bool:=
 match l[i]? with
 |none=>false
 |some c=>ok c && (match i with|0=>true|j + 1=>(match l[j]? with|none=>false|some d=>decide (key d < key c)))
def areAsc {α:Type} (key:α→Int) (ok:α→Bool) (l:List α):Bool:=allN (ascB key ok l) l.length
theorem ascB_zero {α:Type} (key:α→Int) (ok:α→Bool) (l:List α) (h:0 < l.length):ascB key ok l 0=ok l[0]:=by
 simp [ascB,gE h]
theorem ascB_succ {α:Type} (key:α→Int) (ok:α→Bool) (l:List α) (j:Nat) (h:j + 1 < l.length):ascB key ok l (j + 1)=(ok l[j + 1] && decide (key l[j] < key l[j + 1])):=by
 simp [ascB,gE h,gE (show j < l.length by omega)]
theorem areAsc_congr {α:Type} {key:α→Int} {ok ok':α→Bool} {l:List α} (h:∀ c ∈ l,ok c=ok' c):areAsc key ok l=areAsc key ok' l:=by
 refine allN_congr fun i hi=>?_
 cases i with
 |zero=>rw [ascB_zero _ _ _ hi,ascB_zero _ _ _ hi,h _ (List.getElem_mem hi)]
 |succ j=>rw [ascB_succ _ _ _ _ hi,ascB_succ _ _ _ _ hi,h _ (List.getElem_mem hi)]
set_option maxRecDepth 100000
def kname (k:Int):List UInt8:=
 if k=4 then [114,101,115,101,116]
 else if k=5 then [115,116,111,112]
 else if k=8 then [115,116,114,101,97,109]
 else if k=16 then [109,97,120,100,97,116,97]
 else if k=17 then [109,97,120,115,116,114,101,97,109,100,97,116,97]
 else if k=18 then [109,97,120,115,116,114,101,97,109,115]
 else if k=20 then [100,97,116,97,98,108,111,99,107,101,100]
 else if k=21 then [115,116,114,101,97,109,100,97,116,97,98,108,111,99,107,101,100]
 else if k=22 then [115,116,114,101,97,109,115,98,108,111,99,107,101,100]
 else []
def kindOk (k:Int):Bool:=decide (k=4) || decide (k=5) || decide (k=8) || decide (k=16) || decide (k=17) || decide (k=18) || decide (k=20) || decide (k=21) || decide (k=22)
theorem kname_nil (k:Int):(kname k == [])=!kindOk k:=by
 unfold kname kindOk
 repeat' split
 all_goals simp_all
theorem spec_KindName (k:Int):PureCall Tryz.prog 107 [.one (.int .i64 k)] [.one (.str (kname k))]:=by
 refine pureT 22 Tryz.func107 Tryz.call107 [.tmp 2] ?_
 intro _
 try simp only [go_sem]
 repeat' (refine cSplit (fun h=>?_) (fun h=>?_)<;>simp only [go_sem])
 all_goals (simp only [decide_eq_true_eq,decide_eq_false_iff_not] at *;first|(exfalso;omega)|simp [kname, *])
theorem impl_KindName (k:Int):PureCall Tryz.prog 105 [.one (.int .i64 k)] [.one (.str (kname k))]:=by
 refine pureT 22 Tryz.func105 Tryz.call105 [.tmp 2] ?_
 intro _
 try simp only [go_sem]
 repeat' (refine cSplit (fun h=>?_) (fun h=>?_)<;>simp only [go_sem])
 all_goals (simp only [decide_eq_true_eq,decide_eq_false_iff_not] at *;first|(exfalso;omega)|simp [kname, *])
def aboutS (k:Int):Bool:=decide (k=4) || decide (k=5) || decide (k=8) || decide (k=17) || decide (k=21)
theorem spec_IsAboutStream (bD bE bG:Int) (bF:List UInt8) (bI:Bool) (bJ bH bK:Int) (bR:Bool):PureCall Tryz.prog 145 [.agg [.int .i64 bD,.int .i64 bE,.int .i64 bG,.str bF,.bool bI,.int .i64 bJ,.int .i64 bH,.int .i64 bK,.bool bR]] [.one (.bool (aboutS bD))]:=by
 refine pureT 11 Tryz.func145 Tryz.call145 [.tmp 2] ?_
 intro _
 try simp only [go_sem]
 repeat' (refine cSplit (fun h=>?_) (fun h=>?_)<;>simp only [go_sem])
 all_goals (simp only [decide_eq_true_eq,decide_eq_false_iff_not] at *;first|(exfalso;omega)|simp [aboutS, *])
theorem impl_IsAboutStream (bD bE bG:Int) (bF:List UInt8) (bI:Bool) (bJ bH bK:Int) (bR:Bool):PureCall Tryz.prog 144 [.agg [.int .i64 bD,.int .i64 bE,.int .i64 bG,.str bF,.bool bI,.int .i64 bJ,.int .i64 bH,.int .i64 bK,.bool bR]] [.one (.bool (aboutS bD))]:=by
 refine pureT 11 Tryz.func144 Tryz.call144 [.tmp 2] ?_
 intro _
 try simp only [go_sem]
 repeat' (refine cSplit (fun h=>?_) (fun h=>?_)<;>simp only [go_sem])
 all_goals (simp only [decide_eq_true_eq,decide_eq_false_iff_not] at *;first|(exfalso;omega)|simp [aboutS, *])
def usedF (f:TFrame):TFrame:=
 ⟨f.kind,if aboutS f.kind then f.stream else 0,if f.kind=8 then f.offset else 0,if f.kind=8 then f.data else [],if f.kind=8 then f.fin else false,if f.kind=4∨f.kind=5 then f.code else 0,
  if f.kind=4∨f.kind=5∨f.kind=8 then 0 else f.limit,if f.kind=4 then f.final else 0,if f.kind=18∨f.kind=22 then f.uni else false⟩
set_option maxHeartbeats 2000000 in
theorem spec_l4Used (bD bE bG:Int) (bF:List UInt8) (bI:Bool) (bJ bH bK:Int) (bR:Bool):PureCall Tryz.prog 108 [.agg [.int .i64 bD,.int .i64 bE,.int .i64 bG,.str bF,.bool bI,.int .i64 bJ,.int .i64 bH,.int .i64 bK,.bool bR]] [.agg (TFrame.enc (usedF (⟨bD,bE,bG,bF,bI,bJ,bH,bK,bR⟩:TFrame)))]:=by
 refine pureT 51 Tryz.func108 Tryz.call108 [.cell 2 88] ?_
 intro _
 try simp only [go_sem]
 repeat' ((first|refine CallS.intro (by apply spec_IsAboutStream) ?_|refine cSplit (fun h=>?_) (fun h=>?_))<;>simp only [go_sem])
 all_goals (simp only [decide_eq_true_eq,decide_eq_false_iff_not] at *;first|(exfalso;omega)|(exfalso;simp_all [aboutS];done)|(simp [usedF, *];done)|(simp [usedF,aboutS] at *;simp [*];done)|(simp_all [usedF,aboutS];done))
def frameHead (f:TFrame):Bool:=kindOk f.kind && decide (usedF f=f) && isQ f.stream && isQ f.offset && isQ f.code && isQ f.limit && isQ f.final && !decide (400 < (f.data.length:Int))
def isFrame (f:TFrame):Bool:=frameHead f && (if f.kind=8 then decide (f.offset≤IntKind.i64.wrap (4611686018427387903 - (f.data.length:Int))) else if f.kind=18∨f.kind=22 then decide (f.limit≤1152921504606846976) else true)
set_option maxRecDepth 100000
def mxFrameB0:List (List Rl):=mxD 46 [8862938119652501095928,8862938119652501095926,8862938119652501095920,8862938119652501095902,8862938119652501095848,8862938119652501093499,8862938119652501093013,8862938119652501094714,8862938119652501089368,8862938119652501076246,8862938119652501036880,8862938119652500918782,8862938119652500564488,8862938119652499501606,8862938119652496312960,8862938119652486747022,8862938119652458049208,8862938119652371955766,8862938119652113675440,8862938119651338834462,8862938119649014311528,8862938119642040742726,8862938119621120036320,8862938119558357917102,8862938119370071559448,8862938118805212486486,8862938117110635267600,8862938112026903610942,8862938096775708640968,8862938051022123731046,8862937913761369001280,8862937501979104811982,8862936266632312244088,8862932560591934540406,8862921442470801429360,8862888088107402096222,8862788025017204096808,8862487835746610098566,8861587267934828103840,8858885564499482119662,8850780454193444167128,8826465123275330309526,8753519130520988736720,8534681152257964018302,7878167217468889863048,5908625413101667397286]
attribute [go_sem] mxFrameB0
theorem frame_eqB (a b:TFrame):(decide (a.kind=b.kind) && (decide (a.stream=b.stream) && (decide (a.offset=b.offset) && (decide (a.data=b.data) && (decide (a.fin=b.fin) && (decide (a.code=b.code) && (decide (a.limit=b.limit) && (decide (a.final=b.final) && decide (a.uni=b.uni)))))))))=decide (a=b):=by
 cases a;cases b
 rw [Bool.eq_iff_iff]
 simp only [Bool.and_eq_true,decide_eq_true_eq,TFrame.mk.injEq]
theorem frame_guard (f:TFrame):(bif bif bif bif bif bif bif !kindOk f.kind then true else !decide (usedF f=f) then true else !isQ f.stream then true else !isQ f.offset then true else !isQ f.code then true else !isQ f.limit then true else !isQ f.final then true else decide (400 < (f.data.length:Int)))=!frameHead f:=by
 unfold frameHead
 cases kindOk f.kind<;>cases decide (usedF f=f)<;>cases isQ f.stream<;>cases isQ f.offset<;>cases isQ f.code<;>cases isQ f.limit<;>cases isQ f.final<;>cases decide (400 < (f.data.length:Int))<;>rfl
set_option maxHeartbeats 4000000 in
theorem spec_IsFrame (bD bE bG:Int) (bF:List UInt8) (bI:Bool) (bJ bH bK:Int) (bR:Bool):PureCall Tryz.prog 84 [.agg [.int .i64 bD,.int .i64 bE,.int .i64 bG,.str bF,.bool bI,.int .i64 bJ,.int .i64 bH,.int .i64 bK,.bool bR]] [.one (.bool (isFrame (⟨bD,bE,bG,bF,bI,bJ,bH,bK,bR⟩:TFrame)))]:=by
 refine pureT 66 Tryz.func84 Tryz.call84 [.tmp 2] ?_
 intro _
 have hk:decide (kname bD=[])=!kindOk bD:=by have:=kname_nil bD;rw [← this];cases kname bD<;>rfl
 have hf:=frame_eqB (usedF (⟨bD,bE,bG,bF,bI,bJ,bH,bK,bR⟩:TFrame)) (⟨bD,bE,bG,bF,bI,bJ,bH,bK,bR⟩:TFrame)
 simp only at hf
 have hE:=frame_guard (⟨bD,bE,bG,bF,bI,bJ,bH,bK,bR⟩:TFrame)
 try simp only [go_sem]
 repeat' ((first|refine CallK.intro (by first|apply spec_KindName|apply spec_l4Used|apply spec_l4Quic) ?_|refine gSym ?_|refine drawE_intro mxFrameB0 (by kernel_rfl) (by rfl) ?_)<;>simp only [go_sem,hk,hf])
 rw [hE]
 cases hH:frameHead (⟨bD,bE,bG,bF,bI,bJ,bH,bK,bR⟩:TFrame) with
 |false=>
  simp only [go_sem,Bool.not_false]
  simp [isFrame,hH]
 |true=>
  simp only [go_sem,Bool.not_true]
  try simp only [go_sem]
  repeat' (refine cSplit (fun h=>?_) (fun h=>?_)<;>simp only [go_sem])
  all_goals (rw [show isFrame (⟨bD,bE,bG,bF,bI,bJ,bH,bK,bR⟩:TFrame)=(if bD=8 then decide (bG≤IntKind.i64.wrap (4611686018427387903 - (bF.length:Int))) else if bD=18∨bD=22 then decide (bH≤1152921504606846976) else true) from by unfold isFrame;rw [hH];rfl];clear hH hE hf hk;simp only [decide_eq_true_eq,decide_eq_false_iff_not] at *;first|(exfalso;omega)|simp [*])
def idIs (id:Int) (s:TStream):Bool:=decide (s.id=id)
def strOf (l:List TStream) (id:Int):TStream×Bool:=match l.find? (idIs id) with|some s=>(s,true)|none=>(zStr,false)
def putStep (s:TStream) (q:List TStream×Bool) (x:TStream):List TStream×Bool:=
 if !q.2 && decide (s.id < x.id) then (q.1++[s,x],true) else (q.1++[x],q.2)
def putF (s:TStream) (l:List TStream):List TStream×Bool:=l.foldl (putStep s) ([],false)
def putS (l:List TStream) (s:TStream):List TStream:=
 match l.findIdx? (idIs s.id) with
 |some i=>l.set i s
 |none=>if (putF s l).2 then (putF s l).1 else (putF s l).1++[s]
def areStr (ok:TStream→Bool) (l:List TStream):Bool:=areAsc (fun s=>s.id) ok l && decide ((l.length:Int)≤24)
def totStep (f:TStream→Int) (n:Int) (s:TStream):Int:=if 4611686018427387904 < IntKind.i64.wrap (n + f s) then 4611686018427387904 else IntKind.i64.wrap (n + f s)
def totF (ok:TStream→Bool) (f:TStream→Int) (l:List TStream):Int:=if areStr ok l then l.foldl (totStep f) 0 else 0
def sentOf (s:TStream):Int:=s.send.sent
def seenOf (s:TStream):Int:=s.recv.highest
def okPk (n:Int) (p:TPacket):Bool:=inB p.number 0 (IntKind.i64.wrap (n - 1)) && p.frames.all isFrame
def arePk (n:Int) (l:List TPacket):Bool:=areAsc (fun p=>p.number) (okPk n) l
def connA (ok:TStream→Bool) (c:TConn):Bool:=isConf c.own && isConf c.peer && areStr ok c.streams && isCredit c.total && isWin c.inflow && isCount c.openBidi && isCount c.openUni && isAllow c.allowBidi && isAllow c.allowUni
def connB (ok:TStream→Bool) (c:TConn):Bool:=inB c.last (-1) 4611686018427387903 && inB c.number 0 1000000 && inB c.now 0 1000000 && inB c.closed 0 255 && decide (totF ok sentOf c.streams≤c.total.used) && decide (totF ok seenOf c.streams≤c.inflow.seen)
def isConnW (ok:TStream→Bool) (c:TConn):Bool:=connA ok c && arePk c.number c.packets && connB ok c
def isConnS (c:TConn):Bool:=isConnW isStmS c
def isConnI (c:TConn):Bool:=isConnW isStmI c
theorem areStr_congr {ok ok':TStream→Bool} {l:List TStream} (h:∀ s ∈ l,ok s=ok' s):areStr ok l=areStr ok' l:=by unfold areStr;rw [areAsc_congr h]
theorem totF_congr {ok ok':TStream→Bool} {f:TStream→Int} {l:List TStream} (h:∀ s ∈ l,ok s=ok' s):totF ok f l=totF ok' f l:=by unfold totF;rw [areStr_congr h]
theorem isConn_congr {ok ok':TStream→Bool} {c:TConn} (h:∀ s ∈ c.streams,ok s=ok' s):isConnW ok c=isConnW ok' c:=by unfold isConnW connA connB;rw [areStr_congr h,totF_congr h,totF_congr h]
theorem isConn_eq {c:TConn} (h:∀ s ∈ c.streams,noHole s.send):isConnS c=isConnI c:=isConn_congr fun s hs=>isStm_eq (h s hs)
theorem putF_aux (s:TStream):∀ (l:List TStream) (q:List TStream×Bool),(∀ x ∈ (l.foldl (putStep s) q).1,x ∈ q.1∨x ∈ l∨x=s)∧(l.foldl (putStep s) q).1.length + q.2.toNat=q.1.length + l.length + (l.foldl (putStep s) q).2.toNat
 |[],q=>⟨fun x hx=>Or.inl hx,by simp⟩
 |y::l,q=>by
  obtain ⟨h1,h2⟩:=putF_aux s l (putStep s q y)
  rw [List.foldl_cons]
  refine ⟨fun x hx=>?_,?_⟩
  ·rcases h1 x hx with h|h|h
   ·unfold putStep at h
    split at h
    ·simp only [List.mem_append,List.mem_cons,List.not_mem_nil,or_false] at h
     rcases h with h|h|h
     ·exact Or.inl h
     ·exact Or.inr (Or.inr h)
     ·exact Or.inr (Or.inl (by simp [h]))
    ·simp only [List.mem_append,List.mem_cons,List.not_mem_nil,or_false] at h
     rcases h with h|h
     ·exact Or.inl h
     ·exact Or.inr (Or.inl (by simp [h]))
   ·exact Or.inr (Or.inl (List.mem_cons_of_mem _ h))
   ·exact Or.inr (Or.inr h)
  ·have e:(putStep s q y).1.length + q.2.toNat=q.1.length + 1 + (putStep s q y).2.toNat:=by
    unfold putStep
    cases hq:q.2<;>by_cases hlt:s.id < y.id<;>simp [hlt]
   rw [List.length_cons]
   omega
theorem putF_len (s:TStream) (l:List TStream):(putF s l).1.length=l.length + (putF s l).2.toNat:=by
 have:=(putF_aux s l ([],false)).2
 simpa [putF] using this
theorem putS_mem {l:List TStream} {s x:TStream} (h:x ∈ putS l s):x ∈ l∨x=s:=by
 unfold putS at h
 split at h
 ·rcases List.mem_or_eq_of_mem_set h with h|h
  ·exact Or.inl h
  ·exact Or.inr h
 ·have:=(putF_aux s l ([],false)).1 x
  simp only [List.not_mem_nil,false_or] at this
  split at h
  ·exact this h
  ·rcases List.mem_append.1 h with h|h
   ·exact this h
   ·exact Or.inr (by simpa using h)
theorem putS_len (l:List TStream) (s:TStream):(putS l s).length≤l.length + 1:=by
 unfold putS
 split
 ·rw [List.length_set];omega
 ·have:=putF_len s l
  split
  ·rename_i h;rw [this,h];simp
  ·rename_i h;rw [List.length_append,this];simp only [Bool.not_eq_true] at h;rw [h];simp
set_option maxRecDepth 100000
def mxTable0:List (List Rl):=mxD 24 [282429536477,282429536479,282429536472,282429536454,282429536400,282429536238,282429535752,282429534294,282429529920,282429516798,277206298137,277206416235,277206002892,277204940010,277201751364,282250145619,282407983596,282321890154,282049260921,281274419943,278949897009,271969183278,251048476872,188286357654]
def mxTable1:List (List Rl):=mxD 22 [31381059608,31381059606,31381059600,31381059582,31381059528,31381059366,31381058880,31381057422,31381053048,31381039926,31381000560,30862196046,30864144663,30863081781,30859715988,30850150050,30821452236,31316400954,31058120628,30218798142,27894275208,20920706406]
attribute [go_sem] mxTable0 mxTable1
/-- The lists of a stream are no longer than the machine bears. -/
def SzS (s:TStream):Prop:=s.send.pending.length + s.send.flight.length + s.send.acked.length≤1000∧s.send.ring.cells.length≤100∧(∀ c ∈ s.recv.buffer.chunks,c.data.length≤1000)∧s.recv.buffer.chunks.length≤100
set_option maxHeartbeats 1000000 in
theorem spec_FindStream (l:List TStream) (id:Int):PureCall Tryz.prog 76 [.one (.sl 39 (l.map TStream.enc)),.one (.int .i64 id)] [.one (.int .i64 (fIx (idIs id) l))]:=by
 refine pureT 20 Tryz.func76 Tryz.call76 [.tmp 4] ?_
 intro ok
 have hm:=len_of ok
 clear ok
 simp only [go_sem]
 refine LoopK.intro (fun i:Nat=>⟨(.d (.sl 39 (l.map TStream.enc))::.d (.int .i64 id)::jn 3 (.d (.int .i64 i)::jn 14 [])),[]⟩)
  (fun i=>l.length - i) (fun i=>i≤l.length∧(l.take i).any (idIs id)=false) 0 [] ⟨by omega,by simp⟩ ?_ ?_
 ·simp only [go_sem];simp
 ·rintro i ⟨hi,he⟩
  by_cases h1:i < l.length
  ·have h1':decide ((i:Int) < (l.length:Int))=true:=dT (by omega)
   have hxi:=map_at TStream.enc l i h1
   have hw:=inc h1 hm
   try simp only [go_sem,lM,tN,hxi,TStream.enc,h1']
   repeat' (first|(refine cSplit (fun h=>?_) (fun h=>?_)<;>simp only [go_sem])|(with_reducible refine sideI ?_)|fail)
   ·have:=fIx_hit (idIs id) l i h1 he h
    simp [this]
   ·refine RoundE.intro (i + 1) [] ⟨by omega,anyt_step _ l i h1 he h⟩ (by omega) ?_
    simp only [go_sem,hw];try simp
  ·have h1':decide ((i:Int) < (l.length:Int))=false:=dF (by omega)
   obtain rfl:i=l.length:=by omega
   rw [tL] at he
   simp only [go_sem,lM,h1']
   simp [fIx_miss _ _ he]
def stB (ok:TStream→Bool) (l:List TStream) (i:Nat):Bool:=ascB (fun s=>s.id) ok l i
theorem stB_zero (ok:TStream→Bool) (l:List TStream) (h:0 < l.length):stB ok l 0=ok l[0]:=ascB_zero _ _ _ h
theorem stB_succ (ok:TStream→Bool) (l:List TStream) (j:Nat) (h:j + 1 < l.length):stB ok l (j + 1)=(ok l[j + 1] && decide (l[j].id < l[j + 1].id)):=ascB_succ _ _ _ _ h
theorem areStr_all {ok:TStream→Bool} {l:List TStream} (h:allN (stB ok l) l.length=true):areStr ok l=decide ((l.length:Int)≤24):=by
 have:areAsc (fun s:TStream=>s.id) ok l=true:=h
 unfold areStr;rw [this];rfl
theorem areStr_not {ok:TStream→Bool} {l:List TStream} {i:Nat} (hi:i < l.length) (h:stB ok l i=false):areStr ok l=false:=by
 have:areAsc (fun s:TStream=>s.id) ok l=false:=allN_false (stB ok l) hi h
 unfold areStr;rw [this];rfl
set_option maxHeartbeats 2000000 in
theorem spec_AreStreams (l:List TStream) (hz:∀ s ∈ l,SzS s):PureCall Tryz.prog 52 [.one (.sl 39 (l.map TStream.enc))] [.one (.bool (areStr isStmS l))]:=by
 refine pureT 37 Tryz.func52 Tryz.call52 [.tmp 2] ?_
 intro ok
 have hm:=len_of ok
 clear ok
 simp only [go_sem]
 refine LoopK.intro (fun i:Nat=>⟨(.d (.sl 39 (l.map TStream.enc))::.junk::.junk::.d (.int .i64 i)::jn 33 []),[]⟩)
  (fun i=>l.length - i) (fun i=>i≤l.length∧allN (stB isStmS l) i=true) 0 [] ⟨by omega,by simp [allN]⟩ ?_ ?_
 ·simp only [go_sem];simp
 ·rintro i ⟨hi,he⟩
  by_cases h1:i < l.length
  ·have h1':decide ((i:Int) < (l.length:Int))=true:=dT (by omega)
   have hxi:=map_at TStream.enc l i h1
   have hw:=inc h1 hm
   have hs:=allN_succ (stB isStmS l) i
   have hf:=fun h=>areStr_not (ok:=isStmS) (l:=l) h1 h
   obtain ⟨hc,_,hb,hx⟩:=hz _ (List.getElem_mem h1)
   replace hb:∀ c ∈ l[i].recv.buffer.chunks,c.data.length≤1048576:=fun c h=>by have:=hb c h;omega
   have hF:=spec_IsStream l[i].id l[i].send.state l[i].send.ring.size l[i].send.ring.base l[i].send.ring.end' l[i].send.ring.cells l[i].send.pending l[i].send.flight l[i].send.acked l[i].send.final l[i].send.fin l[i].send.sent l[i].send.code l[i].credit.limit l[i].credit.used l[i].credit.blocked l[i].credit.told l[i].recv.state l[i].recv.buffer.next l[i].recv.buffer.chunks l[i].recv.final l[i].recv.highest l[i].recv.code l[i].window.size l[i].window.most l[i].window.limit l[i].window.seen l[i].window.read l[i].window.since l[i].priority.urgency l[i].priority.incremental l[i].canSend l[i].canRecv l[i].tellReset l[i].tellStop l[i].tellMost l[i].stopped l[i].stopCode l[i].counted (by omega) hb (by omega)
   change PureCall _ _ _ [.one (.bool (isStmS l[i]))] at hF
   cases i with
   |zero=>
    have hb:=stB_zero isStmS l h1
    have h2:decide ((0:Int) < ((0:Nat):Int))=false:=by decide
    try simp only [go_sem,lM,h1']
    repeat' (first|((first|refine CallS.intro (by assumption) ?_|refine CallK.intro (by assumption) ?_|with_reducible refine gFalse ?_|refine gSym ?_|refine drawE_intro mxTable0 (by kernel_rfl) (by rfl) ?_|refine cSplit (fun h=>?_) (fun h=>?_))<;>simp only [go_sem,lM,tN,hxi,TStream.enc,h2])|(with_reducible refine sideI ?_)|fail)
    ·have e:stB isStmS l 0=false:=by rw [hb];revert h;cases isStmS l[0]<;>simp
     simp [hf e]
    ·have e:stB isStmS l 0=true:=by rw [hb];revert h;cases isStmS l[0]<;>simp
     refine RoundE.intro 1 [] ⟨by omega,by rw [hs,he,e];rfl⟩ (by omega) ?_
     simp only [go_sem,hw];try simp
   |succ j=>
    have hb:=stB_succ isStmS l j h1
    have hxj:=map_at TStream.enc l j (by omega)
    have h2:decide ((0:Int) < ((j + 1:Nat):Int))=true:=dT (by omega)
    have hp:IntKind.i64.wrap (((j + 1:Nat):Int) - 1)=(j:Int):=by simp only [maxLen] at hm;rw [w64]<;>omega
    try simp only [go_sem,lM,h1']
    repeat' (first|((first|refine CallS.intro (by assumption) ?_|refine CallK.intro (by assumption) ?_|refine gSym ?_|refine drawE_intro mxTable0 (by kernel_rfl) (by rfl) ?_|refine cSplit (fun h=>?_) (fun h=>?_))<;>simp only [go_sem,lM,tN,hxi,hxj,TStream.enc,h2,hp])|(with_reducible refine sideI ?_)|fail)
    ·have e:stB isStmS l (j + 1)=false:=by rw [hb];revert h;cases isStmS l[j + 1]<;>simp
     simp [hf e]
    ·have e:stB isStmS l (j + 1)=true:=by rw [hb];revert h;cases isStmS l[j + 1]<;>simp
     refine RoundE.intro (j + 1 + 1) [] ⟨by omega,by rw [hs,he,e];rfl⟩ (by omega) ?_
     simp only [go_sem,hw];try simp
  ·have h1':decide ((i:Int) < (l.length:Int))=false:=dF (by omega)
   obtain rfl:i=l.length:=by omega
   simp only [go_sem,lM,h1']
   simp [areStr_all he]
set_option maxHeartbeats 2000000 in
theorem impl_AreStreams (l:List TStream) (hz:∀ s ∈ l,SzS s):PureCall Tryz.prog 42 [.one (.sl 39 (l.map TStream.enc))] [.one (.bool (areStr isStmI l))]:=by
 refine pureT 35 Tryz.func42 Tryz.call42 [.tmp 2] ?_
 intro ok
 have hm:=len_of ok
 clear ok
 simp only [go_sem,lM]
 refine LoopK.intro (fun i:Nat=>⟨(.d (.sl 39 (l.map TStream.enc))::jn 4 (.d (.sl 39 (l.map TStream.enc))::.d (.int .i64 l.length)::.d (.int .i64 i)::jn 27 [])),[]⟩)
  (fun i=>l.length - i) (fun i=>i≤l.length∧i≤24∧allN (stB isStmI l) i=true) 0 [] ⟨by omega,by omega,by simp [allN]⟩ ?_ ?_
 ·simp only [go_sem];simp
 ·rintro i ⟨hi,hi24,he⟩
  by_cases h1:i < l.length
  ·have h1':decide ((i:Int) < (l.length:Int))=true:=dT (by omega)
   have hxi:=map_at TStream.enc l i h1
   have hw:=inc h1 hm
   by_cases h24:i=24
   ·have h3:decide ((24:Int)≤(i:Int))=true:=dT (by omega)
    have hr:areStr isStmI l=false:=by unfold areStr;rw [show decide ((l.length:Int)≤24)=false from dF (by omega)];simp
    cases i with
    |zero=>omega
    |succ j=>
     have h2:decide ((0:Int) < ((j + 1:Nat):Int))=true:=dT (by omega)
     try simp only [go_sem,lM,tN,hxi,TStream.enc,h1']
     repeat' (first|((first|with_reducible refine gFalse ?_|refine drawE_intro mxTable1 (by kernel_rfl) (by rfl) ?_)<;>simp only [go_sem,h3])|(with_reducible refine sideI ?_)|fail)
     all_goals simp [hr]
   ·have h3:decide ((24:Int)≤(i:Int))=false:=dF (by omega)
    have hs:=allN_succ (stB isStmI l) i
    have hf:=fun h=>areStr_not (ok:=isStmI) (l:=l) h1 h
    obtain ⟨hc,_,hb,hx⟩:=hz _ (List.getElem_mem h1)
    replace hb:∀ c ∈ l[i].recv.buffer.chunks,c.data.length≤1048576:=fun c h=>by have:=hb c h;omega
    have hF:=impl_IsStream l[i].id l[i].send.state l[i].send.ring.size l[i].send.ring.base l[i].send.ring.end' l[i].send.ring.cells l[i].send.pending l[i].send.flight l[i].send.acked l[i].send.final l[i].send.fin l[i].send.sent l[i].send.code l[i].credit.limit l[i].credit.used l[i].credit.blocked l[i].credit.told l[i].recv.state l[i].recv.buffer.next l[i].recv.buffer.chunks l[i].recv.final l[i].recv.highest l[i].recv.code l[i].window.size l[i].window.most l[i].window.limit l[i].window.seen l[i].window.read l[i].window.since l[i].priority.urgency l[i].priority.incremental l[i].canSend l[i].canRecv l[i].tellReset l[i].tellStop l[i].tellMost l[i].stopped l[i].stopCode l[i].counted (by omega) hb (by omega)
    change PureCall _ _ _ [.one (.bool (isStmI l[i]))] at hF
    cases i with
    |zero=>
     have hb:=stB_zero isStmI l h1
     have h2:decide ((0:Int) < ((0:Nat):Int))=false:=by decide
     try simp only [go_sem,lM,tN,hxi,TStream.enc,h1']
     repeat' (first|((first|refine CallS.intro (by assumption) ?_|refine CallK.intro (by assumption) ?_|with_reducible refine gTrue ?_|with_reducible refine gFalse ?_|refine gSym ?_|refine drawE_intro mxTable1 (by kernel_rfl) (by rfl) ?_|refine cSplit (fun h=>?_) (fun h=>?_))<;>simp only [go_sem,h2,h3])|(with_reducible refine sideI ?_)|fail)
     ·have e:stB isStmI l 0=false:=by rw [hb];revert h;cases isStmI l[0]<;>simp
      simp [hf e]
     ·have e:stB isStmI l 0=true:=by rw [hb];revert h;cases isStmI l[0]<;>simp
      refine RoundE.intro 1 [] ⟨by omega,by omega,by rw [hs,he,e];rfl⟩ (by omega) ?_
      simp only [go_sem,hw];try simp
    |succ j=>
     have hb:=stB_succ isStmI l j h1
     have hxj:=map_at TStream.enc l j (by omega)
     have h2:decide ((0:Int) < ((j + 1:Nat):Int))=true:=dT (by omega)
     have hp:IntKind.i64.wrap (((j + 1:Nat):Int) - 1)=(j:Int):=by simp only [maxLen] at hm;rw [w64]<;>omega
     try simp only [go_sem,lM,tN,hxi,TStream.enc,h1']
     repeat' (first|((first|refine CallS.intro (by assumption) ?_|refine CallK.intro (by assumption) ?_|with_reducible refine gTrue ?_|refine gSym ?_|refine drawE_intro mxTable1 (by kernel_rfl) (by rfl) ?_|refine cSplit (fun h=>?_) (fun h=>?_))<;>simp only [go_sem,lM,tN,hxj,TStream.enc,h2,hp,h3])|(with_reducible refine sideI ?_)|fail)
     ·have e:stB isStmI l (j + 1)=false:=by rw [hb];revert h;cases isStmI l[j + 1]<;>simp
      simp [hf e]
     ·have e:stB isStmI l (j + 1)=true:=by rw [hb];revert h;cases isStmI l[j + 1]<;>simp
      refine RoundE.intro (j + 1 + 1) [] ⟨by omega,by omega,by rw [hs,he,e];rfl⟩ (by omega) ?_
      simp only [go_sem,hw];try simp
  ·have h1':decide ((i:Int) < (l.length:Int))=false:=dF (by omega)
   obtain rfl:i=l.length:=by omega
   have hr:areStr isStmI l=true:=by rw [areStr_all he];exact dT (by omega)
   simp only [go_sem,h1']
   simp [hr]
set_option maxRecDepth 100000
def mxTableB0:List (List Rl):=mxD 12 [531440,531438,531432,505089,505143,504954,504468,503010,528147,515025,472392,354294]
attribute [go_sem] mxTableB0
theorem ite_any {p:Prop} {d1 d2:Decidable p} {α:Type} (a b:α):@ite α p d1 a b=@ite α p d2 a b:=by rw [Subsingleton.elim d1 d2]
theorem putS_some {l:List TStream} {s:TStream} {i:Nat} (h:fIx (idIs s.id) l=(i:Int)):putS l s=l.set i s:=by
 unfold putS;unfold fIx at h
 split at h
 ·rename_i j hj;first|(rw [hj];simp only;congr 1;omega)|(congr 1;omega)
 ·omega
theorem putS_none {l:List TStream} {s:TStream} (h:fIx (idIs s.id) l=-1):putS l s=if (putF s l).2 then (putF s l).1 else (putF s l).1++[s]:=by
 unfold putS;unfold fIx at h
 split at h
 ·omega
 ·rename_i hj;first|rw [hj]|rfl
theorem putF_take (s:TStream) (l:List TStream) (i:Nat) (h:i < l.length):putF s (l.take (i + 1))=putStep s (putF s (l.take i)) l[i]:=by
 unfold putF
 rw [List.take_add_one,gE h,List.foldl_append];rfl
set_option maxHeartbeats 4000000 in
theorem spec_PutStream (l:List TStream) (s:TStream) (hl:l.length≤1000) (hz:∀ x ∈ l,SzS x) (hs:SzS s):PureCall Tryz.prog 40 [.one (.sl 39 (l.map TStream.enc)),.agg (TStream.enc s)] [.one (.sl 39 (((putS l s)).map TStream.enc))]:=by
 refine pureT 66 Tryz.func40 Tryz.call40 [.tmp 4] ?_
 intro ok
 have hm:=len_of ok
 clear ok
 obtain ⟨s1,s2,s3,s4⟩:=hs
 simp only [go_sem]
 refine CallS.intro (spec_FindStream l s.id) ?_
 simp only [go_sem]
 rcases fIx_cases (idIs s.id) l with ⟨h1,h2⟩|⟨j,hj,h1,h2,h3⟩
 ·have hE:=putS_none h1
  rw [h1]
  refine LoopK.intro (fun i:Nat=>⟨(.d (.sl 39 (l.map TStream.enc))::.junk::.junk::.ptr 0 0 0::.junk::.sl 1 0 (putF s (l.take i)).1.length::.d (.int .i64 (-1))::.d (.bool (putF s (l.take i)).2)::.d (.int .i64 i)::jn 57 []),[.box (TStream.ve s),.arr 39 ((putF s (l.take i)).1.map TStream.enc) true]⟩)
   (fun i=>l.length - i) (fun i=>i≤l.length) 0 [0,1] (by omega) ?_ ?_
  ·simp only [go_sem];simp [putF]
  ·intro i hi
   have hln:=putF_len s (l.take i)
   have hT:(l.take i).length=i:=by simp;omega
   rw [hT] at hln
   have hb:(putF s (l.take i)).2.toNat≤1:=Bool.toNat_le _
   by_cases h4:i < l.length
   ·have h4':decide ((i:Int) < (l.length:Int))=true:=dT (by omega)
    have hxi:=map_at TStream.enc l i h4
    have hw:=inc h4 hm
    obtain ⟨z1,z2,z3,z4⟩:=hz _ (List.getElem_mem h4)
    have hst:=putF_take s l i h4
    have h5:decide ((i:Int)=-1)=false:=dF (by omega)
    generalize putF s (l.take i)=q at *
    obtain ⟨out,placed⟩:=q
    simp only at hln hb
    simp only [TStream.enc] at hxi
    cases placed with
    |true=>
     have hst':putStep s (out,true) l[i]=(out++[l[i]],true):=rfl
     try simp only [go_sem,lM,tN,hxi,h4']
     repeat' (first|((first|refine CallS.intro (by (apply spec_l15Copy<;>first|assumption|omega)) ?_|with_reducible refine gFalse ?_|refine drawE_intro mxTableB0 (by kernel_rfl) (by rfl) ?_)<;>simp only [go_sem,lM,Bool.cond_self])|(with_reducible refine sideI ?_)|fail)
     all_goals (refine RoundE.intro (i + 1) [0,9] (by omega) (by omega) ?_;simp only [go_sem,hw,hst,hst'];simp [TStream.enc])
    |false=>
     cases hd:decide (s.id < l[i].id) with
     |true=>
      have hst':putStep s (out,false) l[i]=(out++[s,l[i]],true):=by unfold putStep;rw [hd];rfl
      try simp only [go_sem,lM,tN,hxi,h4']
      repeat' (first|((first|refine CallS.intro (by (apply spec_l15Copy<;>first|assumption|omega)) ?_|with_reducible refine gTrue ?_|refine drawE_intro mxTableB0 (by kernel_rfl) (by rfl) ?_)<;>simp only [go_sem,lM,tN,hxi,hd])|(with_reducible refine sideI ?_)|fail)
      all_goals (refine RoundE.intro (i + 1) [0,17] (by omega) (by omega) ?_;simp only [go_sem,hw,hst,hst'];simp [TStream.enc])
     |false=>
      have hst':putStep s (out,false) l[i]=(out++[l[i]],false):=by unfold putStep;rw [hd];rfl
      try simp only [go_sem,lM,tN,hxi,h4']
      repeat' (first|((first|refine CallS.intro (by (apply spec_l15Copy<;>first|assumption|omega)) ?_|with_reducible refine gTrue ?_|refine drawE_intro mxTableB0 (by kernel_rfl) (by rfl) ?_)<;>simp only [go_sem,lM,tN,hxi,hd])|(with_reducible refine sideI ?_)|fail)
      all_goals (refine RoundE.intro (i + 1) [0,9] (by omega) (by omega) ?_;simp only [go_sem,hw,hst,hst'];simp [TStream.enc])
   ·have h4':decide ((i:Int) < (l.length:Int))=false:=dF (by omega)
    obtain rfl:i=l.length:=by omega
    rw [tL] at *
    generalize putF s l=q at *
    obtain ⟨out,placed⟩:=q
    cases placed with
    |true=>
     try simp only [go_sem,lM,h4']
     repeat' (first|(with_reducible refine sideI ?_)|fail)
     all_goals simp [hE]
    |false=>
     try simp only [go_sem,lM,h4']
     repeat' (first|(refine CallS.intro (by (apply spec_l15Copy<;>first|assumption|omega)) ?_<;>simp only [go_sem,lM])|(with_reducible refine sideI ?_)|fail)
     all_goals (simp only [Bool.toNat_false] at hln;refine ⟨⟨by omega,rfl⟩,by simp,?_⟩;simp [hE,TStream.enc,List.take_of_length_le])
 ·have hE:=putS_some h1
  rw [h1]
  have h6:decide ((0:Int)≤(j:Int))=true:=dT (by omega)
  simp only [go_sem,h6]
  refine LoopK.intro (fun i:Nat=>⟨(.d (.sl 39 (l.map TStream.enc))::.junk::.junk::.ptr 0 0 0::.junk::.sl 1 0 i::.d (.int .i64 (j:Int))::.d (.bool true)::.d (.int .i64 i)::jn 57 []),[.box (TStream.ve s),.arr 39 (((l.set j s).take i).map TStream.enc) true]⟩)
   (fun i=>l.length - i) (fun i=>i≤l.length) 0 [0,1] (by omega) ?_ ?_
  ·simp only [go_sem];simp
  ·intro i hi
   have hT:((l.set j s).take i).length=i:=by simp;omega
   by_cases h4:i < l.length
   ·have h4':decide ((i:Int) < (l.length:Int))=true:=dT (by omega)
    have hxi:=map_at TStream.enc l i h4
    have hw:=inc h4 hm
    obtain ⟨z1,z2,z3,z4⟩:=hz _ (List.getElem_mem h4)
    have hst:(l.set j s).take (i + 1)=(l.set j s).take i++[(l.set j s)[i]'(by simpa using h4)]:=by
     rw [List.take_add_one,gE (by simpa using h4)];rfl
    simp only [TStream.enc] at hxi
    by_cases hij:i=j
    ·subst hij
     have hq:(l.set i s)[i]'(by simpa using h4)=s:=by simp
     rw [hq] at hst
     have h5:decide ((i:Int)=(i:Int))=true:=by simp
     try simp only [go_sem,lM,tN,hxi,h4']
     repeat' (first|(refine CallS.intro (by (apply spec_l15Copy<;>first|assumption|omega)) ?_<;>simp only [go_sem,lM])|(with_reducible refine sideI ?_)|fail)
     all_goals (refine RoundE.intro (i + 1) [0,14] (by omega) (by omega) ?_;simp only [go_sem,hw,hst];simp [TStream.enc];omega)
    ·have hq:(l.set j s)[i]'(by simpa using h4)=l[i]:=by rw [List.getElem_set_ne (by omega)]
     rw [hq] at hst
     have h5:decide ((i:Int)=(j:Int))=false:=dF (by omega)
     try simp only [go_sem,lM,tN,hxi,h4']
     repeat' (first|((first|refine CallS.intro (by (apply spec_l15Copy<;>first|assumption|omega)) ?_|with_reducible refine gFalse ?_|refine drawE_intro mxTableB0 (by kernel_rfl) (by rfl) ?_)<;>simp only [go_sem,lM,h5,Bool.cond_self])|(with_reducible refine sideI ?_)|fail)
     all_goals (refine RoundE.intro (i + 1) [0,9] (by omega) (by omega) ?_;simp only [go_sem,hw,hst];simp [TStream.enc];omega)
   ·have h4':decide ((i:Int) < (l.length:Int))=false:=dF (by omega)
    obtain rfl:i=l.length:=by omega
    have hT2:(l.set j s).take l.length=l.set j s:=List.take_of_length_le (by simp)
    try simp only [go_sem,lM,h4',hT2]
    have hT3:∀ v,List.take l.length ((l.map TStream.enc).set j v)=(l.map TStream.enc).set j v:=fun v=>List.take_of_length_le (by simp)
    all_goals simp [hE,outOA,hT3]
theorem tot_take (f:TStream→Int) (l:List TStream) (i:Nat) (h:i < l.length):(l.take (i + 1)).foldl (totStep f) 0=totStep f ((l.take i).foldl (totStep f) 0) l[i]:=by
 rw [List.take_add_one,gE h,List.foldl_append];rfl
theorem totF_true {ok:TStream→Bool} {f:TStream→Int} {l:List TStream} (h:areStr ok l=true):totF ok f l=l.foldl (totStep f) 0:=by unfold totF;rw [h];rfl
theorem totF_false {ok:TStream→Bool} {f:TStream→Int} {l:List TStream} (h:areStr ok l=false):totF ok f l=0:=by unfold totF;rw [h];rfl
set_option maxHeartbeats 2000000 in
theorem spec_SentTotal (l:List TStream) (hz:∀ x ∈ l,SzS x):PureCall Tryz.prog 22 [.one (.sl 39 (l.map TStream.enc))] [.one (.int .i64 (totF isStmS sentOf l))]:=by
 refine pureT 25 Tryz.func22 Tryz.call22 [.tmp 2] ?_
 intro ok
 have hm:=len_of ok
 clear ok
 simp only [go_sem]
 cases hA:areStr isStmS l with
 |false=>
  have hE:=totF_false (f:=sentOf) hA
  refine LoopK.intro (fun i:Nat=>⟨(.d (.sl 39 (l.map TStream.enc))::.junk::.junk::.d (.int .i64 0)::.d (.int .i64 i)::jn 20 []),[]⟩)
   (fun i=>0) (fun i=>i=0) 0 [] rfl ?_ ?_
  ·simp only [go_sem];simp
  ·rintro i rfl
   try simp only [go_sem,lM]
   repeat' ((first|refine CallK.intro (by (apply spec_AreStreams<;>first|assumption|omega)) ?_|refine gSymS ?_)<;>simp only [go_sem,hA,Bool.cond_self])
   all_goals simp [hE]
 |true=>
  have hE:=totF_true (f:=sentOf) hA
  refine LoopK.intro (fun i:Nat=>⟨(.d (.sl 39 (l.map TStream.enc))::.junk::.junk::.d (.int .i64 ((l.take i).foldl (totStep sentOf) 0))::.d (.int .i64 i)::jn 20 []),[]⟩)
   (fun i=>l.length - i) (fun i=>i≤l.length) 0 [] (by omega) ?_ ?_
  ·simp only [go_sem];simp
  ·intro i hi
   by_cases h1:i < l.length
   ·have h1':decide ((i:Int) < (l.length:Int))=true:=dT (by omega)
    have hxi:=map_at TStream.enc l i h1
    have hw:=inc h1 hm
    have hs:=tot_take sentOf l i h1
    try simp only [go_sem,lM,h1']
    repeat' (first|((first|refine CallS.intro (by (apply spec_AreStreams<;>first|assumption|omega)) ?_|with_reducible refine gTrueS ?_)<;>simp only [go_sem,lM,tN,hxi,TStream.enc,hA])|(with_reducible refine sideI ?_)|fail)
    all_goals (refine RoundE.intro (i + 1) [] (by omega) (by omega) ?_;simp only [go_sem,hw,hs];simp [totStep,sentOf];try exact ite_any _ _)
   ·have h1':decide ((i:Int) < (l.length:Int))=false:=dF (by omega)
    obtain rfl:i=l.length:=by omega
    try simp only [go_sem,lM,h1',tL]
    repeat' (first|(with_reducible refine gFalseS ?_<;>simp only [go_sem,Bool.cond_self]))
    all_goals simp [hE]
set_option maxHeartbeats 2000000 in
theorem spec_SeenTotal (l:List TStream) (hz:∀ x ∈ l,SzS x):PureCall Tryz.prog 24 [.one (.sl 39 (l.map TStream.enc))] [.one (.int .i64 (totF isStmS seenOf l))]:=by
 refine pureT 25 Tryz.func24 Tryz.call24 [.tmp 2] ?_
 intro ok
 have hm:=len_of ok
 clear ok
 simp only [go_sem]
 cases hA:areStr isStmS l with
 |false=>
  have hE:=totF_false (f:=seenOf) hA
  refine LoopK.intro (fun i:Nat=>⟨(.d (.sl 39 (l.map TStream.enc))::.junk::.junk::.d (.int .i64 0)::.d (.int .i64 i)::jn 20 []),[]⟩)
   (fun i=>0) (fun i=>i=0) 0 [] rfl ?_ ?_
  ·simp only [go_sem];simp
  ·rintro i rfl
   try simp only [go_sem,lM]
   repeat' ((first|refine CallK.intro (by (apply spec_AreStreams<;>first|assumption|omega)) ?_|refine gSymS ?_)<;>simp only [go_sem,hA,Bool.cond_self])
   all_goals simp [hE]
 |true=>
  have hE:=totF_true (f:=seenOf) hA
  refine LoopK.intro (fun i:Nat=>⟨(.d (.sl 39 (l.map TStream.enc))::.junk::.junk::.d (.int .i64 ((l.take i).foldl (totStep seenOf) 0))::.d (.int .i64 i)::jn 20 []),[]⟩)
   (fun i=>l.length - i) (fun i=>i≤l.length) 0 [] (by omega) ?_ ?_
  ·simp only [go_sem];simp
  ·intro i hi
   by_cases h1:i < l.length
   ·have h1':decide ((i:Int) < (l.length:Int))=true:=dT (by omega)
    have hxi:=map_at TStream.enc l i h1
    have hw:=inc h1 hm
    have hs:=tot_take seenOf l i h1
    try simp only [go_sem,lM,h1']
    repeat' (first|((first|refine CallS.intro (by (apply spec_AreStreams<;>first|assumption|omega)) ?_|with_reducible refine gTrueS ?_)<;>simp only [go_sem,lM,tN,hxi,TStream.enc,hA])|(with_reducible refine sideI ?_)|fail)
    all_goals (refine RoundE.intro (i + 1) [] (by omega) (by omega) ?_;simp only [go_sem,hw,hs];simp [totStep,seenOf];try exact ite_any _ _)
   ·have h1':decide ((i:Int) < (l.length:Int))=false:=dF (by omega)
    obtain rfl:i=l.length:=by omega
    try simp only [go_sem,lM,h1',tL]
    repeat' (first|(with_reducible refine gFalseS ?_<;>simp only [go_sem,Bool.cond_self]))
    all_goals simp [hE]
set_option maxRecDepth 100000
def mxConnW0:List (List Rl):=mxD 41 [36472996377170776916,36472996377170776914,36472996377170776921,36472996377170776899,36472996377170776845,36472996377170776683,36472996377170786038,36472996377170784580,36472996377170780206,36472996377170766720,36472996377170727354,36472996377170609256,36472996377170254962,36472996377169192080,36472996377166003434,36472984943861246454,36472984943832548640,36472984943932990989,36472984943617315035,36472984942842474057,36472984940517951123,36472995995360720040,36472995974440013634,36472996330092022536,36472996141805664882,36472995535105179108,36472993840527960222,36472988756796303564,36472973500378331442,36472927746793421520,36472790486038691754,36472378703774502456,36454466175282267993,36450760134904564311,36463731276226527198,36422964832071786696,36322901741873787282,36022712471279789040,35122144659497794314,32420441224151810136,24315330918113857602]
def mxConnW1:List (List Rl):=mxD 37 [450283905890997362,450283905890997360,450283905890997354,450283905890997336,450283905890997282,450283905890997120,450283905890996634,450283905890995176,450283905890990802,450283905890977680,450283905890938314,450283905890820216,450283905890465922,450283905889403040,450283905886214394,450283905876648456,450283905847950642,450283905761857200,450283905503576874,450283496774960979,450283494450438045,450283487476869243,450283889619336825,450283826857217607,450283638570859953,450283058602387920,450281364025169034,450276280293512376,442231274946851091,442185521361941169,442048260607211403,449963630796627909,448728284004060015,445022243626356333,433606724191330794,400252360791997656,300189270593998242]
attribute [go_sem] mxConnW0 mxConnW1
/-- A connection's lists are no longer than the machine bears. -/
def SzP (p:TPacket):Prop:=p.frames.length≤500∧∀ f ∈ p.frames,f.data.length≤60
def SzC (c:TConn):Prop:=c.streams.length≤30∧(∀ s ∈ c.streams,SzS s)∧c.packets.length≤30∧∀ p ∈ c.packets,SzP p
theorem sumB_le {α:Type} (f:α→Nat) (m:Nat):∀ (xs:List α),(∀ x ∈ xs,f x≤m)→sumB f xs≤m * xs.length
 |[],_=>by simp [sumB]
 |x::xs,h=>by
  have h1:=sumB_le f m xs (fun y hy=>h y (List.mem_cons_of_mem _ hy))
  have h2:=h x (by simp)
  have e:sumB f (x::xs)=f x + sumB f xs:=by simp [sumB]
  rw [e,List.length_cons,Nat.mul_add]
  omega
theorem bulkS {s:TStream} (h:SzS s):TStream.bulk s≤101300:=by
 obtain ⟨h1,h2,h3,h4⟩:=h
 have:=sumB_le TChunk.bulk 1000 s.recv.buffer.chunks h3
 simp only [TStream.bulk,TSender.bulk,TRing.bulk,TReceiver.bulk,TBuffer.bulk]
 omega
theorem bulkP {p:TPacket} (h:SzP p):TPacket.bulk p≤30500:=by
 obtain ⟨h1,h2⟩:=h
 have:=sumB_le TFrame.bulk 60 p.frames h2
 simp only [TPacket.bulk]
 omega
theorem bulkC {c:TConn} (h:SzC c):TConn.bulk c≤4194304:=by
 obtain ⟨h1,h2,h3,h4⟩:=h
 have a:=sumB_le TStream.bulk 101300 c.streams fun s hs=>bulkS (h2 s hs)
 have b:=sumB_le TPacket.bulk 30500 c.packets fun p hp=>bulkP (h4 p hp)
 simp only [TConn.bulk]
 omega
theorem all_succ {α:Type} (p:α→Bool) (xs:List α) (i:Nat) (h:i < xs.length):(xs.take (i + 1)).all p=((xs.take i).all p && p xs[i]):=by
 rw [List.take_add_one,gE h,List.all_append];simp
theorem all_not {α:Type} (p:α→Bool) (xs:List α) (i:Nat) (h:i < xs.length) (h2:p xs[i]=false):xs.all p=false:=by
 rw [List.all_eq_false];exact ⟨_,List.getElem_mem h,by simp [h2]⟩
set_option maxHeartbeats 1000000 in
theorem spec_l17Frames (xs:List TFrame):PureCall Tryz.prog 58 [.one (.sl 9 (xs.map TFrame.enc))] [.one (.bool (xs.all isFrame))]:=by
 refine pureT 16 Tryz.func58 Tryz.call58 [.tmp 2] ?_
 intro ok
 have hm:=len_of ok
 clear ok
 simp only [go_sem]
 refine LoopK.intro (fun i:Nat=>⟨(.d (.sl 9 (xs.map TFrame.enc))::.junk::.junk::.d (.int .i64 i)::jn 12 []),[]⟩)
  (fun i=>xs.length - i) (fun i=>i≤xs.length∧(xs.take i).all isFrame=true) 0 [] ⟨by omega,by simp⟩ ?_ ?_
 ·simp only [go_sem];simp
 ·rintro i ⟨hi,he⟩
  by_cases h1:i < xs.length
  ·have h1':decide ((i:Int) < (xs.length:Int))=true:=dT (by omega)
   have hxi:=map_at TFrame.enc xs i h1
   have hw:=inc h1 hm
   have hs:=all_succ isFrame xs i h1
   have hF:=spec_IsFrame xs[i].kind xs[i].stream xs[i].offset xs[i].data xs[i].fin xs[i].code xs[i].limit xs[i].final xs[i].uni
   change PureCall _ _ _ [.one (.bool (isFrame xs[i]))] at hF
   try simp only [go_sem,lM,tN,hxi,TFrame.enc,h1']
   repeat' (first|((first|refine CallS.intro (by assumption) ?_|refine CallK.intro (by assumption) ?_|refine cSplit (fun h=>?_) (fun h=>?_))<;>simp only [go_sem])|(with_reducible refine sideI ?_)|fail)
   ·have:=all_not isFrame xs i h1 (by simpa using h)
    simp [this]
   ·refine RoundE.intro (i + 1) [] ⟨by omega,by rw [hs,he];simpa using h⟩ (by omega) ?_
    simp only [go_sem,hw];try simp
  ·have h1':decide ((i:Int) < (xs.length:Int))=false:=dF (by omega)
   obtain rfl:i=xs.length:=by omega
   rw [tL] at he
   simp only [go_sem,lM,h1']
   simp [he]
def pkB (n:Int) (l:List TPacket) (i:Nat):Bool:=ascB (fun p=>p.number) (okPk n) l i
theorem pkB_zero (n:Int) (l:List TPacket) (h:0 < l.length):pkB n l 0=(inB l[0].number 0 (IntKind.i64.wrap (n - 1)) && l[0].frames.all isFrame):=ascB_zero _ _ _ h
theorem pkB_succ (n:Int) (l:List TPacket) (j:Nat) (h:j + 1 < l.length):pkB n l (j + 1)=(inB l[j + 1].number 0 (IntKind.i64.wrap (n - 1)) && l[j + 1].frames.all isFrame && decide (l[j].number < l[j + 1].number)):=ascB_succ _ _ _ _ h
theorem connA_guard (ok:TStream→Bool) (c:TConn):(bif bif bif bif bif bif bif bif !isConf c.own then true else !isConf c.peer then true else !areStr ok c.streams then true else !isCredit c.total then true else !isWin c.inflow then true else !isCount c.openBidi then true else !isCount c.openUni then true else !isAllow c.allowBidi then true else !isAllow c.allowUni)=!connA ok c:=by
 unfold connA
 cases isConf c.own<;>cases isConf c.peer<;>cases areStr ok c.streams<;>cases isCredit c.total<;>cases isWin c.inflow<;>cases isCount c.openBidi<;>cases isCount c.openUni<;>cases isAllow c.allowBidi<;>cases isAllow c.allowUni<;>rfl
theorem connB_bool (ok:TStream→Bool) (c:TConn):(bif bif bif bif bif inB c.last (-1) 4611686018427387903 then inB c.number 0 1000000 else false then inB c.now 0 1000000 else false then inB c.closed 0 255 else false then decide (totF ok sentOf c.streams≤c.total.used) else false then decide (totF ok seenOf c.streams≤c.inflow.seen) else false)=connB ok c:=by
 unfold connB;simp only [bif_and]
set_option maxHeartbeats 8000000 in
theorem spec_IsConn (c:TConn) (hz:SzC c):PureCall Tryz.prog 21 [.agg (TConn.enc c)] [.one (.bool (isConnS c))]:=by
 refine pureT 140 Tryz.func21 Tryz.call21 [.tmp 2] ?_
 intro ok
 clear ok
 obtain ⟨z1,z2,z3,z4⟩:=hz
 have hE:=connA_guard isStmS c
 have hB:=connB_bool isStmS c
 have hI:isConnS c=(connA isStmS c && arePk c.number c.packets && connB isStmS c):=rfl
 try simp only [go_sem]
 repeat' ((first|refine CallS.intro (by apply spec_IsConf) ?_|refine CallK.intro (by first|apply spec_IsConf|(apply spec_AreStreams<;>first|assumption|omega)|apply spec_IsCredit|apply spec_IsWindow|apply spec_IsCount|apply spec_IsAllow) ?_|refine gSymS ?_)<;>simp only [go_sem])
 rw [hE]
 cases hA:connA isStmS c with
 |false=>
  simp only [go_sem,Bool.not_false]
  simp [hI,hA]
 |true=>
  rw [hA] at hI
  simp only [go_sem,Bool.not_true]
  refine LoopK.intro (fun i:Nat=>⟨(.junk::.ptr 0 0 0::.junk::.d (.int .i64 i)::jn 136 []),[.box (TConn.ve c)]⟩)
   (fun i=>c.packets.length - i) (fun i=>i≤c.packets.length∧allN (pkB c.number c.packets) i=true) 0 [0] ⟨by omega,by simp [allN]⟩ ?_ ?_
  ·simp only [go_sem];simp
  ·rintro i ⟨hi,he⟩
   by_cases h1:i < c.packets.length
   ·have h1':decide ((i:Int) < (c.packets.length:Int))=true:=dT (by omega)
    have hxi:=map_at TPacket.enc c.packets i h1
    have hw:IntKind.i64.wrap ((i:Int) + 1)=((i + 1:Nat):Int):=by rw [w64]<;>omega
    have hs:=allN_succ (pkB c.number c.packets) i
    have hf:pkB c.number c.packets i=false→arePk c.number c.packets=false:=fun h=>allN_false (pkB c.number c.packets) h1 h
    cases i with
    |zero=>
     have hb:=pkB_zero c.number c.packets h1
     have h2:decide ((0:Int) < ((0:Nat):Int))=false:=by decide
     try simp only [go_sem,lM,h1']
     repeat' (first|((first|refine CallK.intro (by first|apply spec_l1In|apply spec_l17Frames) ?_|with_reducible refine gFalse ?_|refine gSym ?_|refine drawE_intro mxConnW0 (by kernel_rfl) (by rfl) ?_|refine cSplit (fun h=>?_) (fun h=>?_))<;>simp only [go_sem,lM,tN,hxi,TPacket.enc,h2])|(with_reducible refine sideI ?_)|fail)
     ·have e:pkB c.number c.packets 0=false:=by rw [hb];revert h;cases inB c.packets[0].number 0 (IntKind.i64.wrap (c.number - 1))<;>cases c.packets[0].frames.all isFrame<;>simp
      simp [hI,hf e]
     ·have e:pkB c.number c.packets 0=true:=by rw [hb];revert h;cases inB c.packets[0].number 0 (IntKind.i64.wrap (c.number - 1))<;>cases c.packets[0].frames.all isFrame<;>simp
      refine RoundE.intro 1 [0] ⟨by omega,by rw [hs,he,e];rfl⟩ (by omega) ?_
      simp only [go_sem,hw];try simp
    |succ j=>
     have hb:=pkB_succ c.number c.packets j h1
     have hxj:=map_at TPacket.enc c.packets j (by omega)
     have h2:decide ((0:Int) < ((j + 1:Nat):Int))=true:=dT (by omega)
     have hp:IntKind.i64.wrap (((j + 1:Nat):Int) - 1)=(j:Int):=by rw [w64]<;>omega
     try simp only [go_sem,lM,h1']
     repeat' (first|((first|refine CallK.intro (by first|apply spec_l1In|apply spec_l17Frames) ?_|refine gSym ?_|refine drawE_intro mxConnW0 (by kernel_rfl) (by rfl) ?_|refine cSplit (fun h=>?_) (fun h=>?_))<;>simp only [go_sem,lM,tN,hxi,hxj,TPacket.enc,h2,hp])|(with_reducible refine sideI ?_)|fail)
     ·have e:pkB c.number c.packets (j + 1)=false:=by rw [hb];revert h;cases inB c.packets[j + 1].number 0 (IntKind.i64.wrap (c.number - 1))<;>cases c.packets[j + 1].frames.all isFrame<;>simp
      simp [hI,hf e]
     ·have e:pkB c.number c.packets (j + 1)=true:=by rw [hb];revert h;cases inB c.packets[j + 1].number 0 (IntKind.i64.wrap (c.number - 1))<;>cases c.packets[j + 1].frames.all isFrame<;>simp
      refine RoundE.intro (j + 1 + 1) [0] ⟨by omega,by rw [hs,he,e];rfl⟩ (by omega) ?_
      simp only [go_sem,hw];try simp
   ·have h1':decide ((i:Int) < (c.packets.length:Int))=false:=dF (by omega)
    obtain rfl:i=c.packets.length:=by omega
    have hP:arePk c.number c.packets=true:=he
    rw [hP] at hI
    try simp only [go_sem,lM,h1']
    repeat' ((first|refine CallK.intro (by first|apply spec_l1In|(apply spec_SentTotal<;>first|assumption|omega)|(apply spec_SeenTotal<;>first|assumption|omega)) ?_|refine gSym ?_|refine drawE_intro mxConnW1 (by kernel_rfl) (by rfl) ?_)<;>simp only [go_sem])
    rw [hB]
    simp [hI]
theorem spec_IsClosed (c:TConn):PureCall Tryz.prog 179 [.agg (TConn.enc c)] [.one (.bool (decide (c.closed≠0)))]:=by
 refine pureT 6 Tryz.func179 Tryz.call179 [.tmp 2] ?_
 intro _
 try simp only [go_sem]
def fineC (c:TConn):Bool:=isConnS c && decide (c.closed=0)
set_option maxHeartbeats 2000000 in
theorem spec_l19Fine (c:TConn) (hz:SzC c):PureCall Tryz.prog 152 [.agg (TConn.enc c)] [.one (.bool (fineC c))]:=by
 refine pureT 10 Tryz.func152 Tryz.call152 [.tmp 2] ?_
 intro _
 try simp only [go_sem]
 repeat' ((first|refine CallS.intro (by (apply spec_IsConn<;>first|assumption|omega)) ?_|refine CallK.intro (by apply spec_IsClosed) ?_|refine gSymS ?_)<;>simp only [go_sem])
 all_goals (refine one_bool ?_;simp [fineC])
theorem strOf_len {l:List TStream} (hz:∀ s ∈ l,SzS s) (id:Int):SzS (strOf l id).1:=by
 unfold strOf
 split
 ·rename_i s h;exact hz _ (List.mem_of_find?_eq_some h)
 ·exact ⟨by simp [zStr],by simp [zStr],by simp [zStr],by simp [zStr]⟩
set_option maxHeartbeats 4000000 in
theorem spec_StreamOf (c:TConn) (id:Int) (hz:SzC c):PureCall Tryz.prog 156 [.agg (TConn.enc c),.one (.int .i64 id)] [.agg (TStream.enc ((strOf c.streams id).1)),.one (.bool (strOf c.streams id).2)]:=by
 refine pureT 20 Tryz.func156 Tryz.call156 [.cell 4 55,.tmp 5] ?_
 intro ok
 clear ok
 obtain ⟨z1,z2,z3,z4⟩:=hz
 simp only [go_sem]
 refine CallS.intro (spec_FindStream c.streams id) ?_
 simp only [go_sem]
 rcases fIx_cases (idIs id) c.streams with ⟨h1,h2⟩|⟨j,hj,h1,h2,h3⟩
 ·rw [h1]
  have hE:strOf c.streams id=(zStr,false):=by unfold strOf;rw [h2]
  try simp only [go_sem]
  all_goals simp [hE,zStr]
 ·rw [h1]
  have hE:strOf c.streams id=(c.streams[j],true):=by unfold strOf;rw [h2]
  have hlt:decide ((j:Int) < 0)=false:=dF (by omega)
  have hxi:=map_at TStream.enc c.streams j hj
  obtain ⟨q1,q2,q3,q4⟩:=z2 _ (List.getElem_mem hj)
  try simp only [go_sem,lM,hlt,tN,hxi,TStream.enc]
  repeat' (first|(refine CallS.intro (by (apply spec_l15Copy<;>first|assumption|omega)) ?_<;>simp only [go_sem,lM,TStream.enc])|(with_reducible refine sideI ?_)|fail)
  all_goals simp [hE]
set_option maxRecDepth 100000
set_option maxHeartbeats 4000000 in
theorem spec_l17Copy (c:TConn) (hx:TConn.bulk c≤4194304):PureCall Tryz.prog 151 [.agg (TConn.enc c)] [.agg (TConn.enc c)]:=by
 refine pureT 33 Tryz.func151 Tryz.call151 [.cell 2 37] ?_
 intro _
 simp only [TConn.bulk] at hx
 have hm:c.streams.length≤maxLen:=by simp only [maxLen];omega
 simp only [go_sem]
 refine LoopK.intro (fun i:Nat=>⟨(.junk::.ptr 0 0 0::.ptr 1 0 0::.ptr 2 0 0::.d (.int .i64 i)::jn 28 []),[.box (TConn.ve c),.box TConn.zc,.box (TConn.vc c (.sl 3 0 i) (.d (.sl 2 (c.packets.map TPacket.enc)))),.arr 39 ((c.streams.take i).map TStream.enc) true]⟩)
   (fun i=>c.streams.length - i) (fun i=>i≤c.streams.length) 0 [0,1,2,3] (by omega) ?_ ?_
 ·simp only [go_sem];simp
 ·intro i hi
  have hl:(c.streams.take i).length=i:=by simp;omega
  simp only [go_sem,lM]
  refine cSplit (fun h1=>?_) (fun h1=>?_)
  ·simp only [decide_eq_true_eq] at h1
   have hlt:i < c.streams.length:=by omega
   have hxi:=map_at TStream.enc c.streams i hlt
   have hw:=inc hlt hm
   have hb:=sumB_at TStream.bulk c.streams i hlt
   simp only [TStream.bulk,TSender.bulk,TRing.bulk,TReceiver.bulk,TBuffer.bulk] at hb
   simp only [TStream.enc] at hxi
   have htk:((c.streams.take i).map TStream.enc).take i=(c.streams.take i).map TStream.enc:=List.take_of_length_le (by rw [lM,hl];exact Nat.le_refl _)
   have hst:=take_map_succ TStream.enc c.streams i hlt
   simp only [TStream.enc] at hst
   try simp only [go_sem,lM,tN,hxi]
   repeat' (first|(refine CallS.intro (by (apply spec_l15Copy<;>first|assumption|omega)) ?_<;>simp only [go_sem,lM,hl,htk])|(with_reducible refine sideI ?_)|fail)
   all_goals (refine RoundE.intro (i + 1) [0,1,2,11] (by omega) (by omega) ?_;simp only [go_sem,hw];simp [hst])
  ·simp only [decide_eq_false_iff_not] at h1
   have hi2:i=c.streams.length:=by omega
   subst hi2
   try simp only [go_sem,tL]
   repeat' (refine CallS.intro (by (apply spec_l17Packets<;>first|assumption|omega)) ?_<;>simp only [go_sem,lM])
   all_goals simp
@[go_sem] theorem TRange.eta_ (a:TRange):(⟨a.low,a.high⟩:TRange)=a:=rfl
@[go_sem] theorem TRing.eta_ (a:TRing):(⟨a.size,a.base,a.end',a.cells⟩:TRing)=a:=rfl
@[go_sem] theorem TSender.eta_ (a:TSender):(⟨a.state,a.ring,a.pending,a.flight,a.acked,a.final,a.fin,a.sent,a.code⟩:TSender)=a:=rfl
@[go_sem] theorem TChunk.eta_ (a:TChunk):(⟨a.offset,a.data⟩:TChunk)=a:=rfl
@[go_sem] theorem TBuffer.eta_ (a:TBuffer):(⟨a.next,a.chunks⟩:TBuffer)=a:=rfl
@[go_sem] theorem TReceiver.eta_ (a:TReceiver):(⟨a.state,a.buffer,a.final,a.highest,a.code⟩:TReceiver)=a:=rfl
@[go_sem] theorem TCredit.eta_ (a:TCredit):(⟨a.limit,a.used,a.blocked,a.told⟩:TCredit)=a:=rfl
@[go_sem] theorem TWindow.eta_ (a:TWindow):(⟨a.size,a.most,a.limit,a.seen,a.read,a.since⟩:TWindow)=a:=rfl
@[go_sem] theorem TPriority.eta_ (a:TPriority):(⟨a.urgency,a.incremental⟩:TPriority)=a:=rfl
@[go_sem] theorem TCount.eta_ (a:TCount):(⟨a.limit,a.opened,a.blocked⟩:TCount)=a:=rfl
@[go_sem] theorem TAllow.eta_ (a:TAllow):(⟨a.most,a.limit,a.seen,a.closed⟩:TAllow)=a:=rfl
@[go_sem] theorem TConf.eta_ (a:TConf):(⟨a.ring,a.window,a.windowMost,a.total,a.totalMost,a.bidi,a.uni,a.trip⟩:TConf)=a:=rfl
@[go_sem] theorem TFrame.eta_ (a:TFrame):(⟨a.kind,a.stream,a.offset,a.data,a.fin,a.code,a.limit,a.final,a.uni⟩:TFrame)=a:=rfl
@[go_sem] theorem TStream.eta_ (a:TStream):(⟨a.id,a.send,a.credit,a.recv,a.window,a.priority,a.canSend,a.canRecv,a.tellReset,a.tellStop,a.tellMost,a.stopped,a.stopCode,a.counted⟩:TStream)=a:=rfl
@[go_sem] theorem TPiece.eta_ (a:TPiece):(⟨a.offset,a.data,a.fin⟩:TPiece)=a:=rfl
@[go_sem] theorem TCandidate.eta_ (a:TCandidate):(⟨a.id,a.priority⟩:TCandidate)=a:=rfl
@[go_sem] theorem TPacket.eta_ (a:TPacket):(⟨a.number,a.frames⟩:TPacket)=a:=rfl
@[go_sem] theorem TConn.eta_ (a:TConn):(⟨a.server,a.own,a.peer,a.streams,a.total,a.inflow,a.openBidi,a.openUni,a.allowBidi,a.allowUni,a.tellTotal,a.tellBidi,a.tellUni,a.last,a.number,a.packets,a.now,a.closed⟩:TConn)=a:=rfl
set_option maxRecDepth 100000
def mxConnE0:List (List Rl):=mxD 12 [524867,524878,524872,524853,524799,521721,502524,444933,528160,514674,474579,354294]
def mxConnE1:List (List Rl):=mxD 23 [90634871105,90634871103,90634871097,90634871079,90634873333,90634874224,90634873738,90634872199,90635133505,90635120383,90635081017,90634962919,90656128705,90655065823,90651877177,90642311239,90613347705,90527254263,89106712470,79421200245,92399786626,84845087091,62762119218]
def mxConnE2:List (List Rl):=mxD 10 [57956,58804,58798,58780,58726,58927,58321,56862,52488,39366]
attribute [go_sem] mxConnE0 mxConnE1 mxConnE2
def mkId (id:Int) (k:Nat):Int:=IntKind.i64.wrap (id - IntKind.i64.wrap (4 * (k:Int)))
def ensL (v:Bool) (o p:TConf) (id:Int):Nat→List TStream→List TStream
 |0,l=>l
 |k + 1,l=>ensL v o p id k (putS l (newStr v (mkId id k) o p))
theorem newSnd_cells (n:Int):(newSnd n).ring.cells.length≤64∧(newSnd n).pending=[]∧(newSnd n).flight=[]∧(newSnd n).acked=[]:=by
 unfold newSnd
 split
 ·rename_i h
  have:=isRS_iff h
  refine ⟨?_,rfl,rfl,rfl⟩
  simp only [newRing,h,if_true,List.length_replicate]
  omega
 ·simp [zSnd]
theorem newStr_sz (v:Bool) (i:Int) (o p:TConf):SzS (newStr v i o p):=by
 unfold newStr
 split
 ·obtain ⟨h1,h2,h3,h4⟩:=newSnd_cells o.ring
  refine ⟨by simp only [h2,h3,h4];simp,by simp only;omega,by simp [newRcv],by simp [newRcv]⟩
 ·exact ⟨by simp [zStr],by simp [zStr],by simp [zStr],by simp [zStr]⟩
theorem putS_sz {l:List TStream} {s:TStream} (hz:∀ x ∈ l,SzS x) (hs:SzS s):∀ x ∈ putS l s,SzS x:=fun x hx=>by
 rcases putS_mem hx with h|rfl
 ·exact hz x h
 ·exact hs
def ensA (c:TConn) (id:Int):TAllow:=if isUni id then c.allowUni else c.allowBidi
def ensN (c:TConn) (id:Int):Int:=siN (ensA c id) (indexOf id)
def ensG (c:TConn) (id:Int):Bool:=siOk (ensA c id) (indexOf id) && !decide (ensN c id=0) && !decide (24 < IntKind.i64.wrap ((c.streams.length:Int) + ensN c id))
def ensE (c:TConn) (id:Int):Int:=if !(isConnS c && isQ id) then 7 else if 0≤fIx (idIs id) c.streams then 0 else if isOwn c.server id then 5 else if ensG c id then 0 else 4
def ensW (c:TConn) (id:Int) (a:TAllow):TConn:=if isUni id then { c with allowUni:=a } else { c with allowBidi:=a }
def ensC (c:TConn) (id:Int):TConn:=
 if isConnS c && isQ id && decide (fIx (idIs id) c.streams < 0) && !isOwn c.server id && ensG c id then
  { ensW c id (siA (ensA c id) (indexOf id)) with streams:=ensL c.server c.own c.peer id (ensN c id).toNat c.streams } else c
theorem siN_range (a:TAllow) (i:Int):0≤siN a i∧siN a i≤1152921504606846977:=by
 unfold siN
 split
 ·rename_i h
  simp only [siOk,isAllow,inB,Bool.and_eq_true,decide_eq_true_eq] at h
  rw [w64 (n:=i + 1) (by omega) (by omega),w64 (n:=i + 1 - a.seen) (by omega) (by omega)]
  unfold maxI
  split<;>omega
 ·omega
theorem ensG_n {c:TConn} {id:Int} (h:ensG c id=true) (hl:c.streams.length≤1000):0 < ensN c id∧(c.streams.length:Int) + ensN c id≤24:=by
 have:=siN_range (ensA c id) (indexOf id)
 simp only [ensG,Bool.and_eq_true,Bool.not_eq_true',decide_eq_false_iff_not] at h
 unfold ensN at h ⊢
 rw [w64 (by omega) (by omega)] at h
 omega
theorem ensL_len (v:Bool) (o p:TConf) (id:Int):∀ (k:Nat) (l:List TStream),(ensL v o p id k l).length≤l.length + k
 |0,l=>by simp [ensL]
 |k + 1,l=>by
  have h1:=ensL_len v o p id k (putS l (newStr v (mkId id k) o p))
  have h2:=putS_len l (newStr v (mkId id k) o p)
  rw [ensL];omega
theorem ens_guard (c:TConn) (id:Int) (a:TAllow) (h:ensA c id=a):(bif bif !siOk a (indexOf id) then true else decide (siN a (indexOf id)=0) then true else decide (24 < IntKind.i64.wrap ((c.streams.length:Int) + siN a (indexOf id))))=!ensG c id:=by
 subst h
 unfold ensG ensN
 cases siOk (ensA c id) (indexOf id)<;>cases decide (siN (ensA c id) (indexOf id)=0)<;>cases decide (24 < IntKind.i64.wrap ((c.streams.length:Int) + siN (ensA c id) (indexOf id)))<;>rfl
set_option maxHeartbeats 8000000 in
theorem spec_EnsureStream (c:TConn) (id:Int) (hz:SzC c):PureCall Tryz.prog 205 [.agg (TConn.enc c),.one (.int .i64 id)] [.agg (TConn.enc ((ensC c id))),.one (.int .i64 (ensE c id))]:=by
 refine pureT 72 Tryz.func205 Tryz.call205 [.cell 4 37,.tmp 5] ?_
 intro ok
 clear ok
 have hbk:=bulkC hz
 have hz':=hz
 obtain ⟨z1,z2,z3,z4⟩:=hz
 have hS:ensC c id=if isConnS c && isQ id && decide (fIx (idIs id) c.streams < 0) && !isOwn c.server id && ensG c id then { ensW c id (siA (ensA c id) (indexOf id)) with streams:=ensL c.server c.own c.peer id (ensN c id).toNat c.streams } else c:=rfl
 have hE:ensE c id=if !(isConnS c && isQ id) then 7 else if 0≤fIx (idIs id) c.streams then 0 else if isOwn c.server id then 5 else if ensG c id then 0 else 4:=rfl
 try simp only [go_sem]
 repeat' ((first|refine CallS.cln (by first|(apply spec_l17Copy<;>first|assumption|omega)|(apply spec_IsConn<;>first|assumption|omega)) ?_|refine CallK.cln (by apply spec_l4Quic) ?_|refine gSymS ?_)<;>simp only [go_sem,lM])
 cases h1:isConnS c && isQ id with
 |false=>
  have hb:(bif !isConnS c then true else !isQ id)=true:=by revert h1;cases isConnS c<;>cases isQ id<;>simp
  rw [h1] at hS hE
  simp only [hb]
  simp only [go_sem,lM]
  simp [hS,hE]
 |true=>
  have hb:(bif !isConnS c then true else !isQ id)=false:=by revert h1;cases isConnS c<;>cases isQ id<;>simp
  rw [h1] at hS hE
  simp only [hb]
  simp only [go_sem]
  refine CallS.intro (spec_FindStream c.streams id) ?_
  simp only [go_sem]
  rcases fIx_cases (idIs id) c.streams with ⟨f1,f2⟩|⟨j,hj,f1,f2,f3⟩
  ·have hm1:decide ((0:Int)≤-1)=false:=by decide
   have hm2:decide ((-1:Int) < 0)=true:=by decide
   rw [f1,hm2] at hS
   rw [f1] at hE
   simp only [f1,hm1]
   simp only [go_sem]
   refine CallS.intro (spec_IsOwn c.server id) ?_
   simp only [go_sem]
   cases hO:isOwn c.server id with
   |true=>
    rw [hO] at hS hE
    simp only [go_sem,lM]
    simp [hS,hE]
   |false=>
    rw [hO] at hS hE
    simp only [go_sem]
    refine CallS.intro (spec_IsUniId id) ?_
    simp only [go_sem]
    cases hU:isUni id with
    |true=>
     have hA:ensA c id=c.allowUni:=by unfold ensA;rw [hU];rfl
     have hW:∀ a,ensW c id a={ c with allowUni:=a }:=fun a=>by unfold ensW;rw [hU];rfl
     have hG:=ens_guard c id _ hA
     try simp only [go_sem]
     repeat' ((first|refine CallS.cln (by assumption) ?_|refine CallK.cln (by first|assumption|apply spec_IndexOf|apply spec_SeeIndex) ?_|refine gSymS ?_|refine drawE_intro mxConnE0 (by kernel_rfl) (by rfl) ?_)<;>simp only [go_sem,lM])
     rw [hG]
     cases hg:ensG c id with
     |false=>
      rw [hg] at hS hE
      simp only [go_sem,lM,Bool.not_false]
      simp [hS,hE]
     |true=>
      rw [hg] at hS hE
      have hn:ensN c id=siN c.allowUni (indexOf id):=by unfold ensN;rw [hA]
      simp only [go_sem,Bool.not_true]
      refine CallS.intro (spec_IsUniId id) ?_
      simp only [go_sem,hU]
      obtain ⟨hn1,hn2⟩:=ensG_n hg (by omega)
      rw [hn] at hn1 hn2 hS
      obtain ⟨N,hN⟩:=Int.eq_ofNat_of_zero_le (show 0≤siN c.allowUni (indexOf id) by omega)
      rw [hN] at hn1 hn2 hS
      rw [tN] at hS
      have hN0:IntKind.i64.wrap ((N:Int) - 1)=(N:Int) - 1:=by rw [w64]<;>omega
      refine CallS.inlK [1,2,4,5,6] (by simp only [keepT,List.elem_cons,List.elem_nil,Nat.reduceBEq,Nat.reduceAdd,cond_true,cond_false];rfl) (inl_ev (n:=44) (rs:=[]) Tryz.func234 rfl Tryz.call234 Tryz.checked.mixed rfl rfl ?_)
      simp only [go_sem,hN,hN0]
      refine LoopK.intro (α:=Nat×List TStream) (fun y=>⟨(.ptr 4 0 0::.d (.int .i64 id)::jn 4 (.d (.int .i64 ((y.1:Int) - 1))::jn 37 [])),[.box (TConn.ve c),.box TConn.zc,.cln 39 (y.2.map TStream.enc),.cln 2 (c.packets.map TPacket.enc),.box (TConn.vc ({ c with allowUni:=siA c.allowUni (indexOf id) }) (.sl 2 0 y.2.length) (.sl 3 0 c.packets.length)),.box [.d (.int .i64 c.allowUni.most),.d (.int .i64 c.allowUni.limit),.d (.int .i64 c.allowUni.seen),.d (.int .i64 c.allowUni.closed)],.box [.d (.int .i64 (siA c.allowUni (indexOf id)).most),.d (.int .i64 (siA c.allowUni (indexOf id)).limit),.d (.int .i64 (siA c.allowUni (indexOf id)).seen),.d (.int .i64 (siA c.allowUni (indexOf id)).closed)]]⟩)
       (fun y=>y.1) (fun y=>y.1≤N∧ensL c.server c.own c.peer id y.1 y.2=ensL c.server c.own c.peer id N c.streams∧y.2.length + y.1≤c.streams.length + N∧∀ s ∈ y.2,SzS s) (N,c.streams) [0,1,2,3,4,5,6] ⟨by omega,rfl,by simp,z2⟩ ?_ ?_
      ·simp only [go_sem]
       simp
      ·rintro ⟨k,l⟩ ⟨hk,he,hkl,hsz⟩
       simp only at hk he hkl hsz
       cases k with
       |zero=>
        have hd:decide ((0:Int)≤((0:Nat):Int) - 1)=false:=by decide
        simp only [go_sem,hd]
        have he':ensL c.server c.own c.peer id N c.streams=l:=he.symm
        rw [he',hW,hA] at hS
        simp [hS,hE,outOA]
       |succ k=>
        have hd:decide ((0:Int)≤(k:Int))=true:=dT (by omega)
        have hk1:((k + 1:Nat):Int) - 1=(k:Int):=by omega
        have hk2:IntKind.i64.wrap ((k:Int) - 1)=(k:Int) - 1:=by rw [w64]<;>omega
        have hid:IntKind.i64.wrap (id - IntKind.i64.wrap (4 * (k:Int)))=mkId id k:=rfl
        have hP:=spec_PutStream l (newStr c.server (mkId id k) c.own c.peer) (by omega) hsz (newStr_sz _ _ _ _)
        try simp only [go_sem,hk1,hd]
        repeat' ((first|refine CallS.cln (by assumption) ?_|refine CallK.cln (by first|assumption|apply spec_NewStream) ?_|refine drawE_intro mxConnE1 (by kernel_rfl) (by rfl) ?_|refine drawE_intro mxConnE2 (by kernel_rfl) (by rfl) ?_)<;>simp only [go_sem,lM,hk2,hid])
        have hlp:=putS_len l (newStr c.server (mkId id k) c.own c.peer)
        refine RoundE.intro (k,putS l (newStr c.server (mkId id k) c.own c.peer)) [0,1,13,3,4,5,6] ⟨by omega,he,by simp only;omega,putS_sz hsz (newStr_sz _ _ _ _)⟩ (by simp only;omega) ?_
        simp only [go_sem]
        simp
    |false=>
     have hA:ensA c id=c.allowBidi:=by unfold ensA;rw [hU];rfl
     have hW:∀ a,ensW c id a={ c with allowBidi:=a }:=fun a=>by unfold ensW;rw [hU];rfl
     have hG:=ens_guard c id _ hA
     try simp only [go_sem]
     repeat' ((first|refine CallK.cln (by first|apply spec_IndexOf|apply spec_SeeIndex) ?_|refine gSymS ?_|refine drawE_intro mxConnE0 (by kernel_rfl) (by rfl) ?_)<;>simp only [go_sem,lM])
     rw [hG]
     cases hg:ensG c id with
     |false=>
      rw [hg] at hS hE
      simp only [go_sem,lM,Bool.not_false]
      simp [hS,hE]
     |true=>
      rw [hg] at hS hE
      have hn:ensN c id=siN c.allowBidi (indexOf id):=by unfold ensN;rw [hA]
      simp only [go_sem,Bool.not_true]
      refine CallS.intro (spec_IsUniId id) ?_
      simp only [go_sem,hU]
      obtain ⟨hn1,hn2⟩:=ensG_n hg (by omega)
      rw [hn] at hn1 hn2 hS
      obtain ⟨N,hN⟩:=Int.eq_ofNat_of_zero_le (show 0≤siN c.allowBidi (indexOf id) by omega)
      rw [hN] at hn1 hn2 hS
      rw [tN] at hS
      have hN0:IntKind.i64.wrap ((N:Int) - 1)=(N:Int) - 1:=by rw [w64]<;>omega
      refine CallS.inlK [1,2,4,5,6] (by simp only [keepT,List.elem_cons,List.elem_nil,Nat.reduceBEq,Nat.reduceAdd,cond_true,cond_false];rfl) (inl_ev (n:=44) (rs:=[]) Tryz.func234 rfl Tryz.call234 Tryz.checked.mixed rfl rfl ?_)
      simp only [go_sem,hN,hN0]
      refine LoopK.intro (α:=Nat×List TStream) (fun y=>⟨(.ptr 4 0 0::.d (.int .i64 id)::jn 4 (.d (.int .i64 ((y.1:Int) - 1))::jn 37 [])),[.box (TConn.ve c),.box TConn.zc,.cln 39 (y.2.map TStream.enc),.cln 2 (c.packets.map TPacket.enc),.box (TConn.vc ({ c with allowBidi:=siA c.allowBidi (indexOf id) }) (.sl 2 0 y.2.length) (.sl 3 0 c.packets.length)),.box [.d (.int .i64 c.allowBidi.most),.d (.int .i64 c.allowBidi.limit),.d (.int .i64 c.allowBidi.seen),.d (.int .i64 c.allowBidi.closed)],.box [.d (.int .i64 (siA c.allowBidi (indexOf id)).most),.d (.int .i64 (siA c.allowBidi (indexOf id)).limit),.d (.int .i64 (siA c.allowBidi (indexOf id)).seen),.d (.int .i64 (siA c.allowBidi (indexOf id)).closed)]]⟩)
       (fun y=>y.1) (fun y=>y.1≤N∧ensL c.server c.own c.peer id y.1 y.2=ensL c.server c.own c.peer id N c.streams∧y.2.length + y.1≤c.streams.length + N∧∀ s ∈ y.2,SzS s) (N,c.streams) [0,1,2,3,4,5,6] ⟨by omega,rfl,by simp,z2⟩ ?_ ?_
      ·simp only [go_sem]
       simp
      ·rintro ⟨k,l⟩ ⟨hk,he,hkl,hsz⟩
       simp only at hk he hkl hsz
       cases k with
       |zero=>
        have hd:decide ((0:Int)≤((0:Nat):Int) - 1)=false:=by decide
        simp only [go_sem,hd]
        have he':ensL c.server c.own c.peer id N c.streams=l:=he.symm
        rw [he',hW,hA] at hS
        simp [hS,hE,outOA]
       |succ k=>
        have hd:decide ((0:Int)≤(k:Int))=true:=dT (by omega)
        have hk1:((k + 1:Nat):Int) - 1=(k:Int):=by omega
        have hk2:IntKind.i64.wrap ((k:Int) - 1)=(k:Int) - 1:=by rw [w64]<;>omega
        have hid:IntKind.i64.wrap (id - IntKind.i64.wrap (4 * (k:Int)))=mkId id k:=rfl
        have hP:=spec_PutStream l (newStr c.server (mkId id k) c.own c.peer) (by omega) hsz (newStr_sz _ _ _ _)
        try simp only [go_sem,hk1,hd]
        repeat' ((first|refine CallS.cln (by assumption) ?_|refine CallK.cln (by first|assumption|apply spec_NewStream) ?_|refine gSymS ?_|refine drawE_intro mxConnE1 (by kernel_rfl) (by rfl) ?_|refine drawE_intro mxConnE2 (by kernel_rfl) (by rfl) ?_)<;>simp only [go_sem,lM,hk2,hid])
        have hlp:=putS_len l (newStr c.server (mkId id k) c.own c.peer)
        refine RoundE.intro (k,putS l (newStr c.server (mkId id k) c.own c.peer)) [0,1,13,3,4,5,6] ⟨by omega,he,by simp only;omega,putS_sz hsz (newStr_sz _ _ _ _)⟩ (by simp only;omega) ?_
        simp only [go_sem]
        simp
  ·have hm1:decide ((0:Int)≤(j:Int))=true:=dT (by omega)
   have hm2:decide ((j:Int) < 0)=false:=dF (by omega)
   rw [f1,hm2] at hS
   rw [f1] at hE
   simp only [f1,hm1]
   simp only [go_sem,lM]
   simp [hS,hE]
theorem rmF_in {r x y:TRange} (hr:rOk r=true) (hx:rOk x=true) (hy:y ∈ rmF r x):rOk y=true∧x.low≤y.low∧y.high≤x.high:=by
 have h1:=(rOk_iff _).1 hr
 have h2:=(rOk_iff _).1 hx
 unfold rmF at hy
 rcases List.mem_append.1 hy with hy|hy
 ·split at hy
  ·rename_i c
   rw [List.mem_singleton.1 hy,rOk_iff]
   simp only [minI] at c ⊢
   refine ⟨⟨by omega,c,?_⟩,by omega,?_⟩<;>split<;>omega
  ·cases hy
 ·split at hy
  ·rename_i c
   rw [List.mem_singleton.1 hy,rOk_iff]
   simp only [maxI] at c ⊢
   refine ⟨⟨?_,c,by omega⟩,?_,by omega⟩<;>split<;>omega
  ·cases hy
theorem rmF_pw {r x:TRange} (hr:rOk r=true):(rmF r x).Pairwise (fun a b=>a.high < b.low):=by
 have h1:=(rOk_iff _).1 hr
 unfold rmF
 split<;>split<;>simp [minI,maxI]<;>(repeat' split)<;>omega
theorem rm_ok {r:TRange} (hr:rOk r=true):∀ (xs:List TRange),(∀ x ∈ xs,rOk x=true)→xs.Pairwise (fun a b=>a.high < b.low)→
  (∀ y ∈ xs.flatMap (rmF r),rOk y=true∧∃ x ∈ xs,x.low≤y.low∧y.high≤x.high)∧(xs.flatMap (rmF r)).Pairwise (fun a b=>a.high < b.low)
 |[],_,_=>by simp
 |x::xs,h1,h2=>by
  have h2':=List.pairwise_cons.1 h2
  obtain ⟨g1,g2⟩:=rm_ok hr xs (fun y hy=>h1 y (by simp [hy])) h2'.2
  rw [List.flatMap_cons]
  refine ⟨fun y hy=>?_,List.pairwise_append.2 ⟨rmF_pw hr,g2,fun a ha b hb=>?_⟩⟩
  ·rcases List.mem_append.1 hy with hy|hy
   ·have:=rmF_in hr (h1 x (by simp)) hy
    exact ⟨this.1,x,by simp,this.2⟩
   ·obtain ⟨q1,z,hz,q2⟩:=g1 y hy
    exact ⟨q1,z,by simp [hz],q2⟩
  ·have q1:=rmF_in hr (h1 x (by simp)) ha
   obtain ⟨_,z,hz,q2⟩:=g1 b hb
   have:=h2'.1 z hz
   omega
theorem rmF_one {r x:TRange} (h:¬ (x.low < r.low∧r.high < x.high)):(rmF r x).length≤1:=by
 unfold rmF
 split<;>split<;>simp
 rename_i c1 c2
 simp only [minI,maxI] at c1 c2
 split at c1<;>split at c2<;>omega
theorem rm_len1 {r:TRange}:∀ (xs:List TRange),(∀ x ∈ xs,r.low≤x.low)→(xs.flatMap (rmF r)).length≤xs.length
 |[],_=>by simp
 |x::xs,h=>by
  have:=rm_len1 xs (fun y hy=>h y (by simp [hy]))
  have:=rmF_one (r:=r) (x:=x) (fun g=>by have:=h x (by simp);omega)
  rw [List.flatMap_cons,List.length_append,List.length_cons];omega
theorem rm_len {r:TRange} (hr:rOk r=true):∀ (xs:List TRange),xs.Pairwise (fun a b=>a.high < b.low)→(xs.flatMap (rmF r)).length≤xs.length + 1
 |[],_=>by simp
 |x::xs,h=>by
  have h':=List.pairwise_cons.1 h
  have hr':=(rOk_iff _).1 hr
  rw [List.flatMap_cons,List.length_append,List.length_cons]
  by_cases c:x.low < r.low∧r.high < x.high
  ·have:=rm_len1 (r:=r) xs (fun y hy=>by have:=h'.1 y hy;omega)
   have:=rmF_len r x
   omega
  ·have:=rm_len hr xs h'.2
   have:=rmF_one c
   omega
theorem areR_rmR {xs:List TRange} {r:TRange} (h:areR xs=true):areR (rmR xs r)=true∧(rmR xs r).length≤xs.length + 1∧∀ y ∈ rmR xs r,∃ x ∈ xs,x.low≤y.low∧y.high≤x.high:=by
 unfold rmR
 split
 ·rename_i g
  have hr:rOk r=true:=by revert g;rw [h];simp
  have hs:=(areR_iff xs).1 h
  obtain ⟨g1,g2⟩:=rm_ok hr xs hs.1 hs.2
  exact ⟨(areR_iff _).2 ⟨fun y hy=>(g1 y hy).1,g2⟩,rm_len hr xs hs.2,fun y hy=>(g1 y hy).2⟩
 ·exact ⟨h,by omega,fun y hy=>⟨y,hy,by omega,by omega⟩⟩
theorem cmF_in {x y z:TRange} (hx:rOk x=true) (hy:rOk y=true) (hz:z ∈ cmF x y):rOk z=true∧x.low≤z.low∧z.high≤x.high:=by
 have h1:=(rOk_iff _).1 hx
 have h2:=(rOk_iff _).1 hy
 unfold cmF at hz
 split at hz
 ·rename_i c
  rw [List.mem_singleton.1 hz,rOk_iff]
  simp only [minI,maxI] at c ⊢
  refine ⟨⟨?_,c,?_⟩,?_,?_⟩<;>split<;>omega
 ·cases hz
theorem cmR_one (xs:List TRange) (r:TRange):(cmR xs [r]).length≤xs.length∧∀ z ∈ cmR xs [r],rOk z=true∧∃ x ∈ xs,x.low≤z.low∧z.high≤x.high:=by
 unfold cmR
 split
 ·rename_i g
  simp only [Bool.and_eq_true] at g
  have hs:=(areR_iff xs).1 g.1
  have hr:=((areR_iff [r]).1 g.2).1 r (by simp)
  have e:(xs.flatMap fun x=>[r].flatMap (cmF x))=xs.flatMap fun x=>cmF x r:=by
   congr 1;funext x;simp
  rw [e]
  refine ⟨by have:=flatMap_len (fun x=>cmF x r) 1 (fun x=>cmF_len x r) xs;omega,fun z hz=>?_⟩
  obtain ⟨x,hx,hz⟩:=List.mem_flatMap.1 hz
  have:=cmF_in (hs.1 x hx) hr hz
  exact ⟨this.1,x,hx,this.2⟩
 ·exact ⟨by simp,fun z hz=>by cases hz⟩
set_option maxRecDepth 100000
def mxSndOpsB0:List (List Rl):=mxD 10 [59048,59046,59040,59022,56781,56619,56133,57915,52488,39366]
attribute [go_sem] mxSndOpsB0
def sendG (s:TSender) (p:TPiece):Bool:=isSndS s && decide (s.state≤2) && inP s p && !(decide (p.data=[]) && !p.fin) && !(p.fin && decide (s.fin≠1))
def sendOk (s:TSender) (p:TPiece):Bool:=sendG s p && (decide (p.data=[]) || decide (cmR s.pending [rngP p]=[rngP p]))
def sendD (s:TSender) (p:TPiece):TSender:=if p.data=[] then s else { s with pending:=rmR s.pending (rngP p),flight:=addR s.flight (rngP p),sent:=maxI s.sent (rngP p).high }
def sendF (s:TSender) (p:TPiece):TSender:=if p.fin then { s with fin:=2 } else s
def withSt (s:TSender):TSender:={ s with state:=stOf s }
def sendS (s:TSender) (p:TPiece):TSender:=if sendOk s p then withSt (sendF (sendD s p) p) else s
set_option maxHeartbeats 8000000 in
theorem spec_SendPiece (aF aK aL aI:Int) (aE:List Int) (aB aA aC:List TRange) (aJ aG aD aM aZ:Int) (aQ:List UInt8) (aW:Bool) (hc:aB.length + aA.length + aC.length≤524288) (hr:aE.length≤8388608) (_hd:aQ.length≤1048576):PureCall Tryz.prog 230 [.agg [.int .i64 aF,.int .i64 aK,.int .i64 aL,.int .i64 aI,.sl 1 (aE.map eI),.sl 2 (aB.map TRange.enc),.sl 2 (aA.map TRange.enc),.sl 2 (aC.map TRange.enc),.int .i64 aJ,.int .i64 aG,.int .i64 aD,.int .i64 aM],.agg [.int .i64 aZ,.str aQ,.bool aW]] [.agg (TSender.enc (sendS (⟨aF,⟨aK,aL,aI,aE⟩,aB,aA,aC,aJ,aG,aD,aM⟩:TSender) (⟨aZ,aQ,aW⟩:TPiece))),.one (.bool (sendOk (⟨aF,⟨aK,aL,aI,aE⟩,aB,aA,aC,aJ,aG,aD,aM⟩:TSender) (⟨aZ,aQ,aW⟩:TPiece)))]:=by
 refine pureT 89 Tryz.func230 Tryz.call230 [.cell 4 46,.tmp 5] ?_
 intro _
 have hE:(bif bif bif bif !isSndS (⟨aF,⟨aK,aL,aI,aE⟩,aB,aA,aC,aJ,aG,aD,aM⟩:TSender) then true else decide (2 < aF) then true else !inP (⟨aF,⟨aK,aL,aI,aE⟩,aB,aA,aC,aJ,aG,aD,aM⟩:TSender) (⟨aZ,aQ,aW⟩:TPiece) then true else bif decide (aQ=[]) then !aW else false then true else bif aW then decide (aG≠1) else false)=!sendG (⟨aF,⟨aK,aL,aI,aE⟩,aB,aA,aC,aJ,aG,aD,aM⟩:TSender) (⟨aZ,aQ,aW⟩:TPiece):=by
  have e:decide (2 < aF)=!decide (aF≤2):=by by_cases h:aF≤2<;>simp [h]<;>omega
  simp only [sendG,e]
  cases isSndS (⟨aF,⟨aK,aL,aI,aE⟩,aB,aA,aC,aJ,aG,aD,aM⟩:TSender)<;>cases decide (aF≤2)<;>cases inP (⟨aF,⟨aK,aL,aI,aE⟩,aB,aA,aC,aJ,aG,aD,aM⟩:TSender) (⟨aZ,aQ,aW⟩:TPiece)<;>cases decide (aQ=[])<;>cases aW<;>cases decide (aG≠1)<;>rfl
 cases hG:sendG (⟨aF,⟨aK,aL,aI,aE⟩,aB,aA,aC,aJ,aG,aD,aM⟩:TSender) (⟨aZ,aQ,aW⟩:TPiece) with
 |false=>
  have hO:sendOk (⟨aF,⟨aK,aL,aI,aE⟩,aB,aA,aC,aJ,aG,aD,aM⟩:TSender) (⟨aZ,aQ,aW⟩:TPiece)=false:=by simp [sendOk,hG]
  rw [hG] at hE
  try simp only [go_sem]
  repeat' ((first|refine CallS.intro (by first|(apply spec_l9Copy<;>first|assumption|omega)|(apply spec_IsSender<;>first|assumption|omega)) ?_|refine CallK.intro (by apply spec_l9Piece) ?_|refine gSymS ?_)<;>simp only [go_sem,lM])
  rw [hE]
  simp only [go_sem,Bool.not_false,lM]
  simp [sendS,hO]
 |true=>
  have hw:=hG
  simp only [sendG,Bool.and_eq_true,decide_eq_true_eq,and_assoc] at hw
  obtain ⟨hw1,hw2,hw3,hw4,hw5⟩:=hw
  rw [hG] at hE
  have fC:=spec_CommonRanges aB [rngP (⟨aZ,aQ,aW⟩:TPiece)] (by omega) (by simp)
  have fR:=spec_RemoveRange_raw aB (rngP (⟨aZ,aQ,aW⟩:TPiece)).low (rngP (⟨aZ,aQ,aW⟩:TPiece)).high (by omega)
  have fA:=spec_AddRange aA (rngP (⟨aZ,aQ,aW⟩:TPiece)).low (rngP (⟨aZ,aQ,aW⟩:TPiece)).high (by omega)
  try simp only [go_sem]
  repeat' ((first|refine CallS.intro (by first|assumption|(apply spec_l9Copy<;>first|assumption|omega)|(apply spec_IsSender<;>first|assumption|omega)) ?_|refine CallK.intro (by first|assumption|apply spec_l9Piece) ?_|refine gSymS ?_)<;>simp only [go_sem,lM])
  rw [hE]
  simp only [go_sem,Bool.not_true]
  by_cases hd0:aQ=[]
  ·have e3:decide (aQ≠[])=false:=dF (fun h=>h hd0)
   have hO:sendOk (⟨aF,⟨aK,aL,aI,aE⟩,aB,aA,aC,aJ,aG,aD,aM⟩:TSender) (⟨aZ,aQ,aW⟩:TPiece)=true:=by unfold sendOk;rw [hG];simp only [hd0,decide_true,Bool.true_or,Bool.and_self]
   have hS:sendS (⟨aF,⟨aK,aL,aI,aE⟩,aB,aA,aC,aJ,aG,aD,aM⟩:TSender) (⟨aZ,aQ,aW⟩:TPiece)=withSt (sendF (sendD (⟨aF,⟨aK,aL,aI,aE⟩,aB,aA,aC,aJ,aG,aD,aM⟩:TSender) (⟨aZ,aQ,aW⟩:TPiece)) (⟨aZ,aQ,aW⟩:TPiece)):=by unfold sendS;rw [hO];rfl
   have hD:sendD (⟨aF,⟨aK,aL,aI,aE⟩,aB,aA,aC,aJ,aG,aD,aM⟩:TSender) (⟨aZ,aQ,aW⟩:TPiece)=(⟨aF,⟨aK,aL,aI,aE⟩,aB,aA,aC,aJ,aG,aD,aM⟩:TSender):=by unfold sendD;exact if_pos hd0
   rw [hD] at hS
   clear hE hG hw1 hw3 hw4 hw5 fC fR fA
   try simp only [go_sem,e3]
   repeat' (first|((first|refine CallS.intro (by apply spec_l9State) ?_|refine cSplit (fun h=>?_) (fun h=>?_))<;>simp only [go_sem,lM])|(with_reducible refine sideI ?_)|fail)
   all_goals (rw [hS,hO];subst h;simp only [withSt,sendF,if_true,Bool.false_eq_true,if_false];try simp [outOA])
  ·have e3:decide (aQ≠[])=true:=dT hd0
   by_cases hcm:cmR aB [rngP (⟨aZ,aQ,aW⟩:TPiece)]=[rngP (⟨aZ,aQ,aW⟩:TPiece)]
   ·have hO:sendOk (⟨aF,⟨aK,aL,aI,aE⟩,aB,aA,aC,aJ,aG,aD,aM⟩:TSender) (⟨aZ,aQ,aW⟩:TPiece)=true:=by unfold sendOk;rw [hG];simp only [hcm,decide_true,Bool.or_true,Bool.and_self]
    have hS:sendS (⟨aF,⟨aK,aL,aI,aE⟩,aB,aA,aC,aJ,aG,aD,aM⟩:TSender) (⟨aZ,aQ,aW⟩:TPiece)=withSt (sendF (sendD (⟨aF,⟨aK,aL,aI,aE⟩,aB,aA,aC,aJ,aG,aD,aM⟩:TSender) (⟨aZ,aQ,aW⟩:TPiece)) (⟨aZ,aQ,aW⟩:TPiece)):=by unfold sendS;rw [hO];rfl
    have hD:sendD (⟨aF,⟨aK,aL,aI,aE⟩,aB,aA,aC,aJ,aG,aD,aM⟩:TSender) (⟨aZ,aQ,aW⟩:TPiece)={ (⟨aF,⟨aK,aL,aI,aE⟩,aB,aA,aC,aJ,aG,aD,aM⟩:TSender) with pending:=rmR aB (rngP (⟨aZ,aQ,aW⟩:TPiece)),flight:=addR aA (rngP (⟨aZ,aQ,aW⟩:TPiece)),sent:=maxI aD (rngP (⟨aZ,aQ,aW⟩:TPiece)).high }:=by unfold sendD;exact if_neg hd0
    rw [hD] at hS
    rw [hcm] at fC
    clear hE hG hw1 hw3 hw4 hw5
    have e4:decide (((1:Nat):Int)≠1)=false:=by decide
    try simp only [go_sem,e3,List.length_cons,List.length_nil]
    repeat' (first|((first|refine CallS.intro (by first|assumption|apply spec_l9Range|apply spec_l9State) ?_|refine CallK.intro (by assumption) ?_|with_reducible refine gTrue ?_|refine drawE_intro mxSndOpsB0 (by kernel_rfl) (by rfl) ?_|refine cSplit (fun h=>?_) (fun h=>?_))<;>simp only [go_sem,lM,e4,TRange.enc,List.map_cons,List.map_nil,List.length_cons,List.length_nil,Int.toNat_zero])|(with_reducible refine sideI ?_)|fail)
    all_goals (rw [hS,hO];subst h;simp only [withSt,sendF,if_true,Bool.false_eq_true,if_false,maxI];try rfl;try simp [outOA])
   ·have hO:sendOk (⟨aF,⟨aK,aL,aI,aE⟩,aB,aA,aC,aJ,aG,aD,aM⟩:TSender) (⟨aZ,aQ,aW⟩:TPiece)=false:=by unfold sendOk;rw [hG];simp only [dF hd0,dF hcm,Bool.or_self,Bool.and_false]
    have hS:sendS (⟨aF,⟨aK,aL,aI,aE⟩,aB,aA,aC,aJ,aG,aD,aM⟩:TSender) (⟨aZ,aQ,aW⟩:TPiece)=(⟨aF,⟨aK,aL,aI,aE⟩,aB,aA,aC,aJ,aG,aD,aM⟩:TSender):=by unfold sendS;rw [hO];rfl
    by_cases hl:(cmR aB [rngP (⟨aZ,aQ,aW⟩:TPiece)]).length=1
    ·obtain ⟨y,hy⟩:=List.length_eq_one_iff.1 hl
     have e4:decide (((1:Nat):Int)≠1)=false:=by decide
     rw [hy] at fC hcm
     have hne:¬ (y.low=(rngP (⟨aZ,aQ,aW⟩:TPiece)).low∧y.high=(rngP (⟨aZ,aQ,aW⟩:TPiece)).high):=fun g=>hcm (by rw [show y=rngP (⟨aZ,aQ,aW⟩:TPiece) from by cases y;cases g;simp_all])
     have e5:(decide (y.low=(rngP (⟨aZ,aQ,aW⟩:TPiece)).low) && decide (y.high=(rngP (⟨aZ,aQ,aW⟩:TPiece)).high))=false:=by
      rw [Bool.and_eq_false_iff,decide_eq_false_iff_not,decide_eq_false_iff_not]
      exact Classical.not_and_iff_not_or_not.1 hne
     clear hE hG hw1 hw3 hw4 hw5
     try simp only [go_sem,e3,List.length_cons,List.length_nil]
     repeat' (first|((first|refine CallS.intro (by first|assumption|apply spec_l9Range) ?_|refine CallK.intro (by assumption) ?_|with_reducible refine gTrue ?_|refine drawE_intro mxSndOpsB0 (by kernel_rfl) (by rfl) ?_)<;>simp only [go_sem,lM,e4,e5,TRange.enc,List.map_cons,List.map_nil,List.length_cons,List.length_nil,Int.toNat_zero,Bool.not_false])|(with_reducible refine sideI ?_)|fail)
     all_goals (rw [hS,hO];try simp [outOA,take_map_self])
    ·have e4:decide (((cmR aB [rngP (⟨aZ,aQ,aW⟩:TPiece)]).length:Int)≠1)=true:=dT (by omega)
     clear hE hG hw1 hw3 hw4 hw5
     try simp only [go_sem,e3]
     repeat' (first|((first|refine CallS.intro (by first|assumption|apply spec_l9Range) ?_|refine CallK.intro (by assumption) ?_|with_reducible refine gFalse ?_|refine drawE_intro mxSndOpsB0 (by kernel_rfl) (by rfl) ?_)<;>simp only [go_sem,lM,e4])|(with_reducible refine sideI ?_)|fail)
     all_goals (rw [hS,hO];try simp [outOA,take_map_self])
set_option maxRecDepth 100000
def mxSndOpsC0:List (List Rl):=mxD 12 [511640,511638,511753,511735,511681,511515,511029,503010,448335,521599,478953,354294]
def mxSndOpsC1:List (List Rl):=mxD 7 [2069,2067,2182,2164,2110,1944,1458]
def mxSndOpsC2:List (List Rl):=mxD 9 [19322,19320,19651,19669,19606,19444,18954,17496,13122]
attribute [go_sem] mxSndOpsC0 mxSndOpsC1 mxSndOpsC2
def ackG (s:TSender) (p:TPiece):Bool:=isSndS s && decide (s.state≤2) && inP s p
def flL (fl c:List TRange):List TRange:=c.foldl rmR fl
theorem flL_take (fl c:List TRange) (i:Nat) (h:i < c.length):flL fl (c.take (i + 1))=rmR (flL fl (c.take i)) c[i]:=foldl_take rmR fl c i h
theorem flL_ok:∀ (c fl:List TRange),areR fl=true→areR (flL fl c)=true∧(flL fl c).length≤fl.length + c.length∧∀ y ∈ flL fl c,∃ x ∈ fl,x.low≤y.low∧y.high≤x.high
 |[],fl,h=>⟨h,by simp [flL],fun y hy=>⟨y,hy,by omega,by omega⟩⟩
 |r::c,fl,h=>by
  obtain ⟨g1,g2,g3⟩:=areR_rmR (r:=r) h
  obtain ⟨q1,q2,q3⟩:=flL_ok c (rmR fl r) g1
  refine ⟨q1,by have e:flL fl (r::c)=flL (rmR fl r) c:=rfl;rw [e,List.length_cons];omega,fun y hy=>?_⟩
  obtain ⟨x,hx,hx2⟩:=q3 y hy
  obtain ⟨z,hz,hz2⟩:=g3 x hx
  exact ⟨z,hz,by omega,by omega⟩
def ackD (s:TSender) (p:TPiece):TSender:=if p.data=[] then s else { s with flight:=flL s.flight (cmR s.flight [rngP p]),acked:=foldA s.acked (cmR s.flight [rngP p]) }
def ackF (f:Int) (s:TSender) (p:TPiece):TSender:=if (p.fin && decide (s.fin=2))=true then { s with fin:=f } else s
def ackR (r:TRing) (s:TSender):TSender:={ s with ring:=dropR r (gapR s.acked 0) }
def ackS (s:TSender) (p:TPiece):TSender:=if ackG s p then withSt (ackR s.ring (ackF 3 (ackD s p) p)) else s
theorem ackG_guard (s:TSender) (p:TPiece):(bif bif !isSndS s then true else decide (2 < s.state) then true else !inP s p)=!ackG s p:=by
 have e:decide (2 < s.state)=!decide (s.state≤2):=by by_cases h:s.state≤2<;>simp [h]<;>omega
 simp only [ackG,e]
 cases isSndS s<;>cases decide (s.state≤2)<;>cases inP s p<;>rfl
theorem isSnd_are {s:TSender} (h:isSndS s=true):areR s.pending=true∧areR s.flight=true∧areR s.acked=true:=by
 simp only [isSndS,sndHead,Bool.and_eq_true,and_assoc] at h;exact ⟨h.2.1,h.2.2.1,h.2.2.2.1⟩
set_option maxHeartbeats 8000000 in
theorem spec_AckPiece (aF aK aL aI:Int) (aE:List Int) (aB aA aC:List TRange) (aJ aG aD aM aZ:Int) (aQ:List UInt8) (aW:Bool) (hc:aB.length + aA.length + aC.length≤262144) (hr:aE.length≤8388608) (_hd:aQ.length≤1048576):PureCall Tryz.prog 214 [.agg [.int .i64 aF,.int .i64 aK,.int .i64 aL,.int .i64 aI,.sl 1 (aE.map eI),.sl 2 (aB.map TRange.enc),.sl 2 (aA.map TRange.enc),.sl 2 (aC.map TRange.enc),.int .i64 aJ,.int .i64 aG,.int .i64 aD,.int .i64 aM],.agg [.int .i64 aZ,.str aQ,.bool aW]] [.agg (TSender.enc (ackS (⟨aF,⟨aK,aL,aI,aE⟩,aB,aA,aC,aJ,aG,aD,aM⟩:TSender) (⟨aZ,aQ,aW⟩:TPiece)))]:=by
 refine pureT 81 Tryz.func214 Tryz.call214 [.cell 4 46] ?_
 intro _
 have hE:=ackG_guard (⟨aF,⟨aK,aL,aI,aE⟩,aB,aA,aC,aJ,aG,aD,aM⟩:TSender) (⟨aZ,aQ,aW⟩:TPiece)
 cases hG:ackG (⟨aF,⟨aK,aL,aI,aE⟩,aB,aA,aC,aJ,aG,aD,aM⟩:TSender) (⟨aZ,aQ,aW⟩:TPiece) with
 |false=>
  rw [hG] at hE
  try simp only [go_sem]
  repeat' ((first|refine CallS.intro (by first|(apply spec_l9Copy<;>first|assumption|omega)|(apply spec_IsSender<;>first|assumption|omega)) ?_|refine CallK.intro (by apply spec_l9Piece) ?_|refine gSymS ?_)<;>simp only [go_sem,lM])
  rw [hE]
  simp only [go_sem,Bool.not_false,lM]
  simp [ackS,hG]
 |true=>
  have hw:=hG
  simp only [ackG,Bool.and_eq_true,decide_eq_true_eq,and_assoc] at hw
  have hAr:=isSnd_are hw.1
  simp only at hAr
  rw [hG] at hE
  have hS:ackS (⟨aF,⟨aK,aL,aI,aE⟩,aB,aA,aC,aJ,aG,aD,aM⟩:TSender) (⟨aZ,aQ,aW⟩:TPiece)=withSt (ackR (⟨aF,⟨aK,aL,aI,aE⟩,aB,aA,aC,aJ,aG,aD,aM⟩:TSender).ring (ackF 3 (ackD (⟨aF,⟨aK,aL,aI,aE⟩,aB,aA,aC,aJ,aG,aD,aM⟩:TSender) (⟨aZ,aQ,aW⟩:TPiece)) (⟨aZ,aQ,aW⟩:TPiece))):=by unfold ackS;rw [hG];rfl
  have fC:=spec_CommonRanges aA [rngP (⟨aZ,aQ,aW⟩:TPiece)] (by omega) (by simp)
  have hCl:=cmR_one aA (rngP (⟨aZ,aQ,aW⟩:TPiece))
  try simp only [go_sem]
  repeat' ((first|refine CallS.intro (by first|assumption|(apply spec_l9Copy<;>first|assumption|omega)|(apply spec_IsSender<;>first|assumption|omega)) ?_|refine CallK.intro (by first|assumption|apply spec_l9Piece) ?_|refine gSymS ?_)<;>simp only [go_sem,lM])
  rw [hE]
  simp only [go_sem,Bool.not_true]
  by_cases hd0:aQ=[]
  ·have e3:decide (aQ≠[])=false:=dF (fun h=>h hd0)
   have hD:ackD (⟨aF,⟨aK,aL,aI,aE⟩,aB,aA,aC,aJ,aG,aD,aM⟩:TSender) (⟨aZ,aQ,aW⟩:TPiece)=(⟨aF,⟨aK,aL,aI,aE⟩,aB,aA,aC,aJ,aG,aD,aM⟩:TSender):=by unfold ackD;exact if_pos hd0
   rw [hD] at hS
   clear hE hG hw
   try simp only [go_sem,e3]
   repeat' (first|((first|refine CallS.intro (by first|assumption|apply spec_l9State) ?_|refine CallK.intro (by first|assumption|apply spec_FirstGap|(apply spec_DropRing<;>first|assumption|omega)) ?_|refine gSymS ?_|refine drawE_intro mxSndOpsC0 (by kernel_rfl) (by rfl) ?_|refine cSplit (fun h=>?_) (fun h=>?_))<;>simp only [go_sem,lM])|(with_reducible refine sideI ?_)|fail)
   all_goals (simp only [bif_and] at h;rw [hS];simp only [withSt,ackR,ackF,h,if_true,Bool.false_eq_true,if_false];try rfl;try simp [outOA])
  ·have e3:decide (aQ≠[])=true:=dT hd0
   clear hE hG hw
   try simp only [go_sem,e3]
   repeat' ((first|refine CallS.intro (by assumption) ?_|refine CallK.intro (by first|assumption|apply spec_l9Range) ?_|refine drawE_intro mxSndOpsC1 (by kernel_rfl) (by rfl) ?_)<;>simp only [go_sem,lM])
   have hD:ackD (⟨aF,⟨aK,aL,aI,aE⟩,aB,aA,aC,aJ,aG,aD,aM⟩:TSender) (⟨aZ,aQ,aW⟩:TPiece)={ (⟨aF,⟨aK,aL,aI,aE⟩,aB,aA,aC,aJ,aG,aD,aM⟩:TSender) with flight:=flL aA (cmR aA [rngP (⟨aZ,aQ,aW⟩:TPiece)]),acked:=foldA aC (cmR aA [rngP (⟨aZ,aQ,aW⟩:TPiece)]) }:=by unfold ackD;exact if_neg hd0
   rw [hD] at hS
   generalize hcc:cmR aA [rngP (⟨aZ,aQ,aW⟩:TPiece)]=c at *
   refine LoopK.intro (fun i:Nat=>⟨(.junk::.junk::.ptr 0 0 0::.ptr 1 0 0::.ptr 2 0 0::.ptr 7 0 0::.sl 8 0 c.length::.d (.int .i64 i)::jn 73 []),[.box [.d (.int .i64 aF),.d (.int .i64 aK),.d (.int .i64 aL),.d (.int .i64 aI),.d (.sl 1 (aE.map eI)),.d (.sl 2 (aB.map TRange.enc)),.d (.sl 2 (aA.map TRange.enc)),.d (.sl 2 (aC.map TRange.enc)),.d (.int .i64 aJ),.d (.int .i64 aG),.d (.int .i64 aD),.d (.int .i64 aM)],.box [.d (.int .i64 aZ),.d (.str aQ),.d (.bool aW)],.box TSender.zc,.arr 1 (aE.map eI) true,.arr 2 (aB.map TRange.enc) true,.arr 2 ((flL aA (c.take i)).map TRange.enc) true,.arr 2 ((foldA aC (c.take i)).map TRange.enc) true,.box [.d (.int .i64 aF),.d (.int .i64 aK),.d (.int .i64 aL),.d (.int .i64 aI),.sl 3 0 aE.length,.sl 4 0 aB.length,.sl 5 0 (flL aA (c.take i)).length,.sl 6 0 (foldA aC (c.take i)).length,.d (.int .i64 aJ),.d (.int .i64 aG),.d (.int .i64 aD),.d (.int .i64 aM)],.arr 2 (c.map TRange.enc) true]⟩)
    (fun i=>c.length - i) (fun i=>i≤c.length) 0 [0,1,2,3,4,5,6,7,9] (by omega) ?_ ?_
   ·simp only [go_sem]
    simp [flL,foldA]
   ·intro i hi
    have hF:=(flL_ok (c.take i) aA hAr.2.1).2.1
    have hA:=foldA_len (c.take i) aC
    have hT:(c.take i).length=i:=by simp;omega
    by_cases h1:i < c.length
    ·have h1':decide ((i:Int) < (c.length:Int))=true:=dT (by omega)
     have hxi:=map_at TRange.enc c i h1
     have hw2:=inc (i:=i) (m:=524288) (by omega) (by simp [maxLen])
     have hs1:=flL_take aA c i h1
     have hs2:=foldA_take aC c i h1
     generalize hq1:flL aA (c.take i)=fl at *
     generalize hq2:foldA aC (c.take i)=ak at *
     have fR:=spec_RemoveRange_raw fl c[i].low c[i].high (by omega)
     try simp only [go_sem,h1']
     repeat' (first|((first|refine CallS.intro (by assumption) ?_|refine CallK.intro (by first|assumption|(apply spec_AddRange<;>first|assumption|omega)) ?_|refine drawE_intro mxSndOpsC2 (by kernel_rfl) (by rfl) ?_)<;>simp only [go_sem,lM,tN,hxi,TRange.enc])|(with_reducible refine sideI ?_)|fail)
     refine RoundE.intro (i + 1) [0,1,2,3,4,9,10,7,8] (by omega) (by omega) ?_
     simp only [go_sem,hw2,hs1,hs2]
     simp
    ·have h1':decide ((i:Int) < (c.length:Int))=false:=dF (by omega)
     obtain rfl:i=c.length:=by omega
     rw [tL] at hF hA
     try simp only [go_sem,h1',tL]
     repeat' (first|((first|refine CallS.intro (by first|assumption|apply spec_l9State) ?_|refine CallK.intro (by first|assumption|apply spec_FirstGap|(apply spec_DropRing<;>first|assumption|omega)) ?_|refine gSymS ?_|refine drawE_intro mxSndOpsC0 (by kernel_rfl) (by rfl) ?_|refine cSplit (fun h=>?_) (fun h=>?_))<;>simp only [go_sem,lM])|(with_reducible refine sideI ?_)|fail)
     all_goals (simp only [bif_and] at h;rw [hS];simp only [withSt,ackR,ackF,h,if_true,Bool.false_eq_true,if_false];try rfl;try simp [outOA])
def loseD (s:TSender) (p:TPiece):TSender:=if p.data=[] then s else { s with flight:=flL s.flight (cmR s.flight [rngP p]),pending:=foldA s.pending (cmR s.flight [rngP p]) }
def loseS (s:TSender) (p:TPiece):TSender:=if ackG s p then withSt (ackF 1 (loseD s p) p) else s
set_option maxHeartbeats 8000000 in
theorem spec_LosePiece (aF aK aL aI:Int) (aE:List Int) (aB aA aC:List TRange) (aJ aG aD aM aZ:Int) (aQ:List UInt8) (aW:Bool) (hc:aB.length + aA.length + aC.length≤262144) (hr:aE.length≤8388608) (_hd:aQ.length≤1048576):PureCall Tryz.prog 212 [.agg [.int .i64 aF,.int .i64 aK,.int .i64 aL,.int .i64 aI,.sl 1 (aE.map eI),.sl 2 (aB.map TRange.enc),.sl 2 (aA.map TRange.enc),.sl 2 (aC.map TRange.enc),.int .i64 aJ,.int .i64 aG,.int .i64 aD,.int .i64 aM],.agg [.int .i64 aZ,.str aQ,.bool aW]] [.agg (TSender.enc (loseS (⟨aF,⟨aK,aL,aI,aE⟩,aB,aA,aC,aJ,aG,aD,aM⟩:TSender) (⟨aZ,aQ,aW⟩:TPiece)))]:=by
 refine pureT 68 Tryz.func212 Tryz.call212 [.cell 4 46] ?_
 intro _
 have hE:=ackG_guard (⟨aF,⟨aK,aL,aI,aE⟩,aB,aA,aC,aJ,aG,aD,aM⟩:TSender) (⟨aZ,aQ,aW⟩:TPiece)
 cases hG:ackG (⟨aF,⟨aK,aL,aI,aE⟩,aB,aA,aC,aJ,aG,aD,aM⟩:TSender) (⟨aZ,aQ,aW⟩:TPiece) with
 |false=>
  rw [hG] at hE
  try simp only [go_sem]
  repeat' ((first|refine CallS.intro (by first|(apply spec_l9Copy<;>first|assumption|omega)|(apply spec_IsSender<;>first|assumption|omega)) ?_|refine CallK.intro (by apply spec_l9Piece) ?_|refine gSymS ?_)<;>simp only [go_sem,lM])
  rw [hE]
  simp only [go_sem,Bool.not_false,lM]
  simp [loseS,hG]
 |true=>
  have hw:=hG
  simp only [ackG,Bool.and_eq_true,decide_eq_true_eq,and_assoc] at hw
  have hAr:=isSnd_are hw.1
  simp only at hAr
  rw [hG] at hE
  have hS:loseS (⟨aF,⟨aK,aL,aI,aE⟩,aB,aA,aC,aJ,aG,aD,aM⟩:TSender) (⟨aZ,aQ,aW⟩:TPiece)=withSt (ackF 1 (loseD (⟨aF,⟨aK,aL,aI,aE⟩,aB,aA,aC,aJ,aG,aD,aM⟩:TSender) (⟨aZ,aQ,aW⟩:TPiece)) (⟨aZ,aQ,aW⟩:TPiece)):=by unfold loseS;rw [hG];rfl
  have fC:=spec_CommonRanges aA [rngP (⟨aZ,aQ,aW⟩:TPiece)] (by omega) (by simp)
  have hCl:=cmR_one aA (rngP (⟨aZ,aQ,aW⟩:TPiece))
  try simp only [go_sem]
  repeat' ((first|refine CallS.intro (by first|assumption|(apply spec_l9Copy<;>first|assumption|omega)|(apply spec_IsSender<;>first|assumption|omega)) ?_|refine CallK.intro (by first|assumption|apply spec_l9Piece) ?_|refine gSymS ?_)<;>simp only [go_sem,lM])
  rw [hE]
  simp only [go_sem,Bool.not_true]
  by_cases hd0:aQ=[]
  ·have e3:decide (aQ≠[])=false:=dF (fun h=>h hd0)
   have hD:loseD (⟨aF,⟨aK,aL,aI,aE⟩,aB,aA,aC,aJ,aG,aD,aM⟩:TSender) (⟨aZ,aQ,aW⟩:TPiece)=(⟨aF,⟨aK,aL,aI,aE⟩,aB,aA,aC,aJ,aG,aD,aM⟩:TSender):=by unfold loseD;exact if_pos hd0
   rw [hD] at hS
   clear hE hG hw
   try simp only [go_sem,e3]
   repeat' (first|((first|refine CallS.intro (by first|assumption|apply spec_l9State) ?_|refine CallK.intro (by assumption) ?_|refine gSymS ?_|refine cSplit (fun h=>?_) (fun h=>?_))<;>simp only [go_sem,lM])|(with_reducible refine sideI ?_)|fail)
   all_goals (simp only [bif_and] at h;rw [hS];simp only [withSt,ackF,h,if_true,Bool.false_eq_true,if_false];try rfl;try simp [outOA])
  ·have e3:decide (aQ≠[])=true:=dT hd0
   clear hE hG hw
   try simp only [go_sem,e3]
   repeat' ((first|refine CallS.intro (by assumption) ?_|refine CallK.intro (by first|assumption|apply spec_l9Range) ?_|refine drawE_intro mxSndOpsC1 (by kernel_rfl) (by rfl) ?_)<;>simp only [go_sem,lM])
   have hD:loseD (⟨aF,⟨aK,aL,aI,aE⟩,aB,aA,aC,aJ,aG,aD,aM⟩:TSender) (⟨aZ,aQ,aW⟩:TPiece)={ (⟨aF,⟨aK,aL,aI,aE⟩,aB,aA,aC,aJ,aG,aD,aM⟩:TSender) with flight:=flL aA (cmR aA [rngP (⟨aZ,aQ,aW⟩:TPiece)]),pending:=foldA aB (cmR aA [rngP (⟨aZ,aQ,aW⟩:TPiece)]) }:=by unfold loseD;exact if_neg hd0
   rw [hD] at hS
   generalize hcc:cmR aA [rngP (⟨aZ,aQ,aW⟩:TPiece)]=c at *
   refine LoopK.intro (fun i:Nat=>⟨(.junk::.junk::.ptr 0 0 0::.ptr 1 0 0::.ptr 2 0 0::.ptr 7 0 0::.sl 8 0 c.length::.d (.int .i64 i)::jn 60 []),[.box [.d (.int .i64 aF),.d (.int .i64 aK),.d (.int .i64 aL),.d (.int .i64 aI),.d (.sl 1 (aE.map eI)),.d (.sl 2 (aB.map TRange.enc)),.d (.sl 2 (aA.map TRange.enc)),.d (.sl 2 (aC.map TRange.enc)),.d (.int .i64 aJ),.d (.int .i64 aG),.d (.int .i64 aD),.d (.int .i64 aM)],.box [.d (.int .i64 aZ),.d (.str aQ),.d (.bool aW)],.box TSender.zc,.arr 1 (aE.map eI) true,.arr 2 ((foldA aB (c.take i)).map TRange.enc) true,.arr 2 ((flL aA (c.take i)).map TRange.enc) true,.arr 2 (aC.map TRange.enc) true,.box [.d (.int .i64 aF),.d (.int .i64 aK),.d (.int .i64 aL),.d (.int .i64 aI),.sl 3 0 aE.length,.sl 4 0 (foldA aB (c.take i)).length,.sl 5 0 (flL aA (c.take i)).length,.sl 6 0 aC.length,.d (.int .i64 aJ),.d (.int .i64 aG),.d (.int .i64 aD),.d (.int .i64 aM)],.arr 2 (c.map TRange.enc) true]⟩)
    (fun i=>c.length - i) (fun i=>i≤c.length) 0 [0,1,2,3,4,5,6,7,9] (by omega) ?_ ?_
   ·simp only [go_sem]
    simp [flL,foldA]
   ·intro i hi
    have hF:=(flL_ok (c.take i) aA hAr.2.1).2.1
    have hA:=foldA_len (c.take i) aB
    have hT:(c.take i).length=i:=by simp;omega
    by_cases h1:i < c.length
    ·have h1':decide ((i:Int) < (c.length:Int))=true:=dT (by omega)
     have hxi:=map_at TRange.enc c i h1
     have hw2:=inc (i:=i) (m:=524288) (by omega) (by simp [maxLen])
     have hs1:=flL_take aA c i h1
     have hs2:=foldA_take aB c i h1
     generalize hq1:flL aA (c.take i)=fl at *
     generalize hq2:foldA aB (c.take i)=ak at *
     have fR:=spec_RemoveRange_raw fl c[i].low c[i].high (by omega)
     try simp only [go_sem,h1']
     repeat' (first|((first|refine CallS.intro (by assumption) ?_|refine CallK.intro (by first|assumption|(apply spec_AddRange<;>first|assumption|omega)) ?_|refine drawE_intro mxSndOpsC2 (by kernel_rfl) (by rfl) ?_)<;>simp only [go_sem,lM,tN,hxi,TRange.enc])|(with_reducible refine sideI ?_)|fail)
     refine RoundE.intro (i + 1) [0,1,2,3,10,9,6,7,8] (by omega) (by omega) ?_
     simp only [go_sem,hw2,hs1,hs2]
     simp
    ·have h1':decide ((i:Int) < (c.length:Int))=false:=dF (by omega)
     obtain rfl:i=c.length:=by omega
     rw [tL] at hF hA
     try simp only [go_sem,h1',tL]
     repeat' (first|((first|refine CallS.intro (by first|assumption|apply spec_l9State) ?_|refine CallK.intro (by assumption) ?_|refine gSymS ?_|refine cSplit (fun h=>?_) (fun h=>?_))<;>simp only [go_sem,lM])|(with_reducible refine sideI ?_)|fail)
     all_goals (simp only [bif_and] at h;rw [hS];simp only [withSt,ackF,h,if_true,Bool.false_eq_true,if_false];try rfl;try simp [outOA])
set_option maxRecDepth 100000
def strI (c:TConn) (id:Int):TStream:=(strOf c.streams id).1
def callG (c:TConn) (id:Int):Bool:=fineC c && (strOf c.streams id).2 && (strI c id).canSend
theorem callG_guard (c:TConn) (id:Int):(bif bif !fineC c then true else !(strOf c.streams id).2 then true else !(strI c id).canSend)=!callG c id:=by
 unfold callG
 cases fineC c<;>cases (strOf c.streams id).2<;>cases (strI c id).canSend<;>rfl
def withSnd (s:TStream) (x:TSender):TStream:={ s with send:=x }
def writeC (c:TConn) (id:Int) (d:List UInt8):TConn:=if callG c id then { c with streams:=putS c.streams (withSnd (strI c id) (wrSnd (strI c id).send d)) } else c
def writeN (c:TConn) (id:Int) (d:List UInt8):Int:=if callG c id then wrSndN (strI c id).send d else 0
set_option maxHeartbeats 8000000 in
theorem spec_WriteStream (c:TConn) (id:Int) (d:List UInt8) (hz:SzC c) (hd:d.length≤1048576) (hw:SzS (withSnd (strI c id) (wrSnd (strI c id).send d))):PureCall Tryz.prog 130 [.agg (TConn.enc c),.one (.int .i64 id),.one (.str d)] [.one (.int .i64 (writeN c id d)),.agg (TConn.enc ((writeC c id d)))]:=by
 refine pureT 50 Tryz.func130 Tryz.call130 [.tmp 6,.cell 7 37] ?_
 intro ok
 clear ok
 have hbk:=bulkC hz
 have hC:writeC c id d=if callG c id then { c with streams:=putS c.streams (withSnd (strI c id) (wrSnd (strI c id).send d)) } else c:=rfl
 have hN:writeN c id d=if callG c id then wrSndN (strI c id).send d else 0:=rfl
 have hG:=callG_guard c id
 obtain ⟨s1,s2,s3,s4⟩:=strOf_len hz.2.1 id
 have hO:=spec_StreamOf c id hz
 rw [show (strOf c.streams id).1=strI c id from rfl] at s1 s2 s3 s4 hO
 have hP:=spec_PutStream c.streams (withSnd (strI c id) (wrSnd (strI c id).send d)) (by have:=hz.1;omega) hz.2.1 hw
 generalize strI c id=s at *
 try simp only [go_sem]
 repeat' ((first|refine CallS.cln (by first|assumption|(apply spec_l17Copy<;>first|assumption|omega)|(apply spec_l19Fine<;>first|assumption|omega)) ?_|refine CallK.cln (by assumption) ?_|refine gSymS ?_)<;>simp only [go_sem,lM])
 rw [hG]
 cases hg:callG c id with
 |false=>
  rw [hg] at hC hN
  try simp only [go_sem,Bool.not_false]
  repeat' (first|((first|refine CallS.cln (by assumption) ?_|refine CallK.cln (by assumption) ?_|refine drawE_intro [[.post,.un,.post],[.un,.post,.post],[.pre,.pre,.post]] (by kernel_rfl) (by rfl) ?_)<;>simp only [go_sem,lM])|(with_reducible refine sideI ?_)|fail)
  all_goals simp [hC,hN]
 |true=>
  rw [hg] at hC hN
  try simp only [go_sem,lM,Bool.not_true]
  repeat' (first|((first|refine CallS.cln (by first|assumption|(apply spec_WriteSender<;>first|assumption|omega)) ?_|refine CallK.cln (by assumption) ?_|refine drawE_intro [[.post,.un,.post,.post],[.un,.post,.un,.post],[.pre,.un,.post,.post],[.pre,.pre,.pre,.post]] (by kernel_rfl) (by rfl) ?_)<;>simp only [go_sem,lM,withSnd])|(with_reducible refine sideI ?_)|fail)
  all_goals simp [hC,hN,withSnd]
def overB (c:TConn) (s:TStream):Bool:=!s.counted && !isOwn c.server s.id && overS s
def overT (c:TConn) (s:TStream):TStream:=if overB c s then { s with counted:=true } else s
def overC (c:TConn) (s:TStream):TConn:=if overB c s then (if isUni s.id then { c with allowUni:=closeA c.allowUni } else { c with allowBidi:=closeA c.allowBidi }) else c
def saveC (c:TConn) (s:TStream):TConn:={ overC c s with streams:=putS c.streams (overT c s) }
theorem over_guard (c:TConn) (s:TStream):(bif bif s.counted then true else isOwn c.server s.id then true else !overS s)=!overB c s:=by
 unfold overB
 cases s.counted<;>cases isOwn c.server s.id<;>cases overS s<;>rfl
theorem saveC_no {c:TConn} {s:TStream} (h:overB c s=false):saveC c s={ c with streams:=putS c.streams s }:=by unfold saveC overC overT;rw [h];rfl
theorem saveC_uni {c:TConn} {s:TStream} (h:overB c s=true) (hu:isUni s.id=true):saveC c s={ c with allowUni:=closeA c.allowUni,streams:=putS c.streams { s with counted:=true } }:=by unfold saveC overC overT;rw [h,hu];rfl
theorem saveC_bidi {c:TConn} {s:TStream} (h:overB c s=true) (hu:isUni s.id=false):saveC c s={ c with allowBidi:=closeA c.allowBidi,streams:=putS c.streams { s with counted:=true } }:=by unfold saveC overC overT;rw [h,hu];rfl
set_option maxRecDepth 100000
def mxCallR0:List (List Rl):=mxD 22 [31381059608,31381059606,31381059600,31381059582,31381059528,31380272046,31380271560,31380270102,31380265728,31381049646,31381010280,31380892182,31380537888,31379465286,31376276640,31366710702,31338012888,31251919446,30993639120,30218798142,27894275208,20920706406]
def mxCallR1:List (List Rl):=mxD 10 [57956,58804,58798,58780,58726,58927,58321,56862,52488,39366]
attribute [go_sem] mxCallR0 mxCallR1
def rstStr (s:TStream) (k:Int):TStream:={ s with send:=resetSnd s.send k,tellReset:=true }
def resetG (c:TConn) (id k:Int):Bool:=callG c id && canR (strI c id).send k
def resetC (c:TConn) (id k:Int):TConn:=if resetG c id k then saveC c (rstStr (strI c id) k) else c
set_option maxHeartbeats 8000000 in
theorem spec_ResetStream (c:TConn) (id k:Int) (hz:SzC c) (hw:SzS (rstStr (strI c id) k)):PureCall Tryz.prog 134 [.agg (TConn.enc c),.one (.int .i64 id),.one (.int .i64 k)] [.agg (TConn.enc ((resetC c id k))),.one (.bool (resetG c id k))]:=by
 refine pureT 50 Tryz.func134 Tryz.call134 [.cell 6 37,.tmp 7] ?_
 intro ok
 clear ok
 have hbk:=bulkC hz
 have hXl:c.streams.length≤1000:=by have:=hz.1;omega
 have hXz:=hz.2.1
 have hC:resetC c id k=if resetG c id k then saveC c (rstStr (strI c id) k) else c:=rfl
 have hN:resetG c id k=(callG c id && canR (strI c id).send k):=rfl
 have hG:=callG_guard c id
 obtain ⟨s1,s2,s3,s4⟩:=strOf_len hz.2.1 id
 have hO:=spec_StreamOf c id hz
 rw [show (strOf c.streams id).1=strI c id from rfl] at s1 s2 s3 s4 hO
 generalize strI c id=s at *
 try simp only [go_sem]
 repeat' ((first|refine CallS.cln (by first|assumption|(apply spec_l17Copy<;>first|assumption|omega)|(apply spec_l19Fine<;>first|assumption|omega)) ?_|refine CallK.cln (by assumption) ?_|refine gSymS ?_)<;>simp only [go_sem,lM])
 rw [hG]
 cases hg:callG c id with
 |false=>
  rw [hg,Bool.false_and] at hN
  rw [hN] at hC
  try simp only [go_sem,lM,Bool.not_false]
  repeat' (first|((first|refine CallS.cln (by assumption) ?_|refine CallK.cln (by assumption) ?_)<;>simp only [go_sem,lM,Bool.not_false])|(with_reducible refine sideI ?_)|fail)
  all_goals simp [hC,hN]
 |true=>
  rw [hg,Bool.true_and] at hN
  try simp only [go_sem,lM,Bool.not_true]
  repeat' ((first|refine CallS.cln (by first|assumption|(apply spec_ResetSender<;>first|assumption|omega)) ?_|refine CallK.cln (by assumption) ?_)<;>simp only [go_sem,lM])
  cases hr:canR s.send k with
  |false=>
   rw [hr] at hN
   rw [hN] at hC
   try simp only [go_sem,lM,Bool.not_false]
   repeat' (first|((first|refine CallS.cln (by assumption) ?_|refine CallK.cln (by assumption) ?_)<;>simp only [go_sem,lM,Bool.not_false])|(with_reducible refine sideI ?_)|fail)
   all_goals simp [hC,hN]
  |true=>
   rw [hr] at hN
   rw [hN] at hC
   try simp only [go_sem,lM,Bool.not_true]
   repeat' ((first|refine CallS.cln (by assumption) ?_|refine CallK.cln (by assumption) ?_)<;>simp only [go_sem,lM,Bool.not_true])
   have hOv:=over_guard c (rstStr s k)
   obtain ⟨B,hv⟩:∃ B,overB c (rstStr s k)=B:=⟨_,rfl⟩
   rw [hv] at hOv
   simp only [rstStr] at hOv
   have hSz:=hw
   obtain ⟨w1,w2,w3,w4⟩:=hw
   have w3:∀ ch ∈ ((rstStr s k)).recv.buffer.chunks,ch.data.length≤1048576:=fun ch hc=>by have:=w3 ch hc;omega
   simp only [rstStr] at w1 w2 w3 w4
   have hP0:=spec_PutStream (c).streams ((rstStr s k)) hXl hXz hSz
   have hP1:=spec_PutStream (c).streams { (rstStr s k) with counted:=true } hXl hXz hSz
   refine CallS.inlK [6,7,8] (by simp only [keepT,List.elem_cons,List.elem_nil,Nat.reduceBEq,Nat.reduceAdd,cond_true,cond_false];rfl) (inl_ev (n:=15) (rs:=[]) Tryz.func161 rfl Tryz.call161 Tryz.checked.mixed rfl rfl ?_)
   simp only [go_sem]
   refine CallS.inlK [0,3] (by simp only [keepT,List.elem_cons,List.elem_nil,Nat.reduceBEq,Nat.reduceAdd,cond_true,cond_false];rfl) (inl_ev (n:=62) (rs:=[]) Tryz.func188 rfl Tryz.call188 Tryz.checked.mixed rfl rfl ?_)
   simp only [go_sem]
   try simp only [go_sem,lM,rstStr]
   repeat' ((first|refine CallS.intro (by assumption) ?_|refine CallK.intro (by first|assumption|apply spec_IsOwn|(apply spec_IsOver<;>first|assumption|omega)) ?_|refine gSym ?_|refine drawE_intro mxCallR0 (by kernel_rfl) (by rfl) ?_)<;>simp only [go_sem,lM])
   rw [hOv]
   cases B with
   |false=>
    have hE:=saveC_no hv
    simp only [go_sem,Bool.not_false]
    try simp only [go_sem,lM,rstStr]
    repeat' (first|((first|refine CallS.cln (by assumption) ?_|refine CallK.cln (by assumption) ?_|refine drawE_intro mxCallR1 (by kernel_rfl) (by rfl) ?_)<;>simp only [go_sem,lM,rstStr])|(with_reducible refine sideI ?_)|fail)
    rw [hE] at hC
    simp [hC,hN,rstStr]
   |true=>
    try simp only [go_sem,Bool.not_true]
    repeat' ((first|refine CallS.intro (by first|assumption|apply spec_IsUniId) ?_|refine CallK.intro (by assumption) ?_)<;>simp only [go_sem])
    cases hU:isUni ((rstStr s k)).id with
    |true=>
     have hE:=saveC_uni hv hU
     simp only [rstStr] at hU
     try simp only [go_sem,hU]
     repeat' ((first|refine CallS.intro (by first|assumption|apply spec_CloseOne) ?_|refine CallK.intro (by assumption) ?_)<;>simp only [go_sem])
     try simp only [go_sem,lM,rstStr]
     repeat' (first|((first|refine CallS.cln (by assumption) ?_|refine CallK.cln (by assumption) ?_|refine drawE_intro mxCallR1 (by kernel_rfl) (by rfl) ?_)<;>simp only [go_sem,lM,rstStr])|(with_reducible refine sideI ?_)|fail)
     rw [hE] at hC
     simp [hC,hN,rstStr]
    |false=>
     have hE:=saveC_bidi hv hU
     simp only [rstStr] at hU
     try simp only [go_sem,hU]
     repeat' ((first|refine CallS.intro (by first|assumption|apply spec_CloseOne) ?_|refine CallK.intro (by assumption) ?_)<;>simp only [go_sem])
     try simp only [go_sem,lM,rstStr]
     repeat' (first|((first|refine CallS.cln (by assumption) ?_|refine CallK.cln (by assumption) ?_|refine drawE_intro mxCallR1 (by kernel_rfl) (by rfl) ?_)<;>simp only [go_sem,lM,rstStr])|(with_reducible refine sideI ?_)|fail)
     rw [hE] at hC
     simp [hC,hN,rstStr]
set_option maxRecDepth 100000
def szQ (n:Int):Int:=if n < 0∨4611686018427387903 < n then 0 else if n < 64 then 1 else if n < 16384 then 2 else if n < 1073741824 then 4 else 8
theorem spec_SizeQuic (n:Int):PureCall Tryz.prog 244 [.one (.int .i64 n)] [.one (.int .i64 (szQ n))]:=by
 refine pureT 19 Tryz.func244 Tryz.call244 [.tmp 2] ?_
 intro _
 try simp only [go_sem]
 repeat' ((first|refine gSymS ?_|refine cSplit (fun h=>?_) (fun h=>?_))<;>simp only [go_sem])
 all_goals (simp only [decide_eq_true_eq,decide_eq_false_iff_not,bif_or,Bool.or_eq_true,Bool.or_eq_false_iff] at *;first|(exfalso;omega)|(simp [szQ, *];try omega))
theorem spec_l2Byte (n:Int):PureCall Tryz.prog 250 [.one (.int .i64 n)] [.one (.str [byI (bitI .and .i64 n 255)])]:=by
 refine pureT 6 Tryz.func250 Tryz.call250 [.tmp 2] ?_
 intro _
 simp only [go_sem]
 refine CallS.intro (spec_EncodeFixed_one _ (and255 n)) ?_
 simp only [go_sem]
def qB (n:Int) (k i:Nat):Int:=
 let b:=bitI .and .i64 (n.fdiv (2 ^ min (8 * i) 64)) 255
 if i + 1=k then (if k=2 then bitI .or .i64 b 64 else if k=4 then bitI .or .i64 b 128 else if k=8 then bitI .or .i64 b 192 else b) else b
def encK (n:Int) (k j:Nat):List UInt8:=(List.range j).map fun x=>byI (bitI .and .i64 (qB n k (k - 1 - x)) 255)
def encQ (n:Int):List UInt8:=encK n (szQ n).toNat (szQ n).toNat
theorem encK_succ (n:Int) (k j:Nat):encK n k (j + 1)=encK n k j++[byI (bitI .and .i64 (qB n k (k - 1 - j)) 255)]:=by simp [encK,List.range_succ]
theorem szQ_cases (n:Int):szQ n=0∨szQ n=1∨szQ n=2∨szQ n=4∨szQ n=8:=by
 unfold szQ
 repeat' split
 all_goals simp
theorem encQ_len (n:Int):((encQ n).length:Int)=szQ n:=by rcases szQ_cases n with h|h|h|h|h<;>simp [encQ,encK,h]
theorem encQ_le (n:Int):(encQ n).length≤8:=by have:=encQ_len n;rcases szQ_cases n with h|h|h|h|h<;>omega
set_option maxHeartbeats 2000000 in
theorem spec_EncodeQuic (n:Int):PureCall Tryz.prog 245 [.one (.int .i64 n)] [.one (.str (encQ n))]:=by
 refine pureT 42 Tryz.func245 Tryz.call245 [.tmp 2] ?_
 intro _
 obtain ⟨k,hk⟩:∃ k:Nat,szQ n=(k:Int):=⟨(encQ n).length,(encQ_len n).symm⟩
 have hc:k=0∨k=1∨k=2∨k=4∨k=8:=by have:=szQ_cases n;omega
 have hE:encQ n=encK n k k:=by simp [encQ,hk]
 have hw0:IntKind.i64.wrap ((k:Int) - 1)=(k:Int) - 1:=by rw [w64]<;>omega
 rw [hE]
 try simp only [go_sem]
 repeat' (refine CallS.intro (by apply spec_SizeQuic) ?_<;>simp only [go_sem,hk,hw0])
 refine LoopK.intro (fun j:Nat=>⟨(.d (.int .i64 n)::.junk::.junk::.d (.int .i64 (k:Int))::.d (.str (encK n k j))::.d (.int .i64 ((k:Int) - 1 - (j:Int)))::jn 36 []),[]⟩)
   (fun j=>k - j) (fun j=>j≤k) 0 [] (by omega) ?_ ?_
 ·simp only [go_sem]
  simp [encK]
 ·intro j hj
  by_cases h1:j < k
  ·have h1':decide (0≤(k:Int) - 1 - (j:Int))=true:=dT (by omega)
   have e1:IntKind.i64.wrap (8 * ((k:Int) - 1 - (j:Int)))=8 * ((k:Int) - 1 - (j:Int)):=by rw [w64]<;>omega
   have e2:IntKind.i64.wrap ((k:Int) - 1 - (j:Int) - 1)=(k:Int) - 1 - ((j + 1:Nat):Int):=by rw [w64]<;>omega
   have e3:(8 * ((k:Int) - 1 - (j:Int))).toNat=8 * (k - 1 - j):=by omega
   have hsh:shI .shr .i64 n (8 * ((k:Int) - 1 - (j:Int)))=some ((0:Int)≤8 * ((k:Int) - 1 - (j:Int)),.d (.int .i64 (n.fdiv (2 ^ min (8 * (k - 1 - j)) 64)))):=by simp only [shI];rw [e3];rfl
   have hs:=encK_succ n k j
   have hlk:(encK n k j).length=j:=by simp [encK]
   simp only [go_sem,h1',e1,hsh]
   refine ⟨by omega,?_⟩
   simp only [go_sem,hw0]
   by_cases hj0:j=0
   ·subst hj0
    have h4:decide ((k:Int) - 1 - ((0:Nat):Int)=(k:Int) - 1)=true:=dT (by omega)
    have hk1:k - 1 + 1=k:=by omega
    have hq:qB n k (k - 1 - 0)=(if k=2 then bitI .or .i64 (bitI .and .i64 (n.fdiv (2 ^ min (8 * (k - 1 - 0)) 64)) 255) 64 else if k=4 then bitI .or .i64 (bitI .and .i64 (n.fdiv (2 ^ min (8 * (k - 1 - 0)) 64)) 255) 128 else if k=8 then bitI .or .i64 (bitI .and .i64 (n.fdiv (2 ^ min (8 * (k - 1 - 0)) 64)) 255) 192 else bitI .and .i64 (n.fdiv (2 ^ min (8 * (k - 1 - 0)) 64)) 255):=by
     unfold qB
     rw [if_pos (show k - 1 - 0 + 1=k by omega)]
    rw [hq] at hs
    try simp only [go_sem,h4]
    repeat' (first|((first|refine CallS.intro (by apply spec_l2Byte) ?_|refine cSplit (fun h=>?_) (fun h=>?_))<;>simp only [go_sem,e2])|(with_reducible refine sideI ?_)|fail)
    all_goals (simp only [decide_eq_true_eq,decide_eq_false_iff_not] at *;refine RoundE.intro 1 [] (by omega) (by omega) ?_;simp only [go_sem,hs];first|rw [if_pos (show k=2 by omega)]|rw [if_neg (show ¬ k=2 by omega),if_pos (show k=4 by omega)]|rw [if_neg (show ¬ k=2 by omega),if_neg (show ¬ k=4 by omega),if_pos (show k=8 by omega)]|rw [if_neg (show ¬ k=2 by omega),if_neg (show ¬ k=4 by omega),if_neg (show ¬ k=8 by omega)])
    all_goals simp
   ·have h4:decide ((k:Int) - 1 - (j:Int)=(k:Int) - 1)=false:=dF (by omega)
    have hq:qB n k (k - 1 - j)=bitI .and .i64 (n.fdiv (2 ^ min (8 * (k - 1 - j)) 64)) 255:=by
     unfold qB
     rw [if_neg (show ¬ k - 1 - j + 1=k by omega)]
    rw [hq] at hs
    try simp only [go_sem,h4]
    repeat' (first|(refine CallS.intro (by apply spec_l2Byte) ?_<;>simp only [go_sem,e2])|(with_reducible refine sideI ?_)|fail)
    all_goals (refine RoundE.intro (j + 1) [] (by omega) (by omega) ?_;simp only [go_sem,hs])
    all_goals simp
  ·have h1':decide (0≤(k:Int) - 1 - (j:Int))=false:=dF (by omega)
   obtain rfl:j=k:=by omega
   try simp only [go_sem,h1']
   all_goals simp
def encQs (l:List Int):List UInt8:=if l.any (fun n=>decide (szQ n=0)) then [] else l.flatMap encQ
theorem flat_take {α β:Type} (f:α→List β) (l:List α) (i:Nat) (h:i < l.length):(l.take (i + 1)).flatMap f=(l.take i).flatMap f++f l[i]:=by
 rw [List.take_add_one,gE h,List.flatMap_append];simp
theorem flat_len {α β:Type} (f:α→List β) (b:Nat):∀ (l:List α),(∀ x ∈ l,(f x).length≤b)→(l.flatMap f).length≤b * l.length
 |[],_=>by simp
 |x::l,h=>by
  have h1:=flat_len f b l (fun y hy=>h y (List.mem_cons_of_mem _ hy))
  have h2:=h x (by simp)
  rw [List.flatMap_cons,List.length_append,List.length_cons,Nat.mul_add]
  omega
theorem encQs_len (l:List Int):(encQs l).length≤8 * l.length:=by
 unfold encQs
 split
 ·simp
 ·exact flat_len encQ 8 l fun n _=>encQ_le n
theorem any_take_true {α:Type} (p:α→Bool) (xs:List α) (i:Nat) (h:i < xs.length) (h2:p xs[i]=true):xs.any p=true:=List.any_eq_true.2 ⟨_,List.getElem_mem h,h2⟩
theorem anyt_stp {α:Type} (p:α→Bool) (xs:List α) (i:Nat) (h:i < xs.length) (h1:(xs.take i).any p=false) (h2:p xs[i]=false):(xs.take (i + 1)).any p=false:=by
 rw [List.take_add_one,gE h,List.any_append,h1];simp [h2]
set_option maxHeartbeats 1000000 in
theorem spec_EncodeQuics (l:List Int) (hl:l.length≤100000):PureCall Tryz.prog 224 [.one (.sl 1 (l.map eI))] [.one (.str (encQs l))]:=by
 refine pureT 25 Tryz.func224 Tryz.call224 [.tmp 2] ?_
 intro ok
 have hm:=len_of ok
 clear ok
 simp only [go_sem]
 refine LoopK.intro (fun i:Nat=>⟨(.d (.sl 1 (l.map eI))::.junk::.junk::.d (.str ((l.take i).flatMap encQ))::.d (.int .i64 i)::jn 20 []),[]⟩)
   (fun i=>l.length - i) (fun i=>i≤l.length∧(l.take i).any (fun n=>decide (szQ n=0))=false) 0 [] ⟨by omega,by simp⟩ ?_ ?_
 ·simp only [go_sem];simp
 ·rintro i ⟨hi,he⟩
  by_cases h1:i < l.length
  ·have h1':decide ((i:Int) < (l.length:Int))=true:=dT (by omega)
   have hxi:=map_at eI l i h1
   have hw:=inc h1 hm
   have hs:=flat_take encQ l i h1
   have hb:=flat_len encQ 8 (l.take i) fun n _=>encQ_le n
   have hT:(l.take i).length=i:=by simp;omega
   rw [hT] at hb
   have hb2:=encQ_le l[i]
   try simp only [go_sem,lM,tN,hxi,eI,h1']
   repeat' (first|((first|refine CallS.intro (by first|apply spec_SizeQuic|apply spec_EncodeQuic) ?_|refine cSplit (fun h=>?_) (fun h=>?_))<;>simp only [go_sem,lM,tN,hxi,eI])|(with_reducible refine sideI ?_)|fail)
   ·have:=any_take_true (fun n=>decide (szQ n=0)) l i h1 h
    simp [encQs,this]
   ·refine RoundE.intro (i + 1) [] ⟨by omega,anyt_stp _ l i h1 he h⟩ (by omega) ?_
    simp only [go_sem,hw,hs];try simp
  ·have h1':decide ((i:Int) < (l.length:Int))=false:=dF (by omega)
   obtain rfl:i=l.length:=by omega
   rw [tL] at *
   try simp only [go_sem,lM,h1']
   all_goals simp [encQs,he]
set_option maxRecDepth 100000
def mxEncF0:List (List Rl):=mxD 12 [504833,504844,504838,505183,505129,504967,504468,503010,528160,515038,472392,354294]
def mxEncF1:List (List Rl):=mxD 15 [13630481,13630479,13630513,13630495,13630801,13630639,13639954,13638496,13634122,13620636,13581270,14260333,13906039,12754584,9565938]
attribute [go_sem] mxEncF0 mxEncF1
def encKind (f:TFrame):List UInt8:=
 if f.kind=4 then encQs [4,f.stream,f.code,f.final]
 else if f.kind=5 then encQs [5,f.stream,f.code]
 else if f.kind=8 then
  (if f.offset=0 then encQs [if f.fin then 11 else 10,f.stream,(f.data.length:Int)]++f.data else encQs [if f.fin then 15 else 14,f.stream,f.offset,(f.data.length:Int)]++f.data)
 else if f.kind=16∨f.kind=20 then encQs [f.kind,f.limit]
 else if f.kind=17∨f.kind=21 then encQs [f.kind,f.stream,f.limit]
 else encQs [if f.uni then IntKind.i64.wrap (f.kind + 1) else f.kind,f.limit]
def encF (f:TFrame):List UInt8:=if isFrame f then encKind f else []
theorem isFrame_data {f:TFrame} (h:isFrame f=true):f.data.length≤400:=by
 simp only [isFrame,frameHead,Bool.and_eq_true,Bool.not_eq_true',decide_eq_false_iff_not] at h
 omega
theorem encF_len (f:TFrame):(encF f).length≤500:=by
 unfold encF
 split
 ·rename_i h
  have hd:=isFrame_data h
  unfold encKind
  repeat' split
  all_goals (try rw [List.length_append])
  all_goals (first|exact Nat.le_trans (encQs_len _) (by simp)|exact Nat.le_trans (Nat.add_le_add (encQs_len _) (Nat.le_refl _)) (by simp;omega))
 ·simp
set_option maxHeartbeats 4000000 in
theorem spec_EncodeFrame (bD bE bG:Int) (bF:List UInt8) (bI:Bool) (bJ bH bK:Int) (bR:Bool) (hd:bF.length≤1048576):PureCall Tryz.prog 195 [.agg [.int .i64 bD,.int .i64 bE,.int .i64 bG,.str bF,.bool bI,.int .i64 bJ,.int .i64 bH,.int .i64 bK,.bool bR]] [.one (.str (encF (⟨bD,bE,bG,bF,bI,bJ,bH,bK,bR⟩:TFrame)))]:=by
 refine pureT 93 Tryz.func195 Tryz.call195 [.tmp 2] ?_
 intro _
 cases hF:isFrame (⟨bD,bE,bG,bF,bI,bJ,bH,bK,bR⟩:TFrame) with
 |false=>
  try simp only [go_sem]
  repeat' (refine CallS.intro (by apply spec_IsFrame) ?_<;>simp only [go_sem,hF])
  all_goals simp [encF,hF]
 |true=>
  have hE:encF (⟨bD,bE,bG,bF,bI,bJ,bH,bK,bR⟩:TFrame)=encKind (⟨bD,bE,bG,bF,bI,bJ,bH,bK,bR⟩:TFrame):=by unfold encF;rw [hF];rfl
  rw [hE]
  have l1:=encQs_len [10,bE,(bF.length:Int)]
  have l2:=encQs_len [11,bE,(bF.length:Int)]
  have l3:=encQs_len [14,bE,bG,(bF.length:Int)]
  have l4:=encQs_len [15,bE,bG,(bF.length:Int)]
  simp only [List.length_cons,List.length_nil] at l1 l2 l3 l4
  have q1:=spec_EncodeQuics [4,bE,bJ,bK] (by simp)
  have q2:=spec_EncodeQuics [5,bE,bJ] (by simp)
  have q3:=spec_EncodeQuics [10,bE,(bF.length:Int)] (by simp)
  have q4:=spec_EncodeQuics [11,bE,(bF.length:Int)] (by simp)
  have q5:=spec_EncodeQuics [14,bE,bG,(bF.length:Int)] (by simp)
  have q6:=spec_EncodeQuics [15,bE,bG,(bF.length:Int)] (by simp)
  have q7:=spec_EncodeQuics [bD,bH] (by simp)
  have q8:=spec_EncodeQuics [bD,bE,bH] (by simp)
  have q9:=spec_EncodeQuics [IntKind.i64.wrap (bD + 1),bH] (by simp)
  simp only [List.map_cons,List.map_nil,eI] at q1 q2 q3 q4 q5 q6 q7 q8 q9
  have w1:IntKind.i64.wrap (10 + 1)=11:=by decide
  have w2:IntKind.i64.wrap (10 + 4)=14:=by decide
  have w3:IntKind.i64.wrap (11 + 4)=15:=by decide
  try simp only [go_sem]
  repeat' (first|((first|refine CallS.intro (by first|assumption|apply spec_IsFrame) ?_|refine CallK.intro (by assumption) ?_|refine drawE_intro mxEncF0 (by kernel_rfl) (by rfl) ?_|refine drawE_intro mxEncF1 (by kernel_rfl) (by rfl) ?_|refine cSplit (fun h=>?_) (fun h=>?_))<;>simp only [go_sem,hF,w1,w2,w3])|(with_reducible refine sideI ?_)|fail)
  all_goals (clear hE hF q1 q2 q3 q4 q5 q6 q7 q8 q9 l1 l2 l3 l4 w1 w2 w3;simp only [decide_eq_true_eq,decide_eq_false_iff_not] at *;first|(exfalso;omega)|(simp [encKind, *];done))
set_option maxHeartbeats 1000000 in
theorem spec_FrameSize (bD bE bG:Int) (bF:List UInt8) (bI:Bool) (bJ bH bK:Int) (bR:Bool) (hd:bF.length≤1048576):PureCall Tryz.prog 165 [.agg [.int .i64 bD,.int .i64 bE,.int .i64 bG,.str bF,.bool bI,.int .i64 bJ,.int .i64 bH,.int .i64 bK,.bool bR]] [.one (.int .i64 (((encF (⟨bD,bE,bG,bF,bI,bJ,bH,bK,bR⟩:TFrame)).length:Int)))]:=by
 refine pureT 6 Tryz.func165 Tryz.call165 [.tmp 2] ?_
 intro _
 have:=encF_len (⟨bD,bE,bG,bF,bI,bJ,bH,bK,bR⟩:TFrame)
 try simp only [go_sem]
 repeat' (refine CallS.intro (by (apply spec_EncodeFrame<;>first|assumption|omega)) ?_<;>simp only [go_sem])
 all_goals simp
def encP (l:List TFrame):List UInt8:=if l.any (fun f=>decide (encF f=[])) then [] else if 400 < (l.flatMap encF).length then [] else l.flatMap encF
set_option maxHeartbeats 2000000 in
theorem spec_EncodePayload (l:List TFrame) (hl:l.length≤10000) (hd:∀ f ∈ l,f.data.length≤1048576):PureCall Tryz.prog 168 [.one (.sl 9 (l.map TFrame.enc))] [.one (.str (encP l))]:=by
 refine pureT 26 Tryz.func168 Tryz.call168 [.tmp 2] ?_
 intro ok
 have hm:=len_of ok
 clear ok
 simp only [go_sem]
 refine LoopK.intro (fun i:Nat=>⟨(.d (.sl 9 (l.map TFrame.enc))::.junk::.junk::.d (.str ((l.take i).flatMap encF))::.d (.int .i64 i)::jn 21 []),[]⟩)
   (fun i=>l.length - i) (fun i=>i≤l.length∧(l.take i).any (fun f=>decide (encF f=[]))=false) 0 [] ⟨by omega,by simp⟩ ?_ ?_
 ·simp only [go_sem];simp
 ·rintro i ⟨hi,he⟩
  have hb:=flat_len encF 500 (l.take i) fun n _=>encF_len n
  have hT:(l.take i).length=i:=by simp;omega
  rw [hT] at hb
  by_cases h1:i < l.length
  ·have h1':decide ((i:Int) < (l.length:Int))=true:=dT (by omega)
   have hxi:=map_at TFrame.enc l i h1
   have hw:=inc h1 hm
   have hs:=flat_take encF l i h1
   have hb2:=encF_len l[i]
   have hF:=spec_EncodeFrame l[i].kind l[i].stream l[i].offset l[i].data l[i].fin l[i].code l[i].limit l[i].final l[i].uni (hd _ (List.getElem_mem h1))
   change PureCall _ _ _ [.one (.str (encF l[i]))] at hF
   try simp only [go_sem,lM,tN,hxi,TFrame.enc,h1']
   repeat' (first|((first|refine CallS.intro (by assumption) ?_|refine CallK.intro (by assumption) ?_|refine cSplit (fun h=>?_) (fun h=>?_))<;>simp only [go_sem])|(with_reducible refine sideI ?_)|fail)
   ·have:=any_take_true (fun f=>decide (encF f=[])) l i h1 h
    simp [encP,this]
   ·refine RoundE.intro (i + 1) [] ⟨by omega,anyt_stp _ l i h1 he h⟩ (by omega) ?_
    simp only [go_sem,hw,hs];try simp
  ·have h1':decide ((i:Int) < (l.length:Int))=false:=dF (by omega)
   obtain rfl:i=l.length:=by omega
   rw [tL] at *
   try simp only [go_sem,lM,h1']
   repeat' (refine cSplit (fun h=>?_) (fun h=>?_)<;>simp only [go_sem])
   ·have h0:=oT h
    have:encP l=[]:=by unfold encP;rw [he];exact (if_neg (by simp)).trans (if_pos (by omega))
    simp [this]
   ·have h0:=oF h
    have:encP l=l.flatMap encF:=by unfold encP;rw [he];exact (if_neg (by simp)).trans (if_neg (by omega))
    simp [this]
set_option maxRecDepth 100000
def mxSched0:List (List Rl):=mxD 34 [16677181699666565,16677181699666567,16677181699666560,16677181699666542,16677181699666488,16677181699666326,16677181699665840,16677181699664382,16677181699640325,16677181699653447,16677181699607520,16677181699489422,16677181699135128,16677181698072246,16677181694883600,16677181685317662,16677181656619848,16677181570526406,16677181312246080,16677180537405102,16368754698691713,16368761672260515,16368737264769708,16368674502650490,16368486216292836,16666588848656331,16675909023360204,16670825291703546,16654726808124129,16608973223214207,16471712468484441,16059508303382622,14824161510814728,11118121133111046]
def mxSched1:List (List Rl):=mxD 19 [1162251662,1162251664,1162251657,1162251639,1162261183,1162261345,1162260778,1162259320,1162254946,1162241784,1162202418,1161552879,1161907173,1160667144,1157478498,1147912560,1119214746,1033121304,774840978]
def mxSched2:List (List Rl):=mxD 10 [49244,49246,49239,49221,58765,58927,58360,56902,52528,39366]
attribute [go_sem] mxSched0 mxSched1 mxSched2
theorem foldl_tk {α β:Type} (f:β→α→β) (b:β) (l:List α) (i:Nat) (h:i < l.length):(l.take (i + 1)).foldl f b=f ((l.take i).foldl f b) l[i]:=by
 rw [List.take_add_one,gE h,List.foldl_append];rfl
def candB (l:List TCandidate) (i:Nat):Bool:=ascB (fun c=>c.id) (fun c=>isQ c.id && isPri c.priority) l i
def areC (l:List TCandidate):Bool:=allN (candB l) l.length
theorem candB_zero (l:List TCandidate) (h:0 < l.length):candB l 0=(isQ l[0].id && isPri l[0].priority):=ascB_zero _ _ _ h
theorem candB_succ (l:List TCandidate) (j:Nat) (h:j + 1 < l.length):candB l (j + 1)=(isQ l[j + 1].id && isPri l[j + 1].priority && decide (l[j].id < l[j + 1].id)):=ascB_succ _ _ _ _ h
set_option maxHeartbeats 1000000 in
theorem spec_AreCandidates (l:List TCandidate):PureCall Tryz.prog 246 [.one (.sl 3 (l.map TCandidate.enc))] [.one (.bool (areC l))]:=by
 refine pureT 44 Tryz.func246 Tryz.call246 [.tmp 2] ?_
 intro ok
 have hm:=len_of ok
 clear ok
 simp only [go_sem]
 refine LoopK.intro (fun i:Nat=>⟨(.d (.sl 3 (l.map TCandidate.enc))::.junk::.junk::.d (.int .i64 i)::jn 40 []),[]⟩)
  (fun i=>l.length - i) (fun i=>i≤l.length∧allN (candB l) i=true) 0 [] ⟨by omega,by simp [allN]⟩ ?_ ?_
 ·simp only [go_sem];simp
 ·rintro i ⟨hi,he⟩
  by_cases h1:i < l.length
  ·have h1':decide ((i:Int) < (l.length:Int))=true:=dT (by omega)
   have hxi:=map_at TCandidate.enc l i h1
   have hw:=inc h1 hm
   have hs:=allN_succ (candB l) i
   have hf:=fun h=>allN_false (candB l) (n:=l.length) h1 h
   cases i with
   |zero=>
    have hb:=candB_zero l h1
    have h2:decide ((0:Int) < ((0:Nat):Int))=false:=by decide
    try simp only [go_sem,lM,h1']
    repeat' (first|((first|refine CallK.intro (by first|apply spec_l4Quic|apply spec_IsPriority) ?_|with_reducible refine gFalse ?_|refine gSym ?_|refine drawE_intro mxSched0 (by kernel_rfl) (by rfl) ?_|refine cSplit (fun h=>?_) (fun h=>?_))<;>simp only [go_sem,lM,tN,hxi,TCandidate.enc,h2])|(with_reducible refine sideI ?_)|fail)
    ·have e:candB l 0=false:=by rw [hb];revert h;cases isQ l[0].id<;>cases isPri l[0].priority<;>simp
     simp [areC,hf e]
    ·have e:candB l 0=true:=by rw [hb];revert h;cases isQ l[0].id<;>cases isPri l[0].priority<;>simp
     refine RoundE.intro 1 [] ⟨by omega,by rw [hs,he,e];rfl⟩ (by omega) ?_
     simp only [go_sem,hw];try simp
   |succ j=>
    have hb:=candB_succ l j h1
    have hxj:=map_at TCandidate.enc l j (by omega)
    have h2:decide ((0:Int) < ((j + 1:Nat):Int))=true:=dT (by omega)
    have hp:IntKind.i64.wrap (((j + 1:Nat):Int) - 1)=(j:Int):=by simp only [maxLen] at hm;rw [w64]<;>omega
    try simp only [go_sem,lM,h1']
    repeat' (first|((first|refine CallK.intro (by first|apply spec_l4Quic|apply spec_IsPriority) ?_|refine gSym ?_|refine drawE_intro mxSched0 (by kernel_rfl) (by rfl) ?_|refine cSplit (fun h=>?_) (fun h=>?_))<;>simp only [go_sem,lM,tN,hxi,hxj,TCandidate.enc,h2,hp])|(with_reducible refine sideI ?_)|fail)
    ·have e:candB l (j + 1)=false:=by rw [hb];revert h;cases isQ l[j + 1].id<;>cases isPri l[j + 1].priority<;>simp
     simp [areC,hf e]
    ·have e:candB l (j + 1)=true:=by rw [hb];revert h;cases isQ l[j + 1].id<;>cases isPri l[j + 1].priority<;>simp
     refine RoundE.intro (j + 1 + 1) [] ⟨by omega,by rw [hs,he,e];rfl⟩ (by omega) ?_
     simp only [go_sem,hw];try simp
  ·have h1':decide ((i:Int) < (l.length:Int))=false:=dF (by omega)
   obtain rfl:i=l.length:=by omega
   simp only [go_sem,lM,h1']
   simp [areC,he]
def aftL (l:List Int) (last:Int):Int:=match l.find? (fun x=>decide (last < x)) with|some x=>x|none=>(match l with|[]=>-1|x::_=>x)
set_option maxHeartbeats 1000000 in
theorem spec_l14After (l:List Int) (last:Int):PureCall Tryz.prog 226 [.one (.sl 1 (l.map eI)),.one (.int .i64 last)] [.one (.int .i64 (aftL l last))]:=by
 refine pureT 28 Tryz.func226 Tryz.call226 [.tmp 4] ?_
 intro ok
 have hm:=len_of ok
 clear ok
 simp only [go_sem]
 refine LoopK.intro (fun i:Nat=>⟨(.d (.sl 1 (l.map eI))::.d (.int .i64 last)::jn 3 (.d (.int .i64 i)::jn 22 [])),[]⟩)
  (fun i=>l.length - i) (fun i=>i≤l.length∧(l.take i).any (fun x=>decide (last < x))=false) 0 [] ⟨by omega,by simp⟩ ?_ ?_
 ·simp only [go_sem];simp
 ·rintro i ⟨hi,he⟩
  by_cases h1:i < l.length
  ·have h1':decide ((i:Int) < (l.length:Int))=true:=dT (by omega)
   have hxi:=map_at eI l i h1
   have hw:=inc h1 hm
   try simp only [go_sem,lM,tN,hxi,eI,h1']
   repeat' (first|(refine cSplit (fun h=>?_) (fun h=>?_)<;>simp only [go_sem,lM,tN,hxi,eI])|(with_reducible refine sideI ?_)|fail)
   ·have:=find_hit (fun x=>decide (last < x)) l i h1 he h
    simp [aftL,this]
   ·refine RoundE.intro (i + 1) [] ⟨by omega,anyt_step _ l i h1 he h⟩ (by omega) ?_
    simp only [go_sem,hw];try simp
  ·have h1':decide ((i:Int) < (l.length:Int))=false:=dF (by omega)
   obtain rfl:i=l.length:=by omega
   rw [tL] at he
   have hn:=find_miss _ l he
   cases l with
   |nil=>
    try simp only [go_sem]
    repeat' (refine cSplit (fun h=>?_) (fun h=>?_)<;>simp only [go_sem])
    all_goals first|(exfalso;simp at h;done)|simp [aftL]
   |cons x r=>
    have h2:decide (((r.length + 1:Nat):Int)=0)=false:=dF (by omega)
    try simp only [go_sem,lM,List.length_cons,List.map_cons,eI]
    repeat' (first|(refine cSplit (fun h=>?_) (fun h=>?_)<;>simp only [go_sem,lM,List.length_cons,List.map_cons,h2])|(with_reducible refine sideI ?_)|fail)
    all_goals first|(exfalso;simp at h;done)|(simp [aftL,hn])
def muStep (s:Int×List Int) (c:TCandidate):Int×List Int:=
 if c.priority.urgency < s.1 then (c.priority.urgency,[c.id]) else if c.priority.urgency=s.1 then (s.1,s.2++[c.id]) else s
def muF (l:List TCandidate):Int×List Int:=l.foldl muStep (8,[])
def muL (l:List TCandidate):List Int:=if areC l then (muF l).2 else []
theorem muF_len:∀ (l:List TCandidate) (s:Int×List Int),(l.foldl muStep s).2.length≤s.2.length + l.length
 |[],s=>by simp
 |c::l,s=>by
  have:=muF_len l (muStep s c)
  rw [List.foldl_cons,List.length_cons]
  have:(muStep s c).2.length≤s.2.length + 1:=by
   unfold muStep
   split
   ·simp
   ·split<;>simp
  omega
set_option maxHeartbeats 2000000 in
theorem spec_MostUrgent (l:List TCandidate) (hl:l.length≤1048576):PureCall Tryz.prog 225 [.one (.sl 3 (l.map TCandidate.enc))] [.one (.sl 1 ((muL l).map eI))]:=by
 refine pureT 49 Tryz.func225 Tryz.call225 [.tmp 2] ?_
 intro ok
 have hm:=len_of ok
 clear ok
 have hE:muL l=if areC l then (muF l).2 else []:=rfl
 simp only [go_sem]
 cases hA:areC l with
 |false=>
  rw [hA] at hE
  refine LoopK.intro (fun i:Nat=>⟨(.d (.sl 3 (l.map TCandidate.enc))::.junk::.junk::.sl 0 0 0::.d (.int .i64 8)::.d (.int .i64 i)::jn 43 []),[.arr 1 [] true]⟩)
   (fun i=>0) (fun i=>i=0) 0 [0] rfl ?_ ?_
  ·simp only [go_sem];simp
  ·rintro i rfl
   try simp only [go_sem,lM]
   repeat' (first|((first|refine CallK.intro (by apply spec_AreCandidates) ?_|refine gSymS ?_)<;>simp only [go_sem,hA,Bool.cond_self])|(with_reducible refine sideI ?_)|fail)
   all_goals simp [hE]
 |true=>
  rw [hA] at hE
  refine LoopK.intro (fun i:Nat=>⟨(.d (.sl 3 (l.map TCandidate.enc))::.junk::.junk::.sl 0 0 (muF (l.take i)).2.length::.d (.int .i64 (muF (l.take i)).1)::.d (.int .i64 i)::jn 43 []),[.arr 1 ((muF (l.take i)).2.map eI) true]⟩)
   (fun i=>l.length - i) (fun i=>i≤l.length) 0 [0] (by omega) ?_ ?_
  ·simp only [go_sem];simp [muF]
  ·intro i hi
   by_cases h1:i < l.length
   ·have h1':decide ((i:Int) < (l.length:Int))=true:=dT (by omega)
    have hxi:=map_at TCandidate.enc l i h1
    have hw:=inc h1 hm
    have hs:muF (l.take (i + 1))=muStep (muF (l.take i)) l[i]:=foldl_tk _ _ _ _ h1
    have hln:(muF (l.take i)).2.length≤i:=by
     have:=muF_len (l.take i) (8,[])
     have hT:(l.take i).length=i:=by simp;omega
     simp only [List.length_nil] at this
     unfold muF;omega
    generalize muF (l.take i)=q at *
    obtain ⟨best,out⟩:=q
    simp only at hln
    try simp only [go_sem,lM,h1']
    repeat' (first|((first|refine CallS.intro (by apply spec_AreCandidates) ?_|with_reducible refine gTrueS ?_|refine cSplit (fun h=>?_) (fun h=>?_))<;>simp only [go_sem,lM,tN,hxi,TCandidate.enc,hA])|(with_reducible refine sideI ?_)|fail)
    ·have h0:=oT h
     have hs':muStep (best,out) l[i]=(l[i].priority.urgency,[l[i].id]):=by unfold muStep;exact if_pos h0
     refine RoundE.intro (i + 1) [3] (by omega) (by omega) ?_
     simp only [go_sem,hw,hs,hs'];simp [eI]
    ·rename_i h3
     have h0:=oF h3
     have h4:=oT h
     have hs':muStep (best,out) l[i]=(best,out++[l[i].id]):=by unfold muStep;exact (if_neg h0).trans (if_pos h4)
     refine RoundE.intro (i + 1) [2] (by omega) (by omega) ?_
     simp only [go_sem,hw,hs,hs'];simp [eI]
    ·rename_i h3
     have h0:=oF h3
     have h4:=oF h
     have hs':muStep (best,out) l[i]=(best,out):=by unfold muStep;exact (if_neg h0).trans (if_neg h4)
     refine RoundE.intro (i + 1) [0] (by omega) (by omega) ?_
     simp only [go_sem,hw,hs,hs'];simp
   ·have h1':decide ((i:Int) < (l.length:Int))=false:=dF (by omega)
    obtain rfl:i=l.length:=by omega
    rw [tL]
    try simp only [go_sem,lM,h1']
    repeat' (first|(with_reducible refine gFalseS ?_<;>simp only [go_sem,lM])|(with_reducible refine sideI ?_)|fail)
    all_goals simp [hE]
def withoutL (l:List TCandidate) (id:Int):List TCandidate:=l.filter fun c=>decide (c.id≠id)
set_option maxHeartbeats 1000000 in
theorem spec_l20Without (l:List TCandidate) (id:Int) (hl:l.length≤1048576):PureCall Tryz.prog 199 [.one (.sl 3 (l.map TCandidate.enc)),.one (.int .i64 id)] [.one (.sl 3 ((withoutL l id).map TCandidate.enc))]:=by
 refine pureT 29 Tryz.func199 Tryz.call199 [.tmp 4] ?_
 intro ok
 have hm:=len_of ok
 clear ok
 simp only [go_sem]
 refine LoopK.intro (fun i:Nat=>⟨(.d (.sl 3 (l.map TCandidate.enc))::.d (.int .i64 id)::jn 3 (.sl 0 0 (withoutL (l.take i) id).length::.d (.int .i64 i)::jn 22 [])),[.arr 3 ((withoutL (l.take i) id).map TCandidate.enc) true]⟩)
  (fun i=>l.length - i) (fun i=>i≤l.length) 0 [0] (by omega) ?_ ?_
 ·simp only [go_sem];simp [withoutL]
 ·intro i hi
  by_cases h1:i < l.length
  ·have h1':decide ((i:Int) < (l.length:Int))=true:=dT (by omega)
   have hxi:=map_at TCandidate.enc l i h1
   have hw:=inc h1 hm
   have hs:withoutL (l.take (i + 1)) id=withoutL (l.take i) id++(if decide (l[i].id≠id) then [l[i]] else []):=by
    unfold withoutL
    rw [List.take_add_one,gE h1,List.filter_append]
    simp [List.filter_cons]
   have hln:(withoutL (l.take i) id).length≤i:=Nat.le_trans (List.length_filter_le _ _) (by simp;omega)
   generalize withoutL (l.take i) id=q at *
   try simp only [go_sem,lM,tN,hxi,TCandidate.enc,h1']
   repeat' (first|(refine cSplit (fun h=>?_) (fun h=>?_)<;>simp only [go_sem,lM,tN,hxi,TCandidate.enc])|(with_reducible refine sideI ?_)|fail)
   ·rw [h,if_pos rfl] at hs
    refine RoundE.intro (i + 1) [2] (by omega) (by omega) ?_
    simp only [go_sem,hw,hs];simp [TCandidate.enc]
   ·rw [h,if_neg (by simp)] at hs
    refine RoundE.intro (i + 1) [0] (by omega) (by omega) ?_
    simp only [go_sem,hw,hs];simp
  ·have h1':decide ((i:Int) < (l.length:Int))=false:=dF (by omega)
   obtain rfl:i=l.length:=by omega
   rw [tL]
   try simp only [go_sem,lM,h1']
   all_goals simp
def nxHit (m:List Int) (c:TCandidate):Bool:=!c.priority.incremental && m.any (fun x=>decide (x=c.id))
def nxSome (m:List Int) (l:List TCandidate):List Int:=l.flatMap fun c=>m.filter (fun x=>decide (x=c.id))
theorem nxHit_iff (m:List Int) (c:TCandidate):nxHit m c=true↔c.priority.incremental=false∧∃ x ∈ m,x=c.id:=by simp [nxHit]
theorem nxSome_len (m:List Int):∀ l:List TCandidate,(nxSome m l).length≤m.length * l.length
 |[]=>by simp [nxSome]
 |c::l=>by
  have h1:=nxSome_len m l
  have h2:=List.length_filter_le (fun x=>decide (x=c.id)) m
  unfold nxSome at h1 ⊢
  rw [List.flatMap_cons,List.length_append,List.length_cons,Nat.mul_add]
  omega
def nextS (l:List TCandidate) (last:Int):Int:=match l.find? (nxHit (muL l)) with|some c=>c.id|none=>aftL (nxSome (muL l) l) last
theorem muL_len (l:List TCandidate):(muL l).length≤l.length:=by
 unfold muL
 split
 ·have:=muF_len l (8,[]);simpa [muF] using this
 ·simp
set_option maxHeartbeats 4000000 in
theorem spec_NextStream (l:List TCandidate) (last:Int) (hl:l.length≤1000):PureCall Tryz.prog 200 [.one (.sl 3 (l.map TCandidate.enc)),.one (.int .i64 last)] [.one (.int .i64 (nextS l last))]:=by
 refine pureT 69 Tryz.func200 Tryz.call200 [.tmp 4] ?_
 intro ok
 have hm:=len_of ok
 clear ok
 have hE:nextS l last=match l.find? (nxHit (muL l)) with|some c=>c.id|none=>aftL (nxSome (muL l) l) last:=rfl
 have hml:=muL_len l
 simp only [go_sem]
 refine CallS.intro (spec_MostUrgent l (by omega)) ?_
 generalize muL l=m at *
 simp only [go_sem,lM]
 refine LoopK.intro (fun i:Nat=>⟨(.d (.sl 3 (l.map TCandidate.enc))::.d (.int .i64 last)::jn 3 (.sl 0 0 m.length::.sl 1 0 (nxSome m (l.take i)).length::.d (.int .i64 i)::jn 61 [])),[.arr 1 (m.map eI) true,.arr 1 ((nxSome m (l.take i)).map eI) true]⟩)
  (fun i=>l.length - i) (fun i=>i≤l.length∧(l.take i).any (nxHit m)=false) 0 [0,1] ⟨by omega,by simp⟩ ?_ ?_
 ·simp only [go_sem];simp [nxSome]
 ·rintro i ⟨hi,he⟩
  have hT:(l.take i).length=i:=by simp;omega
  have hsl:=nxSome_len m (l.take i)
  have hsl2:m.length * (l.take i).length≤1000 * 1000:=Nat.mul_le_mul (by omega) (by omega)
  by_cases h1:i < l.length
  ·have h1':decide ((i:Int) < (l.length:Int))=true:=dT (by omega)
   have hxi:=map_at TCandidate.enc l i h1
   have hw:=inc h1 hm
   have hs:nxSome m (l.take (i + 1))=nxSome m (l.take i)++m.filter (fun x=>decide (x=l[i].id)):=by
    unfold nxSome
    rw [List.take_add_one,gE h1,List.flatMap_append];simp
   generalize nxSome m (l.take i)=some0 at *
   simp only [go_sem,lM,h1']
   refine LoopK.intro (fun k:Nat=>⟨(.d (.sl 3 (l.map TCandidate.enc))::.d (.int .i64 last)::jn 3 (.sl 0 0 m.length::.sl 1 0 (some0++(m.take k).filter (fun x=>decide (x=l[i].id))).length::.d (.int .i64 i)::.d (.int .i64 k)::jn 60 [])),[.arr 1 (m.map eI) true,.arr 1 ((some0++(m.take k).filter (fun x=>decide (x=l[i].id))).map eI) true]⟩)
    (fun k=>m.length - k) (fun k=>k≤m.length∧(l[i].priority.incremental=false→(m.take k).any (fun x=>decide (x=l[i].id))=false)) 0 [0,1] ⟨by omega,by simp⟩ ?_ ?_
   ·simp only [go_sem];simp
   ·rintro k ⟨hk,hke⟩
    have hfl:=List.length_filter_le (fun x=>decide (x=l[i].id)) (m.take k)
    have hTk:(m.take k).length=k:=by simp;omega
    by_cases h2:k < m.length
    ·have h2':decide ((k:Int) < (m.length:Int))=true:=dT (by omega)
     have hmk:=map_at eI m k h2
     have hwk:IntKind.i64.wrap ((k:Int) + 1)=((k + 1:Nat):Int):=by rw [w64]<;>omega
     have hfs:(m.take (k + 1)).filter (fun x=>decide (x=l[i].id))=(m.take k).filter (fun x=>decide (x=l[i].id))++(if decide (m[k]=l[i].id) then [m[k]] else []):=by
      rw [List.take_add_one,gE h2,List.filter_append]
      simp [List.filter_cons]
     generalize hqq:(m.take k).filter (fun x=>decide (x=l[i].id))=fk at *
     have hlen:(some0++fk).length≤1002000:=by rw [List.length_append];omega
     cases hd:decide (m[k]=l[i].id) with
     |true=>
      rw [hd,if_pos rfl] at hfs
      have hx:=oT hd
      cases hinc:l[i].priority.incremental with
      |false=>
       have hh:nxHit m l[i]=true:=(nxHit_iff _ _).2 ⟨hinc,_,List.getElem_mem h2,hx⟩
       have hf:=find_hit (nxHit m) l i h1 he hh
       try simp only [go_sem,h2']
       repeat' (first|((first|with_reducible refine gTrue ?_|refine drawE_intro mxSched1 (by kernel_rfl) (by rfl) ?_)<;>simp only [go_sem,lM,tN,hxi,hmk,TCandidate.enc,eI,hd,hinc])|(with_reducible refine sideI ?_)|fail)
       all_goals simp [hE,hf]
      |true=>
       try simp only [go_sem,h2']
       repeat' (first|((first|with_reducible refine gTrue ?_|refine drawE_intro mxSched1 (by kernel_rfl) (by rfl) ?_|refine drawE_intro mxSched2 (by kernel_rfl) (by rfl) ?_)<;>simp only [go_sem,lM,tN,hxi,hmk,TCandidate.enc,eI,hd,hinc])|(with_reducible refine sideI ?_)|fail)
       all_goals first|omega|(refine RoundE.intro (k + 1) [0,3] (by first|omega|exact ⟨by omega,fun h=>by rw [hinc] at h;cases h⟩) (by omega) ?_;simp only [go_sem,hwk,hfs];simp [eI,hx];try omega)
     |false=>
      rw [hd,if_neg (by simp)] at hfs
      try simp only [go_sem,h2']
      repeat' (first|((first|with_reducible refine gFalse ?_|refine drawE_intro mxSched1 (by kernel_rfl) (by rfl) ?_|refine drawE_intro mxSched2 (by kernel_rfl) (by rfl) ?_)<;>simp only [go_sem,lM,tN,hxi,hmk,TCandidate.enc,eI,hd,Bool.cond_self])|(with_reducible refine sideI ?_)|fail)
      all_goals (refine RoundE.intro (k + 1) [0,1] ⟨by omega,fun h=>anyt_step _ m k h2 (hke h) hd⟩ (by omega) ?_;simp only [go_sem,hwk,hfs];simp)
    ·have h2':decide ((k:Int) < (m.length:Int))=false:=dF (by omega)
     obtain rfl:k=m.length:=by omega
     rw [tL] at *
     simp only [go_sem,lM,h2',hw]
     have hh:nxHit m l[i]=false:=by
      cases hinc:l[i].priority.incremental with
      |true=>simp [nxHit,hinc]
      |false=>simp only [nxHit,hke hinc];simp
     refine RoundE.intro (i + 1) [0,1] ⟨by omega,anyt_step _ l i h1 he hh⟩ (by omega) ?_
     simp only [go_sem,hs];simp
  ·have h1':decide ((i:Int) < (l.length:Int))=false:=dF (by omega)
   obtain rfl:i=l.length:=by omega
   rw [tL] at *
   have hf:=find_miss _ l he
   rw [hf] at hE
   try simp only [go_sem,lM,h1']
   repeat' (refine CallS.intro (by apply spec_l14After) ?_<;>simp only [go_sem])
   all_goals simp [hE]
def upE (E:Int) (xs:List TRange):Prop:=areR xs=true∧∀ x ∈ xs,x.high≤E
theorem upE_nil (E:Int):upE E []:=⟨by simp [areR],by simp⟩
theorem upE_mono {E F:Int} {xs:List TRange} (h:E≤F) (hx:upE E xs):upE F xs:=⟨hx.1,fun x hm=>by have:=hx.2 x hm;omega⟩
theorem upE_addR {E:Int} {xs:List TRange} {r:TRange} (hx:upE E xs) (hr:rOk r=true) (hh:r.high≤E):upE E (addR xs r):=by
 refine ⟨areR_addR hx.1 hr,?_⟩
 refine addR_all (fun x=>x.high≤E) xs r hh hx.2 ?_
 intro a b ha hb _ _
 simp only [maxI] at *
 split<;>omega
theorem upE_rmR {E:Int} {xs:List TRange} {r:TRange} (hx:upE E xs):upE E (rmR xs r):=by
 obtain ⟨h1,_,h3⟩:=areR_rmR (r:=r) hx.1
 refine ⟨h1,fun y hy=>?_⟩
 obtain ⟨x,hm,h4⟩:=h3 y hy
 have:=hx.2 x hm
 omega
theorem upE_flL {E:Int} {fl c:List TRange} (hx:upE E fl):upE E (flL fl c):=by
 obtain ⟨h1,_,h3⟩:=flL_ok c fl hx.1
 refine ⟨h1,fun y hy=>?_⟩
 obtain ⟨x,hm,h4⟩:=h3 y hy
 have:=hx.2 x hm
 omega
theorem upE_foldA {E:Int}:∀ (ys xs:List TRange),upE E xs→(∀ y ∈ ys,rOk y=true∧y.high≤E)→upE E (foldA xs ys)
 |[],xs,h,_=>h
 |y::ys,xs,h,hy=>upE_foldA ys (addR xs y) (upE_addR h (hy y (by simp)).1 (hy y (by simp)).2) fun z hz=>hy z (by simp [hz])
theorem cmR_up {E:Int} {xs:List TRange} {r:TRange} (hx:upE E xs):∀ y ∈ cmR xs [r],rOk y=true∧y.high≤E:=by
 intro y hy
 obtain ⟨h1,x,hm,h2⟩:=(cmR_one xs r).2 y hy
 have:=hx.2 x hm
 exact ⟨h1,by omega⟩
/-- ascending ranges below a number are few -/
theorem areR_few:∀ (xs:List TRange) (lo E:Int),(∀ x ∈ xs,rOk x=true∧lo≤x.low∧x.high≤E)→xs.Pairwise (fun a b=>a.high < b.low)→lo≤E→(xs.length:Int)≤E - lo
 |[],lo,E,_,_,h=>by simp;omega
 |x::xs,lo,E,hx,hp,h=>by
  obtain ⟨h1,h2,h3⟩:=hx x (by simp)
  have h4:=(rOk_iff _).1 h1
  rw [List.pairwise_cons] at hp
  have:=areR_few xs x.high E (fun y hy=>⟨(hx y (by simp [hy])).1,by have:=hp.1 y hy;omega,(hx y (by simp [hy])).2.2⟩) hp.2 h3
  rw [List.length_cons]
  omega
theorem upE_len {E:Int} {xs:List TRange} (h:upE E xs) (hE:0≤E):(xs.length:Int)≤E:=by
 have h1:=(areR_iff xs).1 h.1
 have:=areR_few xs 0 E (fun x hx=>⟨h1.1 x hx,((rOk_iff _).1 (h1.1 x hx)).1,h.2 x hx⟩) h1.2 hE
 omega
/-- What a sender of a drawn connection keeps. -/
structure InvSnd (E:Int) (s:TSender):Prop where
 p:upE s.ring.end' s.pending
 f:upE s.ring.end' s.flight
 a:upE s.ring.end' s.acked
 e0:0≤s.ring.end'
 e1:s.ring.end'≤E
 c:s.ring.cells.length≤64
theorem InvSnd.mono {E F:Int} {s:TSender} (h:InvSnd E s) (hE:E≤F):InvSnd F s:=⟨h.p,h.f,h.a,h.e0,by have:=h.e1;omega,h.c⟩
theorem InvSnd.hole {E:Int} {s:TSender} (h:InvSnd E s):noHole s:=by
 intro r hr
 rcases hr with hr|hr|hr
 ·exact h.p.2 r hr
 ·exact h.f.2 r hr
 ·exact h.a.2 r hr
theorem InvSnd.size {E:Int} {s:TSender} (h:InvSnd E s):((s.pending.length + s.flight.length + s.acked.length:Nat):Int)≤3 * E:=by
 have h1:=upE_len h.p h.e0
 have h2:=upE_len h.f h.e0
 have h3:=upE_len h.a h.e0
 have:=h.e1
 omega
theorem invSnd_z {E:Int} (hE:0≤E) (v w c:Int):InvSnd E ⟨0,⟨0,0,0,[]⟩,[],[],[],v,w,c,0⟩:=⟨upE_nil _,upE_nil _,upE_nil _,by simp,hE,by simp⟩
theorem invSnd_new {E:Int} (hE:0≤E) (n:Int):InvSnd E (newSnd n):=by
 unfold newSnd
 split
 ·rename_i h
  have:=isRS_iff h
  refine ⟨upE_nil _,upE_nil _,upE_nil _,?_,?_,?_⟩
  ·simp [newRing,h]
  ·simp only [newRing,h,if_true];exact hE
  ·simp only [newRing,h,if_true,List.length_replicate];omega
 ·exact invSnd_z hE _ _ _
theorem sndRing {s:TSender} (h:isSndS s=true):isRing s.ring=true∧0≤s.sent∧s.sent≤s.ring.end':=by
 simp only [isSndS,sndHead,inB,Bool.and_eq_true,and_assoc,decide_eq_true_eq] at h
 exact ⟨h.1,h.2.2.2.2.1,h.2.2.2.2.2.1⟩
theorem invSnd_wr {E:Int} {s:TSender} {d:List UInt8} (h:InvSnd E s) (hd:d.length≤8):InvSnd (E + 8) (wrSnd s d):=by
 unfold wrSnd
 split
 ·rename_i hw
  have hring:isRing s.ring=true:=by
   simp only [canW,Bool.and_eq_true] at hw
   exact (sndRing hw.1.1).1
  have hi:=isRing_iff hring
  have hr:=roomOf_in s.ring
  have hn:wrN s.ring d=(minI (roomOf s.ring) d.length).toNat:=rfl
  have hn1:(wrN s.ring d:Int)≤8:=by rw [hn];unfold minI;split<;>omega
  have h0:=h.e0
  have h1:=h.e1
  have he:(writeR s.ring d).end'=s.ring.end' + (wrN s.ring d:Int):=by
   simp only [writeR]
   by_cases hp:0 < wrN s.ring d
   ·have hpos:0 < roomOf s.ring:=by rw [hn] at hp;unfold minI at hp;split at hp<;>omega
    obtain ⟨r1,r2,r3⟩:=hr.2 hpos
    have hle:(wrN s.ring d:Int)≤roomOf s.ring:=by rw [hn];unfold minI;split<;>omega
    rw [w64]<;>omega
   ·rw [w64]<;>omega
  have hq:0 < wrN s.ring d→(writeR s.ring d).end'≤4611686018427387903:=fun hp=>by
   have hpos:0 < roomOf s.ring:=by rw [hn] at hp;unfold minI at hp;split at hp<;>omega
   obtain ⟨r1,r2,r3⟩:=hr.2 hpos
   have hle:(wrN s.ring d:Int)≤roomOf s.ring:=by rw [hn];unfold minI;split<;>omega
   omega
  have hm:s.ring.end'≤(writeR s.ring d).end':=by omega
  refine ⟨?_,upE_mono hm h.f,upE_mono hm h.a,by simp only [he];omega,by simp only [he];omega,by simp only [writeR,wrS_len];exact h.c⟩
  simp only
  split
  ·rename_i hp
   have:=hq hp
   exact upE_addR (upE_mono hm h.p) ((rOk_iff _).2 (by simp only;omega)) (by simp)
  ·exact upE_mono hm h.p
 ·exact h.mono (by omega)
theorem invSnd_close {E:Int} {s:TSender} (h:InvSnd E s):InvSnd E (closeSnd s):=by
 unfold closeSnd
 split
 ·exact ⟨h.p,h.f,h.a,h.e0,h.e1,h.c⟩
 ·exact h
theorem invSnd_reset {E:Int} {s:TSender} (h:InvSnd E s) (c:Int):InvSnd E (resetSnd s c):=by
 unfold resetSnd
 split
 ·rename_i hw
  simp only [canR,Bool.and_eq_true] at hw
  obtain ⟨r1,r2,r3⟩:=sndRing hw.1.1
  have hi:=isRing_iff r1
  have h1:=h.e1
  exact ⟨upE_nil _,upE_nil _,upE_nil _,r2,by simp only;omega,by simp only [List.length_replicate];omega⟩
 ·exact h
theorem invSnd_ackRst {E:Int} {s:TSender} (h:InvSnd E s):InvSnd E (ackRst s):=by
 unfold ackRst
 split
 ·exact ⟨h.p,h.f,h.a,h.e0,h.e1,h.c⟩
 ·exact h
theorem inP_end {s:TSender} {p:TPiece} (h:inP s p=true) (hq:s.ring.end'≤4611686018427387903) (hd:p.data.length≤1048576):0≤(rngP p).low∧(rngP p).high≤s.ring.end'∧(p.data≠[]→(rngP p).low < (rngP p).high):=by
 simp only [inP,Bool.and_eq_true,decide_eq_true_eq,and_assoc] at h
 obtain ⟨h1,h2,h3,_⟩:=h
 rw [w64 (by omega) (by omega)] at h3
 simp only [rngP]
 rw [w64 (by omega) (by omega)]
 refine ⟨h1,by omega,fun hn=>?_⟩
 have:=List.length_pos_iff.2 hn
 omega
theorem invSnd_st {E:Int} {s:TSender} (h:InvSnd E s):InvSnd E (withSt s):=⟨h.p,h.f,h.a,h.e0,h.e1,h.c⟩
theorem invSnd_sendF {E:Int} {s:TSender} {p:TPiece} (h:InvSnd E s):InvSnd E (sendF s p):=by
 unfold sendF
 split
 ·exact ⟨h.p,h.f,h.a,h.e0,h.e1,h.c⟩
 ·exact h
theorem invSnd_send {E:Int} {s:TSender} {p:TPiece} (h:InvSnd E s) (hd:p.data.length≤1048576):InvSnd E (sendS s p):=by
 unfold sendS
 split
 ·rename_i hw
  refine invSnd_st (invSnd_sendF ?_)
  unfold sendD
  split
  ·exact h
  ·rename_i hne
   simp only [sendOk,sendG,Bool.and_eq_true,and_assoc] at hw
   obtain ⟨g1,g2,g3,_⟩:=hw
   have hi:=isRing_iff (sndRing g1).1
   obtain ⟨k1,k2,k3⟩:=inP_end g3 (by omega) hd
   have k4:=k3 hne
   exact ⟨upE_rmR h.p,upE_addR h.f ((rOk_iff _).2 (by omega)) k2,h.a,h.e0,h.e1,h.c⟩
 ·exact h
theorem dropR_end (r:TRing) (t:Int):(dropR r t).end'=r.end'∧(dropR r t).cells.length=r.cells.length:=by
 unfold dropR
 split
 ·exact ⟨rfl,drS_len _ _ _ _⟩
 ·exact ⟨rfl,rfl⟩
theorem invSnd_ackF {E:Int} {s:TSender} {p:TPiece} (f:Int) (h:InvSnd E s):InvSnd E (ackF f s p):=by
 unfold ackF
 split
 ·exact ⟨h.p,h.f,h.a,h.e0,h.e1,h.c⟩
 ·exact h
theorem ackF_ring (f:Int) (s:TSender) (p:TPiece):(ackF f s p).ring=s.ring:=by unfold ackF;split<;>rfl
theorem ackD_ring (s:TSender) (p:TPiece):(ackD s p).ring=s.ring:=by unfold ackD;split<;>rfl
theorem invSnd_ack {E:Int} {s:TSender} {p:TPiece} (h:InvSnd E s):InvSnd E (ackS s p):=by
 unfold ackS
 split
 ·have h1:InvSnd E (ackF 3 (ackD s p) p):=by
   refine invSnd_ackF 3 ?_
   unfold ackD
   split
   ·exact h
   ·exact ⟨h.p,upE_flL h.f,upE_foldA _ _ h.a (cmR_up h.f),h.e0,h.e1,h.c⟩
  have hr:(ackF 3 (ackD s p) p).ring=s.ring:=by rw [ackF_ring,ackD_ring]
  have hd:=dropR_end s.ring (gapR (ackF 3 (ackD s p) p).acked 0)
  have e:(ackR s.ring (ackF 3 (ackD s p) p)).ring.end'=(ackF 3 (ackD s p) p).ring.end':=by rw [hr];exact hd.1
  refine invSnd_st ⟨?_,?_,?_,?_,?_,?_⟩
  ·rw [e];exact h1.p
  ·rw [e];exact h1.f
  ·rw [e];exact h1.a
  ·rw [e];exact h1.e0
  ·rw [e];exact h1.e1
  ·exact Nat.le_trans (Nat.le_of_eq hd.2) h.c
 ·exact h
theorem invSnd_lose {E:Int} {s:TSender} {p:TPiece} (h:InvSnd E s):InvSnd E (loseS s p):=by
 unfold loseS
 split
 ·refine invSnd_st (invSnd_ackF 1 ?_)
  unfold loseD
  split
  ·exact h
  ·exact ⟨upE_foldA _ _ h.p (cmR_up h.f),upE_flL h.f,h.a,h.e0,h.e1,h.c⟩
 ·exact h
set_option maxRecDepth 100000
def mxRcvD0:List (List Rl):=mxD 15 [14348906,14348904,14348898,14348880,13611807,13611645,13611159,13639185,13634811,13621689,13581270,14260293,13905999,12754584,9565938]
attribute [go_sem] mxRcvD0
def rdHead (r:TReceiver) (o:Int) (d:List UInt8):Bool:=isRcv r && decide (0≤o) && decide (o≤IntKind.i64.wrap (4611686018427387903 - (d.length:Int)))
def rdE (r:TReceiver) (o:Int) (d:List UInt8) (f:Bool):Int:=if rdHead r o d then finalE r (o + d.length) f else 7
def rdGo (r:TReceiver) (o:Int) (d:List UInt8) (f:Bool):Bool:=rdHead r o d && !(decide (finalE r (o + d.length) f≠0) || decide (1 < r.state))
def rdB (r:TReceiver) (o:Int) (d:List UInt8):List TChunk:=insS r.buffer.next r.buffer.chunks o d
def rdFin (r:TReceiver) (o:Int) (d:List UInt8) (f:Bool):Int:=if f then o + d.length else r.final
def rdFull (r:TReceiver) (o:Int) (d:List UInt8) (f:Bool):Bool:=decide (rdFin r o d f≠-1) && decide (IntKind.i64.wrap (r.buffer.next + (readB r.buffer.next (rdB r o d):Int))=rdFin r o d f)
def recvD (r:TReceiver) (o:Int) (d:List UInt8) (f:Bool):TReceiver:=
 if rdGo r o d f then ⟨if rdFull r o d f then 2 else if f then 1 else r.state,⟨r.buffer.next,rdB r o d⟩,rdFin r o d f,maxI r.highest (o + d.length),r.code⟩ else r
set_option maxHeartbeats 4000000 in
theorem spec_ReceiveData (aU aR:Int) (aO:List TChunk) (bA aX aY o:Int) (d:List UInt8) (f:Bool) (hb:∀ c ∈ aO,okC c) (hx:aO.length≤1000) (hd:d.length≤8) (ho:0≤o∧o≤900):PureCall Tryz.prog 206 [.agg [.int .i64 aU,.int .i64 aR,.sl 2 (aO.map TChunk.enc),.int .i64 bA,.int .i64 aX,.int .i64 aY],.one (.int .i64 o),.one (.str d),.one (.bool f)] [.agg (TReceiver.enc (recvD (⟨aU,⟨aR,aO⟩,bA,aX,aY⟩:TReceiver) o d f)),.one (.int .i64 (rdE (⟨aU,⟨aR,aO⟩,bA,aX,aY⟩:TReceiver) o d f))]:=by
 refine pureT 79 Tryz.func206 Tryz.call206 [.cell 8 51,.tmp 9] ?_
 intro _
 have hb2:∀ c ∈ aO,c.data.length≤1048576:=fun c hc=>by have:=hb c hc;simp only [okC] at this;omega
 have hok:=insS_ok (n:=aR) (off:=o) (data:=d) hb ho.1 (by omega)
 have hln:=insS_len aR aO o d
 have hb3:∀ c ∈ insS aR aO o d,c.data.length≤1048576:=fun c hc=>by have:=hok c hc;simp only [okC] at this;omega
 have fI:=spec_InsertData aR aO o d hb2 (by omega) (fun c hc=>by have:=hb c hc;simp only [okC] at this;omega) hd ho.1 (by omega)
 have fR:=spec_ReadyBytes aR (insS aR aO o d) hb3 (by omega)
 have w1:IntKind.i64.wrap (4611686018427387903 - (d.length:Int))=4611686018427387903 - (d.length:Int):=by rw [w64]<;>omega
 have w2:IntKind.i64.wrap (o + (d.length:Int))=o + (d.length:Int):=by rw [w64]<;>omega
 have e1:decide (o < 0)=false:=dF (by omega)
 have e2:decide (4611686018427387903 - (d.length:Int) < o)=false:=dF (by omega)
 have hH:rdHead (⟨aU,⟨aR,aO⟩,bA,aX,aY⟩:TReceiver) o d=isRcv (⟨aU,⟨aR,aO⟩,bA,aX,aY⟩:TReceiver):=by
  unfold rdHead;rw [w1,dT ho.1,dT (show o≤4611686018427387903 - (d.length:Int) by omega)];simp
 cases hI:isRcv (⟨aU,⟨aR,aO⟩,bA,aX,aY⟩:TReceiver) with
 |false=>
  have hG:rdGo (⟨aU,⟨aR,aO⟩,bA,aX,aY⟩:TReceiver) o d f=false:=by unfold rdGo;rw [hH,hI];rfl
  have hE:rdE (⟨aU,⟨aR,aO⟩,bA,aX,aY⟩:TReceiver) o d f=7:=by unfold rdE;rw [hH,hI];rfl
  try simp only [go_sem]
  repeat' (first|((first|refine CallS.intro (by first|assumption|(apply spec_l7Copy<;>first|assumption|omega)|(apply spec_IsReceiver<;>first|assumption|omega)) ?_|refine CallK.intro (by assumption) ?_|with_reducible refine gFalseS ?_)<;>simp only [go_sem,lM,hI])|(with_reducible refine sideI ?_)|fail)
  all_goals (rw [hE];simp [recvD,hG])
 |true=>
  have hE:rdE (⟨aU,⟨aR,aO⟩,bA,aX,aY⟩:TReceiver) o d f=finalE (⟨aU,⟨aR,aO⟩,bA,aX,aY⟩:TReceiver) (o + d.length) f:=by unfold rdE;rw [hH,hI];rfl
  try simp only [go_sem]
  repeat' ((first|refine CallS.intro (by first|assumption|(apply spec_l7Copy<;>first|assumption|omega)|(apply spec_IsReceiver<;>first|assumption|omega)|(apply spec_l7Final<;>first|assumption|omega)) ?_|refine CallK.intro (by assumption) ?_|with_reducible refine gTrueS ?_|refine gSymS ?_)<;>simp only [go_sem,lM,hI,w1,w2,e1,e2])
  refine cSplit (fun h=>?_) (fun h=>?_)
  ·have hG:rdGo (⟨aU,⟨aR,aO⟩,bA,aX,aY⟩:TReceiver) o d f=false:=by unfold rdGo;simp only [bif_or] at h;rw [hH,hI,h];rfl
   simp only [go_sem,lM]
   rw [hE]
   simp [recvD,hG]
  ·have hG:rdGo (⟨aU,⟨aR,aO⟩,bA,aX,aY⟩:TReceiver) o d f=true:=by unfold rdGo;simp only [bif_or] at h;rw [hH,hI,h];rfl
   have h0:finalE (⟨aU,⟨aR,aO⟩,bA,aX,aY⟩:TReceiver) (o + d.length) f=0:=by
    simp only [bif_or,Bool.or_eq_false_iff,decide_eq_false_iff_not] at h;omega
   rw [h0] at hE
   have hR:recvD (⟨aU,⟨aR,aO⟩,bA,aX,aY⟩:TReceiver) o d f=⟨if rdFull (⟨aU,⟨aR,aO⟩,bA,aX,aY⟩:TReceiver) o d f then 2 else if f then 1 else aU,⟨aR,rdB (⟨aU,⟨aR,aO⟩,bA,aX,aY⟩:TReceiver) o d⟩,rdFin (⟨aU,⟨aR,aO⟩,bA,aX,aY⟩:TReceiver) o d f,maxI aX (o + d.length),aY⟩:=by unfold recvD;exact if_pos hG
   simp only [go_sem]
   cases f with
   |true=>
    try simp only [go_sem]
    repeat' (first|((first|refine CallS.intro (by assumption) ?_|refine CallK.intro (by assumption) ?_|refine gSym ?_|refine drawE_intro mxRcvD0 (by kernel_rfl) (by rfl) ?_|refine cSplit (fun h=>?_) (fun h=>?_))<;>simp only [go_sem,lM])|(with_reducible refine sideI ?_)|fail)
    ·simp only [bif_and] at h
     have hq:rdFull (⟨aU,⟨aR,aO⟩,bA,aX,aY⟩:TReceiver) o d true=true:=h
     rw [hE,hR,hq]
     simp [maxI,rdFin,rdB]
    ·simp only [bif_and] at h
     have hq:rdFull (⟨aU,⟨aR,aO⟩,bA,aX,aY⟩:TReceiver) o d true=false:=h
     rw [hE,hR,hq]
     simp [maxI,rdFin,rdB]
   |false=>
    try simp only [go_sem]
    repeat' (first|((first|refine CallS.intro (by assumption) ?_|refine CallK.intro (by assumption) ?_|refine gSym ?_|refine drawE_intro mxRcvD0 (by kernel_rfl) (by rfl) ?_|refine cSplit (fun h=>?_) (fun h=>?_))<;>simp only [go_sem,lM])|(with_reducible refine sideI ?_)|fail)
    ·simp only [bif_and] at h
     have hq:rdFull (⟨aU,⟨aR,aO⟩,bA,aX,aY⟩:TReceiver) o d false=true:=h
     rw [hE,hR,hq]
     simp [maxI,rdFin,rdB]
    ·simp only [bif_and] at h
     have hq:rdFull (⟨aU,⟨aR,aO⟩,bA,aX,aY⟩:TReceiver) o d false=false:=h
     rw [hE,hR,hq]
     simp [maxI,rdFin,rdB]
structure InvS (m:Nat) (s:TStream):Prop where
 snd:InvSnd (8 * m) s.send
 ch:∀ c ∈ s.recv.buffer.chunks,okC c
 ln:s.recv.buffer.chunks.length≤m
structure InvC (m:Nat) (c:TConn):Prop where
 ls:c.streams.length≤24
 st:∀ s ∈ c.streams,InvS m s
 lp:c.packets.length≤m
 pk:∀ p ∈ c.packets,SzP p
theorem InvS.mono {m n:Nat} {s:TStream} (h:InvS m s) (hm:m≤n):InvS n s:=⟨h.snd.mono (by omega),h.ch,by have:=h.ln;omega⟩
theorem InvC.mono {m n:Nat} {c:TConn} (h:InvC m c) (hm:m≤n):InvC n c:=⟨h.ls,fun s hs=>(h.st s hs).mono hm,by have:=h.lp;omega,h.pk⟩
theorem InvS.sz {m:Nat} {s:TStream} (h:InvS m s) (hm:m≤20):SzS s:=by
 have h1:=h.snd.size
 have h2:=h.snd.c
 have h3:=h.ln
 refine ⟨by omega,by omega,fun c hc=>?_,by omega⟩
 have:=h.ch c hc
 simp only [okC] at this
 omega
theorem InvC.sz {m:Nat} {c:TConn} (h:InvC m c) (hm:m≤20):SzC c:=by
 have h1:=h.ls
 have h3:=h.lp
 exact ⟨by omega,fun s hs=>(h.st s hs).sz hm,by omega,h.pk⟩
theorem invS_z (m:Nat):InvS m zStr:=⟨invSnd_z (by omega) _ _ _,by simp [zStr],by simp [zStr]⟩
theorem invS_new (m:Nat) (v:Bool) (i:Int) (o p:TConf):InvS m (newStr v i o p):=by
 unfold newStr
 split
 ·exact ⟨invSnd_new (by omega) _,by simp [newRcv],by simp [newRcv]⟩
 ·exact invS_z m
theorem strOf_inv {m:Nat} {l:List TStream} (h:∀ s ∈ l,InvS m s) (id:Int):InvS m (strOf l id).1:=by
 unfold strOf
 split
 ·rename_i s hs;exact h s (List.mem_of_find?_eq_some hs)
 ·exact invS_z m
theorem strOf_id {l:List TStream} {id:Int} (h:(strOf l id).2=true):(strOf l id).1.id=id∧(strOf l id).1 ∈ l:=by
 unfold strOf at h ⊢
 split at h
 ·rename_i s hs
  have h1:=List.find?_some hs
  exact ⟨oT h1,List.mem_of_find?_eq_some hs⟩
 ·cases h
theorem putS_len_in {l:List TStream} {s:TStream} (h:(strOf l s.id).2=true):(putS l s).length=l.length:=by
 unfold putS
 split
 ·rw [List.length_set]
 ·rename_i hn
  obtain ⟨h1,h2⟩:=strOf_id h
  rw [List.findIdx?_eq_none_iff] at hn
  have:=hn _ h2
  simp [idIs,h1] at this
def putK (c:TConn) (s:TStream):TConn:={ c with streams:=putS c.streams s }
theorem invC_put {m:Nat} {c:TConn} {s:TStream} (h:InvC m c) (hs:InvS m s) (hf:(strOf c.streams s.id).2=true):InvC m (putK c s):=by
 refine ⟨?_,fun x hx=>?_,h.lp,h.pk⟩
 ·simp only [putK,putS_len_in hf];exact h.ls
 ·rcases putS_mem hx with hx|rfl
  ·exact h.st x hx
  ·exact hs
theorem ensL_mem {v:Bool} {o p:TConf} {id:Int}:∀ (k:Nat) (l:List TStream) (x:TStream),x ∈ ensL v o p id k l→x ∈ l∨∃ i,x=newStr v i o p
 |0,l,x,h=>Or.inl h
 |k + 1,l,x,h=>by
  rcases ensL_mem k _ x h with h|h
  ·rcases putS_mem h with h|h
   ·exact Or.inl h
   ·exact Or.inr ⟨_,h⟩
  ·exact Or.inr h
theorem invC_ens {m:Nat} {c:TConn} (h:InvC m c) (id:Int):InvC m (ensC c id):=by
 unfold ensC
 split
 ·rename_i hg
  simp only [Bool.and_eq_true] at hg
  have hn:=ensG_n hg.2 (by have:=h.ls;omega)
  have hl:=ensL_len c.server c.own c.peer id (ensN c id).toNat c.streams
  have hw:(ensW c id (siA (ensA c id) (indexOf id))).packets=c.packets:=by unfold ensW;split<;>rfl
  refine ⟨by simp only;omega,fun x hx=>?_,by simp only [hw];exact h.lp,by simp only [hw];exact h.pk⟩
  rcases ensL_mem _ _ x hx with hx|⟨i,rfl⟩
  ·exact h.st x hx
  ·exact invS_new m _ _ _ _
 ·exact h
end Gv
