/-
  Part of the proof: the machine, what functions compute, and the plain laws.
-/
import Derived.Test.YtgkcbnkpgaieaaaGreatM04
namespace Gv
open Go Go.Proofs
set_option maxRecDepth 100000
def finG (c:TConn) (id:Int):Bool:=callG c id && canW (strI c id).send
def finC (c:TConn) (id:Int):TConn:=if finG c id then { c with streams:=putS c.streams (withSnd (strI c id) (closeSnd (strI c id).send)) } else c
set_option maxHeartbeats 8000000 in
theorem spec_FinishStream (c:TConn) (id:Int) (hz:SzC c) (hw:SzS (withSnd (strI c id) (closeSnd (strI c id).send))):PureCall Tryz.prog 132 [.agg (TConn.enc c),.one (.int .i64 id)] [.agg (TConn.enc ((finC c id))),.one (.bool (finG c id))]:=by
 refine pureT 49 Tryz.func132 Tryz.call132 [.cell 4 37,.tmp 5] ?_
 intro ok
 clear ok
 have hbk:=bulkC hz
 have hC:finC c id=if finG c id then { c with streams:=putS c.streams (withSnd (strI c id) (closeSnd (strI c id).send)) } else c:=rfl
 have hN:finG c id=(callG c id && canW (strI c id).send):=rfl
 have hG:=callG_guard c id
 obtain ⟨s1,s2,s3,s4⟩:=strOf_len hz.2.1 id
 have hO:=spec_StreamOf c id hz
 rw [show (strOf c.streams id).1=strI c id from rfl] at s1 s2 s3 s4 hO
 have hP:=spec_PutStream c.streams (withSnd (strI c id) (closeSnd (strI c id).send)) (by have:=hz.1;omega) hz.2.1 hw
 generalize strI c id=s at *
 try simp only [go_sem]
 repeat' ((first|refine CallS.cln (by first|assumption|(apply spec_l17Copy<;>first|assumption|omega)|(apply spec_l19Fine<;>first|assumption|omega)) ?_|refine CallK.cln (by assumption) ?_|refine gSymS ?_)<;>simp only [go_sem,lM])
 rw [hG]
 cases hg:callG c id with
 |false=>
  rw [hg,Bool.false_and] at hN
  rw [hN] at hC
  try simp only [go_sem,lM,Bool.not_false]
  repeat' (first|((first|refine CallS.cln (by assumption) ?_|refine CallK.cln (by assumption) ?_)<;>simp only [go_sem,lM,Bool.not_false])|(with_reducible refine sideI ?_)|fail)
  all_goals simp [hC,hN]
 |true=>
  rw [hg,Bool.true_and] at hN
  try simp only [go_sem,lM,Bool.not_true]
  repeat' ((first|refine CallS.cln (by first|assumption|(apply spec_CloseSender<;>first|assumption|omega)) ?_|refine CallK.cln (by assumption) ?_)<;>simp only [go_sem,lM])
  cases hr:canW s.send with
  |false=>
   rw [hr] at hN
   rw [hN] at hC
   try simp only [go_sem,lM,Bool.not_false]
   repeat' (first|((first|refine CallS.cln (by assumption) ?_|refine CallK.cln (by assumption) ?_)<;>simp only [go_sem,lM,Bool.not_false])|(with_reducible refine sideI ?_)|fail)
   all_goals simp [hC,hN]
  |true=>
   rw [hr] at hN
   rw [hN] at hC
   try simp only [go_sem,lM,Bool.not_true]
   repeat' (first|((first|refine CallS.cln (by assumption) ?_|refine CallK.cln (by assumption) ?_)<;>simp only [go_sem,lM,withSnd])|(with_reducible refine sideI ?_)|fail)
   all_goals simp [hC,hN,withSnd]
def priC (c:TConn) (id:Int) (t:List UInt8):TConn:=if callG c id then { c with streams:=putS c.streams { strI c id with priority:=mergeP (strI c id).priority t } } else c
set_option maxHeartbeats 8000000 in
theorem spec_SetPriority (c:TConn) (id:Int) (t:List UInt8) (hz:SzC c) (ht:t.length≤1000):PureCall Tryz.prog 135 [.agg (TConn.enc c),.one (.int .i64 id),.one (.str t)] [.agg (TConn.enc ((priC c id t))),.one (.bool (callG c id))]:=by
 refine pureT 43 Tryz.func135 Tryz.call135 [.cell 6 37,.tmp 7] ?_
 intro ok
 clear ok
 have hbk:=bulkC hz
 have hC:priC c id t=if callG c id then { c with streams:=putS c.streams { strI c id with priority:=mergeP (strI c id).priority t } } else c:=rfl
 have hG:=callG_guard c id
 have hss:SzS (strI c id):=strOf_len hz.2.1 id
 have hO:=spec_StreamOf c id hz
 rw [show (strOf c.streams id).1=strI c id from rfl] at hO
 have hP:=spec_PutStream c.streams { strI c id with priority:=mergeP (strI c id).priority t } (by have:=hz.1;omega) hz.2.1 hss
 generalize strI c id=s at *
 obtain ⟨s1,s2,s3,s4⟩:=hss
 try simp only [go_sem]
 repeat' ((first|refine CallS.cln (by first|assumption|(apply spec_l17Copy<;>first|assumption|omega)|(apply spec_l19Fine<;>first|assumption|omega)) ?_|refine CallK.cln (by assumption) ?_|refine gSymS ?_)<;>simp only [go_sem,lM])
 rw [hG]
 cases hg:callG c id with
 |false=>
  rw [hg] at hC
  try simp only [go_sem,lM,Bool.not_false]
  repeat' (first|((first|refine CallS.cln (by assumption) ?_|refine CallK.cln (by assumption) ?_)<;>simp only [go_sem,lM,Bool.not_false])|(with_reducible refine sideI ?_)|fail)
  all_goals simp [hC]
 |true=>
  rw [hg] at hC
  try simp only [go_sem,Bool.not_true]
  repeat' (first|((first|refine CallS.cln (by first|assumption|(apply spec_MergePriority<;>first|assumption|omega)) ?_|refine CallK.cln (by assumption) ?_)<;>simp only [go_sem,lM])|(with_reducible refine sideI ?_)|fail)
  all_goals simp [hC]
def opnN (c:TConn) (u:Bool):TCount:=if u then c.openUni else c.openBidi
def opnA (c:TConn):Bool:=fineC c && !decide (24≤(c.streams.length:Int))
def opnW (c:TConn) (u:Bool):TConn:=if u then { c with openUni:=openC c.openUni } else { c with openBidi:=openC c.openBidi }
def opnG (c:TConn) (u:Bool):Bool:=opnA c && openOk (opnN c u)
def opnI (c:TConn) (u:Bool):Int:=if opnG c u then makeId (openIx (opnN c u)) c.server u else -1
def opnC (c:TConn) (u:Bool):TConn:=
 if opnA c then (if openOk (opnN c u) then { opnW c u with streams:=putS c.streams (newStr c.server (makeId (openIx (opnN c u)) c.server u) c.own c.peer) } else opnW c u) else c
theorem opn_guard (c:TConn):(bif !fineC c then true else decide (24≤(c.streams.length:Int)))=!opnA c:=by
 unfold opnA
 cases fineC c<;>cases decide (24≤(c.streams.length:Int))<;>rfl
set_option maxHeartbeats 8000000 in
theorem spec_OpenStream (c:TConn) (u:Bool) (hz:SzC c):PureCall Tryz.prog 129 [.agg (TConn.enc c),.one (.bool u)] [.one (.int .i64 (opnI c u)),.agg (TConn.enc ((opnC c u))),.one (.bool (opnG c u))]:=by
 refine pureT 69 Tryz.func129 Tryz.call129 [.tmp 4,.cell 5 37,.tmp 6] ?_
 intro ok
 clear ok
 have hbk:=bulkC hz
 have hC:opnC c u=if opnA c then (if openOk (opnN c u) then { opnW c u with streams:=putS c.streams (newStr c.server (makeId (openIx (opnN c u)) c.server u) c.own c.peer) } else opnW c u) else c:=rfl
 have hN:opnG c u=(opnA c && openOk (opnN c u)):=rfl
 have hI:opnI c u=if opnG c u then makeId (openIx (opnN c u)) c.server u else -1:=rfl
 have hG:=opn_guard c
 have hP:=spec_PutStream c.streams (newStr c.server (makeId (openIx (opnN c u)) c.server u) c.own c.peer) (by have:=hz.1;omega) hz.2.1 (newStr_sz _ _ _ _)
 try simp only [go_sem]
 repeat' ((first|refine CallS.cln (by first|assumption|(apply spec_l17Copy<;>first|assumption|omega)|(apply spec_l19Fine<;>first|assumption|omega)) ?_|refine CallK.cln (by assumption) ?_|refine gSymS ?_)<;>simp only [go_sem,lM])
 rw [hG]
 cases hg:opnA c with
 |false=>
  rw [hg] at hC
  rw [hg,Bool.false_and] at hN
  rw [hN] at hI
  try simp only [go_sem,Bool.not_false]
  repeat' (first|((first|refine CallS.cln (by assumption) ?_|refine CallK.cln (by assumption) ?_|refine drawE_intro [[.post,.un,.post,.post],[.un,.post,.post,.post],[.pre,.pre,.post,.post],[.pre,.pre,.pre,.post]] (by kernel_rfl) (by rfl) ?_)<;>simp only [go_sem,lM])|(with_reducible refine sideI ?_)|fail)
  all_goals simp [hC,hN,hI]
 |true=>
  rw [hg] at hC
  rw [hg,Bool.true_and] at hN
  cases u with
  |true=>
   have e1:opnN c true=c.openUni:=rfl
   have e2:opnW c true={ c with openUni:=openC c.openUni }:=rfl
   rw [e1] at hC hN hI hP
   rw [e2] at hC
   try simp only [go_sem,Bool.not_true]
   repeat' ((first|refine CallS.cln (by first|assumption|apply spec_OpenNext) ?_|refine CallK.cln (by assumption) ?_)<;>simp only [go_sem])
   cases ho:openOk c.openUni with
   |false=>
    rw [ho] at hC hN
    rw [hN] at hI
    try simp only [go_sem,Bool.not_false]
    repeat' (first|((first|refine CallS.cln (by assumption) ?_|refine CallK.cln (by assumption) ?_|refine drawE_intro [[.post,.un,.post,.post],[.un,.post,.post,.post],[.pre,.pre,.post,.post],[.pre,.pre,.pre,.post]] (by kernel_rfl) (by rfl) ?_)<;>simp only [go_sem,lM])|(with_reducible refine sideI ?_)|fail)
    all_goals simp [hC,hN,hI]
   |true=>
    rw [ho] at hC hN
    rw [hN] at hI
    try simp only [go_sem,Bool.not_true]
    repeat' (first|((first|refine CallS.cln (by first|assumption|apply spec_MakeId|apply spec_NewStream) ?_|refine CallK.cln (by assumption) ?_|refine drawE_intro [[.post,.un,.post,.post,.post],[.un,.post,.un,.post,.post],[.pre,.un,.post,.post,.post],[.pre,.pre,.pre,.post,.post],[.pre,.pre,.pre,.pre,.post]] (by kernel_rfl) (by rfl) ?_)<;>simp only [go_sem,lM])|(with_reducible refine sideI ?_)|fail)
    all_goals simp [hC,hN,hI]
  |false=>
   have e1:opnN c false=c.openBidi:=rfl
   have e2:opnW c false={ c with openBidi:=openC c.openBidi }:=rfl
   rw [e1] at hC hN hI hP
   rw [e2] at hC
   try simp only [go_sem,Bool.not_true]
   repeat' ((first|refine CallS.cln (by first|assumption|apply spec_OpenNext) ?_|refine CallK.cln (by assumption) ?_)<;>simp only [go_sem])
   cases ho:openOk c.openBidi with
   |false=>
    rw [ho] at hC hN
    rw [hN] at hI
    try simp only [go_sem,Bool.not_false]
    repeat' (first|((first|refine CallS.cln (by assumption) ?_|refine CallK.cln (by assumption) ?_|refine drawE_intro [[.post,.un,.post,.post],[.un,.post,.post,.post],[.pre,.pre,.post,.post],[.pre,.pre,.pre,.post]] (by kernel_rfl) (by rfl) ?_)<;>simp only [go_sem,lM])|(with_reducible refine sideI ?_)|fail)
    all_goals simp [hC,hN,hI]
   |true=>
    rw [ho] at hC hN
    rw [hN] at hI
    try simp only [go_sem,Bool.not_true]
    repeat' (first|((first|refine CallS.cln (by first|assumption|apply spec_MakeId|apply spec_NewStream) ?_|refine CallK.cln (by assumption) ?_|refine drawE_intro [[.post,.un,.post,.post,.post],[.un,.post,.un,.post,.post],[.pre,.un,.post,.post,.post],[.pre,.pre,.pre,.post,.post],[.pre,.pre,.pre,.pre,.post]] (by kernel_rfl) (by rfl) ?_)<;>simp only [go_sem,lM])|(with_reducible refine sideI ?_)|fail)
    all_goals simp [hC,hN,hI]
theorem invC_fin {m:Nat} {c:TConn} (h:InvC m c) (id:Int):InvC m (finC c id):=by
 unfold finC
 split
 ·rename_i hg
  simp only [finG,Bool.and_eq_true] at hg
  exact invC_putI (id:=id) h (callG_found hg.1) rfl ((h.strI id).snd' (invSnd_close (h.strI id).snd))
 ·exact h
theorem invC_pri {m:Nat} {c:TConn} (h:InvC m c) (id:Int) (t:List UInt8):InvC m (priC c id t):=by
 unfold priC
 split
 ·rename_i hg
  exact invC_putI (id:=id) (s:={ strI c id with priority:=mergeP (strI c id).priority t }) h (callG_found hg) rfl ((h.strI id).same rfl rfl)
 ·exact h
theorem opnW_same (c:TConn) (u:Bool):(opnW c u).streams=c.streams∧(opnW c u).packets=c.packets:=by unfold opnW;split<;>exact ⟨rfl,rfl⟩
theorem invC_opn {m:Nat} {c:TConn} (h:InvC m c) (u:Bool):InvC m (opnC c u):=by
 unfold opnC
 obtain ⟨w1,w2⟩:=opnW_same c u
 split
 ·rename_i hg
  split
  ·simp only [opnA,Bool.and_eq_true,Bool.not_eq_true',decide_eq_false_iff_not] at hg
   have hl:=putS_len c.streams (newStr c.server (makeId (openIx (opnN c u)) c.server u) c.own c.peer)
   refine ⟨by simp only;omega,fun x hx=>?_,by simp only [w2];exact h.lp,by simp only [w2];exact h.pk⟩
   rcases putS_mem hx with hx|rfl
   ·exact h.st x hx
   ·exact invS_new m _ _ _ _
  ·exact h.same w1 w2
 ·exact h
set_option maxRecDepth 100000
set_option maxHeartbeats 2000000 in
theorem l15Conf_inl (bs:List Int) (hm:bs.length≤maxLen) (i:Nat) (h:Int) (pre rest:List H) (kv:List V) (n:Nat) (hn:pre.length + (rest.length + 1)=n) (hr:roks n pre∧roks n rest) (hkv:voks n kv) (K:V→List H→Prop) (hi:i≤bs.length)
  (hk:∀ (i':Nat) (h':Int) (c:TConf),i'≤bs.length→K (.agg (TConf.ve c)) (pre++curB bs i' h'::rest)):InlCall Tryz.prog 100 kv (pre++curB bs i h::rest) [.ptr pre.length 0 0] K:=by
 have fin:∀ (i':Nat) (h':Int) (c:TConf) (ex:List H),i'≤bs.length→SeeX kv K (.agg (TConf.ve c)) (pre++curB bs i' h'::(rest++ex)):=by
  intro i' h' c ex hi'
  subst hn
  exact ⟨List.range (pre.length + (rest.length + 1)),.agg (TConf.ve c),pre++curB bs i' h'::rest,see_cur hr hkv (by simp only [TConf.ve,vsees,vsee,ren,rens,and_true]) (by simp [voks,vok]),hk i' h' c hi'⟩
 refine InlCall.see ?_
 refine (inl_ev (n:=19) (rs:=[.cell 2 25]) Tryz.func100 rfl Tryz.call100 Tryz.checked.mixed rfl rfl ?_)
 simp only [go_sem,hput_end,hput_endN]
 refine CallS.intro spec_DefaultConf ?_
 simp only [go_sem,hput_endN,hget_endN]
 refine CallS.inl (l1Below_inl bs hm i h pre (rest++[.box TConf.zc,.box (TConf.ve defConf)]) _ 3 (by omega) (by omega) _ hi fun i1 h1 x1 a1 b1 c1=>?_)
 simp only [go_sem]
 refine cSplit (fun q=>?_) (fun q=>?_)
 ·simp only [go_sem,hput_endN,hget_endN,hget_end0,hput_end0]
  exact fin i1 h1 { defConf with ring:=8,window:=4,total:=6,bidi:=1 } _ a1
 ·simp only [go_sem]
  refine cSplit (fun q2=>?_) (fun q2=>?_)
  ·simp only [go_sem,hput_endN,hget_endN,hget_end0,hput_end0]
   exact fin i1 h1 { defConf with bidi:=3,uni:=1,trip:=2 } _ a1
  ·simp only [go_sem,hput_endN,hget_endN,hget_end0,hput_end0]
   exact fin i1 h1 defConf _ a1
set_option maxHeartbeats 4000000 in
theorem l4Frame_inl (bs:List Int) (hm:bs.length≤maxLen) (i:Nat) (h:Int) (pre rest:List H) (kv:List V) (n:Nat) (hn:pre.length + (rest.length + 1)=n) (hr:roks n pre∧roks n rest) (hkv:voks n kv) (K:V→List H→Prop) (hi:i≤bs.length)
  (hk:∀ (i':Nat) (h':Int) (f:TFrame),i'≤bs.length→f.data.length≤6→0≤f.offset→f.offset≤11→K (.agg (TFrame.ve f)) (pre++curB bs i' h'::rest)):InlCall Tryz.prog 138 kv (pre++curB bs i h::rest) [.ptr pre.length 0 0] K:=by
 have fin:∀ (i':Nat) (h':Int) (f:TFrame) (ex:List H),i'≤bs.length→f.data.length≤6→0≤f.offset→f.offset≤11→SeeX kv K (.agg (TFrame.ve f)) (pre++curB bs i' h'::(rest++ex)):=by
  intro i' h' f ex hi' g1 g2 g3
  subst hn
  exact ⟨List.range (pre.length + (rest.length + 1)),.agg (TFrame.ve f),pre++curB bs i' h'::rest,see_cur hr hkv (by simp only [TFrame.ve,vsees,vsee,ren,rens,and_true]) (by simp [voks,vok]),hk i' h' f hi' g1 g2 g3⟩
 have hro:∀ l:List H,roks (pre.length + ((rest++l).length + 1)) l→roks (pre.length + ((rest++l).length + 1)) pre∧roks (pre.length + ((rest++l).length + 1)) (rest++l):=by
  intro l hl
  have e:n≤pre.length + ((rest++l).length + 1):=by simp only [List.length_append];omega
  exact ⟨roks_mono e hr.1,roks_append (roks_mono e hr.2) hl⟩
 have hkv':∀ k,n≤k→voks k kv:=fun k hk=>voks_mono hk _ hkv
 refine InlCall.see ?_
 refine (inl_ev (n:=34) (rs:=[.cell 2 88]) Tryz.func138 rfl Tryz.call138 Tryz.checked.mixed rfl rfl ?_)
 simp only [go_sem,hput_end,hput_endN,hget_endN]
 refine CallS.inl (l1PickInt_inl bs hm i h pre (rest++[.box TFrame.zc,.arr 1 ([4,5,8,8,8,8,16,17,18,20,21,22].map eI) true]) _ (rest.length + 1) [4,5,8,8,8,8,16,17,18,20,21,22] (by rw [hget_endN];rfl) (by decide) (by decide) _ hi fun i1 h1 x1 a1 b1=>?_)
 simp only [go_sem,hput_endN,hget_endN]
 refine CallS.inl (l1Below_inl bs hm i1 h1 pre (rest++[.box TFrame.zc,.arr 1 ([4,5,8,8,8,8,16,17,18,20,21,22].map eI) true,.box [.d (.int .i64 x1),.d (.int .i64 0),.d (.int .i64 0),.d (.str []),.d (.bool false),.d (.int .i64 0),.d (.int .i64 0),.d (.int .i64 0),.d (.bool false)]]) _ 8 (by omega) (by omega) _ a1 fun i2 h2 x2 a2 b2 c2=>?_)
 simp only [go_sem,hput_endN,hget_endN]
 refine CallS.inl (l1Below_inl bs hm i2 h2 pre (rest++[.box TFrame.zc,.arr 1 ([4,5,8,8,8,8,16,17,18,20,21,22].map eI) true,.box [.d (.int .i64 x1),.d (.int .i64 x2),.d (.int .i64 0),.d (.str []),.d (.bool false),.d (.int .i64 0),.d (.int .i64 0),.d (.int .i64 0),.d (.bool false)]]) _ 12 (by omega) (by omega) _ a2 fun i3 h3 x3 a3 b3 c3=>?_)
 simp only [go_sem,hput_endN,hget_endN]
 refine CallS.inlK [0,2,3] (by simp only [keepT,List.elem_cons,List.elem_nil,Nat.reduceBEq,Nat.reduceAdd,cond_true,cond_false];rfl) (l4Data_inl bs hm i3 h3 pre (rest++[.box TFrame.zc,.arr 1 ([4,5,8,8,8,8,16,17,18,20,21,22].map eI) true,.box [.d (.int .i64 x1),.d (.int .i64 x2),.d (.int .i64 x3),.d (.str []),.d (.bool false),.d (.int .i64 0),.d (.int .i64 0),.d (.int .i64 0),.d (.bool false)]]) _ 6 (hro _ (by simp [roks,rok,voks,vok])) (by
  simp only [List.length_append,List.length_cons,List.length_nil,cA,nA,voks,vok,true_and]
  have hq:=hkv' (pre.length + (rest.length + (0 + 1 + 1 + 1) + 1)) (by omega)
  simp only [hq,and_true]
  omega) (by omega) _ a3 fun i4 h4 s4 a4 g4=>?_)
 simp only [go_sem,hput_endN,hget_endN]
 refine CallS.inl (l1Once_inl bs hm i4 h4 pre (rest++[.box TFrame.zc,.arr 1 ([4,5,8,8,8,8,16,17,18,20,21,22].map eI) true,.box [.d (.int .i64 x1),.d (.int .i64 x2),.d (.int .i64 x3),.d (.str s4),.d (.bool false),.d (.int .i64 0),.d (.int .i64 0),.d (.int .i64 0),.d (.bool false)]]) _ 4 (by omega) (by omega) _ a4 fun i5 h5 b5 a5=>?_)
 simp only [go_sem,hput_endN,hget_endN]
 refine CallS.inl (l1Below_inl bs hm i5 h5 pre (rest++[.box TFrame.zc,.arr 1 ([4,5,8,8,8,8,16,17,18,20,21,22].map eI) true,.box [.d (.int .i64 x1),.d (.int .i64 x2),.d (.int .i64 x3),.d (.str s4),.d (.bool b5),.d (.int .i64 0),.d (.int .i64 0),.d (.int .i64 0),.d (.bool false)]]) _ 5 (by omega) (by omega) _ a5 fun i6 h6 x6 a6 b6 c6=>?_)
 simp only [go_sem,hput_endN,hget_endN]
 refine CallS.inl (l1Below_inl bs hm i6 h6 pre (rest++[.box TFrame.zc,.arr 1 ([4,5,8,8,8,8,16,17,18,20,21,22].map eI) true,.box [.d (.int .i64 x1),.d (.int .i64 x2),.d (.int .i64 x3),.d (.str s4),.d (.bool b5),.d (.int .i64 x6),.d (.int .i64 0),.d (.int .i64 0),.d (.bool false)]]) _ 40 (by omega) (by omega) _ a6 fun i7 h7 x7 a7 b7 c7=>?_)
 simp only [go_sem,hput_endN,hget_endN]
 refine CallS.inl (l1Below_inl bs hm i7 h7 pre (rest++[.box TFrame.zc,.arr 1 ([4,5,8,8,8,8,16,17,18,20,21,22].map eI) true,.box [.d (.int .i64 x1),.d (.int .i64 x2),.d (.int .i64 x3),.d (.str s4),.d (.bool b5),.d (.int .i64 x6),.d (.int .i64 x7),.d (.int .i64 0),.d (.bool false)]]) _ 14 (by omega) (by omega) _ a7 fun i8 h8 x8 a8 b8 c8=>?_)
 simp only [go_sem,hput_endN,hget_endN]
 refine CallS.inl (l1Once_inl bs hm i8 h8 pre (rest++[.box TFrame.zc,.arr 1 ([4,5,8,8,8,8,16,17,18,20,21,22].map eI) true,.box [.d (.int .i64 x1),.d (.int .i64 x2),.d (.int .i64 x3),.d (.str s4),.d (.bool b5),.d (.int .i64 x6),.d (.int .i64 x7),.d (.int .i64 x8),.d (.bool false)]]) _ 2 (by omega) (by omega) _ a8 fun i9 h9 b9 a9=>?_)
 simp only [go_sem,hput_endN,hget_endN]
 refine CallS.intro (spec_l4Used x1 x2 x3 s4 b5 x6 x7 x8 b9) ?_
 simp only [go_sem,hput_endN,hget_endN,hget_end0,hput_end0]
 have hu:(usedF ⟨x1,x2,x3,s4,b5,x6,x7,x8,b9⟩).data.length≤6:=by simp only [usedF];split<;>first|exact g4|simp
 have hu2:0≤(usedF ⟨x1,x2,x3,s4,b5,x6,x7,x8,b9⟩).offset∧(usedF ⟨x1,x2,x3,s4,b5,x6,x7,x8,b9⟩).offset≤11:=by simp only [usedF];split<;>omega
 exact fin i9 h9 (usedF ⟨x1,x2,x3,s4,b5,x6,x7,x8,b9⟩) _ a9 hu hu2.1 hu2.2
set_option maxRecDepth 100000
set_option maxHeartbeats 4000000 in
theorem spec_NewConn (s:Bool) (eR eT eU eV eW eX eY eZ fB fD fE fF fG fJ fK fL:Int):PureCall Tryz.prog 99 [.one (.bool s),.agg [.int .i64 eR,.int .i64 eT,.int .i64 eU,.int .i64 eV,.int .i64 eW,.int .i64 eX,.int .i64 eY,.int .i64 eZ],.agg [.int .i64 fB,.int .i64 fD,.int .i64 fE,.int .i64 fF,.int .i64 fG,.int .i64 fJ,.int .i64 fK,.int .i64 fL]] [.agg (TConn.enc (newConn s (⟨eR,eT,eU,eV,eW,eX,eY,eZ⟩:TConf) (⟨fB,fD,fE,fF,fG,fJ,fK,fL⟩:TConf))),.one (.bool (isConf (⟨eR,eT,eU,eV,eW,eX,eY,eZ⟩:TConf) && isConf (⟨fB,fD,fE,fF,fG,fJ,fK,fL⟩:TConf)))]:=by
 refine pureT 85 Tryz.func99 Tryz.call99 [.cell 6 37,.tmp 7] ?_
 intro _
 try simp only [go_sem]
 repeat' (first
  |((first|refine CallS.intro (by first|assumption|(apply spec_IsConf<;>first|assumption|omega)|(apply spec_NewCredit<;>first|assumption|omega)|(apply spec_NewWindow<;>first|assumption|omega)|(apply spec_NewCount<;>first|assumption|omega)|(apply spec_NewAllow<;>first|assumption|omega)) ?_|refine CallK.intro (by first|assumption|(apply spec_IsConf<;>first|assumption|omega)|(apply spec_NewCredit<;>first|assumption|omega)|(apply spec_NewWindow<;>first|assumption|omega)|(apply spec_NewCount<;>first|assumption|omega)|(apply spec_NewAllow<;>first|assumption|omega)) ?_|with_reducible refine gTrueS ?_|with_reducible refine gFalseS ?_|with_reducible refine gTrue ?_|with_reducible refine gFalse ?_|refine gSymS ?_|refine gSym ?_|refine cSplit (fun h=>?_) (fun h=>?_))<;>simp only [go_sem])
  |(with_reducible refine sideI ?_)|fail)
 all_goals (cases h1:isConf (⟨eR,eT,eU,eV,eW,eX,eY,eZ⟩:TConf)<;>cases h2:isConf (⟨fB,fD,fE,fF,fG,fJ,fK,fL⟩:TConf)<;>simp_all [newConn])
set_option maxRecDepth 100000
theorem len9 {S:List Bool} (h:S.length=9):∃ a0 a1 a2 a3 a4 a5 a6 a7 a8,S=[a0,a1,a2,a3,a4,a5,a6,a7,a8]:=by
 match S,h with|[a0,a1,a2,a3,a4,a5,a6,a7,a8],_=>exact ⟨a0,a1,a2,a3,a4,a5,a6,a7,a8,rfl⟩
theorem len10 {S:List Bool} (h:S.length=10):∃ a0 a1 a2 a3 a4 a5 a6 a7 a8 a9,S=[a0,a1,a2,a3,a4,a5,a6,a7,a8,a9]:=by
 match S,h with|[a0,a1,a2,a3,a4,a5,a6,a7,a8,a9],_=>exact ⟨a0,a1,a2,a3,a4,a5,a6,a7,a8,a9,rfl⟩
theorem len11 {S:List Bool} (h:S.length=11):∃ a0 a1 a2 a3 a4 a5 a6 a7 a8 a9 a10,S=[a0,a1,a2,a3,a4,a5,a6,a7,a8,a9,a10]:=by
 match S,h with|[a0,a1,a2,a3,a4,a5,a6,a7,a8,a9,a10],_=>exact ⟨a0,a1,a2,a3,a4,a5,a6,a7,a8,a9,a10,rfl⟩
def yArr (y:TConn):List H:=[.arr 39 (y.streams.map TStream.enc) true,.arr 2 (y.packets.map TPacket.enc) true]
def yVal (y:TConn) (a:Nat):V:=.agg (TConn.vc y (.sl a 0 y.streams.length) (.sl (a + 1) 0 y.packets.length))
def lk (K:V→List H→Prop):V→List H→Prop:=fun x hs'=>K x hs'∨∃ id sz xs,hget hs' id=.cln sz xs∧K x (hput hs' id (.arr sz xs true))
theorem stepFin {kv:List V} (hkv:voks 5 kv) (y:TConn) (a:Nat) (ha:5≤a) {q0 c q2 q3 q4:H} (hq:roks 5 [q0,c,q2,q3,q4]) {ex:List H} {K:V→List H→Prop} (e1:hget (q0::c::q2::q3::q4::ex) a=.cln 39 (y.streams.map TStream.enc)) (e2:hget (q0::c::q2::q3::q4::ex) (a + 1)=.cln 2 (y.packets.map TPacket.enc))
  (hK:K (yVal y 5) ([q0,c,q2,q3,q4]++yArr y)):SeeX kv (lk (lk K)) (yVal y a) (q0::c::q2::q3::q4::ex):=by
 refine ⟨List.range 5++[a,a + 1],yVal y 5,[q0,c,q2,q3,q4]++[H.cln 39 (y.streams.map TStream.enc),H.cln 2 (y.packets.map TPacket.enc)],?_,Or.inr ⟨5,39,_,rfl,Or.inr ⟨6,2,_,rfl,hK⟩⟩⟩
 refine see_keepN (hs:=[q0,c,q2,q3,q4]) (ex:=ex) [a,a + 1] (by simp) (by simp;omega) hq ?_ (by simp [allOk,hok]) hkv ?_ ?_
 ·simp only [cA,nA,hsees,e1,e2]
  simp [hsee]
 ·simp [yVal,vsees,vsee,ren,rens,List.range,List.range.loop]
 ·simp [yVal,voks,vok]
theorem stepSame {kv:List V} (hkv:voks 5 kv) (x:TConn) {q0 c q2 q3 q4:H} (hq:roks 5 [q0,c,q2,q3,q4]) {ex:List H} {K:V→List H→Prop} (hK:K (yVal x 5) ([q0,c,q2,q3,q4]++yArr x)) :
  SeeX kv (lk (lk K)) (yVal x 5) (q0::c::q2::q3::q4::.arr 39 (x.streams.map TStream.enc) true::.arr 2 (x.packets.map TPacket.enc) true::ex):=by
 have hr:roks 7 ([q0,c,q2,q3,q4]++yArr x):=roks_append (roks_mono (m:=5) (n:=7) (by omega) hq) (by simp [yArr,roks,rok])
 refine ⟨List.range 7,yVal x 5,[q0,c,q2,q3,q4]++yArr x,?_,Or.inl (Or.inl hK)⟩
 refine see_keep (hs:=[q0,c,q2,q3,q4]++yArr x) (ex:=ex) hr (voks_mono (by simp [yArr]) _ hkv) ?_ ?_
 ·simp [yVal,yArr,vsees,vsee,ren,rens,List.range,List.range.loop]
 ·simp [yVal,yArr,voks,vok]
def stH (q0 c q2 q3 q4:H) (x:TConn):List H:=[q0,c,q2,q3,q4,.arr 39 (x.streams.map TStream.enc) true,.arr 2 (x.packets.map TPacket.enc) true,.box (TConn.vc x (.sl 5 0 x.streams.length) (.sl 6 0 x.packets.length)),.box TConn.zc]
def stD3 (bs:List Int) (q0 q2 q3 q4:H) (x:TConn) (id:Int) (i:Nat) (h:Int) (z:Nat×Int) (S:List Bool):St:=⟨(.ptr 1 0 0::.agg (TConn.vc x (.sl 5 0 x.streams.length) (.sl 6 0 x.packets.length))::.junk::.ptr 7 0 0::.ptr 8 0 0::(bif S.getD 10 false then .d (.int .i64 z.2) else .d (.int .i64 id))::jn 5 (.ptr 7 0 17::.sl 5 0 x.streams.length::.d (.int .i64 x.streams.length)::.d (.bool true)::(bif S.getD 0 false then .ptr 7 0 17 else .junk)::(bif S.getD 1 false then .sl 5 0 x.streams.length else .junk)::(bif S.getD 2 false then .ptr 1 0 0 else .junk)::(bif S.getD 3 false then .ptr 7 0 17 else .junk)::(bif S.getD 4 false then .sl 5 0 x.streams.length else .junk)::(bif S.getD 5 false then .d (.int .i64 x.streams.length) else .junk)::(bif S.getD 6 false then .d (.int .i64 z.1) else .junk)::(bif S.getD 7 false then .ptr 5 z.1 0 else .junk)::(bif S.getD 8 false then .ptr 5 z.1 0 else .junk)::(bif S.getD 9 false then .d (.int .i64 z.2) else .junk)::jn 122 [])),[q0,curB bs i h,q2,q3,q4,.arr 39 (x.streams.map TStream.enc) true,.arr 2 (x.packets.map TPacket.enc) true,.box (TConn.vc x (.sl 5 0 x.streams.length) (.sl 6 0 x.packets.length)),.box TConn.zc]⟩
def stD7 (bs:List Int) (q0 q2 q3 q4:H) (x:TConn) (id:Int) (i:Nat) (h:Int) (z:Bool) (S:List Bool):St:=⟨(.ptr 1 0 0::.junk::.junk::.ptr 7 0 0::.ptr 8 0 0::.d (.int .i64 id)::.ptr 9 0 0::jn 18 (.agg (TConn.vc x (.sl 5 0 x.streams.length) (.sl 6 0 x.packets.length))::.ptr 1 0 0::.d (.int .i64 0)::.d (.bool true)::.d (.bool true)::(bif S.getD 4 false then .tup [.d (.int .i64 (opnI x z)),.agg (TConn.vc (opnC x z) (.sl 10 0 (opnC x z).streams.length) (.sl 11 0 (opnC x z).packets.length)),.d (.bool (opnG x z))] else .junk)::(bif S.getD 0 false then .agg (TConn.vc x (.sl 5 0 x.streams.length) (.sl 6 0 x.packets.length)) else .junk)::(bif S.getD 1 false then .ptr 1 0 0 else .junk)::(bif S.getD 2 false then .d (.bool z) else .junk)::(bif S.getD 3 false then .tup [.d (.int .i64 (opnI x z)),.agg (TConn.vc (opnC x z) (.sl 10 0 (opnC x z).streams.length) (.sl 11 0 (opnC x z).packets.length)),.d (.bool (opnG x z))] else .junk)::(bif S.getD 5 false then .d (.int .i64 (opnI x z)) else .junk)::(bif S.getD 6 false then .agg (TConn.vc (opnC x z) (.sl 10 0 (opnC x z).streams.length) (.sl 11 0 (opnC x z).packets.length)) else .junk)::(bif S.getD 7 false then .d (.bool (opnG x z)) else .junk)::jn 109 [])),[q0,curB bs i h,q2,q3,q4,.arr 39 (x.streams.map TStream.enc) true,.arr 2 (x.packets.map TPacket.enc) true,.box (TConn.vc x (.sl 5 0 x.streams.length) (.sl 6 0 x.packets.length)),.box TConn.zc,(bif S.getD 8 false then .box (TConn.vc (opnC x z) (.sl 10 0 (opnC x z).streams.length) (.sl 11 0 (opnC x z).packets.length)) else .box (TConn.vc x (.sl 5 0 x.streams.length) (.sl 6 0 x.packets.length)))]++(bif S.getD 3 false then [.cln 39 ((opnC x z).streams.map TStream.enc),.cln 2 ((opnC x z).packets.map TPacket.enc)] else [])⟩
def stD10a (bs:List Int) (q0 q2 q3 q4:H) (x:TConn) (id:Int) (i:Nat) (h:Int) (z:List UInt8) (S:List Bool):St:=⟨(.ptr 1 0 0::.junk::.junk::.ptr 7 0 0::.ptr 8 0 0::.d (.int .i64 id)::.ptr 9 0 0::jn 18 (.agg (TConn.vc x (.sl 5 0 x.streams.length) (.sl 6 0 x.packets.length))::.ptr 1 0 0::.d (.int .i64 1)::.d (.bool false)::.d (.bool false)::jn 8 (.d (.bool true)::.d (.bool true)::.junk::(bif S.getD 5 false then .tup [.d (.int .i64 (writeN x id z)),.agg (TConn.vc (writeC x id z) (.sl 10 0 (writeC x id z).streams.length) (.sl 11 0 (writeC x id z).packets.length))] else .junk)::(bif S.getD 0 false then .agg (TConn.vc x (.sl 5 0 x.streams.length) (.sl 6 0 x.packets.length)) else .junk)::(bif S.getD 1 false then .d (.int .i64 id) else .junk)::(bif S.getD 2 false then .ptr 1 0 0 else .junk)::(bif S.getD 3 false then .d (.str z) else .junk)::(bif S.getD 4 false then .tup [.d (.int .i64 (writeN x id z)),.agg (TConn.vc (writeC x id z) (.sl 10 0 (writeC x id z).streams.length) (.sl 11 0 (writeC x id z).packets.length))] else .junk)::(bif S.getD 6 false then .d (.int .i64 (writeN x id z)) else .junk)::(bif S.getD 7 false then .agg (TConn.vc (writeC x id z) (.sl 10 0 (writeC x id z).streams.length) (.sl 11 0 (writeC x id z).packets.length)) else .junk)::jn 98 []))),[q0,curB bs i h,q2,q3,q4,.arr 39 (x.streams.map TStream.enc) true,.arr 2 (x.packets.map TPacket.enc) true,.box (TConn.vc x (.sl 5 0 x.streams.length) (.sl 6 0 x.packets.length)),.box TConn.zc,(bif S.getD 8 false then .box (TConn.vc (writeC x id z) (.sl 10 0 (writeC x id z).streams.length) (.sl 11 0 (writeC x id z).packets.length)) else .box (TConn.vc x (.sl 5 0 x.streams.length) (.sl 6 0 x.packets.length)))]++(bif S.getD 4 false then [.cln 39 ((writeC x id z).streams.map TStream.enc),.cln 2 ((writeC x id z).packets.map TPacket.enc)] else [])⟩
def stD10b (bs:List Int) (q0 q2 q3 q4:H) (x:TConn) (id:Int) (i:Nat) (h:Int) (z:List UInt8) (S:List Bool):St:=⟨(.ptr 1 0 0::.junk::.junk::.ptr 7 0 0::.ptr 8 0 0::.d (.int .i64 id)::.ptr 9 0 0::jn 18 (.agg (TConn.vc x (.sl 5 0 x.streams.length) (.sl 6 0 x.packets.length))::.ptr 1 0 0::.d (.int .i64 2)::.d (.bool false)::.d (.bool false)::jn 8 (.d (.bool true)::.d (.bool false)::.d (.bool true)::(bif S.getD 5 false then .tup [.d (.int .i64 (writeN x id z)),.agg (TConn.vc (writeC x id z) (.sl 10 0 (writeC x id z).streams.length) (.sl 11 0 (writeC x id z).packets.length))] else .junk)::(bif S.getD 0 false then .agg (TConn.vc x (.sl 5 0 x.streams.length) (.sl 6 0 x.packets.length)) else .junk)::(bif S.getD 1 false then .d (.int .i64 id) else .junk)::(bif S.getD 2 false then .ptr 1 0 0 else .junk)::(bif S.getD 3 false then .d (.str z) else .junk)::(bif S.getD 4 false then .tup [.d (.int .i64 (writeN x id z)),.agg (TConn.vc (writeC x id z) (.sl 10 0 (writeC x id z).streams.length) (.sl 11 0 (writeC x id z).packets.length))] else .junk)::(bif S.getD 6 false then .d (.int .i64 (writeN x id z)) else .junk)::(bif S.getD 7 false then .agg (TConn.vc (writeC x id z) (.sl 10 0 (writeC x id z).streams.length) (.sl 11 0 (writeC x id z).packets.length)) else .junk)::jn 98 []))),[q0,curB bs i h,q2,q3,q4,.arr 39 (x.streams.map TStream.enc) true,.arr 2 (x.packets.map TPacket.enc) true,.box (TConn.vc x (.sl 5 0 x.streams.length) (.sl 6 0 x.packets.length)),.box TConn.zc,(bif S.getD 8 false then .box (TConn.vc (writeC x id z) (.sl 10 0 (writeC x id z).streams.length) (.sl 11 0 (writeC x id z).packets.length)) else .box (TConn.vc x (.sl 5 0 x.streams.length) (.sl 6 0 x.packets.length)))]++(bif S.getD 4 false then [.cln 39 ((writeC x id z).streams.map TStream.enc),.cln 2 ((writeC x id z).packets.map TPacket.enc)] else [])⟩
def stD15 (bs:List Int) (q0 q2 q3 q4:H) (x:TConn) (id:Int) (i:Nat) (h z:Int) (S:List Bool):St:=⟨(.ptr 1 0 0::.junk::.junk::.ptr 7 0 0::.ptr 8 0 0::.d (.int .i64 id)::.ptr 9 0 0::jn 18 (.agg (TConn.vc x (.sl 5 0 x.streams.length) (.sl 6 0 x.packets.length))::.ptr 1 0 0::.d (.int .i64 4)::.d (.bool false)::.d (.bool false)::jn 8 (.d (.bool false)::.d (.bool false)::.d (.bool false)::jn 8 (.d (.bool false)::.d (.bool false)::jn 8 (.d (.bool true)::.d (.bool true)::(bif S.getD 5 false then .tup [.d (.str (rsT x id z)),.d (.bool (rsE x id z)),.agg (TConn.vc (rsC x id z) (.sl 10 0 (rsC x id z).streams.length) (.sl 11 0 (rsC x id z).packets.length))] else .junk)::(bif S.getD 0 false then .agg (TConn.vc x (.sl 5 0 x.streams.length) (.sl 6 0 x.packets.length)) else .junk)::(bif S.getD 1 false then .d (.int .i64 id) else .junk)::(bif S.getD 2 false then .ptr 1 0 0 else .junk)::(bif S.getD 3 false then .d (.int .i64 z) else .junk)::(bif S.getD 4 false then .tup [.d (.str (rsT x id z)),.d (.bool (rsE x id z)),.agg (TConn.vc (rsC x id z) (.sl 10 0 (rsC x id z).streams.length) (.sl 11 0 (rsC x id z).packets.length))] else .junk)::(bif S.getD 6 false then .d (.str (rsT x id z)) else .junk)::(bif S.getD 7 false then .d (.bool (rsE x id z)) else .junk)::(bif S.getD 8 false then .agg (TConn.vc (rsC x id z) (.sl 10 0 (rsC x id z).streams.length) (.sl 11 0 (rsC x id z).packets.length)) else .junk)::jn 77 []))))),[q0,curB bs i h,q2,q3,q4,.arr 39 (x.streams.map TStream.enc) true,.arr 2 (x.packets.map TPacket.enc) true,.box (TConn.vc x (.sl 5 0 x.streams.length) (.sl 6 0 x.packets.length)),.box TConn.zc,(bif S.getD 9 false then .box (TConn.vc (rsC x id z) (.sl 10 0 (rsC x id z).streams.length) (.sl 11 0 (rsC x id z).packets.length)) else .box (TConn.vc x (.sl 5 0 x.streams.length) (.sl 6 0 x.packets.length)))]++(bif S.getD 4 false then [.cln 39 ((rsC x id z).streams.map TStream.enc),.cln 2 ((rsC x id z).packets.map TPacket.enc)] else [])⟩
def stD18 (bs:List Int) (q0 q2 q3 q4:H) (x:TConn) (id:Int) (i:Nat) (h z:Int) (S:List Bool):St:=⟨(.ptr 1 0 0::.junk::.junk::.ptr 7 0 0::.ptr 8 0 0::.d (.int .i64 id)::.ptr 9 0 0::jn 18 (.agg (TConn.vc x (.sl 5 0 x.streams.length) (.sl 6 0 x.packets.length))::.ptr 1 0 0::.d (.int .i64 5)::.d (.bool false)::.d (.bool false)::jn 8 (.d (.bool false)::.d (.bool false)::.d (.bool false)::jn 8 (.d (.bool false)::.d (.bool false)::jn 8 (.d (.bool false)::.d (.bool false)::jn 9 (.d (.bool true)::.d (.bool true)::.ptr 1 0 0::.d (.bool true)::(bif S.getD 5 false then .tup [.agg (TConn.vc (resetC x id z) (.sl 10 0 (resetC x id z).streams.length) (.sl 11 0 (resetC x id z).packets.length)),.d (.bool (resetG x id z))] else .junk)::(bif S.getD 0 false then .agg (TConn.vc x (.sl 5 0 x.streams.length) (.sl 6 0 x.packets.length)) else .junk)::(bif S.getD 1 false then .d (.int .i64 id) else .junk)::(bif S.getD 2 false then .ptr 1 0 0 else .junk)::(bif S.getD 3 false then .d (.int .i64 z) else .junk)::(bif S.getD 4 false then .tup [.agg (TConn.vc (resetC x id z) (.sl 10 0 (resetC x id z).streams.length) (.sl 11 0 (resetC x id z).packets.length)),.d (.bool (resetG x id z))] else .junk)::(bif S.getD 6 false then .agg (TConn.vc (resetC x id z) (.sl 10 0 (resetC x id z).streams.length) (.sl 11 0 (resetC x id z).packets.length)) else .junk)::(bif S.getD 7 false then .d (.bool (resetG x id z)) else .junk)::jn 65 [])))))),[q0,curB bs i h,q2,q3,q4,.arr 39 (x.streams.map TStream.enc) true,.arr 2 (x.packets.map TPacket.enc) true,.box (TConn.vc x (.sl 5 0 x.streams.length) (.sl 6 0 x.packets.length)),.box TConn.zc,(bif S.getD 8 false then .box (TConn.vc (resetC x id z) (.sl 10 0 (resetC x id z).streams.length) (.sl 11 0 (resetC x id z).packets.length)) else .box (TConn.vc x (.sl 5 0 x.streams.length) (.sl 6 0 x.packets.length)))]++(bif S.getD 4 false then [.cln 39 ((resetC x id z).streams.map TStream.enc),.cln 2 ((resetC x id z).packets.map TPacket.enc)] else [])⟩
def stD19 (bs:List Int) (q0 q2 q3 q4:H) (x:TConn) (id:Int) (i:Nat) (h:Int) (z:List UInt8) (S:List Bool):St:=⟨(.ptr 1 0 0::.junk::.junk::.ptr 7 0 0::.ptr 8 0 0::.d (.int .i64 id)::.ptr 9 0 0::jn 18 (.agg (TConn.vc x (.sl 5 0 x.streams.length) (.sl 6 0 x.packets.length))::.ptr 1 0 0::.d (.int .i64 5)::.d (.bool false)::.d (.bool false)::jn 8 (.d (.bool false)::.d (.bool false)::.d (.bool false)::jn 8 (.d (.bool false)::.d (.bool false)::jn 8 (.d (.bool false)::.d (.bool false)::jn 9 (.d (.bool true)::.d (.bool true)::.ptr 1 0 0::.d (.bool false)::jn 8 ((bif S.getD 6 false then .tup [.agg (TConn.vc (priC x id z) (.sl 11 0 (priC x id z).streams.length) (.sl 12 0 (priC x id z).packets.length)),.d (.bool (callG x id))] else .junk)::(bif S.getD 0 false then .agg (TConn.vc x (.sl 5 0 x.streams.length) (.sl 6 0 x.packets.length)) else .junk)::(bif S.getD 1 false then .d (.int .i64 id) else .junk)::(bif S.getD 2 false then .ptr 1 0 0 else .junk)::(bif S.getD 3 false then .sl 10 0 3 else .junk)::(bif S.getD 4 false then .d (.str z) else .junk)::(bif S.getD 5 false then .tup [.agg (TConn.vc (priC x id z) (.sl 11 0 (priC x id z).streams.length) (.sl 12 0 (priC x id z).packets.length)),.d (.bool (callG x id))] else .junk)::(bif S.getD 7 false then .agg (TConn.vc (priC x id z) (.sl 11 0 (priC x id z).streams.length) (.sl 12 0 (priC x id z).packets.length)) else .junk)::(bif S.getD 8 false then .d (.bool (callG x id)) else .junk)::jn 56 []))))))),[q0,curB bs i h,q2,q3,q4,.arr 39 (x.streams.map TStream.enc) true,.arr 2 (x.packets.map TPacket.enc) true,.box (TConn.vc x (.sl 5 0 x.streams.length) (.sl 6 0 x.packets.length)),.box TConn.zc,(bif S.getD 9 false then .box (TConn.vc (priC x id z) (.sl 11 0 (priC x id z).streams.length) (.sl 12 0 (priC x id z).packets.length)) else .box (TConn.vc x (.sl 5 0 x.streams.length) (.sl 6 0 x.packets.length)))]++(bif S.getD 3 false then [.arr 1 ([[117,61,49],[105],[117,61,53,44,32,105]].map eS) true] else [])++(bif S.getD 5 false then [.cln 39 ((priC x id z).streams.map TStream.enc),.cln 2 ((priC x id z).packets.map TPacket.enc)] else [])⟩
def stD22a (bs:List Int) (q0 q2 q3 q4:H) (x:TConn) (id:Int) (i:Nat) (h z:Int) (S:List Bool):St:=⟨(.ptr 1 0 0::.junk::.junk::.ptr 7 0 0::.ptr 8 0 0::.d (.int .i64 id)::.ptr 9 0 0::jn 18 (.agg (TConn.vc x (.sl 5 0 x.streams.length) (.sl 6 0 x.packets.length))::.ptr 1 0 0::.d (.int .i64 6)::.d (.bool false)::.d (.bool false)::jn 8 (.d (.bool false)::.d (.bool false)::.d (.bool false)::jn 8 (.d (.bool false)::.d (.bool false)::jn 8 (.d (.bool false)::.d (.bool false)::jn 9 (.d (.bool false)::.d (.bool false)::jn 19 (.d (.bool true)::.d (.bool true)::.junk::(bif S.getD 5 false then .tup [.d (.str (emT x (IntKind.i64.wrap (8 + z)))),.d (.int .i64 (emN x (IntKind.i64.wrap (8 + z)))),.agg (TConn.vc (emC x (IntKind.i64.wrap (8 + z))) (.sl 10 0 (emC x (IntKind.i64.wrap (8 + z))).streams.length) (.sl 11 0 (emC x (IntKind.i64.wrap (8 + z))).packets.length))] else .junk)::(bif S.getD 0 false then .agg (TConn.vc x (.sl 5 0 x.streams.length) (.sl 6 0 x.packets.length)) else .junk)::(bif S.getD 1 false then .ptr 1 0 0 else .junk)::(bif S.getD 2 false then .d (.int .i64 z) else .junk)::(bif S.getD 3 false then .d (.int .i64 (IntKind.i64.wrap (8 + z))) else .junk)::(bif S.getD 4 false then .tup [.d (.str (emT x (IntKind.i64.wrap (8 + z)))),.d (.int .i64 (emN x (IntKind.i64.wrap (8 + z)))),.agg (TConn.vc (emC x (IntKind.i64.wrap (8 + z))) (.sl 10 0 (emC x (IntKind.i64.wrap (8 + z))).streams.length) (.sl 11 0 (emC x (IntKind.i64.wrap (8 + z))).packets.length))] else .junk)::(bif S.getD 6 false then .d (.str (emT x (IntKind.i64.wrap (8 + z)))) else .junk)::(bif S.getD 7 false then .d (.int .i64 (emN x (IntKind.i64.wrap (8 + z)))) else .junk)::(bif S.getD 8 false then .agg (TConn.vc (emC x (IntKind.i64.wrap (8 + z))) (.sl 10 0 (emC x (IntKind.i64.wrap (8 + z))).streams.length) (.sl 11 0 (emC x (IntKind.i64.wrap (8 + z))).packets.length)) else .junk)::jn 44 []))))))),[q0,curB bs i h,q2,q3,q4,.arr 39 (x.streams.map TStream.enc) true,.arr 2 (x.packets.map TPacket.enc) true,.box (TConn.vc x (.sl 5 0 x.streams.length) (.sl 6 0 x.packets.length)),.box TConn.zc,(bif S.getD 9 false then .box (TConn.vc (emC x (IntKind.i64.wrap (8 + z))) (.sl 10 0 (emC x (IntKind.i64.wrap (8 + z))).streams.length) (.sl 11 0 (emC x (IntKind.i64.wrap (8 + z))).packets.length)) else .box (TConn.vc x (.sl 5 0 x.streams.length) (.sl 6 0 x.packets.length)))]++(bif S.getD 4 false then [.cln 39 ((emC x (IntKind.i64.wrap (8 + z))).streams.map TStream.enc),.cln 2 ((emC x (IntKind.i64.wrap (8 + z))).packets.map TPacket.enc)] else [])⟩
def stD22b (bs:List Int) (q0 q2 q3 q4:H) (x:TConn) (id:Int) (i:Nat) (h z:Int) (S:List Bool):St:=⟨(.ptr 1 0 0::.junk::.junk::.ptr 7 0 0::.ptr 8 0 0::.d (.int .i64 id)::.ptr 9 0 0::jn 18 (.agg (TConn.vc x (.sl 5 0 x.streams.length) (.sl 6 0 x.packets.length))::.ptr 1 0 0::.d (.int .i64 7)::.d (.bool false)::.d (.bool false)::jn 8 (.d (.bool false)::.d (.bool false)::.d (.bool false)::jn 8 (.d (.bool false)::.d (.bool false)::jn 8 (.d (.bool false)::.d (.bool false)::jn 9 (.d (.bool false)::.d (.bool false)::jn 19 (.d (.bool true)::.d (.bool false)::.d (.bool true)::(bif S.getD 5 false then .tup [.d (.str (emT x (IntKind.i64.wrap (8 + z)))),.d (.int .i64 (emN x (IntKind.i64.wrap (8 + z)))),.agg (TConn.vc (emC x (IntKind.i64.wrap (8 + z))) (.sl 10 0 (emC x (IntKind.i64.wrap (8 + z))).streams.length) (.sl 11 0 (emC x (IntKind.i64.wrap (8 + z))).packets.length))] else .junk)::(bif S.getD 0 false then .agg (TConn.vc x (.sl 5 0 x.streams.length) (.sl 6 0 x.packets.length)) else .junk)::(bif S.getD 1 false then .ptr 1 0 0 else .junk)::(bif S.getD 2 false then .d (.int .i64 z) else .junk)::(bif S.getD 3 false then .d (.int .i64 (IntKind.i64.wrap (8 + z))) else .junk)::(bif S.getD 4 false then .tup [.d (.str (emT x (IntKind.i64.wrap (8 + z)))),.d (.int .i64 (emN x (IntKind.i64.wrap (8 + z)))),.agg (TConn.vc (emC x (IntKind.i64.wrap (8 + z))) (.sl 10 0 (emC x (IntKind.i64.wrap (8 + z))).streams.length) (.sl 11 0 (emC x (IntKind.i64.wrap (8 + z))).packets.length))] else .junk)::(bif S.getD 6 false then .d (.str (emT x (IntKind.i64.wrap (8 + z)))) else .junk)::(bif S.getD 7 false then .d (.int .i64 (emN x (IntKind.i64.wrap (8 + z)))) else .junk)::(bif S.getD 8 false then .agg (TConn.vc (emC x (IntKind.i64.wrap (8 + z))) (.sl 10 0 (emC x (IntKind.i64.wrap (8 + z))).streams.length) (.sl 11 0 (emC x (IntKind.i64.wrap (8 + z))).packets.length)) else .junk)::jn 44 []))))))),[q0,curB bs i h,q2,q3,q4,.arr 39 (x.streams.map TStream.enc) true,.arr 2 (x.packets.map TPacket.enc) true,.box (TConn.vc x (.sl 5 0 x.streams.length) (.sl 6 0 x.packets.length)),.box TConn.zc,(bif S.getD 9 false then .box (TConn.vc (emC x (IntKind.i64.wrap (8 + z))) (.sl 10 0 (emC x (IntKind.i64.wrap (8 + z))).streams.length) (.sl 11 0 (emC x (IntKind.i64.wrap (8 + z))).packets.length)) else .box (TConn.vc x (.sl 5 0 x.streams.length) (.sl 6 0 x.packets.length)))]++(bif S.getD 4 false then [.cln 39 ((emC x (IntKind.i64.wrap (8 + z))).streams.map TStream.enc),.cln 2 ((emC x (IntKind.i64.wrap (8 + z))).packets.map TPacket.enc)] else [])⟩
def stD30 (bs:List Int) (q0 q2 q3 q4:H) (x:TConn) (id:Int) (i:Nat) (h:Int) (z:Nat×Int) (S:List Bool):St:=⟨(.ptr 1 0 0::.junk::.junk::.ptr 7 0 0::.ptr 8 0 0::.d (.int .i64 id)::.ptr 9 0 0::jn 3 ((bif S.getD 10 false then .d (.int .i64 z.2) else .junk)::jn 14 (.agg (TConn.vc x (.sl 5 0 x.streams.length) (.sl 6 0 x.packets.length))::.ptr 1 0 0::.d (.int .i64 9)::.d (.bool false)::.d (.bool false)::jn 8 (.d (.bool false)::.d (.bool false)::.d (.bool false)::jn 8 (.d (.bool false)::.d (.bool false)::jn 8 (.d (.bool false)::.d (.bool false)::jn 9 (.d (.bool false)::.d (.bool false)::jn 19 (.d (.bool false)::.d (.bool false)::.d (.bool false)::jn 9 (.d (.bool false)::.d (.bool false)::jn 11 (.d (.bool true)::.d (.bool true)::.ptr 7 0 47::.sl 6 0 x.packets.length::.d (.int .i64 x.packets.length)::.d (.bool true)::(bif S.getD 0 false then .ptr 7 0 47 else .junk)::(bif S.getD 1 false then .sl 6 0 x.packets.length else .junk)::(bif S.getD 2 false then .ptr 1 0 0 else .junk)::(bif S.getD 3 false then .ptr 7 0 47 else .junk)::(bif S.getD 4 false then .sl 6 0 x.packets.length else .junk)::(bif S.getD 5 false then .d (.int .i64 x.packets.length) else .junk)::(bif S.getD 6 false then .d (.int .i64 z.1) else .junk)::(bif S.getD 7 false then .ptr 6 z.1 0 else .junk)::(bif S.getD 8 false then .ptr 6 z.1 0 else .junk)::(bif S.getD 9 false then .d (.int .i64 z.2) else .junk)::jn 15 [])))))))))),[q0,curB bs i h,q2,q3,q4,.arr 39 (x.streams.map TStream.enc) true,.arr 2 (x.packets.map TPacket.enc) true,.box (TConn.vc x (.sl 5 0 x.streams.length) (.sl 6 0 x.packets.length)),.box TConn.zc,.box (TConn.vc x (.sl 5 0 x.streams.length) (.sl 6 0 x.packets.length))]⟩
set_option maxHeartbeats 16000000 in
theorem l20Step_inl (bs:List Int) (hm:bs.length≤maxLen) (i:Nat) (h:Int) (x:TConn) (m:Nat) (hv:InvC m x) (hmm:m≤18) (q0 q2 q3 q4:H) (hq:rok 5 q0∧rok 5 q2∧rok 5 q3∧rok 5 q4) (kv:List V) (hkv:voks 5 kv) (K:V→List H→Prop) (hi:i≤bs.length)
  (hk:∀ (i':Nat) (h':Int) (y:TConn),i'≤bs.length→InvC (m + 1) y→K (yVal y 5) ([q0,curB bs i' h',q2,q3,q4]++yArr y)):InlCall Tryz.prog 101 kv ([q0,curB bs i h,q2,q3,q4]++yArr x) [.ptr 1 0 0,yVal x 5] K:=by
 have hz:=hv.sz (by omega)
 have hls:=hv.ls
 have hlp:=hv.lp
 have hrq:∀ (i':Nat) (h':Int),roks 5 [q0,curB bs i' h',q2,q3,q4]:=fun i' h'=>⟨hq.1,by simp [curB,rok,voks,vok],hq.2.1,hq.2.2.1,hq.2.2.2,trivial⟩
 have hkk:∀ ts:List V,voks 10 ts→voks 10 (ts++kv):=fun ts h=>voks_append h (voks_mono (by omega) kv hkv)
 have hq10:rok 10 q0∧rok 10 q2∧rok 10 q3∧rok 10 q4:=⟨rok_mono (by omega) _ hq.1,rok_mono (by omega) _ hq.2.1,rok_mono (by omega) _ hq.2.2.1,rok_mono (by omega) _ hq.2.2.2⟩
 refine InlCall.look ?_
 refine InlCall.look ?_
 refine InlCall.see ?_
 refine (inl_evG (n:=147) (rs:=[.cell 4 37]) Tryz.func101 rfl Tryz.call101 rfl rfl ?_)
 simp only [yArr,yVal,cA,nA]
 have sk:∀ (i':Nat) (h':Int) (ts ts':List V),vsees (List.range 9) ts' ts→voks 9 ts'→seeE kv (List.range 9) ⟨ts,stH q0 (curB bs i' h') q2 q3 q4 x⟩ ⟨ts',stH q0 (curB bs i' h') q2 q3 q4 x⟩:=by
  intro i' h' ts ts' e1 e2
  have hp9:roks 9 (stH q0 (curB bs i' h') q2 q3 q4 x):=by
   have:=roks_append (roks_mono (m:=5) (n:=9) (by omega) (hrq i' h')) (ys:=[.arr 39 (x.streams.map TStream.enc) true,.arr 2 (x.packets.map TPacket.enc) true,.box (TConn.vc x (.sl 5 0 x.streams.length) (.sl 6 0 x.packets.length)),.box TConn.zc]) (by simp [roks,rok,voks,vok])
   exact this
  exact see_keep0 (hs:=stH q0 (curB bs i' h') q2 q3 q4 x) hp9 (voks_mono (by simp [stH]) kv hkv) e1 e2
 refine codeG_step Tryz.checked.mixed 3 (α:=Nat×Int×Int) (fun y=>⟨(.ptr 1 0 0::.junk::.junk::.ptr 7 0 0::.ptr 8 0 0::.d (.int .i64 y.2.2)::jn 141 []),[q0,curB bs y.1 y.2.1,q2,q3,q4,.arr 39 (x.streams.map TStream.enc) true,.arr 2 (x.packets.map TPacket.enc) true,.box (TConn.vc x (.sl 5 0 x.streams.length) (.sl 6 0 x.packets.length)),.box TConn.zc]⟩) (fun y=>y.1≤bs.length) ?_ ?_
 ·simp only [go_sem]
  cases hx0:decide (0 < (x.streams.length:Int)) with
  |false=>
   simp only [go_sem]
   refine SeeTo.intro (i,h,0) (List.range 9) hi (sk i h _ _ ?_ ?_)
   ·simp [vsees,vsee,ren,List.range,List.range.loop]
   ·simp [voks,vok]
  |true=>
   simp only [go_sem]
   have hx1:=oT hx0
   refine drawX_cut _ (exE_sym (fun S σ=>∃ i h z,i≤bs.length∧(z.1 < x.streams.length∧((x.streams[z.1]?).getD zStr).id=z.2)∧σ=stD3 bs q0 q2 q3 q4 x 0 i h z S) (N:=11) rfl rfl ⟨i,h,(0,((x.streams[0]?).getD zStr).id),‹_›,by first|assumption|(simp;done)|exact ⟨by omega,rfl⟩,rfl⟩ ?_) ?_
   ·repeat' (first|exact symE_nil|refine symE_cons ?_ ?_)
    all_goals (
     rintro S σ F hl hS hp hcl ⟨iz,hz',z,hi',hc,rfl⟩ hF
     obtain ⟨s0,s1,s2,s3,s4,s5,s6,s7,s8,s9,s10,rfl⟩:=len11 hl
     simp only [List.getElem?_cons_succ,List.getElem?_cons_zero,Option.some.injEq] at hS
     subst hS
     simp [predsE,Region.binds] at hp
     repeat (obtain ⟨hp0,hp⟩:=hp;subst hp0)
     try subst hp
     have hxi:=map_at TStream.enc x.streams z.1 hc.1
     have hz2:=hc.2
     have hc1:=hc.1
     rw [gE hc.1,Option.getD_some] at hz2
     simp only [stD3,List.getD_cons_succ,List.getD_cons_zero,cond_true,cond_false]
     repeat' (first
       |exact hF _ ⟨iz,hz',z,hi',hc,rfl⟩
       |(refine gTrueS ?_)
       |(refine gFalseS ?_)
       |(have e:=hcl 6 7 _ rfl (by decide) rfl;simp only [List.getElem?_cons_succ,List.getElem?_cons_zero,Option.some.injEq] at e;subst e;have e:=hcl 7 8 _ rfl (by decide) rfl;simp only [List.getElem?_cons_succ,List.getElem?_cons_zero,Option.some.injEq] at e;subst e;have e:=hcl 8 9 _ rfl (by decide) rfl;simp only [List.getElem?_cons_succ,List.getElem?_cons_zero,Option.some.injEq] at e;subst e;have e:=hcl 9 10 _ rfl (by decide) rfl;simp only [List.getElem?_cons_succ,List.getElem?_cons_zero,Option.some.injEq] at e;subst e;simp only [cond_false];refine CallS.inl (l1Below_inl bs hm iz hz' [q0] [q2,q3,q4,.arr 39 (x.streams.map TStream.enc) true,.arr 2 (x.packets.map TPacket.enc) true,.box (TConn.vc x (.sl 5 0 x.streams.length) (.sl 6 0 x.packets.length)),.box TConn.zc] _ (x.streams.length:Int) (by omega) (by omega) _ hi' fun i3 h3 x3 a3 b3 c3=>?_);obtain ⟨k3,rfl⟩:=Int.eq_ofNat_of_zero_le b3;simp only [go_sem,setD];exact hF _ ⟨_,_,(k3,((x.streams[k3]?).getD zStr).id),‹_›,⟨(by omega),rfl⟩,rfl⟩)
       |(refine ⟨⟨by omega,by omega⟩,?_⟩)
       |(refine ⟨hc1,?_⟩)
       |simp only [go_sem,lM,hxi,hz2,TStream.enc,tN]))
   rintro _ ⟨i4,h4,z,hi4,hc,rfl⟩
   simp only [stD3,List.replicate,List.getD_cons_succ,List.getD_cons_zero,cond_true]
   simp only [go_sem]
   refine SeeTo.intro (i4,h4,z.2) (List.range 9) hi4 (sk i4 h4 _ _ ?_ ?_)
   ·simp [vsees,vsee,ren,List.range,List.range.loop]
   ·simp [voks,vok]
 rintro ⟨i1,h1,id⟩ hi1
 simp only at hi1
 refine codeG_of Tryz.checked.mixed ?_
 simp only [go_sem]
 refine CallS.inl (l1Below_inl bs hm i1 h1 [q0] [q2,q3,q4,.arr 39 (x.streams.map TStream.enc) true,.arr 2 (x.packets.map TPacket.enc) true,.box (TConn.vc x (.sl 5 0 x.streams.length) (.sl 6 0 x.packets.length)),.box TConn.zc,.box (TConn.vc x (.sl 5 0 x.streams.length) (.sl 6 0 x.packets.length))] _ 10 (by omega) (by omega) _ hi1 fun i2 h2 k a2 b2 c2=>?_)
 have hrr:roks 10 [q0]∧roks 10 [q2,q3,q4,.arr 39 (x.streams.map TStream.enc) true,.arr 2 (x.packets.map TPacket.enc) true,.box (TConn.vc x (.sl 5 0 x.streams.length) (.sl 6 0 x.packets.length)),.box TConn.zc,.box (TConn.vc x (.sl 5 0 x.streams.length) (.sl 6 0 x.packets.length))]:=⟨⟨hq10.1,trivial⟩,hq10.2.1,hq10.2.2.1,hq10.2.2.2,by simp [roks,rok,voks,vok]⟩
 obtain rfl|rfl|rfl|rfl|rfl|rfl|rfl|rfl|rfl|rfl:k=0∨k=1∨k=2∨k=3∨k=4∨k=5∨k=6∨k=7∨k=8∨k=9:=by omega
 ·skip
  have d0:decide ((0:Int)=0)=true:=rfl
  simp only [go_sem]
  have hO:∀ b,_:=fun b=>spec_OpenStream x b hz
  refine drawX_cut _ (exE_sym (fun S σ=>∃ i h z,i≤bs.length∧(True)∧σ=stD7 bs q0 q2 q3 q4 x id i h z S) (N:=9) rfl rfl ⟨i2,h2,false,‹_›,by first|assumption|(simp;done)|exact ⟨by omega,rfl⟩,rfl⟩ ?_) ?_
  ·repeat' (first|exact symE_nil|refine symE_cons ?_ ?_)
   all_goals (
    rintro S σ F hl hS hp hcl ⟨iz,hz',z,hi',hc,rfl⟩ hF
    obtain ⟨s0,s1,s2,s3,s4,s5,s6,s7,s8,rfl⟩:=len9 hl
    simp only [List.getElem?_cons_succ,List.getElem?_cons_zero,Option.some.injEq] at hS
    subst hS
    simp [predsE,Region.binds] at hp
    repeat (obtain ⟨hp0,hp⟩:=hp;subst hp0)
    try subst hp
    simp only [stD7,List.getD_cons_succ,List.getD_cons_zero,cond_true,cond_false,cA,nA,List.append_nil]
    repeat' (first
      |exact hF _ ⟨iz,hz',z,hi',hc,rfl⟩
      |(refine gTrueS ?_)
      |(refine gFalseS ?_)
      |(have e:=hcl 2 3 _ rfl (by decide) rfl;simp only [List.getElem?_cons_succ,List.getElem?_cons_zero,Option.some.injEq] at e;subst e;have e:=hcl 3 4 _ rfl (by decide) rfl;simp only [List.getElem?_cons_succ,List.getElem?_cons_zero,Option.some.injEq] at e;subst e;have e:=hcl 4 5 _ rfl (by decide) rfl;simp only [List.getElem?_cons_succ,List.getElem?_cons_zero,Option.some.injEq] at e;subst e;have e:=hcl 4 6 _ rfl (by decide) rfl;simp only [List.getElem?_cons_succ,List.getElem?_cons_zero,Option.some.injEq] at e;subst e;have e:=hcl 4 7 _ rfl (by decide) rfl;simp only [List.getElem?_cons_succ,List.getElem?_cons_zero,Option.some.injEq] at e;subst e;have e:=hcl 6 8 _ rfl (by decide) rfl;simp only [List.getElem?_cons_succ,List.getElem?_cons_zero,Option.some.injEq] at e;subst e;simp only [cond_false];refine CallS.inl (l1Once_inl bs hm iz hz' [q0] [q2,q3,q4,.arr 39 (x.streams.map TStream.enc) true,.arr 2 (x.packets.map TPacket.enc) true,.box (TConn.vc x (.sl 5 0 x.streams.length) (.sl 6 0 x.packets.length)),.box TConn.zc,.box (TConn.vc x (.sl 5 0 x.streams.length) (.sl 6 0 x.packets.length))] _ 2 (by omega) (by omega) _ hi' fun i3 h3 b3 a3=>?_);simp only [go_sem,setD];exact hF _ ⟨_,_,b3,‹_›,by first|assumption|simp|(constructor<;>assumption),rfl⟩)
      |(refine CallS.cln (hO _) ?_)
      |simp only [go_sem,lM,cA,nA]))
  rintro _ ⟨i4,h4,z,hi4,hc,rfl⟩
  simp only [stD7,List.replicate,List.getD_cons_succ,List.getD_cons_zero,cond_true,cA,nA]
  simp only [go_sem,cA,nA]
  exact stepFin hkv _ 10 (by omega) (hrq _ _) rfl rfl (hk _ _ _ (by assumption) (invC_opn (hv.mono (by omega)) _))
 ·skip
  have d0:decide ((1:Int)=0)=false:=rfl
  have d1:decide ((1:Int)=1)=true:=rfl
  simp only [go_sem,d0]
  have hO:∀ d:List UInt8,d.length≤8→_:=fun d hd=>spec_WriteStream x id d hz (by omega) (((hv.strI id).mono (show m≤m + 1 by omega)).snd' (by have:=invSnd_wr (hv.strI id).snd hd;rw [show (8 * (m + 1:Nat):Int)=8 * m + 8 from by omega];exact this) |>.sz (by omega))
  refine drawX_cut _ (exE_sym (fun S σ=>∃ i h z,i≤bs.length∧(z.length≤8)∧σ=stD10a bs q0 q2 q3 q4 x id i h z S) (N:=9) rfl rfl ⟨i2,h2,[],‹_›,by first|assumption|(simp;done)|exact ⟨by omega,rfl⟩,rfl⟩ ?_) ?_
  ·repeat' (first|exact symE_nil|refine symE_cons ?_ ?_)
   all_goals (
    rintro S σ F hl hS hp hcl ⟨iz,hz',z,hi',hc,rfl⟩ hF
    obtain ⟨s0,s1,s2,s3,s4,s5,s6,s7,s8,rfl⟩:=len9 hl
    simp only [List.getElem?_cons_succ,List.getElem?_cons_zero,Option.some.injEq] at hS
    subst hS
    simp [predsE,Region.binds] at hp
    repeat (obtain ⟨hp0,hp⟩:=hp;subst hp0)
    try subst hp
    simp only [stD10a,List.getD_cons_succ,List.getD_cons_zero,cond_true,cond_false,cA,nA,List.append_nil]
    repeat' (first
      |exact hF _ ⟨iz,hz',z,hi',hc,rfl⟩
      |(refine gTrueS ?_)
      |(refine gFalseS ?_)
      |(have e:=hcl 3 4 _ rfl (by decide) rfl;simp only [List.getElem?_cons_succ,List.getElem?_cons_zero,Option.some.injEq] at e;subst e;have e:=hcl 4 5 _ rfl (by decide) rfl;simp only [List.getElem?_cons_succ,List.getElem?_cons_zero,Option.some.injEq] at e;subst e;have e:=hcl 5 6 _ rfl (by decide) rfl;simp only [List.getElem?_cons_succ,List.getElem?_cons_zero,Option.some.injEq] at e;subst e;have e:=hcl 5 7 _ rfl (by decide) rfl;simp only [List.getElem?_cons_succ,List.getElem?_cons_zero,Option.some.injEq] at e;subst e;have e:=hcl 7 8 _ rfl (by decide) rfl;simp only [List.getElem?_cons_succ,List.getElem?_cons_zero,Option.some.injEq] at e;subst e;simp only [cond_false];refine CallS.inl (l4Data_inl bs hm iz hz' [q0] [q2,q3,q4,.arr 39 (x.streams.map TStream.enc) true,.arr 2 (x.packets.map TPacket.enc) true,.box (TConn.vc x (.sl 5 0 x.streams.length) (.sl 6 0 x.packets.length)),.box TConn.zc,.box (TConn.vc x (.sl 5 0 x.streams.length) (.sl 6 0 x.packets.length))] _ 8 hrr (hkk _ (by simp [voks,vok,vok_bif])) (by omega) _ hi' fun i3 h3 s3 a3 g3=>?_);simp only [go_sem,setD];exact hF _ ⟨_,_,s3,‹_›,by first|assumption|simp|(constructor<;>assumption),rfl⟩)
      |(refine CallS.cln (hO _ hc) ?_)
      |simp only [go_sem,lM,cA,nA]))
  rintro _ ⟨i4,h4,z,hi4,hc,rfl⟩
  simp only [stD10a,List.replicate,List.getD_cons_succ,List.getD_cons_zero,cond_true,cA,nA]
  simp only [go_sem,cA,nA]
  exact stepFin hkv _ 10 (by omega) (hrq _ _) rfl rfl (hk _ _ _ (by assumption) (invC_write hv _ hc))
 ·skip
  have d0:decide ((2:Int)=0)=false:=rfl
  have d1:decide ((2:Int)=1)=false:=rfl
  have d2:decide ((2:Int)=2)=true:=rfl
  simp only [go_sem,d0,d1]
  have hO:∀ d:List UInt8,d.length≤8→_:=fun d hd=>spec_WriteStream x id d hz (by omega) (((hv.strI id).mono (show m≤m + 1 by omega)).snd' (by have:=invSnd_wr (hv.strI id).snd hd;rw [show (8 * (m + 1:Nat):Int)=8 * m + 8 from by omega];exact this) |>.sz (by omega))
  refine drawX_cut _ (exE_sym (fun S σ=>∃ i h z,i≤bs.length∧(z.length≤8)∧σ=stD10b bs q0 q2 q3 q4 x id i h z S) (N:=9) rfl rfl ⟨i2,h2,[],‹_›,by first|assumption|(simp;done)|exact ⟨by omega,rfl⟩,rfl⟩ ?_) ?_
  ·repeat' (first|exact symE_nil|refine symE_cons ?_ ?_)
   all_goals (
    rintro S σ F hl hS hp hcl ⟨iz,hz',z,hi',hc,rfl⟩ hF
    obtain ⟨s0,s1,s2,s3,s4,s5,s6,s7,s8,rfl⟩:=len9 hl
    simp only [List.getElem?_cons_succ,List.getElem?_cons_zero,Option.some.injEq] at hS
    subst hS
    simp [predsE,Region.binds] at hp
    repeat (obtain ⟨hp0,hp⟩:=hp;subst hp0)
    try subst hp
    simp only [stD10b,List.getD_cons_succ,List.getD_cons_zero,cond_true,cond_false,cA,nA,List.append_nil]
    repeat' (first
      |exact hF _ ⟨iz,hz',z,hi',hc,rfl⟩
      |(refine gTrueS ?_)
      |(refine gFalseS ?_)
      |(have e:=hcl 3 4 _ rfl (by decide) rfl;simp only [List.getElem?_cons_succ,List.getElem?_cons_zero,Option.some.injEq] at e;subst e;have e:=hcl 4 5 _ rfl (by decide) rfl;simp only [List.getElem?_cons_succ,List.getElem?_cons_zero,Option.some.injEq] at e;subst e;have e:=hcl 5 6 _ rfl (by decide) rfl;simp only [List.getElem?_cons_succ,List.getElem?_cons_zero,Option.some.injEq] at e;subst e;have e:=hcl 5 7 _ rfl (by decide) rfl;simp only [List.getElem?_cons_succ,List.getElem?_cons_zero,Option.some.injEq] at e;subst e;have e:=hcl 7 8 _ rfl (by decide) rfl;simp only [List.getElem?_cons_succ,List.getElem?_cons_zero,Option.some.injEq] at e;subst e;simp only [cond_false];refine CallS.inl (l4Data_inl bs hm iz hz' [q0] [q2,q3,q4,.arr 39 (x.streams.map TStream.enc) true,.arr 2 (x.packets.map TPacket.enc) true,.box (TConn.vc x (.sl 5 0 x.streams.length) (.sl 6 0 x.packets.length)),.box TConn.zc,.box (TConn.vc x (.sl 5 0 x.streams.length) (.sl 6 0 x.packets.length))] _ 8 hrr (hkk _ (by simp [voks,vok,vok_bif])) (by omega) _ hi' fun i3 h3 s3 a3 g3=>?_);simp only [go_sem,setD];exact hF _ ⟨_,_,s3,‹_›,by first|assumption|simp|(constructor<;>assumption),rfl⟩)
      |(refine CallS.cln (hO _ hc) ?_)
      |simp only [go_sem,lM,cA,nA]))
  rintro _ ⟨i4,h4,z,hi4,hc,rfl⟩
  simp only [stD10b,List.replicate,List.getD_cons_succ,List.getD_cons_zero,cond_true,cA,nA]
  simp only [go_sem,cA,nA]
  exact stepFin hkv _ 10 (by omega) (hrq _ _) rfl rfl (hk _ _ _ (by assumption) (invC_write hv _ hc))
 ·skip
  have d0:decide ((3:Int)=0)=false:=rfl
  have d1:decide ((3:Int)=1)=false:=rfl
  have d2:decide ((3:Int)=2)=false:=rfl
  have d3:decide ((3:Int)=3)=true:=rfl
  simp only [go_sem,d0,d1,d2]
  refine CallS.inl (l1Once_inl bs hm i2 h2 [q0] [q2,q3,q4,.arr 39 (x.streams.map TStream.enc) true,.arr 2 (x.packets.map TPacket.enc) true,.box (TConn.vc x (.sl 5 0 x.streams.length) (.sl 6 0 x.packets.length)),.box TConn.zc,.box (TConn.vc x (.sl 5 0 x.streams.length) (.sl 6 0 x.packets.length))] _ 2 (by omega) (by omega) _ a2 fun i3 h3 b3 a3=>?_)
  cases b3 with
  |true=>
   have hO:=spec_FinishStream x id hz (((hv.strI id).snd' (invSnd_close (hv.strI id).snd)).sz (by omega))
   simp only [go_sem,lM]
   refine CallS.cln hO ?_
   simp only [go_sem,lM,cA,nA]
   exact stepFin hkv _ 10 (by omega) (hrq _ _) rfl rfl (hk _ _ _ (by assumption) ((invC_fin hv id).mono (by omega)))
  |false=>
   simp only [go_sem,cA,nA]
   exact stepSame hkv _ (hrq _ _) (hk _ _ _ (by assumption) (hv.mono (by omega)))
 ·skip
  have d0:decide ((4:Int)=0)=false:=rfl
  have d1:decide ((4:Int)=1)=false:=rfl
  have d2:decide ((4:Int)=2)=false:=rfl
  have d3:decide ((4:Int)=3)=false:=rfl
  have d4:decide ((4:Int)=4)=true:=rfl
  simp only [go_sem,d0,d1,d2,d3]
  have hO:∀ k,_:=fun k=>spec_ReadStream x id k m hv (by omega)
  refine drawX_cut _ (exE_sym (fun S σ=>∃ i h z,i≤bs.length∧(True)∧σ=stD15 bs q0 q2 q3 q4 x id i h z S) (N:=10) rfl rfl ⟨i2,h2,0,‹_›,by first|assumption|(simp;done)|exact ⟨by omega,rfl⟩,rfl⟩ ?_) ?_
  ·repeat' (first|exact symE_nil|refine symE_cons ?_ ?_)
   all_goals (
    rintro S σ F hl hS hp hcl ⟨iz,hz',z,hi',hc,rfl⟩ hF
    obtain ⟨s0,s1,s2,s3,s4,s5,s6,s7,s8,s9,rfl⟩:=len10 hl
    simp only [List.getElem?_cons_succ,List.getElem?_cons_zero,Option.some.injEq] at hS
    subst hS
    simp [predsE,Region.binds] at hp
    repeat (obtain ⟨hp0,hp⟩:=hp;subst hp0)
    try subst hp
    simp only [stD15,List.getD_cons_succ,List.getD_cons_zero,cond_true,cond_false,cA,nA,List.append_nil]
    repeat' (first
      |exact hF _ ⟨iz,hz',z,hi',hc,rfl⟩
      |(refine gTrueS ?_)
      |(refine gFalseS ?_)
      |(have e:=hcl 3 4 _ rfl (by decide) rfl;simp only [List.getElem?_cons_succ,List.getElem?_cons_zero,Option.some.injEq] at e;subst e;have e:=hcl 4 5 _ rfl (by decide) rfl;simp only [List.getElem?_cons_succ,List.getElem?_cons_zero,Option.some.injEq] at e;subst e;have e:=hcl 5 6 _ rfl (by decide) rfl;simp only [List.getElem?_cons_succ,List.getElem?_cons_zero,Option.some.injEq] at e;subst e;have e:=hcl 5 7 _ rfl (by decide) rfl;simp only [List.getElem?_cons_succ,List.getElem?_cons_zero,Option.some.injEq] at e;subst e;have e:=hcl 5 8 _ rfl (by decide) rfl;simp only [List.getElem?_cons_succ,List.getElem?_cons_zero,Option.some.injEq] at e;subst e;have e:=hcl 8 9 _ rfl (by decide) rfl;simp only [List.getElem?_cons_succ,List.getElem?_cons_zero,Option.some.injEq] at e;subst e;simp only [cond_false];refine CallS.inl (l1Below_inl bs hm iz hz' [q0] [q2,q3,q4,.arr 39 (x.streams.map TStream.enc) true,.arr 2 (x.packets.map TPacket.enc) true,.box (TConn.vc x (.sl 5 0 x.streams.length) (.sl 6 0 x.packets.length)),.box TConn.zc,.box (TConn.vc x (.sl 5 0 x.streams.length) (.sl 6 0 x.packets.length))] _ 6 (by omega) (by omega) _ hi' fun i3 h3 x3 a3 b3 c3=>?_);simp only [go_sem,setD];exact hF _ ⟨_,_,x3,‹_›,by first|assumption|simp|(constructor<;>assumption),rfl⟩)
      |(refine CallS.cln (hO _) ?_)
      |simp only [go_sem,lM,cA,nA]))
  rintro _ ⟨i4,h4,z,hi4,hc,rfl⟩
  simp only [stD15,List.replicate,List.getD_cons_succ,List.getD_cons_zero,cond_true,cA,nA]
  simp only [go_sem,cA,nA]
  exact stepFin hkv _ 10 (by omega) (hrq _ _) rfl rfl (hk _ _ _ (by assumption) ((invC_read hv id _).mono (by omega)))
 ·skip
  have d0:decide ((5:Int)=0)=false:=rfl
  have d1:decide ((5:Int)=1)=false:=rfl
  have d2:decide ((5:Int)=2)=false:=rfl
  have d3:decide ((5:Int)=3)=false:=rfl
  have d4:decide ((5:Int)=4)=false:=rfl
  have d5:decide ((5:Int)=5)=true:=rfl
  simp only [go_sem,d0,d1,d2,d3,d4]
  refine CallS.inl (l1Once_inl bs hm i2 h2 [q0] [q2,q3,q4,.arr 39 (x.streams.map TStream.enc) true,.arr 2 (x.packets.map TPacket.enc) true,.box (TConn.vc x (.sl 5 0 x.streams.length) (.sl 6 0 x.packets.length)),.box TConn.zc,.box (TConn.vc x (.sl 5 0 x.streams.length) (.sl 6 0 x.packets.length))] _ 3 (by omega) (by omega) _ a2 fun i3 h3 b3 a3=>?_)
  cases b3 with
  |true=>
   have hO:∀ k,_:=fun k=>spec_ResetStream x id k hz (((hv.strI id).rst k).sz (by omega))
   simp only [go_sem]
   refine drawX_cut _ (exE_sym (fun S σ=>∃ i h z,i≤bs.length∧(True)∧σ=stD18 bs q0 q2 q3 q4 x id i h z S) (N:=9) rfl rfl ⟨i3,h3,0,‹_›,by first|assumption|(simp;done)|exact ⟨by omega,rfl⟩,rfl⟩ ?_) ?_
   ·repeat' (first|exact symE_nil|refine symE_cons ?_ ?_)
    all_goals (
     rintro S σ F hl hS hp hcl ⟨iz,hz',z,hi',hc,rfl⟩ hF
     obtain ⟨s0,s1,s2,s3,s4,s5,s6,s7,s8,rfl⟩:=len9 hl
     simp only [List.getElem?_cons_succ,List.getElem?_cons_zero,Option.some.injEq] at hS
     subst hS
     simp [predsE,Region.binds] at hp
     repeat (obtain ⟨hp0,hp⟩:=hp;subst hp0)
     try subst hp
     simp only [stD18,List.getD_cons_succ,List.getD_cons_zero,cond_true,cond_false,cA,nA,List.append_nil]
     repeat' (first
       |exact hF _ ⟨iz,hz',z,hi',hc,rfl⟩
       |(refine gTrueS ?_)
       |(refine gFalseS ?_)
       |(have e:=hcl 3 4 _ rfl (by decide) rfl;simp only [List.getElem?_cons_succ,List.getElem?_cons_zero,Option.some.injEq] at e;subst e;have e:=hcl 4 5 _ rfl (by decide) rfl;simp only [List.getElem?_cons_succ,List.getElem?_cons_zero,Option.some.injEq] at e;subst e;have e:=hcl 5 6 _ rfl (by decide) rfl;simp only [List.getElem?_cons_succ,List.getElem?_cons_zero,Option.some.injEq] at e;subst e;have e:=hcl 5 7 _ rfl (by decide) rfl;simp only [List.getElem?_cons_succ,List.getElem?_cons_zero,Option.some.injEq] at e;subst e;have e:=hcl 6 8 _ rfl (by decide) rfl;simp only [List.getElem?_cons_succ,List.getElem?_cons_zero,Option.some.injEq] at e;subst e;simp only [cond_false];refine CallS.inl (l1Below_inl bs hm iz hz' [q0] [q2,q3,q4,.arr 39 (x.streams.map TStream.enc) true,.arr 2 (x.packets.map TPacket.enc) true,.box (TConn.vc x (.sl 5 0 x.streams.length) (.sl 6 0 x.packets.length)),.box TConn.zc,.box (TConn.vc x (.sl 5 0 x.streams.length) (.sl 6 0 x.packets.length))] _ 3 (by omega) (by omega) _ hi' fun i3 h3 x3 a3 b3 c3=>?_);simp only [go_sem,setD];exact hF _ ⟨_,_,x3,‹_›,by first|assumption|simp|(constructor<;>assumption),rfl⟩)
       |(refine CallS.cln (hO _) ?_)
       |simp only [go_sem,lM,cA,nA]))
   rintro _ ⟨i4,h4,z,hi4,hc,rfl⟩
   simp only [stD18,List.replicate,List.getD_cons_succ,List.getD_cons_zero,cond_true,cA,nA]
   simp only [go_sem,cA,nA]
   exact stepFin hkv _ 10 (by omega) (hrq _ _) rfl rfl (hk _ _ _ (by assumption) ((invC_reset hv id _).mono (by omega)))
  |false=>
   have hO:∀ t:List UInt8,t ∈ [[117,61,49],[105],[117,61,53,44,32,105]]→_:=fun t ht=>spec_SetPriority x id t hz (by simp only [List.mem_cons,List.not_mem_nil,or_false] at ht;rcases ht with rfl|rfl|rfl<;>decide)
   simp only [go_sem]
   refine drawX_cut _ (exE_sym (fun S σ=>∃ i h z,i≤bs.length∧(z ∈ [[117,61,49],[105],[117,61,53,44,32,105]])∧σ=stD19 bs q0 q2 q3 q4 x id i h z S) (N:=10) rfl rfl ⟨i3,h3,[105],‹_›,by first|assumption|(simp;done)|exact ⟨by omega,rfl⟩,rfl⟩ ?_) ?_
   ·repeat' (first|exact symE_nil|refine symE_cons ?_ ?_)
    all_goals (
     rintro S σ F hl hS hp hcl ⟨iz,hz',z,hi',hc,rfl⟩ hF
     obtain ⟨s0,s1,s2,s3,s4,s5,s6,s7,s8,s9,rfl⟩:=len10 hl
     simp only [List.getElem?_cons_succ,List.getElem?_cons_zero,Option.some.injEq] at hS
     subst hS
     simp [predsE,Region.binds] at hp
     repeat (obtain ⟨hp0,hp⟩:=hp;subst hp0)
     try subst hp
     simp only [stD19,List.getD_cons_succ,List.getD_cons_zero,cond_true,cond_false,cA,nA,List.append_nil]
     repeat' (first
       |exact hF _ ⟨iz,hz',z,hi',hc,rfl⟩
       |(refine gTrueS ?_)
       |(refine gFalseS ?_)
       |(have e:=hcl 4 5 _ rfl (by decide) rfl;simp only [List.getElem?_cons_succ,List.getElem?_cons_zero,Option.some.injEq] at e;subst e;have e:=hcl 5 6 _ rfl (by decide) rfl;simp only [List.getElem?_cons_succ,List.getElem?_cons_zero,Option.some.injEq] at e;subst e;have e:=hcl 6 7 _ rfl (by decide) rfl;simp only [List.getElem?_cons_succ,List.getElem?_cons_zero,Option.some.injEq] at e;subst e;have e:=hcl 6 8 _ rfl (by decide) rfl;simp only [List.getElem?_cons_succ,List.getElem?_cons_zero,Option.some.injEq] at e;subst e;have e:=hcl 7 9 _ rfl (by decide) rfl;simp only [List.getElem?_cons_succ,List.getElem?_cons_zero,Option.some.injEq] at e;subst e;simp only [cond_false];refine CallS.inl (l1Pick_inl bs hm iz hz' [q0] [q2,q3,q4,.arr 39 (x.streams.map TStream.enc) true,.arr 2 (x.packets.map TPacket.enc) true,.box (TConn.vc x (.sl 5 0 x.streams.length) (.sl 6 0 x.packets.length)),.box TConn.zc,.box (TConn.vc x (.sl 5 0 x.streams.length) (.sl 6 0 x.packets.length)),.arr 1 ([[117,61,49],[105],[117,61,53,44,32,105]].map eS) true] _ 8 [[117,61,49],[105],[117,61,53,44,32,105]] rfl (by decide) (by decide) _ hi' fun i3 h3 x3 a3 b3=>?_);simp only [go_sem,setD];exact hF _ ⟨_,_,x3,‹_›,by first|assumption|simp|(constructor<;>assumption),rfl⟩)
       |(refine CallS.cln (hO _ hc) ?_)
       |(have e:=hcl 3 4 _ rfl (by decide) rfl;simp only [List.getElem?_cons_succ,List.getElem?_cons_zero,Option.some.injEq] at e;subst e;have e:=hcl 4 5 _ rfl (by decide) rfl;simp only [List.getElem?_cons_succ,List.getElem?_cons_zero,Option.some.injEq] at e;subst e;have e:=hcl 5 6 _ rfl (by decide) rfl;simp only [List.getElem?_cons_succ,List.getElem?_cons_zero,Option.some.injEq] at e;subst e;have e:=hcl 6 7 _ rfl (by decide) rfl;simp only [List.getElem?_cons_succ,List.getElem?_cons_zero,Option.some.injEq] at e;subst e;have e:=hcl 6 8 _ rfl (by decide) rfl;simp only [List.getElem?_cons_succ,List.getElem?_cons_zero,Option.some.injEq] at e;subst e;have e:=hcl 7 9 _ rfl (by decide) rfl;simp only [List.getElem?_cons_succ,List.getElem?_cons_zero,Option.some.injEq] at e;subst e;simp only [cond_false];skip)
       |(cases s3;exact Bool.noConfusion (show true=false from Option.some.inj (hcl 3 4 _ rfl (by decide) rfl));simp only [cond_true])
       |simp only [go_sem,lM,cA,nA]))
   rintro _ ⟨i4,h4,z,hi4,hc,rfl⟩
   simp only [stD19,List.replicate,List.getD_cons_succ,List.getD_cons_zero,cond_true,cA,nA]
   simp only [go_sem,cA,nA]
   exact stepFin hkv _ 11 (by omega) (hrq _ _) rfl rfl (hk _ _ _ (by assumption) ((invC_pri hv id _).mono (by omega)))
 ·skip
  have d0:decide ((6:Int)=0)=false:=rfl
  have d1:decide ((6:Int)=1)=false:=rfl
  have d2:decide ((6:Int)=2)=false:=rfl
  have d3:decide ((6:Int)=3)=false:=rfl
  have d4:decide ((6:Int)=4)=false:=rfl
  have d5:decide ((6:Int)=5)=false:=rfl
  have d6:decide ((6:Int)=6)=true:=rfl
  simp only [go_sem,d0,d1,d2,d3,d4,d5]
  have hO:∀ b,_:=fun b=>spec_EmitPacket x b m hv (by omega)
  refine drawX_cut _ (exE_sym (fun S σ=>∃ i h z,i≤bs.length∧(True)∧σ=stD22a bs q0 q2 q3 q4 x id i h z S) (N:=10) rfl rfl ⟨i2,h2,0,‹_›,by first|assumption|(simp;done)|exact ⟨by omega,rfl⟩,rfl⟩ ?_) ?_
  ·repeat' (first|exact symE_nil|refine symE_cons ?_ ?_)
   all_goals (
    rintro S σ F hl hS hp hcl ⟨iz,hz',z,hi',hc,rfl⟩ hF
    obtain ⟨s0,s1,s2,s3,s4,s5,s6,s7,s8,s9,rfl⟩:=len10 hl
    simp only [List.getElem?_cons_succ,List.getElem?_cons_zero,Option.some.injEq] at hS
    subst hS
    simp [predsE,Region.binds] at hp
    repeat (obtain ⟨hp0,hp⟩:=hp;subst hp0)
    try subst hp
    simp only [stD22a,List.getD_cons_succ,List.getD_cons_zero,cond_true,cond_false,cA,nA,List.append_nil]
    repeat' (first
      |exact hF _ ⟨iz,hz',z,hi',hc,rfl⟩
      |(refine gTrueS ?_)
      |(refine gFalseS ?_)
      |(have e:=hcl 2 3 _ rfl (by decide) rfl;simp only [List.getElem?_cons_succ,List.getElem?_cons_zero,Option.some.injEq] at e;subst e;have e:=hcl 3 4 _ rfl (by decide) rfl;simp only [List.getElem?_cons_succ,List.getElem?_cons_zero,Option.some.injEq] at e;subst e;have e:=hcl 4 5 _ rfl (by decide) rfl;simp only [List.getElem?_cons_succ,List.getElem?_cons_zero,Option.some.injEq] at e;subst e;have e:=hcl 5 6 _ rfl (by decide) rfl;simp only [List.getElem?_cons_succ,List.getElem?_cons_zero,Option.some.injEq] at e;subst e;have e:=hcl 5 7 _ rfl (by decide) rfl;simp only [List.getElem?_cons_succ,List.getElem?_cons_zero,Option.some.injEq] at e;subst e;have e:=hcl 5 8 _ rfl (by decide) rfl;simp only [List.getElem?_cons_succ,List.getElem?_cons_zero,Option.some.injEq] at e;subst e;have e:=hcl 8 9 _ rfl (by decide) rfl;simp only [List.getElem?_cons_succ,List.getElem?_cons_zero,Option.some.injEq] at e;subst e;simp only [cond_false];refine CallS.inl (l1Below_inl bs hm iz hz' [q0] [q2,q3,q4,.arr 39 (x.streams.map TStream.enc) true,.arr 2 (x.packets.map TPacket.enc) true,.box (TConn.vc x (.sl 5 0 x.streams.length) (.sl 6 0 x.packets.length)),.box TConn.zc,.box (TConn.vc x (.sl 5 0 x.streams.length) (.sl 6 0 x.packets.length))] _ 20 (by omega) (by omega) _ hi' fun i3 h3 x3 a3 b3 c3=>?_);simp only [go_sem,setD];exact hF _ ⟨_,_,x3,‹_›,by first|assumption|simp|(constructor<;>assumption),rfl⟩)
      |(refine CallS.cln (hO _) ?_)
      |simp only [go_sem,lM,cA,nA]))
  rintro _ ⟨i4,h4,z,hi4,hc,rfl⟩
  simp only [stD22a,List.replicate,List.getD_cons_succ,List.getD_cons_zero,cond_true,cA,nA]
  simp only [go_sem,cA,nA]
  exact stepFin hkv _ 10 (by omega) (hrq _ _) rfl rfl (hk _ _ _ (by assumption) (invC_em hv (by omega) _))
 ·skip
  have d0:decide ((7:Int)=0)=false:=rfl
  have d1:decide ((7:Int)=1)=false:=rfl
  have d2:decide ((7:Int)=2)=false:=rfl
  have d3:decide ((7:Int)=3)=false:=rfl
  have d4:decide ((7:Int)=4)=false:=rfl
  have d5:decide ((7:Int)=5)=false:=rfl
  have d6:decide ((7:Int)=6)=false:=rfl
  have d7:decide ((7:Int)=7)=true:=rfl
  simp only [go_sem,d0,d1,d2,d3,d4,d5,d6]
  have hO:∀ b,_:=fun b=>spec_EmitPacket x b m hv (by omega)
  refine drawX_cut _ (exE_sym (fun S σ=>∃ i h z,i≤bs.length∧(True)∧σ=stD22b bs q0 q2 q3 q4 x id i h z S) (N:=10) rfl rfl ⟨i2,h2,0,‹_›,by first|assumption|(simp;done)|exact ⟨by omega,rfl⟩,rfl⟩ ?_) ?_
  ·repeat' (first|exact symE_nil|refine symE_cons ?_ ?_)
   all_goals (
    rintro S σ F hl hS hp hcl ⟨iz,hz',z,hi',hc,rfl⟩ hF
    obtain ⟨s0,s1,s2,s3,s4,s5,s6,s7,s8,s9,rfl⟩:=len10 hl
    simp only [List.getElem?_cons_succ,List.getElem?_cons_zero,Option.some.injEq] at hS
    subst hS
    simp [predsE,Region.binds] at hp
    repeat (obtain ⟨hp0,hp⟩:=hp;subst hp0)
    try subst hp
    simp only [stD22b,List.getD_cons_succ,List.getD_cons_zero,cond_true,cond_false,cA,nA,List.append_nil]
    repeat' (first
      |exact hF _ ⟨iz,hz',z,hi',hc,rfl⟩
      |(refine gTrueS ?_)
      |(refine gFalseS ?_)
      |(have e:=hcl 2 3 _ rfl (by decide) rfl;simp only [List.getElem?_cons_succ,List.getElem?_cons_zero,Option.some.injEq] at e;subst e;have e:=hcl 3 4 _ rfl (by decide) rfl;simp only [List.getElem?_cons_succ,List.getElem?_cons_zero,Option.some.injEq] at e;subst e;have e:=hcl 4 5 _ rfl (by decide) rfl;simp only [List.getElem?_cons_succ,List.getElem?_cons_zero,Option.some.injEq] at e;subst e;have e:=hcl 5 6 _ rfl (by decide) rfl;simp only [List.getElem?_cons_succ,List.getElem?_cons_zero,Option.some.injEq] at e;subst e;have e:=hcl 5 7 _ rfl (by decide) rfl;simp only [List.getElem?_cons_succ,List.getElem?_cons_zero,Option.some.injEq] at e;subst e;have e:=hcl 5 8 _ rfl (by decide) rfl;simp only [List.getElem?_cons_succ,List.getElem?_cons_zero,Option.some.injEq] at e;subst e;have e:=hcl 8 9 _ rfl (by decide) rfl;simp only [List.getElem?_cons_succ,List.getElem?_cons_zero,Option.some.injEq] at e;subst e;simp only [cond_false];refine CallS.inl (l1Below_inl bs hm iz hz' [q0] [q2,q3,q4,.arr 39 (x.streams.map TStream.enc) true,.arr 2 (x.packets.map TPacket.enc) true,.box (TConn.vc x (.sl 5 0 x.streams.length) (.sl 6 0 x.packets.length)),.box TConn.zc,.box (TConn.vc x (.sl 5 0 x.streams.length) (.sl 6 0 x.packets.length))] _ 20 (by omega) (by omega) _ hi' fun i3 h3 x3 a3 b3 c3=>?_);simp only [go_sem,setD];exact hF _ ⟨_,_,x3,‹_›,by first|assumption|simp|(constructor<;>assumption),rfl⟩)
      |(refine CallS.cln (hO _) ?_)
      |simp only [go_sem,lM,cA,nA]))
  rintro _ ⟨i4,h4,z,hi4,hc,rfl⟩
  simp only [stD22b,List.replicate,List.getD_cons_succ,List.getD_cons_zero,cond_true,cA,nA]
  simp only [go_sem,cA,nA]
  exact stepFin hkv _ 10 (by omega) (hrq _ _) rfl rfl (hk _ _ _ (by assumption) (invC_em hv (by omega) _))
 ·skip
  have d0:decide ((8:Int)=0)=false:=rfl
  have d1:decide ((8:Int)=1)=false:=rfl
  have d2:decide ((8:Int)=2)=false:=rfl
  have d3:decide ((8:Int)=3)=false:=rfl
  have d4:decide ((8:Int)=4)=false:=rfl
  have d5:decide ((8:Int)=5)=false:=rfl
  have d6:decide ((8:Int)=6)=false:=rfl
  have d7:decide ((8:Int)=7)=false:=rfl
  have d8:decide ((8:Int)=8)=true:=rfl
  simp only [go_sem,d0,d1,d2,d3,d4,d5,d6,d7]
  refine CallS.inl (l4Frame_inl bs hm i2 h2 [q0] [q2,q3,q4,.arr 39 (x.streams.map TStream.enc) true,.arr 2 (x.packets.map TPacket.enc) true,.box (TConn.vc x (.sl 5 0 x.streams.length) (.sl 6 0 x.packets.length)),.box TConn.zc,.box (TConn.vc x (.sl 5 0 x.streams.length) (.sl 6 0 x.packets.length))] _ 10 rfl hrr (hkk _ (by simp [voks,vok])) _ a2 fun i3 h3 f a3 f1 f2 f3=>?_)
  simp only [go_sem,lM]
  have hO:=spec_HandleFrame x f m hv (by omega) (by omega) ⟨f2,by omega⟩
  refine CallS.cln hO ?_
  have hI:=invC_hf hv (f:=f) (by omega) ⟨f2,by omega⟩
  simp only [go_sem,lM,cA,nA]
  cases he:decide (hfE x f=0) with
  |true=>
   simp only [go_sem,cA,nA]
   exact stepFin hkv _ 11 (by omega) (hrq _ _) rfl rfl (hk _ _ _ (by assumption) hI)
  |false=>
   simp only [go_sem,cA,nA]
   exact stepSame hkv _ (hrq _ _) (hk _ _ _ (by assumption) (hv.mono (by omega)))
 ·skip
  have d0:decide ((9:Int)=0)=false:=rfl
  have d1:decide ((9:Int)=1)=false:=rfl
  have d2:decide ((9:Int)=2)=false:=rfl
  have d3:decide ((9:Int)=3)=false:=rfl
  have d4:decide ((9:Int)=4)=false:=rfl
  have d5:decide ((9:Int)=5)=false:=rfl
  have d6:decide ((9:Int)=6)=false:=rfl
  have d7:decide ((9:Int)=7)=false:=rfl
  have d8:decide ((9:Int)=8)=false:=rfl
  have d9:decide ((9:Int)=9)=true:=rfl
  simp only [go_sem,d0,d1,d2,d3,d4,d5,d6,d7,d8]
  cases hp0:decide (0 < (x.packets.length:Int)) with
  |false=>
   simp only [go_sem,cA,nA]
   exact stepSame hkv _ (hrq _ _) (hk _ _ _ (by assumption) (hv.mono (by omega)))
  |true=>
   have hp1:=oT hp0
   simp only [go_sem]
   refine drawX_cut _ (exE_sym (fun S σ=>∃ i h z,i≤bs.length∧(z.1 < x.packets.length∧((x.packets[z.1]?).getD (⟨0,[]⟩:TPacket)).number=z.2)∧σ=stD30 bs q0 q2 q3 q4 x id i h z S) (N:=11) rfl rfl ⟨i2,h2,(0,((x.packets[0]?).getD (⟨0,[]⟩:TPacket)).number),‹_›,by first|assumption|(simp;done)|exact ⟨by omega,rfl⟩,rfl⟩ ?_) ?_
   ·repeat' (first|exact symE_nil|refine symE_cons ?_ ?_)
    all_goals (
     rintro S σ F hl hS hp hcl ⟨iz,hz',z,hi',hc,rfl⟩ hF
     obtain ⟨s0,s1,s2,s3,s4,s5,s6,s7,s8,s9,s10,rfl⟩:=len11 hl
     simp only [List.getElem?_cons_succ,List.getElem?_cons_zero,Option.some.injEq] at hS
     subst hS
     simp [predsE,Region.binds] at hp
     repeat (obtain ⟨hp0,hp⟩:=hp;subst hp0)
     try subst hp
     have hxi:=map_at TPacket.enc x.packets z.1 hc.1
     have hz2:=hc.2
     have hc1:=hc.1
     rw [gE hc.1,Option.getD_some] at hz2
     simp only [stD30,List.getD_cons_succ,List.getD_cons_zero,cond_true,cond_false]
     repeat' (first
       |exact hF _ ⟨iz,hz',z,hi',hc,rfl⟩
       |(refine gTrueS ?_)
       |(refine gFalseS ?_)
       |(have e:=hcl 6 7 _ rfl (by decide) rfl;simp only [List.getElem?_cons_succ,List.getElem?_cons_zero,Option.some.injEq] at e;subst e;have e:=hcl 7 8 _ rfl (by decide) rfl;simp only [List.getElem?_cons_succ,List.getElem?_cons_zero,Option.some.injEq] at e;subst e;have e:=hcl 8 9 _ rfl (by decide) rfl;simp only [List.getElem?_cons_succ,List.getElem?_cons_zero,Option.some.injEq] at e;subst e;have e:=hcl 9 10 _ rfl (by decide) rfl;simp only [List.getElem?_cons_succ,List.getElem?_cons_zero,Option.some.injEq] at e;subst e;simp only [cond_false];refine CallS.inl (l1Below_inl bs hm iz hz' [q0] [q2,q3,q4,.arr 39 (x.streams.map TStream.enc) true,.arr 2 (x.packets.map TPacket.enc) true,.box (TConn.vc x (.sl 5 0 x.streams.length) (.sl 6 0 x.packets.length)),.box TConn.zc,.box (TConn.vc x (.sl 5 0 x.streams.length) (.sl 6 0 x.packets.length))] _ (x.packets.length:Int) (by omega) (by omega) _ hi' fun i3 h3 x3 a3 b3 c3=>?_);obtain ⟨k3,rfl⟩:=Int.eq_ofNat_of_zero_le b3;simp only [go_sem,setD];exact hF _ ⟨_,_,(k3,((x.packets[k3]?).getD (⟨0,[]⟩:TPacket)).number),‹_›,⟨(by omega),rfl⟩,rfl⟩)
       |(refine ⟨⟨by omega,by omega⟩,?_⟩)
       |(refine ⟨hc1,?_⟩)
       |simp only [go_sem,lM,hxi,hz2,TPacket.enc,tN]))
   rintro _ ⟨i4,h4,z,hi4,hc,rfl⟩
   simp only [stD30,List.replicate,List.getD_cons_succ,List.getD_cons_zero,cond_true]
   simp only [go_sem]
   refine CallS.inl (l1Once_inl bs hm i4 h4 [q0] [q2,q3,q4,.arr 39 (x.streams.map TStream.enc) true,.arr 2 (x.packets.map TPacket.enc) true,.box (TConn.vc x (.sl 5 0 x.streams.length) (.sl 6 0 x.packets.length)),.box TConn.zc,.box (TConn.vc x (.sl 5 0 x.streams.length) (.sl 6 0 x.packets.length))] _ 3 (by omega) (by omega) _ hi4 fun i5 h5 b5 a5=>?_)
   cases b5 with
   |true=>
    have hO:=spec_LosePacket x z.2 m hv (by omega)
    simp only [go_sem,lM]
    refine CallS.cln hO ?_
    simp only [go_sem,lM,cA,nA]
    exact stepFin hkv _ 10 (by omega) (hrq _ _) rfl rfl (hk _ _ _ (by assumption) ((invC_los hv _).mono (by omega)))
   |false=>
    have hO:=spec_AckPacket x z.2 m hv (by omega)
    simp only [go_sem,lM]
    refine CallS.cln hO ?_
    simp only [go_sem,lM,cA,nA]
    exact stepFin hkv _ 10 (by omega) (hrq _ _) rfl rfl (hk _ _ _ (by assumption) ((invC_ack hv _).mono (by omega)))
set_option maxRecDepth 100000
theorem kvOk_app {ρ:List Nat} {m:Nat}:∀ {xs ys:List V},kvOk ρ m xs→kvOk ρ m ys→kvOk ρ m (xs++ys)
 |[],_,_,h=>h
 |_x::_xs,_,h,k=>⟨h.1,kvOk_app h.2 k⟩
theorem seeArr {kv:List V} {hs:List H} {n:Nat} (hn:hs.length=n) (hr:roks n hs) (hkv:voks n kv) (y:TConn) (a:Nat) (ha:n≤a) {ex:List H} {K:V→List H→Prop} (e1:hget (hs++ex) a=.arr 39 (y.streams.map TStream.enc) true) (e2:hget (hs++ex) (a + 1)=.arr 2 (y.packets.map TPacket.enc) true)
  (hK:K (yVal y n) (hs++yArr y)):SeeX kv K (yVal y a) (hs++ex):=by
 subst hn
 refine ⟨List.range hs.length++[a,a + 1],yVal y hs.length,hs++yArr y,?_,hK⟩
 refine see_keepN (hs:=hs) (ex:=ex) [a,a + 1] (by simp) (by simp;omega) hr ?_ (by simp [allOk,hok,yArr]) hkv ?_ ?_
 ·simp only [yArr,hsees,e1,e2]
  simp [hsee]
 ·have h1:=rangeAN hs.length 0 [a,a + 1]
  have h2:=rangeAN hs.length 1 [a,a + 1]
  simp only [Nat.add_zero,List.getD_cons_zero,List.getD_cons_succ] at h1 h2
  simp [yVal,vsees,vsee,ren,rens]
 ·simp [yVal,yArr,voks,vok]
theorem seeJunk {ts kv:List V} (hts:kvOk (List.range 7) 7 ts) (hkv:voks 3 kv) {q0 c q2 q3:H} (h0:rok 7 q0) (hc:rok 7 c) (h2:rok 7 q2) (h3:rok 7 q3) (cs:List V) (hcs:cs.length=50) (x:TConn) :
  seeE (ts++kv) (List.range 7) ⟨[.ptr 1 0 0,yVal x 5],q0::c::q2::q3::.box cs::yArr x⟩ ⟨[.ptr 1 0 0,yVal x 5],q0::c::q2::q3::.box (List.replicate 50 .junk)::yArr x⟩:=by
 have hf:Fix (List.range 7) 7:=fix_range (Nat.le_refl _)
 refine ⟨List.nodup_range,?_,⟨hsee_fix hf h0,hsee_fix hf hc,hsee_fix hf h2,hsee_fix hf h3,hcs ▸ vsees_junk _ cs,⟨rfl,rfl,rfl⟩,⟨rfl,rfl,rfl⟩,trivial⟩,?_,?_,kvOk_app hts (kvOk_fix hf (by simp [yArr]) (voks_mono (by omega) _ hkv))⟩
 ·simp [yVal,vsees,vsee,ren,rens,List.range,List.range.loop]
 ·simp [yVal,yArr,voks,vok]
 ·exact roks_allOk (xs:=q0::c::q2::q3::.box (List.replicate 50 .junk)::yArr x) ⟨h0,hc,h2,h3,voks_junk _ _,trivial,trivial,trivial⟩
def zBox:H:=.box TConn.zc
set_option maxHeartbeats 8000000 in
theorem l20Conn_inl (bs:List Int) (hm:bs.length≤maxLen) (i:Nat) (h:Int) (q0 q2:H) (hq:rok 3 q0∧rok 3 q2) (kv:List V) (hkv:voks 3 kv) (K:V→List H→Prop) (hi:i≤bs.length)
  (hk:∀ (i':Nat) (h':Int) (y:TConn),i'≤bs.length→InvC 14 y→K (yVal y 3) ([q0,curB bs i' h',q2]++yArr y)):InlCall Tryz.prog 73 kv [q0,curB bs i h,q2] [.ptr 1 0 0] K:=by
 have hk4:∀ ts:List V,voks 4 ts→voks 4 (ts++kv):=fun ts h=>voks_append h (voks_mono (by omega) kv hkv)
 have hr4:roks 4 [q0]∧roks 4 [q2,zBox]:=⟨⟨rok_mono (by omega) _ hq.1,trivial⟩,rok_mono (by omega) _ hq.2,by simp [zBox,roks,rok,voks,vok]⟩
 have hr3:∀ (i':Nat) (h':Int),roks 3 [q0,curB bs i' h',q2]:=fun i' h'=>⟨hq.1,by simp [curB,rok,voks,vok],hq.2,trivial⟩
 have hz4:∀ (i':Nat) (h':Int),roks 4 [q0,curB bs i' h',q2,zBox]:=fun i' h'=>⟨rok_mono (by omega) _ hq.1,by simp [curB,rok,voks,vok],rok_mono (by omega) _ hq.2,by simp [zBox,rok,voks,vok],trivial⟩
 have hq7:rok 7 q0∧rok 7 q2:=⟨rok_mono (by omega) _ hq.1,rok_mono (by omega) _ hq.2⟩
 refine InlCall.see ?_
 refine (inl_ev (n:=27) (rs:=[.cell 2 37]) Tryz.func73 rfl Tryz.call73 Tryz.checked.mixed rfl rfl ?_)
 simp only [go_sem]
 refine CallS.inl (l1Once_inl bs hm i h [q0] [q2,zBox] _ 2 (by omega) (by omega) _ hi fun i1 h1 b1 a1=>?_)
 simp only [go_sem,cA,nA]
 refine CallS.inl (l15Conf_inl bs hm i1 h1 [q0] [q2,zBox] _ 4 rfl hr4 (hk4 _ (by simp [voks,vok])) _ a1 fun i2 h2 o a2=>?_)
 simp only [go_sem,cA,nA]
 refine CallS.inl (l15Conf_inl bs hm i2 h2 [q0] [q2,zBox] _ 4 rfl hr4 (hk4 _ (by simp [voks,vok])) _ a2 fun i3 h3 p a3=>?_)
 simp only [go_sem,cA,nA]
 have hN:=spec_NewConn b1 o.ring o.window o.windowMost o.total o.totalMost o.bidi o.uni o.trip p.ring p.window p.windowMost p.total p.totalMost p.bidi p.uni p.trip
 change PureCall _ _ _ [.agg (TConn.enc ((newConn b1 o p))),.one (.bool _)] at hN
 have hI:=invC_new b1 o p
 generalize newConn b1 o p=x at hN hI
 refine CallS.intro hN ?_
 simp only [go_sem,lM,cA,nA]
 refine CallS.inl (l1Below_inl bs hm i3 h3 [q0] [q2,zBox,.arr 39 (x.streams.map TStream.enc) true,.arr 2 (x.packets.map TPacket.enc) true,.box (TConn.vc x (.sl 4 0 x.streams.length) (.sl 5 0 x.packets.length))] _ 12 (by omega) (by omega) _ a3 fun i4 h4 k a4 b4 c4=>?_)
 obtain ⟨k,rfl⟩:=Int.eq_ofNat_of_zero_le b4
 simp only [go_sem,cA,nA]
 rw [show IntKind.i64.wrap (2 + (k:Int))=((k + 2:Nat):Int) by rw [w64]<;>omega]
 refine LoopK.intro (α:=Nat×Int×TConn×Nat) (fun y=>⟨(.ptr 1 0 0::.junk::.ptr 3 0 0::.ptr 4 0 0::.junk::.d (.int .i64 y.2.2.2)::jn 21 []),[q0,curB bs y.1 y.2.1,q2,zBox,.box (TConn.vc (y.2.2.1) (.sl 5 0 (y.2.2.1).streams.length) (.sl 6 0 (y.2.2.1).packets.length)),.arr 39 ((y.2.2.1).streams.map TStream.enc) true,.arr 2 ((y.2.2.1).packets.map TPacket.enc) true]⟩)
  (fun y=>y.2.2.2) (fun y=>y.1≤bs.length∧y.2.2.2≤14∧InvC (14 - y.2.2.2) y.2.2.1) (i4,h4,x,k + 2) [0,1,2,3,6,4,5] ⟨a4,by simp only;omega,hI.mono (by omega)⟩ ?_ ?_
 ·refine see_keepN (hs:=[q0,curB bs i4 h4,q2,zBox]) (ex:=[.arr 39 (x.streams.map TStream.enc) true,.arr 2 (x.packets.map TPacket.enc) true,.box (TConn.vc x (.sl 4 0 x.streams.length) (.sl 5 0 x.packets.length))]) (ex':=[.box (TConn.vc x (.sl 5 0 x.streams.length) (.sl 6 0 x.packets.length)),.arr 39 (x.streams.map TStream.enc) true,.arr 2 (x.packets.map TPacket.enc) true]) [6,4,5] (by decide) (by simp) (hz4 _ _) ?_ (by simp [allOk,hok,voks,vok]) (hk4 [] trivial) ?_ ?_
  ·simp [hsees,hsee,hget,vsees,vsee,ren,List.range,List.range.loop]
  ·simp [vsees,vsee,ren,List.range,List.range.loop]
  ·simp [voks,vok]
 ·rintro ⟨i5,h5,x,n⟩ ⟨hi5,hn,hx⟩
  simp only at hi5 hn hx
  simp only [go_sem]
  cases n with
  |zero=>
   rw [show decide ((0:Int) < ((0:Nat):Int))=false from rfl]
   simp only [go_sem,zBox]
   exact seeArr (n:=3) (hs:=[q0,curB bs i5 h5,q2]) (ex:=[_,_,_,_]) rfl (hr3 _ _) hkv x 5 (by omega) (by rfl) (by rfl) (hk _ _ _ hi5 hx)
  |succ n=>
   rw [show decide ((0:Int) < ((n + 1:Nat):Int))=true from dT (by omega)]
   simp only [go_sem]
   refine CallS.inlK [0,2,3,5] (by simp only [keepT,List.elem_cons,List.elem_nil,Nat.reduceBEq,Nat.reduceAdd,cond_true,cond_false];rfl) (InlCall.seeA (seeJunk (by simp [kvOk,vsee,vok,ren,List.range,List.range.loop]) hkv hq7.1 (by simp [curB,rok,voks,vok]) hq7.2 (by simp [zBox,rok,voks,vok]) _ rfl x) (l20Step_inl bs hm i5 h5 x (14 - (n + 1)) hx (by omega) q0 q2 zBox (.box (List.replicate 50 .junk)) ⟨rok_mono (by omega) _ hq.1,rok_mono (by omega) _ hq.2,by simp [zBox,rok,voks,vok],voks_junk 5 50⟩ _ (voks_append (by simp [voks,vok]) (voks_mono (by omega) kv hkv)) _ hi5 fun i6 h6 y a6 hy=>?_))
   simp only [go_sem,yVal,yArr,List.replicate,List.length_cons,List.length_nil,cA,nA]
   rw [show IntKind.i64.wrap (((n + 1:Nat):Int) - 1)=(n:Int) by rw [w64]<;>omega]
   refine RoundE.intro (i6,h6,y,n) (List.range 7) ⟨a6,by simp only;omega,by simp only;rwa [show 14 - (n + 1) + 1=14 - n from by omega] at hy⟩ (Nat.lt_succ_self n) ?_
   refine see_keep0 (hs:=[q0,curB bs i6 h6,q2,zBox,.box (TConn.vc y (.sl 5 0 y.streams.length) (.sl 6 0 y.packets.length)),.arr 39 (y.streams.map TStream.enc) true,.arr 2 (y.packets.map TPacket.enc) true]) ⟨hq7.1,by simp [curB,rok,voks,vok],hq7.2,by simp [zBox,rok,voks,vok],by simp [rok,voks,vok],trivial,trivial,trivial⟩ (voks_mono (by simp) kv hkv) ?_ ?_
   ·simp [vsees,vsee,ren,List.range,List.range.loop]
   ·simp [voks,vok]
set_option maxRecDepth 100000
set_option maxHeartbeats 8000000 in
theorem l20Any_inl (bs:List Int) (hm:bs.length≤maxLen) (i:Nat) (h:Int) (q0:H) (hq:rok 2 q0) (kv:List V) (hkv:voks 2 kv) (K:V→List H→Prop) (hi:i≤bs.length)
  (hk:∀ (i':Nat) (h':Int) (y:TConn),i'≤bs.length→InvC 14 y→K (yVal y 2) ([q0,curB bs i' h']++yArr y)):InlCall Tryz.prog 37 kv [q0,curB bs i h] [.ptr 1 0 0] K:=by
 have hr2:∀ (i':Nat) (h':Int),roks 2 [q0,curB bs i' h']:=fun i' h'=>⟨hq,by simp [curB,rok,voks,vok],trivial⟩
 refine InlCall.see ?_
 refine (inl_ev (n:=34) (rs:=[.cell 2 37]) Tryz.func37 rfl Tryz.call37 Tryz.checked.mixed rfl rfl ?_)
 simp only [go_sem]
 refine CallS.inl (l20Conn_inl bs hm i h q0 zBox ⟨rok_mono (by omega) _ hq,by simp [zBox,rok,voks,vok]⟩ _ (voks_append (by simp [voks,vok]) (voks_mono (by omega) kv hkv)) _ hi fun i1 h1 y a1 hI=>?_)
 simp only [go_sem,yVal,yArr,zBox,cA,nA]
 refine CallS.inl (l1Below_inl bs hm i1 h1 [q0] [.box TConn.zc,.arr 39 (y.streams.map TStream.enc) true,.arr 2 (y.packets.map TPacket.enc) true,.box (TConn.vc y (.sl 3 0 y.streams.length) (.sl 4 0 y.packets.length))] _ 20 (by omega) (by omega) _ a1 fun i2 h2 k a2 b2 c2=>?_)
 have fin:∀ (x:TConn) (i3:Nat) (h3:Int) (e5 e6:H) (ex:List H),i3≤bs.length→InvC 14 x→SeeX kv K (yVal x 3) (q0::curB bs i3 h3::e5::.arr 39 (x.streams.map TStream.enc) true::.arr 2 (x.packets.map TPacket.enc) true::e6::ex):=by
  intro x i3 h3 e5 e6 ex hi3 hx
  exact seeArr (n:=2) (hs:=[q0,curB bs i3 h3]) (ex:=e5::.arr 39 (x.streams.map TStream.enc) true::.arr 2 (x.packets.map TPacket.enc) true::e6::ex) rfl (hr2 _ _) hkv x 3 (by omega) rfl rfl (hk _ _ _ hi3 hx)
 obtain rfl|rfl|rfl|rfl|h4:k=0∨k=1∨k=2∨k=3∨4≤k:=by omega
 ·have d0:decide ((0:Int)=0)=true:=rfl
  simp only [go_sem]
  refine CallS.inl (l1PickInt_inl bs hm i2 h2 [q0] [.box TConn.zc,.arr 39 (y.streams.map TStream.enc) true,.arr 2 (y.packets.map TPacket.enc) true,.box (TConn.vc y (.sl 3 0 y.streams.length) (.sl 4 0 y.packets.length)),.arr 1 ([-1,3,7,256].map eI) true] _ 4 [-1,3,7,256] rfl (by decide) (by decide) _ a2 fun i3 h3 v a3 b3=>?_)
  simp only [go_sem,cA,nA]
  exact fin { y with closed:=v } i3 h3 _ _ _ a3 (hI.same rfl rfl)
 ·have d0:decide ((1:Int)=0)=false:=rfl
  have d1:decide ((1:Int)=1)=true:=rfl
  simp only [go_sem,d0]
  refine CallS.inl (l1PickInt_inl bs hm i2 h2 [q0] [.box TConn.zc,.arr 39 (y.streams.map TStream.enc) true,.arr 2 (y.packets.map TPacket.enc) true,.box (TConn.vc y (.sl 3 0 y.streams.length) (.sl 4 0 y.packets.length)),.arr 1 ([-1,1000000,1000001].map eI) true] _ 4 [-1,1000000,1000001] rfl (by decide) (by decide) _ a2 fun i3 h3 v a3 b3=>?_)
  simp only [go_sem,cA,nA]
  exact fin { y with now:=v } i3 h3 _ _ _ a3 (hI.same rfl rfl)
 ·have d0:decide ((2:Int)=0)=false:=rfl
  have d1:decide ((2:Int)=1)=false:=rfl
  have d2:decide ((2:Int)=2)=true:=rfl
  simp only [go_sem,d0,d1]
  refine CallS.inl (l1PickInt_inl bs hm i2 h2 [q0] [.box TConn.zc,.arr 39 (y.streams.map TStream.enc) true,.arr 2 (y.packets.map TPacket.enc) true,.box (TConn.vc y (.sl 3 0 y.streams.length) (.sl 4 0 y.packets.length)),.arr 1 ([-1,0].map eI) true] _ 4 [-1,0] rfl (by decide) (by decide) _ a2 fun i3 h3 v a3 b3=>?_)
  simp only [go_sem,cA,nA]
  exact fin { y with total:={ y.total with used:=v } } i3 h3 _ _ _ a3 (hI.same rfl rfl)
 ·have d0:decide ((3:Int)=0)=false:=rfl
  have d1:decide ((3:Int)=1)=false:=rfl
  have d2:decide ((3:Int)=2)=false:=rfl
  have d3:decide ((3:Int)=3)=true:=rfl
  simp only [go_sem,d0,d1,d2]
  refine CallS.inl (l1PickInt_inl bs hm i2 h2 [q0] [.box TConn.zc,.arr 39 (y.streams.map TStream.enc) true,.arr 2 (y.packets.map TPacket.enc) true,.box (TConn.vc y (.sl 3 0 y.streams.length) (.sl 4 0 y.packets.length)),.arr 1 ([0,1000000,1000001].map eI) true] _ 4 [0,1000000,1000001] rfl (by decide) (by decide) _ a2 fun i3 h3 v a3 b3=>?_)
  simp only [go_sem,cA,nA]
  exact fin { y with number:=v } i3 h3 _ _ _ a3 (hI.same rfl rfl)
 ·have d0:decide (k=0)=false:=dF (by omega)
  have d1:decide (k=1)=false:=dF (by omega)
  have d2:decide (k=2)=false:=dF (by omega)
  have d3:decide (k=3)=false:=dF (by omega)
  simp only [go_sem,d0,d1,d2,d3,cA,nA]
  exact fin y i2 h2 _ _ _ a2 hI
set_option maxHeartbeats 8000000 in
theorem l24Conn_nd (bs:List Int):NdCall Tryz.prog 18 [.one (.sl 1 (bs.map eU8))] (fun rs=>∃ y:TConn,InvC 14 y∧rs=[.agg (TConn.enc y)]):=by
 refine nd_ev Tryz.func18 rfl Tryz.call18 Tryz.checked.mixed (.d (.sl 1 (bs.map eU8))::List.replicate 53 .junk) rfl [.cell 2 37] rfl ?_
 intro ok
 have hm:=len_of ok
 simp only [List.replicate]
 simp only [go_sem]
 refine CallS.inl (l1New_inl bs hm [zBox] _ (by simp [zBox,roks,rok,voks,vok]) (by simp [voks,vok]) _ fun h1=>?_)
 simp only [go_sem,cA,nA]
 refine CallS.inl (l20Any_inl bs hm 0 h1 zBox (by simp [zBox,rok,voks,vok]) _ (by simp [voks,vok]) _ (by omega) fun i2 h2 y a2 hI=>?_)
 simp only [go_sem,yVal,yArr,zBox,cA,nA]
 have hz:=hI.sz (by omega)
 cases hl:decide (0 < (y.streams.length:Int)) with
 |false=>
  refine gFalseS ?_
  simp only [go_sem]
  refine gFalseS ?_
  simp only [go_sem]
  refine ⟨_,⟨y,hI,rfl⟩,?_⟩
  simp only [go_sem]
  simp [outOA]
 |true=>
  have hl1:=oT hl
  refine gTrueS ?_
  simp only [go_sem]
  refine gTrueS ?_
  simp only [go_sem]
  refine CallS.inl (l1Once_inl bs hm i2 h2 [zBox] [.arr 39 (y.streams.map TStream.enc) true,.arr 2 (y.packets.map TPacket.enc) true,.box (TConn.vc y (.sl 2 0 y.streams.length) (.sl 3 0 y.packets.length))] _ 3 (by omega) (by omega) _ a2 fun i3 h3 b3 a3=>?_)
  cases b3 with
  |false=>
   simp only [go_sem,zBox,cA,nA]
   refine ⟨_,⟨y,hI,rfl⟩,?_⟩
   simp only [go_sem]
   simp [outOA]
  |true=>
  simp only [go_sem,zBox,cA,nA]
  refine CallS.inl (l1Below_inl bs hm i3 h3 [zBox] [.arr 39 (y.streams.map TStream.enc) true,.arr 2 (y.packets.map TPacket.enc) true,.box (TConn.vc y (.sl 2 0 y.streams.length) (.sl 3 0 y.packets.length))] _ (y.streams.length:Int) (by omega) (by have:=hI.ls;omega) _ a3 fun i4 h4 k a4 b4 c4=>?_)
  obtain ⟨k,rfl⟩:=Int.eq_ofNat_of_zero_le b4
  have hk:k < y.streams.length:=by omega
  have hxi:=map_at TStream.enc y.streams k hk
  have hs:y.streams[k] ∈ y.streams:=List.getElem_mem hk
  generalize y.streams[k]=s at *
  simp only [go_sem,lM,zBox,cA,nA,hxi,TStream.enc,tN]
  refine ⟨⟨by omega,by omega⟩,?_⟩
  refine ⟨hk,?_⟩
  refine CallS.inl (l1Below_inl bs hm i4 h4 [zBox] [.arr 39 (y.streams.map TStream.enc) true,.arr 2 (y.packets.map TPacket.enc) true,.box (TConn.vc y (.sl 2 0 y.streams.length) (.sl 3 0 y.packets.length)),.box (TStream.ve s)] _ 3 (by omega) (by omega) _ a4 fun i5 h5 m a5 b5 c5=>?_)
  simp only [zBox]
  obtain rfl|rfl|rfl:m=0∨m=1∨m=2:=by omega
  ·skip
   have d0:decide ((0:Int)=0)=true:=rfl
   have hq:InvC 14 (putK y { s with counted:=!s.counted }):=invC_put hI ((hI.st s hs).same rfl rfl) (show (strOf y.streams s.id).2=true from strOf_mem hs)
   have hP:=spec_PutStream y.streams { s with counted:=!s.counted } (by have:=hI.ls;omega) hz.2.1 (hz.2.1 s hs)
   simp only [go_sem,lM]
   refine CallS.cln hP ?_
   simp only [go_sem,lM,cA,nA]
   refine ⟨_,⟨putK y { s with counted:=!s.counted },hq,rfl⟩,?_⟩
   simp only [go_sem]
   simp [outOA,putK]
  ·skip
   have d0:decide ((1:Int)=0)=false:=rfl
   have d1:decide ((1:Int)=1)=true:=rfl
   have hq:InvC 14 (putK y { s with window:={ s.window with read:=0 } }):=invC_put hI ((hI.st s hs).same rfl rfl) (show (strOf y.streams s.id).2=true from strOf_mem hs)
   have hP:=spec_PutStream y.streams { s with window:={ s.window with read:=0 } } (by have:=hI.ls;omega) hz.2.1 (hz.2.1 s hs)
   simp only [go_sem,d0,lM]
   refine CallS.cln hP ?_
   simp only [go_sem,lM,cA,nA]
   refine ⟨_,⟨putK y { s with window:={ s.window with read:=0 } },hq,rfl⟩,?_⟩
   simp only [go_sem]
   simp [outOA,putK]
  ·skip
   have d0:decide ((2:Int)=0)=false:=rfl
   have d1:decide ((2:Int)=1)=false:=rfl
   have d2:decide ((2:Int)=2)=true:=rfl
   have hq:InvC 14 (putK y { s with credit:={ s.credit with used:=s.credit.limit } }):=invC_put hI ((hI.st s hs).same rfl rfl) (show (strOf y.streams s.id).2=true from strOf_mem hs)
   have hP:=spec_PutStream y.streams { s with credit:={ s.credit with used:=s.credit.limit } } (by have:=hI.ls;omega) hz.2.1 (hz.2.1 s hs)
   simp only [go_sem,d0,d1,lM]
   refine CallS.cln hP ?_
   simp only [go_sem,lM,cA,nA]
   refine ⟨_,⟨putK y { s with credit:={ s.credit with used:=s.credit.limit } },hq,rfl⟩,?_⟩
   simp only [go_sem]
   simp [outOA,putK]
set_option maxHeartbeats 8000000 in
theorem DrawAuditConn_nd (bs:List Int):NdCall Tryz.prog 5 [.one (.sl 1 (bs.map eU8))] (fun rs=>∃ y:TConn,InvC 14 y∧rs=[.agg (TConn.enc y)]):=by
 refine nd_ev Tryz.func5 rfl Tryz.call5 Tryz.checked.mixed (.d (.sl 1 (bs.map eU8))::jn 4 []) rfl [.cell 2 37] rfl ?_
 intro _
 simp only [go_sem]
 refine CallS.nd (l24Conn_nd bs) rfl ?_
 rintro _ ⟨y,hI,rfl⟩
 simp only [go_sem,lM]
 refine ⟨_,⟨y,hI,rfl⟩,?_⟩
 simp only [go_sem]
 simp [outOA]
set_option maxRecDepth 100000
set_option maxHeartbeats 4000000 in
theorem notFr_inl (fr:List TFrame) (hm:fr.length≤500) (num:Int) (kv:List V) (hkv:voks 1 kv) (K:V→List H→Prop) (hk:K (.d (.bool (!fr.all isFrame))) [.box [.d (.int .i64 num),.d (.sl 9 (fr.map TFrame.enc))]]) :
  InlCall Tryz.prog 80 kv [.box [.d (.int .i64 num),.d (.sl 9 (fr.map TFrame.enc))]] [.d (.sl 9 (fr.map TFrame.enc)),.fn 81 []] K:=by
 have fin:∀ (ex:List H) (b:Bool),b=!fr.all isFrame→SeeX kv K (.d (.bool b)) (.box [.d (.int .i64 num),.d (.sl 9 (fr.map TFrame.enc))]::ex):=by
  intro ex b hb
  subst hb
  exact ⟨List.range 1,_,[.box [.d (.int .i64 num),.d (.sl 9 (fr.map TFrame.enc))]],see_keep (hs:=[.box [.d (.int .i64 num),.d (.sl 9 (fr.map TFrame.enc))]]) (ex:=ex) (by simp [roks,rok,voks,vok]) hkv (by simp [vsees,vsee,ren]) (by simp [voks,vok]),hk⟩
 have hx:∀ ρ:List Nat,ρ=[0]→kvOk ρ 1 kv:=fun ρ e=>by subst e;exact kvOk_fix (fix_range (m:=1) (n:=1) (by omega)) (by omega) hkv
 refine InlCall.see ?_
 refine (inl_ev (n:=9) (rs:=[.tmp 4]) Tryz.func80 rfl Tryz.call80 Tryz.checked.mixed rfl rfl ?_)
 simp only [go_sem]
 refine CallS.inl (inl_ev (n:=19) (rs:=[.tmp 4]) Tryz.func104 rfl Tryz.call104 Tryz.checked.mixed rfl rfl ?_)
 simp only [go_sem,lM]
 refine LoopK.intro (fun i:Nat=>⟨(.d (.sl 9 (fr.map TFrame.enc))::.fn 81 []::.junk::.junk::.d (.int .i64 0)::.junk::.d (.sl 9 (fr.map TFrame.enc))::.d (.int .i64 fr.length)::.d (.int .i64 i)::jn 10 []),[.box [.d (.int .i64 num),.d (.sl 9 (fr.map TFrame.enc))]]⟩)
   (fun i=>fr.length - i) (fun i=>i≤fr.length∧(fr.take i).all isFrame=true) 0 [0] ⟨by omega,by simp⟩ ?_ ?_
 ·simp only [go_sem];simp [hx];try trace_state
 ·rintro i ⟨hi,he⟩
  by_cases h1:i < fr.length
  ·have h1':decide ((i:Int) < (fr.length:Int))=true:=dT (by omega)
   have hxi:=map_at TFrame.enc fr i h1
   have hw:IntKind.i64.wrap ((i:Int) + 1)=((i + 1:Nat):Int):=by rw [w64]<;>omega
   have hs:=all_succ isFrame fr i h1
   have hn:=fun h=>all_not isFrame fr i h1 h
   generalize fr[i]=f at *
   have hF:=impl_IsFrame f.kind f.stream f.offset f.data f.fin f.code f.limit f.final f.uni
   change PureCall _ _ _ [.one (.bool (isFrame f))] at hF
   simp only [go_sem,lM,h1',hxi,TFrame.enc,tN]
   refine ⟨⟨by omega,by omega⟩,?_⟩
   refine CallS.inl (inl_ev (n:=6) (rs:=[.tmp 2]) Tryz.func81 rfl Tryz.call81 Tryz.checked.mixed rfl rfl ?_)
   simp only [go_sem]
   refine CallS.intro hF ?_
   cases hb:isFrame f with
   |true=>
    simp only [go_sem,hw,Bool.not_true]
    refine RoundE.intro (i + 1) [0] ⟨by omega,by rw [hs,he,hb];rfl⟩ (by omega) ?_
    simp only [go_sem];simp [hx]
   |false=>
    have:=hn hb
    simp only [go_sem,Bool.not_false]
    have h0:decide ((0:Int)≤(i:Int))=true:=dT (by omega)
    exact fin _ _ (by simp [this])
  ·have h1':decide ((i:Int) < (fr.length:Int))=false:=dF (by omega)
   obtain rfl:i=fr.length:=by omega
   rw [tL] at he
   simp only [go_sem,h1']
   exact fin _ _ (by simp [he])
set_option maxRecDepth 100000
theorem len26 {S:List Bool} (h:S.length=26):∃ a0 a1 a2 a3 a4 a5 a6 a7 a8 a9 a10 a11 a12 a13 a14 a15 a16 a17 a18 a19 a20 a21 a22 a23 a24 a25,S=[a0,a1,a2,a3,a4,a5,a6,a7,a8,a9,a10,a11,a12,a13,a14,a15,a16,a17,a18,a19,a20,a21,a22,a23,a24,a25]:=by
 match S,h with|[a0,a1,a2,a3,a4,a5,a6,a7,a8,a9,a10,a11,a12,a13,a14,a15,a16,a17,a18,a19,a20,a21,a22,a23,a24,a25],_=>exact ⟨a0,a1,a2,a3,a4,a5,a6,a7,a8,a9,a10,a11,a12,a13,a14,a15,a16,a17,a18,a19,a20,a21,a22,a23,a24,a25,rfl⟩
def stPkA (l:List TPacket) (n:Int) (i _j:Nat) (p _q:TPacket) (_w:Bool) (S:List Bool):St:=⟨[.d (.sl 2 (l.map TPacket.enc)),.d (.int .i64 n),.junk,.junk,.d (.bool false),.d (.int .i64 i),.ptr 0 0 0,.d (.sl 2 (l.map TPacket.enc)),.d (.int .i64 l.length),.d (.int .i64 i),.d (.bool true),.d (.int .i64 i),.rp [.int .i64 p.number,.sl 9 (p.frames.map TFrame.enc)] 0,.agg [.d (.int .i64 p.number),.d (.sl 9 (p.frames.map TFrame.enc))],(bif S.getD 0 false then .ptr 0 0 0 else .junk),(bif S.getD 1 false then .d (.int .i64 p.number) else .junk),(bif S.getD 2 false then .d (.int .i64 n) else .junk),(bif S.getD 3 false then .d (.int .i64 (IntKind.i64.wrap (n - 1))) else .junk),(bif S.getD 4 false then .d (.bool false) else .junk),(bif S.getD 5 false then .d (.bool true) else .junk),(bif S.getD 6 false then .d (.bool true) else .junk),(bif S.getD 7 false then .gd false (.d (.bool false)) else .junk),(bif S.getD 8 false then .gd false (.d (.bool false)) else .junk),(bif S.getD 9 false then .gd false (.d (.bool false)) else .junk),(bif S.getD 10 false then .gd false (.d (.bool false)) else .junk),(bif S.getD 11 false then .gd false (.d (.bool false)) else .junk),(bif S.getD 12 false then .gd false (.d (.bool false)) else .junk),(bif S.getD 13 false then .gd false (.d (.bool false)) else .junk),(bif S.getD 14 false then .gd false (.d (.bool false)) else .junk),(bif S.getD 15 false then .gd false (.d (.bool false)) else .junk),(bif S.getD 16 false then .gd false (.d (.bool false)) else .junk),(bif S.getD 17 false then .gd false (.d (.bool false)) else .junk),(bif S.getD 18 false then .gd false (.d (.bool false)) else .junk),(bif S.getD 19 false then .gd false (.d (.bool false)) else .junk),(bif S.getD 20 false then .d (.bool true) else .junk),(bif S.getD 21 false then .d (.bool true) else .junk),(bif S.getD 22 false then .gd false (.d (.bool false)) else .junk),(bif S.getD 23 false then .gd false (.d (.bool false)) else .junk),(bif S.getD 24 false then .gd false (.d (.bool false)) else .junk),(bif S.getD 25 false then .d (.bool true) else .junk),.junk],[.box [.d (.int .i64 p.number),.d (.sl 9 (p.frames.map TFrame.enc))]]⟩
def stPkB (l:List TPacket) (n:Int) (i _j:Nat) (p _q:TPacket) (w:Bool) (S:List Bool):St:=⟨[.d (.sl 2 (l.map TPacket.enc)),.d (.int .i64 n),.junk,.junk,.d (.bool false),.d (.int .i64 i),.ptr 0 0 0,.d (.sl 2 (l.map TPacket.enc)),.d (.int .i64 l.length),.d (.int .i64 i),.d (.bool true),.d (.int .i64 i),.rp [.int .i64 p.number,.sl 9 (p.frames.map TFrame.enc)] 0,.agg [.d (.int .i64 p.number),.d (.sl 9 (p.frames.map TFrame.enc))],(bif S.getD 0 false then .ptr 0 0 0 else .junk),(bif S.getD 1 false then .d (.int .i64 p.number) else .junk),(bif S.getD 2 false then .d (.int .i64 n) else .junk),(bif S.getD 3 false then .d (.int .i64 (IntKind.i64.wrap (n - 1))) else .junk),(bif S.getD 4 false then .d (.bool true) else .junk),(bif S.getD 5 false then .d (.bool false) else .junk),(bif S.getD 6 false then .d (.bool false) else .junk),(bif S.getD 7 false then .d (.int .i64 i) else .junk),(bif S.getD 8 false then .d (.bool false) else .junk),(bif S.getD 9 false then .d (.bool false) else .junk),(bif S.getD 10 false then .gd false (.d (.bool false)) else .junk),(bif S.getD 11 false then .gd false (.d (.bool false)) else .junk),(bif S.getD 12 false then .gd false (.d (.bool false)) else .junk),(bif S.getD 13 false then .gd false (.d (.bool false)) else .junk),(bif S.getD 14 false then .gd false (.d (.bool false)) else .junk),(bif S.getD 15 false then .gd false (.d (.bool false)) else .junk),(bif S.getD 16 false then .gd false (.d (.bool false)) else .junk),(bif S.getD 17 false then .gd false (.d (.bool false)) else .junk),(bif S.getD 18 false then .gd false (.d (.bool false)) else .junk),(bif S.getD 19 false then .d (.bool false) else .junk),(bif S.getD 20 false then .d (.bool false) else .junk),(bif S.getD 21 false then .d (.bool false) else .junk),(bif S.getD 22 false then .ptr 0 0 1 else .junk),(bif S.getD 23 false then .d (.sl 9 (p.frames.map TFrame.enc)) else .junk),(bif S.getD 24 false then .d (.bool w) else .junk),(bif S.getD 25 false then .d (.bool w) else .junk),.junk],[.box [.d (.int .i64 p.number),.d (.sl 9 (p.frames.map TFrame.enc))]]⟩
def stPkC (l:List TPacket) (n:Int) (i j:Nat) (p q:TPacket) (_w:Bool) (S:List Bool):St:=⟨[.d (.sl 2 (l.map TPacket.enc)),.d (.int .i64 n),.junk,.junk,.d (.bool false),.d (.int .i64 i),.ptr 0 0 0,.d (.sl 2 (l.map TPacket.enc)),.d (.int .i64 l.length),.d (.int .i64 i),.d (.bool true),.d (.int .i64 i),.rp [.int .i64 p.number,.sl 9 (p.frames.map TFrame.enc)] 0,.agg [.d (.int .i64 p.number),.d (.sl 9 (p.frames.map TFrame.enc))],(bif S.getD 0 false then .ptr 0 0 0 else .junk),(bif S.getD 1 false then .d (.int .i64 p.number) else .junk),(bif S.getD 2 false then .d (.int .i64 n) else .junk),(bif S.getD 3 false then .d (.int .i64 (IntKind.i64.wrap (n - 1))) else .junk),(bif S.getD 4 false then .d (.bool true) else .junk),(bif S.getD 5 false then .d (.bool false) else .junk),(bif S.getD 6 false then .d (.bool false) else .junk),(bif S.getD 7 false then .d (.int .i64 i) else .junk),(bif S.getD 8 false then .d (.bool true) else .junk),(bif S.getD 9 false then .d (.bool true) else .junk),(bif S.getD 10 false then .d (.sl 2 (l.map TPacket.enc)) else .junk),(bif S.getD 11 false then .d (.int .i64 i) else .junk),(bif S.getD 12 false then .d (.int .i64 j) else .junk),(bif S.getD 13 false then .rp [.int .i64 q.number,.sl 9 (q.frames.map TFrame.enc)] 0 else .junk),(bif S.getD 14 false then .rp [.int .i64 q.number,.sl 9 (q.frames.map TFrame.enc)] 0 else .junk),(bif S.getD 15 false then .d (.int .i64 q.number) else .junk),(bif S.getD 16 false then .ptr 0 0 0 else .junk),(bif S.getD 17 false then .d (.int .i64 p.number) else .junk),(bif S.getD 18 false then .d (.bool true) else .junk),(bif S.getD 19 false then .d (.bool true) else .junk),(bif S.getD 20 false then .d (.bool true) else .junk),(bif S.getD 21 false then .d (.bool true) else .junk),(bif S.getD 22 false then .gd false (.d (.bool false)) else .junk),(bif S.getD 23 false then .gd false (.d (.bool false)) else .junk),(bif S.getD 24 false then .gd false (.d (.bool false)) else .junk),(bif S.getD 25 false then .d (.bool true) else .junk),.junk],[.box [.d (.int .i64 p.number),.d (.sl 9 (p.frames.map TFrame.enc))]]⟩
def stPkD (l:List TPacket) (n:Int) (i j:Nat) (p q:TPacket) (w:Bool) (S:List Bool):St:=⟨[.d (.sl 2 (l.map TPacket.enc)),.d (.int .i64 n),.junk,.junk,.d (.bool false),.d (.int .i64 i),.ptr 0 0 0,.d (.sl 2 (l.map TPacket.enc)),.d (.int .i64 l.length),.d (.int .i64 i),.d (.bool true),.d (.int .i64 i),.rp [.int .i64 p.number,.sl 9 (p.frames.map TFrame.enc)] 0,.agg [.d (.int .i64 p.number),.d (.sl 9 (p.frames.map TFrame.enc))],(bif S.getD 0 false then .ptr 0 0 0 else .junk),(bif S.getD 1 false then .d (.int .i64 p.number) else .junk),(bif S.getD 2 false then .d (.int .i64 n) else .junk),(bif S.getD 3 false then .d (.int .i64 (IntKind.i64.wrap (n - 1))) else .junk),(bif S.getD 4 false then .d (.bool true) else .junk),(bif S.getD 5 false then .d (.bool false) else .junk),(bif S.getD 6 false then .d (.bool false) else .junk),(bif S.getD 7 false then .d (.int .i64 i) else .junk),(bif S.getD 8 false then .d (.bool true) else .junk),(bif S.getD 9 false then .d (.bool true) else .junk),(bif S.getD 10 false then .d (.sl 2 (l.map TPacket.enc)) else .junk),(bif S.getD 11 false then .d (.int .i64 i) else .junk),(bif S.getD 12 false then .d (.int .i64 j) else .junk),(bif S.getD 13 false then .rp [.int .i64 q.number,.sl 9 (q.frames.map TFrame.enc)] 0 else .junk),(bif S.getD 14 false then .rp [.int .i64 q.number,.sl 9 (q.frames.map TFrame.enc)] 0 else .junk),(bif S.getD 15 false then .d (.int .i64 q.number) else .junk),(bif S.getD 16 false then .ptr 0 0 0 else .junk),(bif S.getD 17 false then .d (.int .i64 p.number) else .junk),(bif S.getD 18 false then .d (.bool false) else .junk),(bif S.getD 19 false then .d (.bool false) else .junk),(bif S.getD 20 false then .d (.bool false) else .junk),(bif S.getD 21 false then .d (.bool false) else .junk),(bif S.getD 22 false then .ptr 0 0 1 else .junk),(bif S.getD 23 false then .d (.sl 9 (p.frames.map TFrame.enc)) else .junk),(bif S.getD 24 false then .d (.bool w) else .junk),(bif S.getD 25 false then .d (.bool w) else .junk),.junk],[.box [.d (.int .i64 p.number),.d (.sl 9 (p.frames.map TFrame.enc))]]⟩
set_option maxHeartbeats 8000000 in
theorem impl_arePackets (l:List TPacket) (n:Int) (hz:∀ p ∈ l,SzP p) (hl:l.length≤30):PureCall Tryz.prog 48 [.one (.sl 2 (l.map TPacket.enc)),.one (.int .i64 n)] [.one (.bool (arePk n l))]:=by
 refine pureT 41 Tryz.func48 Tryz.call48 [.tmp 4] ?_
 intro ok
 clear ok
 simp only [go_sem,lM]
 refine LoopK.intro (fun i:Nat=>⟨(.d (.sl 2 (l.map TPacket.enc))::.d (.int .i64 n)::.junk::.junk::.d (.bool false)::.junk::.junk::.d (.sl 2 (l.map TPacket.enc))::.d (.int .i64 l.length)::.d (.int .i64 i)::jn 31 []),[]⟩)
   (fun i=>l.length - i) (fun i=>i≤l.length∧allN (pkB n l) i=true) 0 [] ⟨by omega,by simp [allN]⟩ ?_ ?_
 ·simp only [go_sem];simp
 ·rintro i ⟨hi,he⟩
  by_cases h1:i < l.length
  ·have h1':decide ((i:Int) < (l.length:Int))=true:=dT (by omega)
   have hxi:=map_at TPacket.enc l i h1
   have hpz:=(hz _ (List.getElem_mem h1)).1
   have hs:=allN_succ (pkB n l) i
   have hf:pkB n l i=false→arePk n l=false:=fun h=>allN_false (pkB n l) h1 h
   have hwr:IntKind.i64.wrap ((i:Int) + 1)=((i + 1:Nat):Int):=by rw [w64]<;>omega
   have hb0:∀ h:i=0,pkB n l i=okPk n l[i]:=by
    intro h;subst h;exact ascB_zero _ _ _ h1
   have hb1:∀ (j:Nat) (h:i=j + 1) (hj:j < l.length),pkB n l i=(okPk n l[i] && decide (l[j].number < l[i].number)):=by
    intro j h hj;subst h;exact ascB_succ _ _ _ _ h1
   have hb2:∀ h:okPk n l[i]=false,pkB n l i=false:=by
    intro h;cases i with
    |zero=>rw [hb0 rfl,h]
    |succ j=>rw [hb1 j rfl (by omega),h];rfl
   generalize l[i]=p at *
   have hW:=impl_within p.number 0 (IntKind.i64.wrap (n - 1))
   cases ha:inB p.number 0 (IntKind.i64.wrap (n - 1)) with
   |false=>
    rw [ha] at hW
    have hp0:pkB n l i=false:=hb2 (by unfold okPk;rw [ha];rfl)
    simp only [go_sem,lM,h1',hxi,TPacket.enc,tN]
    refine ⟨⟨by omega,by omega⟩,?_⟩
    refine drawX_cut _ (exE_sym (fun S σ=>σ=stPkA l n i 0 p p false S) (N:=26) rfl rfl rfl ?_) ?_
    ·repeat' (first|exact symE_nil|refine symE_cons ?_ ?_)
     all_goals (
      rintro S σ F hl hS hp hcl rfl hF
      obtain ⟨s0,s1,s2,s3,s4,s5,s6,s7,s8,s9,s10,s11,s12,s13,s14,s15,s16,s17,s18,s19,s20,s21,s22,s23,s24,s25,rfl⟩:=len26 hl
      simp only [List.getElem?_cons_succ,List.getElem?_cons_zero,Option.some.injEq] at hS
      subst hS
      simp [predsE,Region.binds] at hp
      repeat (obtain ⟨hp0,hp⟩:=hp;subst hp0)
      try subst hp
      simp only [stPkA,List.getD_cons_succ,List.getD_cons_zero,cond_true,cond_false]
      repeat' (first
        |exact hF _ rfl
        |(refine gTrueS ?_)
        |(refine gFalseS ?_)
        |(refine CallS.intro hW ?_)
        |simp only [go_sem]))
    rintro _ rfl
    simp only [stPkA,List.replicate,List.getD_cons_succ,List.getD_cons_zero,cond_true]
    simp only [go_sem]
    simp [hf hp0]
   |true=>
    rw [ha] at hW
    cases i with
    |zero=>
     have h2:decide ((0:Int) < ((0:Nat):Int))=false:=by decide
     simp only [go_sem,lM,h1',hxi,TPacket.enc,tN]
     refine ⟨⟨by omega,by omega⟩,?_⟩
     refine drawX_cut _ (exE_sym (fun S σ=>σ=stPkB l n 0 0 p p (!p.frames.all isFrame) S) (N:=26) rfl rfl rfl ?_) ?_
     ·repeat' (first|exact symE_nil|refine symE_cons ?_ ?_)
      all_goals (
       rintro S σ F hl hS hp hcl rfl hF
       obtain ⟨s0,s1,s2,s3,s4,s5,s6,s7,s8,s9,s10,s11,s12,s13,s14,s15,s16,s17,s18,s19,s20,s21,s22,s23,s24,s25,rfl⟩:=len26 hl
       simp only [List.getElem?_cons_succ,List.getElem?_cons_zero,Option.some.injEq] at hS
       subst hS
       simp [predsE,Region.binds] at hp
       repeat (obtain ⟨hp0,hp⟩:=hp;subst hp0)
       try subst hp
       simp only [stPkB,List.getD_cons_succ,List.getD_cons_zero,cond_true,cond_false]
       repeat' (first
         |exact hF _ rfl
         |(refine gTrueS ?_)
         |(refine gFalseS ?_)
         |(refine CallS.intro hW ?_)
         |(refine CallS.inl (notFr_inl p.frames hpz p.number _ (by simp [voks,vok,vok_bif]) _ ?_))
         |simp only [go_sem,h2]))
     rintro _ rfl
     simp only [stPkB,List.replicate,List.getD_cons_succ,List.getD_cons_zero,cond_true]
     cases hw:p.frames.all isFrame with
     |false=>
      have hp0:pkB n l 0=false:=by rw [hb0 rfl];unfold okPk;rw [ha,hw];rfl
      simp only [go_sem,Bool.not_false]
      simp [hf hp0]
     |true=>
      have hp0:pkB n l 0=true:=by rw [hb0 rfl];unfold okPk;rw [ha,hw];rfl
      simp only [go_sem,Bool.not_true,hwr]
      refine RoundE.intro 1 [] ⟨by omega,by rw [hs,he,hp0];rfl⟩ (by omega) ?_
      simp only [go_sem];try simp
    |succ j=>
     have hxj:=map_at TPacket.enc l j (by omega)
     have h2:decide ((0:Int) < ((j + 1:Nat):Int))=true:=dT (by omega)
     have hp:IntKind.i64.wrap (((j + 1:Nat):Int) - 1)=(j:Int):=by rw [w64]<;>omega
     have hb:=hb1 j rfl (by omega)
     generalize l[j]=q at *
     cases hc:decide (q.number < p.number) with
     |false=>
      have hd:decide (p.number≤q.number)=true:=by simp at hc ⊢;omega
      have hd':decide (q.number ≥ p.number)=true:=hd
      have hp0:pkB n l (j + 1)=false:=by rw [hb,hc];simp
      simp only [go_sem,lM,h1',hxi,TPacket.enc,tN]
      refine ⟨⟨by omega,by omega⟩,?_⟩
      refine drawX_cut _ (exE_sym (fun S σ=>σ=stPkC l n (j + 1) j p q false S) (N:=26) rfl rfl rfl ?_) ?_
      ·repeat' (first|exact symE_nil|refine symE_cons ?_ ?_)
       all_goals (
        rintro S σ F hl hS hp hcl rfl hF
        obtain ⟨s0,s1,s2,s3,s4,s5,s6,s7,s8,s9,s10,s11,s12,s13,s14,s15,s16,s17,s18,s19,s20,s21,s22,s23,s24,s25,rfl⟩:=len26 hl
        simp only [List.getElem?_cons_succ,List.getElem?_cons_zero,Option.some.injEq] at hS
        subst hS
        simp [predsE,Region.binds] at hp
        repeat (obtain ⟨hp0,hp⟩:=hp;subst hp0)
        try subst hp
        simp only [stPkC,List.getD_cons_succ,List.getD_cons_zero,cond_true,cond_false]
        repeat' (first
          |exact hF _ rfl
          |(refine gTrueS ?_)
          |(refine gFalseS ?_)
          |(refine CallS.intro hW ?_)
          |(refine ⟨⟨by omega,by omega⟩,?_⟩)
          |simp only [go_sem,lM,Bool.not_true,h2,hp,hxj,TPacket.enc,tN,hd]))
      rintro _ rfl
      simp only [stPkC,List.replicate,List.getD_cons_succ,List.getD_cons_zero,cond_true]
      simp only [go_sem]
      simp [hf hp0]
     |true=>
      have hd:decide (p.number≤q.number)=false:=by simp at hc ⊢;omega
      have hd':decide (q.number ≥ p.number)=false:=hd
      simp only [go_sem,lM,h1',hxi,TPacket.enc,tN]
      refine ⟨⟨by omega,by omega⟩,?_⟩
      refine drawX_cut _ (exE_sym (fun S σ=>σ=stPkD l n (j + 1) j p q (!p.frames.all isFrame) S) (N:=26) rfl rfl rfl ?_) ?_
      ·repeat' (first|exact symE_nil|refine symE_cons ?_ ?_)
       all_goals (
        rintro S σ F hl hS hp hcl rfl hF
        obtain ⟨s0,s1,s2,s3,s4,s5,s6,s7,s8,s9,s10,s11,s12,s13,s14,s15,s16,s17,s18,s19,s20,s21,s22,s23,s24,s25,rfl⟩:=len26 hl
        simp only [List.getElem?_cons_succ,List.getElem?_cons_zero,Option.some.injEq] at hS
        subst hS
        simp [predsE,Region.binds] at hp
        repeat (obtain ⟨hp0,hp⟩:=hp;subst hp0)
        try subst hp
        simp only [stPkD,List.getD_cons_succ,List.getD_cons_zero,cond_true,cond_false]
        repeat' (first
          |exact hF _ rfl
          |(refine gTrueS ?_)
          |(refine gFalseS ?_)
          |(refine CallS.intro hW ?_)
          |(refine ⟨⟨by omega,by omega⟩,?_⟩)
          |(refine CallS.inl (notFr_inl p.frames hpz p.number _ (by simp [voks,vok,vok_bif]) _ ?_))
          |simp only [go_sem,lM,h2,hp,hxj,TPacket.enc,tN,hd]))
      rintro _ rfl
      simp only [stPkD,List.replicate,List.getD_cons_succ,List.getD_cons_zero,cond_true]
      cases hw:p.frames.all isFrame with
      |false=>
       have hp0:pkB n l (j + 1)=false:=by rw [hb];unfold okPk;rw [ha,hw];rfl
       simp only [go_sem,Bool.not_false]
       simp [hf hp0]
      |true=>
       have hp0:pkB n l (j + 1)=true:=by rw [hb];unfold okPk;rw [ha,hw,hc];rfl
       simp only [go_sem,Bool.not_true,hwr]
       refine RoundE.intro (j + 1 + 1) [] ⟨by omega,by rw [hs,he,hp0];rfl⟩ (by omega) ?_
       simp only [go_sem];try simp
  ·have h1':decide ((i:Int) < (l.length:Int))=false:=dF (by omega)
   obtain rfl:i=l.length:=by omega
   have hP:arePk n l=true:=he
   simp only [go_sem,h1']
   simp [hP]
set_option maxRecDepth 100000
set_option maxHeartbeats 2000000 in
theorem impl_SentTotal (l:List TStream) (hz:∀ x ∈ l,SzS x):PureCall Tryz.prog 20 [.one (.sl 39 (l.map TStream.enc))] [.one (.int .i64 (totF isStmI sentOf l))]:=by
 refine pureT 5 Tryz.func20 Tryz.call20 [.tmp 2] ?_
 intro ok
 have hm:=len_of ok
 clear ok
 simp only [go_sem]
 refine CallS.inl (inl_ev (n:=25) (rs:=[.tmp 4]) Tryz.func49 rfl Tryz.call49 Tryz.checked.mixed rfl rfl ?_)
 simp only [go_sem]
 cases hA:areStr isStmI l with
 |false=>
  have hE:=totF_false (f:=sentOf) hA
  try simp only [go_sem,lM,hA]
  repeat' (refine CallS.intro (by (apply impl_AreStreams<;>first|assumption|omega)) ?_<;>simp only [go_sem,hA])
  all_goals simp [hE]
 |true=>
  have hE:=totF_true (f:=sentOf) hA
  try simp only [go_sem,lM,hA]
  repeat' (refine CallS.intro (by (apply impl_AreStreams<;>first|assumption|omega)) ?_<;>simp only [go_sem,lM,hA])
  refine LoopK.intro (fun i:Nat=>⟨(.junk::.fn 50 []::jn 3 (.d (.int .i64 ((l.take i).foldl (totStep sentOf) 0))::jn 5 (.d (.sl 39 (l.map TStream.enc))::.d (.int .i64 l.length)::.d (.int .i64 i)::jn 11 []))),[]⟩)
   (fun i=>l.length - i) (fun i=>i≤l.length) 0 [] (by omega) ?_ ?_
  ·simp only [go_sem];simp
  ·intro i hi
   by_cases h1:i < l.length
   ·have h1':decide ((i:Int) < (l.length:Int))=true:=dT (by omega)
    have hxi:=map_at TStream.enc l i h1
    have hw:=inc h1 hm
    have hs:=tot_take sentOf l i h1
    simp only [go_sem,lM,tN,hxi,TStream.enc,h1']
    refine ⟨⟨by omega,by omega⟩,?_⟩
    refine CallS.inl (inl_ev (n:=6) (rs:=[.tmp 2]) Tryz.func50 rfl Tryz.call50 Tryz.checked.mixed rfl rfl ?_)
    simp only [go_sem]
    refine RoundE.intro (i + 1) [] (by omega) (by omega) ?_
    simp only [go_sem,hw,hs];simp [totStep,sentOf];try exact ite_any _ _
   ·have h1':decide ((i:Int) < (l.length:Int))=false:=dF (by omega)
    obtain rfl:i=l.length:=by omega
    simp only [go_sem,h1',tL]
    simp [hE]
set_option maxHeartbeats 2000000 in
theorem impl_SeenTotal (l:List TStream) (hz:∀ x ∈ l,SzS x):PureCall Tryz.prog 23 [.one (.sl 39 (l.map TStream.enc))] [.one (.int .i64 (totF isStmI seenOf l))]:=by
 refine pureT 5 Tryz.func23 Tryz.call23 [.tmp 2] ?_
 intro ok
 have hm:=len_of ok
 clear ok
 simp only [go_sem]
 refine CallS.inl (inl_ev (n:=25) (rs:=[.tmp 4]) Tryz.func49 rfl Tryz.call49 Tryz.checked.mixed rfl rfl ?_)
 simp only [go_sem]
 cases hA:areStr isStmI l with
 |false=>
  have hE:=totF_false (f:=seenOf) hA
  try simp only [go_sem,lM,hA]
  repeat' (refine CallS.intro (by (apply impl_AreStreams<;>first|assumption|omega)) ?_<;>simp only [go_sem,hA])
  all_goals simp [hE]
 |true=>
  have hE:=totF_true (f:=seenOf) hA
  try simp only [go_sem,lM,hA]
  repeat' (refine CallS.intro (by (apply impl_AreStreams<;>first|assumption|omega)) ?_<;>simp only [go_sem,lM,hA])
  refine LoopK.intro (fun i:Nat=>⟨(.junk::.fn 59 []::jn 3 (.d (.int .i64 ((l.take i).foldl (totStep seenOf) 0))::jn 5 (.d (.sl 39 (l.map TStream.enc))::.d (.int .i64 l.length)::.d (.int .i64 i)::jn 11 []))),[]⟩)
   (fun i=>l.length - i) (fun i=>i≤l.length) 0 [] (by omega) ?_ ?_
  ·simp only [go_sem];simp
  ·intro i hi
   by_cases h1:i < l.length
   ·have h1':decide ((i:Int) < (l.length:Int))=true:=dT (by omega)
    have hxi:=map_at TStream.enc l i h1
    have hw:=inc h1 hm
    have hs:=tot_take seenOf l i h1
    simp only [go_sem,lM,tN,hxi,TStream.enc,h1']
    refine ⟨⟨by omega,by omega⟩,?_⟩
    refine CallS.inl (inl_ev (n:=6) (rs:=[.tmp 2]) Tryz.func59 rfl Tryz.call59 Tryz.checked.mixed rfl rfl ?_)
    simp only [go_sem]
    refine RoundE.intro (i + 1) [] (by omega) (by omega) ?_
    simp only [go_sem,hw,hs];simp [totStep,seenOf];try exact ite_any _ _
   ·have h1':decide ((i:Int) < (l.length:Int))=false:=dF (by omega)
    obtain rfl:i=l.length:=by omega
    simp only [go_sem,h1',tL]
    simp [hE]
set_option maxRecDepth 100000
def mxAudS0:List (List Rl):=mxD 12 [531440,531438,531432,521937,521883,521721,531063,529605,525231,511758,472392,354294]
def mxAudS1:List (List Rl):=mxD 15 [11958506,11958504,11958511,11958489,11958435,11958273,11957787,14328130,14323756,14339065,14290951,14172853,13818559,12755677,9565938]
def mxAudS2:List (List Rl):=mxD 19 [1162261466,1162261464,1162261458,1162251963,1162251909,1162251747,1162261089,1162259631,1162255257,1162241784,1162202418,1162084320,1141003827,1161198585,1158009939,1148444001,1119214746,1033121304,774840978]
attribute [go_sem] mxAudS0 mxAudS1 mxAudS2
def crOk (s:TStream):Bool:=!decide (s.credit.used≠s.send.sent)
def audCr (ok:TStream→Bool) (c:TConn):Bool:=isConnW ok c && c.streams.all crOk && decide (totF ok sentOf c.streams=c.total.used)
def wiBad (s:TStream):Bool:=(s.canRecv && decide (s.window.seen≠s.recv.highest)) || decide (s.window.read < s.recv.buffer.next)
def rdStep (n:Int) (s:TStream):Int:=IntKind.i64.wrap (n + s.window.read)
def audWi (ok:TStream→Bool) (c:TConn):Bool:=isConnW ok c && c.streams.all (fun s=>!wiBad s) && decide (totF ok seenOf c.streams=c.inflow.seen) && decide (c.streams.foldl rdStep 0=c.inflow.read)
def carR (f:TFrame):TRange:=⟨f.offset,IntKind.i64.wrap (f.offset + (f.data.length:Int))⟩
def carG (id:Int) (f:TFrame):Bool:=decide (f.kind=8) && decide (f.stream=id) && decide (f.data≠[])
def carF (id:Int) (acc:List TRange) (f:TFrame):List TRange:=if carG id f then addR acc (carR f) else acc
def carP (id:Int) (acc:List TRange) (p:TPacket):List TRange:=p.frames.foldl (carF id) acc
def carried (l:List TPacket) (id:Int):List TRange:=l.foldl (carP id) []
def flBad (l:List TPacket) (s:TStream):Bool:=decide (s.send.state < 4) && !decide (s.send.flight=carried l s.id)
def audFl (ok:TStream→Bool) (c:TConn):Bool:=isConnW ok c && c.streams.all (fun s=>!flBad c.packets s)
theorem carF_len (id:Int) (acc:List TRange) (f:TFrame):(carF id acc f).length≤acc.length + 1:=by
 unfold carF;split
 ·exact addR_len _ _
 ·omega
theorem carFs_len (id:Int):∀ (l:List TFrame) (acc:List TRange),(l.foldl (carF id) acc).length≤acc.length + l.length
 |[],acc=>by simp
 |f::l,acc=>by
  have h1:=carFs_len id l (carF id acc f)
  have h2:=carF_len id acc f
  rw [List.foldl_cons,List.length_cons];omega
theorem carP_len {id:Int}:∀ (l:List TPacket) (acc:List TRange),(∀ p ∈ l,SzP p)→(l.foldl (carP id) acc).length≤acc.length + 500 * l.length
 |[],acc,_=>by simp
 |p::l,acc,h=>by
  have h1:=carP_len (id:=id) l (carP id acc p) fun q hq=>h q (by simp [hq])
  have h2:(carP id acc p).length≤acc.length + p.frames.length:=carFs_len id p.frames acc
  have h3:=(h p (by simp)).1
  rw [List.foldl_cons,List.length_cons]
  omega
set_option maxHeartbeats 4000000 in
theorem spec_AuditCredits (c:TConn) (hz:SzC c):PureCall Tryz.prog 7 [.agg (TConn.enc c)] [.one (.bool (audCr isStmS c))]:=by
 refine pureT 41 Tryz.func7 Tryz.call7 [.tmp 2] ?_
 intro ok
 clear ok
 have hz1:=hz.1
 have hz2:=hz.2.1
 have hE:audCr isStmS c=(isConnS c && c.streams.all crOk && decide (totF isStmS sentOf c.streams=c.total.used)):=rfl
 simp only [go_sem]
 cases hI:isConnS c with
 |false=>
  refine LoopK.intro (fun _:Unit=>⟨(.junk::.ptr 0 0 0::.junk::.d (.int .i64 0)::jn 37 []),[.box (TConn.ve c)]⟩) (fun _=>0) (fun _=>True) () [0] trivial ?_ ?_
  ·simp only [go_sem];simp
  ·rintro _ _
   try simp only [go_sem,lM]
   repeat' ((first|refine CallK.intro (by (apply spec_IsConn<;>first|assumption|omega)) ?_|with_reducible refine gFalse ?_|refine gSymS ?_|refine drawE_intro mxAudS0 (by kernel_rfl) (by rfl) ?_)<;>simp only [go_sem,hI,Bool.cond_self])
   simp [hE,hI]
 |true=>
  refine LoopK.intro (fun i:Nat=>⟨(.junk::.ptr 0 0 0::.junk::.d (.int .i64 i)::jn 37 []),[.box (TConn.ve c)]⟩) (fun i=>c.streams.length - i) (fun i=>i≤c.streams.length∧(c.streams.take i).all crOk=true) 0 [0] ⟨by omega,by simp⟩ ?_ ?_
  ·simp only [go_sem];simp
  ·rintro i ⟨hi,he⟩
   by_cases h1:i < c.streams.length
   ·have h1':decide ((i:Int) < (c.streams.length:Int))=true:=dT (by omega)
    have hxi:=map_at TStream.enc c.streams i h1
    have hw:IntKind.i64.wrap ((i:Int) + 1)=((i + 1:Nat):Int):=by rw [w64]<;>omega
    have hs:=all_succ crOk c.streams i h1
    have hn:=fun h=>all_not crOk c.streams i h1 h
    generalize c.streams[i]=s at *
    try simp only [go_sem,lM,h1']
    repeat' (first|((first|refine CallS.intro (by (apply spec_IsConn<;>first|assumption|omega)) ?_|with_reducible refine gTrueS ?_|refine drawE_intro mxAudS1 (by kernel_rfl) (by rfl) ?_)<;>simp only [go_sem,lM,tN,hxi,TStream.enc,hI])|(with_reducible refine sideI ?_)|fail)
    cases hb:decide (s.credit.used≠s.send.sent) with
    |true=>
     have:=hn (by unfold crOk;rw [hb];rfl)
     simp only [go_sem]
     simp [hE,this]
    |false=>
     simp only [go_sem]
     refine RoundE.intro (i + 1) [0] ⟨by omega,by rw [hs,he];unfold crOk;rw [hb];rfl⟩ (by omega) ?_
     simp only [go_sem,hw];simp
   ·have h1':decide ((i:Int) < (c.streams.length:Int))=false:=dF (by omega)
    obtain rfl:i=c.streams.length:=by omega
    rw [tL] at he
    try simp only [go_sem,lM,h1']
    repeat' ((first|refine CallK.intro (by first|(apply spec_IsConn<;>first|assumption|omega)|(apply spec_SentTotal<;>first|assumption|omega)) ?_|with_reducible refine gFalseS ?_|with_reducible refine gTrue ?_|refine drawE_intro mxAudS0 (by kernel_rfl) (by rfl) ?_)<;>simp only [go_sem,hI])
    simp [hE,hI,he]
set_option maxHeartbeats 4000000 in
theorem spec_AuditWindows (c:TConn) (hz:SzC c):PureCall Tryz.prog 9 [.agg (TConn.enc c)] [.one (.bool (audWi isStmS c))]:=by
 refine pureT 66 Tryz.func9 Tryz.call9 [.tmp 2] ?_
 intro ok
 clear ok
 have hz1:=hz.1
 have hz2:=hz.2.1
 have hE:audWi isStmS c=(isConnS c && c.streams.all (fun s=>!wiBad s) && decide (totF isStmS seenOf c.streams=c.inflow.seen) && decide (c.streams.foldl rdStep 0=c.inflow.read)):=rfl
 simp only [go_sem]
 cases hI:isConnS c with
 |false=>
  refine LoopK.intro (fun _:Unit=>⟨(.junk::.ptr 0 0 0::.junk::.d (.int .i64 0)::.d (.int .i64 0)::jn 61 []),[.box (TConn.ve c)]⟩) (fun _=>0) (fun _=>True) () [0] trivial ?_ ?_
  ·simp only [go_sem];simp
  ·rintro _ _
   try simp only [go_sem,lM]
   repeat' ((first|refine CallK.intro (by (apply spec_IsConn<;>first|assumption|omega)) ?_|with_reducible refine gFalse ?_|refine gSymS ?_|refine drawE_intro mxAudS2 (by kernel_rfl) (by rfl) ?_)<;>simp only [go_sem,hI,Bool.cond_self])
   simp [hE,hI]
 |true=>
  refine LoopK.intro (fun i:Nat=>⟨(.junk::.ptr 0 0 0::.junk::.d (.int .i64 ((c.streams.take i).foldl rdStep 0))::.d (.int .i64 i)::jn 61 []),[.box (TConn.ve c)]⟩) (fun i=>c.streams.length - i) (fun i=>i≤c.streams.length∧(c.streams.take i).all (fun s=>!wiBad s)=true) 0 [0] ⟨by omega,by simp⟩ ?_ ?_
  ·simp only [go_sem];simp
  ·rintro i ⟨hi,he⟩
   by_cases h1:i < c.streams.length
   ·have h1':decide ((i:Int) < (c.streams.length:Int))=true:=dT (by omega)
    have hxi:=map_at TStream.enc c.streams i h1
    have hw:IntKind.i64.wrap ((i:Int) + 1)=((i + 1:Nat):Int):=by rw [w64]<;>omega
    have hs:=all_succ (fun s=>!wiBad s) c.streams i h1
    have hn:=fun h=>all_not (fun s=>!wiBad s) c.streams i h1 h
    have hf:(c.streams.take (i + 1)).foldl rdStep 0=IntKind.i64.wrap ((c.streams.take i).foldl rdStep 0 + c.streams[i].window.read):=by
     rw [List.take_add_one,gE h1,List.foldl_append];rfl
    generalize (c.streams.take i).foldl rdStep 0=r at *
    generalize c.streams[i]=s at *
    have hg:(bif bif s.canRecv then decide (s.window.seen≠s.recv.highest) else false then true else decide (s.window.read < s.recv.buffer.next))=wiBad s:=by unfold wiBad;cases s.canRecv<;>cases decide (s.window.seen≠s.recv.highest)<;>rfl
    try simp only [go_sem,lM,h1']
    repeat' (first|((first|refine CallS.intro (by (apply spec_IsConn<;>first|assumption|omega)) ?_|with_reducible refine gTrueS ?_|refine gSymS ?_)<;>simp only [go_sem,lM,tN,hxi,TStream.enc,hI])|(with_reducible refine sideI ?_)|fail)
    rw [hg]
    cases hb:wiBad s with
    |true=>
     have:=hn (by rw [hb];rfl)
     simp only [go_sem]
     simp [hE,this]
    |false=>
     simp only [go_sem]
     refine RoundE.intro (i + 1) [0] ⟨by omega,by rw [hs,he,hb];rfl⟩ (by omega) ?_
     simp only [go_sem,hw,hf];simp
   ·have h1':decide ((i:Int) < (c.streams.length:Int))=false:=dF (by omega)
    obtain rfl:i=c.streams.length:=by omega
    rw [tL] at he
    try simp only [go_sem,lM,h1',tL]
    repeat' ((first|refine CallK.intro (by first|(apply spec_IsConn<;>first|assumption|omega)|(apply spec_SeenTotal<;>first|assumption|omega)) ?_|with_reducible refine gFalseS ?_|with_reducible refine gTrue ?_|refine gSym ?_|refine drawE_intro mxAudS2 (by kernel_rfl) (by rfl) ?_)<;>simp only [go_sem,hI])
    refine one_bool ?_
    simp [hE,hI,he]
set_option maxRecDepth 100000
def mxAudF0:List (List Rl):=mxD 15 [14348906,14348904,14348898,14348880,14348826,14086224,14085738,14084280,14266773,14338944,14299578,14174919,13817466,12754584,9565938]
attribute [go_sem] mxAudF0
theorem carP_take (id:Int) (p:TPacket) (acc:List TRange) (k:Nat) (h:k < p.frames.length):(p.frames.take (k + 1)).foldl (carF id) acc=carF id ((p.frames.take k).foldl (carF id) acc) p.frames[k]:=by
 rw [List.take_add_one,gE h,List.foldl_append];rfl
theorem carried_take (id:Int) (l:List TPacket) (i:Nat) (h:i < l.length):(l.take (i + 1)).foldl (carP id) []=carP id ((l.take i).foldl (carP id) []) l[i]:=by
 rw [List.take_add_one,gE h,List.foldl_append];rfl
theorem carG_bool (id:Int) (f:TFrame):(bif bif decide (f.kind=8) then decide (f.stream=id) else false then decide (f.data≠[]) else false)=carG id f:=by
 unfold carG;simp only [bif_and]
set_option maxHeartbeats 4000000 in
theorem spec_l24Carried (c:TConn) (id:Int) (hz:SzC c):PureCall Tryz.prog 28 [.agg (TConn.enc c),.one (.int .i64 id)] [.one (.sl 2 ((carried c.packets id).map TRange.enc))]:=by
 refine pureT 63 Tryz.func28 Tryz.call28 [.tmp 4] ?_
 intro ok
 clear ok
 obtain ⟨-,-,hz3,hz4⟩:=hz
 have hE:carried c.packets id=c.packets.foldl (carP id) []:=rfl
 simp only [go_sem]
 refine LoopK.intro (α:=Nat×List TRange) (fun y=>⟨(.junk::.d (.int .i64 id)::.ptr 0 0 0::.junk::.junk::.sl 1 0 y.2.length::.d (.int .i64 y.1)::jn 56 []),[.box (TConn.ve c),.arr 2 (y.2.map TRange.enc) true]⟩)
  (fun y=>c.packets.length - y.1) (fun y=>y.1≤c.packets.length∧y.2=(c.packets.take y.1).foldl (carP id) []) (0,[]) [0,1] ⟨by simp,by simp⟩ ?_ ?_
 ·simp only [go_sem];simp
 ·rintro ⟨i,ys⟩ ⟨hi,hy⟩
  simp only at hi hy
  by_cases h1:i < c.packets.length
  ·have h1':decide ((i:Int) < (c.packets.length:Int))=true:=dT (by omega)
   have hxi:=map_at TPacket.enc c.packets i h1
   have hw:IntKind.i64.wrap ((i:Int) + 1)=((i + 1:Nat):Int):=by rw [w64]<;>omega
   have hst:=carried_take id c.packets i h1
   rw [← hy] at hst
   have hzp:=hz4 _ (List.getElem_mem h1)
   have hL0:ys.length≤500 * i:=by
    rw [hy]
    have:=carP_len (id:=id) (c.packets.take i) [] fun p hp=>hz4 p (List.mem_of_mem_take hp)
    have hT:(c.packets.take i).length=i:=by simp;omega
    simp only [hT,List.length_nil] at this
    omega
   generalize c.packets[i]=p at *
   have hzf:=hzp.1
   rw [show carP id ys p=p.frames.foldl (carF id) ys from rfl] at hst
   try simp only [go_sem,lM,h1']
   refine LoopK.intro (α:=Nat×List TRange) (fun y=>⟨(.junk::.d (.int .i64 id)::.ptr 0 0 0::.junk::.junk::.sl 1 0 y.2.length::.d (.int .i64 i)::.d (.int .i64 y.1)::jn 55 []),[.box (TConn.ve c),.arr 2 (y.2.map TRange.enc) true]⟩)
    (fun y=>p.frames.length - y.1) (fun y=>y.1≤p.frames.length∧y.2=(p.frames.take y.1).foldl (carF id) ys) (0,ys) [0,1] ⟨by simp,by simp⟩ ?_ ?_
   ·simp only [go_sem];simp
   ·rintro ⟨k,zs⟩ ⟨hk,hzz⟩
    simp only at hk hzz
    by_cases h2:k < p.frames.length
    ·have h2':decide ((k:Int) < (p.frames.length:Int))=true:=dT (by omega)
     have hyi:=map_at TFrame.enc p.frames k h2
     have hw2:IntKind.i64.wrap ((k:Int) + 1)=((k + 1:Nat):Int):=by rw [w64]<;>omega
     have hst2:=carP_take id p ys k h2
     rw [← hzz] at hst2
     have hL2:zs.length≤500 * i + k:=by
      rw [hzz]
      have h3:=carFs_len id (p.frames.take k) ys
      have hT:(p.frames.take k).length=k:=by simp;omega
      omega
     generalize p.frames[k]=f at *
     have hg:=carG_bool id f
     try simp only [go_sem,lM,tN,hxi,hyi,TPacket.enc,TFrame.enc,h2']
     repeat' (first|(refine gSymS ?_<;>simp only [go_sem])|(with_reducible refine sideI ?_)|fail)
     rw [hg]
     cases hb:carG id f with
     |true=>
      have hLz:zs.length≤1048576:=by omega
      have hc:carF id zs f=addR zs ⟨f.offset,IntKind.i64.wrap (f.offset + (f.data.length:Int))⟩:=by unfold carF;rw [hb];rfl
      try simp only [go_sem,lM]
      repeat' (refine CallS.intro (by (apply spec_AddRange<;>first|assumption|omega)) ?_<;>simp only [go_sem,lM])
      refine RoundE.intro (k + 1,addR zs ⟨f.offset,IntKind.i64.wrap (f.offset + (f.data.length:Int))⟩) [0,3] ⟨by simp only;omega,by simp only;rw [hst2,hc]⟩ (show p.frames.length - (k + 1) < p.frames.length - k by omega) ?_
      simp only [go_sem,hw2];simp
     |false=>
      have hc:carF id zs f=zs:=by unfold carF;rw [hb];rfl
      simp only [go_sem]
      refine RoundE.intro (k + 1,zs) [0,1] ⟨by simp only;omega,by simp only;rw [hst2,hc]⟩ (show p.frames.length - (k + 1) < p.frames.length - k by omega) ?_
      simp only [go_sem,hw2];simp
    ·have h2':decide ((k:Int) < (p.frames.length:Int))=false:=dF (by omega)
     obtain rfl:k=p.frames.length:=by omega
     rw [tL] at hzz
     try simp only [go_sem,lM,tN,hxi,TPacket.enc,h2']
     repeat' (first|(with_reducible refine sideI ?_)|fail)
     refine RoundE.intro (i + 1,zs) [0,1] ⟨by simp only;omega,by simp only;rw [hst];exact hzz⟩ (show c.packets.length - (i + 1) < c.packets.length - i by omega) ?_
     simp only [go_sem,hw];simp
  ·have h1':decide ((i:Int) < (c.packets.length:Int))=false:=dF (by omega)
   obtain rfl:i=c.packets.length:=by omega
   rw [tL] at hy
   try simp only [go_sem,lM,h1']
   repeat' (first|(with_reducible refine sideI ?_)|fail)
   simp [hE,← hy]
set_option maxHeartbeats 4000000 in
theorem spec_AuditFlight (c:TConn) (hz:SzC c):PureCall Tryz.prog 11 [.agg (TConn.enc c)] [.one (.bool (audFl isStmS c))]:=by
 refine pureT 38 Tryz.func11 Tryz.call11 [.tmp 2] ?_
 intro ok
 clear ok
 have hz1:=hz.1
 have hE:audFl isStmS c=(isConnS c && c.streams.all (fun s=>!flBad c.packets s)):=rfl
 simp only [go_sem]
 cases hI:isConnS c with
 |false=>
  refine LoopK.intro (fun _:Unit=>⟨(.junk::.ptr 0 0 0::.junk::.d (.int .i64 0)::jn 34 []),[.box (TConn.ve c)]⟩) (fun _=>0) (fun _=>True) () [0] trivial ?_ ?_
  ·simp only [go_sem];simp
  ·rintro _ _
   try simp only [go_sem,lM]
   repeat' ((first|refine CallS.intro (by (apply spec_IsConn<;>first|assumption|omega)) ?_|refine CallK.intro (by (apply spec_IsConn<;>first|assumption|omega)) ?_|refine gSymS ?_)<;>simp only [go_sem,hI,Bool.cond_self])
   simp [hE,hI]
 |true=>
  refine LoopK.intro (fun i:Nat=>⟨(.junk::.ptr 0 0 0::.junk::.d (.int .i64 i)::jn 34 []),[.box (TConn.ve c)]⟩) (fun i=>c.streams.length - i) (fun i=>i≤c.streams.length∧(c.streams.take i).all (fun s=>!flBad c.packets s)=true) 0 [0] ⟨by omega,by simp⟩ ?_ ?_
  ·simp only [go_sem];simp
  ·rintro i ⟨hi,he⟩
   by_cases h1:i < c.streams.length
   ·have h1':decide ((i:Int) < (c.streams.length:Int))=true:=dT (by omega)
    have hxi:=map_at TStream.enc c.streams i h1
    have hw:IntKind.i64.wrap ((i:Int) + 1)=((i + 1:Nat):Int):=by rw [w64]<;>omega
    have hs:=all_succ (fun s=>!flBad c.packets s) c.streams i h1
    have hn:=fun h=>all_not (fun s=>!flBad c.packets s) c.streams i h1 h
    generalize c.streams[i]=s at *
    cases h4:decide (s.send.state < 4) with
    |false=>
     have hbad:flBad c.packets s=false:=by unfold flBad;rw [h4];rfl
     try simp only [go_sem,lM,h1']
     repeat' (first|((first|refine CallS.intro (by (apply spec_IsConn<;>first|assumption|omega)) ?_|with_reducible refine gTrueS ?_|with_reducible refine gFalse ?_|refine drawE_intro mxAudF0 (by kernel_rfl) (by rfl) ?_)<;>simp only [go_sem,lM,tN,hxi,TStream.enc,hI,h4])|(with_reducible refine sideI ?_)|fail)
     refine RoundE.intro (i + 1) [0] ⟨by omega,by rw [hs,he,hbad];rfl⟩ (by omega) ?_
     simp only [go_sem,hw];simp
    |true=>
     try simp only [go_sem,lM,h1']
     repeat' (first|((first|refine CallS.intro (by (apply spec_IsConn<;>first|assumption|omega)) ?_|refine CallK.intro (by first|(apply spec_l24Carried<;>first|assumption|omega)|apply spec_EqualRanges) ?_|with_reducible refine gTrueS ?_|with_reducible refine gTrue ?_|refine drawE_intro mxAudF0 (by kernel_rfl) (by rfl) ?_)<;>simp only [go_sem,lM,tN,hxi,TStream.enc,hI,h4])|(with_reducible refine sideI ?_)|fail)
     cases hb:decide (s.send.flight=carried c.packets s.id) with
     |false=>
      have:=hn (by unfold flBad;rw [h4,hb];rfl)
      simp only [go_sem]
      simp [hE,this]
     |true=>
      have hbad:flBad c.packets s=false:=by unfold flBad;rw [hb];simp
      simp only [go_sem]
      refine RoundE.intro (i + 1) [0] ⟨by omega,by rw [hs,he,hbad];rfl⟩ (by omega) ?_
      simp only [go_sem,hw];simp
   ·have h1':decide ((i:Int) < (c.streams.length:Int))=false:=dF (by omega)
    obtain rfl:i=c.streams.length:=by omega
    rw [tL] at he
    try simp only [go_sem,lM,h1']
    repeat' ((first|refine CallS.intro (by (apply spec_IsConn<;>first|assumption|omega)) ?_|with_reducible refine gFalseS ?_)<;>simp only [go_sem,hI])
    simp [hE,hI,he]
set_option maxRecDepth 100000
def carGI (id:Int) (f:TFrame):Bool:=decide (f.kind=8) && decide (f.stream=id)
def carFI (id:Int) (acc:List TRange) (f:TFrame):List TRange:=if carGI id f then addR acc (carR f) else acc
def carPI (id:Int) (acc:List TRange) (p:TPacket):List TRange:=p.frames.foldl (carFI id) acc
def flightI (l:List TPacket) (id:Int):List TRange:=l.foldl (carPI id) []
theorem carI_bool (id:Int) (f:TFrame):(bif decide (f.kind=8) then decide (f.stream=id) else false)=carGI id f:=by
 unfold carGI;simp only [bif_and]
theorem carFI_len (id:Int) (acc:List TRange) (f:TFrame):(carFI id acc f).length≤acc.length + 1:=by
 unfold carFI;split
 ·exact addR_len _ _
 ·omega
theorem carFIs_len (id:Int):∀ (l:List TFrame) (acc:List TRange),(l.foldl (carFI id) acc).length≤acc.length + l.length
 |[],acc=>by simp
 |f::l,acc=>by
  have h1:=carFIs_len id l (carFI id acc f)
  have h2:=carFI_len id acc f
  rw [List.foldl_cons,List.length_cons];omega
theorem carPI_len {id:Int}:∀ (l:List TPacket) (acc:List TRange),(∀ p ∈ l,SzP p)→(l.foldl (carPI id) acc).length≤acc.length + 500 * l.length
 |[],acc,_=>by simp
 |p::l,acc,h=>by
  have h1:=carPI_len (id:=id) l (carPI id acc p) fun q hq=>h q (by simp [hq])
  have h2:(carPI id acc p).length≤acc.length + p.frames.length:=carFIs_len id p.frames acc
  have h3:=(h p (by simp)).1
  rw [List.foldl_cons,List.length_cons]
  omega
theorem foldg_take {α β:Type} (g:β→α→β) (l:List α) (b:β) (i:Nat) (h:i < l.length):(l.take (i + 1)).foldl g b=g ((l.take i).foldl g b) l[i]:=by
 rw [List.take_add_one,gE h,List.foldl_append];rfl
set_option maxHeartbeats 4000000 in
theorem impl_flightOf (l:List TPacket) (id:Int) (hl:l.length≤30) (hz:∀ p ∈ l,SzP p):PureCall Tryz.prog 26 [.one (.sl 2 (l.map TPacket.enc)),.one (.int .i64 id)] [.one (.sl 2 ((flightI l id).map TRange.enc))]:=by
 refine pureT 47 Tryz.func26 Tryz.call26 [.tmp 4] ?_
 intro ok
 clear ok
 have hE:flightI l id=l.foldl (carPI id) []:=rfl
 simp only [go_sem,lM]
 refine LoopK.intro (α:=Nat×List TRange) (fun y=>⟨(.junk::.d (.int .i64 id)::jn 3 (.sl 0 0 y.2.length::jn 5 (.d (.sl 2 (l.map TPacket.enc))::.d (.int .i64 l.length)::.d (.int .i64 y.1)::jn 33 []))),[.arr 2 (y.2.map TRange.enc) true]⟩)
  (fun y=>l.length - y.1) (fun y=>y.1≤l.length∧y.2=(l.take y.1).foldl (carPI id) []) (0,[]) [0] ⟨by simp,by simp⟩ ?_ ?_
 ·simp only [go_sem];simp
 ·rintro ⟨i,ys⟩ ⟨hi,hy⟩
  simp only at hi hy
  by_cases h1:i < l.length
  ·have h1':decide ((i:Int) < (l.length:Int))=true:=dT (by omega)
   have hxi:=map_at TPacket.enc l i h1
   have hw:IntKind.i64.wrap ((i:Int) + 1)=((i + 1:Nat):Int):=by rw [w64]<;>omega
   have hst:=foldg_take (carPI id) l [] i h1
   rw [← hy] at hst
   have hzp:=hz _ (List.getElem_mem h1)
   have hL0:ys.length≤500 * i:=by
    rw [hy]
    have:=carPI_len (id:=id) (l.take i) [] fun p hp=>hz p (List.mem_of_mem_take hp)
    have hT:(l.take i).length=i:=by simp;omega
    simp only [hT,List.length_nil] at this
    omega
   generalize l[i]=p at *
   have hzf:=hzp.1
   rw [show carPI id ys p=p.frames.foldl (carFI id) ys from rfl] at hst
   try simp only [go_sem,lM,tN,hxi,TPacket.enc,h1']
   repeat' (first|(with_reducible refine sideI ?_)|fail)
   refine LoopK.intro (α:=Nat×List TRange) (fun y=>⟨(.junk::.d (.int .i64 id)::jn 3 (.sl 0 0 y.2.length::jn 5 (.d (.sl 2 (l.map TPacket.enc))::.d (.int .i64 l.length)::.d (.int .i64 i)::jn 4 (.d (.sl 9 (p.frames.map TFrame.enc))::.d (.int .i64 p.frames.length)::.d (.int .i64 y.1)::jn 26 [])))),[.arr 2 (y.2.map TRange.enc) true]⟩)
    (fun y=>p.frames.length - y.1) (fun y=>y.1≤p.frames.length∧y.2=(p.frames.take y.1).foldl (carFI id) ys) (0,ys) [0] ⟨by simp,by simp⟩ ?_ ?_
   ·simp only [go_sem];simp
   ·rintro ⟨k,zs⟩ ⟨hk,hzz⟩
    simp only at hk hzz
    by_cases h2:k < p.frames.length
    ·have h2':decide ((k:Int) < (p.frames.length:Int))=true:=dT (by omega)
     have hyi:=map_at TFrame.enc p.frames k h2
     have hw2:IntKind.i64.wrap ((k:Int) + 1)=((k + 1:Nat):Int):=by rw [w64]<;>omega
     have hst2:=foldg_take (carFI id) p.frames ys k h2
     rw [← hzz] at hst2
     have hL2:zs.length≤500 * i + k:=by
      rw [hzz]
      have h3:=carFIs_len id (p.frames.take k) ys
      have hT:(p.frames.take k).length=k:=by simp;omega
      omega
     generalize p.frames[k]=f at *
     have hg:=carI_bool id f
     try simp only [go_sem,lM,tN,hyi,TFrame.enc,h2']
     repeat' (first|(refine gSymS ?_<;>simp only [go_sem])|(with_reducible refine sideI ?_)|fail)
     rw [hg]
     cases hb:carGI id f with
     |true=>
      have hLz:zs.length≤1048576:=by omega
      have hc:carFI id zs f=addR zs ⟨f.offset,IntKind.i64.wrap (f.offset + (f.data.length:Int))⟩:=by unfold carFI;rw [hb];rfl
      try simp only [go_sem,lM]
      repeat' (refine CallS.intro (by (apply impl_AddRange<;>first|assumption|omega)) ?_<;>simp only [go_sem,lM])
      refine RoundE.intro (k + 1,addR zs ⟨f.offset,IntKind.i64.wrap (f.offset + (f.data.length:Int))⟩) [2] ⟨by simp only;omega,by simp only;rw [hst2,hc]⟩ (show p.frames.length - (k + 1) < p.frames.length - k by omega) ?_
      simp only [go_sem,hw2];simp
     |false=>
      have hc:carFI id zs f=zs:=by unfold carFI;rw [hb];rfl
      simp only [go_sem]
      refine RoundE.intro (k + 1,zs) [0] ⟨by simp only;omega,by simp only;rw [hst2,hc]⟩ (show p.frames.length - (k + 1) < p.frames.length - k by omega) ?_
      simp only [go_sem,hw2];simp
    ·have h2':decide ((k:Int) < (p.frames.length:Int))=false:=dF (by omega)
     obtain rfl:k=p.frames.length:=by omega
     rw [tL] at hzz
     try simp only [go_sem,lM,h2']
     refine RoundE.intro (i + 1,zs) [0] ⟨by simp only;omega,by simp only;rw [hst];exact hzz⟩ (show l.length - (i + 1) < l.length - i by omega) ?_
     simp only [go_sem,hw];simp
  ·have h1':decide ((i:Int) < (l.length:Int))=false:=dF (by omega)
   obtain rfl:i=l.length:=by omega
   rw [tL] at hy
   try simp only [go_sem,lM,h1']
   repeat' (first|(with_reducible refine sideI ?_)|fail)
   simp [hE,← hy]
set_option maxRecDepth 100000
def mxAudC0:List (List Rl):=mxD 6 [692,690,724,706,648,486]
attribute [go_sem] mxAudC0
def ownB (sv:Bool) (s:TStream):Bool:=isOwn sv s.id
def uniB (sv:Bool) (s:TStream):Bool:=!isOwn sv s.id && (s.counted && isUni s.id)
def bidB (sv:Bool) (s:TStream):Bool:=!isOwn sv s.id && (s.counted && !isUni s.id)
def ctBad (over:TStream→Bool) (sv:Bool) (s:TStream):Bool:=!isOwn sv s.id && (s.counted != over s)
def ctEnd (c:TConn):Bool:=
 decide (((c.streams.countP (ownB c.server):Nat):Int)=IntKind.i64.wrap (c.openBidi.opened + c.openUni.opened)) &&
 decide (IntKind.i64.wrap ((c.streams.length:Int) - (c.streams.countP (ownB c.server):Nat))=IntKind.i64.wrap (c.allowBidi.seen + c.allowUni.seen)) &&
 decide (((c.streams.countP (bidB c.server):Nat):Int)=c.allowBidi.closed) && decide (((c.streams.countP (uniB c.server):Nat):Int)=c.allowUni.closed)
def audCt (ok over:TStream→Bool) (c:TConn):Bool:=isConnW ok c && c.streams.all (fun s=>!ctBad over c.server s) && ctEnd c
theorem cntP_take {α:Type} (p:α→Bool) (xs:List α) (i:Nat) (h:i < xs.length):(xs.take (i + 1)).countP p=(xs.take i).countP p + (if p xs[i] then 1 else 0):=by
 rw [List.take_add_one,gE h,List.countP_append];simp [List.countP_cons]
set_option maxHeartbeats 8000000 in
theorem spec_AuditCounts (c:TConn) (hz:SzC c):PureCall Tryz.prog 13 [.agg (TConn.enc c)] [.one (.bool (audCt isStmS overS c))]:=by
 refine pureT 95 Tryz.func13 Tryz.call13 [.tmp 2] ?_
 intro ok
 clear ok
 have hz1:=hz.1
 have hz2:=hz.2.1
 have hE:audCt isStmS overS c=(isConnS c && c.streams.all (fun s=>!ctBad overS c.server s) && ctEnd c):=rfl
 simp only [go_sem]
 cases hI:isConnS c with
 |false=>
  refine LoopK.intro (fun _:Unit=>⟨(.junk::.ptr 0 0 0::.junk::.d (.int .i64 0)::.d (.int .i64 0)::.d (.int .i64 0)::.d (.int .i64 0)::jn 88 []),[.box (TConn.ve c)]⟩) (fun _=>0) (fun _=>True) () [0] trivial ?_ ?_
  ·simp only [go_sem];simp
  ·rintro _ _
   try simp only [go_sem,lM]
   repeat' ((first|refine CallS.intro (by (apply spec_IsConn<;>first|assumption|omega)) ?_|refine CallK.intro (by (apply spec_IsConn<;>first|assumption|omega)) ?_|with_reducible refine gFalseS ?_|refine gSymS ?_)<;>simp only [go_sem,hI,Bool.cond_self])
   simp [hE,hI]
 |true=>
  refine LoopK.intro (fun i:Nat=>⟨(.junk::.ptr 0 0 0::.junk::.d (.int .i64 ((c.streams.take i).countP (ownB c.server):Nat))::.d (.int .i64 ((c.streams.take i).countP (bidB c.server):Nat))::.d (.int .i64 ((c.streams.take i).countP (uniB c.server):Nat))::.d (.int .i64 i)::jn 88 []),[.box (TConn.ve c)]⟩) (fun i=>c.streams.length - i) (fun i=>i≤c.streams.length∧(c.streams.take i).all (fun s=>!ctBad overS c.server s)=true) 0 [0] ⟨by omega,by simp⟩ ?_ ?_
  ·simp only [go_sem];simp
  ·rintro i ⟨hi,he⟩
   by_cases h1:i < c.streams.length
   ·have h1':decide ((i:Int) < (c.streams.length:Int))=true:=dT (by omega)
    have hxi:=map_at TStream.enc c.streams i h1
    have hw:∀ k:Nat,k≤i→IntKind.i64.wrap ((k:Int) + 1)=((k + 1:Nat):Int):=by intro k hk;rw [w64]<;>omega
    have hs:=all_succ (fun s=>!ctBad overS c.server s) c.streams i h1
    have hn:=fun h=>all_not (fun s=>!ctBad overS c.server s) c.streams i h1 h
    have hS:=hz2 _ (List.getElem_mem h1)
    have c1:=cntP_take (ownB c.server) c.streams i h1
    have c2:=cntP_take (bidB c.server) c.streams i h1
    have c3:=cntP_take (uniB c.server) c.streams i h1
    have hT:(c.streams.take i).length=i:=by simp;omega
    have d1:(c.streams.take i).countP (ownB c.server)≤i:=by have:=List.countP_le_length (p:=ownB c.server) (l:=c.streams.take i);omega
    have d2:(c.streams.take i).countP (bidB c.server)≤i:=by have:=List.countP_le_length (p:=bidB c.server) (l:=c.streams.take i);omega
    have d3:(c.streams.take i).countP (uniB c.server)≤i:=by have:=List.countP_le_length (p:=uniB c.server) (l:=c.streams.take i);omega
    have w1:=hw _ d1
    have w2:=hw _ d2
    have w3:=hw _ d3
    generalize (c.streams.take i).countP (ownB c.server)=n1 at *
    generalize (c.streams.take i).countP (bidB c.server)=n2 at *
    generalize (c.streams.take i).countP (uniB c.server)=n3 at *
    generalize c.streams[i]=s at *
    have w0:=hw i (Nat.le_refl _)
    obtain ⟨hS1,hS2,hS3,hS4⟩:=hS
    have hS3:∀ ch ∈ s.recv.buffer.chunks,ch.data.length≤1048576:=fun ch hc=>by have:=hS3 ch hc;omega
    try simp only [go_sem,lM,h1']
    repeat' (first|((first|refine CallS.intro (by first|(apply spec_IsConn<;>first|assumption|omega)|apply spec_IsOwn) ?_|with_reducible refine gTrueS ?_)<;>simp only [go_sem,lM,tN,hxi,TStream.enc,hI])|(with_reducible refine sideI ?_)|fail)
    cases ho:isOwn c.server s.id with
    |true=>
     rw [show ownB c.server s=true from ho] at c1
     rw [show bidB c.server s=false by unfold bidB;rw [ho];rfl] at c2
     rw [show uniB c.server s=false by unfold uniB;rw [ho];rfl] at c3
     simp only [go_sem]
     refine RoundE.intro (i + 1) [0] ⟨by omega,by rw [hs,he];unfold ctBad;rw [ho];rfl⟩ (by omega) ?_
     simp only [go_sem,w0,w1,c1,c2,c3,if_true];simp
    |false=>
     rw [show ownB c.server s=false from ho] at c1
     try simp only [go_sem]
     repeat' ((first|refine CallK.intro (by (apply spec_IsOver<;>first|assumption|omega)) ?_|refine drawE_intro mxAudC0 (by kernel_rfl) (by rfl) ?_)<;>simp only [go_sem])
     change condE (s.counted != overS s) _ _
     cases hb:(s.counted != overS s) with
     |true=>
      have:=hn (by unfold ctBad;rw [ho,hb];rfl)
      simp only [go_sem]
      simp [hE,this]
     |false=>
      have hbad:ctBad overS c.server s=false:=by unfold ctBad;rw [hb];simp
      cases hc:s.counted with
      |false=>
       rw [show bidB c.server s=false by unfold bidB;rw [hc];simp] at c2
       rw [show uniB c.server s=false by unfold uniB;rw [hc];simp] at c3
       try simp only [go_sem]
       repeat' (first|(with_reducible refine gFalseS ?_<;>simp only [go_sem]))
       refine RoundE.intro (i + 1) [0] ⟨by omega,by rw [hs,he,hbad];rfl⟩ (by omega) ?_
       simp only [go_sem,w0,c1,c2,c3];simp
      |true=>
       cases hu:isUni s.id with
       |true=>
        rw [show bidB c.server s=false by unfold bidB;rw [hu];simp] at c2
        rw [show uniB c.server s=true by unfold uniB;rw [hc,hu,ho];rfl] at c3
        try simp only [go_sem]
        repeat' ((first|refine CallS.intro (by apply spec_IsUniId) ?_|with_reducible refine gTrueS ?_)<;>simp only [go_sem,hu])
        refine RoundE.intro (i + 1) [0] ⟨by omega,by rw [hs,he,hbad];rfl⟩ (by omega) ?_
        simp only [go_sem,w0,w3,c1,c2,c3,if_true];simp
       |false=>
        rw [show bidB c.server s=true by unfold bidB;rw [hc,hu,ho];rfl] at c2
        rw [show uniB c.server s=false by unfold uniB;rw [hu];simp] at c3
        try simp only [go_sem]
        repeat' ((first|refine CallS.intro (by apply spec_IsUniId) ?_|with_reducible refine gTrueS ?_)<;>simp only [go_sem,hu])
        refine RoundE.intro (i + 1) [0] ⟨by omega,by rw [hs,he,hbad];rfl⟩ (by omega) ?_
        simp only [go_sem,w0,w2,c1,c2,c3,if_true];simp
   ·have h1':decide ((i:Int) < (c.streams.length:Int))=false:=dF (by omega)
    obtain rfl:i=c.streams.length:=by omega
    rw [tL] at he
    try simp only [go_sem,lM,h1',tL]
    repeat' ((first|refine CallS.intro (by (apply spec_IsConn<;>first|assumption|omega)) ?_|with_reducible refine gTrueS ?_|with_reducible refine gFalseS ?_|refine gSymS ?_)<;>simp only [go_sem,lM,hI])
    refine one_bool ?_
    simp [hE,hI,he,ctEnd,Bool.and_assoc]
set_option maxRecDepth 100000
def mxAudJ0:List (List Rl):=mxD 9 [16439,16441,16434,16416,19399,19561,18994,17536,13122]
def mxAudJ1:List (List Rl):=mxD 8 [6209,6207,6201,6547,6493,6331,5832,4374]
def mxAudJ2:List (List Rl):=mxD 15 [14348555,14348553,14348547,14348893,14348839,14348677,14348178,14346720,14165199,14152077,14112711,14257053,13817466,12754584,9565938]
def mxAudJ3:List (List Rl):=mxD 22 [31381059608,31381059606,31381059600,31381059582,31381059528,31381059366,31381058880,31381057422,31381053048,31381039926,31381000560,30802143213,30801788919,30800726037,31206392667,31196826729,31359447675,31273354233,30995942031,30218798142,27894275208,20920706406]
attribute [go_sem] mxAudJ0 mxAudJ1 mxAudJ2 mxAudJ3
def icI (c:TConn):Prop:=PureCall Tryz.prog 19 [.agg (TConn.enc c)] [.one (.bool (isConnI c))]
theorem eqz_TRange (a b:TRange):(decide (a.low=b.low) && decide (a.high=b.high))=decide (a=b):=by
 have h:((decide (a.low=b.low) && decide (a.high=b.high))=true)↔(decide (a=b)=true):=by
  cases a;cases b;simp
 cases h1:(decide (a.low=b.low) && decide (a.high=b.high))<;>cases h2:decide (a=b)<;>simp_all
theorem slices_Equal_impl_Range_impl_Range (xs ys:List TRange):PureCall Tryz.prog 60 [.one (.sl 2 (xs.map TRange.enc)),.one (.sl 2 (ys.map TRange.enc))] [.one (.bool (decide (xs=ys)))]:=by
 refine pureT 26 Tryz.func60 Tryz.call60 [.tmp 4] ?_
 intro ok
 have hm:=len_of ok
 simp only [go_sem,lM]
 refine cSplit (fun h=>?_) (fun h=>?_)
 ·simp only [go_sem]
  simp only [ne_eq,decide_not,Bool.not_eq_true',decide_eq_false_iff_not] at h
  have:xs≠ys:=fun e=>h (by rw [e])
  simp [this]
 ·simp only [ne_eq,decide_not,Bool.not_eq_false',decide_eq_true_eq] at h
  simp only [go_sem,lM]
  refine LoopK.intro (fun i:Nat=>⟨(.d (.sl 2 (xs.map TRange.enc))::.d (.sl 2 (ys.map TRange.enc))::.junk::.junk::.d (.bool false)::jn 7 (.d (.int .i64 xs.length)::.d (.int .i64 i)::jn 12 [])),[]⟩)
   (fun i=>xs.length - i) (fun i=>i≤xs.length∧xs.take i=ys.take i) 0 [] ⟨by omega,by simp⟩ ?_ ?_
  ·simp only [go_sem];simp
  ·rintro i ⟨hi,he⟩
   simp only [go_sem]
   refine cSplit (fun h1=>?_) (fun h1=>?_)
   ·simp only [decide_eq_true_eq] at h1
    have hxl:i < xs.length:=by omega
    have hyl:i < ys.length:=by omega
    have hxi:=map_at TRange.enc xs i hxl
    have hyi:=map_at TRange.enc ys i hyl
    have hw:=inc (i:=i) (m:=xs.length) hxl hm
    by_cases hq:xs[i]=ys[i]
    ·have hz:(decide (xs[i].low=ys[i].low) && decide (xs[i].high=ys[i].high))=true:=by rw [eqz_TRange];exact dT hq
     try simp only [go_sem]
     repeat' (first
      |((first|with_reducible refine gTrueS ?_|with_reducible refine gFalseS ?_|with_reducible refine gTrue ?_|with_reducible refine gFalse ?_|refine gSymS ?_|refine gSym ?_|refine drawE_intro mxAudJ0 (by kernel_rfl) (by rfl) ?_|refine cSplit (fun h=>?_) (fun h=>?_))<;>simp only [go_sem,lM,tN,hxi,hyi,TRange.enc,hz,hw,Bool.not_true])
      |(with_reducible refine sideI ?_)|fail)
     all_goals (refine RoundE.intro (i + 1) [] ⟨by omega,take_eq he hxl hyl hq⟩ (by omega) ?_;simp only [go_sem])
    ·have hz:(decide (xs[i].low=ys[i].low) && decide (xs[i].high=ys[i].high))=false:=by rw [eqz_TRange];exact dF hq
     have hne:xs≠ys:=fun e=>by subst e;exact hq rfl
     try simp only [go_sem]
     repeat' (first
      |((first|with_reducible refine gTrueS ?_|with_reducible refine gFalseS ?_|with_reducible refine gTrue ?_|with_reducible refine gFalse ?_|refine gSymS ?_|refine gSym ?_|refine drawE_intro mxAudJ0 (by kernel_rfl) (by rfl) ?_|refine cSplit (fun h=>?_) (fun h=>?_))<;>simp only [go_sem,lM,tN,hxi,hyi,TRange.enc,hz,Bool.not_false])
      |(with_reducible refine sideI ?_)|fail)
     all_goals simp [hne]
   ·simp only [go_sem]
    simp only [decide_eq_false_iff_not] at h1
    have:xs=ys:=by rw [List.take_of_length_le (by omega),List.take_of_length_le (by omega)] at he;exact he
    simp [this]
theorem impl_EqualRanges (xs ys:List TRange):PureCall Tryz.prog 25 [.one (.sl 2 (xs.map TRange.enc)),.one (.sl 2 (ys.map TRange.enc))] [.one (.bool (decide (xs=ys)))]:=by
 refine pureT 8 Tryz.func25 Tryz.call25 [.tmp 4] ?_
 intro ok
 try simp only [go_sem]
 repeat' (first
  |((first|refine CallS.intro (by first|assumption|(apply slices_Equal_impl_Range_impl_Range<;>first|assumption|omega)) ?_|refine CallK.intro (by first|assumption|(apply slices_Equal_impl_Range_impl_Range<;>first|assumption|omega)) ?_|with_reducible refine gTrueS ?_|with_reducible refine gFalseS ?_|with_reducible refine gTrue ?_|with_reducible refine gFalse ?_|refine gSymS ?_|refine gSym ?_|refine cSplit (fun h=>?_) (fun h=>?_))<;>simp only [go_sem])
  |(with_reducible refine sideI ?_)|fail)
 all_goals simp
theorem swapDec (a b:Int):decide (a=b)=decide (b=a):=by by_cases h:a=b<;>simp [h,eq_comm]
set_option maxHeartbeats 4000000 in
theorem impl_AuditCredits (c:TConn) (hz:SzC c) (hIC:icI c):PureCall Tryz.prog 6 [.agg (TConn.enc c)] [.one (.bool (audCr isStmI c))]:=by
 refine pureT 30 Tryz.func6 Tryz.call6 [.tmp 2] ?_
 intro ok
 clear ok
 unfold icI at hIC
 have hz1:=hz.1
 have hz2:=hz.2.1
 have hE:audCr isStmI c=(isConnI c && c.streams.all crOk && decide (totF isStmI sentOf c.streams=c.total.used)):=rfl
 try simp only [go_sem]
 repeat' (first
  |((first|refine CallS.intro (by first|assumption|(apply impl_IsConn<;>first|assumption|omega)) ?_|refine CallK.intro (by first|assumption|(apply impl_IsConn<;>first|assumption|omega)) ?_|with_reducible refine gTrueS ?_|with_reducible refine gFalseS ?_|with_reducible refine gTrue ?_|with_reducible refine gFalse ?_|refine gSymS ?_|refine gSym ?_)<;>simp only [go_sem])
  |(with_reducible refine sideI ?_)|fail)
 cases hI:isConnI c with
 |false=>
  simp only [go_sem,Bool.not_false]
  simp [hE,hI]
 |true=>
  simp only [go_sem,Bool.not_true,lM]
  refine LoopK.intro (fun i:Nat=>⟨(.junk::.ptr 0 0 0::jn 7 (.d (.sl 39 (c.streams.map TStream.enc))::.d (.int .i64 c.streams.length)::.d (.int .i64 i)::jn 18 [])),[.box (TConn.ve c)]⟩) (fun i=>c.streams.length - i) (fun i=>i≤c.streams.length∧(c.streams.take i).all crOk=true) 0 [0] ⟨by omega,by simp⟩ ?_ ?_
  ·simp only [go_sem];simp
  ·rintro i ⟨hi,he⟩
   by_cases h1:i < c.streams.length
   ·have h1':decide ((i:Int) < (c.streams.length:Int))=true:=dT (by omega)
    have hxi:=map_at TStream.enc c.streams i h1
    have hw:IntKind.i64.wrap ((i:Int) + 1)=((i + 1:Nat):Int):=by rw [w64]<;>omega
    have hs:=all_succ crOk c.streams i h1
    have hn:=fun h=>all_not crOk c.streams i h1 h
    generalize c.streams[i]=s at *
    try simp only [go_sem,lM,tN,hxi,TStream.enc,h1']
    repeat' (first
     |((first|with_reducible refine gTrueS ?_|with_reducible refine gFalseS ?_|with_reducible refine gTrue ?_|with_reducible refine gFalse ?_|refine gSymS ?_|refine gSym ?_)<;>simp only [go_sem,lM,tN,hxi,TStream.enc,h1'])
     |(with_reducible refine sideI ?_)|fail)
    cases hb:decide (s.credit.used≠s.send.sent) with
    |true=>
     have:=hn (by unfold crOk;rw [hb];rfl)
     simp only [go_sem]
     simp [hE,this]
    |false=>
     simp only [go_sem]
     refine RoundE.intro (i + 1) [0] ⟨by omega,by rw [hs,he];unfold crOk;rw [hb];rfl⟩ (by omega) ?_
     simp only [go_sem,hw];simp
   ·have h1':decide ((i:Int) < (c.streams.length:Int))=false:=dF (by omega)
    obtain rfl:i=c.streams.length:=by omega
    rw [tL] at he
    try simp only [go_sem,h1']
    repeat' (first
     |((first|refine CallS.intro (by first|assumption|(apply impl_SentTotal<;>first|assumption|omega)) ?_|refine CallK.intro (by first|assumption|(apply impl_SentTotal<;>first|assumption|omega)) ?_|with_reducible refine gTrueS ?_|with_reducible refine gFalseS ?_|with_reducible refine gTrue ?_|with_reducible refine gFalse ?_|refine gSymS ?_|refine gSym ?_|refine drawE_intro mxAudJ1 (by kernel_rfl) (by rfl) ?_)<;>simp only [go_sem])
     |(with_reducible refine sideI ?_)|fail)
    simp [hE,hI,he,swapDec c.total.used]
set_option maxHeartbeats 4000000 in
theorem impl_AuditWindows (c:TConn) (hz:SzC c) (hIC:icI c):PureCall Tryz.prog 8 [.agg (TConn.enc c)] [.one (.bool (audWi isStmI c))]:=by
 refine pureT 57 Tryz.func8 Tryz.call8 [.tmp 2] ?_
 intro ok
 clear ok
 unfold icI at hIC
 have hz1:=hz.1
 have hz2:=hz.2.1
 have hE:audWi isStmI c=(isConnI c && c.streams.all (fun s=>!wiBad s) && decide (totF isStmI seenOf c.streams=c.inflow.seen) && decide (c.streams.foldl rdStep 0=c.inflow.read)):=rfl
 try simp only [go_sem]
 repeat' (first
  |((first|refine CallS.intro (by first|assumption|(apply impl_IsConn<;>first|assumption|omega)) ?_|refine CallK.intro (by first|assumption|(apply impl_IsConn<;>first|assumption|omega)) ?_|with_reducible refine gTrueS ?_|with_reducible refine gFalseS ?_|with_reducible refine gTrue ?_|with_reducible refine gFalse ?_|refine gSymS ?_|refine gSym ?_)<;>simp only [go_sem])
  |(with_reducible refine sideI ?_)|fail)
 cases hI:isConnI c with
 |false=>
  simp only [go_sem,Bool.not_false]
  simp [hE,hI]
 |true=>
  simp only [go_sem,Bool.not_true,lM]
  refine LoopK.intro (fun i:Nat=>⟨(.junk::.ptr 0 0 0::.junk::.d (.int .i64 ((c.streams.take i).foldl rdStep 0))::jn 6 (.d (.sl 39 (c.streams.map TStream.enc))::.d (.int .i64 c.streams.length)::.d (.int .i64 i)::jn 44 [])),[.box (TConn.ve c)]⟩) (fun i=>c.streams.length - i) (fun i=>i≤c.streams.length∧(c.streams.take i).all (fun s=>!wiBad s)=true) 0 [0] ⟨by omega,by simp⟩ ?_ ?_
  ·simp only [go_sem];simp
  ·rintro i ⟨hi,he⟩
   by_cases h1:i < c.streams.length
   ·have h1':decide ((i:Int) < (c.streams.length:Int))=true:=dT (by omega)
    have hxi:=map_at TStream.enc c.streams i h1
    have hw:IntKind.i64.wrap ((i:Int) + 1)=((i + 1:Nat):Int):=by rw [w64]<;>omega
    have hs:=all_succ (fun s=>!wiBad s) c.streams i h1
    have hn:=fun h=>all_not (fun s=>!wiBad s) c.streams i h1 h
    have hf:=foldg_take rdStep c.streams 0 i h1
    generalize (c.streams.take i).foldl rdStep 0=r at *
    generalize c.streams[i]=s at *
    have hg:(bif bif s.canRecv then decide (s.window.seen≠s.recv.highest) else false then true else decide (s.window.read < s.recv.buffer.next))=wiBad s:=by unfold wiBad;cases s.canRecv<;>cases decide (s.window.seen≠s.recv.highest)<;>rfl
    try simp only [go_sem,lM,tN,hxi,TStream.enc,h1']
    repeat' (first
     |((first|with_reducible refine gTrueS ?_|with_reducible refine gFalseS ?_|with_reducible refine gTrue ?_|with_reducible refine gFalse ?_|refine gSymS ?_|refine gSym ?_)<;>simp only [go_sem])
     |(with_reducible refine sideI ?_)|fail)
    rw [hg]
    cases hb:wiBad s with
    |true=>
     have:=hn (by rw [hb];rfl)
     simp only [go_sem]
     simp [hE,this]
    |false=>
     simp only [go_sem]
     refine RoundE.intro (i + 1) [0] ⟨by omega,by rw [hs,he,hb];rfl⟩ (by omega) ?_
     simp only [go_sem,hw,hf,rdStep];simp
   ·have h1':decide ((i:Int) < (c.streams.length:Int))=false:=dF (by omega)
    obtain rfl:i=c.streams.length:=by omega
    rw [tL] at he
    try simp only [go_sem,h1',tL]
    repeat' (first
     |((first|refine CallS.intro (by first|assumption|(apply impl_SeenTotal<;>first|assumption|omega)) ?_|refine CallK.intro (by first|assumption|(apply impl_SeenTotal<;>first|assumption|omega)) ?_|with_reducible refine gTrueS ?_|with_reducible refine gFalseS ?_|with_reducible refine gTrue ?_|with_reducible refine gFalse ?_|refine gSymS ?_|refine gSym ?_|refine drawE_intro mxAudJ2 (by kernel_rfl) (by rfl) ?_)<;>simp only [go_sem])
     |(with_reducible refine sideI ?_)|fail)
    refine one_bool ?_
    simp [hE,hI,he,swapDec c.inflow.seen,swapDec c.inflow.read]
def flBadI (l:List TPacket) (s:TStream):Bool:=decide (s.send.state≠4) && decide (s.send.state≠5) && !decide (s.send.flight=flightI l s.id)
def audFlI (ok:TStream→Bool) (c:TConn):Bool:=isConnW ok c && c.streams.all (fun s=>!flBadI c.packets s)
set_option maxHeartbeats 4000000 in
theorem impl_AuditFlight (c:TConn) (hz:SzC c) (hIC:icI c):PureCall Tryz.prog 10 [.agg (TConn.enc c)] [.one (.bool (audFlI isStmI c))]:=by
 refine pureT 38 Tryz.func10 Tryz.call10 [.tmp 2] ?_
 intro ok
 clear ok
 unfold icI at hIC
 have hz1:=hz.1
 have hz3:=hz.2.2.1
 have hz4:=hz.2.2.2
 have hE:audFlI isStmI c=(isConnI c && c.streams.all (fun s=>!flBadI c.packets s)):=rfl
 try simp only [go_sem]
 repeat' (first
  |((first|refine CallS.intro (by first|assumption|(apply impl_IsConn<;>first|assumption|omega)) ?_|refine CallK.intro (by first|assumption|(apply impl_IsConn<;>first|assumption|omega)) ?_|with_reducible refine gTrueS ?_|with_reducible refine gFalseS ?_|with_reducible refine gTrue ?_|with_reducible refine gFalse ?_|refine gSymS ?_|refine gSym ?_)<;>simp only [go_sem])
  |(with_reducible refine sideI ?_)|fail)
 cases hI:isConnI c with
 |false=>
  simp only [go_sem,Bool.not_false]
  simp [hE,hI]
 |true=>
  simp only [go_sem,Bool.not_true,lM]
  refine LoopK.intro (fun i:Nat=>⟨(.junk::.ptr 0 0 0::jn 7 (.d (.sl 39 (c.streams.map TStream.enc))::.d (.int .i64 c.streams.length)::.d (.int .i64 i)::jn 26 [])),[.box (TConn.ve c)]⟩) (fun i=>c.streams.length - i) (fun i=>i≤c.streams.length∧(c.streams.take i).all (fun s=>!flBadI c.packets s)=true) 0 [0] ⟨by omega,by simp⟩ ?_ ?_
  ·simp only [go_sem];simp
  ·rintro i ⟨hi,he⟩
   by_cases h1:i < c.streams.length
   ·have h1':decide ((i:Int) < (c.streams.length:Int))=true:=dT (by omega)
    have hxi:=map_at TStream.enc c.streams i h1
    have hw:IntKind.i64.wrap ((i:Int) + 1)=((i + 1:Nat):Int):=by rw [w64]<;>omega
    have hs:=all_succ (fun s=>!flBadI c.packets s) c.streams i h1
    have hn:=fun h=>all_not (fun s=>!flBadI c.packets s) c.streams i h1 h
    generalize c.streams[i]=s at *
    cases h4:decide (s.send.state≠4) with
    |false=>
     have hbad:flBadI c.packets s=false:=by unfold flBadI;rw [h4];rfl
     try simp only [go_sem,lM,tN,hxi,TStream.enc,h1']
     repeat' (first
      |((first|with_reducible refine gTrueS ?_|with_reducible refine gFalseS ?_|with_reducible refine gTrue ?_|with_reducible refine gFalse ?_|refine gSymS ?_|refine gSym ?_|refine drawE_intro mxAudJ3 (by kernel_rfl) (by rfl) ?_)<;>simp only [go_sem,h4])
      |(with_reducible refine sideI ?_)|fail)
     refine RoundE.intro (i + 1) [0] ⟨by omega,by rw [hs,he,hbad];rfl⟩ (by omega) ?_
     simp only [go_sem,hw];simp
    |true=>
     cases h5:decide (s.send.state≠5) with
     |false=>
      have hbad:flBadI c.packets s=false:=by unfold flBadI;rw [h5];simp
      try simp only [go_sem,lM,tN,hxi,TStream.enc,h1']
      repeat' (first
       |((first|with_reducible refine gTrueS ?_|with_reducible refine gFalseS ?_|with_reducible refine gTrue ?_|with_reducible refine gFalse ?_|refine gSymS ?_|refine gSym ?_|refine drawE_intro mxAudJ3 (by kernel_rfl) (by rfl) ?_)<;>simp only [go_sem,h4,h5])
       |(with_reducible refine sideI ?_)|fail)
      refine RoundE.intro (i + 1) [0] ⟨by omega,by rw [hs,he,hbad];rfl⟩ (by omega) ?_
      simp only [go_sem,hw];simp
     |true=>
      try simp only [go_sem,lM,tN,hxi,TStream.enc,h1']
      repeat' (first
       |((first|refine CallS.intro (by first|assumption|(apply impl_flightOf<;>first|assumption|omega)|(apply impl_EqualRanges<;>first|assumption|omega)) ?_|refine CallK.intro (by first|assumption|(apply impl_flightOf<;>first|assumption|omega)|(apply impl_EqualRanges<;>first|assumption|omega)) ?_|with_reducible refine gTrueS ?_|with_reducible refine gFalseS ?_|with_reducible refine gTrue ?_|with_reducible refine gFalse ?_|refine gSymS ?_|refine gSym ?_|refine drawE_intro mxAudJ3 (by kernel_rfl) (by rfl) ?_)<;>simp only [go_sem,lM,h4,h5])
       |(with_reducible refine sideI ?_)|fail)
      cases hb:decide (s.send.flight=flightI c.packets s.id) with
      |false=>
       have:=hn (by unfold flBadI;rw [h4,h5,hb];rfl)
       simp only [go_sem]
       simp [hE,this]
      |true=>
       have hbad:flBadI c.packets s=false:=by unfold flBadI;rw [hb];simp
       simp only [go_sem]
       refine RoundE.intro (i + 1) [0] ⟨by omega,by rw [hs,he,hbad];rfl⟩ (by omega) ?_
       simp only [go_sem,hw];simp
   ·have h1':decide ((i:Int) < (c.streams.length:Int))=false:=dF (by omega)
    obtain rfl:i=c.streams.length:=by omega
    rw [tL] at he
    try simp only [go_sem,h1']
    repeat' (first
     |((first|with_reducible refine gTrueS ?_|with_reducible refine gFalseS ?_|with_reducible refine gTrue ?_|with_reducible refine gFalse ?_|refine gSymS ?_|refine gSym ?_)<;>simp only [go_sem,lM,h1',tL])
     |(with_reducible refine sideI ?_)|fail)
    simp [hE,hI,he]
set_option maxRecDepth 100000
def mxIsConn0:List (List Rl):=mxD 24 [282429536444,282429536442,282429536476,282429536458,282429536400,282429536238,282429279873,282429278415,282429274041,282429526275,282429486909,282429368811,282429005040,282427942158,282424753512,277378721217,277350023403,277263929961,282228651783,281453810805,279129287871,271969183278,251048476872,188286357654]
attribute [go_sem] mxIsConn0
def icA (c:TConn):Bool:=isConf c.own && isConf c.peer && areStr isStmI c.streams && isCredit c.total && isWin c.inflow
def icB (c:TConn):Bool:=isCount c.openBidi && isCount c.openUni && isAllow c.allowBidi && isAllow c.allowUni
def icC (c:TConn):Bool:=inB c.last (-1) 4611686018427387903 && inB c.number 0 1000000 && inB c.now 0 1000000 && inB c.closed 0 255
def icD (c:TConn):Bool:=arePk c.number c.packets && decide (totF isStmI sentOf c.streams≤c.total.used) && decide (totF isStmI seenOf c.streams≤c.inflow.seen)
theorem icA_guard (c:TConn):(bif bif bif bif !isConf c.own then true else !isConf c.peer then true else !areStr isStmI c.streams then true else !isCredit c.total then true else !isWin c.inflow)=!icA c:=by
 unfold icA;cases isConf c.own<;>cases isConf c.peer<;>cases areStr isStmI c.streams<;>cases isCredit c.total<;>cases isWin c.inflow<;>rfl
theorem icB_guard (c:TConn):(bif bif bif !isCount c.openBidi then true else !isCount c.openUni then true else !isAllow c.allowBidi then true else !isAllow c.allowUni)=!icB c:=by
 unfold icB;cases isCount c.openBidi<;>cases isCount c.openUni<;>cases isAllow c.allowBidi<;>cases isAllow c.allowUni<;>rfl
theorem icC_guard (c:TConn):(bif bif bif !inB c.last (-1) 4611686018427387903 then true else !inB c.number 0 1000000 then true else !inB c.now 0 1000000 then true else !inB c.closed 0 255)=!icC c:=by
 unfold icC;cases inB c.last (-1) 4611686018427387903<;>cases inB c.number 0 1000000<;>cases inB c.now 0 1000000<;>cases inB c.closed 0 255<;>rfl
theorem ic_parts (c:TConn):isConnI c=(icA c && icB c && icC c && icD c):=by
 unfold isConnI isConnW connA connB icA icB icC icD
 ac_rfl
set_option maxHeartbeats 8000000 in
theorem impl_IsConn (c:TConn) (hz:SzC c):PureCall Tryz.prog 19 [.agg (TConn.enc c)] [.one (.bool (isConnI c))]:=by
 refine pureT 101 Tryz.func19 Tryz.call19 [.tmp 2] ?_
 intro ok
 clear ok
 have gA:=icA_guard c
 have gB:=icB_guard c
 have gC:=icC_guard c
 obtain ⟨z1,z2,z3,z4⟩:=hz
 rw [ic_parts c]
 try simp only [go_sem]
 repeat' (first
  |((first|refine CallS.intro (by first|assumption|(apply impl_IsConf<;>first|assumption|omega)|(apply impl_AreStreams<;>first|assumption|omega)|(apply impl_IsCredit<;>first|assumption|omega)|(apply impl_IsWindow<;>first|assumption|omega)) ?_|refine CallK.intro (by first|assumption|(apply impl_IsConf<;>first|assumption|omega)|(apply impl_AreStreams<;>first|assumption|omega)|(apply impl_IsCredit<;>first|assumption|omega)|(apply impl_IsWindow<;>first|assumption|omega)) ?_|with_reducible refine gTrueS ?_|with_reducible refine gFalseS ?_|with_reducible refine gTrue ?_|with_reducible refine gFalse ?_|refine gSymS ?_|refine gSym ?_)<;>simp only [go_sem])
  |(with_reducible refine sideI ?_)|fail)
 rw [gA]
 cases hA:icA c with
 |false=>simp only [go_sem,Bool.not_false,Bool.false_and]
 |true=>
 simp only [Bool.not_true]
 try simp only [go_sem]
 repeat' (first
  |((first|refine CallS.intro (by first|assumption|(apply impl_IsCount<;>first|assumption|omega)|(apply impl_IsAllow<;>first|assumption|omega)) ?_|refine CallK.intro (by first|assumption|(apply impl_IsCount<;>first|assumption|omega)|(apply impl_IsAllow<;>first|assumption|omega)) ?_|with_reducible refine gTrueS ?_|with_reducible refine gFalseS ?_|with_reducible refine gTrue ?_|with_reducible refine gFalse ?_|refine gSymS ?_|refine gSym ?_)<;>simp only [go_sem])
  |(with_reducible refine sideI ?_)|fail)
 rw [gB]
 cases hB:icB c with
 |false=>simp only [go_sem,Bool.not_false,Bool.false_and,Bool.and_false]
 |true=>
 simp only [Bool.not_true]
 try simp only [go_sem]
 repeat' (first
  |((first|refine CallS.intro (by first|assumption|(apply impl_within<;>first|assumption|omega)) ?_|refine CallK.intro (by first|assumption|(apply impl_within<;>first|assumption|omega)) ?_|with_reducible refine gTrueS ?_|with_reducible refine gFalseS ?_|with_reducible refine gTrue ?_|with_reducible refine gFalse ?_|refine gSymS ?_|refine gSym ?_)<;>simp only [go_sem])
  |(with_reducible refine sideI ?_)|fail)
 rw [gC]
 cases hC:icC c with
 |false=>simp only [go_sem,Bool.not_false,Bool.false_and,Bool.and_false]
 |true=>
 simp only [Bool.not_true]
 try simp only [go_sem]
 repeat' (first
  |((first|refine CallS.intro (by first|assumption|(apply impl_arePackets<;>first|assumption|omega)|(apply impl_SentTotal<;>first|assumption|omega)|(apply impl_SeenTotal<;>first|assumption|omega)) ?_|refine CallK.intro (by first|assumption|(apply impl_arePackets<;>first|assumption|omega)|(apply impl_SentTotal<;>first|assumption|omega)|(apply impl_SeenTotal<;>first|assumption|omega)) ?_|with_reducible refine gTrueS ?_|with_reducible refine gFalseS ?_|with_reducible refine gTrue ?_|with_reducible refine gFalse ?_|refine gSymS ?_|refine gSym ?_|refine drawE_intro mxIsConn0 (by kernel_rfl) (by rfl) ?_)<;>simp only [go_sem])
  |(with_reducible refine sideI ?_)|fail)
 refine one_bool ?_
 unfold icD
 simp only [bif_and]
set_option maxRecDepth 100000
def mxCntI0:List (List Rl):=mxD 12 [528524,528522,528516,528498,521883,521721,531076,529618,525204,511758,472392,354294]
attribute [go_sem] mxCntI0
set_option maxHeartbeats 8000000 in
theorem impl_AuditCounts (c:TConn) (hz:SzC c):PureCall Tryz.prog 12 [.agg (TConn.enc c)] [.one (.bool (audCt isStmI overI c))]:=by
 refine pureT 76 Tryz.func12 Tryz.call12 [.tmp 2] ?_
 intro ok
 clear ok
 have hE:audCt isStmI overI c=(isConnI c && c.streams.all (fun s=>!ctBad overI c.server s) && ctEnd c):=rfl
 have hz1:=hz.1
 have hz2:=hz.2.1
 try simp only [go_sem]
 repeat' (first
  |((first|refine CallS.intro (by first|assumption|(apply impl_IsConn<;>first|assumption|omega)) ?_|refine CallK.intro (by first|assumption|(apply impl_IsConn<;>first|assumption|omega)) ?_|with_reducible refine gTrueS ?_|with_reducible refine gFalseS ?_|with_reducible refine gTrue ?_|with_reducible refine gFalse ?_|refine gSymS ?_|refine gSym ?_)<;>simp only [go_sem])
  |(with_reducible refine sideI ?_)|fail)
 cases hI:isConnI c with
 |false=>simp only [go_sem,Bool.not_false];simp [hE,hI]
 |true=>
 simp only [go_sem,Bool.not_true,lM]
 refine LoopK.intro (fun i:Nat=>⟨(.junk::.ptr 0 0 0::.d (.bool false)::.d (.int .i64 ((c.streams.take i).countP (ownB c.server):Nat))::.d (.int .i64 ((i:Int) - ((c.streams.take i).countP (ownB c.server):Nat)))::.ptr 1 0 0::jn 7 (.d (.sl 39 (c.streams.map TStream.enc))::.d (.int .i64 c.streams.length)::.d (.int .i64 i)::jn 60 [])),[.box (TConn.ve c),.box [.d (.int .i64 ((c.streams.take i).countP (bidB c.server):Nat)),.d (.int .i64 ((c.streams.take i).countP (uniB c.server):Nat))]]⟩) (fun i=>c.streams.length - i) (fun i=>i≤c.streams.length∧(c.streams.take i).all (fun s=>!ctBad overI c.server s)=true) 0 [0,1] ⟨by omega,by simp⟩ ?_ ?_
 ·simp only [go_sem];simp
 ·rintro i ⟨hi,he⟩
  by_cases h1:i < c.streams.length
  ·have h1':decide ((i:Int) < (c.streams.length:Int))=true:=dT (by omega)
   have hxi:=map_at TStream.enc c.streams i h1
   have hs:=all_succ (fun s=>!ctBad overI c.server s) c.streams i h1
   have hn:=fun h=>all_not (fun s=>!ctBad overI c.server s) c.streams i h1 h
   have hS:=hz2 _ (List.getElem_mem h1)
   have c1:=cntP_take (ownB c.server) c.streams i h1
   have c2:=cntP_take (bidB c.server) c.streams i h1
   have c3:=cntP_take (uniB c.server) c.streams i h1
   have hT:(c.streams.take i).length=i:=by simp;omega
   have d1:(c.streams.take i).countP (ownB c.server)≤i:=by have:=List.countP_le_length (p:=ownB c.server) (l:=c.streams.take i);omega
   have d2:(c.streams.take i).countP (bidB c.server)≤i:=by have:=List.countP_le_length (p:=bidB c.server) (l:=c.streams.take i);omega
   have d3:(c.streams.take i).countP (uniB c.server)≤i:=by have:=List.countP_le_length (p:=uniB c.server) (l:=c.streams.take i);omega
   have hw:∀ k:Nat,k≤i→IntKind.i64.wrap ((k:Int) + 1)=((k + 1:Nat):Int):=by intro k hk;rw [w64]<;>omega
   generalize (c.streams.take i).countP (ownB c.server)=n1 at *
   generalize (c.streams.take i).countP (bidB c.server)=n2 at *
   generalize (c.streams.take i).countP (uniB c.server)=n3 at *
   generalize c.streams[i]=s at *
   have w0:=hw i (Nat.le_refl _)
   have w1:=hw _ d1
   have w2:=hw _ d2
   have w3:=hw _ d3
   have w2':IntKind.i64.wrap ((n2:Int) + 0)=(n2:Int):=by rw [w64]<;>omega
   have w3':IntKind.i64.wrap ((n3:Int) + 0)=(n3:Int):=by rw [w64]<;>omega
   have w4:IntKind.i64.wrap ((i:Int) - (n1:Int) + 1)=((i + 1:Nat):Int) - (n1:Int):=by rw [w64]<;>omega
   have w5:((i + 1:Nat):Int) - ((n1 + 1:Nat):Int)=(i:Int) - (n1:Int):=by omega
   obtain ⟨hS1,hS2,hS3,hS4⟩:=hS
   have hS3:∀ ch ∈ s.recv.buffer.chunks,ch.data.length≤1048576:=fun ch hc=>by have:=hS3 ch hc;omega
   try simp only [go_sem,lM,tN,hxi,TStream.enc,h1']
   repeat' (first
    |((first|refine CallS.intro (by first|assumption|(apply impl_IsOwn<;>first|assumption|omega)) ?_|refine CallK.intro (by first|assumption|(apply impl_IsOwn<;>first|assumption|omega)) ?_|with_reducible refine gTrueS ?_|with_reducible refine gFalseS ?_|with_reducible refine gTrue ?_|with_reducible refine gFalse ?_|refine gSymS ?_|refine gSym ?_)<;>simp only [go_sem])
    |(with_reducible refine sideI ?_)|fail)
   cases ho:isOwn c.server s.id with
   |true=>
    rw [show ownB c.server s=true from ho] at c1
    rw [show bidB c.server s=false by unfold bidB;rw [ho];rfl] at c2
    rw [show uniB c.server s=false by unfold uniB;rw [ho];rfl] at c3
    simp only [go_sem]
    refine RoundE.intro (i + 1) [0,1] ⟨by omega,by rw [hs,he];unfold ctBad;rw [ho];rfl⟩ (by omega) ?_
    simp only [go_sem,w0,w1,c1,c2,c3,if_true,w5];simp
   |false=>
    rw [show ownB c.server s=false from ho] at c1
    try simp only [go_sem]
    repeat' (first
     |((first|refine CallS.intro (by first|assumption|(apply impl_IsOver<;>first|assumption|omega)) ?_|refine CallK.intro (by first|assumption|(apply impl_IsOver<;>first|assumption|omega)) ?_|with_reducible refine gTrueS ?_|with_reducible refine gFalseS ?_|with_reducible refine gTrue ?_|with_reducible refine gFalse ?_|refine gSymS ?_|refine gSym ?_|refine drawE_intro [[.post,.post,.un,.un,.post],[.pre,.post,.un,.un,.post],[.un,.un,.post,.post,.post],[.un,.un,.pre,.post,.post],[.pre,.pre,.pre,.pre,.post]] (by kernel_rfl) (by rfl) ?_)<;>simp only [go_sem])
     |(with_reducible refine sideI ?_)|fail)
    change condE (s.counted != overI s) _ _
    cases hb:(s.counted != overI s) with
    |true=>
     have:=hn (by unfold ctBad;rw [ho,hb];rfl)
     simp only [go_sem]
     simp [hE,this]
    |false=>
     have hbad:ctBad overI c.server s=false:=by unfold ctBad;rw [hb];simp
     simp only [go_sem,w4]
     cases hu:isUni s.id with
     |true=>
      rw [show bidB c.server s=false by unfold bidB;rw [hu];simp] at c2
      cases hc:s.counted with
      |true=>
       rw [show uniB c.server s=true by unfold uniB;rw [hc,hu,ho];rfl] at c3
       try simp only [go_sem,lM,hu,hc,oneB]
       repeat' (first
        |((first|refine CallS.intro (by first|assumption|(apply impl_IsUniId<;>first|assumption|omega)|(apply impl_one<;>first|assumption|omega)) ?_|refine CallK.intro (by first|assumption|(apply impl_IsUniId<;>first|assumption|omega)|(apply impl_one<;>first|assumption|omega)) ?_|with_reducible refine gTrueS ?_|with_reducible refine gFalseS ?_|with_reducible refine gTrue ?_|with_reducible refine gFalse ?_|refine gSymS ?_|refine gSym ?_|refine drawE_intro mxCntI0 (by kernel_rfl) (by rfl) ?_)<;>simp only [go_sem,hu,oneB])
        |(with_reducible refine sideI ?_)|fail)
       refine RoundE.intro (i + 1) [0,1] ⟨by omega,by rw [hs,he,hbad];rfl⟩ (by omega) ?_
       simp only [go_sem,w0,w3,c1,c2,c3,if_true];simp
      |false=>
       rw [show uniB c.server s=false by unfold uniB;rw [hc];simp] at c3
       try simp only [go_sem,lM,hu,hc,oneB]
       repeat' (first
        |((first|refine CallS.intro (by first|assumption|(apply impl_IsUniId<;>first|assumption|omega)|(apply impl_one<;>first|assumption|omega)) ?_|refine CallK.intro (by first|assumption|(apply impl_IsUniId<;>first|assumption|omega)|(apply impl_one<;>first|assumption|omega)) ?_|with_reducible refine gTrueS ?_|with_reducible refine gFalseS ?_|with_reducible refine gTrue ?_|with_reducible refine gFalse ?_|refine gSymS ?_|refine gSym ?_|refine drawE_intro mxCntI0 (by kernel_rfl) (by rfl) ?_)<;>simp only [go_sem,hu,oneB])
        |(with_reducible refine sideI ?_)|fail)
       refine RoundE.intro (i + 1) [0,1] ⟨by omega,by rw [hs,he,hbad];rfl⟩ (by omega) ?_
       simp only [go_sem,w0,w3',c1,c2,c3];simp
     |false=>
      rw [show uniB c.server s=false by unfold uniB;rw [hu];simp] at c3
      cases hc:s.counted with
      |true=>
       rw [show bidB c.server s=true by unfold bidB;rw [hc,hu,ho];rfl] at c2
       try simp only [go_sem,lM,hu,hc,oneB]
       repeat' (first
        |((first|refine CallS.intro (by first|assumption|(apply impl_IsUniId<;>first|assumption|omega)|(apply impl_one<;>first|assumption|omega)) ?_|refine CallK.intro (by first|assumption|(apply impl_IsUniId<;>first|assumption|omega)|(apply impl_one<;>first|assumption|omega)) ?_|with_reducible refine gTrueS ?_|with_reducible refine gFalseS ?_|with_reducible refine gTrue ?_|with_reducible refine gFalse ?_|refine gSymS ?_|refine gSym ?_|refine drawE_intro mxCntI0 (by kernel_rfl) (by rfl) ?_)<;>simp only [go_sem,hu,oneB])
        |(with_reducible refine sideI ?_)|fail)
       refine RoundE.intro (i + 1) [0,1] ⟨by omega,by rw [hs,he,hbad];rfl⟩ (by omega) ?_
       simp only [go_sem,w0,w2,c1,c2,c3,if_true];simp
      |false=>
       rw [show bidB c.server s=false by unfold bidB;rw [hc];simp] at c2
       try simp only [go_sem,lM,hu,hc,oneB]
       repeat' (first
        |((first|refine CallS.intro (by first|assumption|(apply impl_IsUniId<;>first|assumption|omega)|(apply impl_one<;>first|assumption|omega)) ?_|refine CallK.intro (by first|assumption|(apply impl_IsUniId<;>first|assumption|omega)|(apply impl_one<;>first|assumption|omega)) ?_|with_reducible refine gTrueS ?_|with_reducible refine gFalseS ?_|with_reducible refine gTrue ?_|with_reducible refine gFalse ?_|refine gSymS ?_|refine gSym ?_|refine drawE_intro mxCntI0 (by kernel_rfl) (by rfl) ?_)<;>simp only [go_sem,hu,oneB])
        |(with_reducible refine sideI ?_)|fail)
       refine RoundE.intro (i + 1) [0,1] ⟨by omega,by rw [hs,he,hbad];rfl⟩ (by omega) ?_
       simp only [go_sem,w0,w2',c1,c2,c3];simp
  ·have h1':decide ((i:Int) < (c.streams.length:Int))=false:=dF (by omega)
   obtain rfl:i=c.streams.length:=by omega
   rw [tL] at he
   try simp only [go_sem,h1',tL]
   repeat' (first
    |((first|with_reducible refine gTrueS ?_|with_reducible refine gFalseS ?_|with_reducible refine gTrue ?_|with_reducible refine gFalse ?_|refine gSymS ?_|refine gSym ?_)<;>simp only [go_sem])
    |(with_reducible refine sideI ?_)|fail)
   have hc:=List.countP_le_length (p:=ownB c.server) (l:=c.streams)
   have hW:IntKind.i64.wrap ((c.streams.length:Int) - (c.streams.countP (ownB c.server):Nat))=(c.streams.length:Int) - (c.streams.countP (ownB c.server):Nat):=by rw [w64]<;>omega
   refine one_bool ?_
   simp [hW,hE,hI,he,ctEnd,Bool.and_assoc]
set_option maxRecDepth 100000
def audAll (ok over:TStream→Bool) (c:TConn):Bool:=audCr ok c && audWi ok c && audFl ok c && audCt ok over c
def faultF (ok over:TStream→Bool) (c:TConn):List UInt8:=
 if !isConnW ok c then [102,111,114,109] else if !audCr ok c then [99,114,101,100,105,116,115] else if !audWi ok c then [119,105,110,100,111,119,115] else if !audFl ok c then [102,108,105,103,104,116] else if !audCt ok over c then [99,111,117,110,116,115] else []
theorem spec_AuditConn (c:TConn) (hz:SzC c):PureCall Tryz.prog 15 [.agg (TConn.enc c)] [.one (.bool (audAll isStmS overS c))]:=by
 refine pureT 17 Tryz.func15 Tryz.call15 [.tmp 2] ?_
 intro ok
 clear ok
 cases h1:audCr isStmS c<;>cases h2:audWi isStmS c<;>cases h3:audFl isStmS c
 all_goals
  try simp only [go_sem]
  repeat' (first
   |((first|refine CallS.intro (by first|assumption|(apply spec_AuditCredits<;>first|assumption|omega)|(apply spec_AuditWindows<;>first|assumption|omega)|(apply spec_AuditFlight<;>first|assumption|omega)|(apply spec_AuditCounts<;>first|assumption|omega)) ?_|refine CallK.intro (by first|assumption|(apply spec_AuditCredits<;>first|assumption|omega)|(apply spec_AuditWindows<;>first|assumption|omega)|(apply spec_AuditFlight<;>first|assumption|omega)|(apply spec_AuditCounts<;>first|assumption|omega)) ?_|with_reducible refine gTrueS ?_|with_reducible refine gFalseS ?_|with_reducible refine gTrue ?_|with_reducible refine gFalse ?_|refine gSymS ?_|refine gSym ?_)<;>simp only [go_sem,h1,h2,h3])
   |(with_reducible refine sideI ?_)|fail)
  simp [audAll,h1,h2,h3]
theorem spec_FaultOf (c:TConn) (hz:SzC c):PureCall Tryz.prog 17 [.agg (TConn.enc c)] [.one (.str (faultF isStmS overS c))]:=by
 refine pureT 23 Tryz.func17 Tryz.call17 [.tmp 2] ?_
 intro ok
 clear ok
 cases h0:isConnS c<;>cases h1:audCr isStmS c<;>cases h2:audWi isStmS c<;>cases h3:audFl isStmS c<;>cases h4:audCt isStmS overS c
 all_goals
  try simp only [go_sem]
  repeat' (first
   |((first|refine CallS.intro (by first|assumption|(apply spec_IsConn<;>first|assumption|omega)|(apply spec_AuditCredits<;>first|assumption|omega)|(apply spec_AuditWindows<;>first|assumption|omega)|(apply spec_AuditFlight<;>first|assumption|omega)|(apply spec_AuditCounts<;>first|assumption|omega)) ?_|refine CallK.intro (by first|assumption|(apply spec_IsConn<;>first|assumption|omega)|(apply spec_AuditCredits<;>first|assumption|omega)|(apply spec_AuditWindows<;>first|assumption|omega)|(apply spec_AuditFlight<;>first|assumption|omega)|(apply spec_AuditCounts<;>first|assumption|omega)) ?_|with_reducible refine gTrueS ?_|with_reducible refine gFalseS ?_|with_reducible refine gTrue ?_|with_reducible refine gFalse ?_|refine gSymS ?_|refine gSym ?_)<;>simp only [go_sem,h0,h1,h2,h3,h4])
   |(with_reducible refine sideI ?_)|fail)
  simp [faultF,show isConnW isStmS c=isConnS c from rfl,h0,h1,h2,h3,h4]
set_option maxRecDepth 100000
def ctI (c:TConn):Prop:=PureCall Tryz.prog 12 [.agg (TConn.enc c)] [.one (.bool (audCt isStmI overI c))]
def faultI (c:TConn):List UInt8:=
 if !isConnI c then [102,111,114,109] else if !audCr isStmI c then [99,114,101,100,105,116,115] else if !audWi isStmI c then [119,105,110,100,111,119,115] else if !audFlI isStmI c then [102,108,105,103,104,116] else if !audCt isStmI overI c then [99,111,117,110,116,115] else []
theorem impl_FaultOf (c:TConn) (hz:SzC c) (hIC:icI c) (hCt:ctI c):PureCall Tryz.prog 16 [.agg (TConn.enc c)] [.one (.str (faultI c))]:=by
 refine pureT 23 Tryz.func16 Tryz.call16 [.tmp 2] ?_
 intro ok
 clear ok
 have h6:=impl_AuditCredits c hz hIC
 have h8:=impl_AuditWindows c hz hIC
 have h10:=impl_AuditFlight c hz hIC
 unfold icI at hIC
 unfold ctI at hCt
 cases h0:isConnI c<;>cases h1:audCr isStmI c<;>cases h2:audWi isStmI c<;>cases h3:audFlI isStmI c<;>cases h4:audCt isStmI overI c
 all_goals
  rw [h0] at hIC
  rw [h1] at h6
  rw [h2] at h8
  rw [h3] at h10
  rw [h4] at hCt
  try simp only [go_sem]
  repeat' (first
   |((first|refine CallS.intro (by first|assumption|(apply impl_IsConn<;>first|assumption|omega)|(apply impl_AuditCredits<;>first|assumption|omega)|(apply impl_AuditWindows<;>first|assumption|omega)|(apply impl_AuditFlight<;>first|assumption|omega)|(apply impl_AuditCounts<;>first|assumption|omega)) ?_|refine CallK.intro (by first|assumption|(apply impl_IsConn<;>first|assumption|omega)|(apply impl_AuditCredits<;>first|assumption|omega)|(apply impl_AuditWindows<;>first|assumption|omega)|(apply impl_AuditFlight<;>first|assumption|omega)|(apply impl_AuditCounts<;>first|assumption|omega)) ?_|with_reducible refine gTrueS ?_|with_reducible refine gFalseS ?_|with_reducible refine gTrue ?_|with_reducible refine gFalse ?_|refine gSymS ?_|refine gSym ?_)<;>simp only [go_sem])
   |(with_reducible refine sideI ?_)|fail)
  simp [faultI,h0,h1,h2,h3,h4]
def audI (c:TConn):Bool:=isConnI c && decide (faultI c=[])
theorem impl_AuditConn (c:TConn) (hz:SzC c) (hIC:icI c) (hCt:ctI c):PureCall Tryz.prog 14 [.agg (TConn.enc c)] [.one (.bool (audI c))]:=by
 refine pureT 10 Tryz.func14 Tryz.call14 [.tmp 2] ?_
 intro ok
 clear ok
 have hF:=impl_FaultOf c hz hIC hCt
 unfold icI at hIC
 cases h0:isConnI c
 all_goals
  rw [h0] at hIC
  try simp only [go_sem]
  repeat' (first
   |((first|refine CallS.intro (by first|assumption|(apply impl_IsConn<;>first|assumption|omega)|(apply impl_FaultOf<;>first|assumption|omega)) ?_|refine CallK.intro (by first|assumption|(apply impl_IsConn<;>first|assumption|omega)|(apply impl_FaultOf<;>first|assumption|omega)) ?_|with_reducible refine gTrueS ?_|with_reducible refine gFalseS ?_|with_reducible refine gTrue ?_|with_reducible refine gFalse ?_|refine gSymS ?_|refine gSym ?_)<;>simp only [go_sem])
   |(with_reducible refine sideI ?_)|fail)
  simp [audI,h0]
theorem areAsc_ok {α:Type} {key:α→Int} {ok:α→Bool} {l:List α} (h:areAsc key ok l=true):∀ x ∈ l,ok x=true:=by
 intro x hx
 obtain ⟨i,hi,rfl⟩:=List.getElem_of_mem hx
 simp only [areAsc,allN,List.all_eq_true,List.mem_range] at h
 have:=h i hi
 cases i with
 |zero=>rwa [ascB_zero _ _ _ hi] at this
 |succ j=>rw [ascB_succ _ _ _ _ hi,Bool.and_eq_true] at this;exact this.1
theorem conn_parts {ok:TStream→Bool} {c:TConn} (h:isConnW ok c=true):(∀ s ∈ c.streams,ok s=true)∧(∀ p ∈ c.packets,p.frames.all isFrame=true)∧isCredit c.total=true:=by
 simp only [isConnW,connA,areStr,Bool.and_eq_true,and_assoc] at h
 obtain ⟨_,_,h1,_,h2,_,_,_,_,_,h3,_⟩:=h
 refine ⟨areAsc_ok h1,fun p hp=>?_,h2⟩
 have:=areAsc_ok h3 p hp
 simp only [okPk,Bool.and_eq_true] at this
 exact this.2
theorem addR_bad {xs:List TRange} {r:TRange} (h:rOk r=false):addR xs r=xs:=by
 unfold addR;rw [h];simp
theorem carF_eq (id:Int) (acc:List TRange) {f:TFrame} (h:isFrame f=true):carF id acc f=carFI id acc f:=by
 by_cases hd:f.data=[]
 ·have h1:carG id f=false:=by unfold carG;simp [hd]
  unfold carF carFI
  rw [h1]
  split
  ·contradiction
  ·split
   ·refine (addR_bad ?_).symm
    simp only [isFrame,frameHead,isQ,inB,Bool.and_eq_true,and_assoc,decide_eq_true_eq] at h
    obtain ⟨_,_,_,_,h3,h4,_⟩:=h
    have hw:IntKind.i64.wrap (f.offset + (([]:List UInt8).length:Int))=f.offset:=by rw [w64]<;>simp<;>omega
    unfold rOk carR
    rw [hd,hw]
    simp
   ·rfl
 ·have h1:carG id f=carGI id f:=by unfold carG carGI;simp [hd]
  unfold carF carFI
  rw [h1]
theorem carP_eq (id:Int):∀ (l:List TFrame) (acc:List TRange),l.all isFrame=true→l.foldl (carF id) acc=l.foldl (carFI id) acc
 |[],_,_=>rfl
 |f::l,acc,h=>by
  rw [List.all_cons,Bool.and_eq_true] at h
  rw [List.foldl_cons,List.foldl_cons,carF_eq id acc h.1]
  exact carP_eq id l _ h.2
theorem carried_eq (id:Int):∀ (l:List TPacket) (acc:List TRange),(∀ p ∈ l,p.frames.all isFrame=true)→l.foldl (carP id) acc=l.foldl (carPI id) acc
 |[],_,_=>rfl
 |p::l,acc,h=>by
  rw [List.foldl_cons,List.foldl_cons]
  have:carP id acc p=carPI id acc p:=carP_eq id p.frames acc (h p (by simp))
  rw [this]
  exact carried_eq id l _ fun q hq=>h q (by simp [hq])
theorem snd_state {s:TSender} (h:isSndS s=true):decide (s.state < 4)=(decide (s.state≠4) && decide (s.state≠5)):=by
 simp only [isSndS,Bool.and_eq_true] at h
 have h2:=h.2
 split at h2
 ·rename_i h3
  simp only [isRst,Bool.or_eq_true,decide_eq_true_eq] at h3
  rcases h3 with h3|h3<;>rw [h3]<;>decide
 ·simp only [Bool.and_eq_true,decide_eq_true_eq] at h2
  have h4:stOf s=3∨stOf s=2∨stOf s=1∨stOf s=0:=by
   unfold stOf;repeat' split
   all_goals simp
  rw [← h2.2] at h4
  rcases h4 with h4|h4|h4|h4<;>rw [h4]<;>decide
theorem flBad_eq {l:List TPacket} {s:TStream} (h:isStmS s=true) (hp:∀ p ∈ l,p.frames.all isFrame=true):flBad l s=flBadI l s:=by
 simp only [isStmS,isStmW,Bool.and_eq_true,and_assoc] at h
 unfold flBad flBadI
 rw [snd_state h.1,show carried l s.id=flightI l s.id from carried_eq s.id l [] hp]
theorem all_eq {α:Type} {f g:α→Bool}:∀ {l:List α},(∀ x ∈ l,f x=g x)→l.all f=l.all g
 |[],_=>rfl
 |x::l,h=>by rw [List.all_cons,List.all_cons,h x (by simp),all_eq fun y hy=>h y (by simp [hy])]
/-- no sender has a hole -/
def NoH (c:TConn):Prop:=∀ s ∈ c.streams,noHole s.send
theorem InvC.noH {m:Nat} {c:TConn} (h:InvC m c):NoH c:=fun s hs=>(h.st s hs).snd.hole
theorem audCr_eq {c:TConn} (h:NoH c):audCr isStmS c=audCr isStmI c:=by
 have hs:∀ s ∈ c.streams,isStmS s=isStmI s:=fun s hs=>isStm_eq (h s hs)
 unfold audCr;rw [isConn_congr hs,totF_congr hs]
theorem audWi_eq {c:TConn} (h:NoH c):audWi isStmS c=audWi isStmI c:=by
 have hs:∀ s ∈ c.streams,isStmS s=isStmI s:=fun s hs=>isStm_eq (h s hs)
 unfold audWi;rw [isConn_congr hs,totF_congr hs]
theorem audCt_eq {c:TConn} (h:NoH c):audCt isStmS overS c=audCt isStmI overI c:=by
 have hs:∀ s ∈ c.streams,isStmS s=isStmI s:=fun s hs=>isStm_eq (h s hs)
 unfold audCt
 rw [isConn_congr hs]
 congr 2
 refine all_eq fun s hm=>?_
 unfold ctBad overS overI;rw [hs s hm]
theorem audFl_eq {c:TConn} (h:NoH c):audFl isStmS c=audFlI isStmI c:=by
 have hs:∀ s ∈ c.streams,isStmS s=isStmI s:=fun s hs=>isStm_eq (h s hs)
 unfold audFl audFlI
 rw [← isConn_congr hs]
 cases hc:isConnW isStmS c with
 |false=>rfl
 |true=>
  obtain ⟨h1,h2,_⟩:=conn_parts hc
  congr 1
  refine all_eq fun s hm=>?_
  rw [flBad_eq (h1 s hm) h2]
theorem fault_eq {c:TConn} (h:NoH c):faultF isStmS overS c=faultI c:=by
 have hI:isConnS c=isConnI c:=isConn_eq h
 have e1:=audCr_eq h
 have e2:=audWi_eq h
 have e3:=audFl_eq h
 have e4:=audCt_eq h
 unfold faultF faultI
 have hI':isConnW isStmS c=isConnI c:=hI
 simp only [e1,e2,e3,e4,hI']
theorem aud_eq {c:TConn} (h:NoH c):audAll isStmS overS c=audI c:=by
 have e1:=audCr_eq h
 have e2:=audWi_eq h
 have e3:=audFl_eq h
 have e4:=audCt_eq h
 unfold audAll audI faultI
 rw [e1,e2,e3,e4]
 have k:∀ {b:Bool},audCr isStmI c=b→b=true→isConnI c=true:=fun e hb=>by
  subst e;simp only [audCr,Bool.and_eq_true] at hb;exact hb.1.1
 cases hi:isConnI c<;>cases h1:audCr isStmI c<;>cases h2:audWi isStmI c<;>cases h3:audFlI isStmI c<;>cases h4:audCt isStmI overI c<;>simp
 all_goals (have:=k h1 rfl;rw [hi] at this;cases this)
theorem aud_fault (c:TConn) (_h:NoH c):audI c=decide (faultI c=[]):=by
 unfold audI
 cases hi:isConnI c with
 |true=>simp
 |false=>simp [faultI,hi]
def plusT (c:TConn):TConn:={ c with total:={ c.total with used:=IntKind.i64.wrap (c.total.used + 1) } }
theorem aud_plus {c:TConn} (h:audI c=true):audI (plusT c)=false:=by
 have k:∀ {d:TConn},audI d=true→isConnI d=true∧audCr isStmI d=true:=fun {d} hd=>by
  unfold audI at hd
  rw [Bool.and_eq_true,decide_eq_true_eq] at hd
  refine ⟨hd.1,?_⟩
  have h2:=hd.2
  unfold faultI at h2
  cases h3:audCr isStmI d with
  |true=>rfl
  |false=>simp [hd.1,h3] at h2
 cases hp:audI (plusT c) with
 |false=>rfl
 |true=>
  obtain ⟨h1,h2⟩:=k h
  obtain ⟨h3,h4⟩:=k hp
  have h5:=(conn_parts h1).2.2
  simp only [audCr,Bool.and_eq_true,decide_eq_true_eq] at h2 h4
  have e1:=h2.2
  have e2:=h4.2
  have e3:totF isStmI sentOf c.streams=IntKind.i64.wrap (c.total.used + 1):=e2
  rw [e1] at e3
  simp only [isCredit,isQ,inB,Bool.and_eq_true,decide_eq_true_eq] at h5
  rw [w64] at e3<;>omega
set_option maxRecDepth 100000
def mxLawFnAudits0:List (List Rl):=mxD 48 [79766443076872509863351,79766443076872509863349,79766443076872509863356,79766443076872509863334,79766443076872509863280,79766443076872509863118,79766443076872509856071,79766443076872509854613,79766443076872509859716,79766443076872509843678,79766443076872509804312,79766443076872509686214,79766443076872509331920,79766443076872493920131,79766443076872490731485,79766443076872501891746,79766443076872466816640,79766443076872380723198,79766443076872122442872,79766443076871347601894,79766443076837642019351,79766443076830668450549,79766443076855075941356,79766443076778366684534,79766443076590080326880,79766443076025221253918,79766443074330644035032,79766443000616535013491,79766442985365340043517,79766443038744522438426,79766442870981377768712,79766442459199113579414,79766441223852321011520,79766437517811943307838,79766276305055513197671,79766242950692113864533,79766359690964011530516,79765992792966618865998,79765092225154836871272,79762390521719490887094,79754285411413452934560,79401713113100801999331,79328767120346460426525,79584078094986655931346,78781672174688898630480,76812130370321676164718,70903504957220008767432,53177628717915006575574]
attribute [go_sem] mxLawFnAudits0
theorem laws_big (bs:List Int):PureCall Tryz.prog 4 [.one (.sl 1 (bs.map eU8))] [.one (.bool (decide (1048576 < (bs.length:Int))))]:=by
 refine pureT 6 Tryz.func4 Tryz.call4 [.tmp 2] ?_
 intro ok
 try simp only [go_sem,lM]
 repeat' (first
  |((first|with_reducible refine gTrueS ?_|with_reducible refine gFalseS ?_|with_reducible refine gTrue ?_|with_reducible refine gFalse ?_|refine gSymS ?_|refine gSym ?_|refine cSplit (fun h=>?_) (fun h=>?_))<;>simp only [go_sem,lM])
  |(with_reducible refine sideI ?_)|fail)
set_option maxHeartbeats 8000000 in
theorem laws_FnAudits (bs:List Int):PureCall Tryz.prog 3 [.one (.sl 1 (bs.map eU8))] [.one (.bool true)]:=by
 refine pureT 66 Tryz.func3 Tryz.call3 [.tmp 2] ?_
 intro ok
 simp only [go_sem]
 refine CallS.intro (laws_big bs) ?_
 simp only [go_sem]
 refine cSplit (fun h=>?_) (fun h=>?_)
 ·simp only [go_sem]
 simp only [go_sem]
 refine CallS.nd (DrawAuditConn_nd bs) rfl ?_
 rintro _ ⟨y,hI,rfl⟩
 simp only [go_sem,setD,lM]
 have hN:=hI.noH
 have hz:SzC y:=hI.sz (by omega)
 have hz':SzC (plusT y):=hz
 have hic:icI y:=impl_IsConn y hz
 have hct:ctI y:=impl_AuditCounts y hz
 have f6:=impl_AuditCredits y hz hic
 have f7:=spec_AuditCredits y hz
 have f8:=impl_AuditWindows y hz hic
 have f9:=spec_AuditWindows y hz
 have f10:=impl_AuditFlight y hz hic
 have f11:=spec_AuditFlight y hz
 have f12:=impl_AuditCounts y hz
 have f13:=spec_AuditCounts y hz
 have f14:=impl_AuditConn y hz hic hct
 have f15:=spec_AuditConn y hz
 have f16:=impl_FaultOf y hz hic hct
 have f17:=spec_FaultOf y hz
 have f18:=impl_AuditConn (plusT y) hz' (impl_IsConn (plusT y) hz') (impl_AuditCounts (plusT y) hz')
 rw [audCr_eq hN] at f7
 rw [audWi_eq hN] at f9
 rw [audFl_eq hN] at f11
 rw [audCt_eq hN] at f13
 rw [aud_eq hN] at f15
 rw [fault_eq hN] at f17
 have he:=aud_fault y hN
 have hp:audI y=true→audI (plusT y)=false:=aud_plus
 generalize audCr isStmI y=a1 at f6 f7
 generalize audWi isStmI y=a2 at f8 f9
 generalize audFlI isStmI y=a3 at f10 f11
 generalize audCt isStmI overI y=a4 at f12 f13
 generalize audI (plusT y)=a6 at f18 hp
 generalize audI y=a5 at f14 f15 he hp
 generalize faultI y=fs at f16 f17 he
 try simp only [go_sem,lM,bne_self_eq_false,← he,ne_eq,not_true_eq_false,decide_false]
 repeat' (first
  |((first|refine CallS.intro (by first|assumption|(apply impl_AuditCredits<;>first|assumption|omega)|(apply spec_AuditCredits<;>first|assumption|omega)|(apply impl_AuditWindows<;>first|assumption|omega)|(apply spec_AuditWindows<;>first|assumption|omega)|(apply impl_AuditFlight<;>first|assumption|omega)|(apply spec_AuditFlight<;>first|assumption|omega)|(apply impl_AuditCounts<;>first|assumption|omega)|(apply spec_AuditCounts<;>first|assumption|omega)|(apply impl_AuditConn<;>first|assumption|omega)|(apply spec_AuditConn<;>first|assumption|omega)|(apply impl_FaultOf<;>first|assumption|omega)|(apply spec_FaultOf<;>first|assumption|omega)) ?_|refine CallK.intro (by first|assumption|(apply impl_AuditCredits<;>first|assumption|omega)|(apply spec_AuditCredits<;>first|assumption|omega)|(apply impl_AuditWindows<;>first|assumption|omega)|(apply spec_AuditWindows<;>first|assumption|omega)|(apply impl_AuditFlight<;>first|assumption|omega)|(apply spec_AuditFlight<;>first|assumption|omega)|(apply impl_AuditCounts<;>first|assumption|omega)|(apply spec_AuditCounts<;>first|assumption|omega)|(apply impl_AuditConn<;>first|assumption|omega)|(apply spec_AuditConn<;>first|assumption|omega)|(apply impl_FaultOf<;>first|assumption|omega)|(apply spec_FaultOf<;>first|assumption|omega)) ?_|with_reducible refine gTrueS ?_|with_reducible refine gFalseS ?_|with_reducible refine gTrue ?_|with_reducible refine gFalse ?_|refine gSymS ?_|refine gSym ?_|refine drawE_intro mxLawFnAudits0 (by kernel_rfl) (by rfl) ?_)<;>simp only [go_sem,lM,bne_self_eq_false,← he,ne_eq,not_true_eq_false,decide_false])
  |(with_reducible refine sideI ?_)|fail)
 cases a5 with
 |false=>simp only [go_sem]
 |true=>
  rw [hp rfl] at f18
  simp only [go_sem]
  try simp only [go_sem,lM]
  repeat' (first
   |((first|refine CallS.intro (by first|assumption|(apply impl_AuditConn<;>first|assumption|omega)) ?_|refine CallK.intro (by first|assumption|(apply impl_AuditConn<;>first|assumption|omega)) ?_|with_reducible refine gTrueS ?_|with_reducible refine gFalseS ?_|with_reducible refine gTrue ?_|with_reducible refine gFalse ?_|refine gSymS ?_|refine gSym ?_)<;>simp only [go_sem])
   |(with_reducible refine sideI ?_)|fail)
end Gv
