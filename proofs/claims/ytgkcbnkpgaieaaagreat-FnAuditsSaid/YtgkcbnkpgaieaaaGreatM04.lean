/-
  Part of the proof: the machine, what functions compute, and the plain laws.
-/
import Derived.Test.YtgkcbnkpgaieaaaGreatM03
namespace Gv
open Go Go.Proofs
def totW (c:TConn):TWindow×Bool:=if mustRaise c.inflow then (raiseW c.inflow c.now c.own.trip,rwOk c.inflow c.now c.own.trip) else (c.inflow,c.tellTotal)
def allW (a:TAllow) (t:Bool):TAllow×Bool:=if mustAllow a then (raiseA a,raOk a) else (a,t)
def winG (s:TStream):Bool:=s.canRecv && decide (s.recv.state=0) && !s.stopped
def winW (c:TConn) (s:TStream):TWindow×Bool:=if winG s then (if mustRaise s.window then (raiseW s.window c.now c.own.trip,rwOk s.window c.now c.own.trip) else (s.window,s.tellMost)) else (s.window,false)
def frF (k i l:Int):TFrame:=⟨k,i,0,[],false,0,l,0,false⟩
def frU (k l:Int) (u:Bool):TFrame:=⟨k,0,0,[],false,0,l,0,u⟩
def frC (k i c z:Int):TFrame:=⟨k,i,0,[],false,c,0,z,false⟩
def strF1 (s:TStream):List TFrame:=if s.tellReset then [frC 4 s.id s.send.code s.send.sent] else []
def strF2 (s:TStream):List TFrame:=if s.tellStop && decide (s.recv.state < 2) then [frC 5 s.id s.stopCode 0] else []
def strF3 (c:TConn) (s:TStream):List TFrame:=if (winW c s).2 then [frF 17 s.id (winW c s).1.limit] else []
def strF4 (s:TStream):List TFrame:=if mustTell s.credit && s.canSend && decide (0 < (s.send.pending.length:Int)) then [frF 21 s.id s.credit.limit] else []
def strFr (c:TConn) (s:TStream):List TFrame:=strF1 s++strF2 s++strF3 c s++strF4 s
def ctlA (c:TConn):List TFrame:=(if (totW c).2 then [frU 16 (totW c).1.limit false] else [])++(if (allW c.allowBidi c.tellBidi).2 then [frU 18 (allW c.allowBidi c.tellBidi).1.limit false] else [])++(if (allW c.allowUni c.tellUni).2 then [frU 18 (allW c.allowUni c.tellUni).1.limit true] else [])
def ctlZ (c:TConn):List TFrame:=(if mustTell c.total then [frU 20 c.total.limit false] else [])++(if c.openBidi.blocked=c.openBidi.limit then [frU 22 c.openBidi.limit false] else [])++(if c.openUni.blocked=c.openUni.limit then [frU 22 c.openUni.limit true] else [])
def ctlFr (c:TConn):List TFrame:=if fineC c then ctlA c++c.streams.flatMap (strFr c)++ctlZ c else []
def doneS (c:TConn) (s:TStream) (k:Int):TStream:=
 if k=4 then { s with tellReset:=false } else if k=5 then { s with tellStop:=false } else if k=17 then { s with window:=if (winW c s).2 then (winW c s).1 else s.window,tellMost:=false } else if k=21 then { s with credit:=clearCr s.credit } else s
def markC (c:TConn) (f:TFrame):TConn:=
 if isConnS c then
  (if f.kind=16 then { c with inflow:=(totW c).1,tellTotal:=false }
   else if f.kind=18 then (if f.uni then { c with allowUni:=(allW c.allowUni false).1,tellUni:=false } else { c with allowBidi:=(allW c.allowBidi false).1,tellBidi:=false })
   else if f.kind=20 then { c with total:=clearCr c.total }
   else if f.kind=22 then (if f.uni then { c with openUni:={ c.openUni with blocked:=-1 } } else { c with openBidi:={ c.openBidi with blocked:=-1 } })
   else if (strOf c.streams f.stream).2 then putK c (doneS c (strI c f.stream) f.kind) else c)
 else c
def pieceF (id:Int) (p:TPiece):TFrame:=⟨8,id,p.offset,p.data,p.fin,0,0,0,false⟩
def pfLim (c:TConn) (s:TStream):Int:=minI s.credit.limit (IntKind.i64.wrap (s.send.sent + credLeft c.total))
def pfGo (s:TSender) (id lim room:Int):Nat→TPiece×Bool
 |0=>(zP,false)
 |n + 1=>if nextOk s (n + 1:Nat) lim then (if ((encF (pieceF id (nextP s (n + 1:Nat) lim))).length:Int)≤room then (nextP s (n + 1:Nat) lim,true) else pfGo s id lim room n) else (zP,false)
def pfG (c:TConn) (id room:Int):Bool:=isConnS c && (strOf c.streams id).2 && (strI c id).canSend && !decide (room < 3)
def pieceFor (c:TConn) (id room:Int):TPiece×Bool:=if pfG c id room then pfGo (strI c id).send id (pfLim c (strI c id)) room (minI room 60).toNat else (zP,false)
def mpG (c:TConn) (id:Int):Bool:=isConnS c && (strOf c.streams id).2 && (strI c id).canSend
def mpN (s:TStream) (p:TPiece):Int:=IntKind.i64.wrap ((sendS s.send p).sent - s.send.sent)
def mpOk (c:TConn) (id:Int) (p:TPiece):Bool:=mpG c id && (sendOk (strI c id).send p && useOk (strI c id).credit (mpN (strI c id) p) && useOk c.total (mpN (strI c id) p))
def mpS (s:TStream) (p:TPiece):TStream:={ s with send:=sendS s.send p,credit:=useCr s.credit (mpN s p) }
def markP (c:TConn) (id:Int) (p:TPiece):TConn:=if mpOk c id p then { c with total:=useCr c.total (mpN (strI c id) p),last:=id,streams:=putS c.streams (mpS (strI c id) p) } else c
def wants (s:TStream):Bool:=s.canSend && decide (s.send.state < 3) && (decide (0 < (s.send.pending.length:Int)) || decide (s.send.fin=1))
def candOf (s:TStream):TCandidate:=⟨s.id,s.priority⟩
def wantL (c:TConn):List TCandidate:=(c.streams.filter wants).map candOf
def noteS (s:TStream):TStream:={ s with credit:=noteCr s.credit }
def blockC (c:TConn) (id:Int):TConn:={ c with total:=noteCr c.total,streams:=putS c.streams (noteS (strI c id)) }
structure FillS where
 x:TConn
 skip:List Int
 fr:List TFrame
 room:Int
def fillL (q:FillS):List TCandidate:=q.skip.foldl withoutL (wantL q.x)
def fillId (q:FillS):Int:=nextS (fillL q) q.x.last
def fillP (q:FillS):TPiece×Bool:=pieceFor q.x (fillId q) q.room
def fillB (q:FillS):FillS:=⟨blockC q.x (fillId q),q.skip++[fillId q],q.fr,q.room⟩
def fillM (q:FillS):FillS:=⟨markP q.x (fillId q) (fillP q).1,q.skip,q.fr++[pieceF (fillId q) (fillP q).1],IntKind.i64.wrap (q.room - ((encF (pieceF (fillId q) (fillP q).1)).length:Int))⟩
def fillGo:Nat→FillS→FillS
 |0,q=>q
 |k + 1,q=>if fillId q < 0 then q else if (fillP q).2 then (if mpOk q.x (fillId q) (fillP q).1 then fillGo k (fillM q) else q) else fillGo k (fillB q)
structure CtlS where
 x:TConn
 fr:List TFrame
 room:Int
def ctlStep (q:CtlS) (f:TFrame):CtlS:=if ((encF f).length:Int)≤q.room then ⟨markC q.x f,q.fr++[f],IntKind.i64.wrap (q.room - ((encF f).length:Int))⟩ else q
def emG (c:TConn) (b:Int):Bool:=fineC c && inB b 1 400 && !decide (1000000≤c.number)
def emA (c:TConn) (b:Int):CtlS:=(ctlFr c).foldl ctlStep ⟨c,[],b⟩
def emB (c:TConn) (b:Int):FillS:=fillGo 200 ⟨(emA c b).x,[],(emA c b).fr,(emA c b).room⟩
def emC (c:TConn) (b:Int):TConn:=
 if emG c b then (if (emB c b).fr=[] then (emB c b).x else { (emB c b).x with packets:=(emB c b).x.packets++[⟨c.number,(emB c b).fr⟩],number:=IntKind.i64.wrap (c.number + 1) }) else c
def emOk (c:TConn) (b:Int):Bool:=emG c b && !decide ((emB c b).fr=[])
def emN (c:TConn) (b:Int):Int:=if emOk c b then c.number else -1
def emT (c:TConn) (b:Int):List UInt8:=if emOk c b then encP (emB c b).fr else []
def flN (s:TStream) (e:Int):Int:=newBytes s.recv e
def flE (c:TConn) (s:TStream) (e:Int):Int:=if flN s e=0 then 0 else if seeOk s.window (flN s e) && seeOk c.inflow (flN s e) then 0 else 3
def flS (s:TStream) (e:Int):TStream:=if flN s e=0 then s else { s with window:=seeW s.window (flN s e) }
def flC (c:TConn) (s:TStream) (e:Int):TConn:=if flN s e=0 then c else { c with inflow:=seeW c.inflow (flN s e) }
def rdN (s:TStream) (t:Int):Int:=maxI 0 (IntKind.i64.wrap (t - s.window.read))
def rdS (s:TStream) (t:Int):TStream:={ s with window:=rdW s.window (rdN s t) }
def rdC (c:TConn) (s:TStream) (t:Int):TConn:={ c with inflow:=rdW c.inflow (rdN s t) }
def dataEnd (f:TFrame):Int:=IntKind.i64.wrap (f.offset + (f.data.length:Int))
def withRcv (s:TStream) (r:TReceiver):TStream:={ s with recv:=r }
def hdG (c:TConn) (f:TFrame) (k:Int):Bool:=isConnS c && isFrame f && decide (f.kind=k)
def hdE (c:TConn) (f:TFrame):Int:=
 if hdG c f 8 then (if canRecv c.server f.stream then (if ensE c f.stream=0 then (if flE (ensC c f.stream) (strI (ensC c f.stream) f.stream) (dataEnd f)=0 then rdE (strI (ensC c f.stream) f.stream).recv f.offset f.data f.fin else flE (ensC c f.stream) (strI (ensC c f.stream) f.stream) (dataEnd f)) else ensE c f.stream) else 5) else 7
def hdS (x:TConn) (f:TFrame):TStream:=withRcv (flS (strI x f.stream) (dataEnd f)) (recvD (strI x f.stream).recv f.offset f.data f.fin)
def hdC (c:TConn) (f:TFrame):TConn:=if hdE c f=0 then saveC (flC (ensC c f.stream) (strI (ensC c f.stream) f.stream) (dataEnd f)) (hdS (ensC c f.stream) f) else c
def hrE (c:TConn) (f:TFrame):Int:=
 if hdG c f 4 then (if canRecv c.server f.stream then (if ensE c f.stream=0 then (if flE (ensC c f.stream) (strI (ensC c f.stream) f.stream) f.final=0 then rrE (strI (ensC c f.stream) f.stream).recv f.code f.final else flE (ensC c f.stream) (strI (ensC c f.stream) f.stream) f.final) else ensE c f.stream) else 5) else 7
def hrR (x:TConn) (f:TFrame):TReceiver:=resetRcv (strI x f.stream).recv f.code f.final
def hrB (x:TConn) (f:TFrame):Bool:=decide ((hrR x f).state=4) && decide ((strI x f.stream).recv.state≠4)
def hrS0 (x:TConn) (f:TFrame):TStream:=flS (strI x f.stream) f.final
def hrC0 (x:TConn) (f:TFrame):TConn:=flC x (strI x f.stream) f.final
def hrS (x:TConn) (f:TFrame):TStream:=withRcv (if hrB x f then rdS (hrS0 x f) f.final else hrS0 x f) (hrR x f)
def hrX (x:TConn) (f:TFrame):TConn:=if hrB x f then rdC (hrC0 x f) (hrS0 x f) f.final else hrC0 x f
def hrC (c:TConn) (f:TFrame):TConn:=if hrE c f=0 then saveC (hrX (ensC c f.stream) f) (hrS (ensC c f.stream) f) else c
def hsE (c:TConn) (f:TFrame):Int:=if hdG c f 5 then (if canSend c.server f.stream then ensE c f.stream else 5) else 7
def hsS (x:TConn) (f:TFrame):TStream:=if canR (strI x f.stream).send f.code then rstStr (strI x f.stream) f.code else strI x f.stream
def hsC (c:TConn) (f:TFrame):TConn:=if hsE c f=0 then saveC (ensC c f.stream) (hsS (ensC c f.stream) f) else c
def llOk (c:TConn) (f:TFrame):Bool:=if f.kind=21 then canRecv c.server f.stream else canSend c.server f.stream
def llE (c:TConn) (f:TFrame):Int:=if llOk c f then ensE c f.stream else 5
def llS (x:TConn) (f:TFrame):TStream:={ strI x f.stream with credit:=raiseCr (strI x f.stream).credit f.limit }
def llC (c:TConn) (f:TFrame):TConn:=if llE c f=0 then (if f.kind=17 then putK (ensC c f.stream) (llS (ensC c f.stream) f) else ensC c f.stream) else c
def hlG (c:TConn) (f:TFrame):Bool:=isConnS c && isFrame f
def hlE (c:TConn) (f:TFrame):Int:=if hlG c f then (if f.kind=16∨f.kind=18∨f.kind=20∨f.kind=22 then 0 else if f.kind=17∨f.kind=21 then llE c f else 7) else 7
def hlC (c:TConn) (f:TFrame):TConn:=
 if hlG c f then (if f.kind=16 then { c with total:=raiseCr c.total f.limit } else if f.kind=18 then (if f.uni then { c with openUni:=raiseC c.openUni f.limit } else { c with openBidi:=raiseC c.openBidi f.limit }) else if f.kind=17∨f.kind=21 then llC c f else c) else c
def hfE (c:TConn) (f:TFrame):Int:=if f.kind=8 then hdE c f else if f.kind=4 then hrE c f else if f.kind=5 then hsE c f else hlE c f
def hfC (c:TConn) (f:TFrame):TConn:=if f.kind=8 then hdC c f else if f.kind=4 then hrC c f else if f.kind=5 then hsC c f else hlC c f
def rsG (c:TConn) (id:Int):Bool:=fineC c && (strOf c.streams id).2 && (strI c id).canRecv
def rsR (c:TConn) (id m:Int):TReceiver:=readRcv (strI c id).recv m
def rsB (c:TConn) (id m:Int):Bool:=decide ((rsR c id m).state < 4)
def rsS0 (c:TConn) (id m:Int):TStream:=withRcv (strI c id) (rsR c id m)
def rsS (c:TConn) (id m:Int):TStream:=if rsB c id m then rdS (rsS0 c id m) (rsR c id m).buffer.next else rsS0 c id m
def rsX (c:TConn) (id m:Int):TConn:=if rsB c id m then rdC c (rsS0 c id m) (rsR c id m).buffer.next else c
def rsC (c:TConn) (id m:Int):TConn:=if rsG c id then saveC (rsX c id m) (rsS c id m) else c
def rsT (c:TConn) (id m:Int):List UInt8:=if rsG c id then readRcvS (strI c id).recv m else []
def rsE (c:TConn) (id m:Int):Bool:=rsG c id && (decide ((rsR c id m).state=3) || decide ((rsR c id m).state=5))
def pkIs (n:Int) (p:TPacket):Bool:=decide (p.number=n)
def pkOf (xs:List TPacket) (n:Int):TPacket×Bool:=match xs.find? (pkIs n) with|some p=>(p,true)|none=>(⟨0,[]⟩,false)
def dropP (c:TConn) (n:Int):TConn:={ c with packets:=c.packets.filter fun p=>!pkIs n p }
def pceOf (f:TFrame):TPiece:=⟨f.offset,f.data,f.fin⟩
def akS (s:TStream) (f:TFrame):TStream:=
 if f.kind=8 then withSnd s (ackS s.send (pceOf f)) else if f.kind=4 then { s with send:=ackRst s.send,tellReset:=if canAR s.send then false else s.tellReset } else if f.kind=5 then { s with tellStop:=false } else s
def akG (c:TConn) (f:TFrame):Bool:=(strOf c.streams f.stream).2 && aboutS f.kind
def akC (c:TConn) (f:TFrame):TConn:=if akG c f then saveC c (akS (strI c f.stream) f) else c
def loS (s:TStream) (f:TFrame):TStream:=
 if f.kind=8 then withSnd s (loseS s.send (pceOf f)) else if f.kind=4 then { s with tellReset:=decide (s.send.state=4) } else if f.kind=5 then { s with tellStop:=decide (s.recv.state < 2) } else if f.kind=17 then { s with tellMost:=true } else s
def loC (c:TConn) (f:TFrame):TConn:=
 if f.kind=16 then { c with tellTotal:=true } else if f.kind=18 then (if f.uni then { c with tellUni:=true } else { c with tellBidi:=true }) else if akG c f then putK c (loS (strI c f.stream) f) else c
def rpG (c:TConn) (n:Int):Bool:=fineC c && (pkOf c.packets n).2
def ackC (c:TConn) (n:Int):TConn:=if rpG c n then (pkOf c.packets n).1.frames.foldl akC (dropP c n) else c
def losC (c:TConn) (n:Int):TConn:=if rpG c n then (pkOf c.packets n).1.frames.foldl loC (dropP c n) else c
def newConn (v:Bool) (o p:TConf):TConn:=
 if isConf o && isConf p then ⟨v,o,p,[],newCredit p.total,newWindow o.total o.totalMost,newCount p.bidi,newCount p.uni,newAllow o.bidi,newAllow o.uni,false,false,false,-1,0,[],0,0⟩
 else ⟨false,⟨0,0,0,0,0,0,0,0⟩,⟨0,0,0,0,0,0,0,0⟩,[],⟨0,0,0,0⟩,⟨0,0,0,0,0,0⟩,⟨0,0,0⟩,⟨0,0,0⟩,⟨0,0,0,0⟩,⟨0,0,0,0⟩,false,false,false,0,0,[],0,0⟩
theorem InvS.same {m:Nat} {s t:TStream} (h:InvS m s) (h1:t.send=s.send) (h2:t.recv=s.recv):InvS m t:=⟨h1 ▸ h.snd,h2 ▸ h.ch,h2 ▸ h.ln⟩
theorem InvS.snd' {m:Nat} {s:TStream} (h:InvS m s) {x:TSender} (hx:InvSnd (8 * m) x):InvS m (withSnd s x):=⟨hx,h.ch,h.ln⟩
theorem InvC.same {m:Nat} {c d:TConn} (h:InvC m c) (h1:d.streams=c.streams) (h2:d.packets=c.packets):InvC m d:=⟨h1 ▸ h.ls,h1 ▸ h.st,h2 ▸ h.lp,h2 ▸ h.pk⟩
theorem InvC.strI {m:Nat} {c:TConn} (h:InvC m c) (id:Int):InvS m (strI c id):=strOf_inv h.st id
theorem strI_id {c:TConn} {id:Int} (h:(strOf c.streams id).2=true):(strI c id).id=id:=(strOf_id h).1
theorem invC_putI {m:Nat} {c:TConn} {id:Int} {s:TStream} (h:InvC m c) (hf:(strOf c.streams id).2=true) (hi:s.id=(strI c id).id) (hs:InvS m s):InvC m (putK c s):=
 invC_put h hs (by rw [hi,strI_id hf];exact hf)
theorem overC_same (c:TConn) (s:TStream):(overC c s).streams=c.streams∧(overC c s).packets=c.packets:=by
 unfold overC;repeat' split
 all_goals exact ⟨rfl,rfl⟩
theorem overT_same (c:TConn) (s:TStream):(overT c s).send=s.send∧(overT c s).recv=s.recv∧(overT c s).id=s.id:=by
 unfold overT;split<;>exact ⟨rfl,rfl,rfl⟩
theorem saveC_putK (c:TConn) (s:TStream):(saveC c s).streams=(putK c (overT c s)).streams∧(saveC c s).packets=(putK c (overT c s)).packets:=⟨rfl,(overC_same c s).2⟩
theorem invC_save {m:Nat} {c:TConn} {id:Int} {s:TStream} (h:InvC m c) (hf:(strOf c.streams id).2=true) (hi:s.id=id) (hs:InvS m s):InvC m (saveC c s):=by
 obtain ⟨o1,o2,o3⟩:=overT_same c s
 obtain ⟨p1,p2⟩:=saveC_putK c s
 exact (invC_put h (hs.same o1 o2) (by rw [o3,hi];exact hf)).same p1 p2
theorem SzS.over {c:TConn} {s:TStream} (h:SzS s):SzS (overT c s):=by
 obtain ⟨o1,o2,o3⟩:=overT_same c s
 unfold SzS;rw [o1,o2];exact h
theorem doneS_same (c:TConn) (s:TStream) (k:Int):(doneS c s k).send=s.send∧(doneS c s k).recv=s.recv∧(doneS c s k).id=s.id:=by
 unfold doneS;repeat' split
 all_goals exact ⟨rfl,rfl,rfl⟩
theorem invC_mark {m:Nat} {c:TConn} (h:InvC m c) (f:TFrame):InvC m (markC c f):=by
 unfold markC
 repeat' split
 all_goals first
  |exact h.same rfl rfl
  |(rename_i hf;obtain ⟨o1,o2,o3⟩:=doneS_same c (strI c f.stream) f.kind;exact invC_putI h hf o3 ((h.strI f.stream).same o1 o2))
def lowF (f:TFrame):Prop:=f.data.length≤60
theorem strFr_low {c:TConn} {s:TStream}:∀ f ∈ strFr c s,lowF f:=by
 intro f hf
 simp only [strFr,strF1,strF2,strF3,strF4,List.mem_append] at hf
 rcases hf with ((hf|hf)|hf)|hf<;>(split at hf<;>simp at hf;subst hf;simp [lowF,frC,frF])
theorem strFr_len (c:TConn) (s:TStream):(strFr c s).length≤4:=by
 simp only [strFr,strF1,strF2,strF3,strF4,List.length_append]
 have h:∀ (b:Bool) (f:TFrame),(if b=true then [f] else []).length≤1:=fun b f=>by cases b<;>simp
 have h1:=h s.tellReset (frC 4 s.id s.send.code s.send.sent)
 have h2:=h (s.tellStop && decide (s.recv.state < 2)) (frC 5 s.id s.stopCode 0)
 have h3:=h (winW c s).2 (frF 17 s.id (winW c s).1.limit)
 have h4:=h (mustTell s.credit && s.canSend && decide (0 < (s.send.pending.length:Int))) (frF 21 s.id s.credit.limit)
 omega
theorem flatM_len {α β:Type} (g:α→List β) (k:Nat):∀ (l:List α),(∀ x ∈ l,(g x).length≤k)→(l.flatMap g).length≤k * l.length
 |[],_=>by simp
 |x::l,h=>by
  have h1:=h x (by simp)
  have h2:=flatM_len g k l fun y hy=>h y (by simp [hy])
  rw [List.flatMap_cons,List.length_append,List.length_cons,Nat.mul_add]
  omega
theorem ctlA_ok (c:TConn):(ctlA c).length≤3∧∀ f ∈ ctlA c,lowF f:=by
 unfold ctlA
 cases (totW c).2<;>cases (allW c.allowBidi c.tellBidi).2<;>cases (allW c.allowUni c.tellUni).2<;>simp [lowF,frU]
theorem ctlZ_ok (c:TConn):(ctlZ c).length≤3∧∀ f ∈ ctlZ c,lowF f:=by
 unfold ctlZ
 cases mustTell c.total<;>by_cases h1:c.openBidi.blocked=c.openBidi.limit<;>by_cases h2:c.openUni.blocked=c.openUni.limit<;>simp [lowF,frU,h1,h2]
theorem ctlFr_ok {m:Nat} {c:TConn} (h:InvC m c):(ctlFr c).length≤102∧∀ f ∈ ctlFr c,lowF f:=by
 unfold ctlFr
 split
 ·obtain ⟨a1,a2⟩:=ctlA_ok c
  obtain ⟨z1,z2⟩:=ctlZ_ok c
  have:=flatM_len (strFr c) 4 c.streams fun s _=>strFr_len c s
  have:=h.ls
  refine ⟨by simp only [List.length_append];omega,fun f hf=>?_⟩
  rcases List.mem_append.1 hf with hf|hf
  ·rcases List.mem_append.1 hf with hf|hf
   ·exact a2 f hf
   ·obtain ⟨s,_,hs⟩:=List.mem_flatMap.1 hf
    exact strFr_low f hs
  ·exact z2 f hf
 ·simp
/-- After some control frames. -/
structure InvF (m k:Nat) (x:TConn) (fr:List TFrame):Prop where
 c:InvC m x
 n:fr.length≤k
 d:∀ f ∈ fr,lowF f
theorem InvF.mono {m k j:Nat} {x:TConn} {fr:List TFrame} (h:InvF m k x fr) (hk:k≤j):InvF m j x fr:=⟨h.c,by have:=h.n;omega,h.d⟩
theorem InvF.add {m k:Nat} {x y:TConn} {fr:List TFrame} {f:TFrame} (h:InvF m k x fr) (hy:InvC m y) (hf:lowF f):InvF m (k + 1) y (fr++[f]):=
 ⟨hy,by have:=h.n;simp;omega,fun g hg=>by rcases List.mem_append.1 hg with hg|hg;exact h.d g hg;simp at hg;subst hg;exact hf⟩
theorem ctlStep_inv {m k:Nat} {q:CtlS} {f:TFrame} (h:InvF m k q.x q.fr) (hf:lowF f):InvF m (k + 1) (ctlStep q f).x (ctlStep q f).fr:=by
 unfold ctlStep
 split
 ·exact h.add (invC_mark h.c f) hf
 ·exact h.mono (by omega)
theorem ctl_inv {m:Nat}:∀ (l:List TFrame) (k:Nat) (q:CtlS),InvF m k q.x q.fr→(∀ f ∈ l,lowF f)→InvF m (k + l.length) (l.foldl ctlStep q).x (l.foldl ctlStep q).fr
 |[],k,q,h,_=>h
 |f::l,k,q,h,hl=>by
  have:=ctl_inv l (k + 1) (ctlStep q f) (ctlStep_inv h (hl f (by simp))) fun g hg=>hl g (by simp [hg])
  rw [List.length_cons,show k + (l.length + 1)=k + 1 + l.length from by omega]
  exact this
theorem peekR_len (r:TRing) (o n:Int):((peekR r o n).length:Int)≤maxI 0 n:=by
 unfold peekR
 split
 ·rw [pkS_len];unfold maxI;split<;>omega
 ·unfold maxI;simp;split<;>omega
theorem nextP_len {s:TSender} {m l:Int} (h0:0≤m) (h1:m≤1000) (hp:upE s.ring.end' s.pending) (_he:s.ring.end'≤4611686018427387903):((nextP s m l).data.length:Int)≤m:=by
 unfold nextP
 split
 ·split
  ·rename_i hok _ r hr
   have hm:r ∈ s.pending:=List.mem_of_getElem? hr
   have hr1:=(rOk_iff _).1 (((areR_iff _).1 hp.1).1 r hm)
   have hr2:=hp.2 r hm
   have:=peekR_len s.ring r.low (IntKind.i64.wrap (npHigh r m l - r.low))
   simp only [nextOk,hr,Bool.and_eq_true,decide_eq_true_eq] at hok
   obtain ⟨_,k1,k2⟩:=hok
   have hmin:minI r.high l≤r.high:=by unfold minI;split<;>omega
   have hh:npHigh r m l - r.low≤m∧0≤npHigh r m l - r.low:=by
    unfold npHigh at k2 ⊢
    split
    ·rename_i g
     rw [if_pos g] at k2
     have e:maxI m 0=m:=by unfold maxI;split<;>omega
     rw [e] at k2 ⊢
     rw [w64] at k2 ⊢<;>omega
    ·rename_i g
     rw [w64] at g<;>omega
   have hw:IntKind.i64.wrap (npHigh r m l - r.low)=npHigh r m l - r.low:=by rw [w64]<;>omega
   simp only
   rw [hw] at this ⊢
   unfold maxI at this;split at this<;>omega
  ·simpa using h0
 ·simp [zP];omega
theorem pfGo_len {s:TSender} {id lim room:Int} (hp:upE s.ring.end' s.pending) (he:s.ring.end'≤4611686018427387903):∀ (n:Nat),n≤60→(pfGo s id lim room n).1.data.length≤60
 |0,_=>by simp [pfGo,zP]
 |n + 1,hn=>by
  unfold pfGo
  have:=nextP_len (m:=(n + 1:Nat)) (l:=lim) (by omega) (by omega) hp he
  split
  ·split
   ·show (nextP s ((n + 1:Nat):Int) lim).data.length≤60
    omega
   ·exact pfGo_len hp he n (by omega)
  ·simp [zP]
theorem pieceFor_len {m:Nat} {c:TConn} (h:InvC m c) (hm:m≤1000) (id room:Int):(pieceFor c id room).1.data.length≤60:=by
 have hs:=(h.strI id).snd
 unfold pieceFor
 split
 ·refine pfGo_len hs.p (by have:=hs.e1;omega) _ ?_
  unfold minI;split<;>omega
 ·simp [zP]
theorem mpOk_found {c:TConn} {id:Int} {p:TPiece} (h:mpOk c id p=true):(strOf c.streams id).2=true:=by
 simp only [mpOk,mpG,Bool.and_eq_true,and_assoc] at h;exact h.2.1
theorem invC_markP {m:Nat} {c:TConn} (h:InvC m c) (id:Int) (p:TPiece) (hp:p.data.length≤1048576):InvC m (markP c id p):=by
 unfold markP
 split
 ·rename_i hok
  have:=invC_putI (s:=mpS (strI c id) p) h (mpOk_found hok) rfl ⟨invSnd_send (h.strI id).snd hp,(h.strI id).ch,(h.strI id).ln⟩
  exact this.same rfl rfl
 ·exact h
theorem invC_block {m:Nat} {c:TConn} {id:Int} (h:InvC m c) (hf:(strOf c.streams id).2=true):InvC m (blockC c id):=by
 have:=invC_putI (s:=noteS (strI c id)) h hf rfl ((h.strI id).same rfl rfl)
 exact this.same rfl rfl
theorem aftL_mem (l:List Int) (last:Int):aftL l last=-1∨aftL l last ∈ l:=by
 unfold aftL
 split
 ·rename_i x hx;exact Or.inr (List.mem_of_find?_eq_some hx)
 ·split
  ·exact Or.inl rfl
  ·exact Or.inr (by simp)
theorem nextS_mem (l:List TCandidate) (last:Int):nextS l last=-1∨∃ c ∈ l,c.id=nextS l last:=by
 unfold nextS
 split
 ·rename_i c hc;exact Or.inr ⟨c,List.mem_of_find?_eq_some hc,rfl⟩
 ·rcases aftL_mem (nxSome (muL l) l) last with h|h
  ·exact Or.inl h
  ·right
   unfold nxSome at h ⊢
   obtain ⟨c,hc,hx⟩:=List.mem_flatMap.1 h
   exact ⟨c,hc,by simpa using ((List.mem_filter.1 hx).2:_) |> oT |>.symm⟩
theorem withoutL_mem:∀ (ids:List Int) (l:List TCandidate) (c:TCandidate),c ∈ ids.foldl withoutL l→c ∈ l
 |[],_,_,h=>h
 |i::ids,l,c,h=>(List.mem_filter.1 (withoutL_mem ids (withoutL l i) c h)).1
theorem strOf_mem {l:List TStream} {s:TStream} (h:s ∈ l):(strOf l s.id).2=true:=by
 unfold strOf
 split
 ·rfl
 ·rename_i hn
  rw [List.find?_eq_none] at hn
  have:=hn s h
  simp [idIs] at this
theorem fillId_found {q:FillS} (h:0≤fillId q):(strOf q.x.streams (fillId q)).2=true:=by
 rcases nextS_mem (fillL q) q.x.last with h1|⟨c,hc,h1⟩
 ·unfold fillId at h;omega
 ·have hw:=withoutL_mem q.skip (wantL q.x) c hc
  obtain ⟨s,hs,rfl⟩:=List.mem_map.1 hw
  have:=strOf_mem (List.mem_filter.1 hs).1
  have e:s.id=fillId q:=h1
  rw [← e];exact this
theorem fill_inv {m:Nat} (hm:m≤1000):∀ (n k:Nat) (q:FillS),InvF m k q.x q.fr→InvF m (k + n) (fillGo n q).x (fillGo n q).fr
 |0,k,q,h=>h
 |n + 1,k,q,h=>by
  unfold fillGo
  split
  ·exact h.mono (by omega)
  ·rename_i h0
   split
   ·split
    ·rw [show k + (n + 1)=k + 1 + n from by omega]
     refine fill_inv hm n (k + 1) (fillM q) ?_
     have hl:=pieceFor_len h.c hm (fillId q) q.room
     exact h.add (invC_markP h.c _ _ (by unfold fillP;omega)) hl
    ·exact h.mono (by omega)
   ·refine (fill_inv hm n k (fillB q) ⟨invC_block h.c (fillId_found (by omega)),h.n,h.d⟩).mono (by omega)
theorem emA_inv {m:Nat} {c:TConn} (h:InvC m c) (b:Int):InvF m 102 (emA c b).x (emA c b).fr:=by
 obtain ⟨h1,h2⟩:=ctlFr_ok h
 exact (ctl_inv (ctlFr c) 0 ⟨c,[],b⟩ ⟨h,by simp,by simp⟩ h2).mono (by omega)
theorem emB_inv {m:Nat} {c:TConn} (h:InvC m c) (hm:m≤1000) (b:Int):InvF m 302 (emB c b).x (emB c b).fr:=(fill_inv hm 200 102 _ (emA_inv h b)).mono (by omega)
theorem invC_em {m:Nat} {c:TConn} (h:InvC m c) (hm:m≤1000) (b:Int):InvC (m + 1) (emC c b):=by
 have hb:=emB_inv h hm b
 unfold emC
 split
 ·split
  ·exact hb.c.mono (by omega)
  ·have hc:=hb.c.mono (show m≤m + 1 by omega)
   refine ⟨hc.ls,hc.st,?_,fun p hp=>?_⟩
   ·have:=hb.c.lp;simp;omega
   ·rcases List.mem_append.1 hp with hp|hp
    ·exact hc.pk p hp
    ·simp at hp;subst hp
     exact ⟨by have:=hb.n;show (emB c b).fr.length≤500;omega,hb.d⟩
 ·exact h.mono (by omega)
theorem putS_has (l:List TStream) (s:TStream):s ∈ putS l s:=by
 unfold putS
 split
 ·rename_i i hi
  rw [List.findIdx?_eq_some_iff_getElem] at hi
  obtain ⟨h,_⟩:=hi
  exact List.mem_set h _
 ·have:∀ (l:List TStream) (q:List TStream×Bool),(q.2=true→s ∈ q.1)→((l.foldl (putStep s) q).2=true→s ∈ (l.foldl (putStep s) q).1):=by
   intro l
   induction l with
   |nil=>intro q h;exact h
   |cons x l ih=>
    intro q h
    rw [List.foldl_cons]
    refine ih _ ?_
    unfold putStep
    split
    ·intro _;simp
    ·intro hq;simp only at hq ⊢;exact List.mem_append_left _ (h hq)
  split
  ·rename_i h2;exact this l ([],false) (by simp) h2
  ·simp
theorem mkId_zero {id:Int} (h:isQ id=true):mkId id 0=id:=by
 simp only [isQ,inB,Bool.and_eq_true,decide_eq_true_eq] at h
 unfold mkId
 simp only [Int.natCast_zero,Int.mul_zero]
 rw [w64 (n:=0) (by omega) (by omega),w64]<;>omega
theorem ensL_found {v:Bool} {o p:TConf} {id:Int} (hn:nsOk id o p=true):∀ (k:Nat) (l:List TStream),0 < k→(strOf (ensL v o p id k l) id).2=true
 |0,_,h=>by omega
 |k + 1,l,_=>by
  cases k with
  |zero=>
   have hq:isQ id=true:=by simp only [nsOk,Bool.and_eq_true] at hn;exact hn.1.1
   have hi:(newStr v (mkId id 0) o p).id=id:=by rw [mkId_zero hq];unfold newStr;rw [hn];rfl
   have:=strOf_mem (putS_has l (newStr v (mkId id 0) o p))
   rw [hi] at this
   exact this
  |succ k=>exact ensL_found hn (k + 1) _ (by omega)
theorem fIx_found {l:List TStream} {id:Int} (h:0≤fIx (idIs id) l):(strOf l id).2=true:=by
 rcases fIx_cases (idIs id) l with ⟨h1,_⟩|⟨j,hj,h1,h2,h3⟩
 ·omega
 ·unfold strOf;rw [h2]
theorem ens_found {m:Nat} {c:TConn} {id:Int} (hc:InvC m c) (h:ensE c id=0):(strOf (ensC c id).streams id).2=true:=by
 unfold ensE at h
 split at h
 ·omega
 ·rename_i h1
  simp only [Bool.not_eq_true',Bool.not_eq_false,Bool.and_eq_true] at h1
  split at h
  ·rename_i h2
   have e:ensC c id=c:=by
    unfold ensC
    have:decide (fIx (idIs id) c.streams < 0)=false:=dF (by omega)
    rw [this];simp
   rw [e];exact fIx_found h2
  ·rename_i h2
   split at h
   ·omega
   ·rename_i h3
    split at h
    ·rename_i h4
     have hlt:decide (fIx (idIs id) c.streams < 0)=true:=dT (by omega)
     have e:(ensC c id).streams=ensL c.server c.own c.peer id (ensN c id).toNat c.streams:=by
      unfold ensC
      rw [h1.1,h1.2,hlt,h4]
      have h3':isOwn c.server id=false:=by simpa using h3
      rw [h3'];rfl
     rw [e]
     obtain ⟨hn1,_⟩:=ensG_n h4 (by have:=hc.ls;omega)
     have hk:=h1.1
     simp only [isConnS,isConnW,connA,Bool.and_eq_true,and_assoc] at hk
     exact ensL_found (by simp only [nsOk,Bool.and_eq_true];exact ⟨⟨h1.2,hk.1⟩,hk.2.1⟩) _ _ (by omega)
    ·omega
theorem flS_same (s:TStream) (e:Int):(flS s e).send=s.send∧(flS s e).recv=s.recv∧(flS s e).id=s.id:=by unfold flS;split<;>exact ⟨rfl,rfl,rfl⟩
theorem flC_same (c:TConn) (s:TStream) (e:Int):(flC c s e).streams=c.streams∧(flC c s e).packets=c.packets:=by unfold flC;split<;>exact ⟨rfl,rfl⟩
def rcvOk (m:Nat) (r:TReceiver):Prop:=(∀ c ∈ r.buffer.chunks,okC c)∧r.buffer.chunks.length≤m
theorem InvS.rcv' {m:Nat} {s:TStream} (h:InvS m s) {r:TReceiver} (hr:rcvOk m r):InvS m (withRcv s r):=⟨h.snd,hr.1,hr.2⟩
theorem InvS.rok {m:Nat} {s:TStream} (h:InvS m s):rcvOk m s.recv:=⟨h.ch,h.ln⟩
theorem rcvOk_data {m:Nat} {r:TReceiver} (h:rcvOk m r) (o:Int) (d:List UInt8) (f:Bool) (hd:d.length≤8) (ho:0≤o∧o≤900):rcvOk (m + 1) (recvD r o d f):=by
 unfold recvD
 split
 ·have:=insS_len r.buffer.next r.buffer.chunks o d
  exact ⟨insS_ok h.1 ho.1 (by omega),by have:=h.2;simp only [rdB];omega⟩
 ·exact ⟨h.1,by have:=h.2;omega⟩
theorem rcvOk_reset {m:Nat} {r:TReceiver} (h:rcvOk m r) (c f:Int):rcvOk m (resetRcv r c f):=by
 unfold resetRcv
 split
 ·exact ⟨by simp,by simp⟩
 ·exact h
theorem rcvOk_read {m:Nat} {r:TReceiver} (h:rcvOk m r) (k:Int):rcvOk m (readRcv r k):=by
 unfold readRcv
 split
 ·split
  ·exact h
  ·exact ⟨tkX_ok h.1,by have:=tkX_len r.buffer.next r.buffer.chunks k;have:=h.2;simp only;omega⟩
 ·exact h
theorem saveS_inv {m:Nat} {c x:TConn} {id:Int} {s:TStream} (h:InvC m c) (hx:x.streams=c.streams∧x.packets=c.packets) (hf:(strOf c.streams id).2=true) (hi:s.id=id) (hs:InvS m s):InvC m (saveC x s):=
 invC_save (h.same hx.1 hx.2) (by rw [hx.1];exact hf) hi hs
theorem hdE_ens {c:TConn} {f:TFrame} (h:hdE c f=0):ensE c f.stream=0:=by
 unfold hdE at h
 repeat' split at h
 all_goals first|omega|assumption
theorem hrE_ens {c:TConn} {f:TFrame} (h:hrE c f=0):ensE c f.stream=0:=by
 unfold hrE at h
 repeat' split at h
 all_goals first|omega|assumption
theorem hsE_ens {c:TConn} {f:TFrame} (h:hsE c f=0):ensE c f.stream=0:=by
 unfold hsE at h
 repeat' split at h
 all_goals first|omega|assumption
theorem llE_ens {c:TConn} {f:TFrame} (h:llE c f=0):ensE c f.stream=0:=by
 unfold llE at h
 repeat' split at h
 all_goals first|omega|assumption
theorem hdS_inv {m:Nat} {x:TConn} {f:TFrame} (h:InvC m x) (hd:f.data.length≤8) (ho:0≤f.offset∧f.offset≤900):InvS (m + 1) (hdS x f):=by
 obtain ⟨o1,o2,o3⟩:=flS_same (strI x f.stream) (dataEnd f)
 exact (((h.strI f.stream).mono (show m≤m + 1 by omega)).same o1 o2).rcv' (rcvOk_data (h.strI f.stream).rok _ _ _ hd ho)
theorem hdS_id (x:TConn) (f:TFrame):(hdS x f).id=(strI x f.stream).id:=(flS_same (strI x f.stream) (dataEnd f)).2.2
theorem invC_hd {m:Nat} {c:TConn} {f:TFrame} (h:InvC m c) (hd:f.data.length≤8) (ho:0≤f.offset∧f.offset≤900):InvC (m + 1) (hdC c f):=by
 unfold hdC
 split
 ·rename_i he
  have hx:=invC_ens h f.stream
  have hf:=ens_found h (hdE_ens he)
  exact saveS_inv (hx.mono (by omega)) (flC_same _ _ _) hf ((hdS_id _ f).trans (strI_id hf)) (hdS_inv hx hd ho)
 ·exact h.mono (by omega)
theorem hrX_same (x:TConn) (f:TFrame):(hrX x f).streams=x.streams∧(hrX x f).packets=x.packets:=by
 unfold hrX hrC0 rdC;split<;>exact flC_same _ _ _
theorem hrS_same (x:TConn) (f:TFrame):(hrS x f).send=(strI x f.stream).send∧(hrS x f).recv=hrR x f∧(hrS x f).id=(strI x f.stream).id:=by
 obtain ⟨o1,o2,o3⟩:=flS_same (strI x f.stream) f.final
 unfold hrS hrS0 rdS withRcv;split<;>exact ⟨o1,rfl,o3⟩
theorem hrS_inv {m:Nat} {x:TConn} {f:TFrame} (h:InvC m x):InvS m (hrS x f):=by
 obtain ⟨o1,o2,o3⟩:=hrS_same x f
 have hr:=rcvOk_reset (h.strI f.stream).rok f.code f.final
 exact ⟨o1 ▸ (h.strI f.stream).snd,by rw [o2];exact hr.1,by rw [o2];exact hr.2⟩
theorem invC_hr {m:Nat} {c:TConn} {f:TFrame} (h:InvC m c):InvC m (hrC c f):=by
 unfold hrC
 split
 ·rename_i he
  have hx:=invC_ens h f.stream
  have hf:=ens_found h (hrE_ens he)
  exact saveS_inv hx (hrX_same _ f) hf ((hrS_same _ f).2.2.trans (strI_id hf)) (hrS_inv hx)
 ·exact h
theorem InvS.rst {m:Nat} {s:TStream} (h:InvS m s) (k:Int):InvS m (rstStr s k):=⟨invSnd_reset h.snd k,h.ch,h.ln⟩
theorem hsS_inv {m:Nat} {x:TConn} {f:TFrame} (h:InvC m x):InvS m (hsS x f):=by
 unfold hsS;split
 ·exact (h.strI f.stream).rst f.code
 ·exact h.strI f.stream
theorem hsS_id (x:TConn) (f:TFrame):(hsS x f).id=(strI x f.stream).id:=by unfold hsS;split<;>rfl
theorem invC_hs {m:Nat} {c:TConn} {f:TFrame} (h:InvC m c):InvC m (hsC c f):=by
 unfold hsC
 split
 ·rename_i he
  have hx:=invC_ens h f.stream
  have hf:=ens_found h (hsE_ens he)
  exact saveS_inv hx ⟨rfl,rfl⟩ hf ((hsS_id _ f).trans (strI_id hf)) (hsS_inv hx)
 ·exact h
theorem invC_ll {m:Nat} {c:TConn} {f:TFrame} (h:InvC m c):InvC m (llC c f):=by
 unfold llC
 split
 ·rename_i he
  have hx:=invC_ens h f.stream
  have hf:=ens_found h (llE_ens he)
  split
  ·exact invC_putI (id:=f.stream) hx hf rfl ((hx.strI f.stream).same rfl rfl)
  ·exact hx
 ·exact h
theorem invC_hl {m:Nat} {c:TConn} {f:TFrame} (h:InvC m c):InvC m (hlC c f):=by
 unfold hlC
 repeat' split
 all_goals first|exact h.same rfl rfl|exact invC_ll h
theorem invC_hf {m:Nat} {c:TConn} {f:TFrame} (h:InvC m c) (hd:f.data.length≤8) (ho:0≤f.offset∧f.offset≤900):InvC (m + 1) (hfC c f):=by
 unfold hfC
 repeat' split
 ·exact invC_hd h hd ho
 ·exact (invC_hr h).mono (by omega)
 ·exact (invC_hs h).mono (by omega)
 ·exact (invC_hl h).mono (by omega)
theorem callG_found {c:TConn} {id:Int} (h:callG c id=true):(strOf c.streams id).2=true:=by simp only [callG,Bool.and_eq_true] at h;exact h.1.2
theorem invC_write {m:Nat} {c:TConn} (h:InvC m c) (id:Int) {d:List UInt8} (hd:d.length≤8):InvC (m + 1) (writeC c id d):=by
 unfold writeC
 split
 ·rename_i hg
  have hw:InvS (m + 1) (withSnd (strI c id) (wrSnd (strI c id).send d)):=((h.strI id).mono (by omega)).snd' (by have:=invSnd_wr (h.strI id).snd hd;rw [show (8 * (m + 1:Nat):Int)=8 * m + 8 from by omega];exact this)
  exact (invC_putI (id:=id) (h.mono (show m≤m + 1 by omega)) (callG_found hg) rfl hw)
 ·exact h.mono (by omega)
theorem invC_reset {m:Nat} {c:TConn} (h:InvC m c) (id k:Int):InvC m (resetC c id k):=by
 unfold resetC
 split
 ·rename_i hg
  simp only [resetG,Bool.and_eq_true] at hg
  have hf:=callG_found hg.1
  exact invC_save h hf (strI_id hf) ((h.strI id).rst k)
 ·exact h
theorem rsX_same (c:TConn) (id m:Int):(rsX c id m).streams=c.streams∧(rsX c id m).packets=c.packets:=by unfold rsX rdC;split<;>exact ⟨rfl,rfl⟩
theorem rsS_same (c:TConn) (id m:Int):(rsS c id m).send=(strI c id).send∧(rsS c id m).recv=rsR c id m∧(rsS c id m).id=(strI c id).id:=by unfold rsS rdS rsS0 withRcv;split<;>exact ⟨rfl,rfl,rfl⟩
theorem rsS_inv {m:Nat} {c:TConn} (h:InvC m c) (id k:Int):InvS m (rsS c id k):=by
 obtain ⟨o1,o2,o3⟩:=rsS_same c id k
 have hr:=rcvOk_read (h.strI id).rok k
 exact ⟨o1 ▸ (h.strI id).snd,by rw [o2];exact hr.1,by rw [o2];exact hr.2⟩
theorem invC_read {m:Nat} {c:TConn} (h:InvC m c) (id k:Int):InvC m (rsC c id k):=by
 unfold rsC
 split
 ·rename_i hg
  simp only [rsG,Bool.and_eq_true] at hg
  have hf:=hg.1.2
  exact saveS_inv h (rsX_same c id k) hf ((rsS_same c id k).2.2.trans (strI_id hf)) (rsS_inv h id k)
 ·exact h
theorem invC_drop {m:Nat} {c:TConn} (h:InvC m c) (n:Int):InvC m (dropP c n):=
 ⟨h.ls,h.st,Nat.le_trans (List.length_filter_le _ _) h.lp,fun p hp=>h.pk p (List.mem_filter.1 hp).1⟩
theorem akS_id (s:TStream) (f:TFrame):(akS s f).id=s.id:=by
 unfold akS;repeat' split
 all_goals rfl
theorem akS_inv {m:Nat} {s:TStream} (h:InvS m s) (f:TFrame):InvS m (akS s f):=by
 unfold akS
 split
 ·exact h.snd' (invSnd_ack h.snd)
 ·split
  ·exact ⟨invSnd_ackRst h.snd,h.ch,h.ln⟩
  ·split
   ·exact h.same rfl rfl
   ·exact h
theorem invC_ak {m:Nat} {c:TConn} (h:InvC m c) (f:TFrame):InvC m (akC c f):=by
 unfold akC
 split
 ·rename_i hg
  simp only [akG,Bool.and_eq_true] at hg
  exact invC_save h hg.1 ((akS_id _ f).trans (strI_id hg.1)) (akS_inv (h.strI _) f)
 ·exact h
theorem loS_id (s:TStream) (f:TFrame):(loS s f).id=s.id:=by
 unfold loS;repeat' split
 all_goals rfl
theorem loS_inv {m:Nat} {s:TStream} (h:InvS m s) (f:TFrame):InvS m (loS s f):=by
 unfold loS
 repeat' split
 ·exact h.snd' (invSnd_lose h.snd)
 all_goals exact h.same rfl rfl
theorem invC_lo {m:Nat} {c:TConn} (h:InvC m c) (f:TFrame):InvC m (loC c f):=by
 unfold loC
 repeat' split
 all_goals first
  |exact h.same rfl rfl
  |(rename_i hg;simp only [akG,Bool.and_eq_true] at hg;exact invC_putI h hg.1 (loS_id _ f) (loS_inv (h.strI _) f))
theorem fold_inv {m:Nat} {g:TConn→TFrame→TConn} (hg:∀ c f,InvC m c→InvC m (g c f)):∀ (l:List TFrame) (c:TConn),InvC m c→InvC m (l.foldl g c)
 |[],_,h=>h
 |f::l,c,h=>fold_inv hg l (g c f) (hg c f h)
theorem invC_ack {m:Nat} {c:TConn} (h:InvC m c) (n:Int):InvC m (ackC c n):=by
 unfold ackC;split
 ·exact fold_inv (fun c f h=>invC_ak h f) _ _ (invC_drop h n)
 ·exact h
theorem invC_los {m:Nat} {c:TConn} (h:InvC m c) (n:Int):InvC m (losC c n):=by
 unfold losC;split
 ·exact fold_inv (fun c f h=>invC_lo h f) _ _ (invC_drop h n)
 ·exact h
theorem invC_new (v:Bool) (o p:TConf):InvC 0 (newConn v o p):=by
 unfold newConn;split<;>exact ⟨by simp,by simp,by simp,by simp⟩
theorem exE_dag {P:Program} {kv:List V} {ops:List Oper} {K:St→Prop} (Inv:Nat→List Bool→St→Prop)
  (h0:∀ S σ,Inv 0 S σ→rdyE S ops [] S=[]∧K σ)
  (h1:∀ n S σ (F:List Bool→St→Prop),Inv (n + 1) S σ→(∀ S' σ',Inv n S' σ'→F S' σ')→(rdyE S ops [] S=[]→K σ)∧allE (rdyE S ops [] S) fun o S'=>seqE P kv ops σ o (hide (fun σ'=>F S' σ') .mk)) :
  ∀ n S σ,Inv n S σ→exE P kv ops n S σ K
 |0,S,σ,h=>h0 S σ h
 |n + 1,S,σ,h=>h1 n S σ (fun S' σ'=>exE P kv ops n S' σ' K) h fun S' σ' h'=>exE_dag Inv h0 h1 n S' σ' h'
theorem dag_step {ops:List Oper} {S:List Bool} {Q:Prop} {x:Oper×List Bool} {r:List (Oper×List Bool)} {G:Oper→List Bool→Prop} (e:rdyE S ops [] S=x::r) (h:allE (x::r) G):(rdyE S ops [] S=[]→Q)∧allE (rdyE S ops [] S) G:=⟨fun h'=>(by rw [e] at h';cases h'),(by rw [e];exact h)⟩
set_option maxRecDepth 100000
def mxFrameC0:List (List Rl):=mxD 40 [12157665459056928800,12157665459056928798,12157665459056928792,12157665459056928774,12157665459056928720,12157665459056925642,12157665459056928315,12157665459056926857,12157665459056922240,12157665459056909118,12157665459056869752,12157665459056751654,12157665459056397360,12157665459055334478,12157665459052145832,12157665459042579894,12157665459013882080,12157665458927788638,12157665458669508312,12157665457894667334,12157665455570144400,12157665448596575598,12157665427675869192,12157665364913749974,12157665176627392320,12157664611768319358,12157662917191100472,12157657833459443814,12157642582264473840,12157596828679563918,12157459567924834152,12157047785660644854,12155812438868076960,12152106398490373278,12140988277357262232,12107633913957929094,12007570823759929680,11707381553165931438,10806813741383936712,8105110306037952534]
attribute [go_sem] mxFrameC0
theorem drawX_same {P:Program} {kv:List V} {ops:List Oper} {σ:St} {K:St→Prop} (s:St) (h:exE P kv ops ops.length (List.replicate ops.length false) σ (fun σ'=>σ'=s)) (hk:K s):drawX P kv ops.toArray σ K:=drawX_cut (fun σ'=>σ'=s) h (fun σ' e=>by rw [e];exact hk)
def oneB (b:Bool):Int:=if b then 1 else 0
theorem impl_one (b:Bool):PureCall Tryz.prog 31 [.one (.bool b)] [.one (.int .i64 (oneB b))]:=by
 refine pureT 4 Tryz.func31 Tryz.call31 [.tmp 2] ?_
 intro _
 try simp only [go_sem]
 repeat' (refine cSplit (fun h=>?_) (fun h=>?_)<;>simp only [go_sem])
 all_goals simp_all [oneB]
def idlU:List (Nat×List Bool):=[(12,[false,false,false,false,false,false,false,false,false,false,false,false]),(11,[true,false,false,false,false,false,false,false,false,false,false,false]),(11,[false,false,true,false,false,false,false,false,false,false,false,false]),(11,[false,false,false,false,true,false,false,false,false,false,false,false]),(10,[true,true,false,false,false,false,false,false,false,false,false,false]),(10,[true,false,true,false,false,false,false,false,false,false,false,false]),(10,[true,false,false,false,true,false,false,false,false,false,false,false]),(10,[false,false,true,true,false,false,false,false,false,false,false,false]),(10,[false,false,true,false,true,false,false,false,false,false,false,false]),(10,[false,false,false,false,true,true,false,false,false,false,false,false]),(9,[true,true,true,false,false,false,false,false,false,false,false,false]),(9,[true,true,false,false,true,false,false,false,false,false,false,false]),(9,[true,true,false,false,false,false,true,false,false,false,false,false]),(9,[true,false,true,true,false,false,false,false,false,false,false,false]),(9,[true,false,true,false,true,false,false,false,false,false,false,false]),(9,[true,false,false,false,true,true,false,false,false,false,false,false]),(9,[false,false,true,true,true,false,false,false,false,false,false,false]),(9,[false,false,true,false,true,true,false,false,false,false,false,false]),(8,[true,true,true,true,false,false,false,false,false,false,false,false]),(8,[true,true,true,false,true,false,false,false,false,false,false,false]),(8,[true,true,true,false,false,false,true,false,false,false,false,false]),(8,[true,true,false,false,true,true,false,false,false,false,false,false]),(8,[true,true,false,false,true,false,true,false,false,false,false,false]),(8,[true,true,false,false,false,false,true,true,false,false,false,false]),(8,[true,false,true,true,true,false,false,false,false,false,false,false]),(8,[true,false,true,false,true,true,false,false,false,false,false,false]),(8,[false,false,true,true,true,true,false,false,false,false,false,false]),(7,[true,true,true,true,true,false,false,false,false,false,false,false]),(7,[true,true,true,true,false,false,true,false,false,false,false,false]),(7,[true,true,true,false,true,true,false,false,false,false,false,false]),(7,[true,true,true,false,true,false,true,false,false,false,false,false]),(7,[true,true,true,false,false,false,true,true,false,false,false,false]),(7,[true,true,false,false,true,true,true,false,false,false,false,false]),(7,[true,true,false,false,true,false,true,true,false,false,false,false]),(7,[true,false,true,true,true,true,false,false,false,false,false,false]),(6,[true,true,true,true,true,true,false,false,false,false,false,false]),(6,[true,true,true,true,true,false,true,false,false,false,false,false]),(6,[true,true,true,true,false,false,true,true,false,false,false,false]),(6,[true,true,true,false,true,true,true,false,false,false,false,false]),(6,[true,true,true,false,true,false,true,true,false,false,false,false]),(6,[true,true,false,false,true,true,true,true,false,false,false,false]),(5,[true,true,true,true,true,true,true,false,false,false,false,false]),(5,[true,true,true,true,true,false,true,true,false,false,false,false]),(5,[true,true,true,true,false,false,true,true,true,false,false,false]),(5,[true,true,true,false,true,true,true,true,false,false,false,false]),(4,[true,true,true,true,true,true,true,true,false,false,false,false]),(4,[true,true,true,true,true,false,true,true,true,false,false,false]),(4,[true,true,true,true,false,false,true,true,true,true,false,false]),(3,[true,true,true,true,true,true,true,true,true,false,false,false]),(3,[true,true,true,true,true,false,true,true,true,true,false,false]),(2,[true,true,true,true,true,true,true,true,true,true,false,false]),(1,[true,true,true,true,true,true,true,true,true,true,true,false]),(0,[true,true,true,true,true,true,true,true,true,true,true,true])]
def stU (bE bG:Int) (bF:List UInt8) (bI:Bool) (bJ bH bK:Int) (bR:Bool) (S:List Bool):St:=⟨(.agg [.d (.int .i64 8),.d (.int .i64 bE),.d (.int .i64 bG),.d (.str bF),.d (.bool bI),.d (.int .i64 bJ),.d (.int .i64 bH),.d (.int .i64 bK),.d (.bool bR)]::.ptr 0 0 0::.ptr 1 0 0::.ptr 2 0 0::.ptr 0 0 0::.d (.int .i64 8)::.agg [.d (.int .i64 8),.d (.int .i64 0),.d (.int .i64 0),.d (.str []),.d (.bool false),.d (.int .i64 0),.d (.int .i64 0),.d (.int .i64 0),.d (.bool false)]::.agg [.d (.int .i64 8),.d (.int .i64 bE),.d (.int .i64 bG),.d (.str bF),.d (.bool bI),.d (.int .i64 bJ),.d (.int .i64 bH),.d (.int .i64 bK),.d (.bool bR)]::.d (.bool true)::.ptr 0 0 1::.d (.int .i64 bE)::.ptr 2 0 1::.ptr 0 0 0::.d (.int .i64 8)::jn 3 (.d (.bool false)::.d (.bool false)::jn 6 (.d (.bool false)::.d (.bool false)::jn 3 (.d (.bool true)::.d (.bool true)::(bif S.getD 0 false then .ptr 0 0 2 else .junk)::(bif S.getD 1 false then .d (.int .i64 bG) else .junk)::(bif S.getD 2 false then .ptr 0 0 3 else .junk)::(bif S.getD 3 false then .d (.str bF) else .junk)::(bif S.getD 4 false then .ptr 0 0 4 else .junk)::(bif S.getD 5 false then .d (.bool bI) else .junk)::(bif S.getD 6 false then .ptr 2 0 2 else .junk)::(bif S.getD 8 false then .ptr 2 0 3 else .junk)::(bif S.getD 10 false then .ptr 2 0 4 else .junk)::jn 10 [])))),[.box [.d (.int .i64 8),.d (.int .i64 bE),.d (.int .i64 bG),.d (.str bF),.d (.bool bI),.d (.int .i64 bJ),.d (.int .i64 bH),.d (.int .i64 bK),.d (.bool bR)],.box TFrame.zc,.box [.d (.int .i64 8),.d (.int .i64 bE),(bif S.getD 7 false then .d (.int .i64 bG) else .d (.int .i64 0)),(bif S.getD 9 false then .d (.str bF) else .d (.str [])),(bif S.getD 11 false then .d (.bool bI) else .d (.bool false)),.d (.int .i64 0),.d (.int .i64 0),.d (.int .i64 0),.d (.bool false)]]⟩
set_option maxHeartbeats 4000000 in
theorem impl_used (bD bE bG:Int) (bF:List UInt8) (bI:Bool) (bJ bH bK:Int) (bR:Bool):PureCall Tryz.prog 106 [.agg [.int .i64 bD,.int .i64 bE,.int .i64 bG,.str bF,.bool bI,.int .i64 bJ,.int .i64 bH,.int .i64 bK,.bool bR]] [.agg (TFrame.enc (usedF (⟨bD,bE,bG,bF,bI,bJ,bH,bK,bR⟩:TFrame)))]:=by
 refine pureT 51 Tryz.func106 Tryz.call106 [.cell 2 88] ?_
 intro _
 by_cases h8:bD=8
 ·subst h8
  have e1:aboutS 8=true:=rfl
  try simp only [go_sem]
  repeat' (refine CallS.intro (by apply impl_IsAboutStream) ?_<;>simp only [go_sem,e1,show decide ((8:Int)=4)=false from rfl,show decide ((8:Int)=5)=false from rfl])
  refine drawX_cut (fun σ'=>σ'=stU bE bG bF bI bJ bH bK bR (List.replicate 12 true)) ?_ ?_
  ·refine exE_dag (fun n S σ=>(n,S) ∈ idlU∧σ=stU bE bG bF bI bJ bH bK bR S) ?_ ?_ _ _ _ ⟨by first|exact List.Mem.head _|decide +kernel,rfl⟩
   ·rintro S σ ⟨hS,rfl⟩
    simp only [idlU,List.mem_cons,Prod.mk.injEq,List.not_mem_nil,or_false] at hS
    rcases hS with ⟨hn,rfl⟩|⟨hn,rfl⟩|⟨hn,rfl⟩|⟨hn,rfl⟩|⟨hn,rfl⟩|⟨hn,rfl⟩|⟨hn,rfl⟩|⟨hn,rfl⟩|⟨hn,rfl⟩|⟨hn,rfl⟩|⟨hn,rfl⟩|⟨hn,rfl⟩|⟨hn,rfl⟩|⟨hn,rfl⟩|⟨hn,rfl⟩|⟨hn,rfl⟩|⟨hn,rfl⟩|⟨hn,rfl⟩|⟨hn,rfl⟩|⟨hn,rfl⟩|⟨hn,rfl⟩|⟨hn,rfl⟩|⟨hn,rfl⟩|⟨hn,rfl⟩|⟨hn,rfl⟩|⟨hn,rfl⟩|⟨hn,rfl⟩|⟨hn,rfl⟩|⟨hn,rfl⟩|⟨hn,rfl⟩|⟨hn,rfl⟩|⟨hn,rfl⟩|⟨hn,rfl⟩|⟨hn,rfl⟩|⟨hn,rfl⟩|⟨hn,rfl⟩|⟨hn,rfl⟩|⟨hn,rfl⟩|⟨hn,rfl⟩|⟨hn,rfl⟩|⟨hn,rfl⟩|⟨hn,rfl⟩|⟨hn,rfl⟩|⟨hn,rfl⟩|⟨hn,rfl⟩|⟨hn,rfl⟩|⟨hn,rfl⟩|⟨hn,rfl⟩|⟨hn,rfl⟩|⟨hn,rfl⟩|⟨hn,rfl⟩|⟨hn,rfl⟩|⟨hn,rfl⟩
    all_goals (first|exact absurd hn (by decide)|skip)
    exact ⟨rfl,rfl⟩
   ·rintro n S σ F ⟨hS,rfl⟩ hF
    simp only [idlU,List.mem_cons,Prod.mk.injEq,List.not_mem_nil,or_false] at hS
    rcases hS with ⟨hn,rfl⟩|⟨hn,rfl⟩|⟨hn,rfl⟩|⟨hn,rfl⟩|⟨hn,rfl⟩|⟨hn,rfl⟩|⟨hn,rfl⟩|⟨hn,rfl⟩|⟨hn,rfl⟩|⟨hn,rfl⟩|⟨hn,rfl⟩|⟨hn,rfl⟩|⟨hn,rfl⟩|⟨hn,rfl⟩|⟨hn,rfl⟩|⟨hn,rfl⟩|⟨hn,rfl⟩|⟨hn,rfl⟩|⟨hn,rfl⟩|⟨hn,rfl⟩|⟨hn,rfl⟩|⟨hn,rfl⟩|⟨hn,rfl⟩|⟨hn,rfl⟩|⟨hn,rfl⟩|⟨hn,rfl⟩|⟨hn,rfl⟩|⟨hn,rfl⟩|⟨hn,rfl⟩|⟨hn,rfl⟩|⟨hn,rfl⟩|⟨hn,rfl⟩|⟨hn,rfl⟩|⟨hn,rfl⟩|⟨hn,rfl⟩|⟨hn,rfl⟩|⟨hn,rfl⟩|⟨hn,rfl⟩|⟨hn,rfl⟩|⟨hn,rfl⟩|⟨hn,rfl⟩|⟨hn,rfl⟩|⟨hn,rfl⟩|⟨hn,rfl⟩|⟨hn,rfl⟩|⟨hn,rfl⟩|⟨hn,rfl⟩|⟨hn,rfl⟩|⟨hn,rfl⟩|⟨hn,rfl⟩|⟨hn,rfl⟩|⟨hn,rfl⟩|⟨hn,rfl⟩
    rotate_right 1
    ·exact absurd hn (by omega)
    all_goals (
     simp only [Nat.reduceEqDiff] at hn
     try subst hn
     simp only [stU,List.getD_cons_succ,List.getD_cons_zero,cond_true,cond_false]
     refine dag_step rfl ?_
     repeat' (first
      |exact allE_nil
      |(refine allE_cons ?_ ?_)
      |exact hF _ _ ⟨by first|exact List.Mem.head _|decide +kernel,rfl⟩
      |simp only [go_sem]))
  ·rintro _ rfl
   simp only [stU,List.replicate,List.getD_cons_succ,List.getD_cons_zero,cond_true]
   simp only [go_sem]
   simp [usedF,aboutS]
 ·skip
  try simp only [go_sem]
  repeat' ((first|refine CallS.intro (by apply impl_IsAboutStream) ?_|refine cSplit (fun h=>?_) (fun h=>?_))<;>simp only [go_sem])
  all_goals (first|(exfalso;simp only [decide_eq_true_eq,decide_eq_false_iff_not] at *;omega)|skip)
  all_goals (try (apply drawX_same;(focus ((repeat' (first|exact allE_nil|(refine allE_cons ?_ ?_)|(refine exE_step rfl ?_)|(refine exE_end rfl ?_)|(simp only [go_sem])));all_goals exact rfl));simp only [go_sem]))
  all_goals (simp only [decide_eq_true_eq,decide_eq_false_iff_not] at *;first|(exfalso;omega)|(exfalso;simp_all [aboutS];done)|(simp [usedF, *];done)|(simp [usedF,aboutS] at *;simp [*];done)|(simp_all [usedF,aboutS];done))
theorem frame_guardI (f:TFrame):(bif bif bif bif bif bif !kindOk f.kind then true else !decide (f=usedF f) then true else !isQ f.stream then true else !isQ f.offset then true else !isQ f.code then true else !isQ f.limit then true else !isQ f.final)=!(kindOk f.kind && decide (f=usedF f) && isQ f.stream && isQ f.offset && isQ f.code && isQ f.limit && isQ f.final):=by
 cases kindOk f.kind<;>cases decide (f=usedF f)<;>cases isQ f.stream<;>cases isQ f.offset<;>cases isQ f.code<;>cases isQ f.limit<;>cases isQ f.final<;>rfl
def headI (f:TFrame):Bool:=kindOk f.kind && decide (f=usedF f) && isQ f.stream && isQ f.offset && isQ f.code && isQ f.limit && isQ f.final
theorem isFrame_I (f:TFrame):isFrame f=(headI f && if f.kind=18∨f.kind=22 then decide (f.limit≤1152921504606846976) else (decide ((f.data.length:Int)≤400) && decide (f.offset≤IntKind.i64.wrap (4611686018427387903 - (f.data.length:Int))))):=by
 by_cases hu:usedF f=f
 ·have h1:f.offset=if f.kind=8 then f.offset else 0:=congrArg TFrame.offset hu.symm
  have h2:f.data=if f.kind=8 then f.data else []:=congrArg TFrame.data hu.symm
  have e1:decide (usedF f=f)=true:=dT hu
  have e2:decide (f=usedF f)=true:=dT hu.symm
  unfold isFrame frameHead headI
  rw [e1,e2]
  by_cases h8:f.kind=8
  ·have h18:¬ (f.kind=18∨f.kind=22):=by omega
   simp only [h8,if_true]
   rw [← h8]
   simp only [h18,if_false]
   have e:(!decide (400 < (f.data.length:Int)))=decide ((f.data.length:Int)≤400):=by by_cases h:(f.data.length:Int)≤400<;>simp [h]<;>omega
   rw [e]
   simp only [Bool.and_assoc]
  ·rw [if_neg h8] at h1 h2
   have w:decide ((0:Int)≤IntKind.i64.wrap (4611686018427387903 - (([]:List UInt8).length:Int)))=true:=by decide
   by_cases h18:f.kind=18∨f.kind=22
   ·rw [if_neg h8,if_pos h18,if_pos h18,h1,h2];simp
   ·rw [if_neg h8,if_neg h18,if_neg h18,h1,h2,w];simp
 ·have e1:decide (usedF f=f)=false:=dF hu
  have e2:decide (f=usedF f)=false:=dF (fun h=>hu h.symm)
  unfold isFrame frameHead headI
  rw [e1,e2]
  simp
set_option maxHeartbeats 4000000 in
theorem impl_IsFrame (bD bE bG:Int) (bF:List UInt8) (bI:Bool) (bJ bH bK:Int) (bR:Bool):PureCall Tryz.prog 82 [.agg [.int .i64 bD,.int .i64 bE,.int .i64 bG,.str bF,.bool bI,.int .i64 bJ,.int .i64 bH,.int .i64 bK,.bool bR]] [.one (.bool (isFrame (⟨bD,bE,bG,bF,bI,bJ,bH,bK,bR⟩:TFrame)))]:=by
 refine pureT 67 Tryz.func82 Tryz.call82 [.tmp 2] ?_
 intro _
 have hk:decide (kname bD=[])=!kindOk bD:=by have:=kname_nil bD;rw [← this];cases kname bD<;>rfl
 have hf:=frame_eqB (⟨bD,bE,bG,bF,bI,bJ,bH,bK,bR⟩:TFrame) (usedF (⟨bD,bE,bG,bF,bI,bJ,bH,bK,bR⟩:TFrame))
 simp only at hf
 have hE:=frame_guardI (⟨bD,bE,bG,bF,bI,bJ,bH,bK,bR⟩:TFrame)
 try simp only [go_sem]
 repeat' ((first|refine CallK.intro (by first|apply impl_KindName|apply impl_used|apply impl_isQuic) ?_|refine gSym ?_|refine drawE_intro mxFrameC0 (by kernel_rfl) (by rfl) ?_)<;>simp only [go_sem,hk,hf])
 rw [hE]
 rw [isFrame_I]
 cases hH:headI (⟨bD,bE,bG,bF,bI,bJ,bH,bK,bR⟩:TFrame) with
 |false=>
  unfold headI at hH
  rw [hH]
  simp only [go_sem,Bool.not_false]
  try simp
 |true=>
  unfold headI at hH
  rw [hH]
  simp only [go_sem,Bool.not_true]
  try simp only [go_sem]
  repeat' ((first|refine gSymS ?_|refine cSplit (fun h=>?_) (fun h=>?_))<;>simp only [go_sem])
  ·have h':bD=18∨bD=22:=by revert h;simp
   simp [h']
  ·have h':¬ (bD=18∨bD=22):=by revert h;simp
   simp only [if_neg h',bif_and]
set_option maxRecDepth 100000
def mxEmC0:List (List Rl):=mxD 10 [55769,57958,58963,58945,59008,58810,58324,56863,52488,39366]
attribute [go_sem] mxEmC0
set_option maxHeartbeats 2000000 in
theorem spec_l20Total (c:TConn):PureCall Tryz.prog 191 [.agg (TConn.enc c)] [.agg (TWindow.enc ((totW c).1)),.one (.bool (totW c).2)]:=by
 refine pureT 26 Tryz.func191 Tryz.call191 [.cell 2 30,.tmp 3] ?_
 intro _
 try simp only [go_sem]
 repeat' (refine CallS.intro (by apply spec_MustRaise) ?_<;>simp only [go_sem])
 cases h:mustRaise c.inflow with
 |true=>
  try simp only [go_sem]
  repeat' (refine CallS.intro (by apply spec_RaiseWindow) ?_<;>simp only [go_sem])
  simp [totW,h]
 |false=>
  simp only [go_sem]
  apply drawX_same;(focus ((repeat' (first|exact allE_nil|(refine allE_cons ?_ ?_)|(refine exE_step rfl ?_)|(refine exE_end rfl ?_)|(simp only [go_sem])));all_goals exact rfl));simp only [go_sem]
  simp [totW,h]
theorem spec_l20Allow (bN bO bP bQ:Int) (t:Bool):PureCall Tryz.prog 192 [.agg [.int .i64 bN,.int .i64 bO,.int .i64 bP,.int .i64 bQ],.one (.bool t)] [.agg [.int .i64 ((allW (⟨bN,bO,bP,bQ⟩:TAllow) t).1).most,.int .i64 ((allW (⟨bN,bO,bP,bQ⟩:TAllow) t).1).limit,.int .i64 ((allW (⟨bN,bO,bP,bQ⟩:TAllow) t).1).seen,.int .i64 ((allW (⟨bN,bO,bP,bQ⟩:TAllow) t).1).closed],.one (.bool ((allW (⟨bN,bO,bP,bQ⟩:TAllow) t).2))]:=by
 refine pureT 19 Tryz.func192 Tryz.call192 [.cell 4 34,.tmp 5] ?_
 intro _
 try simp only [go_sem]
 repeat' ((first|refine CallS.intro (by first|apply spec_MustAllow|apply spec_RaiseAllow) ?_|refine cSplit (fun h=>?_) (fun h=>?_))<;>simp only [go_sem])
 all_goals simp [allW, *]
theorem winG_guard (s:TStream):(bif bif !s.canRecv then true else decide (s.recv.state≠0) then true else s.stopped)=!winG s:=by
 unfold winG
 cases s.canRecv<;>cases s.stopped<;>by_cases h:s.recv.state=0<;>simp [h]
set_option maxHeartbeats 2000000 in
theorem spec_l20Window (c:TConn) (s:TStream):PureCall Tryz.prog 223 [.agg (TConn.enc c),.agg (TStream.enc s)] [.agg (TWindow.enc ((winW c s).1)),.one (.bool (winW c s).2)]:=by
 refine pureT 43 Tryz.func223 Tryz.call223 [.cell 4 30,.tmp 5] ?_
 intro _
 have hG:=winG_guard s
 try simp only [go_sem]
 repeat' (refine gSymS ?_<;>simp only [go_sem])
 rw [hG]
 cases hg:winG s with
 |false=>
  try simp only [go_sem,Bool.not_false]
  all_goals simp [winW, *]
 |true=>
  try simp only [go_sem,Bool.not_true]
  repeat' (refine CallS.intro (by apply spec_MustRaise) ?_<;>simp only [go_sem])
  cases h:mustRaise s.window with
  |true=>
   try simp only [go_sem]
   repeat' (refine CallS.intro (by apply spec_RaiseWindow) ?_<;>simp only [go_sem])
   simp [winW,h,hg]
  |false=>
   simp only [go_sem]
   apply drawX_same;(focus ((repeat' (first|exact allE_nil|(refine allE_cons ?_ ?_)|(refine exE_step rfl ?_)|(refine exE_end rfl ?_)|(simp only [go_sem])));all_goals exact rfl));simp only [go_sem]
   simp [winW,h,hg]
theorem str4_guard (s:TStream):(bif bif mustTell s.credit then s.canSend else false then decide (0 < (s.send.pending.length:Int)) else false)=(mustTell s.credit && s.canSend && decide (0 < (s.send.pending.length:Int))):=by cases mustTell s.credit<;>cases s.canSend<;>rfl
theorem str2_guard (s:TStream):(bif s.tellStop then decide (s.recv.state < 2) else false)=(s.tellStop && decide (s.recv.state < 2)):=by cases s.tellStop<;>rfl
set_option maxHeartbeats 4000000 in
theorem spec_l20Stream (c:TConn) (s:TStream):PureCall Tryz.prog 193 [.agg (TConn.enc c),.agg (TStream.enc s)] [.one (.sl 9 ((strFr c s).map TFrame.enc))]:=by
 refine pureTG 78 Tryz.func193 Tryz.call193 [.tmp 4] ?_
 intro ok
 clear ok
 have hE:strFr c s=strF1 s++strF2 s++strF3 c s++strF4 s:=rfl
 have hL:=strFr_len c s
 rw [hE] at hL
 simp only [List.length_append] at hL
 refine codeG_step Tryz.checked.mixed 3 (α:=List TFrame) (fun fs=>⟨(.junk::.junk::.ptr 0 0 0::.ptr 1 0 0::.junk::.sl 2 0 fs.length::jn 72 []),[.box (TConn.ve c),.box (TStream.ve s),.arr 9 (fs.map TFrame.enc) true]⟩) (fun fs=>fs=strF1 s) ?_ ?_
 ·skip
  try simp only [go_sem]
  cases h:s.tellReset with
  |true=>
   try simp only [go_sem]
   repeat' (first|(with_reducible refine sideI ?_)|fail)
   refine SeeTo.intro (strF1 s) [0,1,4] rfl ?_
   simp only [go_sem]
   simp [strF1,h,frC,TFrame.enc]
  |false=>
   simp only [go_sem]
   refine SeeTo.intro (strF1 s) [0,1,2] rfl ?_
   simp only [go_sem]
   simp [strF1,h]
 rintro fs hfs
 have hfl:fs.length≤4:=by rw [hfs];(try simp only [List.length_append]);omega
 refine codeG_step Tryz.checked.mixed 1 (α:=List TFrame) (fun fs=>⟨(.junk::.junk::.ptr 0 0 0::.ptr 1 0 0::.junk::.sl 2 0 fs.length::jn 72 []),[.box (TConn.ve c),.box (TStream.ve s),.arr 9 (fs.map TFrame.enc) true]⟩) (fun fs=>fs=strF1 s++strF2 s) ?_ ?_
 ·skip
  try simp only [go_sem]
  repeat' (refine gSymS ?_<;>simp only [go_sem])
  rw [str2_guard s]
  cases h:s.tellStop && decide (s.recv.state < 2) with
  |true=>
   try simp only [go_sem,lM]
   repeat' (first|(with_reducible refine sideI ?_)|fail)
   refine SeeTo.intro (strF1 s++strF2 s) [0,1,4] rfl ?_
   simp only [go_sem]
   simp [strF2,h,hfs,frC,TFrame.enc]
  |false=>
   simp only [go_sem]
   refine SeeTo.intro (strF1 s++strF2 s) [0,1,2] rfl ?_
   simp only [go_sem]
   simp [strF2,h,hfs]
 rintro fs hfs
 have hfl:fs.length≤4:=by rw [hfs];(try simp only [List.length_append]);omega
 refine codeG_step Tryz.checked.mixed 2 (α:=List TFrame) (fun fs=>⟨(.junk::.junk::.ptr 0 0 0::.ptr 1 0 0::.junk::.sl 2 0 fs.length::jn 72 []),[.box (TConn.ve c),.box (TStream.ve s),.arr 9 (fs.map TFrame.enc) true]⟩) (fun fs=>fs=strF1 s++strF2 s++strF3 c s) ?_ ?_
 ·skip
  try simp only [go_sem]
  repeat' (refine CallS.intro (by apply spec_l20Window) ?_<;>simp only [go_sem])
  cases h:(winW c s).2 with
  |true=>
   try simp only [go_sem,lM]
   repeat' (first|(with_reducible refine sideI ?_)|fail)
   refine SeeTo.intro (strF1 s++strF2 s++strF3 c s) [0,1,5] rfl ?_
   simp only [go_sem]
   simp [strF3,h,hfs,frF,TFrame.enc]
  |false=>
   simp only [go_sem]
   refine SeeTo.intro (strF1 s++strF2 s++strF3 c s) [0,1,2] rfl ?_
   simp only [go_sem]
   simp [strF3,h,hfs]
 rintro fs hfs
 have hfl:fs.length≤4:=by rw [hfs];(try simp only [List.length_append]);omega
 refine codeG_of Tryz.checked.mixed ?_
 try simp only [go_sem]
 repeat' ((first|refine CallS.intro (by apply spec_MustTell) ?_|refine gSymS ?_)<;>simp only [go_sem,lM])
 rw [str4_guard s]
 cases h:mustTell s.credit && s.canSend && decide (0 < (s.send.pending.length:Int)) with
 |true=>
  have hF:strF4 s=[frF 21 s.id s.credit.limit]:=by unfold strF4;rw [h];rfl
  try simp only [go_sem,lM]
  repeat' (first|(with_reducible refine sideI ?_)|fail)
  rw [hE,← hfs,hF]
  simp [frF,TFrame.enc,List.take_of_length_le]
 |false=>
  have hF:strF4 s=[]:=by unfold strF4;rw [h];rfl
  try simp only [go_sem,lM]
  repeat' (first|(with_reducible refine sideI ?_)|fail)
  rw [hE,← hfs,hF]
  simp
def ctA1 (c:TConn):List TFrame:=(if (totW c).2 then [frU 16 (totW c).1.limit false] else [])
def ctA2 (c:TConn):List TFrame:=(if (allW c.allowBidi c.tellBidi).2 then [frU 18 (allW c.allowBidi c.tellBidi).1.limit false] else [])
def ctA3 (c:TConn):List TFrame:=(if (allW c.allowUni c.tellUni).2 then [frU 18 (allW c.allowUni c.tellUni).1.limit true] else [])
def ctZ1 (c:TConn):List TFrame:=(if mustTell c.total then [frU 20 c.total.limit false] else [])
def ctZ2 (c:TConn):List TFrame:=(if c.openBidi.blocked=c.openBidi.limit then [frU 22 c.openBidi.limit false] else [])
def ctZ3 (c:TConn):List TFrame:=(if c.openUni.blocked=c.openUni.limit then [frU 22 c.openUni.limit true] else [])
theorem oneIf_len (b:Prop) [Decidable b] (f:TFrame):(if b then [f] else []).length≤1:=by split<;>simp
set_option maxHeartbeats 8000000 in
theorem spec_ControlFrames (c:TConn) (hz:SzC c):PureCall Tryz.prog 164 [.agg (TConn.enc c)] [.one (.sl 9 ((ctlFr c).map TFrame.enc))]:=by
 refine pureTG 113 Tryz.func164 Tryz.call164 [.tmp 2] ?_
 intro ok
 clear ok
 have hz1:c.streams.length≤30:=hz.1
 have hE:ctlFr c=if fineC c then ctA1 c++ctA2 c++ctA3 c++c.streams.flatMap (strFr c)++(ctZ1 c++ctZ2 c++ctZ3 c) else []:=rfl
 have a1:(ctA1 c).length≤1:=oneIf_len _ _
 have a2:(ctA2 c).length≤1:=oneIf_len _ _
 have a3:(ctA3 c).length≤1:=oneIf_len _ _
 have z1:(ctZ1 c).length≤1:=oneIf_len _ _
 have z2:(ctZ2 c).length≤1:=oneIf_len _ _
 have hfm:=flatM_len (strFr c) 4 c.streams fun s _=>strFr_len c s
 refine codeG_step Tryz.checked.mixed 3 (α:=List TFrame) (fun fs=>⟨(.junk::.ptr 0 0 0::.junk::.sl 1 0 fs.length::jn 109 []),[.box (TConn.ve c),.arr 9 (fs.map TFrame.enc) true]⟩) (fun fs=>fs=[]∧fineC c=true) ?_ ?_
 ·skip
  try simp only [go_sem]
  repeat' (refine CallS.intro (by (apply spec_l19Fine<;>first|assumption|omega)) ?_<;>simp only [go_sem])
  cases h:fineC c with
  |false=>
   simp only [go_sem,Bool.not_false]
   rw [hE,h]
   simp
  |true=>
   simp only [go_sem,Bool.not_true]
   refine SeeTo.intro [] [0,1] (by first|exact ⟨rfl,rfl⟩|rfl) ?_
   simp only [go_sem]
   simp
 rintro fs ⟨hfs,hF⟩
 have hE:ctlFr c=ctA1 c++ctA2 c++ctA3 c++c.streams.flatMap (strFr c)++(ctZ1 c++ctZ2 c++ctZ3 c):=by rw [hE,hF];rfl
 have hfl:fs.length≤0:=by rw [hfs];simp
 refine codeG_step Tryz.checked.mixed 2 (α:=List TFrame) (fun fs=>⟨(.junk::.ptr 0 0 0::.junk::.sl 1 0 fs.length::jn 109 []),[.box (TConn.ve c),.arr 9 (fs.map TFrame.enc) true]⟩) (fun fs=>fs=ctA1 c) ?_ ?_
 ·skip
  try simp only [go_sem]
  repeat' (refine CallS.intro (by apply spec_l20Total) ?_<;>simp only [go_sem])
  cases h:(totW c).2 with
  |true=>
   have hN:ctA1 c=[frU 16 (totW c).1.limit false]:=by unfold ctA1;rw [h];rfl
   try simp only [go_sem,lM]
   repeat' (first|(with_reducible refine sideI ?_)|fail)
   refine SeeTo.intro (ctA1 c) [0,4] rfl ?_
   simp only [go_sem]
   simp [hN,hfs,frU,TFrame.enc]
  |false=>
   have hN:ctA1 c=[]:=by unfold ctA1;rw [h];rfl
   simp only [go_sem]
   refine SeeTo.intro (ctA1 c) [0,1] rfl ?_
   simp only [go_sem]
   simp [hN,hfs]
 clear hfl hfs
 rintro fs hfs
 have hfl:fs.length≤100:=by rw [hfs];(try simp only [List.length_append]);omega
 refine codeG_step Tryz.checked.mixed 2 (α:=List TFrame) (fun fs=>⟨(.junk::.ptr 0 0 0::.junk::.sl 1 0 fs.length::jn 109 []),[.box (TConn.ve c),.arr 9 (fs.map TFrame.enc) true]⟩) (fun fs=>fs=ctA1 c++ctA2 c) ?_ ?_
 ·skip
  try simp only [go_sem]
  repeat' (refine CallS.intro (by apply spec_l20Allow) ?_<;>simp only [go_sem])
  cases h:(allW c.allowBidi c.tellBidi).2 with
  |true=>
   have hN:ctA2 c=[frU 18 (allW c.allowBidi c.tellBidi).1.limit false]:=by unfold ctA2;rw [h];rfl
   try simp only [go_sem,lM]
   repeat' (first|(with_reducible refine sideI ?_)|fail)
   refine SeeTo.intro (ctA1 c++ctA2 c) [0,4] rfl ?_
   simp only [go_sem]
   simp [hN,hfs,frU,TFrame.enc]
  |false=>
   have hN:ctA2 c=[]:=by unfold ctA2;rw [h];rfl
   simp only [go_sem]
   refine SeeTo.intro (ctA1 c++ctA2 c) [0,1] rfl ?_
   simp only [go_sem]
   simp [hN,hfs]
 clear hfl hfs
 rintro fs hfs
 have hfl:fs.length≤100:=by rw [hfs];(try simp only [List.length_append]);omega
 refine codeG_step Tryz.checked.mixed 2 (α:=List TFrame) (fun fs=>⟨(.junk::.ptr 0 0 0::.junk::.sl 1 0 fs.length::jn 109 []),[.box (TConn.ve c),.arr 9 (fs.map TFrame.enc) true]⟩) (fun fs=>fs=ctA1 c++ctA2 c++ctA3 c) ?_ ?_
 ·skip
  try simp only [go_sem]
  repeat' (refine CallS.intro (by apply spec_l20Allow) ?_<;>simp only [go_sem])
  cases h:(allW c.allowUni c.tellUni).2 with
  |true=>
   have hN:ctA3 c=[frU 18 (allW c.allowUni c.tellUni).1.limit true]:=by unfold ctA3;rw [h];rfl
   try simp only [go_sem,lM]
   repeat' (first|(with_reducible refine sideI ?_)|fail)
   refine SeeTo.intro (ctA1 c++ctA2 c++ctA3 c) [0,4] rfl ?_
   simp only [go_sem]
   simp [hN,hfs,frU,TFrame.enc,Nat.add_assoc]
  |false=>
   have hN:ctA3 c=[]:=by unfold ctA3;rw [h];rfl
   simp only [go_sem]
   refine SeeTo.intro (ctA1 c++ctA2 c++ctA3 c) [0,1] rfl ?_
   simp only [go_sem]
   simp [hN,hfs]
 clear hfl hfs
 rintro fs hfs
 have hfl:fs.length≤100:=by rw [hfs];(try simp only [List.length_append]);omega
 refine codeG_step Tryz.checked.mixed 1 (α:=List TFrame) (fun fs=>⟨(.junk::.ptr 0 0 0::.junk::.sl 1 0 fs.length::jn 109 []),[.box (TConn.ve c),.arr 9 (fs.map TFrame.enc) true]⟩) (fun fs=>fs=ctA1 c++ctA2 c++ctA3 c++c.streams.flatMap (strFr c)) ?_ ?_
 ·simp only [go_sem]
  subst hfs
  refine LoopK.intro (α:=Nat×List TFrame) (fun y=>⟨(.junk::.ptr 0 0 0::.junk::.sl 1 0 y.2.length::jn 6 (.d (.int .i64 y.1)::jn 102 [])),[.box (TConn.ve c),.arr 9 (y.2.map TFrame.enc) true]⟩)
   (fun y=>c.streams.length - y.1) (fun y=>y.1≤c.streams.length∧y.2=ctA1 c++ctA2 c++ctA3 c++(c.streams.take y.1).flatMap (strFr c)) (0,ctA1 c++ctA2 c++ctA3 c) [0,1] ⟨by simp,by simp⟩ ?_ ?_
  ·simp only [go_sem];simp
  ·rintro ⟨i,q⟩ ⟨hi,hq⟩
   simp only at hi hq
   by_cases h1:i < c.streams.length
   ·have h1':decide ((i:Int) < (c.streams.length:Int))=true:=dT (by omega)
    have hxi:=map_at TStream.enc c.streams i h1
    have hw:IntKind.i64.wrap ((i:Int) + 1)=((i + 1:Nat):Int):=by rw [w64]<;>omega
    have hs:ctA1 c++ctA2 c++ctA3 c++(c.streams.take (i + 1)).flatMap (strFr c)=q++strFr c c.streams[i]:=by
     rw [hq,List.take_add_one,gE h1,List.flatMap_append];simp
    have hln:q.length≤3 + 4 * i:=by
     have:=flatM_len (strFr c) 4 (c.streams.take i) fun s _=>strFr_len c s
     rw [List.length_take] at this
     rw [hq]
     simp only [List.length_append]
     omega
    have hl4:=strFr_len c c.streams[i]
    have hS:=spec_l20Stream c c.streams[i]
    generalize strFr c c.streams[i]=r at *
    try simp only [go_sem,lM,h1']
    repeat' (first|((first|refine CallS.intro (by assumption) ?_|refine CallK.intro (by assumption) ?_|refine drawE_intro mxEmC0 (by kernel_rfl) (by rfl) ?_)<;>simp only [go_sem,lM,tN,hxi,TStream.enc])|(with_reducible refine sideI ?_)|fail)
    refine RoundE.intro (i + 1,q++r) [0,3] ⟨by simp only;omega,hs.symm⟩ (by simp only;omega) ?_
    simp only [go_sem,hw];simp
   ·have h1':decide ((i:Int) < (c.streams.length:Int))=false:=dF (by omega)
    obtain rfl:i=c.streams.length:=by omega
    rw [tL] at hq
    subst hq
    simp only [go_sem,lM,h1']
    refine SeeTo.intro (ctA1 c++ctA2 c++ctA3 c++c.streams.flatMap (strFr c)) [0,1] rfl ?_
    simp only [go_sem]
    simp
 clear hfl hfs
 rintro fs hfs
 have hfl:fs.length≤123:=by rw [hfs];(try simp only [List.length_append]);omega
 refine codeG_step Tryz.checked.mixed 1 (α:=List TFrame) (fun fs=>⟨(.junk::.ptr 0 0 0::.junk::.sl 1 0 fs.length::jn 109 []),[.box (TConn.ve c),.arr 9 (fs.map TFrame.enc) true]⟩) (fun fs=>fs=ctA1 c++ctA2 c++ctA3 c++c.streams.flatMap (strFr c)++ctZ1 c) ?_ ?_
 ·skip
  try simp only [go_sem]
  repeat' (refine CallS.intro (by apply spec_MustTell) ?_<;>simp only [go_sem])
  cases h:mustTell c.total with
  |true=>
   have hN:ctZ1 c=[frU 20 c.total.limit false]:=by unfold ctZ1;rw [h];rfl
   try simp only [go_sem,lM]
   repeat' (first|(with_reducible refine sideI ?_)|fail)
   refine SeeTo.intro (ctA1 c++ctA2 c++ctA3 c++c.streams.flatMap (strFr c)++ctZ1 c) [0,3] rfl ?_
   simp only [go_sem]
   simp [hN,hfs,frU,TFrame.enc,Nat.add_assoc]
  |false=>
   have hN:ctZ1 c=[]:=by unfold ctZ1;rw [h];rfl
   simp only [go_sem]
   refine SeeTo.intro (ctA1 c++ctA2 c++ctA3 c++c.streams.flatMap (strFr c)++ctZ1 c) [0,1] rfl ?_
   simp only [go_sem]
   simp [hN,hfs,Nat.add_assoc]
 clear hfl hfs
 rintro fs hfs
 have hfl:fs.length≤130:=by rw [hfs];(try simp only [List.length_append]);omega
 refine codeG_step Tryz.checked.mixed 1 (α:=List TFrame) (fun fs=>⟨(.junk::.ptr 0 0 0::.junk::.sl 1 0 fs.length::jn 109 []),[.box (TConn.ve c),.arr 9 (fs.map TFrame.enc) true]⟩) (fun fs=>fs=ctA1 c++ctA2 c++ctA3 c++c.streams.flatMap (strFr c)++ctZ1 c++ctZ2 c) ?_ ?_
 ·skip
  try simp only [go_sem]
  cases h:decide (c.openBidi.blocked=c.openBidi.limit) with
  |true=>
   have hN:ctZ2 c=[frU 22 c.openBidi.limit false]:=by unfold ctZ2;exact if_pos (oT h)
   try simp only [go_sem,lM]
   repeat' (first|(with_reducible refine sideI ?_)|fail)
   refine SeeTo.intro (ctA1 c++ctA2 c++ctA3 c++c.streams.flatMap (strFr c)++ctZ1 c++ctZ2 c) [0,3] rfl ?_
   simp only [go_sem]
   simp [hN,hfs,frU,TFrame.enc,Nat.add_assoc]
  |false=>
   have hN:ctZ2 c=[]:=by unfold ctZ2;exact if_neg (oF h)
   simp only [go_sem]
   refine SeeTo.intro (ctA1 c++ctA2 c++ctA3 c++c.streams.flatMap (strFr c)++ctZ1 c++ctZ2 c) [0,1] rfl ?_
   simp only [go_sem]
   simp [hN,hfs,Nat.add_assoc]
 clear hfl hfs
 rintro fs hfs
 have hfl:fs.length≤130:=by rw [hfs];(try simp only [List.length_append]);omega
 refine codeG_of Tryz.checked.mixed ?_
 try simp only [go_sem]
 cases h:decide (c.openUni.blocked=c.openUni.limit) with
 |true=>
  have hN:ctZ3 c=[frU 22 c.openUni.limit true]:=by unfold ctZ3;exact if_pos (oT h)
  try simp only [go_sem,lM]
  repeat' (first|(with_reducible refine sideI ?_)|fail)
  rw [hE,← List.append_assoc,← List.append_assoc,← hfs,hN]
  simp [frU,TFrame.enc,List.take_of_length_le]
 |false=>
  have hN:ctZ3 c=[]:=by unfold ctZ3;exact if_neg (oF h)
  try simp only [go_sem,lM]
  repeat' (first|(with_reducible refine sideI ?_)|fail)
  rw [hE,← List.append_assoc,← List.append_assoc,← hfs,hN]
  simp
set_option maxRecDepth 100000
theorem spec_PieceFrame (i aZ:Int) (aQ:List UInt8) (aW:Bool):PureCall Tryz.prog 204 [.one (.int .i64 i),.agg [.int .i64 aZ,.str aQ,.bool aW]] [.agg (TFrame.enc (pieceF i (⟨aZ,aQ,aW⟩:TPiece)))]:=by
 refine pureT 13 Tryz.func204 Tryz.call204 [.cell 4 88] ?_
 intro _
 try simp only [go_sem]
 all_goals simp [pieceF]
theorem wants_guard (s:TStream):(bif bif s.canSend then decide (s.send.state < 3) else false then bif decide (0 < (s.send.pending.length:Int)) then true else decide (s.send.fin=1) else false)=wants s:=by
 unfold wants
 cases s.canSend<;>cases decide (s.send.state < 3)<;>cases decide (0 < (s.send.pending.length:Int))<;>rfl
theorem wantL_take (l:List TStream) (i:Nat) (h:i < l.length):((l.take (i + 1)).filter wants).map candOf=((l.take i).filter wants).map candOf++(if wants l[i] then [candOf l[i]] else []):=by
 rw [List.take_add_one,gE h,List.filter_append,List.map_append]
 cases hw:wants l[i]<;>simp [hw]
set_option maxHeartbeats 4000000 in
theorem spec_l20Wanting (c:TConn) (hz:SzC c):PureCall Tryz.prog 198 [.agg (TConn.enc c)] [.one (.sl 3 ((wantL c).map TCandidate.enc))]:=by
 refine pureT 49 Tryz.func198 Tryz.call198 [.tmp 2] ?_
 intro ok
 clear ok
 have hz1:=hz.1
 simp only [go_sem]
 refine LoopK.intro (α:=Nat×List TCandidate) (fun y=>⟨(.junk::.ptr 0 0 0::.junk::.sl 1 0 y.2.length::.d (.int .i64 y.1)::jn 44 []),[.box (TConn.ve c),.arr 3 (y.2.map TCandidate.enc) true]⟩)
  (fun y=>c.streams.length - y.1) (fun y=>y.1≤c.streams.length∧y.2=((c.streams.take y.1).filter wants).map candOf) (0,[]) [0,1] ⟨by simp,by simp⟩ ?_ ?_
 ·simp only [go_sem];simp
 ·rintro ⟨i,q⟩ ⟨hi,hq⟩
  simp only at hi hq
  by_cases h1:i < c.streams.length
  ·have h1':decide ((i:Int) < (c.streams.length:Int))=true:=dT (by omega)
   have hxi:=map_at TStream.enc c.streams i h1
   have hw:IntKind.i64.wrap ((i:Int) + 1)=((i + 1:Nat):Int):=by rw [w64]<;>omega
   have hs:=wantL_take c.streams i h1
   rw [← hq] at hs
   have hln:q.length≤i:=by rw [hq,lM];exact Nat.le_trans (List.length_filter_le _ _) (by simp;omega)
   have hG:=wants_guard c.streams[i]
   generalize c.streams[i]=s at *
   try simp only [go_sem,lM,tN,hxi,TStream.enc,h1']
   repeat' (first|(refine gSymS ?_<;>simp only [go_sem,lM])|(with_reducible refine sideI ?_)|fail)
   rw [hG]
   cases hW:wants s with
   |true=>
    rw [hW,if_pos rfl] at hs
    try simp only [go_sem,lM]
    repeat' (first|(with_reducible refine sideI ?_)|fail)
    refine RoundE.intro (i + 1,q++[candOf s]) [0,4] ⟨by simp only;omega,hs.symm⟩ (by simp only;omega) ?_
    simp only [go_sem,hw];simp [candOf,TCandidate.enc]
   |false=>
    rw [hW,if_neg (by simp),List.append_nil] at hs
    simp only [go_sem]
    refine RoundE.intro (i + 1,q) [0,1] ⟨by simp only;omega,hs.symm⟩ (by simp only;omega) ?_
    simp only [go_sem,hw];simp
  ·have h1':decide ((i:Int) < (c.streams.length:Int))=false:=dF (by omega)
   obtain rfl:i=c.streams.length:=by omega
   rw [tL] at hq
   simp only [go_sem,lM,h1']
   simp [wantL,hq]
theorem pf_guard (c:TConn) (id room:Int):(bif bif bif !isConnS c then true else !(strOf c.streams id).2 then true else !(strI c id).canSend then true else decide (room < 3))=!pfG c id room:=by
 unfold pfG
 cases isConnS c<;>cases (strOf c.streams id).2<;>cases (strI c id).canSend<;>cases decide (room < 3)<;>rfl
theorem mp_guard (c:TConn) (id:Int):(bif bif !isConnS c then true else !(strOf c.streams id).2 then true else !(strI c id).canSend)=!mpG c id:=by
 unfold mpG
 cases isConnS c<;>cases (strOf c.streams id).2<;>cases (strI c id).canSend<;>rfl
theorem mp_guard2 (a b c:Bool):(bif bif !a then true else !b then true else !c)=!(a && b && c):=by cases a<;>cases b<;>cases c<;>rfl
set_option maxHeartbeats 8000000 in
theorem spec_MarkPiece (c:TConn) (id:Int) (p:TPiece) (hz:SzC c) (hd:p.data.length≤1048576) (hw:SzS (mpS (strI c id) p)):PureCall Tryz.prog 203 [.agg (TConn.enc c),.one (.int .i64 id),.agg [.int .i64 p.offset,.str p.data,.bool p.fin]] [.agg (TConn.enc ((markP c id p))),.one (.bool (mpOk c id p))]:=by
 refine pureT 91 Tryz.func203 Tryz.call203 [.cell 6 37,.tmp 7] ?_
 intro ok
 clear ok
 have hbk:=bulkC hz
 have hC:markP c id p=if mpOk c id p then { c with total:=useCr c.total (mpN (strI c id) p),last:=id,streams:=putS c.streams (mpS (strI c id) p) } else c:=rfl
 have hN:mpOk c id p=(mpG c id && (sendOk (strI c id).send p && useOk (strI c id).credit (mpN (strI c id) p) && useOk c.total (mpN (strI c id) p))):=rfl
 have hG:=mp_guard c id
 obtain ⟨s1,s2,s3,s4⟩:=strOf_len hz.2.1 id
 have hO:=spec_StreamOf c id hz
 rw [show (strOf c.streams id).1=strI c id from rfl] at s1 s2 s3 s4 hO
 have hP:=spec_PutStream c.streams (mpS (strI c id) p) (by have:=hz.1;omega) hz.2.1 hw
 generalize strI c id=s at *
 have hn:IntKind.i64.wrap ((sendS s.send p).sent - s.send.sent)=mpN s p:=rfl
 try simp only [go_sem]
 repeat' ((first|refine CallS.cln (by first|assumption|(apply spec_l17Copy<;>first|assumption|omega)|(apply spec_IsConn<;>first|assumption|omega)) ?_|refine CallK.cln (by assumption) ?_|refine gSymS ?_)<;>simp only [go_sem,lM])
 rw [hG]
 cases hg:mpG c id with
 |false=>
  rw [hg,Bool.false_and] at hN
  rw [hN] at hC
  simp only [go_sem,lM,Bool.not_false]
  simp [hC,hN]
 |true=>
  rw [hg,Bool.true_and] at hN
  try simp only [go_sem,lM,Bool.not_true]
  repeat' ((first|refine CallS.cln (by first|assumption|(apply spec_SendPiece<;>first|assumption|omega)|apply spec_UseCredit) ?_|refine CallK.cln (by assumption) ?_|refine gSymS ?_)<;>simp only [go_sem,lM,hn])
  have hG2:=mp_guard2 (sendOk s.send p) (useOk s.credit (mpN s p)) (useOk c.total (mpN s p))
  rw [hG2,← hN]
  cases hk:mpOk c id p with
  |false=>
   rw [hk] at hC
   simp only [go_sem,lM,Bool.not_false]
   simp [hC]
  |true=>
   rw [hk] at hC
   try simp only [go_sem,lM,Bool.not_true]
   repeat' (first|((first|refine CallS.cln (by assumption) ?_|refine CallK.cln (by assumption) ?_)<;>simp only [go_sem,lM,mpS])|(with_reducible refine sideI ?_)|fail)
   simp [hC,mpS]
set_option maxRecDepth 100000
def mxEmP0:List (List Rl):=mxD 12 [501929,501927,501921,521950,521896,521734,531076,529618,525244,511771,472392,354294]
attribute [go_sem] mxEmP0
set_option maxHeartbeats 8000000 in
theorem spec_PieceFor (c:TConn) (id room:Int) (m:Nat) (hv:InvC m c) (hm:m≤20):PureCall Tryz.prog 201 [.agg (TConn.enc c),.one (.int .i64 id),.one (.int .i64 room)] [.agg [.int .i64 ((pieceFor c id room).1).offset,.str ((pieceFor c id room).1).data,.bool ((pieceFor c id room).1).fin],.one (.bool (pieceFor c id room).2)]:=by
 refine pureT 73 Tryz.func201 Tryz.call201 [.cell 6 206,.tmp 7] ?_
 intro ok
 clear ok
 have hz:=hv.sz hm
 have hsn:=(hv.strI id).snd
 have hup:=hsn.p
 have hen:(strI c id).send.ring.end'≤4611686018427387903:=by have:=hsn.e1;omega
 clear hsn
 have hC:pieceFor c id room=if pfG c id room then pfGo (strI c id).send id (pfLim c (strI c id)) room (minI room 60).toNat else (zP,false):=rfl
 have hG:=pf_guard c id room
 have hl:pfLim c (strI c id)=minI (strI c id).credit.limit (IntKind.i64.wrap ((strI c id).send.sent + credLeft c.total)):=rfl
 obtain ⟨s1,s2,s3,s4⟩:=strOf_len hz.2.1 id
 have hO:=spec_StreamOf c id hz
 rw [show (strOf c.streams id).1=strI c id from rfl] at s1 s2 s3 s4 hO
 have hr3:pfG c id room=true→3≤room:=fun h=>by
  simp only [pfG,Bool.and_eq_true,Bool.not_eq_true',decide_eq_false_iff_not] at h;omega
 generalize strI c id=s at *
 try simp only [go_sem]
 repeat' ((first|refine CallS.cln (by first|assumption|(apply spec_IsConn<;>first|assumption|omega)) ?_|refine CallK.cln (by assumption) ?_|refine gSymS ?_)<;>simp only [go_sem,lM])
 rw [hG]
 cases hg:pfG c id room with
 |false=>
  rw [hg] at hC
  simp only [go_sem,Bool.not_false]
  simp [hC,zP]
 |true=>
  rw [hg,if_pos rfl] at hC
  have h3:=hr3 hg
  try simp only [go_sem,Bool.not_true]
  repeat' ((first|refine CallS.cln (by assumption) ?_|refine CallK.cln (by first|assumption|apply spec_CreditLeft) ?_|refine drawE_intro mxEmP0 (by kernel_rfl) (by rfl) ?_)<;>simp only [go_sem])
  obtain ⟨N,hN⟩:=Int.eq_ofNat_of_zero_le (show 0≤minI room 60 by unfold minI;split<;>omega)
  have hN61:minI room 60≤60:=by unfold minI;split<;>omega
  have hN60:N≤60:=by omega
  rw [hN,tN] at hC
  have hN2:(if 60 < room then 60 else room)=(N:Int):=by rw [← hN];rfl
  have hl2:(if IntKind.i64.wrap (s.send.sent + credLeft c.total) < s.credit.limit then IntKind.i64.wrap (s.send.sent + credLeft c.total) else s.credit.limit)=pfLim c s:=rfl
  generalize pfLim c s=lim at *
  refine LoopK.intro (fun n:Nat=>⟨(.junk::.d (.int .i64 id)::.d (.int .i64 room)::.ptr 0 0 0::.junk::.junk::.ptr 1 0 0::.junk::.ptr 7 0 0::.junk::.d (.int .i64 lim)::.d (.int .i64 n)::jn 61 []),[.box (TConn.ve c),.box [.d (.int .i64 0),.d (.str []),.d (.bool false)],.cln 1 (s.send.ring.cells.map eI),.cln 2 (s.send.pending.map TRange.enc),.cln 2 (s.send.flight.map TRange.enc),.cln 2 (s.send.acked.map TRange.enc),.cln 2 (s.recv.buffer.chunks.map TChunk.enc),.box (TStream.vc s (.sl 2 0 s.send.ring.cells.length) (.sl 3 0 s.send.pending.length) (.sl 4 0 s.send.flight.length) (.sl 5 0 s.send.acked.length) (.sl 6 0 s.recv.buffer.chunks.length))]⟩)
   (fun n=>n) (fun n=>n≤60∧pfGo s.send id lim room n=pieceFor c id room) N [0,1,2,3,4,5,6,7] ⟨hN60,hC.symm⟩ ?_ ?_
  ·simp only [go_sem];simp [hN2,hl2]
  ·rintro n ⟨hn,hE⟩
   cases n with
   |zero=>
    have hd:decide ((0:Int) < ((0:Nat):Int))=false:=by decide
    simp only [go_sem,hd]
    rw [pfGo] at hE
    rw [← hE]
    simp [zP]
   |succ k=>
    have hd:decide ((0:Int) < ((k + 1:Nat):Int))=true:=dT (by omega)
    have hw:IntKind.i64.wrap (((k + 1:Nat):Int) - 1)=(k:Int):=by rw [w64]<;>omega
    rw [pfGo] at hE
    have hNP:=spec_NextPiece s.send.state s.send.ring.size s.send.ring.base s.send.ring.end' s.send.ring.cells s.send.pending s.send.flight s.send.acked s.send.final s.send.fin s.send.sent s.send.code ((k + 1:Nat):Int) lim (by omega)
    change PureCall _ _ _ (nextA s.send ((k + 1:Nat):Int) lim) at hNP
    simp only [nextA] at hNP
    generalize hp:nextP s.send ((k + 1:Nat):Int) lim=p at *
    try simp only [go_sem,lM,hd]
    repeat' ((first|refine CallS.intro (by assumption) ?_|refine CallK.intro (by assumption) ?_)<;>simp only [go_sem])
    cases hok:nextOk s.send ((k + 1:Nat):Int) lim with
    |false=>
     rw [hok] at hE
     simp only [go_sem,Bool.not_false]
     rw [← hE]
     simp [zP]
    |true=>
     rw [hok,if_pos rfl] at hE
     have hpl:p.data.length≤1048576:=by
      have:=nextP_len (m:=((k + 1:Nat):Int)) (l:=lim) (by omega) (by omega) hup hen
      rw [hp] at this
      omega
     have hFS:=spec_FrameSize 8 id p.offset p.data p.fin 0 0 0 false hpl
     change PureCall _ _ _ [.one (.int .i64 ((encF (pieceF id p)).length:Int))] at hFS
     try simp only [go_sem,Bool.not_true]
     repeat' ((first|refine CallS.intro (by first|assumption|apply spec_PieceFrame) ?_|refine CallK.intro (by assumption) ?_)<;>simp only [go_sem,pieceF])
     cases hfit:decide (((encF ⟨8,id,p.offset,p.data,p.fin,0,0,0,false⟩).length:Int)≤room) with
     |true=>
      have:((encF (pieceF id p)).length:Int)≤room:=oT hfit
      rw [if_pos this] at hE
      rw [← hE]
      simp only [go_sem]
      try simp [outOA]
     |false=>
      have:¬ ((encF (pieceF id p)).length:Int)≤room:=oF hfit
      rw [if_neg this] at hE
      simp only [go_sem]
      refine RoundE.intro k [0,1,2,3,4,5,6,7] ⟨by omega,hE⟩ (by omega) ?_
      simp only [go_sem,hw];simp
set_option maxRecDepth 100000
def mxEmF0:List (List Rl):=mxD 10 [57956,58804,58798,58780,58726,58927,58321,56862,52488,39366]
def mxEmF1:List (List Rl):=mxD 12 [511649,511647,511641,511663,511717,511515,511029,503010,448335,521599,478953,354294]
attribute [go_sem] mxEmF0 mxEmF1
def xBox (x:TConn) (a b:Nat):H:=.box (TConn.vc x (.sl a 0 x.streams.length) (.sl b 0 x.packets.length))
def xS (x:TConn):H:=.cln 39 (x.streams.map TStream.enc)
def xP (x:TConn):H:=.cln 2 (x.packets.map TPacket.enc)
def fH (c x:TConn) (fr:List TFrame):List H:=[.box (TConn.ve c),.box TConn.zc,xBox x 3 4,xS x,xP x,.arr 9 (fr.map TFrame.enc) true]
set_option maxHeartbeats 8000000 in
theorem l20Fill_inl (c x:TConn) (fr:List TFrame) (room:Int) (m:Nat) (hv:InvC m x) (hm:m≤20) (hfr:fr.length≤102) (hfd:∀ f ∈ fr,lowF f) (kv:List V) (hkv:voks 3 kv) (K:V→List H→Prop)
  (hk:K (.sl 5 0 (fillGo 200 ⟨x,[],fr,room⟩).fr.length) (fH c (fillGo 200 ⟨x,[],fr,room⟩).x (fillGo 200 ⟨x,[],fr,room⟩).fr)) :
  InlCall Tryz.prog 167 kv (fH c x fr) [.ptr 2 0 0,.sl 5 0 fr.length,.d (.int .i64 room)] K:=by
 have fin:∀ (q:FillS) (ex:List H),q=fillGo 200 ⟨x,[],fr,room⟩→SeeX kv K (.sl 5 0 q.fr.length) (fH c q.x q.fr++ex):=by
  rintro q ex rfl
  refine ⟨List.range 6,.sl 5 0 (fillGo 200 ⟨x,[],fr,room⟩).fr.length,fH c (fillGo 200 ⟨x,[],fr,room⟩).x (fillGo 200 ⟨x,[],fr,room⟩).fr,?_,hk⟩
  have h6:∀ a b c,(fH a b c).length=6:=fun _ _ _=>rfl
  refine see_keep (hs:=fH c (fillGo 200 ⟨x,[],fr,room⟩).x (fillGo 200 ⟨x,[],fr,room⟩).fr) (ex:=ex) ?_ (voks_mono (by rw [h6];decide) _ hkv) ?_ ?_
  ·simp [fH,xBox,xS,xP,roks,rok,voks,vok]
  ·simp [fH,vsees,vsee,ren]
  ·simp [fH,voks,vok]
 refine InlCall.see ?_
 refine (inl_ev (n:=92) (rs:=[.tmp 6]) Tryz.func167 rfl Tryz.call167 Tryz.checked.mixed rfl rfl ?_)
 simp only [go_sem,fH,xBox,xS,xP]
 refine LoopK.intro (α:=Nat×FillS) (fun y=>⟨(.ptr 2 0 0::.sl 5 0 y.2.fr.length::.d (.int .i64 y.2.room)::jn 4 (.sl 6 0 y.2.skip.length::.d (.int .i64 (200 - (y.1:Int)))::jn 83 [])),[.box (TConn.ve c),.box TConn.zc,.box (TConn.vc y.2.x (.sl 3 0 y.2.x.streams.length) (.sl 4 0 y.2.x.packets.length)),.cln 39 (y.2.x.streams.map TStream.enc),.cln 2 (y.2.x.packets.map TPacket.enc),.arr 9 (y.2.fr.map TFrame.enc) true,.arr 1 (y.2.skip.map eI) true]⟩)
  (fun y=>y.1) (fun y=>y.1≤200∧fillGo y.1 y.2=fillGo 200 ⟨x,[],fr,room⟩∧InvF m (302 - y.1) y.2.x y.2.fr∧y.2.skip.length + y.1≤200) (200,⟨x,[],fr,room⟩) [0,1,2,3,4,5,6] ⟨by simp,rfl,⟨hv,by simpa using hfr,hfd⟩,by simp⟩ ?_ ?_
 ·simp only [go_sem]
  simp
  exact kvOk_fix (fix_range (show 3≤7 by decide)) (by decide) hkv
 ·rintro ⟨n,q⟩ ⟨hn,hE,hI,hsk⟩
  simp only at hn hE hI hsk
  have hz:=hI.c.sz hm
  cases n with
  |zero=>
   have hd:decide ((200:Int) - ((0:Nat):Int) < 200)=false:=by decide
   rw [fillGo] at hE
   simp only [go_sem,hd]
   exact fin q [.arr 1 (q.skip.map eI) true] hE
  |succ k=>
   have hd:decide ((200:Int) - ((k + 1:Nat):Int) < 200)=true:=dT (by omega)
   have hw:IntKind.i64.wrap ((200:Int) - ((k + 1:Nat):Int) + 1)=200 - (k:Int):=by rw [w64]<;>omega
   have hskl:q.skip.length≤200:=by omega
   try simp only [go_sem,lM,hd]
   repeat' (first
    |((first|refine CallS.intro (by first|assumption|(apply spec_l20Wanting<;>first|assumption|omega)) ?_|refine CallK.intro (by first|assumption|(apply spec_l20Wanting<;>first|assumption|omega)) ?_|with_reducible refine gTrueS ?_|with_reducible refine gFalseS ?_|with_reducible refine gTrue ?_|with_reducible refine gFalse ?_|refine gSymS ?_|refine gSym ?_)<;>simp only [go_sem,lM])
    |(with_reducible refine sideI ?_)|fail)
   have hwl:(wantL q.x).length≤30:=by
    unfold wantL;rw [lM];exact Nat.le_trans (List.length_filter_le _ _) hz.1
   have hwo:∀ (ids:List Int) (l:List TCandidate),(ids.foldl withoutL l).length≤l.length:=by
    intro ids;induction ids with
    |nil=>intro l;exact Nat.le_refl _
    |cons i ids ih=>intro l;exact Nat.le_trans (ih (withoutL l i)) (List.length_filter_le _ _)
   refine LoopK.intro (α:=Nat×List TCandidate) (fun y=>⟨(.ptr 2 0 0::.sl 5 0 q.fr.length::.d (.int .i64 q.room)::jn 4 (.sl 6 0 q.skip.length::.d (.int .i64 (200 - ((k + 1:Nat):Int)))::.sl 7 0 y.2.length::.d (.int .i64 y.1)::jn 81 [])),[.box (TConn.ve c),.box TConn.zc,.box (TConn.vc q.x (.sl 3 0 q.x.streams.length) (.sl 4 0 q.x.packets.length)),.cln 39 (q.x.streams.map TStream.enc),.cln 2 (q.x.packets.map TPacket.enc),.arr 9 (q.fr.map TFrame.enc) true,.arr 1 (q.skip.map eI) true,.arr 3 (y.2.map TCandidate.enc) true]⟩)
    (fun y=>q.skip.length - y.1) (fun y=>y.1≤q.skip.length∧y.2=(q.skip.take y.1).foldl withoutL (wantL q.x)) (0,wantL q.x) [0,1,2,3,4,5,6,7] ⟨by simp,by simp⟩ ?_ ?_
   ·simp only [go_sem]
    simp
    exact kvOk_fix (fix_range (show 3≤8 by decide)) (by decide) hkv
   ·rintro ⟨j,l⟩ ⟨hj,hl⟩
    simp only at hj hl
    have hll:l.length≤30:=by rw [hl];exact Nat.le_trans (hwo _ _) hwl
    by_cases h1:j < q.skip.length
    ·have h1':decide ((j:Int) < (q.skip.length:Int))=true:=dT (by omega)
     have hxi:=map_at eI q.skip j h1
     have hwj:IntKind.i64.wrap ((j:Int) + 1)=((j + 1:Nat):Int):=by rw [w64]<;>omega
     have hs:(q.skip.take (j + 1)).foldl withoutL (wantL q.x)=withoutL l q.skip[j]:=by
      rw [List.take_add_one,gE h1,List.foldl_append,← hl];rfl
     try simp only [go_sem,lM,tN,hxi,eI,h1']
     repeat' (first
      |((first|refine CallS.intro (by first|assumption|(apply spec_l20Without<;>first|assumption|omega)) ?_|refine CallK.intro (by first|assumption|(apply spec_l20Without<;>first|assumption|omega)) ?_|with_reducible refine gTrueS ?_|with_reducible refine gFalseS ?_|with_reducible refine gTrue ?_|with_reducible refine gFalse ?_|refine gSymS ?_|refine gSym ?_)<;>simp only [go_sem,lM])
      |(with_reducible refine sideI ?_)|fail)
     refine RoundE.intro (j + 1,withoutL l q.skip[j]) [0,1,2,3,4,5,6,8] ⟨by simp only;omega,hs.symm⟩ (by simp only;omega) ?_
     simp only [go_sem,hwj]
     simp
     exact kvOk_fix (fun i hi=>by match i,hi with|0,_=>rfl|1,_=>rfl|2,_=>rfl) (by decide) hkv
    ·have h1':decide ((j:Int) < (q.skip.length:Int))=false:=dF (by omega)
     obtain rfl:j=q.skip.length:=by omega
     rw [tL] at hl
     have hl':l=fillL q:=hl
     clear hl
     subst hl'
     have hNS:=spec_NextStream (fillL q) q.x.last (by omega)
     rw [show nextS (fillL q) q.x.last=fillId q from rfl] at hNS
     have hfound:=fillId_found (q:=q)
     rw [fillGo] at hE
     have hPF:=spec_PieceFor q.x (fillId q) q.room m hI.c hm
     rw [show pieceFor q.x (fillId q) q.room=fillP q from rfl] at hPF
     have hpl:(fillP q).1.data.length≤60:=pieceFor_len hI.c (by omega) (fillId q) q.room
     try simp only [go_sem,lM,h1']
     repeat' (first
      |((first|refine CallS.intro (by first|assumption|(apply spec_NextStream<;>first|assumption|omega)) ?_|refine CallK.intro (by first|assumption|(apply spec_NextStream<;>first|assumption|omega)) ?_|with_reducible refine gTrueS ?_|with_reducible refine gFalseS ?_|with_reducible refine gTrue ?_|with_reducible refine gFalse ?_|refine gSymS ?_|refine gSym ?_)<;>simp only [go_sem])
      |(with_reducible refine sideI ?_)|fail)
     cases hneg:decide (fillId q < 0) with
     |true=>
      rw [if_pos (oT hneg)] at hE
      simp only [go_sem]
      exact fin q [.arr 1 (q.skip.map eI) true,.arr 3 ((fillL q).map TCandidate.enc) true] hE
     |false=>
      have hneg':=oF hneg
      rw [if_neg hneg'] at hE
      try simp only [go_sem,lM]
      repeat' (first
       |((first|refine CallS.intro (by first|assumption|(apply spec_PieceFor<;>first|assumption|omega)) ?_|refine CallK.intro (by first|assumption|(apply spec_PieceFor<;>first|assumption|omega)) ?_|with_reducible refine gTrueS ?_|with_reducible refine gFalseS ?_|with_reducible refine gTrue ?_|with_reducible refine gFalse ?_|refine gSymS ?_|refine gSym ?_)<;>simp only [go_sem])
       |(with_reducible refine sideI ?_)|fail)
      cases hp:(fillP q).2 with
      |false=>
       rw [hp,if_neg (by simp)] at hE
       simp only [go_sem,Bool.not_false]
       have hO:=spec_StreamOf q.x (fillId q) hz
       rw [show (strOf q.x.streams (fillId q)).1=strI q.x (fillId q) from rfl] at hO
       have hsS:SzS (strI q.x (fillId q)):=strOf_len hz.2.1 _
       have hP:=spec_PutStream q.x.streams (noteS (strI q.x (fillId q))) (by have:=hz.1;omega) hz.2.1 hsS
       have hIB:=invC_block hI.c (hfound (by omega))
       have hB:blockC q.x (fillId q)={ q.x with total:=noteCr q.x.total,streams:=putS q.x.streams (noteS (strI q.x (fillId q))) }:=rfl
       obtain ⟨s1,s2,s3,s4⟩:=hsS
       generalize strI q.x (fillId q)=s at *
       simp only [noteS] at hP
       refine CallS.inlK [0,1,2,7,8,11] (by simp only [keepT,List.elem_cons,List.elem_nil,Nat.reduceBEq,Nat.reduceAdd,cond_true,cond_false];rfl) (inl_ev (n:=35) (rs:=[]) Tryz.func202 rfl Tryz.call202 Tryz.checked.mixed rfl rfl ?_)
       simp only [go_sem,lM]
       try simp only [go_sem,lM,noteS]
       repeat' (first
        |((first|refine CallS.cln (by first|assumption|(apply spec_StreamOf<;>first|assumption|omega)|(apply spec_NoteBlocked<;>first|assumption|omega)|(apply spec_PutStream<;>first|assumption|omega)) ?_|refine CallK.cln (by first|assumption|(apply spec_StreamOf<;>first|assumption|omega)|(apply spec_NoteBlocked<;>first|assumption|omega)|(apply spec_PutStream<;>first|assumption|omega)) ?_|with_reducible refine gTrueS ?_|with_reducible refine gFalseS ?_|with_reducible refine gTrue ?_|with_reducible refine gFalse ?_|refine gSymS ?_|refine gSym ?_|refine drawE_intro mxEmF0 (by kernel_rfl) (by rfl) ?_)<;>simp only [go_sem,lM])
        |(with_reducible refine sideI ?_)|fail)
       try simp only [go_sem,lM]
       repeat' (first
        |((first|with_reducible refine gTrueS ?_|with_reducible refine gFalseS ?_|with_reducible refine gTrue ?_|with_reducible refine gFalse ?_|refine gSymS ?_|refine gSym ?_)<;>simp only [go_sem,lM])
        |(with_reducible refine sideI ?_)|fail)
       refine RoundE.intro (k,fillB q) [0,1,2,15,4,5,17] ⟨by simp only;omega,hE,⟨hIB,by have:=hI.n;simp only [fillB];omega,hI.d⟩,by simp only [fillB,List.length_append,List.length_cons,List.length_nil];omega⟩ (by simp only;omega) ?_
       simp only [go_sem,hw,fillB,hB,noteS]
       simp
       exact ⟨rfl,kvOk_fix (fun i hi=>by match i,hi with|0,_=>rfl|1,_=>rfl|2,_=>rfl) (by decide) hkv⟩
      |true=>
       rw [hp,if_pos rfl] at hE
       simp only [go_sem,Bool.not_true]
       have hszm:SzS (mpS (strI q.x (fillId q)) (fillP q).1):=InvS.sz (m:=m) (s:=mpS (strI q.x (fillId q)) (fillP q).1) ⟨invSnd_send (hI.c.strI _).snd (by omega),(hI.c.strI _).ch,(hI.c.strI _).ln⟩ hm
       have hMP:=spec_MarkPiece q.x (fillId q) (fillP q).1 hz (by omega) hszm
       have hIM:=invC_markP hI.c (fillId q) (fillP q).1 (by omega)
       try simp only [go_sem,lM]
       repeat' (first
        |((first|refine CallS.cln (by first|assumption|(apply spec_MarkPiece<;>first|assumption|omega)) ?_|refine CallK.cln (by first|assumption|(apply spec_MarkPiece<;>first|assumption|omega)) ?_|with_reducible refine gTrueS ?_|with_reducible refine gFalseS ?_|with_reducible refine gTrue ?_|with_reducible refine gFalse ?_|refine gSymS ?_|refine gSym ?_|refine drawE_intro mxEmF1 (by kernel_rfl) (by rfl) ?_)<;>simp only [go_sem,lM])
        |(with_reducible refine sideI ?_)|fail)
       cases hmk:mpOk q.x (fillId q) (fillP q).1 with
       |false=>
        rw [hmk,if_neg (by simp)] at hE
        simp only [go_sem,Bool.not_false]
        exact fin q _ hE
       |true=>
        rw [hmk,if_pos rfl] at hE
        have hFS:=spec_FrameSize 8 (fillId q) (fillP q).1.offset (fillP q).1.data (fillP q).1.fin 0 0 0 false (by omega)
        change PureCall _ _ _ [.one (.int .i64 ((encF (pieceF (fillId q) (fillP q).1)).length:Int))] at hFS
        have hfrl:=hI.n
        try simp only [go_sem,Bool.not_true]
        repeat' (first
         |((first|refine CallS.intro (by first|assumption|(apply spec_PieceFrame<;>first|assumption|omega)|(apply spec_FrameSize<;>first|assumption|omega)) ?_|refine CallK.intro (by first|assumption|(apply spec_PieceFrame<;>first|assumption|omega)|(apply spec_FrameSize<;>first|assumption|omega)) ?_|with_reducible refine gTrueS ?_|with_reducible refine gFalseS ?_|with_reducible refine gTrue ?_|with_reducible refine gFalse ?_|refine gSymS ?_|refine gSym ?_)<;>simp only [go_sem,lM,pieceF])
         |(with_reducible refine sideI ?_)|fail)
        refine RoundE.intro (k,fillM q) [0,1,2,9,10,14,6] ⟨by simp only;omega,hE,(hI.add hIM (f:=pieceF (fillId q) (fillP q).1) hpl).mono (by omega),by simp only [fillM];omega⟩ (by simp only;omega) ?_
        simp only [go_sem,hw,fillM,pieceF]
        simp
        have hkf:=kvOk_fix (ρ:=[0,1,2,9,10,14,6]) (m:=3) (n:=7) (fun i hi=>by match i,hi with|0,_=>rfl|1,_=>rfl|2,_=>rfl) (by decide) hkv
        first|exact ⟨rfl,hkf⟩|exact hkf
set_option maxRecDepth 100000
def mxSave0:List (List Rl):=mxD 22 [31381059608,31381059606,31381059600,31381059582,31381059528,31380272046,31380271560,31380270102,31380265728,31381049646,31381010280,31380892182,31380537888,31379465286,31376276640,31366710702,31338012888,31251919446,30993639120,30218798142,27894275208,20920706406]
def mxSave1:List (List Rl):=mxD 10 [57956,58804,58798,58780,58726,58927,58321,56862,52488,39366]
attribute [go_sem] mxSave0 mxSave1
def sCells (s:TStream) (m:Nat):List V:=(TStream.vc s (.sl (m + 4) 0 s.send.ring.cells.length) (.sl (m + 5) 0 s.send.pending.length) (.sl (m + 6) 0 s.send.flight.length) (.sl (m + 7) 0 s.send.acked.length) (.sl (m + 8) 0 s.recv.buffer.chunks.length))
def sArr (s:TStream):List H:=[.cln 1 (s.send.ring.cells.map eI),.cln 2 (s.send.pending.map TRange.enc),.cln 2 (s.send.flight.map TRange.enc),.cln 2 (s.send.acked.map TRange.enc),.cln 2 (s.recv.buffer.chunks.map TChunk.enc)]
/-- a connection and its lists, from entry m on -/
def xH (x:TConn) (m:Nat) (pk:H):List H:=[xBox x (m + 1) (m + 2),xS x,pk]
/-- .. and behind it a stream and its lists -/
def xsH (x:TConn) (s:TStream) (m:Nat) (pk:H):List H:=xH x m pk++(.box (sCells s m)::sArr s)
/-- What came behind is forgotten but some entries, the first of which is where it was. -/
theorem see_x {kv ts ts':List V} {pre ex ex':List H} (ρ2:List Nat) (hnd:(pre.length::ρ2).Nodup) (hge:∀ k ∈ ρ2,pre.length≤k) (hr:roks pre.length pre) (hkv:voks (pre.length + 1) kv) (hx:hsees (List.range pre.length++pre.length::ρ2) (pre++ex) (pre.length::ρ2) ex') (hro:allOk (pre.length + ex'.length) ex') (hl0:0 < ex'.length) (ht:vsees (List.range pre.length++pre.length::ρ2) ts' ts) (ht':voks (pre.length + ex'.length) ts') :
  seeE kv (List.range pre.length++pre.length::ρ2) ⟨ts,pre++ex⟩ ⟨ts',pre++ex'⟩:=by
 have hf:Fix (List.range pre.length++pre.length::ρ2) pre.length:=fix_range_app (Nat.le_refl _) _
 have hf1:Fix (List.range pre.length++pre.length::ρ2) (pre.length + 1):=fun i hi=>by
  by_cases h:i < pre.length
  ·exact hf i h
  ·rw [show i=pre.length from by omega,rangeA1]
 have hl:(pre++ex').length=pre.length + ex'.length:=by simp
 refine ⟨?_,ht,hsees_append (hsees_fix hf _ _ _ (by simp) fun j hj=>?_) hx,by rw [hl];exact ht',?_,by rw [hl];exact kvOk_fix hf1 (by omega) hkv⟩
 ·rw [List.nodup_append]
  refine ⟨List.nodup_range,hnd,fun a ha b hb=>?_⟩
  have:pre.length≤b:=by
   rcases List.mem_cons.1 hb with rfl|hb
   ·exact Nat.le_refl _
   ·exact hge b hb
  simp at ha;omega
 ·refine ⟨pre[j],gE hj,?_,roks_at hr (gE hj)⟩
  have:(List.range pre.length).getD j 0=j:=fix_range (Nat.le_refl _) j hj
  rw [this]
  exact hget_some (by rw [List.getElem?_append_left hj];exact gE hj)
 ·rw [hl]
  exact allOk_append (roks_allOk (roks_mono (by omega) hr)) hro
set_option maxHeartbeats 8000000 in
theorem l18Save_inl (x:TConn) (s:TStream) (pk:H) (hpk:∀ n,rok n pk) (hx:x.streams.length≤1000) (hz:∀ t ∈ x.streams,SzS t) (hs:SzS s) (pre:List H) (kv:List V) (hr:roks pre.length pre) (hkv:voks (pre.length + 1) kv) (K:V→List H→Prop)
  (hk:K (.tup []) (pre++xH (saveC x s) pre.length pk)):InlCall Tryz.prog 161 kv (pre++xsH x s pre.length pk) [.ptr pre.length 0 0,.agg (sCells s pre.length)] K:=by
 have fin:∀ (ex:List H) (k:Nat),3≤k→ex[k]?=some (.cln 39 ((saveC x s).streams.map TStream.enc))→ex[0]?=some (xBox (saveC x s) (pre.length + k) (pre.length + 2))→ex[2]?=some pk→SeeX kv K (.tup []) (pre++ex):=by
  intro ex k hk3 h1 h2 h3
  have hg:∀ j y,ex[j]?=some y→hget (pre++ex) (pre.length + j)=y:=fun j y h=>hget_some (by rw [List.getElem?_append_right (by omega),Nat.add_sub_cancel_left];exact h)
  refine ⟨_,.tup [],pre++xH (saveC x s) pre.length pk,see_x [pre.length + k,pre.length + 2] (by simp;omega) (by simp) hr hkv ?_ ?_ (by simp [xH]) (by simp [vsees,vsee,ren,rens]) (by simp [voks,vok]),hk⟩
  ·have g0:=hg 0 _ h2
   rw [Nat.add_zero] at g0
   have r1:(List.range pre.length++[pre.length,pre.length + k,pre.length + 2]).getD (pre.length + 1) 0=pre.length + k:=by rw [rangeAN];rfl
   have r2:(List.range pre.length++[pre.length,pre.length + k,pre.length + 2]).getD (pre.length + 2) 0=pre.length + 2:=by rw [rangeAN];rfl
   have hp:(saveC x s).packets=x.packets:=(overC_same x s).2
   have hf:Fix (List.range pre.length++[pre.length,pre.length + k,pre.length + 2]) pre.length:=fix_range_app (Nat.le_refl _) _
   have hpk2:=hsee_fix hf (hpk pre.length)
   simp only [xH,xS,hsees,g0,hg k _ h1,hg 2 _ h3,and_true,hpk2]
   simp only [xBox,TConn.vc,hsee,vsees,vsee,ren,r1,r2,and_self,hp]
  ·have:=roks_allOk (m:=pre.length + 3) (xs:=[pk]) ⟨hpk _,trivial⟩
   simp only [xH,xS,xBox,TConn.vc,allOk,hok,voks,vok,List.length_cons,List.length_nil] at this ⊢
   simp [this]
 have hOv:=over_guard x s
 obtain ⟨B,hv⟩:∃ B,overB x s=B:=⟨_,rfl⟩
 rw [hv] at hOv
 have hs':=hs
 obtain ⟨w1,w2,w3,w4⟩:=hs
 have w3:∀ ch ∈ s.recv.buffer.chunks,ch.data.length≤1048576:=fun ch hc=>by have:=w3 ch hc;omega
 have hP0:=spec_PutStream x.streams s hx hz hs'
 have hP1:=spec_PutStream x.streams { s with counted:=true } hx hz hs'
 refine InlCall.see ?_
 refine (inl_ev (n:=15) (rs:=[]) Tryz.func161 rfl Tryz.call161 Tryz.checked.mixed rfl rfl ?_)
 simp only [go_sem,xsH,xH,xS,sCells,sArr,xBox,cA,nA,hput_endN]
 refine CallS.inlK [0,3] (by simp only [keepT,List.elem_cons,List.elem_nil,Nat.reduceBEq,Nat.reduceAdd,cond_true,cond_false];rfl) (inl_ev (n:=62) (rs:=[]) Tryz.func188 rfl Tryz.call188 Tryz.checked.mixed rfl rfl ?_)
 simp only [go_sem]
 try simp only [go_sem,lM,hput_end,hput_endN,hget_endN,hget_end0,hput_end0,Nat.add_zero]
 repeat' (first|((first|refine CallS.intro (by assumption) ?_|refine CallK.intro (by first|assumption|apply spec_IsOwn|(apply spec_IsOver<;>first|assumption|omega)) ?_|refine gSym ?_|refine drawE_intro mxSave0 (by kernel_rfl) (by rfl) ?_)<;>simp only [go_sem,lM,hget_endN,hget_end0,Nat.add_zero])|(with_reducible refine sideI ?_)|fail)
 rw [hOv]
 cases B with
 |false=>
  have hE:=saveC_no hv
  simp only [hE] at fin
  simp only [go_sem,Bool.not_false]
  try simp only [go_sem,lM,hput_end,hput_endN,hget_endN,hget_end0,hput_end0,Nat.add_zero]
  repeat' (first|((first|refine CallS.cln (by assumption) ?_|refine CallK.cln (by assumption) ?_|refine gSym ?_|refine drawE_intro mxSave1 (by kernel_rfl) (by rfl) ?_)<;>simp only [go_sem,lM,hput_endN,hget_endN,hget_end0,hput_end0,Nat.add_zero])|(with_reducible refine sideI ?_)|fail)
  refine fin _ 10 (by decide) ?_ ?_ ?_<;>rfl
 |true=>
  try simp only [go_sem,Bool.not_true,hput_endN,hget_endN,Nat.add_zero]
  repeat' ((first|refine CallS.intro (by first|assumption|apply spec_IsUniId) ?_|refine CallK.intro (by assumption) ?_)<;>simp only [go_sem])
  cases hU:isUni s.id with
  |true=>
   have hE:=saveC_uni hv hU
   simp only [hE] at fin
   try simp only [go_sem,hget_end0]
   repeat' ((first|refine CallS.intro (by first|assumption|apply spec_CloseOne) ?_|refine CallK.intro (by assumption) ?_)<;>simp only [go_sem,hput_endN,hget_endN,hget_end0,hput_end0])
   try simp only [go_sem,lM,hput_end,hput_endN,hget_endN,hget_end0,hput_end0,Nat.add_zero]
   repeat' (first|((first|refine CallS.cln (by assumption) ?_|refine CallK.cln (by assumption) ?_|refine gSym ?_|refine drawE_intro mxSave1 (by kernel_rfl) (by rfl) ?_)<;>simp only [go_sem,lM,hput_endN,hget_endN,hget_end0,hput_end0,Nat.add_zero])|(with_reducible refine sideI ?_)|fail)
   refine fin _ 11 (by decide) ?_ ?_ ?_<;>rfl
  |false=>
   have hE:=saveC_bidi hv hU
   simp only [hE] at fin
   try simp only [go_sem,hget_end0]
   repeat' ((first|refine CallS.intro (by first|assumption|apply spec_CloseOne) ?_|refine CallK.intro (by assumption) ?_)<;>simp only [go_sem,hput_endN,hget_endN,hget_end0,hput_end0])
   try simp only [go_sem,lM,hput_end,hput_endN,hget_endN,hget_end0,hput_end0,Nat.add_zero]
   repeat' (first|((first|refine CallS.cln (by assumption) ?_|refine CallK.cln (by assumption) ?_|refine gSym ?_|refine drawE_intro mxSave1 (by kernel_rfl) (by rfl) ?_)<;>simp only [go_sem,lM,hput_endN,hget_endN,hget_end0,hput_end0,Nat.add_zero])|(with_reducible refine sideI ?_)|fail)
   refine fin _ 11 (by decide) ?_ ?_ ?_<;>rfl
def encR (q:TPacket×Value):List D:=[.int .i64 q.1.number,.raw q.2]
theorem encR_flat (qs:List (TPacket×Value)):flatE (qs.map encR)=true:=by
 simp only [flatE,List.all_map,List.all_eq_true]
 intro q _
 simp [encR,D.flat]
/-- The cells of an array of packets, the frames' slices as they are. -/
theorem repE_raw {h:Array Obj} {b:Nat}:∀ (ps:List TPacket) (f:Nat) (G:List Nat),repE h true b f 2 (ps.map TPacket.enc) G→
  ∃ (qs:List (TPacket×Value)) (Fs:List (List Nat)),qs.map (·.1)=ps∧repE h true b f 2 (qs.map encR) []∧Fs.length=qs.length∧G=Fs.flatten∧∀ (j:Nat) (q:TPacket×Value) (F:List Nat),qs[j]?=some q→Fs[j]?=some F→rep h true (.sl 9 (q.1.frames.map TFrame.enc)) q.2 F
 |[],f,G,r=>by simp only [List.map_nil,repE] at r;exact ⟨[],[],rfl,by simp [repE],rfl,by simp [r],by simp⟩
 |p::ps,f,G,r=>by
  simp only [List.map_cons,repE] at r
  obtain ⟨G1,G2,rfl,_,r1,r2⟩:=r
  simp only [TPacket.enc,repC] at r1
  obtain ⟨v1,A1,A2,rfl,c1,d1,v2,B1,B2,rfl,c2,d2,rfl⟩:=r1
  obtain ⟨qs,Fs,e1,e2,e3,e4,e5⟩:=repE_raw ps (f + 2) G2 r2
  have hA:A1=[]:=by simp only [rep] at d1;exact d1.2.1
  subst hA
  have hraw:v2.oneCell'=true∧v2.cells=#[v2]:=by
   obtain ⟨a,c,h1,_⟩:=(by simpa only [rep] using d2:∃ a c,v2=.slice a (p.frames.map TFrame.enc).length c∧_)
   rw [h1];exact ⟨rfl,rfl⟩
  refine ⟨(p,v2)::qs,B1::Fs,by simp [e1],?_,by simp [e3],by simp [e4],?_⟩
  ·simp only [List.map_cons,repE]
   refine ⟨[],[],rfl,rfl,?_,e2⟩
   simp only [encR,repC,rep]
   exact ⟨v1,[],[],rfl,c1,by simpa only [rep] using d1,v2,[],[],rfl,c2,⟨rfl,rfl,hraw.1,hraw.2⟩,rfl⟩
  ·intro j q F hq hF
   cases j with
   |zero=>simp at hq hF;subst hq;subst hF;exact d2
   |succ j=>exact e5 j q F (by simpa using hq) (by simpa using hF)
/-- .. and back: of some of them. -/
theorem repE_unraw {h h':Array Obj} (hs:h.size≤h'.size) {b:Nat} (g:TPacket→Bool):∀ (qs:List (TPacket×Value)) (Fs:List (List Nat)) (f:Nat),Fs.length=qs.length→(∀ x ∈ Fs.flatten,h'[x]?=h[x]?)→
  (∀ (j:Nat) (q:TPacket×Value) (F:List Nat),qs[j]?=some q→Fs[j]?=some F→rep h true (.sl 9 (q.1.frames.map TFrame.enc)) q.2 F)→repE h' true b f 2 ((qs.filter fun q=>g q.1).map encR) []→
  ∃ G,G.Sublist Fs.flatten∧repE h' true b f 2 (((qs.map (·.1)).filter g).map TPacket.enc) G
 |[],Fs,f,hl,_,_,_=>⟨[],List.nil_sublist _,by simp [repE]⟩
 |q::qs,[],f,hl,_,_,_=>by simp at hl
 |q::qs,F::Fs,f,hl,hH,hF,r=>by
  have hH1:∀ x ∈ F,h'[x]?=h[x]?:=fun x hx=>hH x (by simp [hx])
  have hH2:∀ x ∈ Fs.flatten,h'[x]?=h[x]?:=fun x hx=>hH x (by rw [List.flatten_cons];exact List.mem_append_right _ hx)
  have hF2:∀ (j:Nat) (q':TPacket×Value) (F':List Nat),qs[j]?=some q'→Fs[j]?=some F'→rep h true (.sl 9 (q'.1.frames.map TFrame.enc)) q'.2 F':=fun j q' F' h1 h2=>hF (j + 1) q' F' (by simpa using h1) (by simpa using h2)
  by_cases hg:g q.1=true
  ·rw [List.filter_cons_of_pos (by simpa using hg)] at r
   simp only [List.map_cons,repE] at r
   obtain ⟨G1,G2,e,_,r1,r2⟩:=r
   obtain ⟨rfl,rfl⟩:=List.append_eq_nil_iff.1 e.symm
   obtain ⟨G,s1,s2⟩:=repE_unraw hs g qs Fs (f + 2) (by simpa using hl) hH2 hF2 r2
   simp only [encR,repC,rep] at r1
   obtain ⟨v1,A1,A2,e1,c1,d1,v2,B1,B2,e2,c2,d2,e3⟩:=r1
   refine ⟨F++G,by rw [List.flatten_cons];exact List.Sublist.append (List.Sublist.refl _) s1,?_⟩
   rw [List.map_cons,List.filter_cons_of_pos (by simpa using hg),List.map_cons]
   simp only [repE]
   refine ⟨F,G,rfl,rfl,?_,s2⟩
   simp only [TPacket.enc,repC,rep]
   have hq:=hF 0 q F rfl rfl
   refine ⟨v1,[],F,rfl,c1,⟨d1.1,rfl,d1.2.2⟩,v2,F,[],by simp,c2,?_,rfl⟩
   rw [d2.1]
   have:=rep_mono hs _ _ F hH1 hq
   simpa only [rep] using this
  ·rw [List.filter_cons_of_neg (by simpa using hg)] at r
   obtain ⟨G,s1,s2⟩:=repE_unraw hs g qs Fs f (by simpa using hl) hH2 hF2 r
   refine ⟨G,by rw [List.flatten_cons];exact s1.trans (List.sublist_append_right _ _),?_⟩
   rw [List.map_cons,List.filter_cons_of_neg (by simpa using hg)]
   exact s2
/-- A call that moves packets about without looking at their frames. -/
theorem wrap_raw {P:Program} {f:FuncId} {kv:List V} {vs:List V} {V0:V} {ps:List TPacket} (g:TPacket→Bool) (id:Nat) {hs hf:List H} {hr hr2:List (TPacket×Value)→List H}
  (e0:hget hs id=.cln 2 (ps.map TPacket.enc)) (e1:∀ qs,hget (hr qs) id=.arr 2 (qs.map encR) true∧(hr qs).length=hs.length∧∀ i,i≠id→hget (hr qs) i=hget hs i)
  (e2:∀ qs,qs.map (·.1)=ps→hget (hr2 qs) id=.arr 2 ((qs.filter fun q=>g q.1).map encR) true∧(hr2 qs).length=hf.length∧∀ i,i≠id→hget (hr2 qs) i=hget hf i) (e3:hget hf id=.arr 2 ((ps.filter g).map TPacket.enc) true)
  {K:V→List H→Prop} (hraw:∀ qs,qs.map (·.1)=ps→InlCall P f kv (hr qs) vs (fun v hs'=>v=V0∧hs'=hr2 qs)) (hk:K V0 hf):InlCall P f kv hs vs K:=by
 intro B w0 kp us0 w hkv hRR
 obtain ⟨Dm,φ,r,hD⟩:=hRR
 rcases r.hp id with hd|⟨β,eβ,hβ⟩
 ·rw [e0] at hd;cases hd
 rw [e0] at hβ
 simp only [HRel] at hβ
 obtain ⟨bsz,hβ⟩:=hβ
 have nestOwn:∀ b ∈ β.nest,Owns φ hs id b:=fun b hb=>⟨β,eβ,.inr ⟨by rw [e0];rfl,hb⟩⟩
 have blkOwn:∀ b,β.blk=some b→Owns φ hs id b:=fun b hb=>⟨β,eβ,.inl ⟨by rw [e0];rfl,hb⟩⟩
 have ho2:=r.o2 id β eβ (by rw [show (⟨vs,hs⟩:St).heap=hs from rfl,e0];rfl)
 obtain ⟨qs,Fs,hq,hrep,hFl,hGF,hFr,hcase⟩:∃ (qs:List (TPacket×Value)) (Fs:List (List Nat)),qs.map (·.1)=ps∧HRel (phiSet φ id { β with nest:=[] }) (NotTop (phiSet φ id { β with nest:=[] }) (hr qs)) w.heap { β with nest:=[] } (.arr 2 (qs.map encR) true)∧Fs.length=qs.length∧β.nest=Fs.flatten ∧
   (∀ (j:Nat) (q:TPacket×Value) (F:List Nat),qs[j]?=some q→Fs[j]?=some F→rep w.heap true (.sl 9 (q.1.frames.map TFrame.enc)) q.2 F)∧True:=by
  rcases hβ with ⟨h1,h2,h3,h4⟩|⟨b,h1,h2,h3,h4⟩
  ·have hps:ps=[]:=List.map_eq_nil_iff.1 h2
   exact ⟨[],[],by simp [hps],by simp only [HRel];exact ⟨bsz,.inl ⟨h1,rfl,h3,trivial⟩⟩,rfl,by simp [h4],by simp,trivial⟩
  ·obtain ⟨qs,Fs,a1,a2,a3,a4,a5⟩:=repE_raw ps β.off β.nest h4
   refine ⟨qs,Fs,a1,?_,a3,a4,a5,trivial⟩
   simp only [HRel]
   refine ⟨bsz,.inr ⟨b,[],h1,?_,h3,a2,fun _=>rfl,fun q=>by cases q⟩⟩
   have:(qs.map encR).length=(ps.map TPacket.enc).length:=by rw [lM,lM,← a1,lM]
   rw [this];exact h2
 obtain ⟨q1,q2,q3⟩:=e1 qs
 let φ1:Phi:=phiSet φ id { β with nest:=[] }
 have hφ0:φ1 id=some { β with nest:=[] }:=by simp [φ1,phiSet]
 have hφ1:∀ i,i≠id→φ1 i=φ i:=fun i hi=>by simp [φ1,phiSet,hi]
 have own1:∀ i b,Owns φ1 (hr qs) i b→Owns φ hs i b∧b ∉ β.nest:=by
  rintro i b ⟨β',e,ho⟩
  by_cases hi:i=id
  ·subst hi
   rw [hφ0] at e;cases e
   rw [q1] at ho
   rcases ho with ⟨_,hb⟩|⟨_,hb⟩
   ·exact ⟨blkOwn b hb,fun hn=>ho2.2 b hb hn⟩
   ·cases hb
  ·rw [hφ1 i hi] at e
   rw [q3 i hi] at ho
   refine ⟨⟨β',e,ho⟩,fun hn=>hi (r.o1 i id b ⟨β',e,ho⟩ (nestOwn b hn))⟩
 have hle:Le φ φ1:=fun i β' e=>by
  by_cases hi:i=id
  ·subst hi;rw [eβ] at e;cases e;exact ⟨_,hφ0,rfl,rfl,rfl,rfl⟩
  ·exact ⟨β',by rw [hφ1 i hi];exact e,rfl,rfl,rfl,rfl⟩
 have hT:∀ b,b < w.heap.size→NotTop φ hs b→NotTop φ1 (hr qs) b:=by
  intro b _ ht i β' e he
  by_cases hi:i=id
  ·subst hi
   rw [hφ0] at e;cases e
   rw [q1] at he
   rcases he with ⟨_,he⟩|⟨he,_⟩
   ·exact ht i β eβ (.inl ⟨by rw [e0];rfl,he⟩)
   ·cases he
  ·rw [hφ1 i hi] at e
   rw [q3 i hi] at he
   exact ht i β' e he
 have Kp:Keep φ φ1 (NotTop φ hs) (NotTop φ1 (hr qs)) w.heap w.heap:=⟨hle,hT,fun _ _ _=>rfl,Nat.le_refl _⟩
 have R1:R (fun b=>B b∧b ∉ β.nest) w Dm φ1 ⟨vs,hr qs⟩ kp ⟨us0.toArray,[]⟩ w:=by
  refine ⟨VRels_keep Kp _ _ r.tm,fun p hp=>VRel_keep Kp _ _ (r.kp p hp),fun i=>?_,fun i j b hi hj=>r.o1 i j b (own1 i b hi).1 (own1 j b hj).1,fun i β' e hx=>?_,fun i b ho=>⟨r.o3 i b (own1 i b ho).1,(own1 i b ho).2⟩,fun i β' e=>?_,Bel.refl _ _,fun k hk=>⟨r.bs k hk,fun hn=>by have:=Owns.lt r (nestOwn k hn);omega⟩,r.de,⟨fun p hp h=>r.gb.1 p hp h.1,?_⟩⟩
  ·by_cases hi:i=id
   ·subst hi
    exact .inr ⟨_,hφ0,by rw [show (⟨vs,hr qs⟩:St).heap=hr qs from rfl,q1];exact hrep⟩
   ·simp only [q3 i hi,hφ1 i hi]
    rcases r.hp i with hd|⟨β',e,hr'⟩
    ·exact .inl hd
    ·exact .inr ⟨β',e,HRel_keep Kp hr' (fun _ _ _=>rfl) (fun _ _ _=>rfl)⟩
  ·by_cases hi:i=id
   ·subst hi
    rw [hφ0] at e;cases e
    exact ⟨List.nodup_nil,fun _ _ h=>by cases h⟩
   ·rw [hφ1 i hi] at e
    simp only [q3 i hi] at hx
    exact r.o2 i β' e hx
  ·by_cases hi:i=id
   ·subst hi;exact r.dm _ β eβ
   ·rw [hφ1 i hi] at e;exact r.dm i β' e
  ·exact XOk.mono r.gb.2 fun p hp=>r.bel.block p.1 (r.gb.1 p hp)
 obtain ⟨p1,p2,p3⟩:=e2 qs hq
 refine (hraw qs hq (fun b=>B b∧b ∉ β.nest) w kp us0 w hkv ⟨Dm,φ1,R1,fun i hi=>by have:=hD i hi;simp only at this ⊢;rw [q2];exact this⟩).mono ?_
 rintro v w' ⟨x,hs',⟨rfl,rfl⟩,Dm2,φ2,r2,hD2⟩
 refine ⟨x,hf,hk,?_⟩
 have hkeep:∀ b ∈ β.nest,w'.heap[b]?=w.heap[b]?:=fun b hb=>r2.bel.block b fun h=>h.2 hb
 rcases r2.hp id with hd|⟨β2,eβ2,hβ2⟩
 ·rw [show (⟨[x],hr2 qs⟩:St).heap=hr2 qs from rfl,p1] at hd;cases hd
 rw [show (⟨[x],hr2 qs⟩:St).heap=hr2 qs from rfl,p1] at hβ2
 simp only [HRel] at hβ2
 obtain ⟨bsz2,hβ2⟩:=hβ2
 obtain ⟨Gf,hGs,hHf⟩:∃ Gf,Gf.Sublist β.nest∧∀ T,HRel (phiSet φ2 id { β2 with nest:=Gf }) T w'.heap { β2 with nest:=Gf } (.arr 2 ((ps.filter g).map TPacket.enc) true):=by
  rcases hβ2 with ⟨h1,h2,h3,h4⟩|⟨b2,G2,h1,h2,h3,h4,h5,h6⟩
  ·have hn:qs.filter (fun q=>g q.1)=[]:=List.map_eq_nil_iff.1 h2
   have hn2:ps.filter g=[]:=by rw [← hq,List.filter_map,show (g ∘ fun q:TPacket×Value=>q.1)=fun q=>g q.1 from rfl,hn];rfl
   exact ⟨[],List.nil_sublist _,fun T=>by simp only [HRel];exact ⟨bsz2,.inl ⟨h1,by rw [hn2];rfl,h3,trivial⟩⟩⟩
  ·have hG2:=repE_flat _ _ _ _ (encR_flat _) h4
   subst hG2
   obtain ⟨G,s1,s2⟩:=repE_unraw r2.bel.size g qs Fs β2.off hFl (by rw [← hGF];exact hkeep) hFr h4
   refine ⟨G,by rw [hGF];exact s1,fun T=>?_⟩
   simp only [HRel]
   refine ⟨bsz2,.inr ⟨b2,G,h1,?_,h3,by rw [← hq];exact s2,fun _=>rfl,fun q=>by cases q⟩⟩
   have:((ps.filter g).map TPacket.enc).length=((qs.filter fun q=>g q.1).map encR).length:=by
    rw [lM,lM,← hq,List.filter_map,lM];rfl
   rw [this];exact h2
 let φ3:Phi:=phiSet φ2 id { β2 with nest:=Gf }
 have hφ30:φ3 id=some { β2 with nest:=Gf }:=by simp [φ3,phiSet]
 have hφ3:∀ i,i≠id→φ3 i=φ2 i:=fun i hi=>by simp [φ3,phiSet,hi]
 have blk2:∀ b,β2.blk=some b→Owns φ2 (hr2 qs) id b:=fun b hb=>⟨β2,eβ2,.inl ⟨by rw [p1];rfl,hb⟩⟩
 have own3:∀ i b,Owns φ3 hf i b→Owns φ2 (hr2 qs) i b∨(i=id∧b ∈ Gf):=by
  rintro i b ⟨β',e,ho⟩
  by_cases hi:i=id
  ·subst hi
   rw [hφ30] at e;cases e
   rw [e3] at ho
   rcases ho with ⟨_,hb⟩|⟨_,hb⟩
   ·exact .inl (blk2 b hb)
   ·exact .inr ⟨rfl,hb⟩
  ·rw [hφ3 i hi] at e
   rw [← p3 i hi] at ho
   exact .inl ⟨β',e,ho⟩
 have hGB:∀ b ∈ Gf,B b∧b ∈ β.nest:=fun b hb=>⟨r.o3 id b (nestOwn b (hGs.subset hb)),hGs.subset hb⟩
 have hle3:Le φ2 φ3:=fun i β' e=>by
  by_cases hi:i=id
  ·subst hi;rw [eβ2] at e;cases e;exact ⟨_,hφ30,rfl,rfl,rfl,rfl⟩
  ·exact ⟨β',by rw [hφ3 i hi];exact e,rfl,rfl,rfl,rfl⟩
 have hT3:∀ b,b < w'.heap.size→NotTop φ2 (hr2 qs) b→NotTop φ3 hf b:=by
  intro b _ ht i β' e he
  by_cases hi:i=id
  ·subst hi
   rw [hφ30] at e;cases e
   rw [e3] at he
   rcases he with ⟨_,he⟩|⟨he,_⟩
   ·exact ht i β2 eβ2 (.inl ⟨by rw [show (⟨[x],hr2 qs⟩:St).heap=hr2 qs from rfl] at *;rw [p1];rfl,he⟩)
   ·cases he
  ·rw [hφ3 i hi] at e
   rw [← p3 i hi] at he
   exact ht i β' e he
 have Kp3:Keep φ2 φ3 (NotTop φ2 (hr2 qs)) (NotTop φ3 hf) w'.heap w'.heap:=⟨hle3,hT3,fun _ _ _=>rfl,Nat.le_refl _⟩
 refine ⟨Dm2,φ3,⟨VRels_keep Kp3 _ _ r2.tm,fun p hp=>VRel_keep Kp3 _ _ (r2.kp p hp),fun i=>?_,fun i j b hi hj=>?_,fun i β' e hx=>?_,fun i b ho=>?_,fun i β' e=>?_,?_,fun k hk=>(r2.bs k hk).1,r2.de,r.gb⟩,fun i hi=>by have:=hD2 i hi;simp only at this ⊢;rw [← p2];exact this⟩
 ·by_cases hi:i=id
  ·subst hi
   exact .inr ⟨_,hφ30,by rw [show (⟨[x],hf⟩:St).heap=hf from rfl,e3];exact hHf _⟩
  ·simp only [hφ3 i hi]
   rw [← p3 i hi]
   rcases r2.hp i with hd|⟨β',e,hr'⟩
   ·exact .inl hd
   ·exact .inr ⟨β',e,HRel_keep Kp3 hr' (fun _ _ _=>rfl) (fun _ _ _=>rfl)⟩
 ·rcases own3 i b hi with h1|⟨h1,h1'⟩<;>rcases own3 j b hj with h2|⟨h2,h2'⟩
  ·exact r2.o1 i j b h1 h2
  ·exact absurd (hGB b h2').2 (r2.o3 i b h1).2
  ·exact absurd (hGB b h1').2 (r2.o3 j b h2).2
  ·exact h1.trans h2.symm
 ·by_cases hi:i=id
  ·subst hi
   rw [hφ30] at e;cases e
   exact ⟨hGs.nodup ho2.1,fun b hb hn=>(r2.o3 _ b (blk2 b hb)).2 (hGB b hn).2⟩
  ·rw [hφ3 i hi] at e
   rw [show (⟨[x],hf⟩:St).heap=hf from rfl,← p3 i hi] at hx
   exact r2.o2 i β' e hx
 ·rcases own3 i b ho with h1|⟨_,h1⟩
  ·exact (r2.o3 i b h1).1
  ·exact (hGB b h1).1
 ·by_cases hi:i=id
  ·subst hi;exact r2.dm _ β2 eβ2
  ·rw [hφ3 i hi] at e;exact r2.dm i β' e
 ·exact r.bel.trans (r2.bel.mono fun _ h=>h.1)
set_option maxRecDepth 100000
def rBox (x:TConn) (a b k:Nat):H:=.box (TConn.vc x (.sl a 0 x.streams.length) (.sl b 0 k))
set_option maxHeartbeats 8000000 in
theorem l21Drop_raw (x:TConn) (n:Int) (qs:List (TPacket×Value)) (hq:qs.length≤1000) (pre:List H) (kv:List V) (hr:roks pre.length pre) (hkv:voks (pre.length + 1) kv) (K:V→List H→Prop)
  (hk:K (.tup []) (pre++[rBox x (pre.length + 1) (pre.length + 2) (qs.filter fun q=>!pkIs n q.1).length,xS x,.arr 2 ((qs.filter fun q=>!pkIs n q.1).map encR) true])) :
  InlCall Tryz.prog 174 kv (pre++[rBox x (pre.length + 1) (pre.length + 2) qs.length,xS x,.arr 2 (qs.map encR) true]) [.ptr pre.length 0 0,.d (.int .i64 n)] K:=by
 have rg0:∀ l:List Nat,(List.range pre.length++pre.length::l).getD pre.length 0=pre.length:=fun l=>rangeA1 _ _ _
 refine InlCall.see ?_
 refine (inl_ev (n:=40) (rs:=[]) Tryz.func174 rfl Tryz.call174 Tryz.checked.mixed rfl rfl ?_)
 simp only [go_sem,rBox,xS,hput_endN]
 refine LoopK.intro (α:=Nat×List (TPacket×Value)) (fun y=>⟨[.ptr pre.length 0 0,.d (.int .i64 n),.junk,.junk,.sl (pre.length + 3) 0 y.2.length,.d (.int .i64 y.1)]++List.replicate 34 .junk,pre++[rBox x (pre.length + 1) (pre.length + 2) qs.length,xS x,.arr 2 (qs.map encR) true,.arr 2 (y.2.map encR) true]⟩)
  (fun y=>qs.length - y.1) (fun y=>y.1≤qs.length∧y.2=(qs.take y.1).filter fun q=>!pkIs n q.1) (0,[]) (List.range pre.length++pre.length::[pre.length + 1,pre.length + 2,pre.length + 3]) ⟨by simp,by simp⟩ ?_ ?_
 ·have r1:(List.range pre.length++[pre.length,pre.length + 1,pre.length + 2,pre.length + 3]).getD (pre.length + 1) 0=pre.length + 1:=by rw [rangeAN];rfl
  have r2:(List.range pre.length++[pre.length,pre.length + 1,pre.length + 2,pre.length + 3]).getD (pre.length + 2) 0=pre.length + 2:=by rw [rangeAN];rfl
  have r3:(List.range pre.length++[pre.length,pre.length + 1,pre.length + 2,pre.length + 3]).getD (pre.length + 3) 0=pre.length + 3:=by rw [rangeAN];rfl
  refine see_x _ (by simp) (by simp) hr hkv ?_ ?_ (by simp) ?_ ?_
  ·simp only [hsees,hget_endN,hget_end0,hget_zero,hget_succ,hsee,rBox,xS,and_true]
   simp only [TConn.vc,vsees,vsee,ren,r1,r2,and_self,List.map_nil]
  ·simp only [rBox,TConn.vc,xS,allOk,hok,voks,vok,List.length_cons,List.length_nil];simp
  ·simp only [List.replicate,cA,nA,vsees,vsee,ren,r3,rg0,and_self,List.length_nil,true_and]
   simp
  ·simp [voks,vok,List.replicate]
 ·rintro ⟨i,out⟩ ⟨hi,ho⟩
  simp only at hi ho
  have hol:out.length≤qs.length:=by rw [ho];exact Nat.le_trans (List.length_filter_le _ _) (by simp;omega)
  simp only [List.replicate,cA,nA,rBox,xS]
  by_cases h1:i < qs.length
  ·have h1':decide ((i:Int) < (qs.length:Int))=true:=dT (by omega)
   have hxi:=map_at encR qs i h1
   have hw:IntKind.i64.wrap ((i:Int) + 1)=((i + 1:Nat):Int):=by rw [w64]<;>omega
   have hf:(qs.take (i + 1)).filter (fun q=>!pkIs n q.1)=out++(if !pkIs n qs[i].1 then [qs[i]] else []):=by
    rw [List.take_add_one,gE h1,List.filter_append,← ho]
    cases h:pkIs n qs[i].1<;>simp [h]
   generalize qs[i]=q at *
   simp only [go_sem,lM,tN,hget_endN,hget_end0,Nat.add_zero,h1',hxi,encR]
   refine ⟨⟨by omega,by omega⟩,h1,?_⟩
   cases hb:decide (q.fst.number≠n) with
   |true=>
    have hg:(if !pkIs n q.1 then [q] else [])=[q]:=by
     have:pkIs n q.1=false:=by unfold pkIs;simpa using hb
     rw [this];rfl
    simp only [go_sem,lM,tN,hput_endN,hget_endN,hget_end0,hxi,encR]
    have ne1:(pre.length=pre.length + 1)=False:=by simp
    simp only [ne1,if_false,go_sem]
    refine ⟨⟨by omega,by omega⟩,h1,⟨by omega,by simp⟩,?_⟩
    have r1:(List.range pre.length++[pre.length,pre.length + 1,pre.length + 2,pre.length + 5]).getD (pre.length + 1) 0=pre.length + 1:=by rw [rangeAN];rfl
    have r2:(List.range pre.length++[pre.length,pre.length + 1,pre.length + 2,pre.length + 5]).getD (pre.length + 2) 0=pre.length + 2:=by rw [rangeAN];rfl
    have r3:(List.range pre.length++[pre.length,pre.length + 1,pre.length + 2,pre.length + 5]).getD (pre.length + 3) 0=pre.length + 5:=by rw [rangeAN];rfl
    try simp only [go_sem,hput_endN]
    simp only [hw]
    refine RoundE.intro (i + 1,out++[q]) (List.range pre.length++pre.length::[pre.length + 1,pre.length + 2,pre.length + 5]) ⟨by simp only;omega,by simp only;rw [hf,hg];try simp⟩ (show qs.length - (i + 1) < qs.length - i by omega) ?_
    refine see_x _ (by simp) (by simp) hr hkv ?_ ?_ (by simp) ?_ ?_
    ·simp only [hsees,hget_endN,hget_end0,hget_zero,hget_succ,hsee,and_true]
     simp only [vsees,vsee,ren,r1,r2,and_self,List.map_nil,List.map_append,List.map_cons,encR]
    ·simp only [allOk,hok,voks,vok,List.length_cons,List.length_nil];simp
    ·simp only [vsees,vsee,ren,r3,rg0,and_self,List.length_nil,List.length_append,List.length_cons]
    ·simp [voks,vok]
   |false=>
    have hg:(if !pkIs n q.1 then [q] else [])=[]:=by
     have:pkIs n q.1=true:=by unfold pkIs;simpa using hb
     rw [this];rfl
    have r1:(List.range pre.length++[pre.length,pre.length + 1,pre.length + 2,pre.length + 3]).getD (pre.length + 1) 0=pre.length + 1:=by rw [rangeAN];rfl
    have r2:(List.range pre.length++[pre.length,pre.length + 1,pre.length + 2,pre.length + 3]).getD (pre.length + 2) 0=pre.length + 2:=by rw [rangeAN];rfl
    have r3:(List.range pre.length++[pre.length,pre.length + 1,pre.length + 2,pre.length + 3]).getD (pre.length + 3) 0=pre.length + 3:=by rw [rangeAN];rfl
    try simp only [go_sem]
    simp only [hw]
    refine RoundE.intro (i + 1,out) (List.range pre.length++pre.length::[pre.length + 1,pre.length + 2,pre.length + 3]) ⟨by simp only;omega,by simp only;rw [hf,hg];try simp⟩ (show qs.length - (i + 1) < qs.length - i by omega) ?_
    refine see_x _ (by simp) (by simp) hr hkv ?_ ?_ (by simp) ?_ ?_
    ·simp only [hsees,hget_endN,hget_end0,hget_zero,hget_succ,hsee,and_true]
     simp only [vsees,vsee,ren,r1,r2,and_self]
    ·simp only [allOk,hok,voks,vok,List.length_cons,List.length_nil];simp
    ·simp only [vsees,vsee,ren,r3,rg0,and_self]
    ·simp [voks,vok]
  ·have h1':decide ((i:Int) < (qs.length:Int))=false:=dF (by omega)
   obtain rfl:i=qs.length:=by omega
   rw [tL] at ho
   simp only [go_sem,hget_end0,hput_end0,h1']
   have r1:(List.range pre.length++[pre.length,pre.length + 1,pre.length + 3]).getD (pre.length + 1) 0=pre.length + 1:=by rw [rangeAN];rfl
   have r2:(List.range pre.length++[pre.length,pre.length + 1,pre.length + 3]).getD (pre.length + 2) 0=pre.length + 3:=by rw [rangeAN];rfl
   rw [← ho] at hk
   refine ⟨_,.tup [],_,see_x [pre.length + 1,pre.length + 3] (by simp) (by simp) hr hkv ?_ ?_ (by simp) (by simp [vsees,vsee,ren,rens]) (by simp [voks,vok]),hk⟩
   ·simp only [hsees,hget_endN,hget_end0,hget_zero,hget_succ,hsee,and_true,rBox,xS]
    simp only [TConn.vc,vsees,vsee,ren,r1,r2,and_self]
   ·simp only [TConn.vc,allOk,hok,voks,vok,List.length_cons,List.length_nil,rBox,xS];simp
theorem hget_pre3 (pre:List H) (a b c:H) (i:Nat):hget (pre++[a,b,c]) i=if i < pre.length then hget pre i else hget [a,b,c] (i - pre.length):=by
 split
 ·simp only [hget,List.getD_eq_getElem?_getD,List.getElem?_append_left ‹_›]
 ·simp only [hget,List.getD_eq_getElem?_getD,List.getElem?_append_right (by omega:pre.length≤i)]
theorem l21Drop_inl (x:TConn) (n:Int) (hq:x.packets.length≤1000) (pre:List H) (kv:List V) (hr:roks pre.length pre) (hkv:voks (pre.length + 1) kv) (K:V→List H→Prop)
  (hk:K (.tup []) (pre++xH (dropP x n) pre.length (.arr 2 ((dropP x n).packets.map TPacket.enc) true))) :
  InlCall Tryz.prog 174 kv (pre++xH x pre.length (.cln 2 (x.packets.map TPacket.enc))) [.ptr pre.length 0 0,.d (.int .i64 n)] K:=by
 refine wrap_raw (V0:=.tup []) (ps:=x.packets) (fun p=>!pkIs n p) (pre.length + 2)
  (hr:=fun qs=>pre++[rBox x (pre.length + 1) (pre.length + 2) x.packets.length,xS x,.arr 2 (qs.map encR) true])
  (hr2:=fun qs=>pre++[rBox x (pre.length + 1) (pre.length + 2) (dropP x n).packets.length,xS x,.arr 2 ((qs.filter fun q=>!pkIs n q.1).map encR) true])
  (hf:=pre++xH (dropP x n) pre.length (.arr 2 ((dropP x n).packets.map TPacket.enc) true)) ?_ ?_ ?_ ?_ ?_ hk
 ·simp only [xH,hget_endN,hget_zero,hget_succ]
 ·intro qs
  refine ⟨by simp only [hget_endN,hget_zero,hget_succ],by simp [xH],fun i hi=>?_⟩
  simp only [xH,hget_pre3]
  split
  ·rfl
  ·obtain ⟨j,rfl⟩:∃ j,i=pre.length + j:=⟨i - pre.length,by omega⟩
   rw [Nat.add_sub_cancel_left]
   match j,hi with
   |0,_=>rfl
   |1,_=>rfl
   |2,hi=>exact absurd rfl hi
   |j + 3,_=>rfl
 ·intro qs hqs
  refine ⟨by simp only [hget_endN,hget_zero,hget_succ],by simp [xH],fun i hi=>?_⟩
  simp only [xH,hget_pre3]
  split
  ·rfl
  ·obtain ⟨j,rfl⟩:∃ j,i=pre.length + j:=⟨i - pre.length,by omega⟩
   rw [Nat.add_sub_cancel_left]
   match j,hi with
   |0,_=>rfl
   |1,_=>rfl
   |2,hi=>exact absurd rfl hi
   |j + 3,_=>rfl
 ·simp only [xH,hget_endN,hget_zero,hget_succ];rfl
 ·intro qs hqs
  have hl:qs.length=x.packets.length:=by rw [← hqs];simp
  have hf:(dropP x n).packets=(qs.filter fun q=>!pkIs n q.1).map (·.1):=by
   simp only [dropP,← hqs,List.filter_map];rfl
  have:=l21Drop_raw x n qs (by omega) pre kv hr hkv (fun v hs'=>v=.tup []∧hs'=pre++[rBox x (pre.length + 1) (pre.length + 2) (dropP x n).packets.length,xS x,.arr 2 ((qs.filter fun q=>!pkIs n q.1).map encR) true]) ⟨rfl,by rw [hf,lM]⟩
  rwa [hl] at this
set_option maxRecDepth 100000
def mxRep0:List (List Rl):=mxD 12 [511649,511647,511641,511744,511690,511515,511029,503010,448335,521599,478953,354294]
def mxRep1:List (List Rl):=mxD 7 [2150,2148,2182,2164,2106,1944,1458]
attribute [go_sem] mxRep0 mxRep1
theorem InlCall.seeA {P:Program} {f:FuncId} {kv:List V} {hs hs':List H} {vs vs':List V} {K:V→List H→Prop} {ρ:List Nat} (h1:seeE kv ρ ⟨vs,hs⟩ ⟨vs',hs'⟩) (h:InlCall P f kv hs' vs' K):InlCall P f kv hs vs K:=
 fun B w0 kp us w hkv hR=>h B w0 kp us w hkv (seeE_ok hkv h1 hR)
theorem spec_l21Piece (f:TFrame):PureCall Tryz.prog 213 [.agg (TFrame.enc f)] [.agg [.int .i64 f.offset,.str f.data,.bool f.fin]]:=by
 refine pureT 10 Tryz.func213 Tryz.call213 [.cell 2 206] ?_
 intro ok
 try simp only [go_sem]
def akPk (x:TConn):H:=.arr 2 (x.packets.map TPacket.enc) true
def aPre (n:Int) (l:List TFrame):List H:=[.box TConn.zc,.box [.d (.int .i64 n),.sl 2 0 l.length],.arr 9 (l.map TFrame.enc) true]
def aKv (k:Int):List V:=(jn 4 [.ptr 0 0 0,.junk,.ptr 3 0 0,.ptr 1 0 0,.junk,.d (.int .i64 k)])++List.replicate 32 .junk
set_option maxHeartbeats 8000000 in
theorem l21Ack_inl (x:TConn) (f:TFrame) (hx:SzC x) (hs:SzS (akS (strI x f.stream) f)) (hd:f.data.length≤1000) (n k:Int) (l:List TFrame) (K:V→List H→Prop)
  (hk:K (.tup []) (aPre n l++xH (akC x f) 3 (akPk x))):InlCall Tryz.prog 176 (aKv k) (aPre n l++xH x 3 (akPk x)) [.ptr 3 0 0,.agg (TFrame.ve f)] K:=by
 have hO:=spec_StreamOf x f.stream hx
 have hsz:=strOf_len hx.2.1 f.stream
 obtain ⟨s1,s2,s3,s4⟩:=hsz
 have s3':=s3
 have s3:∀ ch ∈ (strOf x.streams f.stream).1.recv.buffer.chunks,ch.data.length≤1048576:=fun ch hc=>by have:=s3 ch hc;omega
 have hC:akC x f=if (strOf x.streams f.stream).2 && aboutS f.kind then saveC x (akS (strI x f.stream) f) else x:=rfl
 rw [show strI x f.stream=(strOf x.streams f.stream).1 from rfl] at hC hs
 obtain ⟨s,hs0⟩:∃ s,s=(strOf x.streams f.stream).1:=⟨_,rfl⟩
 obtain ⟨b,hb0⟩:∃ b,b=(strOf x.streams f.stream).2:=⟨_,rfl⟩
 rw [← hs0,← hb0] at hO
 rw [← hs0] at hC hs s1 s2 s3 s3' s4
 rw [← hb0] at hC
 clear hs0 hb0
 have hbk:=bulkC hx
 have hXl:x.streams.length≤1000:=by have:=hx.1;omega
 have hXz:=hx.2.1
 refine InlCall.see ?_
 refine (inl_ev (n:=52) (rs:=[]) Tryz.func176 rfl Tryz.call176 Tryz.checked.mixed rfl rfl ?_)
 simp only [go_sem,aPre,aKv,xH,xS,xBox,akPk,List.replicate,cA,nA]
 try simp only [go_sem,lM]
 repeat' ((first|refine CallS.cln (by assumption) ?_|refine CallK.cln (by assumption) ?_|refine gSymS ?_|refine drawE_intro mxRep0 (by kernel_rfl) (by rfl) ?_)<;>simp only [go_sem,lM])
 cases b with
 |false=>
  rw [Bool.false_and,if_neg (by simp)] at hC
  rw [hC] at hk
  try simp only [go_sem,lM]
  repeat' ((first|refine CallS.intro (by assumption) ?_|refine CallK.intro (by first|assumption|apply spec_IsAboutStream) ?_|with_reducible refine gFalseS ?_)<;>simp only [go_sem])
  refine ⟨[0,1,2,3,4,5],.tup [],_,?_,hk⟩
  simp only [go_sem,aPre,xH,xS,xBox,akPk,cA,nA]
  simp
 |true=>
  rw [Bool.true_and] at hC
  try simp only [go_sem,lM]
  repeat' ((first|refine CallS.intro (by assumption) ?_|refine CallK.intro (by first|assumption|apply spec_IsAboutStream) ?_|with_reducible refine gTrueS ?_)<;>simp only [go_sem])
  cases hab:aboutS f.kind with
  |false=>
   rw [hab,if_neg (by simp)] at hC
   rw [hC] at hk
   try simp only [go_sem]
   refine ⟨[0,1,2,3,4,5],.tup [],_,?_,hk⟩
   simp only [go_sem,aPre,xH,xS,xBox,akPk,cA,nA]
   simp
  |true=>
   rw [hab,if_pos rfl] at hC
   rw [hC] at hk
   cases h8:decide (f.kind=8) with
   |true=>
    have hS:akS s f=withSnd s (ackS s.send (pceOf f)):=by unfold akS;rw [if_pos (oT h8)]
    try simp only [go_sem,h8]
    repeat' ((first|refine CallS.cln (by assumption) ?_|refine CallK.cln (by first|assumption|apply spec_l21Piece|(apply spec_AckPiece<;>first|assumption|omega)) ?_|refine drawE_intro mxRep1 (by kernel_rfl) (by rfl) ?_)<;>simp only [go_sem,lM])
    refine CallS.inlK [] (by simp only [keepT,List.elem_nil,Nat.reduceAdd,cond_false];rfl) (InlCall.seeA (ρ:=[0,1,2,3,4,5,12,13,14,15,16,11]) (hs':=aPre n l++xsH x (akS s f) 3 (akPk x)) (vs':=[.ptr 3 0 0,.agg (sCells (akS s f) 3)]) ?_ (l18Save_inl x (akS s f) (akPk x) (fun _=>trivial) hXl hXz hs (aPre n l) _ (by simp [aPre,roks,rok,voks,vok]) (by simp [aPre,voks,vok]) _ ?_))
    ·simp only [go_sem,hS,aPre,xsH,xH,xS,xBox,akPk,sCells,sArr,cA,nA,withSnd,pceOf]
     simp
    ·simp only [go_sem]
     refine ⟨[0,1,2,3,4,5],.tup [],_,?_,hk⟩
     simp only [go_sem,aPre,xH,xS,xBox,akPk,cA,nA]
     simp
   |false=>
    have n8:=oF h8
    cases h4:decide (f.kind=4) with
    |true=>
     have hS:akS s f={ s with send:=ackRst s.send,tellReset:=if canAR s.send then false else s.tellReset }:=by unfold akS;rw [if_neg n8,if_pos (oT h4)]
     try simp only [go_sem,lM,h8,h4]
     repeat' ((first|refine CallS.cln (by first|assumption|(apply spec_AckReset<;>first|assumption|omega)) ?_|refine CallK.cln (by assumption) ?_)<;>simp only [go_sem,lM])
     cases hca:canAR s.send with
     |true=>
      rw [hca,if_pos rfl] at hS
      try simp only [go_sem,lM]
      refine CallS.inlK [] (by simp only [keepT,List.elem_nil,Nat.reduceAdd,cond_false];rfl) (InlCall.seeA (ρ:=[0,1,2,3,4,5,12,13,14,15,16,11]) (hs':=aPre n l++xsH x (akS s f) 3 (akPk x)) (vs':=[.ptr 3 0 0,.agg (sCells (akS s f) 3)]) ?_ (l18Save_inl x (akS s f) (akPk x) (fun _=>trivial) hXl hXz hs (aPre n l) _ (by simp [aPre,roks,rok,voks,vok]) (by simp [aPre,voks,vok]) _ ?_))
      ·simp only [go_sem,hS,aPre,xsH,xH,xS,xBox,akPk,sCells,sArr,cA,nA]
       simp
      ·simp only [go_sem]
       refine ⟨[0,1,2,3,4,5],.tup [],_,?_,hk⟩
       simp only [go_sem,aPre,xH,xS,xBox,akPk,cA,nA]
       simp
     |false=>
      rw [hca,if_neg (by simp)] at hS
      try simp only [go_sem,lM]
      refine CallS.inlK [] (by simp only [keepT,List.elem_nil,Nat.reduceAdd,cond_false];rfl) (InlCall.seeA (ρ:=[0,1,2,3,4,5,12,13,14,15,16,11]) (hs':=aPre n l++xsH x (akS s f) 3 (akPk x)) (vs':=[.ptr 3 0 0,.agg (sCells (akS s f) 3)]) ?_ (l18Save_inl x (akS s f) (akPk x) (fun _=>trivial) hXl hXz hs (aPre n l) _ (by simp [aPre,roks,rok,voks,vok]) (by simp [aPre,voks,vok]) _ ?_))
      ·simp only [go_sem,hS,aPre,xsH,xH,xS,xBox,akPk,sCells,sArr,cA,nA]
       simp
      ·simp only [go_sem]
       refine ⟨[0,1,2,3,4,5],.tup [],_,?_,hk⟩
       simp only [go_sem,aPre,xH,xS,xBox,akPk,cA,nA]
       simp
    |false=>
     have n4:=oF h4
     cases h5:decide (f.kind=5) with
     |true=>
      have hS:akS s f={ s with tellStop:=false }:=by unfold akS;rw [if_neg n8,if_neg n4,if_pos (oT h5)]
      try simp only [go_sem,lM,h8,h4,h5]
      refine CallS.inlK [] (by simp only [keepT,List.elem_nil,Nat.reduceAdd,cond_false];rfl) (InlCall.seeA (ρ:=[0,1,2,3,4,5,12,7,8,9,10,11]) (hs':=aPre n l++xsH x (akS s f) 3 (akPk x)) (vs':=[.ptr 3 0 0,.agg (sCells (akS s f) 3)]) ?_ (l18Save_inl x (akS s f) (akPk x) (fun _=>trivial) hXl hXz hs (aPre n l) _ (by simp [aPre,roks,rok,voks,vok]) (by simp [aPre,voks,vok]) _ ?_))
      ·simp only [go_sem,hS,aPre,xsH,xH,xS,xBox,akPk,sCells,sArr,cA,nA]
       simp
      ·simp only [go_sem]
       refine ⟨[0,1,2,3,4,5],.tup [],_,?_,hk⟩
       simp only [go_sem,aPre,xH,xS,xBox,akPk,cA,nA]
       simp
     |false=>
      have hS:akS s f=s:=by unfold akS;rw [if_neg n8,if_neg n4,if_neg (oF h5)]
      try simp only [go_sem,lM,h8,h4,h5]
      refine CallS.inlK [] (by simp only [keepT,List.elem_nil,Nat.reduceAdd,cond_false];rfl) (InlCall.seeA (ρ:=[0,1,2,3,4,5,12,7,8,9,10,11]) (hs':=aPre n l++xsH x (akS s f) 3 (akPk x)) (vs':=[.ptr 3 0 0,.agg (sCells (akS s f) 3)]) ?_ (l18Save_inl x (akS s f) (akPk x) (fun _=>trivial) hXl hXz hs (aPre n l) _ (by simp [aPre,roks,rok,voks,vok]) (by simp [aPre,voks,vok]) _ ?_))
      ·simp only [go_sem,hS,aPre,xsH,xH,xS,xBox,akPk,sCells,sArr,cA,nA]
       simp
      ·simp only [go_sem]
       refine ⟨[0,1,2,3,4,5],.tup [],_,?_,hk⟩
       simp only [go_sem,aPre,xH,xS,xBox,akPk,cA,nA]
       simp
set_option maxRecDepth 100000
def mxRepL0:List (List Rl):=mxD 12 [511649,511647,511641,511744,511690,511515,511029,503010,448335,521599,478953,354294]
def mxRepL1:List (List Rl):=mxD 7 [2150,2148,2182,2164,2106,1944,1458]
def mxRepL2:List (List Rl):=mxD 10 [57956,58804,58798,58780,58726,58927,58321,56862,52488,39366]
attribute [go_sem] mxRepL0 mxRepL1 mxRepL2
set_option maxHeartbeats 8000000 in
theorem l21Lose_inl (x:TConn) (f:TFrame) (hx:SzC x) (hs:SzS (loS (strI x f.stream) f)) (hd:f.data.length≤1000) (n k:Int) (l:List TFrame) (K:V→List H→Prop)
  (hk:K (.tup []) (aPre n l++xH (loC x f) 3 (akPk x))):InlCall Tryz.prog 175 (aKv k) (aPre n l++xH x 3 (akPk x)) [.ptr 3 0 0,.agg (TFrame.ve f)] K:=by
 have hO:=spec_StreamOf x f.stream hx
 have hsz:=strOf_len hx.2.1 f.stream
 obtain ⟨s1,s2,s3,s4⟩:=hsz
 have s3':=s3
 have s3:∀ ch ∈ (strOf x.streams f.stream).1.recv.buffer.chunks,ch.data.length≤1048576:=fun ch hc=>by have:=s3 ch hc;omega
 have hC:loC x f=if f.kind=16 then { x with tellTotal:=true } else if f.kind=18 then (if f.uni then { x with tellUni:=true } else { x with tellBidi:=true }) else if (strOf x.streams f.stream).2 && aboutS f.kind then putK x (loS (strI x f.stream) f) else x:=rfl
 rw [show strI x f.stream=(strOf x.streams f.stream).1 from rfl] at hC hs
 obtain ⟨s,hs0⟩:∃ s,s=(strOf x.streams f.stream).1:=⟨_,rfl⟩
 obtain ⟨b,hb0⟩:∃ b,b=(strOf x.streams f.stream).2:=⟨_,rfl⟩
 rw [← hs0,← hb0] at hO
 rw [← hs0] at hC hs s1 s2 s3 s3' s4
 rw [← hb0] at hC
 clear hs0 hb0
 have hbk:=bulkC hx
 have hXl:x.streams.length≤1000:=by have:=hx.1;omega
 have hXz:=hx.2.1
 refine InlCall.see ?_
 refine (inl_ev (n:=75) (rs:=[]) Tryz.func175 rfl Tryz.call175 Tryz.checked.mixed rfl rfl ?_)
 simp only [go_sem,aPre,aKv,xH,xS,xBox,akPk,List.replicate,cA,nA]
 cases h16:decide (f.kind=16) with
 |true=>
  rw [if_pos (oT h16)] at hC
  rw [hC] at hk
  try simp only [go_sem]
  refine ⟨[0,1,2,3,4,5],.tup [],_,?_,hk⟩
  simp only [go_sem,aPre,xH,xS,xBox,akPk,cA,nA]
  simp
 |false=>
  rw [if_neg (oF h16)] at hC
  cases h18:decide (f.kind=18) with
  |true=>
   rw [if_pos (oT h18)] at hC
   cases hu:f.uni with
   |true=>
    rw [hu,if_pos rfl] at hC
    rw [hC] at hk
    try simp only [go_sem,h18]
    refine ⟨[0,1,2,3,4,5],.tup [],_,?_,hk⟩
    simp only [go_sem,aPre,xH,xS,xBox,akPk,cA,nA]
    simp
   |false=>
    rw [hu,if_neg (by simp)] at hC
    rw [hC] at hk
    try simp only [go_sem,h18]
    refine ⟨[0,1,2,3,4,5],.tup [],_,?_,hk⟩
    simp only [go_sem,aPre,xH,xS,xBox,akPk,cA,nA]
    simp
  |false=>
   rw [if_neg (oF h18)] at hC
   try simp only [go_sem,h18]
   repeat' ((first|refine CallS.cln (by assumption) ?_|refine CallK.cln (by assumption) ?_|refine gSymS ?_|refine drawE_intro mxRepL0 (by kernel_rfl) (by rfl) ?_|fail)<;>simp only [go_sem,lM])
   cases b with
   |false=>
    rw [Bool.false_and,if_neg (by simp)] at hC
    rw [hC] at hk
    try simp only [go_sem,lM]
    repeat' ((first|refine CallS.intro (by assumption) ?_|refine CallK.intro (by first|assumption|apply spec_IsAboutStream) ?_|with_reducible refine gFalseS ?_)<;>simp only [go_sem])
    refine ⟨[0,1,2,3,4,5],.tup [],_,?_,hk⟩
    simp only [go_sem,aPre,xH,xS,xBox,akPk,cA,nA]
    simp
   |true=>
    rw [Bool.true_and] at hC
    try simp only [go_sem,lM]
    repeat' ((first|refine CallS.intro (by assumption) ?_|refine CallK.intro (by first|assumption|apply spec_IsAboutStream) ?_|with_reducible refine gTrueS ?_)<;>simp only [go_sem])
    cases hab:aboutS f.kind with
    |false=>
     rw [hab,if_neg (by simp)] at hC
     rw [hC] at hk
     try simp only [go_sem]
     refine ⟨[0,1,2,3,4,5],.tup [],_,?_,hk⟩
     simp only [go_sem,aPre,xH,xS,xBox,akPk,cA,nA]
     simp
    |true=>
     rw [hab,if_pos rfl] at hC
     rw [hC] at hk
     cases h8:decide (f.kind=8) with
     |true=>
      have hS:loS s f=withSnd s (loseS s.send (pceOf f)):=by unfold loS;rw [if_pos (oT h8)]
      try simp only [go_sem,h8]
      repeat' ((first|refine CallS.cln (by assumption) ?_|refine CallK.cln (by first|assumption|apply spec_l21Piece|(apply spec_LosePiece<;>first|assumption|omega)) ?_|refine drawE_intro mxRepL1 (by kernel_rfl) (by rfl) ?_|fail)<;>simp only [go_sem,lM])
      have hP:=spec_PutStream x.streams (withSnd s (loseS s.send (pceOf f))) hXl hXz (hS ▸ hs)
      try simp only [go_sem,lM]
      repeat' ((first|refine CallS.cln (by assumption) ?_|refine CallK.cln (by assumption) ?_|refine drawE_intro mxRepL2 (by kernel_rfl) (by rfl) ?_|fail)<;>simp only [go_sem,lM])
      refine ⟨[0,1,2,3,17,5],.tup [],_,?_,hk⟩
      simp only [go_sem,hS,aPre,xH,xS,xBox,akPk,putK,cA,nA,withSnd,pceOf]
      simp
     |false=>
      have n8:=oF h8
      cases h4:decide (f.kind=4) with
      |true=>
       have hS:loS s f={ s with tellReset:=decide (s.send.state=4) }:=by unfold loS;rw [if_neg n8,if_pos (oT h4)]
       try simp only [go_sem,h8,h4]
       have hP:=spec_PutStream x.streams ({ s with tellReset:=decide (s.send.state=4) }) hXl hXz (hS ▸ hs)
       try simp only [go_sem,lM]
       repeat' ((first|refine CallS.cln (by assumption) ?_|refine CallK.cln (by assumption) ?_|refine drawE_intro mxRepL2 (by kernel_rfl) (by rfl) ?_|fail)<;>simp only [go_sem,lM])
       refine ⟨[0,1,2,3,13,5],.tup [],_,?_,hk⟩
       simp only [go_sem,hS,aPre,xH,xS,xBox,akPk,putK,cA,nA]
       simp
      |false=>
       have n4:=oF h4
       cases h5:decide (f.kind=5) with
       |true=>
        have hS:loS s f={ s with tellStop:=decide (s.recv.state < 2) }:=by unfold loS;rw [if_neg n8,if_neg n4,if_pos (oT h5)]
        try simp only [go_sem,h8,h4,h5]
        have hP:=spec_PutStream x.streams ({ s with tellStop:=decide (s.recv.state < 2) }) hXl hXz (hS ▸ hs)
        try simp only [go_sem,lM]
        repeat' ((first|refine CallS.cln (by assumption) ?_|refine CallK.cln (by assumption) ?_|refine drawE_intro mxRepL2 (by kernel_rfl) (by rfl) ?_|fail)<;>simp only [go_sem,lM])
        refine ⟨[0,1,2,3,13,5],.tup [],_,?_,hk⟩
        simp only [go_sem,hS,aPre,xH,xS,xBox,akPk,putK,cA,nA]
        simp
       |false=>
        have n5:=oF h5
        cases h17:decide (f.kind=17) with
        |true=>
         have hS:loS s f={ s with tellMost:=true }:=by unfold loS;rw [if_neg n8,if_neg n4,if_neg n5,if_pos (oT h17)]
         try simp only [go_sem,h8,h4,h5,h17]
         have hP:=spec_PutStream x.streams ({ s with tellMost:=true }) hXl hXz (hS ▸ hs)
         try simp only [go_sem,lM]
         repeat' ((first|refine CallS.cln (by assumption) ?_|refine CallK.cln (by assumption) ?_|refine drawE_intro mxRepL2 (by kernel_rfl) (by rfl) ?_|fail)<;>simp only [go_sem,lM])
         refine ⟨[0,1,2,3,13,5],.tup [],_,?_,hk⟩
         simp only [go_sem,hS,aPre,xH,xS,xBox,akPk,putK,cA,nA]
         simp
        |false=>
         have hS:loS s f=s:=by unfold loS;rw [if_neg n8,if_neg n4,if_neg n5,if_neg (oF h17)]
         try simp only [go_sem,h8,h4,h5,h17]
         have hP:=spec_PutStream x.streams (s) hXl hXz (hS ▸ hs)
         try simp only [go_sem,lM]
         repeat' ((first|refine CallS.cln (by assumption) ?_|refine CallK.cln (by assumption) ?_|refine drawE_intro mxRepL2 (by kernel_rfl) (by rfl) ?_|fail)<;>simp only [go_sem,lM])
         refine ⟨[0,1,2,3,13,5],.tup [],_,?_,hk⟩
         simp only [go_sem,hS,aPre,xH,xS,xBox,akPk,putK,cA,nA]
         simp
set_option maxRecDepth 100000
set_option maxHeartbeats 2000000 in
theorem spec_PacketOf (c:TConn) (n:Int) (hz:SzC c):PureCall Tryz.prog 173 [.agg (TConn.enc c),.one (.int .i64 n)] [.agg [.int .i64 ((pkOf c.packets n).1).number,.sl 9 (((pkOf c.packets n).1).frames.map TFrame.enc)],.one (.bool (pkOf c.packets n).2)]:=by
 refine pureT 33 Tryz.func173 Tryz.call173 [.cell 4 83,.tmp 5] ?_
 intro ok
 have hm:c.packets.length≤30:=hz.2.2.1
 have hz4:=hz.2.2.2
 clear ok
 simp only [go_sem]
 refine LoopK.intro (fun i:Nat=>⟨(.junk::.d (.int .i64 n)::.ptr 0 0 0::.junk::.ptr 1 0 0::.d (.bool false)::.d (.int .i64 i)::jn 26 []),[.box (TConn.ve c),.box [.d (.int .i64 0),.nils 9]]⟩)
   (fun i=>c.packets.length - i) (fun i=>i≤c.packets.length∧(c.packets.take i).any (pkIs n)=false) 0 [0,1] ⟨by omega,by simp⟩ ?_ ?_
 ·simp only [go_sem];simp
 ·rintro i ⟨hi,he⟩
  by_cases h1:i < c.packets.length
  ·have h1':decide ((i:Int) < (c.packets.length:Int))=true:=dT (by omega)
   have hxi:=map_at TPacket.enc c.packets i h1
   have hw:IntKind.i64.wrap ((i:Int) + 1)=((i + 1:Nat):Int):=by rw [w64]<;>omega
   have hfl:c.packets[i].frames.length≤500:=(hz4 _ (List.getElem_mem h1)).1
   simp only [TPacket.enc] at hxi
   cases hq:decide (c.packets[i].number=n) with
   |true=>
    have hf:=find_hit (pkIs n) c.packets i h1 he hq
    have hq':=oT hq
    try simp only [go_sem,lM,tN,hxi,h1',hq]
    repeat' (first|(with_reducible refine sideI ?_)|fail)
    all_goals simp [pkOf,hf,hq']
   |false=>
    try simp only [go_sem,lM,tN,hxi,h1',hq]
    repeat' (first|(with_reducible refine sideI ?_)|fail)
    refine RoundE.intro (i + 1) [0,1] ⟨by omega,anyt_step _ c.packets i h1 he hq⟩ (by omega) ?_
    simp only [go_sem,hw];simp
  ·have h1':decide ((i:Int) < (c.packets.length:Int))=false:=dF (by omega)
   obtain rfl:i=c.packets.length:=by omega
   rw [tL] at he
   have hf:=find_miss _ _ he
   try simp only [go_sem,lM,h1']
   simp [pkOf,hf]
theorem rp_guard (c:TConn) (n:Int):(bif !fineC c then true else !(pkOf c.packets n).2)=!rpG c n:=by
 unfold rpG
 cases fineC c<;>cases (pkOf c.packets n).2<;>rfl
set_option maxHeartbeats 8000000 in
theorem spec_AckPacket (c:TConn) (n:Int) (m:Nat) (hv:InvC m c) (hm:m≤20):PureCall Tryz.prog 141 [.agg (TConn.enc c),.one (.int .i64 n)] [.agg (TConn.enc ((ackC c n))),.one (.bool (rpG c n))]:=by
 refine pureTG 42 Tryz.func141 Tryz.call141 [.cell 4 37,.tmp 5] ?_
 intro ok
 clear ok
 have hz:=hv.sz hm
 have hbk:=bulkC hz
 have hG:=rp_guard c n
 have hC:ackC c n=if rpG c n then (pkOf c.packets n).1.frames.foldl akC (dropP c n) else c:=rfl
 have hP:=spec_PacketOf c n hz
 have hpm:rpG c n=true→(pkOf c.packets n).1 ∈ c.packets:=by
  intro h
  simp only [rpG,Bool.and_eq_true] at h
  have h2:=h.2
  unfold pkOf at h2 ⊢
  split
  ·rename_i p hp;exact List.mem_of_find?_eq_some hp
  ·rename_i hp;rw [hp] at h2;cases h2
 generalize (pkOf c.packets n).2=pb at *
 generalize (pkOf c.packets n).1=p at *
 refine codeG_step Tryz.checked.mixed 4 (α:=Unit) (fun _=>⟨(.junk::.d (.int .i64 n)::.junk::.junk::.ptr 0 0 0::.junk::.ptr 3 0 0::.ptr 1 0 0::jn 34 []),[.box TConn.zc,.box [.d (.int .i64 p.number),.sl 2 0 p.frames.length],.cln 9 (p.frames.map TFrame.enc),.box (TConn.vc c (.sl 4 0 c.streams.length) (.sl 5 0 c.packets.length)),.cln 39 (c.streams.map TStream.enc),.cln 2 (c.packets.map TPacket.enc)]⟩) (fun _=>rpG c n=true) ?_ ?_
 ·skip
  try simp only [go_sem]
  repeat' ((first|refine CallS.cln (by first|assumption|(apply spec_l17Copy<;>first|assumption|omega)) ?_|refine CallK.cln (by assumption) ?_)<;>simp only [go_sem,lM])
  try simp only [go_sem,lM]
  repeat' ((first|refine CallS.intro (by first|assumption|(apply spec_l19Fine<;>first|assumption|omega)) ?_|refine CallK.intro (by assumption) ?_|refine gSymS ?_)<;>simp only [go_sem])
  rw [hG]
  cases hg:rpG c n with
  |false=>
   rw [hg,if_neg (by simp)] at hC
   try simp only [go_sem,lM,Bool.not_false]
   repeat' (first|(with_reducible refine sideI ?_)|fail)
   simp [hC]
  |true=>
   simp only [go_sem,Bool.not_true]
   refine SeeTo.intro () [1,6,5,4,2,3] (by first|exact hg|trivial) ?_
   simp only [go_sem]
   simp
 rintro _ hg
 rw [hg,if_pos rfl] at hC
 refine codeG_look 2 rfl ?_
 simp only [hput]
 have hvd:=invC_drop hv n
 obtain ⟨y,hy⟩:∃ y,y=dropP c n:=⟨_,rfl⟩
 rw [← hy] at hC hvd
 refine codeG_step Tryz.checked.mixed 1 (α:=Unit) (fun _=>⟨(jn 4 (.ptr 0 0 0::.junk::.ptr 3 0 0::.ptr 1 0 0::jn 34 [])),[.box TConn.zc,.box [.d (.int .i64 p.number),.sl 2 0 p.frames.length],.arr 9 (p.frames.map TFrame.enc) true,.box (TConn.vc y (.sl 4 0 y.streams.length) (.sl 5 0 y.packets.length)),.cln 39 (y.streams.map TStream.enc),.arr 2 (y.packets.map TPacket.enc) true]⟩) (fun _=>True) ?_ ?_
 ·simp only [go_sem]
  refine CallS.inlK [4,6,7] (by simp only [keepT,List.elem_cons,List.elem_nil,Nat.reduceBEq,Nat.reduceAdd,cond_true,cond_false];rfl) (l21Drop_inl c n (by have:=hz.2.2.1;omega) (aPre p.number p.frames) _ (by simp [aPre,roks,rok,voks,vok]) (by simp [aPre,voks,vok]) _ ?_)
  rw [← hy]
  simp only [aPre,xH,xS,xBox,go_sem,cA,nA]
  refine SeeTo.intro () [0,1,2,3,4,5] trivial ?_
  simp only [go_sem]
  simp
 rintro _ _
 refine codeG_of Tryz.checked.mixed ?_
 have hpz:=hz.2.2.2 p (hpm hg)
 try simp only [go_sem]
 refine LoopK.intro (α:=Nat×TConn) (fun q=>⟨(jn 4 (.ptr 0 0 0::.junk::.ptr 3 0 0::.ptr 1 0 0::.junk::.d (.int .i64 q.1)::jn 32 [])),[.box TConn.zc,.box [.d (.int .i64 p.number),.sl 2 0 p.frames.length],.arr 9 (p.frames.map TFrame.enc) true,.box (TConn.vc q.2 (.sl 4 0 q.2.streams.length) (.sl 5 0 q.2.packets.length)),.cln 39 (q.2.streams.map TStream.enc),.arr 2 (q.2.packets.map TPacket.enc) true]⟩)
  (fun q=>p.frames.length - q.1) (fun q=>q.1≤p.frames.length∧q.2=(p.frames.take q.1).foldl akC y) (0,y) [0,1,2,3,4,5] ⟨by simp,by simp⟩ ?_ ?_
 ·simp only [go_sem];simp
 ·rintro ⟨i,z⟩ ⟨hi,hzz⟩
  simp only at hi hzz
  have hvz:InvC m z:=by rw [hzz];exact fold_inv (fun c f h=>invC_ak h f) _ _ hvd
  by_cases h1:i < p.frames.length
  ·have h1':decide ((i:Int) < (p.frames.length:Int))=true:=dT (by omega)
   have hxi:=map_at TFrame.enc p.frames i h1
   have hpl:=hpz.1
   have hw:IntKind.i64.wrap ((i:Int) + 1)=((i + 1:Nat):Int):=by rw [w64]<;>omega
   have hfd:=hpz.2 _ (List.getElem_mem h1)
   have hst:(p.frames.take (i + 1)).foldl akC y=akC z p.frames[i]:=by
    rw [List.take_add_one,gE h1,List.foldl_append,← hzz];rfl
   generalize p.frames[i]=f at *
   try simp only [go_sem,lM,tN,hxi,TFrame.enc,h1']
   repeat' (first|(with_reducible refine sideI ?_)|fail)
   have hpk:(akC z f).packets=z.packets:=by
    unfold akC;split
    ·exact (overC_same z _).2
    ·rfl
   refine CallS.inlK [4,6,7,9] (by simp only [keepT,List.elem_cons,List.elem_nil,Nat.reduceBEq,Nat.reduceAdd,cond_true,cond_false];rfl) (l21Ack_inl z f (hvz.sz hm) ((akS_inv (hvz.strI _) f).sz hm) (by omega) p.number i p.frames _ ?_)
   simp only [aPre,xH,xS,xBox,akPk,go_sem,cA,nA]
   refine RoundE.intro (i + 1,akC z f) [0,1,2,3,4,5] ⟨by simp only;omega,by simp only;rw [hst]⟩ (show p.frames.length - (i + 1) < p.frames.length - i by omega) ?_
   simp only [go_sem,hw]
   simp [hpk]
  ·have h1':decide ((i:Int) < (p.frames.length:Int))=false:=dF (by omega)
   obtain rfl:i=p.frames.length:=by omega
   rw [tL] at hzz
   try simp only [go_sem,lM,h1']
   repeat' (first|(with_reducible refine sideI ?_)|fail)
   simp [hC,← hzz,hg]
set_option maxRecDepth 100000
set_option maxHeartbeats 8000000 in
theorem spec_LosePacket (c:TConn) (n:Int) (m:Nat) (hv:InvC m c) (hm:m≤20):PureCall Tryz.prog 140 [.agg (TConn.enc c),.one (.int .i64 n)] [.agg (TConn.enc ((losC c n))),.one (.bool (rpG c n))]:=by
 refine pureTG 42 Tryz.func140 Tryz.call140 [.cell 4 37,.tmp 5] ?_
 intro ok
 clear ok
 have hz:=hv.sz hm
 have hbk:=bulkC hz
 have hG:=rp_guard c n
 have hC:losC c n=if rpG c n then (pkOf c.packets n).1.frames.foldl loC (dropP c n) else c:=rfl
 have hP:=spec_PacketOf c n hz
 have hpm:rpG c n=true→(pkOf c.packets n).1 ∈ c.packets:=by
  intro h
  simp only [rpG,Bool.and_eq_true] at h
  have h2:=h.2
  unfold pkOf at h2 ⊢
  split
  ·rename_i p hp;exact List.mem_of_find?_eq_some hp
  ·rename_i hp;rw [hp] at h2;cases h2
 generalize (pkOf c.packets n).2=pb at *
 generalize (pkOf c.packets n).1=p at *
 refine codeG_step Tryz.checked.mixed 4 (α:=Unit) (fun _=>⟨(.junk::.d (.int .i64 n)::.junk::.junk::.ptr 0 0 0::.junk::.ptr 3 0 0::.ptr 1 0 0::jn 34 []),[.box TConn.zc,.box [.d (.int .i64 p.number),.sl 2 0 p.frames.length],.cln 9 (p.frames.map TFrame.enc),.box (TConn.vc c (.sl 4 0 c.streams.length) (.sl 5 0 c.packets.length)),.cln 39 (c.streams.map TStream.enc),.cln 2 (c.packets.map TPacket.enc)]⟩) (fun _=>rpG c n=true) ?_ ?_
 ·skip
  try simp only [go_sem]
  repeat' ((first|refine CallS.cln (by first|assumption|(apply spec_l17Copy<;>first|assumption|omega)) ?_|refine CallK.cln (by assumption) ?_)<;>simp only [go_sem,lM])
  try simp only [go_sem,lM]
  repeat' ((first|refine CallS.intro (by first|assumption|(apply spec_l19Fine<;>first|assumption|omega)) ?_|refine CallK.intro (by assumption) ?_|refine gSymS ?_)<;>simp only [go_sem])
  rw [hG]
  cases hg:rpG c n with
  |false=>
   rw [hg,if_neg (by simp)] at hC
   try simp only [go_sem,lM,Bool.not_false]
   repeat' (first|(with_reducible refine sideI ?_)|fail)
   simp [hC]
  |true=>
   simp only [go_sem,Bool.not_true]
   refine SeeTo.intro () [1,6,5,4,2,3] (by first|exact hg|trivial) ?_
   simp only [go_sem]
   simp
 rintro _ hg
 rw [hg,if_pos rfl] at hC
 refine codeG_look 2 rfl ?_
 simp only [hput]
 have hvd:=invC_drop hv n
 obtain ⟨y,hy⟩:∃ y,y=dropP c n:=⟨_,rfl⟩
 rw [← hy] at hC hvd
 refine codeG_step Tryz.checked.mixed 1 (α:=Unit) (fun _=>⟨(jn 4 (.ptr 0 0 0::.junk::.ptr 3 0 0::.ptr 1 0 0::jn 34 [])),[.box TConn.zc,.box [.d (.int .i64 p.number),.sl 2 0 p.frames.length],.arr 9 (p.frames.map TFrame.enc) true,.box (TConn.vc y (.sl 4 0 y.streams.length) (.sl 5 0 y.packets.length)),.cln 39 (y.streams.map TStream.enc),.arr 2 (y.packets.map TPacket.enc) true]⟩) (fun _=>True) ?_ ?_
 ·simp only [go_sem]
  refine CallS.inlK [4,6,7] (by simp only [keepT,List.elem_cons,List.elem_nil,Nat.reduceBEq,Nat.reduceAdd,cond_true,cond_false];rfl) (l21Drop_inl c n (by have:=hz.2.2.1;omega) (aPre p.number p.frames) _ (by simp [aPre,roks,rok,voks,vok]) (by simp [aPre,voks,vok]) _ ?_)
  rw [← hy]
  simp only [aPre,xH,xS,xBox,go_sem,cA,nA]
  refine SeeTo.intro () [0,1,2,3,4,5] trivial ?_
  simp only [go_sem]
  simp
 rintro _ _
 refine codeG_of Tryz.checked.mixed ?_
 have hpz:=hz.2.2.2 p (hpm hg)
 try simp only [go_sem]
 refine LoopK.intro (α:=Nat×TConn) (fun q=>⟨(jn 4 (.ptr 0 0 0::.junk::.ptr 3 0 0::.ptr 1 0 0::.junk::.d (.int .i64 q.1)::jn 32 [])),[.box TConn.zc,.box [.d (.int .i64 p.number),.sl 2 0 p.frames.length],.arr 9 (p.frames.map TFrame.enc) true,.box (TConn.vc q.2 (.sl 4 0 q.2.streams.length) (.sl 5 0 q.2.packets.length)),.cln 39 (q.2.streams.map TStream.enc),.arr 2 (q.2.packets.map TPacket.enc) true]⟩)
  (fun q=>p.frames.length - q.1) (fun q=>q.1≤p.frames.length∧q.2=(p.frames.take q.1).foldl loC y) (0,y) [0,1,2,3,4,5] ⟨by simp,by simp⟩ ?_ ?_
 ·simp only [go_sem];simp
 ·rintro ⟨i,z⟩ ⟨hi,hzz⟩
  simp only at hi hzz
  have hvz:InvC m z:=by rw [hzz];exact fold_inv (fun c f h=>invC_lo h f) _ _ hvd
  by_cases h1:i < p.frames.length
  ·have h1':decide ((i:Int) < (p.frames.length:Int))=true:=dT (by omega)
   have hxi:=map_at TFrame.enc p.frames i h1
   have hpl:=hpz.1
   have hw:IntKind.i64.wrap ((i:Int) + 1)=((i + 1:Nat):Int):=by rw [w64]<;>omega
   have hfd:=hpz.2 _ (List.getElem_mem h1)
   have hst:(p.frames.take (i + 1)).foldl loC y=loC z p.frames[i]:=by
    rw [List.take_add_one,gE h1,List.foldl_append,← hzz];rfl
   generalize p.frames[i]=f at *
   try simp only [go_sem,lM,tN,hxi,TFrame.enc,h1']
   repeat' (first|(with_reducible refine sideI ?_)|fail)
   have hpk:(loC z f).packets=z.packets:=by
    unfold loC
    repeat' split
    all_goals rfl
   refine CallS.inlK [4,6,7,9] (by simp only [keepT,List.elem_cons,List.elem_nil,Nat.reduceBEq,Nat.reduceAdd,cond_true,cond_false];rfl) (l21Lose_inl z f (hvz.sz hm) ((loS_inv (hvz.strI _) f).sz hm) (by omega) p.number i p.frames _ ?_)
   simp only [aPre,xH,xS,xBox,akPk,go_sem,cA,nA]
   refine RoundE.intro (i + 1,loC z f) [0,1,2,3,4,5] ⟨by simp only;omega,by simp only;rw [hst]⟩ (show p.frames.length - (i + 1) < p.frames.length - i by omega) ?_
   simp only [go_sem,hw]
   simp [hpk]
  ·have h1':decide ((i:Int) < (p.frames.length:Int))=false:=dF (by omega)
   obtain rfl:i=p.frames.length:=by omega
   rw [tL] at hzz
   try simp only [go_sem,lM,h1']
   repeat' (first|(with_reducible refine sideI ?_)|fail)
   simp [hC,← hzz,hg]
set_option maxRecDepth 100000
theorem hd_guard (c:TConn) (f:TFrame) (k:Int):(bif bif !isConnS c then true else !isFrame f then true else decide (f.kind≠k))=!hdG c f k:=by
 unfold hdG
 cases isConnS c<;>cases isFrame f<;>by_cases h:f.kind=k<;>simp [h]
set_option maxHeartbeats 8000000 in
theorem spec_HandleStop (c:TConn) (f:TFrame) (m:Nat) (hv:InvC m c) (hm:m≤19):PureCall Tryz.prog 171 [.agg (TConn.enc c),.agg (TFrame.enc f)] [.agg (TConn.enc ((hsC c f))),.one (.int .i64 (hsE c f))]:=by
 refine pureTG 69 Tryz.func171 Tryz.call171 [.cell 4 37,.tmp 5] ?_
 intro ok
 clear ok
 have hz:=hv.sz (by omega)
 have hbk:=bulkC hz
 have hvx:=invC_ens hv f.stream
 have hzx:=hvx.sz (by omega)
 have hXl:(ensC c f.stream).streams.length≤1000:=by have:=hzx.1;omega
 have hXz:=hzx.2.1
 have hC:hsC c f=if hsE c f=0 then saveC (ensC c f.stream) (hsS (ensC c f.stream) f) else c:=rfl
 have hE:hsE c f=if hdG c f 5 then (if canSend c.server f.stream then ensE c f.stream else 5) else 7:=rfl
 have hS:hsS (ensC c f.stream) f=if canR (strI (ensC c f.stream) f.stream).send f.code then rstStr (strI (ensC c f.stream) f.stream) f.code else strI (ensC c f.stream) f.stream:=rfl
 have hSz:SzS (hsS (ensC c f.stream) f):=(hsS_inv hvx).sz (by omega)
 have hG:=hd_guard c f 5
 obtain ⟨s1,s2,s3,s4⟩:=strOf_len hzx.2.1 f.stream
 have s3':=s3
 have s3:∀ ch ∈ (strOf (ensC c f.stream).streams f.stream).1.recv.buffer.chunks,ch.data.length≤1048576:=fun ch hc=>by have:=s3 ch hc;omega
 have hO:=spec_StreamOf (ensC c f.stream) f.stream hzx
 rw [show (strOf (ensC c f.stream).streams f.stream).1=strI (ensC c f.stream) f.stream from rfl] at s1 s2 s3 s3' s4 hO
 have hEn:=spec_EnsureStream c f.stream hz
 generalize strI (ensC c f.stream) f.stream=s at *
 generalize ensC c f.stream=x at *
 refine codeG_step Tryz.checked.mixed 6 (α:=Unit) (fun _=>⟨(.junk::.junk::.ptr 0 0 0::.ptr 1 0 0::.ptr 2 0 0::.junk::.ptr 3 0 0::.junk::.ptr 6 0 0::jn 60 []),[.box (TConn.ve c),.box (TFrame.ve f),.box TConn.zc,.box (TConn.vc x (.sl 4 0 x.streams.length) (.sl 5 0 x.packets.length)),.cln 39 (x.streams.map TStream.enc),.cln 2 (x.packets.map TPacket.enc),.box (TStream.vc s (.sl 7 0 s.send.ring.cells.length) (.sl 8 0 s.send.pending.length) (.sl 9 0 s.send.flight.length) (.sl 10 0 s.send.acked.length) (.sl 11 0 s.recv.buffer.chunks.length)),.cln 1 (s.send.ring.cells.map eI),.cln 2 (s.send.pending.map TRange.enc),.cln 2 (s.send.flight.map TRange.enc),.cln 2 (s.send.acked.map TRange.enc),.cln 2 (s.recv.buffer.chunks.map TChunk.enc)]⟩) (fun _=>hdG c f 5=true∧canSend c.server f.stream=true∧ensE c f.stream=0) ?_ ?_
 ·skip
  try simp only [go_sem]
  repeat' ((first|refine CallS.cln (by first|assumption|(apply spec_IsConn<;>first|assumption|omega)) ?_|refine CallK.cln (by first|assumption|apply spec_IsFrame) ?_|refine gSymS ?_)<;>simp only [go_sem])
  rw [hG]
  cases hg:hdG c f 5 with
  |false=>
   rw [hg,if_neg (by simp)] at hE
   rw [hE,if_neg (by decide)] at hC
   try simp only [go_sem,Bool.not_false]
   repeat' (first|((first|refine CallS.cln (by first|assumption|(apply spec_l17Copy<;>first|assumption|omega)) ?_|refine CallK.cln (by assumption) ?_)<;>simp only [go_sem,lM])|(with_reducible refine sideI ?_)|fail)
   simp [hC,hE]
  |true=>
   rw [hg,if_pos rfl] at hE
   try simp only [go_sem,Bool.not_true]
   repeat' ((first|refine CallS.cln (by first|assumption|apply spec_CanSendOn) ?_|refine CallK.cln (by assumption) ?_)<;>simp only [go_sem])
   cases hcn:canSend c.server f.stream with
   |false=>
    rw [hcn,if_neg (by simp)] at hE
    rw [hE,if_neg (by decide)] at hC
    try simp only [go_sem,Bool.not_false]
    repeat' (first|((first|refine CallS.cln (by first|assumption|(apply spec_l17Copy<;>first|assumption|omega)) ?_|refine CallK.cln (by assumption) ?_)<;>simp only [go_sem,lM])|(with_reducible refine sideI ?_)|fail)
    simp [hC,hE]
   |true=>
    rw [hcn,if_pos rfl] at hE
    try simp only [go_sem,Bool.not_true]
    repeat' ((first|refine CallS.cln (by assumption) ?_|refine CallK.cln (by assumption) ?_)<;>simp only [go_sem,lM])
    cases hen:decide (ensE c f.stream≠0) with
    |true=>
     have hen':=oT hen
     skip
     rw [hE,if_neg hen'] at hC
     try simp only [go_sem]
     repeat' (first|((first|refine CallS.cln (by first|assumption|(apply spec_l17Copy<;>first|assumption|omega)) ?_|refine CallK.cln (by assumption) ?_)<;>simp only [go_sem,lM])|(with_reducible refine sideI ?_)|fail)
     simp [hC,hE]
    |false=>
     have hen':ensE c f.stream=0:=Decidable.not_not.1 (oF hen)
     try simp only [go_sem,lM]
     repeat' ((first|refine CallS.cln (by assumption) ?_|refine CallK.cln (by assumption) ?_)<;>simp only [go_sem,lM])
     refine SeeTo.intro () [0,1,2,5,3,4,11,6,7,8,9,10] (by first|exact ⟨hg,hcn,hen'⟩|(simp only [true_and];exact hen')|simp [hen']) ?_
     simp only [go_sem]
     simp
 rintro _ ⟨hg,hcn,hen⟩
 rw [hg,if_pos rfl,hcn,if_pos rfl,hen] at hE
 rw [hE,if_pos rfl] at hC
 generalize hsS x f=t at *
 obtain ⟨y,hy⟩:∃ y,y=x:=⟨_,rfl⟩
 refine codeG_step Tryz.checked.mixed 2 (α:=Unit) (fun _=>⟨(jn 4 (.ptr 2 0 0::.junk::.ptr 3 0 0::.junk::.ptr 6 0 0::jn 60 [])),[.box (TConn.ve c),.box (TFrame.ve f),.box TConn.zc,.box (TConn.vc y (.sl 4 0 y.streams.length) (.sl 5 0 y.packets.length)),.cln 39 (y.streams.map TStream.enc),.cln 2 (y.packets.map TPacket.enc),.box (TStream.vc t (.sl 7 0 t.send.ring.cells.length) (.sl 8 0 t.send.pending.length) (.sl 9 0 t.send.flight.length) (.sl 10 0 t.send.acked.length) (.sl 11 0 t.recv.buffer.chunks.length)),.cln 1 (t.send.ring.cells.map eI),.cln 2 (t.send.pending.map TRange.enc),.cln 2 (t.send.flight.map TRange.enc),.cln 2 (t.send.acked.map TRange.enc),.cln 2 (t.recv.buffer.chunks.map TChunk.enc)]⟩) (fun _=>True) ?_ ?_
 ·skip
  try simp only [go_sem,lM]
  repeat' ((first|refine CallS.cln (by first|assumption|(apply spec_ResetSender<;>first|assumption|omega)) ?_|refine CallK.cln (by assumption) ?_)<;>simp only [go_sem,lM])
  cases hr:canR s.send f.code with
  |true=>
   rw [hr,if_pos rfl] at hS
   simp only [go_sem]
   refine SeeTo.intro () [0,1,2,3,4,5,6,12,13,14,15,11] trivial ?_
   simp only [go_sem,hS,rstStr,hy]
   simp
  |false=>
   rw [hr,if_neg (by simp)] at hS
   simp only [go_sem]
   refine SeeTo.intro () [0,1,2,3,4,5,6,7,8,9,10,11] trivial ?_
   simp only [go_sem,hS,hy]
   simp
 rintro _ _
 have hYl:y.streams.length≤1000:=by rw [hy];exact hXl
 have hYz:∀ q ∈ y.streams,SzS q:=by rw [hy];exact hXz
 rw [← hy] at hC
 refine codeG_step Tryz.checked.mixed 1 (α:=Unit) (fun _=>⟨(jn 4 (.ptr 2 0 0::.junk::.ptr 3 0 0::jn 62 [])),[.box (TConn.ve c),.box (TFrame.ve f),.box TConn.zc,.box (TConn.vc ((saveC y t)) (.sl 4 0 ((saveC y t)).streams.length) (.sl 5 0 ((saveC y t)).packets.length)),.cln 39 (((saveC y t)).streams.map TStream.enc),.cln 2 (((saveC y t)).packets.map TPacket.enc)]⟩) (fun _=>True) ?_ ?_
 ·simp only [go_sem,lM]
  refine CallS.inlK [4,6] (by simp only [keepT,List.elem_cons,List.elem_nil,Nat.reduceBEq,Nat.reduceAdd,cond_true,cond_false];rfl) (l18Save_inl y t (.cln 2 (y.packets.map TPacket.enc)) (fun _=>trivial) hYl hYz hSz [.box (TConn.ve c),.box (TFrame.ve f),.box TConn.zc] _ (by simp [roks,rok,voks,vok]) (by simp [voks,vok]) _ ?_)
  simp only [xH,xS,xBox,go_sem]
  have hpk:(saveC y t).packets=y.packets:=(overC_same y t).2
  refine SeeTo.intro () [0,1,2,3,4,5] trivial ?_
  simp only [go_sem]
  simp [hpk]
 rintro _ _
 refine codeG_of Tryz.checked.mixed ?_
 try simp only [go_sem,lM]
 repeat' (first|(with_reducible refine sideI ?_)|fail)
 simp [hC,hE]
set_option maxRecDepth 100000
set_option maxHeartbeats 8000000 in
theorem spec_HandleData (c:TConn) (f:TFrame) (m:Nat) (hv:InvC m c) (hm:m≤19) (hd:f.data.length≤8) (ho:0≤f.offset∧f.offset≤900):PureCall Tryz.prog 169 [.agg (TConn.enc c),.agg (TFrame.enc f)] [.agg (TConn.enc ((hdC c f))),.one (.int .i64 (hdE c f))]:=by
 refine pureTG 88 Tryz.func169 Tryz.call169 [.cell 4 37,.tmp 5] ?_
 intro ok
 clear ok
 have hz:=hv.sz (by omega)
 have hbk:=bulkC hz
 have hvx:=invC_ens hv f.stream
 have hzx:=hvx.sz (by omega)
 have hXl:(ensC c f.stream).streams.length≤1000:=by have:=hzx.1;omega
 have hXz:=hzx.2.1
 have hC:hdC c f=if hdE c f=0 then saveC (flC (ensC c f.stream) (strI (ensC c f.stream) f.stream) (dataEnd f)) (hdS (ensC c f.stream) f) else c:=rfl
 have hE:hdE c f=if hdG c f 8 then (if canRecv c.server f.stream then (if ensE c f.stream=0 then (if flE (ensC c f.stream) (strI (ensC c f.stream) f.stream) (dataEnd f)=0 then rdE (strI (ensC c f.stream) f.stream).recv f.offset f.data f.fin else flE (ensC c f.stream) (strI (ensC c f.stream) f.stream) (dataEnd f)) else ensE c f.stream) else 5) else 7:=rfl
 have hS:hdS (ensC c f.stream) f=withRcv (flS (strI (ensC c f.stream) f.stream) (dataEnd f)) (recvD (strI (ensC c f.stream) f.stream).recv f.offset f.data f.fin):=rfl
 have hSz:SzS (hdS (ensC c f.stream) f):=(hdS_inv hvx hd ho).sz (by omega)
 have hck:=hvx.strI f.stream
 have hch:=hck.ch
 clear hck
 have hG:=hd_guard c f 8
 obtain ⟨s1,s2,s3,s4⟩:=strOf_len hzx.2.1 f.stream
 have s3':=s3
 have s3:∀ ch ∈ (strOf (ensC c f.stream).streams f.stream).1.recv.buffer.chunks,ch.data.length≤1048576:=fun ch hc=>by have:=s3 ch hc;omega
 have hO:=spec_StreamOf (ensC c f.stream) f.stream hzx
 rw [show (strOf (ensC c f.stream).streams f.stream).1=strI (ensC c f.stream) f.stream from rfl] at s1 s2 s3 s3' s4 hO
 have hEn:=spec_EnsureStream c f.stream hz
 generalize strI (ensC c f.stream) f.stream=s at *
 generalize ensC c f.stream=x at *
 refine codeG_step Tryz.checked.mixed 6 (α:=Unit) (fun _=>⟨(.junk::.junk::.ptr 0 0 0::.ptr 1 0 0::.ptr 2 0 0::.junk::.ptr 3 0 0::.junk::.ptr 6 0 0::jn 79 []),[.box (TConn.ve c),.box (TFrame.ve f),.box TConn.zc,.box (TConn.vc x (.sl 4 0 x.streams.length) (.sl 5 0 x.packets.length)),.cln 39 (x.streams.map TStream.enc),.cln 2 (x.packets.map TPacket.enc),.box (TStream.vc s (.sl 7 0 s.send.ring.cells.length) (.sl 8 0 s.send.pending.length) (.sl 9 0 s.send.flight.length) (.sl 10 0 s.send.acked.length) (.sl 11 0 s.recv.buffer.chunks.length)),.cln 1 (s.send.ring.cells.map eI),.cln 2 (s.send.pending.map TRange.enc),.cln 2 (s.send.flight.map TRange.enc),.cln 2 (s.send.acked.map TRange.enc),.cln 2 (s.recv.buffer.chunks.map TChunk.enc)]⟩) (fun _=>hdG c f 8=true∧canRecv c.server f.stream=true∧ensE c f.stream=0) ?_ ?_
 ·skip
  try simp only [go_sem]
  repeat' (first|((first|refine CallS.cln (by first|assumption|(apply spec_IsConn<;>first|assumption|omega)) ?_|refine CallK.cln (by first|assumption|apply spec_IsFrame) ?_|refine gSymS ?_)<;>simp only [go_sem])|(with_reducible refine sideI ?_)|fail)
  rw [hG]
  cases hg:hdG c f 8 with
  |false=>
   rw [hg,if_neg (by simp)] at hE
   rw [hE,if_neg (by decide)] at hC
   try simp only [go_sem,Bool.not_false]
   repeat' (first|((first|refine CallS.cln (by first|assumption|(apply spec_l17Copy<;>first|assumption|omega)) ?_|refine CallK.cln (by assumption) ?_)<;>simp only [go_sem,lM])|(with_reducible refine sideI ?_)|fail)
   simp [hC,hE]
  |true=>
   rw [hg,if_pos rfl] at hE
   try simp only [go_sem,Bool.not_true]
   repeat' (first|((first|refine CallS.cln (by first|assumption|apply spec_CanReceiveOn) ?_|refine CallK.cln (by assumption) ?_)<;>simp only [go_sem])|(with_reducible refine sideI ?_)|fail)
   cases hcn:canRecv c.server f.stream with
   |false=>
    rw [hcn,if_neg (by simp)] at hE
    rw [hE,if_neg (by decide)] at hC
    try simp only [go_sem,Bool.not_false]
    repeat' (first|((first|refine CallS.cln (by first|assumption|(apply spec_l17Copy<;>first|assumption|omega)) ?_|refine CallK.cln (by assumption) ?_)<;>simp only [go_sem,lM])|(with_reducible refine sideI ?_)|fail)
    simp [hC,hE]
   |true=>
    rw [hcn,if_pos rfl] at hE
    try simp only [go_sem,Bool.not_true]
    repeat' ((first|refine CallS.cln (by assumption) ?_|refine CallK.cln (by assumption) ?_)<;>simp only [go_sem,lM])
    cases hen:decide (ensE c f.stream≠0) with
    |true=>
     have hen':=oT hen
     rw [if_neg hen'] at hE
     rw [hE,if_neg hen'] at hC
     try simp only [go_sem]
     repeat' (first|((first|refine CallS.cln (by first|assumption|(apply spec_l17Copy<;>first|assumption|omega)) ?_|refine CallK.cln (by assumption) ?_)<;>simp only [go_sem,lM])|(with_reducible refine sideI ?_)|fail)
     simp [hC,hE]
    |false=>
     have hen':ensE c f.stream=0:=Decidable.not_not.1 (oF hen)
     try simp only [go_sem,lM]
     repeat' ((first|refine CallS.cln (by assumption) ?_|refine CallK.cln (by assumption) ?_)<;>simp only [go_sem,lM])
     refine SeeTo.intro () [0,1,2,5,3,4,11,6,7,8,9,10] (by first|exact ⟨hg,hcn,hen'⟩|(simp only [true_and];exact hen')|simp [hen']) ?_
     simp only [go_sem]
     simp
 rintro _ ⟨hg,hcn,hen⟩
 rw [hg,if_pos rfl,hcn,if_pos rfl,hen,if_pos rfl] at hE
 have hR:recvD s.recv f.offset f.data f.fin=recvD s.recv f.offset f.data f.fin:=rfl
 generalize hR2:recvD s.recv f.offset f.data f.fin=r at hS hR
 have hR:r=recvD s.recv f.offset f.data f.fin:=hR2.symm
 have hed:IntKind.i64.wrap (f.offset + (f.data.length:Int))=dataEnd f:=rfl
 generalize dataEnd f=e at *
 refine codeG_step Tryz.checked.mixed 1 (α:=Unit) (fun _=>⟨(.junk::.junk::.ptr 0 0 0::.ptr 1 0 0::.ptr 2 0 0::.junk::.ptr 3 0 0::.junk::.ptr 6 0 0::.junk::.ptr 12 0 0::.d (.int .i64 (rdE s.recv f.offset f.data f.fin))::jn 76 []),[.box (TConn.ve c),.box (TFrame.ve f),.box TConn.zc,.box (TConn.vc x (.sl 4 0 x.streams.length) (.sl 5 0 x.packets.length)),.cln 39 (x.streams.map TStream.enc),.cln 2 (x.packets.map TPacket.enc),.box (TStream.vc s (.sl 7 0 s.send.ring.cells.length) (.sl 8 0 s.send.pending.length) (.sl 9 0 s.send.flight.length) (.sl 10 0 s.send.acked.length) (.sl 11 0 s.recv.buffer.chunks.length)),.cln 1 (s.send.ring.cells.map eI),.cln 2 (s.send.pending.map TRange.enc),.cln 2 (s.send.flight.map TRange.enc),.cln 2 (s.send.acked.map TRange.enc),.cln 2 (s.recv.buffer.chunks.map TChunk.enc),.box (TReceiver.vc r (.sl 13 0 r.buffer.chunks.length)),.cln 2 (r.buffer.chunks.map TChunk.enc)]⟩) (fun _=>True) ?_ ?_
 ·skip
  try simp only [go_sem,lM]
  repeat' ((first|refine CallS.cln (by first|assumption|(apply spec_ReceiveData<;>first|assumption|omega)) ?_|refine CallK.cln (by assumption) ?_)<;>simp only [go_sem,lM])
  refine SeeTo.intro () [0,1,2,3,4,5,6,7,8,9,10,11,13,12] trivial ?_
  simp only [go_sem]
  simp [← hR]
 rintro _ _
 refine codeG_step Tryz.checked.mixed 1 (α:=TConn×TStream) (fun y=>⟨(.junk::.junk::.ptr 0 0 0::.ptr 1 0 0::.ptr 2 0 0::.junk::.ptr 3 0 0::.d (.int .i64 (flE x s (e)))::.ptr 6 0 0::.junk::.ptr 12 0 0::.d (.int .i64 (rdE s.recv f.offset f.data f.fin))::jn 76 []),[.box (TConn.ve c),.box (TFrame.ve f),.box TConn.zc,.box (TConn.vc y.1 (.sl 4 0 y.1.streams.length) (.sl 5 0 y.1.packets.length)),.cln 39 (y.1.streams.map TStream.enc),.cln 2 (y.1.packets.map TPacket.enc),.box (TStream.vc y.2 (.sl 7 0 y.2.send.ring.cells.length) (.sl 8 0 y.2.send.pending.length) (.sl 9 0 y.2.send.flight.length) (.sl 10 0 y.2.send.acked.length) (.sl 11 0 y.2.recv.buffer.chunks.length)),.cln 1 (y.2.send.ring.cells.map eI),.cln 2 (y.2.send.pending.map TRange.enc),.cln 2 (y.2.send.flight.map TRange.enc),.cln 2 (y.2.send.acked.map TRange.enc),.cln 2 (y.2.recv.buffer.chunks.map TChunk.enc),.box (TReceiver.vc r (.sl 13 0 r.buffer.chunks.length)),.cln 2 (r.buffer.chunks.map TChunk.enc)]⟩) (fun y=>flE x s (e)=0→y.1=flC x s (e)∧y.2=flS s (e)) ?_ ?_
 ·simp only [go_sem,hed]
  refine CallS.inlK [2,3,4,6,8,10,11] (by simp only [keepT,List.elem_cons,List.elem_nil,Nat.reduceBEq,Nat.reduceAdd,cond_true,cond_false];rfl) (inl_ev (n:=52) (rs:=[.tmp 6]) Tryz.func207 rfl Tryz.call207 Tryz.checked.mixed rfl rfl ?_)
  simp only [go_sem,lM]
  try simp only [go_sem,lM]
  repeat' ((first|refine CallS.intro (by first|assumption|(apply spec_NewBytes<;>first|assumption|omega)) ?_|refine CallK.intro (by assumption) ?_)<;>simp only [go_sem])
  cases hn:decide (newBytes s.recv (e)=0) with
  |true=>
   have hn':flN s (e)=0:=oT hn
   have e1:flE x s (e)=0:=by unfold flE;rw [if_pos hn']
   have e2:flC x s (e)=x:=by unfold flC;rw [if_pos hn']
   have e3:flS s (e)=s:=by unfold flS;rw [if_pos hn']
   try simp only [go_sem]
   refine SeeTo.intro (x,s) [0,1,2,3,4,5,6,7,8,9,10,11,12,13] (fun _=>⟨e2.symm,e3.symm⟩) ?_
   simp only [go_sem,e1]
   simp
  |false=>
   have hn':¬ flN s (e)=0:=oF hn
   have e1:flE x s (e)=if seeOk s.window (newBytes s.recv (e)) && seeOk x.inflow (newBytes s.recv (e)) then 0 else 3:=by unfold flE;rw [if_neg hn'];rfl
   have e2:flC x s (e)={ x with inflow:=seeW x.inflow (newBytes s.recv (e)) }:=by unfold flC;rw [if_neg hn'];rfl
   have e3:flS s (e)={ s with window:=seeW s.window (newBytes s.recv (e)) }:=by unfold flS;rw [if_neg hn'];rfl
   try simp only [go_sem]
   repeat' ((first|refine CallS.intro (by first|assumption|apply spec_SeeBytes) ?_|refine CallK.intro (by assumption) ?_|refine gSymS ?_)<;>simp only [go_sem])
   have hgg:(bif !seeOk s.window (newBytes s.recv (e)) then true else !seeOk x.inflow (newBytes s.recv (e)))=!(seeOk s.window (newBytes s.recv (e)) && seeOk x.inflow (newBytes s.recv (e))):=by
    cases seeOk s.window (newBytes s.recv (e))<;>cases seeOk x.inflow (newBytes s.recv (e))<;>rfl
   rw [hgg]
   cases hk:seeOk s.window (newBytes s.recv (e)) && seeOk x.inflow (newBytes s.recv (e)) with
   |false=>
    rw [hk,if_neg (by simp)] at e1
    try simp only [go_sem,Bool.not_false]
    refine SeeTo.intro (x,s) [0,1,2,3,4,5,6,7,8,9,10,11,12,13] (fun h=>by rw [e1] at h;cases h) ?_
    simp only [go_sem,e1]
    simp
   |true=>
    rw [hk,if_pos rfl] at e1
    try simp only [go_sem,Bool.not_true]
    refine SeeTo.intro ({ x with inflow:=seeW x.inflow (newBytes s.recv (e)) },{ s with window:=seeW s.window (newBytes s.recv (e)) }) [0,1,2,3,4,5,6,7,8,9,10,11,12,13] (fun _=>⟨e2.symm,e3.symm⟩) ?_
    simp only [go_sem,e1]
    simp
 rintro ⟨x2,u⟩ hxu
 simp only at hxu
 refine codeG_step Tryz.checked.mixed 2 (α:=Unit) (fun _=>⟨(.junk::.junk::.ptr 0 0 0::.ptr 1 0 0::.ptr 2 0 0::.junk::.ptr 3 0 0::.junk::.ptr 6 0 0::.junk::.ptr 12 0 0::jn 77 []),[.box (TConn.ve c),.box (TFrame.ve f),.box TConn.zc,.box (TConn.vc x2 (.sl 4 0 x2.streams.length) (.sl 5 0 x2.packets.length)),.cln 39 (x2.streams.map TStream.enc),.cln 2 (x2.packets.map TPacket.enc),.box (TStream.vc u (.sl 7 0 u.send.ring.cells.length) (.sl 8 0 u.send.pending.length) (.sl 9 0 u.send.flight.length) (.sl 10 0 u.send.acked.length) (.sl 11 0 u.recv.buffer.chunks.length)),.cln 1 (u.send.ring.cells.map eI),.cln 2 (u.send.pending.map TRange.enc),.cln 2 (u.send.flight.map TRange.enc),.cln 2 (u.send.acked.map TRange.enc),.cln 2 (u.recv.buffer.chunks.map TChunk.enc),.box (TReceiver.vc r (.sl 13 0 r.buffer.chunks.length)),.cln 2 (r.buffer.chunks.map TChunk.enc)]⟩) (fun _=>flE x s (e)=0∧rdE s.recv f.offset f.data f.fin=0) ?_ ?_
 ·simp only [go_sem]
  cases hf0:decide (flE x s (e)≠0) with
  |true=>
   have hf0':=oT hf0
   rw [if_neg hf0'] at hE
   rw [hE,if_neg hf0'] at hC
   try simp only [go_sem]
   repeat' (first|((first|refine CallS.cln (by first|assumption|(apply spec_l17Copy<;>first|assumption|omega)) ?_|refine CallK.cln (by assumption) ?_|refine gSymS ?_)<;>simp only [go_sem,lM])|(with_reducible refine sideI ?_)|fail)
   simp [hC,hE]
  |false=>
   have hf0':=Decidable.not_not.1 (oF hf0)
   rw [hf0',if_pos rfl] at hE
   simp only [go_sem]
   cases hr0:decide (rdE s.recv f.offset f.data f.fin≠0) with
   |true=>
    have hr0':=oT hr0
    rw [hE,if_neg hr0'] at hC
    try simp only [go_sem]
    repeat' (first|((first|refine CallS.cln (by first|assumption|(apply spec_l17Copy<;>first|assumption|omega)) ?_|refine CallK.cln (by assumption) ?_)<;>simp only [go_sem,lM])|(with_reducible refine sideI ?_)|fail)
    simp [hC,hE]
   |false=>
    have hr0':=Decidable.not_not.1 (oF hr0)
    simp only [go_sem]
    refine SeeTo.intro () [0,1,2,3,4,5,6,7,8,9,10,11,12,13] (by first|exact ⟨hf0',hr0'⟩|simp [hf0',hr0']) ?_
    simp only [go_sem]
    simp
 rintro _ ⟨hf0,hr0⟩
 obtain ⟨hx2,hu⟩:=hxu hf0
 rw [hf0,if_pos rfl,hr0] at hE
 rw [hE,if_pos rfl] at hC
 obtain ⟨y,hy⟩:∃ y,y=x2:=⟨_,rfl⟩
 have hYs:y.streams=x.streams:=by rw [hy,hx2];exact (flC_same _ _ _).1
 have hYl:y.streams.length≤1000:=by rw [hYs];exact hXl
 have hYz:∀ q ∈ y.streams,SzS q:=by rw [hYs];exact hXz
 rw [← hu] at hS
 rw [← hx2,← hy] at hC
 generalize hdS x f=t at *
 refine codeG_step Tryz.checked.mixed 1 (α:=Unit) (fun _=>⟨(jn 4 (.ptr 2 0 0::.junk::.ptr 3 0 0::.junk::.ptr 6 0 0::jn 79 [])),[.box (TConn.ve c),.box (TFrame.ve f),.box TConn.zc,.box (TConn.vc y (.sl 4 0 y.streams.length) (.sl 5 0 y.packets.length)),.cln 39 (y.streams.map TStream.enc),.cln 2 (y.packets.map TPacket.enc),.box (TStream.vc t (.sl 7 0 t.send.ring.cells.length) (.sl 8 0 t.send.pending.length) (.sl 9 0 t.send.flight.length) (.sl 10 0 t.send.acked.length) (.sl 11 0 t.recv.buffer.chunks.length)),.cln 1 (t.send.ring.cells.map eI),.cln 2 (t.send.pending.map TRange.enc),.cln 2 (t.send.flight.map TRange.enc),.cln 2 (t.send.acked.map TRange.enc),.cln 2 (t.recv.buffer.chunks.map TChunk.enc)]⟩) (fun _=>True) ?_ ?_
 ·simp only [go_sem]
  refine SeeTo.intro () [0,1,2,3,4,5,6,7,8,9,10,13] trivial ?_
  simp only [go_sem,hS,hy,withRcv]
  simp
 rintro _ _
 refine codeG_step Tryz.checked.mixed 1 (α:=Unit) (fun _=>⟨(jn 4 (.ptr 2 0 0::.junk::.ptr 3 0 0::jn 81 [])),[.box (TConn.ve c),.box (TFrame.ve f),.box TConn.zc,.box (TConn.vc ((saveC y t)) (.sl 4 0 ((saveC y t)).streams.length) (.sl 5 0 ((saveC y t)).packets.length)),.cln 39 (((saveC y t)).streams.map TStream.enc),.cln 2 (((saveC y t)).packets.map TPacket.enc)]⟩) (fun _=>True) ?_ ?_
 ·simp only [go_sem,lM]
  refine CallS.inlK [4,6] (by simp only [keepT,List.elem_cons,List.elem_nil,Nat.reduceBEq,Nat.reduceAdd,cond_true,cond_false];rfl) (l18Save_inl y t (.cln 2 (y.packets.map TPacket.enc)) (fun _=>trivial) hYl hYz hSz [.box (TConn.ve c),.box (TFrame.ve f),.box TConn.zc] _ (by simp [roks,rok,voks,vok]) (by simp [voks,vok]) _ ?_)
  simp only [xH,xS,xBox,go_sem]
  have hpk:(saveC y t).packets=y.packets:=(overC_same y t).2
  refine SeeTo.intro () [0,1,2,3,4,5] trivial ?_
  simp only [go_sem]
  simp [hpk]
 rintro _ _
 refine codeG_of Tryz.checked.mixed ?_
 try simp only [go_sem,lM]
 repeat' (first|(with_reducible refine sideI ?_)|fail)
 simp [hC,hE]
set_option maxRecDepth 100000
set_option maxHeartbeats 8000000 in
theorem spec_HandleReset (c:TConn) (f:TFrame) (m:Nat) (hv:InvC m c) (hm:m≤19):PureCall Tryz.prog 170 [.agg (TConn.enc c),.agg (TFrame.enc f)] [.agg (TConn.enc ((hrC c f))),.one (.int .i64 (hrE c f))]:=by
 refine pureTG 94 Tryz.func170 Tryz.call170 [.cell 4 37,.tmp 5] ?_
 intro ok
 clear ok
 have hz:=hv.sz (by omega)
 have hbk:=bulkC hz
 have hvx:=invC_ens hv f.stream
 have hzx:=hvx.sz (by omega)
 have hXl:(ensC c f.stream).streams.length≤1000:=by have:=hzx.1;omega
 have hXz:=hzx.2.1
 have hC:hrC c f=if hrE c f=0 then saveC (hrX (ensC c f.stream) f) (hrS (ensC c f.stream) f) else c:=rfl
 have hE:hrE c f=if hdG c f 4 then (if canRecv c.server f.stream then (if ensE c f.stream=0 then (if flE (ensC c f.stream) (strI (ensC c f.stream) f.stream) f.final=0 then rrE (strI (ensC c f.stream) f.stream).recv f.code f.final else flE (ensC c f.stream) (strI (ensC c f.stream) f.stream) f.final) else ensE c f.stream) else 5) else 7:=rfl
 have hB:hrB (ensC c f.stream) f=(decide ((resetRcv (strI (ensC c f.stream) f.stream).recv f.code f.final).state=4) && decide ((strI (ensC c f.stream) f.stream).recv.state≠4)):=rfl
 have hS:hrS (ensC c f.stream) f=withRcv (if hrB (ensC c f.stream) f then rdS (flS (strI (ensC c f.stream) f.stream) f.final) f.final else flS (strI (ensC c f.stream) f.stream) f.final) (resetRcv (strI (ensC c f.stream) f.stream).recv f.code f.final):=rfl
 have hX:hrX (ensC c f.stream) f=if hrB (ensC c f.stream) f then rdC (flC (ensC c f.stream) (strI (ensC c f.stream) f.stream) f.final) (flS (strI (ensC c f.stream) f.stream) f.final) f.final else flC (ensC c f.stream) (strI (ensC c f.stream) f.stream) f.final:=rfl
 have hSz:SzS (hrS (ensC c f.stream) f):=(hrS_inv hvx).sz (by omega)
 have hXs:(hrX (ensC c f.stream) f).streams=(ensC c f.stream).streams:=(hrX_same _ f).1
 have hch:=(hvx.strI f.stream).ch
 have hG:=hd_guard c f 4
 obtain ⟨s1,s2,s3,s4⟩:=strOf_len hzx.2.1 f.stream
 have s3':=s3
 have s3:∀ ch ∈ (strOf (ensC c f.stream).streams f.stream).1.recv.buffer.chunks,ch.data.length≤1048576:=fun ch hc=>by have:=s3 ch hc;omega
 have hO:=spec_StreamOf (ensC c f.stream) f.stream hzx
 rw [show (strOf (ensC c f.stream).streams f.stream).1=strI (ensC c f.stream) f.stream from rfl] at s1 s2 s3 s3' s4 hO
 have hEn:=spec_EnsureStream c f.stream hz
 generalize strI (ensC c f.stream) f.stream=s at *
 generalize ensC c f.stream=x at *
 refine codeG_step Tryz.checked.mixed 6 (α:=Unit) (fun _=>⟨(.junk::.junk::.ptr 0 0 0::.ptr 1 0 0::.ptr 2 0 0::.junk::.ptr 3 0 0::.junk::.ptr 6 0 0::jn 85 []),[.box (TConn.ve c),.box (TFrame.ve f),.box TConn.zc,.box (TConn.vc x (.sl 4 0 x.streams.length) (.sl 5 0 x.packets.length)),.cln 39 (x.streams.map TStream.enc),.cln 2 (x.packets.map TPacket.enc),.box (TStream.vc s (.sl 7 0 s.send.ring.cells.length) (.sl 8 0 s.send.pending.length) (.sl 9 0 s.send.flight.length) (.sl 10 0 s.send.acked.length) (.sl 11 0 s.recv.buffer.chunks.length)),.cln 1 (s.send.ring.cells.map eI),.cln 2 (s.send.pending.map TRange.enc),.cln 2 (s.send.flight.map TRange.enc),.cln 2 (s.send.acked.map TRange.enc),.cln 2 (s.recv.buffer.chunks.map TChunk.enc)]⟩) (fun _=>hdG c f 4=true∧canRecv c.server f.stream=true∧ensE c f.stream=0) ?_ ?_
 ·skip
  try simp only [go_sem]
  repeat' (first|((first|refine CallS.cln (by first|assumption|(apply spec_IsConn<;>first|assumption|omega)) ?_|refine CallK.cln (by first|assumption|apply spec_IsFrame) ?_|refine gSymS ?_)<;>simp only [go_sem])|(with_reducible refine sideI ?_)|fail)
  rw [hG]
  cases hg:hdG c f 4 with
  |false=>
   rw [hg,if_neg (by simp)] at hE
   rw [hE,if_neg (by decide)] at hC
   try simp only [go_sem,Bool.not_false]
   repeat' (first|((first|refine CallS.cln (by first|assumption|(apply spec_l17Copy<;>first|assumption|omega)) ?_|refine CallK.cln (by assumption) ?_)<;>simp only [go_sem,lM])|(with_reducible refine sideI ?_)|fail)
   simp [hC,hE]
  |true=>
   rw [hg,if_pos rfl] at hE
   try simp only [go_sem,Bool.not_true]
   repeat' ((first|refine CallS.cln (by first|assumption|apply spec_CanReceiveOn) ?_|refine CallK.cln (by assumption) ?_|refine gSymS ?_)<;>simp only [go_sem])
   cases hcn:canRecv c.server f.stream with
   |false=>
    rw [hcn,if_neg (by simp)] at hE
    rw [hE,if_neg (by decide)] at hC
    try simp only [go_sem,Bool.not_false]
    repeat' (first|((first|refine CallS.cln (by first|assumption|(apply spec_l17Copy<;>first|assumption|omega)) ?_|refine CallK.cln (by assumption) ?_)<;>simp only [go_sem,lM])|(with_reducible refine sideI ?_)|fail)
    simp [hC,hE]
   |true=>
    rw [hcn,if_pos rfl] at hE
    try simp only [go_sem,Bool.not_true]
    repeat' ((first|refine CallS.cln (by assumption) ?_|refine CallK.cln (by assumption) ?_)<;>simp only [go_sem,lM])
    cases hen:decide (ensE c f.stream≠0) with
    |true=>
     have hen':=oT hen
     rw [if_neg hen'] at hE
     rw [hE,if_neg hen'] at hC
     try simp only [go_sem]
     repeat' (first|((first|refine CallS.cln (by first|assumption|(apply spec_l17Copy<;>first|assumption|omega)) ?_|refine CallK.cln (by assumption) ?_)<;>simp only [go_sem,lM])|(with_reducible refine sideI ?_)|fail)
     simp [hC,hE]
    |false=>
     have hen':ensE c f.stream=0:=Decidable.not_not.1 (oF hen)
     try simp only [go_sem,lM]
     repeat' ((first|refine CallS.cln (by assumption) ?_|refine CallK.cln (by assumption) ?_)<;>simp only [go_sem,lM])
     refine SeeTo.intro () [0,1,2,5,3,4,11,6,7,8,9,10] (by first|exact ⟨hg,hcn,hen'⟩|(simp only [true_and];exact hen')|simp [hen']) ?_
     simp only [go_sem]
     simp
 rintro _ ⟨hg,hcn,hen⟩
 rw [hg,if_pos rfl,hcn,if_pos rfl,hen,if_pos rfl] at hE
 generalize hR2:resetRcv s.recv f.code f.final=r at hS hB
 have hR:r=resetRcv s.recv f.code f.final:=hR2.symm
 refine codeG_step Tryz.checked.mixed 1 (α:=Unit) (fun _=>⟨(.junk::.junk::.ptr 0 0 0::.ptr 1 0 0::.ptr 2 0 0::.junk::.ptr 3 0 0::.junk::.ptr 6 0 0::.junk::.ptr 12 0 0::.d (.int .i64 (rrE s.recv f.code f.final))::jn 82 []),[.box (TConn.ve c),.box (TFrame.ve f),.box TConn.zc,.box (TConn.vc x (.sl 4 0 x.streams.length) (.sl 5 0 x.packets.length)),.cln 39 (x.streams.map TStream.enc),.cln 2 (x.packets.map TPacket.enc),.box (TStream.vc s (.sl 7 0 s.send.ring.cells.length) (.sl 8 0 s.send.pending.length) (.sl 9 0 s.send.flight.length) (.sl 10 0 s.send.acked.length) (.sl 11 0 s.recv.buffer.chunks.length)),.cln 1 (s.send.ring.cells.map eI),.cln 2 (s.send.pending.map TRange.enc),.cln 2 (s.send.flight.map TRange.enc),.cln 2 (s.send.acked.map TRange.enc),.cln 2 (s.recv.buffer.chunks.map TChunk.enc),.box (TReceiver.vc r (.sl 13 0 r.buffer.chunks.length)),.cln 2 (r.buffer.chunks.map TChunk.enc)]⟩) (fun _=>True) ?_ ?_
 ·skip
  try simp only [go_sem,lM]
  repeat' ((first|refine CallS.cln (by first|assumption|(apply spec_ReceiveReset<;>first|assumption|omega)) ?_|refine CallK.cln (by assumption) ?_)<;>simp only [go_sem,lM])
  refine SeeTo.intro () [0,1,2,3,4,5,6,7,8,9,10,11,13,12] trivial ?_
  simp only [go_sem]
  simp [← hR]
 rintro _ _
 refine codeG_step Tryz.checked.mixed 1 (α:=TConn×TStream) (fun y=>⟨(.junk::.junk::.ptr 0 0 0::.ptr 1 0 0::.ptr 2 0 0::.junk::.ptr 3 0 0::.d (.int .i64 (flE x s (f.final)))::.ptr 6 0 0::.junk::.ptr 12 0 0::.d (.int .i64 (rrE s.recv f.code f.final))::jn 82 []),[.box (TConn.ve c),.box (TFrame.ve f),.box TConn.zc,.box (TConn.vc y.1 (.sl 4 0 y.1.streams.length) (.sl 5 0 y.1.packets.length)),.cln 39 (y.1.streams.map TStream.enc),.cln 2 (y.1.packets.map TPacket.enc),.box (TStream.vc y.2 (.sl 7 0 y.2.send.ring.cells.length) (.sl 8 0 y.2.send.pending.length) (.sl 9 0 y.2.send.flight.length) (.sl 10 0 y.2.send.acked.length) (.sl 11 0 y.2.recv.buffer.chunks.length)),.cln 1 (y.2.send.ring.cells.map eI),.cln 2 (y.2.send.pending.map TRange.enc),.cln 2 (y.2.send.flight.map TRange.enc),.cln 2 (y.2.send.acked.map TRange.enc),.cln 2 (y.2.recv.buffer.chunks.map TChunk.enc),.box (TReceiver.vc r (.sl 13 0 r.buffer.chunks.length)),.cln 2 (r.buffer.chunks.map TChunk.enc)]⟩) (fun y=>flE x s (f.final)=0→y.1=flC x s (f.final)∧y.2=flS s (f.final)) ?_ ?_
 ·simp only [go_sem]
  refine CallS.inlK [2,3,4,6,8,10,11] (by simp only [keepT,List.elem_cons,List.elem_nil,Nat.reduceBEq,Nat.reduceAdd,cond_true,cond_false];rfl) (inl_ev (n:=52) (rs:=[.tmp 6]) Tryz.func207 rfl Tryz.call207 Tryz.checked.mixed rfl rfl ?_)
  simp only [go_sem,lM]
  try simp only [go_sem,lM]
  repeat' ((first|refine CallS.intro (by first|assumption|(apply spec_NewBytes<;>first|assumption|omega)) ?_|refine CallK.intro (by assumption) ?_)<;>simp only [go_sem])
  cases hn:decide (newBytes s.recv (f.final)=0) with
  |true=>
   have hn':flN s (f.final)=0:=oT hn
   have e1:flE x s (f.final)=0:=by unfold flE;rw [if_pos hn']
   have e2:flC x s (f.final)=x:=by unfold flC;rw [if_pos hn']
   have e3:flS s (f.final)=s:=by unfold flS;rw [if_pos hn']
   try simp only [go_sem]
   refine SeeTo.intro (x,s) [0,1,2,3,4,5,6,7,8,9,10,11,12,13] (fun _=>⟨e2.symm,e3.symm⟩) ?_
   simp only [go_sem,e1]
   simp
  |false=>
   have hn':¬ flN s (f.final)=0:=oF hn
   have e1:flE x s (f.final)=if seeOk s.window (newBytes s.recv (f.final)) && seeOk x.inflow (newBytes s.recv (f.final)) then 0 else 3:=by unfold flE;rw [if_neg hn'];rfl
   have e2:flC x s (f.final)={ x with inflow:=seeW x.inflow (newBytes s.recv (f.final)) }:=by unfold flC;rw [if_neg hn'];rfl
   have e3:flS s (f.final)={ s with window:=seeW s.window (newBytes s.recv (f.final)) }:=by unfold flS;rw [if_neg hn'];rfl
   try simp only [go_sem]
   repeat' ((first|refine CallS.intro (by first|assumption|apply spec_SeeBytes) ?_|refine CallK.intro (by assumption) ?_|refine gSymS ?_)<;>simp only [go_sem])
   have hgg:(bif !seeOk s.window (newBytes s.recv (f.final)) then true else !seeOk x.inflow (newBytes s.recv (f.final)))=!(seeOk s.window (newBytes s.recv (f.final)) && seeOk x.inflow (newBytes s.recv (f.final))):=by
    cases seeOk s.window (newBytes s.recv (f.final))<;>cases seeOk x.inflow (newBytes s.recv (f.final))<;>rfl
   rw [hgg]
   cases hk:seeOk s.window (newBytes s.recv (f.final)) && seeOk x.inflow (newBytes s.recv (f.final)) with
   |false=>
    rw [hk,if_neg (by simp)] at e1
    try simp only [go_sem,Bool.not_false]
    refine SeeTo.intro (x,s) [0,1,2,3,4,5,6,7,8,9,10,11,12,13] (fun h=>by rw [e1] at h;cases h) ?_
    simp only [go_sem,e1]
    simp
   |true=>
    rw [hk,if_pos rfl] at e1
    try simp only [go_sem,Bool.not_true]
    refine SeeTo.intro ({ x with inflow:=seeW x.inflow (newBytes s.recv (f.final)) },{ s with window:=seeW s.window (newBytes s.recv (f.final)) }) [0,1,2,3,4,5,6,7,8,9,10,11,12,13] (fun _=>⟨e2.symm,e3.symm⟩) ?_
    simp only [go_sem,e1]
    simp
 rintro ⟨x2,u⟩ hxu
 simp only at hxu
 refine codeG_step Tryz.checked.mixed 2 (α:=Unit) (fun _=>⟨(.junk::.junk::.ptr 0 0 0::.ptr 1 0 0::.ptr 2 0 0::.junk::.ptr 3 0 0::.junk::.ptr 6 0 0::.junk::.ptr 12 0 0::jn 83 []),[.box (TConn.ve c),.box (TFrame.ve f),.box TConn.zc,.box (TConn.vc x2 (.sl 4 0 x2.streams.length) (.sl 5 0 x2.packets.length)),.cln 39 (x2.streams.map TStream.enc),.cln 2 (x2.packets.map TPacket.enc),.box (TStream.vc u (.sl 7 0 u.send.ring.cells.length) (.sl 8 0 u.send.pending.length) (.sl 9 0 u.send.flight.length) (.sl 10 0 u.send.acked.length) (.sl 11 0 u.recv.buffer.chunks.length)),.cln 1 (u.send.ring.cells.map eI),.cln 2 (u.send.pending.map TRange.enc),.cln 2 (u.send.flight.map TRange.enc),.cln 2 (u.send.acked.map TRange.enc),.cln 2 (u.recv.buffer.chunks.map TChunk.enc),.box (TReceiver.vc r (.sl 13 0 r.buffer.chunks.length)),.cln 2 (r.buffer.chunks.map TChunk.enc)]⟩) (fun _=>flE x s (f.final)=0∧rrE s.recv f.code f.final=0) ?_ ?_
 ·simp only [go_sem]
  cases hf0:decide (flE x s (f.final)≠0) with
  |true=>
   have hf0':=oT hf0
   rw [if_neg hf0'] at hE
   rw [hE,if_neg hf0'] at hC
   try simp only [go_sem]
   repeat' (first|((first|refine CallS.cln (by first|assumption|(apply spec_l17Copy<;>first|assumption|omega)) ?_|refine CallK.cln (by assumption) ?_|refine gSymS ?_)<;>simp only [go_sem,lM])|(with_reducible refine sideI ?_)|fail)
   simp [hC,hE]
  |false=>
   have hf0':=Decidable.not_not.1 (oF hf0)
   rw [hf0',if_pos rfl] at hE
   simp only [go_sem]
   cases hr0:decide (rrE s.recv f.code f.final≠0) with
   |true=>
    have hr0':=oT hr0
    rw [hE,if_neg hr0'] at hC
    try simp only [go_sem]
    repeat' (first|((first|refine CallS.cln (by first|assumption|(apply spec_l17Copy<;>first|assumption|omega)) ?_|refine CallK.cln (by assumption) ?_)<;>simp only [go_sem,lM])|(with_reducible refine sideI ?_)|fail)
    simp [hC,hE]
   |false=>
    have hr0':=Decidable.not_not.1 (oF hr0)
    simp only [go_sem]
    refine SeeTo.intro () [0,1,2,3,4,5,6,7,8,9,10,11,12,13] (by first|exact ⟨hf0',hr0'⟩|simp [hf0',hr0']) ?_
    simp only [go_sem]
    simp
 rintro _ ⟨hf0,hr0⟩
 obtain ⟨hx2,hu⟩:=hxu hf0
 rw [hf0,if_pos rfl,hr0] at hE
 rw [hE,if_pos rfl] at hC
 have hur:u.recv.state=s.recv.state:=by rw [hu,(flS_same s f.final).2.1]
 rw [← hur] at hB
 rw [← hu] at hS hX
 rw [← hx2] at hX
 have hBg:(bif decide (r.state=4) then decide (u.recv.state≠4) else false)=hrB x f:=by rw [hB];cases decide (r.state=4)<;>rfl
 generalize hrB x f=B at *
 refine codeG_step Tryz.checked.mixed 1 (α:=TConn×TStream) (fun y=>⟨(.junk::.junk::.ptr 0 0 0::.ptr 1 0 0::.ptr 2 0 0::.junk::.ptr 3 0 0::.junk::.ptr 6 0 0::.junk::.ptr 12 0 0::jn 83 []),[.box (TConn.ve c),.box (TFrame.ve f),.box TConn.zc,.box (TConn.vc y.1 (.sl 4 0 y.1.streams.length) (.sl 5 0 y.1.packets.length)),.cln 39 (y.1.streams.map TStream.enc),.cln 2 (y.1.packets.map TPacket.enc),.box (TStream.vc y.2 (.sl 7 0 y.2.send.ring.cells.length) (.sl 8 0 y.2.send.pending.length) (.sl 9 0 y.2.send.flight.length) (.sl 10 0 y.2.send.acked.length) (.sl 11 0 y.2.recv.buffer.chunks.length)),.cln 1 (y.2.send.ring.cells.map eI),.cln 2 (y.2.send.pending.map TRange.enc),.cln 2 (y.2.send.flight.map TRange.enc),.cln 2 (y.2.send.acked.map TRange.enc),.cln 2 (y.2.recv.buffer.chunks.map TChunk.enc),.box (TReceiver.vc r (.sl 13 0 r.buffer.chunks.length)),.cln 2 (r.buffer.chunks.map TChunk.enc)]⟩) (fun y=>y.1=hrX x f∧withRcv y.2 r=hrS x f) ?_ ?_
 ·skip
  try simp only [go_sem]
  repeat' (refine gSymS ?_<;>simp only [go_sem])
  rw [hBg]
  cases B with
  |false=>
   rw [if_neg (by simp)] at hS hX
   simp only [go_sem]
   refine SeeTo.intro (x2,u) [0,1,2,3,4,5,6,7,8,9,10,11,12,13] ⟨hX.symm,hS.symm⟩ ?_
   simp only [go_sem]
   simp
  |true=>
   rw [if_pos rfl] at hS hX
   simp only [go_sem]
   refine CallS.inlK [2,3,4,6,8,10] (by simp only [keepT,List.elem_cons,List.elem_nil,Nat.reduceBEq,Nat.reduceAdd,cond_true,cond_false];rfl) (inl_ev (n:=45) (rs:=[]) Tryz.func160 rfl Tryz.call160 Tryz.checked.mixed rfl rfl ?_)
   simp only [go_sem]
   try simp only [go_sem,lM]
   repeat' (first|((first|refine CallS.intro (by first|assumption|apply spec_ReadBytes) ?_|refine CallK.intro (by assumption) ?_)<;>simp only [go_sem])|(with_reducible refine sideI ?_)|fail)
   refine SeeTo.intro (rdC x2 u f.final,rdS u f.final) [0,1,2,3,4,5,6,7,8,9,10,11,12,13] ⟨hX.symm,hS.symm⟩ ?_
   simp only [go_sem,rdC,rdS,rdN,maxI]
   simp
 rintro ⟨y,v⟩ ⟨hy,hv2⟩
 simp only at hy hv2
 have hYs:y.streams=x.streams:=by rw [hy];exact hXs
 have hYl:y.streams.length≤1000:=by rw [hYs];exact hXl
 have hYz:∀ q ∈ y.streams,SzS q:=by rw [hYs];exact hXz
 rw [← hy,← hv2] at hC
 rw [← hv2] at hSz
 obtain ⟨t,ht⟩:∃ t,t=withRcv v r:=⟨_,rfl⟩
 rw [← ht] at hC hSz
 refine codeG_step Tryz.checked.mixed 1 (α:=Unit) (fun _=>⟨(jn 4 (.ptr 2 0 0::.junk::.ptr 3 0 0::.junk::.ptr 6 0 0::jn 85 [])),[.box (TConn.ve c),.box (TFrame.ve f),.box TConn.zc,.box (TConn.vc y (.sl 4 0 y.streams.length) (.sl 5 0 y.packets.length)),.cln 39 (y.streams.map TStream.enc),.cln 2 (y.packets.map TPacket.enc),.box (TStream.vc t (.sl 7 0 t.send.ring.cells.length) (.sl 8 0 t.send.pending.length) (.sl 9 0 t.send.flight.length) (.sl 10 0 t.send.acked.length) (.sl 11 0 t.recv.buffer.chunks.length)),.cln 1 (t.send.ring.cells.map eI),.cln 2 (t.send.pending.map TRange.enc),.cln 2 (t.send.flight.map TRange.enc),.cln 2 (t.send.acked.map TRange.enc),.cln 2 (t.recv.buffer.chunks.map TChunk.enc)]⟩) (fun _=>True) ?_ ?_
 ·simp only [go_sem]
  refine SeeTo.intro () [0,1,2,3,4,5,6,7,8,9,10,13] trivial ?_
  simp only [go_sem,ht,withRcv]
  simp
 rintro _ _
 refine codeG_step Tryz.checked.mixed 1 (α:=Unit) (fun _=>⟨(jn 4 (.ptr 2 0 0::.junk::.ptr 3 0 0::jn 87 [])),[.box (TConn.ve c),.box (TFrame.ve f),.box TConn.zc,.box (TConn.vc ((saveC y t)) (.sl 4 0 ((saveC y t)).streams.length) (.sl 5 0 ((saveC y t)).packets.length)),.cln 39 (((saveC y t)).streams.map TStream.enc),.cln 2 (((saveC y t)).packets.map TPacket.enc)]⟩) (fun _=>True) ?_ ?_
 ·simp only [go_sem,lM]
  refine CallS.inlK [4,6] (by simp only [keepT,List.elem_cons,List.elem_nil,Nat.reduceBEq,Nat.reduceAdd,cond_true,cond_false];rfl) (l18Save_inl y t (.cln 2 (y.packets.map TPacket.enc)) (fun _=>trivial) hYl hYz hSz [.box (TConn.ve c),.box (TFrame.ve f),.box TConn.zc] _ (by simp [roks,rok,voks,vok]) (by simp [voks,vok]) _ ?_)
  simp only [xH,xS,xBox,go_sem]
  have hpk:(saveC y t).packets=y.packets:=(overC_same y t).2
  refine SeeTo.intro () [0,1,2,3,4,5] trivial ?_
  simp only [go_sem]
  simp [hpk]
 rintro _ _
 refine codeG_of Tryz.checked.mixed ?_
 try simp only [go_sem,lM]
 repeat' (first|(refine gSymS ?_<;>simp only [go_sem,lM])|(with_reducible refine sideI ?_)|fail)
 simp [hC,hE]
set_option maxRecDepth 100000
set_option maxHeartbeats 8000000 in
theorem spec_l18Limit (c:TConn) (f:TFrame) (m:Nat) (hv:InvC m c) (hm:m≤19):PureCall Tryz.prog 211 [.agg (TConn.enc c),.agg (TFrame.enc f)] [.agg (TConn.enc ((llC c f))),.one (.int .i64 (llE c f))]:=by
 refine pureT 62 Tryz.func211 Tryz.call211 [.cell 4 37,.tmp 5] ?_
 intro ok
 clear ok
 have hz:=hv.sz (by omega)
 have hbk:=bulkC hz
 have hvx:=invC_ens hv f.stream
 have hzx:=hvx.sz (by omega)
 have hEn:=spec_EnsureStream c f.stream hz
 have hO:=spec_StreamOf (ensC c f.stream) f.stream hzx
 rw [show (strOf (ensC c f.stream).streams f.stream).1=strI (ensC c f.stream) f.stream from rfl] at hO
 have hss:SzS (strI (ensC c f.stream) f.stream):=strOf_len hzx.2.1 f.stream
 have hsz:SzS (llS (ensC c f.stream) f):=hss
 have hP:=spec_PutStream (ensC c f.stream).streams (llS (ensC c f.stream) f) (by have:=hzx.1;omega) hzx.2.1 hsz
 have hC:llC c f=if llE c f=0 then (if f.kind=17 then putK (ensC c f.stream) (llS (ensC c f.stream) f) else ensC c f.stream) else c:=rfl
 have hE:llE c f=if llOk c f then ensE c f.stream else 5:=rfl
 have hS:llS (ensC c f.stream) f={ strI (ensC c f.stream) f.stream with credit:=raiseCr (strI (ensC c f.stream) f.stream).credit f.limit }:=rfl
 rw [hS] at hP hC
 generalize strI (ensC c f.stream) f.stream=s at *
 generalize ensC c f.stream=x at *
 obtain ⟨s1,s2,s3,s4⟩:=hss
 try simp only [go_sem]
 repeat' ((first|refine CallS.cln (by first|assumption|apply spec_CanSendOn) ?_|refine CallK.cln (by assumption) ?_)<;>simp only [go_sem])
 cases h21:decide (f.kind=21) with
 |true=>
  have h21':=oT h21
  have hk:llOk c f=canRecv c.server f.stream:=by unfold llOk;exact if_pos h21'
  rw [hk] at hE
  rw [if_neg (show ¬ f.kind=17 by omega)] at hC
  have h17:decide (f.kind=17)=false:=dF (by omega)
  try simp only [go_sem]
  repeat' ((first|refine CallS.cln (by first|assumption|apply spec_CanReceiveOn) ?_|refine CallK.cln (by assumption) ?_)<;>simp only [go_sem])
  cases hcn:canRecv c.server f.stream with
  |false=>
   rw [hcn,if_neg (by simp)] at hE
   rw [hE,if_neg (by decide)] at hC
   try simp only [go_sem,Bool.not_false]
   repeat' (first|((first|refine CallS.cln (by first|assumption|(apply spec_l17Copy<;>first|assumption|omega)) ?_|refine CallK.cln (by assumption) ?_)<;>simp only [go_sem,lM])|(with_reducible refine sideI ?_)|fail)
   simp [hC,hE]
  |true=>
   rw [hcn,if_pos rfl] at hE
   try simp only [go_sem,Bool.not_true]
   repeat' ((first|refine CallS.cln (by assumption) ?_|refine CallK.cln (by assumption) ?_)<;>simp only [go_sem,lM])
   cases hen:decide (ensE c f.stream≠0) with
   |true=>
    have hen':=oT hen
    rw [hE,if_neg hen'] at hC
    try simp only [go_sem]
    repeat' (first|((first|refine CallS.cln (by first|assumption|(apply spec_l17Copy<;>first|assumption|omega)) ?_|refine CallK.cln (by assumption) ?_)<;>simp only [go_sem,lM])|(with_reducible refine sideI ?_)|fail)
    simp [hC,hE]
   |false=>
    have hen':ensE c f.stream=0:=Decidable.not_not.1 (oF hen)
    rw [hen'] at hE
    rw [hE,if_pos rfl] at hC
    try simp only [go_sem,lM,h17]
    repeat' (first|(with_reducible refine sideI ?_)|fail)
    simp [hC,hE]
 |false=>
  have h21':=oF h21
  have hk:llOk c f=canSend c.server f.stream:=by unfold llOk;exact if_neg h21'
  rw [hk] at hE
  simp only [go_sem]
  try simp only [go_sem,lM]
  repeat' ((first|refine CallS.cln (by assumption) ?_|refine CallK.cln (by assumption) ?_)<;>simp only [go_sem,lM])
  cases hcn:canSend c.server f.stream with
  |false=>
   rw [hcn,if_neg (by simp)] at hE
   rw [hE,if_neg (by decide)] at hC
   try simp only [go_sem,Bool.not_false]
   repeat' (first|((first|refine CallS.cln (by first|assumption|(apply spec_l17Copy<;>first|assumption|omega)) ?_|refine CallK.cln (by assumption) ?_)<;>simp only [go_sem,lM])|(with_reducible refine sideI ?_)|fail)
   simp [hC,hE]
  |true=>
   rw [hcn,if_pos rfl] at hE
   try simp only [go_sem,Bool.not_true]
   repeat' ((first|refine CallS.cln (by assumption) ?_|refine CallK.cln (by assumption) ?_)<;>simp only [go_sem,lM])
   cases hen:decide (ensE c f.stream≠0) with
   |true=>
    have hen':=oT hen
    rw [hE,if_neg hen'] at hC
    try simp only [go_sem]
    repeat' (first|((first|refine CallS.cln (by first|assumption|(apply spec_l17Copy<;>first|assumption|omega)) ?_|refine CallK.cln (by assumption) ?_)<;>simp only [go_sem,lM])|(with_reducible refine sideI ?_)|fail)
    simp [hC,hE]
   |false=>
    have hen':ensE c f.stream=0:=Decidable.not_not.1 (oF hen)
    rw [hen'] at hE
    rw [hE,if_pos rfl] at hC
    simp only [go_sem]
    cases h17:decide (f.kind=17) with
    |true=>
     rw [if_pos (oT h17)] at hC
     try simp only [go_sem,lM]
     repeat' (first|((first|refine CallS.cln (by first|assumption|apply spec_RaiseLimit) ?_|refine CallK.cln (by assumption) ?_)<;>simp only [go_sem,lM])|(with_reducible refine sideI ?_)|fail)
     simp [hC,hE,putK]
    |false=>
     rw [if_neg (oF h17)] at hC
     try simp only [go_sem,lM]
     repeat' (first|(with_reducible refine sideI ?_)|fail)
     simp [hC,hE]
theorem hl_guard (c:TConn) (f:TFrame):(bif !isConnS c then true else !isFrame f)=!hlG c f:=by
 unfold hlG
 cases isConnS c<;>cases isFrame f<;>rfl
set_option maxHeartbeats 8000000 in
theorem spec_HandleLimit (c:TConn) (f:TFrame) (m:Nat) (hv:InvC m c) (hm:m≤19):PureCall Tryz.prog 172 [.agg (TConn.enc c),.agg (TFrame.enc f)] [.agg (TConn.enc ((hlC c f))),.one (.int .i64 (hlE c f))]:=by
 refine pureT 64 Tryz.func172 Tryz.call172 [.cell 4 37,.tmp 5] ?_
 intro ok
 clear ok
 have hz:=hv.sz (by omega)
 have hbk:=bulkC hz
 have hL:=spec_l18Limit c f m hv hm
 have hG:=hl_guard c f
 try simp only [go_sem]
 repeat' ((first|refine CallS.cln (by first|assumption|(apply spec_l17Copy<;>first|assumption|omega)|(apply spec_IsConn<;>first|assumption|omega)) ?_|refine CallK.cln (by first|assumption|apply spec_IsFrame) ?_|refine gSymS ?_)<;>simp only [go_sem,lM])
 rw [hG]
 cases hg:hlG c f with
 |false=>
  try simp only [go_sem,lM,Bool.not_false]
  repeat' (first|(with_reducible refine sideI ?_)|fail)
  simp [hlC,hlE,hg]
 |true=>
  simp only [go_sem,Bool.not_true]
  cases h16:decide (f.kind=16) with
  |true=>
   have h':=oT h16
   try simp only [go_sem]
   repeat' (first|((first|refine CallS.cln (by first|assumption|apply spec_RaiseLimit) ?_|refine CallK.cln (by assumption) ?_)<;>simp only [go_sem,lM])|(with_reducible refine sideI ?_)|fail)
   simp [hlC,hlE,hg,h']
  |false=>
   have n16:=oF h16
   simp only [go_sem]
   cases h18:decide (f.kind=18) with
   |true=>
    have h':=oT h18
    simp only [go_sem]
    cases hu:f.uni with
    |true=>
     try simp only [go_sem]
     repeat' (first|((first|refine CallS.cln (by first|assumption|apply spec_RaiseCount) ?_|refine CallK.cln (by assumption) ?_)<;>simp only [go_sem,lM])|(with_reducible refine sideI ?_)|fail)
     simp [hlC,hlE,hg,h',hu]
    |false=>
     try simp only [go_sem]
     repeat' (first|((first|refine CallS.cln (by first|assumption|apply spec_RaiseCount) ?_|refine CallK.cln (by assumption) ?_)<;>simp only [go_sem,lM])|(with_reducible refine sideI ?_)|fail)
     simp [hlC,hlE,hg,h',hu]
   |false=>
    have n18:=oF h18
    simp only [go_sem]
    cases h20:decide (f.kind=20) with
    |true=>
     have h':=oT h20
     try simp only [go_sem,lM]
     repeat' (first|(with_reducible refine sideI ?_)|fail)
     simp [hlC,hlE,hg,h']
    |false=>
     have n20:=oF h20
     simp only [go_sem]
     cases h22:decide (f.kind=22) with
     |true=>
      have h':=oT h22
      try simp only [go_sem,lM]
      repeat' (first|(with_reducible refine sideI ?_)|fail)
      simp [hlC,hlE,hg,h']
     |false=>
      have n22:=oF h22
      simp only [go_sem]
      cases h17:decide (f.kind=17) with
      |true=>
       have h':=oT h17
       try simp only [go_sem]
       repeat' (first|((first|refine CallS.cln (by assumption) ?_|refine CallK.cln (by assumption) ?_)<;>simp only [go_sem,lM])|(with_reducible refine sideI ?_)|fail)
       simp [hlC,hlE,hg,h']
      |false=>
       have n17:=oF h17
       simp only [go_sem]
       cases h21:decide (f.kind=21) with
       |true=>
        have h':=oT h21
        try simp only [go_sem]
        repeat' (first|((first|refine CallS.cln (by assumption) ?_|refine CallK.cln (by assumption) ?_)<;>simp only [go_sem,lM])|(with_reducible refine sideI ?_)|fail)
        simp [hlC,hlE,hg,h']
       |false=>
        have n21:=oF h21
        try simp only [go_sem,lM]
        repeat' (first|(with_reducible refine sideI ?_)|fail)
        simp [hlC,hlE,hg,n16,n17,n18,n20,n21,n22]
set_option maxHeartbeats 8000000 in
theorem spec_HandleFrame (c:TConn) (f:TFrame) (m:Nat) (hv:InvC m c) (hm:m≤19) (hd:f.data.length≤8) (ho:0≤f.offset∧f.offset≤900):PureCall Tryz.prog 139 [.agg (TConn.enc c),.agg (TFrame.enc f)] [.agg (TConn.enc ((hfC c f))),.one (.int .i64 (hfE c f))]:=by
 refine pureT 44 Tryz.func139 Tryz.call139 [.cell 4 37,.tmp 5] ?_
 intro ok
 clear ok
 have hz:=hv.sz (by omega)
 have hbk:=bulkC hz
 have a1:=spec_HandleData c f m hv hm hd ho
 have a2:=spec_HandleReset c f m hv hm
 have a3:=spec_HandleStop c f m hv hm
 have a4:=spec_HandleLimit c f m hv hm
 try simp only [go_sem]
 repeat' ((first|refine CallS.cln (by first|assumption|(apply spec_l17Copy<;>first|assumption|omega)) ?_|refine CallK.cln (by assumption) ?_)<;>simp only [go_sem,lM])
 cases h8:decide (f.kind=8) with
 |true=>
  have h':=oT h8
  try simp only [go_sem]
  repeat' (first|((first|refine CallS.cln (by assumption) ?_|refine CallK.cln (by assumption) ?_)<;>simp only [go_sem,lM])|(with_reducible refine sideI ?_)|fail)
  simp [hfC,hfE,h']
 |false=>
  have n8:=oF h8
  simp only [go_sem]
  cases h4:decide (f.kind=4) with
  |true=>
   have h':=oT h4
   try simp only [go_sem]
   repeat' (first|((first|refine CallS.cln (by assumption) ?_|refine CallK.cln (by assumption) ?_)<;>simp only [go_sem,lM])|(with_reducible refine sideI ?_)|fail)
   simp [hfC,hfE,h']
  |false=>
   have n4:=oF h4
   simp only [go_sem]
   cases h5:decide (f.kind=5) with
   |true=>
    have h':=oT h5
    try simp only [go_sem]
    repeat' (first|((first|refine CallS.cln (by assumption) ?_|refine CallK.cln (by assumption) ?_)<;>simp only [go_sem,lM])|(with_reducible refine sideI ?_)|fail)
    simp [hfC,hfE,h']
   |false=>
    have n5:=oF h5
    try simp only [go_sem]
    repeat' (first|((first|refine CallS.cln (by assumption) ?_|refine CallK.cln (by assumption) ?_)<;>simp only [go_sem,lM])|(with_reducible refine sideI ?_)|fail)
    simp [hfC,hfE,n8,n4,n5]
set_option maxRecDepth 100000
def mxHRead0:List (List Rl):=mxD 13 [1564799,1574638,1574632,1574614,1574560,1515349,1514863,1513405,1509031,1348285,1564677,1436859,1062882]
attribute [go_sem] mxHRead0
theorem rs_guard (c:TConn) (id:Int):(bif bif !fineC c then true else !(strOf c.streams id).2 then true else !(strI c id).canRecv)=!rsG c id:=by
 unfold rsG
 cases fineC c<;>cases (strOf c.streams id).2<;>cases (strI c id).canRecv<;>rfl
set_option maxHeartbeats 8000000 in
theorem spec_ReadStream (c:TConn) (id k:Int) (m:Nat) (hv:InvC m c) (hm:m≤20):PureCall Tryz.prog 133 [.agg (TConn.enc c),.one (.int .i64 id),.one (.int .i64 k)] [.one (.str (rsT c id k)),.one (.bool (rsE c id k)),.agg (TConn.enc ((rsC c id k)))]:=by
 refine pureTG 63 Tryz.func133 Tryz.call133 [.tmp 6,.tmp 7,.cell 8 37] ?_
 intro ok
 clear ok
 have hz:=hv.sz hm
 have hbk:=bulkC hz
 have hXl:c.streams.length≤1000:=by have:=hz.1;omega
 have hXz:=hz.2.1
 have hC:rsC c id k=if rsG c id then saveC (rsX c id k) (rsS c id k) else c:=rfl
 have hT:rsT c id k=if rsG c id then readRcvS (strI c id).recv k else []:=rfl
 have hE:rsE c id k=(rsG c id && (decide ((rsR c id k).state=3) || decide ((rsR c id k).state=5))):=rfl
 have hS:rsS c id k=if decide ((rsR c id k).state < 4) then rdS (withRcv (strI c id) (rsR c id k)) (rsR c id k).buffer.next else withRcv (strI c id) (rsR c id k):=rfl
 have hX:rsX c id k=if decide ((rsR c id k).state < 4) then rdC c (withRcv (strI c id) (rsR c id k)) (rsR c id k).buffer.next else c:=rfl
 have hG:=rs_guard c id
 have hSz:SzS (rsS c id k):=(rsS_inv hv id k).sz hm
 have hXs:(rsX c id k).streams=c.streams:=(rsX_same c id k).1
 obtain ⟨s1,s2,s3,s4⟩:=strOf_len hz.2.1 id
 have s3:∀ ch ∈ (strOf c.streams id).1.recv.buffer.chunks,ch.data.length≤1048576:=fun ch hc=>by have:=s3 ch hc;omega
 have hO:=spec_StreamOf c id hz
 have hR:rsR c id k=readRcv (strI c id).recv k:=rfl
 rw [show (strOf c.streams id).1=strI c id from rfl] at s1 s2 s3 s4 hO
 generalize rsR c id k=r at *
 generalize strI c id=s at *
 refine codeG_step Tryz.checked.mixed 6 (α:=Unit) (fun _=>⟨(jn 6 (.d (.str [])::.d (.bool false)::.ptr 1 0 0::.ptr 3 0 0::.ptr 6 0 0::.junk::.d (.str (readRcvS s.recv k))::.ptr 2 0 0::jn 49 [])),[.box (TConn.ve c),.box TConn.zc,.box (TReceiver.vc r (.junk)),.box (TConn.vc c (.sl 4 0 c.streams.length) (.sl 5 0 c.packets.length)),.cln 39 (c.streams.map TStream.enc),.cln 2 (c.packets.map TPacket.enc),.box (TStream.vc (withRcv s r) (.sl 7 0 (withRcv s r).send.ring.cells.length) (.sl 8 0 (withRcv s r).send.pending.length) (.sl 9 0 (withRcv s r).send.flight.length) (.sl 10 0 (withRcv s r).send.acked.length) (.sl 11 0 (withRcv s r).recv.buffer.chunks.length)),.cln 1 ((withRcv s r).send.ring.cells.map eI),.cln 2 ((withRcv s r).send.pending.map TRange.enc),.cln 2 ((withRcv s r).send.flight.map TRange.enc),.cln 2 ((withRcv s r).send.acked.map TRange.enc),.cln 2 ((withRcv s r).recv.buffer.chunks.map TChunk.enc)]⟩) (fun _=>rsG c id=true) ?_ ?_
 ·skip
  try simp only [go_sem]
  repeat' (first|((first|refine CallS.cln (by first|assumption|(apply spec_l17Copy<;>first|assumption|omega)|(apply spec_l19Fine<;>first|assumption|omega)) ?_|refine CallK.cln (by assumption) ?_|refine gSymS ?_|refine gSym ?_)<;>simp only [go_sem,lM])|(with_reducible refine sideI ?_)|fail)
  rw [hG]
  cases hg:rsG c id with
  |false=>
   rw [hg] at hC hT hE
   try simp only [go_sem,Bool.not_false]
   repeat' (first|(refine drawE_intro [[.post,.un,.un,.post],[.un,.post,.post,.post],[.un,.pre,.post,.post],[.pre,.pre,.pre,.post]] (by kernel_rfl) (by rfl) ?_<;>simp only [go_sem,lM])|(with_reducible refine sideI ?_)|fail)
   simp [hC,hT,hE]
  |true=>
   try simp only [go_sem,lM,Bool.not_true]
   repeat' ((first|refine CallS.cln (by first|assumption|(apply spec_ReadReceiver<;>first|assumption|omega)) ?_|refine CallK.cln (by assumption) ?_)<;>simp only [go_sem,lM])
   refine SeeTo.intro () [0,1,12,4,2,3,10,5,6,7,8,11] (by first|exact hg|trivial) ?_
   simp only [go_sem,withRcv]
   simp [← hR]
 rintro _ hg
 rw [hg,if_pos rfl] at hC hT
 rw [hg,Bool.true_and] at hE
 refine codeG_step Tryz.checked.mixed 1 (α:=TConn×TStream) (fun y=>⟨(jn 6 (.d (.str [])::.d (.bool false)::.ptr 1 0 0::.ptr 3 0 0::.ptr 6 0 0::.junk::.d (.str (readRcvS s.recv k))::.ptr 2 0 0::jn 49 [])),[.box (TConn.ve c),.box TConn.zc,.box (TReceiver.vc r (.junk)),.box (TConn.vc y.1 (.sl 4 0 y.1.streams.length) (.sl 5 0 y.1.packets.length)),.cln 39 (y.1.streams.map TStream.enc),.cln 2 (y.1.packets.map TPacket.enc),.box (TStream.vc y.2 (.sl 7 0 y.2.send.ring.cells.length) (.sl 8 0 y.2.send.pending.length) (.sl 9 0 y.2.send.flight.length) (.sl 10 0 y.2.send.acked.length) (.sl 11 0 y.2.recv.buffer.chunks.length)),.cln 1 (y.2.send.ring.cells.map eI),.cln 2 (y.2.send.pending.map TRange.enc),.cln 2 (y.2.send.flight.map TRange.enc),.cln 2 (y.2.send.acked.map TRange.enc),.cln 2 (y.2.recv.buffer.chunks.map TChunk.enc)]⟩) (fun y=>y.1=rsX c id k∧y.2=rsS c id k) ?_ ?_
 ·simp only [go_sem,withRcv]
  cases hB:decide (r.state < 4) with
  |false=>
   rw [hB,if_neg (by simp)] at hS hX
   simp only [go_sem]
   refine SeeTo.intro (c,withRcv s r) [0,1,2,3,4,5,6,7,8,9,10,11] ⟨hX.symm,hS.symm⟩ ?_
   simp only [go_sem,withRcv]
   simp
  |true=>
   rw [hB,if_pos rfl] at hS hX
   simp only [go_sem]
   refine CallS.inlK [6,7,8,9,10,12,13] (by simp only [keepT,List.elem_cons,List.elem_nil,Nat.reduceBEq,Nat.reduceAdd,cond_true,cond_false];rfl) (inl_ev (n:=45) (rs:=[]) Tryz.func160 rfl Tryz.call160 Tryz.checked.mixed rfl rfl ?_)
   simp only [go_sem]
   try simp only [go_sem,lM]
   repeat' ((first|refine CallS.intro (by first|assumption|apply spec_ReadBytes) ?_|refine CallK.intro (by assumption) ?_)<;>simp only [go_sem])
   refine SeeTo.intro (rdC c (withRcv s r) r.buffer.next,rdS (withRcv s r) r.buffer.next) [0,1,2,3,4,5,6,7,8,9,10,11] ⟨hX.symm,hS.symm⟩ ?_
   simp only [go_sem,withRcv,rdC,rdS,rdN,maxI]
   simp
 rintro ⟨x,t⟩ ⟨hx,ht⟩
 simp only at hx ht
 rw [← hx,← ht] at hC
 rw [← hx] at hXs
 rw [← ht] at hSz
 refine codeG_step Tryz.checked.mixed 1 (α:=Unit) (fun _=>⟨(jn 6 (.d (.str [])::.d (.bool false)::.ptr 1 0 0::.ptr 3 0 0::.junk::.junk::.d (.str (readRcvS s.recv k))::.ptr 2 0 0::jn 49 [])),[.box (TConn.ve c),.box TConn.zc,.box (TReceiver.vc r (.junk)),.box (TConn.vc ((saveC x t)) (.sl 4 0 ((saveC x t)).streams.length) (.sl 5 0 ((saveC x t)).packets.length)),.cln 39 (((saveC x t)).streams.map TStream.enc),.cln 2 (((saveC x t)).packets.map TPacket.enc)]⟩) (fun _=>True) ?_ ?_
 ·simp only [go_sem,lM]
  refine CallS.inlK [6,7,8,9,12,13] (by simp only [keepT,List.elem_cons,List.elem_nil,Nat.reduceBEq,Nat.reduceAdd,cond_true,cond_false];rfl) (l18Save_inl x t (.cln 2 (x.packets.map TPacket.enc)) (fun _=>trivial) (by rw [hXs];exact hXl) (by rw [hXs];exact hXz) hSz [.box (TConn.ve c),.box TConn.zc,.box (TReceiver.vc r (.junk))] _ (by simp [roks,rok,voks,vok]) (by simp [voks,vok]) _ ?_)
  simp only [xH,xS,xBox,go_sem]
  have hpk:(saveC x t).packets=x.packets:=(overC_same x t).2
  refine SeeTo.intro () [0,1,2,3,4,5] trivial ?_
  simp only [go_sem]
  simp [hpk]
 rintro _ _
 refine codeG_of Tryz.checked.mixed ?_
 try simp only [go_sem]
 repeat' (first|((first|refine gSymS ?_|refine gSym ?_|refine drawE_intro mxHRead0 (by kernel_rfl) (by rfl) ?_)<;>simp only [go_sem,lM])|(with_reducible refine sideI ?_)|fail)
 simp [hC,hT,hE]
set_option maxRecDepth 100000
theorem codeG_condF {P:Program} {kv:List V} {c:Operand} {a b:Code} {σ:St} {K:St→Prop} {X:List (Nat×(St→Prop))} {Rt:St→Prop} (h:σ.ev c=.d (.bool false)) (hg:codeG P kv b σ K X Rt):codeG P kv (.cond c a b) σ K X Rt:=by
 intro B w0 kp Q u w hkv hK hX hR r
 obtain ⟨Dm,φ,r0,hD⟩:=r
 have hc:=ev_rel r0 c
 rw [h] at hc
 exact wp_cond_false (rel_bool hc) (hg B w0 kp Q u w hkv hK hX hR ⟨Dm,φ,r0,hD⟩)
theorem codeG_condT {P:Program} {kv:List V} {c:Operand} {a b:Code} {σ:St} {K:St→Prop} {X:List (Nat×(St→Prop))} {Rt:St→Prop} (h:σ.ev c=.d (.bool true)) (hg:codeG P kv a σ K X Rt):codeG P kv (.cond c a b) σ K X Rt:=by
 intro B w0 kp Q u w hkv hK hX hR r
 obtain ⟨Dm,φ,r0,hD⟩:=r
 have hc:=ev_rel r0 c
 rw [h] at hc
 exact wp_cond_true (rel_bool hc) (hg B w0 kp Q u w hkv hK hX hR ⟨Dm,φ,r0,hD⟩)
theorem codeG_seqG {P:Program} {kv:List V} {a b:Code} {σ:St} {K K2:St→Prop} {X:List (Nat×(St→Prop))} {Rt:St→Prop} (h1:codeG P kv a σ K2 X Rt) (h2:∀ σ',K2 σ'→codeG P kv b σ' K X Rt):codeG P kv (.seq a b) σ K X Rt:=by
 intro B w0 kp Q u w hkv hK hX hR r
 exact wp_seq (h1 B w0 kp _ u w hkv (fun σ' a' w' h' r'=>h2 σ' h' B w0 kp Q a' w' hkv hK hX hR r') (fun id σ' a' w' h' r'=>hX id σ' a' w' h' r') (fun σ' a' w' h' r'=>hR σ' a' w' h' r') r)
def doneT (c:TConn) (s:TStream) (k:Int):TStream:={ doneS c s k with send:=s.send,recv:=s.recv }
theorem doneT_eq (c:TConn) (s:TStream) (k:Int):doneS c s k=doneT c s k:=by
 obtain ⟨h1,h2,_⟩:=doneS_same c s k
 unfold doneT
 rw [← h1,← h2]
def idlM:List (Nat×List Bool):=[(10,[false,false,false,false,false,false,false,false,false,false]),(9,[true,false,false,false,false,false,false,false,false,false]),(9,[false,false,true,false,false,false,false,false,false,false]),(9,[false,false,false,true,false,false,false,false,false,false]),(9,[false,false,false,false,true,false,false,false,false,false]),(8,[true,true,false,false,false,false,false,false,false,false]),(8,[true,false,true,false,false,false,false,false,false,false]),(8,[true,false,false,true,false,false,false,false,false,false]),(8,[true,false,false,false,true,false,false,false,false,false]),(8,[false,false,true,true,false,false,false,false,false,false]),(8,[false,false,true,false,true,false,false,false,false,false]),(8,[false,false,false,true,true,false,false,false,false,false]),(8,[false,false,false,false,true,true,false,false,false,false]),(7,[true,true,true,false,false,false,false,false,false,false]),(7,[true,true,false,true,false,false,false,false,false,false]),(7,[true,true,false,false,true,false,false,false,false,false]),(7,[true,false,true,true,false,false,false,false,false,false]),(7,[true,false,true,false,true,false,false,false,false,false]),(7,[true,false,false,true,true,false,false,false,false,false]),(7,[true,false,false,false,true,true,false,false,false,false]),(7,[false,false,true,true,true,false,false,false,false,false]),(7,[false,false,true,false,true,true,false,false,false,false]),(7,[false,false,false,true,true,true,false,false,false,false]),(6,[true,true,true,true,false,false,false,false,false,false]),(6,[true,true,true,false,true,false,false,false,false,false]),(6,[true,true,false,true,true,false,false,false,false,false]),(6,[true,true,false,false,true,true,false,false,false,false]),(6,[true,false,true,true,true,false,false,false,false,false]),(6,[true,false,true,false,true,true,false,false,false,false]),(6,[true,false,false,true,true,true,false,false,false,false]),(6,[false,false,true,true,true,true,false,false,false,false]),(5,[true,true,true,true,true,false,false,false,false,false]),(5,[true,true,true,false,true,true,false,false,false,false]),(5,[true,true,false,true,true,true,false,false,false,false]),(5,[true,false,true,true,true,true,false,false,false,false]),(5,[false,false,true,true,true,true,true,false,false,false]),(4,[true,true,true,true,true,true,false,false,false,false]),(4,[true,false,true,true,true,true,true,false,false,false]),(3,[true,true,true,true,true,true,true,false,false,false]),(2,[true,true,true,true,true,true,true,true,false,false]),(1,[true,true,true,true,true,true,true,true,true,false]),(0,[true,true,true,true,true,true,true,true,true,true])]
def stM (c:TConn) (f:TFrame) (s e:TStream) (S:List Bool):St:=⟨(.junk::.junk::.ptr 0 0 0::.ptr 1 0 0::.ptr 2 0 0::.ptr 5 0 0::jn 6 (.ptr 11 0 0::jn 17 ((bif S.getD 0 false then .ptr 5 0 17 else .junk)::(bif S.getD 1 false then .sl 3 0 c.streams.length else .junk)::(bif S.getD 2 false then .agg (TConn.ve c) else .junk)::(bif S.getD 3 false then .agg (TStream.vc s (.sl 6 0 s.send.ring.cells.length) (.sl 7 0 s.send.pending.length) (.sl 8 0 s.send.flight.length) (.sl 9 0 s.send.acked.length) (.sl 10 0 s.recv.buffer.chunks.length)) else .junk)::(bif S.getD 4 false then .ptr 1 0 0 else .junk)::(bif S.getD 5 false then .d (.int .i64 f.kind) else .junk)::(bif S.getD 6 false then .agg [.d (.int .i64 e.id),.d (.int .i64 s.send.state),.d (.int .i64 s.send.ring.size),.d (.int .i64 s.send.ring.base),.d (.int .i64 s.send.ring.end'),.sl 6 0 s.send.ring.cells.length,.sl 7 0 s.send.pending.length,.sl 8 0 s.send.flight.length,.sl 9 0 s.send.acked.length,.d (.int .i64 s.send.final),.d (.int .i64 s.send.fin),.d (.int .i64 s.send.sent),.d (.int .i64 s.send.code),.d (.int .i64 e.credit.limit),.d (.int .i64 e.credit.used),.d (.int .i64 e.credit.blocked),.d (.int .i64 e.credit.told),.d (.int .i64 s.recv.state),.d (.int .i64 s.recv.buffer.next),.sl 10 0 s.recv.buffer.chunks.length,.d (.int .i64 s.recv.final),.d (.int .i64 s.recv.highest),.d (.int .i64 s.recv.code),.d (.int .i64 e.window.size),.d (.int .i64 e.window.most),.d (.int .i64 e.window.limit),.d (.int .i64 e.window.seen),.d (.int .i64 e.window.read),.d (.int .i64 e.window.since),.d (.int .i64 e.priority.urgency),.d (.bool e.priority.incremental),.d (.bool e.canSend),.d (.bool e.canRecv),.d (.bool e.tellReset),.d (.bool e.tellStop),.d (.bool e.tellMost),.d (.bool e.stopped),.d (.int .i64 e.stopCode),.d (.bool e.counted)] else .junk)::(bif S.getD 7 false then .sl 12 0 (putS c.streams e).length else .junk)::(bif S.getD 8 false then .ptr 5 0 17 else .junk)::jn 47 []))),[.box (TConn.ve c),.box (TFrame.ve f),.box TConn.zc,.cln 39 (c.streams.map TStream.enc),.cln 2 (c.packets.map TPacket.enc),.box (TConn.vc c ((bif S.getD 9 false then .sl 12 0 (putS c.streams e).length else .sl 3 0 c.streams.length)) (.sl 4 0 c.packets.length)),.cln 1 (s.send.ring.cells.map eI),.cln 2 (s.send.pending.map TRange.enc),.cln 2 (s.send.flight.map TRange.enc),.cln 2 (s.send.acked.map TRange.enc),.cln 2 (s.recv.buffer.chunks.map TChunk.enc),.box (TStream.vc s (.sl 6 0 s.send.ring.cells.length) (.sl 7 0 s.send.pending.length) (.sl 8 0 s.send.flight.length) (.sl 9 0 s.send.acked.length) (.sl 10 0 s.recv.buffer.chunks.length))]++(bif S.getD 7 false then [.cln 39 ((putS c.streams e).map TStream.enc)] else [])⟩
set_option maxHeartbeats 8000000 in
theorem l20Done_inl (c:TConn) (f:TFrame) (s:TStream) (k:Int) (hs:SzS s) (kv:List V) (hkv:voks 12 kv) (K:V→List H→Prop)
  (hk:∀ e,e=doneT c s k→K (.agg [.d (.int .i64 e.id),.d (.int .i64 s.send.state),.d (.int .i64 s.send.ring.size),.d (.int .i64 s.send.ring.base),.d (.int .i64 s.send.ring.end'),.sl 6 0 s.send.ring.cells.length,.sl 7 0 s.send.pending.length,.sl 8 0 s.send.flight.length,.sl 9 0 s.send.acked.length,.d (.int .i64 s.send.final),.d (.int .i64 s.send.fin),.d (.int .i64 s.send.sent),.d (.int .i64 s.send.code),.d (.int .i64 e.credit.limit),.d (.int .i64 e.credit.used),.d (.int .i64 e.credit.blocked),.d (.int .i64 e.credit.told),.d (.int .i64 s.recv.state),.d (.int .i64 s.recv.buffer.next),.sl 10 0 s.recv.buffer.chunks.length,.d (.int .i64 s.recv.final),.d (.int .i64 s.recv.highest),.d (.int .i64 s.recv.code),.d (.int .i64 e.window.size),.d (.int .i64 e.window.most),.d (.int .i64 e.window.limit),.d (.int .i64 e.window.seen),.d (.int .i64 e.window.read),.d (.int .i64 e.window.since),.d (.int .i64 e.priority.urgency),.d (.bool e.priority.incremental),.d (.bool e.canSend),.d (.bool e.canRecv),.d (.bool e.tellReset),.d (.bool e.tellStop),.d (.bool e.tellMost),.d (.bool e.stopped),.d (.int .i64 e.stopCode),.d (.bool e.counted)]) [.box (TConn.ve c),.box (TFrame.ve f),.box TConn.zc,.cln 39 (c.streams.map TStream.enc),.cln 2 (c.packets.map TPacket.enc),.box (TConn.vc c (.sl 3 0 c.streams.length) (.sl 4 0 c.packets.length)),.cln 1 (s.send.ring.cells.map eI),.cln 2 (s.send.pending.map TRange.enc),.cln 2 (s.send.flight.map TRange.enc),.cln 2 (s.send.acked.map TRange.enc),.cln 2 (s.recv.buffer.chunks.map TChunk.enc),.box (TStream.vc s (.sl 6 0 s.send.ring.cells.length) (.sl 7 0 s.send.pending.length) (.sl 8 0 s.send.flight.length) (.sl 9 0 s.send.acked.length) (.sl 10 0 s.recv.buffer.chunks.length))]) :
  InlCall Tryz.prog 197 kv [.box (TConn.ve c),.box (TFrame.ve f),.box TConn.zc,.cln 39 (c.streams.map TStream.enc),.cln 2 (c.packets.map TPacket.enc),.box (TConn.vc c (.sl 3 0 c.streams.length) (.sl 4 0 c.packets.length)),.cln 1 (s.send.ring.cells.map eI),.cln 2 (s.send.pending.map TRange.enc),.cln 2 (s.send.flight.map TRange.enc),.cln 2 (s.send.acked.map TRange.enc),.cln 2 (s.recv.buffer.chunks.map TChunk.enc),.box (TStream.vc s (.sl 6 0 s.send.ring.cells.length) (.sl 7 0 s.send.pending.length) (.sl 8 0 s.send.flight.length) (.sl 9 0 s.send.acked.length) (.sl 10 0 s.recv.buffer.chunks.length))] [.agg (TConn.ve c),.agg (TStream.vc s (.sl 6 0 s.send.ring.cells.length) (.sl 7 0 s.send.pending.length) (.sl 8 0 s.send.flight.length) (.sl 9 0 s.send.acked.length) (.sl 10 0 s.recv.buffer.chunks.length)),.d (.int .i64 k)] K:=by
 have fin:∀ (ex:List H) (e:TStream),e=doneT c s k→SeeX kv K (.agg [.d (.int .i64 e.id),.d (.int .i64 s.send.state),.d (.int .i64 s.send.ring.size),.d (.int .i64 s.send.ring.base),.d (.int .i64 s.send.ring.end'),.sl 6 0 s.send.ring.cells.length,.sl 7 0 s.send.pending.length,.sl 8 0 s.send.flight.length,.sl 9 0 s.send.acked.length,.d (.int .i64 s.send.final),.d (.int .i64 s.send.fin),.d (.int .i64 s.send.sent),.d (.int .i64 s.send.code),.d (.int .i64 e.credit.limit),.d (.int .i64 e.credit.used),.d (.int .i64 e.credit.blocked),.d (.int .i64 e.credit.told),.d (.int .i64 s.recv.state),.d (.int .i64 s.recv.buffer.next),.sl 10 0 s.recv.buffer.chunks.length,.d (.int .i64 s.recv.final),.d (.int .i64 s.recv.highest),.d (.int .i64 s.recv.code),.d (.int .i64 e.window.size),.d (.int .i64 e.window.most),.d (.int .i64 e.window.limit),.d (.int .i64 e.window.seen),.d (.int .i64 e.window.read),.d (.int .i64 e.window.since),.d (.int .i64 e.priority.urgency),.d (.bool e.priority.incremental),.d (.bool e.canSend),.d (.bool e.canRecv),.d (.bool e.tellReset),.d (.bool e.tellStop),.d (.bool e.tellMost),.d (.bool e.stopped),.d (.int .i64 e.stopCode),.d (.bool e.counted)]) ([.box (TConn.ve c),.box (TFrame.ve f),.box TConn.zc,.cln 39 (c.streams.map TStream.enc),.cln 2 (c.packets.map TPacket.enc),.box (TConn.vc c (.sl 3 0 c.streams.length) (.sl 4 0 c.packets.length)),.cln 1 (s.send.ring.cells.map eI),.cln 2 (s.send.pending.map TRange.enc),.cln 2 (s.send.flight.map TRange.enc),.cln 2 (s.send.acked.map TRange.enc),.cln 2 (s.recv.buffer.chunks.map TChunk.enc),.box (TStream.vc s (.sl 6 0 s.send.ring.cells.length) (.sl 7 0 s.send.pending.length) (.sl 8 0 s.send.flight.length) (.sl 9 0 s.send.acked.length) (.sl 10 0 s.recv.buffer.chunks.length))]++ex):=by
  intro ex e he
  refine ⟨List.range 12,.agg [.d (.int .i64 e.id),.d (.int .i64 s.send.state),.d (.int .i64 s.send.ring.size),.d (.int .i64 s.send.ring.base),.d (.int .i64 s.send.ring.end'),.sl 6 0 s.send.ring.cells.length,.sl 7 0 s.send.pending.length,.sl 8 0 s.send.flight.length,.sl 9 0 s.send.acked.length,.d (.int .i64 s.send.final),.d (.int .i64 s.send.fin),.d (.int .i64 s.send.sent),.d (.int .i64 s.send.code),.d (.int .i64 e.credit.limit),.d (.int .i64 e.credit.used),.d (.int .i64 e.credit.blocked),.d (.int .i64 e.credit.told),.d (.int .i64 s.recv.state),.d (.int .i64 s.recv.buffer.next),.sl 10 0 s.recv.buffer.chunks.length,.d (.int .i64 s.recv.final),.d (.int .i64 s.recv.highest),.d (.int .i64 s.recv.code),.d (.int .i64 e.window.size),.d (.int .i64 e.window.most),.d (.int .i64 e.window.limit),.d (.int .i64 e.window.seen),.d (.int .i64 e.window.read),.d (.int .i64 e.window.since),.d (.int .i64 e.priority.urgency),.d (.bool e.priority.incremental),.d (.bool e.canSend),.d (.bool e.canRecv),.d (.bool e.tellReset),.d (.bool e.tellStop),.d (.bool e.tellMost),.d (.bool e.stopped),.d (.int .i64 e.stopCode),.d (.bool e.counted)],[.box (TConn.ve c),.box (TFrame.ve f),.box TConn.zc,.cln 39 (c.streams.map TStream.enc),.cln 2 (c.packets.map TPacket.enc),.box (TConn.vc c (.sl 3 0 c.streams.length) (.sl 4 0 c.packets.length)),.cln 1 (s.send.ring.cells.map eI),.cln 2 (s.send.pending.map TRange.enc),.cln 2 (s.send.flight.map TRange.enc),.cln 2 (s.send.acked.map TRange.enc),.cln 2 (s.recv.buffer.chunks.map TChunk.enc),.box (TStream.vc s (.sl 6 0 s.send.ring.cells.length) (.sl 7 0 s.send.pending.length) (.sl 8 0 s.send.flight.length) (.sl 9 0 s.send.acked.length) (.sl 10 0 s.recv.buffer.chunks.length))],?_,hk e he⟩
  refine see_keep (hs:=[.box (TConn.ve c),.box (TFrame.ve f),.box TConn.zc,.cln 39 (c.streams.map TStream.enc),.cln 2 (c.packets.map TPacket.enc),.box (TConn.vc c (.sl 3 0 c.streams.length) (.sl 4 0 c.packets.length)),.cln 1 (s.send.ring.cells.map eI),.cln 2 (s.send.pending.map TRange.enc),.cln 2 (s.send.flight.map TRange.enc),.cln 2 (s.send.acked.map TRange.enc),.cln 2 (s.recv.buffer.chunks.map TChunk.enc),.box (TStream.vc s (.sl 6 0 s.send.ring.cells.length) (.sl 7 0 s.send.pending.length) (.sl 8 0 s.send.flight.length) (.sl 9 0 s.send.acked.length) (.sl 10 0 s.recv.buffer.chunks.length))]) (ex:=ex) ?_ hkv ?_ ?_
  ·simp [roks,rok,voks,vok]
  ·simp [vsees,vsee,ren,rens]
  ·simp [voks,vok]
 obtain ⟨s1,s2,s3,s4⟩:=hs
 refine InlCall.see ?_
 refine (inl_ev (n:=35) (rs:=[.cell 6 55]) Tryz.func197 rfl Tryz.call197 Tryz.checked.mixed rfl rfl ?_)
 simp only [go_sem]
 try simp only [go_sem,lM]
 repeat' (first
  |((first|refine CallS.intro (by first|assumption|(apply spec_l20Window<;>first|assumption|omega)|(apply spec_ClearBlocked<;>first|assumption|omega)) ?_|refine CallK.intro (by first|assumption|(apply spec_l20Window<;>first|assumption|omega)|(apply spec_ClearBlocked<;>first|assumption|omega)) ?_|with_reducible refine gTrueS ?_|with_reducible refine gFalseS ?_|with_reducible refine gTrue ?_|with_reducible refine gFalse ?_|refine gSymS ?_|refine gSym ?_|refine cSplit (fun h=>?_) (fun h=>?_))<;>simp only [go_sem,lM])
  |(with_reducible refine sideI ?_)|fail)
 all_goals simp only [decide_eq_true_eq,decide_eq_false_iff_not] at *
 ·exact fin _ { s with tellReset:=false } (by simp [doneT,doneS, *])
 ·exact fin _ { s with tellStop:=false } (by simp [doneT,doneS, *])
 ·exact fin _ { s with window:=(winW c s).1,tellMost:=false } (by simp [doneT,doneS, *])
 ·exact fin _ { s with tellMost:=false } (by simp [doneT,doneS, *])
 ·exact fin _ { s with credit:=clearCr s.credit } (by simp [doneT,doneS, *])
 ·exact fin _ s (by simp [doneT,doneS, *])
set_option maxHeartbeats 8000000 in
theorem spec_MarkControl_put (c:TConn) (f:TFrame) (hz:SzC c) (hI:isConnS c=true) (h16:decide (f.kind=16)=false) (h18:decide (f.kind=18)=false) (h20:decide (f.kind=20)=false) (h22:decide (f.kind=22)=false) (hf:(strOf c.streams f.stream).2=true):PureCall Tryz.prog 166 [.agg (TConn.enc c),.agg (TFrame.enc f)] [.agg (TConn.enc ((putK c (doneS c (strI c f.stream) f.kind))))]:=by
 refine pureTG 86 Tryz.func166 Tryz.call166 [.cell 4 37] ?_
 intro ok
 clear ok
 have hbk:=bulkC hz
 have hss:SzS (strI c f.stream):=strOf_len hz.2.1 f.stream
 obtain ⟨d1,d2,d3⟩:=doneS_same c (strI c f.stream) f.kind
 have hds:SzS (doneS c (strI c f.stream) f.kind):=by unfold SzS;rw [d1,d2];exact hss
 have hO:=spec_StreamOf c f.stream hz
 rw [show (strOf c.streams f.stream).1=strI c f.stream from rfl,hf] at hO
 have hP:=spec_PutStream c.streams (doneS c (strI c f.stream) f.kind) (by have:=hz.1;omega) hz.2.1 hds
 rw [doneT_eq] at hP ⊢
 generalize strI c f.stream=s at *
 clear hds d1 d2 d3
 obtain ⟨e,he⟩:∃ e,e=doneT c s f.kind:=⟨_,rfl⟩
 have e1:e.send=s.send:=by rw [he];rfl
 have e2:e.recv=s.recv:=by rw [he];rfl
 rw [← he] at hP ⊢
 simp only [TStream.enc,e1,e2] at hP
 refine codeG_step Tryz.checked.mixed 3 (α:=Unit) (fun _=>⟨(.junk::.junk::.ptr 0 0 0::.ptr 1 0 0::.ptr 2 0 0::.ptr 5 0 0::jn 80 []),[.box (TConn.ve c),.box (TFrame.ve f),.box TConn.zc,.cln 39 (c.streams.map TStream.enc),.cln 2 (c.packets.map TPacket.enc),.box (TConn.vc c (.sl 3 0 c.streams.length) (.sl 4 0 c.packets.length))]⟩) (fun _=>True) ?_ ?_
 ·skip
  try simp only [go_sem]
  repeat' (first
   |((first|refine CallS.cln (by first|assumption|(apply spec_l17Copy<;>first|assumption|omega)|(apply spec_IsConn<;>first|assumption|omega)) ?_|refine CallK.cln (by first|assumption|(apply spec_l17Copy<;>first|assumption|omega)|(apply spec_IsConn<;>first|assumption|omega)) ?_|with_reducible refine gTrueS ?_|with_reducible refine gFalseS ?_|with_reducible refine gTrue ?_|with_reducible refine gFalse ?_|refine gSymS ?_|refine gSym ?_)<;>simp only [go_sem,lM,hI,Bool.not_true])
   |(with_reducible refine sideI ?_)|fail)
  refine SeeTo.intro () [0,1,2,3,4,5] trivial ?_
  simp only [go_sem]
  simp
 rintro _ _
 simp only [tailC_succ,tailC_zero]
 refine codeG_seqG (K2:=fun σ=>σ=stM c f s e (List.replicate 10 true)) ?_ ?_
 ·skip
  refine codeG_step Tryz.checked.mixed 1 (α:=Unit) (fun _=>⟨(.junk::.junk::.ptr 0 0 0::.ptr 1 0 0::.ptr 2 0 0::.ptr 5 0 0::jn 15 (.d (.int .i64 f.kind)::jn 64 [])),[.box (TConn.ve c),.box (TFrame.ve f),.box TConn.zc,.cln 39 (c.streams.map TStream.enc),.cln 2 (c.packets.map TPacket.enc),.box (TConn.vc c (.sl 3 0 c.streams.length) (.sl 4 0 c.packets.length))]⟩) (fun _=>True) ?_ ?_
  ·skip
   try simp only [go_sem]
   repeat' (first
    |((first|with_reducible refine gTrueS ?_|with_reducible refine gFalseS ?_|with_reducible refine gTrue ?_|with_reducible refine gFalse ?_|refine gSymS ?_|refine gSym ?_)<;>simp only [go_sem,lM])
    |(with_reducible refine sideI ?_)|fail)
   refine SeeTo.intro () [0,1,2,3,4,5] trivial ?_
   simp only [go_sem]
   simp
  rintro _ _
  simp only [tailC_succ,tailC_zero]
  refine codeG_block ?_
  refine codeG_step Tryz.checked.mixed 1 (α:=Unit) (fun _=>⟨(.junk::.junk::.ptr 0 0 0::.ptr 1 0 0::.ptr 2 0 0::.ptr 5 0 0::jn 15 (.d (.int .i64 f.kind)::jn 17 (.d (.bool false)::jn 46 []))),[.box (TConn.ve c),.box (TFrame.ve f),.box TConn.zc,.cln 39 (c.streams.map TStream.enc),.cln 2 (c.packets.map TPacket.enc),.box (TConn.vc c (.sl 3 0 c.streams.length) (.sl 4 0 c.packets.length))]⟩) (fun _=>True) ?_ ?_
  ·skip
   try simp only [go_sem,h16]
   repeat' (first
    |((first|with_reducible refine gTrueS ?_|with_reducible refine gFalseS ?_|with_reducible refine gTrue ?_|with_reducible refine gFalse ?_|refine gSymS ?_|refine gSym ?_)<;>simp only [go_sem,lM,h16])
    |(with_reducible refine sideI ?_)|fail)
   refine SeeTo.intro () [0,1,2,3,4,5] trivial ?_
   simp only [go_sem]
   simp
  rintro _ _
  simp only [tailC_succ,tailC_zero]
  refine codeG_condF rfl ?_
  refine codeG_step Tryz.checked.mixed 1 (α:=Unit) (fun _=>⟨(.junk::.junk::.ptr 0 0 0::.ptr 1 0 0::.ptr 2 0 0::.ptr 5 0 0::jn 15 (.d (.int .i64 f.kind)::jn 27 (.d (.bool false)::jn 36 []))),[.box (TConn.ve c),.box (TFrame.ve f),.box TConn.zc,.cln 39 (c.streams.map TStream.enc),.cln 2 (c.packets.map TPacket.enc),.box (TConn.vc c (.sl 3 0 c.streams.length) (.sl 4 0 c.packets.length))]⟩) (fun _=>True) ?_ ?_
  ·skip
   try simp only [go_sem,h18]
   repeat' (first
    |((first|with_reducible refine gTrueS ?_|with_reducible refine gFalseS ?_|with_reducible refine gTrue ?_|with_reducible refine gFalse ?_|refine gSymS ?_|refine gSym ?_)<;>simp only [go_sem,lM,h18])
    |(with_reducible refine sideI ?_)|fail)
   refine SeeTo.intro () [0,1,2,3,4,5] trivial ?_
   simp only [go_sem]
   simp
  rintro _ _
  simp only [tailC_succ,tailC_zero]
  refine codeG_condF rfl ?_
  refine codeG_step Tryz.checked.mixed 1 (α:=Unit) (fun _=>⟨(.junk::.junk::.ptr 0 0 0::.ptr 1 0 0::.ptr 2 0 0::.ptr 5 0 0::jn 15 (.d (.int .i64 f.kind)::jn 49 (.d (.bool false)::jn 14 []))),[.box (TConn.ve c),.box (TFrame.ve f),.box TConn.zc,.cln 39 (c.streams.map TStream.enc),.cln 2 (c.packets.map TPacket.enc),.box (TConn.vc c (.sl 3 0 c.streams.length) (.sl 4 0 c.packets.length))]⟩) (fun _=>True) ?_ ?_
  ·skip
   try simp only [go_sem,h20]
   repeat' (first
    |((first|with_reducible refine gTrueS ?_|with_reducible refine gFalseS ?_|with_reducible refine gTrue ?_|with_reducible refine gFalse ?_|refine gSymS ?_|refine gSym ?_)<;>simp only [go_sem,lM,h20])
    |(with_reducible refine sideI ?_)|fail)
   refine SeeTo.intro () [0,1,2,3,4,5] trivial ?_
   simp only [go_sem]
   simp
  rintro _ _
  simp only [tailC_succ,tailC_zero]
  refine codeG_condF rfl ?_
  refine codeG_step Tryz.checked.mixed 1 (α:=Unit) (fun _=>⟨(.junk::.junk::.ptr 0 0 0::.ptr 1 0 0::.ptr 2 0 0::.ptr 5 0 0::jn 15 (.d (.int .i64 f.kind)::jn 55 (.d (.bool false)::jn 8 []))),[.box (TConn.ve c),.box (TFrame.ve f),.box TConn.zc,.cln 39 (c.streams.map TStream.enc),.cln 2 (c.packets.map TPacket.enc),.box (TConn.vc c (.sl 3 0 c.streams.length) (.sl 4 0 c.packets.length))]⟩) (fun _=>True) ?_ ?_
  ·skip
   try simp only [go_sem,h22]
   repeat' (first
    |((first|with_reducible refine gTrueS ?_|with_reducible refine gFalseS ?_|with_reducible refine gTrue ?_|with_reducible refine gFalse ?_|refine gSymS ?_|refine gSym ?_)<;>simp only [go_sem,lM,h22])
    |(with_reducible refine sideI ?_)|fail)
   refine SeeTo.intro () [0,1,2,3,4,5] trivial ?_
   simp only [go_sem]
   simp
  rintro _ _
  simp only [tailC_succ,tailC_zero]
  refine codeG_condF rfl ?_
  refine codeG_step Tryz.checked.mixed 2 (α:=Unit) (fun _=>⟨(.junk::.junk::.ptr 0 0 0::.ptr 1 0 0::.ptr 2 0 0::.ptr 5 0 0::jn 6 (.ptr 11 0 0::jn 16 (.d (.bool true)::jn 56 []))),[.box (TConn.ve c),.box (TFrame.ve f),.box TConn.zc,.cln 39 (c.streams.map TStream.enc),.cln 2 (c.packets.map TPacket.enc),.box (TConn.vc c (.sl 3 0 c.streams.length) (.sl 4 0 c.packets.length)),.cln 1 (s.send.ring.cells.map eI),.cln 2 (s.send.pending.map TRange.enc),.cln 2 (s.send.flight.map TRange.enc),.cln 2 (s.send.acked.map TRange.enc),.cln 2 (s.recv.buffer.chunks.map TChunk.enc),.box (TStream.vc s (.sl 6 0 s.send.ring.cells.length) (.sl 7 0 s.send.pending.length) (.sl 8 0 s.send.flight.length) (.sl 9 0 s.send.acked.length) (.sl 10 0 s.recv.buffer.chunks.length))]⟩) (fun _=>True) ?_ ?_
  ·skip
   try simp only [go_sem]
   repeat' (first
    |((first|refine CallS.cln (by first|assumption|(apply spec_StreamOf<;>first|assumption|omega)) ?_|refine CallK.cln (by first|assumption|(apply spec_StreamOf<;>first|assumption|omega)) ?_|with_reducible refine gTrueS ?_|with_reducible refine gFalseS ?_|with_reducible refine gTrue ?_|with_reducible refine gFalse ?_|refine gSymS ?_|refine gSym ?_)<;>simp only [go_sem,lM])
    |(with_reducible refine sideI ?_)|fail)
   refine SeeTo.intro () [0,1,2,3,4,5,6,7,8,9,10,11] trivial ?_
   simp only [go_sem]
   simp
  rintro _ _
  simp only [tailC_succ,tailC_zero]
  refine codeG_condT rfl ?_
  refine codeG_see (σ':=stM c f s e (List.replicate 10 false)) (ρ:=[0,1,2,3,4,5,6,7,8,9,10,11]) (by simp only [stM,List.replicate,List.getD_cons_succ,List.getD_cons_zero,cond_false,List.append_nil];simp only [go_sem];simp) ?_
  refine codeG_of Tryz.checked.mixed ?_
  simp only [go_sem]
  refine drawX_cut (fun σ'=>σ'=stM c f s e (List.replicate 10 true)) ?_ (fun σ' h=>h)
  refine exE_dag (fun n S σ=>(n,S) ∈ idlM∧σ=stM c f s e S) ?_ ?_ _ _ _ ⟨by first|exact List.Mem.head _|decide +kernel,rfl⟩
  ·rintro S σ ⟨hS,rfl⟩
   simp only [idlM,List.mem_cons,Prod.mk.injEq,List.not_mem_nil,or_false] at hS
   rcases hS with ⟨hn,rfl⟩|⟨hn,rfl⟩|⟨hn,rfl⟩|⟨hn,rfl⟩|⟨hn,rfl⟩|⟨hn,rfl⟩|⟨hn,rfl⟩|⟨hn,rfl⟩|⟨hn,rfl⟩|⟨hn,rfl⟩|⟨hn,rfl⟩|⟨hn,rfl⟩|⟨hn,rfl⟩|⟨hn,rfl⟩|⟨hn,rfl⟩|⟨hn,rfl⟩|⟨hn,rfl⟩|⟨hn,rfl⟩|⟨hn,rfl⟩|⟨hn,rfl⟩|⟨hn,rfl⟩|⟨hn,rfl⟩|⟨hn,rfl⟩|⟨hn,rfl⟩|⟨hn,rfl⟩|⟨hn,rfl⟩|⟨hn,rfl⟩|⟨hn,rfl⟩|⟨hn,rfl⟩|⟨hn,rfl⟩|⟨hn,rfl⟩|⟨hn,rfl⟩|⟨hn,rfl⟩|⟨hn,rfl⟩|⟨hn,rfl⟩|⟨hn,rfl⟩|⟨hn,rfl⟩|⟨hn,rfl⟩|⟨hn,rfl⟩|⟨hn,rfl⟩|⟨hn,rfl⟩|⟨hn,rfl⟩
   all_goals (first|exact absurd hn (by decide)|skip)
   exact ⟨rfl,rfl⟩
  ·rintro n S σ F ⟨hS,rfl⟩ hF
   simp only [idlM,List.mem_cons,Prod.mk.injEq,List.not_mem_nil,or_false] at hS
   rcases hS with ⟨hn,rfl⟩|⟨hn,rfl⟩|⟨hn,rfl⟩|⟨hn,rfl⟩|⟨hn,rfl⟩|⟨hn,rfl⟩|⟨hn,rfl⟩|⟨hn,rfl⟩|⟨hn,rfl⟩|⟨hn,rfl⟩|⟨hn,rfl⟩|⟨hn,rfl⟩|⟨hn,rfl⟩|⟨hn,rfl⟩|⟨hn,rfl⟩|⟨hn,rfl⟩|⟨hn,rfl⟩|⟨hn,rfl⟩|⟨hn,rfl⟩|⟨hn,rfl⟩|⟨hn,rfl⟩|⟨hn,rfl⟩|⟨hn,rfl⟩|⟨hn,rfl⟩|⟨hn,rfl⟩|⟨hn,rfl⟩|⟨hn,rfl⟩|⟨hn,rfl⟩|⟨hn,rfl⟩|⟨hn,rfl⟩|⟨hn,rfl⟩|⟨hn,rfl⟩|⟨hn,rfl⟩|⟨hn,rfl⟩|⟨hn,rfl⟩|⟨hn,rfl⟩|⟨hn,rfl⟩|⟨hn,rfl⟩|⟨hn,rfl⟩|⟨hn,rfl⟩|⟨hn,rfl⟩|⟨hn,rfl⟩
   rotate_right 1
   ·exact absurd hn (by omega)
   all_goals (
    simp only [Nat.reduceEqDiff] at hn
    try subst hn
    simp only [stM,List.getD_cons_succ,List.getD_cons_zero,cond_true,cond_false,cA,nA,List.append_nil]
    refine dag_step rfl ?_
    repeat' (first
     |exact allE_nil
     |(refine allE_cons ?_ ?_)
     |exact hF _ _ ⟨by first|exact List.Mem.head _|decide +kernel,rfl⟩
     |(refine CallS.cln hP ?_)
     |(refine CallS.inl (l20Done_inl c f s f.kind hss _ (by simp [voks,vok]) _ (fun e' he'=>?_));obtain rfl:e'=e:=he'.trans he.symm)
     |simp only [go_sem,lM]))
   all_goals trace_state
 ·rintro _ rfl
  refine codeG_of Tryz.checked.mixed ?_
  simp only [stM,List.replicate,List.getD_cons_succ,List.getD_cons_zero,cond_true,cA,nA]
  simp only [go_sem]
  simp [putK,outOA]
set_option maxRecDepth 100000
def mxEmE0:List (List Rl):=mxD 7 [2066,2176,2182,2161,2107,1944,1458]
def mxEmE1:List (List Rl):=mxD 8 [6443,6441,6232,6214,5548,6435,5913,4374]
attribute [go_sem] mxEmE0 mxEmE1
set_option maxHeartbeats 8000000 in
theorem spec_MarkControl_rest (c:TConn) (f:TFrame) (hz:SzC c) (hn:¬ (isConnS c=true∧decide (f.kind=16)=false∧decide (f.kind=18)=false∧decide (f.kind=20)=false∧decide (f.kind=22)=false∧(strOf c.streams f.stream).2=true)):PureCall Tryz.prog 166 [.agg (TConn.enc c),.agg (TFrame.enc f)] [.agg (TConn.enc ((markC c f)))]:=by
 refine pureT 86 Tryz.func166 Tryz.call166 [.cell 4 37] ?_
 intro ok
 clear ok
 have hbk:=bulkC hz
 have hO:=spec_StreamOf c f.stream hz
 try simp only [go_sem]
 repeat' ((first|refine CallS.cln (by first|assumption|(apply spec_l17Copy<;>first|assumption|omega)|(apply spec_IsConn<;>first|assumption|omega)) ?_|refine CallK.cln (by assumption) ?_)<;>simp only [go_sem,lM])
 cases hI:isConnS c with
 |false=>
  simp only [go_sem,lM,Bool.not_false]
  simp [markC,hI]
 |true=>
  simp only [go_sem,Bool.not_true]
  cases h16:decide (f.kind=16) with
  |true=>
   have h16':=oT h16
   try simp only [go_sem]
   repeat' (first|((first|refine CallS.cln (by first|assumption|apply spec_l20Total) ?_|refine CallK.cln (by assumption) ?_)<;>simp only [go_sem,lM])|(with_reducible refine sideI ?_)|fail)
   simp [markC,hI,h16']
  |false=>
   have h16':=oF h16
   simp only [go_sem]
   cases h18:decide (f.kind=18) with
   |true=>
    have h18':=oT h18
    simp only [go_sem]
    cases hu:f.uni with
    |true=>
     try simp only [go_sem]
     repeat' (first|((first|refine CallS.cln (by first|assumption|apply spec_l20Allow) ?_|refine CallK.cln (by assumption) ?_)<;>simp only [go_sem,lM])|(with_reducible refine sideI ?_)|fail)
     simp [markC,hI,h18',hu]
    |false=>
     try simp only [go_sem]
     repeat' (first|((first|refine CallS.cln (by first|assumption|apply spec_l20Allow) ?_|refine CallK.cln (by assumption) ?_)<;>simp only [go_sem,lM])|(with_reducible refine sideI ?_)|fail)
     simp [markC,hI,h18',hu]
   |false=>
    have h18':=oF h18
    simp only [go_sem]
    cases h20:decide (f.kind=20) with
    |true=>
     have h20':=oT h20
     try simp only [go_sem]
     repeat' (first|((first|refine CallS.cln (by first|assumption|apply spec_ClearBlocked) ?_|refine CallK.cln (by assumption) ?_)<;>simp only [go_sem,lM])|(with_reducible refine sideI ?_)|fail)
     simp [markC,hI,h20']
    |false=>
     have h20':=oF h20
     simp only [go_sem]
     cases h22:decide (f.kind=22) with
     |true=>
      have h22':=oT h22
      simp only [go_sem]
      cases hu:f.uni with
      |true=>
       try simp only [go_sem,lM]
       repeat' (first|(with_reducible refine sideI ?_)|fail)
       simp [markC,hI,h22',hu]
      |false=>
       try simp only [go_sem,lM]
       repeat' (first|(with_reducible refine sideI ?_)|fail)
       simp [markC,hI,h22',hu]
     |false=>
      have h22':=oF h22
      have hf:(strOf c.streams f.stream).2=false:=by
       cases hf:(strOf c.streams f.stream).2 with
       |false=>rfl
       |true=>exact absurd ⟨hI,h16,h18,h20,h22,hf⟩ hn
      have hE:markC c f=c:=by unfold markC;rw [hI,if_neg h16',if_neg h18',if_neg h20',if_neg h22',hf];rfl
      rw [hf] at hO
      simp only [go_sem]
      try simp only [go_sem,lM]
      repeat' (first|((first|refine CallS.cln (by assumption) ?_|refine CallK.cln (by assumption) ?_)<;>simp only [go_sem,lM])|(with_reducible refine sideI ?_)|fail)
      simp [hE]
theorem spec_MarkControl (c:TConn) (f:TFrame) (hz:SzC c):PureCall Tryz.prog 166 [.agg (TConn.enc c),.agg (TFrame.enc f)] [.agg (TConn.enc ((markC c f)))]:=by
 by_cases hn:isConnS c=true∧decide (f.kind=16)=false∧decide (f.kind=18)=false∧decide (f.kind=20)=false∧decide (f.kind=22)=false∧(strOf c.streams f.stream).2=true
 ·obtain ⟨hI,h16,h18,h20,h22,hf⟩:=hn
  have hE:markC c f=putK c (doneS c (strI c f.stream) f.kind):=by
   unfold markC
   rw [hI,if_neg (oF h16),if_neg (oF h18),if_neg (oF h20),if_neg (oF h22),hf];rfl
  rw [hE]
  exact spec_MarkControl_put c f hz hI h16 h18 h20 h22 hf
 ·exact spec_MarkControl_rest c f hz hn
theorem em_guard (c:TConn) (b:Int):(bif bif !fineC c then true else !inB b 1 400 then true else decide (1000000≤c.number))=!emG c b:=by
 unfold emG
 cases fineC c<;>cases inB b 1 400<;>cases decide (1000000≤c.number)<;>rfl
set_option maxHeartbeats 8000000 in
theorem spec_EmitPacket (c:TConn) (b:Int) (m:Nat) (hv:InvC m c) (hm:m≤20):PureCall Tryz.prog 137 [.agg (TConn.enc c),.one (.int .i64 b)] [.one (.str (emT c b)),.one (.int .i64 (emN c b)),.agg (TConn.enc ((emC c b)))]:=by
 refine pureTG 90 Tryz.func137 Tryz.call137 [.tmp 4,.tmp 5,.cell 6 37] ?_
 intro ok
 clear ok
 have hz:=hv.sz hm
 have hbk:=bulkC hz
 have hG:=em_guard c b
 obtain ⟨hcl,hcd⟩:=ctlFr_ok hv
 refine codeG_step Tryz.checked.mixed 6 (α:=Unit) (fun _=>⟨(.junk::.d (.int .i64 b)::.ptr 0 0 0::jn 3 (.ptr 1 0 0::.ptr 2 0 0::.sl 5 0 0::.d (.int .i64 b)::.sl 6 0 (ctlFr c).length::jn 79 [])),[.box (TConn.ve c),.box TConn.zc,.box (TConn.vc c (.sl 3 0 c.streams.length) (.sl 4 0 c.packets.length)),.cln 39 (c.streams.map TStream.enc),.cln 2 (c.packets.map TPacket.enc),.arr 9 [] true,.arr 9 ((ctlFr c).map TFrame.enc) true]⟩) (fun _=>emG c b=true) ?_ ?_
 ·skip
  try simp only [go_sem]
  repeat' ((first|refine CallS.cln (by first|(apply spec_l17Copy<;>first|assumption|omega)|(apply spec_l19Fine<;>first|assumption|omega)) ?_|refine CallK.cln (by apply spec_l1In) ?_|refine gSymS ?_)<;>simp only [go_sem,lM])
  rw [hG]
  cases hg:emG c b with
  |false=>
   try simp only [go_sem,Bool.not_false]
   repeat' (first|(refine drawE_intro [[.post,.un,.un,.post],[.un,.post,.post,.post],[.un,.pre,.post,.post],[.pre,.pre,.pre,.post]] (by kernel_rfl) (by rfl) ?_<;>simp only [go_sem,lM])|(with_reducible refine sideI ?_)|fail)
   simp [emC,emT,emN,emOk,hg]
  |true=>
   try simp only [go_sem,Bool.not_true]
   repeat' (refine CallS.intro (by (apply spec_ControlFrames<;>first|assumption|omega)) ?_<;>simp only [go_sem,lM])
   refine SeeTo.intro () [0,1,4,2,3,5,6] (by first|exact hg|trivial) ?_
   simp only [go_sem]
   simp
 rintro _ hg
 have hA:emA c b=(ctlFr c).foldl ctlStep ⟨c,[],b⟩:=rfl
 refine codeG_step Tryz.checked.mixed 1 (α:=Unit) (fun _=>⟨(.junk::.d (.int .i64 b)::.ptr 0 0 0::jn 3 (.ptr 1 0 0::.ptr 2 0 0::.sl 5 0 (emA c b).fr.length::.d (.int .i64 (emA c b).room)::jn 80 [])),[.box (TConn.ve c),.box TConn.zc,.box [.d (.bool (emA c b).x.server),.d (.int .i64 (emA c b).x.own.ring),.d (.int .i64 (emA c b).x.own.window),.d (.int .i64 (emA c b).x.own.windowMost),.d (.int .i64 (emA c b).x.own.total),.d (.int .i64 (emA c b).x.own.totalMost),.d (.int .i64 (emA c b).x.own.bidi),.d (.int .i64 (emA c b).x.own.uni),.d (.int .i64 (emA c b).x.own.trip),.d (.int .i64 (emA c b).x.peer.ring),.d (.int .i64 (emA c b).x.peer.window),.d (.int .i64 (emA c b).x.peer.windowMost),.d (.int .i64 (emA c b).x.peer.total),.d (.int .i64 (emA c b).x.peer.totalMost),.d (.int .i64 (emA c b).x.peer.bidi),.d (.int .i64 (emA c b).x.peer.uni),.d (.int .i64 (emA c b).x.peer.trip),.sl 3 0 (emA c b).x.streams.length,.d (.int .i64 (emA c b).x.total.limit),.d (.int .i64 (emA c b).x.total.used),.d (.int .i64 (emA c b).x.total.blocked),.d (.int .i64 (emA c b).x.total.told),.d (.int .i64 (emA c b).x.inflow.size),.d (.int .i64 (emA c b).x.inflow.most),.d (.int .i64 (emA c b).x.inflow.limit),.d (.int .i64 (emA c b).x.inflow.seen),.d (.int .i64 (emA c b).x.inflow.read),.d (.int .i64 (emA c b).x.inflow.since),.d (.int .i64 (emA c b).x.openBidi.limit),.d (.int .i64 (emA c b).x.openBidi.opened),.d (.int .i64 (emA c b).x.openBidi.blocked),.d (.int .i64 (emA c b).x.openUni.limit),.d (.int .i64 (emA c b).x.openUni.opened),.d (.int .i64 (emA c b).x.openUni.blocked),.d (.int .i64 (emA c b).x.allowBidi.most),.d (.int .i64 (emA c b).x.allowBidi.limit),.d (.int .i64 (emA c b).x.allowBidi.seen),.d (.int .i64 (emA c b).x.allowBidi.closed),.d (.int .i64 (emA c b).x.allowUni.most),.d (.int .i64 (emA c b).x.allowUni.limit),.d (.int .i64 (emA c b).x.allowUni.seen),.d (.int .i64 (emA c b).x.allowUni.closed),.d (.bool (emA c b).x.tellTotal),.d (.bool (emA c b).x.tellBidi),.d (.bool (emA c b).x.tellUni),.d (.int .i64 (emA c b).x.last),.d (.int .i64 (emA c b).x.number),.sl 4 0 (emA c b).x.packets.length,.d (.int .i64 (emA c b).x.now),.d (.int .i64 (emA c b).x.closed)],.cln 39 ((emA c b).x.streams.map TStream.enc),.cln 2 ((emA c b).x.packets.map TPacket.enc),.arr 9 ((emA c b).fr.map TFrame.enc) true]⟩) (fun _=>True) ?_ ?_
 ·simp only [go_sem]
  refine LoopK.intro (α:=Nat×CtlS) (fun y=>⟨(.junk::.d (.int .i64 b)::.ptr 0 0 0::jn 3 (.ptr 1 0 0::.ptr 2 0 0::.sl 5 0 y.2.fr.length::.d (.int .i64 y.2.room)::.sl 6 0 (ctlFr c).length::.d (.int .i64 y.1)::jn 78 [])),[.box (TConn.ve c),.box TConn.zc,.box (TConn.vc y.2.x (.sl 3 0 y.2.x.streams.length) (.sl 4 0 y.2.x.packets.length)),.cln 39 (y.2.x.streams.map TStream.enc),.cln 2 (y.2.x.packets.map TPacket.enc),.arr 9 (y.2.fr.map TFrame.enc) true,.arr 9 ((ctlFr c).map TFrame.enc) true]⟩)
   (fun y=>(ctlFr c).length - y.1) (fun y=>y.1≤(ctlFr c).length∧y.2=((ctlFr c).take y.1).foldl ctlStep ⟨c,[],b⟩∧InvF m y.1 y.2.x y.2.fr) (0,⟨c,[],b⟩) [0,1,2,3,4,5,6] ⟨by simp,by simp,hv,by simp,by simp⟩ ?_ ?_
  ·simp only [go_sem];simp
  ·rintro ⟨i,q⟩ ⟨hi,hq,hI⟩
   simp only at hi hq hI
   by_cases h1:i < (ctlFr c).length
   ·have h1':decide ((i:Int) < ((ctlFr c).length:Int))=true:=dT (by omega)
    have hxi:=map_at TFrame.enc (ctlFr c) i h1
    have hw:IntKind.i64.wrap ((i:Int) + 1)=((i + 1:Nat):Int):=by rw [w64]<;>omega
    have hs:((ctlFr c).take (i + 1)).foldl ctlStep ⟨c,[],b⟩=ctlStep q (ctlFr c)[i]:=by
     rw [List.take_add_one,gE h1,List.foldl_append,← hq];rfl
    have hlow:lowF (ctlFr c)[i]:=hcd _ (List.getElem_mem h1)
    have hI2:=ctlStep_inv hI hlow
    generalize (ctlFr c)[i]=f at *
    have hfl:f.data.length≤60:=hlow
    have hMC:=spec_MarkControl q.x f (hI.c.sz hm)
    have hFS:=spec_FrameSize f.kind f.stream f.offset f.data f.fin f.code f.limit f.final f.uni (by omega)
    change PureCall _ _ _ [.one (.int .i64 ((encF f).length:Int))] at hFS
    have hSt:ctlStep q f=if ((encF f).length:Int)≤q.room then ⟨markC q.x f,q.fr++[f],IntKind.i64.wrap (q.room - ((encF f).length:Int))⟩ else q:=rfl
    have hfn:=hI.n
    try simp only [go_sem,lM,tN,hxi,TFrame.enc,h1']
    repeat' (first|((first|refine CallS.intro (by assumption) ?_|refine CallK.intro (by assumption) ?_)<;>simp only [go_sem])|(with_reducible refine sideI ?_)|fail)
    cases hfit:decide (((encF f).length:Int)≤q.room) with
    |true=>
     rw [if_pos (oT hfit)] at hSt
     rw [hSt] at hs hI2
     try simp only [go_sem,lM,tN,hxi,TFrame.enc]
     repeat' (first|((first|refine CallS.intro (by assumption) ?_|refine CallK.intro (by assumption) ?_)<;>simp only [go_sem])|(with_reducible refine sideI ?_)|fail)
     try simp only [go_sem,lM,tN,hxi,TFrame.enc]
     repeat' (first|((first|refine CallS.cln (by assumption) ?_|refine CallK.cln (by assumption) ?_|refine drawE_intro mxEmE0 (by kernel_rfl) (by rfl) ?_)<;>simp only [go_sem,lM,tN,hxi,TFrame.enc])|(with_reducible refine sideI ?_)|fail)
     refine RoundE.intro (i + 1,⟨markC q.x f,q.fr++[f],IntKind.i64.wrap (q.room - ((encF f).length:Int))⟩) [0,1,2,7,8,10,6] ⟨by simp only;omega,hs.symm,hI2⟩ (by simp only;omega) ?_
     simp only [go_sem,hw];simp [TFrame.enc]
    |false=>
     rw [if_neg (oF hfit)] at hSt
     rw [hSt] at hs hI2
     simp only [go_sem]
     refine RoundE.intro (i + 1,q) [0,1,2,3,4,5,6] ⟨by simp only;omega,hs.symm,hI2⟩ (by simp only;omega) ?_
     simp only [go_sem,hw];simp
   ·have h1':decide ((i:Int) < ((ctlFr c).length:Int))=false:=dF (by omega)
    obtain rfl:i=(ctlFr c).length:=by omega
    rw [tL,← hA] at hq
    subst hq
    simp only [go_sem,h1']
    refine SeeTo.intro () [0,1,2,3,4,5] trivial ?_
    simp only [go_sem]
    simp
 rintro _ _
 have hIA:=emA_inv hv b
 have hIB:=emB_inv hv (by omega) b
 have hB:fillGo 200 ⟨(emA c b).x,[],(emA c b).fr,(emA c b).room⟩=emB c b:=rfl
 have hC:emC c b=if (emB c b).fr=[] then (emB c b).x else { (emB c b).x with packets:=(emB c b).x.packets++[⟨c.number,(emB c b).fr⟩],number:=IntKind.i64.wrap (c.number + 1) }:=by unfold emC;rw [hg];rfl
 have hOk:emOk c b=!decide ((emB c b).fr=[]):=by unfold emOk;rw [hg];rfl
 have hT:emT c b=if emOk c b then encP (emB c b).fr else []:=rfl
 generalize emA c b=qa at *
 generalize emB c b=qb at *
 refine codeG_step Tryz.checked.mixed 1 (α:=Unit) (fun _=>⟨(.junk::.junk::.ptr 0 0 0::jn 3 (.ptr 1 0 0::.ptr 2 0 0::.sl 5 0 qb.fr.length::jn 81 [])),[.box (TConn.ve c),.box TConn.zc,.box (TConn.vc qb.x (.sl 3 0 qb.x.streams.length) (.sl 4 0 qb.x.packets.length)),.cln 39 (qb.x.streams.map TStream.enc),.cln 2 (qb.x.packets.map TPacket.enc),.arr 9 (qb.fr.map TFrame.enc) true]⟩) (fun _=>True) ?_ ?_
 ·simp only [go_sem,lM]
  refine CallS.inlK [2,6,7] (by simp only [keepT,List.elem_cons,List.elem_nil,Nat.reduceBEq,Nat.reduceAdd,cond_true,cond_false];rfl) (l20Fill_inl c qa.x qa.fr qa.room m hIA.c hm hIA.n hIA.d _ (by simp [voks,vok]) _ ?_)
  rw [hB]
  simp only [fH,xBox,xS,xP,go_sem]
  refine SeeTo.intro () [0,1,2,3,4,5] trivial ?_
  simp only [go_sem]
  simp
 rintro _ _
 refine codeG_look 4 rfl ?_
 refine codeG_of Tryz.checked.mixed ?_
 simp only [go_sem]
 have hpl:qb.x.packets.length≤20:=Nat.le_trans hIB.c.lp hm
 cases hfr:decide (qb.fr=[]) with
 |true=>
  have hfr':=oT hfr
  have hd:decide ((qb.fr.length:Int)=0)=true:=dT (by rw [hfr'];rfl)
  rw [hfr] at hOk
  rw [if_pos hfr'] at hC
  rw [hOk] at hT
  try simp only [go_sem,hd]
  repeat' (first|(refine drawE_intro [[.post,.un,.un,.post],[.un,.post,.post,.post],[.un,.pre,.post,.post],[.pre,.pre,.pre,.post]] (by kernel_rfl) (by rfl) ?_<;>simp only [go_sem,lM])|(with_reducible refine sideI ?_)|fail)
  simp [hC,hT,emN,hOk]
 |false=>
  have hfr':=oF hfr
  have hd:decide ((qb.fr.length:Int)=0)=false:=dF (fun h=>hfr' (List.length_eq_zero_iff.1 (by omega)))
  rw [hfr] at hOk
  rw [if_neg hfr'] at hC
  have hEP:=spec_EncodePayload qb.fr (by have:=hIB.n;omega) (fun f hf=>by have:=hIB.d f hf;unfold lowF at this;omega)
  try simp only [go_sem,lM,hd]
  repeat' (first|((first|refine CallS.intro (by assumption) ?_|refine CallK.intro (by assumption) ?_|refine drawE_intro mxEmE1 (by kernel_rfl) (by rfl) ?_)<;>simp only [go_sem,lM])|(with_reducible refine sideI ?_)|fail)
  rw [hOk] at hT
  simp [hC,hT,emN,hOk,TPacket.enc,List.take_of_length_le]
set_option maxRecDepth 100000
def cutStep (b:UInt8) (q:List (List UInt8)×List UInt8) (x:UInt8):List (List UInt8)×List UInt8:=if x=b then (q.1++[q.2],[]) else (q.1,q.2++[x])
def cutF (b:UInt8) (s:List UInt8):List (List UInt8)×List UInt8:=s.foldl (cutStep b) ([],[])
def cutL (s:List UInt8) (b:UInt8):List (List UInt8):=(cutF b s).1++[(cutF b s).2]
theorem cutF_len (b:UInt8):∀ (s:List UInt8) (q:List (List UInt8)×List UInt8),(s.foldl (cutStep b) q).1.length + (s.foldl (cutStep b) q).2.length≤q.1.length + q.2.length + s.length
 |[],q=>by simp
 |x::s,q=>by
  have:=cutF_len b s (cutStep b q x)
  have e:(cutStep b q x).1.length + (cutStep b q x).2.length≤q.1.length + q.2.length + 1:=by
   unfold cutStep
   split<;>simp<;>omega
  rw [List.foldl_cons,List.length_cons]
  omega
set_option maxHeartbeats 1000000 in
theorem spec_l13Cut (s:List UInt8) (b:UInt8) (hl:s.length≤1048576):PureCall Tryz.prog 189 [.one (.str s),.one (.int .u8 (b.toNat:Int))] [.one (.sl 1 ((cutL s b).map eS))]:=by
 refine pureT 35 Tryz.func189 Tryz.call189 [.tmp 4] ?_
 intro ok
 simp only [go_sem]
 refine LoopK.intro (fun i:Nat=>⟨(.d (.str s)::.d (.int .u8 (b.toNat:Int))::jn 3 (.sl 0 0 (cutF b (s.take i)).1.length::.d (.str (cutF b (s.take i)).2)::.d (.int .i64 i)::jn 27 [])),[.arr 1 ((cutF b (s.take i)).1.map eS) true]⟩)
  (fun i=>s.length - i) (fun i=>i≤s.length) 0 [0] (by omega) ?_ ?_
 ·simp only [go_sem];simp [cutF]
 ·intro i hi
  have hln:=cutF_len b (s.take i) ([],[])
  have hT:(s.take i).length=i:=by simp;omega
  simp only [List.length_nil] at hln
  have hln':(cutF b (s.take i)).1.length + (cutF b (s.take i)).2.length≤i:=by unfold cutF;omega
  by_cases h1:i < s.length
  ·have h1':decide ((i:Int) < (s.length:Int))=true:=dT (by omega)
   have hw:=inc h1 (show s.length≤maxLen by simp only [maxLen];omega)
   have hs:cutF b (s.take (i + 1))=cutStep b (cutF b (s.take i)) s[i]:=foldl_tk _ _ _ _ h1
   generalize cutF b (s.take i)=q at *
   obtain ⟨out,part⟩:=q
   simp only at hln'
   have hx:s[i]?.getD 0=s[i]:=by rw [gE h1];rfl
   have hsl:List.take (i + 1 - i) (List.drop i s)=[s[i]]:=by
    rw [show i + 1 - i=1 from by omega,List.drop_eq_getElem_cons h1];rfl
   cases hd:decide (s[i]=b) with
   |true=>
    have hb:decide ((s[i].toNat:Int)=(b.toNat:Int))=true:=by rw [oT hd];simp
    have hst:cutStep b (out,part) s[i]=(out++[part],[]):=by unfold cutStep;exact if_pos (oT hd)
    try simp only [go_sem,lM,tN,h1',hw,hx,hb]
    repeat' (first|(with_reducible refine sideI ?_)|fail)
    all_goals (first|(refine ⟨⟨by omega,rfl⟩,?_⟩)|skip;refine RoundE.intro (i + 1) [2] (by omega) (by omega) ?_;simp only [go_sem,hs,hst];simp [eS])
   |false=>
    have hb:decide ((s[i].toNat:Int)=(b.toNat:Int))=false:=dF (fun h=>absurd (UInt8.toNat_inj.1 (Int.ofNat.inj h)) (oF hd))
    have hst:cutStep b (out,part) s[i]=(out,part++[s[i]]):=by unfold cutStep;exact if_neg (oF hd)
    try simp only [go_sem,tN,h1',hw,hx,hsl,hb]
    repeat' (first|(with_reducible refine sideI ?_)|fail)
    all_goals (first|(refine ⟨by simp only [List.length_cons,List.length_nil,maxLen];omega,?_⟩)|skip;refine RoundE.intro (i + 1) [0] (by omega) (by omega) ?_;simp only [go_sem,hs,hst];simp)
  ·have h1':decide ((i:Int) < (s.length:Int))=false:=dF (by omega)
   obtain rfl:i=s.length:=by omega
   rw [tL] at *
   try simp only [go_sem,lM,h1']
   repeat' (first|(with_reducible refine sideI ?_)|fail)
   all_goals (simp [cutL];try exact List.take_of_length_le (by simp))
def ltrim (s:List UInt8):List UInt8:=s.dropWhile (fun x=>decide (x=32))
def rtrim (s:List UInt8):List UInt8:=(s.reverse.dropWhile (fun x=>decide (x=32))).reverse
def trim (s:List UInt8):List UInt8:=rtrim (ltrim s)
theorem ltrim_32 (r:List UInt8):ltrim (32::r)=ltrim r:=by simp [ltrim]
theorem ltrim_ne {x:UInt8} {r:List UInt8} (h:x≠32):ltrim (x::r)=x::r:=by simp [ltrim,h]
theorem rtrim_32 {r:List UInt8} (h:r≠[]) (hl:r.getLast h=32):rtrim r=rtrim r.dropLast:=by
 have e:r.reverse=32::r.dropLast.reverse:=by
  conv=>lhs;rw [← List.dropLast_concat_getLast h]
  simp [hl]
 unfold rtrim
 rw [e,List.dropWhile_cons_of_pos (by simp)]
theorem rtrim_ne {r:List UInt8} (h:r≠[]) (hl:r.getLast h≠32):rtrim r=r:=by
 have e:r.reverse=r.getLast h::r.dropLast.reverse:=by
  conv=>lhs;rw [← List.dropLast_concat_getLast h]
  simp
 unfold rtrim
 rw [e,List.dropWhile_cons_of_neg (by simp [hl])]
 rw [← e,List.reverse_reverse]
set_option maxHeartbeats 1000000 in
theorem spec_l13Trim (s:List UInt8) (hl:s.length≤1048576):PureCall Tryz.prog 190 [.one (.str s)] [.one (.str (trim s))]:=by
 refine pureT 30 Tryz.func190 Tryz.call190 [.tmp 2] ?_
 intro ok
 simp only [go_sem]
 refine LoopK.intro (fun u:List UInt8=>⟨(.d (.str u)::jn 29 []),[]⟩) (fun u=>u.length) (fun u=>u.length≤1048576∧ltrim u=ltrim s) s [] ⟨hl,rfl⟩ ?_ ?_
 ·simp only [go_sem]
 ·rintro u ⟨hu,he⟩
  cases u with
  |nil=>
   have e0:trim s=rtrim []:=by unfold trim;rw [← he];rfl
   have h0:decide ((0:Int) < ((0:Nat):Int))=false:=by decide
   try simp only [go_sem,List.length_nil,h0]
   repeat' (first|(with_reducible refine gFalseS ?_<;>simp only [go_sem,List.length_nil]))
   refine LoopK.intro (fun v:List UInt8=>⟨(.d (.str v)::jn 29 []),[]⟩) (fun v=>v.length) (fun v=>v.length≤1048576∧rtrim v=trim s) [] [] ⟨by simp,e0.symm⟩ ?_ ?_
   ·simp only [go_sem]
   ·rintro v ⟨hv,hve⟩
    by_cases hn:v=[]
    ·subst hn
     have e:trim s=[]:=by rw [← hve];rfl
     have h0:decide ((0:Int) < ((0:Nat):Int))=false:=by decide
     try simp only [go_sem,List.length_nil,h0]
     repeat' (first|(with_reducible refine gFalseS ?_<;>simp only [go_sem,List.length_nil]))
     all_goals first|(exfalso;simp at h;done)|simp [e]
    ·have hp:0 < v.length:=List.length_pos_iff.2 hn
     have h1:decide ((0:Int) < (v.length:Int))=true:=dT (by omega)
     have h2:IntKind.i64.wrap ((v.length:Int) - 1)=((v.length - 1:Nat):Int):=by rw [w64]<;>omega
     have h3:v[v.length - 1]?.getD 0=v.getLast hn:=by rw [gE (by omega),List.getLast_eq_getElem];rfl
     have h4:List.take (v.length - 1 - 0) (List.drop 0 v)=v.dropLast:=by rw [List.drop_zero,Nat.sub_zero,List.dropLast_eq_take]
     cases hd:decide (v.getLast hn=32) with
     |true=>
      have hb:decide (((v.getLast hn).toNat:Int)=32)=true:=by rw [oT hd];rfl
      try simp only [go_sem,h1]
      repeat' (first|(with_reducible refine gTrueS ?_<;>simp only [go_sem,h2,h3,hb,tN])|(with_reducible refine sideI ?_)|fail)
      all_goals (refine RoundE.intro v.dropLast [] ⟨by rw [List.length_dropLast];omega,by rw [← rtrim_32 hn (oT hd)];exact hve⟩ (by rw [List.length_dropLast];omega) ?_;simp only [go_sem];try simp [List.dropLast_eq_take])
     |false=>
      have hb:decide (((v.getLast hn).toNat:Int)=32)=false:=dF (fun h=>absurd (UInt8.toNat_inj.1 (show (v.getLast hn).toNat=(32:UInt8).toNat by have:(32:UInt8).toNat=32:=rfl;omega)) (oF hd))
      have e:trim s=v:=by rw [← hve];exact rtrim_ne hn (oF hd)
      try simp only [go_sem,h1]
      repeat' (first|(with_reducible refine gTrueS ?_<;>simp only [go_sem,h2,h3,hb,tN])|(with_reducible refine sideI ?_)|fail)
      all_goals simp [e]
  |cons x r=>
   have h1:decide ((0:Int) < ((r.length + 1:Nat):Int))=true:=dT (by omega)
   have hx:(x::r)[0]?.getD 0=x:=rfl
   cases hd:decide (x=32) with
   |true=>
    have hb:decide ((x.toNat:Int)=32)=true:=by rw [oT hd];rfl
    have hsl:List.take ((x::r).length - 1) (List.drop 1 (x::r))=r:=by simp
    try simp only [go_sem,List.length_cons,h1]
    repeat' (first|(with_reducible refine gTrueS ?_<;>simp only [go_sem,List.length_cons,hb])|(with_reducible refine sideI ?_)|fail)
    all_goals (refine RoundE.intro r [] ⟨by rw [List.length_cons] at hu;omega,by rw [← he,oT hd];exact (ltrim_32 r).symm⟩ (by simp) ?_;simp only [go_sem];try simp)
   |false=>
    have hb:decide ((x.toNat:Int)=32)=false:=dF (fun h=>absurd (UInt8.toNat_inj.1 (show x.toNat=(32:UInt8).toNat by have:(32:UInt8).toNat=32:=rfl;omega)) (oF hd))
    have e0:trim s=rtrim (x::r):=by unfold trim;rw [← he,ltrim_ne (oF hd)]
    try simp only [go_sem,List.length_cons,h1]
    repeat' (first|(with_reducible refine gTrueS ?_<;>simp only [go_sem,List.length_cons,hb])|(with_reducible refine sideI ?_)|fail)
    refine LoopK.intro (fun v:List UInt8=>⟨(.d (.str v)::jn 29 []),[]⟩) (fun v=>v.length) (fun v=>v.length≤1048576∧rtrim v=trim s) (x::r) [] ⟨hu,e0.symm⟩ ?_ ?_
    ·simp only [go_sem]
    ·rintro v ⟨hv,hve⟩
     by_cases hn:v=[]
     ·subst hn
      have e:trim s=[]:=by rw [← hve];rfl
      have h0:decide ((0:Int) < ((0:Nat):Int))=false:=by decide
      try simp only [go_sem,List.length_nil,h0]
      repeat' (first|(with_reducible refine gFalseS ?_<;>simp only [go_sem,List.length_nil]))
      all_goals first|(exfalso;simp at h;done)|simp [e]
     ·have hp:0 < v.length:=List.length_pos_iff.2 hn
      have h1:decide ((0:Int) < (v.length:Int))=true:=dT (by omega)
      have h2:IntKind.i64.wrap ((v.length:Int) - 1)=((v.length - 1:Nat):Int):=by rw [w64]<;>omega
      have h3:v[v.length - 1]?.getD 0=v.getLast hn:=by rw [gE (by omega),List.getLast_eq_getElem];rfl
      have h4:List.take (v.length - 1 - 0) (List.drop 0 v)=v.dropLast:=by rw [List.drop_zero,Nat.sub_zero,List.dropLast_eq_take]
      cases hd:decide (v.getLast hn=32) with
      |true=>
       have hb:decide (((v.getLast hn).toNat:Int)=32)=true:=by rw [oT hd];rfl
       try simp only [go_sem,h1]
       repeat' (first|(with_reducible refine gTrueS ?_<;>simp only [go_sem,h2,h3,hb,tN])|(with_reducible refine sideI ?_)|fail)
       all_goals (refine RoundE.intro v.dropLast [] ⟨by rw [List.length_dropLast];omega,by rw [← rtrim_32 hn (oT hd)];exact hve⟩ (by rw [List.length_dropLast];omega) ?_;simp only [go_sem];try simp [List.dropLast_eq_take])
      |false=>
       have hb:decide (((v.getLast hn).toNat:Int)=32)=false:=dF (fun h=>absurd (UInt8.toNat_inj.1 (show (v.getLast hn).toNat=(32:UInt8).toNat by have:(32:UInt8).toNat=32:=rfl;omega)) (oF hd))
       have e:trim s=v:=by rw [← hve];exact rtrim_ne hn (oF hd)
       try simp only [go_sem,h1]
       repeat' (first|(with_reducible refine gTrueS ?_<;>simp only [go_sem,h2,h3,hb,tN])|(with_reducible refine sideI ?_)|fail)
       all_goals simp [e]
def mpSet (p:TPriority) (t:List UInt8):TPriority:=
 if t=[105]∨t=[105,61,63,49] then { p with incremental:=true }
 else if t=[105,61,63,48] then { p with incremental:=false }
 else if t.length=3∧t.take 2=[117,61]∧48≤(t[2]?.getD 0).toNat∧(t[2]?.getD 0).toNat≤55 then { p with urgency:=((t[2]?.getD 0).toNat:Int) - 48 }
 else p
def mpStep (p:TPriority) (t:List UInt8):TPriority:=mpSet p (trim t)
def mergeP (p:TPriority) (s:List UInt8):TPriority:=(cutL s 44).foldl mpStep (if isPri p then p else defPri)
theorem cutL_len (s:List UInt8) (b:UInt8):(cutL s b).length≤s.length + 1∧∀ t ∈ cutL s b,t.length≤s.length:=by
 have h:∀ (s:List UInt8) (q:List (List UInt8)×List UInt8) (n:Nat),(∀ t ∈ q.1,t.length≤n)→q.2.length≤n→(∀ t ∈ (s.foldl (cutStep b) q).1,t.length≤n + s.length)∧(s.foldl (cutStep b) q).2.length≤n + s.length:=by
  intro s
  induction s with
  |nil=>intro q n h1 h2;exact ⟨fun t ht=>by have:=h1 t ht;simp;omega,by simp;omega⟩
  |cons x s ih=>
   intro q n h1 h2
   have:=ih (cutStep b q x) (n + 1) (by
    intro t ht
    unfold cutStep at ht
    split at ht
    ·rcases List.mem_append.1 ht with ht|ht
     ·have:=h1 t ht;omega
     ·rw [List.mem_singleton.1 ht];omega
    ·have:=h1 t ht;omega) (by unfold cutStep;split<;>simp<;>omega)
   rw [List.foldl_cons,List.length_cons]
   exact ⟨fun t ht=>by have:=this.1 t ht;omega,by omega⟩
 have h1:=cutF_len b s ([],[])
 have h2:=h s ([],[]) 0 (by simp) (by simp)
 simp only [List.length_nil] at h1
 unfold cutL
 refine ⟨by rw [List.length_append];simp only [cutF,List.length_cons,List.length_nil];omega,fun t ht=>?_⟩
 rcases List.mem_append.1 ht with ht|ht
 ·have:=h2.1 t ht;omega
 ·rw [List.mem_singleton.1 ht];have:=h2.2;simp only [cutF];omega
set_option maxHeartbeats 4000000 in
theorem spec_MergePriority (dO:Int) (dP:Bool) (s:List UInt8) (hl:s.length≤1000):PureCall Tryz.prog 163 [.agg [.int .i64 dO,.bool dP],.one (.str s)] [.agg [.int .i64 (mergeP (⟨dO,dP⟩:TPriority) s).urgency,.bool (mergeP (⟨dO,dP⟩:TPriority) s).incremental]]:=by
 refine pureT 62 Tryz.func163 Tryz.call163 [.cell 4 53] ?_
 intro ok
 clear ok
 obtain ⟨c1,c2⟩:=cutL_len s 44
 have hC:=spec_l13Cut s 44 (by omega)
 have hE:mergeP (⟨dO,dP⟩:TPriority) s=(cutL s 44).foldl mpStep (if isPri (⟨dO,dP⟩:TPriority) then (⟨dO,dP⟩:TPriority) else defPri):=rfl
 obtain ⟨p0,hp0⟩:∃ p0,p0=(if isPri (⟨dO,dP⟩:TPriority) then (⟨dO,dP⟩:TPriority) else defPri):=⟨_,rfl⟩
 rw [← hp0] at hE
 generalize cutL s 44=l at *
 simp only [show ((44:UInt8).toNat:Int)=44 from rfl] at hC
 cases hI:isPri (⟨dO,dP⟩:TPriority) with
 |false=>
  try simp only [go_sem]
  repeat' ((first|refine CallS.intro (by first|assumption|apply spec_IsPriority|apply spec_DefaultPriority) ?_|refine CallK.intro (by assumption) ?_)<;>simp only [go_sem,lM,hI])
  refine LoopK.intro (fun i:Nat=>⟨(.junk::.junk::.ptr 0 0 0::.junk::.ptr 1 0 0::.sl 2 0 l.length::.d (.int .i64 i)::jn 55 []),[.box [.d (.int .i64 ((l.take i).foldl mpStep p0).urgency),.d (.bool ((l.take i).foldl mpStep p0).incremental)],.box [.d (.int .i64 0),.d (.bool false)],.arr 1 (l.map eS) true]⟩)
   (fun i=>l.length - i) (fun i=>i≤l.length) 0 [0,1,2] (by omega) ?_ ?_
  ·simp only [go_sem];simp [hp0,hI,defPri]
  ·intro i hi
   by_cases h1:i < l.length
   ·have h1':decide ((i:Int) < (l.length:Int))=true:=dT (by omega)
    have hxi:=map_at eS l i h1
    have hw:IntKind.i64.wrap ((i:Int) + 1)=((i + 1:Nat):Int):=by rw [w64]<;>omega
    have hs:=foldl_tk mpStep p0 l i h1
    have hs2:mpStep ((l.take i).foldl mpStep p0) l[i]=mpSet ((l.take i).foldl mpStep p0) (trim l[i]):=rfl
    have hT:=spec_l13Trim l[i] (by have:=c2 _ (List.getElem_mem h1);omega)
    rw [hs2] at hs
    generalize (l.take i).foldl mpStep p0=q at *
    generalize trim l[i]=t at *
    try simp only [go_sem,lM,tN,hxi,eS,h1']
    repeat' (first|((first|refine CallS.intro (by assumption) ?_|refine CallK.intro (by assumption) ?_|refine gSymS ?_)<;>simp only [go_sem])|(with_reducible refine sideI ?_)|fail)
    by_cases a1:t=[105]∨t=[105,61,63,49]
    ·have hm:mpSet q t={ q with incremental:=true }:=by unfold mpSet;exact if_pos a1
     have b1:(bif decide (t=[105]) then true else decide (t=[105,61,63,49]))=true:=by rcases a1 with h|h<;>simp [h]
     simp only [b1]
     try simp only [go_sem]
     repeat' ((first|refine CallS.intro (by assumption) ?_|refine CallK.intro (by assumption) ?_)<;>simp only [go_sem,lM])
     refine RoundE.intro (i + 1) [0,1,2] (by omega) (by omega) ?_
     simp only [go_sem,hw,hs,hm];simp
    ·have b1:(bif decide (t=[105]) then true else decide (t=[105,61,63,49]))=false:=by simp only [not_or] at a1;simp [a1.1,a1.2]
     simp only [b1]
     by_cases a2:t=[105,61,63,48]
     ·have hm:mpSet q t={ q with incremental:=false }:=by unfold mpSet;exact (if_neg a1).trans (if_pos a2)
      have b2:decide (t=[105,61,63,48])=true:=dT a2
      try simp only [go_sem,b2]
      repeat' ((first|refine CallS.intro (by assumption) ?_|refine CallK.intro (by assumption) ?_)<;>simp only [go_sem,lM,b2])
      refine RoundE.intro (i + 1) [0,1,2] (by omega) (by omega) ?_
      simp only [go_sem,hw,hs,hm];simp
     ·have b2:decide (t=[105,61,63,48])=false:=dF a2
      have hm:mpSet q t=if t.length=3∧t.take 2=[117,61]∧48≤(t[2]?.getD 0).toNat∧(t[2]?.getD 0).toNat≤55 then { q with urgency:=((t[2]?.getD 0).toNat:Int) - 48 } else q:=by unfold mpSet;exact (if_neg a1).trans (if_neg a2)
      by_cases a3:t.length=3
      ·have b3:decide ((t.length:Int)=3)=true:=dT (by omega)
       try simp only [go_sem,b2,b3]
       repeat' (first|((first|refine CallS.intro (by assumption) ?_|refine CallK.intro (by assumption) ?_|with_reducible refine gTrueS ?_|refine gSymS ?_|refine cSplit (fun h=>?_) (fun h=>?_))<;>simp only [go_sem])|(with_reducible refine sideI ?_)|fail)
       ·have hh:t.take 2=[117,61]∧48≤(t[2]?.getD 0).toNat∧(t[2]?.getD 0).toNat≤55:=by
         simp only [bif_and,Bool.and_eq_true,decide_eq_true_eq,and_assoc] at h
         exact ⟨h.1,by omega,by omega⟩
        rw [if_pos ⟨a3,hh⟩] at hm
        have e1:IntKind.u8.wrap (((t[2]?.getD 0).toNat:Int) - 48)=((t[2]?.getD 0).toNat:Int) - 48:=w8 (by omega) (by omega)
        have e2:IntKind.i64.wrap (((t[2]?.getD 0).toNat:Int) - 48)=((t[2]?.getD 0).toNat:Int) - 48:=by rw [w64]<;>omega
        refine RoundE.intro (i + 1) [0,1,2] (by omega) (by omega) ?_
        simp only [go_sem,hw,hs,hm,e1,e2];simp
       ·have hh:¬ (t.length=3∧t.take 2=[117,61]∧48≤(t[2]?.getD 0).toNat∧(t[2]?.getD 0).toNat≤55):=by
         rintro ⟨_,g1,g2,g3⟩
         have g2':decide (48≤((t[2]?.getD 0).toNat:Int))=true:=dT (by omega)
         have g3':decide (((t[2]?.getD 0).toNat:Int)≤55)=true:=dT (by omega)
         rw [g2',g3',dT g1] at h
         cases h
        rw [if_neg hh] at hm
        refine RoundE.intro (i + 1) [0,1,2] (by omega) (by omega) ?_
        simp only [go_sem,hw,hs,hm];simp
      ·have b3:decide ((t.length:Int)=3)=false:=dF (by omega)
       rw [if_neg (fun h=>a3 h.1)] at hm
       try simp only [go_sem,b2,b3]
       repeat' ((first|refine CallS.intro (by assumption) ?_|refine CallK.intro (by assumption) ?_|with_reducible refine gFalseS ?_)<;>simp only [go_sem])
       all_goals (refine RoundE.intro (i + 1) [0,1,2] (by omega) (by omega) ?_;simp only [go_sem,hw,hs,hm];simp)
   ·have h1':decide ((i:Int) < (l.length:Int))=false:=dF (by omega)
    obtain rfl:i=l.length:=by omega
    rw [tL]
    try simp only [go_sem,h1']
    repeat' ((first|refine CallS.intro (by assumption) ?_|refine CallK.intro (by assumption) ?_)<;>simp only [go_sem,lM,h1'])
    all_goals simp [hE]
 |true=>
  try simp only [go_sem]
  repeat' ((first|refine CallS.intro (by first|assumption|apply spec_IsPriority) ?_|refine CallK.intro (by assumption) ?_)<;>simp only [go_sem,lM,hI])
  refine LoopK.intro (fun i:Nat=>⟨(.junk::.junk::.ptr 0 0 0::.junk::.ptr 1 0 0::.sl 2 0 l.length::.d (.int .i64 i)::jn 55 []),[.box [.d (.int .i64 ((l.take i).foldl mpStep p0).urgency),.d (.bool ((l.take i).foldl mpStep p0).incremental)],.box [.d (.int .i64 0),.d (.bool false)],.arr 1 (l.map eS) true]⟩)
   (fun i=>l.length - i) (fun i=>i≤l.length) 0 [0,1,2] (by omega) ?_ ?_
  ·simp only [go_sem];simp [hp0,hI]
  ·intro i hi
   by_cases h1:i < l.length
   ·have h1':decide ((i:Int) < (l.length:Int))=true:=dT (by omega)
    have hxi:=map_at eS l i h1
    have hw:IntKind.i64.wrap ((i:Int) + 1)=((i + 1:Nat):Int):=by rw [w64]<;>omega
    have hs:=foldl_tk mpStep p0 l i h1
    have hs2:mpStep ((l.take i).foldl mpStep p0) l[i]=mpSet ((l.take i).foldl mpStep p0) (trim l[i]):=rfl
    have hT:=spec_l13Trim l[i] (by have:=c2 _ (List.getElem_mem h1);omega)
    rw [hs2] at hs
    generalize (l.take i).foldl mpStep p0=q at *
    generalize trim l[i]=t at *
    try simp only [go_sem,lM,tN,hxi,eS,h1']
    repeat' (first|((first|refine CallS.intro (by assumption) ?_|refine CallK.intro (by assumption) ?_|refine gSymS ?_)<;>simp only [go_sem])|(with_reducible refine sideI ?_)|fail)
    by_cases a1:t=[105]∨t=[105,61,63,49]
    ·have hm:mpSet q t={ q with incremental:=true }:=by unfold mpSet;exact if_pos a1
     have b1:(bif decide (t=[105]) then true else decide (t=[105,61,63,49]))=true:=by rcases a1 with h|h<;>simp [h]
     simp only [b1]
     try simp only [go_sem]
     repeat' ((first|refine CallS.intro (by assumption) ?_|refine CallK.intro (by assumption) ?_)<;>simp only [go_sem,lM])
     refine RoundE.intro (i + 1) [0,1,2] (by omega) (by omega) ?_
     simp only [go_sem,hw,hs,hm];simp
    ·have b1:(bif decide (t=[105]) then true else decide (t=[105,61,63,49]))=false:=by simp only [not_or] at a1;simp [a1.1,a1.2]
     simp only [b1]
     by_cases a2:t=[105,61,63,48]
     ·have hm:mpSet q t={ q with incremental:=false }:=by unfold mpSet;exact (if_neg a1).trans (if_pos a2)
      have b2:decide (t=[105,61,63,48])=true:=dT a2
      try simp only [go_sem,b2]
      repeat' ((first|refine CallS.intro (by assumption) ?_|refine CallK.intro (by assumption) ?_)<;>simp only [go_sem,lM,b2])
      refine RoundE.intro (i + 1) [0,1,2] (by omega) (by omega) ?_
      simp only [go_sem,hw,hs,hm];simp
     ·have b2:decide (t=[105,61,63,48])=false:=dF a2
      have hm:mpSet q t=if t.length=3∧t.take 2=[117,61]∧48≤(t[2]?.getD 0).toNat∧(t[2]?.getD 0).toNat≤55 then { q with urgency:=((t[2]?.getD 0).toNat:Int) - 48 } else q:=by unfold mpSet;exact (if_neg a1).trans (if_neg a2)
      by_cases a3:t.length=3
      ·have b3:decide ((t.length:Int)=3)=true:=dT (by omega)
       try simp only [go_sem,b2,b3]
       repeat' (first|((first|refine CallS.intro (by assumption) ?_|refine CallK.intro (by assumption) ?_|with_reducible refine gTrueS ?_|refine gSymS ?_|refine cSplit (fun h=>?_) (fun h=>?_))<;>simp only [go_sem])|(with_reducible refine sideI ?_)|fail)
       ·have hh:t.take 2=[117,61]∧48≤(t[2]?.getD 0).toNat∧(t[2]?.getD 0).toNat≤55:=by
         simp only [bif_and,Bool.and_eq_true,decide_eq_true_eq,and_assoc] at h
         exact ⟨h.1,by omega,by omega⟩
        rw [if_pos ⟨a3,hh⟩] at hm
        have e1:IntKind.u8.wrap (((t[2]?.getD 0).toNat:Int) - 48)=((t[2]?.getD 0).toNat:Int) - 48:=w8 (by omega) (by omega)
        have e2:IntKind.i64.wrap (((t[2]?.getD 0).toNat:Int) - 48)=((t[2]?.getD 0).toNat:Int) - 48:=by rw [w64]<;>omega
        refine RoundE.intro (i + 1) [0,1,2] (by omega) (by omega) ?_
        simp only [go_sem,hw,hs,hm,e1,e2];simp
       ·have hh:¬ (t.length=3∧t.take 2=[117,61]∧48≤(t[2]?.getD 0).toNat∧(t[2]?.getD 0).toNat≤55):=by
         rintro ⟨_,g1,g2,g3⟩
         have g2':decide (48≤((t[2]?.getD 0).toNat:Int))=true:=dT (by omega)
         have g3':decide (((t[2]?.getD 0).toNat:Int)≤55)=true:=dT (by omega)
         rw [g2',g3',dT g1] at h
         cases h
        rw [if_neg hh] at hm
        refine RoundE.intro (i + 1) [0,1,2] (by omega) (by omega) ?_
        simp only [go_sem,hw,hs,hm];simp
      ·have b3:decide ((t.length:Int)=3)=false:=dF (by omega)
       rw [if_neg (fun h=>a3 h.1)] at hm
       try simp only [go_sem,b2,b3]
       repeat' ((first|refine CallS.intro (by assumption) ?_|refine CallK.intro (by assumption) ?_|with_reducible refine gFalseS ?_)<;>simp only [go_sem])
       all_goals (refine RoundE.intro (i + 1) [0,1,2] (by omega) (by omega) ?_;simp only [go_sem,hw,hs,hm];simp)
   ·have h1':decide ((i:Int) < (l.length:Int))=false:=dF (by omega)
    obtain rfl:i=l.length:=by omega
    rw [tL]
    try simp only [go_sem,h1']
    repeat' ((first|refine CallS.intro (by assumption) ?_|refine CallK.intro (by assumption) ?_)<;>simp only [go_sem,lM,h1'])
    all_goals simp [hE]
end Gv
