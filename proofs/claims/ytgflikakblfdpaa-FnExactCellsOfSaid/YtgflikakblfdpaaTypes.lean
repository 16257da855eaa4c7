/-
  The program's structs as Lean structures, and that an argument of such a type is one. Printed by a program of ours.
-/
import Derived.Test.YtgflikakblfdpaaFacts
import Derived.Test.YtgflikakblfdpaaGvRead
namespace Gv
open Go Go.Proofs

theorem cons_of_len {l : List D} {n : Nat} (h : l.length = n + 1) : ∃ d l', l = d :: l' ∧ l'.length = n := by
  cases l with
  | nil => simp at h
  | cons d l => exact ⟨d, l, rfl, by simpa using h⟩
def eI (n : Int) : List D := [.int .i64 n]
def eS (s : List UInt8) : List D := [.str s]
def eB (b : Bool) : List D := [.bool b]
def eU8 (n : Int) : List D := [.int .u8 n]
theorem enc_lift {α : Type} {f : α → List D} : ∀ (xs : List (List D)), (∀ c ∈ xs, ∃ a, c = f a) → ∃ ys : List α, xs = ys.map f
  | [], _ => ⟨[], rfl⟩
  | x :: xs, h => by
    obtain ⟨a, rfl⟩ := h x (by simp)
    obtain ⟨ys, rfl⟩ := enc_lift xs fun c hc => h c (by simp [hc])
    exact ⟨a :: ys, rfl⟩
theorem flat_map {α : Type} {f : α → List D} (h : ∀ a, (f a).all D.flat = true) (xs : List α) : flatE (xs.map f) = true := by simp [flatE, h]
@[go_sem] theorem flat_eI (xs : List Int) : flatE (xs.map eI) = true := flat_map (fun _ => rfl) xs
@[go_sem] theorem flat_eS (xs : List (List UInt8)) : flatE (xs.map eS) = true := flat_map (fun _ => rfl) xs
structure TCells where
  bytes : List Int
  read : Int
  deriving DecidableEq
def TCells.enc (x : TCells) : List D := [.sl 1 (x.bytes.map eI), .int .i64 x.read]
structure TChunk where
  offset : Int
  data : List UInt8
  deriving DecidableEq
def TChunk.enc (x : TChunk) : List D := [.int .i64 x.offset, .str x.data]
@[go_sem] theorem flat_TChunk (xs : List TChunk) : flatE (xs.map TChunk.enc) = true := flat_map (fun _ => rfl) xs
structure TBuffer where
  next : Int
  chunks : List TChunk
  deriving DecidableEq
def TBuffer.enc (x : TBuffer) : List D := [.int .i64 x.next, .sl 2 (x.chunks.map TChunk.enc)]
structure TConf where
  ring : Int
  window : Int
  windowMost : Int
  total : Int
  totalMost : Int
  bidi : Int
  uni : Int
  trip : Int
  deriving DecidableEq
def TConf.enc (x : TConf) : List D := [.int .i64 x.ring, .int .i64 x.window, .int .i64 x.windowMost, .int .i64 x.total, .int .i64 x.totalMost, .int .i64 x.bidi, .int .i64 x.uni, .int .i64 x.trip]
@[go_sem] theorem flat_TConf (xs : List TConf) : flatE (xs.map TConf.enc) = true := flat_map (fun _ => rfl) xs
structure TRing where
  size : Int
  base : Int
  end' : Int
  cells : List Int
  deriving DecidableEq
def TRing.enc (x : TRing) : List D := [.int .i64 x.size, .int .i64 x.base, .int .i64 x.end', .sl 1 (x.cells.map eI)]
structure TRange where
  low : Int
  high : Int
  deriving DecidableEq
def TRange.enc (x : TRange) : List D := [.int .i64 x.low, .int .i64 x.high]
@[go_sem] theorem flat_TRange (xs : List TRange) : flatE (xs.map TRange.enc) = true := flat_map (fun _ => rfl) xs
structure TSender where
  state : Int
  ring : TRing
  pending : List TRange
  flight : List TRange
  acked : List TRange
  final : Int
  fin : Int
  sent : Int
  code : Int
  deriving DecidableEq
def TSender.enc (x : TSender) : List D := [.int .i64 x.state, .int .i64 x.ring.size, .int .i64 x.ring.base, .int .i64 x.ring.end', .sl 1 (x.ring.cells.map eI), .sl 2 (x.pending.map TRange.enc), .sl 2 (x.flight.map TRange.enc), .sl 2 (x.acked.map TRange.enc), .int .i64 x.final, .int .i64 x.fin, .int .i64 x.sent, .int .i64 x.code]
structure TCredit where
  limit : Int
  used : Int
  blocked : Int
  told : Int
  deriving DecidableEq
def TCredit.enc (x : TCredit) : List D := [.int .i64 x.limit, .int .i64 x.used, .int .i64 x.blocked, .int .i64 x.told]
@[go_sem] theorem flat_TCredit (xs : List TCredit) : flatE (xs.map TCredit.enc) = true := flat_map (fun _ => rfl) xs
structure TReceiver where
  state : Int
  buffer : TBuffer
  final : Int
  highest : Int
  code : Int
  deriving DecidableEq
def TReceiver.enc (x : TReceiver) : List D := [.int .i64 x.state, .int .i64 x.buffer.next, .sl 2 (x.buffer.chunks.map TChunk.enc), .int .i64 x.final, .int .i64 x.highest, .int .i64 x.code]
structure TWindow where
  size : Int
  most : Int
  limit : Int
  seen : Int
  read : Int
  since : Int
  deriving DecidableEq
def TWindow.enc (x : TWindow) : List D := [.int .i64 x.size, .int .i64 x.most, .int .i64 x.limit, .int .i64 x.seen, .int .i64 x.read, .int .i64 x.since]
@[go_sem] theorem flat_TWindow (xs : List TWindow) : flatE (xs.map TWindow.enc) = true := flat_map (fun _ => rfl) xs
structure TPriority where
  urgency : Int
  incremental : Bool
  deriving DecidableEq
def TPriority.enc (x : TPriority) : List D := [.int .i64 x.urgency, .bool x.incremental]
@[go_sem] theorem flat_TPriority (xs : List TPriority) : flatE (xs.map TPriority.enc) = true := flat_map (fun _ => rfl) xs
structure TStream where
  id : Int
  send : TSender
  credit : TCredit
  recv : TReceiver
  window : TWindow
  priority : TPriority
  canSend : Bool
  canRecv : Bool
  tellReset : Bool
  tellStop : Bool
  tellMost : Bool
  stopped : Bool
  stopCode : Int
  counted : Bool
  deriving DecidableEq
def TStream.enc (x : TStream) : List D := [.int .i64 x.id, .int .i64 x.send.state, .int .i64 x.send.ring.size, .int .i64 x.send.ring.base, .int .i64 x.send.ring.end', .sl 1 (x.send.ring.cells.map eI), .sl 2 (x.send.pending.map TRange.enc), .sl 2 (x.send.flight.map TRange.enc), .sl 2 (x.send.acked.map TRange.enc), .int .i64 x.send.final, .int .i64 x.send.fin, .int .i64 x.send.sent, .int .i64 x.send.code, .int .i64 x.credit.limit, .int .i64 x.credit.used, .int .i64 x.credit.blocked, .int .i64 x.credit.told, .int .i64 x.recv.state, .int .i64 x.recv.buffer.next, .sl 2 (x.recv.buffer.chunks.map TChunk.enc), .int .i64 x.recv.final, .int .i64 x.recv.highest, .int .i64 x.recv.code, .int .i64 x.window.size, .int .i64 x.window.most, .int .i64 x.window.limit, .int .i64 x.window.seen, .int .i64 x.window.read, .int .i64 x.window.since, .int .i64 x.priority.urgency, .bool x.priority.incremental, .bool x.canSend, .bool x.canRecv, .bool x.tellReset, .bool x.tellStop, .bool x.tellMost, .bool x.stopped, .int .i64 x.stopCode, .bool x.counted]
structure TCount where
  limit : Int
  opened : Int
  blocked : Int
  deriving DecidableEq
def TCount.enc (x : TCount) : List D := [.int .i64 x.limit, .int .i64 x.opened, .int .i64 x.blocked]
@[go_sem] theorem flat_TCount (xs : List TCount) : flatE (xs.map TCount.enc) = true := flat_map (fun _ => rfl) xs
structure TAllow where
  most : Int
  limit : Int
  seen : Int
  closed : Int
  deriving DecidableEq
def TAllow.enc (x : TAllow) : List D := [.int .i64 x.most, .int .i64 x.limit, .int .i64 x.seen, .int .i64 x.closed]
@[go_sem] theorem flat_TAllow (xs : List TAllow) : flatE (xs.map TAllow.enc) = true := flat_map (fun _ => rfl) xs
structure TFrame where
  kind : Int
  stream : Int
  offset : Int
  data : List UInt8
  fin : Bool
  code : Int
  limit : Int
  final : Int
  uni : Bool
  deriving DecidableEq
def TFrame.enc (x : TFrame) : List D := [.int .i64 x.kind, .int .i64 x.stream, .int .i64 x.offset, .str x.data, .bool x.fin, .int .i64 x.code, .int .i64 x.limit, .int .i64 x.final, .bool x.uni]
@[go_sem] theorem flat_TFrame (xs : List TFrame) : flatE (xs.map TFrame.enc) = true := flat_map (fun _ => rfl) xs
structure TPacket where
  number : Int
  frames : List TFrame
  deriving DecidableEq
def TPacket.enc (x : TPacket) : List D := [.int .i64 x.number, .sl 9 (x.frames.map TFrame.enc)]
structure TConn where
  server : Bool
  own : TConf
  peer : TConf
  streams : List TStream
  total : TCredit
  inflow : TWindow
  openBidi : TCount
  openUni : TCount
  allowBidi : TAllow
  allowUni : TAllow
  tellTotal : Bool
  tellBidi : Bool
  tellUni : Bool
  last : Int
  number : Int
  packets : List TPacket
  now : Int
  closed : Int
  deriving DecidableEq
def TConn.enc (x : TConn) : List D := [.bool x.server, .int .i64 x.own.ring, .int .i64 x.own.window, .int .i64 x.own.windowMost, .int .i64 x.own.total, .int .i64 x.own.totalMost, .int .i64 x.own.bidi, .int .i64 x.own.uni, .int .i64 x.own.trip, .int .i64 x.peer.ring, .int .i64 x.peer.window, .int .i64 x.peer.windowMost, .int .i64 x.peer.total, .int .i64 x.peer.totalMost, .int .i64 x.peer.bidi, .int .i64 x.peer.uni, .int .i64 x.peer.trip, .sl 39 (x.streams.map TStream.enc), .int .i64 x.total.limit, .int .i64 x.total.used, .int .i64 x.total.blocked, .int .i64 x.total.told, .int .i64 x.inflow.size, .int .i64 x.inflow.most, .int .i64 x.inflow.limit, .int .i64 x.inflow.seen, .int .i64 x.inflow.read, .int .i64 x.inflow.since, .int .i64 x.openBidi.limit, .int .i64 x.openBidi.opened, .int .i64 x.openBidi.blocked, .int .i64 x.openUni.limit, .int .i64 x.openUni.opened, .int .i64 x.openUni.blocked, .int .i64 x.allowBidi.most, .int .i64 x.allowBidi.limit, .int .i64 x.allowBidi.seen, .int .i64 x.allowBidi.closed, .int .i64 x.allowUni.most, .int .i64 x.allowUni.limit, .int .i64 x.allowUni.seen, .int .i64 x.allowUni.closed, .bool x.tellTotal, .bool x.tellBidi, .bool x.tellUni, .int .i64 x.last, .int .i64 x.number, .sl 2 (x.packets.map TPacket.enc), .int .i64 x.now, .int .i64 x.closed]
structure TLetter where
  number : Int
  payload : List UInt8
  deriving DecidableEq
def TLetter.enc (x : TLetter) : List D := [.int .i64 x.number, .str x.payload]
@[go_sem] theorem flat_TLetter (xs : List TLetter) : flatE (xs.map TLetter.enc) = true := flat_map (fun _ => rfl) xs
structure TTrack where
  id : Int
  server : Bool
  wrote : List UInt8
  got : List UInt8
  done : Bool
  ended : Bool
  broken : Bool
  deriving DecidableEq
def TTrack.enc (x : TTrack) : List D := [.int .i64 x.id, .bool x.server, .str x.wrote, .str x.got, .bool x.done, .bool x.ended, .bool x.broken]
@[go_sem] theorem flat_TTrack (xs : List TTrack) : flatE (xs.map TTrack.enc) = true := flat_map (fun _ => rfl) xs
structure TPair where
  client : TConn
  server : TConn
  toServer : List TLetter
  toClient : List TLetter
  tracks : List TTrack
  deriving DecidableEq
def TPair.enc (x : TPair) : List D := [.bool x.client.server, .int .i64 x.client.own.ring, .int .i64 x.client.own.window, .int .i64 x.client.own.windowMost, .int .i64 x.client.own.total, .int .i64 x.client.own.totalMost, .int .i64 x.client.own.bidi, .int .i64 x.client.own.uni, .int .i64 x.client.own.trip, .int .i64 x.client.peer.ring, .int .i64 x.client.peer.window, .int .i64 x.client.peer.windowMost, .int .i64 x.client.peer.total, .int .i64 x.client.peer.totalMost, .int .i64 x.client.peer.bidi, .int .i64 x.client.peer.uni, .int .i64 x.client.peer.trip, .sl 39 (x.client.streams.map TStream.enc), .int .i64 x.client.total.limit, .int .i64 x.client.total.used, .int .i64 x.client.total.blocked, .int .i64 x.client.total.told, .int .i64 x.client.inflow.size, .int .i64 x.client.inflow.most, .int .i64 x.client.inflow.limit, .int .i64 x.client.inflow.seen, .int .i64 x.client.inflow.read, .int .i64 x.client.inflow.since, .int .i64 x.client.openBidi.limit, .int .i64 x.client.openBidi.opened, .int .i64 x.client.openBidi.blocked, .int .i64 x.client.openUni.limit, .int .i64 x.client.openUni.opened, .int .i64 x.client.openUni.blocked, .int .i64 x.client.allowBidi.most, .int .i64 x.client.allowBidi.limit, .int .i64 x.client.allowBidi.seen, .int .i64 x.client.allowBidi.closed, .int .i64 x.client.allowUni.most, .int .i64 x.client.allowUni.limit, .int .i64 x.client.allowUni.seen, .int .i64 x.client.allowUni.closed, .bool x.client.tellTotal, .bool x.client.tellBidi, .bool x.client.tellUni, .int .i64 x.client.last, .int .i64 x.client.number, .sl 2 (x.client.packets.map TPacket.enc), .int .i64 x.client.now, .int .i64 x.client.closed, .bool x.server.server, .int .i64 x.server.own.ring, .int .i64 x.server.own.window, .int .i64 x.server.own.windowMost, .int .i64 x.server.own.total, .int .i64 x.server.own.totalMost, .int .i64 x.server.own.bidi, .int .i64 x.server.own.uni, .int .i64 x.server.own.trip, .int .i64 x.server.peer.ring, .int .i64 x.server.peer.window, .int .i64 x.server.peer.windowMost, .int .i64 x.server.peer.total, .int .i64 x.server.peer.totalMost, .int .i64 x.server.peer.bidi, .int .i64 x.server.peer.uni, .int .i64 x.server.peer.trip, .sl 39 (x.server.streams.map TStream.enc), .int .i64 x.server.total.limit, .int .i64 x.server.total.used, .int .i64 x.server.total.blocked, .int .i64 x.server.total.told, .int .i64 x.server.inflow.size, .int .i64 x.server.inflow.most, .int .i64 x.server.inflow.limit, .int .i64 x.server.inflow.seen, .int .i64 x.server.inflow.read, .int .i64 x.server.inflow.since, .int .i64 x.server.openBidi.limit, .int .i64 x.server.openBidi.opened, .int .i64 x.server.openBidi.blocked, .int .i64 x.server.openUni.limit, .int .i64 x.server.openUni.opened, .int .i64 x.server.openUni.blocked, .int .i64 x.server.allowBidi.most, .int .i64 x.server.allowBidi.limit, .int .i64 x.server.allowBidi.seen, .int .i64 x.server.allowBidi.closed, .int .i64 x.server.allowUni.most, .int .i64 x.server.allowUni.limit, .int .i64 x.server.allowUni.seen, .int .i64 x.server.allowUni.closed, .bool x.server.tellTotal, .bool x.server.tellBidi, .bool x.server.tellUni, .int .i64 x.server.last, .int .i64 x.server.number, .sl 2 (x.server.packets.map TPacket.enc), .int .i64 x.server.now, .int .i64 x.server.closed, .sl 2 (x.toServer.map TLetter.enc), .sl 2 (x.toClient.map TLetter.enc), .sl 7 (x.tracks.map TTrack.enc)]
set_option maxRecDepth 100000 in
theorem fits3 {f : Nat} {ds : List D} (h : Fits Try.prog (f + 1) 3 ds) : ∃ n : Int, ds = [.int .i64 n] := by
  unfold Fits at h; rw [Try.underlying3] at h; exact h
set_option maxRecDepth 100000 in
theorem fits9 {f : Nat} {ds : List D} (h : Fits Try.prog (f + 1) 9 ds) : ∃ n : List UInt8, ds = [.str n] := by
  unfold Fits at h; rw [Try.underlying9] at h; exact h
set_option maxRecDepth 100000 in
theorem fits200 {f : Nat} {ds : List D} (h : Fits Try.prog (f + 2) 200 ds) : ∃ x : TChunk, ds = x.enc := by
  unfold Fits at h; rw [Try.underlying200] at h
  obtain ⟨h2, h3⟩ := h
  have c3 : Try.prog.cellsOf 3 = 1 := by kernel_rfl
  have c9 : Try.prog.cellsOf 9 = 1 := by kernel_rfl
  have c200 : Try.prog.cellsOf 200 = 2 := by kernel_rfl
  rw [c200] at h2
  match ds, h2 with
  | [d0, d1], _ =>
    obtain ⟨x0, e0⟩ := fits3 (f := f + 0) (show Fits Try.prog (f + 0 + 1) 3 [d0] from by have := h3 _ (List.mem_of_getElem? (i := 0) rfl); simpa only [c3, List.drop_zero, List.drop_succ_cons, List.take_succ_cons, List.take_zero] using this)
    obtain ⟨x1, e1⟩ := fits9 (f := f + 0) (show Fits Try.prog (f + 0 + 1) 9 [d1] from by have := h3 _ (List.mem_of_getElem? (i := 1) rfl); simpa only [c9, List.drop_zero, List.drop_succ_cons, List.take_succ_cons, List.take_zero] using this)
    simp only [List.cons.injEq] at e0; obtain ⟨rfl, -⟩ := e0
    simp only [List.cons.injEq] at e1; obtain ⟨rfl, -⟩ := e1
    exact ⟨⟨x0, x1⟩, rfl⟩
set_option maxRecDepth 100000 in
theorem fits55 {f : Nat} {ds : List D} (h : Fits Try.prog (f + 3) 55 ds) : ∃ xs : List TChunk, ds = [.sl 2 (xs.map TChunk.enc)] := by
  unfold Fits at h; rw [Try.underlying55] at h
  obtain ⟨xs, rfl, h2⟩ := h
  obtain ⟨ys, rfl⟩ := enc_lift (f := TChunk.enc) xs fun c hc => fits200 (h2 c hc)
  exact ⟨ys, rfl⟩
set_option maxRecDepth 100000 in
theorem fits57 {f : Nat} {ds : List D} (h : Fits Try.prog (f + 4) 57 ds) : ∃ x : TBuffer, ds = x.enc := by
  unfold Fits at h; rw [Try.underlying57] at h
  obtain ⟨h2, h3⟩ := h
  have c3 : Try.prog.cellsOf 3 = 1 := by kernel_rfl
  have c55 : Try.prog.cellsOf 55 = 1 := by kernel_rfl
  have c57 : Try.prog.cellsOf 57 = 2 := by kernel_rfl
  rw [c57] at h2
  match ds, h2 with
  | [d0, d1], _ =>
    obtain ⟨x0, e0⟩ := fits3 (f := f + 2) (show Fits Try.prog (f + 2 + 1) 3 [d0] from by have := h3 _ (List.mem_of_getElem? (i := 0) rfl); simpa only [c3, List.drop_zero, List.drop_succ_cons, List.take_succ_cons, List.take_zero] using this)
    obtain ⟨x1, e1⟩ := fits55 (f := f + 0) (show Fits Try.prog (f + 0 + 3) 55 [d1] from by have := h3 _ (List.mem_of_getElem? (i := 1) rfl); simpa only [c55, List.drop_zero, List.drop_succ_cons, List.take_succ_cons, List.take_zero] using this)
    simp only [List.cons.injEq] at e0; obtain ⟨rfl, -⟩ := e0
    simp only [List.cons.injEq] at e1; obtain ⟨rfl, -⟩ := e1
    exact ⟨⟨x0, x1⟩, rfl⟩
theorem eI_fits {f : Nat} {ds : List D} (h : ∃ n : Int, ds = [.int .i64 n]) : ∃ n, ds = eI n := h

end Gv
