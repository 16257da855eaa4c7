/-
  The program's structs as Lean structures, and that an argument of such a type is one. Printed by a program of ours.
-/
import Derived.Test.YtgflikakblfdpaaFacts
import Derived.Test.YtgflikakblfdpaaGvRead
namespace Gv
open Go Go.Proofs

theorem cons_of_len {l : List D} {n : Nat} (h : l.length = n + 1) : ∃ d l', l = d :: l' ∧ l'.length = n := by
  cases l with
  | nil => simp at h
  | cons d l => exact ⟨d, l, rfl, by simpa using h⟩
def eI (n : Int) : List D := [.int .i64 n]
def eS (s : List UInt8) : List D := [.str s]
def eB (b : Bool) : List D := [.bool b]
def eU8 (n : Int) : List D := [.int .u8 n]
theorem enc_lift {α : Type} {f : α → List D} : ∀ (xs : List (List D)), (∀ c ∈ xs, ∃ a, c = f a) → ∃ ys : List α, xs = ys.map f
  | [], _ => ⟨[], rfl⟩
  | x :: xs, h => by
    obtain ⟨a, rfl⟩ := h x (by simp)
    obtain ⟨ys, rfl⟩ := enc_lift xs fun c hc => h c (by simp [hc])
    exact ⟨a :: ys, rfl⟩
theorem flat_map {α : Type} {f : α → List D} (h : ∀ a, (f a).all D.flat = true) (xs : List α) : flatE (xs.map f) = true := by simp [flatE, h]
@[go_sem] theorem flat_eI (xs : List Int) : flatE (xs.map eI) = true := flat_map (fun _ => rfl) xs
@[go_sem] theorem flat_eS (xs : List (List UInt8)) : flatE (xs.map eS) = true := flat_map (fun _ => rfl) xs
structure TCells where
  bytes : List Int
  read : Int
  deriving DecidableEq
def TCells.enc (x : TCells) : List D := [.sl 1 (x.bytes.map eI), .int .i64 x.read]
structure TChunk where
  offset : Int
  data : List UInt8
  deriving DecidableEq
def TChunk.enc (x : TChunk) : List D := [.int .i64 x.offset, .str x.data]
@[go_sem] theorem flat_TChunk (xs : List TChunk) : flatE (xs.map TChunk.enc) = true := flat_map (fun _ => rfl) xs
structure TBuffer where
  next : Int
  chunks : List TChunk
  deriving DecidableEq
def TBuffer.enc (x : TBuffer) : List D := [.int .i64 x.next, .sl 2 (x.chunks.map TChunk.enc)]
structure TConf where
  ring : Int
  window : Int
  windowMost : Int
  total : Int
  totalMost : Int
  bidi : Int
  uni : Int
  trip : Int
  deriving DecidableEq
def TConf.enc (x : TConf) : List D := [.int .i64 x.ring, .int .i64 x.window, .int .i64 x.windowMost, .int .i64 x.total, .int .i64 x.totalMost, .int .i64 x.bidi, .int .i64 x.uni, .int .i64 x.trip]
@[go_sem] theorem flat_TConf (xs : List TConf) : flatE (xs.map TConf.enc) = true := flat_map (fun _ => rfl) xs
structure TRing where
  size : Int
  base : Int
  end' : Int
  cells : List Int
  deriving DecidableEq
def TRing.enc (x : TRing) : List D := [.int .i64 x.size, .int .i64 x.base, .int .i64 x.end', .sl 1 (x.cells.map eI)]
structure TRange where
  low : Int
  high : Int
  deriving DecidableEq
def TRange.enc (x : TRange) : List D := [.int .i64 x.low, .int .i64 x.high]
@[go_sem] theorem flat_TRange (xs : List TRange) : flatE (xs.map TRange.enc) = true := flat_map (fun _ => rfl) xs
structure TSender where
  state : Int
  ring : TRing
  pending : List TRange
  flight : List TRange
  acked : List TRange
  final : Int
  fin : Int
  sent : Int
  code : Int
  deriving DecidableEq
def TSender.enc (x : TSender) : List D := [.int .i64 x.state, .int .i64 x.ring.size, .int .i64 x.ring.base, .int .i64 x.ring.end', .sl 1 (x.ring.cells.map eI), .sl 2 (x.pending.map TRange.enc), .sl 2 (x.flight.map TRange.enc), .sl 2 (x.acked.map TRange.enc), .int .i64 x.final, .int .i64 x.fin, .int .i64 x.sent, .int .i64 x.code]
structure TCredit where
  limit : Int
  used : Int
  blocked : Int
  told : Int
  deriving DecidableEq
def TCredit.enc (x : TCredit) : List D := [.int .i64 x.limit, .int .i64 x.used, .int .i64 x.blocked, .int .i64 x.told]
@[go_sem] theorem flat_TCredit (xs : List TCredit) : flatE (xs.map TCredit.enc) = true := flat_map (fun _ => rfl) xs
structure TReceiver where
  state : Int
  buffer : TBuffer
  final : Int
  highest : Int
  code : Int
  deriving DecidableEq
def TReceiver.enc (x : TReceiver) : List D := [.int .i64 x.state, .int .i64 x.buffer.next, .sl 2 (x.buffer.chunks.map TChunk.enc), .int .i64 x.final, .int .i64 x.highest, .int .i64 x.code]
structure TWindow where
  size : Int
  most : Int
  limit : Int
  seen : Int
  read : Int
  since : Int
  deriving DecidableEq
def TWindow.enc (x : TWindow) : List D := [.int .i64 x.size, .int .i64 x.most, .int .i64 x.limit, .int .i64 x.seen, .int .i64 x.read, .int .i64 x.since]
@[go_sem] theorem flat_TWindow (xs : List TWindow) : flatE (xs.map TWindow.enc) = true := flat_map (fun _ => rfl) xs
structure TPriority where
  urgency : Int
  incremental : Bool
  deriving DecidableEq
def TPriority.enc (x : TPriority) : List D := [.int .i64 x.urgency, .bool x.incremental]
@[go_sem] theorem flat_TPriority (xs : List TPriority) : flatE (xs.map TPriority.enc) = true := flat_map (fun _ => rfl) xs
structure TStream where
  id : Int
  send : TSender
  credit : TCredit
  recv : TReceiver
  window : TWindow
  priority : TPriority
  canSend : Bool
  canRecv : Bool
  tellReset : Bool
  tellStop : Bool
  tellMost : Bool
  stopped : Bool
  stopCode : Int
  counted : Bool
  deriving DecidableEq
def TStream.enc (x : TStream) : List D := [.int .i64 x.id, .int .i64 x.send.state, .int .i64 x.send.ring.size, .int .i64 x.send.ring.base, .int .i64 x.send.ring.end', .sl 1 (x.send.ring.cells.map eI), .sl 2 (x.send.pending.map TRange.enc), .sl 2 (x.send.flight.map TRange.enc), .sl 2 (x.send.acked.map TRange.enc), .int .i64 x.send.final, .int .i64 x.send.fin, .int .i64 x.send.sent, .int .i64 x.send.code, .int .i64 x.credit.limit, .int .i64 x.credit.used, .int .i64 x.credit.blocked, .int .i64 x.credit.told, .int .i64 x.recv.state, .int .i64 x.recv.buffer.next, .sl 2 (x.recv.buffer.chunks.map TChunk.enc), .int .i64 x.recv.final, .int .i64 x.recv.highest, .int .i64 x.recv.code, .int .i64 x.window.size, .int .i64 x.window.most, .int .i64 x.window.limit, .int .i64 x.window.seen, .int .i64 x.window.read, .int .i64 x.window.since, .int .i64 x.priority.urgency, .bool x.priority.incremental, .bool x.canSend, .bool x.canRecv, .bool x.tellReset, .bool x.tellStop, .bool x.tellMost, .bool x.stopped, .int .i64 x.stopCode, .bool x.counted]
structure TCount where
  limit : Int
  opened : Int
  blocked : Int
  deriving DecidableEq
def TCount.enc (x : TCount) : List D := [.int .i64 x.limit, .int .i64 x.opened, .int .i64 x.blocked]
@[go_sem] theorem flat_TCount (xs : List TCount) : flatE (xs.map TCount.enc) = true := flat_map (fun _ => rfl) xs
structure TAllow where
  most : Int
  limit : Int
  seen : Int
  closed : Int
  deriving DecidableEq
def TAllow.enc (x : TAllow) : List D := [.int .i64 x.most, .int .i64 x.limit, .int .i64 x.seen, .int .i64 x.closed]
@[go_sem] theorem flat_TAllow (xs : List TAllow) : flatE (xs.map TAllow.enc) = true := flat_map (fun _ => rfl) xs
structure TFrame where
  kind : Int
  stream : Int
  offset : Int
  data : List UInt8
  fin : Bool
  code : Int
  limit : Int
  final : Int
  uni : Bool
  deriving DecidableEq
def TFrame.enc (x : TFrame) : List D := [.int .i64 x.kind, .int .i64 x.stream, .int .i64 x.offset, .str x.data, .bool x.fin, .int .i64 x.code, .int .i64 x.limit, .int .i64 x.final, .bool x.uni]
@[go_sem] theorem flat_TFrame (xs : List TFrame) : flatE (xs.map TFrame.enc) = true := flat_map (fun _ => rfl) xs
structure TPacket where
  number : Int
  frames : List TFrame
  deriving DecidableEq
def TPacket.enc (x : TPacket) : List D := [.int .i64 x.number, .sl 9 (x.frames.map TFrame.enc)]
structure TConn where
  server : Bool
  own : TConf
  peer : TConf
  streams : List TStream
  total : TCredit
  inflow : TWindow
  openBidi : TCount
  openUni : TCount
  allowBidi : TAllow
  allowUni : TAllow
  tellTotal : Bool
  tellBidi : Bool
  tellUni : Bool
  last : Int
  number : Int
  packets : List TPacket
  now : Int
  closed : Int
  deriving DecidableEq
def TConn.enc (x : TConn) : List D := [.bool x.server, .int .i64 x.own.ring, .int .i64 x.own.window, .int .i64 x.own.windowMost, .int .i64 x.own.total, .int .i64 x.own.totalMost, .int .i64 x.own.bidi, .int .i64 x.own.uni, .int .i64 x.own.trip, .int .i64 x.peer.ring, .int .i64 x.peer.window, .int .i64 x.peer.windowMost, .int .i64 x.peer.total, .int .i64 x.peer.totalMost, .int .i64 x.peer.bidi, .int .i64 x.peer.uni, .int .i64 x.peer.trip, .sl 39 (x.streams.map TStream.enc), .int .i64 x.total.limit, .int .i64 x.total.used, .int .i64 x.total.blocked, .int .i64 x.total.told, .int .i64 x.inflow.size, .int .i64 x.inflow.most, .int .i64 x.inflow.limit, .int .i64 x.inflow.seen, .int .i64 x.inflow.read, .int .i64 x.inflow.since, .int .i64 x.openBidi.limit, .int .i64 x.openBidi.opened, .int .i64 x.openBidi.blocked, .int .i64 x.openUni.limit, .int .i64 x.openUni.opened, .int .i64 x.openUni.blocked, .int .i64 x.allowBidi.most, .int .i64 x.allowBidi.limit, .int .i64 x.allowBidi.seen, .int .i64 x.allowBidi.closed, .int .i64 x.allowUni.most, .int .i64 x.allowUni.limit, .int .i64 x.allowUni.seen, .int .i64 x.allowUni.closed, .bool x.tellTotal, .bool x.tellBidi, .bool x.tellUni, .int .i64 x.last, .int .i64 x.number, .sl 2 (x.packets.map TPacket.enc), .int .i64 x.now, .int .i64 x.closed]
structure TLetter where
  number : Int
  payload : List UInt8
  deriving DecidableEq
def TLetter.enc (x : TLetter) : List D := [.int .i64 x.number, .str x.payload]
@[go_sem] theorem flat_TLetter (xs : List TLetter) : flatE (xs.map TLetter.enc) = true := flat_map (fun _ => rfl) xs
structure TTrack where
  id : Int
  server : Bool
  wrote : List UInt8
  got : List UInt8
  done : Bool
  ended : Bool
  broken : Bool
  deriving DecidableEq
def TTrack.enc (x : TTrack) : List D := [.int .i64 x.id, .bool x.server, .str x.wrote, .str x.got, .bool x.done, .bool x.ended, .bool x.broken]
@[go_sem] theorem flat_TTrack (xs : List TTrack) : flatE (xs.map TTrack.enc) = true := flat_map (fun _ => rfl) xs
structure TPair where
  client : TConn
  server : TConn
  toServer : List TLetter
  toClient : List TLetter
  tracks : List TTrack
  deriving DecidableEq
def TPair.enc (x : TPair) : List D := [.bool x.client.server, .int .i64 x.client.own.ring, .int .i64 x.client.own.window, .int .i64 x.client.own.windowMost, .int .i64 x.client.own.total, .int .i64 x.client.own.totalMost, .int .i64 x.client.own.bidi, .int .i64 x.client.own.uni, .int .i64 x.client.own.trip, .int .i64 x.client.peer.ring, .int .i64 x.client.peer.window, .int .i64 x.client.peer.windowMost, .int .i64 x.client.peer.total, .int .i64 x.client.peer.totalMost, .int .i64 x.client.peer.bidi, .int .i64 x.client.peer.uni, .int .i64 x.client.peer.trip, .sl 39 (x.client.streams.map TStream.enc), .int .i64 x.client.total.limit, .int .i64 x.client.total.used, .int .i64 x.client.total.blocked, .int .i64 x.client.total.told, .int .i64 x.client.inflow.size, .int .i64 x.client.inflow.most, .int .i64 x.client.inflow.limit, .int .i64 x.client.inflow.seen, .int .i64 x.client.inflow.read, .int .i64 x.client.inflow.since, .int .i64 x.client.openBidi.limit, .int .i64 x.client.openBidi.opened, .int .i64 x.client.openBidi.blocked, .int .i64 x.client.openUni.limit, .int .i64 x.client.openUni.opened, .int .i64 x.client.openUni.blocked, .int .i64 x.client.allowBidi.most, .int .i64 x.client.allowBidi.limit, .int .i64 x.client.allowBidi.seen, .int .i64 x.client.allowBidi.closed, .int .i64 x.client.allowUni.most, .int .i64 x.client.allowUni.limit, .int .i64 x.client.allowUni.seen, .int .i64 x.client.allowUni.closed, .bool x.client.tellTotal, .bool x.client.tellBidi, .bool x.client.tellUni, .int .i64 x.client.last, .int .i64 x.client.number, .sl 2 (x.client.packets.map TPacket.enc), .int .i64 x.client.now, .int .i64 x.client.closed, .bool x.server.server, .int .i64 x.server.own.ring, .int .i64 x.server.own.window, .int .i64 x.server.own.windowMost, .int .i64 x.server.own.total, .int .i64 x.server.own.totalMost, .int .i64 x.server.own.bidi, .int .i64 x.server.own.uni, .int .i64 x.server.own.trip, .int .i64 x.server.peer.ring, .int .i64 x.server.peer.window, .int .i64 x.server.peer.windowMost, .int .i64 x.server.peer.total, .int .i64 x.server.peer.totalMost, .int .i64 x.server.peer.bidi, .int .i64 x.server.peer.uni, .int .i64 x.server.peer.trip, .sl 39 (x.server.streams.map TStream.enc), .int .i64 x.server.total.limit, .int .i64 x.server.total.used, .int .i64 x.server.total.blocked, .int .i64 x.server.total.told, .int .i64 x.server.inflow.size, .int .i64 x.server.inflow.most, .int .i64 x.server.inflow.limit, .int .i64 x.server.inflow.seen, .int .i64 x.server.inflow.read, .int .i64 x.server.inflow.since, .int .i64 x.server.openBidi.limit, .int .i64 x.server.openBidi.opened, .int .i64 x.server.openBidi.blocked, .int .i64 x.server.openUni.limit, .int .i64 x.server.openUni.opened, .int .i64 x.server.openUni.blocked, .int .i64 x.server.allowBidi.most, .int .i64 x.server.allowBidi.limit, .int .i64 x.server.allowBidi.seen, .int .i64 x.server.allowBidi.closed, .int .i64 x.server.allowUni.most, .int .i64 x.server.allowUni.limit, .int .i64 x.server.allowUni.seen, .int .i64 x.server.allowUni.closed, .bool x.server.tellTotal, .bool x.server.tellBidi, .bool x.server.tellUni, .int .i64 x.server.last, .int .i64 x.server.number, .sl 2 (x.server.packets.map TPacket.enc), .int .i64 x.server.now, .int .i64 x.server.closed, .sl 2 (x.toServer.map TLetter.enc), .sl 2 (x.toClient.map TLetter.enc), .sl 7 (x.tracks.map TTrack.enc)]
set_option maxRecDepth 100000 in
theorem fits3 {f : Nat} {ds : List D} (h : Fits Try.prog (f + 1) 3 ds) : ∃ n : Int, ds = [.int .i64 n] := by
  unfold Fits at h; rw [Try.underlying3] at h; exact h
set_option maxRecDepth 100000 in
theorem fits4 {f : Nat} {ds : List D} (h : Fits Try.prog (f + 1) 4 ds) : ∃ n : Bool, ds = [.bool n] := by
  unfold Fits at h; rw [Try.underlying4] at h; exact h
set_option maxRecDepth 100000 in
theorem fits69 {f : Nat} {ds : List D} (h : Fits Try.prog (f + 2) 69 ds) : ∃ x : TConf, ds = x.enc := by
  unfold Fits at h; rw [Try.underlying69] at h
  obtain ⟨h2, h3⟩ := h
  have c3 : Try.prog.cellsOf 3 = 1 := by kernel_rfl
  have c69 : Try.prog.cellsOf 69 = 8 := by kernel_rfl
  rw [c69] at h2
  match ds, h2 with
  | [d0, d1, d2, d3, d4, d5, d6, d7], _ =>
    obtain ⟨x0, e0⟩ := fits3 (f := f + 0) (show Fits Try.prog (f + 0 + 1) 3 [d0] from by have := h3 _ (List.mem_of_getElem? (i := 0) rfl); simpa only [c3, List.drop_zero, List.drop_succ_cons, List.take_succ_cons, List.take_zero] using this)
    obtain ⟨x1, e1⟩ := fits3 (f := f + 0) (show Fits Try.prog (f + 0 + 1) 3 [d1] from by have := h3 _ (List.mem_of_getElem? (i := 1) rfl); simpa only [c3, List.drop_zero, List.drop_succ_cons, List.take_succ_cons, List.take_zero] using this)
    obtain ⟨x2, e2⟩ := fits3 (f := f + 0) (show Fits Try.prog (f + 0 + 1) 3 [d2] from by have := h3 _ (List.mem_of_getElem? (i := 2) rfl); simpa only [c3, List.drop_zero, List.drop_succ_cons, List.take_succ_cons, List.take_zero] using this)
    obtain ⟨x3, e3⟩ := fits3 (f := f + 0) (show Fits Try.prog (f + 0 + 1) 3 [d3] from by have := h3 _ (List.mem_of_getElem? (i := 3) rfl); simpa only [c3, List.drop_zero, List.drop_succ_cons, List.take_succ_cons, List.take_zero] using this)
    obtain ⟨x4, e4⟩ := fits3 (f := f + 0) (show Fits Try.prog (f + 0 + 1) 3 [d4] from by have := h3 _ (List.mem_of_getElem? (i := 4) rfl); simpa only [c3, List.drop_zero, List.drop_succ_cons, List.take_succ_cons, List.take_zero] using this)
    obtain ⟨x5, e5⟩ := fits3 (f := f + 0) (show Fits Try.prog (f + 0 + 1) 3 [d5] from by have := h3 _ (List.mem_of_getElem? (i := 5) rfl); simpa only [c3, List.drop_zero, List.drop_succ_cons, List.take_succ_cons, List.take_zero] using this)
    obtain ⟨x6, e6⟩ := fits3 (f := f + 0) (show Fits Try.prog (f + 0 + 1) 3 [d6] from by have := h3 _ (List.mem_of_getElem? (i := 6) rfl); simpa only [c3, List.drop_zero, List.drop_succ_cons, List.take_succ_cons, List.take_zero] using this)
    obtain ⟨x7, e7⟩ := fits3 (f := f + 0) (show Fits Try.prog (f + 0 + 1) 3 [d7] from by have := h3 _ (List.mem_of_getElem? (i := 7) rfl); simpa only [c3, List.drop_zero, List.drop_succ_cons, List.take_succ_cons, List.take_zero] using this)
    simp only [List.cons.injEq] at e0; obtain ⟨rfl, -⟩ := e0
    simp only [List.cons.injEq] at e1; obtain ⟨rfl, -⟩ := e1
    simp only [List.cons.injEq] at e2; obtain ⟨rfl, -⟩ := e2
    simp only [List.cons.injEq] at e3; obtain ⟨rfl, -⟩ := e3
    simp only [List.cons.injEq] at e4; obtain ⟨rfl, -⟩ := e4
    simp only [List.cons.injEq] at e5; obtain ⟨rfl, -⟩ := e5
    simp only [List.cons.injEq] at e6; obtain ⟨rfl, -⟩ := e6
    simp only [List.cons.injEq] at e7; obtain ⟨rfl, -⟩ := e7
    exact ⟨⟨x0, x1, x2, x3, x4, x5, x6, x7⟩, rfl⟩
set_option maxRecDepth 100000 in
theorem fits42 {f : Nat} {ds : List D} (h : Fits Try.prog (f + 2) 42 ds) : ∃ xs : List Int, ds = [.sl 1 (xs.map eI)] := by
  unfold Fits at h; rw [Try.underlying42] at h
  obtain ⟨xs, rfl, h2⟩ := h
  obtain ⟨ys, rfl⟩ := enc_lift (f := eI) xs fun c hc => fits3 (h2 c hc)
  exact ⟨ys, rfl⟩
set_option maxRecDepth 100000 in
theorem fits216 {f : Nat} {ds : List D} (h : Fits Try.prog (f + 3) 216 ds) : ∃ x : TRing, ds = x.enc := by
  unfold Fits at h; rw [Try.underlying216] at h
  obtain ⟨h2, h3⟩ := h
  have c3 : Try.prog.cellsOf 3 = 1 := by kernel_rfl
  have c42 : Try.prog.cellsOf 42 = 1 := by kernel_rfl
  have c216 : Try.prog.cellsOf 216 = 4 := by kernel_rfl
  rw [c216] at h2
  match ds, h2 with
  | [d0, d1, d2, d3], _ =>
    obtain ⟨x0, e0⟩ := fits3 (f := f + 1) (show Fits Try.prog (f + 1 + 1) 3 [d0] from by have := h3 _ (List.mem_of_getElem? (i := 0) rfl); simpa only [c3, List.drop_zero, List.drop_succ_cons, List.take_succ_cons, List.take_zero] using this)
    obtain ⟨x1, e1⟩ := fits3 (f := f + 1) (show Fits Try.prog (f + 1 + 1) 3 [d1] from by have := h3 _ (List.mem_of_getElem? (i := 1) rfl); simpa only [c3, List.drop_zero, List.drop_succ_cons, List.take_succ_cons, List.take_zero] using this)
    obtain ⟨x2, e2⟩ := fits3 (f := f + 1) (show Fits Try.prog (f + 1 + 1) 3 [d2] from by have := h3 _ (List.mem_of_getElem? (i := 2) rfl); simpa only [c3, List.drop_zero, List.drop_succ_cons, List.take_succ_cons, List.take_zero] using this)
    obtain ⟨x3, e3⟩ := fits42 (f := f + 0) (show Fits Try.prog (f + 0 + 2) 42 [d3] from by have := h3 _ (List.mem_of_getElem? (i := 3) rfl); simpa only [c42, List.drop_zero, List.drop_succ_cons, List.take_succ_cons, List.take_zero] using this)
    simp only [List.cons.injEq] at e0; obtain ⟨rfl, -⟩ := e0
    simp only [List.cons.injEq] at e1; obtain ⟨rfl, -⟩ := e1
    simp only [List.cons.injEq] at e2; obtain ⟨rfl, -⟩ := e2
    simp only [List.cons.injEq] at e3; obtain ⟨rfl, -⟩ := e3
    exact ⟨⟨x0, x1, x2, x3⟩, rfl⟩
set_option maxRecDepth 100000 in
theorem fits276 {f : Nat} {ds : List D} (h : Fits Try.prog (f + 2) 276 ds) : ∃ x : TRange, ds = x.enc := by
  unfold Fits at h; rw [Try.underlying276] at h
  obtain ⟨h2, h3⟩ := h
  have c3 : Try.prog.cellsOf 3 = 1 := by kernel_rfl
  have c276 : Try.prog.cellsOf 276 = 2 := by kernel_rfl
  rw [c276] at h2
  match ds, h2 with
  | [d0, d1], _ =>
    obtain ⟨x0, e0⟩ := fits3 (f := f + 0) (show Fits Try.prog (f + 0 + 1) 3 [d0] from by have := h3 _ (List.mem_of_getElem? (i := 0) rfl); simpa only [c3, List.drop_zero, List.drop_succ_cons, List.take_succ_cons, List.take_zero] using this)
    obtain ⟨x1, e1⟩ := fits3 (f := f + 0) (show Fits Try.prog (f + 0 + 1) 3 [d1] from by have := h3 _ (List.mem_of_getElem? (i := 1) rfl); simpa only [c3, List.drop_zero, List.drop_succ_cons, List.take_succ_cons, List.take_zero] using this)
    simp only [List.cons.injEq] at e0; obtain ⟨rfl, -⟩ := e0
    simp only [List.cons.injEq] at e1; obtain ⟨rfl, -⟩ := e1
    exact ⟨⟨x0, x1⟩, rfl⟩
set_option maxRecDepth 100000 in
theorem fits217 {f : Nat} {ds : List D} (h : Fits Try.prog (f + 3) 217 ds) : ∃ xs : List TRange, ds = [.sl 2 (xs.map TRange.enc)] := by
  unfold Fits at h; rw [Try.underlying217] at h
  obtain ⟨xs, rfl, h2⟩ := h
  obtain ⟨ys, rfl⟩ := enc_lift (f := TRange.enc) xs fun c hc => fits276 (h2 c hc)
  exact ⟨ys, rfl⟩
set_option maxRecDepth 100000 in
theorem fits219 {f : Nat} {ds : List D} (h : Fits Try.prog (f + 4) 219 ds) : ∃ x : TSender, ds = x.enc := by
  unfold Fits at h; rw [Try.underlying219] at h
  obtain ⟨h2, h3⟩ := h
  have c3 : Try.prog.cellsOf 3 = 1 := by kernel_rfl
  have c216 : Try.prog.cellsOf 216 = 4 := by kernel_rfl
  have c217 : Try.prog.cellsOf 217 = 1 := by kernel_rfl
  have c219 : Try.prog.cellsOf 219 = 12 := by kernel_rfl
  rw [c219] at h2
  match ds, h2 with
  | [d0, d1, d2, d3, d4, d5, d6, d7, d8, d9, d10, d11], _ =>
    obtain ⟨x0, e0⟩ := fits3 (f := f + 2) (show Fits Try.prog (f + 2 + 1) 3 [d0] from by have := h3 _ (List.mem_of_getElem? (i := 0) rfl); simpa only [c3, List.drop_zero, List.drop_succ_cons, List.take_succ_cons, List.take_zero] using this)
    obtain ⟨x1, e1⟩ := fits216 (f := f + 0) (show Fits Try.prog (f + 0 + 3) 216 [d1, d2, d3, d4] from by have := h3 _ (List.mem_of_getElem? (i := 1) rfl); simpa only [c216, List.drop_zero, List.drop_succ_cons, List.take_succ_cons, List.take_zero] using this)
    obtain ⟨x2, e2⟩ := fits217 (f := f + 0) (show Fits Try.prog (f + 0 + 3) 217 [d5] from by have := h3 _ (List.mem_of_getElem? (i := 2) rfl); simpa only [c217, List.drop_zero, List.drop_succ_cons, List.take_succ_cons, List.take_zero] using this)
    obtain ⟨x3, e3⟩ := fits217 (f := f + 0) (show Fits Try.prog (f + 0 + 3) 217 [d6] from by have := h3 _ (List.mem_of_getElem? (i := 3) rfl); simpa only [c217, List.drop_zero, List.drop_succ_cons, List.take_succ_cons, List.take_zero] using this)
    obtain ⟨x4, e4⟩ := fits217 (f := f + 0) (show Fits Try.prog (f + 0 + 3) 217 [d7] from by have := h3 _ (List.mem_of_getElem? (i := 4) rfl); simpa only [c217, List.drop_zero, List.drop_succ_cons, List.take_succ_cons, List.take_zero] using this)
    obtain ⟨x5, e5⟩ := fits3 (f := f + 2) (show Fits Try.prog (f + 2 + 1) 3 [d8] from by have := h3 _ (List.mem_of_getElem? (i := 5) rfl); simpa only [c3, List.drop_zero, List.drop_succ_cons, List.take_succ_cons, List.take_zero] using this)
    obtain ⟨x6, e6⟩ := fits3 (f := f + 2) (show Fits Try.prog (f + 2 + 1) 3 [d9] from by have := h3 _ (List.mem_of_getElem? (i := 6) rfl); simpa only [c3, List.drop_zero, List.drop_succ_cons, List.take_succ_cons, List.take_zero] using this)
    obtain ⟨x7, e7⟩ := fits3 (f := f + 2) (show Fits Try.prog (f + 2 + 1) 3 [d10] from by have := h3 _ (List.mem_of_getElem? (i := 7) rfl); simpa only [c3, List.drop_zero, List.drop_succ_cons, List.take_succ_cons, List.take_zero] using this)
    obtain ⟨x8, e8⟩ := fits3 (f := f + 2) (show Fits Try.prog (f + 2 + 1) 3 [d11] from by have := h3 _ (List.mem_of_getElem? (i := 8) rfl); simpa only [c3, List.drop_zero, List.drop_succ_cons, List.take_succ_cons, List.take_zero] using this)
    simp only [List.cons.injEq] at e0; obtain ⟨rfl, -⟩ := e0
    simp only [TRing.enc, List.cons.injEq] at e1; obtain ⟨rfl, rfl, rfl, rfl, -⟩ := e1
    simp only [List.cons.injEq] at e2; obtain ⟨rfl, -⟩ := e2
    simp only [List.cons.injEq] at e3; obtain ⟨rfl, -⟩ := e3
    simp only [List.cons.injEq] at e4; obtain ⟨rfl, -⟩ := e4
    simp only [List.cons.injEq] at e5; obtain ⟨rfl, -⟩ := e5
    simp only [List.cons.injEq] at e6; obtain ⟨rfl, -⟩ := e6
    simp only [List.cons.injEq] at e7; obtain ⟨rfl, -⟩ := e7
    simp only [List.cons.injEq] at e8; obtain ⟨rfl, -⟩ := e8
    exact ⟨⟨x0, x1, x2, x3, x4, x5, x6, x7, x8⟩, rfl⟩
set_option maxRecDepth 100000 in
theorem fits72 {f : Nat} {ds : List D} (h : Fits Try.prog (f + 2) 72 ds) : ∃ x : TCredit, ds = x.enc := by
  unfold Fits at h; rw [Try.underlying72] at h
  obtain ⟨h2, h3⟩ := h
  have c3 : Try.prog.cellsOf 3 = 1 := by kernel_rfl
  have c72 : Try.prog.cellsOf 72 = 4 := by kernel_rfl
  rw [c72] at h2
  match ds, h2 with
  | [d0, d1, d2, d3], _ =>
    obtain ⟨x0, e0⟩ := fits3 (f := f + 0) (show Fits Try.prog (f + 0 + 1) 3 [d0] from by have := h3 _ (List.mem_of_getElem? (i := 0) rfl); simpa only [c3, List.drop_zero, List.drop_succ_cons, List.take_succ_cons, List.take_zero] using this)
    obtain ⟨x1, e1⟩ := fits3 (f := f + 0) (show Fits Try.prog (f + 0 + 1) 3 [d1] from by have := h3 _ (List.mem_of_getElem? (i := 1) rfl); simpa only [c3, List.drop_zero, List.drop_succ_cons, List.take_succ_cons, List.take_zero] using this)
    obtain ⟨x2, e2⟩ := fits3 (f := f + 0) (show Fits Try.prog (f + 0 + 1) 3 [d2] from by have := h3 _ (List.mem_of_getElem? (i := 2) rfl); simpa only [c3, List.drop_zero, List.drop_succ_cons, List.take_succ_cons, List.take_zero] using this)
    obtain ⟨x3, e3⟩ := fits3 (f := f + 0) (show Fits Try.prog (f + 0 + 1) 3 [d3] from by have := h3 _ (List.mem_of_getElem? (i := 3) rfl); simpa only [c3, List.drop_zero, List.drop_succ_cons, List.take_succ_cons, List.take_zero] using this)
    simp only [List.cons.injEq] at e0; obtain ⟨rfl, -⟩ := e0
    simp only [List.cons.injEq] at e1; obtain ⟨rfl, -⟩ := e1
    simp only [List.cons.injEq] at e2; obtain ⟨rfl, -⟩ := e2
    simp only [List.cons.injEq] at e3; obtain ⟨rfl, -⟩ := e3
    exact ⟨⟨x0, x1, x2, x3⟩, rfl⟩
set_option maxRecDepth 100000 in
theorem fits9 {f : Nat} {ds : List D} (h : Fits Try.prog (f + 1) 9 ds) : ∃ n : List UInt8, ds = [.str n] := by
  unfold Fits at h; rw [Try.underlying9] at h; exact h
set_option maxRecDepth 100000 in
theorem fits200 {f : Nat} {ds : List D} (h : Fits Try.prog (f + 2) 200 ds) : ∃ x : TChunk, ds = x.enc := by
  unfold Fits at h; rw [Try.underlying200] at h
  obtain ⟨h2, h3⟩ := h
  have c3 : Try.prog.cellsOf 3 = 1 := by kernel_rfl
  have c9 : Try.prog.cellsOf 9 = 1 := by kernel_rfl
  have c200 : Try.prog.cellsOf 200 = 2 := by kernel_rfl
  rw [c200] at h2
  match ds, h2 with
  | [d0, d1], _ =>
    obtain ⟨x0, e0⟩ := fits3 (f := f + 0) (show Fits Try.prog (f + 0 + 1) 3 [d0] from by have := h3 _ (List.mem_of_getElem? (i := 0) rfl); simpa only [c3, List.drop_zero, List.drop_succ_cons, List.take_succ_cons, List.take_zero] using this)
    obtain ⟨x1, e1⟩ := fits9 (f := f + 0) (show Fits Try.prog (f + 0 + 1) 9 [d1] from by have := h3 _ (List.mem_of_getElem? (i := 1) rfl); simpa only [c9, List.drop_zero, List.drop_succ_cons, List.take_succ_cons, List.take_zero] using this)
    simp only [List.cons.injEq] at e0; obtain ⟨rfl, -⟩ := e0
    simp only [List.cons.injEq] at e1; obtain ⟨rfl, -⟩ := e1
    exact ⟨⟨x0, x1⟩, rfl⟩
set_option maxRecDepth 100000 in
theorem fits55 {f : Nat} {ds : List D} (h : Fits Try.prog (f + 3) 55 ds) : ∃ xs : List TChunk, ds = [.sl 2 (xs.map TChunk.enc)] := by
  unfold Fits at h; rw [Try.underlying55] at h
  obtain ⟨xs, rfl, h2⟩ := h
  obtain ⟨ys, rfl⟩ := enc_lift (f := TChunk.enc) xs fun c hc => fits200 (h2 c hc)
  exact ⟨ys, rfl⟩
set_option maxRecDepth 100000 in
theorem fits57 {f : Nat} {ds : List D} (h : Fits Try.prog (f + 4) 57 ds) : ∃ x : TBuffer, ds = x.enc := by
  unfold Fits at h; rw [Try.underlying57] at h
  obtain ⟨h2, h3⟩ := h
  have c3 : Try.prog.cellsOf 3 = 1 := by kernel_rfl
  have c55 : Try.prog.cellsOf 55 = 1 := by kernel_rfl
  have c57 : Try.prog.cellsOf 57 = 2 := by kernel_rfl
  rw [c57] at h2
  match ds, h2 with
  | [d0, d1], _ =>
    obtain ⟨x0, e0⟩ := fits3 (f := f + 2) (show Fits Try.prog (f + 2 + 1) 3 [d0] from by have := h3 _ (List.mem_of_getElem? (i := 0) rfl); simpa only [c3, List.drop_zero, List.drop_succ_cons, List.take_succ_cons, List.take_zero] using this)
    obtain ⟨x1, e1⟩ := fits55 (f := f + 0) (show Fits Try.prog (f + 0 + 3) 55 [d1] from by have := h3 _ (List.mem_of_getElem? (i := 1) rfl); simpa only [c55, List.drop_zero, List.drop_succ_cons, List.take_succ_cons, List.take_zero] using this)
    simp only [List.cons.injEq] at e0; obtain ⟨rfl, -⟩ := e0
    simp only [List.cons.injEq] at e1; obtain ⟨rfl, -⟩ := e1
    exact ⟨⟨x0, x1⟩, rfl⟩
set_option maxRecDepth 100000 in
theorem fits221 {f : Nat} {ds : List D} (h : Fits Try.prog (f + 5) 221 ds) : ∃ x : TReceiver, ds = x.enc := by
  unfold Fits at h; rw [Try.underlying221] at h
  obtain ⟨h2, h3⟩ := h
  have c3 : Try.prog.cellsOf 3 = 1 := by kernel_rfl
  have c57 : Try.prog.cellsOf 57 = 2 := by kernel_rfl
  have c221 : Try.prog.cellsOf 221 = 6 := by kernel_rfl
  rw [c221] at h2
  match ds, h2 with
  | [d0, d1, d2, d3, d4, d5], _ =>
    obtain ⟨x0, e0⟩ := fits3 (f := f + 3) (show Fits Try.prog (f + 3 + 1) 3 [d0] from by have := h3 _ (List.mem_of_getElem? (i := 0) rfl); simpa only [c3, List.drop_zero, List.drop_succ_cons, List.take_succ_cons, List.take_zero] using this)
    obtain ⟨x1, e1⟩ := fits57 (f := f + 0) (show Fits Try.prog (f + 0 + 4) 57 [d1, d2] from by have := h3 _ (List.mem_of_getElem? (i := 1) rfl); simpa only [c57, List.drop_zero, List.drop_succ_cons, List.take_succ_cons, List.take_zero] using this)
    obtain ⟨x2, e2⟩ := fits3 (f := f + 3) (show Fits Try.prog (f + 3 + 1) 3 [d3] from by have := h3 _ (List.mem_of_getElem? (i := 2) rfl); simpa only [c3, List.drop_zero, List.drop_succ_cons, List.take_succ_cons, List.take_zero] using this)
    obtain ⟨x3, e3⟩ := fits3 (f := f + 3) (show Fits Try.prog (f + 3 + 1) 3 [d4] from by have := h3 _ (List.mem_of_getElem? (i := 3) rfl); simpa only [c3, List.drop_zero, List.drop_succ_cons, List.take_succ_cons, List.take_zero] using this)
    obtain ⟨x4, e4⟩ := fits3 (f := f + 3) (show Fits Try.prog (f + 3 + 1) 3 [d5] from by have := h3 _ (List.mem_of_getElem? (i := 4) rfl); simpa only [c3, List.drop_zero, List.drop_succ_cons, List.take_succ_cons, List.take_zero] using this)
    simp only [List.cons.injEq] at e0; obtain ⟨rfl, -⟩ := e0
    simp only [TBuffer.enc, List.cons.injEq] at e1; obtain ⟨rfl, rfl, -⟩ := e1
    simp only [List.cons.injEq] at e2; obtain ⟨rfl, -⟩ := e2
    simp only [List.cons.injEq] at e3; obtain ⟨rfl, -⟩ := e3
    simp only [List.cons.injEq] at e4; obtain ⟨rfl, -⟩ := e4
    exact ⟨⟨x0, x1, x2, x3, x4⟩, rfl⟩
set_option maxRecDepth 100000 in
theorem fits74 {f : Nat} {ds : List D} (h : Fits Try.prog (f + 2) 74 ds) : ∃ x : TWindow, ds = x.enc := by
  unfold Fits at h; rw [Try.underlying74] at h
  obtain ⟨h2, h3⟩ := h
  have c3 : Try.prog.cellsOf 3 = 1 := by kernel_rfl
  have c74 : Try.prog.cellsOf 74 = 6 := by kernel_rfl
  rw [c74] at h2
  match ds, h2 with
  | [d0, d1, d2, d3, d4, d5], _ =>
    obtain ⟨x0, e0⟩ := fits3 (f := f + 0) (show Fits Try.prog (f + 0 + 1) 3 [d0] from by have := h3 _ (List.mem_of_getElem? (i := 0) rfl); simpa only [c3, List.drop_zero, List.drop_succ_cons, List.take_succ_cons, List.take_zero] using this)
    obtain ⟨x1, e1⟩ := fits3 (f := f + 0) (show Fits Try.prog (f + 0 + 1) 3 [d1] from by have := h3 _ (List.mem_of_getElem? (i := 1) rfl); simpa only [c3, List.drop_zero, List.drop_succ_cons, List.take_succ_cons, List.take_zero] using this)
    obtain ⟨x2, e2⟩ := fits3 (f := f + 0) (show Fits Try.prog (f + 0 + 1) 3 [d2] from by have := h3 _ (List.mem_of_getElem? (i := 2) rfl); simpa only [c3, List.drop_zero, List.drop_succ_cons, List.take_succ_cons, List.take_zero] using this)
    obtain ⟨x3, e3⟩ := fits3 (f := f + 0) (show Fits Try.prog (f + 0 + 1) 3 [d3] from by have := h3 _ (List.mem_of_getElem? (i := 3) rfl); simpa only [c3, List.drop_zero, List.drop_succ_cons, List.take_succ_cons, List.take_zero] using this)
    obtain ⟨x4, e4⟩ := fits3 (f := f + 0) (show Fits Try.prog (f + 0 + 1) 3 [d4] from by have := h3 _ (List.mem_of_getElem? (i := 4) rfl); simpa only [c3, List.drop_zero, List.drop_succ_cons, List.take_succ_cons, List.take_zero] using this)
    obtain ⟨x5, e5⟩ := fits3 (f := f + 0) (show Fits Try.prog (f + 0 + 1) 3 [d5] from by have := h3 _ (List.mem_of_getElem? (i := 5) rfl); simpa only [c3, List.drop_zero, List.drop_succ_cons, List.take_succ_cons, List.take_zero] using this)
    simp only [List.cons.injEq] at e0; obtain ⟨rfl, -⟩ := e0
    simp only [List.cons.injEq] at e1; obtain ⟨rfl, -⟩ := e1
    simp only [List.cons.injEq] at e2; obtain ⟨rfl, -⟩ := e2
    simp only [List.cons.injEq] at e3; obtain ⟨rfl, -⟩ := e3
    simp only [List.cons.injEq] at e4; obtain ⟨rfl, -⟩ := e4
    simp only [List.cons.injEq] at e5; obtain ⟨rfl, -⟩ := e5
    exact ⟨⟨x0, x1, x2, x3, x4, x5⟩, rfl⟩
set_option maxRecDepth 100000 in
theorem fits223 {f : Nat} {ds : List D} (h : Fits Try.prog (f + 2) 223 ds) : ∃ x : TPriority, ds = x.enc := by
  unfold Fits at h; rw [Try.underlying223] at h
  obtain ⟨h2, h3⟩ := h
  have c3 : Try.prog.cellsOf 3 = 1 := by kernel_rfl
  have c4 : Try.prog.cellsOf 4 = 1 := by kernel_rfl
  have c223 : Try.prog.cellsOf 223 = 2 := by kernel_rfl
  rw [c223] at h2
  match ds, h2 with
  | [d0, d1], _ =>
    obtain ⟨x0, e0⟩ := fits3 (f := f + 0) (show Fits Try.prog (f + 0 + 1) 3 [d0] from by have := h3 _ (List.mem_of_getElem? (i := 0) rfl); simpa only [c3, List.drop_zero, List.drop_succ_cons, List.take_succ_cons, List.take_zero] using this)
    obtain ⟨x1, e1⟩ := fits4 (f := f + 0) (show Fits Try.prog (f + 0 + 1) 4 [d1] from by have := h3 _ (List.mem_of_getElem? (i := 1) rfl); simpa only [c4, List.drop_zero, List.drop_succ_cons, List.take_succ_cons, List.take_zero] using this)
    simp only [List.cons.injEq] at e0; obtain ⟨rfl, -⟩ := e0
    simp only [List.cons.injEq] at e1; obtain ⟨rfl, -⟩ := e1
    exact ⟨⟨x0, x1⟩, rfl⟩
set_option maxRecDepth 100000 in
set_option maxHeartbeats 4000000 in
theorem fits225 {f : Nat} {ds : List D} (h : Fits Try.prog (f + 6) 225 ds) : ∃ x : TStream, ds = x.enc := by
  unfold Fits at h; rw [Try.underlying225] at h
  obtain ⟨h2, h3⟩ := h
  have c3 : Try.prog.cellsOf 3 = 1 := by kernel_rfl
  have c4 : Try.prog.cellsOf 4 = 1 := by kernel_rfl
  have c72 : Try.prog.cellsOf 72 = 4 := by kernel_rfl
  have c74 : Try.prog.cellsOf 74 = 6 := by kernel_rfl
  have c219 : Try.prog.cellsOf 219 = 12 := by kernel_rfl
  have c221 : Try.prog.cellsOf 221 = 6 := by kernel_rfl
  have c223 : Try.prog.cellsOf 223 = 2 := by kernel_rfl
  have c225 : Try.prog.cellsOf 225 = 39 := by kernel_rfl
  rw [c225] at h2
  obtain ⟨d0, ds, rfl, hl0⟩ := cons_of_len (n := 38) h2
  obtain ⟨d1, ds, rfl, hl1⟩ := cons_of_len (n := 37) hl0
  obtain ⟨d2, ds, rfl, hl2⟩ := cons_of_len (n := 36) hl1
  obtain ⟨d3, ds, rfl, hl3⟩ := cons_of_len (n := 35) hl2
  obtain ⟨d4, ds, rfl, hl4⟩ := cons_of_len (n := 34) hl3
  obtain ⟨d5, ds, rfl, hl5⟩ := cons_of_len (n := 33) hl4
  obtain ⟨d6, ds, rfl, hl6⟩ := cons_of_len (n := 32) hl5
  obtain ⟨d7, ds, rfl, hl7⟩ := cons_of_len (n := 31) hl6
  obtain ⟨d8, ds, rfl, hl8⟩ := cons_of_len (n := 30) hl7
  obtain ⟨d9, ds, rfl, hl9⟩ := cons_of_len (n := 29) hl8
  obtain ⟨d10, ds, rfl, hl10⟩ := cons_of_len (n := 28) hl9
  obtain ⟨d11, ds, rfl, hl11⟩ := cons_of_len (n := 27) hl10
  obtain ⟨d12, ds, rfl, hl12⟩ := cons_of_len (n := 26) hl11
  obtain ⟨d13, ds, rfl, hl13⟩ := cons_of_len (n := 25) hl12
  obtain ⟨d14, ds, rfl, hl14⟩ := cons_of_len (n := 24) hl13
  obtain ⟨d15, ds, rfl, hl15⟩ := cons_of_len (n := 23) hl14
  obtain ⟨d16, ds, rfl, hl16⟩ := cons_of_len (n := 22) hl15
  obtain ⟨d17, ds, rfl, hl17⟩ := cons_of_len (n := 21) hl16
  obtain ⟨d18, ds, rfl, hl18⟩ := cons_of_len (n := 20) hl17
  obtain ⟨d19, ds, rfl, hl19⟩ := cons_of_len (n := 19) hl18
  obtain ⟨d20, ds, rfl, hl20⟩ := cons_of_len (n := 18) hl19
  obtain ⟨d21, ds, rfl, hl21⟩ := cons_of_len (n := 17) hl20
  obtain ⟨d22, ds, rfl, hl22⟩ := cons_of_len (n := 16) hl21
  obtain ⟨d23, ds, rfl, hl23⟩ := cons_of_len (n := 15) hl22
  obtain ⟨d24, ds, rfl, hl24⟩ := cons_of_len (n := 14) hl23
  obtain ⟨d25, ds, rfl, hl25⟩ := cons_of_len (n := 13) hl24
  obtain ⟨d26, ds, rfl, hl26⟩ := cons_of_len (n := 12) hl25
  obtain ⟨d27, ds, rfl, hl27⟩ := cons_of_len (n := 11) hl26
  obtain ⟨d28, ds, rfl, hl28⟩ := cons_of_len (n := 10) hl27
  obtain ⟨d29, ds, rfl, hl29⟩ := cons_of_len (n := 9) hl28
  obtain ⟨d30, ds, rfl, hl30⟩ := cons_of_len (n := 8) hl29
  obtain ⟨d31, ds, rfl, hl31⟩ := cons_of_len (n := 7) hl30
  obtain ⟨d32, ds, rfl, hl32⟩ := cons_of_len (n := 6) hl31
  obtain ⟨d33, ds, rfl, hl33⟩ := cons_of_len (n := 5) hl32
  obtain ⟨d34, ds, rfl, hl34⟩ := cons_of_len (n := 4) hl33
  obtain ⟨d35, ds, rfl, hl35⟩ := cons_of_len (n := 3) hl34
  obtain ⟨d36, ds, rfl, hl36⟩ := cons_of_len (n := 2) hl35
  obtain ⟨d37, ds, rfl, hl37⟩ := cons_of_len (n := 1) hl36
  obtain ⟨d38, ds, rfl, hl38⟩ := cons_of_len (n := 0) hl37
  obtain rfl := List.eq_nil_of_length_eq_zero hl38
  next =>
    obtain ⟨x0, e0⟩ := fits3 (f := f + 4) (show Fits Try.prog (f + 4 + 1) 3 [d0] from by have := h3 _ (List.mem_of_getElem? (i := 0) rfl); simpa only [c3, List.drop_zero, List.drop_succ_cons, List.take_succ_cons, List.take_zero] using this)
    obtain ⟨x1, e1⟩ := fits219 (f := f + 1) (show Fits Try.prog (f + 1 + 4) 219 [d1, d2, d3, d4, d5, d6, d7, d8, d9, d10, d11, d12] from by have := h3 _ (List.mem_of_getElem? (i := 1) rfl); simpa only [c219, List.drop_zero, List.drop_succ_cons, List.take_succ_cons, List.take_zero] using this)
    obtain ⟨x2, e2⟩ := fits72 (f := f + 3) (show Fits Try.prog (f + 3 + 2) 72 [d13, d14, d15, d16] from by have := h3 _ (List.mem_of_getElem? (i := 2) rfl); simpa only [c72, List.drop_zero, List.drop_succ_cons, List.take_succ_cons, List.take_zero] using this)
    obtain ⟨x3, e3⟩ := fits221 (f := f + 0) (show Fits Try.prog (f + 0 + 5) 221 [d17, d18, d19, d20, d21, d22] from by have := h3 _ (List.mem_of_getElem? (i := 3) rfl); simpa only [c221, List.drop_zero, List.drop_succ_cons, List.take_succ_cons, List.take_zero] using this)
    obtain ⟨x4, e4⟩ := fits74 (f := f + 3) (show Fits Try.prog (f + 3 + 2) 74 [d23, d24, d25, d26, d27, d28] from by have := h3 _ (List.mem_of_getElem? (i := 4) rfl); simpa only [c74, List.drop_zero, List.drop_succ_cons, List.take_succ_cons, List.take_zero] using this)
    obtain ⟨x5, e5⟩ := fits223 (f := f + 3) (show Fits Try.prog (f + 3 + 2) 223 [d29, d30] from by have := h3 _ (List.mem_of_getElem? (i := 5) rfl); simpa only [c223, List.drop_zero, List.drop_succ_cons, List.take_succ_cons, List.take_zero] using this)
    obtain ⟨x6, e6⟩ := fits4 (f := f + 4) (show Fits Try.prog (f + 4 + 1) 4 [d31] from by have := h3 _ (List.mem_of_getElem? (i := 6) rfl); simpa only [c4, List.drop_zero, List.drop_succ_cons, List.take_succ_cons, List.take_zero] using this)
    obtain ⟨x7, e7⟩ := fits4 (f := f + 4) (show Fits Try.prog (f + 4 + 1) 4 [d32] from by have := h3 _ (List.mem_of_getElem? (i := 7) rfl); simpa only [c4, List.drop_zero, List.drop_succ_cons, List.take_succ_cons, List.take_zero] using this)
    obtain ⟨x8, e8⟩ := fits4 (f := f + 4) (show Fits Try.prog (f + 4 + 1) 4 [d33] from by have := h3 _ (List.mem_of_getElem? (i := 8) rfl); simpa only [c4, List.drop_zero, List.drop_succ_cons, List.take_succ_cons, List.take_zero] using this)
    obtain ⟨x9, e9⟩ := fits4 (f := f + 4) (show Fits Try.prog (f + 4 + 1) 4 [d34] from by have := h3 _ (List.mem_of_getElem? (i := 9) rfl); simpa only [c4, List.drop_zero, List.drop_succ_cons, List.take_succ_cons, List.take_zero] using this)
    obtain ⟨x10, e10⟩ := fits4 (f := f + 4) (show Fits Try.prog (f + 4 + 1) 4 [d35] from by have := h3 _ (List.mem_of_getElem? (i := 10) rfl); simpa only [c4, List.drop_zero, List.drop_succ_cons, List.take_succ_cons, List.take_zero] using this)
    obtain ⟨x11, e11⟩ := fits4 (f := f + 4) (show Fits Try.prog (f + 4 + 1) 4 [d36] from by have := h3 _ (List.mem_of_getElem? (i := 11) rfl); simpa only [c4, List.drop_zero, List.drop_succ_cons, List.take_succ_cons, List.take_zero] using this)
    obtain ⟨x12, e12⟩ := fits3 (f := f + 4) (show Fits Try.prog (f + 4 + 1) 3 [d37] from by have := h3 _ (List.mem_of_getElem? (i := 12) rfl); simpa only [c3, List.drop_zero, List.drop_succ_cons, List.take_succ_cons, List.take_zero] using this)
    obtain ⟨x13, e13⟩ := fits4 (f := f + 4) (show Fits Try.prog (f + 4 + 1) 4 [d38] from by have := h3 _ (List.mem_of_getElem? (i := 13) rfl); simpa only [c4, List.drop_zero, List.drop_succ_cons, List.take_succ_cons, List.take_zero] using this)
    simp only [List.cons.injEq] at e0; obtain ⟨rfl, -⟩ := e0
    simp only [TSender.enc, List.cons.injEq] at e1; obtain ⟨rfl, rfl, rfl, rfl, rfl, rfl, rfl, rfl, rfl, rfl, rfl, rfl, -⟩ := e1
    simp only [TCredit.enc, List.cons.injEq] at e2; obtain ⟨rfl, rfl, rfl, rfl, -⟩ := e2
    simp only [TReceiver.enc, List.cons.injEq] at e3; obtain ⟨rfl, rfl, rfl, rfl, rfl, rfl, -⟩ := e3
    simp only [TWindow.enc, List.cons.injEq] at e4; obtain ⟨rfl, rfl, rfl, rfl, rfl, rfl, -⟩ := e4
    simp only [TPriority.enc, List.cons.injEq] at e5; obtain ⟨rfl, rfl, -⟩ := e5
    simp only [List.cons.injEq] at e6; obtain ⟨rfl, -⟩ := e6
    simp only [List.cons.injEq] at e7; obtain ⟨rfl, -⟩ := e7
    simp only [List.cons.injEq] at e8; obtain ⟨rfl, -⟩ := e8
    simp only [List.cons.injEq] at e9; obtain ⟨rfl, -⟩ := e9
    simp only [List.cons.injEq] at e10; obtain ⟨rfl, -⟩ := e10
    simp only [List.cons.injEq] at e11; obtain ⟨rfl, -⟩ := e11
    simp only [List.cons.injEq] at e12; obtain ⟨rfl, -⟩ := e12
    simp only [List.cons.injEq] at e13; obtain ⟨rfl, -⟩ := e13
    exact ⟨⟨x0, x1, x2, x3, x4, x5, x6, x7, x8, x9, x10, x11, x12, x13⟩, rfl⟩
set_option maxRecDepth 100000 in
theorem fits70 {f : Nat} {ds : List D} (h : Fits Try.prog (f + 7) 70 ds) : ∃ xs : List TStream, ds = [.sl 39 (xs.map TStream.enc)] := by
  unfold Fits at h; rw [Try.underlying70] at h
  obtain ⟨xs, rfl, h2⟩ := h
  obtain ⟨ys, rfl⟩ := enc_lift (f := TStream.enc) xs fun c hc => fits225 (h2 c hc)
  exact ⟨ys, rfl⟩
set_option maxRecDepth 100000 in
theorem fits76 {f : Nat} {ds : List D} (h : Fits Try.prog (f + 2) 76 ds) : ∃ x : TCount, ds = x.enc := by
  unfold Fits at h; rw [Try.underlying76] at h
  obtain ⟨h2, h3⟩ := h
  have c3 : Try.prog.cellsOf 3 = 1 := by kernel_rfl
  have c76 : Try.prog.cellsOf 76 = 3 := by kernel_rfl
  rw [c76] at h2
  match ds, h2 with
  | [d0, d1, d2], _ =>
    obtain ⟨x0, e0⟩ := fits3 (f := f + 0) (show Fits Try.prog (f + 0 + 1) 3 [d0] from by have := h3 _ (List.mem_of_getElem? (i := 0) rfl); simpa only [c3, List.drop_zero, List.drop_succ_cons, List.take_succ_cons, List.take_zero] using this)
    obtain ⟨x1, e1⟩ := fits3 (f := f + 0) (show Fits Try.prog (f + 0 + 1) 3 [d1] from by have := h3 _ (List.mem_of_getElem? (i := 1) rfl); simpa only [c3, List.drop_zero, List.drop_succ_cons, List.take_succ_cons, List.take_zero] using this)
    obtain ⟨x2, e2⟩ := fits3 (f := f + 0) (show Fits Try.prog (f + 0 + 1) 3 [d2] from by have := h3 _ (List.mem_of_getElem? (i := 2) rfl); simpa only [c3, List.drop_zero, List.drop_succ_cons, List.take_succ_cons, List.take_zero] using this)
    simp only [List.cons.injEq] at e0; obtain ⟨rfl, -⟩ := e0
    simp only [List.cons.injEq] at e1; obtain ⟨rfl, -⟩ := e1
    simp only [List.cons.injEq] at e2; obtain ⟨rfl, -⟩ := e2
    exact ⟨⟨x0, x1, x2⟩, rfl⟩
set_option maxRecDepth 100000 in
theorem fits78 {f : Nat} {ds : List D} (h : Fits Try.prog (f + 2) 78 ds) : ∃ x : TAllow, ds = x.enc := by
  unfold Fits at h; rw [Try.underlying78] at h
  obtain ⟨h2, h3⟩ := h
  have c3 : Try.prog.cellsOf 3 = 1 := by kernel_rfl
  have c78 : Try.prog.cellsOf 78 = 4 := by kernel_rfl
  rw [c78] at h2
  match ds, h2 with
  | [d0, d1, d2, d3], _ =>
    obtain ⟨x0, e0⟩ := fits3 (f := f + 0) (show Fits Try.prog (f + 0 + 1) 3 [d0] from by have := h3 _ (List.mem_of_getElem? (i := 0) rfl); simpa only [c3, List.drop_zero, List.drop_succ_cons, List.take_succ_cons, List.take_zero] using this)
    obtain ⟨x1, e1⟩ := fits3 (f := f + 0) (show Fits Try.prog (f + 0 + 1) 3 [d1] from by have := h3 _ (List.mem_of_getElem? (i := 1) rfl); simpa only [c3, List.drop_zero, List.drop_succ_cons, List.take_succ_cons, List.take_zero] using this)
    obtain ⟨x2, e2⟩ := fits3 (f := f + 0) (show Fits Try.prog (f + 0 + 1) 3 [d2] from by have := h3 _ (List.mem_of_getElem? (i := 2) rfl); simpa only [c3, List.drop_zero, List.drop_succ_cons, List.take_succ_cons, List.take_zero] using this)
    obtain ⟨x3, e3⟩ := fits3 (f := f + 0) (show Fits Try.prog (f + 0 + 1) 3 [d3] from by have := h3 _ (List.mem_of_getElem? (i := 3) rfl); simpa only [c3, List.drop_zero, List.drop_succ_cons, List.take_succ_cons, List.take_zero] using this)
    simp only [List.cons.injEq] at e0; obtain ⟨rfl, -⟩ := e0
    simp only [List.cons.injEq] at e1; obtain ⟨rfl, -⟩ := e1
    simp only [List.cons.injEq] at e2; obtain ⟨rfl, -⟩ := e2
    simp only [List.cons.injEq] at e3; obtain ⟨rfl, -⟩ := e3
    exact ⟨⟨x0, x1, x2, x3⟩, rfl⟩
set_option maxRecDepth 100000 in
theorem fits270 {f : Nat} {ds : List D} (h : Fits Try.prog (f + 2) 270 ds) : ∃ x : TFrame, ds = x.enc := by
  unfold Fits at h; rw [Try.underlying270] at h
  obtain ⟨h2, h3⟩ := h
  have c3 : Try.prog.cellsOf 3 = 1 := by kernel_rfl
  have c4 : Try.prog.cellsOf 4 = 1 := by kernel_rfl
  have c9 : Try.prog.cellsOf 9 = 1 := by kernel_rfl
  have c270 : Try.prog.cellsOf 270 = 9 := by kernel_rfl
  rw [c270] at h2
  match ds, h2 with
  | [d0, d1, d2, d3, d4, d5, d6, d7, d8], _ =>
    obtain ⟨x0, e0⟩ := fits3 (f := f + 0) (show Fits Try.prog (f + 0 + 1) 3 [d0] from by have := h3 _ (List.mem_of_getElem? (i := 0) rfl); simpa only [c3, List.drop_zero, List.drop_succ_cons, List.take_succ_cons, List.take_zero] using this)
    obtain ⟨x1, e1⟩ := fits3 (f := f + 0) (show Fits Try.prog (f + 0 + 1) 3 [d1] from by have := h3 _ (List.mem_of_getElem? (i := 1) rfl); simpa only [c3, List.drop_zero, List.drop_succ_cons, List.take_succ_cons, List.take_zero] using this)
    obtain ⟨x2, e2⟩ := fits3 (f := f + 0) (show Fits Try.prog (f + 0 + 1) 3 [d2] from by have := h3 _ (List.mem_of_getElem? (i := 2) rfl); simpa only [c3, List.drop_zero, List.drop_succ_cons, List.take_succ_cons, List.take_zero] using this)
    obtain ⟨x3, e3⟩ := fits9 (f := f + 0) (show Fits Try.prog (f + 0 + 1) 9 [d3] from by have := h3 _ (List.mem_of_getElem? (i := 3) rfl); simpa only [c9, List.drop_zero, List.drop_succ_cons, List.take_succ_cons, List.take_zero] using this)
    obtain ⟨x4, e4⟩ := fits4 (f := f + 0) (show Fits Try.prog (f + 0 + 1) 4 [d4] from by have := h3 _ (List.mem_of_getElem? (i := 4) rfl); simpa only [c4, List.drop_zero, List.drop_succ_cons, List.take_succ_cons, List.take_zero] using this)
    obtain ⟨x5, e5⟩ := fits3 (f := f + 0) (show Fits Try.prog (f + 0 + 1) 3 [d5] from by have := h3 _ (List.mem_of_getElem? (i := 5) rfl); simpa only [c3, List.drop_zero, List.drop_succ_cons, List.take_succ_cons, List.take_zero] using this)
    obtain ⟨x6, e6⟩ := fits3 (f := f + 0) (show Fits Try.prog (f + 0 + 1) 3 [d6] from by have := h3 _ (List.mem_of_getElem? (i := 6) rfl); simpa only [c3, List.drop_zero, List.drop_succ_cons, List.take_succ_cons, List.take_zero] using this)
    obtain ⟨x7, e7⟩ := fits3 (f := f + 0) (show Fits Try.prog (f + 0 + 1) 3 [d7] from by have := h3 _ (List.mem_of_getElem? (i := 7) rfl); simpa only [c3, List.drop_zero, List.drop_succ_cons, List.take_succ_cons, List.take_zero] using this)
    obtain ⟨x8, e8⟩ := fits4 (f := f + 0) (show Fits Try.prog (f + 0 + 1) 4 [d8] from by have := h3 _ (List.mem_of_getElem? (i := 8) rfl); simpa only [c4, List.drop_zero, List.drop_succ_cons, List.take_succ_cons, List.take_zero] using this)
    simp only [List.cons.injEq] at e0; obtain ⟨rfl, -⟩ := e0
    simp only [List.cons.injEq] at e1; obtain ⟨rfl, -⟩ := e1
    simp only [List.cons.injEq] at e2; obtain ⟨rfl, -⟩ := e2
    simp only [List.cons.injEq] at e3; obtain ⟨rfl, -⟩ := e3
    simp only [List.cons.injEq] at e4; obtain ⟨rfl, -⟩ := e4
    simp only [List.cons.injEq] at e5; obtain ⟨rfl, -⟩ := e5
    simp only [List.cons.injEq] at e6; obtain ⟨rfl, -⟩ := e6
    simp only [List.cons.injEq] at e7; obtain ⟨rfl, -⟩ := e7
    simp only [List.cons.injEq] at e8; obtain ⟨rfl, -⟩ := e8
    exact ⟨⟨x0, x1, x2, x3, x4, x5, x6, x7, x8⟩, rfl⟩
set_option maxRecDepth 100000 in
theorem fits227 {f : Nat} {ds : List D} (h : Fits Try.prog (f + 3) 227 ds) : ∃ xs : List TFrame, ds = [.sl 9 (xs.map TFrame.enc)] := by
  unfold Fits at h; rw [Try.underlying227] at h
  obtain ⟨xs, rfl, h2⟩ := h
  obtain ⟨ys, rfl⟩ := enc_lift (f := TFrame.enc) xs fun c hc => fits270 (h2 c hc)
  exact ⟨ys, rfl⟩
set_option maxRecDepth 100000 in
theorem fits229 {f : Nat} {ds : List D} (h : Fits Try.prog (f + 4) 229 ds) : ∃ x : TPacket, ds = x.enc := by
  unfold Fits at h; rw [Try.underlying229] at h
  obtain ⟨h2, h3⟩ := h
  have c3 : Try.prog.cellsOf 3 = 1 := by kernel_rfl
  have c227 : Try.prog.cellsOf 227 = 1 := by kernel_rfl
  have c229 : Try.prog.cellsOf 229 = 2 := by kernel_rfl
  rw [c229] at h2
  match ds, h2 with
  | [d0, d1], _ =>
    obtain ⟨x0, e0⟩ := fits3 (f := f + 2) (show Fits Try.prog (f + 2 + 1) 3 [d0] from by have := h3 _ (List.mem_of_getElem? (i := 0) rfl); simpa only [c3, List.drop_zero, List.drop_succ_cons, List.take_succ_cons, List.take_zero] using this)
    obtain ⟨x1, e1⟩ := fits227 (f := f + 0) (show Fits Try.prog (f + 0 + 3) 227 [d1] from by have := h3 _ (List.mem_of_getElem? (i := 1) rfl); simpa only [c227, List.drop_zero, List.drop_succ_cons, List.take_succ_cons, List.take_zero] using this)
    simp only [List.cons.injEq] at e0; obtain ⟨rfl, -⟩ := e0
    simp only [List.cons.injEq] at e1; obtain ⟨rfl, -⟩ := e1
    exact ⟨⟨x0, x1⟩, rfl⟩
set_option maxRecDepth 100000 in
theorem fits79 {f : Nat} {ds : List D} (h : Fits Try.prog (f + 5) 79 ds) : ∃ xs : List TPacket, ds = [.sl 2 (xs.map TPacket.enc)] := by
  unfold Fits at h; rw [Try.underlying79] at h
  obtain ⟨xs, rfl, h2⟩ := h
  obtain ⟨ys, rfl⟩ := enc_lift (f := TPacket.enc) xs fun c hc => fits229 (h2 c hc)
  exact ⟨ys, rfl⟩
set_option maxRecDepth 100000 in
set_option maxHeartbeats 4000000 in
theorem fits81 {f : Nat} {ds : List D} (h : Fits Try.prog (f + 8) 81 ds) : ∃ x : TConn, ds = x.enc := by
  unfold Fits at h; rw [Try.underlying81] at h
  obtain ⟨h2, h3⟩ := h
  have c3 : Try.prog.cellsOf 3 = 1 := by kernel_rfl
  have c4 : Try.prog.cellsOf 4 = 1 := by kernel_rfl
  have c69 : Try.prog.cellsOf 69 = 8 := by kernel_rfl
  have c70 : Try.prog.cellsOf 70 = 1 := by kernel_rfl
  have c72 : Try.prog.cellsOf 72 = 4 := by kernel_rfl
  have c74 : Try.prog.cellsOf 74 = 6 := by kernel_rfl
  have c76 : Try.prog.cellsOf 76 = 3 := by kernel_rfl
  have c78 : Try.prog.cellsOf 78 = 4 := by kernel_rfl
  have c79 : Try.prog.cellsOf 79 = 1 := by kernel_rfl
  have c81 : Try.prog.cellsOf 81 = 50 := by kernel_rfl
  rw [c81] at h2
  obtain ⟨d0, ds, rfl, hl0⟩ := cons_of_len (n := 49) h2
  obtain ⟨d1, ds, rfl, hl1⟩ := cons_of_len (n := 48) hl0
  obtain ⟨d2, ds, rfl, hl2⟩ := cons_of_len (n := 47) hl1
  obtain ⟨d3, ds, rfl, hl3⟩ := cons_of_len (n := 46) hl2
  obtain ⟨d4, ds, rfl, hl4⟩ := cons_of_len (n := 45) hl3
  obtain ⟨d5, ds, rfl, hl5⟩ := cons_of_len (n := 44) hl4
  obtain ⟨d6, ds, rfl, hl6⟩ := cons_of_len (n := 43) hl5
  obtain ⟨d7, ds, rfl, hl7⟩ := cons_of_len (n := 42) hl6
  obtain ⟨d8, ds, rfl, hl8⟩ := cons_of_len (n := 41) hl7
  obtain ⟨d9, ds, rfl, hl9⟩ := cons_of_len (n := 40) hl8
  obtain ⟨d10, ds, rfl, hl10⟩ := cons_of_len (n := 39) hl9
  obtain ⟨d11, ds, rfl, hl11⟩ := cons_of_len (n := 38) hl10
  obtain ⟨d12, ds, rfl, hl12⟩ := cons_of_len (n := 37) hl11
  obtain ⟨d13, ds, rfl, hl13⟩ := cons_of_len (n := 36) hl12
  obtain ⟨d14, ds, rfl, hl14⟩ := cons_of_len (n := 35) hl13
  obtain ⟨d15, ds, rfl, hl15⟩ := cons_of_len (n := 34) hl14
  obtain ⟨d16, ds, rfl, hl16⟩ := cons_of_len (n := 33) hl15
  obtain ⟨d17, ds, rfl, hl17⟩ := cons_of_len (n := 32) hl16
  obtain ⟨d18, ds, rfl, hl18⟩ := cons_of_len (n := 31) hl17
  obtain ⟨d19, ds, rfl, hl19⟩ := cons_of_len (n := 30) hl18
  obtain ⟨d20, ds, rfl, hl20⟩ := cons_of_len (n := 29) hl19
  obtain ⟨d21, ds, rfl, hl21⟩ := cons_of_len (n := 28) hl20
  obtain ⟨d22, ds, rfl, hl22⟩ := cons_of_len (n := 27) hl21
  obtain ⟨d23, ds, rfl, hl23⟩ := cons_of_len (n := 26) hl22
  obtain ⟨d24, ds, rfl, hl24⟩ := cons_of_len (n := 25) hl23
  obtain ⟨d25, ds, rfl, hl25⟩ := cons_of_len (n := 24) hl24
  obtain ⟨d26, ds, rfl, hl26⟩ := cons_of_len (n := 23) hl25
  obtain ⟨d27, ds, rfl, hl27⟩ := cons_of_len (n := 22) hl26
  obtain ⟨d28, ds, rfl, hl28⟩ := cons_of_len (n := 21) hl27
  obtain ⟨d29, ds, rfl, hl29⟩ := cons_of_len (n := 20) hl28
  obtain ⟨d30, ds, rfl, hl30⟩ := cons_of_len (n := 19) hl29
  obtain ⟨d31, ds, rfl, hl31⟩ := cons_of_len (n := 18) hl30
  obtain ⟨d32, ds, rfl, hl32⟩ := cons_of_len (n := 17) hl31
  obtain ⟨d33, ds, rfl, hl33⟩ := cons_of_len (n := 16) hl32
  obtain ⟨d34, ds, rfl, hl34⟩ := cons_of_len (n := 15) hl33
  obtain ⟨d35, ds, rfl, hl35⟩ := cons_of_len (n := 14) hl34
  obtain ⟨d36, ds, rfl, hl36⟩ := cons_of_len (n := 13) hl35
  obtain ⟨d37, ds, rfl, hl37⟩ := cons_of_len (n := 12) hl36
  obtain ⟨d38, ds, rfl, hl38⟩ := cons_of_len (n := 11) hl37
  obtain ⟨d39, ds, rfl, hl39⟩ := cons_of_len (n := 10) hl38
  obtain ⟨d40, ds, rfl, hl40⟩ := cons_of_len (n := 9) hl39
  obtain ⟨d41, ds, rfl, hl41⟩ := cons_of_len (n := 8) hl40
  obtain ⟨d42, ds, rfl, hl42⟩ := cons_of_len (n := 7) hl41
  obtain ⟨d43, ds, rfl, hl43⟩ := cons_of_len (n := 6) hl42
  obtain ⟨d44, ds, rfl, hl44⟩ := cons_of_len (n := 5) hl43
  obtain ⟨d45, ds, rfl, hl45⟩ := cons_of_len (n := 4) hl44
  obtain ⟨d46, ds, rfl, hl46⟩ := cons_of_len (n := 3) hl45
  obtain ⟨d47, ds, rfl, hl47⟩ := cons_of_len (n := 2) hl46
  obtain ⟨d48, ds, rfl, hl48⟩ := cons_of_len (n := 1) hl47
  obtain ⟨d49, ds, rfl, hl49⟩ := cons_of_len (n := 0) hl48
  obtain rfl := List.eq_nil_of_length_eq_zero hl49
  next =>
    obtain ⟨x0, e0⟩ := fits4 (f := f + 6) (show Fits Try.prog (f + 6 + 1) 4 [d0] from by have := h3 _ (List.mem_of_getElem? (i := 0) rfl); simpa only [c4, List.drop_zero, List.drop_succ_cons, List.take_succ_cons, List.take_zero] using this)
    obtain ⟨x1, e1⟩ := fits69 (f := f + 5) (show Fits Try.prog (f + 5 + 2) 69 [d1, d2, d3, d4, d5, d6, d7, d8] from by have := h3 _ (List.mem_of_getElem? (i := 1) rfl); simpa only [c69, List.drop_zero, List.drop_succ_cons, List.take_succ_cons, List.take_zero] using this)
    obtain ⟨x2, e2⟩ := fits69 (f := f + 5) (show Fits Try.prog (f + 5 + 2) 69 [d9, d10, d11, d12, d13, d14, d15, d16] from by have := h3 _ (List.mem_of_getElem? (i := 2) rfl); simpa only [c69, List.drop_zero, List.drop_succ_cons, List.take_succ_cons, List.take_zero] using this)
    obtain ⟨x3, e3⟩ := fits70 (f := f + 0) (show Fits Try.prog (f + 0 + 7) 70 [d17] from by have := h3 _ (List.mem_of_getElem? (i := 3) rfl); simpa only [c70, List.drop_zero, List.drop_succ_cons, List.take_succ_cons, List.take_zero] using this)
    obtain ⟨x4, e4⟩ := fits72 (f := f + 5) (show Fits Try.prog (f + 5 + 2) 72 [d18, d19, d20, d21] from by have := h3 _ (List.mem_of_getElem? (i := 4) rfl); simpa only [c72, List.drop_zero, List.drop_succ_cons, List.take_succ_cons, List.take_zero] using this)
    obtain ⟨x5, e5⟩ := fits74 (f := f + 5) (show Fits Try.prog (f + 5 + 2) 74 [d22, d23, d24, d25, d26, d27] from by have := h3 _ (List.mem_of_getElem? (i := 5) rfl); simpa only [c74, List.drop_zero, List.drop_succ_cons, List.take_succ_cons, List.take_zero] using this)
    obtain ⟨x6, e6⟩ := fits76 (f := f + 5) (show Fits Try.prog (f + 5 + 2) 76 [d28, d29, d30] from by have := h3 _ (List.mem_of_getElem? (i := 6) rfl); simpa only [c76, List.drop_zero, List.drop_succ_cons, List.take_succ_cons, List.take_zero] using this)
    obtain ⟨x7, e7⟩ := fits76 (f := f + 5) (show Fits Try.prog (f + 5 + 2) 76 [d31, d32, d33] from by have := h3 _ (List.mem_of_getElem? (i := 7) rfl); simpa only [c76, List.drop_zero, List.drop_succ_cons, List.take_succ_cons, List.take_zero] using this)
    obtain ⟨x8, e8⟩ := fits78 (f := f + 5) (show Fits Try.prog (f + 5 + 2) 78 [d34, d35, d36, d37] from by have := h3 _ (List.mem_of_getElem? (i := 8) rfl); simpa only [c78, List.drop_zero, List.drop_succ_cons, List.take_succ_cons, List.take_zero] using this)
    obtain ⟨x9, e9⟩ := fits78 (f := f + 5) (show Fits Try.prog (f + 5 + 2) 78 [d38, d39, d40, d41] from by have := h3 _ (List.mem_of_getElem? (i := 9) rfl); simpa only [c78, List.drop_zero, List.drop_succ_cons, List.take_succ_cons, List.take_zero] using this)
    obtain ⟨x10, e10⟩ := fits4 (f := f + 6) (show Fits Try.prog (f + 6 + 1) 4 [d42] from by have := h3 _ (List.mem_of_getElem? (i := 10) rfl); simpa only [c4, List.drop_zero, List.drop_succ_cons, List.take_succ_cons, List.take_zero] using this)
    obtain ⟨x11, e11⟩ := fits4 (f := f + 6) (show Fits Try.prog (f + 6 + 1) 4 [d43] from by have := h3 _ (List.mem_of_getElem? (i := 11) rfl); simpa only [c4, List.drop_zero, List.drop_succ_cons, List.take_succ_cons, List.take_zero] using this)
    obtain ⟨x12, e12⟩ := fits4 (f := f + 6) (show Fits Try.prog (f + 6 + 1) 4 [d44] from by have := h3 _ (List.mem_of_getElem? (i := 12) rfl); simpa only [c4, List.drop_zero, List.drop_succ_cons, List.take_succ_cons, List.take_zero] using this)
    obtain ⟨x13, e13⟩ := fits3 (f := f + 6) (show Fits Try.prog (f + 6 + 1) 3 [d45] from by have := h3 _ (List.mem_of_getElem? (i := 13) rfl); simpa only [c3, List.drop_zero, List.drop_succ_cons, List.take_succ_cons, List.take_zero] using this)
    obtain ⟨x14, e14⟩ := fits3 (f := f + 6) (show Fits Try.prog (f + 6 + 1) 3 [d46] from by have := h3 _ (List.mem_of_getElem? (i := 14) rfl); simpa only [c3, List.drop_zero, List.drop_succ_cons, List.take_succ_cons, List.take_zero] using this)
    obtain ⟨x15, e15⟩ := fits79 (f := f + 2) (show Fits Try.prog (f + 2 + 5) 79 [d47] from by have := h3 _ (List.mem_of_getElem? (i := 15) rfl); simpa only [c79, List.drop_zero, List.drop_succ_cons, List.take_succ_cons, List.take_zero] using this)
    obtain ⟨x16, e16⟩ := fits3 (f := f + 6) (show Fits Try.prog (f + 6 + 1) 3 [d48] from by have := h3 _ (List.mem_of_getElem? (i := 16) rfl); simpa only [c3, List.drop_zero, List.drop_succ_cons, List.take_succ_cons, List.take_zero] using this)
    obtain ⟨x17, e17⟩ := fits3 (f := f + 6) (show Fits Try.prog (f + 6 + 1) 3 [d49] from by have := h3 _ (List.mem_of_getElem? (i := 17) rfl); simpa only [c3, List.drop_zero, List.drop_succ_cons, List.take_succ_cons, List.take_zero] using this)
    simp only [List.cons.injEq] at e0; obtain ⟨rfl, -⟩ := e0
    simp only [TConf.enc, List.cons.injEq] at e1; obtain ⟨rfl, rfl, rfl, rfl, rfl, rfl, rfl, rfl, -⟩ := e1
    simp only [TConf.enc, List.cons.injEq] at e2; obtain ⟨rfl, rfl, rfl, rfl, rfl, rfl, rfl, rfl, -⟩ := e2
    simp only [List.cons.injEq] at e3; obtain ⟨rfl, -⟩ := e3
    simp only [TCredit.enc, List.cons.injEq] at e4; obtain ⟨rfl, rfl, rfl, rfl, -⟩ := e4
    simp only [TWindow.enc, List.cons.injEq] at e5; obtain ⟨rfl, rfl, rfl, rfl, rfl, rfl, -⟩ := e5
    simp only [TCount.enc, List.cons.injEq] at e6; obtain ⟨rfl, rfl, rfl, -⟩ := e6
    simp only [TCount.enc, List.cons.injEq] at e7; obtain ⟨rfl, rfl, rfl, -⟩ := e7
    simp only [TAllow.enc, List.cons.injEq] at e8; obtain ⟨rfl, rfl, rfl, rfl, -⟩ := e8
    simp only [TAllow.enc, List.cons.injEq] at e9; obtain ⟨rfl, rfl, rfl, rfl, -⟩ := e9
    simp only [List.cons.injEq] at e10; obtain ⟨rfl, -⟩ := e10
    simp only [List.cons.injEq] at e11; obtain ⟨rfl, -⟩ := e11
    simp only [List.cons.injEq] at e12; obtain ⟨rfl, -⟩ := e12
    simp only [List.cons.injEq] at e13; obtain ⟨rfl, -⟩ := e13
    simp only [List.cons.injEq] at e14; obtain ⟨rfl, -⟩ := e14
    simp only [List.cons.injEq] at e15; obtain ⟨rfl, -⟩ := e15
    simp only [List.cons.injEq] at e16; obtain ⟨rfl, -⟩ := e16
    simp only [List.cons.injEq] at e17; obtain ⟨rfl, -⟩ := e17
    exact ⟨⟨x0, x1, x2, x3, x4, x5, x6, x7, x8, x9, x10, x11, x12, x13, x14, x15, x16, x17⟩, rfl⟩
set_option maxRecDepth 100000 in
theorem fits207 {f : Nat} {ds : List D} (h : Fits Try.prog (f + 2) 207 ds) : ∃ x : TLetter, ds = x.enc := by
  unfold Fits at h; rw [Try.underlying207] at h
  obtain ⟨h2, h3⟩ := h
  have c3 : Try.prog.cellsOf 3 = 1 := by kernel_rfl
  have c9 : Try.prog.cellsOf 9 = 1 := by kernel_rfl
  have c207 : Try.prog.cellsOf 207 = 2 := by kernel_rfl
  rw [c207] at h2
  match ds, h2 with
  | [d0, d1], _ =>
    obtain ⟨x0, e0⟩ := fits3 (f := f + 0) (show Fits Try.prog (f + 0 + 1) 3 [d0] from by have := h3 _ (List.mem_of_getElem? (i := 0) rfl); simpa only [c3, List.drop_zero, List.drop_succ_cons, List.take_succ_cons, List.take_zero] using this)
    obtain ⟨x1, e1⟩ := fits9 (f := f + 0) (show Fits Try.prog (f + 0 + 1) 9 [d1] from by have := h3 _ (List.mem_of_getElem? (i := 1) rfl); simpa only [c9, List.drop_zero, List.drop_succ_cons, List.take_succ_cons, List.take_zero] using this)
    simp only [List.cons.injEq] at e0; obtain ⟨rfl, -⟩ := e0
    simp only [List.cons.injEq] at e1; obtain ⟨rfl, -⟩ := e1
    exact ⟨⟨x0, x1⟩, rfl⟩
set_option maxRecDepth 100000 in
theorem fits82 {f : Nat} {ds : List D} (h : Fits Try.prog (f + 3) 82 ds) : ∃ xs : List TLetter, ds = [.sl 2 (xs.map TLetter.enc)] := by
  unfold Fits at h; rw [Try.underlying82] at h
  obtain ⟨xs, rfl, h2⟩ := h
  obtain ⟨ys, rfl⟩ := enc_lift (f := TLetter.enc) xs fun c hc => fits207 (h2 c hc)
  exact ⟨ys, rfl⟩
set_option maxRecDepth 100000 in
theorem fits209 {f : Nat} {ds : List D} (h : Fits Try.prog (f + 2) 209 ds) : ∃ x : TTrack, ds = x.enc := by
  unfold Fits at h; rw [Try.underlying209] at h
  obtain ⟨h2, h3⟩ := h
  have c3 : Try.prog.cellsOf 3 = 1 := by kernel_rfl
  have c4 : Try.prog.cellsOf 4 = 1 := by kernel_rfl
  have c9 : Try.prog.cellsOf 9 = 1 := by kernel_rfl
  have c209 : Try.prog.cellsOf 209 = 7 := by kernel_rfl
  rw [c209] at h2
  match ds, h2 with
  | [d0, d1, d2, d3, d4, d5, d6], _ =>
    obtain ⟨x0, e0⟩ := fits3 (f := f + 0) (show Fits Try.prog (f + 0 + 1) 3 [d0] from by have := h3 _ (List.mem_of_getElem? (i := 0) rfl); simpa only [c3, List.drop_zero, List.drop_succ_cons, List.take_succ_cons, List.take_zero] using this)
    obtain ⟨x1, e1⟩ := fits4 (f := f + 0) (show Fits Try.prog (f + 0 + 1) 4 [d1] from by have := h3 _ (List.mem_of_getElem? (i := 1) rfl); simpa only [c4, List.drop_zero, List.drop_succ_cons, List.take_succ_cons, List.take_zero] using this)
    obtain ⟨x2, e2⟩ := fits9 (f := f + 0) (show Fits Try.prog (f + 0 + 1) 9 [d2] from by have := h3 _ (List.mem_of_getElem? (i := 2) rfl); simpa only [c9, List.drop_zero, List.drop_succ_cons, List.take_succ_cons, List.take_zero] using this)
    obtain ⟨x3, e3⟩ := fits9 (f := f + 0) (show Fits Try.prog (f + 0 + 1) 9 [d3] from by have := h3 _ (List.mem_of_getElem? (i := 3) rfl); simpa only [c9, List.drop_zero, List.drop_succ_cons, List.take_succ_cons, List.take_zero] using this)
    obtain ⟨x4, e4⟩ := fits4 (f := f + 0) (show Fits Try.prog (f + 0 + 1) 4 [d4] from by have := h3 _ (List.mem_of_getElem? (i := 4) rfl); simpa only [c4, List.drop_zero, List.drop_succ_cons, List.take_succ_cons, List.take_zero] using this)
    obtain ⟨x5, e5⟩ := fits4 (f := f + 0) (show Fits Try.prog (f + 0 + 1) 4 [d5] from by have := h3 _ (List.mem_of_getElem? (i := 5) rfl); simpa only [c4, List.drop_zero, List.drop_succ_cons, List.take_succ_cons, List.take_zero] using this)
    obtain ⟨x6, e6⟩ := fits4 (f := f + 0) (show Fits Try.prog (f + 0 + 1) 4 [d6] from by have := h3 _ (List.mem_of_getElem? (i := 6) rfl); simpa only [c4, List.drop_zero, List.drop_succ_cons, List.take_succ_cons, List.take_zero] using this)
    simp only [List.cons.injEq] at e0; obtain ⟨rfl, -⟩ := e0
    simp only [List.cons.injEq] at e1; obtain ⟨rfl, -⟩ := e1
    simp only [List.cons.injEq] at e2; obtain ⟨rfl, -⟩ := e2
    simp only [List.cons.injEq] at e3; obtain ⟨rfl, -⟩ := e3
    simp only [List.cons.injEq] at e4; obtain ⟨rfl, -⟩ := e4
    simp only [List.cons.injEq] at e5; obtain ⟨rfl, -⟩ := e5
    simp only [List.cons.injEq] at e6; obtain ⟨rfl, -⟩ := e6
    exact ⟨⟨x0, x1, x2, x3, x4, x5, x6⟩, rfl⟩
set_option maxRecDepth 100000 in
theorem fits83 {f : Nat} {ds : List D} (h : Fits Try.prog (f + 3) 83 ds) : ∃ xs : List TTrack, ds = [.sl 7 (xs.map TTrack.enc)] := by
  unfold Fits at h; rw [Try.underlying83] at h
  obtain ⟨xs, rfl, h2⟩ := h
  obtain ⟨ys, rfl⟩ := enc_lift (f := TTrack.enc) xs fun c hc => fits209 (h2 c hc)
  exact ⟨ys, rfl⟩
set_option maxRecDepth 100000 in
set_option maxHeartbeats 4000000 in
theorem fits85 {f : Nat} {ds : List D} (h : Fits Try.prog (f + 9) 85 ds) : ∃ x : TPair, ds = x.enc := by
  unfold Fits at h; rw [Try.underlying85] at h
  obtain ⟨h2, h3⟩ := h
  have c81 : Try.prog.cellsOf 81 = 50 := by kernel_rfl
  have c82 : Try.prog.cellsOf 82 = 1 := by kernel_rfl
  have c83 : Try.prog.cellsOf 83 = 1 := by kernel_rfl
  have c85 : Try.prog.cellsOf 85 = 103 := by kernel_rfl
  rw [c85] at h2
  obtain ⟨d0, ds, rfl, hl0⟩ := cons_of_len (n := 102) h2
  obtain ⟨d1, ds, rfl, hl1⟩ := cons_of_len (n := 101) hl0
  obtain ⟨d2, ds, rfl, hl2⟩ := cons_of_len (n := 100) hl1
  obtain ⟨d3, ds, rfl, hl3⟩ := cons_of_len (n := 99) hl2
  obtain ⟨d4, ds, rfl, hl4⟩ := cons_of_len (n := 98) hl3
  obtain ⟨d5, ds, rfl, hl5⟩ := cons_of_len (n := 97) hl4
  obtain ⟨d6, ds, rfl, hl6⟩ := cons_of_len (n := 96) hl5
  obtain ⟨d7, ds, rfl, hl7⟩ := cons_of_len (n := 95) hl6
  obtain ⟨d8, ds, rfl, hl8⟩ := cons_of_len (n := 94) hl7
  obtain ⟨d9, ds, rfl, hl9⟩ := cons_of_len (n := 93) hl8
  obtain ⟨d10, ds, rfl, hl10⟩ := cons_of_len (n := 92) hl9
  obtain ⟨d11, ds, rfl, hl11⟩ := cons_of_len (n := 91) hl10
  obtain ⟨d12, ds, rfl, hl12⟩ := cons_of_len (n := 90) hl11
  obtain ⟨d13, ds, rfl, hl13⟩ := cons_of_len (n := 89) hl12
  obtain ⟨d14, ds, rfl, hl14⟩ := cons_of_len (n := 88) hl13
  obtain ⟨d15, ds, rfl, hl15⟩ := cons_of_len (n := 87) hl14
  obtain ⟨d16, ds, rfl, hl16⟩ := cons_of_len (n := 86) hl15
  obtain ⟨d17, ds, rfl, hl17⟩ := cons_of_len (n := 85) hl16
  obtain ⟨d18, ds, rfl, hl18⟩ := cons_of_len (n := 84) hl17
  obtain ⟨d19, ds, rfl, hl19⟩ := cons_of_len (n := 83) hl18
  obtain ⟨d20, ds, rfl, hl20⟩ := cons_of_len (n := 82) hl19
  obtain ⟨d21, ds, rfl, hl21⟩ := cons_of_len (n := 81) hl20
  obtain ⟨d22, ds, rfl, hl22⟩ := cons_of_len (n := 80) hl21
  obtain ⟨d23, ds, rfl, hl23⟩ := cons_of_len (n := 79) hl22
  obtain ⟨d24, ds, rfl, hl24⟩ := cons_of_len (n := 78) hl23
  obtain ⟨d25, ds, rfl, hl25⟩ := cons_of_len (n := 77) hl24
  obtain ⟨d26, ds, rfl, hl26⟩ := cons_of_len (n := 76) hl25
  obtain ⟨d27, ds, rfl, hl27⟩ := cons_of_len (n := 75) hl26
  obtain ⟨d28, ds, rfl, hl28⟩ := cons_of_len (n := 74) hl27
  obtain ⟨d29, ds, rfl, hl29⟩ := cons_of_len (n := 73) hl28
  obtain ⟨d30, ds, rfl, hl30⟩ := cons_of_len (n := 72) hl29
  obtain ⟨d31, ds, rfl, hl31⟩ := cons_of_len (n := 71) hl30
  obtain ⟨d32, ds, rfl, hl32⟩ := cons_of_len (n := 70) hl31
  obtain ⟨d33, ds, rfl, hl33⟩ := cons_of_len (n := 69) hl32
  obtain ⟨d34, ds, rfl, hl34⟩ := cons_of_len (n := 68) hl33
  obtain ⟨d35, ds, rfl, hl35⟩ := cons_of_len (n := 67) hl34
  obtain ⟨d36, ds, rfl, hl36⟩ := cons_of_len (n := 66) hl35
  obtain ⟨d37, ds, rfl, hl37⟩ := cons_of_len (n := 65) hl36
  obtain ⟨d38, ds, rfl, hl38⟩ := cons_of_len (n := 64) hl37
  obtain ⟨d39, ds, rfl, hl39⟩ := cons_of_len (n := 63) hl38
  obtain ⟨d40, ds, rfl, hl40⟩ := cons_of_len (n := 62) hl39
  obtain ⟨d41, ds, rfl, hl41⟩ := cons_of_len (n := 61) hl40
  obtain ⟨d42, ds, rfl, hl42⟩ := cons_of_len (n := 60) hl41
  obtain ⟨d43, ds, rfl, hl43⟩ := cons_of_len (n := 59) hl42
  obtain ⟨d44, ds, rfl, hl44⟩ := cons_of_len (n := 58) hl43
  obtain ⟨d45, ds, rfl, hl45⟩ := cons_of_len (n := 57) hl44
  obtain ⟨d46, ds, rfl, hl46⟩ := cons_of_len (n := 56) hl45
  obtain ⟨d47, ds, rfl, hl47⟩ := cons_of_len (n := 55) hl46
  obtain ⟨d48, ds, rfl, hl48⟩ := cons_of_len (n := 54) hl47
  obtain ⟨d49, ds, rfl, hl49⟩ := cons_of_len (n := 53) hl48
  obtain ⟨d50, ds, rfl, hl50⟩ := cons_of_len (n := 52) hl49
  obtain ⟨d51, ds, rfl, hl51⟩ := cons_of_len (n := 51) hl50
  obtain ⟨d52, ds, rfl, hl52⟩ := cons_of_len (n := 50) hl51
  obtain ⟨d53, ds, rfl, hl53⟩ := cons_of_len (n := 49) hl52
  obtain ⟨d54, ds, rfl, hl54⟩ := cons_of_len (n := 48) hl53
  obtain ⟨d55, ds, rfl, hl55⟩ := cons_of_len (n := 47) hl54
  obtain ⟨d56, ds, rfl, hl56⟩ := cons_of_len (n := 46) hl55
  obtain ⟨d57, ds, rfl, hl57⟩ := cons_of_len (n := 45) hl56
  obtain ⟨d58, ds, rfl, hl58⟩ := cons_of_len (n := 44) hl57
  obtain ⟨d59, ds, rfl, hl59⟩ := cons_of_len (n := 43) hl58
  obtain ⟨d60, ds, rfl, hl60⟩ := cons_of_len (n := 42) hl59
  obtain ⟨d61, ds, rfl, hl61⟩ := cons_of_len (n := 41) hl60
  obtain ⟨d62, ds, rfl, hl62⟩ := cons_of_len (n := 40) hl61
  obtain ⟨d63, ds, rfl, hl63⟩ := cons_of_len (n := 39) hl62
  obtain ⟨d64, ds, rfl, hl64⟩ := cons_of_len (n := 38) hl63
  obtain ⟨d65, ds, rfl, hl65⟩ := cons_of_len (n := 37) hl64
  obtain ⟨d66, ds, rfl, hl66⟩ := cons_of_len (n := 36) hl65
  obtain ⟨d67, ds, rfl, hl67⟩ := cons_of_len (n := 35) hl66
  obtain ⟨d68, ds, rfl, hl68⟩ := cons_of_len (n := 34) hl67
  obtain ⟨d69, ds, rfl, hl69⟩ := cons_of_len (n := 33) hl68
  obtain ⟨d70, ds, rfl, hl70⟩ := cons_of_len (n := 32) hl69
  obtain ⟨d71, ds, rfl, hl71⟩ := cons_of_len (n := 31) hl70
  obtain ⟨d72, ds, rfl, hl72⟩ := cons_of_len (n := 30) hl71
  obtain ⟨d73, ds, rfl, hl73⟩ := cons_of_len (n := 29) hl72
  obtain ⟨d74, ds, rfl, hl74⟩ := cons_of_len (n := 28) hl73
  obtain ⟨d75, ds, rfl, hl75⟩ := cons_of_len (n := 27) hl74
  obtain ⟨d76, ds, rfl, hl76⟩ := cons_of_len (n := 26) hl75
  obtain ⟨d77, ds, rfl, hl77⟩ := cons_of_len (n := 25) hl76
  obtain ⟨d78, ds, rfl, hl78⟩ := cons_of_len (n := 24) hl77
  obtain ⟨d79, ds, rfl, hl79⟩ := cons_of_len (n := 23) hl78
  obtain ⟨d80, ds, rfl, hl80⟩ := cons_of_len (n := 22) hl79
  obtain ⟨d81, ds, rfl, hl81⟩ := cons_of_len (n := 21) hl80
  obtain ⟨d82, ds, rfl, hl82⟩ := cons_of_len (n := 20) hl81
  obtain ⟨d83, ds, rfl, hl83⟩ := cons_of_len (n := 19) hl82
  obtain ⟨d84, ds, rfl, hl84⟩ := cons_of_len (n := 18) hl83
  obtain ⟨d85, ds, rfl, hl85⟩ := cons_of_len (n := 17) hl84
  obtain ⟨d86, ds, rfl, hl86⟩ := cons_of_len (n := 16) hl85
  obtain ⟨d87, ds, rfl, hl87⟩ := cons_of_len (n := 15) hl86
  obtain ⟨d88, ds, rfl, hl88⟩ := cons_of_len (n := 14) hl87
  obtain ⟨d89, ds, rfl, hl89⟩ := cons_of_len (n := 13) hl88
  obtain ⟨d90, ds, rfl, hl90⟩ := cons_of_len (n := 12) hl89
  obtain ⟨d91, ds, rfl, hl91⟩ := cons_of_len (n := 11) hl90
  obtain ⟨d92, ds, rfl, hl92⟩ := cons_of_len (n := 10) hl91
  obtain ⟨d93, ds, rfl, hl93⟩ := cons_of_len (n := 9) hl92
  obtain ⟨d94, ds, rfl, hl94⟩ := cons_of_len (n := 8) hl93
  obtain ⟨d95, ds, rfl, hl95⟩ := cons_of_len (n := 7) hl94
  obtain ⟨d96, ds, rfl, hl96⟩ := cons_of_len (n := 6) hl95
  obtain ⟨d97, ds, rfl, hl97⟩ := cons_of_len (n := 5) hl96
  obtain ⟨d98, ds, rfl, hl98⟩ := cons_of_len (n := 4) hl97
  obtain ⟨d99, ds, rfl, hl99⟩ := cons_of_len (n := 3) hl98
  obtain ⟨d100, ds, rfl, hl100⟩ := cons_of_len (n := 2) hl99
  obtain ⟨d101, ds, rfl, hl101⟩ := cons_of_len (n := 1) hl100
  obtain ⟨d102, ds, rfl, hl102⟩ := cons_of_len (n := 0) hl101
  obtain rfl := List.eq_nil_of_length_eq_zero hl102
  next =>
    obtain ⟨x0, e0⟩ := fits81 (f := f + 0) (show Fits Try.prog (f + 0 + 8) 81 [d0, d1, d2, d3, d4, d5, d6, d7, d8, d9, d10, d11, d12, d13, d14, d15, d16, d17, d18, d19, d20, d21, d22, d23, d24, d25, d26, d27, d28, d29, d30, d31, d32, d33, d34, d35, d36, d37, d38, d39, d40, d41, d42, d43, d44, d45, d46, d47, d48, d49] from by have := h3 _ (List.mem_of_getElem? (i := 0) rfl); simpa only [c81, List.drop_zero, List.drop_succ_cons, List.take_succ_cons, List.take_zero] using this)
    obtain ⟨x1, e1⟩ := fits81 (f := f + 0) (show Fits Try.prog (f + 0 + 8) 81 [d50, d51, d52, d53, d54, d55, d56, d57, d58, d59, d60, d61, d62, d63, d64, d65, d66, d67, d68, d69, d70, d71, d72, d73, d74, d75, d76, d77, d78, d79, d80, d81, d82, d83, d84, d85, d86, d87, d88, d89, d90, d91, d92, d93, d94, d95, d96, d97, d98, d99] from by have := h3 _ (List.mem_of_getElem? (i := 1) rfl); simpa only [c81, List.drop_zero, List.drop_succ_cons, List.take_succ_cons, List.take_zero] using this)
    obtain ⟨x2, e2⟩ := fits82 (f := f + 5) (show Fits Try.prog (f + 5 + 3) 82 [d100] from by have := h3 _ (List.mem_of_getElem? (i := 2) rfl); simpa only [c82, List.drop_zero, List.drop_succ_cons, List.take_succ_cons, List.take_zero] using this)
    obtain ⟨x3, e3⟩ := fits82 (f := f + 5) (show Fits Try.prog (f + 5 + 3) 82 [d101] from by have := h3 _ (List.mem_of_getElem? (i := 3) rfl); simpa only [c82, List.drop_zero, List.drop_succ_cons, List.take_succ_cons, List.take_zero] using this)
    obtain ⟨x4, e4⟩ := fits83 (f := f + 5) (show Fits Try.prog (f + 5 + 3) 83 [d102] from by have := h3 _ (List.mem_of_getElem? (i := 4) rfl); simpa only [c83, List.drop_zero, List.drop_succ_cons, List.take_succ_cons, List.take_zero] using this)
    simp only [TConn.enc, List.cons.injEq] at e0; obtain ⟨rfl, rfl, rfl, rfl, rfl, rfl, rfl, rfl, rfl, rfl, rfl, rfl, rfl, rfl, rfl, rfl, rfl, rfl, rfl, rfl, rfl, rfl, rfl, rfl, rfl, rfl, rfl, rfl, rfl, rfl, rfl, rfl, rfl, rfl, rfl, rfl, rfl, rfl, rfl, rfl, rfl, rfl, rfl, rfl, rfl, rfl, rfl, rfl, rfl, rfl, -⟩ := e0
    simp only [TConn.enc, List.cons.injEq] at e1; obtain ⟨rfl, rfl, rfl, rfl, rfl, rfl, rfl, rfl, rfl, rfl, rfl, rfl, rfl, rfl, rfl, rfl, rfl, rfl, rfl, rfl, rfl, rfl, rfl, rfl, rfl, rfl, rfl, rfl, rfl, rfl, rfl, rfl, rfl, rfl, rfl, rfl, rfl, rfl, rfl, rfl, rfl, rfl, rfl, rfl, rfl, rfl, rfl, rfl, rfl, rfl, -⟩ := e1
    simp only [List.cons.injEq] at e2; obtain ⟨rfl, -⟩ := e2
    simp only [List.cons.injEq] at e3; obtain ⟨rfl, -⟩ := e3
    simp only [List.cons.injEq] at e4; obtain ⟨rfl, -⟩ := e4
    exact ⟨⟨x0, x1, x2, x3, x4⟩, rfl⟩
theorem eI_fits {f : Nat} {ds : List D} (h : ∃ n : Int, ds = [.int .i64 n]) : ∃ n, ds = eI n := h

end Gv
