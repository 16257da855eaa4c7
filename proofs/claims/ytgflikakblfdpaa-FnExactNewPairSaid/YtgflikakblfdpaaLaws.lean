/-
  The laws of the helper functions of the statements: copying, counting, comparing. Printed by a program of ours.
-/
import Derived.Test.YtgflikakblfdpaaLawKit
namespace Gv
open Go Go.Proofs

set_option maxRecDepth 100000 in
theorem laws_szIntS (xs : List Int) (left : Int) (hl : 0 ≤ left ∧ left ≤ 1048576) : PureCall Try.prog 83 [.one (.sl 1 (xs.map eI)), .one (.int .i64 left)] [.one (.int .i64 (szB (xs.length) left))] := by
  refine pure_ev Try.func83 rfl Try.call83 Try.checked.mixed [.d (.sl 1 (xs.map eI)), .d (.int .i64 left), .junk, .junk, .junk, .junk, .junk, .junk, .junk, .junk, .junk, .junk] rfl [.tmp 4] rfl ?_
  intro ok
  have hm := len_of ok
  have hw := wsub hl hm
  simp only [go_sem, List.length_map, hw]
  refine cSplit (fun h => ?_) (fun h => ?_)
  · simp only [decide_eq_true_eq] at h; simp only [go_sem]; rw [szB_lt (by omega)]
  · simp only [decide_eq_false_iff_not] at h; simp only [go_sem]
    rw [szB_ge (by omega)]
def TRing.bulk (x : TRing) : Nat := x.cells.length
set_option maxRecDepth 100000 in
theorem laws_szRing (x : TRing) (left : Int) (hl : 0 ≤ left ∧ left ≤ 1048576) : PureCall Try.prog 197 [.agg [.int .i64 x.size, .int .i64 x.base, .int .i64 x.end', .sl 1 (x.cells.map eI)], .one (.int .i64 left)] [.one (.int .i64 (szB (TRing.bulk x) left))] := by
  refine pure_ev Try.func197 rfl Try.call197 Try.checked.mixed [.agg [.d (.int .i64 x.size), .d (.int .i64 x.base), .d (.int .i64 x.end'), .d (.sl 1 (x.cells.map eI))], .d (.int .i64 left), .junk, .junk, .junk, .junk, .junk, .junk, .junk, .junk, .junk, .junk] rfl [.tmp 4] rfl ?_
  intro ok
  try simp only [go_sem]
  refine CallS.intro (laws_szIntS x.cells (left) (by omega)) ?_
  simp only [go_sem]
  refine cSplit (fun h => ?_) (fun h => ?_)
  · simp only [decide_eq_true_eq] at h; have h := szB_neg h; simp only [go_sem]; rw [szB_lt (by simp only [TRing.bulk]; omega)]
  simp only [decide_eq_false_iff_not] at h; obtain ⟨e0, h⟩ := szB_pos h; simp only [go_sem, e0]
  try simp only [go_sem]
  rw [show szB (TRing.bulk x) left = left - ((x.cells.length : Nat) : Int) from by rw [szB_ge (by simp only [TRing.bulk]; omega)]; simp only [TRing.bulk]; try omega]
set_option maxRecDepth 100000 in
theorem laws_szRangeS (xs : List TRange) (left : Int) (hl : 0 ≤ left ∧ left ≤ 1048576) : PureCall Try.prog 198 [.one (.sl 2 (xs.map TRange.enc)), .one (.int .i64 left)] [.one (.int .i64 (szB (xs.length) left))] := by
  refine pure_ev Try.func198 rfl Try.call198 Try.checked.mixed [.d (.sl 2 (xs.map TRange.enc)), .d (.int .i64 left), .junk, .junk, .junk, .junk, .junk, .junk, .junk, .junk, .junk, .junk] rfl [.tmp 4] rfl ?_
  intro ok
  have hm := len_of ok
  have hw := wsub hl hm
  simp only [go_sem, List.length_map, hw]
  refine cSplit (fun h => ?_) (fun h => ?_)
  · simp only [decide_eq_true_eq] at h; simp only [go_sem]; rw [szB_lt (by omega)]
  · simp only [decide_eq_false_iff_not] at h; simp only [go_sem]
    rw [szB_ge (by omega)]
def TSender.bulk (x : TSender) : Nat := TRing.bulk x.ring + x.pending.length + x.flight.length + x.acked.length
set_option maxRecDepth 100000 in
theorem laws_szSender (x : TSender) (left : Int) (hl : 0 ≤ left ∧ left ≤ 1048576) : PureCall Try.prog 184 [.agg [.int .i64 x.state, .int .i64 x.ring.size, .int .i64 x.ring.base, .int .i64 x.ring.end', .sl 1 (x.ring.cells.map eI), .sl 2 (x.pending.map TRange.enc), .sl 2 (x.flight.map TRange.enc), .sl 2 (x.acked.map TRange.enc), .int .i64 x.final, .int .i64 x.fin, .int .i64 x.sent, .int .i64 x.code], .one (.int .i64 left)] [.one (.int .i64 (szB (TSender.bulk x) left))] := by
  refine pure_ev Try.func184 rfl Try.call184 Try.checked.mixed [.agg [.d (.int .i64 x.state), .d (.int .i64 x.ring.size), .d (.int .i64 x.ring.base), .d (.int .i64 x.ring.end'), .d (.sl 1 (x.ring.cells.map eI)), .d (.sl 2 (x.pending.map TRange.enc)), .d (.sl 2 (x.flight.map TRange.enc)), .d (.sl 2 (x.acked.map TRange.enc)), .d (.int .i64 x.final), .d (.int .i64 x.fin), .d (.int .i64 x.sent), .d (.int .i64 x.code)], .d (.int .i64 left), .junk, .junk, .junk, .junk, .junk, .junk, .junk, .junk, .junk, .junk, .junk, .junk, .junk, .junk, .junk, .junk, .junk, .junk, .junk, .junk, .junk, .junk, .junk, .junk, .junk, .junk, .junk, .junk] rfl [.tmp 4] rfl ?_
  intro ok
  try simp only [go_sem]
  refine CallS.intro (laws_szRing x.ring (left) (by omega)) ?_
  simp only [go_sem]
  refine cSplit (fun h => ?_) (fun h => ?_)
  · simp only [decide_eq_true_eq] at h; have h := szB_neg h; simp only [go_sem]; rw [szB_lt (by simp only [TSender.bulk]; omega)]
  simp only [decide_eq_false_iff_not] at h; obtain ⟨e0, h⟩ := szB_pos h; simp only [go_sem, e0]
  try simp only [go_sem, List.length_map]
  refine CallS.intro (laws_szRangeS x.pending (left - ((TRing.bulk x.ring : Nat) : Int)) (by omega)) ?_
  simp only [go_sem]
  refine cSplit (fun h => ?_) (fun h => ?_)
  · simp only [decide_eq_true_eq] at h; have h := szB_neg h; simp only [go_sem]; rw [szB_lt (by simp only [TSender.bulk]; omega)]
  simp only [decide_eq_false_iff_not] at h; obtain ⟨e1, h⟩ := szB_pos h; simp only [go_sem, e1]
  try simp only [go_sem, List.length_map]
  refine CallS.intro (laws_szRangeS x.flight (left - ((TRing.bulk x.ring : Nat) : Int) - ((x.pending.length : Nat) : Int)) (by omega)) ?_
  simp only [go_sem]
  refine cSplit (fun h => ?_) (fun h => ?_)
  · simp only [decide_eq_true_eq] at h; have h := szB_neg h; simp only [go_sem]; rw [szB_lt (by simp only [TSender.bulk]; omega)]
  simp only [decide_eq_false_iff_not] at h; obtain ⟨e2, h⟩ := szB_pos h; simp only [go_sem, e2]
  try simp only [go_sem, List.length_map]
  refine CallS.intro (laws_szRangeS x.acked (left - ((TRing.bulk x.ring : Nat) : Int) - ((x.pending.length : Nat) : Int) - ((x.flight.length : Nat) : Int)) (by omega)) ?_
  simp only [go_sem]
  refine cSplit (fun h => ?_) (fun h => ?_)
  · simp only [decide_eq_true_eq] at h; have h := szB_neg h; simp only [go_sem]; rw [szB_lt (by simp only [TSender.bulk]; omega)]
  simp only [decide_eq_false_iff_not] at h; obtain ⟨e3, h⟩ := szB_pos h; simp only [go_sem, e3]
  try simp only [go_sem]
  rw [show szB (TSender.bulk x) left = left - ((TRing.bulk x.ring : Nat) : Int) - ((x.pending.length : Nat) : Int) - ((x.flight.length : Nat) : Int) - ((x.acked.length : Nat) : Int) from by rw [szB_ge (by simp only [TSender.bulk]; omega)]; simp only [TSender.bulk]; try omega]
def TChunk.bulk (x : TChunk) : Nat := x.data.length
set_option maxRecDepth 100000 in
theorem laws_szChunk (x : TChunk) (left : Int) (hl : 0 ≤ left ∧ left ≤ 1048576) : PureCall Try.prog 151 [.agg [.int .i64 x.offset, .str x.data], .one (.int .i64 left)] [.one (.int .i64 (szB (TChunk.bulk x) left))] := by
  refine pure_ev Try.func151 rfl Try.call151 Try.checked.mixed [.agg [.d (.int .i64 x.offset), .d (.str x.data)], .d (.int .i64 left), .junk, .junk, .junk, .junk, .junk, .junk, .junk, .junk, .junk, .junk, .junk] rfl [.tmp 4] rfl ?_
  intro ok
  have hw0 : IntKind.i64.wrap (left - (x.data.length : Int)) = left - (x.data.length : Int) := wsub (by omega) (ok.1.2.1)
  simp only [go_sem, hw0]
  refine cSplit (fun h => ?_) (fun h => ?_)
  · simp only [decide_eq_true_eq] at h; simp only [go_sem]; rw [szB_lt (by simp only [TChunk.bulk]; omega)]
  simp only [decide_eq_false_iff_not] at h
  try simp only [go_sem]
  rw [show szB (TChunk.bulk x) left = left - ((x.data.length : Nat) : Int) from by rw [szB_ge (by simp only [TChunk.bulk]; omega)]; simp only [TChunk.bulk]; try omega]
set_option maxRecDepth 100000 in
theorem laws_szChunkS (xs : List TChunk) (left : Int) (hl : 0 ≤ left ∧ left ≤ 1048576) : PureCall Try.prog 92 [.one (.sl 2 (xs.map TChunk.enc)), .one (.int .i64 left)] [.one (.int .i64 (szB ((xs.length + sumB TChunk.bulk xs)) left))] := by
  refine pure_ev Try.func92 rfl Try.call92 Try.checked.mixed [.d (.sl 2 (xs.map TChunk.enc)), .d (.int .i64 left), .junk, .junk, .junk, .junk, .junk, .junk, .junk, .junk, .junk, .junk, .junk, .junk, .junk, .junk, .junk, .junk, .junk, .junk, .junk, .junk, .junk, .junk, .junk, .junk, .junk] rfl [.tmp 4] rfl ?_
  intro ok
  have hm := len_of ok
  have hw := wsub hl hm
  simp only [go_sem, List.length_map, hw]
  refine cSplit (fun h => ?_) (fun h => ?_)
  · simp only [decide_eq_true_eq] at h; simp only [go_sem]; rw [szB_lt (by omega)]
  · simp only [decide_eq_false_iff_not] at h; simp only [go_sem]
    refine LoopK.intro (fun i : Nat => ⟨[.d (.sl 2 (xs.map TChunk.enc)), .d (.int .i64 (left - ((xs.length + sumB TChunk.bulk (xs.take i) : Nat) : Int))), .junk, .junk, .d (.int .i64 0), .d (.int .i64 i), .junk, .junk, .junk, .junk, .junk, .junk, .junk, .junk, .junk, .junk, .junk, .junk, .junk, .junk, .junk, .junk, .junk, .junk, .junk, .junk, .junk], []⟩)
      (fun i => xs.length - i) (fun i => i ≤ xs.length ∧ ((xs.length + sumB TChunk.bulk (xs.take i) : Nat) : Int) ≤ left) 0 [] ⟨by omega, by (simp only [List.take_zero, sumB_nil]) <;> omega⟩ ?_ ?_
    · simp only [go_sem]; simp [sumB]
    · rintro i ⟨hi, hle⟩
      simp only [go_sem, List.length_map]
      have hs2 := sumB_take_le TChunk.bulk xs (i + 1)
      refine cSplit (fun h1 => ?_) (fun h1 => ?_)
      · simp only [decide_eq_true_eq] at h1
        have hlt : i < xs.length := by omega
        have hxi := map_at TChunk.enc xs i hlt
        have hw2 := inc hlt hm
        have hs := sumB_take TChunk.bulk xs i hlt
        simp only [go_sem, List.length_map, Int.toNat_natCast, hxi, TChunk.enc]
        refine ⟨⟨by omega, by omega⟩, ?_⟩
        refine CallS.intro (laws_szChunk xs[i] _ (by omega)) ?_
        simp only [go_sem]
        refine cSplit (fun h2 => ?_) (fun h2 => ?_)
        · have h2 := szB_neg (of_decide_eq_true h2); simp only [go_sem]; rw [szB_lt (by omega)]
        · obtain ⟨e2, hb⟩ := szB_pos (of_decide_eq_false h2)
          simp only [go_sem, hw2, e2]
          refine RoundE.intro (i + 1) [] ⟨by omega, by omega⟩ (by omega) ?_
          simp only [go_sem]; simp [hs]; try omega
      · simp only [go_sem]
        simp only [decide_eq_false_iff_not] at h1
        have hi2 : i = xs.length := by omega
        subst hi2
        rw [List.take_length] at hle ⊢
        rw [szB_ge (by omega)]
def TBuffer.bulk (x : TBuffer) : Nat := (x.chunks.length + sumB TChunk.bulk x.chunks)
set_option maxRecDepth 100000 in
theorem laws_szBuffer (x : TBuffer) (left : Int) (hl : 0 ≤ left ∧ left ≤ 1048576) : PureCall Try.prog 37 [.agg [.int .i64 x.next, .sl 2 (x.chunks.map TChunk.enc)], .one (.int .i64 left)] [.one (.int .i64 (szB (TBuffer.bulk x) left))] := by
  refine pure_ev Try.func37 rfl Try.call37 Try.checked.mixed [.agg [.d (.int .i64 x.next), .d (.sl 2 (x.chunks.map TChunk.enc))], .d (.int .i64 left), .junk, .junk, .junk, .junk, .junk, .junk, .junk, .junk, .junk, .junk] rfl [.tmp 4] rfl ?_
  intro ok
  try simp only [go_sem]
  refine CallS.intro (laws_szChunkS x.chunks (left) (by omega)) ?_
  simp only [go_sem]
  refine cSplit (fun h => ?_) (fun h => ?_)
  · simp only [decide_eq_true_eq] at h; have h := szB_neg h; simp only [go_sem]; rw [szB_lt (by simp only [TBuffer.bulk]; omega)]
  simp only [decide_eq_false_iff_not] at h; obtain ⟨e0, h⟩ := szB_pos h; simp only [go_sem, e0]
  try simp only [go_sem]
  rw [show szB (TBuffer.bulk x) left = left - (((x.chunks.length + sumB TChunk.bulk x.chunks) : Nat) : Int) from by rw [szB_ge (by simp only [TBuffer.bulk]; omega)]; simp only [TBuffer.bulk]; try omega]
def TReceiver.bulk (x : TReceiver) : Nat := TBuffer.bulk x.buffer
set_option maxRecDepth 100000 in
theorem laws_szReceiver (x : TReceiver) (left : Int) (hl : 0 ≤ left ∧ left ≤ 1048576) : PureCall Try.prog 185 [.agg [.int .i64 x.state, .int .i64 x.buffer.next, .sl 2 (x.buffer.chunks.map TChunk.enc), .int .i64 x.final, .int .i64 x.highest, .int .i64 x.code], .one (.int .i64 left)] [.one (.int .i64 (szB (TReceiver.bulk x) left))] := by
  refine pure_ev Try.func185 rfl Try.call185 Try.checked.mixed [.agg [.d (.int .i64 x.state), .d (.int .i64 x.buffer.next), .d (.sl 2 (x.buffer.chunks.map TChunk.enc)), .d (.int .i64 x.final), .d (.int .i64 x.highest), .d (.int .i64 x.code)], .d (.int .i64 left), .junk, .junk, .junk, .junk, .junk, .junk, .junk, .junk, .junk, .junk] rfl [.tmp 4] rfl ?_
  intro ok
  try simp only [go_sem]
  refine CallS.intro (laws_szBuffer x.buffer (left) (by omega)) ?_
  simp only [go_sem]
  refine cSplit (fun h => ?_) (fun h => ?_)
  · simp only [decide_eq_true_eq] at h; have h := szB_neg h; simp only [go_sem]; rw [szB_lt (by simp only [TReceiver.bulk]; omega)]
  simp only [decide_eq_false_iff_not] at h; obtain ⟨e0, h⟩ := szB_pos h; simp only [go_sem, e0]
  try simp only [go_sem]
  rw [show szB (TReceiver.bulk x) left = left - ((TBuffer.bulk x.buffer : Nat) : Int) from by rw [szB_ge (by simp only [TReceiver.bulk]; omega)]; simp only [TReceiver.bulk]; try omega]
def TStream.bulk (x : TStream) : Nat := TSender.bulk x.send + TReceiver.bulk x.recv
set_option maxRecDepth 100000 in
theorem laws_szStream (x : TStream) (left : Int) (hl : 0 ≤ left ∧ left ≤ 1048576) : PureCall Try.prog 164 [.agg [.int .i64 x.id, .int .i64 x.send.state, .int .i64 x.send.ring.size, .int .i64 x.send.ring.base, .int .i64 x.send.ring.end', .sl 1 (x.send.ring.cells.map eI), .sl 2 (x.send.pending.map TRange.enc), .sl 2 (x.send.flight.map TRange.enc), .sl 2 (x.send.acked.map TRange.enc), .int .i64 x.send.final, .int .i64 x.send.fin, .int .i64 x.send.sent, .int .i64 x.send.code, .int .i64 x.credit.limit, .int .i64 x.credit.used, .int .i64 x.credit.blocked, .int .i64 x.credit.told, .int .i64 x.recv.state, .int .i64 x.recv.buffer.next, .sl 2 (x.recv.buffer.chunks.map TChunk.enc), .int .i64 x.recv.final, .int .i64 x.recv.highest, .int .i64 x.recv.code, .int .i64 x.window.size, .int .i64 x.window.most, .int .i64 x.window.limit, .int .i64 x.window.seen, .int .i64 x.window.read, .int .i64 x.window.since, .int .i64 x.priority.urgency, .bool x.priority.incremental, .bool x.canSend, .bool x.canRecv, .bool x.tellReset, .bool x.tellStop, .bool x.tellMost, .bool x.stopped, .int .i64 x.stopCode, .bool x.counted], .one (.int .i64 left)] [.one (.int .i64 (szB (TStream.bulk x) left))] := by
  refine pure_ev Try.func164 rfl Try.call164 Try.checked.mixed [.agg [.d (.int .i64 x.id), .d (.int .i64 x.send.state), .d (.int .i64 x.send.ring.size), .d (.int .i64 x.send.ring.base), .d (.int .i64 x.send.ring.end'), .d (.sl 1 (x.send.ring.cells.map eI)), .d (.sl 2 (x.send.pending.map TRange.enc)), .d (.sl 2 (x.send.flight.map TRange.enc)), .d (.sl 2 (x.send.acked.map TRange.enc)), .d (.int .i64 x.send.final), .d (.int .i64 x.send.fin), .d (.int .i64 x.send.sent), .d (.int .i64 x.send.code), .d (.int .i64 x.credit.limit), .d (.int .i64 x.credit.used), .d (.int .i64 x.credit.blocked), .d (.int .i64 x.credit.told), .d (.int .i64 x.recv.state), .d (.int .i64 x.recv.buffer.next), .d (.sl 2 (x.recv.buffer.chunks.map TChunk.enc)), .d (.int .i64 x.recv.final), .d (.int .i64 x.recv.highest), .d (.int .i64 x.recv.code), .d (.int .i64 x.window.size), .d (.int .i64 x.window.most), .d (.int .i64 x.window.limit), .d (.int .i64 x.window.seen), .d (.int .i64 x.window.read), .d (.int .i64 x.window.since), .d (.int .i64 x.priority.urgency), .d (.bool x.priority.incremental), .d (.bool x.canSend), .d (.bool x.canRecv), .d (.bool x.tellReset), .d (.bool x.tellStop), .d (.bool x.tellMost), .d (.bool x.stopped), .d (.int .i64 x.stopCode), .d (.bool x.counted)], .d (.int .i64 left), .junk, .junk, .junk, .junk, .junk, .junk, .junk, .junk, .junk, .junk, .junk, .junk, .junk, .junk, .junk, .junk] rfl [.tmp 4] rfl ?_
  intro ok
  try simp only [go_sem]
  refine CallS.intro (laws_szSender x.send (left) (by omega)) ?_
  simp only [go_sem]
  refine cSplit (fun h => ?_) (fun h => ?_)
  · simp only [decide_eq_true_eq] at h; have h := szB_neg h; simp only [go_sem]; rw [szB_lt (by simp only [TStream.bulk]; omega)]
  simp only [decide_eq_false_iff_not] at h; obtain ⟨e0, h⟩ := szB_pos h; simp only [go_sem, e0]
  try simp only [go_sem, List.length_map]
  refine CallS.intro (laws_szReceiver x.recv (left - ((TSender.bulk x.send : Nat) : Int)) (by omega)) ?_
  simp only [go_sem]
  refine cSplit (fun h => ?_) (fun h => ?_)
  · simp only [decide_eq_true_eq] at h; have h := szB_neg h; simp only [go_sem]; rw [szB_lt (by simp only [TStream.bulk]; omega)]
  simp only [decide_eq_false_iff_not] at h; obtain ⟨e1, h⟩ := szB_pos h; simp only [go_sem, e1]
  try simp only [go_sem]
  rw [show szB (TStream.bulk x) left = left - ((TSender.bulk x.send : Nat) : Int) - ((TReceiver.bulk x.recv : Nat) : Int) from by rw [szB_ge (by simp only [TStream.bulk]; omega)]; simp only [TStream.bulk]; try omega]
set_option maxRecDepth 100000 in
theorem laws_szStreamS (xs : List TStream) (left : Int) (hl : 0 ≤ left ∧ left ≤ 1048576) : PureCall Try.prog 111 [.one (.sl 39 (xs.map TStream.enc)), .one (.int .i64 left)] [.one (.int .i64 (szB ((xs.length + sumB TStream.bulk xs)) left))] := by
  refine pure_ev Try.func111 rfl Try.call111 Try.checked.mixed [.d (.sl 39 (xs.map TStream.enc)), .d (.int .i64 left), .junk, .junk, .junk, .junk, .junk, .junk, .junk, .junk, .junk, .junk, .junk, .junk, .junk, .junk, .junk, .junk, .junk, .junk, .junk, .junk, .junk, .junk, .junk, .junk, .junk] rfl [.tmp 4] rfl ?_
  intro ok
  have hm := len_of ok
  have hw := wsub hl hm
  simp only [go_sem, List.length_map, hw]
  refine cSplit (fun h => ?_) (fun h => ?_)
  · simp only [decide_eq_true_eq] at h; simp only [go_sem]; rw [szB_lt (by omega)]
  · simp only [decide_eq_false_iff_not] at h; simp only [go_sem]
    refine LoopK.intro (fun i : Nat => ⟨[.d (.sl 39 (xs.map TStream.enc)), .d (.int .i64 (left - ((xs.length + sumB TStream.bulk (xs.take i) : Nat) : Int))), .junk, .junk, .d (.int .i64 0), .d (.int .i64 i), .junk, .junk, .junk, .junk, .junk, .junk, .junk, .junk, .junk, .junk, .junk, .junk, .junk, .junk, .junk, .junk, .junk, .junk, .junk, .junk, .junk], []⟩)
      (fun i => xs.length - i) (fun i => i ≤ xs.length ∧ ((xs.length + sumB TStream.bulk (xs.take i) : Nat) : Int) ≤ left) 0 [] ⟨by omega, by (simp only [List.take_zero, sumB_nil]) <;> omega⟩ ?_ ?_
    · simp only [go_sem]; simp [sumB]
    · rintro i ⟨hi, hle⟩
      simp only [go_sem, List.length_map]
      have hs2 := sumB_take_le TStream.bulk xs (i + 1)
      refine cSplit (fun h1 => ?_) (fun h1 => ?_)
      · simp only [decide_eq_true_eq] at h1
        have hlt : i < xs.length := by omega
        have hxi := map_at TStream.enc xs i hlt
        have hw2 := inc hlt hm
        have hs := sumB_take TStream.bulk xs i hlt
        simp only [go_sem, List.length_map, Int.toNat_natCast, hxi, TStream.enc]
        refine ⟨⟨by omega, by omega⟩, ?_⟩
        refine CallS.intro (laws_szStream xs[i] _ (by omega)) ?_
        simp only [go_sem]
        refine cSplit (fun h2 => ?_) (fun h2 => ?_)
        · have h2 := szB_neg (of_decide_eq_true h2); simp only [go_sem]; rw [szB_lt (by omega)]
        · obtain ⟨e2, hb⟩ := szB_pos (of_decide_eq_false h2)
          simp only [go_sem, hw2, e2]
          refine RoundE.intro (i + 1) [] ⟨by omega, by omega⟩ (by omega) ?_
          simp only [go_sem]; simp [hs]; try omega
      · simp only [go_sem]
        simp only [decide_eq_false_iff_not] at h1
        have hi2 : i = xs.length := by omega
        subst hi2
        rw [List.take_length] at hle ⊢
        rw [szB_ge (by omega)]
def TFrame.bulk (x : TFrame) : Nat := x.data.length
set_option maxRecDepth 100000 in
theorem laws_szFrame (x : TFrame) (left : Int) (hl : 0 ≤ left ∧ left ≤ 1048576) : PureCall Try.prog 199 [.agg [.int .i64 x.kind, .int .i64 x.stream, .int .i64 x.offset, .str x.data, .bool x.fin, .int .i64 x.code, .int .i64 x.limit, .int .i64 x.final, .bool x.uni], .one (.int .i64 left)] [.one (.int .i64 (szB (TFrame.bulk x) left))] := by
  refine pure_ev Try.func199 rfl Try.call199 Try.checked.mixed [.agg [.d (.int .i64 x.kind), .d (.int .i64 x.stream), .d (.int .i64 x.offset), .d (.str x.data), .d (.bool x.fin), .d (.int .i64 x.code), .d (.int .i64 x.limit), .d (.int .i64 x.final), .d (.bool x.uni)], .d (.int .i64 left), .junk, .junk, .junk, .junk, .junk, .junk, .junk, .junk, .junk, .junk, .junk] rfl [.tmp 4] rfl ?_
  intro ok
  have hw0 : IntKind.i64.wrap (left - (x.data.length : Int)) = left - (x.data.length : Int) := wsub (by omega) (ok.1.2.2.2.1)
  simp only [go_sem, hw0]
  refine cSplit (fun h => ?_) (fun h => ?_)
  · simp only [decide_eq_true_eq] at h; simp only [go_sem]; rw [szB_lt (by simp only [TFrame.bulk]; omega)]
  simp only [decide_eq_false_iff_not] at h
  try simp only [go_sem]
  rw [show szB (TFrame.bulk x) left = left - ((x.data.length : Nat) : Int) from by rw [szB_ge (by simp only [TFrame.bulk]; omega)]; simp only [TFrame.bulk]; try omega]
set_option maxRecDepth 100000 in
theorem laws_szFrameS (xs : List TFrame) (left : Int) (hl : 0 ≤ left ∧ left ≤ 1048576) : PureCall Try.prog 186 [.one (.sl 9 (xs.map TFrame.enc)), .one (.int .i64 left)] [.one (.int .i64 (szB ((xs.length + sumB TFrame.bulk xs)) left))] := by
  refine pure_ev Try.func186 rfl Try.call186 Try.checked.mixed [.d (.sl 9 (xs.map TFrame.enc)), .d (.int .i64 left), .junk, .junk, .junk, .junk, .junk, .junk, .junk, .junk, .junk, .junk, .junk, .junk, .junk, .junk, .junk, .junk, .junk, .junk, .junk, .junk, .junk, .junk, .junk, .junk, .junk] rfl [.tmp 4] rfl ?_
  intro ok
  have hm := len_of ok
  have hw := wsub hl hm
  simp only [go_sem, List.length_map, hw]
  refine cSplit (fun h => ?_) (fun h => ?_)
  · simp only [decide_eq_true_eq] at h; simp only [go_sem]; rw [szB_lt (by omega)]
  · simp only [decide_eq_false_iff_not] at h; simp only [go_sem]
    refine LoopK.intro (fun i : Nat => ⟨[.d (.sl 9 (xs.map TFrame.enc)), .d (.int .i64 (left - ((xs.length + sumB TFrame.bulk (xs.take i) : Nat) : Int))), .junk, .junk, .d (.int .i64 0), .d (.int .i64 i), .junk, .junk, .junk, .junk, .junk, .junk, .junk, .junk, .junk, .junk, .junk, .junk, .junk, .junk, .junk, .junk, .junk, .junk, .junk, .junk, .junk], []⟩)
      (fun i => xs.length - i) (fun i => i ≤ xs.length ∧ ((xs.length + sumB TFrame.bulk (xs.take i) : Nat) : Int) ≤ left) 0 [] ⟨by omega, by (simp only [List.take_zero, sumB_nil]) <;> omega⟩ ?_ ?_
    · simp only [go_sem]; simp [sumB]
    · rintro i ⟨hi, hle⟩
      simp only [go_sem, List.length_map]
      have hs2 := sumB_take_le TFrame.bulk xs (i + 1)
      refine cSplit (fun h1 => ?_) (fun h1 => ?_)
      · simp only [decide_eq_true_eq] at h1
        have hlt : i < xs.length := by omega
        have hxi := map_at TFrame.enc xs i hlt
        have hw2 := inc hlt hm
        have hs := sumB_take TFrame.bulk xs i hlt
        simp only [go_sem, List.length_map, Int.toNat_natCast, hxi, TFrame.enc]
        refine ⟨⟨by omega, by omega⟩, ?_⟩
        refine CallS.intro (laws_szFrame xs[i] _ (by omega)) ?_
        simp only [go_sem]
        refine cSplit (fun h2 => ?_) (fun h2 => ?_)
        · have h2 := szB_neg (of_decide_eq_true h2); simp only [go_sem]; rw [szB_lt (by omega)]
        · obtain ⟨e2, hb⟩ := szB_pos (of_decide_eq_false h2)
          simp only [go_sem, hw2, e2]
          refine RoundE.intro (i + 1) [] ⟨by omega, by omega⟩ (by omega) ?_
          simp only [go_sem]; simp [hs]; try omega
      · simp only [go_sem]
        simp only [decide_eq_false_iff_not] at h1
        have hi2 : i = xs.length := by omega
        subst hi2
        rw [List.take_length] at hle ⊢
        rw [szB_ge (by omega)]
def TPacket.bulk (x : TPacket) : Nat := (x.frames.length + sumB TFrame.bulk x.frames)
set_option maxRecDepth 100000 in
theorem laws_szPacket (x : TPacket) (left : Int) (hl : 0 ≤ left ∧ left ≤ 1048576) : PureCall Try.prog 165 [.agg [.int .i64 x.number, .sl 9 (x.frames.map TFrame.enc)], .one (.int .i64 left)] [.one (.int .i64 (szB (TPacket.bulk x) left))] := by
  refine pure_ev Try.func165 rfl Try.call165 Try.checked.mixed [.agg [.d (.int .i64 x.number), .d (.sl 9 (x.frames.map TFrame.enc))], .d (.int .i64 left), .junk, .junk, .junk, .junk, .junk, .junk, .junk, .junk, .junk, .junk] rfl [.tmp 4] rfl ?_
  intro ok
  try simp only [go_sem]
  refine CallS.intro (laws_szFrameS x.frames (left) (by omega)) ?_
  simp only [go_sem]
  refine cSplit (fun h => ?_) (fun h => ?_)
  · simp only [decide_eq_true_eq] at h; have h := szB_neg h; simp only [go_sem]; rw [szB_lt (by simp only [TPacket.bulk]; omega)]
  simp only [decide_eq_false_iff_not] at h; obtain ⟨e0, h⟩ := szB_pos h; simp only [go_sem, e0]
  try simp only [go_sem]
  rw [show szB (TPacket.bulk x) left = left - (((x.frames.length + sumB TFrame.bulk x.frames) : Nat) : Int) from by rw [szB_ge (by simp only [TPacket.bulk]; omega)]; simp only [TPacket.bulk]; try omega]
set_option maxRecDepth 100000 in
theorem laws_szPacketS (xs : List TPacket) (left : Int) (hl : 0 ≤ left ∧ left ≤ 1048576) : PureCall Try.prog 112 [.one (.sl 2 (xs.map TPacket.enc)), .one (.int .i64 left)] [.one (.int .i64 (szB ((xs.length + sumB TPacket.bulk xs)) left))] := by
  refine pure_ev Try.func112 rfl Try.call112 Try.checked.mixed [.d (.sl 2 (xs.map TPacket.enc)), .d (.int .i64 left), .junk, .junk, .junk, .junk, .junk, .junk, .junk, .junk, .junk, .junk, .junk, .junk, .junk, .junk, .junk, .junk, .junk, .junk, .junk, .junk, .junk, .junk, .junk, .junk, .junk] rfl [.tmp 4] rfl ?_
  intro ok
  have hm := len_of ok
  have hw := wsub hl hm
  simp only [go_sem, List.length_map, hw]
  refine cSplit (fun h => ?_) (fun h => ?_)
  · simp only [decide_eq_true_eq] at h; simp only [go_sem]; rw [szB_lt (by omega)]
  · simp only [decide_eq_false_iff_not] at h; simp only [go_sem]
    refine LoopK.intro (fun i : Nat => ⟨[.d (.sl 2 (xs.map TPacket.enc)), .d (.int .i64 (left - ((xs.length + sumB TPacket.bulk (xs.take i) : Nat) : Int))), .junk, .junk, .d (.int .i64 0), .d (.int .i64 i), .junk, .junk, .junk, .junk, .junk, .junk, .junk, .junk, .junk, .junk, .junk, .junk, .junk, .junk, .junk, .junk, .junk, .junk, .junk, .junk, .junk], []⟩)
      (fun i => xs.length - i) (fun i => i ≤ xs.length ∧ ((xs.length + sumB TPacket.bulk (xs.take i) : Nat) : Int) ≤ left) 0 [] ⟨by omega, by (simp only [List.take_zero, sumB_nil]) <;> omega⟩ ?_ ?_
    · simp only [go_sem]; simp [sumB]
    · rintro i ⟨hi, hle⟩
      simp only [go_sem, List.length_map]
      have hs2 := sumB_take_le TPacket.bulk xs (i + 1)
      refine cSplit (fun h1 => ?_) (fun h1 => ?_)
      · simp only [decide_eq_true_eq] at h1
        have hlt : i < xs.length := by omega
        have hxi := map_at TPacket.enc xs i hlt
        have hw2 := inc hlt hm
        have hs := sumB_take TPacket.bulk xs i hlt
        simp only [go_sem, List.length_map, Int.toNat_natCast, hxi, TPacket.enc]
        refine ⟨⟨by omega, by omega⟩, ?_⟩
        refine CallS.intro (laws_szPacket xs[i] _ (by omega)) ?_
        simp only [go_sem]
        refine cSplit (fun h2 => ?_) (fun h2 => ?_)
        · have h2 := szB_neg (of_decide_eq_true h2); simp only [go_sem]; rw [szB_lt (by omega)]
        · obtain ⟨e2, hb⟩ := szB_pos (of_decide_eq_false h2)
          simp only [go_sem, hw2, e2]
          refine RoundE.intro (i + 1) [] ⟨by omega, by omega⟩ (by omega) ?_
          simp only [go_sem]; simp [hs]; try omega
      · simp only [go_sem]
        simp only [decide_eq_false_iff_not] at h1
        have hi2 : i = xs.length := by omega
        subst hi2
        rw [List.take_length] at hle ⊢
        rw [szB_ge (by omega)]
def TConn.bulk (x : TConn) : Nat := (x.streams.length + sumB TStream.bulk x.streams) + (x.packets.length + sumB TPacket.bulk x.packets)
set_option maxRecDepth 100000 in
theorem laws_szConn (x : TConn) (left : Int) (hl : 0 ≤ left ∧ left ≤ 1048576) : PureCall Try.prog 50 [.agg [.bool x.server, .int .i64 x.own.ring, .int .i64 x.own.window, .int .i64 x.own.windowMost, .int .i64 x.own.total, .int .i64 x.own.totalMost, .int .i64 x.own.bidi, .int .i64 x.own.uni, .int .i64 x.own.trip, .int .i64 x.peer.ring, .int .i64 x.peer.window, .int .i64 x.peer.windowMost, .int .i64 x.peer.total, .int .i64 x.peer.totalMost, .int .i64 x.peer.bidi, .int .i64 x.peer.uni, .int .i64 x.peer.trip, .sl 39 (x.streams.map TStream.enc), .int .i64 x.total.limit, .int .i64 x.total.used, .int .i64 x.total.blocked, .int .i64 x.total.told, .int .i64 x.inflow.size, .int .i64 x.inflow.most, .int .i64 x.inflow.limit, .int .i64 x.inflow.seen, .int .i64 x.inflow.read, .int .i64 x.inflow.since, .int .i64 x.openBidi.limit, .int .i64 x.openBidi.opened, .int .i64 x.openBidi.blocked, .int .i64 x.openUni.limit, .int .i64 x.openUni.opened, .int .i64 x.openUni.blocked, .int .i64 x.allowBidi.most, .int .i64 x.allowBidi.limit, .int .i64 x.allowBidi.seen, .int .i64 x.allowBidi.closed, .int .i64 x.allowUni.most, .int .i64 x.allowUni.limit, .int .i64 x.allowUni.seen, .int .i64 x.allowUni.closed, .bool x.tellTotal, .bool x.tellBidi, .bool x.tellUni, .int .i64 x.last, .int .i64 x.number, .sl 2 (x.packets.map TPacket.enc), .int .i64 x.now, .int .i64 x.closed], .one (.int .i64 left)] [.one (.int .i64 (szB (TConn.bulk x) left))] := by
  refine pure_ev Try.func50 rfl Try.call50 Try.checked.mixed [.agg [.d (.bool x.server), .d (.int .i64 x.own.ring), .d (.int .i64 x.own.window), .d (.int .i64 x.own.windowMost), .d (.int .i64 x.own.total), .d (.int .i64 x.own.totalMost), .d (.int .i64 x.own.bidi), .d (.int .i64 x.own.uni), .d (.int .i64 x.own.trip), .d (.int .i64 x.peer.ring), .d (.int .i64 x.peer.window), .d (.int .i64 x.peer.windowMost), .d (.int .i64 x.peer.total), .d (.int .i64 x.peer.totalMost), .d (.int .i64 x.peer.bidi), .d (.int .i64 x.peer.uni), .d (.int .i64 x.peer.trip), .d (.sl 39 (x.streams.map TStream.enc)), .d (.int .i64 x.total.limit), .d (.int .i64 x.total.used), .d (.int .i64 x.total.blocked), .d (.int .i64 x.total.told), .d (.int .i64 x.inflow.size), .d (.int .i64 x.inflow.most), .d (.int .i64 x.inflow.limit), .d (.int .i64 x.inflow.seen), .d (.int .i64 x.inflow.read), .d (.int .i64 x.inflow.since), .d (.int .i64 x.openBidi.limit), .d (.int .i64 x.openBidi.opened), .d (.int .i64 x.openBidi.blocked), .d (.int .i64 x.openUni.limit), .d (.int .i64 x.openUni.opened), .d (.int .i64 x.openUni.blocked), .d (.int .i64 x.allowBidi.most), .d (.int .i64 x.allowBidi.limit), .d (.int .i64 x.allowBidi.seen), .d (.int .i64 x.allowBidi.closed), .d (.int .i64 x.allowUni.most), .d (.int .i64 x.allowUni.limit), .d (.int .i64 x.allowUni.seen), .d (.int .i64 x.allowUni.closed), .d (.bool x.tellTotal), .d (.bool x.tellBidi), .d (.bool x.tellUni), .d (.int .i64 x.last), .d (.int .i64 x.number), .d (.sl 2 (x.packets.map TPacket.enc)), .d (.int .i64 x.now), .d (.int .i64 x.closed)], .d (.int .i64 left), .junk, .junk, .junk, .junk, .junk, .junk, .junk, .junk, .junk, .junk, .junk, .junk, .junk, .junk, .junk, .junk] rfl [.tmp 4] rfl ?_
  intro ok
  try simp only [go_sem]
  refine CallS.intro (laws_szStreamS x.streams (left) (by omega)) ?_
  simp only [go_sem]
  refine cSplit (fun h => ?_) (fun h => ?_)
  · simp only [decide_eq_true_eq] at h; have h := szB_neg h; simp only [go_sem]; rw [szB_lt (by simp only [TConn.bulk]; omega)]
  simp only [decide_eq_false_iff_not] at h; obtain ⟨e0, h⟩ := szB_pos h; simp only [go_sem, e0]
  try simp only [go_sem, List.length_map]
  refine CallS.intro (laws_szPacketS x.packets (left - (((x.streams.length + sumB TStream.bulk x.streams) : Nat) : Int)) (by omega)) ?_
  simp only [go_sem]
  refine cSplit (fun h => ?_) (fun h => ?_)
  · simp only [decide_eq_true_eq] at h; have h := szB_neg h; simp only [go_sem]; rw [szB_lt (by simp only [TConn.bulk]; omega)]
  simp only [decide_eq_false_iff_not] at h; obtain ⟨e1, h⟩ := szB_pos h; simp only [go_sem, e1]
  try simp only [go_sem]
  rw [show szB (TConn.bulk x) left = left - (((x.streams.length + sumB TStream.bulk x.streams) : Nat) : Int) - (((x.packets.length + sumB TPacket.bulk x.packets) : Nat) : Int) from by rw [szB_ge (by simp only [TConn.bulk]; omega)]; simp only [TConn.bulk]; try omega]
set_option maxRecDepth 100000 in
theorem laws_toConf (x : TConf) : PureCall Try.prog 60 [.agg [.int .i64 x.ring, .int .i64 x.window, .int .i64 x.windowMost, .int .i64 x.total, .int .i64 x.totalMost, .int .i64 x.bidi, .int .i64 x.uni, .int .i64 x.trip]] [.agg [.int .i64 x.ring, .int .i64 x.window, .int .i64 x.windowMost, .int .i64 x.total, .int .i64 x.totalMost, .int .i64 x.bidi, .int .i64 x.uni, .int .i64 x.trip]] := by
  refine pure_ev Try.func60 rfl Try.call60 Try.checked.mixed [.agg [.d (.int .i64 x.ring), .d (.int .i64 x.window), .d (.int .i64 x.windowMost), .d (.int .i64 x.total), .d (.int .i64 x.totalMost), .d (.int .i64 x.bidi), .d (.int .i64 x.uni), .d (.int .i64 x.trip)], .junk, .junk, .junk, .junk, .junk, .junk, .junk, .junk, .junk, .junk, .junk, .junk, .junk, .junk, .junk, .junk, .junk, .junk, .junk, .junk, .junk, .junk, .junk, .junk, .junk, .junk, .junk, .junk] rfl [.cell 2 91] rfl ?_
  intro _
  try simp only [go_sem]
  repeat' (first
    | (with_reducible refine gTrueS ?_; simp only [go_sem, List.length_map, List.take_length, List.length_take, Nat.min_self]) | (with_reducible refine gFalseS ?_; simp only [go_sem, List.length_map, List.take_length, List.length_take, Nat.min_self]) | (with_reducible refine gTrue ?_; simp only [go_sem, List.length_map, List.take_length, List.length_take, Nat.min_self]) | (with_reducible refine gFalse ?_; simp only [go_sem, List.length_map, List.take_length, List.length_take, Nat.min_self])
    | (refine gSymS ?_; simp only [go_sem, List.length_map, List.take_length, List.length_take, Nat.min_self]) | (refine gSym ?_; simp only [go_sem, List.length_map, List.take_length, List.length_take, Nat.min_self])
    | (refine cSplit (fun h => ?_) (fun h => ?_) <;> simp only [go_sem, List.length_map, List.take_length, List.length_take, Nat.min_self])
    | (with_reducible refine And.intro ?_ ?_; (focus (first | omega | (exact ⟨by omega, by omega⟩) | (simp; done) | (simp; omega)))))
  all_goals simp
set_option maxRecDepth 100000 in
theorem laws_toIntS (xs : List Int) (hx : xs.length ≤ 1048576) : PureCall Try.prog 86 [.one (.sl 1 (xs.map eI))] [.one (.sl 1 (xs.map eI))] := by
  refine pure_ev Try.func86 rfl Try.call86 Try.checked.mixed [.d (.sl 1 (xs.map eI)), .junk, .junk, .junk, .junk, .junk, .junk, .junk, .junk, .junk, .junk, .junk, .junk, .junk, .junk, .junk, .junk, .junk, .junk, .junk, .junk, .junk] rfl [.tmp 2] rfl ?_
  intro _
  have hm : xs.length ≤ maxLen := by simp only [maxLen]; omega
  simp only [go_sem, List.length_map, Int.toNat_natCast]
  refine ⟨⟨by omega, by omega, hm⟩, ?_⟩
  refine LoopK.intro (fun i : Nat => ⟨[.d (.sl 1 (xs.map eI)), .junk, .junk, .sl 0 0 xs.length, .d (.int .i64 i), .junk, .junk, .junk, .junk, .junk, .junk, .junk, .junk, .junk, .junk, .junk, .junk, .junk, .junk, .junk, .junk, .junk], [.arr 1 ((cpL (0 : Int) xs i).map eI) true]⟩)
      (fun i => xs.length - i) (fun i => i ≤ xs.length) 0 [0] (by omega) ?_ ?_
  · simp only [go_sem]; simp [cpL, eI]
  · intro i hi
    simp only [go_sem, List.length_map]
    refine cSplit (fun h1 => ?_) (fun h1 => ?_)
    · simp only [decide_eq_true_eq] at h1
      have hlt : i < xs.length := by omega
      have hxi := map_at eI xs i hlt
      have hw := inc hlt hm
      have hg := cpL_get (0 : Int) eI xs i hlt
      have hs := cpL_set (0 : Int) eI xs i hlt
      have hl := cpL_len (0 : Int) xs i (by omega)
      simp only [eI] at hs hg hxi
      simp only [go_sem, List.length_map, List.map_nil, Int.toNat_natCast, hxi, hg, hs, hl, hw]
      refine ⟨⟨by omega, by omega⟩, ?_⟩
      refine ⟨⟨by omega, by omega⟩, ⟨by omega, by simp⟩, RoundE.intro (i + 1) [0] (by omega) (by omega) ?_⟩
      simp only [go_sem]; simp
    · simp only [go_sem]
      simp only [decide_eq_false_iff_not] at h1
      have hi2 : i = xs.length := by omega
      subst hi2
      rw [cpL_all]
      simp [outOA]
      exact List.take_of_length_le (by simp)
set_option maxRecDepth 100000 in
theorem laws_toRing (x : TRing) (hx : TRing.bulk x ≤ 1048576) : PureCall Try.prog 200 [.agg [.int .i64 x.size, .int .i64 x.base, .int .i64 x.end', .sl 1 (x.cells.map eI)]] [.agg [.int .i64 x.size, .int .i64 x.base, .int .i64 x.end', .sl 1 (x.cells.map eI)]] := by
  refine pure_ev Try.func200 rfl Try.call200 Try.checked.mixed [.agg [.d (.int .i64 x.size), .d (.int .i64 x.base), .d (.int .i64 x.end'), .d (.sl 1 (x.cells.map eI))], .junk, .junk, .junk, .junk, .junk, .junk, .junk, .junk, .junk, .junk, .junk, .junk, .junk, .junk, .junk, .junk, .junk] rfl [.cell 2 230] rfl ?_
  intro _
  simp only [TRing.bulk] at hx
  try simp only [go_sem]
  repeat' (first
    | (refine CallS.intro (by first | assumption | (apply laws_toIntS <;> first | assumption | omega)) ?_; simp only [go_sem, List.length_map])
    | (refine CallK.intro (by first | assumption | (apply laws_toIntS <;> first | assumption | omega)) ?_; simp only [go_sem, List.length_map, List.take_length, List.length_take, Nat.min_self])
    | (with_reducible refine gTrueS ?_; simp only [go_sem, List.length_map, List.take_length, List.length_take, Nat.min_self]) | (with_reducible refine gFalseS ?_; simp only [go_sem, List.length_map, List.take_length, List.length_take, Nat.min_self]) | (with_reducible refine gTrue ?_; simp only [go_sem, List.length_map, List.take_length, List.length_take, Nat.min_self]) | (with_reducible refine gFalse ?_; simp only [go_sem, List.length_map, List.take_length, List.length_take, Nat.min_self])
    | (refine gSymS ?_; simp only [go_sem, List.length_map, List.take_length, List.length_take, Nat.min_self]) | (refine gSym ?_; simp only [go_sem, List.length_map, List.take_length, List.length_take, Nat.min_self])
    | (refine cSplit (fun h => ?_) (fun h => ?_) <;> simp only [go_sem, List.length_map, List.take_length, List.length_take, Nat.min_self])
    | (with_reducible refine And.intro ?_ ?_; (focus (first | omega | (exact ⟨by omega, by omega⟩) | (simp; done) | (simp; omega)))))
  all_goals simp
set_option maxRecDepth 100000 in
theorem laws_toRange (x : TRange) : PureCall Try.prog 204 [.agg [.int .i64 x.low, .int .i64 x.high]] [.agg [.int .i64 x.low, .int .i64 x.high]] := by
  refine pure_ev Try.func204 rfl Try.call204 Try.checked.mixed [.agg [.d (.int .i64 x.low), .d (.int .i64 x.high)], .junk, .junk, .junk, .junk, .junk, .junk, .junk, .junk, .junk, .junk] rfl [.cell 2 142] rfl ?_
  intro _
  try simp only [go_sem]
  repeat' (first
    | (with_reducible refine gTrueS ?_; simp only [go_sem, List.length_map, List.take_length, List.length_take, Nat.min_self]) | (with_reducible refine gFalseS ?_; simp only [go_sem, List.length_map, List.take_length, List.length_take, Nat.min_self]) | (with_reducible refine gTrue ?_; simp only [go_sem, List.length_map, List.take_length, List.length_take, Nat.min_self]) | (with_reducible refine gFalse ?_; simp only [go_sem, List.length_map, List.take_length, List.length_take, Nat.min_self])
    | (refine gSymS ?_; simp only [go_sem, List.length_map, List.take_length, List.length_take, Nat.min_self]) | (refine gSym ?_; simp only [go_sem, List.length_map, List.take_length, List.length_take, Nat.min_self])
    | (refine cSplit (fun h => ?_) (fun h => ?_) <;> simp only [go_sem, List.length_map, List.take_length, List.length_take, Nat.min_self])
    | (with_reducible refine And.intro ?_ ?_; (focus (first | omega | (exact ⟨by omega, by omega⟩) | (simp; done) | (simp; omega)))))
  all_goals simp
set_option maxRecDepth 100000 in
theorem laws_toRangeS (xs : List TRange) (hx : xs.length ≤ 1048576) : PureCall Try.prog 201 [.one (.sl 2 (xs.map TRange.enc))] [.one (.sl 2 (xs.map TRange.enc))] := by
  refine pure_ev Try.func201 rfl Try.call201 Try.checked.mixed [.d (.sl 2 (xs.map TRange.enc)), .junk, .junk, .junk, .junk, .junk, .junk, .junk, .junk, .junk, .junk, .junk, .junk, .junk, .junk, .junk, .junk, .junk, .junk, .junk, .junk, .junk, .junk] rfl [.tmp 2] rfl ?_
  intro _
  have hm : xs.length ≤ maxLen := by simp only [maxLen]; omega
  simp only [go_sem, List.length_map, Int.toNat_natCast]
  refine ⟨⟨by omega, by omega, hm⟩, ?_⟩
  refine LoopK.intro (fun i : Nat => ⟨[.d (.sl 2 (xs.map TRange.enc)), .junk, .junk, .sl 0 0 xs.length, .d (.int .i64 i), .junk, .junk, .junk, .junk, .junk, .junk, .junk, .junk, .junk, .junk, .junk, .junk, .junk, .junk, .junk, .junk, .junk, .junk], [.arr 2 ((cpL (⟨0, 0⟩ : TRange) xs i).map TRange.enc) true]⟩)
      (fun i => xs.length - i) (fun i => i ≤ xs.length) 0 [0] (by omega) ?_ ?_
  · simp only [go_sem]; simp [cpL, TRange.enc]
  · intro i hi
    simp only [go_sem, List.length_map]
    refine cSplit (fun h1 => ?_) (fun h1 => ?_)
    · simp only [decide_eq_true_eq] at h1
      have hlt : i < xs.length := by omega
      have hxi := map_at TRange.enc xs i hlt
      have hw := inc hlt hm
      have hg := cpL_get (⟨0, 0⟩ : TRange) TRange.enc xs i hlt
      have hs := cpL_set (⟨0, 0⟩ : TRange) TRange.enc xs i hlt
      have hl := cpL_len (⟨0, 0⟩ : TRange) xs i (by omega)
      simp only [TRange.enc] at hs hg hxi
      simp only [go_sem, List.length_map, List.map_nil, Int.toNat_natCast, hxi]
      refine ⟨⟨by omega, by omega⟩, ?_⟩
      refine CallS.intro (laws_toRange xs[i]) ?_
      simp only [go_sem, List.length_map, List.map_nil, Int.toNat_natCast, hg, hs, hl, hw]
      refine ⟨⟨by omega, by omega⟩, ⟨by omega, by simp⟩, RoundE.intro (i + 1) [0] (by omega) (by omega) ?_⟩
      simp only [go_sem]; simp
    · simp only [go_sem]
      simp only [decide_eq_false_iff_not] at h1
      have hi2 : i = xs.length := by omega
      subst hi2
      rw [cpL_all]
      simp [outOA]
      exact List.take_of_length_le (by simp)
set_option maxRecDepth 100000 in
theorem laws_toSender (x : TSender) (hx : TSender.bulk x ≤ 1048576) : PureCall Try.prog 187 [.agg [.int .i64 x.state, .int .i64 x.ring.size, .int .i64 x.ring.base, .int .i64 x.ring.end', .sl 1 (x.ring.cells.map eI), .sl 2 (x.pending.map TRange.enc), .sl 2 (x.flight.map TRange.enc), .sl 2 (x.acked.map TRange.enc), .int .i64 x.final, .int .i64 x.fin, .int .i64 x.sent, .int .i64 x.code]] [.agg [.int .i64 x.state, .int .i64 x.ring.size, .int .i64 x.ring.base, .int .i64 x.ring.end', .sl 1 (x.ring.cells.map eI), .sl 2 (x.pending.map TRange.enc), .sl 2 (x.flight.map TRange.enc), .sl 2 (x.acked.map TRange.enc), .int .i64 x.final, .int .i64 x.fin, .int .i64 x.sent, .int .i64 x.code]] := by
  refine pure_ev Try.func187 rfl Try.call187 Try.checked.mixed [.agg [.d (.int .i64 x.state), .d (.int .i64 x.ring.size), .d (.int .i64 x.ring.base), .d (.int .i64 x.ring.end'), .d (.sl 1 (x.ring.cells.map eI)), .d (.sl 2 (x.pending.map TRange.enc)), .d (.sl 2 (x.flight.map TRange.enc)), .d (.sl 2 (x.acked.map TRange.enc)), .d (.int .i64 x.final), .d (.int .i64 x.fin), .d (.int .i64 x.sent), .d (.int .i64 x.code)], .junk, .junk, .junk, .junk, .junk, .junk, .junk, .junk, .junk, .junk, .junk, .junk, .junk, .junk, .junk, .junk, .junk, .junk, .junk, .junk, .junk, .junk, .junk, .junk, .junk, .junk, .junk, .junk, .junk, .junk, .junk, .junk, .junk, .junk, .junk] rfl [.cell 2 232] rfl ?_
  intro _
  simp only [TSender.bulk] at hx
  try simp only [go_sem]
  repeat' (first
    | (refine CallS.intro (by first | assumption | (apply laws_toRing <;> first | assumption | omega) | (apply laws_toRangeS <;> first | assumption | omega)) ?_; simp only [go_sem, List.length_map])
    | (refine CallK.intro (by first | assumption | (apply laws_toRing <;> first | assumption | omega) | (apply laws_toRangeS <;> first | assumption | omega)) ?_; simp only [go_sem, List.length_map, List.take_length, List.length_take, Nat.min_self])
    | (with_reducible refine gTrueS ?_; simp only [go_sem, List.length_map, List.take_length, List.length_take, Nat.min_self]) | (with_reducible refine gFalseS ?_; simp only [go_sem, List.length_map, List.take_length, List.length_take, Nat.min_self]) | (with_reducible refine gTrue ?_; simp only [go_sem, List.length_map, List.take_length, List.length_take, Nat.min_self]) | (with_reducible refine gFalse ?_; simp only [go_sem, List.length_map, List.take_length, List.length_take, Nat.min_self])
    | (refine gSymS ?_; simp only [go_sem, List.length_map, List.take_length, List.length_take, Nat.min_self]) | (refine gSym ?_; simp only [go_sem, List.length_map, List.take_length, List.length_take, Nat.min_self])
    | (refine cSplit (fun h => ?_) (fun h => ?_) <;> simp only [go_sem, List.length_map, List.take_length, List.length_take, Nat.min_self])
    | (with_reducible refine And.intro ?_ ?_; (focus (first | omega | (exact ⟨by omega, by omega⟩) | (simp; done) | (simp; omega)))))
  all_goals simp
set_option maxRecDepth 100000 in
theorem laws_toCredit (x : TCredit) : PureCall Try.prog 114 [.agg [.int .i64 x.limit, .int .i64 x.used, .int .i64 x.blocked, .int .i64 x.told]] [.agg [.int .i64 x.limit, .int .i64 x.used, .int .i64 x.blocked, .int .i64 x.told]] := by
  refine pure_ev Try.func114 rfl Try.call114 Try.checked.mixed [.agg [.d (.int .i64 x.limit), .d (.int .i64 x.used), .d (.int .i64 x.blocked), .d (.int .i64 x.told)], .junk, .junk, .junk, .junk, .junk, .junk, .junk, .junk, .junk, .junk, .junk, .junk, .junk, .junk, .junk, .junk] rfl [.cell 2 93] rfl ?_
  intro _
  try simp only [go_sem]
  repeat' (first
    | (with_reducible refine gTrueS ?_; simp only [go_sem, List.length_map, List.take_length, List.length_take, Nat.min_self]) | (with_reducible refine gFalseS ?_; simp only [go_sem, List.length_map, List.take_length, List.length_take, Nat.min_self]) | (with_reducible refine gTrue ?_; simp only [go_sem, List.length_map, List.take_length, List.length_take, Nat.min_self]) | (with_reducible refine gFalse ?_; simp only [go_sem, List.length_map, List.take_length, List.length_take, Nat.min_self])
    | (refine gSymS ?_; simp only [go_sem, List.length_map, List.take_length, List.length_take, Nat.min_self]) | (refine gSym ?_; simp only [go_sem, List.length_map, List.take_length, List.length_take, Nat.min_self])
    | (refine cSplit (fun h => ?_) (fun h => ?_) <;> simp only [go_sem, List.length_map, List.take_length, List.length_take, Nat.min_self])
    | (with_reducible refine And.intro ?_ ?_; (focus (first | omega | (exact ⟨by omega, by omega⟩) | (simp; done) | (simp; omega)))))
  all_goals simp
set_option maxRecDepth 100000 in
theorem laws_toChunk (x : TChunk) : PureCall Try.prog 153 [.agg [.int .i64 x.offset, .str x.data]] [.agg [.int .i64 x.offset, .str x.data]] := by
  refine pure_ev Try.func153 rfl Try.call153 Try.checked.mixed [.agg [.d (.int .i64 x.offset), .d (.str x.data)], .junk, .junk, .junk, .junk, .junk, .junk, .junk, .junk, .junk, .junk] rfl [.cell 2 152] rfl ?_
  intro _
  try simp only [go_sem]
  repeat' (first
    | (with_reducible refine gTrueS ?_; simp only [go_sem, List.length_map, List.take_length, List.length_take, Nat.min_self]) | (with_reducible refine gFalseS ?_; simp only [go_sem, List.length_map, List.take_length, List.length_take, Nat.min_self]) | (with_reducible refine gTrue ?_; simp only [go_sem, List.length_map, List.take_length, List.length_take, Nat.min_self]) | (with_reducible refine gFalse ?_; simp only [go_sem, List.length_map, List.take_length, List.length_take, Nat.min_self])
    | (refine gSymS ?_; simp only [go_sem, List.length_map, List.take_length, List.length_take, Nat.min_self]) | (refine gSym ?_; simp only [go_sem, List.length_map, List.take_length, List.length_take, Nat.min_self])
    | (refine cSplit (fun h => ?_) (fun h => ?_) <;> simp only [go_sem, List.length_map, List.take_length, List.length_take, Nat.min_self])
    | (with_reducible refine And.intro ?_ ?_; (focus (first | omega | (exact ⟨by omega, by omega⟩) | (simp; done) | (simp; omega)))))
  all_goals simp
set_option maxRecDepth 100000 in
theorem laws_toChunkS (xs : List TChunk) (hx : (xs.length + sumB TChunk.bulk xs) ≤ 1048576) : PureCall Try.prog 97 [.one (.sl 2 (xs.map TChunk.enc))] [.one (.sl 2 (xs.map TChunk.enc))] := by
  refine pure_ev Try.func97 rfl Try.call97 Try.checked.mixed [.d (.sl 2 (xs.map TChunk.enc)), .junk, .junk, .junk, .junk, .junk, .junk, .junk, .junk, .junk, .junk, .junk, .junk, .junk, .junk, .junk, .junk, .junk, .junk, .junk, .junk, .junk, .junk] rfl [.tmp 2] rfl ?_
  intro _
  have hm : xs.length ≤ maxLen := by simp only [maxLen]; omega
  simp only [go_sem, List.length_map, Int.toNat_natCast]
  refine ⟨⟨by omega, by omega, hm⟩, ?_⟩
  refine LoopK.intro (fun i : Nat => ⟨[.d (.sl 2 (xs.map TChunk.enc)), .junk, .junk, .sl 0 0 xs.length, .d (.int .i64 i), .junk, .junk, .junk, .junk, .junk, .junk, .junk, .junk, .junk, .junk, .junk, .junk, .junk, .junk, .junk, .junk, .junk, .junk], [.arr 2 ((cpL (⟨0, []⟩ : TChunk) xs i).map TChunk.enc) true]⟩)
      (fun i => xs.length - i) (fun i => i ≤ xs.length) 0 [0] (by omega) ?_ ?_
  · simp only [go_sem]; simp [cpL, TChunk.enc]
  · intro i hi
    simp only [go_sem, List.length_map]
    refine cSplit (fun h1 => ?_) (fun h1 => ?_)
    · simp only [decide_eq_true_eq] at h1
      have hlt : i < xs.length := by omega
      have hxi := map_at TChunk.enc xs i hlt
      have hw := inc hlt hm
      have hg := cpL_get (⟨0, []⟩ : TChunk) TChunk.enc xs i hlt
      have hs := cpL_set (⟨0, []⟩ : TChunk) TChunk.enc xs i hlt
      have hl := cpL_len (⟨0, []⟩ : TChunk) xs i (by omega)
      have hb := sumB_at TChunk.bulk xs i hlt
      simp only [TChunk.enc] at hs hg hxi
      simp only [go_sem, List.length_map, List.map_nil, Int.toNat_natCast, hxi]
      refine ⟨⟨by omega, by omega⟩, ?_⟩
      refine CallS.intro (laws_toChunk xs[i]) ?_
      simp only [go_sem, List.length_map, List.map_nil, Int.toNat_natCast, hg, hs, hl, hw]
      refine ⟨⟨by omega, by omega⟩, ⟨by omega, by simp⟩, RoundE.intro (i + 1) [0] (by omega) (by omega) ?_⟩
      simp only [go_sem]; simp
    · simp only [go_sem]
      simp only [decide_eq_false_iff_not] at h1
      have hi2 : i = xs.length := by omega
      subst hi2
      rw [cpL_all]
      simp [outOA]
      exact List.take_of_length_le (by simp)
set_option maxRecDepth 100000 in
theorem laws_toBuffer (x : TBuffer) (hx : TBuffer.bulk x ≤ 1048576) : PureCall Try.prog 39 [.agg [.int .i64 x.next, .sl 2 (x.chunks.map TChunk.enc)]] [.agg [.int .i64 x.next, .sl 2 (x.chunks.map TChunk.enc)]] := by
  refine pure_ev Try.func39 rfl Try.call39 Try.checked.mixed [.agg [.d (.int .i64 x.next), .d (.sl 2 (x.chunks.map TChunk.enc))], .junk, .junk, .junk, .junk, .junk, .junk, .junk, .junk, .junk, .junk, .junk] rfl [.cell 2 63] rfl ?_
  intro _
  simp only [TBuffer.bulk] at hx
  try simp only [go_sem]
  repeat' (first
    | (refine CallS.intro (by first | assumption | (apply laws_toChunkS <;> first | assumption | omega)) ?_; simp only [go_sem, List.length_map])
    | (refine CallK.intro (by first | assumption | (apply laws_toChunkS <;> first | assumption | omega)) ?_; simp only [go_sem, List.length_map, List.take_length, List.length_take, Nat.min_self])
    | (with_reducible refine gTrueS ?_; simp only [go_sem, List.length_map, List.take_length, List.length_take, Nat.min_self]) | (with_reducible refine gFalseS ?_; simp only [go_sem, List.length_map, List.take_length, List.length_take, Nat.min_self]) | (with_reducible refine gTrue ?_; simp only [go_sem, List.length_map, List.take_length, List.length_take, Nat.min_self]) | (with_reducible refine gFalse ?_; simp only [go_sem, List.length_map, List.take_length, List.length_take, Nat.min_self])
    | (refine gSymS ?_; simp only [go_sem, List.length_map, List.take_length, List.length_take, Nat.min_self]) | (refine gSym ?_; simp only [go_sem, List.length_map, List.take_length, List.length_take, Nat.min_self])
    | (refine cSplit (fun h => ?_) (fun h => ?_) <;> simp only [go_sem, List.length_map, List.take_length, List.length_take, Nat.min_self])
    | (with_reducible refine And.intro ?_ ?_; (focus (first | omega | (exact ⟨by omega, by omega⟩) | (simp; done) | (simp; omega)))))
  all_goals simp
set_option maxRecDepth 100000 in
theorem laws_toReceiver (x : TReceiver) (hx : TReceiver.bulk x ≤ 1048576) : PureCall Try.prog 188 [.agg [.int .i64 x.state, .int .i64 x.buffer.next, .sl 2 (x.buffer.chunks.map TChunk.enc), .int .i64 x.final, .int .i64 x.highest, .int .i64 x.code]] [.agg [.int .i64 x.state, .int .i64 x.buffer.next, .sl 2 (x.buffer.chunks.map TChunk.enc), .int .i64 x.final, .int .i64 x.highest, .int .i64 x.code]] := by
  refine pure_ev Try.func188 rfl Try.call188 Try.checked.mixed [.agg [.d (.int .i64 x.state), .d (.int .i64 x.buffer.next), .d (.sl 2 (x.buffer.chunks.map TChunk.enc)), .d (.int .i64 x.final), .d (.int .i64 x.highest), .d (.int .i64 x.code)], .junk, .junk, .junk, .junk, .junk, .junk, .junk, .junk, .junk, .junk, .junk, .junk, .junk, .junk, .junk, .junk, .junk, .junk, .junk, .junk] rfl [.cell 2 234] rfl ?_
  intro _
  simp only [TReceiver.bulk] at hx
  try simp only [go_sem]
  repeat' (first
    | (refine CallS.intro (by first | assumption | (apply laws_toBuffer <;> first | assumption | omega)) ?_; simp only [go_sem, List.length_map])
    | (refine CallK.intro (by first | assumption | (apply laws_toBuffer <;> first | assumption | omega)) ?_; simp only [go_sem, List.length_map, List.take_length, List.length_take, Nat.min_self])
    | (with_reducible refine gTrueS ?_; simp only [go_sem, List.length_map, List.take_length, List.length_take, Nat.min_self]) | (with_reducible refine gFalseS ?_; simp only [go_sem, List.length_map, List.take_length, List.length_take, Nat.min_self]) | (with_reducible refine gTrue ?_; simp only [go_sem, List.length_map, List.take_length, List.length_take, Nat.min_self]) | (with_reducible refine gFalse ?_; simp only [go_sem, List.length_map, List.take_length, List.length_take, Nat.min_self])
    | (refine gSymS ?_; simp only [go_sem, List.length_map, List.take_length, List.length_take, Nat.min_self]) | (refine gSym ?_; simp only [go_sem, List.length_map, List.take_length, List.length_take, Nat.min_self])
    | (refine cSplit (fun h => ?_) (fun h => ?_) <;> simp only [go_sem, List.length_map, List.take_length, List.length_take, Nat.min_self])
    | (with_reducible refine And.intro ?_ ?_; (focus (first | omega | (exact ⟨by omega, by omega⟩) | (simp; done) | (simp; omega)))))
  all_goals simp
set_option maxRecDepth 100000 in
theorem laws_toWindow (x : TWindow) : PureCall Try.prog 115 [.agg [.int .i64 x.size, .int .i64 x.most, .int .i64 x.limit, .int .i64 x.seen, .int .i64 x.read, .int .i64 x.since]] [.agg [.int .i64 x.size, .int .i64 x.most, .int .i64 x.limit, .int .i64 x.seen, .int .i64 x.read, .int .i64 x.since]] := by
  refine pure_ev Try.func115 rfl Try.call115 Try.checked.mixed [.agg [.d (.int .i64 x.size), .d (.int .i64 x.most), .d (.int .i64 x.limit), .d (.int .i64 x.seen), .d (.int .i64 x.read), .d (.int .i64 x.since)], .junk, .junk, .junk, .junk, .junk, .junk, .junk, .junk, .junk, .junk, .junk, .junk, .junk, .junk, .junk, .junk, .junk, .junk, .junk, .junk, .junk, .junk] rfl [.cell 2 94] rfl ?_
  intro _
  try simp only [go_sem]
  repeat' (first
    | (with_reducible refine gTrueS ?_; simp only [go_sem, List.length_map, List.take_length, List.length_take, Nat.min_self]) | (with_reducible refine gFalseS ?_; simp only [go_sem, List.length_map, List.take_length, List.length_take, Nat.min_self]) | (with_reducible refine gTrue ?_; simp only [go_sem, List.length_map, List.take_length, List.length_take, Nat.min_self]) | (with_reducible refine gFalse ?_; simp only [go_sem, List.length_map, List.take_length, List.length_take, Nat.min_self])
    | (refine gSymS ?_; simp only [go_sem, List.length_map, List.take_length, List.length_take, Nat.min_self]) | (refine gSym ?_; simp only [go_sem, List.length_map, List.take_length, List.length_take, Nat.min_self])
    | (refine cSplit (fun h => ?_) (fun h => ?_) <;> simp only [go_sem, List.length_map, List.take_length, List.length_take, Nat.min_self])
    | (with_reducible refine And.intro ?_ ?_; (focus (first | omega | (exact ⟨by omega, by omega⟩) | (simp; done) | (simp; omega)))))
  all_goals simp
set_option maxRecDepth 100000 in
theorem laws_toPriority (x : TPriority) : PureCall Try.prog 189 [.agg [.int .i64 x.urgency, .bool x.incremental]] [.agg [.int .i64 x.urgency, .bool x.incremental]] := by
  refine pure_ev Try.func189 rfl Try.call189 Try.checked.mixed [.agg [.d (.int .i64 x.urgency), .d (.bool x.incremental)], .junk, .junk, .junk, .junk, .junk, .junk, .junk, .junk, .junk, .junk] rfl [.cell 2 235] rfl ?_
  intro _
  try simp only [go_sem]
  repeat' (first
    | (with_reducible refine gTrueS ?_; simp only [go_sem, List.length_map, List.take_length, List.length_take, Nat.min_self]) | (with_reducible refine gFalseS ?_; simp only [go_sem, List.length_map, List.take_length, List.length_take, Nat.min_self]) | (with_reducible refine gTrue ?_; simp only [go_sem, List.length_map, List.take_length, List.length_take, Nat.min_self]) | (with_reducible refine gFalse ?_; simp only [go_sem, List.length_map, List.take_length, List.length_take, Nat.min_self])
    | (refine gSymS ?_; simp only [go_sem, List.length_map, List.take_length, List.length_take, Nat.min_self]) | (refine gSym ?_; simp only [go_sem, List.length_map, List.take_length, List.length_take, Nat.min_self])
    | (refine cSplit (fun h => ?_) (fun h => ?_) <;> simp only [go_sem, List.length_map, List.take_length, List.length_take, Nat.min_self])
    | (with_reducible refine And.intro ?_ ?_; (focus (first | omega | (exact ⟨by omega, by omega⟩) | (simp; done) | (simp; omega)))))
  all_goals simp
set_option maxRecDepth 100000 in
theorem laws_toStream (x : TStream) (hx : TStream.bulk x ≤ 1048576) : PureCall Try.prog 166 [.agg [.int .i64 x.id, .int .i64 x.send.state, .int .i64 x.send.ring.size, .int .i64 x.send.ring.base, .int .i64 x.send.ring.end', .sl 1 (x.send.ring.cells.map eI), .sl 2 (x.send.pending.map TRange.enc), .sl 2 (x.send.flight.map TRange.enc), .sl 2 (x.send.acked.map TRange.enc), .int .i64 x.send.final, .int .i64 x.send.fin, .int .i64 x.send.sent, .int .i64 x.send.code, .int .i64 x.credit.limit, .int .i64 x.credit.used, .int .i64 x.credit.blocked, .int .i64 x.credit.told, .int .i64 x.recv.state, .int .i64 x.recv.buffer.next, .sl 2 (x.recv.buffer.chunks.map TChunk.enc), .int .i64 x.recv.final, .int .i64 x.recv.highest, .int .i64 x.recv.code, .int .i64 x.window.size, .int .i64 x.window.most, .int .i64 x.window.limit, .int .i64 x.window.seen, .int .i64 x.window.read, .int .i64 x.window.since, .int .i64 x.priority.urgency, .bool x.priority.incremental, .bool x.canSend, .bool x.canRecv, .bool x.tellReset, .bool x.tellStop, .bool x.tellMost, .bool x.stopped, .int .i64 x.stopCode, .bool x.counted]] [.agg [.int .i64 x.id, .int .i64 x.send.state, .int .i64 x.send.ring.size, .int .i64 x.send.ring.base, .int .i64 x.send.ring.end', .sl 1 (x.send.ring.cells.map eI), .sl 2 (x.send.pending.map TRange.enc), .sl 2 (x.send.flight.map TRange.enc), .sl 2 (x.send.acked.map TRange.enc), .int .i64 x.send.final, .int .i64 x.send.fin, .int .i64 x.send.sent, .int .i64 x.send.code, .int .i64 x.credit.limit, .int .i64 x.credit.used, .int .i64 x.credit.blocked, .int .i64 x.credit.told, .int .i64 x.recv.state, .int .i64 x.recv.buffer.next, .sl 2 (x.recv.buffer.chunks.map TChunk.enc), .int .i64 x.recv.final, .int .i64 x.recv.highest, .int .i64 x.recv.code, .int .i64 x.window.size, .int .i64 x.window.most, .int .i64 x.window.limit, .int .i64 x.window.seen, .int .i64 x.window.read, .int .i64 x.window.since, .int .i64 x.priority.urgency, .bool x.priority.incremental, .bool x.canSend, .bool x.canRecv, .bool x.tellReset, .bool x.tellStop, .bool x.tellMost, .bool x.stopped, .int .i64 x.stopCode, .bool x.counted]] := by
  refine pure_ev Try.func166 rfl Try.call166 Try.checked.mixed [.agg [.d (.int .i64 x.id), .d (.int .i64 x.send.state), .d (.int .i64 x.send.ring.size), .d (.int .i64 x.send.ring.base), .d (.int .i64 x.send.ring.end'), .d (.sl 1 (x.send.ring.cells.map eI)), .d (.sl 2 (x.send.pending.map TRange.enc)), .d (.sl 2 (x.send.flight.map TRange.enc)), .d (.sl 2 (x.send.acked.map TRange.enc)), .d (.int .i64 x.send.final), .d (.int .i64 x.send.fin), .d (.int .i64 x.send.sent), .d (.int .i64 x.send.code), .d (.int .i64 x.credit.limit), .d (.int .i64 x.credit.used), .d (.int .i64 x.credit.blocked), .d (.int .i64 x.credit.told), .d (.int .i64 x.recv.state), .d (.int .i64 x.recv.buffer.next), .d (.sl 2 (x.recv.buffer.chunks.map TChunk.enc)), .d (.int .i64 x.recv.final), .d (.int .i64 x.recv.highest), .d (.int .i64 x.recv.code), .d (.int .i64 x.window.size), .d (.int .i64 x.window.most), .d (.int .i64 x.window.limit), .d (.int .i64 x.window.seen), .d (.int .i64 x.window.read), .d (.int .i64 x.window.since), .d (.int .i64 x.priority.urgency), .d (.bool x.priority.incremental), .d (.bool x.canSend), .d (.bool x.canRecv), .d (.bool x.tellReset), .d (.bool x.tellStop), .d (.bool x.tellMost), .d (.bool x.stopped), .d (.int .i64 x.stopCode), .d (.bool x.counted)], .junk, .junk, .junk, .junk, .junk, .junk, .junk, .junk, .junk, .junk, .junk, .junk, .junk, .junk, .junk, .junk, .junk, .junk, .junk, .junk, .junk, .junk, .junk, .junk, .junk, .junk, .junk, .junk, .junk, .junk, .junk, .junk, .junk, .junk, .junk, .junk, .junk, .junk, .junk, .junk, .junk, .junk, .junk, .junk, .junk, .junk, .junk, .junk, .junk, .junk, .junk] rfl [.cell 2 237] rfl ?_
  intro _
  simp only [TStream.bulk] at hx
  try simp only [go_sem]
  repeat' (first
    | (refine CallS.intro (by first | assumption | (apply laws_toSender <;> first | assumption | omega) | (apply laws_toCredit <;> first | assumption | omega) | (apply laws_toReceiver <;> first | assumption | omega) | (apply laws_toWindow <;> first | assumption | omega) | (apply laws_toPriority <;> first | assumption | omega)) ?_; simp only [go_sem, List.length_map])
    | (refine CallK.intro (by first | assumption | (apply laws_toSender <;> first | assumption | omega) | (apply laws_toCredit <;> first | assumption | omega) | (apply laws_toReceiver <;> first | assumption | omega) | (apply laws_toWindow <;> first | assumption | omega) | (apply laws_toPriority <;> first | assumption | omega)) ?_; simp only [go_sem, List.length_map, List.take_length, List.length_take, Nat.min_self])
    | (with_reducible refine gTrueS ?_; simp only [go_sem, List.length_map, List.take_length, List.length_take, Nat.min_self]) | (with_reducible refine gFalseS ?_; simp only [go_sem, List.length_map, List.take_length, List.length_take, Nat.min_self]) | (with_reducible refine gTrue ?_; simp only [go_sem, List.length_map, List.take_length, List.length_take, Nat.min_self]) | (with_reducible refine gFalse ?_; simp only [go_sem, List.length_map, List.take_length, List.length_take, Nat.min_self])
    | (refine gSymS ?_; simp only [go_sem, List.length_map, List.take_length, List.length_take, Nat.min_self]) | (refine gSym ?_; simp only [go_sem, List.length_map, List.take_length, List.length_take, Nat.min_self])
    | (refine cSplit (fun h => ?_) (fun h => ?_) <;> simp only [go_sem, List.length_map, List.take_length, List.length_take, Nat.min_self])
    | (with_reducible refine And.intro ?_ ?_; (focus (first | omega | (exact ⟨by omega, by omega⟩) | (simp; done) | (simp; omega)))))
  all_goals simp
set_option maxRecDepth 100000 in
theorem laws_toStreamS (xs : List TStream) (hx : (xs.length + sumB TStream.bulk xs) ≤ 1048576) : PureCall Try.prog 113 [.one (.sl 39 (xs.map TStream.enc))] [.one (.sl 39 (xs.map TStream.enc))] := by
  refine pure_ev Try.func113 rfl Try.call113 Try.checked.mixed [.d (.sl 39 (xs.map TStream.enc)), .junk, .junk, .junk, .junk, .junk, .junk, .junk, .junk, .junk, .junk, .junk, .junk, .junk, .junk, .junk, .junk, .junk, .junk, .junk, .junk, .junk, .junk] rfl [.tmp 2] rfl ?_
  intro _
  have hm : xs.length ≤ maxLen := by simp only [maxLen]; omega
  simp only [go_sem, List.length_map, Int.toNat_natCast]
  refine ⟨⟨by omega, by omega, hm⟩, ?_⟩
  refine LoopK.intro (fun i : Nat => ⟨[.d (.sl 39 (xs.map TStream.enc)), .junk, .junk, .sl 0 0 xs.length, .d (.int .i64 i), .junk, .junk, .junk, .junk, .junk, .junk, .junk, .junk, .junk, .junk, .junk, .junk, .junk, .junk, .junk, .junk, .junk, .junk], [.arr 39 ((cpL (⟨0, ⟨0, ⟨0, 0, 0, []⟩, [], [], [], 0, 0, 0, 0⟩, ⟨0, 0, 0, 0⟩, ⟨0, ⟨0, []⟩, 0, 0, 0⟩, ⟨0, 0, 0, 0, 0, 0⟩, ⟨0, false⟩, false, false, false, false, false, false, 0, false⟩ : TStream) xs i).map TStream.enc) true]⟩)
      (fun i => xs.length - i) (fun i => i ≤ xs.length) 0 [0] (by omega) ?_ ?_
  · simp only [go_sem]; simp [cpL, TStream.enc]
  · intro i hi
    simp only [go_sem, List.length_map]
    refine cSplit (fun h1 => ?_) (fun h1 => ?_)
    · simp only [decide_eq_true_eq] at h1
      have hlt : i < xs.length := by omega
      have hxi := map_at TStream.enc xs i hlt
      have hw := inc hlt hm
      have hg := cpL_get (⟨0, ⟨0, ⟨0, 0, 0, []⟩, [], [], [], 0, 0, 0, 0⟩, ⟨0, 0, 0, 0⟩, ⟨0, ⟨0, []⟩, 0, 0, 0⟩, ⟨0, 0, 0, 0, 0, 0⟩, ⟨0, false⟩, false, false, false, false, false, false, 0, false⟩ : TStream) TStream.enc xs i hlt
      have hs := cpL_set (⟨0, ⟨0, ⟨0, 0, 0, []⟩, [], [], [], 0, 0, 0, 0⟩, ⟨0, 0, 0, 0⟩, ⟨0, ⟨0, []⟩, 0, 0, 0⟩, ⟨0, 0, 0, 0, 0, 0⟩, ⟨0, false⟩, false, false, false, false, false, false, 0, false⟩ : TStream) TStream.enc xs i hlt
      have hl := cpL_len (⟨0, ⟨0, ⟨0, 0, 0, []⟩, [], [], [], 0, 0, 0, 0⟩, ⟨0, 0, 0, 0⟩, ⟨0, ⟨0, []⟩, 0, 0, 0⟩, ⟨0, 0, 0, 0, 0, 0⟩, ⟨0, false⟩, false, false, false, false, false, false, 0, false⟩ : TStream) xs i (by omega)
      have hb := sumB_at TStream.bulk xs i hlt
      simp only [TStream.enc] at hs hg hxi
      simp only [go_sem, List.length_map, List.map_nil, Int.toNat_natCast, hxi]
      refine ⟨⟨by omega, by omega⟩, ?_⟩
      refine CallS.intro (laws_toStream xs[i] (by omega)) ?_
      simp only [go_sem, List.length_map, List.map_nil, Int.toNat_natCast, hg, hs, hl, hw]
      refine ⟨⟨by omega, by omega⟩, ⟨by omega, by simp⟩, RoundE.intro (i + 1) [0] (by omega) (by omega) ?_⟩
      simp only [go_sem]; simp
    · simp only [go_sem]
      simp only [decide_eq_false_iff_not] at h1
      have hi2 : i = xs.length := by omega
      subst hi2
      rw [cpL_all]
      simp [outOA]
      exact List.take_of_length_le (by simp)
set_option maxRecDepth 100000 in
theorem laws_toCount (x : TCount) : PureCall Try.prog 116 [.agg [.int .i64 x.limit, .int .i64 x.opened, .int .i64 x.blocked]] [.agg [.int .i64 x.limit, .int .i64 x.opened, .int .i64 x.blocked]] := by
  refine pure_ev Try.func116 rfl Try.call116 Try.checked.mixed [.agg [.d (.int .i64 x.limit), .d (.int .i64 x.opened), .d (.int .i64 x.blocked)], .junk, .junk, .junk, .junk, .junk, .junk, .junk, .junk, .junk, .junk, .junk, .junk, .junk] rfl [.cell 2 95] rfl ?_
  intro _
  try simp only [go_sem]
  repeat' (first
    | (with_reducible refine gTrueS ?_; simp only [go_sem, List.length_map, List.take_length, List.length_take, Nat.min_self]) | (with_reducible refine gFalseS ?_; simp only [go_sem, List.length_map, List.take_length, List.length_take, Nat.min_self]) | (with_reducible refine gTrue ?_; simp only [go_sem, List.length_map, List.take_length, List.length_take, Nat.min_self]) | (with_reducible refine gFalse ?_; simp only [go_sem, List.length_map, List.take_length, List.length_take, Nat.min_self])
    | (refine gSymS ?_; simp only [go_sem, List.length_map, List.take_length, List.length_take, Nat.min_self]) | (refine gSym ?_; simp only [go_sem, List.length_map, List.take_length, List.length_take, Nat.min_self])
    | (refine cSplit (fun h => ?_) (fun h => ?_) <;> simp only [go_sem, List.length_map, List.take_length, List.length_take, Nat.min_self])
    | (with_reducible refine And.intro ?_ ?_; (focus (first | omega | (exact ⟨by omega, by omega⟩) | (simp; done) | (simp; omega)))))
  all_goals simp
set_option maxRecDepth 100000 in
theorem laws_toAllow (x : TAllow) : PureCall Try.prog 117 [.agg [.int .i64 x.most, .int .i64 x.limit, .int .i64 x.seen, .int .i64 x.closed]] [.agg [.int .i64 x.most, .int .i64 x.limit, .int .i64 x.seen, .int .i64 x.closed]] := by
  refine pure_ev Try.func117 rfl Try.call117 Try.checked.mixed [.agg [.d (.int .i64 x.most), .d (.int .i64 x.limit), .d (.int .i64 x.seen), .d (.int .i64 x.closed)], .junk, .junk, .junk, .junk, .junk, .junk, .junk, .junk, .junk, .junk, .junk, .junk, .junk, .junk, .junk, .junk] rfl [.cell 2 96] rfl ?_
  intro _
  try simp only [go_sem]
  repeat' (first
    | (with_reducible refine gTrueS ?_; simp only [go_sem, List.length_map, List.take_length, List.length_take, Nat.min_self]) | (with_reducible refine gFalseS ?_; simp only [go_sem, List.length_map, List.take_length, List.length_take, Nat.min_self]) | (with_reducible refine gTrue ?_; simp only [go_sem, List.length_map, List.take_length, List.length_take, Nat.min_self]) | (with_reducible refine gFalse ?_; simp only [go_sem, List.length_map, List.take_length, List.length_take, Nat.min_self])
    | (refine gSymS ?_; simp only [go_sem, List.length_map, List.take_length, List.length_take, Nat.min_self]) | (refine gSym ?_; simp only [go_sem, List.length_map, List.take_length, List.length_take, Nat.min_self])
    | (refine cSplit (fun h => ?_) (fun h => ?_) <;> simp only [go_sem, List.length_map, List.take_length, List.length_take, Nat.min_self])
    | (with_reducible refine And.intro ?_ ?_; (focus (first | omega | (exact ⟨by omega, by omega⟩) | (simp; done) | (simp; omega)))))
  all_goals simp
set_option maxRecDepth 100000 in
theorem laws_toFrame (x : TFrame) : PureCall Try.prog 202 [.agg [.int .i64 x.kind, .int .i64 x.stream, .int .i64 x.offset, .str x.data, .bool x.fin, .int .i64 x.code, .int .i64 x.limit, .int .i64 x.final, .bool x.uni]] [.agg [.int .i64 x.kind, .int .i64 x.stream, .int .i64 x.offset, .str x.data, .bool x.fin, .int .i64 x.code, .int .i64 x.limit, .int .i64 x.final, .bool x.uni]] := by
  refine pure_ev Try.func202 rfl Try.call202 Try.checked.mixed [.agg [.d (.int .i64 x.kind), .d (.int .i64 x.stream), .d (.int .i64 x.offset), .d (.str x.data), .d (.bool x.fin), .d (.int .i64 x.code), .d (.int .i64 x.limit), .d (.int .i64 x.final), .d (.bool x.uni)], .junk, .junk, .junk, .junk, .junk, .junk, .junk, .junk, .junk, .junk, .junk, .junk, .junk, .junk, .junk, .junk, .junk, .junk, .junk, .junk, .junk, .junk, .junk, .junk, .junk, .junk, .junk, .junk, .junk, .junk, .junk] rfl [.cell 2 244] rfl ?_
  intro _
  try simp only [go_sem]
  repeat' (first
    | (with_reducible refine gTrueS ?_; simp only [go_sem, List.length_map, List.take_length, List.length_take, Nat.min_self]) | (with_reducible refine gFalseS ?_; simp only [go_sem, List.length_map, List.take_length, List.length_take, Nat.min_self]) | (with_reducible refine gTrue ?_; simp only [go_sem, List.length_map, List.take_length, List.length_take, Nat.min_self]) | (with_reducible refine gFalse ?_; simp only [go_sem, List.length_map, List.take_length, List.length_take, Nat.min_self])
    | (refine gSymS ?_; simp only [go_sem, List.length_map, List.take_length, List.length_take, Nat.min_self]) | (refine gSym ?_; simp only [go_sem, List.length_map, List.take_length, List.length_take, Nat.min_self])
    | (refine cSplit (fun h => ?_) (fun h => ?_) <;> simp only [go_sem, List.length_map, List.take_length, List.length_take, Nat.min_self])
    | (with_reducible refine And.intro ?_ ?_; (focus (first | omega | (exact ⟨by omega, by omega⟩) | (simp; done) | (simp; omega)))))
  all_goals simp
set_option maxRecDepth 100000 in
theorem laws_toFrameS (xs : List TFrame) (hx : (xs.length + sumB TFrame.bulk xs) ≤ 1048576) : PureCall Try.prog 190 [.one (.sl 9 (xs.map TFrame.enc))] [.one (.sl 9 (xs.map TFrame.enc))] := by
  refine pure_ev Try.func190 rfl Try.call190 Try.checked.mixed [.d (.sl 9 (xs.map TFrame.enc)), .junk, .junk, .junk, .junk, .junk, .junk, .junk, .junk, .junk, .junk, .junk, .junk, .junk, .junk, .junk, .junk, .junk, .junk, .junk, .junk, .junk, .junk] rfl [.tmp 2] rfl ?_
  intro _
  have hm : xs.length ≤ maxLen := by simp only [maxLen]; omega
  simp only [go_sem, List.length_map, Int.toNat_natCast]
  refine ⟨⟨by omega, by omega, hm⟩, ?_⟩
  refine LoopK.intro (fun i : Nat => ⟨[.d (.sl 9 (xs.map TFrame.enc)), .junk, .junk, .sl 0 0 xs.length, .d (.int .i64 i), .junk, .junk, .junk, .junk, .junk, .junk, .junk, .junk, .junk, .junk, .junk, .junk, .junk, .junk, .junk, .junk, .junk, .junk], [.arr 9 ((cpL (⟨0, 0, 0, [], false, 0, 0, 0, false⟩ : TFrame) xs i).map TFrame.enc) true]⟩)
      (fun i => xs.length - i) (fun i => i ≤ xs.length) 0 [0] (by omega) ?_ ?_
  · simp only [go_sem]; simp [cpL, TFrame.enc]
  · intro i hi
    simp only [go_sem, List.length_map]
    refine cSplit (fun h1 => ?_) (fun h1 => ?_)
    · simp only [decide_eq_true_eq] at h1
      have hlt : i < xs.length := by omega
      have hxi := map_at TFrame.enc xs i hlt
      have hw := inc hlt hm
      have hg := cpL_get (⟨0, 0, 0, [], false, 0, 0, 0, false⟩ : TFrame) TFrame.enc xs i hlt
      have hs := cpL_set (⟨0, 0, 0, [], false, 0, 0, 0, false⟩ : TFrame) TFrame.enc xs i hlt
      have hl := cpL_len (⟨0, 0, 0, [], false, 0, 0, 0, false⟩ : TFrame) xs i (by omega)
      have hb := sumB_at TFrame.bulk xs i hlt
      simp only [TFrame.enc] at hs hg hxi
      simp only [go_sem, List.length_map, List.map_nil, Int.toNat_natCast, hxi]
      refine ⟨⟨by omega, by omega⟩, ?_⟩
      refine CallS.intro (laws_toFrame xs[i]) ?_
      simp only [go_sem, List.length_map, List.map_nil, Int.toNat_natCast, hg, hs, hl, hw]
      refine ⟨⟨by omega, by omega⟩, ⟨by omega, by simp⟩, RoundE.intro (i + 1) [0] (by omega) (by omega) ?_⟩
      simp only [go_sem]; simp
    · simp only [go_sem]
      simp only [decide_eq_false_iff_not] at h1
      have hi2 : i = xs.length := by omega
      subst hi2
      rw [cpL_all]
      simp [outOA]
      exact List.take_of_length_le (by simp)
set_option maxRecDepth 100000 in
theorem laws_toPacket (x : TPacket) (hx : TPacket.bulk x ≤ 1048576) : PureCall Try.prog 167 [.agg [.int .i64 x.number, .sl 9 (x.frames.map TFrame.enc)]] [.agg [.int .i64 x.number, .sl 9 (x.frames.map TFrame.enc)]] := by
  refine pure_ev Try.func167 rfl Try.call167 Try.checked.mixed [.agg [.d (.int .i64 x.number), .d (.sl 9 (x.frames.map TFrame.enc))], .junk, .junk, .junk, .junk, .junk, .junk, .junk, .junk, .junk, .junk, .junk] rfl [.cell 2 110] rfl ?_
  intro _
  simp only [TPacket.bulk] at hx
  try simp only [go_sem]
  repeat' (first
    | (refine CallS.intro (by first | assumption | (apply laws_toFrameS <;> first | assumption | omega)) ?_; simp only [go_sem, List.length_map])
    | (refine CallK.intro (by first | assumption | (apply laws_toFrameS <;> first | assumption | omega)) ?_; simp only [go_sem, List.length_map, List.take_length, List.length_take, Nat.min_self])
    | (with_reducible refine gTrueS ?_; simp only [go_sem, List.length_map, List.take_length, List.length_take, Nat.min_self]) | (with_reducible refine gFalseS ?_; simp only [go_sem, List.length_map, List.take_length, List.length_take, Nat.min_self]) | (with_reducible refine gTrue ?_; simp only [go_sem, List.length_map, List.take_length, List.length_take, Nat.min_self]) | (with_reducible refine gFalse ?_; simp only [go_sem, List.length_map, List.take_length, List.length_take, Nat.min_self])
    | (refine gSymS ?_; simp only [go_sem, List.length_map, List.take_length, List.length_take, Nat.min_self]) | (refine gSym ?_; simp only [go_sem, List.length_map, List.take_length, List.length_take, Nat.min_self])
    | (refine cSplit (fun h => ?_) (fun h => ?_) <;> simp only [go_sem, List.length_map, List.take_length, List.length_take, Nat.min_self])
    | (with_reducible refine And.intro ?_ ?_; (focus (first | omega | (exact ⟨by omega, by omega⟩) | (simp; done) | (simp; omega)))))
  all_goals simp
set_option maxRecDepth 100000 in
theorem laws_toPacketS (xs : List TPacket) (hx : (xs.length + sumB TPacket.bulk xs) ≤ 1048576) : PureCall Try.prog 118 [.one (.sl 2 (xs.map TPacket.enc))] [.one (.sl 2 (xs.map TPacket.enc))] := by
  refine pure_ev Try.func118 rfl Try.call118 Try.checked.mixed [.d (.sl 2 (xs.map TPacket.enc)), .junk, .junk, .junk, .junk, .junk, .junk, .junk, .junk, .junk, .junk, .junk, .junk, .junk, .junk, .junk, .junk, .junk, .junk, .junk, .junk, .junk, .junk] rfl [.tmp 2] rfl ?_
  intro _
  have hm : xs.length ≤ maxLen := by simp only [maxLen]; omega
  simp only [go_sem, List.length_map, Int.toNat_natCast]
  refine ⟨⟨by omega, by omega, hm⟩, ?_⟩
  refine LoopK.intro (fun i : Nat => ⟨[.d (.sl 2 (xs.map TPacket.enc)), .junk, .junk, .sl 0 0 xs.length, .d (.int .i64 i), .junk, .junk, .junk, .junk, .junk, .junk, .junk, .junk, .junk, .junk, .junk, .junk, .junk, .junk, .junk, .junk, .junk, .junk], [.arr 2 ((cpL (⟨0, []⟩ : TPacket) xs i).map TPacket.enc) true]⟩)
      (fun i => xs.length - i) (fun i => i ≤ xs.length) 0 [0] (by omega) ?_ ?_
  · simp only [go_sem]; simp [cpL, TPacket.enc]
  · intro i hi
    simp only [go_sem, List.length_map]
    refine cSplit (fun h1 => ?_) (fun h1 => ?_)
    · simp only [decide_eq_true_eq] at h1
      have hlt : i < xs.length := by omega
      have hxi := map_at TPacket.enc xs i hlt
      have hw := inc hlt hm
      have hg := cpL_get (⟨0, []⟩ : TPacket) TPacket.enc xs i hlt
      have hs := cpL_set (⟨0, []⟩ : TPacket) TPacket.enc xs i hlt
      have hl := cpL_len (⟨0, []⟩ : TPacket) xs i (by omega)
      have hb := sumB_at TPacket.bulk xs i hlt
      simp only [TPacket.enc] at hs hg hxi
      simp only [go_sem, List.length_map, List.map_nil, Int.toNat_natCast, hxi]
      refine ⟨⟨by omega, by omega⟩, ?_⟩
      refine CallS.intro (laws_toPacket xs[i] (by omega)) ?_
      simp only [go_sem, List.length_map, List.map_nil, Int.toNat_natCast, hg, hs, hl, hw]
      refine ⟨⟨by omega, by omega⟩, ⟨by omega, by simp⟩, RoundE.intro (i + 1) [0] (by omega) (by omega) ?_⟩
      simp only [go_sem]; simp
    · simp only [go_sem]
      simp only [decide_eq_false_iff_not] at h1
      have hi2 : i = xs.length := by omega
      subst hi2
      rw [cpL_all]
      simp [outOA]
      exact List.take_of_length_le (by simp)
set_option maxRecDepth 100000 in
theorem laws_toConn (x : TConn) (hx : TConn.bulk x ≤ 1048576) : PureCall Try.prog 52 [.agg [.bool x.server, .int .i64 x.own.ring, .int .i64 x.own.window, .int .i64 x.own.windowMost, .int .i64 x.own.total, .int .i64 x.own.totalMost, .int .i64 x.own.bidi, .int .i64 x.own.uni, .int .i64 x.own.trip, .int .i64 x.peer.ring, .int .i64 x.peer.window, .int .i64 x.peer.windowMost, .int .i64 x.peer.total, .int .i64 x.peer.totalMost, .int .i64 x.peer.bidi, .int .i64 x.peer.uni, .int .i64 x.peer.trip, .sl 39 (x.streams.map TStream.enc), .int .i64 x.total.limit, .int .i64 x.total.used, .int .i64 x.total.blocked, .int .i64 x.total.told, .int .i64 x.inflow.size, .int .i64 x.inflow.most, .int .i64 x.inflow.limit, .int .i64 x.inflow.seen, .int .i64 x.inflow.read, .int .i64 x.inflow.since, .int .i64 x.openBidi.limit, .int .i64 x.openBidi.opened, .int .i64 x.openBidi.blocked, .int .i64 x.openUni.limit, .int .i64 x.openUni.opened, .int .i64 x.openUni.blocked, .int .i64 x.allowBidi.most, .int .i64 x.allowBidi.limit, .int .i64 x.allowBidi.seen, .int .i64 x.allowBidi.closed, .int .i64 x.allowUni.most, .int .i64 x.allowUni.limit, .int .i64 x.allowUni.seen, .int .i64 x.allowUni.closed, .bool x.tellTotal, .bool x.tellBidi, .bool x.tellUni, .int .i64 x.last, .int .i64 x.number, .sl 2 (x.packets.map TPacket.enc), .int .i64 x.now, .int .i64 x.closed]] [.agg [.bool x.server, .int .i64 x.own.ring, .int .i64 x.own.window, .int .i64 x.own.windowMost, .int .i64 x.own.total, .int .i64 x.own.totalMost, .int .i64 x.own.bidi, .int .i64 x.own.uni, .int .i64 x.own.trip, .int .i64 x.peer.ring, .int .i64 x.peer.window, .int .i64 x.peer.windowMost, .int .i64 x.peer.total, .int .i64 x.peer.totalMost, .int .i64 x.peer.bidi, .int .i64 x.peer.uni, .int .i64 x.peer.trip, .sl 39 (x.streams.map TStream.enc), .int .i64 x.total.limit, .int .i64 x.total.used, .int .i64 x.total.blocked, .int .i64 x.total.told, .int .i64 x.inflow.size, .int .i64 x.inflow.most, .int .i64 x.inflow.limit, .int .i64 x.inflow.seen, .int .i64 x.inflow.read, .int .i64 x.inflow.since, .int .i64 x.openBidi.limit, .int .i64 x.openBidi.opened, .int .i64 x.openBidi.blocked, .int .i64 x.openUni.limit, .int .i64 x.openUni.opened, .int .i64 x.openUni.blocked, .int .i64 x.allowBidi.most, .int .i64 x.allowBidi.limit, .int .i64 x.allowBidi.seen, .int .i64 x.allowBidi.closed, .int .i64 x.allowUni.most, .int .i64 x.allowUni.limit, .int .i64 x.allowUni.seen, .int .i64 x.allowUni.closed, .bool x.tellTotal, .bool x.tellBidi, .bool x.tellUni, .int .i64 x.last, .int .i64 x.number, .sl 2 (x.packets.map TPacket.enc), .int .i64 x.now, .int .i64 x.closed]] := by
  refine pure_ev Try.func52 rfl Try.call52 Try.checked.mixed [.agg [.d (.bool x.server), .d (.int .i64 x.own.ring), .d (.int .i64 x.own.window), .d (.int .i64 x.own.windowMost), .d (.int .i64 x.own.total), .d (.int .i64 x.own.totalMost), .d (.int .i64 x.own.bidi), .d (.int .i64 x.own.uni), .d (.int .i64 x.own.trip), .d (.int .i64 x.peer.ring), .d (.int .i64 x.peer.window), .d (.int .i64 x.peer.windowMost), .d (.int .i64 x.peer.total), .d (.int .i64 x.peer.totalMost), .d (.int .i64 x.peer.bidi), .d (.int .i64 x.peer.uni), .d (.int .i64 x.peer.trip), .d (.sl 39 (x.streams.map TStream.enc)), .d (.int .i64 x.total.limit), .d (.int .i64 x.total.used), .d (.int .i64 x.total.blocked), .d (.int .i64 x.total.told), .d (.int .i64 x.inflow.size), .d (.int .i64 x.inflow.most), .d (.int .i64 x.inflow.limit), .d (.int .i64 x.inflow.seen), .d (.int .i64 x.inflow.read), .d (.int .i64 x.inflow.since), .d (.int .i64 x.openBidi.limit), .d (.int .i64 x.openBidi.opened), .d (.int .i64 x.openBidi.blocked), .d (.int .i64 x.openUni.limit), .d (.int .i64 x.openUni.opened), .d (.int .i64 x.openUni.blocked), .d (.int .i64 x.allowBidi.most), .d (.int .i64 x.allowBidi.limit), .d (.int .i64 x.allowBidi.seen), .d (.int .i64 x.allowBidi.closed), .d (.int .i64 x.allowUni.most), .d (.int .i64 x.allowUni.limit), .d (.int .i64 x.allowUni.seen), .d (.int .i64 x.allowUni.closed), .d (.bool x.tellTotal), .d (.bool x.tellBidi), .d (.bool x.tellUni), .d (.int .i64 x.last), .d (.int .i64 x.number), .d (.sl 2 (x.packets.map TPacket.enc)), .d (.int .i64 x.now), .d (.int .i64 x.closed)], .junk, .junk, .junk, .junk, .junk, .junk, .junk, .junk, .junk, .junk, .junk, .junk, .junk, .junk, .junk, .junk, .junk, .junk, .junk, .junk, .junk, .junk, .junk, .junk, .junk, .junk, .junk, .junk, .junk, .junk, .junk, .junk, .junk, .junk, .junk, .junk, .junk, .junk, .junk, .junk, .junk, .junk, .junk, .junk, .junk, .junk, .junk, .junk, .junk, .junk, .junk, .junk, .junk, .junk, .junk, .junk, .junk, .junk, .junk, .junk, .junk, .junk, .junk, .junk, .junk, .junk, .junk, .junk] rfl [.cell 2 99] rfl ?_
  intro _
  simp only [TConn.bulk] at hx
  try simp only [go_sem]
  repeat' (first
    | (refine CallS.intro (by first | assumption | (apply laws_toConf <;> first | assumption | omega) | (apply laws_toStreamS <;> first | assumption | omega) | (apply laws_toCredit <;> first | assumption | omega) | (apply laws_toWindow <;> first | assumption | omega) | (apply laws_toCount <;> first | assumption | omega) | (apply laws_toAllow <;> first | assumption | omega) | (apply laws_toPacketS <;> first | assumption | omega)) ?_; simp only [go_sem, List.length_map])
    | (refine CallK.intro (by first | assumption | (apply laws_toConf <;> first | assumption | omega) | (apply laws_toStreamS <;> first | assumption | omega) | (apply laws_toCredit <;> first | assumption | omega) | (apply laws_toWindow <;> first | assumption | omega) | (apply laws_toCount <;> first | assumption | omega) | (apply laws_toAllow <;> first | assumption | omega) | (apply laws_toPacketS <;> first | assumption | omega)) ?_; simp only [go_sem, List.length_map, List.take_length, List.length_take, Nat.min_self])
    | (with_reducible refine gTrueS ?_; simp only [go_sem, List.length_map, List.take_length, List.length_take, Nat.min_self]) | (with_reducible refine gFalseS ?_; simp only [go_sem, List.length_map, List.take_length, List.length_take, Nat.min_self]) | (with_reducible refine gTrue ?_; simp only [go_sem, List.length_map, List.take_length, List.length_take, Nat.min_self]) | (with_reducible refine gFalse ?_; simp only [go_sem, List.length_map, List.take_length, List.length_take, Nat.min_self])
    | (refine gSymS ?_; simp only [go_sem, List.length_map, List.take_length, List.length_take, Nat.min_self]) | (refine gSym ?_; simp only [go_sem, List.length_map, List.take_length, List.length_take, Nat.min_self])
    | (refine cSplit (fun h => ?_) (fun h => ?_) <;> simp only [go_sem, List.length_map, List.take_length, List.length_take, Nat.min_self])
    | (with_reducible refine And.intro ?_ ?_; (focus (first | omega | (exact ⟨by omega, by omega⟩) | (simp; done) | (simp; omega)))))
  all_goals simp
set_option maxRecDepth 100000 in
theorem laws_eqFrame (x y : TFrame) : PureCall Try.prog 170 [.agg [.int .i64 x.kind, .int .i64 x.stream, .int .i64 x.offset, .str x.data, .bool x.fin, .int .i64 x.code, .int .i64 x.limit, .int .i64 x.final, .bool x.uni], .agg [.int .i64 y.kind, .int .i64 y.stream, .int .i64 y.offset, .str y.data, .bool y.fin, .int .i64 y.code, .int .i64 y.limit, .int .i64 y.final, .bool y.uni]] [.one (.bool (decide (x = y)))] := by
  refine pure_ev Try.func170 rfl Try.call170 Try.checked.mixed [.agg [.d (.int .i64 x.kind), .d (.int .i64 x.stream), .d (.int .i64 x.offset), .d (.str x.data), .d (.bool x.fin), .d (.int .i64 x.code), .d (.int .i64 x.limit), .d (.int .i64 x.final), .d (.bool x.uni)], .agg [.d (.int .i64 y.kind), .d (.int .i64 y.stream), .d (.int .i64 y.offset), .d (.str y.data), .d (.bool y.fin), .d (.int .i64 y.code), .d (.int .i64 y.limit), .d (.int .i64 y.final), .d (.bool y.uni)], .junk, .junk, .junk, .junk, .junk, .junk, .junk, .junk, .junk, .junk, .junk, .junk, .junk, .junk, .junk, .junk, .junk, .junk, .junk, .junk, .junk, .junk, .junk, .junk, .junk, .junk, .junk, .junk, .junk, .junk, .junk, .junk, .junk, .junk, .junk, .junk, .junk, .junk, .junk, .junk, .junk, .junk, .junk, .junk, .junk, .junk, .junk, .junk] rfl [.tmp 4] rfl ?_
  obtain ⟨a0, a1, a2, a3, a4, a5, a6, a7, a8⟩ := x
  obtain ⟨b0, b1, b2, b3, b4, b5, b6, b7, b8⟩ := y
  simp only [TFrame.mk.injEq]
  intro _
  try simp only [go_sem]
  repeat' (first
    | (with_reducible refine gTrueS ?_; simp only [go_sem, List.length_map]) | (with_reducible refine gFalseS ?_; simp only [go_sem, List.length_map]) | (with_reducible refine gTrue ?_; simp only [go_sem, List.length_map]) | (with_reducible refine gFalse ?_; simp only [go_sem, List.length_map])
    | (refine gSymS ?_; simp only [go_sem, List.length_map]) | (refine gSym ?_; simp only [go_sem, List.length_map])
    | (refine cSplit (fun h => ?_) (fun h => ?_) <;> simp only [go_sem])
    | (with_reducible refine And.intro ?_ ?_; (focus (first | omega | (exact ⟨by omega, by omega⟩) | (simp; done) | (simp; omega)))))
  all_goals simp_all
set_option maxRecDepth 100000 in
theorem laws_eqFrameS (xs ys : List TFrame) : PureCall Try.prog 121 [.one (.sl 9 (xs.map TFrame.enc)), .one (.sl 9 (ys.map TFrame.enc))] [.one (.bool (decide (xs = ys)))] := by
  refine pure_ev Try.func121 rfl Try.call121 Try.checked.mixed [.d (.sl 9 (xs.map TFrame.enc)), .d (.sl 9 (ys.map TFrame.enc)), .junk, .junk, .junk, .junk, .junk, .junk, .junk, .junk, .junk, .junk, .junk, .junk, .junk, .junk, .junk, .junk, .junk, .junk, .junk, .junk, .junk, .junk, .junk, .junk, .junk] rfl [.tmp 4] rfl ?_
  intro ok
  have hm := len_of ok
  simp only [go_sem, List.length_map]
  refine cSplit (fun h => ?_) (fun h => ?_)
  · simp only [go_sem]
    simp only [ne_eq, decide_not, Bool.not_eq_true', decide_eq_false_iff_not] at h
    have : xs ≠ ys := fun e => h (by rw [e])
    simp [this]
  · simp only [ne_eq, decide_not, Bool.not_eq_false', decide_eq_true_eq] at h
    simp only [go_sem]
    refine LoopK.intro (fun i : Nat => ⟨[.d (.sl 9 (xs.map TFrame.enc)), .d (.sl 9 (ys.map TFrame.enc)), .junk, .junk, .d (.bool false), .d (.int .i64 i), .junk, .junk, .junk, .junk, .junk, .junk, .junk, .junk, .junk, .junk, .junk, .junk, .junk, .junk, .junk, .junk, .junk, .junk, .junk, .junk, .junk], []⟩)
      (fun i => xs.length - i) (fun i => i ≤ xs.length ∧ xs.take i = ys.take i) 0 [] ⟨by omega, by simp⟩ ?_ ?_
    · simp only [go_sem]; simp
    · rintro i ⟨hi, he⟩
      simp only [go_sem, List.length_map]
      refine cSplit (fun h1 => ?_) (fun h1 => ?_)
      · simp only [decide_eq_true_eq] at h1
        have hxi := map_at TFrame.enc xs i (by omega)
        have hyi := map_at TFrame.enc ys i (by omega)
        have hw := inc (i := i) (m := xs.length) (by omega) hm
        simp only [go_sem]
        refine drawE_intro [[.post, .un, .post, .post, .un, .un, .un, .un, .post, .post], [.un, .post, .post, .post, .un, .un, .un, .un, .post, .post], [.pre, .pre, .post, .post, .un, .un, .un, .un, .post, .post], [.pre, .pre, .pre, .post, .un, .un, .un, .un, .post, .post], [.un, .un, .un, .un, .post, .un, .post, .post, .post, .post], [.un, .un, .un, .un, .un, .post, .post, .post, .post, .post], [.un, .un, .un, .un, .pre, .pre, .post, .post, .post, .post], [.un, .un, .un, .un, .pre, .pre, .pre, .post, .post, .post], [.pre, .pre, .pre, .pre, .pre, .pre, .pre, .pre, .post, .post], [.pre, .pre, .pre, .pre, .pre, .pre, .pre, .pre, .pre, .post]] (by kernel_rfl) (by rfl) ?_
        simp only [go_sem, List.length_map, Int.toNat_natCast, hxi, hyi, TFrame.enc]
        refine ⟨⟨by omega, by omega⟩, ⟨by omega, by omega⟩, ?_⟩
        refine CallK.intro (laws_eqFrame xs[i] ys[i]) ?_
        simp only [go_sem]
        refine cSplit (fun h2 => ?_) (fun h2 => ?_)
        · simp only [go_sem]
          have : xs ≠ ys := fun e => by subst e; simp at h2
          simp [this]
        · simp only [go_sem, hw]
          have h3 : xs[i]'(by omega) = ys[i]'(by omega) := by simpa using h2
          refine RoundE.intro (i + 1) [] ⟨by omega, take_eq he (by omega) (by omega) h3⟩ (by omega) ?_
          simp only [go_sem]
      · simp only [go_sem]
        simp only [decide_eq_false_iff_not] at h1
        have : xs = ys := by rw [List.take_of_length_le (by omega), List.take_of_length_le (by omega)] at he; exact he
        simp [this]
set_option maxRecDepth 100000 in
theorem laws_eqPacket (x y : TPacket) : PureCall Try.prog 54 [.agg [.int .i64 x.number, .sl 9 (x.frames.map TFrame.enc)], .agg [.int .i64 y.number, .sl 9 (y.frames.map TFrame.enc)]] [.one (.bool (decide (x = y)))] := by
  refine pure_ev Try.func54 rfl Try.call54 Try.checked.mixed [.agg [.d (.int .i64 x.number), .d (.sl 9 (x.frames.map TFrame.enc))], .agg [.d (.int .i64 y.number), .d (.sl 9 (y.frames.map TFrame.enc))], .junk, .junk, .junk, .junk, .junk, .junk, .junk, .junk, .junk, .junk, .junk, .junk, .junk, .junk] rfl [.tmp 4] rfl ?_
  obtain ⟨a0, a1⟩ := x
  obtain ⟨b0, b1⟩ := y
  simp only [TPacket.mk.injEq]
  intro _
  try simp only [go_sem]
  repeat' (first
    | (refine CallS.intro (by first | assumption | (apply laws_eqFrameS <;> first | assumption | omega)) ?_; simp only [go_sem])
    | (refine CallK.intro (by first | assumption | (apply laws_eqFrameS <;> first | assumption | omega)) ?_; simp only [go_sem, List.length_map])
    | (with_reducible refine gTrueS ?_; simp only [go_sem, List.length_map]) | (with_reducible refine gFalseS ?_; simp only [go_sem, List.length_map]) | (with_reducible refine gTrue ?_; simp only [go_sem, List.length_map]) | (with_reducible refine gFalse ?_; simp only [go_sem, List.length_map])
    | (refine gSymS ?_; simp only [go_sem, List.length_map]) | (refine gSym ?_; simp only [go_sem, List.length_map])
    | (refine cSplit (fun h => ?_) (fun h => ?_) <;> simp only [go_sem])
    | (with_reducible refine And.intro ?_ ?_; (focus (first | omega | (exact ⟨by omega, by omega⟩) | (simp; done) | (simp; omega)))))
  all_goals simp_all
set_option maxRecDepth 100000 in
theorem laws_eqConf (x y : TConf) : PureCall Try.prog 122 [.agg [.int .i64 x.ring, .int .i64 x.window, .int .i64 x.windowMost, .int .i64 x.total, .int .i64 x.totalMost, .int .i64 x.bidi, .int .i64 x.uni, .int .i64 x.trip], .agg [.int .i64 y.ring, .int .i64 y.window, .int .i64 y.windowMost, .int .i64 y.total, .int .i64 y.totalMost, .int .i64 y.bidi, .int .i64 y.uni, .int .i64 y.trip]] [.one (.bool (decide (x = y)))] := by
  refine pure_ev Try.func122 rfl Try.call122 Try.checked.mixed [.agg [.d (.int .i64 x.ring), .d (.int .i64 x.window), .d (.int .i64 x.windowMost), .d (.int .i64 x.total), .d (.int .i64 x.totalMost), .d (.int .i64 x.bidi), .d (.int .i64 x.uni), .d (.int .i64 x.trip)], .agg [.d (.int .i64 y.ring), .d (.int .i64 y.window), .d (.int .i64 y.windowMost), .d (.int .i64 y.total), .d (.int .i64 y.totalMost), .d (.int .i64 y.bidi), .d (.int .i64 y.uni), .d (.int .i64 y.trip)], .junk, .junk, .junk, .junk, .junk, .junk, .junk, .junk, .junk, .junk, .junk, .junk, .junk, .junk, .junk, .junk, .junk, .junk, .junk, .junk, .junk, .junk, .junk, .junk, .junk, .junk, .junk, .junk, .junk, .junk, .junk, .junk, .junk, .junk, .junk, .junk, .junk, .junk, .junk, .junk, .junk, .junk, .junk] rfl [.tmp 4] rfl ?_
  obtain ⟨a0, a1, a2, a3, a4, a5, a6, a7⟩ := x
  obtain ⟨b0, b1, b2, b3, b4, b5, b6, b7⟩ := y
  simp only [TConf.mk.injEq]
  intro _
  try simp only [go_sem]
  repeat' (first
    | (with_reducible refine gTrueS ?_; simp only [go_sem, List.length_map]) | (with_reducible refine gFalseS ?_; simp only [go_sem, List.length_map]) | (with_reducible refine gTrue ?_; simp only [go_sem, List.length_map]) | (with_reducible refine gFalse ?_; simp only [go_sem, List.length_map])
    | (refine gSymS ?_; simp only [go_sem, List.length_map]) | (refine gSym ?_; simp only [go_sem, List.length_map])
    | (refine cSplit (fun h => ?_) (fun h => ?_) <;> simp only [go_sem])
    | (with_reducible refine And.intro ?_ ?_; (focus (first | omega | (exact ⟨by omega, by omega⟩) | (simp; done) | (simp; omega)))))
  all_goals simp_all
set_option maxRecDepth 100000 in
theorem laws_eqIntS (xs ys : List Int) : PureCall Try.prog 90 [.one (.sl 1 (xs.map eI)), .one (.sl 1 (ys.map eI))] [.one (.bool (decide (xs = ys)))] := by
  refine pure_ev Try.func90 rfl Try.call90 Try.checked.mixed [.d (.sl 1 (xs.map eI)), .d (.sl 1 (ys.map eI)), .junk, .junk, .junk, .junk, .junk, .junk, .junk, .junk, .junk, .junk, .junk, .junk, .junk, .junk, .junk, .junk, .junk, .junk, .junk, .junk, .junk, .junk, .junk, .junk] rfl [.tmp 4] rfl ?_
  intro ok
  have hm := len_of ok
  simp only [go_sem, List.length_map]
  refine cSplit (fun h => ?_) (fun h => ?_)
  · simp only [go_sem]
    simp only [ne_eq, decide_not, Bool.not_eq_true', decide_eq_false_iff_not] at h
    have : xs ≠ ys := fun e => h (by rw [e])
    simp [this]
  · simp only [ne_eq, decide_not, Bool.not_eq_false', decide_eq_true_eq] at h
    simp only [go_sem]
    refine LoopK.intro (fun i : Nat => ⟨[.d (.sl 1 (xs.map eI)), .d (.sl 1 (ys.map eI)), .junk, .junk, .d (.bool false), .d (.int .i64 i), .junk, .junk, .junk, .junk, .junk, .junk, .junk, .junk, .junk, .junk, .junk, .junk, .junk, .junk, .junk, .junk, .junk, .junk, .junk, .junk], []⟩)
      (fun i => xs.length - i) (fun i => i ≤ xs.length ∧ xs.take i = ys.take i) 0 [] ⟨by omega, by simp⟩ ?_ ?_
    · simp only [go_sem]; simp
    · rintro i ⟨hi, he⟩
      simp only [go_sem, List.length_map]
      refine cSplit (fun h1 => ?_) (fun h1 => ?_)
      · simp only [decide_eq_true_eq] at h1
        have hxi := map_at eI xs i (by omega)
        have hyi := map_at eI ys i (by omega)
        have hw := inc (i := i) (m := xs.length) (by omega) hm
        simp only [go_sem]
        refine drawE_intro [[.post, .un, .post, .post, .un, .un, .un, .un, .post], [.un, .post, .post, .post, .un, .un, .un, .un, .post], [.pre, .pre, .post, .post, .un, .un, .un, .un, .post], [.pre, .pre, .pre, .post, .un, .un, .un, .un, .post], [.un, .un, .un, .un, .post, .un, .post, .post, .post], [.un, .un, .un, .un, .un, .post, .post, .post, .post], [.un, .un, .un, .un, .pre, .pre, .post, .post, .post], [.un, .un, .un, .un, .pre, .pre, .pre, .post, .post], [.pre, .pre, .pre, .pre, .pre, .pre, .pre, .pre, .post]] (by kernel_rfl) (by rfl) ?_
        simp only [go_sem, List.length_map, Int.toNat_natCast, hxi, hyi, eI]
        refine ⟨⟨by omega, by omega⟩, ⟨by omega, by omega⟩, ?_⟩
        refine cSplit (fun h2 => ?_) (fun h2 => ?_)
        · simp only [go_sem]
          have : xs ≠ ys := fun e => by subst e; simp at h2
          simp [this]
        · simp only [go_sem, hw]
          have h3 : xs[i]'(by omega) = ys[i]'(by omega) := by simpa using h2
          refine RoundE.intro (i + 1) [] ⟨by omega, take_eq he (by omega) (by omega) h3⟩ (by omega) ?_
          simp only [go_sem]
      · simp only [go_sem]
        simp only [decide_eq_false_iff_not] at h1
        have : xs = ys := by rw [List.take_of_length_le (by omega), List.take_of_length_le (by omega)] at he; exact he
        simp [this]
set_option maxRecDepth 100000 in
theorem laws_eqRing (x y : TRing) : PureCall Try.prog 203 [.agg [.int .i64 x.size, .int .i64 x.base, .int .i64 x.end', .sl 1 (x.cells.map eI)], .agg [.int .i64 y.size, .int .i64 y.base, .int .i64 y.end', .sl 1 (y.cells.map eI)]] [.one (.bool (decide (x = y)))] := by
  refine pure_ev Try.func203 rfl Try.call203 Try.checked.mixed [.agg [.d (.int .i64 x.size), .d (.int .i64 x.base), .d (.int .i64 x.end'), .d (.sl 1 (x.cells.map eI))], .agg [.d (.int .i64 y.size), .d (.int .i64 y.base), .d (.int .i64 y.end'), .d (.sl 1 (y.cells.map eI))], .junk, .junk, .junk, .junk, .junk, .junk, .junk, .junk, .junk, .junk, .junk, .junk, .junk, .junk, .junk, .junk, .junk, .junk, .junk, .junk, .junk, .junk, .junk, .junk] rfl [.tmp 4] rfl ?_
  obtain ⟨a0, a1, a2, a3⟩ := x
  obtain ⟨b0, b1, b2, b3⟩ := y
  simp only [TRing.mk.injEq]
  intro _
  try simp only [go_sem]
  repeat' (first
    | (refine CallS.intro (by first | assumption | (apply laws_eqIntS <;> first | assumption | omega)) ?_; simp only [go_sem])
    | (refine CallK.intro (by first | assumption | (apply laws_eqIntS <;> first | assumption | omega)) ?_; simp only [go_sem, List.length_map])
    | (with_reducible refine gTrueS ?_; simp only [go_sem, List.length_map]) | (with_reducible refine gFalseS ?_; simp only [go_sem, List.length_map]) | (with_reducible refine gTrue ?_; simp only [go_sem, List.length_map]) | (with_reducible refine gFalse ?_; simp only [go_sem, List.length_map])
    | (refine gSymS ?_; simp only [go_sem, List.length_map]) | (refine gSym ?_; simp only [go_sem, List.length_map])
    | (refine cSplit (fun h => ?_) (fun h => ?_) <;> simp only [go_sem])
    | (with_reducible refine And.intro ?_ ?_; (focus (first | omega | (exact ⟨by omega, by omega⟩) | (simp; done) | (simp; omega)))))
  all_goals simp_all
set_option maxRecDepth 100000 in
theorem laws_eqRange (x y : TRange) : PureCall Try.prog 89 [.agg [.int .i64 x.low, .int .i64 x.high], .agg [.int .i64 y.low, .int .i64 y.high]] [.one (.bool (decide (x = y)))] := by
  refine pure_ev Try.func89 rfl Try.call89 Try.checked.mixed [.agg [.d (.int .i64 x.low), .d (.int .i64 x.high)], .agg [.d (.int .i64 y.low), .d (.int .i64 y.high)], .junk, .junk, .junk, .junk, .junk, .junk, .junk, .junk, .junk, .junk, .junk, .junk, .junk] rfl [.tmp 4] rfl ?_
  obtain ⟨a0, a1⟩ := x
  obtain ⟨b0, b1⟩ := y
  simp only [TRange.mk.injEq]
  intro _
  try simp only [go_sem]
  repeat' (first
    | (with_reducible refine gTrueS ?_; simp only [go_sem, List.length_map]) | (with_reducible refine gFalseS ?_; simp only [go_sem, List.length_map]) | (with_reducible refine gTrue ?_; simp only [go_sem, List.length_map]) | (with_reducible refine gFalse ?_; simp only [go_sem, List.length_map])
    | (refine gSymS ?_; simp only [go_sem, List.length_map]) | (refine gSym ?_; simp only [go_sem, List.length_map])
    | (refine cSplit (fun h => ?_) (fun h => ?_) <;> simp only [go_sem])
    | (with_reducible refine And.intro ?_ ?_; (focus (first | omega | (exact ⟨by omega, by omega⟩) | (simp; done) | (simp; omega)))))
  all_goals simp_all
set_option maxRecDepth 100000 in
theorem laws_eqRangeS (xs ys : List TRange) : PureCall Try.prog 32 [.one (.sl 2 (xs.map TRange.enc)), .one (.sl 2 (ys.map TRange.enc))] [.one (.bool (decide (xs = ys)))] := by
  refine pure_ev Try.func32 rfl Try.call32 Try.checked.mixed [.d (.sl 2 (xs.map TRange.enc)), .d (.sl 2 (ys.map TRange.enc)), .junk, .junk, .junk, .junk, .junk, .junk, .junk, .junk, .junk, .junk, .junk, .junk, .junk, .junk, .junk, .junk, .junk, .junk, .junk, .junk, .junk, .junk, .junk, .junk, .junk] rfl [.tmp 4] rfl ?_
  intro ok
  have hm := len_of ok
  simp only [go_sem, List.length_map]
  refine cSplit (fun h => ?_) (fun h => ?_)
  · simp only [go_sem]
    simp only [ne_eq, decide_not, Bool.not_eq_true', decide_eq_false_iff_not] at h
    have : xs ≠ ys := fun e => h (by rw [e])
    simp [this]
  · simp only [ne_eq, decide_not, Bool.not_eq_false', decide_eq_true_eq] at h
    simp only [go_sem]
    refine LoopK.intro (fun i : Nat => ⟨[.d (.sl 2 (xs.map TRange.enc)), .d (.sl 2 (ys.map TRange.enc)), .junk, .junk, .d (.bool false), .d (.int .i64 i), .junk, .junk, .junk, .junk, .junk, .junk, .junk, .junk, .junk, .junk, .junk, .junk, .junk, .junk, .junk, .junk, .junk, .junk, .junk, .junk, .junk], []⟩)
      (fun i => xs.length - i) (fun i => i ≤ xs.length ∧ xs.take i = ys.take i) 0 [] ⟨by omega, by simp⟩ ?_ ?_
    · simp only [go_sem]; simp
    · rintro i ⟨hi, he⟩
      simp only [go_sem, List.length_map]
      refine cSplit (fun h1 => ?_) (fun h1 => ?_)
      · simp only [decide_eq_true_eq] at h1
        have hxi := map_at TRange.enc xs i (by omega)
        have hyi := map_at TRange.enc ys i (by omega)
        have hw := inc (i := i) (m := xs.length) (by omega) hm
        simp only [go_sem]
        refine drawE_intro [[.post, .un, .post, .post, .un, .un, .un, .un, .post, .post], [.un, .post, .post, .post, .un, .un, .un, .un, .post, .post], [.pre, .pre, .post, .post, .un, .un, .un, .un, .post, .post], [.pre, .pre, .pre, .post, .un, .un, .un, .un, .post, .post], [.un, .un, .un, .un, .post, .un, .post, .post, .post, .post], [.un, .un, .un, .un, .un, .post, .post, .post, .post, .post], [.un, .un, .un, .un, .pre, .pre, .post, .post, .post, .post], [.un, .un, .un, .un, .pre, .pre, .pre, .post, .post, .post], [.pre, .pre, .pre, .pre, .pre, .pre, .pre, .pre, .post, .post], [.pre, .pre, .pre, .pre, .pre, .pre, .pre, .pre, .pre, .post]] (by kernel_rfl) (by rfl) ?_
        simp only [go_sem, List.length_map, Int.toNat_natCast, hxi, hyi, TRange.enc]
        refine ⟨⟨by omega, by omega⟩, ⟨by omega, by omega⟩, ?_⟩
        refine CallK.intro (laws_eqRange xs[i] ys[i]) ?_
        simp only [go_sem]
        refine cSplit (fun h2 => ?_) (fun h2 => ?_)
        · simp only [go_sem]
          have : xs ≠ ys := fun e => by subst e; simp at h2
          simp [this]
        · simp only [go_sem, hw]
          have h3 : xs[i]'(by omega) = ys[i]'(by omega) := by simpa using h2
          refine RoundE.intro (i + 1) [] ⟨by omega, take_eq he (by omega) (by omega) h3⟩ (by omega) ?_
          simp only [go_sem]
      · simp only [go_sem]
        simp only [decide_eq_false_iff_not] at h1
        have : xs = ys := by rw [List.take_of_length_le (by omega), List.take_of_length_le (by omega)] at he; exact he
        simp [this]
set_option maxRecDepth 100000 in
theorem laws_eqSender (x y : TSender) : PureCall Try.prog 191 [.agg [.int .i64 x.state, .int .i64 x.ring.size, .int .i64 x.ring.base, .int .i64 x.ring.end', .sl 1 (x.ring.cells.map eI), .sl 2 (x.pending.map TRange.enc), .sl 2 (x.flight.map TRange.enc), .sl 2 (x.acked.map TRange.enc), .int .i64 x.final, .int .i64 x.fin, .int .i64 x.sent, .int .i64 x.code], .agg [.int .i64 y.state, .int .i64 y.ring.size, .int .i64 y.ring.base, .int .i64 y.ring.end', .sl 1 (y.ring.cells.map eI), .sl 2 (y.pending.map TRange.enc), .sl 2 (y.flight.map TRange.enc), .sl 2 (y.acked.map TRange.enc), .int .i64 y.final, .int .i64 y.fin, .int .i64 y.sent, .int .i64 y.code]] [.one (.bool (decide (x = y)))] := by
  refine pure_ev Try.func191 rfl Try.call191 Try.checked.mixed [.agg [.d (.int .i64 x.state), .d (.int .i64 x.ring.size), .d (.int .i64 x.ring.base), .d (.int .i64 x.ring.end'), .d (.sl 1 (x.ring.cells.map eI)), .d (.sl 2 (x.pending.map TRange.enc)), .d (.sl 2 (x.flight.map TRange.enc)), .d (.sl 2 (x.acked.map TRange.enc)), .d (.int .i64 x.final), .d (.int .i64 x.fin), .d (.int .i64 x.sent), .d (.int .i64 x.code)], .agg [.d (.int .i64 y.state), .d (.int .i64 y.ring.size), .d (.int .i64 y.ring.base), .d (.int .i64 y.ring.end'), .d (.sl 1 (y.ring.cells.map eI)), .d (.sl 2 (y.pending.map TRange.enc)), .d (.sl 2 (y.flight.map TRange.enc)), .d (.sl 2 (y.acked.map TRange.enc)), .d (.int .i64 y.final), .d (.int .i64 y.fin), .d (.int .i64 y.sent), .d (.int .i64 y.code)], .junk, .junk, .junk, .junk, .junk, .junk, .junk, .junk, .junk, .junk, .junk, .junk, .junk, .junk, .junk, .junk, .junk, .junk, .junk, .junk, .junk, .junk, .junk, .junk, .junk, .junk, .junk, .junk, .junk, .junk, .junk, .junk, .junk, .junk, .junk, .junk, .junk, .junk, .junk, .junk, .junk, .junk, .junk, .junk, .junk, .junk, .junk, .junk, .junk, .junk, .junk, .junk] rfl [.tmp 4] rfl ?_
  obtain ⟨a0, a1, a2, a3, a4, a5, a6, a7, a8⟩ := x
  obtain ⟨b0, b1, b2, b3, b4, b5, b6, b7, b8⟩ := y
  simp only [TSender.mk.injEq]
  intro _
  try simp only [go_sem]
  repeat' (first
    | (refine CallS.intro (by first | assumption | (apply laws_eqRing <;> first | assumption | omega) | (apply laws_eqRangeS <;> first | assumption | omega)) ?_; simp only [go_sem])
    | (refine CallK.intro (by first | assumption | (apply laws_eqRing <;> first | assumption | omega) | (apply laws_eqRangeS <;> first | assumption | omega)) ?_; simp only [go_sem, List.length_map])
    | (with_reducible refine gTrueS ?_; simp only [go_sem, List.length_map]) | (with_reducible refine gFalseS ?_; simp only [go_sem, List.length_map]) | (with_reducible refine gTrue ?_; simp only [go_sem, List.length_map]) | (with_reducible refine gFalse ?_; simp only [go_sem, List.length_map])
    | (refine gSymS ?_; simp only [go_sem, List.length_map]) | (refine gSym ?_; simp only [go_sem, List.length_map])
    | (refine cSplit (fun h => ?_) (fun h => ?_) <;> simp only [go_sem])
    | (with_reducible refine And.intro ?_ ?_; (focus (first | omega | (exact ⟨by omega, by omega⟩) | (simp; done) | (simp; omega)))))
  all_goals simp_all
set_option maxRecDepth 100000 in
theorem laws_eqCredit (x y : TCredit) : PureCall Try.prog 124 [.agg [.int .i64 x.limit, .int .i64 x.used, .int .i64 x.blocked, .int .i64 x.told], .agg [.int .i64 y.limit, .int .i64 y.used, .int .i64 y.blocked, .int .i64 y.told]] [.one (.bool (decide (x = y)))] := by
  refine pure_ev Try.func124 rfl Try.call124 Try.checked.mixed [.agg [.d (.int .i64 x.limit), .d (.int .i64 x.used), .d (.int .i64 x.blocked), .d (.int .i64 x.told)], .agg [.d (.int .i64 y.limit), .d (.int .i64 y.used), .d (.int .i64 y.blocked), .d (.int .i64 y.told)], .junk, .junk, .junk, .junk, .junk, .junk, .junk, .junk, .junk, .junk, .junk, .junk, .junk, .junk, .junk, .junk, .junk, .junk, .junk, .junk, .junk, .junk, .junk] rfl [.tmp 4] rfl ?_
  obtain ⟨a0, a1, a2, a3⟩ := x
  obtain ⟨b0, b1, b2, b3⟩ := y
  simp only [TCredit.mk.injEq]
  intro _
  try simp only [go_sem]
  repeat' (first
    | (with_reducible refine gTrueS ?_; simp only [go_sem, List.length_map]) | (with_reducible refine gFalseS ?_; simp only [go_sem, List.length_map]) | (with_reducible refine gTrue ?_; simp only [go_sem, List.length_map]) | (with_reducible refine gFalse ?_; simp only [go_sem, List.length_map])
    | (refine gSymS ?_; simp only [go_sem, List.length_map]) | (refine gSym ?_; simp only [go_sem, List.length_map])
    | (refine cSplit (fun h => ?_) (fun h => ?_) <;> simp only [go_sem])
    | (with_reducible refine And.intro ?_ ?_; (focus (first | omega | (exact ⟨by omega, by omega⟩) | (simp; done) | (simp; omega)))))
  all_goals simp_all
set_option maxRecDepth 100000 in
theorem laws_eqChunk (x y : TChunk) : PureCall Try.prog 157 [.agg [.int .i64 x.offset, .str x.data], .agg [.int .i64 y.offset, .str y.data]] [.one (.bool (decide (x = y)))] := by
  refine pure_ev Try.func157 rfl Try.call157 Try.checked.mixed [.agg [.d (.int .i64 x.offset), .d (.str x.data)], .agg [.d (.int .i64 y.offset), .d (.str y.data)], .junk, .junk, .junk, .junk, .junk, .junk, .junk, .junk, .junk, .junk, .junk, .junk, .junk] rfl [.tmp 4] rfl ?_
  obtain ⟨a0, a1⟩ := x
  obtain ⟨b0, b1⟩ := y
  simp only [TChunk.mk.injEq]
  intro _
  try simp only [go_sem]
  repeat' (first
    | (with_reducible refine gTrueS ?_; simp only [go_sem, List.length_map]) | (with_reducible refine gFalseS ?_; simp only [go_sem, List.length_map]) | (with_reducible refine gTrue ?_; simp only [go_sem, List.length_map]) | (with_reducible refine gFalse ?_; simp only [go_sem, List.length_map])
    | (refine gSymS ?_; simp only [go_sem, List.length_map]) | (refine gSym ?_; simp only [go_sem, List.length_map])
    | (refine cSplit (fun h => ?_) (fun h => ?_) <;> simp only [go_sem])
    | (with_reducible refine And.intro ?_ ?_; (focus (first | omega | (exact ⟨by omega, by omega⟩) | (simp; done) | (simp; omega)))))
  all_goals simp_all
set_option maxRecDepth 100000 in
theorem laws_eqChunkS (xs ys : List TChunk) : PureCall Try.prog 102 [.one (.sl 2 (xs.map TChunk.enc)), .one (.sl 2 (ys.map TChunk.enc))] [.one (.bool (decide (xs = ys)))] := by
  refine pure_ev Try.func102 rfl Try.call102 Try.checked.mixed [.d (.sl 2 (xs.map TChunk.enc)), .d (.sl 2 (ys.map TChunk.enc)), .junk, .junk, .junk, .junk, .junk, .junk, .junk, .junk, .junk, .junk, .junk, .junk, .junk, .junk, .junk, .junk, .junk, .junk, .junk, .junk, .junk, .junk, .junk, .junk, .junk] rfl [.tmp 4] rfl ?_
  intro ok
  have hm := len_of ok
  simp only [go_sem, List.length_map]
  refine cSplit (fun h => ?_) (fun h => ?_)
  · simp only [go_sem]
    simp only [ne_eq, decide_not, Bool.not_eq_true', decide_eq_false_iff_not] at h
    have : xs ≠ ys := fun e => h (by rw [e])
    simp [this]
  · simp only [ne_eq, decide_not, Bool.not_eq_false', decide_eq_true_eq] at h
    simp only [go_sem]
    refine LoopK.intro (fun i : Nat => ⟨[.d (.sl 2 (xs.map TChunk.enc)), .d (.sl 2 (ys.map TChunk.enc)), .junk, .junk, .d (.bool false), .d (.int .i64 i), .junk, .junk, .junk, .junk, .junk, .junk, .junk, .junk, .junk, .junk, .junk, .junk, .junk, .junk, .junk, .junk, .junk, .junk, .junk, .junk, .junk], []⟩)
      (fun i => xs.length - i) (fun i => i ≤ xs.length ∧ xs.take i = ys.take i) 0 [] ⟨by omega, by simp⟩ ?_ ?_
    · simp only [go_sem]; simp
    · rintro i ⟨hi, he⟩
      simp only [go_sem, List.length_map]
      refine cSplit (fun h1 => ?_) (fun h1 => ?_)
      · simp only [decide_eq_true_eq] at h1
        have hxi := map_at TChunk.enc xs i (by omega)
        have hyi := map_at TChunk.enc ys i (by omega)
        have hw := inc (i := i) (m := xs.length) (by omega) hm
        simp only [go_sem]
        refine drawE_intro [[.post, .un, .post, .post, .un, .un, .un, .un, .post, .post], [.un, .post, .post, .post, .un, .un, .un, .un, .post, .post], [.pre, .pre, .post, .post, .un, .un, .un, .un, .post, .post], [.pre, .pre, .pre, .post, .un, .un, .un, .un, .post, .post], [.un, .un, .un, .un, .post, .un, .post, .post, .post, .post], [.un, .un, .un, .un, .un, .post, .post, .post, .post, .post], [.un, .un, .un, .un, .pre, .pre, .post, .post, .post, .post], [.un, .un, .un, .un, .pre, .pre, .pre, .post, .post, .post], [.pre, .pre, .pre, .pre, .pre, .pre, .pre, .pre, .post, .post], [.pre, .pre, .pre, .pre, .pre, .pre, .pre, .pre, .pre, .post]] (by kernel_rfl) (by rfl) ?_
        simp only [go_sem, List.length_map, Int.toNat_natCast, hxi, hyi, TChunk.enc]
        refine ⟨⟨by omega, by omega⟩, ⟨by omega, by omega⟩, ?_⟩
        refine CallK.intro (laws_eqChunk xs[i] ys[i]) ?_
        simp only [go_sem]
        refine cSplit (fun h2 => ?_) (fun h2 => ?_)
        · simp only [go_sem]
          have : xs ≠ ys := fun e => by subst e; simp at h2
          simp [this]
        · simp only [go_sem, hw]
          have h3 : xs[i]'(by omega) = ys[i]'(by omega) := by simpa using h2
          refine RoundE.intro (i + 1) [] ⟨by omega, take_eq he (by omega) (by omega) h3⟩ (by omega) ?_
          simp only [go_sem]
      · simp only [go_sem]
        simp only [decide_eq_false_iff_not] at h1
        have : xs = ys := by rw [List.take_of_length_le (by omega), List.take_of_length_le (by omega)] at he; exact he
        simp [this]
set_option maxRecDepth 100000 in
theorem laws_eqBuffer (x y : TBuffer) : PureCall Try.prog 41 [.agg [.int .i64 x.next, .sl 2 (x.chunks.map TChunk.enc)], .agg [.int .i64 y.next, .sl 2 (y.chunks.map TChunk.enc)]] [.one (.bool (decide (x = y)))] := by
  refine pure_ev Try.func41 rfl Try.call41 Try.checked.mixed [.agg [.d (.int .i64 x.next), .d (.sl 2 (x.chunks.map TChunk.enc))], .agg [.d (.int .i64 y.next), .d (.sl 2 (y.chunks.map TChunk.enc))], .junk, .junk, .junk, .junk, .junk, .junk, .junk, .junk, .junk, .junk, .junk, .junk, .junk, .junk] rfl [.tmp 4] rfl ?_
  obtain ⟨a0, a1⟩ := x
  obtain ⟨b0, b1⟩ := y
  simp only [TBuffer.mk.injEq]
  intro _
  try simp only [go_sem]
  repeat' (first
    | (refine CallS.intro (by first | assumption | (apply laws_eqChunkS <;> first | assumption | omega)) ?_; simp only [go_sem])
    | (refine CallK.intro (by first | assumption | (apply laws_eqChunkS <;> first | assumption | omega)) ?_; simp only [go_sem, List.length_map])
    | (with_reducible refine gTrueS ?_; simp only [go_sem, List.length_map]) | (with_reducible refine gFalseS ?_; simp only [go_sem, List.length_map]) | (with_reducible refine gTrue ?_; simp only [go_sem, List.length_map]) | (with_reducible refine gFalse ?_; simp only [go_sem, List.length_map])
    | (refine gSymS ?_; simp only [go_sem, List.length_map]) | (refine gSym ?_; simp only [go_sem, List.length_map])
    | (refine cSplit (fun h => ?_) (fun h => ?_) <;> simp only [go_sem])
    | (with_reducible refine And.intro ?_ ?_; (focus (first | omega | (exact ⟨by omega, by omega⟩) | (simp; done) | (simp; omega)))))
  all_goals simp_all
set_option maxRecDepth 100000 in
theorem laws_eqReceiver (x y : TReceiver) : PureCall Try.prog 192 [.agg [.int .i64 x.state, .int .i64 x.buffer.next, .sl 2 (x.buffer.chunks.map TChunk.enc), .int .i64 x.final, .int .i64 x.highest, .int .i64 x.code], .agg [.int .i64 y.state, .int .i64 y.buffer.next, .sl 2 (y.buffer.chunks.map TChunk.enc), .int .i64 y.final, .int .i64 y.highest, .int .i64 y.code]] [.one (.bool (decide (x = y)))] := by
  refine pure_ev Try.func192 rfl Try.call192 Try.checked.mixed [.agg [.d (.int .i64 x.state), .d (.int .i64 x.buffer.next), .d (.sl 2 (x.buffer.chunks.map TChunk.enc)), .d (.int .i64 x.final), .d (.int .i64 x.highest), .d (.int .i64 x.code)], .agg [.d (.int .i64 y.state), .d (.int .i64 y.buffer.next), .d (.sl 2 (y.buffer.chunks.map TChunk.enc)), .d (.int .i64 y.final), .d (.int .i64 y.highest), .d (.int .i64 y.code)], .junk, .junk, .junk, .junk, .junk, .junk, .junk, .junk, .junk, .junk, .junk, .junk, .junk, .junk, .junk, .junk, .junk, .junk, .junk, .junk, .junk, .junk, .junk, .junk, .junk, .junk, .junk, .junk, .junk] rfl [.tmp 4] rfl ?_
  obtain ⟨a0, a1, a2, a3, a4⟩ := x
  obtain ⟨b0, b1, b2, b3, b4⟩ := y
  simp only [TReceiver.mk.injEq]
  intro _
  try simp only [go_sem]
  repeat' (first
    | (refine CallS.intro (by first | assumption | (apply laws_eqBuffer <;> first | assumption | omega)) ?_; simp only [go_sem])
    | (refine CallK.intro (by first | assumption | (apply laws_eqBuffer <;> first | assumption | omega)) ?_; simp only [go_sem, List.length_map])
    | (with_reducible refine gTrueS ?_; simp only [go_sem, List.length_map]) | (with_reducible refine gFalseS ?_; simp only [go_sem, List.length_map]) | (with_reducible refine gTrue ?_; simp only [go_sem, List.length_map]) | (with_reducible refine gFalse ?_; simp only [go_sem, List.length_map])
    | (refine gSymS ?_; simp only [go_sem, List.length_map]) | (refine gSym ?_; simp only [go_sem, List.length_map])
    | (refine cSplit (fun h => ?_) (fun h => ?_) <;> simp only [go_sem])
    | (with_reducible refine And.intro ?_ ?_; (focus (first | omega | (exact ⟨by omega, by omega⟩) | (simp; done) | (simp; omega)))))
  all_goals simp_all
set_option maxRecDepth 100000 in
theorem laws_eqWindow (x y : TWindow) : PureCall Try.prog 125 [.agg [.int .i64 x.size, .int .i64 x.most, .int .i64 x.limit, .int .i64 x.seen, .int .i64 x.read, .int .i64 x.since], .agg [.int .i64 y.size, .int .i64 y.most, .int .i64 y.limit, .int .i64 y.seen, .int .i64 y.read, .int .i64 y.since]] [.one (.bool (decide (x = y)))] := by
  refine pure_ev Try.func125 rfl Try.call125 Try.checked.mixed [.agg [.d (.int .i64 x.size), .d (.int .i64 x.most), .d (.int .i64 x.limit), .d (.int .i64 x.seen), .d (.int .i64 x.read), .d (.int .i64 x.since)], .agg [.d (.int .i64 y.size), .d (.int .i64 y.most), .d (.int .i64 y.limit), .d (.int .i64 y.seen), .d (.int .i64 y.read), .d (.int .i64 y.since)], .junk, .junk, .junk, .junk, .junk, .junk, .junk, .junk, .junk, .junk, .junk, .junk, .junk, .junk, .junk, .junk, .junk, .junk, .junk, .junk, .junk, .junk, .junk, .junk, .junk, .junk, .junk, .junk, .junk, .junk, .junk, .junk, .junk] rfl [.tmp 4] rfl ?_
  obtain ⟨a0, a1, a2, a3, a4, a5⟩ := x
  obtain ⟨b0, b1, b2, b3, b4, b5⟩ := y
  simp only [TWindow.mk.injEq]
  intro _
  try simp only [go_sem]
  repeat' (first
    | (with_reducible refine gTrueS ?_; simp only [go_sem, List.length_map]) | (with_reducible refine gFalseS ?_; simp only [go_sem, List.length_map]) | (with_reducible refine gTrue ?_; simp only [go_sem, List.length_map]) | (with_reducible refine gFalse ?_; simp only [go_sem, List.length_map])
    | (refine gSymS ?_; simp only [go_sem, List.length_map]) | (refine gSym ?_; simp only [go_sem, List.length_map])
    | (refine cSplit (fun h => ?_) (fun h => ?_) <;> simp only [go_sem])
    | (with_reducible refine And.intro ?_ ?_; (focus (first | omega | (exact ⟨by omega, by omega⟩) | (simp; done) | (simp; omega)))))
  all_goals simp_all
set_option maxRecDepth 100000 in
theorem laws_eqPriority (x y : TPriority) : PureCall Try.prog 193 [.agg [.int .i64 x.urgency, .bool x.incremental], .agg [.int .i64 y.urgency, .bool y.incremental]] [.one (.bool (decide (x = y)))] := by
  refine pure_ev Try.func193 rfl Try.call193 Try.checked.mixed [.agg [.d (.int .i64 x.urgency), .d (.bool x.incremental)], .agg [.d (.int .i64 y.urgency), .d (.bool y.incremental)], .junk, .junk, .junk, .junk, .junk, .junk, .junk, .junk, .junk, .junk, .junk, .junk, .junk] rfl [.tmp 4] rfl ?_
  obtain ⟨a0, a1⟩ := x
  obtain ⟨b0, b1⟩ := y
  simp only [TPriority.mk.injEq]
  intro _
  try simp only [go_sem]
  repeat' (first
    | (with_reducible refine gTrueS ?_; simp only [go_sem, List.length_map]) | (with_reducible refine gFalseS ?_; simp only [go_sem, List.length_map]) | (with_reducible refine gTrue ?_; simp only [go_sem, List.length_map]) | (with_reducible refine gFalse ?_; simp only [go_sem, List.length_map])
    | (refine gSymS ?_; simp only [go_sem, List.length_map]) | (refine gSym ?_; simp only [go_sem, List.length_map])
    | (refine cSplit (fun h => ?_) (fun h => ?_) <;> simp only [go_sem])
    | (with_reducible refine And.intro ?_ ?_; (focus (first | omega | (exact ⟨by omega, by omega⟩) | (simp; done) | (simp; omega)))))
  all_goals simp_all
set_option maxRecDepth 100000 in
theorem laws_eqStream (x y : TStream) : PureCall Try.prog 171 [.agg [.int .i64 x.id, .int .i64 x.send.state, .int .i64 x.send.ring.size, .int .i64 x.send.ring.base, .int .i64 x.send.ring.end', .sl 1 (x.send.ring.cells.map eI), .sl 2 (x.send.pending.map TRange.enc), .sl 2 (x.send.flight.map TRange.enc), .sl 2 (x.send.acked.map TRange.enc), .int .i64 x.send.final, .int .i64 x.send.fin, .int .i64 x.send.sent, .int .i64 x.send.code, .int .i64 x.credit.limit, .int .i64 x.credit.used, .int .i64 x.credit.blocked, .int .i64 x.credit.told, .int .i64 x.recv.state, .int .i64 x.recv.buffer.next, .sl 2 (x.recv.buffer.chunks.map TChunk.enc), .int .i64 x.recv.final, .int .i64 x.recv.highest, .int .i64 x.recv.code, .int .i64 x.window.size, .int .i64 x.window.most, .int .i64 x.window.limit, .int .i64 x.window.seen, .int .i64 x.window.read, .int .i64 x.window.since, .int .i64 x.priority.urgency, .bool x.priority.incremental, .bool x.canSend, .bool x.canRecv, .bool x.tellReset, .bool x.tellStop, .bool x.tellMost, .bool x.stopped, .int .i64 x.stopCode, .bool x.counted], .agg [.int .i64 y.id, .int .i64 y.send.state, .int .i64 y.send.ring.size, .int .i64 y.send.ring.base, .int .i64 y.send.ring.end', .sl 1 (y.send.ring.cells.map eI), .sl 2 (y.send.pending.map TRange.enc), .sl 2 (y.send.flight.map TRange.enc), .sl 2 (y.send.acked.map TRange.enc), .int .i64 y.send.final, .int .i64 y.send.fin, .int .i64 y.send.sent, .int .i64 y.send.code, .int .i64 y.credit.limit, .int .i64 y.credit.used, .int .i64 y.credit.blocked, .int .i64 y.credit.told, .int .i64 y.recv.state, .int .i64 y.recv.buffer.next, .sl 2 (y.recv.buffer.chunks.map TChunk.enc), .int .i64 y.recv.final, .int .i64 y.recv.highest, .int .i64 y.recv.code, .int .i64 y.window.size, .int .i64 y.window.most, .int .i64 y.window.limit, .int .i64 y.window.seen, .int .i64 y.window.read, .int .i64 y.window.since, .int .i64 y.priority.urgency, .bool y.priority.incremental, .bool y.canSend, .bool y.canRecv, .bool y.tellReset, .bool y.tellStop, .bool y.tellMost, .bool y.stopped, .int .i64 y.stopCode, .bool y.counted]] [.one (.bool (decide (x = y)))] := by
  refine pure_ev Try.func171 rfl Try.call171 Try.checked.mixed [.agg [.d (.int .i64 x.id), .d (.int .i64 x.send.state), .d (.int .i64 x.send.ring.size), .d (.int .i64 x.send.ring.base), .d (.int .i64 x.send.ring.end'), .d (.sl 1 (x.send.ring.cells.map eI)), .d (.sl 2 (x.send.pending.map TRange.enc)), .d (.sl 2 (x.send.flight.map TRange.enc)), .d (.sl 2 (x.send.acked.map TRange.enc)), .d (.int .i64 x.send.final), .d (.int .i64 x.send.fin), .d (.int .i64 x.send.sent), .d (.int .i64 x.send.code), .d (.int .i64 x.credit.limit), .d (.int .i64 x.credit.used), .d (.int .i64 x.credit.blocked), .d (.int .i64 x.credit.told), .d (.int .i64 x.recv.state), .d (.int .i64 x.recv.buffer.next), .d (.sl 2 (x.recv.buffer.chunks.map TChunk.enc)), .d (.int .i64 x.recv.final), .d (.int .i64 x.recv.highest), .d (.int .i64 x.recv.code), .d (.int .i64 x.window.size), .d (.int .i64 x.window.most), .d (.int .i64 x.window.limit), .d (.int .i64 x.window.seen), .d (.int .i64 x.window.read), .d (.int .i64 x.window.since), .d (.int .i64 x.priority.urgency), .d (.bool x.priority.incremental), .d (.bool x.canSend), .d (.bool x.canRecv), .d (.bool x.tellReset), .d (.bool x.tellStop), .d (.bool x.tellMost), .d (.bool x.stopped), .d (.int .i64 x.stopCode), .d (.bool x.counted)], .agg [.d (.int .i64 y.id), .d (.int .i64 y.send.state), .d (.int .i64 y.send.ring.size), .d (.int .i64 y.send.ring.base), .d (.int .i64 y.send.ring.end'), .d (.sl 1 (y.send.ring.cells.map eI)), .d (.sl 2 (y.send.pending.map TRange.enc)), .d (.sl 2 (y.send.flight.map TRange.enc)), .d (.sl 2 (y.send.acked.map TRange.enc)), .d (.int .i64 y.send.final), .d (.int .i64 y.send.fin), .d (.int .i64 y.send.sent), .d (.int .i64 y.send.code), .d (.int .i64 y.credit.limit), .d (.int .i64 y.credit.used), .d (.int .i64 y.credit.blocked), .d (.int .i64 y.credit.told), .d (.int .i64 y.recv.state), .d (.int .i64 y.recv.buffer.next), .d (.sl 2 (y.recv.buffer.chunks.map TChunk.enc)), .d (.int .i64 y.recv.final), .d (.int .i64 y.recv.highest), .d (.int .i64 y.recv.code), .d (.int .i64 y.window.size), .d (.int .i64 y.window.most), .d (.int .i64 y.window.limit), .d (.int .i64 y.window.seen), .d (.int .i64 y.window.read), .d (.int .i64 y.window.since), .d (.int .i64 y.priority.urgency), .d (.bool y.priority.incremental), .d (.bool y.canSend), .d (.bool y.canRecv), .d (.bool y.tellReset), .d (.bool y.tellStop), .d (.bool y.tellMost), .d (.bool y.stopped), .d (.int .i64 y.stopCode), .d (.bool y.counted)], .junk, .junk, .junk, .junk, .junk, .junk, .junk, .junk, .junk, .junk, .junk, .junk, .junk, .junk, .junk, .junk, .junk, .junk, .junk, .junk, .junk, .junk, .junk, .junk, .junk, .junk, .junk, .junk, .junk, .junk, .junk, .junk, .junk, .junk, .junk, .junk, .junk, .junk, .junk, .junk, .junk, .junk, .junk, .junk, .junk, .junk, .junk, .junk, .junk, .junk, .junk, .junk, .junk, .junk, .junk, .junk, .junk, .junk, .junk, .junk, .junk, .junk, .junk, .junk, .junk, .junk, .junk, .junk, .junk, .junk, .junk, .junk, .junk, .junk, .junk, .junk, .junk, .junk] rfl [.tmp 4] rfl ?_
  obtain ⟨a0, a1, a2, a3, a4, a5, a6, a7, a8, a9, a10, a11, a12, a13⟩ := x
  obtain ⟨b0, b1, b2, b3, b4, b5, b6, b7, b8, b9, b10, b11, b12, b13⟩ := y
  simp only [TStream.mk.injEq]
  intro _
  try simp only [go_sem]
  repeat' (first
    | (refine CallS.intro (by first | assumption | (apply laws_eqSender <;> first | assumption | omega) | (apply laws_eqCredit <;> first | assumption | omega) | (apply laws_eqReceiver <;> first | assumption | omega) | (apply laws_eqWindow <;> first | assumption | omega) | (apply laws_eqPriority <;> first | assumption | omega)) ?_; simp only [go_sem])
    | (refine CallK.intro (by first | assumption | (apply laws_eqSender <;> first | assumption | omega) | (apply laws_eqCredit <;> first | assumption | omega) | (apply laws_eqReceiver <;> first | assumption | omega) | (apply laws_eqWindow <;> first | assumption | omega) | (apply laws_eqPriority <;> first | assumption | omega)) ?_; simp only [go_sem, List.length_map])
    | (with_reducible refine gTrueS ?_; simp only [go_sem, List.length_map]) | (with_reducible refine gFalseS ?_; simp only [go_sem, List.length_map]) | (with_reducible refine gTrue ?_; simp only [go_sem, List.length_map]) | (with_reducible refine gFalse ?_; simp only [go_sem, List.length_map])
    | (refine gSymS ?_; simp only [go_sem, List.length_map]) | (refine gSym ?_; simp only [go_sem, List.length_map])
    | (refine cSplit (fun h => ?_) (fun h => ?_) <;> simp only [go_sem])
    | (with_reducible refine And.intro ?_ ?_; (focus (first | omega | (exact ⟨by omega, by omega⟩) | (simp; done) | (simp; omega)))))
  all_goals simp_all
set_option maxRecDepth 100000 in
theorem laws_eqStreamS (xs ys : List TStream) : PureCall Try.prog 123 [.one (.sl 39 (xs.map TStream.enc)), .one (.sl 39 (ys.map TStream.enc))] [.one (.bool (decide (xs = ys)))] := by
  refine pure_ev Try.func123 rfl Try.call123 Try.checked.mixed [.d (.sl 39 (xs.map TStream.enc)), .d (.sl 39 (ys.map TStream.enc)), .junk, .junk, .junk, .junk, .junk, .junk, .junk, .junk, .junk, .junk, .junk, .junk, .junk, .junk, .junk, .junk, .junk, .junk, .junk, .junk, .junk, .junk, .junk, .junk, .junk] rfl [.tmp 4] rfl ?_
  intro ok
  have hm := len_of ok
  simp only [go_sem, List.length_map]
  refine cSplit (fun h => ?_) (fun h => ?_)
  · simp only [go_sem]
    simp only [ne_eq, decide_not, Bool.not_eq_true', decide_eq_false_iff_not] at h
    have : xs ≠ ys := fun e => h (by rw [e])
    simp [this]
  · simp only [ne_eq, decide_not, Bool.not_eq_false', decide_eq_true_eq] at h
    simp only [go_sem]
    refine LoopK.intro (fun i : Nat => ⟨[.d (.sl 39 (xs.map TStream.enc)), .d (.sl 39 (ys.map TStream.enc)), .junk, .junk, .d (.bool false), .d (.int .i64 i), .junk, .junk, .junk, .junk, .junk, .junk, .junk, .junk, .junk, .junk, .junk, .junk, .junk, .junk, .junk, .junk, .junk, .junk, .junk, .junk, .junk], []⟩)
      (fun i => xs.length - i) (fun i => i ≤ xs.length ∧ xs.take i = ys.take i) 0 [] ⟨by omega, by simp⟩ ?_ ?_
    · simp only [go_sem]; simp
    · rintro i ⟨hi, he⟩
      simp only [go_sem, List.length_map]
      refine cSplit (fun h1 => ?_) (fun h1 => ?_)
      · simp only [decide_eq_true_eq] at h1
        have hxi := map_at TStream.enc xs i (by omega)
        have hyi := map_at TStream.enc ys i (by omega)
        have hw := inc (i := i) (m := xs.length) (by omega) hm
        simp only [go_sem]
        refine drawE_intro [[.post, .un, .post, .post, .un, .un, .un, .un, .post, .post], [.un, .post, .post, .post, .un, .un, .un, .un, .post, .post], [.pre, .pre, .post, .post, .un, .un, .un, .un, .post, .post], [.pre, .pre, .pre, .post, .un, .un, .un, .un, .post, .post], [.un, .un, .un, .un, .post, .un, .post, .post, .post, .post], [.un, .un, .un, .un, .un, .post, .post, .post, .post, .post], [.un, .un, .un, .un, .pre, .pre, .post, .post, .post, .post], [.un, .un, .un, .un, .pre, .pre, .pre, .post, .post, .post], [.pre, .pre, .pre, .pre, .pre, .pre, .pre, .pre, .post, .post], [.pre, .pre, .pre, .pre, .pre, .pre, .pre, .pre, .pre, .post]] (by kernel_rfl) (by rfl) ?_
        simp only [go_sem, List.length_map, Int.toNat_natCast, hxi, hyi, TStream.enc]
        refine ⟨⟨by omega, by omega⟩, ⟨by omega, by omega⟩, ?_⟩
        refine CallK.intro (laws_eqStream xs[i] ys[i]) ?_
        simp only [go_sem]
        refine cSplit (fun h2 => ?_) (fun h2 => ?_)
        · simp only [go_sem]
          have : xs ≠ ys := fun e => by subst e; simp at h2
          simp [this]
        · simp only [go_sem, hw]
          have h3 : xs[i]'(by omega) = ys[i]'(by omega) := by simpa using h2
          refine RoundE.intro (i + 1) [] ⟨by omega, take_eq he (by omega) (by omega) h3⟩ (by omega) ?_
          simp only [go_sem]
      · simp only [go_sem]
        simp only [decide_eq_false_iff_not] at h1
        have : xs = ys := by rw [List.take_of_length_le (by omega), List.take_of_length_le (by omega)] at he; exact he
        simp [this]
set_option maxRecDepth 100000 in
theorem laws_eqCount (x y : TCount) : PureCall Try.prog 126 [.agg [.int .i64 x.limit, .int .i64 x.opened, .int .i64 x.blocked], .agg [.int .i64 y.limit, .int .i64 y.opened, .int .i64 y.blocked]] [.one (.bool (decide (x = y)))] := by
  refine pure_ev Try.func126 rfl Try.call126 Try.checked.mixed [.agg [.d (.int .i64 x.limit), .d (.int .i64 x.opened), .d (.int .i64 x.blocked)], .agg [.d (.int .i64 y.limit), .d (.int .i64 y.opened), .d (.int .i64 y.blocked)], .junk, .junk, .junk, .junk, .junk, .junk, .junk, .junk, .junk, .junk, .junk, .junk, .junk, .junk, .junk, .junk, .junk, .junk] rfl [.tmp 4] rfl ?_
  obtain ⟨a0, a1, a2⟩ := x
  obtain ⟨b0, b1, b2⟩ := y
  simp only [TCount.mk.injEq]
  intro _
  try simp only [go_sem]
  repeat' (first
    | (with_reducible refine gTrueS ?_; simp only [go_sem, List.length_map]) | (with_reducible refine gFalseS ?_; simp only [go_sem, List.length_map]) | (with_reducible refine gTrue ?_; simp only [go_sem, List.length_map]) | (with_reducible refine gFalse ?_; simp only [go_sem, List.length_map])
    | (refine gSymS ?_; simp only [go_sem, List.length_map]) | (refine gSym ?_; simp only [go_sem, List.length_map])
    | (refine cSplit (fun h => ?_) (fun h => ?_) <;> simp only [go_sem])
    | (with_reducible refine And.intro ?_ ?_; (focus (first | omega | (exact ⟨by omega, by omega⟩) | (simp; done) | (simp; omega)))))
  all_goals simp_all
set_option maxRecDepth 100000 in
theorem laws_eqAllow (x y : TAllow) : PureCall Try.prog 127 [.agg [.int .i64 x.most, .int .i64 x.limit, .int .i64 x.seen, .int .i64 x.closed], .agg [.int .i64 y.most, .int .i64 y.limit, .int .i64 y.seen, .int .i64 y.closed]] [.one (.bool (decide (x = y)))] := by
  refine pure_ev Try.func127 rfl Try.call127 Try.checked.mixed [.agg [.d (.int .i64 x.most), .d (.int .i64 x.limit), .d (.int .i64 x.seen), .d (.int .i64 x.closed)], .agg [.d (.int .i64 y.most), .d (.int .i64 y.limit), .d (.int .i64 y.seen), .d (.int .i64 y.closed)], .junk, .junk, .junk, .junk, .junk, .junk, .junk, .junk, .junk, .junk, .junk, .junk, .junk, .junk, .junk, .junk, .junk, .junk, .junk, .junk, .junk, .junk, .junk] rfl [.tmp 4] rfl ?_
  obtain ⟨a0, a1, a2, a3⟩ := x
  obtain ⟨b0, b1, b2, b3⟩ := y
  simp only [TAllow.mk.injEq]
  intro _
  try simp only [go_sem]
  repeat' (first
    | (with_reducible refine gTrueS ?_; simp only [go_sem, List.length_map]) | (with_reducible refine gFalseS ?_; simp only [go_sem, List.length_map]) | (with_reducible refine gTrue ?_; simp only [go_sem, List.length_map]) | (with_reducible refine gFalse ?_; simp only [go_sem, List.length_map])
    | (refine gSymS ?_; simp only [go_sem, List.length_map]) | (refine gSym ?_; simp only [go_sem, List.length_map])
    | (refine cSplit (fun h => ?_) (fun h => ?_) <;> simp only [go_sem])
    | (with_reducible refine And.intro ?_ ?_; (focus (first | omega | (exact ⟨by omega, by omega⟩) | (simp; done) | (simp; omega)))))
  all_goals simp_all
set_option maxRecDepth 100000 in
theorem laws_eqPacketS (xs ys : List TPacket) : PureCall Try.prog 128 [.one (.sl 2 (xs.map TPacket.enc)), .one (.sl 2 (ys.map TPacket.enc))] [.one (.bool (decide (xs = ys)))] := by
  refine pure_ev Try.func128 rfl Try.call128 Try.checked.mixed [.d (.sl 2 (xs.map TPacket.enc)), .d (.sl 2 (ys.map TPacket.enc)), .junk, .junk, .junk, .junk, .junk, .junk, .junk, .junk, .junk, .junk, .junk, .junk, .junk, .junk, .junk, .junk, .junk, .junk, .junk, .junk, .junk, .junk, .junk, .junk, .junk] rfl [.tmp 4] rfl ?_
  intro ok
  have hm := len_of ok
  simp only [go_sem, List.length_map]
  refine cSplit (fun h => ?_) (fun h => ?_)
  · simp only [go_sem]
    simp only [ne_eq, decide_not, Bool.not_eq_true', decide_eq_false_iff_not] at h
    have : xs ≠ ys := fun e => h (by rw [e])
    simp [this]
  · simp only [ne_eq, decide_not, Bool.not_eq_false', decide_eq_true_eq] at h
    simp only [go_sem]
    refine LoopK.intro (fun i : Nat => ⟨[.d (.sl 2 (xs.map TPacket.enc)), .d (.sl 2 (ys.map TPacket.enc)), .junk, .junk, .d (.bool false), .d (.int .i64 i), .junk, .junk, .junk, .junk, .junk, .junk, .junk, .junk, .junk, .junk, .junk, .junk, .junk, .junk, .junk, .junk, .junk, .junk, .junk, .junk, .junk], []⟩)
      (fun i => xs.length - i) (fun i => i ≤ xs.length ∧ xs.take i = ys.take i) 0 [] ⟨by omega, by simp⟩ ?_ ?_
    · simp only [go_sem]; simp
    · rintro i ⟨hi, he⟩
      simp only [go_sem, List.length_map]
      refine cSplit (fun h1 => ?_) (fun h1 => ?_)
      · simp only [decide_eq_true_eq] at h1
        have hxi := map_at TPacket.enc xs i (by omega)
        have hyi := map_at TPacket.enc ys i (by omega)
        have hw := inc (i := i) (m := xs.length) (by omega) hm
        simp only [go_sem]
        refine drawE_intro [[.post, .un, .post, .post, .un, .un, .un, .un, .post, .post], [.un, .post, .post, .post, .un, .un, .un, .un, .post, .post], [.pre, .pre, .post, .post, .un, .un, .un, .un, .post, .post], [.pre, .pre, .pre, .post, .un, .un, .un, .un, .post, .post], [.un, .un, .un, .un, .post, .un, .post, .post, .post, .post], [.un, .un, .un, .un, .un, .post, .post, .post, .post, .post], [.un, .un, .un, .un, .pre, .pre, .post, .post, .post, .post], [.un, .un, .un, .un, .pre, .pre, .pre, .post, .post, .post], [.pre, .pre, .pre, .pre, .pre, .pre, .pre, .pre, .post, .post], [.pre, .pre, .pre, .pre, .pre, .pre, .pre, .pre, .pre, .post]] (by kernel_rfl) (by rfl) ?_
        simp only [go_sem, List.length_map, Int.toNat_natCast, hxi, hyi, TPacket.enc]
        refine ⟨⟨by omega, by omega⟩, ⟨by omega, by omega⟩, ?_⟩
        refine CallK.intro (laws_eqPacket xs[i] ys[i]) ?_
        simp only [go_sem]
        refine cSplit (fun h2 => ?_) (fun h2 => ?_)
        · simp only [go_sem]
          have : xs ≠ ys := fun e => by subst e; simp at h2
          simp [this]
        · simp only [go_sem, hw]
          have h3 : xs[i]'(by omega) = ys[i]'(by omega) := by simpa using h2
          refine RoundE.intro (i + 1) [] ⟨by omega, take_eq he (by omega) (by omega) h3⟩ (by omega) ?_
          simp only [go_sem]
      · simp only [go_sem]
        simp only [decide_eq_false_iff_not] at h1
        have : xs = ys := by rw [List.take_of_length_le (by omega), List.take_of_length_le (by omega)] at he; exact he
        simp [this]
set_option maxRecDepth 100000 in
theorem laws_eqConn (x y : TConn) : PureCall Try.prog 55 [.agg [.bool x.server, .int .i64 x.own.ring, .int .i64 x.own.window, .int .i64 x.own.windowMost, .int .i64 x.own.total, .int .i64 x.own.totalMost, .int .i64 x.own.bidi, .int .i64 x.own.uni, .int .i64 x.own.trip, .int .i64 x.peer.ring, .int .i64 x.peer.window, .int .i64 x.peer.windowMost, .int .i64 x.peer.total, .int .i64 x.peer.totalMost, .int .i64 x.peer.bidi, .int .i64 x.peer.uni, .int .i64 x.peer.trip, .sl 39 (x.streams.map TStream.enc), .int .i64 x.total.limit, .int .i64 x.total.used, .int .i64 x.total.blocked, .int .i64 x.total.told, .int .i64 x.inflow.size, .int .i64 x.inflow.most, .int .i64 x.inflow.limit, .int .i64 x.inflow.seen, .int .i64 x.inflow.read, .int .i64 x.inflow.since, .int .i64 x.openBidi.limit, .int .i64 x.openBidi.opened, .int .i64 x.openBidi.blocked, .int .i64 x.openUni.limit, .int .i64 x.openUni.opened, .int .i64 x.openUni.blocked, .int .i64 x.allowBidi.most, .int .i64 x.allowBidi.limit, .int .i64 x.allowBidi.seen, .int .i64 x.allowBidi.closed, .int .i64 x.allowUni.most, .int .i64 x.allowUni.limit, .int .i64 x.allowUni.seen, .int .i64 x.allowUni.closed, .bool x.tellTotal, .bool x.tellBidi, .bool x.tellUni, .int .i64 x.last, .int .i64 x.number, .sl 2 (x.packets.map TPacket.enc), .int .i64 x.now, .int .i64 x.closed], .agg [.bool y.server, .int .i64 y.own.ring, .int .i64 y.own.window, .int .i64 y.own.windowMost, .int .i64 y.own.total, .int .i64 y.own.totalMost, .int .i64 y.own.bidi, .int .i64 y.own.uni, .int .i64 y.own.trip, .int .i64 y.peer.ring, .int .i64 y.peer.window, .int .i64 y.peer.windowMost, .int .i64 y.peer.total, .int .i64 y.peer.totalMost, .int .i64 y.peer.bidi, .int .i64 y.peer.uni, .int .i64 y.peer.trip, .sl 39 (y.streams.map TStream.enc), .int .i64 y.total.limit, .int .i64 y.total.used, .int .i64 y.total.blocked, .int .i64 y.total.told, .int .i64 y.inflow.size, .int .i64 y.inflow.most, .int .i64 y.inflow.limit, .int .i64 y.inflow.seen, .int .i64 y.inflow.read, .int .i64 y.inflow.since, .int .i64 y.openBidi.limit, .int .i64 y.openBidi.opened, .int .i64 y.openBidi.blocked, .int .i64 y.openUni.limit, .int .i64 y.openUni.opened, .int .i64 y.openUni.blocked, .int .i64 y.allowBidi.most, .int .i64 y.allowBidi.limit, .int .i64 y.allowBidi.seen, .int .i64 y.allowBidi.closed, .int .i64 y.allowUni.most, .int .i64 y.allowUni.limit, .int .i64 y.allowUni.seen, .int .i64 y.allowUni.closed, .bool y.tellTotal, .bool y.tellBidi, .bool y.tellUni, .int .i64 y.last, .int .i64 y.number, .sl 2 (y.packets.map TPacket.enc), .int .i64 y.now, .int .i64 y.closed]] [.one (.bool (decide (x = y)))] := by
  refine pure_ev Try.func55 rfl Try.call55 Try.checked.mixed [.agg [.d (.bool x.server), .d (.int .i64 x.own.ring), .d (.int .i64 x.own.window), .d (.int .i64 x.own.windowMost), .d (.int .i64 x.own.total), .d (.int .i64 x.own.totalMost), .d (.int .i64 x.own.bidi), .d (.int .i64 x.own.uni), .d (.int .i64 x.own.trip), .d (.int .i64 x.peer.ring), .d (.int .i64 x.peer.window), .d (.int .i64 x.peer.windowMost), .d (.int .i64 x.peer.total), .d (.int .i64 x.peer.totalMost), .d (.int .i64 x.peer.bidi), .d (.int .i64 x.peer.uni), .d (.int .i64 x.peer.trip), .d (.sl 39 (x.streams.map TStream.enc)), .d (.int .i64 x.total.limit), .d (.int .i64 x.total.used), .d (.int .i64 x.total.blocked), .d (.int .i64 x.total.told), .d (.int .i64 x.inflow.size), .d (.int .i64 x.inflow.most), .d (.int .i64 x.inflow.limit), .d (.int .i64 x.inflow.seen), .d (.int .i64 x.inflow.read), .d (.int .i64 x.inflow.since), .d (.int .i64 x.openBidi.limit), .d (.int .i64 x.openBidi.opened), .d (.int .i64 x.openBidi.blocked), .d (.int .i64 x.openUni.limit), .d (.int .i64 x.openUni.opened), .d (.int .i64 x.openUni.blocked), .d (.int .i64 x.allowBidi.most), .d (.int .i64 x.allowBidi.limit), .d (.int .i64 x.allowBidi.seen), .d (.int .i64 x.allowBidi.closed), .d (.int .i64 x.allowUni.most), .d (.int .i64 x.allowUni.limit), .d (.int .i64 x.allowUni.seen), .d (.int .i64 x.allowUni.closed), .d (.bool x.tellTotal), .d (.bool x.tellBidi), .d (.bool x.tellUni), .d (.int .i64 x.last), .d (.int .i64 x.number), .d (.sl 2 (x.packets.map TPacket.enc)), .d (.int .i64 x.now), .d (.int .i64 x.closed)], .agg [.d (.bool y.server), .d (.int .i64 y.own.ring), .d (.int .i64 y.own.window), .d (.int .i64 y.own.windowMost), .d (.int .i64 y.own.total), .d (.int .i64 y.own.totalMost), .d (.int .i64 y.own.bidi), .d (.int .i64 y.own.uni), .d (.int .i64 y.own.trip), .d (.int .i64 y.peer.ring), .d (.int .i64 y.peer.window), .d (.int .i64 y.peer.windowMost), .d (.int .i64 y.peer.total), .d (.int .i64 y.peer.totalMost), .d (.int .i64 y.peer.bidi), .d (.int .i64 y.peer.uni), .d (.int .i64 y.peer.trip), .d (.sl 39 (y.streams.map TStream.enc)), .d (.int .i64 y.total.limit), .d (.int .i64 y.total.used), .d (.int .i64 y.total.blocked), .d (.int .i64 y.total.told), .d (.int .i64 y.inflow.size), .d (.int .i64 y.inflow.most), .d (.int .i64 y.inflow.limit), .d (.int .i64 y.inflow.seen), .d (.int .i64 y.inflow.read), .d (.int .i64 y.inflow.since), .d (.int .i64 y.openBidi.limit), .d (.int .i64 y.openBidi.opened), .d (.int .i64 y.openBidi.blocked), .d (.int .i64 y.openUni.limit), .d (.int .i64 y.openUni.opened), .d (.int .i64 y.openUni.blocked), .d (.int .i64 y.allowBidi.most), .d (.int .i64 y.allowBidi.limit), .d (.int .i64 y.allowBidi.seen), .d (.int .i64 y.allowBidi.closed), .d (.int .i64 y.allowUni.most), .d (.int .i64 y.allowUni.limit), .d (.int .i64 y.allowUni.seen), .d (.int .i64 y.allowUni.closed), .d (.bool y.tellTotal), .d (.bool y.tellBidi), .d (.bool y.tellUni), .d (.int .i64 y.last), .d (.int .i64 y.number), .d (.sl 2 (y.packets.map TPacket.enc)), .d (.int .i64 y.now), .d (.int .i64 y.closed)], .junk, .junk, .junk, .junk, .junk, .junk, .junk, .junk, .junk, .junk, .junk, .junk, .junk, .junk, .junk, .junk, .junk, .junk, .junk, .junk, .junk, .junk, .junk, .junk, .junk, .junk, .junk, .junk, .junk, .junk, .junk, .junk, .junk, .junk, .junk, .junk, .junk, .junk, .junk, .junk, .junk, .junk, .junk, .junk, .junk, .junk, .junk, .junk, .junk, .junk, .junk, .junk, .junk, .junk, .junk, .junk, .junk, .junk, .junk, .junk, .junk, .junk, .junk, .junk, .junk, .junk, .junk, .junk, .junk, .junk, .junk, .junk, .junk, .junk, .junk, .junk, .junk, .junk, .junk, .junk, .junk, .junk, .junk, .junk, .junk, .junk, .junk, .junk, .junk, .junk, .junk, .junk, .junk, .junk, .junk, .junk, .junk, .junk, .junk, .junk, .junk, .junk, .junk] rfl [.tmp 4] rfl ?_
  obtain ⟨a0, a1, a2, a3, a4, a5, a6, a7, a8, a9, a10, a11, a12, a13, a14, a15, a16, a17⟩ := x
  obtain ⟨b0, b1, b2, b3, b4, b5, b6, b7, b8, b9, b10, b11, b12, b13, b14, b15, b16, b17⟩ := y
  simp only [TConn.mk.injEq]
  intro _
  try simp only [go_sem]
  repeat' (first
    | (refine CallS.intro (by first | assumption | (apply laws_eqConf <;> first | assumption | omega) | (apply laws_eqStreamS <;> first | assumption | omega) | (apply laws_eqCredit <;> first | assumption | omega) | (apply laws_eqWindow <;> first | assumption | omega) | (apply laws_eqCount <;> first | assumption | omega) | (apply laws_eqAllow <;> first | assumption | omega) | (apply laws_eqPacketS <;> first | assumption | omega)) ?_; simp only [go_sem])
    | (refine CallK.intro (by first | assumption | (apply laws_eqConf <;> first | assumption | omega) | (apply laws_eqStreamS <;> first | assumption | omega) | (apply laws_eqCredit <;> first | assumption | omega) | (apply laws_eqWindow <;> first | assumption | omega) | (apply laws_eqCount <;> first | assumption | omega) | (apply laws_eqAllow <;> first | assumption | omega) | (apply laws_eqPacketS <;> first | assumption | omega)) ?_; simp only [go_sem, List.length_map])
    | (with_reducible refine gTrueS ?_; simp only [go_sem, List.length_map]) | (with_reducible refine gFalseS ?_; simp only [go_sem, List.length_map]) | (with_reducible refine gTrue ?_; simp only [go_sem, List.length_map]) | (with_reducible refine gFalse ?_; simp only [go_sem, List.length_map])
    | (refine gSymS ?_; simp only [go_sem, List.length_map]) | (refine gSym ?_; simp only [go_sem, List.length_map])
    | (refine cSplit (fun h => ?_) (fun h => ?_) <;> simp only [go_sem])
    | (with_reducible refine And.intro ?_ ?_; (focus (first | omega | (exact ⟨by omega, by omega⟩) | (simp; done) | (simp; omega)))))
  all_goals simp_all
def TLetter.bulk (x : TLetter) : Nat := x.payload.length
set_option maxRecDepth 100000 in
theorem laws_szLetter (x : TLetter) (left : Int) (hl : 0 ≤ left ∧ left ≤ 1048576) : PureCall Try.prog 158 [.agg [.int .i64 x.number, .str x.payload], .one (.int .i64 left)] [.one (.int .i64 (szB (TLetter.bulk x) left))] := by
  refine pure_ev Try.func158 rfl Try.call158 Try.checked.mixed [.agg [.d (.int .i64 x.number), .d (.str x.payload)], .d (.int .i64 left), .junk, .junk, .junk, .junk, .junk, .junk, .junk, .junk, .junk, .junk, .junk] rfl [.tmp 4] rfl ?_
  intro ok
  have hw0 : IntKind.i64.wrap (left - (x.payload.length : Int)) = left - (x.payload.length : Int) := wsub (by omega) (ok.1.2.1)
  simp only [go_sem, hw0]
  refine cSplit (fun h => ?_) (fun h => ?_)
  · simp only [decide_eq_true_eq] at h; simp only [go_sem]; rw [szB_lt (by simp only [TLetter.bulk]; omega)]
  simp only [decide_eq_false_iff_not] at h
  try simp only [go_sem]
  rw [show szB (TLetter.bulk x) left = left - ((x.payload.length : Nat) : Int) from by rw [szB_ge (by simp only [TLetter.bulk]; omega)]; simp only [TLetter.bulk]; try omega]
set_option maxRecDepth 100000 in
theorem laws_szLetterS (xs : List TLetter) (left : Int) (hl : 0 ≤ left ∧ left ≤ 1048576) : PureCall Try.prog 105 [.one (.sl 2 (xs.map TLetter.enc)), .one (.int .i64 left)] [.one (.int .i64 (szB ((xs.length + sumB TLetter.bulk xs)) left))] := by
  refine pure_ev Try.func105 rfl Try.call105 Try.checked.mixed [.d (.sl 2 (xs.map TLetter.enc)), .d (.int .i64 left), .junk, .junk, .junk, .junk, .junk, .junk, .junk, .junk, .junk, .junk, .junk, .junk, .junk, .junk, .junk, .junk, .junk, .junk, .junk, .junk, .junk, .junk, .junk, .junk, .junk] rfl [.tmp 4] rfl ?_
  intro ok
  have hm := len_of ok
  have hw := wsub hl hm
  simp only [go_sem, List.length_map, hw]
  refine cSplit (fun h => ?_) (fun h => ?_)
  · simp only [decide_eq_true_eq] at h; simp only [go_sem]; rw [szB_lt (by omega)]
  · simp only [decide_eq_false_iff_not] at h; simp only [go_sem]
    refine LoopK.intro (fun i : Nat => ⟨[.d (.sl 2 (xs.map TLetter.enc)), .d (.int .i64 (left - ((xs.length + sumB TLetter.bulk (xs.take i) : Nat) : Int))), .junk, .junk, .d (.int .i64 0), .d (.int .i64 i), .junk, .junk, .junk, .junk, .junk, .junk, .junk, .junk, .junk, .junk, .junk, .junk, .junk, .junk, .junk, .junk, .junk, .junk, .junk, .junk, .junk], []⟩)
      (fun i => xs.length - i) (fun i => i ≤ xs.length ∧ ((xs.length + sumB TLetter.bulk (xs.take i) : Nat) : Int) ≤ left) 0 [] ⟨by omega, by (simp only [List.take_zero, sumB_nil]) <;> omega⟩ ?_ ?_
    · simp only [go_sem]; simp [sumB]
    · rintro i ⟨hi, hle⟩
      simp only [go_sem, List.length_map]
      have hs2 := sumB_take_le TLetter.bulk xs (i + 1)
      refine cSplit (fun h1 => ?_) (fun h1 => ?_)
      · simp only [decide_eq_true_eq] at h1
        have hlt : i < xs.length := by omega
        have hxi := map_at TLetter.enc xs i hlt
        have hw2 := inc hlt hm
        have hs := sumB_take TLetter.bulk xs i hlt
        simp only [go_sem, List.length_map, Int.toNat_natCast, hxi, TLetter.enc]
        refine ⟨⟨by omega, by omega⟩, ?_⟩
        refine CallS.intro (laws_szLetter xs[i] _ (by omega)) ?_
        simp only [go_sem]
        refine cSplit (fun h2 => ?_) (fun h2 => ?_)
        · have h2 := szB_neg (of_decide_eq_true h2); simp only [go_sem]; rw [szB_lt (by omega)]
        · obtain ⟨e2, hb⟩ := szB_pos (of_decide_eq_false h2)
          simp only [go_sem, hw2, e2]
          refine RoundE.intro (i + 1) [] ⟨by omega, by omega⟩ (by omega) ?_
          simp only [go_sem]; simp [hs]; try omega
      · simp only [go_sem]
        simp only [decide_eq_false_iff_not] at h1
        have hi2 : i = xs.length := by omega
        subst hi2
        rw [List.take_length] at hle ⊢
        rw [szB_ge (by omega)]
def TTrack.bulk (x : TTrack) : Nat := x.wrote.length + x.got.length
set_option maxRecDepth 100000 in
theorem laws_szTrack (x : TTrack) (left : Int) (hl : 0 ≤ left ∧ left ≤ 1048576) : PureCall Try.prog 159 [.agg [.int .i64 x.id, .bool x.server, .str x.wrote, .str x.got, .bool x.done, .bool x.ended, .bool x.broken], .one (.int .i64 left)] [.one (.int .i64 (szB (TTrack.bulk x) left))] := by
  refine pure_ev Try.func159 rfl Try.call159 Try.checked.mixed [.agg [.d (.int .i64 x.id), .d (.bool x.server), .d (.str x.wrote), .d (.str x.got), .d (.bool x.done), .d (.bool x.ended), .d (.bool x.broken)], .d (.int .i64 left), .junk, .junk, .junk, .junk, .junk, .junk, .junk, .junk, .junk, .junk, .junk, .junk, .junk, .junk, .junk, .junk, .junk, .junk] rfl [.tmp 4] rfl ?_
  intro ok
  have hw0 : IntKind.i64.wrap (left - (x.wrote.length : Int)) = left - (x.wrote.length : Int) := wsub (by omega) (ok.1.2.2.1)
  simp only [go_sem, hw0]
  refine cSplit (fun h => ?_) (fun h => ?_)
  · simp only [decide_eq_true_eq] at h; simp only [go_sem]; rw [szB_lt (by simp only [TTrack.bulk]; omega)]
  simp only [decide_eq_false_iff_not] at h
  have hw1 : IntKind.i64.wrap (left - ((x.wrote.length : Nat) : Int) - (x.got.length : Int)) = left - ((x.wrote.length : Nat) : Int) - (x.got.length : Int) := wsub (by omega) (ok.1.2.2.2.1)
  simp only [go_sem, hw1]
  refine cSplit (fun h => ?_) (fun h => ?_)
  · simp only [decide_eq_true_eq] at h; simp only [go_sem]; rw [szB_lt (by simp only [TTrack.bulk]; omega)]
  simp only [decide_eq_false_iff_not] at h
  try simp only [go_sem]
  rw [show szB (TTrack.bulk x) left = left - ((x.wrote.length : Nat) : Int) - ((x.got.length : Nat) : Int) from by rw [szB_ge (by simp only [TTrack.bulk]; omega)]; simp only [TTrack.bulk]; try omega]
set_option maxRecDepth 100000 in
theorem laws_szTrackS (xs : List TTrack) (left : Int) (hl : 0 ≤ left ∧ left ≤ 1048576) : PureCall Try.prog 106 [.one (.sl 7 (xs.map TTrack.enc)), .one (.int .i64 left)] [.one (.int .i64 (szB ((xs.length + sumB TTrack.bulk xs)) left))] := by
  refine pure_ev Try.func106 rfl Try.call106 Try.checked.mixed [.d (.sl 7 (xs.map TTrack.enc)), .d (.int .i64 left), .junk, .junk, .junk, .junk, .junk, .junk, .junk, .junk, .junk, .junk, .junk, .junk, .junk, .junk, .junk, .junk, .junk, .junk, .junk, .junk, .junk, .junk, .junk, .junk, .junk] rfl [.tmp 4] rfl ?_
  intro ok
  have hm := len_of ok
  have hw := wsub hl hm
  simp only [go_sem, List.length_map, hw]
  refine cSplit (fun h => ?_) (fun h => ?_)
  · simp only [decide_eq_true_eq] at h; simp only [go_sem]; rw [szB_lt (by omega)]
  · simp only [decide_eq_false_iff_not] at h; simp only [go_sem]
    refine LoopK.intro (fun i : Nat => ⟨[.d (.sl 7 (xs.map TTrack.enc)), .d (.int .i64 (left - ((xs.length + sumB TTrack.bulk (xs.take i) : Nat) : Int))), .junk, .junk, .d (.int .i64 0), .d (.int .i64 i), .junk, .junk, .junk, .junk, .junk, .junk, .junk, .junk, .junk, .junk, .junk, .junk, .junk, .junk, .junk, .junk, .junk, .junk, .junk, .junk, .junk], []⟩)
      (fun i => xs.length - i) (fun i => i ≤ xs.length ∧ ((xs.length + sumB TTrack.bulk (xs.take i) : Nat) : Int) ≤ left) 0 [] ⟨by omega, by (simp only [List.take_zero, sumB_nil]) <;> omega⟩ ?_ ?_
    · simp only [go_sem]; simp [sumB]
    · rintro i ⟨hi, hle⟩
      simp only [go_sem, List.length_map]
      have hs2 := sumB_take_le TTrack.bulk xs (i + 1)
      refine cSplit (fun h1 => ?_) (fun h1 => ?_)
      · simp only [decide_eq_true_eq] at h1
        have hlt : i < xs.length := by omega
        have hxi := map_at TTrack.enc xs i hlt
        have hw2 := inc hlt hm
        have hs := sumB_take TTrack.bulk xs i hlt
        simp only [go_sem, List.length_map, Int.toNat_natCast, hxi, TTrack.enc]
        refine ⟨⟨by omega, by omega⟩, ?_⟩
        refine CallS.intro (laws_szTrack xs[i] _ (by omega)) ?_
        simp only [go_sem]
        refine cSplit (fun h2 => ?_) (fun h2 => ?_)
        · have h2 := szB_neg (of_decide_eq_true h2); simp only [go_sem]; rw [szB_lt (by omega)]
        · obtain ⟨e2, hb⟩ := szB_pos (of_decide_eq_false h2)
          simp only [go_sem, hw2, e2]
          refine RoundE.intro (i + 1) [] ⟨by omega, by omega⟩ (by omega) ?_
          simp only [go_sem]; simp [hs]; try omega
      · simp only [go_sem]
        simp only [decide_eq_false_iff_not] at h1
        have hi2 : i = xs.length := by omega
        subst hi2
        rw [List.take_length] at hle ⊢
        rw [szB_ge (by omega)]
def TPair.bulk (x : TPair) : Nat := TConn.bulk x.client + TConn.bulk x.server + (x.toServer.length + sumB TLetter.bulk x.toServer) + (x.toClient.length + sumB TLetter.bulk x.toClient) + (x.tracks.length + sumB TTrack.bulk x.tracks)
set_option maxRecDepth 100000 in
theorem laws_szPair (x : TPair) (left : Int) (hl : 0 ≤ left ∧ left ≤ 1048576) : PureCall Try.prog 44 [.agg [.bool x.client.server, .int .i64 x.client.own.ring, .int .i64 x.client.own.window, .int .i64 x.client.own.windowMost, .int .i64 x.client.own.total, .int .i64 x.client.own.totalMost, .int .i64 x.client.own.bidi, .int .i64 x.client.own.uni, .int .i64 x.client.own.trip, .int .i64 x.client.peer.ring, .int .i64 x.client.peer.window, .int .i64 x.client.peer.windowMost, .int .i64 x.client.peer.total, .int .i64 x.client.peer.totalMost, .int .i64 x.client.peer.bidi, .int .i64 x.client.peer.uni, .int .i64 x.client.peer.trip, .sl 39 (x.client.streams.map TStream.enc), .int .i64 x.client.total.limit, .int .i64 x.client.total.used, .int .i64 x.client.total.blocked, .int .i64 x.client.total.told, .int .i64 x.client.inflow.size, .int .i64 x.client.inflow.most, .int .i64 x.client.inflow.limit, .int .i64 x.client.inflow.seen, .int .i64 x.client.inflow.read, .int .i64 x.client.inflow.since, .int .i64 x.client.openBidi.limit, .int .i64 x.client.openBidi.opened, .int .i64 x.client.openBidi.blocked, .int .i64 x.client.openUni.limit, .int .i64 x.client.openUni.opened, .int .i64 x.client.openUni.blocked, .int .i64 x.client.allowBidi.most, .int .i64 x.client.allowBidi.limit, .int .i64 x.client.allowBidi.seen, .int .i64 x.client.allowBidi.closed, .int .i64 x.client.allowUni.most, .int .i64 x.client.allowUni.limit, .int .i64 x.client.allowUni.seen, .int .i64 x.client.allowUni.closed, .bool x.client.tellTotal, .bool x.client.tellBidi, .bool x.client.tellUni, .int .i64 x.client.last, .int .i64 x.client.number, .sl 2 (x.client.packets.map TPacket.enc), .int .i64 x.client.now, .int .i64 x.client.closed, .bool x.server.server, .int .i64 x.server.own.ring, .int .i64 x.server.own.window, .int .i64 x.server.own.windowMost, .int .i64 x.server.own.total, .int .i64 x.server.own.totalMost, .int .i64 x.server.own.bidi, .int .i64 x.server.own.uni, .int .i64 x.server.own.trip, .int .i64 x.server.peer.ring, .int .i64 x.server.peer.window, .int .i64 x.server.peer.windowMost, .int .i64 x.server.peer.total, .int .i64 x.server.peer.totalMost, .int .i64 x.server.peer.bidi, .int .i64 x.server.peer.uni, .int .i64 x.server.peer.trip, .sl 39 (x.server.streams.map TStream.enc), .int .i64 x.server.total.limit, .int .i64 x.server.total.used, .int .i64 x.server.total.blocked, .int .i64 x.server.total.told, .int .i64 x.server.inflow.size, .int .i64 x.server.inflow.most, .int .i64 x.server.inflow.limit, .int .i64 x.server.inflow.seen, .int .i64 x.server.inflow.read, .int .i64 x.server.inflow.since, .int .i64 x.server.openBidi.limit, .int .i64 x.server.openBidi.opened, .int .i64 x.server.openBidi.blocked, .int .i64 x.server.openUni.limit, .int .i64 x.server.openUni.opened, .int .i64 x.server.openUni.blocked, .int .i64 x.server.allowBidi.most, .int .i64 x.server.allowBidi.limit, .int .i64 x.server.allowBidi.seen, .int .i64 x.server.allowBidi.closed, .int .i64 x.server.allowUni.most, .int .i64 x.server.allowUni.limit, .int .i64 x.server.allowUni.seen, .int .i64 x.server.allowUni.closed, .bool x.server.tellTotal, .bool x.server.tellBidi, .bool x.server.tellUni, .int .i64 x.server.last, .int .i64 x.server.number, .sl 2 (x.server.packets.map TPacket.enc), .int .i64 x.server.now, .int .i64 x.server.closed, .sl 2 (x.toServer.map TLetter.enc), .sl 2 (x.toClient.map TLetter.enc), .sl 7 (x.tracks.map TTrack.enc)], .one (.int .i64 left)] [.one (.int .i64 (szB (TPair.bulk x) left))] := by
  refine pure_ev Try.func44 rfl Try.call44 Try.checked.mixed [.agg [.d (.bool x.client.server), .d (.int .i64 x.client.own.ring), .d (.int .i64 x.client.own.window), .d (.int .i64 x.client.own.windowMost), .d (.int .i64 x.client.own.total), .d (.int .i64 x.client.own.totalMost), .d (.int .i64 x.client.own.bidi), .d (.int .i64 x.client.own.uni), .d (.int .i64 x.client.own.trip), .d (.int .i64 x.client.peer.ring), .d (.int .i64 x.client.peer.window), .d (.int .i64 x.client.peer.windowMost), .d (.int .i64 x.client.peer.total), .d (.int .i64 x.client.peer.totalMost), .d (.int .i64 x.client.peer.bidi), .d (.int .i64 x.client.peer.uni), .d (.int .i64 x.client.peer.trip), .d (.sl 39 (x.client.streams.map TStream.enc)), .d (.int .i64 x.client.total.limit), .d (.int .i64 x.client.total.used), .d (.int .i64 x.client.total.blocked), .d (.int .i64 x.client.total.told), .d (.int .i64 x.client.inflow.size), .d (.int .i64 x.client.inflow.most), .d (.int .i64 x.client.inflow.limit), .d (.int .i64 x.client.inflow.seen), .d (.int .i64 x.client.inflow.read), .d (.int .i64 x.client.inflow.since), .d (.int .i64 x.client.openBidi.limit), .d (.int .i64 x.client.openBidi.opened), .d (.int .i64 x.client.openBidi.blocked), .d (.int .i64 x.client.openUni.limit), .d (.int .i64 x.client.openUni.opened), .d (.int .i64 x.client.openUni.blocked), .d (.int .i64 x.client.allowBidi.most), .d (.int .i64 x.client.allowBidi.limit), .d (.int .i64 x.client.allowBidi.seen), .d (.int .i64 x.client.allowBidi.closed), .d (.int .i64 x.client.allowUni.most), .d (.int .i64 x.client.allowUni.limit), .d (.int .i64 x.client.allowUni.seen), .d (.int .i64 x.client.allowUni.closed), .d (.bool x.client.tellTotal), .d (.bool x.client.tellBidi), .d (.bool x.client.tellUni), .d (.int .i64 x.client.last), .d (.int .i64 x.client.number), .d (.sl 2 (x.client.packets.map TPacket.enc)), .d (.int .i64 x.client.now), .d (.int .i64 x.client.closed), .d (.bool x.server.server), .d (.int .i64 x.server.own.ring), .d (.int .i64 x.server.own.window), .d (.int .i64 x.server.own.windowMost), .d (.int .i64 x.server.own.total), .d (.int .i64 x.server.own.totalMost), .d (.int .i64 x.server.own.bidi), .d (.int .i64 x.server.own.uni), .d (.int .i64 x.server.own.trip), .d (.int .i64 x.server.peer.ring), .d (.int .i64 x.server.peer.window), .d (.int .i64 x.server.peer.windowMost), .d (.int .i64 x.server.peer.total), .d (.int .i64 x.server.peer.totalMost), .d (.int .i64 x.server.peer.bidi), .d (.int .i64 x.server.peer.uni), .d (.int .i64 x.server.peer.trip), .d (.sl 39 (x.server.streams.map TStream.enc)), .d (.int .i64 x.server.total.limit), .d (.int .i64 x.server.total.used), .d (.int .i64 x.server.total.blocked), .d (.int .i64 x.server.total.told), .d (.int .i64 x.server.inflow.size), .d (.int .i64 x.server.inflow.most), .d (.int .i64 x.server.inflow.limit), .d (.int .i64 x.server.inflow.seen), .d (.int .i64 x.server.inflow.read), .d (.int .i64 x.server.inflow.since), .d (.int .i64 x.server.openBidi.limit), .d (.int .i64 x.server.openBidi.opened), .d (.int .i64 x.server.openBidi.blocked), .d (.int .i64 x.server.openUni.limit), .d (.int .i64 x.server.openUni.opened), .d (.int .i64 x.server.openUni.blocked), .d (.int .i64 x.server.allowBidi.most), .d (.int .i64 x.server.allowBidi.limit), .d (.int .i64 x.server.allowBidi.seen), .d (.int .i64 x.server.allowBidi.closed), .d (.int .i64 x.server.allowUni.most), .d (.int .i64 x.server.allowUni.limit), .d (.int .i64 x.server.allowUni.seen), .d (.int .i64 x.server.allowUni.closed), .d (.bool x.server.tellTotal), .d (.bool x.server.tellBidi), .d (.bool x.server.tellUni), .d (.int .i64 x.server.last), .d (.int .i64 x.server.number), .d (.sl 2 (x.server.packets.map TPacket.enc)), .d (.int .i64 x.server.now), .d (.int .i64 x.server.closed), .d (.sl 2 (x.toServer.map TLetter.enc)), .d (.sl 2 (x.toClient.map TLetter.enc)), .d (.sl 7 (x.tracks.map TTrack.enc))], .d (.int .i64 left), .junk, .junk, .junk, .junk, .junk, .junk, .junk, .junk, .junk, .junk, .junk, .junk, .junk, .junk, .junk, .junk, .junk, .junk, .junk, .junk, .junk, .junk, .junk, .junk, .junk, .junk, .junk, .junk, .junk, .junk, .junk, .junk, .junk, .junk] rfl [.tmp 4] rfl ?_
  intro ok
  try simp only [go_sem]
  refine CallS.intro (laws_szConn x.client (left) (by omega)) ?_
  simp only [go_sem]
  refine cSplit (fun h => ?_) (fun h => ?_)
  · simp only [decide_eq_true_eq] at h; have h := szB_neg h; simp only [go_sem]; rw [szB_lt (by simp only [TPair.bulk]; omega)]
  simp only [decide_eq_false_iff_not] at h; obtain ⟨e0, h⟩ := szB_pos h; simp only [go_sem, e0]
  try simp only [go_sem, List.length_map]
  refine CallS.intro (laws_szConn x.server (left - ((TConn.bulk x.client : Nat) : Int)) (by omega)) ?_
  simp only [go_sem]
  refine cSplit (fun h => ?_) (fun h => ?_)
  · simp only [decide_eq_true_eq] at h; have h := szB_neg h; simp only [go_sem]; rw [szB_lt (by simp only [TPair.bulk]; omega)]
  simp only [decide_eq_false_iff_not] at h; obtain ⟨e1, h⟩ := szB_pos h; simp only [go_sem, e1]
  try simp only [go_sem, List.length_map]
  refine CallS.intro (laws_szLetterS x.toServer (left - ((TConn.bulk x.client : Nat) : Int) - ((TConn.bulk x.server : Nat) : Int)) (by omega)) ?_
  simp only [go_sem]
  refine cSplit (fun h => ?_) (fun h => ?_)
  · simp only [decide_eq_true_eq] at h; have h := szB_neg h; simp only [go_sem]; rw [szB_lt (by simp only [TPair.bulk]; omega)]
  simp only [decide_eq_false_iff_not] at h; obtain ⟨e2, h⟩ := szB_pos h; simp only [go_sem, e2]
  try simp only [go_sem, List.length_map]
  refine CallS.intro (laws_szLetterS x.toClient (left - ((TConn.bulk x.client : Nat) : Int) - ((TConn.bulk x.server : Nat) : Int) - (((x.toServer.length + sumB TLetter.bulk x.toServer) : Nat) : Int)) (by omega)) ?_
  simp only [go_sem]
  refine cSplit (fun h => ?_) (fun h => ?_)
  · simp only [decide_eq_true_eq] at h; have h := szB_neg h; simp only [go_sem]; rw [szB_lt (by simp only [TPair.bulk]; omega)]
  simp only [decide_eq_false_iff_not] at h; obtain ⟨e3, h⟩ := szB_pos h; simp only [go_sem, e3]
  try simp only [go_sem, List.length_map]
  refine CallS.intro (laws_szTrackS x.tracks (left - ((TConn.bulk x.client : Nat) : Int) - ((TConn.bulk x.server : Nat) : Int) - (((x.toServer.length + sumB TLetter.bulk x.toServer) : Nat) : Int) - (((x.toClient.length + sumB TLetter.bulk x.toClient) : Nat) : Int)) (by omega)) ?_
  simp only [go_sem]
  refine cSplit (fun h => ?_) (fun h => ?_)
  · simp only [decide_eq_true_eq] at h; have h := szB_neg h; simp only [go_sem]; rw [szB_lt (by simp only [TPair.bulk]; omega)]
  simp only [decide_eq_false_iff_not] at h; obtain ⟨e4, h⟩ := szB_pos h; simp only [go_sem, e4]
  try simp only [go_sem]
  rw [show szB (TPair.bulk x) left = left - ((TConn.bulk x.client : Nat) : Int) - ((TConn.bulk x.server : Nat) : Int) - (((x.toServer.length + sumB TLetter.bulk x.toServer) : Nat) : Int) - (((x.toClient.length + sumB TLetter.bulk x.toClient) : Nat) : Int) - (((x.tracks.length + sumB TTrack.bulk x.tracks) : Nat) : Int) from by rw [szB_ge (by simp only [TPair.bulk]; omega)]; simp only [TPair.bulk]; try omega]
set_option maxRecDepth 100000 in
theorem laws_toLetter (x : TLetter) : PureCall Try.prog 160 [.agg [.int .i64 x.number, .str x.payload]] [.agg [.int .i64 x.number, .str x.payload]] := by
  refine pure_ev Try.func160 rfl Try.call160 Try.checked.mixed [.agg [.d (.int .i64 x.number), .d (.str x.payload)], .junk, .junk, .junk, .junk, .junk, .junk, .junk, .junk, .junk, .junk] rfl [.cell 2 26] rfl ?_
  intro _
  try simp only [go_sem]
  repeat' (first
    | (with_reducible refine gTrueS ?_; simp only [go_sem, List.length_map, List.take_length, List.length_take, Nat.min_self]) | (with_reducible refine gFalseS ?_; simp only [go_sem, List.length_map, List.take_length, List.length_take, Nat.min_self]) | (with_reducible refine gTrue ?_; simp only [go_sem, List.length_map, List.take_length, List.length_take, Nat.min_self]) | (with_reducible refine gFalse ?_; simp only [go_sem, List.length_map, List.take_length, List.length_take, Nat.min_self])
    | (refine gSymS ?_; simp only [go_sem, List.length_map, List.take_length, List.length_take, Nat.min_self]) | (refine gSym ?_; simp only [go_sem, List.length_map, List.take_length, List.length_take, Nat.min_self])
    | (refine cSplit (fun h => ?_) (fun h => ?_) <;> simp only [go_sem, List.length_map, List.take_length, List.length_take, Nat.min_self])
    | (with_reducible refine And.intro ?_ ?_; (focus (first | omega | (exact ⟨by omega, by omega⟩) | (simp; done) | (simp; omega)))))
  all_goals simp
set_option maxRecDepth 100000 in
theorem laws_toLetterS (xs : List TLetter) (hx : (xs.length + sumB TLetter.bulk xs) ≤ 1048576) : PureCall Try.prog 107 [.one (.sl 2 (xs.map TLetter.enc))] [.one (.sl 2 (xs.map TLetter.enc))] := by
  refine pure_ev Try.func107 rfl Try.call107 Try.checked.mixed [.d (.sl 2 (xs.map TLetter.enc)), .junk, .junk, .junk, .junk, .junk, .junk, .junk, .junk, .junk, .junk, .junk, .junk, .junk, .junk, .junk, .junk, .junk, .junk, .junk, .junk, .junk, .junk] rfl [.tmp 2] rfl ?_
  intro _
  have hm : xs.length ≤ maxLen := by simp only [maxLen]; omega
  simp only [go_sem, List.length_map, Int.toNat_natCast]
  refine ⟨⟨by omega, by omega, hm⟩, ?_⟩
  refine LoopK.intro (fun i : Nat => ⟨[.d (.sl 2 (xs.map TLetter.enc)), .junk, .junk, .sl 0 0 xs.length, .d (.int .i64 i), .junk, .junk, .junk, .junk, .junk, .junk, .junk, .junk, .junk, .junk, .junk, .junk, .junk, .junk, .junk, .junk, .junk, .junk], [.arr 2 ((cpL (⟨0, []⟩ : TLetter) xs i).map TLetter.enc) true]⟩)
      (fun i => xs.length - i) (fun i => i ≤ xs.length) 0 [0] (by omega) ?_ ?_
  · simp only [go_sem]; simp [cpL, TLetter.enc]
  · intro i hi
    simp only [go_sem, List.length_map]
    refine cSplit (fun h1 => ?_) (fun h1 => ?_)
    · simp only [decide_eq_true_eq] at h1
      have hlt : i < xs.length := by omega
      have hxi := map_at TLetter.enc xs i hlt
      have hw := inc hlt hm
      have hg := cpL_get (⟨0, []⟩ : TLetter) TLetter.enc xs i hlt
      have hs := cpL_set (⟨0, []⟩ : TLetter) TLetter.enc xs i hlt
      have hl := cpL_len (⟨0, []⟩ : TLetter) xs i (by omega)
      have hb := sumB_at TLetter.bulk xs i hlt
      simp only [TLetter.enc] at hs hg hxi
      simp only [go_sem, List.length_map, List.map_nil, Int.toNat_natCast, hxi]
      refine ⟨⟨by omega, by omega⟩, ?_⟩
      refine CallS.intro (laws_toLetter xs[i]) ?_
      simp only [go_sem, List.length_map, List.map_nil, Int.toNat_natCast, hg, hs, hl, hw]
      refine ⟨⟨by omega, by omega⟩, ⟨by omega, by simp⟩, RoundE.intro (i + 1) [0] (by omega) (by omega) ?_⟩
      simp only [go_sem]; simp
    · simp only [go_sem]
      simp only [decide_eq_false_iff_not] at h1
      have hi2 : i = xs.length := by omega
      subst hi2
      rw [cpL_all]
      simp [outOA]
      exact List.take_of_length_le (by simp)
set_option maxRecDepth 100000 in
theorem laws_toTrack (x : TTrack) : PureCall Try.prog 161 [.agg [.int .i64 x.id, .bool x.server, .str x.wrote, .str x.got, .bool x.done, .bool x.ended, .bool x.broken]] [.agg [.int .i64 x.id, .bool x.server, .str x.wrote, .str x.got, .bool x.done, .bool x.ended, .bool x.broken]] := by
  refine pure_ev Try.func161 rfl Try.call161 Try.checked.mixed [.agg [.d (.int .i64 x.id), .d (.bool x.server), .d (.str x.wrote), .d (.str x.got), .d (.bool x.done), .d (.bool x.ended), .d (.bool x.broken)], .junk, .junk, .junk, .junk, .junk, .junk, .junk, .junk, .junk, .junk, .junk, .junk, .junk, .junk, .junk, .junk, .junk, .junk, .junk, .junk, .junk, .junk, .junk, .junk, .junk] rfl [.cell 2 88] rfl ?_
  intro _
  try simp only [go_sem]
  repeat' (first
    | (with_reducible refine gTrueS ?_; simp only [go_sem, List.length_map, List.take_length, List.length_take, Nat.min_self]) | (with_reducible refine gFalseS ?_; simp only [go_sem, List.length_map, List.take_length, List.length_take, Nat.min_self]) | (with_reducible refine gTrue ?_; simp only [go_sem, List.length_map, List.take_length, List.length_take, Nat.min_self]) | (with_reducible refine gFalse ?_; simp only [go_sem, List.length_map, List.take_length, List.length_take, Nat.min_self])
    | (refine gSymS ?_; simp only [go_sem, List.length_map, List.take_length, List.length_take, Nat.min_self]) | (refine gSym ?_; simp only [go_sem, List.length_map, List.take_length, List.length_take, Nat.min_self])
    | (refine cSplit (fun h => ?_) (fun h => ?_) <;> simp only [go_sem, List.length_map, List.take_length, List.length_take, Nat.min_self])
    | (with_reducible refine And.intro ?_ ?_; (focus (first | omega | (exact ⟨by omega, by omega⟩) | (simp; done) | (simp; omega)))))
  all_goals simp
set_option maxRecDepth 100000 in
theorem laws_toTrackS (xs : List TTrack) (hx : (xs.length + sumB TTrack.bulk xs) ≤ 1048576) : PureCall Try.prog 108 [.one (.sl 7 (xs.map TTrack.enc))] [.one (.sl 7 (xs.map TTrack.enc))] := by
  refine pure_ev Try.func108 rfl Try.call108 Try.checked.mixed [.d (.sl 7 (xs.map TTrack.enc)), .junk, .junk, .junk, .junk, .junk, .junk, .junk, .junk, .junk, .junk, .junk, .junk, .junk, .junk, .junk, .junk, .junk, .junk, .junk, .junk, .junk, .junk] rfl [.tmp 2] rfl ?_
  intro _
  have hm : xs.length ≤ maxLen := by simp only [maxLen]; omega
  simp only [go_sem, List.length_map, Int.toNat_natCast]
  refine ⟨⟨by omega, by omega, hm⟩, ?_⟩
  refine LoopK.intro (fun i : Nat => ⟨[.d (.sl 7 (xs.map TTrack.enc)), .junk, .junk, .sl 0 0 xs.length, .d (.int .i64 i), .junk, .junk, .junk, .junk, .junk, .junk, .junk, .junk, .junk, .junk, .junk, .junk, .junk, .junk, .junk, .junk, .junk, .junk], [.arr 7 ((cpL (⟨0, false, [], [], false, false, false⟩ : TTrack) xs i).map TTrack.enc) true]⟩)
      (fun i => xs.length - i) (fun i => i ≤ xs.length) 0 [0] (by omega) ?_ ?_
  · simp only [go_sem]; simp [cpL, TTrack.enc]
  · intro i hi
    simp only [go_sem, List.length_map]
    refine cSplit (fun h1 => ?_) (fun h1 => ?_)
    · simp only [decide_eq_true_eq] at h1
      have hlt : i < xs.length := by omega
      have hxi := map_at TTrack.enc xs i hlt
      have hw := inc hlt hm
      have hg := cpL_get (⟨0, false, [], [], false, false, false⟩ : TTrack) TTrack.enc xs i hlt
      have hs := cpL_set (⟨0, false, [], [], false, false, false⟩ : TTrack) TTrack.enc xs i hlt
      have hl := cpL_len (⟨0, false, [], [], false, false, false⟩ : TTrack) xs i (by omega)
      have hb := sumB_at TTrack.bulk xs i hlt
      simp only [TTrack.enc] at hs hg hxi
      simp only [go_sem, List.length_map, List.map_nil, Int.toNat_natCast, hxi]
      refine ⟨⟨by omega, by omega⟩, ?_⟩
      refine CallS.intro (laws_toTrack xs[i]) ?_
      simp only [go_sem, List.length_map, List.map_nil, Int.toNat_natCast, hg, hs, hl, hw]
      refine ⟨⟨by omega, by omega⟩, ⟨by omega, by simp⟩, RoundE.intro (i + 1) [0] (by omega) (by omega) ?_⟩
      simp only [go_sem]; simp
    · simp only [go_sem]
      simp only [decide_eq_false_iff_not] at h1
      have hi2 : i = xs.length := by omega
      subst hi2
      rw [cpL_all]
      simp [outOA]
      exact List.take_of_length_le (by simp)
set_option maxRecDepth 100000 in
theorem laws_toPair (x : TPair) (hx : TPair.bulk x ≤ 1048576) : PureCall Try.prog 46 [.agg [.bool x.client.server, .int .i64 x.client.own.ring, .int .i64 x.client.own.window, .int .i64 x.client.own.windowMost, .int .i64 x.client.own.total, .int .i64 x.client.own.totalMost, .int .i64 x.client.own.bidi, .int .i64 x.client.own.uni, .int .i64 x.client.own.trip, .int .i64 x.client.peer.ring, .int .i64 x.client.peer.window, .int .i64 x.client.peer.windowMost, .int .i64 x.client.peer.total, .int .i64 x.client.peer.totalMost, .int .i64 x.client.peer.bidi, .int .i64 x.client.peer.uni, .int .i64 x.client.peer.trip, .sl 39 (x.client.streams.map TStream.enc), .int .i64 x.client.total.limit, .int .i64 x.client.total.used, .int .i64 x.client.total.blocked, .int .i64 x.client.total.told, .int .i64 x.client.inflow.size, .int .i64 x.client.inflow.most, .int .i64 x.client.inflow.limit, .int .i64 x.client.inflow.seen, .int .i64 x.client.inflow.read, .int .i64 x.client.inflow.since, .int .i64 x.client.openBidi.limit, .int .i64 x.client.openBidi.opened, .int .i64 x.client.openBidi.blocked, .int .i64 x.client.openUni.limit, .int .i64 x.client.openUni.opened, .int .i64 x.client.openUni.blocked, .int .i64 x.client.allowBidi.most, .int .i64 x.client.allowBidi.limit, .int .i64 x.client.allowBidi.seen, .int .i64 x.client.allowBidi.closed, .int .i64 x.client.allowUni.most, .int .i64 x.client.allowUni.limit, .int .i64 x.client.allowUni.seen, .int .i64 x.client.allowUni.closed, .bool x.client.tellTotal, .bool x.client.tellBidi, .bool x.client.tellUni, .int .i64 x.client.last, .int .i64 x.client.number, .sl 2 (x.client.packets.map TPacket.enc), .int .i64 x.client.now, .int .i64 x.client.closed, .bool x.server.server, .int .i64 x.server.own.ring, .int .i64 x.server.own.window, .int .i64 x.server.own.windowMost, .int .i64 x.server.own.total, .int .i64 x.server.own.totalMost, .int .i64 x.server.own.bidi, .int .i64 x.server.own.uni, .int .i64 x.server.own.trip, .int .i64 x.server.peer.ring, .int .i64 x.server.peer.window, .int .i64 x.server.peer.windowMost, .int .i64 x.server.peer.total, .int .i64 x.server.peer.totalMost, .int .i64 x.server.peer.bidi, .int .i64 x.server.peer.uni, .int .i64 x.server.peer.trip, .sl 39 (x.server.streams.map TStream.enc), .int .i64 x.server.total.limit, .int .i64 x.server.total.used, .int .i64 x.server.total.blocked, .int .i64 x.server.total.told, .int .i64 x.server.inflow.size, .int .i64 x.server.inflow.most, .int .i64 x.server.inflow.limit, .int .i64 x.server.inflow.seen, .int .i64 x.server.inflow.read, .int .i64 x.server.inflow.since, .int .i64 x.server.openBidi.limit, .int .i64 x.server.openBidi.opened, .int .i64 x.server.openBidi.blocked, .int .i64 x.server.openUni.limit, .int .i64 x.server.openUni.opened, .int .i64 x.server.openUni.blocked, .int .i64 x.server.allowBidi.most, .int .i64 x.server.allowBidi.limit, .int .i64 x.server.allowBidi.seen, .int .i64 x.server.allowBidi.closed, .int .i64 x.server.allowUni.most, .int .i64 x.server.allowUni.limit, .int .i64 x.server.allowUni.seen, .int .i64 x.server.allowUni.closed, .bool x.server.tellTotal, .bool x.server.tellBidi, .bool x.server.tellUni, .int .i64 x.server.last, .int .i64 x.server.number, .sl 2 (x.server.packets.map TPacket.enc), .int .i64 x.server.now, .int .i64 x.server.closed, .sl 2 (x.toServer.map TLetter.enc), .sl 2 (x.toClient.map TLetter.enc), .sl 7 (x.tracks.map TTrack.enc)]] [.agg [.bool x.client.server, .int .i64 x.client.own.ring, .int .i64 x.client.own.window, .int .i64 x.client.own.windowMost, .int .i64 x.client.own.total, .int .i64 x.client.own.totalMost, .int .i64 x.client.own.bidi, .int .i64 x.client.own.uni, .int .i64 x.client.own.trip, .int .i64 x.client.peer.ring, .int .i64 x.client.peer.window, .int .i64 x.client.peer.windowMost, .int .i64 x.client.peer.total, .int .i64 x.client.peer.totalMost, .int .i64 x.client.peer.bidi, .int .i64 x.client.peer.uni, .int .i64 x.client.peer.trip, .sl 39 (x.client.streams.map TStream.enc), .int .i64 x.client.total.limit, .int .i64 x.client.total.used, .int .i64 x.client.total.blocked, .int .i64 x.client.total.told, .int .i64 x.client.inflow.size, .int .i64 x.client.inflow.most, .int .i64 x.client.inflow.limit, .int .i64 x.client.inflow.seen, .int .i64 x.client.inflow.read, .int .i64 x.client.inflow.since, .int .i64 x.client.openBidi.limit, .int .i64 x.client.openBidi.opened, .int .i64 x.client.openBidi.blocked, .int .i64 x.client.openUni.limit, .int .i64 x.client.openUni.opened, .int .i64 x.client.openUni.blocked, .int .i64 x.client.allowBidi.most, .int .i64 x.client.allowBidi.limit, .int .i64 x.client.allowBidi.seen, .int .i64 x.client.allowBidi.closed, .int .i64 x.client.allowUni.most, .int .i64 x.client.allowUni.limit, .int .i64 x.client.allowUni.seen, .int .i64 x.client.allowUni.closed, .bool x.client.tellTotal, .bool x.client.tellBidi, .bool x.client.tellUni, .int .i64 x.client.last, .int .i64 x.client.number, .sl 2 (x.client.packets.map TPacket.enc), .int .i64 x.client.now, .int .i64 x.client.closed, .bool x.server.server, .int .i64 x.server.own.ring, .int .i64 x.server.own.window, .int .i64 x.server.own.windowMost, .int .i64 x.server.own.total, .int .i64 x.server.own.totalMost, .int .i64 x.server.own.bidi, .int .i64 x.server.own.uni, .int .i64 x.server.own.trip, .int .i64 x.server.peer.ring, .int .i64 x.server.peer.window, .int .i64 x.server.peer.windowMost, .int .i64 x.server.peer.total, .int .i64 x.server.peer.totalMost, .int .i64 x.server.peer.bidi, .int .i64 x.server.peer.uni, .int .i64 x.server.peer.trip, .sl 39 (x.server.streams.map TStream.enc), .int .i64 x.server.total.limit, .int .i64 x.server.total.used, .int .i64 x.server.total.blocked, .int .i64 x.server.total.told, .int .i64 x.server.inflow.size, .int .i64 x.server.inflow.most, .int .i64 x.server.inflow.limit, .int .i64 x.server.inflow.seen, .int .i64 x.server.inflow.read, .int .i64 x.server.inflow.since, .int .i64 x.server.openBidi.limit, .int .i64 x.server.openBidi.opened, .int .i64 x.server.openBidi.blocked, .int .i64 x.server.openUni.limit, .int .i64 x.server.openUni.opened, .int .i64 x.server.openUni.blocked, .int .i64 x.server.allowBidi.most, .int .i64 x.server.allowBidi.limit, .int .i64 x.server.allowBidi.seen, .int .i64 x.server.allowBidi.closed, .int .i64 x.server.allowUni.most, .int .i64 x.server.allowUni.limit, .int .i64 x.server.allowUni.seen, .int .i64 x.server.allowUni.closed, .bool x.server.tellTotal, .bool x.server.tellBidi, .bool x.server.tellUni, .int .i64 x.server.last, .int .i64 x.server.number, .sl 2 (x.server.packets.map TPacket.enc), .int .i64 x.server.now, .int .i64 x.server.closed, .sl 2 (x.toServer.map TLetter.enc), .sl 2 (x.toClient.map TLetter.enc), .sl 7 (x.tracks.map TTrack.enc)]] := by
  refine pure_ev Try.func46 rfl Try.call46 Try.checked.mixed [.agg [.d (.bool x.client.server), .d (.int .i64 x.client.own.ring), .d (.int .i64 x.client.own.window), .d (.int .i64 x.client.own.windowMost), .d (.int .i64 x.client.own.total), .d (.int .i64 x.client.own.totalMost), .d (.int .i64 x.client.own.bidi), .d (.int .i64 x.client.own.uni), .d (.int .i64 x.client.own.trip), .d (.int .i64 x.client.peer.ring), .d (.int .i64 x.client.peer.window), .d (.int .i64 x.client.peer.windowMost), .d (.int .i64 x.client.peer.total), .d (.int .i64 x.client.peer.totalMost), .d (.int .i64 x.client.peer.bidi), .d (.int .i64 x.client.peer.uni), .d (.int .i64 x.client.peer.trip), .d (.sl 39 (x.client.streams.map TStream.enc)), .d (.int .i64 x.client.total.limit), .d (.int .i64 x.client.total.used), .d (.int .i64 x.client.total.blocked), .d (.int .i64 x.client.total.told), .d (.int .i64 x.client.inflow.size), .d (.int .i64 x.client.inflow.most), .d (.int .i64 x.client.inflow.limit), .d (.int .i64 x.client.inflow.seen), .d (.int .i64 x.client.inflow.read), .d (.int .i64 x.client.inflow.since), .d (.int .i64 x.client.openBidi.limit), .d (.int .i64 x.client.openBidi.opened), .d (.int .i64 x.client.openBidi.blocked), .d (.int .i64 x.client.openUni.limit), .d (.int .i64 x.client.openUni.opened), .d (.int .i64 x.client.openUni.blocked), .d (.int .i64 x.client.allowBidi.most), .d (.int .i64 x.client.allowBidi.limit), .d (.int .i64 x.client.allowBidi.seen), .d (.int .i64 x.client.allowBidi.closed), .d (.int .i64 x.client.allowUni.most), .d (.int .i64 x.client.allowUni.limit), .d (.int .i64 x.client.allowUni.seen), .d (.int .i64 x.client.allowUni.closed), .d (.bool x.client.tellTotal), .d (.bool x.client.tellBidi), .d (.bool x.client.tellUni), .d (.int .i64 x.client.last), .d (.int .i64 x.client.number), .d (.sl 2 (x.client.packets.map TPacket.enc)), .d (.int .i64 x.client.now), .d (.int .i64 x.client.closed), .d (.bool x.server.server), .d (.int .i64 x.server.own.ring), .d (.int .i64 x.server.own.window), .d (.int .i64 x.server.own.windowMost), .d (.int .i64 x.server.own.total), .d (.int .i64 x.server.own.totalMost), .d (.int .i64 x.server.own.bidi), .d (.int .i64 x.server.own.uni), .d (.int .i64 x.server.own.trip), .d (.int .i64 x.server.peer.ring), .d (.int .i64 x.server.peer.window), .d (.int .i64 x.server.peer.windowMost), .d (.int .i64 x.server.peer.total), .d (.int .i64 x.server.peer.totalMost), .d (.int .i64 x.server.peer.bidi), .d (.int .i64 x.server.peer.uni), .d (.int .i64 x.server.peer.trip), .d (.sl 39 (x.server.streams.map TStream.enc)), .d (.int .i64 x.server.total.limit), .d (.int .i64 x.server.total.used), .d (.int .i64 x.server.total.blocked), .d (.int .i64 x.server.total.told), .d (.int .i64 x.server.inflow.size), .d (.int .i64 x.server.inflow.most), .d (.int .i64 x.server.inflow.limit), .d (.int .i64 x.server.inflow.seen), .d (.int .i64 x.server.inflow.read), .d (.int .i64 x.server.inflow.since), .d (.int .i64 x.server.openBidi.limit), .d (.int .i64 x.server.openBidi.opened), .d (.int .i64 x.server.openBidi.blocked), .d (.int .i64 x.server.openUni.limit), .d (.int .i64 x.server.openUni.opened), .d (.int .i64 x.server.openUni.blocked), .d (.int .i64 x.server.allowBidi.most), .d (.int .i64 x.server.allowBidi.limit), .d (.int .i64 x.server.allowBidi.seen), .d (.int .i64 x.server.allowBidi.closed), .d (.int .i64 x.server.allowUni.most), .d (.int .i64 x.server.allowUni.limit), .d (.int .i64 x.server.allowUni.seen), .d (.int .i64 x.server.allowUni.closed), .d (.bool x.server.tellTotal), .d (.bool x.server.tellBidi), .d (.bool x.server.tellUni), .d (.int .i64 x.server.last), .d (.int .i64 x.server.number), .d (.sl 2 (x.server.packets.map TPacket.enc)), .d (.int .i64 x.server.now), .d (.int .i64 x.server.closed), .d (.sl 2 (x.toServer.map TLetter.enc)), .d (.sl 2 (x.toClient.map TLetter.enc)), .d (.sl 7 (x.tracks.map TTrack.enc))], .junk, .junk, .junk, .junk, .junk, .junk, .junk, .junk, .junk, .junk, .junk, .junk, .junk, .junk, .junk, .junk, .junk, .junk, .junk, .junk, .junk, .junk, .junk, .junk] rfl [.cell 2 102] rfl ?_
  intro _
  simp only [TPair.bulk] at hx
  try simp only [go_sem]
  repeat' (first
    | (refine CallS.intro (by first | assumption | (apply laws_toConn <;> first | assumption | omega) | (apply laws_toLetterS <;> first | assumption | omega) | (apply laws_toTrackS <;> first | assumption | omega)) ?_; simp only [go_sem, List.length_map])
    | (refine CallK.intro (by first | assumption | (apply laws_toConn <;> first | assumption | omega) | (apply laws_toLetterS <;> first | assumption | omega) | (apply laws_toTrackS <;> first | assumption | omega)) ?_; simp only [go_sem, List.length_map, List.take_length, List.length_take, Nat.min_self])
    | (with_reducible refine gTrueS ?_; simp only [go_sem, List.length_map, List.take_length, List.length_take, Nat.min_self]) | (with_reducible refine gFalseS ?_; simp only [go_sem, List.length_map, List.take_length, List.length_take, Nat.min_self]) | (with_reducible refine gTrue ?_; simp only [go_sem, List.length_map, List.take_length, List.length_take, Nat.min_self]) | (with_reducible refine gFalse ?_; simp only [go_sem, List.length_map, List.take_length, List.length_take, Nat.min_self])
    | (refine gSymS ?_; simp only [go_sem, List.length_map, List.take_length, List.length_take, Nat.min_self]) | (refine gSym ?_; simp only [go_sem, List.length_map, List.take_length, List.length_take, Nat.min_self])
    | (refine cSplit (fun h => ?_) (fun h => ?_) <;> simp only [go_sem, List.length_map, List.take_length, List.length_take, Nat.min_self])
    | (with_reducible refine And.intro ?_ ?_; (focus (first | omega | (exact ⟨by omega, by omega⟩) | (simp; done) | (simp; omega)))))
  all_goals simp
set_option maxRecDepth 100000 in
theorem laws_eqLetter (x y : TLetter) : PureCall Try.prog 139 [.agg [.int .i64 x.number, .str x.payload], .agg [.int .i64 y.number, .str y.payload]] [.one (.bool (decide (x = y)))] := by
  refine pure_ev Try.func139 rfl Try.call139 Try.checked.mixed [.agg [.d (.int .i64 x.number), .d (.str x.payload)], .agg [.d (.int .i64 y.number), .d (.str y.payload)], .junk, .junk, .junk, .junk, .junk, .junk, .junk, .junk, .junk, .junk, .junk, .junk, .junk] rfl [.tmp 4] rfl ?_
  obtain ⟨a0, a1⟩ := x
  obtain ⟨b0, b1⟩ := y
  simp only [TLetter.mk.injEq]
  intro _
  try simp only [go_sem]
  repeat' (first
    | (with_reducible refine gTrueS ?_; simp only [go_sem, List.length_map]) | (with_reducible refine gFalseS ?_; simp only [go_sem, List.length_map]) | (with_reducible refine gTrue ?_; simp only [go_sem, List.length_map]) | (with_reducible refine gFalse ?_; simp only [go_sem, List.length_map])
    | (refine gSymS ?_; simp only [go_sem, List.length_map]) | (refine gSym ?_; simp only [go_sem, List.length_map])
    | (refine cSplit (fun h => ?_) (fun h => ?_) <;> simp only [go_sem])
    | (with_reducible refine And.intro ?_ ?_; (focus (first | omega | (exact ⟨by omega, by omega⟩) | (simp; done) | (simp; omega)))))
  all_goals simp_all
set_option maxRecDepth 100000 in
theorem laws_eqLetterS (xs ys : List TLetter) : PureCall Try.prog 66 [.one (.sl 2 (xs.map TLetter.enc)), .one (.sl 2 (ys.map TLetter.enc))] [.one (.bool (decide (xs = ys)))] := by
  refine pure_ev Try.func66 rfl Try.call66 Try.checked.mixed [.d (.sl 2 (xs.map TLetter.enc)), .d (.sl 2 (ys.map TLetter.enc)), .junk, .junk, .junk, .junk, .junk, .junk, .junk, .junk, .junk, .junk, .junk, .junk, .junk, .junk, .junk, .junk, .junk, .junk, .junk, .junk, .junk, .junk, .junk, .junk, .junk] rfl [.tmp 4] rfl ?_
  intro ok
  have hm := len_of ok
  simp only [go_sem, List.length_map]
  refine cSplit (fun h => ?_) (fun h => ?_)
  · simp only [go_sem]
    simp only [ne_eq, decide_not, Bool.not_eq_true', decide_eq_false_iff_not] at h
    have : xs ≠ ys := fun e => h (by rw [e])
    simp [this]
  · simp only [ne_eq, decide_not, Bool.not_eq_false', decide_eq_true_eq] at h
    simp only [go_sem]
    refine LoopK.intro (fun i : Nat => ⟨[.d (.sl 2 (xs.map TLetter.enc)), .d (.sl 2 (ys.map TLetter.enc)), .junk, .junk, .d (.bool false), .d (.int .i64 i), .junk, .junk, .junk, .junk, .junk, .junk, .junk, .junk, .junk, .junk, .junk, .junk, .junk, .junk, .junk, .junk, .junk, .junk, .junk, .junk, .junk], []⟩)
      (fun i => xs.length - i) (fun i => i ≤ xs.length ∧ xs.take i = ys.take i) 0 [] ⟨by omega, by simp⟩ ?_ ?_
    · simp only [go_sem]; simp
    · rintro i ⟨hi, he⟩
      simp only [go_sem, List.length_map]
      refine cSplit (fun h1 => ?_) (fun h1 => ?_)
      · simp only [decide_eq_true_eq] at h1
        have hxi := map_at TLetter.enc xs i (by omega)
        have hyi := map_at TLetter.enc ys i (by omega)
        have hw := inc (i := i) (m := xs.length) (by omega) hm
        simp only [go_sem]
        refine drawE_intro [[.post, .un, .post, .post, .un, .un, .un, .un, .post, .post], [.un, .post, .post, .post, .un, .un, .un, .un, .post, .post], [.pre, .pre, .post, .post, .un, .un, .un, .un, .post, .post], [.pre, .pre, .pre, .post, .un, .un, .un, .un, .post, .post], [.un, .un, .un, .un, .post, .un, .post, .post, .post, .post], [.un, .un, .un, .un, .un, .post, .post, .post, .post, .post], [.un, .un, .un, .un, .pre, .pre, .post, .post, .post, .post], [.un, .un, .un, .un, .pre, .pre, .pre, .post, .post, .post], [.pre, .pre, .pre, .pre, .pre, .pre, .pre, .pre, .post, .post], [.pre, .pre, .pre, .pre, .pre, .pre, .pre, .pre, .pre, .post]] (by kernel_rfl) (by rfl) ?_
        simp only [go_sem, List.length_map, Int.toNat_natCast, hxi, hyi, TLetter.enc]
        refine ⟨⟨by omega, by omega⟩, ⟨by omega, by omega⟩, ?_⟩
        refine CallK.intro (laws_eqLetter xs[i] ys[i]) ?_
        simp only [go_sem]
        refine cSplit (fun h2 => ?_) (fun h2 => ?_)
        · simp only [go_sem]
          have : xs ≠ ys := fun e => by subst e; simp at h2
          simp [this]
        · simp only [go_sem, hw]
          have h3 : xs[i]'(by omega) = ys[i]'(by omega) := by simpa using h2
          refine RoundE.intro (i + 1) [] ⟨by omega, take_eq he (by omega) (by omega) h3⟩ (by omega) ?_
          simp only [go_sem]
      · simp only [go_sem]
        simp only [decide_eq_false_iff_not] at h1
        have : xs = ys := by rw [List.take_of_length_le (by omega), List.take_of_length_le (by omega)] at he; exact he
        simp [this]
set_option maxRecDepth 100000 in
theorem laws_eqTrack (x y : TTrack) : PureCall Try.prog 48 [.agg [.int .i64 x.id, .bool x.server, .str x.wrote, .str x.got, .bool x.done, .bool x.ended, .bool x.broken], .agg [.int .i64 y.id, .bool y.server, .str y.wrote, .str y.got, .bool y.done, .bool y.ended, .bool y.broken]] [.one (.bool (decide (x = y)))] := by
  refine pure_ev Try.func48 rfl Try.call48 Try.checked.mixed [.agg [.d (.int .i64 x.id), .d (.bool x.server), .d (.str x.wrote), .d (.str x.got), .d (.bool x.done), .d (.bool x.ended), .d (.bool x.broken)], .agg [.d (.int .i64 y.id), .d (.bool y.server), .d (.str y.wrote), .d (.str y.got), .d (.bool y.done), .d (.bool y.ended), .d (.bool y.broken)], .junk, .junk, .junk, .junk, .junk, .junk, .junk, .junk, .junk, .junk, .junk, .junk, .junk, .junk, .junk, .junk, .junk, .junk, .junk, .junk, .junk, .junk, .junk, .junk, .junk, .junk, .junk, .junk, .junk, .junk, .junk, .junk, .junk, .junk, .junk, .junk, .junk, .junk] rfl [.tmp 4] rfl ?_
  obtain ⟨a0, a1, a2, a3, a4, a5, a6⟩ := x
  obtain ⟨b0, b1, b2, b3, b4, b5, b6⟩ := y
  simp only [TTrack.mk.injEq]
  intro _
  try simp only [go_sem]
  repeat' (first
    | (with_reducible refine gTrueS ?_; simp only [go_sem, List.length_map]) | (with_reducible refine gFalseS ?_; simp only [go_sem, List.length_map]) | (with_reducible refine gTrue ?_; simp only [go_sem, List.length_map]) | (with_reducible refine gFalse ?_; simp only [go_sem, List.length_map])
    | (refine gSymS ?_; simp only [go_sem, List.length_map]) | (refine gSym ?_; simp only [go_sem, List.length_map])
    | (refine cSplit (fun h => ?_) (fun h => ?_) <;> simp only [go_sem])
    | (with_reducible refine And.intro ?_ ?_; (focus (first | omega | (exact ⟨by omega, by omega⟩) | (simp; done) | (simp; omega)))))
  all_goals simp_all
set_option maxRecDepth 100000 in
theorem laws_eqTrackS (xs ys : List TTrack) : PureCall Try.prog 110 [.one (.sl 7 (xs.map TTrack.enc)), .one (.sl 7 (ys.map TTrack.enc))] [.one (.bool (decide (xs = ys)))] := by
  refine pure_ev Try.func110 rfl Try.call110 Try.checked.mixed [.d (.sl 7 (xs.map TTrack.enc)), .d (.sl 7 (ys.map TTrack.enc)), .junk, .junk, .junk, .junk, .junk, .junk, .junk, .junk, .junk, .junk, .junk, .junk, .junk, .junk, .junk, .junk, .junk, .junk, .junk, .junk, .junk, .junk, .junk, .junk, .junk] rfl [.tmp 4] rfl ?_
  intro ok
  have hm := len_of ok
  simp only [go_sem, List.length_map]
  refine cSplit (fun h => ?_) (fun h => ?_)
  · simp only [go_sem]
    simp only [ne_eq, decide_not, Bool.not_eq_true', decide_eq_false_iff_not] at h
    have : xs ≠ ys := fun e => h (by rw [e])
    simp [this]
  · simp only [ne_eq, decide_not, Bool.not_eq_false', decide_eq_true_eq] at h
    simp only [go_sem]
    refine LoopK.intro (fun i : Nat => ⟨[.d (.sl 7 (xs.map TTrack.enc)), .d (.sl 7 (ys.map TTrack.enc)), .junk, .junk, .d (.bool false), .d (.int .i64 i), .junk, .junk, .junk, .junk, .junk, .junk, .junk, .junk, .junk, .junk, .junk, .junk, .junk, .junk, .junk, .junk, .junk, .junk, .junk, .junk, .junk], []⟩)
      (fun i => xs.length - i) (fun i => i ≤ xs.length ∧ xs.take i = ys.take i) 0 [] ⟨by omega, by simp⟩ ?_ ?_
    · simp only [go_sem]; simp
    · rintro i ⟨hi, he⟩
      simp only [go_sem, List.length_map]
      refine cSplit (fun h1 => ?_) (fun h1 => ?_)
      · simp only [decide_eq_true_eq] at h1
        have hxi := map_at TTrack.enc xs i (by omega)
        have hyi := map_at TTrack.enc ys i (by omega)
        have hw := inc (i := i) (m := xs.length) (by omega) hm
        simp only [go_sem]
        refine drawE_intro [[.post, .un, .post, .post, .un, .un, .un, .un, .post, .post], [.un, .post, .post, .post, .un, .un, .un, .un, .post, .post], [.pre, .pre, .post, .post, .un, .un, .un, .un, .post, .post], [.pre, .pre, .pre, .post, .un, .un, .un, .un, .post, .post], [.un, .un, .un, .un, .post, .un, .post, .post, .post, .post], [.un, .un, .un, .un, .un, .post, .post, .post, .post, .post], [.un, .un, .un, .un, .pre, .pre, .post, .post, .post, .post], [.un, .un, .un, .un, .pre, .pre, .pre, .post, .post, .post], [.pre, .pre, .pre, .pre, .pre, .pre, .pre, .pre, .post, .post], [.pre, .pre, .pre, .pre, .pre, .pre, .pre, .pre, .pre, .post]] (by kernel_rfl) (by rfl) ?_
        simp only [go_sem, List.length_map, Int.toNat_natCast, hxi, hyi, TTrack.enc]
        refine ⟨⟨by omega, by omega⟩, ⟨by omega, by omega⟩, ?_⟩
        refine CallK.intro (laws_eqTrack xs[i] ys[i]) ?_
        simp only [go_sem]
        refine cSplit (fun h2 => ?_) (fun h2 => ?_)
        · simp only [go_sem]
          have : xs ≠ ys := fun e => by subst e; simp at h2
          simp [this]
        · simp only [go_sem, hw]
          have h3 : xs[i]'(by omega) = ys[i]'(by omega) := by simpa using h2
          refine RoundE.intro (i + 1) [] ⟨by omega, take_eq he (by omega) (by omega) h3⟩ (by omega) ?_
          simp only [go_sem]
      · simp only [go_sem]
        simp only [decide_eq_false_iff_not] at h1
        have : xs = ys := by rw [List.take_of_length_le (by omega), List.take_of_length_le (by omega)] at he; exact he
        simp [this]
set_option maxRecDepth 100000 in
theorem laws_eqPair (x y : TPair) : PureCall Try.prog 49 [.agg [.bool x.client.server, .int .i64 x.client.own.ring, .int .i64 x.client.own.window, .int .i64 x.client.own.windowMost, .int .i64 x.client.own.total, .int .i64 x.client.own.totalMost, .int .i64 x.client.own.bidi, .int .i64 x.client.own.uni, .int .i64 x.client.own.trip, .int .i64 x.client.peer.ring, .int .i64 x.client.peer.window, .int .i64 x.client.peer.windowMost, .int .i64 x.client.peer.total, .int .i64 x.client.peer.totalMost, .int .i64 x.client.peer.bidi, .int .i64 x.client.peer.uni, .int .i64 x.client.peer.trip, .sl 39 (x.client.streams.map TStream.enc), .int .i64 x.client.total.limit, .int .i64 x.client.total.used, .int .i64 x.client.total.blocked, .int .i64 x.client.total.told, .int .i64 x.client.inflow.size, .int .i64 x.client.inflow.most, .int .i64 x.client.inflow.limit, .int .i64 x.client.inflow.seen, .int .i64 x.client.inflow.read, .int .i64 x.client.inflow.since, .int .i64 x.client.openBidi.limit, .int .i64 x.client.openBidi.opened, .int .i64 x.client.openBidi.blocked, .int .i64 x.client.openUni.limit, .int .i64 x.client.openUni.opened, .int .i64 x.client.openUni.blocked, .int .i64 x.client.allowBidi.most, .int .i64 x.client.allowBidi.limit, .int .i64 x.client.allowBidi.seen, .int .i64 x.client.allowBidi.closed, .int .i64 x.client.allowUni.most, .int .i64 x.client.allowUni.limit, .int .i64 x.client.allowUni.seen, .int .i64 x.client.allowUni.closed, .bool x.client.tellTotal, .bool x.client.tellBidi, .bool x.client.tellUni, .int .i64 x.client.last, .int .i64 x.client.number, .sl 2 (x.client.packets.map TPacket.enc), .int .i64 x.client.now, .int .i64 x.client.closed, .bool x.server.server, .int .i64 x.server.own.ring, .int .i64 x.server.own.window, .int .i64 x.server.own.windowMost, .int .i64 x.server.own.total, .int .i64 x.server.own.totalMost, .int .i64 x.server.own.bidi, .int .i64 x.server.own.uni, .int .i64 x.server.own.trip, .int .i64 x.server.peer.ring, .int .i64 x.server.peer.window, .int .i64 x.server.peer.windowMost, .int .i64 x.server.peer.total, .int .i64 x.server.peer.totalMost, .int .i64 x.server.peer.bidi, .int .i64 x.server.peer.uni, .int .i64 x.server.peer.trip, .sl 39 (x.server.streams.map TStream.enc), .int .i64 x.server.total.limit, .int .i64 x.server.total.used, .int .i64 x.server.total.blocked, .int .i64 x.server.total.told, .int .i64 x.server.inflow.size, .int .i64 x.server.inflow.most, .int .i64 x.server.inflow.limit, .int .i64 x.server.inflow.seen, .int .i64 x.server.inflow.read, .int .i64 x.server.inflow.since, .int .i64 x.server.openBidi.limit, .int .i64 x.server.openBidi.opened, .int .i64 x.server.openBidi.blocked, .int .i64 x.server.openUni.limit, .int .i64 x.server.openUni.opened, .int .i64 x.server.openUni.blocked, .int .i64 x.server.allowBidi.most, .int .i64 x.server.allowBidi.limit, .int .i64 x.server.allowBidi.seen, .int .i64 x.server.allowBidi.closed, .int .i64 x.server.allowUni.most, .int .i64 x.server.allowUni.limit, .int .i64 x.server.allowUni.seen, .int .i64 x.server.allowUni.closed, .bool x.server.tellTotal, .bool x.server.tellBidi, .bool x.server.tellUni, .int .i64 x.server.last, .int .i64 x.server.number, .sl 2 (x.server.packets.map TPacket.enc), .int .i64 x.server.now, .int .i64 x.server.closed, .sl 2 (x.toServer.map TLetter.enc), .sl 2 (x.toClient.map TLetter.enc), .sl 7 (x.tracks.map TTrack.enc)], .agg [.bool y.client.server, .int .i64 y.client.own.ring, .int .i64 y.client.own.window, .int .i64 y.client.own.windowMost, .int .i64 y.client.own.total, .int .i64 y.client.own.totalMost, .int .i64 y.client.own.bidi, .int .i64 y.client.own.uni, .int .i64 y.client.own.trip, .int .i64 y.client.peer.ring, .int .i64 y.client.peer.window, .int .i64 y.client.peer.windowMost, .int .i64 y.client.peer.total, .int .i64 y.client.peer.totalMost, .int .i64 y.client.peer.bidi, .int .i64 y.client.peer.uni, .int .i64 y.client.peer.trip, .sl 39 (y.client.streams.map TStream.enc), .int .i64 y.client.total.limit, .int .i64 y.client.total.used, .int .i64 y.client.total.blocked, .int .i64 y.client.total.told, .int .i64 y.client.inflow.size, .int .i64 y.client.inflow.most, .int .i64 y.client.inflow.limit, .int .i64 y.client.inflow.seen, .int .i64 y.client.inflow.read, .int .i64 y.client.inflow.since, .int .i64 y.client.openBidi.limit, .int .i64 y.client.openBidi.opened, .int .i64 y.client.openBidi.blocked, .int .i64 y.client.openUni.limit, .int .i64 y.client.openUni.opened, .int .i64 y.client.openUni.blocked, .int .i64 y.client.allowBidi.most, .int .i64 y.client.allowBidi.limit, .int .i64 y.client.allowBidi.seen, .int .i64 y.client.allowBidi.closed, .int .i64 y.client.allowUni.most, .int .i64 y.client.allowUni.limit, .int .i64 y.client.allowUni.seen, .int .i64 y.client.allowUni.closed, .bool y.client.tellTotal, .bool y.client.tellBidi, .bool y.client.tellUni, .int .i64 y.client.last, .int .i64 y.client.number, .sl 2 (y.client.packets.map TPacket.enc), .int .i64 y.client.now, .int .i64 y.client.closed, .bool y.server.server, .int .i64 y.server.own.ring, .int .i64 y.server.own.window, .int .i64 y.server.own.windowMost, .int .i64 y.server.own.total, .int .i64 y.server.own.totalMost, .int .i64 y.server.own.bidi, .int .i64 y.server.own.uni, .int .i64 y.server.own.trip, .int .i64 y.server.peer.ring, .int .i64 y.server.peer.window, .int .i64 y.server.peer.windowMost, .int .i64 y.server.peer.total, .int .i64 y.server.peer.totalMost, .int .i64 y.server.peer.bidi, .int .i64 y.server.peer.uni, .int .i64 y.server.peer.trip, .sl 39 (y.server.streams.map TStream.enc), .int .i64 y.server.total.limit, .int .i64 y.server.total.used, .int .i64 y.server.total.blocked, .int .i64 y.server.total.told, .int .i64 y.server.inflow.size, .int .i64 y.server.inflow.most, .int .i64 y.server.inflow.limit, .int .i64 y.server.inflow.seen, .int .i64 y.server.inflow.read, .int .i64 y.server.inflow.since, .int .i64 y.server.openBidi.limit, .int .i64 y.server.openBidi.opened, .int .i64 y.server.openBidi.blocked, .int .i64 y.server.openUni.limit, .int .i64 y.server.openUni.opened, .int .i64 y.server.openUni.blocked, .int .i64 y.server.allowBidi.most, .int .i64 y.server.allowBidi.limit, .int .i64 y.server.allowBidi.seen, .int .i64 y.server.allowBidi.closed, .int .i64 y.server.allowUni.most, .int .i64 y.server.allowUni.limit, .int .i64 y.server.allowUni.seen, .int .i64 y.server.allowUni.closed, .bool y.server.tellTotal, .bool y.server.tellBidi, .bool y.server.tellUni, .int .i64 y.server.last, .int .i64 y.server.number, .sl 2 (y.server.packets.map TPacket.enc), .int .i64 y.server.now, .int .i64 y.server.closed, .sl 2 (y.toServer.map TLetter.enc), .sl 2 (y.toClient.map TLetter.enc), .sl 7 (y.tracks.map TTrack.enc)]] [.one (.bool (decide (x = y)))] := by
  refine pure_ev Try.func49 rfl Try.call49 Try.checked.mixed [.agg [.d (.bool x.client.server), .d (.int .i64 x.client.own.ring), .d (.int .i64 x.client.own.window), .d (.int .i64 x.client.own.windowMost), .d (.int .i64 x.client.own.total), .d (.int .i64 x.client.own.totalMost), .d (.int .i64 x.client.own.bidi), .d (.int .i64 x.client.own.uni), .d (.int .i64 x.client.own.trip), .d (.int .i64 x.client.peer.ring), .d (.int .i64 x.client.peer.window), .d (.int .i64 x.client.peer.windowMost), .d (.int .i64 x.client.peer.total), .d (.int .i64 x.client.peer.totalMost), .d (.int .i64 x.client.peer.bidi), .d (.int .i64 x.client.peer.uni), .d (.int .i64 x.client.peer.trip), .d (.sl 39 (x.client.streams.map TStream.enc)), .d (.int .i64 x.client.total.limit), .d (.int .i64 x.client.total.used), .d (.int .i64 x.client.total.blocked), .d (.int .i64 x.client.total.told), .d (.int .i64 x.client.inflow.size), .d (.int .i64 x.client.inflow.most), .d (.int .i64 x.client.inflow.limit), .d (.int .i64 x.client.inflow.seen), .d (.int .i64 x.client.inflow.read), .d (.int .i64 x.client.inflow.since), .d (.int .i64 x.client.openBidi.limit), .d (.int .i64 x.client.openBidi.opened), .d (.int .i64 x.client.openBidi.blocked), .d (.int .i64 x.client.openUni.limit), .d (.int .i64 x.client.openUni.opened), .d (.int .i64 x.client.openUni.blocked), .d (.int .i64 x.client.allowBidi.most), .d (.int .i64 x.client.allowBidi.limit), .d (.int .i64 x.client.allowBidi.seen), .d (.int .i64 x.client.allowBidi.closed), .d (.int .i64 x.client.allowUni.most), .d (.int .i64 x.client.allowUni.limit), .d (.int .i64 x.client.allowUni.seen), .d (.int .i64 x.client.allowUni.closed), .d (.bool x.client.tellTotal), .d (.bool x.client.tellBidi), .d (.bool x.client.tellUni), .d (.int .i64 x.client.last), .d (.int .i64 x.client.number), .d (.sl 2 (x.client.packets.map TPacket.enc)), .d (.int .i64 x.client.now), .d (.int .i64 x.client.closed), .d (.bool x.server.server), .d (.int .i64 x.server.own.ring), .d (.int .i64 x.server.own.window), .d (.int .i64 x.server.own.windowMost), .d (.int .i64 x.server.own.total), .d (.int .i64 x.server.own.totalMost), .d (.int .i64 x.server.own.bidi), .d (.int .i64 x.server.own.uni), .d (.int .i64 x.server.own.trip), .d (.int .i64 x.server.peer.ring), .d (.int .i64 x.server.peer.window), .d (.int .i64 x.server.peer.windowMost), .d (.int .i64 x.server.peer.total), .d (.int .i64 x.server.peer.totalMost), .d (.int .i64 x.server.peer.bidi), .d (.int .i64 x.server.peer.uni), .d (.int .i64 x.server.peer.trip), .d (.sl 39 (x.server.streams.map TStream.enc)), .d (.int .i64 x.server.total.limit), .d (.int .i64 x.server.total.used), .d (.int .i64 x.server.total.blocked), .d (.int .i64 x.server.total.told), .d (.int .i64 x.server.inflow.size), .d (.int .i64 x.server.inflow.most), .d (.int .i64 x.server.inflow.limit), .d (.int .i64 x.server.inflow.seen), .d (.int .i64 x.server.inflow.read), .d (.int .i64 x.server.inflow.since), .d (.int .i64 x.server.openBidi.limit), .d (.int .i64 x.server.openBidi.opened), .d (.int .i64 x.server.openBidi.blocked), .d (.int .i64 x.server.openUni.limit), .d (.int .i64 x.server.openUni.opened), .d (.int .i64 x.server.openUni.blocked), .d (.int .i64 x.server.allowBidi.most), .d (.int .i64 x.server.allowBidi.limit), .d (.int .i64 x.server.allowBidi.seen), .d (.int .i64 x.server.allowBidi.closed), .d (.int .i64 x.server.allowUni.most), .d (.int .i64 x.server.allowUni.limit), .d (.int .i64 x.server.allowUni.seen), .d (.int .i64 x.server.allowUni.closed), .d (.bool x.server.tellTotal), .d (.bool x.server.tellBidi), .d (.bool x.server.tellUni), .d (.int .i64 x.server.last), .d (.int .i64 x.server.number), .d (.sl 2 (x.server.packets.map TPacket.enc)), .d (.int .i64 x.server.now), .d (.int .i64 x.server.closed), .d (.sl 2 (x.toServer.map TLetter.enc)), .d (.sl 2 (x.toClient.map TLetter.enc)), .d (.sl 7 (x.tracks.map TTrack.enc))], .agg [.d (.bool y.client.server), .d (.int .i64 y.client.own.ring), .d (.int .i64 y.client.own.window), .d (.int .i64 y.client.own.windowMost), .d (.int .i64 y.client.own.total), .d (.int .i64 y.client.own.totalMost), .d (.int .i64 y.client.own.bidi), .d (.int .i64 y.client.own.uni), .d (.int .i64 y.client.own.trip), .d (.int .i64 y.client.peer.ring), .d (.int .i64 y.client.peer.window), .d (.int .i64 y.client.peer.windowMost), .d (.int .i64 y.client.peer.total), .d (.int .i64 y.client.peer.totalMost), .d (.int .i64 y.client.peer.bidi), .d (.int .i64 y.client.peer.uni), .d (.int .i64 y.client.peer.trip), .d (.sl 39 (y.client.streams.map TStream.enc)), .d (.int .i64 y.client.total.limit), .d (.int .i64 y.client.total.used), .d (.int .i64 y.client.total.blocked), .d (.int .i64 y.client.total.told), .d (.int .i64 y.client.inflow.size), .d (.int .i64 y.client.inflow.most), .d (.int .i64 y.client.inflow.limit), .d (.int .i64 y.client.inflow.seen), .d (.int .i64 y.client.inflow.read), .d (.int .i64 y.client.inflow.since), .d (.int .i64 y.client.openBidi.limit), .d (.int .i64 y.client.openBidi.opened), .d (.int .i64 y.client.openBidi.blocked), .d (.int .i64 y.client.openUni.limit), .d (.int .i64 y.client.openUni.opened), .d (.int .i64 y.client.openUni.blocked), .d (.int .i64 y.client.allowBidi.most), .d (.int .i64 y.client.allowBidi.limit), .d (.int .i64 y.client.allowBidi.seen), .d (.int .i64 y.client.allowBidi.closed), .d (.int .i64 y.client.allowUni.most), .d (.int .i64 y.client.allowUni.limit), .d (.int .i64 y.client.allowUni.seen), .d (.int .i64 y.client.allowUni.closed), .d (.bool y.client.tellTotal), .d (.bool y.client.tellBidi), .d (.bool y.client.tellUni), .d (.int .i64 y.client.last), .d (.int .i64 y.client.number), .d (.sl 2 (y.client.packets.map TPacket.enc)), .d (.int .i64 y.client.now), .d (.int .i64 y.client.closed), .d (.bool y.server.server), .d (.int .i64 y.server.own.ring), .d (.int .i64 y.server.own.window), .d (.int .i64 y.server.own.windowMost), .d (.int .i64 y.server.own.total), .d (.int .i64 y.server.own.totalMost), .d (.int .i64 y.server.own.bidi), .d (.int .i64 y.server.own.uni), .d (.int .i64 y.server.own.trip), .d (.int .i64 y.server.peer.ring), .d (.int .i64 y.server.peer.window), .d (.int .i64 y.server.peer.windowMost), .d (.int .i64 y.server.peer.total), .d (.int .i64 y.server.peer.totalMost), .d (.int .i64 y.server.peer.bidi), .d (.int .i64 y.server.peer.uni), .d (.int .i64 y.server.peer.trip), .d (.sl 39 (y.server.streams.map TStream.enc)), .d (.int .i64 y.server.total.limit), .d (.int .i64 y.server.total.used), .d (.int .i64 y.server.total.blocked), .d (.int .i64 y.server.total.told), .d (.int .i64 y.server.inflow.size), .d (.int .i64 y.server.inflow.most), .d (.int .i64 y.server.inflow.limit), .d (.int .i64 y.server.inflow.seen), .d (.int .i64 y.server.inflow.read), .d (.int .i64 y.server.inflow.since), .d (.int .i64 y.server.openBidi.limit), .d (.int .i64 y.server.openBidi.opened), .d (.int .i64 y.server.openBidi.blocked), .d (.int .i64 y.server.openUni.limit), .d (.int .i64 y.server.openUni.opened), .d (.int .i64 y.server.openUni.blocked), .d (.int .i64 y.server.allowBidi.most), .d (.int .i64 y.server.allowBidi.limit), .d (.int .i64 y.server.allowBidi.seen), .d (.int .i64 y.server.allowBidi.closed), .d (.int .i64 y.server.allowUni.most), .d (.int .i64 y.server.allowUni.limit), .d (.int .i64 y.server.allowUni.seen), .d (.int .i64 y.server.allowUni.closed), .d (.bool y.server.tellTotal), .d (.bool y.server.tellBidi), .d (.bool y.server.tellUni), .d (.int .i64 y.server.last), .d (.int .i64 y.server.number), .d (.sl 2 (y.server.packets.map TPacket.enc)), .d (.int .i64 y.server.now), .d (.int .i64 y.server.closed), .d (.sl 2 (y.toServer.map TLetter.enc)), .d (.sl 2 (y.toClient.map TLetter.enc)), .d (.sl 7 (y.tracks.map TTrack.enc))], .junk, .junk, .junk, .junk, .junk, .junk, .junk, .junk, .junk, .junk, .junk, .junk, .junk, .junk, .junk, .junk, .junk, .junk, .junk, .junk, .junk, .junk, .junk, .junk, .junk, .junk, .junk, .junk, .junk, .junk, .junk, .junk, .junk] rfl [.tmp 4] rfl ?_
  obtain ⟨a0, a1, a2, a3, a4⟩ := x
  obtain ⟨b0, b1, b2, b3, b4⟩ := y
  simp only [TPair.mk.injEq]
  intro _
  try simp only [go_sem]
  repeat' (first
    | (refine CallS.intro (by first | assumption | (apply laws_eqConn <;> first | assumption | omega) | (apply laws_eqLetterS <;> first | assumption | omega) | (apply laws_eqTrackS <;> first | assumption | omega)) ?_; simp only [go_sem])
    | (refine CallK.intro (by first | assumption | (apply laws_eqConn <;> first | assumption | omega) | (apply laws_eqLetterS <;> first | assumption | omega) | (apply laws_eqTrackS <;> first | assumption | omega)) ?_; simp only [go_sem, List.length_map])
    | (with_reducible refine gTrueS ?_; simp only [go_sem, List.length_map]) | (with_reducible refine gFalseS ?_; simp only [go_sem, List.length_map]) | (with_reducible refine gTrue ?_; simp only [go_sem, List.length_map]) | (with_reducible refine gFalse ?_; simp only [go_sem, List.length_map])
    | (refine gSymS ?_; simp only [go_sem, List.length_map]) | (refine gSym ?_; simp only [go_sem, List.length_map])
    | (refine cSplit (fun h => ?_) (fun h => ?_) <;> simp only [go_sem])
    | (with_reducible refine And.intro ?_ ?_; (focus (first | omega | (exact ⟨by omega, by omega⟩) | (simp; done) | (simp; omega)))))
  all_goals simp_all
end Gv
