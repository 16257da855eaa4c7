/-
  The law 'laws.FnExactPacketOf', as a function.
-/
import Derived.Test.YtgflikakblfdpaaPacket
import Derived.Test.YtgflikakblfdpaaMarks
namespace Gv
open Go Go.Proofs

set_option maxHeartbeats 4000000 in
set_option maxRecDepth 100000 in
theorem laws_FnExactPacketOf (x0 : TConn) (x1 : Int) : PureCall Try.prog 7 [.agg [.bool x0.server, .int .i64 x0.own.ring, .int .i64 x0.own.window, .int .i64 x0.own.windowMost, .int .i64 x0.own.total, .int .i64 x0.own.totalMost, .int .i64 x0.own.bidi, .int .i64 x0.own.uni, .int .i64 x0.own.trip, .int .i64 x0.peer.ring, .int .i64 x0.peer.window, .int .i64 x0.peer.windowMost, .int .i64 x0.peer.total, .int .i64 x0.peer.totalMost, .int .i64 x0.peer.bidi, .int .i64 x0.peer.uni, .int .i64 x0.peer.trip, .sl 39 (x0.streams.map TStream.enc), .int .i64 x0.total.limit, .int .i64 x0.total.used, .int .i64 x0.total.blocked, .int .i64 x0.total.told, .int .i64 x0.inflow.size, .int .i64 x0.inflow.most, .int .i64 x0.inflow.limit, .int .i64 x0.inflow.seen, .int .i64 x0.inflow.read, .int .i64 x0.inflow.since, .int .i64 x0.openBidi.limit, .int .i64 x0.openBidi.opened, .int .i64 x0.openBidi.blocked, .int .i64 x0.openUni.limit, .int .i64 x0.openUni.opened, .int .i64 x0.openUni.blocked, .int .i64 x0.allowBidi.most, .int .i64 x0.allowBidi.limit, .int .i64 x0.allowBidi.seen, .int .i64 x0.allowBidi.closed, .int .i64 x0.allowUni.most, .int .i64 x0.allowUni.limit, .int .i64 x0.allowUni.seen, .int .i64 x0.allowUni.closed, .bool x0.tellTotal, .bool x0.tellBidi, .bool x0.tellUni, .int .i64 x0.last, .int .i64 x0.number, .sl 2 (x0.packets.map TPacket.enc), .int .i64 x0.now, .int .i64 x0.closed], .one (.int .i64 x1)] [.one (.bool true)] := by
  refine pure_ev Try.func7 rfl Try.call7 Try.checked.mixed [.agg [.d (.bool x0.server), .d (.int .i64 x0.own.ring), .d (.int .i64 x0.own.window), .d (.int .i64 x0.own.windowMost), .d (.int .i64 x0.own.total), .d (.int .i64 x0.own.totalMost), .d (.int .i64 x0.own.bidi), .d (.int .i64 x0.own.uni), .d (.int .i64 x0.own.trip), .d (.int .i64 x0.peer.ring), .d (.int .i64 x0.peer.window), .d (.int .i64 x0.peer.windowMost), .d (.int .i64 x0.peer.total), .d (.int .i64 x0.peer.totalMost), .d (.int .i64 x0.peer.bidi), .d (.int .i64 x0.peer.uni), .d (.int .i64 x0.peer.trip), .d (.sl 39 (x0.streams.map TStream.enc)), .d (.int .i64 x0.total.limit), .d (.int .i64 x0.total.used), .d (.int .i64 x0.total.blocked), .d (.int .i64 x0.total.told), .d (.int .i64 x0.inflow.size), .d (.int .i64 x0.inflow.most), .d (.int .i64 x0.inflow.limit), .d (.int .i64 x0.inflow.seen), .d (.int .i64 x0.inflow.read), .d (.int .i64 x0.inflow.since), .d (.int .i64 x0.openBidi.limit), .d (.int .i64 x0.openBidi.opened), .d (.int .i64 x0.openBidi.blocked), .d (.int .i64 x0.openUni.limit), .d (.int .i64 x0.openUni.opened), .d (.int .i64 x0.openUni.blocked), .d (.int .i64 x0.allowBidi.most), .d (.int .i64 x0.allowBidi.limit), .d (.int .i64 x0.allowBidi.seen), .d (.int .i64 x0.allowBidi.closed), .d (.int .i64 x0.allowUni.most), .d (.int .i64 x0.allowUni.limit), .d (.int .i64 x0.allowUni.seen), .d (.int .i64 x0.allowUni.closed), .d (.bool x0.tellTotal), .d (.bool x0.tellBidi), .d (.bool x0.tellUni), .d (.int .i64 x0.last), .d (.int .i64 x0.number), .d (.sl 2 (x0.packets.map TPacket.enc)), .d (.int .i64 x0.now), .d (.int .i64 x0.closed)], .d (.int .i64 x1), .junk, .junk, .junk, .junk, .junk, .junk, .junk, .junk, .junk, .junk, .junk, .junk, .junk, .junk, .junk, .junk, .junk, .junk, .junk, .junk, .junk, .junk, .junk, .junk, .junk, .junk, .junk, .junk, .junk, .junk, .junk, .junk, .junk, .junk, .junk, .junk, .junk, .junk, .junk, .junk, .junk, .junk, .junk, .junk, .junk, .junk, .junk, .junk, .junk, .junk, .junk, .junk, .junk, .junk, .junk, .junk, .junk, .junk, .junk, .junk, .junk, .junk, .junk, .junk, .junk, .junk, .junk, .junk, .junk, .junk, .junk, .junk, .junk, .junk, .junk, .junk, .junk, .junk, .junk, .junk, .junk, .junk, .junk, .junk, .junk, .junk, .junk, .junk, .junk, .junk, .junk, .junk, .junk, .junk, .junk, .junk, .junk, .junk, .junk] rfl [.tmp 4] rfl ?_
  intro ok; clear ok
  simp only [go_sem]
  refine CallS.intro (laws_szConn x0 (1048576) (by omega)) ?_
  simp only [go_sem]
  refine cSplit (fun h => ?_) (fun h => ?_)
  · simp only [go_sem]
  obtain ⟨e0, hb0⟩ := szB_pos (of_decide_eq_false h); clear h
  simp only [e0]
  simp only [go_sem]
  have hbb := hb0
  simp only [TConn.bulk] at hbb
  have hp : x0.packets.length + sumB TPacket.bulk x0.packets ≤ 1048576 := by omega
  have hs1 := sumB_le2 TStream.cnt1_le x0.streams
  have hs2 := sumB_le2 TPacket.cnt1_le x0.packets
  have q0 := TConn.adv_nn x0 (by simp only [TConn.cnt]; omega)
  have hpl : (pkOf x0.packets x1).1.frames.length ≤ 1048576 := pkOf_len x0.packets x1 hp
  generalize hg : pkOf x0.packets x1 = g at *
  have q1 := TPacket.adv_nn g.1 (by simp only [TPacket.cnt]; omega)
  have r1 := TPacket.held_one g.1 (by simp only [TPacket.cnt]; omega)
  have hh := laws_heldPacket (TPacket.mkd 1 g.1) 1
  try simp only [go_sem, List.length_map, q0, q1, r1, hg]
  repeat' (first
    | (refine CallS.cln (by first | assumption | (apply laws_szConn <;> first | assumption | omega) | (apply laws_toConn <;> first | assumption | omega) | (apply spec_PacketOf <;> first | assumption | omega) | (apply impl_PacketOf <;> first | assumption | omega) | (apply laws_eqPacket <;> first | assumption | omega) | (apply laws_eqConn <;> first | assumption | omega) | (apply laws_heldPacket <;> first | assumption | omega)) ?_; simp only [go_sem, List.length_map, q1, r1, hg])
    | (refine CallS.mu (by first | apply laws_markConn | apply laws_markPacket) ?_; simp only [go_sem, List.length_map, q0]; try (with_reducible refine And.intro ?_ ?_; (focus (first | omega | (simp; done))); simp only [go_sem, List.length_map, q0, q1, r1, hg]))
    | (refine CallK.cln (by first | assumption | (apply laws_szConn <;> first | assumption | omega) | (apply laws_toConn <;> first | assumption | omega) | (apply spec_PacketOf <;> first | assumption | omega) | (apply impl_PacketOf <;> first | assumption | omega) | (apply laws_eqPacket <;> first | assumption | omega) | (apply laws_eqConn <;> first | assumption | omega) | (apply laws_heldPacket <;> first | assumption | omega)) ?_; simp only [go_sem, List.length_map])
    | (with_reducible refine gTrueS ?_; simp only [go_sem, List.length_map]) | (with_reducible refine gFalseS ?_; simp only [go_sem, List.length_map, q0, q1, r1, hg]) | (with_reducible refine gTrue ?_; simp only [go_sem, List.length_map, q0, q1, r1, hg]) | (with_reducible refine gFalse ?_; simp only [go_sem, List.length_map, q0, q1, r1, hg])
    | (refine gSymS ?_; simp only [go_sem, List.length_map, q0, q1, r1, hg]) | (refine gSym ?_; simp only [go_sem, List.length_map, q0, q1, r1, hg])
    | (refine drawE_intro [[.post, .un, .un, .post, .post], [.un, .post, .post, .post, .post], [.un, .pre, .post, .post, .post], [.pre, .pre, .pre, .post, .post], [.pre, .pre, .pre, .pre, .post]] (by kernel_rfl) (by rfl) ?_; simp only [go_sem])
    | (refine cSplit (fun h => ?_) (fun h => ?_) <;> simp only [go_sem, List.length_map])
    | (with_reducible refine And.intro ?_ ?_; (focus (first | omega | (exact ⟨by omega, by omega⟩) | (simp; done) | (simp; omega)))))
  all_goals simp_all
end Gv
