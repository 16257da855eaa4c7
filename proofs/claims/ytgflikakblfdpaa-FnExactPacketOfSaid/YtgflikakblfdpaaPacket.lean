/-
  A packet of a connection.
-/
import Derived.Test.YtgflikakblfdpaaLaws
namespace Gv
open Go Go.Proofs

theorem anyt_step {α : Type} (p : α → Bool) (xs : List α) (i : Nat) (h : i < xs.length) (h1 : (xs.take i).any p = false) (h2 : p xs[i] = false) : (xs.take (i + 1)).any p = false := by
  rw [List.take_add_one, List.getElem?_eq_getElem h, List.any_append, h1]; simp [h2]
def fIx {α : Type} (p : α → Bool) (xs : List α) : Int := match xs.findIdx? p with | some i => (i : Int) | none => -1
theorem split_at {α : Type} (xs : List α) (i : Nat) (h : i < xs.length) : xs = xs.take i ++ xs[i] :: xs.drop (i + 1) := by rw [List.getElem_cons_drop, List.take_append_drop]
theorem find_hit {α : Type} (p : α → Bool) (xs : List α) (i : Nat) (h : i < xs.length) (h1 : (xs.take i).any p = false) (h2 : p xs[i] = true) : xs.find? p = some xs[i] := by
  conv => lhs; rw [split_at xs i h]
  have : (xs.take i).find? p = none := by rw [List.find?_eq_none]; intro x hx; have := List.any_eq_false.1 h1 x hx; simpa using this
  rw [List.find?_append, this, List.find?_cons_of_pos h2]; rfl
theorem find_miss {α : Type} (p : α → Bool) (xs : List α) (h : xs.any p = false) : xs.find? p = none := by
  rw [List.find?_eq_none]; intro x hx; have := List.any_eq_false.1 h x hx; simpa using this
theorem fIx_hit {α : Type} (p : α → Bool) (xs : List α) (i : Nat) (h : i < xs.length) (h1 : (xs.take i).any p = false) (h2 : p xs[i] = true) : fIx p xs = (i : Int) := by
  have : xs.findIdx? p = some i := by
    rw [List.findIdx?_eq_some_iff_getElem]
    refine ⟨h, h2, fun j hj hji => ?_⟩
    have := List.any_eq_false.1 h1 xs[j] (List.mem_take_iff_getElem.2 ⟨j, by omega, rfl⟩)
    exact this hji
  rw [fIx, this]
theorem fIx_miss {α : Type} (p : α → Bool) (xs : List α) (h : xs.any p = false) : fIx p xs = -1 := by
  have : xs.findIdx? p = none := by rw [List.findIdx?_eq_none_iff]; intro x hx; have := List.any_eq_false.1 h x hx; simpa using this
  rw [fIx, this]
theorem fIx_cases {α : Type} (p : α → Bool) (xs : List α) : (fIx p xs = -1 ∧ xs.find? p = none) ∨ ∃ (i : Nat) (h : i < xs.length), fIx p xs = (i : Int) ∧ xs.find? p = some xs[i] ∧ p xs[i] = true := by
  unfold fIx
  cases hf : xs.findIdx? p with
  | none => left; refine ⟨rfl, ?_⟩; rw [List.findIdx?_eq_none_iff] at hf; rw [List.find?_eq_none]; simpa using hf
  | some i =>
    right
    rw [List.findIdx?_eq_some_iff_getElem] at hf
    obtain ⟨h, h1, h2⟩ := hf
    refine ⟨i, h, rfl, find_hit p xs i h ?_ h1, h1⟩
    rw [List.any_eq_false]
    intro x hx
    obtain ⟨j, hj, rfl⟩ := List.mem_take_iff_getElem.1 hx
    exact h2 j (by omega)

def pkP (n : Int) (p : TPacket) : Bool := decide (p.number = n)
def pkOf (xs : List TPacket) (n : Int) : TPacket × Bool := match xs.find? (pkP n) with | some p => (p, true) | none => (⟨0, []⟩, false)

theorem pkOf_len (xs : List TPacket) (n : Int) (h : xs.length + sumB TPacket.bulk xs ≤ 1048576) : (pkOf xs n).1.frames.length ≤ 1048576 := by
  unfold pkOf
  split
  · rename_i p hp
    have hm := List.mem_of_find?_eq_some hp
    obtain ⟨i, hi, rfl⟩ := List.getElem_of_mem hm
    have h1 := sumB_at TPacket.bulk xs i hi
    simp only [TPacket.bulk] at h1
    simp only; omega
  · simp
theorem take_map_succ {α : Type} (e : α → List D) (xs : List α) (i : Nat) (h : i < xs.length) : (xs.take (i + 1)).map e = (xs.take i).map e ++ [e xs[i]] := by
  rw [List.take_add_one, List.getElem?_eq_getElem h, Option.toList_some, List.map_append]; rfl
theorem cells_len {sz : Nat} {xs : List (List D)} {ds : List D} {rs : List AD} (h : adOks (.agg ds :: rs)) (hm : .sl sz xs ∈ ds) : xs.length ≤ maxLen := (cOk_at h.1 _ hm).1

set_option maxHeartbeats 1000000 in
set_option maxRecDepth 100000 in
theorem impl_packetIndex (c : TConn) (n : Int) : PureCall Try.prog 119 [.agg [.bool c.server, .int .i64 c.own.ring, .int .i64 c.own.window, .int .i64 c.own.windowMost, .int .i64 c.own.total, .int .i64 c.own.totalMost, .int .i64 c.own.bidi, .int .i64 c.own.uni, .int .i64 c.own.trip, .int .i64 c.peer.ring, .int .i64 c.peer.window, .int .i64 c.peer.windowMost, .int .i64 c.peer.total, .int .i64 c.peer.totalMost, .int .i64 c.peer.bidi, .int .i64 c.peer.uni, .int .i64 c.peer.trip, .sl 39 (c.streams.map TStream.enc), .int .i64 c.total.limit, .int .i64 c.total.used, .int .i64 c.total.blocked, .int .i64 c.total.told, .int .i64 c.inflow.size, .int .i64 c.inflow.most, .int .i64 c.inflow.limit, .int .i64 c.inflow.seen, .int .i64 c.inflow.read, .int .i64 c.inflow.since, .int .i64 c.openBidi.limit, .int .i64 c.openBidi.opened, .int .i64 c.openBidi.blocked, .int .i64 c.openUni.limit, .int .i64 c.openUni.opened, .int .i64 c.openUni.blocked, .int .i64 c.allowBidi.most, .int .i64 c.allowBidi.limit, .int .i64 c.allowBidi.seen, .int .i64 c.allowBidi.closed, .int .i64 c.allowUni.most, .int .i64 c.allowUni.limit, .int .i64 c.allowUni.seen, .int .i64 c.allowUni.closed, .bool c.tellTotal, .bool c.tellBidi, .bool c.tellUni, .int .i64 c.last, .int .i64 c.number, .sl 2 (c.packets.map TPacket.enc), .int .i64 c.now, .int .i64 c.closed], .one (.int .i64 n)] [.one (.int .i64 (fIx (pkP n) c.packets))] := by
  refine pure_ev Try.func119 rfl Try.call119 Try.checked.mixed [.agg [.d (.bool c.server), .d (.int .i64 c.own.ring), .d (.int .i64 c.own.window), .d (.int .i64 c.own.windowMost), .d (.int .i64 c.own.total), .d (.int .i64 c.own.totalMost), .d (.int .i64 c.own.bidi), .d (.int .i64 c.own.uni), .d (.int .i64 c.own.trip), .d (.int .i64 c.peer.ring), .d (.int .i64 c.peer.window), .d (.int .i64 c.peer.windowMost), .d (.int .i64 c.peer.total), .d (.int .i64 c.peer.totalMost), .d (.int .i64 c.peer.bidi), .d (.int .i64 c.peer.uni), .d (.int .i64 c.peer.trip), .d (.sl 39 (c.streams.map TStream.enc)), .d (.int .i64 c.total.limit), .d (.int .i64 c.total.used), .d (.int .i64 c.total.blocked), .d (.int .i64 c.total.told), .d (.int .i64 c.inflow.size), .d (.int .i64 c.inflow.most), .d (.int .i64 c.inflow.limit), .d (.int .i64 c.inflow.seen), .d (.int .i64 c.inflow.read), .d (.int .i64 c.inflow.since), .d (.int .i64 c.openBidi.limit), .d (.int .i64 c.openBidi.opened), .d (.int .i64 c.openBidi.blocked), .d (.int .i64 c.openUni.limit), .d (.int .i64 c.openUni.opened), .d (.int .i64 c.openUni.blocked), .d (.int .i64 c.allowBidi.most), .d (.int .i64 c.allowBidi.limit), .d (.int .i64 c.allowBidi.seen), .d (.int .i64 c.allowBidi.closed), .d (.int .i64 c.allowUni.most), .d (.int .i64 c.allowUni.limit), .d (.int .i64 c.allowUni.seen), .d (.int .i64 c.allowUni.closed), .d (.bool c.tellTotal), .d (.bool c.tellBidi), .d (.bool c.tellUni), .d (.int .i64 c.last), .d (.int .i64 c.number), .d (.sl 2 (c.packets.map TPacket.enc)), .d (.int .i64 c.now), .d (.int .i64 c.closed)], .d (.int .i64 n), .junk, .junk, .junk, .junk, .junk, .junk, .junk] rfl [.tmp 4] rfl ?_
  intro ok
  have hm : c.packets.length ≤ maxLen := by have := cells_len ok (sz := 2) (xs := c.packets.map TPacket.enc) (by simp); rwa [List.length_map] at this
  clear ok
  simp only [go_sem]
  refine CallS.inl (inl_ev (n := 19) (rs := [.tmp 4]) Try.func168 rfl Try.call168 Try.checked.mixed rfl rfl ?_)
  simp only [go_sem, List.length_map]
  refine LoopK.intro (fun i : Nat => ⟨[.d (.sl 2 (c.packets.map TPacket.enc)), .fn 169 [.ptr 1 0 0], .junk, .junk, .d (.int .i64 0), .junk, .junk, .d (.int .i64 c.packets.length), .d (.int .i64 i), .junk, .junk, .junk, .junk, .junk, .junk, .junk, .junk, .junk, .junk], [.box [.d (.bool c.server), .d (.int .i64 c.own.ring), .d (.int .i64 c.own.window), .d (.int .i64 c.own.windowMost), .d (.int .i64 c.own.total), .d (.int .i64 c.own.totalMost), .d (.int .i64 c.own.bidi), .d (.int .i64 c.own.uni), .d (.int .i64 c.own.trip), .d (.int .i64 c.peer.ring), .d (.int .i64 c.peer.window), .d (.int .i64 c.peer.windowMost), .d (.int .i64 c.peer.total), .d (.int .i64 c.peer.totalMost), .d (.int .i64 c.peer.bidi), .d (.int .i64 c.peer.uni), .d (.int .i64 c.peer.trip), .d (.sl 39 (c.streams.map TStream.enc)), .d (.int .i64 c.total.limit), .d (.int .i64 c.total.used), .d (.int .i64 c.total.blocked), .d (.int .i64 c.total.told), .d (.int .i64 c.inflow.size), .d (.int .i64 c.inflow.most), .d (.int .i64 c.inflow.limit), .d (.int .i64 c.inflow.seen), .d (.int .i64 c.inflow.read), .d (.int .i64 c.inflow.since), .d (.int .i64 c.openBidi.limit), .d (.int .i64 c.openBidi.opened), .d (.int .i64 c.openBidi.blocked), .d (.int .i64 c.openUni.limit), .d (.int .i64 c.openUni.opened), .d (.int .i64 c.openUni.blocked), .d (.int .i64 c.allowBidi.most), .d (.int .i64 c.allowBidi.limit), .d (.int .i64 c.allowBidi.seen), .d (.int .i64 c.allowBidi.closed), .d (.int .i64 c.allowUni.most), .d (.int .i64 c.allowUni.limit), .d (.int .i64 c.allowUni.seen), .d (.int .i64 c.allowUni.closed), .d (.bool c.tellTotal), .d (.bool c.tellBidi), .d (.bool c.tellUni), .d (.int .i64 c.last), .d (.int .i64 c.number), .d (.sl 2 (c.packets.map TPacket.enc)), .d (.int .i64 c.now), .d (.int .i64 c.closed)], .box [.d (.int .i64 n)]]⟩)
      (fun i => c.packets.length - i) (fun i => i ≤ c.packets.length ∧ (c.packets.take i).any (pkP n) = false) 0 [0, 1] ⟨by omega, by simp⟩ ?_ ?_
  · simp only [go_sem]; simp
  · rintro i ⟨hi, he⟩
    simp only [go_sem]
    refine cSplit (fun h1 => ?_) (fun h1 => ?_)
    · simp only [decide_eq_true_eq] at h1
      have hlt : i < c.packets.length := by omega
      have hxi := map_at TPacket.enc c.packets i hlt
      have hw := inc hlt hm
      simp only [go_sem, List.length_map, Int.toNat_natCast, hxi, TPacket.enc]
      refine ⟨⟨by omega, by omega⟩, ?_⟩
      refine CallS.inl (inl_ev (n := 8) (rs := [.tmp 3]) Try.func169 rfl Try.call169 Try.checked.mixed rfl rfl ?_)
      simp only [go_sem]
      refine cSplit (fun h2 => ?_) (fun h2 => ?_)
      · simp only [go_sem]
        have := fIx_hit (pkP n) c.packets i hlt he h2
        simp [this]
      · simp only [go_sem, hw]
        refine RoundE.intro (i + 1) [0, 1] ⟨by omega, anyt_step _ c.packets i hlt he h2⟩ (by omega) ?_
        simp only [go_sem]; simp
    · simp only [decide_eq_false_iff_not] at h1
      simp only [go_sem]
      rw [List.take_of_length_le (by omega)] at he
      simp [fIx_miss _ _ he]

set_option maxRecDepth 100000 in
theorem impl_copyPackets (xs : List TPacket) (hx : (xs.length + sumB TPacket.bulk xs) ≤ 1048576) : PureCall Try.prog 120 [.one (.sl 2 (xs.map TPacket.enc))] [.one (.sl 2 (xs.map TPacket.enc))] := by
  refine pure_ev Try.func120 rfl Try.call120 Try.checked.mixed [.d (.sl 2 (xs.map TPacket.enc)), .junk, .junk, .junk, .junk, .junk, .junk, .junk, .junk, .junk, .junk, .junk, .junk, .junk, .junk, .junk, .junk, .junk, .junk, .junk, .junk, .junk, .junk, .junk, .junk] rfl [.tmp 2] rfl ?_
  intro ok
  have hm := len_of ok
  clear ok
  simp only [go_sem, List.length_map]
  refine LoopK.intro (fun i : Nat => ⟨[.junk, .junk, .nils 2, .sl 0 0 i, .junk, .junk, .junk, .d (.sl 2 (xs.map TPacket.enc)), .d (.int .i64 xs.length), .d (.int .i64 i), .junk, .junk, .junk, .junk, .junk, .junk, .junk, .junk, .junk, .junk, .junk, .junk, .junk, .junk, .junk], [.arr 2 ((xs.take i).map TPacket.enc) true]⟩)
      (fun i => xs.length - i) (fun i => i ≤ xs.length) 0 [0] (by omega) ?_ ?_
  · simp only [go_sem]; simp
  · intro i hi
    have hl : (xs.take i).length = i := by simp; omega
    simp only [go_sem]
    refine cSplit (fun h1 => ?_) (fun h1 => ?_)
    · simp only [decide_eq_true_eq] at h1
      have hlt : i < xs.length := by omega
      have hxi := map_at TPacket.enc xs i hlt
      have hw := inc hlt hm
      have hb := sumB_at TPacket.bulk xs i hlt
      simp only [TPacket.bulk] at hb
      simp only [TPacket.enc] at hxi
      have htk : ((xs.take i).map TPacket.enc).take i = (xs.take i).map TPacket.enc := List.take_of_length_le (by rw [List.length_map, hl]; exact Nat.le_refl _)
      have hst := take_map_succ TPacket.enc xs i hlt
      simp only [TPacket.enc] at hst
      try simp only [go_sem, List.length_map, Int.toNat_natCast, hxi]
      repeat' (first
        | (with_reducible refine gTrueS ?_; simp only [go_sem, List.length_map, Int.toNat_natCast, hxi, hl, htk]) | (with_reducible refine gFalseS ?_; simp only [go_sem, List.length_map, Int.toNat_natCast, hxi, hl, htk]) | (with_reducible refine gTrue ?_; simp only [go_sem, List.length_map, Int.toNat_natCast, hxi, hl, htk]) | (with_reducible refine gFalse ?_; simp only [go_sem, List.length_map, Int.toNat_natCast, hxi, hl, htk])
        | (refine gSymS ?_; simp only [go_sem, List.length_map, Int.toNat_natCast, hxi, hl, htk]) | (refine gSym ?_; simp only [go_sem, List.length_map, Int.toNat_natCast, hxi, hl, htk])
        | (refine drawE_intro [[.post, .un, .un, .un, .un, .un, .un, .un, .un, .post, .post], [.un, .post, .post, .un, .un, .un, .un, .post, .post, .post, .post], [.un, .pre, .post, .un, .un, .un, .un, .post, .post, .post, .post], [.un, .un, .un, .post, .un, .un, .post, .post, .post, .post, .post], [.un, .un, .un, .un, .post, .post, .post, .post, .post, .post, .post], [.un, .un, .un, .un, .pre, .post, .post, .post, .post, .post, .post], [.un, .un, .un, .pre, .pre, .pre, .post, .post, .post, .post, .post], [.un, .pre, .pre, .pre, .pre, .pre, .pre, .post, .post, .post, .post], [.un, .pre, .pre, .pre, .pre, .pre, .pre, .pre, .post, .post, .post], [.pre, .pre, .pre, .pre, .pre, .pre, .pre, .pre, .pre, .post, .post], [.pre, .pre, .pre, .pre, .pre, .pre, .pre, .pre, .pre, .pre, .post]] (by kernel_rfl) (by rfl) ?_; simp only [go_sem, List.length_map, hl])
        | (refine cSplit (fun h => ?_) (fun h => ?_) <;> simp only [go_sem, List.length_map, Int.toNat_natCast, hxi, hl, htk])
        | (with_reducible refine And.intro ?_ ?_; (focus (first | omega | (exact ⟨by omega, by omega⟩) | (simp; done) | (simp; omega)))))
      all_goals (refine RoundE.intro (i + 1) [5] (by omega) (by omega) ?_; simp only [go_sem, hw]; simp [hst])
    · simp only [decide_eq_false_iff_not] at h1
      have hi2 : i = xs.length := by omega
      subst hi2
      simp only [go_sem, List.take_length]
      simp [outOA]

set_option maxHeartbeats 2000000 in
set_option maxRecDepth 100000 in
theorem impl_PacketOf (c : TConn) (n : Int) (hx : (c.packets.length + sumB TPacket.bulk c.packets) ≤ 1048576) : PureCall Try.prog 53 [.agg [.bool c.server, .int .i64 c.own.ring, .int .i64 c.own.window, .int .i64 c.own.windowMost, .int .i64 c.own.total, .int .i64 c.own.totalMost, .int .i64 c.own.bidi, .int .i64 c.own.uni, .int .i64 c.own.trip, .int .i64 c.peer.ring, .int .i64 c.peer.window, .int .i64 c.peer.windowMost, .int .i64 c.peer.total, .int .i64 c.peer.totalMost, .int .i64 c.peer.bidi, .int .i64 c.peer.uni, .int .i64 c.peer.trip, .sl 39 (c.streams.map TStream.enc), .int .i64 c.total.limit, .int .i64 c.total.used, .int .i64 c.total.blocked, .int .i64 c.total.told, .int .i64 c.inflow.size, .int .i64 c.inflow.most, .int .i64 c.inflow.limit, .int .i64 c.inflow.seen, .int .i64 c.inflow.read, .int .i64 c.inflow.since, .int .i64 c.openBidi.limit, .int .i64 c.openBidi.opened, .int .i64 c.openBidi.blocked, .int .i64 c.openUni.limit, .int .i64 c.openUni.opened, .int .i64 c.openUni.blocked, .int .i64 c.allowBidi.most, .int .i64 c.allowBidi.limit, .int .i64 c.allowBidi.seen, .int .i64 c.allowBidi.closed, .int .i64 c.allowUni.most, .int .i64 c.allowUni.limit, .int .i64 c.allowUni.seen, .int .i64 c.allowUni.closed, .bool c.tellTotal, .bool c.tellBidi, .bool c.tellUni, .int .i64 c.last, .int .i64 c.number, .sl 2 (c.packets.map TPacket.enc), .int .i64 c.now, .int .i64 c.closed], .one (.int .i64 n)] [.agg [.int .i64 ((pkOf c.packets n).1).number, .sl 9 (((pkOf c.packets n).1).frames.map TFrame.enc)], .one (.bool (pkOf c.packets n).2)] := by
  refine pure_ev Try.func53 rfl Try.call53 Try.checked.mixed [.agg [.d (.bool c.server), .d (.int .i64 c.own.ring), .d (.int .i64 c.own.window), .d (.int .i64 c.own.windowMost), .d (.int .i64 c.own.total), .d (.int .i64 c.own.totalMost), .d (.int .i64 c.own.bidi), .d (.int .i64 c.own.uni), .d (.int .i64 c.own.trip), .d (.int .i64 c.peer.ring), .d (.int .i64 c.peer.window), .d (.int .i64 c.peer.windowMost), .d (.int .i64 c.peer.total), .d (.int .i64 c.peer.totalMost), .d (.int .i64 c.peer.bidi), .d (.int .i64 c.peer.uni), .d (.int .i64 c.peer.trip), .d (.sl 39 (c.streams.map TStream.enc)), .d (.int .i64 c.total.limit), .d (.int .i64 c.total.used), .d (.int .i64 c.total.blocked), .d (.int .i64 c.total.told), .d (.int .i64 c.inflow.size), .d (.int .i64 c.inflow.most), .d (.int .i64 c.inflow.limit), .d (.int .i64 c.inflow.seen), .d (.int .i64 c.inflow.read), .d (.int .i64 c.inflow.since), .d (.int .i64 c.openBidi.limit), .d (.int .i64 c.openBidi.opened), .d (.int .i64 c.openBidi.blocked), .d (.int .i64 c.openUni.limit), .d (.int .i64 c.openUni.opened), .d (.int .i64 c.openUni.blocked), .d (.int .i64 c.allowBidi.most), .d (.int .i64 c.allowBidi.limit), .d (.int .i64 c.allowBidi.seen), .d (.int .i64 c.allowBidi.closed), .d (.int .i64 c.allowUni.most), .d (.int .i64 c.allowUni.limit), .d (.int .i64 c.allowUni.seen), .d (.int .i64 c.allowUni.closed), .d (.bool c.tellTotal), .d (.bool c.tellBidi), .d (.bool c.tellUni), .d (.int .i64 c.last), .d (.int .i64 c.number), .d (.sl 2 (c.packets.map TPacket.enc)), .d (.int .i64 c.now), .d (.int .i64 c.closed)], .d (.int .i64 n), .junk, .junk, .junk, .junk, .junk, .junk, .junk, .junk, .junk, .junk, .junk, .junk, .junk, .junk, .junk, .junk, .junk, .junk, .junk, .junk] rfl [.cell 4 110, .tmp 5] rfl ?_
  intro ok
  clear ok
  simp only [go_sem]
  refine CallS.intro (impl_packetIndex c n) ?_
  rcases fIx_cases (pkP n) c.packets with ⟨h1, h2⟩ | ⟨i, hi, h1, h2, h3⟩
  · simp only [go_sem, h1]
    try simp only [go_sem, h1]
    repeat' (first
      | (refine CallS.intro (by first | assumption | (apply impl_packetIndex <;> first | assumption | omega) | (apply impl_copyPackets <;> first | assumption | omega)) ?_; simp only [go_sem, h1])
      | (refine CallK.intro (by first | assumption | (apply impl_packetIndex <;> first | assumption | omega) | (apply impl_copyPackets <;> first | assumption | omega)) ?_; simp only [go_sem, h1])
      | (with_reducible refine gTrueS ?_; simp only [go_sem, h1]) | (with_reducible refine gFalseS ?_; simp only [go_sem, h1]) | (with_reducible refine gTrue ?_; simp only [go_sem, h1]) | (with_reducible refine gFalse ?_; simp only [go_sem, h1])
      | (refine gSymS ?_; simp only [go_sem, h1]) | (refine gSym ?_; simp only [go_sem, h1])
      | (refine cSplit (fun h => ?_) (fun h => ?_) <;> simp only [go_sem, h1])
      | (with_reducible refine And.intro ?_ ?_; (focus (first | omega | (exact ⟨by omega, by omega⟩) | (simp; done) | (simp; omega)))))
    all_goals simp [pkOf, h2]
  · have hlt : decide ((i : Int) < 0) = false := decide_eq_false (by omega)
    have hb := sumB_at TPacket.bulk c.packets i hi
    have hw : IntKind.i64.wrap ((i : Int) + 1) = ((i + 1 : Nat) : Int) := by rw [w64] <;> omega
    have hsl : (List.take (i + 1 - i) (List.drop i (c.packets.map TPacket.enc))) = [c.packets[i]].map TPacket.enc := by
      rw [show i + 1 - i = 1 from by omega, List.drop_eq_getElem_cons (by simpa using hi)]; simp
    simp only [go_sem, h1, hlt, hw, List.length_map, Int.toNat_natCast]
    repeat' (first
      | (with_reducible refine And.intro ?_ ?_; (focus (first | omega | (constructor <;> omega) | (simp; done) | (simp; omega))); try simp only [go_sem, hsl])
      | (refine CallS.opn 2 0 (impl_copyPackets [c.packets[i]] (by simp [sumB]; omega)) ?_; simp only [go_sem, List.length_map, TPacket.enc]))
    all_goals simp [pkOf, h2]

set_option maxHeartbeats 2000000 in
set_option maxRecDepth 100000 in
theorem spec_PacketOf (c : TConn) (n : Int) (hx : (c.packets.length + sumB TPacket.bulk c.packets) ≤ 1048576) : PureCall Try.prog 51 [.agg [.bool c.server, .int .i64 c.own.ring, .int .i64 c.own.window, .int .i64 c.own.windowMost, .int .i64 c.own.total, .int .i64 c.own.totalMost, .int .i64 c.own.bidi, .int .i64 c.own.uni, .int .i64 c.own.trip, .int .i64 c.peer.ring, .int .i64 c.peer.window, .int .i64 c.peer.windowMost, .int .i64 c.peer.total, .int .i64 c.peer.totalMost, .int .i64 c.peer.bidi, .int .i64 c.peer.uni, .int .i64 c.peer.trip, .sl 39 (c.streams.map TStream.enc), .int .i64 c.total.limit, .int .i64 c.total.used, .int .i64 c.total.blocked, .int .i64 c.total.told, .int .i64 c.inflow.size, .int .i64 c.inflow.most, .int .i64 c.inflow.limit, .int .i64 c.inflow.seen, .int .i64 c.inflow.read, .int .i64 c.inflow.since, .int .i64 c.openBidi.limit, .int .i64 c.openBidi.opened, .int .i64 c.openBidi.blocked, .int .i64 c.openUni.limit, .int .i64 c.openUni.opened, .int .i64 c.openUni.blocked, .int .i64 c.allowBidi.most, .int .i64 c.allowBidi.limit, .int .i64 c.allowBidi.seen, .int .i64 c.allowBidi.closed, .int .i64 c.allowUni.most, .int .i64 c.allowUni.limit, .int .i64 c.allowUni.seen, .int .i64 c.allowUni.closed, .bool c.tellTotal, .bool c.tellBidi, .bool c.tellUni, .int .i64 c.last, .int .i64 c.number, .sl 2 (c.packets.map TPacket.enc), .int .i64 c.now, .int .i64 c.closed], .one (.int .i64 n)] [.agg [.int .i64 ((pkOf c.packets n).1).number, .sl 9 (((pkOf c.packets n).1).frames.map TFrame.enc)], .one (.bool (pkOf c.packets n).2)] := by
  refine pure_ev Try.func51 rfl Try.call51 Try.checked.mixed [.agg [.d (.bool c.server), .d (.int .i64 c.own.ring), .d (.int .i64 c.own.window), .d (.int .i64 c.own.windowMost), .d (.int .i64 c.own.total), .d (.int .i64 c.own.totalMost), .d (.int .i64 c.own.bidi), .d (.int .i64 c.own.uni), .d (.int .i64 c.own.trip), .d (.int .i64 c.peer.ring), .d (.int .i64 c.peer.window), .d (.int .i64 c.peer.windowMost), .d (.int .i64 c.peer.total), .d (.int .i64 c.peer.totalMost), .d (.int .i64 c.peer.bidi), .d (.int .i64 c.peer.uni), .d (.int .i64 c.peer.trip), .d (.sl 39 (c.streams.map TStream.enc)), .d (.int .i64 c.total.limit), .d (.int .i64 c.total.used), .d (.int .i64 c.total.blocked), .d (.int .i64 c.total.told), .d (.int .i64 c.inflow.size), .d (.int .i64 c.inflow.most), .d (.int .i64 c.inflow.limit), .d (.int .i64 c.inflow.seen), .d (.int .i64 c.inflow.read), .d (.int .i64 c.inflow.since), .d (.int .i64 c.openBidi.limit), .d (.int .i64 c.openBidi.opened), .d (.int .i64 c.openBidi.blocked), .d (.int .i64 c.openUni.limit), .d (.int .i64 c.openUni.opened), .d (.int .i64 c.openUni.blocked), .d (.int .i64 c.allowBidi.most), .d (.int .i64 c.allowBidi.limit), .d (.int .i64 c.allowBidi.seen), .d (.int .i64 c.allowBidi.closed), .d (.int .i64 c.allowUni.most), .d (.int .i64 c.allowUni.limit), .d (.int .i64 c.allowUni.seen), .d (.int .i64 c.allowUni.closed), .d (.bool c.tellTotal), .d (.bool c.tellBidi), .d (.bool c.tellUni), .d (.int .i64 c.last), .d (.int .i64 c.number), .d (.sl 2 (c.packets.map TPacket.enc)), .d (.int .i64 c.now), .d (.int .i64 c.closed)], .d (.int .i64 n), .junk, .junk, .junk, .junk, .junk, .junk, .junk, .junk, .junk, .junk, .junk, .junk, .junk, .junk, .junk, .junk, .junk, .junk, .junk, .junk, .junk, .junk, .junk, .junk, .junk, .junk, .junk, .junk, .junk, .junk, .junk] rfl [.cell 4 110, .tmp 5] rfl ?_
  intro ok
  have hm : c.packets.length ≤ maxLen := by simp only [maxLen]; omega
  clear ok
  simp only [go_sem]
  refine LoopK.intro (fun i : Nat => ⟨[.junk, .d (.int .i64 n), .ptr 0 0 0, .junk, .ptr 1 0 0, .d (.bool false), .d (.int .i64 i), .junk, .junk, .junk, .junk, .junk, .junk, .junk, .junk, .junk, .junk, .junk, .junk, .junk, .junk, .junk, .junk, .junk, .junk, .junk, .junk, .junk, .junk, .junk, .junk, .junk, .junk], [.box [.d (.bool c.server), .d (.int .i64 c.own.ring), .d (.int .i64 c.own.window), .d (.int .i64 c.own.windowMost), .d (.int .i64 c.own.total), .d (.int .i64 c.own.totalMost), .d (.int .i64 c.own.bidi), .d (.int .i64 c.own.uni), .d (.int .i64 c.own.trip), .d (.int .i64 c.peer.ring), .d (.int .i64 c.peer.window), .d (.int .i64 c.peer.windowMost), .d (.int .i64 c.peer.total), .d (.int .i64 c.peer.totalMost), .d (.int .i64 c.peer.bidi), .d (.int .i64 c.peer.uni), .d (.int .i64 c.peer.trip), .d (.sl 39 (c.streams.map TStream.enc)), .d (.int .i64 c.total.limit), .d (.int .i64 c.total.used), .d (.int .i64 c.total.blocked), .d (.int .i64 c.total.told), .d (.int .i64 c.inflow.size), .d (.int .i64 c.inflow.most), .d (.int .i64 c.inflow.limit), .d (.int .i64 c.inflow.seen), .d (.int .i64 c.inflow.read), .d (.int .i64 c.inflow.since), .d (.int .i64 c.openBidi.limit), .d (.int .i64 c.openBidi.opened), .d (.int .i64 c.openBidi.blocked), .d (.int .i64 c.openUni.limit), .d (.int .i64 c.openUni.opened), .d (.int .i64 c.openUni.blocked), .d (.int .i64 c.allowBidi.most), .d (.int .i64 c.allowBidi.limit), .d (.int .i64 c.allowBidi.seen), .d (.int .i64 c.allowBidi.closed), .d (.int .i64 c.allowUni.most), .d (.int .i64 c.allowUni.limit), .d (.int .i64 c.allowUni.seen), .d (.int .i64 c.allowUni.closed), .d (.bool c.tellTotal), .d (.bool c.tellBidi), .d (.bool c.tellUni), .d (.int .i64 c.last), .d (.int .i64 c.number), .d (.sl 2 (c.packets.map TPacket.enc)), .d (.int .i64 c.now), .d (.int .i64 c.closed)], .box [.d (.int .i64 0), .nils 9]]⟩)
      (fun i => c.packets.length - i) (fun i => i ≤ c.packets.length ∧ (c.packets.take i).any (pkP n) = false) 0 [0, 1] ⟨by omega, by simp⟩ ?_ ?_
  · simp only [go_sem]; simp
  · rintro i ⟨hi, he⟩
    simp only [go_sem, List.length_map]
    refine cSplit (fun h1 => ?_) (fun h1 => ?_)
    · simp only [decide_eq_true_eq] at h1
      have hlt : i < c.packets.length := by omega
      have hxi := map_at TPacket.enc c.packets i hlt
      have hw := inc hlt hm
      have hb := sumB_at TPacket.bulk c.packets i hlt
      simp only [TPacket.bulk] at hb
      simp only [TPacket.enc] at hxi
      by_cases hq : c.packets[i].number = n
      · have hz : decide (c.packets[i].number = n) = true := decide_eq_true hq
        have hf := find_hit (pkP n) c.packets i hlt he hz
        try simp only [go_sem, List.length_map, Int.toNat_natCast, hxi, hz]
        repeat' (first
          | (with_reducible refine gTrueS ?_; simp only [go_sem, List.length_map, Int.toNat_natCast, hxi, hz]) | (with_reducible refine gFalseS ?_; simp only [go_sem, List.length_map, Int.toNat_natCast, hxi, hz]) | (with_reducible refine gTrue ?_; simp only [go_sem, List.length_map, Int.toNat_natCast, hxi, hz]) | (with_reducible refine gFalse ?_; simp only [go_sem, List.length_map, Int.toNat_natCast, hxi, hz])
          | (refine gSymS ?_; simp only [go_sem, List.length_map, Int.toNat_natCast, hxi, hz]) | (refine gSym ?_; simp only [go_sem, List.length_map, Int.toNat_natCast, hxi, hz])
          | (refine cSplit (fun h => ?_) (fun h => ?_) <;> simp only [go_sem, List.length_map, Int.toNat_natCast, hxi, hz])
          | (with_reducible refine And.intro ?_ ?_; (focus (first | omega | (exact ⟨by omega, by omega⟩) | (simp; done) | (simp; omega)))))
        all_goals simp [pkOf, hf, hq]
      · have hz : decide (c.packets[i].number = n) = false := decide_eq_false hq
        try simp only [go_sem, List.length_map, Int.toNat_natCast, hxi, hz]
        repeat' (first
          | (with_reducible refine gTrueS ?_; simp only [go_sem, List.length_map, Int.toNat_natCast, hxi, hz]) | (with_reducible refine gFalseS ?_; simp only [go_sem, List.length_map, Int.toNat_natCast, hxi, hz]) | (with_reducible refine gTrue ?_; simp only [go_sem, List.length_map, Int.toNat_natCast, hxi, hz]) | (with_reducible refine gFalse ?_; simp only [go_sem, List.length_map, Int.toNat_natCast, hxi, hz])
          | (refine gSymS ?_; simp only [go_sem, List.length_map, Int.toNat_natCast, hxi, hz]) | (refine gSym ?_; simp only [go_sem, List.length_map, Int.toNat_natCast, hxi, hz])
          | (refine cSplit (fun h => ?_) (fun h => ?_) <;> simp only [go_sem, List.length_map, Int.toNat_natCast, hxi, hz])
          | (with_reducible refine And.intro ?_ ?_; (focus (first | omega | (exact ⟨by omega, by omega⟩) | (simp; done) | (simp; omega)))))
        all_goals (refine RoundE.intro (i + 1) [0, 1] ⟨by omega, anyt_step _ c.packets i hlt he hz⟩ (by omega) ?_; simp only [go_sem, hw]; simp)
    · simp only [decide_eq_false_iff_not] at h1
      rw [List.take_of_length_le (by omega)] at he
      have hf := find_miss _ _ he
      simp only [go_sem]
      simp [pkOf, hf]
end Gv
