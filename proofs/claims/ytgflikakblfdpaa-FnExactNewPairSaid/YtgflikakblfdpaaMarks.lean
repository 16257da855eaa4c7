/-
  The laws of the helper functions of the statements: marking, and what marks are held. Printed by a program of ours.
-/
import Derived.Test.YtgflikakblfdpaaLaws
namespace Gv
open Go Go.Proofs
theorem wrap_one (k : Int) : IntKind.i64.wrap (k + 1) = nxs 1 k := rfl

set_option maxRecDepth 100000 in
theorem laws_markText (k : Int) : PureCall Try.prog 140 [.one (.int .i64 k)] [.one (.str (mtext k))] := by
  refine pure_ev Try.func140 rfl Try.call140 Try.checked.mixed [.d (.int .i64 k), .junk, .junk, .junk, .junk, .junk, .junk, .junk, .junk, .junk, .junk, .junk, .junk, .junk, .junk, .junk, .junk, .junk, .junk, .junk] rfl [.tmp 2] rfl ?_
  intro ok
  have hk := i64_of ok.1
  simp only [go_sem]
  refine cSplit (fun h => ?_) (fun h => ?_)
  · simp only [decide_eq_true_eq] at h
    simp only [go_sem]
    simp [mtext, h]
  · simp only [decide_eq_false_iff_not] at h
    simp only [go_sem]
    refine LoopK.intro (fun p : Int × List UInt8 => ⟨[.d (.int .i64 p.1), .junk, .d (.str []), .d (.str p.2), .junk, .junk, .junk, .junk, .junk, .junk, .junk, .junk, .junk, .junk, .junk, .junk, .junk, .junk, .junk, .junk], []⟩)
      (fun p => p.1.toNat) (fun p => 0 ≤ p.1 ∧ p.1 ≤ k ∧ dig k [] = dig p.1 p.2 ∧ p.1 * 2 ^ p.2.length ≤ k ∧ p.2.length ≤ 101) (k, []) [] ⟨by omega, by omega, rfl, by simp, by simp⟩ ?_ ?_
    · simp only [go_sem]
    · rintro ⟨j, acc⟩ ⟨h1, h2, h3, h4, h5⟩
      simp only at h1 h2 h3 h4 h5
      simp only [go_sem]
      refine cSplit (fun h6 => ?_) (fun h6 => ?_)
      · simp only [decide_eq_true_eq] at h6
        have hd := Int.tdiv_eq_ediv_of_nonneg (a := j) (b := 10) (by omega)
        have hl : acc.length ≤ 100 := mtext_len (by omega) h1 h4 (.inl h6)
        have hw : IntKind.i64.wrap (j.tdiv 10) = j.tdiv 10 := by rw [w64] <;> omega
        simp only [go_sem, hw]
        have h3 := h3.trans (show dig j acc = dig (j.tdiv 10) (UInt8.ofNat (IntKind.u8.wrap (IntKind.i64.wrap (48 + j.tmod 10))).toNat :: acc) by rw [dig, dif_pos h6])
        refine ⟨by simp only [maxLen]; simp; omega, RoundE.intro (j.tdiv 10, UInt8.ofNat (IntKind.u8.wrap (IntKind.i64.wrap (48 + j.tmod 10))).toNat :: acc) [] ⟨by simp only; omega, by simp only; omega, h3, ?_, by simp; omega⟩ (by simp only; omega) ?_⟩
        · simp only [List.length_cons]
          have h7 : j.tdiv 10 * 2 ≤ j := by omega
          have h8 : (0 : Int) ≤ 2 ^ acc.length := Int.pow_nonneg (by omega)
          have h9 := Int.mul_le_mul_of_nonneg_right h7 h8
          rw [Int.pow_succ, Int.mul_comm (2 ^ acc.length) 2, ← Int.mul_assoc]
          omega
        · simp only [go_sem]
      · simp only [decide_eq_false_iff_not] at h6
        have : j = 0 := by omega
        subst this
        have h3 := h3.trans (show dig 0 acc = acc by rw [dig, dif_neg (by omega)])
        simp only [go_sem]
        refine ⟨by simp only [maxLen]; simp; omega, ?_⟩
        simp [mtext, h, h3]
def TRange.mk' (k : Int) : TRange := ⟨k, (nx k)⟩
def TChunk.mk' (k : Int) : TChunk := ⟨k, mtext (nx k)⟩
def TCredit.mk' (k : Int) : TCredit := ⟨k, (nx k), (nx (nx k)), (nx (nx (nx k)))⟩
def TWindow.mk' (k : Int) : TWindow := ⟨k, (nx k), (nx (nx k)), (nx (nx (nx k))), (nx (nx (nx (nx k)))), (nx (nx (nx (nx (nx k)))))⟩
def TPriority.mk' (k : Int) : TPriority := ⟨k, decide (Int.tmod (nx k) 3 = 0)⟩
def TFrame.mk' (k : Int) : TFrame := ⟨k, (nx k), (nx (nx k)), mtext (nx (nx (nx k))), decide (Int.tmod (nx (nx (nx (nx k)))) 3 = 0), (nx (nx (nx (nx (nx k))))), (nx (nx (nx (nx (nx (nx k)))))), (nx (nx (nx (nx (nx (nx (nx k))))))), decide (Int.tmod (nx (nx (nx (nx (nx (nx (nx (nx k)))))))) 3 = 0)⟩
def TConf.mk' (k : Int) : TConf := ⟨k, (nx k), (nx (nx k)), (nx (nx (nx k))), (nx (nx (nx (nx k)))), (nx (nx (nx (nx (nx k))))), (nx (nx (nx (nx (nx (nx k)))))), (nx (nx (nx (nx (nx (nx (nx k)))))))⟩
def TCount.mk' (k : Int) : TCount := ⟨k, (nx k), (nx (nx k))⟩
def TAllow.mk' (k : Int) : TAllow := ⟨k, (nx k), (nx (nx k)), (nx (nx (nx k)))⟩
set_option maxRecDepth 100000 in
theorem laws_markIntS (xs : List Int) (k : Int) : MutCall Try.prog 91 [.one (.sl 1 (xs.map eI)), .one (.int .i64 k)] [.one (.sl 1 ((mkL (_root_.id : Int → Int) 1 k xs xs.length).map eI)), .one (.int .i64 k)] [.one (.int .i64 (nxs (1 * xs.length) k))] := by
  refine mut_ev Try.func91 rfl Try.call91 Try.checked.mixed [.sl 0 0 (xs.map eI).length, .d (.int .i64 k), .junk, .junk, .junk, .junk, .junk, .junk, .junk, .junk, .junk, .junk, .junk, .junk, .junk, .junk, .junk, .junk, .junk] [.arr 1 (xs.map eI) true] [.sl 0 0 (xs.map eI).length, .d (.int .i64 k)] rfl rfl rfl [.tmp 4] rfl ?_
  intro ok
  have hm := len_of ok
  simp only [go_sem, List.length_map]
  refine LoopK.intro (fun i : Nat => ⟨[.sl 0 0 xs.length, .d (.int .i64 (nxs (1 * i) k)), .junk, .junk, .d (.int .i64 0), .d (.int .i64 i), .junk, .junk, .junk, .junk, .junk, .junk, .junk, .junk, .junk, .junk, .junk, .junk, .junk], [.arr 1 ((mkL (_root_.id : Int → Int) 1 k xs i).map eI) true]⟩)
      (fun i => xs.length - i) (fun i => i ≤ xs.length) 0 [0] (by omega) ?_ ?_
  · simp only [go_sem]; simp [mkL_zero, nxs]
  · intro i hi
    simp only [go_sem]
    refine cSplit (fun h1 => ?_) (fun h1 => ?_)
    · simp only [decide_eq_true_eq] at h1
      have hlt : i < xs.length := by omega
      have hg := mkL_get (_root_.id : Int → Int) 1 eI k xs i hlt
      have hs := mkL_set (_root_.id : Int → Int) 1 eI k xs i hlt
      have hl := mkL_len (_root_.id : Int → Int) 1 k xs i (by omega)
      have hw := inc hlt hm
      have hn : nxs (1 * (i + 1)) k = nx (nxs (1 * i) k) := rfl
      have hk : ∀ (l : List (List D)) (a : List D), l.length = xs.length → (l.set i a)[i]? = some a := fun l a hl => by rw [List.getElem?_set_self (by omega)]
      simp only [eI, id] at hs hg
      simp only [nx, Nat.one_mul] at hn hs
      generalize hL : (mkL (_root_.id : Int → Int) 1 k xs i).map eI = rows at *
      have hrl : rows.length = xs.length := by rw [← hL, List.length_map, hl]
      simp only [go_sem, Int.toNat_natCast, hg, hw]
      repeat' (first
        | (refine CallS.intro (laws_markText _) ?_; simp only [go_sem, Int.toNat_natCast, hg, hw, hk _ _ hrl, List.length_set, hrl, List.set_set])
        | (with_reducible refine And.intro (by omega) ?_)
        | (with_reducible refine And.intro (by exact ⟨by omega, by omega⟩) ?_)
        | (with_reducible refine And.intro (by (try simp only [go_sem, hrl]) <;> first | omega | exact ⟨by omega, by simp⟩ | (simp; done)) ?_; try simp only [go_sem, Int.toNat_natCast, hg, hw, hk _ _ hrl, List.length_set, hrl, List.set_set])
        | (refine RoundE.intro (i + 1) [0] (by omega) (by omega) ?_))
      try simp only [go_sem]
      simp [hn, hs]
      try exact hs.symm
    · simp only [go_sem]
      simp only [decide_eq_false_iff_not] at h1
      have : i = xs.length := by omega
      subst this
      have hl := mkL_len (_root_.id : Int → Int) 1 k xs xs.length (by omega)
      simp [outOA, hl]
      rw [List.take_of_length_le (by simp [hl])]
set_option maxRecDepth 100000 in
theorem laws_markRangeS (xs : List TRange) (k : Int) : MutCall Try.prog 35 [.one (.sl 2 (xs.map TRange.enc)), .one (.int .i64 k)] [.one (.sl 2 ((mkL (TRange.mk' : Int → TRange) 2 k xs xs.length).map TRange.enc)), .one (.int .i64 k)] [.one (.int .i64 (nxs (2 * xs.length) k))] := by
  refine mut_ev Try.func35 rfl Try.call35 Try.checked.mixed [.sl 0 0 (xs.map TRange.enc).length, .d (.int .i64 k), .junk, .junk, .junk, .junk, .junk, .junk, .junk, .junk, .junk, .junk, .junk, .junk, .junk, .junk, .junk, .junk, .junk, .junk, .junk, .junk, .junk, .junk, .junk, .junk, .junk] [.arr 2 (xs.map TRange.enc) true] [.sl 0 0 (xs.map TRange.enc).length, .d (.int .i64 k)] rfl rfl rfl [.tmp 4] rfl ?_
  intro ok
  have hm := len_of ok
  simp only [go_sem, List.length_map]
  refine LoopK.intro (fun i : Nat => ⟨[.sl 0 0 xs.length, .d (.int .i64 (nxs (2 * i) k)), .junk, .junk, .d (.int .i64 0), .d (.int .i64 i), .junk, .junk, .junk, .junk, .junk, .junk, .junk, .junk, .junk, .junk, .junk, .junk, .junk, .junk, .junk, .junk, .junk, .junk, .junk, .junk, .junk], [.arr 2 ((mkL (TRange.mk' : Int → TRange) 2 k xs i).map TRange.enc) true]⟩)
      (fun i => xs.length - i) (fun i => i ≤ xs.length) 0 [0] (by omega) ?_ ?_
  · simp only [go_sem]; simp [mkL_zero, nxs]
  · intro i hi
    simp only [go_sem]
    refine cSplit (fun h1 => ?_) (fun h1 => ?_)
    · simp only [decide_eq_true_eq] at h1
      have hlt : i < xs.length := by omega
      have hg := mkL_get (TRange.mk' : Int → TRange) 2 TRange.enc k xs i hlt
      have hs := mkL_set (TRange.mk' : Int → TRange) 2 TRange.enc k xs i hlt
      have hl := mkL_len (TRange.mk' : Int → TRange) 2 k xs i (by omega)
      have hw := inc hlt hm
      have hn : nxs (2 * (i + 1)) k = nx (nx (nxs (2 * i) k)) := rfl
      have hk : ∀ (l : List (List D)) (a : List D), l.length = xs.length → (l.set i a)[i]? = some a := fun l a hl => by rw [List.getElem?_set_self (by omega)]
      simp only [TRange.enc, TRange.mk'] at hs hg
      simp only [nx] at hn hs
      generalize hL : (mkL (TRange.mk' : Int → TRange) 2 k xs i).map TRange.enc = rows at *
      have hrl : rows.length = xs.length := by rw [← hL, List.length_map, hl]
      simp only [go_sem, Int.toNat_natCast, hg, hw]
      repeat' (first
        | (refine CallS.intro (laws_markText _) ?_; simp only [go_sem, Int.toNat_natCast, hg, hw, hk _ _ hrl, List.length_set, hrl, List.set_set])
        | (with_reducible refine And.intro (by omega) ?_)
        | (with_reducible refine And.intro (by exact ⟨by omega, by omega⟩) ?_)
        | (with_reducible refine And.intro (by (try simp only [go_sem, hrl]) <;> first | omega | exact ⟨by omega, by simp⟩ | (simp; done)) ?_; try simp only [go_sem, hk _ _ hrl, List.length_set, hrl, List.set_set])
        | (refine RoundE.intro (i + 1) [0] (by omega) (by omega) ?_))
      try simp only [go_sem, hn, hs]
      simp [hn]
      try exact hs.symm
    · simp only [go_sem]
      simp only [decide_eq_false_iff_not] at h1
      have : i = xs.length := by omega
      subst this
      have hl := mkL_len (TRange.mk' : Int → TRange) 2 k xs xs.length (by omega)
      simp [outOA, hl]
      rw [List.take_of_length_le (by simp [hl])]
set_option maxRecDepth 100000 in
theorem laws_markChunkS (xs : List TChunk) (k : Int) : MutCall Try.prog 103 [.one (.sl 2 (xs.map TChunk.enc)), .one (.int .i64 k)] [.one (.sl 2 ((mkL (TChunk.mk' : Int → TChunk) 2 k xs xs.length).map TChunk.enc)), .one (.int .i64 k)] [.one (.int .i64 (nxs (2 * xs.length) k))] := by
  refine mut_ev Try.func103 rfl Try.call103 Try.checked.mixed [.sl 0 0 (xs.map TChunk.enc).length, .d (.int .i64 k), .junk, .junk, .junk, .junk, .junk, .junk, .junk, .junk, .junk, .junk, .junk, .junk, .junk, .junk, .junk, .junk, .junk, .junk, .junk, .junk, .junk, .junk, .junk, .junk, .junk, .junk] [.arr 2 (xs.map TChunk.enc) true] [.sl 0 0 (xs.map TChunk.enc).length, .d (.int .i64 k)] rfl rfl rfl [.tmp 4] rfl ?_
  intro ok
  have hm := len_of ok
  simp only [go_sem, List.length_map]
  refine LoopK.intro (fun i : Nat => ⟨[.sl 0 0 xs.length, .d (.int .i64 (nxs (2 * i) k)), .junk, .junk, .d (.int .i64 0), .d (.int .i64 i), .junk, .junk, .junk, .junk, .junk, .junk, .junk, .junk, .junk, .junk, .junk, .junk, .junk, .junk, .junk, .junk, .junk, .junk, .junk, .junk, .junk, .junk], [.arr 2 ((mkL (TChunk.mk' : Int → TChunk) 2 k xs i).map TChunk.enc) true]⟩)
      (fun i => xs.length - i) (fun i => i ≤ xs.length) 0 [0] (by omega) ?_ ?_
  · simp only [go_sem]; simp [mkL_zero, nxs]
  · intro i hi
    simp only [go_sem]
    refine cSplit (fun h1 => ?_) (fun h1 => ?_)
    · simp only [decide_eq_true_eq] at h1
      have hlt : i < xs.length := by omega
      have hg := mkL_get (TChunk.mk' : Int → TChunk) 2 TChunk.enc k xs i hlt
      have hs := mkL_set (TChunk.mk' : Int → TChunk) 2 TChunk.enc k xs i hlt
      have hl := mkL_len (TChunk.mk' : Int → TChunk) 2 k xs i (by omega)
      have hw := inc hlt hm
      have hn : nxs (2 * (i + 1)) k = nx (nx (nxs (2 * i) k)) := rfl
      have hk : ∀ (l : List (List D)) (a : List D), l.length = xs.length → (l.set i a)[i]? = some a := fun l a hl => by rw [List.getElem?_set_self (by omega)]
      simp only [TChunk.enc, TChunk.mk'] at hs hg
      simp only [nx] at hn hs
      generalize hL : (mkL (TChunk.mk' : Int → TChunk) 2 k xs i).map TChunk.enc = rows at *
      have hrl : rows.length = xs.length := by rw [← hL, List.length_map, hl]
      simp only [go_sem, Int.toNat_natCast, hg]
      repeat' (first
        | (refine CallS.intro (laws_markText _) ?_; simp only [go_sem, Int.toNat_natCast, hw, hk _ _ hrl, List.length_set, hrl, List.set_set])
        | (with_reducible refine And.intro (by omega) ?_)
        | (with_reducible refine And.intro (by exact ⟨by omega, by omega⟩) ?_)
        | (with_reducible refine And.intro (by (try simp only [go_sem, hrl]) <;> first | omega | exact ⟨by omega, by simp⟩ | (simp; done)) ?_; try simp only [go_sem, Int.toNat_natCast, hg, hw, hk _ _ hrl, List.length_set, hrl, List.set_set])
        | (refine RoundE.intro (i + 1) [0] (by omega) (by omega) ?_))
      try simp only [go_sem, hn, hs]
      simp [hn]
      try exact hs.symm
    · simp only [go_sem]
      simp only [decide_eq_false_iff_not] at h1
      have : i = xs.length := by omega
      subst this
      have hl := mkL_len (TChunk.mk' : Int → TChunk) 2 k xs xs.length (by omega)
      simp [outOA, hl]
      rw [List.take_of_length_le (by simp [hl])]
def TStream.mk1 (k : Int) (x : TStream) : TStream := ⟨k, ⟨(nx k), ⟨(nx (nx k)), (nx (nx (nx k))), (nx (nx (nx (nx k)))), mkL (_root_.id : Int → Int) 1 (nx (nx (nx (nx (nx k))))) x.send.ring.cells x.send.ring.cells.length⟩, mkL (TRange.mk' : Int → TRange) 2 (nxs (1 * x.send.ring.cells.length) (nx (nx (nx (nx (nx k)))))) x.send.pending x.send.pending.length, mkL (TRange.mk' : Int → TRange) 2 (nxs (2 * x.send.pending.length) (nxs (1 * x.send.ring.cells.length) (nx (nx (nx (nx (nx k))))))) x.send.flight x.send.flight.length, mkL (TRange.mk' : Int → TRange) 2 (nxs (2 * x.send.flight.length) (nxs (2 * x.send.pending.length) (nxs (1 * x.send.ring.cells.length) (nx (nx (nx (nx (nx k)))))))) x.send.acked x.send.acked.length, (nxs (2 * x.send.acked.length) (nxs (2 * x.send.flight.length) (nxs (2 * x.send.pending.length) (nxs (1 * x.send.ring.cells.length) (nx (nx (nx (nx (nx k))))))))), (nx (nxs (2 * x.send.acked.length) (nxs (2 * x.send.flight.length) (nxs (2 * x.send.pending.length) (nxs (1 * x.send.ring.cells.length) (nx (nx (nx (nx (nx k)))))))))), (nx (nx (nxs (2 * x.send.acked.length) (nxs (2 * x.send.flight.length) (nxs (2 * x.send.pending.length) (nxs (1 * x.send.ring.cells.length) (nx (nx (nx (nx (nx k))))))))))), (nx (nx (nx (nxs (2 * x.send.acked.length) (nxs (2 * x.send.flight.length) (nxs (2 * x.send.pending.length) (nxs (1 * x.send.ring.cells.length) (nx (nx (nx (nx (nx k))))))))))))⟩, ⟨(nx (nx (nx (nx (nxs (2 * x.send.acked.length) (nxs (2 * x.send.flight.length) (nxs (2 * x.send.pending.length) (nxs (1 * x.send.ring.cells.length) (nx (nx (nx (nx (nx k))))))))))))), (nx (nx (nx (nx (nx (nxs (2 * x.send.acked.length) (nxs (2 * x.send.flight.length) (nxs (2 * x.send.pending.length) (nxs (1 * x.send.ring.cells.length) (nx (nx (nx (nx (nx k)))))))))))))), (nx (nx (nx (nx (nx (nx (nxs (2 * x.send.acked.length) (nxs (2 * x.send.flight.length) (nxs (2 * x.send.pending.length) (nxs (1 * x.send.ring.cells.length) (nx (nx (nx (nx (nx k))))))))))))))), (nx (nx (nx (nx (nx (nx (nx (nxs (2 * x.send.acked.length) (nxs (2 * x.send.flight.length) (nxs (2 * x.send.pending.length) (nxs (1 * x.send.ring.cells.length) (nx (nx (nx (nx (nx k))))))))))))))))⟩, ⟨(nx (nx (nx (nx (nx (nx (nx (nx (nxs (2 * x.send.acked.length) (nxs (2 * x.send.flight.length) (nxs (2 * x.send.pending.length) (nxs (1 * x.send.ring.cells.length) (nx (nx (nx (nx (nx k))))))))))))))))), ⟨(nx (nx (nx (nx (nx (nx (nx (nx (nx (nxs (2 * x.send.acked.length) (nxs (2 * x.send.flight.length) (nxs (2 * x.send.pending.length) (nxs (1 * x.send.ring.cells.length) (nx (nx (nx (nx (nx k)))))))))))))))))), mkL (TChunk.mk' : Int → TChunk) 2 (nx (nx (nx (nx (nx (nx (nx (nx (nx (nx (nxs (2 * x.send.acked.length) (nxs (2 * x.send.flight.length) (nxs (2 * x.send.pending.length) (nxs (1 * x.send.ring.cells.length) (nx (nx (nx (nx (nx k))))))))))))))))))) x.recv.buffer.chunks x.recv.buffer.chunks.length⟩, (nxs (2 * x.recv.buffer.chunks.length) (nx (nx (nx (nx (nx (nx (nx (nx (nx (nx (nxs (2 * x.send.acked.length) (nxs (2 * x.send.flight.length) (nxs (2 * x.send.pending.length) (nxs (1 * x.send.ring.cells.length) (nx (nx (nx (nx (nx k)))))))))))))))))))), (nx (nxs (2 * x.recv.buffer.chunks.length) (nx (nx (nx (nx (nx (nx (nx (nx (nx (nx (nxs (2 * x.send.acked.length) (nxs (2 * x.send.flight.length) (nxs (2 * x.send.pending.length) (nxs (1 * x.send.ring.cells.length) (nx (nx (nx (nx (nx k))))))))))))))))))))), (nx (nx (nxs (2 * x.recv.buffer.chunks.length) (nx (nx (nx (nx (nx (nx (nx (nx (nx (nx (nxs (2 * x.send.acked.length) (nxs (2 * x.send.flight.length) (nxs (2 * x.send.pending.length) (nxs (1 * x.send.ring.cells.length) (nx (nx (nx (nx (nx k))))))))))))))))))))))⟩, ⟨(nx (nx (nx (nxs (2 * x.recv.buffer.chunks.length) (nx (nx (nx (nx (nx (nx (nx (nx (nx (nx (nxs (2 * x.send.acked.length) (nxs (2 * x.send.flight.length) (nxs (2 * x.send.pending.length) (nxs (1 * x.send.ring.cells.length) (nx (nx (nx (nx (nx k))))))))))))))))))))))), (nx (nx (nx (nx (nxs (2 * x.recv.buffer.chunks.length) (nx (nx (nx (nx (nx (nx (nx (nx (nx (nx (nxs (2 * x.send.acked.length) (nxs (2 * x.send.flight.length) (nxs (2 * x.send.pending.length) (nxs (1 * x.send.ring.cells.length) (nx (nx (nx (nx (nx k)))))))))))))))))))))))), (nx (nx (nx (nx (nx (nxs (2 * x.recv.buffer.chunks.length) (nx (nx (nx (nx (nx (nx (nx (nx (nx (nx (nxs (2 * x.send.acked.length) (nxs (2 * x.send.flight.length) (nxs (2 * x.send.pending.length) (nxs (1 * x.send.ring.cells.length) (nx (nx (nx (nx (nx k))))))))))))))))))))))))), (nx (nx (nx (nx (nx (nx (nxs (2 * x.recv.buffer.chunks.length) (nx (nx (nx (nx (nx (nx (nx (nx (nx (nx (nxs (2 * x.send.acked.length) (nxs (2 * x.send.flight.length) (nxs (2 * x.send.pending.length) (nxs (1 * x.send.ring.cells.length) (nx (nx (nx (nx (nx k)))))))))))))))))))))))))), (nx (nx (nx (nx (nx (nx (nx (nxs (2 * x.recv.buffer.chunks.length) (nx (nx (nx (nx (nx (nx (nx (nx (nx (nx (nxs (2 * x.send.acked.length) (nxs (2 * x.send.flight.length) (nxs (2 * x.send.pending.length) (nxs (1 * x.send.ring.cells.length) (nx (nx (nx (nx (nx k))))))))))))))))))))))))))), (nx (nx (nx (nx (nx (nx (nx (nx (nxs (2 * x.recv.buffer.chunks.length) (nx (nx (nx (nx (nx (nx (nx (nx (nx (nx (nxs (2 * x.send.acked.length) (nxs (2 * x.send.flight.length) (nxs (2 * x.send.pending.length) (nxs (1 * x.send.ring.cells.length) (nx (nx (nx (nx (nx k))))))))))))))))))))))))))))⟩, ⟨(nx (nx (nx (nx (nx (nx (nx (nx (nx (nxs (2 * x.recv.buffer.chunks.length) (nx (nx (nx (nx (nx (nx (nx (nx (nx (nx (nxs (2 * x.send.acked.length) (nxs (2 * x.send.flight.length) (nxs (2 * x.send.pending.length) (nxs (1 * x.send.ring.cells.length) (nx (nx (nx (nx (nx k))))))))))))))))))))))))))))), decide (Int.tmod (nx (nx (nx (nx (nx (nx (nx (nx (nx (nx (nxs (2 * x.recv.buffer.chunks.length) (nx (nx (nx (nx (nx (nx (nx (nx (nx (nx (nxs (2 * x.send.acked.length) (nxs (2 * x.send.flight.length) (nxs (2 * x.send.pending.length) (nxs (1 * x.send.ring.cells.length) (nx (nx (nx (nx (nx k)))))))))))))))))))))))))))))) 3 = 0)⟩, decide (Int.tmod (nx (nx (nx (nx (nx (nx (nx (nx (nx (nx (nx (nxs (2 * x.recv.buffer.chunks.length) (nx (nx (nx (nx (nx (nx (nx (nx (nx (nx (nxs (2 * x.send.acked.length) (nxs (2 * x.send.flight.length) (nxs (2 * x.send.pending.length) (nxs (1 * x.send.ring.cells.length) (nx (nx (nx (nx (nx k))))))))))))))))))))))))))))))) 3 = 0), decide (Int.tmod (nx (nx (nx (nx (nx (nx (nx (nx (nx (nx (nx (nx (nxs (2 * x.recv.buffer.chunks.length) (nx (nx (nx (nx (nx (nx (nx (nx (nx (nx (nxs (2 * x.send.acked.length) (nxs (2 * x.send.flight.length) (nxs (2 * x.send.pending.length) (nxs (1 * x.send.ring.cells.length) (nx (nx (nx (nx (nx k)))))))))))))))))))))))))))))))) 3 = 0), decide (Int.tmod (nx (nx (nx (nx (nx (nx (nx (nx (nx (nx (nx (nx (nx (nxs (2 * x.recv.buffer.chunks.length) (nx (nx (nx (nx (nx (nx (nx (nx (nx (nx (nxs (2 * x.send.acked.length) (nxs (2 * x.send.flight.length) (nxs (2 * x.send.pending.length) (nxs (1 * x.send.ring.cells.length) (nx (nx (nx (nx (nx k))))))))))))))))))))))))))))))))) 3 = 0), decide (Int.tmod (nx (nx (nx (nx (nx (nx (nx (nx (nx (nx (nx (nx (nx (nx (nxs (2 * x.recv.buffer.chunks.length) (nx (nx (nx (nx (nx (nx (nx (nx (nx (nx (nxs (2 * x.send.acked.length) (nxs (2 * x.send.flight.length) (nxs (2 * x.send.pending.length) (nxs (1 * x.send.ring.cells.length) (nx (nx (nx (nx (nx k)))))))))))))))))))))))))))))))))) 3 = 0), decide (Int.tmod (nx (nx (nx (nx (nx (nx (nx (nx (nx (nx (nx (nx (nx (nx (nx (nxs (2 * x.recv.buffer.chunks.length) (nx (nx (nx (nx (nx (nx (nx (nx (nx (nx (nxs (2 * x.send.acked.length) (nxs (2 * x.send.flight.length) (nxs (2 * x.send.pending.length) (nxs (1 * x.send.ring.cells.length) (nx (nx (nx (nx (nx k))))))))))))))))))))))))))))))))))) 3 = 0), decide (Int.tmod (nx (nx (nx (nx (nx (nx (nx (nx (nx (nx (nx (nx (nx (nx (nx (nx (nxs (2 * x.recv.buffer.chunks.length) (nx (nx (nx (nx (nx (nx (nx (nx (nx (nx (nxs (2 * x.send.acked.length) (nxs (2 * x.send.flight.length) (nxs (2 * x.send.pending.length) (nxs (1 * x.send.ring.cells.length) (nx (nx (nx (nx (nx k)))))))))))))))))))))))))))))))))))) 3 = 0), (nx (nx (nx (nx (nx (nx (nx (nx (nx (nx (nx (nx (nx (nx (nx (nx (nx (nxs (2 * x.recv.buffer.chunks.length) (nx (nx (nx (nx (nx (nx (nx (nx (nx (nx (nxs (2 * x.send.acked.length) (nxs (2 * x.send.flight.length) (nxs (2 * x.send.pending.length) (nxs (1 * x.send.ring.cells.length) (nx (nx (nx (nx (nx k))))))))))))))))))))))))))))))))))))), decide (Int.tmod (nx (nx (nx (nx (nx (nx (nx (nx (nx (nx (nx (nx (nx (nx (nx (nx (nx (nx (nxs (2 * x.recv.buffer.chunks.length) (nx (nx (nx (nx (nx (nx (nx (nx (nx (nx (nxs (2 * x.send.acked.length) (nxs (2 * x.send.flight.length) (nxs (2 * x.send.pending.length) (nxs (1 * x.send.ring.cells.length) (nx (nx (nx (nx (nx k)))))))))))))))))))))))))))))))))))))) 3 = 0)⟩
def TStream.adv1 (k : Int) (x : TStream) : Int := (nx (nx (nx (nx (nx (nx (nx (nx (nx (nx (nx (nx (nx (nx (nx (nx (nx (nx (nx (nxs (2 * x.recv.buffer.chunks.length) (nx (nx (nx (nx (nx (nx (nx (nx (nx (nx (nxs (2 * x.send.acked.length) (nxs (2 * x.send.flight.length) (nxs (2 * x.send.pending.length) (nxs (1 * x.send.ring.cells.length) (nx (nx (nx (nx (nx k)))))))))))))))))))))))))))))))))))))))
def TStream.cnt1 (x : TStream) : Nat := 34 + 1 * x.send.ring.cells.length + 2 * x.send.pending.length + 2 * x.send.flight.length + 2 * x.send.acked.length + 2 * x.recv.buffer.chunks.length
def TStream.held1 (k : Int) (x : TStream) : Option Int := if x.id = k then (if x.send.state = (IntKind.i64.wrap (k + 1)) then (if x.send.ring.size = (IntKind.i64.wrap ((IntKind.i64.wrap (k + 1)) + 1)) then (if x.send.ring.base = (IntKind.i64.wrap ((IntKind.i64.wrap ((IntKind.i64.wrap (k + 1)) + 1)) + 1)) then (if x.send.ring.end' = (IntKind.i64.wrap ((IntKind.i64.wrap ((IntKind.i64.wrap ((IntKind.i64.wrap (k + 1)) + 1)) + 1)) + 1)) then (if (heldL (_root_.id : Int → Int) 1 (IntKind.i64.wrap ((IntKind.i64.wrap ((IntKind.i64.wrap ((IntKind.i64.wrap ((IntKind.i64.wrap (k + 1)) + 1)) + 1)) + 1)) + 1)) x.send.ring.cells) < 0 then none else (if (heldL (TRange.mk' : Int → TRange) 2 (heldL (_root_.id : Int → Int) 1 (IntKind.i64.wrap ((IntKind.i64.wrap ((IntKind.i64.wrap ((IntKind.i64.wrap ((IntKind.i64.wrap (k + 1)) + 1)) + 1)) + 1)) + 1)) x.send.ring.cells) x.send.pending) < 0 then none else (if (heldL (TRange.mk' : Int → TRange) 2 (heldL (TRange.mk' : Int → TRange) 2 (heldL (_root_.id : Int → Int) 1 (IntKind.i64.wrap ((IntKind.i64.wrap ((IntKind.i64.wrap ((IntKind.i64.wrap ((IntKind.i64.wrap (k + 1)) + 1)) + 1)) + 1)) + 1)) x.send.ring.cells) x.send.pending) x.send.flight) < 0 then none else (if (heldL (TRange.mk' : Int → TRange) 2 (heldL (TRange.mk' : Int → TRange) 2 (heldL (TRange.mk' : Int → TRange) 2 (heldL (_root_.id : Int → Int) 1 (IntKind.i64.wrap ((IntKind.i64.wrap ((IntKind.i64.wrap ((IntKind.i64.wrap ((IntKind.i64.wrap (k + 1)) + 1)) + 1)) + 1)) + 1)) x.send.ring.cells) x.send.pending) x.send.flight) x.send.acked) < 0 then none else (if x.send.final = (heldL (TRange.mk' : Int → TRange) 2 (heldL (TRange.mk' : Int → TRange) 2 (heldL (TRange.mk' : Int → TRange) 2 (heldL (_root_.id : Int → Int) 1 (IntKind.i64.wrap ((IntKind.i64.wrap ((IntKind.i64.wrap ((IntKind.i64.wrap ((IntKind.i64.wrap (k + 1)) + 1)) + 1)) + 1)) + 1)) x.send.ring.cells) x.send.pending) x.send.flight) x.send.acked) then (if x.send.fin = (IntKind.i64.wrap ((heldL (TRange.mk' : Int → TRange) 2 (heldL (TRange.mk' : Int → TRange) 2 (heldL (TRange.mk' : Int → TRange) 2 (heldL (_root_.id : Int → Int) 1 (IntKind.i64.wrap ((IntKind.i64.wrap ((IntKind.i64.wrap ((IntKind.i64.wrap ((IntKind.i64.wrap (k + 1)) + 1)) + 1)) + 1)) + 1)) x.send.ring.cells) x.send.pending) x.send.flight) x.send.acked) + 1)) then (if x.send.sent = (IntKind.i64.wrap ((IntKind.i64.wrap ((heldL (TRange.mk' : Int → TRange) 2 (heldL (TRange.mk' : Int → TRange) 2 (heldL (TRange.mk' : Int → TRange) 2 (heldL (_root_.id : Int → Int) 1 (IntKind.i64.wrap ((IntKind.i64.wrap ((IntKind.i64.wrap ((IntKind.i64.wrap ((IntKind.i64.wrap (k + 1)) + 1)) + 1)) + 1)) + 1)) x.send.ring.cells) x.send.pending) x.send.flight) x.send.acked) + 1)) + 1)) then (if x.send.code = (IntKind.i64.wrap ((IntKind.i64.wrap ((IntKind.i64.wrap ((heldL (TRange.mk' : Int → TRange) 2 (heldL (TRange.mk' : Int → TRange) 2 (heldL (TRange.mk' : Int → TRange) 2 (heldL (_root_.id : Int → Int) 1 (IntKind.i64.wrap ((IntKind.i64.wrap ((IntKind.i64.wrap ((IntKind.i64.wrap ((IntKind.i64.wrap (k + 1)) + 1)) + 1)) + 1)) + 1)) x.send.ring.cells) x.send.pending) x.send.flight) x.send.acked) + 1)) + 1)) + 1)) then (if x.credit.limit = (IntKind.i64.wrap ((IntKind.i64.wrap ((IntKind.i64.wrap ((IntKind.i64.wrap ((heldL (TRange.mk' : Int → TRange) 2 (heldL (TRange.mk' : Int → TRange) 2 (heldL (TRange.mk' : Int → TRange) 2 (heldL (_root_.id : Int → Int) 1 (IntKind.i64.wrap ((IntKind.i64.wrap ((IntKind.i64.wrap ((IntKind.i64.wrap ((IntKind.i64.wrap (k + 1)) + 1)) + 1)) + 1)) + 1)) x.send.ring.cells) x.send.pending) x.send.flight) x.send.acked) + 1)) + 1)) + 1)) + 1)) then (if x.credit.used = (IntKind.i64.wrap ((IntKind.i64.wrap ((IntKind.i64.wrap ((IntKind.i64.wrap ((IntKind.i64.wrap ((heldL (TRange.mk' : Int → TRange) 2 (heldL (TRange.mk' : Int → TRange) 2 (heldL (TRange.mk' : Int → TRange) 2 (heldL (_root_.id : Int → Int) 1 (IntKind.i64.wrap ((IntKind.i64.wrap ((IntKind.i64.wrap ((IntKind.i64.wrap ((IntKind.i64.wrap (k + 1)) + 1)) + 1)) + 1)) + 1)) x.send.ring.cells) x.send.pending) x.send.flight) x.send.acked) + 1)) + 1)) + 1)) + 1)) + 1)) then (if x.credit.blocked = (IntKind.i64.wrap ((IntKind.i64.wrap ((IntKind.i64.wrap ((IntKind.i64.wrap ((IntKind.i64.wrap ((IntKind.i64.wrap ((heldL (TRange.mk' : Int → TRange) 2 (heldL (TRange.mk' : Int → TRange) 2 (heldL (TRange.mk' : Int → TRange) 2 (heldL (_root_.id : Int → Int) 1 (IntKind.i64.wrap ((IntKind.i64.wrap ((IntKind.i64.wrap ((IntKind.i64.wrap ((IntKind.i64.wrap (k + 1)) + 1)) + 1)) + 1)) + 1)) x.send.ring.cells) x.send.pending) x.send.flight) x.send.acked) + 1)) + 1)) + 1)) + 1)) + 1)) + 1)) then (if x.credit.told = (IntKind.i64.wrap ((IntKind.i64.wrap ((IntKind.i64.wrap ((IntKind.i64.wrap ((IntKind.i64.wrap ((IntKind.i64.wrap ((IntKind.i64.wrap ((heldL (TRange.mk' : Int → TRange) 2 (heldL (TRange.mk' : Int → TRange) 2 (heldL (TRange.mk' : Int → TRange) 2 (heldL (_root_.id : Int → Int) 1 (IntKind.i64.wrap ((IntKind.i64.wrap ((IntKind.i64.wrap ((IntKind.i64.wrap ((IntKind.i64.wrap (k + 1)) + 1)) + 1)) + 1)) + 1)) x.send.ring.cells) x.send.pending) x.send.flight) x.send.acked) + 1)) + 1)) + 1)) + 1)) + 1)) + 1)) + 1)) then (if x.recv.state = (IntKind.i64.wrap ((IntKind.i64.wrap ((IntKind.i64.wrap ((IntKind.i64.wrap ((IntKind.i64.wrap ((IntKind.i64.wrap ((IntKind.i64.wrap ((IntKind.i64.wrap ((heldL (TRange.mk' : Int → TRange) 2 (heldL (TRange.mk' : Int → TRange) 2 (heldL (TRange.mk' : Int → TRange) 2 (heldL (_root_.id : Int → Int) 1 (IntKind.i64.wrap ((IntKind.i64.wrap ((IntKind.i64.wrap ((IntKind.i64.wrap ((IntKind.i64.wrap (k + 1)) + 1)) + 1)) + 1)) + 1)) x.send.ring.cells) x.send.pending) x.send.flight) x.send.acked) + 1)) + 1)) + 1)) + 1)) + 1)) + 1)) + 1)) + 1)) then (if x.recv.buffer.next = (IntKind.i64.wrap ((IntKind.i64.wrap ((IntKind.i64.wrap ((IntKind.i64.wrap ((IntKind.i64.wrap ((IntKind.i64.wrap ((IntKind.i64.wrap ((IntKind.i64.wrap ((IntKind.i64.wrap ((heldL (TRange.mk' : Int → TRange) 2 (heldL (TRange.mk' : Int → TRange) 2 (heldL (TRange.mk' : Int → TRange) 2 (heldL (_root_.id : Int → Int) 1 (IntKind.i64.wrap ((IntKind.i64.wrap ((IntKind.i64.wrap ((IntKind.i64.wrap ((IntKind.i64.wrap (k + 1)) + 1)) + 1)) + 1)) + 1)) x.send.ring.cells) x.send.pending) x.send.flight) x.send.acked) + 1)) + 1)) + 1)) + 1)) + 1)) + 1)) + 1)) + 1)) + 1)) then (if (heldL (TChunk.mk' : Int → TChunk) 2 (IntKind.i64.wrap ((IntKind.i64.wrap ((IntKind.i64.wrap ((IntKind.i64.wrap ((IntKind.i64.wrap ((IntKind.i64.wrap ((IntKind.i64.wrap ((IntKind.i64.wrap ((IntKind.i64.wrap ((IntKind.i64.wrap ((heldL (TRange.mk' : Int → TRange) 2 (heldL (TRange.mk' : Int → TRange) 2 (heldL (TRange.mk' : Int → TRange) 2 (heldL (_root_.id : Int → Int) 1 (IntKind.i64.wrap ((IntKind.i64.wrap ((IntKind.i64.wrap ((IntKind.i64.wrap ((IntKind.i64.wrap (k + 1)) + 1)) + 1)) + 1)) + 1)) x.send.ring.cells) x.send.pending) x.send.flight) x.send.acked) + 1)) + 1)) + 1)) + 1)) + 1)) + 1)) + 1)) + 1)) + 1)) + 1)) x.recv.buffer.chunks) < 0 then none else (if x.recv.final = (heldL (TChunk.mk' : Int → TChunk) 2 (IntKind.i64.wrap ((IntKind.i64.wrap ((IntKind.i64.wrap ((IntKind.i64.wrap ((IntKind.i64.wrap ((IntKind.i64.wrap ((IntKind.i64.wrap ((IntKind.i64.wrap ((IntKind.i64.wrap ((IntKind.i64.wrap ((heldL (TRange.mk' : Int → TRange) 2 (heldL (TRange.mk' : Int → TRange) 2 (heldL (TRange.mk' : Int → TRange) 2 (heldL (_root_.id : Int → Int) 1 (IntKind.i64.wrap ((IntKind.i64.wrap ((IntKind.i64.wrap ((IntKind.i64.wrap ((IntKind.i64.wrap (k + 1)) + 1)) + 1)) + 1)) + 1)) x.send.ring.cells) x.send.pending) x.send.flight) x.send.acked) + 1)) + 1)) + 1)) + 1)) + 1)) + 1)) + 1)) + 1)) + 1)) + 1)) x.recv.buffer.chunks) then (if x.recv.highest = (IntKind.i64.wrap ((heldL (TChunk.mk' : Int → TChunk) 2 (IntKind.i64.wrap ((IntKind.i64.wrap ((IntKind.i64.wrap ((IntKind.i64.wrap ((IntKind.i64.wrap ((IntKind.i64.wrap ((IntKind.i64.wrap ((IntKind.i64.wrap ((IntKind.i64.wrap ((IntKind.i64.wrap ((heldL (TRange.mk' : Int → TRange) 2 (heldL (TRange.mk' : Int → TRange) 2 (heldL (TRange.mk' : Int → TRange) 2 (heldL (_root_.id : Int → Int) 1 (IntKind.i64.wrap ((IntKind.i64.wrap ((IntKind.i64.wrap ((IntKind.i64.wrap ((IntKind.i64.wrap (k + 1)) + 1)) + 1)) + 1)) + 1)) x.send.ring.cells) x.send.pending) x.send.flight) x.send.acked) + 1)) + 1)) + 1)) + 1)) + 1)) + 1)) + 1)) + 1)) + 1)) + 1)) x.recv.buffer.chunks) + 1)) then (if x.recv.code = (IntKind.i64.wrap ((IntKind.i64.wrap ((heldL (TChunk.mk' : Int → TChunk) 2 (IntKind.i64.wrap ((IntKind.i64.wrap ((IntKind.i64.wrap ((IntKind.i64.wrap ((IntKind.i64.wrap ((IntKind.i64.wrap ((IntKind.i64.wrap ((IntKind.i64.wrap ((IntKind.i64.wrap ((IntKind.i64.wrap ((heldL (TRange.mk' : Int → TRange) 2 (heldL (TRange.mk' : Int → TRange) 2 (heldL (TRange.mk' : Int → TRange) 2 (heldL (_root_.id : Int → Int) 1 (IntKind.i64.wrap ((IntKind.i64.wrap ((IntKind.i64.wrap ((IntKind.i64.wrap ((IntKind.i64.wrap (k + 1)) + 1)) + 1)) + 1)) + 1)) x.send.ring.cells) x.send.pending) x.send.flight) x.send.acked) + 1)) + 1)) + 1)) + 1)) + 1)) + 1)) + 1)) + 1)) + 1)) + 1)) x.recv.buffer.chunks) + 1)) + 1)) then (if x.window.size = (IntKind.i64.wrap ((IntKind.i64.wrap ((IntKind.i64.wrap ((heldL (TChunk.mk' : Int → TChunk) 2 (IntKind.i64.wrap ((IntKind.i64.wrap ((IntKind.i64.wrap ((IntKind.i64.wrap ((IntKind.i64.wrap ((IntKind.i64.wrap ((IntKind.i64.wrap ((IntKind.i64.wrap ((IntKind.i64.wrap ((IntKind.i64.wrap ((heldL (TRange.mk' : Int → TRange) 2 (heldL (TRange.mk' : Int → TRange) 2 (heldL (TRange.mk' : Int → TRange) 2 (heldL (_root_.id : Int → Int) 1 (IntKind.i64.wrap ((IntKind.i64.wrap ((IntKind.i64.wrap ((IntKind.i64.wrap ((IntKind.i64.wrap (k + 1)) + 1)) + 1)) + 1)) + 1)) x.send.ring.cells) x.send.pending) x.send.flight) x.send.acked) + 1)) + 1)) + 1)) + 1)) + 1)) + 1)) + 1)) + 1)) + 1)) + 1)) x.recv.buffer.chunks) + 1)) + 1)) + 1)) then (if x.window.most = (IntKind.i64.wrap ((IntKind.i64.wrap ((IntKind.i64.wrap ((IntKind.i64.wrap ((heldL (TChunk.mk' : Int → TChunk) 2 (IntKind.i64.wrap ((IntKind.i64.wrap ((IntKind.i64.wrap ((IntKind.i64.wrap ((IntKind.i64.wrap ((IntKind.i64.wrap ((IntKind.i64.wrap ((IntKind.i64.wrap ((IntKind.i64.wrap ((IntKind.i64.wrap ((heldL (TRange.mk' : Int → TRange) 2 (heldL (TRange.mk' : Int → TRange) 2 (heldL (TRange.mk' : Int → TRange) 2 (heldL (_root_.id : Int → Int) 1 (IntKind.i64.wrap ((IntKind.i64.wrap ((IntKind.i64.wrap ((IntKind.i64.wrap ((IntKind.i64.wrap (k + 1)) + 1)) + 1)) + 1)) + 1)) x.send.ring.cells) x.send.pending) x.send.flight) x.send.acked) + 1)) + 1)) + 1)) + 1)) + 1)) + 1)) + 1)) + 1)) + 1)) + 1)) x.recv.buffer.chunks) + 1)) + 1)) + 1)) + 1)) then (if x.window.limit = (IntKind.i64.wrap ((IntKind.i64.wrap ((IntKind.i64.wrap ((IntKind.i64.wrap ((IntKind.i64.wrap ((heldL (TChunk.mk' : Int → TChunk) 2 (IntKind.i64.wrap ((IntKind.i64.wrap ((IntKind.i64.wrap ((IntKind.i64.wrap ((IntKind.i64.wrap ((IntKind.i64.wrap ((IntKind.i64.wrap ((IntKind.i64.wrap ((IntKind.i64.wrap ((IntKind.i64.wrap ((heldL (TRange.mk' : Int → TRange) 2 (heldL (TRange.mk' : Int → TRange) 2 (heldL (TRange.mk' : Int → TRange) 2 (heldL (_root_.id : Int → Int) 1 (IntKind.i64.wrap ((IntKind.i64.wrap ((IntKind.i64.wrap ((IntKind.i64.wrap ((IntKind.i64.wrap (k + 1)) + 1)) + 1)) + 1)) + 1)) x.send.ring.cells) x.send.pending) x.send.flight) x.send.acked) + 1)) + 1)) + 1)) + 1)) + 1)) + 1)) + 1)) + 1)) + 1)) + 1)) x.recv.buffer.chunks) + 1)) + 1)) + 1)) + 1)) + 1)) then (if x.window.seen = (IntKind.i64.wrap ((IntKind.i64.wrap ((IntKind.i64.wrap ((IntKind.i64.wrap ((IntKind.i64.wrap ((IntKind.i64.wrap ((heldL (TChunk.mk' : Int → TChunk) 2 (IntKind.i64.wrap ((IntKind.i64.wrap ((IntKind.i64.wrap ((IntKind.i64.wrap ((IntKind.i64.wrap ((IntKind.i64.wrap ((IntKind.i64.wrap ((IntKind.i64.wrap ((IntKind.i64.wrap ((IntKind.i64.wrap ((heldL (TRange.mk' : Int → TRange) 2 (heldL (TRange.mk' : Int → TRange) 2 (heldL (TRange.mk' : Int → TRange) 2 (heldL (_root_.id : Int → Int) 1 (IntKind.i64.wrap ((IntKind.i64.wrap ((IntKind.i64.wrap ((IntKind.i64.wrap ((IntKind.i64.wrap (k + 1)) + 1)) + 1)) + 1)) + 1)) x.send.ring.cells) x.send.pending) x.send.flight) x.send.acked) + 1)) + 1)) + 1)) + 1)) + 1)) + 1)) + 1)) + 1)) + 1)) + 1)) x.recv.buffer.chunks) + 1)) + 1)) + 1)) + 1)) + 1)) + 1)) then (if x.window.read = (IntKind.i64.wrap ((IntKind.i64.wrap ((IntKind.i64.wrap ((IntKind.i64.wrap ((IntKind.i64.wrap ((IntKind.i64.wrap ((IntKind.i64.wrap ((heldL (TChunk.mk' : Int → TChunk) 2 (IntKind.i64.wrap ((IntKind.i64.wrap ((IntKind.i64.wrap ((IntKind.i64.wrap ((IntKind.i64.wrap ((IntKind.i64.wrap ((IntKind.i64.wrap ((IntKind.i64.wrap ((IntKind.i64.wrap ((IntKind.i64.wrap ((heldL (TRange.mk' : Int → TRange) 2 (heldL (TRange.mk' : Int → TRange) 2 (heldL (TRange.mk' : Int → TRange) 2 (heldL (_root_.id : Int → Int) 1 (IntKind.i64.wrap ((IntKind.i64.wrap ((IntKind.i64.wrap ((IntKind.i64.wrap ((IntKind.i64.wrap (k + 1)) + 1)) + 1)) + 1)) + 1)) x.send.ring.cells) x.send.pending) x.send.flight) x.send.acked) + 1)) + 1)) + 1)) + 1)) + 1)) + 1)) + 1)) + 1)) + 1)) + 1)) x.recv.buffer.chunks) + 1)) + 1)) + 1)) + 1)) + 1)) + 1)) + 1)) then (if x.window.since = (IntKind.i64.wrap ((IntKind.i64.wrap ((IntKind.i64.wrap ((IntKind.i64.wrap ((IntKind.i64.wrap ((IntKind.i64.wrap ((IntKind.i64.wrap ((IntKind.i64.wrap ((heldL (TChunk.mk' : Int → TChunk) 2 (IntKind.i64.wrap ((IntKind.i64.wrap ((IntKind.i64.wrap ((IntKind.i64.wrap ((IntKind.i64.wrap ((IntKind.i64.wrap ((IntKind.i64.wrap ((IntKind.i64.wrap ((IntKind.i64.wrap ((IntKind.i64.wrap ((heldL (TRange.mk' : Int → TRange) 2 (heldL (TRange.mk' : Int → TRange) 2 (heldL (TRange.mk' : Int → TRange) 2 (heldL (_root_.id : Int → Int) 1 (IntKind.i64.wrap ((IntKind.i64.wrap ((IntKind.i64.wrap ((IntKind.i64.wrap ((IntKind.i64.wrap (k + 1)) + 1)) + 1)) + 1)) + 1)) x.send.ring.cells) x.send.pending) x.send.flight) x.send.acked) + 1)) + 1)) + 1)) + 1)) + 1)) + 1)) + 1)) + 1)) + 1)) + 1)) x.recv.buffer.chunks) + 1)) + 1)) + 1)) + 1)) + 1)) + 1)) + 1)) + 1)) then (if x.priority.urgency = (IntKind.i64.wrap ((IntKind.i64.wrap ((IntKind.i64.wrap ((IntKind.i64.wrap ((IntKind.i64.wrap ((IntKind.i64.wrap ((IntKind.i64.wrap ((IntKind.i64.wrap ((IntKind.i64.wrap ((heldL (TChunk.mk' : Int → TChunk) 2 (IntKind.i64.wrap ((IntKind.i64.wrap ((IntKind.i64.wrap ((IntKind.i64.wrap ((IntKind.i64.wrap ((IntKind.i64.wrap ((IntKind.i64.wrap ((IntKind.i64.wrap ((IntKind.i64.wrap ((IntKind.i64.wrap ((heldL (TRange.mk' : Int → TRange) 2 (heldL (TRange.mk' : Int → TRange) 2 (heldL (TRange.mk' : Int → TRange) 2 (heldL (_root_.id : Int → Int) 1 (IntKind.i64.wrap ((IntKind.i64.wrap ((IntKind.i64.wrap ((IntKind.i64.wrap ((IntKind.i64.wrap (k + 1)) + 1)) + 1)) + 1)) + 1)) x.send.ring.cells) x.send.pending) x.send.flight) x.send.acked) + 1)) + 1)) + 1)) + 1)) + 1)) + 1)) + 1)) + 1)) + 1)) + 1)) x.recv.buffer.chunks) + 1)) + 1)) + 1)) + 1)) + 1)) + 1)) + 1)) + 1)) + 1)) then (if x.priority.incremental = decide (Int.tmod (IntKind.i64.wrap ((IntKind.i64.wrap ((IntKind.i64.wrap ((IntKind.i64.wrap ((IntKind.i64.wrap ((IntKind.i64.wrap ((IntKind.i64.wrap ((IntKind.i64.wrap ((IntKind.i64.wrap ((IntKind.i64.wrap ((heldL (TChunk.mk' : Int → TChunk) 2 (IntKind.i64.wrap ((IntKind.i64.wrap ((IntKind.i64.wrap ((IntKind.i64.wrap ((IntKind.i64.wrap ((IntKind.i64.wrap ((IntKind.i64.wrap ((IntKind.i64.wrap ((IntKind.i64.wrap ((IntKind.i64.wrap ((heldL (TRange.mk' : Int → TRange) 2 (heldL (TRange.mk' : Int → TRange) 2 (heldL (TRange.mk' : Int → TRange) 2 (heldL (_root_.id : Int → Int) 1 (IntKind.i64.wrap ((IntKind.i64.wrap ((IntKind.i64.wrap ((IntKind.i64.wrap ((IntKind.i64.wrap (k + 1)) + 1)) + 1)) + 1)) + 1)) x.send.ring.cells) x.send.pending) x.send.flight) x.send.acked) + 1)) + 1)) + 1)) + 1)) + 1)) + 1)) + 1)) + 1)) + 1)) + 1)) x.recv.buffer.chunks) + 1)) + 1)) + 1)) + 1)) + 1)) + 1)) + 1)) + 1)) + 1)) + 1)) 3 = 0) then (if x.canSend = decide (Int.tmod (IntKind.i64.wrap ((IntKind.i64.wrap ((IntKind.i64.wrap ((IntKind.i64.wrap ((IntKind.i64.wrap ((IntKind.i64.wrap ((IntKind.i64.wrap ((IntKind.i64.wrap ((IntKind.i64.wrap ((IntKind.i64.wrap ((IntKind.i64.wrap ((heldL (TChunk.mk' : Int → TChunk) 2 (IntKind.i64.wrap ((IntKind.i64.wrap ((IntKind.i64.wrap ((IntKind.i64.wrap ((IntKind.i64.wrap ((IntKind.i64.wrap ((IntKind.i64.wrap ((IntKind.i64.wrap ((IntKind.i64.wrap ((IntKind.i64.wrap ((heldL (TRange.mk' : Int → TRange) 2 (heldL (TRange.mk' : Int → TRange) 2 (heldL (TRange.mk' : Int → TRange) 2 (heldL (_root_.id : Int → Int) 1 (IntKind.i64.wrap ((IntKind.i64.wrap ((IntKind.i64.wrap ((IntKind.i64.wrap ((IntKind.i64.wrap (k + 1)) + 1)) + 1)) + 1)) + 1)) x.send.ring.cells) x.send.pending) x.send.flight) x.send.acked) + 1)) + 1)) + 1)) + 1)) + 1)) + 1)) + 1)) + 1)) + 1)) + 1)) x.recv.buffer.chunks) + 1)) + 1)) + 1)) + 1)) + 1)) + 1)) + 1)) + 1)) + 1)) + 1)) + 1)) 3 = 0) then (if x.canRecv = decide (Int.tmod (IntKind.i64.wrap ((IntKind.i64.wrap ((IntKind.i64.wrap ((IntKind.i64.wrap ((IntKind.i64.wrap ((IntKind.i64.wrap ((IntKind.i64.wrap ((IntKind.i64.wrap ((IntKind.i64.wrap ((IntKind.i64.wrap ((IntKind.i64.wrap ((IntKind.i64.wrap ((heldL (TChunk.mk' : Int → TChunk) 2 (IntKind.i64.wrap ((IntKind.i64.wrap ((IntKind.i64.wrap ((IntKind.i64.wrap ((IntKind.i64.wrap ((IntKind.i64.wrap ((IntKind.i64.wrap ((IntKind.i64.wrap ((IntKind.i64.wrap ((IntKind.i64.wrap ((heldL (TRange.mk' : Int → TRange) 2 (heldL (TRange.mk' : Int → TRange) 2 (heldL (TRange.mk' : Int → TRange) 2 (heldL (_root_.id : Int → Int) 1 (IntKind.i64.wrap ((IntKind.i64.wrap ((IntKind.i64.wrap ((IntKind.i64.wrap ((IntKind.i64.wrap (k + 1)) + 1)) + 1)) + 1)) + 1)) x.send.ring.cells) x.send.pending) x.send.flight) x.send.acked) + 1)) + 1)) + 1)) + 1)) + 1)) + 1)) + 1)) + 1)) + 1)) + 1)) x.recv.buffer.chunks) + 1)) + 1)) + 1)) + 1)) + 1)) + 1)) + 1)) + 1)) + 1)) + 1)) + 1)) + 1)) 3 = 0) then (if x.tellReset = decide (Int.tmod (IntKind.i64.wrap ((IntKind.i64.wrap ((IntKind.i64.wrap ((IntKind.i64.wrap ((IntKind.i64.wrap ((IntKind.i64.wrap ((IntKind.i64.wrap ((IntKind.i64.wrap ((IntKind.i64.wrap ((IntKind.i64.wrap ((IntKind.i64.wrap ((IntKind.i64.wrap ((IntKind.i64.wrap ((heldL (TChunk.mk' : Int → TChunk) 2 (IntKind.i64.wrap ((IntKind.i64.wrap ((IntKind.i64.wrap ((IntKind.i64.wrap ((IntKind.i64.wrap ((IntKind.i64.wrap ((IntKind.i64.wrap ((IntKind.i64.wrap ((IntKind.i64.wrap ((IntKind.i64.wrap ((heldL (TRange.mk' : Int → TRange) 2 (heldL (TRange.mk' : Int → TRange) 2 (heldL (TRange.mk' : Int → TRange) 2 (heldL (_root_.id : Int → Int) 1 (IntKind.i64.wrap ((IntKind.i64.wrap ((IntKind.i64.wrap ((IntKind.i64.wrap ((IntKind.i64.wrap (k + 1)) + 1)) + 1)) + 1)) + 1)) x.send.ring.cells) x.send.pending) x.send.flight) x.send.acked) + 1)) + 1)) + 1)) + 1)) + 1)) + 1)) + 1)) + 1)) + 1)) + 1)) x.recv.buffer.chunks) + 1)) + 1)) + 1)) + 1)) + 1)) + 1)) + 1)) + 1)) + 1)) + 1)) + 1)) + 1)) + 1)) 3 = 0) then (if x.tellStop = decide (Int.tmod (IntKind.i64.wrap ((IntKind.i64.wrap ((IntKind.i64.wrap ((IntKind.i64.wrap ((IntKind.i64.wrap ((IntKind.i64.wrap ((IntKind.i64.wrap ((IntKind.i64.wrap ((IntKind.i64.wrap ((IntKind.i64.wrap ((IntKind.i64.wrap ((IntKind.i64.wrap ((IntKind.i64.wrap ((IntKind.i64.wrap ((heldL (TChunk.mk' : Int → TChunk) 2 (IntKind.i64.wrap ((IntKind.i64.wrap ((IntKind.i64.wrap ((IntKind.i64.wrap ((IntKind.i64.wrap ((IntKind.i64.wrap ((IntKind.i64.wrap ((IntKind.i64.wrap ((IntKind.i64.wrap ((IntKind.i64.wrap ((heldL (TRange.mk' : Int → TRange) 2 (heldL (TRange.mk' : Int → TRange) 2 (heldL (TRange.mk' : Int → TRange) 2 (heldL (_root_.id : Int → Int) 1 (IntKind.i64.wrap ((IntKind.i64.wrap ((IntKind.i64.wrap ((IntKind.i64.wrap ((IntKind.i64.wrap (k + 1)) + 1)) + 1)) + 1)) + 1)) x.send.ring.cells) x.send.pending) x.send.flight) x.send.acked) + 1)) + 1)) + 1)) + 1)) + 1)) + 1)) + 1)) + 1)) + 1)) + 1)) x.recv.buffer.chunks) + 1)) + 1)) + 1)) + 1)) + 1)) + 1)) + 1)) + 1)) + 1)) + 1)) + 1)) + 1)) + 1)) + 1)) 3 = 0) then (if x.tellMost = decide (Int.tmod (IntKind.i64.wrap ((IntKind.i64.wrap ((IntKind.i64.wrap ((IntKind.i64.wrap ((IntKind.i64.wrap ((IntKind.i64.wrap ((IntKind.i64.wrap ((IntKind.i64.wrap ((IntKind.i64.wrap ((IntKind.i64.wrap ((IntKind.i64.wrap ((IntKind.i64.wrap ((IntKind.i64.wrap ((IntKind.i64.wrap ((IntKind.i64.wrap ((heldL (TChunk.mk' : Int → TChunk) 2 (IntKind.i64.wrap ((IntKind.i64.wrap ((IntKind.i64.wrap ((IntKind.i64.wrap ((IntKind.i64.wrap ((IntKind.i64.wrap ((IntKind.i64.wrap ((IntKind.i64.wrap ((IntKind.i64.wrap ((IntKind.i64.wrap ((heldL (TRange.mk' : Int → TRange) 2 (heldL (TRange.mk' : Int → TRange) 2 (heldL (TRange.mk' : Int → TRange) 2 (heldL (_root_.id : Int → Int) 1 (IntKind.i64.wrap ((IntKind.i64.wrap ((IntKind.i64.wrap ((IntKind.i64.wrap ((IntKind.i64.wrap (k + 1)) + 1)) + 1)) + 1)) + 1)) x.send.ring.cells) x.send.pending) x.send.flight) x.send.acked) + 1)) + 1)) + 1)) + 1)) + 1)) + 1)) + 1)) + 1)) + 1)) + 1)) x.recv.buffer.chunks) + 1)) + 1)) + 1)) + 1)) + 1)) + 1)) + 1)) + 1)) + 1)) + 1)) + 1)) + 1)) + 1)) + 1)) + 1)) 3 = 0) then (if x.stopped = decide (Int.tmod (IntKind.i64.wrap ((IntKind.i64.wrap ((IntKind.i64.wrap ((IntKind.i64.wrap ((IntKind.i64.wrap ((IntKind.i64.wrap ((IntKind.i64.wrap ((IntKind.i64.wrap ((IntKind.i64.wrap ((IntKind.i64.wrap ((IntKind.i64.wrap ((IntKind.i64.wrap ((IntKind.i64.wrap ((IntKind.i64.wrap ((IntKind.i64.wrap ((IntKind.i64.wrap ((heldL (TChunk.mk' : Int → TChunk) 2 (IntKind.i64.wrap ((IntKind.i64.wrap ((IntKind.i64.wrap ((IntKind.i64.wrap ((IntKind.i64.wrap ((IntKind.i64.wrap ((IntKind.i64.wrap ((IntKind.i64.wrap ((IntKind.i64.wrap ((IntKind.i64.wrap ((heldL (TRange.mk' : Int → TRange) 2 (heldL (TRange.mk' : Int → TRange) 2 (heldL (TRange.mk' : Int → TRange) 2 (heldL (_root_.id : Int → Int) 1 (IntKind.i64.wrap ((IntKind.i64.wrap ((IntKind.i64.wrap ((IntKind.i64.wrap ((IntKind.i64.wrap (k + 1)) + 1)) + 1)) + 1)) + 1)) x.send.ring.cells) x.send.pending) x.send.flight) x.send.acked) + 1)) + 1)) + 1)) + 1)) + 1)) + 1)) + 1)) + 1)) + 1)) + 1)) x.recv.buffer.chunks) + 1)) + 1)) + 1)) + 1)) + 1)) + 1)) + 1)) + 1)) + 1)) + 1)) + 1)) + 1)) + 1)) + 1)) + 1)) + 1)) 3 = 0) then (if x.stopCode = (IntKind.i64.wrap ((IntKind.i64.wrap ((IntKind.i64.wrap ((IntKind.i64.wrap ((IntKind.i64.wrap ((IntKind.i64.wrap ((IntKind.i64.wrap ((IntKind.i64.wrap ((IntKind.i64.wrap ((IntKind.i64.wrap ((IntKind.i64.wrap ((IntKind.i64.wrap ((IntKind.i64.wrap ((IntKind.i64.wrap ((IntKind.i64.wrap ((IntKind.i64.wrap ((IntKind.i64.wrap ((heldL (TChunk.mk' : Int → TChunk) 2 (IntKind.i64.wrap ((IntKind.i64.wrap ((IntKind.i64.wrap ((IntKind.i64.wrap ((IntKind.i64.wrap ((IntKind.i64.wrap ((IntKind.i64.wrap ((IntKind.i64.wrap ((IntKind.i64.wrap ((IntKind.i64.wrap ((heldL (TRange.mk' : Int → TRange) 2 (heldL (TRange.mk' : Int → TRange) 2 (heldL (TRange.mk' : Int → TRange) 2 (heldL (_root_.id : Int → Int) 1 (IntKind.i64.wrap ((IntKind.i64.wrap ((IntKind.i64.wrap ((IntKind.i64.wrap ((IntKind.i64.wrap (k + 1)) + 1)) + 1)) + 1)) + 1)) x.send.ring.cells) x.send.pending) x.send.flight) x.send.acked) + 1)) + 1)) + 1)) + 1)) + 1)) + 1)) + 1)) + 1)) + 1)) + 1)) x.recv.buffer.chunks) + 1)) + 1)) + 1)) + 1)) + 1)) + 1)) + 1)) + 1)) + 1)) + 1)) + 1)) + 1)) + 1)) + 1)) + 1)) + 1)) + 1)) then (if x.counted = decide (Int.tmod (IntKind.i64.wrap ((IntKind.i64.wrap ((IntKind.i64.wrap ((IntKind.i64.wrap ((IntKind.i64.wrap ((IntKind.i64.wrap ((IntKind.i64.wrap ((IntKind.i64.wrap ((IntKind.i64.wrap ((IntKind.i64.wrap ((IntKind.i64.wrap ((IntKind.i64.wrap ((IntKind.i64.wrap ((IntKind.i64.wrap ((IntKind.i64.wrap ((IntKind.i64.wrap ((IntKind.i64.wrap ((IntKind.i64.wrap ((heldL (TChunk.mk' : Int → TChunk) 2 (IntKind.i64.wrap ((IntKind.i64.wrap ((IntKind.i64.wrap ((IntKind.i64.wrap ((IntKind.i64.wrap ((IntKind.i64.wrap ((IntKind.i64.wrap ((IntKind.i64.wrap ((IntKind.i64.wrap ((IntKind.i64.wrap ((heldL (TRange.mk' : Int → TRange) 2 (heldL (TRange.mk' : Int → TRange) 2 (heldL (TRange.mk' : Int → TRange) 2 (heldL (_root_.id : Int → Int) 1 (IntKind.i64.wrap ((IntKind.i64.wrap ((IntKind.i64.wrap ((IntKind.i64.wrap ((IntKind.i64.wrap (k + 1)) + 1)) + 1)) + 1)) + 1)) x.send.ring.cells) x.send.pending) x.send.flight) x.send.acked) + 1)) + 1)) + 1)) + 1)) + 1)) + 1)) + 1)) + 1)) + 1)) + 1)) x.recv.buffer.chunks) + 1)) + 1)) + 1)) + 1)) + 1)) + 1)) + 1)) + 1)) + 1)) + 1)) + 1)) + 1)) + 1)) + 1)) + 1)) + 1)) + 1)) + 1)) 3 = 0) then some (IntKind.i64.wrap ((IntKind.i64.wrap ((IntKind.i64.wrap ((IntKind.i64.wrap ((IntKind.i64.wrap ((IntKind.i64.wrap ((IntKind.i64.wrap ((IntKind.i64.wrap ((IntKind.i64.wrap ((IntKind.i64.wrap ((IntKind.i64.wrap ((IntKind.i64.wrap ((IntKind.i64.wrap ((IntKind.i64.wrap ((IntKind.i64.wrap ((IntKind.i64.wrap ((IntKind.i64.wrap ((IntKind.i64.wrap ((IntKind.i64.wrap ((heldL (TChunk.mk' : Int → TChunk) 2 (IntKind.i64.wrap ((IntKind.i64.wrap ((IntKind.i64.wrap ((IntKind.i64.wrap ((IntKind.i64.wrap ((IntKind.i64.wrap ((IntKind.i64.wrap ((IntKind.i64.wrap ((IntKind.i64.wrap ((IntKind.i64.wrap ((heldL (TRange.mk' : Int → TRange) 2 (heldL (TRange.mk' : Int → TRange) 2 (heldL (TRange.mk' : Int → TRange) 2 (heldL (_root_.id : Int → Int) 1 (IntKind.i64.wrap ((IntKind.i64.wrap ((IntKind.i64.wrap ((IntKind.i64.wrap ((IntKind.i64.wrap (k + 1)) + 1)) + 1)) + 1)) + 1)) x.send.ring.cells) x.send.pending) x.send.flight) x.send.acked) + 1)) + 1)) + 1)) + 1)) + 1)) + 1)) + 1)) + 1)) + 1)) + 1)) x.recv.buffer.chunks) + 1)) + 1)) + 1)) + 1)) + 1)) + 1)) + 1)) + 1)) + 1)) + 1)) + 1)) + 1)) + 1)) + 1)) + 1)) + 1)) + 1)) + 1)) + 1)) else none) else none) else none) else none) else none) else none) else none) else none) else none) else none) else none) else none) else none) else none) else none) else none) else none) else none) else none)) else none) else none) else none) else none) else none) else none) else none) else none) else none) else none))))) else none) else none) else none) else none) else none
set_option maxHeartbeats 2000000 in
theorem TStream.adv1_nxs (k : Int) (x : TStream) : TStream.adv1 k x = nxs (TStream.cnt1 x) k := by
  simp only [TStream.adv1, TStream.cnt1, nx_one, ← nxs_add]; exact nxs_congr (by omega)
set_option maxHeartbeats 2000000 in
theorem TStream.held1_mk {k : Int} (hk : 0 ≤ k) (x : TStream) (h : k + TStream.cnt1 x ≤ 4611686018427387904) : TStream.held1 k (TStream.mk1 k x) = some (TStream.adv1 k x) := by
  simp only [TStream.cnt1] at h
  simp only [TStream.held1, TStream.mk1, TStream.adv1, if_true, held_all, nx_one, wrap_one, ← nxs_add]
  repeat rw [if_neg (nxs_pos hk (by omega))]
theorem TStream.cnt1_le (x : TStream) : TStream.cnt1 x ≤ 60 + 60 * TStream.bulk x := by
  simp only [TStream.cnt1, TStream.bulk, TSender.bulk, TRing.bulk, TReceiver.bulk, TBuffer.bulk]; omega
theorem TStream.heldN_mk (xs : List TStream) {k : Int} (hk : 0 ≤ k) (h : k + sumB TStream.cnt1 xs ≤ 4611686018427387904) : heldN TStream.held1 k (mkN TStream.mk1 TStream.adv1 k xs) = nxs (sumB TStream.cnt1 xs) k := heldN_mkN TStream.mk1 TStream.adv1 TStream.adv1_nxs TStream.held1_mk xs k hk h
set_option maxHeartbeats 8000000 in
set_option maxRecDepth 100000 in
theorem laws_markStreamS (xs : List TStream) (k : Int) : MutCall Try.prog 129 [.one (.sl 39 (xs.map TStream.enc)), .one (.int .i64 k)] [.one (.sl 39 ((mkN TStream.mk1 TStream.adv1 k xs).map TStream.enc)), .one (.int .i64 k)] [.one (.int .i64 (nxs (sumB TStream.cnt1 xs) k))] := by
  refine mut_evc Try.func129 rfl Try.call129 Try.checked.mixed [.sl 0 0 (xs.map TStream.enc).length, .d (.int .i64 k), .junk, .junk, .junk, .junk, .junk, .junk, .junk, .junk, .junk, .junk, .junk, .junk, .junk, .junk, .junk, .junk, .junk, .junk, .junk, .junk, .junk, .junk, .junk, .junk, .junk, .junk, .junk, .junk, .junk, .junk, .junk, .junk, .junk, .junk, .junk, .junk, .junk, .junk, .junk, .junk, .junk, .junk, .junk, .junk, .junk, .junk, .junk, .junk, .junk, .junk, .junk, .junk, .junk, .junk, .junk, .junk, .junk, .junk, .junk, .junk, .junk, .junk, .junk, .junk, .junk, .junk, .junk, .junk, .junk, .junk, .junk, .junk, .junk, .junk, .junk, .junk, .junk, .junk, .junk, .junk, .junk, .junk, .junk, .junk, .junk, .junk, .junk, .junk, .junk, .junk, .junk, .junk, .junk, .junk, .junk, .junk, .junk, .junk, .junk, .junk, .junk, .junk, .junk, .junk, .junk, .junk, .junk, .junk, .junk, .junk, .junk, .junk, .junk, .junk, .junk, .junk, .junk, .junk, .junk, .junk, .junk, .junk, .junk, .junk, .junk, .junk, .junk, .junk, .junk, .junk, .junk, .junk, .junk, .junk, .junk, .junk, .junk, .junk, .junk, .junk, .junk, .junk, .junk, .junk, .junk, .junk, .junk, .junk, .junk, .junk, .junk, .junk, .junk, .junk, .junk, .junk, .junk, .junk, .junk, .junk, .junk, .junk, .junk, .junk, .junk, .junk, .junk, .junk, .junk, .junk, .junk, .junk, .junk, .junk, .junk, .junk, .junk, .junk, .junk, .junk, .junk, .junk, .junk, .junk, .junk, .junk, .junk, .junk, .junk, .junk, .junk, .junk, .junk, .junk, .junk, .junk, .junk, .junk, .junk, .junk, .junk, .junk, .junk, .junk, .junk, .junk, .junk, .junk, .junk, .junk, .junk, .junk, .junk, .junk, .junk, .junk, .junk, .junk, .junk, .junk, .junk, .junk, .junk, .junk, .junk, .junk, .junk, .junk, .junk, .junk, .junk, .junk, .junk, .junk, .junk, .junk, .junk, .junk, .junk, .junk, .junk, .junk, .junk, .junk, .junk, .junk, .junk, .junk, .junk, .junk, .junk, .junk, .junk, .junk, .junk, .junk, .junk, .junk, .junk, .junk, .junk, .junk, .junk, .junk, .junk, .junk, .junk, .junk, .junk, .junk, .junk, .junk, .junk, .junk, .junk, .junk, .junk, .junk, .junk, .junk, .junk, .junk, .junk, .junk, .junk, .junk, .junk, .junk, .junk, .junk, .junk, .junk, .junk, .junk, .junk, .junk, .junk, .junk, .junk, .junk, .junk, .junk, .junk, .junk, .junk, .junk, .junk, .junk, .junk, .junk, .junk, .junk, .junk, .junk, .junk, .junk, .junk, .junk, .junk, .junk, .junk, .junk, .junk, .junk, .junk, .junk, .junk, .junk, .junk, .junk, .junk, .junk, .junk, .junk, .junk, .junk] [.cln 39 (xs.map TStream.enc)] [.sl 0 0 (xs.map TStream.enc).length, .d (.int .i64 k)] rfl rfl rfl [.tmp 4] rfl ?_
  intro ok
  have hm := len_of ok
  clear ok
  simp only [go_sem, List.length_map]
  refine LoopK.win (fun i : Nat => ⟨[.sl 0 0 xs.length, .d (.int .i64 (kN TStream.adv1 k (xs.take i))), .junk, .junk, .d (.int .i64 0), .d (.int .i64 i), .junk, .junk, .junk, .junk, .junk, .junk, .junk, .junk, .junk, .junk, .junk, .junk, .junk, .junk, .junk, .junk, .junk, .junk, .junk, .junk, .junk, .junk, .junk, .junk, .junk, .junk, .junk, .junk, .junk, .junk, .junk, .junk, .junk, .junk, .junk, .junk, .junk, .junk, .junk, .junk, .junk, .junk, .junk, .junk, .junk, .junk, .junk, .junk, .junk, .junk, .junk, .junk, .junk, .junk, .junk, .junk, .junk, .junk, .junk, .junk, .junk, .junk, .junk, .junk, .junk, .junk, .junk, .junk, .junk, .junk, .junk, .junk, .junk, .junk, .junk, .junk, .junk, .junk, .junk, .junk, .junk, .junk, .junk, .junk, .junk, .junk, .junk, .junk, .junk, .junk, .junk, .junk, .junk, .junk, .junk, .junk, .junk, .junk, .junk, .junk, .junk, .junk, .junk, .junk, .junk, .junk, .junk, .junk, .junk, .junk, .junk, .junk, .junk, .junk, .junk, .junk, .junk, .junk, .junk, .junk, .junk, .junk, .junk, .junk, .junk, .junk, .junk, .junk, .junk, .junk, .junk, .junk, .junk, .junk, .junk, .junk, .junk, .junk, .junk, .junk, .junk, .junk, .junk, .junk, .junk, .junk, .junk, .junk, .junk, .junk, .junk, .junk, .junk, .junk, .junk, .junk, .junk, .junk, .junk, .junk, .junk, .junk, .junk, .junk, .junk, .junk, .junk, .junk, .junk, .junk, .junk, .junk, .junk, .junk, .junk, .junk, .junk, .junk, .junk, .junk, .junk, .junk, .junk, .junk, .junk, .junk, .junk, .junk, .junk, .junk, .junk, .junk, .junk, .junk, .junk, .junk, .junk, .junk, .junk, .junk, .junk, .junk, .junk, .junk, .junk, .junk, .junk, .junk, .junk, .junk, .junk, .junk, .junk, .junk, .junk, .junk, .junk, .junk, .junk, .junk, .junk, .junk, .junk, .junk, .junk, .junk, .junk, .junk, .junk, .junk, .junk, .junk, .junk, .junk, .junk, .junk, .junk, .junk, .junk, .junk, .junk, .junk, .junk, .junk, .junk, .junk, .junk, .junk, .junk, .junk, .junk, .junk, .junk, .junk, .junk, .junk, .junk, .junk, .junk, .junk, .junk, .junk, .junk, .junk, .junk, .junk, .junk, .junk, .junk, .junk, .junk, .junk, .junk, .junk, .junk, .junk, .junk, .junk, .junk, .junk, .junk, .junk, .junk, .junk, .junk, .junk, .junk, .junk, .junk, .junk, .junk, .junk, .junk, .junk, .junk, .junk, .junk, .junk, .junk, .junk, .junk, .junk, .junk, .junk, .junk, .junk, .junk, .junk, .junk, .junk, .junk, .junk, .junk, .junk, .junk, .junk, .junk, .junk, .junk, .junk, .junk, .junk, .junk, .junk, .junk, .junk, .junk, .junk, .junk, .junk, .junk, .junk], [.cln 39 ((mkP TStream.mk1 TStream.adv1 k xs i).map TStream.enc)]⟩)
      (fun i => xs.length - i) (fun i => i ≤ xs.length) 0 [0] (by omega) ?_ ?_
  · simp only [go_sem]; simp [mkP_zero, kN]
  · intro i hi
    rcases Nat.lt_or_ge i xs.length with hlt | hge
    · right
      refine ⟨0, i, ?_⟩
      have hg := mkP_get TStream.mk1 TStream.adv1 TStream.enc k xs i hlt
      have hs := mkP_step TStream.mk1 TStream.adv1 TStream.enc k xs i hlt
      have hl := mkP_len TStream.mk1 TStream.adv1 k xs i hi
      have hw := inc hlt hm
      have hk := kN_step TStream.adv1 k xs i hlt
      simp only [TStream.enc] at hg
      generalize hL : (mkP TStream.mk1 TStream.adv1 k xs i).map TStream.enc = rows at *
      have hpl : (rows.take i).length = i := by rw [List.length_take, ← hL, List.length_map, hl]; omega
      generalize hK : kN TStream.adv1 k (xs.take i) = z at *
      generalize hx : xs[i] = x at *
      have h1 : decide ((i : Int) < (xs.length : Int)) = true := decide_eq_true (by omega)
      simp (maxSteps := 10000000) only [go_sem, List.length_map, Int.toNat_natCast, hg, hpl, Nat.zero_add, h1]
      repeat' (first
        | (refine CallS.mu (by first  | apply laws_markIntS | apply laws_markRangeS | apply laws_markChunkS) ?_; simp (maxSteps := 10000000) only [go_sem, List.length_map, Int.toNat_natCast, hw, hpl, Nat.zero_add])
        | (refine CallS.intro (laws_markText _) ?_; simp (maxSteps := 10000000) only [go_sem, List.length_map, Int.toNat_natCast, hg, hw, hpl, Int.natAbs_natCast, Nat.zero_add])
        | (with_reducible refine And.intro ?_ ?_; (focus (first | omega | (constructor <;> omega) | (simp; done))); try simp (maxSteps := 10000000) only [go_sem, List.length_map, Int.toNat_natCast, hg, hw, hpl, Int.natAbs_natCast, Nat.zero_add])
        | (refine RoundE.close 0 (i + 1) [0] (by omega) (by omega) ?_; simp (maxSteps := 10000000) only [go_sem, List.length_map, Nat.zero_add]))
      simp only [TStream.mk1, TStream.enc, nx] at hs
      simp only [TStream.adv1, nx] at hk
      simp [hk, ← hs]
    · left
      have h1 : decide ((i : Int) < (xs.length : Int)) = false := decide_eq_false (by omega)
      have hi2 : i = xs.length := by omega
      subst hi2
      simp only [go_sem, h1]
      simp only [go_sem, mkP_all, List.take_length, kN_nxs TStream.adv1 TStream.adv1_nxs]
      simp [outOA, mkN_len_self, mkN_take_self]
set_option maxRecDepth 100000 in
theorem laws_markFrameS (xs : List TFrame) (k : Int) : MutCall Try.prog 131 [.one (.sl 9 (xs.map TFrame.enc)), .one (.int .i64 k)] [.one (.sl 9 ((mkL (TFrame.mk' : Int → TFrame) 9 k xs xs.length).map TFrame.enc)), .one (.int .i64 k)] [.one (.int .i64 (nxs (9 * xs.length) k))] := by
  refine mut_ev Try.func131 rfl Try.call131 Try.checked.mixed [.sl 0 0 (xs.map TFrame.enc).length, .d (.int .i64 k), .junk, .junk, .junk, .junk, .junk, .junk, .junk, .junk, .junk, .junk, .junk, .junk, .junk, .junk, .junk, .junk, .junk, .junk, .junk, .junk, .junk, .junk, .junk, .junk, .junk, .junk, .junk, .junk, .junk, .junk, .junk, .junk, .junk, .junk, .junk, .junk, .junk, .junk, .junk, .junk, .junk, .junk, .junk, .junk, .junk, .junk, .junk, .junk, .junk, .junk, .junk, .junk, .junk, .junk, .junk, .junk, .junk, .junk, .junk, .junk, .junk, .junk, .junk, .junk, .junk, .junk, .junk, .junk, .junk, .junk, .junk, .junk, .junk, .junk, .junk, .junk, .junk, .junk, .junk] [.arr 9 (xs.map TFrame.enc) true] [.sl 0 0 (xs.map TFrame.enc).length, .d (.int .i64 k)] rfl rfl rfl [.tmp 4] rfl ?_
  intro ok
  have hm := len_of ok
  simp only [go_sem, List.length_map]
  refine LoopK.intro (fun i : Nat => ⟨[.sl 0 0 xs.length, .d (.int .i64 (nxs (9 * i) k)), .junk, .junk, .d (.int .i64 0), .d (.int .i64 i), .junk, .junk, .junk, .junk, .junk, .junk, .junk, .junk, .junk, .junk, .junk, .junk, .junk, .junk, .junk, .junk, .junk, .junk, .junk, .junk, .junk, .junk, .junk, .junk, .junk, .junk, .junk, .junk, .junk, .junk, .junk, .junk, .junk, .junk, .junk, .junk, .junk, .junk, .junk, .junk, .junk, .junk, .junk, .junk, .junk, .junk, .junk, .junk, .junk, .junk, .junk, .junk, .junk, .junk, .junk, .junk, .junk, .junk, .junk, .junk, .junk, .junk, .junk, .junk, .junk, .junk, .junk, .junk, .junk, .junk, .junk, .junk, .junk, .junk, .junk], [.arr 9 ((mkL (TFrame.mk' : Int → TFrame) 9 k xs i).map TFrame.enc) true]⟩)
      (fun i => xs.length - i) (fun i => i ≤ xs.length) 0 [0] (by omega) ?_ ?_
  · simp only [go_sem]; simp [mkL_zero, nxs]
  · intro i hi
    simp only [go_sem]
    refine cSplit (fun h1 => ?_) (fun h1 => ?_)
    · simp only [decide_eq_true_eq] at h1
      have hlt : i < xs.length := by omega
      have hg := mkL_get (TFrame.mk' : Int → TFrame) 9 TFrame.enc k xs i hlt
      have hs := mkL_set (TFrame.mk' : Int → TFrame) 9 TFrame.enc k xs i hlt
      have hl := mkL_len (TFrame.mk' : Int → TFrame) 9 k xs i (by omega)
      have hw := inc hlt hm
      have hn : nxs (9 * (i + 1)) k = nx (nx (nx (nx (nx (nx (nx (nx (nx (nxs (9 * i) k))))))))) := rfl
      have hk : ∀ (l : List (List D)) (a : List D), l.length = xs.length → (l.set i a)[i]? = some a := fun l a hl => by rw [List.getElem?_set_self (by omega)]
      simp only [TFrame.enc, TFrame.mk'] at hs hg
      simp only [nx] at hn hs
      generalize hL : (mkL (TFrame.mk' : Int → TFrame) 9 k xs i).map TFrame.enc = rows at *
      have hrl : rows.length = xs.length := by rw [← hL, List.length_map, hl]
      simp only [go_sem, Int.toNat_natCast, hg]
      repeat' (first
        | (refine CallS.intro (laws_markText _) ?_; simp only [go_sem, Int.toNat_natCast, hw, hk _ _ hrl, List.length_set, hrl, List.set_set])
        | (with_reducible refine And.intro (by omega) ?_)
        | (with_reducible refine And.intro (by exact ⟨by omega, by omega⟩) ?_)
        | (with_reducible refine And.intro (by (try simp only [go_sem, hrl]) <;> first | omega | exact ⟨by omega, by simp⟩ | (simp; done)) ?_; try simp only [go_sem, hk _ _ hrl, List.length_set, hrl, List.set_set])
        | (refine RoundE.intro (i + 1) [0] (by omega) (by omega) ?_))
      try simp only [go_sem, hn]
      simp [hn]
      try exact hs.symm
    · simp only [go_sem]
      simp only [decide_eq_false_iff_not] at h1
      have : i = xs.length := by omega
      subst this
      have hl := mkL_len (TFrame.mk' : Int → TFrame) 9 k xs xs.length (by omega)
      simp [outOA, hl]
      rw [List.take_of_length_le (by simp [hl])]
def TPacket.mk1 (k : Int) (x : TPacket) : TPacket := ⟨k, mkL (TFrame.mk' : Int → TFrame) 9 (nx k) x.frames x.frames.length⟩
def TPacket.adv1 (k : Int) (x : TPacket) : Int := (nxs (9 * x.frames.length) (nx k))
def TPacket.cnt1 (x : TPacket) : Nat := 1 + 9 * x.frames.length
def TPacket.held1 (k : Int) (x : TPacket) : Option Int := if x.number = k then (if (heldL (TFrame.mk' : Int → TFrame) 9 (IntKind.i64.wrap (k + 1)) x.frames) < 0 then none else some (heldL (TFrame.mk' : Int → TFrame) 9 (IntKind.i64.wrap (k + 1)) x.frames)) else none
set_option maxHeartbeats 2000000 in
theorem TPacket.adv1_nxs (k : Int) (x : TPacket) : TPacket.adv1 k x = nxs (TPacket.cnt1 x) k := by
  simp only [TPacket.adv1, TPacket.cnt1, nx_one, ← nxs_add]; exact nxs_congr (by omega)
set_option maxHeartbeats 2000000 in
theorem TPacket.held1_mk {k : Int} (hk : 0 ≤ k) (x : TPacket) (h : k + TPacket.cnt1 x ≤ 4611686018427387904) : TPacket.held1 k (TPacket.mk1 k x) = some (TPacket.adv1 k x) := by
  simp only [TPacket.cnt1] at h
  simp only [TPacket.held1, TPacket.mk1, TPacket.adv1, if_true, held_all, nx_one, wrap_one, ← nxs_add]
  repeat rw [if_neg (nxs_pos hk (by omega))]
theorem TPacket.cnt1_le (x : TPacket) : TPacket.cnt1 x ≤ 60 + 60 * TPacket.bulk x := by
  simp only [TPacket.cnt1, TPacket.bulk]; omega
theorem TPacket.heldN_mk (xs : List TPacket) {k : Int} (hk : 0 ≤ k) (h : k + sumB TPacket.cnt1 xs ≤ 4611686018427387904) : heldN TPacket.held1 k (mkN TPacket.mk1 TPacket.adv1 k xs) = nxs (sumB TPacket.cnt1 xs) k := heldN_mkN TPacket.mk1 TPacket.adv1 TPacket.adv1_nxs TPacket.held1_mk xs k hk h
set_option maxHeartbeats 8000000 in
set_option maxRecDepth 100000 in
theorem laws_markPacketS (xs : List TPacket) (k : Int) : MutCall Try.prog 130 [.one (.sl 2 (xs.map TPacket.enc)), .one (.int .i64 k)] [.one (.sl 2 ((mkN TPacket.mk1 TPacket.adv1 k xs).map TPacket.enc)), .one (.int .i64 k)] [.one (.int .i64 (nxs (sumB TPacket.cnt1 xs) k))] := by
  refine mut_evc Try.func130 rfl Try.call130 Try.checked.mixed [.sl 0 0 (xs.map TPacket.enc).length, .d (.int .i64 k), .junk, .junk, .junk, .junk, .junk, .junk, .junk, .junk, .junk, .junk, .junk, .junk, .junk, .junk, .junk, .junk, .junk, .junk, .junk, .junk, .junk, .junk, .junk, .junk, .junk] [.cln 2 (xs.map TPacket.enc)] [.sl 0 0 (xs.map TPacket.enc).length, .d (.int .i64 k)] rfl rfl rfl [.tmp 4] rfl ?_
  intro ok
  have hm := len_of ok
  clear ok
  simp only [go_sem, List.length_map]
  refine LoopK.win (fun i : Nat => ⟨[.sl 0 0 xs.length, .d (.int .i64 (kN TPacket.adv1 k (xs.take i))), .junk, .junk, .d (.int .i64 0), .d (.int .i64 i), .junk, .junk, .junk, .junk, .junk, .junk, .junk, .junk, .junk, .junk, .junk, .junk, .junk, .junk, .junk, .junk, .junk, .junk, .junk, .junk, .junk], [.cln 2 ((mkP TPacket.mk1 TPacket.adv1 k xs i).map TPacket.enc)]⟩)
      (fun i => xs.length - i) (fun i => i ≤ xs.length) 0 [0] (by omega) ?_ ?_
  · simp only [go_sem]; simp [mkP_zero, kN]
  · intro i hi
    rcases Nat.lt_or_ge i xs.length with hlt | hge
    · right
      refine ⟨0, i, ?_⟩
      have hg := mkP_get TPacket.mk1 TPacket.adv1 TPacket.enc k xs i hlt
      have hs := mkP_step TPacket.mk1 TPacket.adv1 TPacket.enc k xs i hlt
      have hl := mkP_len TPacket.mk1 TPacket.adv1 k xs i hi
      have hw := inc hlt hm
      have hk := kN_step TPacket.adv1 k xs i hlt
      simp only [TPacket.enc] at hg
      generalize hL : (mkP TPacket.mk1 TPacket.adv1 k xs i).map TPacket.enc = rows at *
      have hpl : (rows.take i).length = i := by rw [List.length_take, ← hL, List.length_map, hl]; omega
      generalize hK : kN TPacket.adv1 k (xs.take i) = z at *
      generalize hx : xs[i] = x at *
      have h1 : decide ((i : Int) < (xs.length : Int)) = true := decide_eq_true (by omega)
      simp (maxSteps := 10000000) only [go_sem, List.length_map, Int.toNat_natCast, hg, hpl, Nat.zero_add, h1]
      repeat' (first
        | (refine CallS.mu (by first  | apply laws_markFrameS) ?_; simp (maxSteps := 10000000) only [go_sem, List.length_map, hw, Nat.zero_add])
        | (refine CallS.intro (laws_markText _) ?_; simp (maxSteps := 10000000) only [go_sem, List.length_map, Int.toNat_natCast, hg, hw, hpl, Int.natAbs_natCast, Nat.zero_add])
        | (with_reducible refine And.intro ?_ ?_; (focus (first | omega | (constructor <;> omega) | (simp; done))); try simp (maxSteps := 10000000) only [go_sem, List.length_map, Int.toNat_natCast, hg, hw, hpl, Int.natAbs_natCast, Nat.zero_add])
        | (refine RoundE.close 0 (i + 1) [0] (by omega) (by omega) ?_; simp (maxSteps := 10000000) only [go_sem, List.length_map, Nat.zero_add]))
      simp only [TPacket.mk1, TPacket.enc, nx] at hs
      simp only [TPacket.adv1, nx] at hk
      simp [hk, ← hs]
    · left
      have h1 : decide ((i : Int) < (xs.length : Int)) = false := decide_eq_false (by omega)
      have hi2 : i = xs.length := by omega
      subst hi2
      simp only [go_sem, h1]
      simp only [go_sem, mkP_all, List.take_length, kN_nxs TPacket.adv1 TPacket.adv1_nxs]
      simp [outOA, mkN_len_self, mkN_take_self]
def TConn.mkd (k : Int) (x : TConn) : TConn := { x with streams := mkN TStream.mk1 TStream.adv1 k x.streams, packets := mkN TPacket.mk1 TPacket.adv1 (nxs (sumB TStream.cnt1 x.streams) k) x.packets }
def TConn.adv (k : Int) (x : TConn) : Int := (nxs (sumB TPacket.cnt1 x.packets) (nxs (sumB TStream.cnt1 x.streams) k))
def TConn.held (k : Int) (x : TConn) : Int := if heldN TStream.held1 k x.streams < 0 then -1 else (if heldN TPacket.held1 (heldN TStream.held1 k x.streams) x.packets < 0 then -1 else heldN TPacket.held1 (heldN TStream.held1 k x.streams) x.packets)
def TConn.cnt (x : TConn) : Nat := sumB TStream.cnt1 x.streams + sumB TPacket.cnt1 x.packets
theorem TConn.adv_eq {k : Int} (hk : 0 ≤ k) (x : TConn) (h : k + TConn.cnt x ≤ 4611686018427387904) : TConn.adv k x = k + TConn.cnt x := by
  simp only [TConn.adv, TConn.cnt] at *
  have a0 : nxs (sumB TStream.cnt1 x.streams) (k) = k + ((sumB TStream.cnt1 x.streams : Nat) : Int) := nxs_small (by omega) _ (by omega)
  have a1 : nxs (sumB TPacket.cnt1 x.packets) (k + ((sumB TStream.cnt1 x.streams : Nat) : Int)) = k + ((sumB TStream.cnt1 x.streams : Nat) : Int) + ((sumB TPacket.cnt1 x.packets : Nat) : Int) := nxs_small (by omega) _ (by omega)
  rw [a0, a1]; try omega
theorem TConn.held_mkd {k : Int} (hk : 0 ≤ k) (x : TConn) (h : k + TConn.cnt x ≤ 4611686018427387904) : TConn.held k (TConn.mkd k x) = TConn.adv k x := by
  simp only [TConn.cnt] at h
  simp only [TConn.adv, TConn.held, TConn.mkd]
  have b0 : heldN TStream.held1 (k) (mkN TStream.mk1 TStream.adv1 (k) x.streams) = nxs (sumB TStream.cnt1 x.streams) (k) := TStream.heldN_mk x.streams (by omega) (by omega)
  have a0 : nxs (sumB TStream.cnt1 x.streams) (k) = k + ((sumB TStream.cnt1 x.streams : Nat) : Int) := nxs_small (by omega) _ (by omega)
  have b1 : heldN TPacket.held1 (k + ((sumB TStream.cnt1 x.streams : Nat) : Int)) (mkN TPacket.mk1 TPacket.adv1 (k + ((sumB TStream.cnt1 x.streams : Nat) : Int)) x.packets) = nxs (sumB TPacket.cnt1 x.packets) (k + ((sumB TStream.cnt1 x.streams : Nat) : Int)) := TPacket.heldN_mk x.packets (by omega) (by omega)
  have a1 : nxs (sumB TPacket.cnt1 x.packets) (k + ((sumB TStream.cnt1 x.streams : Nat) : Int)) = k + ((sumB TStream.cnt1 x.streams : Nat) : Int) + ((sumB TPacket.cnt1 x.packets : Nat) : Int) := nxs_small (by omega) _ (by omega)
  simp only [a0, a1, b0, b1]
  repeat rw [if_neg (by omega)]
theorem TConn.adv_nn (x : TConn) (h : TConn.cnt x ≤ 1000000000000) : ¬ TConn.adv 1 x < 0 := by rw [TConn.adv_eq (by omega) x (by omega)]; omega
theorem TConn.held_one (x : TConn) (h : TConn.cnt x ≤ 1000000000000) : TConn.held 1 (TConn.mkd 1 x) = TConn.adv 1 x := TConn.held_mkd (by omega) x (by omega)
@[go_sem] theorem TConn.mkd_Server (k : Int) (x : TConn) : (TConn.mkd k x).server = x.server := rfl
@[go_sem] theorem TConn.mkd_Own (k : Int) (x : TConn) : (TConn.mkd k x).own = x.own := rfl
@[go_sem] theorem TConn.mkd_Peer (k : Int) (x : TConn) : (TConn.mkd k x).peer = x.peer := rfl
@[go_sem] theorem TConn.mkd_len_streams (k : Int) (x : TConn) : (TConn.mkd k x).streams.length = x.streams.length := by simp only [TConn.mkd, mkN_len_self]
@[go_sem] theorem TConn.mkd_take_streams (k : Int) (x : TConn) : ((TConn.mkd k x).streams.map TStream.enc).take x.streams.length = (TConn.mkd k x).streams.map TStream.enc := List.take_of_length_le (by simp [TConn.mkd_len_streams])
@[go_sem] theorem TConn.mkd_Total (k : Int) (x : TConn) : (TConn.mkd k x).total = x.total := rfl
@[go_sem] theorem TConn.mkd_Inflow (k : Int) (x : TConn) : (TConn.mkd k x).inflow = x.inflow := rfl
@[go_sem] theorem TConn.mkd_OpenBidi (k : Int) (x : TConn) : (TConn.mkd k x).openBidi = x.openBidi := rfl
@[go_sem] theorem TConn.mkd_OpenUni (k : Int) (x : TConn) : (TConn.mkd k x).openUni = x.openUni := rfl
@[go_sem] theorem TConn.mkd_AllowBidi (k : Int) (x : TConn) : (TConn.mkd k x).allowBidi = x.allowBidi := rfl
@[go_sem] theorem TConn.mkd_AllowUni (k : Int) (x : TConn) : (TConn.mkd k x).allowUni = x.allowUni := rfl
@[go_sem] theorem TConn.mkd_TellTotal (k : Int) (x : TConn) : (TConn.mkd k x).tellTotal = x.tellTotal := rfl
@[go_sem] theorem TConn.mkd_TellBidi (k : Int) (x : TConn) : (TConn.mkd k x).tellBidi = x.tellBidi := rfl
@[go_sem] theorem TConn.mkd_TellUni (k : Int) (x : TConn) : (TConn.mkd k x).tellUni = x.tellUni := rfl
@[go_sem] theorem TConn.mkd_Last (k : Int) (x : TConn) : (TConn.mkd k x).last = x.last := rfl
@[go_sem] theorem TConn.mkd_Number (k : Int) (x : TConn) : (TConn.mkd k x).number = x.number := rfl
@[go_sem] theorem TConn.mkd_len_packets (k : Int) (x : TConn) : (TConn.mkd k x).packets.length = x.packets.length := by simp only [TConn.mkd, mkN_len_self]
@[go_sem] theorem TConn.mkd_take_packets (k : Int) (x : TConn) : ((TConn.mkd k x).packets.map TPacket.enc).take x.packets.length = (TConn.mkd k x).packets.map TPacket.enc := List.take_of_length_le (by simp [TConn.mkd_len_packets])
@[go_sem] theorem TConn.mkd_Now (k : Int) (x : TConn) : (TConn.mkd k x).now = x.now := rfl
@[go_sem] theorem TConn.mkd_Closed (k : Int) (x : TConn) : (TConn.mkd k x).closed = x.closed := rfl
set_option maxRecDepth 100000 in
theorem laws_markConn (x : TConn) (k : Int) : MutCall Try.prog 56 [.agg [.bool x.server, .int .i64 x.own.ring, .int .i64 x.own.window, .int .i64 x.own.windowMost, .int .i64 x.own.total, .int .i64 x.own.totalMost, .int .i64 x.own.bidi, .int .i64 x.own.uni, .int .i64 x.own.trip, .int .i64 x.peer.ring, .int .i64 x.peer.window, .int .i64 x.peer.windowMost, .int .i64 x.peer.total, .int .i64 x.peer.totalMost, .int .i64 x.peer.bidi, .int .i64 x.peer.uni, .int .i64 x.peer.trip, .sl 39 (x.streams.map TStream.enc), .int .i64 x.total.limit, .int .i64 x.total.used, .int .i64 x.total.blocked, .int .i64 x.total.told, .int .i64 x.inflow.size, .int .i64 x.inflow.most, .int .i64 x.inflow.limit, .int .i64 x.inflow.seen, .int .i64 x.inflow.read, .int .i64 x.inflow.since, .int .i64 x.openBidi.limit, .int .i64 x.openBidi.opened, .int .i64 x.openBidi.blocked, .int .i64 x.openUni.limit, .int .i64 x.openUni.opened, .int .i64 x.openUni.blocked, .int .i64 x.allowBidi.most, .int .i64 x.allowBidi.limit, .int .i64 x.allowBidi.seen, .int .i64 x.allowBidi.closed, .int .i64 x.allowUni.most, .int .i64 x.allowUni.limit, .int .i64 x.allowUni.seen, .int .i64 x.allowUni.closed, .bool x.tellTotal, .bool x.tellBidi, .bool x.tellUni, .int .i64 x.last, .int .i64 x.number, .sl 2 (x.packets.map TPacket.enc), .int .i64 x.now, .int .i64 x.closed], .one (.int .i64 k)] [.agg [.bool (TConn.mkd k x).server, .int .i64 (TConn.mkd k x).own.ring, .int .i64 (TConn.mkd k x).own.window, .int .i64 (TConn.mkd k x).own.windowMost, .int .i64 (TConn.mkd k x).own.total, .int .i64 (TConn.mkd k x).own.totalMost, .int .i64 (TConn.mkd k x).own.bidi, .int .i64 (TConn.mkd k x).own.uni, .int .i64 (TConn.mkd k x).own.trip, .int .i64 (TConn.mkd k x).peer.ring, .int .i64 (TConn.mkd k x).peer.window, .int .i64 (TConn.mkd k x).peer.windowMost, .int .i64 (TConn.mkd k x).peer.total, .int .i64 (TConn.mkd k x).peer.totalMost, .int .i64 (TConn.mkd k x).peer.bidi, .int .i64 (TConn.mkd k x).peer.uni, .int .i64 (TConn.mkd k x).peer.trip, .sl 39 ((TConn.mkd k x).streams.map TStream.enc), .int .i64 (TConn.mkd k x).total.limit, .int .i64 (TConn.mkd k x).total.used, .int .i64 (TConn.mkd k x).total.blocked, .int .i64 (TConn.mkd k x).total.told, .int .i64 (TConn.mkd k x).inflow.size, .int .i64 (TConn.mkd k x).inflow.most, .int .i64 (TConn.mkd k x).inflow.limit, .int .i64 (TConn.mkd k x).inflow.seen, .int .i64 (TConn.mkd k x).inflow.read, .int .i64 (TConn.mkd k x).inflow.since, .int .i64 (TConn.mkd k x).openBidi.limit, .int .i64 (TConn.mkd k x).openBidi.opened, .int .i64 (TConn.mkd k x).openBidi.blocked, .int .i64 (TConn.mkd k x).openUni.limit, .int .i64 (TConn.mkd k x).openUni.opened, .int .i64 (TConn.mkd k x).openUni.blocked, .int .i64 (TConn.mkd k x).allowBidi.most, .int .i64 (TConn.mkd k x).allowBidi.limit, .int .i64 (TConn.mkd k x).allowBidi.seen, .int .i64 (TConn.mkd k x).allowBidi.closed, .int .i64 (TConn.mkd k x).allowUni.most, .int .i64 (TConn.mkd k x).allowUni.limit, .int .i64 (TConn.mkd k x).allowUni.seen, .int .i64 (TConn.mkd k x).allowUni.closed, .bool (TConn.mkd k x).tellTotal, .bool (TConn.mkd k x).tellBidi, .bool (TConn.mkd k x).tellUni, .int .i64 (TConn.mkd k x).last, .int .i64 (TConn.mkd k x).number, .sl 2 ((TConn.mkd k x).packets.map TPacket.enc), .int .i64 (TConn.mkd k x).now, .int .i64 (TConn.mkd k x).closed], .one (.int .i64 k)] [.one (.int .i64 (TConn.adv k x))] := by
  refine mut_evc Try.func56 rfl Try.call56 Try.checked.mixed [.agg [.d (.bool x.server), .d (.int .i64 x.own.ring), .d (.int .i64 x.own.window), .d (.int .i64 x.own.windowMost), .d (.int .i64 x.own.total), .d (.int .i64 x.own.totalMost), .d (.int .i64 x.own.bidi), .d (.int .i64 x.own.uni), .d (.int .i64 x.own.trip), .d (.int .i64 x.peer.ring), .d (.int .i64 x.peer.window), .d (.int .i64 x.peer.windowMost), .d (.int .i64 x.peer.total), .d (.int .i64 x.peer.totalMost), .d (.int .i64 x.peer.bidi), .d (.int .i64 x.peer.uni), .d (.int .i64 x.peer.trip), .sl 0 0 (x.streams.map TStream.enc).length, .d (.int .i64 x.total.limit), .d (.int .i64 x.total.used), .d (.int .i64 x.total.blocked), .d (.int .i64 x.total.told), .d (.int .i64 x.inflow.size), .d (.int .i64 x.inflow.most), .d (.int .i64 x.inflow.limit), .d (.int .i64 x.inflow.seen), .d (.int .i64 x.inflow.read), .d (.int .i64 x.inflow.since), .d (.int .i64 x.openBidi.limit), .d (.int .i64 x.openBidi.opened), .d (.int .i64 x.openBidi.blocked), .d (.int .i64 x.openUni.limit), .d (.int .i64 x.openUni.opened), .d (.int .i64 x.openUni.blocked), .d (.int .i64 x.allowBidi.most), .d (.int .i64 x.allowBidi.limit), .d (.int .i64 x.allowBidi.seen), .d (.int .i64 x.allowBidi.closed), .d (.int .i64 x.allowUni.most), .d (.int .i64 x.allowUni.limit), .d (.int .i64 x.allowUni.seen), .d (.int .i64 x.allowUni.closed), .d (.bool x.tellTotal), .d (.bool x.tellBidi), .d (.bool x.tellUni), .d (.int .i64 x.last), .d (.int .i64 x.number), .sl 1 0 (x.packets.map TPacket.enc).length, .d (.int .i64 x.now), .d (.int .i64 x.closed)], .d (.int .i64 k), .junk, .junk, .junk, .junk, .junk, .junk, .junk, .junk, .junk, .junk, .junk, .junk] [.cln 39 (x.streams.map TStream.enc), .cln 2 (x.packets.map TPacket.enc)] [.agg [.d (.bool x.server), .d (.int .i64 x.own.ring), .d (.int .i64 x.own.window), .d (.int .i64 x.own.windowMost), .d (.int .i64 x.own.total), .d (.int .i64 x.own.totalMost), .d (.int .i64 x.own.bidi), .d (.int .i64 x.own.uni), .d (.int .i64 x.own.trip), .d (.int .i64 x.peer.ring), .d (.int .i64 x.peer.window), .d (.int .i64 x.peer.windowMost), .d (.int .i64 x.peer.total), .d (.int .i64 x.peer.totalMost), .d (.int .i64 x.peer.bidi), .d (.int .i64 x.peer.uni), .d (.int .i64 x.peer.trip), .sl 0 0 (x.streams.map TStream.enc).length, .d (.int .i64 x.total.limit), .d (.int .i64 x.total.used), .d (.int .i64 x.total.blocked), .d (.int .i64 x.total.told), .d (.int .i64 x.inflow.size), .d (.int .i64 x.inflow.most), .d (.int .i64 x.inflow.limit), .d (.int .i64 x.inflow.seen), .d (.int .i64 x.inflow.read), .d (.int .i64 x.inflow.since), .d (.int .i64 x.openBidi.limit), .d (.int .i64 x.openBidi.opened), .d (.int .i64 x.openBidi.blocked), .d (.int .i64 x.openUni.limit), .d (.int .i64 x.openUni.opened), .d (.int .i64 x.openUni.blocked), .d (.int .i64 x.allowBidi.most), .d (.int .i64 x.allowBidi.limit), .d (.int .i64 x.allowBidi.seen), .d (.int .i64 x.allowBidi.closed), .d (.int .i64 x.allowUni.most), .d (.int .i64 x.allowUni.limit), .d (.int .i64 x.allowUni.seen), .d (.int .i64 x.allowUni.closed), .d (.bool x.tellTotal), .d (.bool x.tellBidi), .d (.bool x.tellUni), .d (.int .i64 x.last), .d (.int .i64 x.number), .sl 1 0 (x.packets.map TPacket.enc).length, .d (.int .i64 x.now), .d (.int .i64 x.closed)], .d (.int .i64 k)] rfl rfl rfl [.tmp 4] rfl ?_
  intro _
  have hl0 := fun k => mkN_len TStream.mk1 TStream.adv1 x.streams k
  have hl1 := fun k => mkN_len TPacket.mk1 TPacket.adv1 x.packets k
  have ht0 : ∀ k, ((mkN TStream.mk1 TStream.adv1 k x.streams).map TStream.enc).take x.streams.length = (mkN TStream.mk1 TStream.adv1 k x.streams).map TStream.enc := fun k => List.take_of_length_le (by simp [hl0])
  have ht1 : ∀ k, ((mkN TPacket.mk1 TPacket.adv1 k x.packets).map TPacket.enc).take x.packets.length = (mkN TPacket.mk1 TPacket.adv1 k x.packets).map TPacket.enc := fun k => List.take_of_length_le (by simp [hl1])
  unfold TConn.mkd TConn.adv
  simp only [go_sem, List.length_map]
  refine CallS.mu (laws_markStreamS _ _) ?_
  simp only [go_sem, List.length_map]
  try (refine And.intro (by simp) ?_; try simp only [go_sem, List.length_map, hl0, hl1, ht0, ht1])
  refine CallS.mu (laws_markPacketS _ _) ?_
  simp only [go_sem, List.length_map, hl0, hl1, ht0, ht1]
  try (refine And.intro (by simp) ?_; try simp only [go_sem, List.length_map, hl0, hl1, ht0, ht1])
  simp [outOA]
def TPacket.mkd (k : Int) (x : TPacket) : TPacket := { x with frames := mkL (TFrame.mk' : Int → TFrame) 9 k x.frames x.frames.length }
def TPacket.adv (k : Int) (x : TPacket) : Int := (nxs (9 * x.frames.length) k)
def TPacket.held (k : Int) (x : TPacket) : Int := if heldL (TFrame.mk' : Int → TFrame) 9 k x.frames < 0 then -1 else heldL (TFrame.mk' : Int → TFrame) 9 k x.frames
def TPacket.cnt (x : TPacket) : Nat := 9 * x.frames.length
theorem TPacket.adv_eq {k : Int} (hk : 0 ≤ k) (x : TPacket) (h : k + TPacket.cnt x ≤ 4611686018427387904) : TPacket.adv k x = k + TPacket.cnt x := by
  simp only [TPacket.adv, TPacket.cnt] at *
  have a0 : nxs (9 * x.frames.length) (k) = k + ((9 * x.frames.length : Nat) : Int) := nxs_small (by omega) _ (by omega)
  rw [a0]; try omega
theorem TPacket.held_mkd {k : Int} (hk : 0 ≤ k) (x : TPacket) (h : k + TPacket.cnt x ≤ 4611686018427387904) : TPacket.held k (TPacket.mkd k x) = TPacket.adv k x := by
  simp only [TPacket.cnt] at h
  simp only [TPacket.adv, TPacket.held, TPacket.mkd]
  have a0 : nxs (9 * x.frames.length) (k) = k + ((9 * x.frames.length : Nat) : Int) := nxs_small (by omega) _ (by omega)
  simp only [held_all, a0]
  repeat rw [if_neg (by omega)]
theorem TPacket.adv_nn (x : TPacket) (h : TPacket.cnt x ≤ 1000000000000) : ¬ TPacket.adv 1 x < 0 := by rw [TPacket.adv_eq (by omega) x (by omega)]; omega
theorem TPacket.held_one (x : TPacket) (h : TPacket.cnt x ≤ 1000000000000) : TPacket.held 1 (TPacket.mkd 1 x) = TPacket.adv 1 x := TPacket.held_mkd (by omega) x (by omega)
@[go_sem] theorem TPacket.mkd_Number (k : Int) (x : TPacket) : (TPacket.mkd k x).number = x.number := rfl
@[go_sem] theorem TPacket.mkd_len_frames (k : Int) (x : TPacket) : (TPacket.mkd k x).frames.length = x.frames.length := by simp only [TPacket.mkd, mkL_len_self]
@[go_sem] theorem TPacket.mkd_take_frames (k : Int) (x : TPacket) : ((TPacket.mkd k x).frames.map TFrame.enc).take x.frames.length = (TPacket.mkd k x).frames.map TFrame.enc := List.take_of_length_le (by simp [TPacket.mkd_len_frames])
set_option maxRecDepth 100000 in
theorem laws_markPacket (x : TPacket) (k : Int) : MutCall Try.prog 57 [.agg [.int .i64 x.number, .sl 9 (x.frames.map TFrame.enc)], .one (.int .i64 k)] [.agg [.int .i64 (TPacket.mkd k x).number, .sl 9 ((TPacket.mkd k x).frames.map TFrame.enc)], .one (.int .i64 k)] [.one (.int .i64 (TPacket.adv k x))] := by
  refine mut_ev Try.func57 rfl Try.call57 Try.checked.mixed [.agg [.d (.int .i64 x.number), .sl 0 0 (x.frames.map TFrame.enc).length], .d (.int .i64 k), .junk, .junk, .junk, .junk, .junk, .junk, .junk, .junk] [.arr 9 (x.frames.map TFrame.enc) true] [.agg [.d (.int .i64 x.number), .sl 0 0 (x.frames.map TFrame.enc).length], .d (.int .i64 k)] rfl rfl rfl [.tmp 4] rfl ?_
  intro _
  have hl0 := fun k => mkL_len (TFrame.mk' : Int → TFrame) 9 k x.frames x.frames.length (Nat.le_refl _)
  have ht0 : ∀ k, ((mkL (TFrame.mk' : Int → TFrame) 9 k x.frames x.frames.length).map TFrame.enc).take x.frames.length = (mkL (TFrame.mk' : Int → TFrame) 9 k x.frames x.frames.length).map TFrame.enc := fun k => List.take_of_length_le (by simp [hl0])
  unfold TPacket.mkd TPacket.adv
  simp only [go_sem, List.length_map]
  refine CallS.mu (laws_markFrameS _ _) ?_
  simp only [go_sem, List.length_map, hl0, ht0]
  try (refine And.intro (by simp) ?_; try simp only [go_sem, List.length_map, hl0, ht0])
  simp [outOA]
theorem TFrame.eq_mk {k : Int} {x : TFrame} (e0 : x.kind = k) (e1 : x.stream = (nx k)) (e2 : x.offset = (nx (nx k))) (e3 : x.data = mtext (nx (nx (nx k)))) (e4 : x.fin = decide (Int.tmod (nx (nx (nx (nx k)))) 3 = 0)) (e5 : x.code = (nx (nx (nx (nx (nx k)))))) (e6 : x.limit = (nx (nx (nx (nx (nx (nx k))))))) (e7 : x.final = (nx (nx (nx (nx (nx (nx (nx k)))))))) (e8 : x.uni = decide (Int.tmod (nx (nx (nx (nx (nx (nx (nx (nx k)))))))) 3 = 0)) : x = TFrame.mk' k := by
  cases x; simp only at *; subst_vars; rfl
set_option maxRecDepth 100000 in
theorem laws_heldFrameS (xs : List TFrame) (k : Int) : PureCall Try.prog 132 [.one (.sl 9 (xs.map TFrame.enc)), .one (.int .i64 k)] [.one (.int .i64 (heldL (TFrame.mk' : Int → TFrame) 9 k xs))] := by
  refine pure_ev Try.func132 rfl Try.call132 Try.checked.mixed [.d (.sl 9 (xs.map TFrame.enc)), .d (.int .i64 k), .junk, .junk, .junk, .junk, .junk, .junk, .junk, .junk, .junk, .junk, .junk, .junk, .junk, .junk, .junk, .junk, .junk, .junk, .junk, .junk, .junk, .junk, .junk, .junk, .junk, .junk, .junk, .junk, .junk, .junk, .junk, .junk, .junk, .junk, .junk, .junk, .junk, .junk, .junk, .junk, .junk, .junk, .junk, .junk, .junk, .junk, .junk, .junk, .junk, .junk, .junk, .junk, .junk, .junk, .junk, .junk, .junk, .junk, .junk, .junk, .junk, .junk, .junk, .junk, .junk, .junk, .junk, .junk, .junk, .junk, .junk, .junk, .junk, .junk, .junk, .junk, .junk, .junk, .junk, .junk, .junk, .junk, .junk, .junk, .junk, .junk, .junk, .junk, .junk, .junk, .junk, .junk, .junk, .junk, .junk, .junk, .junk] rfl [.tmp 4] rfl ?_
  intro ok
  have hm := len_of ok
  clear ok
  simp only [go_sem]
  refine LoopK.intro (fun i : Nat => ⟨[.d (.sl 9 (xs.map TFrame.enc)), .d (.int .i64 (nxs (9 * i) k)), .junk, .junk, .d (.int .i64 0), .d (.int .i64 i), .junk, .junk, .junk, .junk, .junk, .junk, .junk, .junk, .junk, .junk, .junk, .junk, .junk, .junk, .junk, .junk, .junk, .junk, .junk, .junk, .junk, .junk, .junk, .junk, .junk, .junk, .junk, .junk, .junk, .junk, .junk, .junk, .junk, .junk, .junk, .junk, .junk, .junk, .junk, .junk, .junk, .junk, .junk, .junk, .junk, .junk, .junk, .junk, .junk, .junk, .junk, .junk, .junk, .junk, .junk, .junk, .junk, .junk, .junk, .junk, .junk, .junk, .junk, .junk, .junk, .junk, .junk, .junk, .junk, .junk, .junk, .junk, .junk, .junk, .junk, .junk, .junk, .junk, .junk, .junk, .junk, .junk, .junk, .junk, .junk, .junk, .junk, .junk, .junk, .junk, .junk, .junk, .junk], []⟩)
      (fun i => xs.length - i) (fun i => i ≤ xs.length ∧ heldL (TFrame.mk' : Int → TFrame) 9 k xs = heldL (TFrame.mk' : Int → TFrame) 9 (nxs (9 * i) k) (xs.drop i)) 0 [] ⟨by omega, by simp [nxs]⟩ ?_ ?_
  · simp only [go_sem]; simp [nxs]
  · rintro i ⟨hi, he⟩
    simp only [go_sem, List.length_map]
    refine cSplit (fun h1 => ?_) (fun h1 => ?_)
    · simp only [decide_eq_true_eq] at h1
      have hlt : i < xs.length := by omega
      have hxi := map_at TFrame.enc xs i hlt
      have hw := inc hlt hm
      have hn : nxs (9 * (i + 1)) k = nx (nx (nx (nx (nx (nx (nx (nx (nx (nxs (9 * i) k))))))))) := rfl
      have hn2 : nxs 9 (nxs (9 * i) k) = nxs (9 * (i + 1)) k := rfl
      have hb2 : ((i : Nat) : Int) < (xs.length : Int) := h1
      rw [heldL_step (TFrame.mk' : Int → TFrame) 9 _ xs i hlt, hn2] at he
      generalize hz : nxs (9 * i) k = z at *
      generalize hx : xs[i] = x at *
      simp only [TFrame.enc] at hxi
      try simp only [go_sem, List.length_map, Int.toNat_natCast, hxi]
      try (with_reducible refine And.intro ?_ ?_; (focus (first | omega | (constructor <;> omega))); try simp only [go_sem, List.length_map, Int.toNat_natCast, hxi, hw])
      refine cSplit (fun h => ?_) (fun h => ?_)
      · rw [if_neg (fun e => (of_decide_eq_true h) (by rw [e]; rfl))] at he; rw [he]; simp only [go_sem]
        try simp [outOA]
      have e0 := Decidable.of_not_not (of_decide_eq_false h); clear h
      try simp only [go_sem, List.length_map, Int.toNat_natCast, hxi]
      try (with_reducible refine And.intro ?_ ?_; (focus (first | omega | (constructor <;> omega))); try simp only [go_sem, List.length_map, Int.toNat_natCast, hxi, hw])
      refine cSplit (fun h => ?_) (fun h => ?_)
      · rw [if_neg (fun e => (of_decide_eq_true h) (by rw [e]; rfl))] at he; rw [he]; simp only [go_sem]
        try simp [outOA]
      have e1 := Decidable.of_not_not (of_decide_eq_false h); clear h
      try simp only [go_sem, List.length_map, Int.toNat_natCast, hxi]
      try (with_reducible refine And.intro ?_ ?_; (focus (first | omega | (constructor <;> omega))); try simp only [go_sem, List.length_map, Int.toNat_natCast, hxi, hw])
      refine cSplit (fun h => ?_) (fun h => ?_)
      · rw [if_neg (fun e => (of_decide_eq_true h) (by rw [e]; rfl))] at he; rw [he]; simp only [go_sem]
        try simp [outOA]
      have e2 := Decidable.of_not_not (of_decide_eq_false h); clear h
      try simp only [go_sem]
      try (with_reducible refine And.intro ?_ ?_; (focus (first | omega | (constructor <;> omega))); try simp only [go_sem, List.length_map, Int.toNat_natCast, hxi, hw])
      try simp only [go_sem, List.length_map, Int.toNat_natCast, hxi, hw]
      repeat' (first
        | (refine CallS.intro (by first | assumption | (apply laws_markText <;> first | assumption | omega)) ?_; simp only [go_sem, List.length_map, Int.toNat_natCast, hxi, hw])
        | (refine CallK.intro (by first | assumption | (apply laws_markText <;> first | assumption | omega)) ?_; simp only [go_sem])
        | (with_reducible refine gTrueS ?_; simp only [go_sem, List.length_map, Int.toNat_natCast, hxi, hw]) | (with_reducible refine gFalseS ?_; simp only [go_sem, List.length_map, Int.toNat_natCast, hxi, hw]) | (with_reducible refine gTrue ?_; simp only [go_sem, List.length_map, Int.toNat_natCast, hxi, hw]) | (with_reducible refine gFalse ?_; simp only [go_sem, List.length_map, Int.toNat_natCast, hxi, hw])
        | (refine gSymS ?_; simp only [go_sem, List.length_map, Int.toNat_natCast, hxi, hw]) | (refine gSym ?_; simp only [go_sem, List.length_map, Int.toNat_natCast, hxi, hw])
        | (refine drawE_intro [[.post, .un, .post, .post, .post, .un, .un, .post], [.un, .post, .post, .post, .post, .un, .un, .post], [.pre, .pre, .post, .post, .post, .un, .un, .post], [.pre, .pre, .pre, .post, .post, .un, .un, .post], [.pre, .pre, .pre, .pre, .post, .un, .un, .post], [.un, .un, .un, .un, .un, .post, .post, .post], [.un, .un, .un, .un, .un, .pre, .post, .post], [.pre, .pre, .pre, .pre, .pre, .pre, .pre, .post]] (by kernel_rfl) (by rfl) ?_; simp only [go_sem, List.length_map, Int.toNat_natCast, hxi])
        | (with_reducible refine And.intro ?_ ?_; (focus (first | omega | (exact ⟨by omega, by omega⟩) | (simp; done) | (simp; omega)))))
      refine cSplit (fun h => ?_) (fun h => ?_)
      · rw [if_neg (fun e => (of_decide_eq_true h) (by rw [e]; rfl))] at he; rw [he]; simp only [go_sem]
        try simp [outOA]
      have e3 := Decidable.of_not_not (of_decide_eq_false h); clear h
      try simp only [go_sem, List.length_map, Int.toNat_natCast, hxi]
      try (with_reducible refine And.intro ?_ ?_; (focus (first | omega | (constructor <;> omega))); try simp only [go_sem, List.length_map, Int.toNat_natCast, hxi, hw])
      refine cSplit (fun h => ?_) (fun h => ?_)
      · rw [if_neg (fun e => (of_bne_t h) (by rw [e]; rfl))] at he; rw [he]; simp only [go_sem]
        try simp [outOA]
      have e4 := of_bne_f h; clear h
      try simp only [go_sem, List.length_map, Int.toNat_natCast, hxi]
      try (with_reducible refine And.intro ?_ ?_; (focus (first | omega | (constructor <;> omega))); try simp only [go_sem, List.length_map, Int.toNat_natCast, hxi, hw])
      refine cSplit (fun h => ?_) (fun h => ?_)
      · rw [if_neg (fun e => (of_decide_eq_true h) (by rw [e]; rfl))] at he; rw [he]; simp only [go_sem]
        try simp [outOA]
      have e5 := Decidable.of_not_not (of_decide_eq_false h); clear h
      try simp only [go_sem, List.length_map, Int.toNat_natCast, hxi]
      try (with_reducible refine And.intro ?_ ?_; (focus (first | omega | (constructor <;> omega))); try simp only [go_sem, List.length_map, Int.toNat_natCast, hxi, hw])
      refine cSplit (fun h => ?_) (fun h => ?_)
      · rw [if_neg (fun e => (of_decide_eq_true h) (by rw [e]; rfl))] at he; rw [he]; simp only [go_sem]
        try simp [outOA]
      have e6 := Decidable.of_not_not (of_decide_eq_false h); clear h
      try simp only [go_sem, List.length_map, Int.toNat_natCast, hxi]
      try (with_reducible refine And.intro ?_ ?_; (focus (first | omega | (constructor <;> omega))); try simp only [go_sem, List.length_map, Int.toNat_natCast, hxi, hw])
      refine cSplit (fun h => ?_) (fun h => ?_)
      · rw [if_neg (fun e => (of_decide_eq_true h) (by rw [e]; rfl))] at he; rw [he]; simp only [go_sem]
        try simp [outOA]
      have e7 := Decidable.of_not_not (of_decide_eq_false h); clear h
      try simp only [go_sem, List.length_map, Int.toNat_natCast, hxi]
      try (with_reducible refine And.intro ?_ ?_; (focus (first | omega | (constructor <;> omega))); try simp only [go_sem, List.length_map, Int.toNat_natCast, hxi, hw])
      refine cSplit (fun h => ?_) (fun h => ?_)
      · rw [if_neg (fun e => (of_bne_t h) (by rw [e]; rfl))] at he; rw [he]; simp only [go_sem]
        try simp [outOA]
      have e8 := of_bne_f h; clear h
      try simp only [go_sem, hw]
      rw [if_pos (TFrame.eq_mk e0 e1 e2 e3 e4 e5 e6 e7 e8)] at he
      refine RoundE.intro (i + 1) [] ⟨by omega, he⟩ (by omega) ?_
      simp only [nx] at hn
      simp only [go_sem, hn]; try simp
    · simp only [go_sem]
      simp only [decide_eq_false_iff_not] at h1
      rw [List.drop_eq_nil_of_le (by omega), heldL] at he
      simp [he]
set_option maxRecDepth 100000 in
theorem laws_heldPacket (x : TPacket) (k : Int) : PureCall Try.prog 58 [.agg [.int .i64 x.number, .sl 9 (x.frames.map TFrame.enc)], .one (.int .i64 k)] [.one (.int .i64 (TPacket.held k x))] := by
  refine pure_ev Try.func58 rfl Try.call58 Try.checked.mixed [.agg [.d (.int .i64 x.number), .d (.sl 9 (x.frames.map TFrame.enc))], .d (.int .i64 k), .junk, .junk, .junk, .junk, .junk, .junk, .junk, .junk, .junk, .junk] rfl [.tmp 4] rfl ?_
  intro _
  unfold TPacket.held
  try simp only [go_sem]
  repeat' (first
    | (refine CallS.intro (by first | assumption | (apply laws_heldFrameS <;> first | assumption | omega)) ?_; simp only [go_sem])
    | (refine CallK.intro (by first | assumption | (apply laws_heldFrameS <;> first | assumption | omega)) ?_; simp only [go_sem, List.length_map])
    | (with_reducible refine gTrueS ?_; simp only [go_sem, List.length_map]) | (with_reducible refine gFalseS ?_; simp only [go_sem, List.length_map]) | (with_reducible refine gTrue ?_; simp only [go_sem, List.length_map]) | (with_reducible refine gFalse ?_; simp only [go_sem, List.length_map])
    | (refine gSymS ?_; simp only [go_sem, List.length_map]) | (refine gSym ?_; simp only [go_sem, List.length_map])
    | (refine cSplit (fun h => ?_) (fun h => ?_) <;> simp only [go_sem])
    | (with_reducible refine And.intro ?_ ?_; (focus (first | omega | (exact ⟨by omega, by omega⟩) | (simp; done) | (simp; omega)))))
  all_goals first | (simp_all; done) | (simp_all; omega)
def TLetter.mk' (k : Int) : TLetter := ⟨k, mtext (nx k)⟩
def TTrack.mk' (k : Int) : TTrack := ⟨k, decide (Int.tmod (nx k) 3 = 0), mtext (nx (nx k)), mtext (nx (nx (nx k))), decide (Int.tmod (nx (nx (nx (nx k)))) 3 = 0), decide (Int.tmod (nx (nx (nx (nx (nx k))))) 3 = 0), decide (Int.tmod (nx (nx (nx (nx (nx (nx k)))))) 3 = 0)⟩
set_option maxRecDepth 100000 in
theorem laws_markLetterS (xs : List TLetter) (k : Int) : MutCall Try.prog 67 [.one (.sl 2 (xs.map TLetter.enc)), .one (.int .i64 k)] [.one (.sl 2 ((mkL (TLetter.mk' : Int → TLetter) 2 k xs xs.length).map TLetter.enc)), .one (.int .i64 k)] [.one (.int .i64 (nxs (2 * xs.length) k))] := by
  refine mut_ev Try.func67 rfl Try.call67 Try.checked.mixed [.sl 0 0 (xs.map TLetter.enc).length, .d (.int .i64 k), .junk, .junk, .junk, .junk, .junk, .junk, .junk, .junk, .junk, .junk, .junk, .junk, .junk, .junk, .junk, .junk, .junk, .junk, .junk, .junk, .junk, .junk, .junk, .junk, .junk, .junk] [.arr 2 (xs.map TLetter.enc) true] [.sl 0 0 (xs.map TLetter.enc).length, .d (.int .i64 k)] rfl rfl rfl [.tmp 4] rfl ?_
  intro ok
  have hm := len_of ok
  simp only [go_sem, List.length_map]
  refine LoopK.intro (fun i : Nat => ⟨[.sl 0 0 xs.length, .d (.int .i64 (nxs (2 * i) k)), .junk, .junk, .d (.int .i64 0), .d (.int .i64 i), .junk, .junk, .junk, .junk, .junk, .junk, .junk, .junk, .junk, .junk, .junk, .junk, .junk, .junk, .junk, .junk, .junk, .junk, .junk, .junk, .junk, .junk], [.arr 2 ((mkL (TLetter.mk' : Int → TLetter) 2 k xs i).map TLetter.enc) true]⟩)
      (fun i => xs.length - i) (fun i => i ≤ xs.length) 0 [0] (by omega) ?_ ?_
  · simp only [go_sem]; simp [mkL_zero, nxs]
  · intro i hi
    simp only [go_sem]
    refine cSplit (fun h1 => ?_) (fun h1 => ?_)
    · simp only [decide_eq_true_eq] at h1
      have hlt : i < xs.length := by omega
      have hg := mkL_get (TLetter.mk' : Int → TLetter) 2 TLetter.enc k xs i hlt
      have hs := mkL_set (TLetter.mk' : Int → TLetter) 2 TLetter.enc k xs i hlt
      have hl := mkL_len (TLetter.mk' : Int → TLetter) 2 k xs i (by omega)
      have hw := inc hlt hm
      have hn : nxs (2 * (i + 1)) k = nx (nx (nxs (2 * i) k)) := rfl
      have hk : ∀ (l : List (List D)) (a : List D), l.length = xs.length → (l.set i a)[i]? = some a := fun l a hl => by rw [List.getElem?_set_self (by omega)]
      simp only [TLetter.enc, TLetter.mk'] at hs hg
      simp only [nx] at hn hs
      generalize hL : (mkL (TLetter.mk' : Int → TLetter) 2 k xs i).map TLetter.enc = rows at *
      have hrl : rows.length = xs.length := by rw [← hL, List.length_map, hl]
      simp only [go_sem, Int.toNat_natCast, hg]
      repeat' (first
        | (refine CallS.intro (laws_markText _) ?_; simp only [go_sem, Int.toNat_natCast, hw, hk _ _ hrl, List.length_set, hrl, List.set_set])
        | (with_reducible refine And.intro (by omega) ?_)
        | (with_reducible refine And.intro (by exact ⟨by omega, by omega⟩) ?_)
        | (with_reducible refine And.intro (by (try simp only [go_sem, hrl]) <;> first | omega | exact ⟨by omega, by simp⟩ | (simp; done)) ?_; try simp only [go_sem, Int.toNat_natCast, hg, hw, hk _ _ hrl, List.length_set, hrl, List.set_set])
        | (refine RoundE.intro (i + 1) [0] (by omega) (by omega) ?_))
      try simp only [go_sem, hn, hs]
      simp [hn]
      try exact hs.symm
    · simp only [go_sem]
      simp only [decide_eq_false_iff_not] at h1
      have : i = xs.length := by omega
      subst this
      have hl := mkL_len (TLetter.mk' : Int → TLetter) 2 k xs xs.length (by omega)
      simp [outOA, hl]
      rw [List.take_of_length_le (by simp [hl])]
set_option maxRecDepth 100000 in
theorem laws_markTrackS (xs : List TTrack) (k : Int) : MutCall Try.prog 135 [.one (.sl 7 (xs.map TTrack.enc)), .one (.int .i64 k)] [.one (.sl 7 ((mkL (TTrack.mk' : Int → TTrack) 7 k xs xs.length).map TTrack.enc)), .one (.int .i64 k)] [.one (.int .i64 (nxs (7 * xs.length) k))] := by
  refine mut_ev Try.func135 rfl Try.call135 Try.checked.mixed [.sl 0 0 (xs.map TTrack.enc).length, .d (.int .i64 k), .junk, .junk, .junk, .junk, .junk, .junk, .junk, .junk, .junk, .junk, .junk, .junk, .junk, .junk, .junk, .junk, .junk, .junk, .junk, .junk, .junk, .junk, .junk, .junk, .junk, .junk, .junk, .junk, .junk, .junk, .junk, .junk, .junk, .junk, .junk, .junk, .junk, .junk, .junk, .junk, .junk, .junk, .junk, .junk, .junk, .junk, .junk, .junk, .junk, .junk, .junk, .junk, .junk, .junk, .junk, .junk, .junk, .junk, .junk, .junk, .junk, .junk, .junk, .junk, .junk, .junk, .junk, .junk, .junk, .junk] [.arr 7 (xs.map TTrack.enc) true] [.sl 0 0 (xs.map TTrack.enc).length, .d (.int .i64 k)] rfl rfl rfl [.tmp 4] rfl ?_
  intro ok
  have hm := len_of ok
  simp only [go_sem, List.length_map]
  refine LoopK.intro (fun i : Nat => ⟨[.sl 0 0 xs.length, .d (.int .i64 (nxs (7 * i) k)), .junk, .junk, .d (.int .i64 0), .d (.int .i64 i), .junk, .junk, .junk, .junk, .junk, .junk, .junk, .junk, .junk, .junk, .junk, .junk, .junk, .junk, .junk, .junk, .junk, .junk, .junk, .junk, .junk, .junk, .junk, .junk, .junk, .junk, .junk, .junk, .junk, .junk, .junk, .junk, .junk, .junk, .junk, .junk, .junk, .junk, .junk, .junk, .junk, .junk, .junk, .junk, .junk, .junk, .junk, .junk, .junk, .junk, .junk, .junk, .junk, .junk, .junk, .junk, .junk, .junk, .junk, .junk, .junk, .junk, .junk, .junk, .junk, .junk], [.arr 7 ((mkL (TTrack.mk' : Int → TTrack) 7 k xs i).map TTrack.enc) true]⟩)
      (fun i => xs.length - i) (fun i => i ≤ xs.length) 0 [0] (by omega) ?_ ?_
  · simp only [go_sem]; simp [mkL_zero, nxs]
  · intro i hi
    simp only [go_sem]
    refine cSplit (fun h1 => ?_) (fun h1 => ?_)
    · simp only [decide_eq_true_eq] at h1
      have hlt : i < xs.length := by omega
      have hg := mkL_get (TTrack.mk' : Int → TTrack) 7 TTrack.enc k xs i hlt
      have hs := mkL_set (TTrack.mk' : Int → TTrack) 7 TTrack.enc k xs i hlt
      have hl := mkL_len (TTrack.mk' : Int → TTrack) 7 k xs i (by omega)
      have hw := inc hlt hm
      have hn : nxs (7 * (i + 1)) k = nx (nx (nx (nx (nx (nx (nx (nxs (7 * i) k))))))) := rfl
      have hk : ∀ (l : List (List D)) (a : List D), l.length = xs.length → (l.set i a)[i]? = some a := fun l a hl => by rw [List.getElem?_set_self (by omega)]
      simp only [TTrack.enc, TTrack.mk'] at hs hg
      simp only [nx] at hn hs
      generalize hL : (mkL (TTrack.mk' : Int → TTrack) 7 k xs i).map TTrack.enc = rows at *
      have hrl : rows.length = xs.length := by rw [← hL, List.length_map, hl]
      simp only [go_sem, Int.toNat_natCast, hg]
      repeat' (first
        | (refine CallS.intro (laws_markText _) ?_; simp only [go_sem, Int.toNat_natCast, hw, hk _ _ hrl, List.length_set, hrl, List.set_set])
        | (with_reducible refine And.intro (by omega) ?_)
        | (with_reducible refine And.intro (by exact ⟨by omega, by omega⟩) ?_)
        | (with_reducible refine And.intro (by (try simp only [go_sem, hrl]) <;> first | omega | exact ⟨by omega, by simp⟩ | (simp; done)) ?_; try simp only [go_sem, hk _ _ hrl, List.length_set, hrl, List.set_set])
        | (refine RoundE.intro (i + 1) [0] (by omega) (by omega) ?_))
      try simp only [go_sem, hn]
      simp [hn]
      try exact hs.symm
    · simp only [go_sem]
      simp only [decide_eq_false_iff_not] at h1
      have : i = xs.length := by omega
      subst this
      have hl := mkL_len (TTrack.mk' : Int → TTrack) 7 k xs xs.length (by omega)
      simp [outOA, hl]
      rw [List.take_of_length_le (by simp [hl])]
def TPair.mkd (k : Int) (x : TPair) : TPair := { x with client := TConn.mkd k x.client, server := TConn.mkd (TConn.adv k x.client) x.server, toServer := mkL (TLetter.mk' : Int → TLetter) 2 (TConn.adv (TConn.adv k x.client) x.server) x.toServer x.toServer.length, toClient := mkL (TLetter.mk' : Int → TLetter) 2 (nxs (2 * x.toServer.length) (TConn.adv (TConn.adv k x.client) x.server)) x.toClient x.toClient.length, tracks := mkL (TTrack.mk' : Int → TTrack) 7 (nxs (2 * x.toClient.length) (nxs (2 * x.toServer.length) (TConn.adv (TConn.adv k x.client) x.server))) x.tracks x.tracks.length }
def TPair.adv (k : Int) (x : TPair) : Int := (nxs (7 * x.tracks.length) (nxs (2 * x.toClient.length) (nxs (2 * x.toServer.length) (TConn.adv (TConn.adv k x.client) x.server))))
def TPair.held (k : Int) (x : TPair) : Int := if TConn.held k x.client < 0 then -1 else (if TConn.held (TConn.held k x.client) x.server < 0 then -1 else (if heldL (TLetter.mk' : Int → TLetter) 2 (TConn.held (TConn.held k x.client) x.server) x.toServer < 0 then -1 else (if heldL (TLetter.mk' : Int → TLetter) 2 (heldL (TLetter.mk' : Int → TLetter) 2 (TConn.held (TConn.held k x.client) x.server) x.toServer) x.toClient < 0 then -1 else (if heldL (TTrack.mk' : Int → TTrack) 7 (heldL (TLetter.mk' : Int → TLetter) 2 (heldL (TLetter.mk' : Int → TLetter) 2 (TConn.held (TConn.held k x.client) x.server) x.toServer) x.toClient) x.tracks < 0 then -1 else heldL (TTrack.mk' : Int → TTrack) 7 (heldL (TLetter.mk' : Int → TLetter) 2 (heldL (TLetter.mk' : Int → TLetter) 2 (TConn.held (TConn.held k x.client) x.server) x.toServer) x.toClient) x.tracks))))
def TPair.cnt (x : TPair) : Nat := TConn.cnt x.client + TConn.cnt x.server + 2 * x.toServer.length + 2 * x.toClient.length + 7 * x.tracks.length
theorem TPair.adv_eq {k : Int} (hk : 0 ≤ k) (x : TPair) (h : k + TPair.cnt x ≤ 4611686018427387904) : TPair.adv k x = k + TPair.cnt x := by
  simp only [TPair.adv, TPair.cnt] at *
  have a0 : TConn.adv (k) x.client = k + ((TConn.cnt x.client : Nat) : Int) := TConn.adv_eq (by omega) _ (by omega)
  have a1 : TConn.adv (k + ((TConn.cnt x.client : Nat) : Int)) x.server = k + ((TConn.cnt x.client : Nat) : Int) + ((TConn.cnt x.server : Nat) : Int) := TConn.adv_eq (by omega) _ (by omega)
  have a2 : nxs (2 * x.toServer.length) (k + ((TConn.cnt x.client : Nat) : Int) + ((TConn.cnt x.server : Nat) : Int)) = k + ((TConn.cnt x.client : Nat) : Int) + ((TConn.cnt x.server : Nat) : Int) + ((2 * x.toServer.length : Nat) : Int) := nxs_small (by omega) _ (by omega)
  have a3 : nxs (2 * x.toClient.length) (k + ((TConn.cnt x.client : Nat) : Int) + ((TConn.cnt x.server : Nat) : Int) + ((2 * x.toServer.length : Nat) : Int)) = k + ((TConn.cnt x.client : Nat) : Int) + ((TConn.cnt x.server : Nat) : Int) + ((2 * x.toServer.length : Nat) : Int) + ((2 * x.toClient.length : Nat) : Int) := nxs_small (by omega) _ (by omega)
  have a4 : nxs (7 * x.tracks.length) (k + ((TConn.cnt x.client : Nat) : Int) + ((TConn.cnt x.server : Nat) : Int) + ((2 * x.toServer.length : Nat) : Int) + ((2 * x.toClient.length : Nat) : Int)) = k + ((TConn.cnt x.client : Nat) : Int) + ((TConn.cnt x.server : Nat) : Int) + ((2 * x.toServer.length : Nat) : Int) + ((2 * x.toClient.length : Nat) : Int) + ((7 * x.tracks.length : Nat) : Int) := nxs_small (by omega) _ (by omega)
  rw [a0, a1, a2, a3, a4]; try omega
theorem TPair.held_mkd {k : Int} (hk : 0 ≤ k) (x : TPair) (h : k + TPair.cnt x ≤ 4611686018427387904) : TPair.held k (TPair.mkd k x) = TPair.adv k x := by
  simp only [TPair.cnt] at h
  simp only [TPair.adv, TPair.held, TPair.mkd]
  have a0 : TConn.adv (k) x.client = k + ((TConn.cnt x.client : Nat) : Int) := TConn.adv_eq (by omega) _ (by omega)
  have b0 : TConn.held (k) (TConn.mkd (k) x.client) = TConn.adv (k) x.client := TConn.held_mkd (by omega) _ (by omega)
  have a1 : TConn.adv (k + ((TConn.cnt x.client : Nat) : Int)) x.server = k + ((TConn.cnt x.client : Nat) : Int) + ((TConn.cnt x.server : Nat) : Int) := TConn.adv_eq (by omega) _ (by omega)
  have b1 : TConn.held (k + ((TConn.cnt x.client : Nat) : Int)) (TConn.mkd (k + ((TConn.cnt x.client : Nat) : Int)) x.server) = TConn.adv (k + ((TConn.cnt x.client : Nat) : Int)) x.server := TConn.held_mkd (by omega) _ (by omega)
  have a2 : nxs (2 * x.toServer.length) (k + ((TConn.cnt x.client : Nat) : Int) + ((TConn.cnt x.server : Nat) : Int)) = k + ((TConn.cnt x.client : Nat) : Int) + ((TConn.cnt x.server : Nat) : Int) + ((2 * x.toServer.length : Nat) : Int) := nxs_small (by omega) _ (by omega)
  have a3 : nxs (2 * x.toClient.length) (k + ((TConn.cnt x.client : Nat) : Int) + ((TConn.cnt x.server : Nat) : Int) + ((2 * x.toServer.length : Nat) : Int)) = k + ((TConn.cnt x.client : Nat) : Int) + ((TConn.cnt x.server : Nat) : Int) + ((2 * x.toServer.length : Nat) : Int) + ((2 * x.toClient.length : Nat) : Int) := nxs_small (by omega) _ (by omega)
  have a4 : nxs (7 * x.tracks.length) (k + ((TConn.cnt x.client : Nat) : Int) + ((TConn.cnt x.server : Nat) : Int) + ((2 * x.toServer.length : Nat) : Int) + ((2 * x.toClient.length : Nat) : Int)) = k + ((TConn.cnt x.client : Nat) : Int) + ((TConn.cnt x.server : Nat) : Int) + ((2 * x.toServer.length : Nat) : Int) + ((2 * x.toClient.length : Nat) : Int) + ((7 * x.tracks.length : Nat) : Int) := nxs_small (by omega) _ (by omega)
  simp only [held_all, a0, a1, a2, a3, a4, b0, b1]
  repeat rw [if_neg (by omega)]
theorem TPair.adv_nn (x : TPair) (h : TPair.cnt x ≤ 1000000000000) : ¬ TPair.adv 1 x < 0 := by rw [TPair.adv_eq (by omega) x (by omega)]; omega
theorem TPair.held_one (x : TPair) (h : TPair.cnt x ≤ 1000000000000) : TPair.held 1 (TPair.mkd 1 x) = TPair.adv 1 x := TPair.held_mkd (by omega) x (by omega)
@[go_sem] theorem TPair.mkd_len_client_streams (k : Int) (x : TPair) : (TPair.mkd k x).client.streams.length = x.client.streams.length := by simp only [TPair.mkd, mkN_len_self, TConn.mkd, TConn.adv, TConn.mkd, TConn.adv]
@[go_sem] theorem TPair.mkd_take_client_streams (k : Int) (x : TPair) : ((TPair.mkd k x).client.streams.map TStream.enc).take x.client.streams.length = (TPair.mkd k x).client.streams.map TStream.enc := List.take_of_length_le (by simp [TPair.mkd_len_client_streams])
@[go_sem] theorem TPair.mkd_len_client_packets (k : Int) (x : TPair) : (TPair.mkd k x).client.packets.length = x.client.packets.length := by simp only [TPair.mkd, mkN_len_self, TConn.mkd, TConn.adv, TConn.mkd, TConn.adv]
@[go_sem] theorem TPair.mkd_take_client_packets (k : Int) (x : TPair) : ((TPair.mkd k x).client.packets.map TPacket.enc).take x.client.packets.length = (TPair.mkd k x).client.packets.map TPacket.enc := List.take_of_length_le (by simp [TPair.mkd_len_client_packets])
@[go_sem] theorem TPair.mkd_len_server_streams (k : Int) (x : TPair) : (TPair.mkd k x).server.streams.length = x.server.streams.length := by simp only [TPair.mkd, mkN_len_self, TConn.mkd, TConn.adv, TConn.mkd, TConn.adv]
@[go_sem] theorem TPair.mkd_take_server_streams (k : Int) (x : TPair) : ((TPair.mkd k x).server.streams.map TStream.enc).take x.server.streams.length = (TPair.mkd k x).server.streams.map TStream.enc := List.take_of_length_le (by simp [TPair.mkd_len_server_streams])
@[go_sem] theorem TPair.mkd_len_server_packets (k : Int) (x : TPair) : (TPair.mkd k x).server.packets.length = x.server.packets.length := by simp only [TPair.mkd, mkN_len_self, TConn.mkd, TConn.adv, TConn.mkd, TConn.adv]
@[go_sem] theorem TPair.mkd_take_server_packets (k : Int) (x : TPair) : ((TPair.mkd k x).server.packets.map TPacket.enc).take x.server.packets.length = (TPair.mkd k x).server.packets.map TPacket.enc := List.take_of_length_le (by simp [TPair.mkd_len_server_packets])
@[go_sem] theorem TPair.mkd_len_toServer (k : Int) (x : TPair) : (TPair.mkd k x).toServer.length = x.toServer.length := by simp only [TPair.mkd, mkL_len_self, TConn.mkd, TConn.adv, TConn.mkd, TConn.adv]
@[go_sem] theorem TPair.mkd_take_toServer (k : Int) (x : TPair) : ((TPair.mkd k x).toServer.map TLetter.enc).take x.toServer.length = (TPair.mkd k x).toServer.map TLetter.enc := List.take_of_length_le (by simp [TPair.mkd_len_toServer])
@[go_sem] theorem TPair.mkd_len_toClient (k : Int) (x : TPair) : (TPair.mkd k x).toClient.length = x.toClient.length := by simp only [TPair.mkd, mkL_len_self, TConn.mkd, TConn.adv, TConn.mkd, TConn.adv]
@[go_sem] theorem TPair.mkd_take_toClient (k : Int) (x : TPair) : ((TPair.mkd k x).toClient.map TLetter.enc).take x.toClient.length = (TPair.mkd k x).toClient.map TLetter.enc := List.take_of_length_le (by simp [TPair.mkd_len_toClient])
@[go_sem] theorem TPair.mkd_len_tracks (k : Int) (x : TPair) : (TPair.mkd k x).tracks.length = x.tracks.length := by simp only [TPair.mkd, mkL_len_self, TConn.mkd, TConn.adv, TConn.mkd, TConn.adv]
@[go_sem] theorem TPair.mkd_take_tracks (k : Int) (x : TPair) : ((TPair.mkd k x).tracks.map TTrack.enc).take x.tracks.length = (TPair.mkd k x).tracks.map TTrack.enc := List.take_of_length_le (by simp [TPair.mkd_len_tracks])
set_option maxRecDepth 100000 in
theorem laws_markPair (x : TPair) (k : Int) : MutCall Try.prog 62 [.agg [.bool x.client.server, .int .i64 x.client.own.ring, .int .i64 x.client.own.window, .int .i64 x.client.own.windowMost, .int .i64 x.client.own.total, .int .i64 x.client.own.totalMost, .int .i64 x.client.own.bidi, .int .i64 x.client.own.uni, .int .i64 x.client.own.trip, .int .i64 x.client.peer.ring, .int .i64 x.client.peer.window, .int .i64 x.client.peer.windowMost, .int .i64 x.client.peer.total, .int .i64 x.client.peer.totalMost, .int .i64 x.client.peer.bidi, .int .i64 x.client.peer.uni, .int .i64 x.client.peer.trip, .sl 39 (x.client.streams.map TStream.enc), .int .i64 x.client.total.limit, .int .i64 x.client.total.used, .int .i64 x.client.total.blocked, .int .i64 x.client.total.told, .int .i64 x.client.inflow.size, .int .i64 x.client.inflow.most, .int .i64 x.client.inflow.limit, .int .i64 x.client.inflow.seen, .int .i64 x.client.inflow.read, .int .i64 x.client.inflow.since, .int .i64 x.client.openBidi.limit, .int .i64 x.client.openBidi.opened, .int .i64 x.client.openBidi.blocked, .int .i64 x.client.openUni.limit, .int .i64 x.client.openUni.opened, .int .i64 x.client.openUni.blocked, .int .i64 x.client.allowBidi.most, .int .i64 x.client.allowBidi.limit, .int .i64 x.client.allowBidi.seen, .int .i64 x.client.allowBidi.closed, .int .i64 x.client.allowUni.most, .int .i64 x.client.allowUni.limit, .int .i64 x.client.allowUni.seen, .int .i64 x.client.allowUni.closed, .bool x.client.tellTotal, .bool x.client.tellBidi, .bool x.client.tellUni, .int .i64 x.client.last, .int .i64 x.client.number, .sl 2 (x.client.packets.map TPacket.enc), .int .i64 x.client.now, .int .i64 x.client.closed, .bool x.server.server, .int .i64 x.server.own.ring, .int .i64 x.server.own.window, .int .i64 x.server.own.windowMost, .int .i64 x.server.own.total, .int .i64 x.server.own.totalMost, .int .i64 x.server.own.bidi, .int .i64 x.server.own.uni, .int .i64 x.server.own.trip, .int .i64 x.server.peer.ring, .int .i64 x.server.peer.window, .int .i64 x.server.peer.windowMost, .int .i64 x.server.peer.total, .int .i64 x.server.peer.totalMost, .int .i64 x.server.peer.bidi, .int .i64 x.server.peer.uni, .int .i64 x.server.peer.trip, .sl 39 (x.server.streams.map TStream.enc), .int .i64 x.server.total.limit, .int .i64 x.server.total.used, .int .i64 x.server.total.blocked, .int .i64 x.server.total.told, .int .i64 x.server.inflow.size, .int .i64 x.server.inflow.most, .int .i64 x.server.inflow.limit, .int .i64 x.server.inflow.seen, .int .i64 x.server.inflow.read, .int .i64 x.server.inflow.since, .int .i64 x.server.openBidi.limit, .int .i64 x.server.openBidi.opened, .int .i64 x.server.openBidi.blocked, .int .i64 x.server.openUni.limit, .int .i64 x.server.openUni.opened, .int .i64 x.server.openUni.blocked, .int .i64 x.server.allowBidi.most, .int .i64 x.server.allowBidi.limit, .int .i64 x.server.allowBidi.seen, .int .i64 x.server.allowBidi.closed, .int .i64 x.server.allowUni.most, .int .i64 x.server.allowUni.limit, .int .i64 x.server.allowUni.seen, .int .i64 x.server.allowUni.closed, .bool x.server.tellTotal, .bool x.server.tellBidi, .bool x.server.tellUni, .int .i64 x.server.last, .int .i64 x.server.number, .sl 2 (x.server.packets.map TPacket.enc), .int .i64 x.server.now, .int .i64 x.server.closed, .sl 2 (x.toServer.map TLetter.enc), .sl 2 (x.toClient.map TLetter.enc), .sl 7 (x.tracks.map TTrack.enc)], .one (.int .i64 k)] [.agg [.bool (TPair.mkd k x).client.server, .int .i64 (TPair.mkd k x).client.own.ring, .int .i64 (TPair.mkd k x).client.own.window, .int .i64 (TPair.mkd k x).client.own.windowMost, .int .i64 (TPair.mkd k x).client.own.total, .int .i64 (TPair.mkd k x).client.own.totalMost, .int .i64 (TPair.mkd k x).client.own.bidi, .int .i64 (TPair.mkd k x).client.own.uni, .int .i64 (TPair.mkd k x).client.own.trip, .int .i64 (TPair.mkd k x).client.peer.ring, .int .i64 (TPair.mkd k x).client.peer.window, .int .i64 (TPair.mkd k x).client.peer.windowMost, .int .i64 (TPair.mkd k x).client.peer.total, .int .i64 (TPair.mkd k x).client.peer.totalMost, .int .i64 (TPair.mkd k x).client.peer.bidi, .int .i64 (TPair.mkd k x).client.peer.uni, .int .i64 (TPair.mkd k x).client.peer.trip, .sl 39 ((TPair.mkd k x).client.streams.map TStream.enc), .int .i64 (TPair.mkd k x).client.total.limit, .int .i64 (TPair.mkd k x).client.total.used, .int .i64 (TPair.mkd k x).client.total.blocked, .int .i64 (TPair.mkd k x).client.total.told, .int .i64 (TPair.mkd k x).client.inflow.size, .int .i64 (TPair.mkd k x).client.inflow.most, .int .i64 (TPair.mkd k x).client.inflow.limit, .int .i64 (TPair.mkd k x).client.inflow.seen, .int .i64 (TPair.mkd k x).client.inflow.read, .int .i64 (TPair.mkd k x).client.inflow.since, .int .i64 (TPair.mkd k x).client.openBidi.limit, .int .i64 (TPair.mkd k x).client.openBidi.opened, .int .i64 (TPair.mkd k x).client.openBidi.blocked, .int .i64 (TPair.mkd k x).client.openUni.limit, .int .i64 (TPair.mkd k x).client.openUni.opened, .int .i64 (TPair.mkd k x).client.openUni.blocked, .int .i64 (TPair.mkd k x).client.allowBidi.most, .int .i64 (TPair.mkd k x).client.allowBidi.limit, .int .i64 (TPair.mkd k x).client.allowBidi.seen, .int .i64 (TPair.mkd k x).client.allowBidi.closed, .int .i64 (TPair.mkd k x).client.allowUni.most, .int .i64 (TPair.mkd k x).client.allowUni.limit, .int .i64 (TPair.mkd k x).client.allowUni.seen, .int .i64 (TPair.mkd k x).client.allowUni.closed, .bool (TPair.mkd k x).client.tellTotal, .bool (TPair.mkd k x).client.tellBidi, .bool (TPair.mkd k x).client.tellUni, .int .i64 (TPair.mkd k x).client.last, .int .i64 (TPair.mkd k x).client.number, .sl 2 ((TPair.mkd k x).client.packets.map TPacket.enc), .int .i64 (TPair.mkd k x).client.now, .int .i64 (TPair.mkd k x).client.closed, .bool (TPair.mkd k x).server.server, .int .i64 (TPair.mkd k x).server.own.ring, .int .i64 (TPair.mkd k x).server.own.window, .int .i64 (TPair.mkd k x).server.own.windowMost, .int .i64 (TPair.mkd k x).server.own.total, .int .i64 (TPair.mkd k x).server.own.totalMost, .int .i64 (TPair.mkd k x).server.own.bidi, .int .i64 (TPair.mkd k x).server.own.uni, .int .i64 (TPair.mkd k x).server.own.trip, .int .i64 (TPair.mkd k x).server.peer.ring, .int .i64 (TPair.mkd k x).server.peer.window, .int .i64 (TPair.mkd k x).server.peer.windowMost, .int .i64 (TPair.mkd k x).server.peer.total, .int .i64 (TPair.mkd k x).server.peer.totalMost, .int .i64 (TPair.mkd k x).server.peer.bidi, .int .i64 (TPair.mkd k x).server.peer.uni, .int .i64 (TPair.mkd k x).server.peer.trip, .sl 39 ((TPair.mkd k x).server.streams.map TStream.enc), .int .i64 (TPair.mkd k x).server.total.limit, .int .i64 (TPair.mkd k x).server.total.used, .int .i64 (TPair.mkd k x).server.total.blocked, .int .i64 (TPair.mkd k x).server.total.told, .int .i64 (TPair.mkd k x).server.inflow.size, .int .i64 (TPair.mkd k x).server.inflow.most, .int .i64 (TPair.mkd k x).server.inflow.limit, .int .i64 (TPair.mkd k x).server.inflow.seen, .int .i64 (TPair.mkd k x).server.inflow.read, .int .i64 (TPair.mkd k x).server.inflow.since, .int .i64 (TPair.mkd k x).server.openBidi.limit, .int .i64 (TPair.mkd k x).server.openBidi.opened, .int .i64 (TPair.mkd k x).server.openBidi.blocked, .int .i64 (TPair.mkd k x).server.openUni.limit, .int .i64 (TPair.mkd k x).server.openUni.opened, .int .i64 (TPair.mkd k x).server.openUni.blocked, .int .i64 (TPair.mkd k x).server.allowBidi.most, .int .i64 (TPair.mkd k x).server.allowBidi.limit, .int .i64 (TPair.mkd k x).server.allowBidi.seen, .int .i64 (TPair.mkd k x).server.allowBidi.closed, .int .i64 (TPair.mkd k x).server.allowUni.most, .int .i64 (TPair.mkd k x).server.allowUni.limit, .int .i64 (TPair.mkd k x).server.allowUni.seen, .int .i64 (TPair.mkd k x).server.allowUni.closed, .bool (TPair.mkd k x).server.tellTotal, .bool (TPair.mkd k x).server.tellBidi, .bool (TPair.mkd k x).server.tellUni, .int .i64 (TPair.mkd k x).server.last, .int .i64 (TPair.mkd k x).server.number, .sl 2 ((TPair.mkd k x).server.packets.map TPacket.enc), .int .i64 (TPair.mkd k x).server.now, .int .i64 (TPair.mkd k x).server.closed, .sl 2 ((TPair.mkd k x).toServer.map TLetter.enc), .sl 2 ((TPair.mkd k x).toClient.map TLetter.enc), .sl 7 ((TPair.mkd k x).tracks.map TTrack.enc)], .one (.int .i64 k)] [.one (.int .i64 (TPair.adv k x))] := by
  refine mut_evc Try.func62 rfl Try.call62 Try.checked.mixed [.agg [.d (.bool x.client.server), .d (.int .i64 x.client.own.ring), .d (.int .i64 x.client.own.window), .d (.int .i64 x.client.own.windowMost), .d (.int .i64 x.client.own.total), .d (.int .i64 x.client.own.totalMost), .d (.int .i64 x.client.own.bidi), .d (.int .i64 x.client.own.uni), .d (.int .i64 x.client.own.trip), .d (.int .i64 x.client.peer.ring), .d (.int .i64 x.client.peer.window), .d (.int .i64 x.client.peer.windowMost), .d (.int .i64 x.client.peer.total), .d (.int .i64 x.client.peer.totalMost), .d (.int .i64 x.client.peer.bidi), .d (.int .i64 x.client.peer.uni), .d (.int .i64 x.client.peer.trip), .sl 0 0 (x.client.streams.map TStream.enc).length, .d (.int .i64 x.client.total.limit), .d (.int .i64 x.client.total.used), .d (.int .i64 x.client.total.blocked), .d (.int .i64 x.client.total.told), .d (.int .i64 x.client.inflow.size), .d (.int .i64 x.client.inflow.most), .d (.int .i64 x.client.inflow.limit), .d (.int .i64 x.client.inflow.seen), .d (.int .i64 x.client.inflow.read), .d (.int .i64 x.client.inflow.since), .d (.int .i64 x.client.openBidi.limit), .d (.int .i64 x.client.openBidi.opened), .d (.int .i64 x.client.openBidi.blocked), .d (.int .i64 x.client.openUni.limit), .d (.int .i64 x.client.openUni.opened), .d (.int .i64 x.client.openUni.blocked), .d (.int .i64 x.client.allowBidi.most), .d (.int .i64 x.client.allowBidi.limit), .d (.int .i64 x.client.allowBidi.seen), .d (.int .i64 x.client.allowBidi.closed), .d (.int .i64 x.client.allowUni.most), .d (.int .i64 x.client.allowUni.limit), .d (.int .i64 x.client.allowUni.seen), .d (.int .i64 x.client.allowUni.closed), .d (.bool x.client.tellTotal), .d (.bool x.client.tellBidi), .d (.bool x.client.tellUni), .d (.int .i64 x.client.last), .d (.int .i64 x.client.number), .sl 1 0 (x.client.packets.map TPacket.enc).length, .d (.int .i64 x.client.now), .d (.int .i64 x.client.closed), .d (.bool x.server.server), .d (.int .i64 x.server.own.ring), .d (.int .i64 x.server.own.window), .d (.int .i64 x.server.own.windowMost), .d (.int .i64 x.server.own.total), .d (.int .i64 x.server.own.totalMost), .d (.int .i64 x.server.own.bidi), .d (.int .i64 x.server.own.uni), .d (.int .i64 x.server.own.trip), .d (.int .i64 x.server.peer.ring), .d (.int .i64 x.server.peer.window), .d (.int .i64 x.server.peer.windowMost), .d (.int .i64 x.server.peer.total), .d (.int .i64 x.server.peer.totalMost), .d (.int .i64 x.server.peer.bidi), .d (.int .i64 x.server.peer.uni), .d (.int .i64 x.server.peer.trip), .sl 2 0 (x.server.streams.map TStream.enc).length, .d (.int .i64 x.server.total.limit), .d (.int .i64 x.server.total.used), .d (.int .i64 x.server.total.blocked), .d (.int .i64 x.server.total.told), .d (.int .i64 x.server.inflow.size), .d (.int .i64 x.server.inflow.most), .d (.int .i64 x.server.inflow.limit), .d (.int .i64 x.server.inflow.seen), .d (.int .i64 x.server.inflow.read), .d (.int .i64 x.server.inflow.since), .d (.int .i64 x.server.openBidi.limit), .d (.int .i64 x.server.openBidi.opened), .d (.int .i64 x.server.openBidi.blocked), .d (.int .i64 x.server.openUni.limit), .d (.int .i64 x.server.openUni.opened), .d (.int .i64 x.server.openUni.blocked), .d (.int .i64 x.server.allowBidi.most), .d (.int .i64 x.server.allowBidi.limit), .d (.int .i64 x.server.allowBidi.seen), .d (.int .i64 x.server.allowBidi.closed), .d (.int .i64 x.server.allowUni.most), .d (.int .i64 x.server.allowUni.limit), .d (.int .i64 x.server.allowUni.seen), .d (.int .i64 x.server.allowUni.closed), .d (.bool x.server.tellTotal), .d (.bool x.server.tellBidi), .d (.bool x.server.tellUni), .d (.int .i64 x.server.last), .d (.int .i64 x.server.number), .sl 3 0 (x.server.packets.map TPacket.enc).length, .d (.int .i64 x.server.now), .d (.int .i64 x.server.closed), .sl 4 0 (x.toServer.map TLetter.enc).length, .sl 5 0 (x.toClient.map TLetter.enc).length, .sl 6 0 (x.tracks.map TTrack.enc).length], .d (.int .i64 k), .junk, .junk, .junk, .junk, .junk, .junk, .junk, .junk, .junk, .junk, .junk, .junk, .junk, .junk, .junk, .junk, .junk, .junk, .junk, .junk, .junk, .junk, .junk, .junk] [.cln 39 (x.client.streams.map TStream.enc), .cln 2 (x.client.packets.map TPacket.enc), .cln 39 (x.server.streams.map TStream.enc), .cln 2 (x.server.packets.map TPacket.enc), .cln 2 (x.toServer.map TLetter.enc), .cln 2 (x.toClient.map TLetter.enc), .cln 7 (x.tracks.map TTrack.enc)] [.agg [.d (.bool x.client.server), .d (.int .i64 x.client.own.ring), .d (.int .i64 x.client.own.window), .d (.int .i64 x.client.own.windowMost), .d (.int .i64 x.client.own.total), .d (.int .i64 x.client.own.totalMost), .d (.int .i64 x.client.own.bidi), .d (.int .i64 x.client.own.uni), .d (.int .i64 x.client.own.trip), .d (.int .i64 x.client.peer.ring), .d (.int .i64 x.client.peer.window), .d (.int .i64 x.client.peer.windowMost), .d (.int .i64 x.client.peer.total), .d (.int .i64 x.client.peer.totalMost), .d (.int .i64 x.client.peer.bidi), .d (.int .i64 x.client.peer.uni), .d (.int .i64 x.client.peer.trip), .sl 0 0 (x.client.streams.map TStream.enc).length, .d (.int .i64 x.client.total.limit), .d (.int .i64 x.client.total.used), .d (.int .i64 x.client.total.blocked), .d (.int .i64 x.client.total.told), .d (.int .i64 x.client.inflow.size), .d (.int .i64 x.client.inflow.most), .d (.int .i64 x.client.inflow.limit), .d (.int .i64 x.client.inflow.seen), .d (.int .i64 x.client.inflow.read), .d (.int .i64 x.client.inflow.since), .d (.int .i64 x.client.openBidi.limit), .d (.int .i64 x.client.openBidi.opened), .d (.int .i64 x.client.openBidi.blocked), .d (.int .i64 x.client.openUni.limit), .d (.int .i64 x.client.openUni.opened), .d (.int .i64 x.client.openUni.blocked), .d (.int .i64 x.client.allowBidi.most), .d (.int .i64 x.client.allowBidi.limit), .d (.int .i64 x.client.allowBidi.seen), .d (.int .i64 x.client.allowBidi.closed), .d (.int .i64 x.client.allowUni.most), .d (.int .i64 x.client.allowUni.limit), .d (.int .i64 x.client.allowUni.seen), .d (.int .i64 x.client.allowUni.closed), .d (.bool x.client.tellTotal), .d (.bool x.client.tellBidi), .d (.bool x.client.tellUni), .d (.int .i64 x.client.last), .d (.int .i64 x.client.number), .sl 1 0 (x.client.packets.map TPacket.enc).length, .d (.int .i64 x.client.now), .d (.int .i64 x.client.closed), .d (.bool x.server.server), .d (.int .i64 x.server.own.ring), .d (.int .i64 x.server.own.window), .d (.int .i64 x.server.own.windowMost), .d (.int .i64 x.server.own.total), .d (.int .i64 x.server.own.totalMost), .d (.int .i64 x.server.own.bidi), .d (.int .i64 x.server.own.uni), .d (.int .i64 x.server.own.trip), .d (.int .i64 x.server.peer.ring), .d (.int .i64 x.server.peer.window), .d (.int .i64 x.server.peer.windowMost), .d (.int .i64 x.server.peer.total), .d (.int .i64 x.server.peer.totalMost), .d (.int .i64 x.server.peer.bidi), .d (.int .i64 x.server.peer.uni), .d (.int .i64 x.server.peer.trip), .sl 2 0 (x.server.streams.map TStream.enc).length, .d (.int .i64 x.server.total.limit), .d (.int .i64 x.server.total.used), .d (.int .i64 x.server.total.blocked), .d (.int .i64 x.server.total.told), .d (.int .i64 x.server.inflow.size), .d (.int .i64 x.server.inflow.most), .d (.int .i64 x.server.inflow.limit), .d (.int .i64 x.server.inflow.seen), .d (.int .i64 x.server.inflow.read), .d (.int .i64 x.server.inflow.since), .d (.int .i64 x.server.openBidi.limit), .d (.int .i64 x.server.openBidi.opened), .d (.int .i64 x.server.openBidi.blocked), .d (.int .i64 x.server.openUni.limit), .d (.int .i64 x.server.openUni.opened), .d (.int .i64 x.server.openUni.blocked), .d (.int .i64 x.server.allowBidi.most), .d (.int .i64 x.server.allowBidi.limit), .d (.int .i64 x.server.allowBidi.seen), .d (.int .i64 x.server.allowBidi.closed), .d (.int .i64 x.server.allowUni.most), .d (.int .i64 x.server.allowUni.limit), .d (.int .i64 x.server.allowUni.seen), .d (.int .i64 x.server.allowUni.closed), .d (.bool x.server.tellTotal), .d (.bool x.server.tellBidi), .d (.bool x.server.tellUni), .d (.int .i64 x.server.last), .d (.int .i64 x.server.number), .sl 3 0 (x.server.packets.map TPacket.enc).length, .d (.int .i64 x.server.now), .d (.int .i64 x.server.closed), .sl 4 0 (x.toServer.map TLetter.enc).length, .sl 5 0 (x.toClient.map TLetter.enc).length, .sl 6 0 (x.tracks.map TTrack.enc).length], .d (.int .i64 k)] rfl rfl rfl [.tmp 4] rfl ?_
  intro _
  have hl0 := fun k => mkN_len TStream.mk1 TStream.adv1 x.client.streams k
  have hl1 := fun k => mkN_len TPacket.mk1 TPacket.adv1 x.client.packets k
  have hl2 := fun k => mkN_len TStream.mk1 TStream.adv1 x.server.streams k
  have hl3 := fun k => mkN_len TPacket.mk1 TPacket.adv1 x.server.packets k
  have hl4 := fun k => mkL_len (TLetter.mk' : Int → TLetter) 2 k x.toServer x.toServer.length (Nat.le_refl _)
  have hl5 := fun k => mkL_len (TLetter.mk' : Int → TLetter) 2 k x.toClient x.toClient.length (Nat.le_refl _)
  have hl6 := fun k => mkL_len (TTrack.mk' : Int → TTrack) 7 k x.tracks x.tracks.length (Nat.le_refl _)
  have ht0 : ∀ k, ((mkN TStream.mk1 TStream.adv1 k x.client.streams).map TStream.enc).take x.client.streams.length = (mkN TStream.mk1 TStream.adv1 k x.client.streams).map TStream.enc := fun k => List.take_of_length_le (by simp [hl0])
  have ht1 : ∀ k, ((mkN TPacket.mk1 TPacket.adv1 k x.client.packets).map TPacket.enc).take x.client.packets.length = (mkN TPacket.mk1 TPacket.adv1 k x.client.packets).map TPacket.enc := fun k => List.take_of_length_le (by simp [hl1])
  have ht2 : ∀ k, ((mkN TStream.mk1 TStream.adv1 k x.server.streams).map TStream.enc).take x.server.streams.length = (mkN TStream.mk1 TStream.adv1 k x.server.streams).map TStream.enc := fun k => List.take_of_length_le (by simp [hl2])
  have ht3 : ∀ k, ((mkN TPacket.mk1 TPacket.adv1 k x.server.packets).map TPacket.enc).take x.server.packets.length = (mkN TPacket.mk1 TPacket.adv1 k x.server.packets).map TPacket.enc := fun k => List.take_of_length_le (by simp [hl3])
  have ht4 : ∀ k, ((mkL (TLetter.mk' : Int → TLetter) 2 k x.toServer x.toServer.length).map TLetter.enc).take x.toServer.length = (mkL (TLetter.mk' : Int → TLetter) 2 k x.toServer x.toServer.length).map TLetter.enc := fun k => List.take_of_length_le (by simp [hl4])
  have ht5 : ∀ k, ((mkL (TLetter.mk' : Int → TLetter) 2 k x.toClient x.toClient.length).map TLetter.enc).take x.toClient.length = (mkL (TLetter.mk' : Int → TLetter) 2 k x.toClient x.toClient.length).map TLetter.enc := fun k => List.take_of_length_le (by simp [hl5])
  have ht6 : ∀ k, ((mkL (TTrack.mk' : Int → TTrack) 7 k x.tracks x.tracks.length).map TTrack.enc).take x.tracks.length = (mkL (TTrack.mk' : Int → TTrack) 7 k x.tracks x.tracks.length).map TTrack.enc := fun k => List.take_of_length_le (by simp [hl6])
  unfold TPair.mkd TPair.adv
  simp only [go_sem, List.length_map, TConn.adv, TConn.mkd]
  refine CallS.mu (laws_markConn _ _) ?_
  simp only [go_sem, List.length_map, TConn.adv, TConn.mkd]
  try (refine And.intro (by simp) ?_; try simp only [go_sem, List.length_map, hl0, hl1, hl2, hl3, hl4, hl5, hl6, ht0, ht1, ht2, ht3, ht4, ht5, ht6, TConn.adv, TConn.mkd])
  refine CallS.mu (laws_markConn _ _) ?_
  simp only [go_sem, List.length_map, TConn.adv, TConn.mkd]
  try (refine And.intro (by simp) ?_; try simp only [go_sem, List.length_map, hl0, hl1, hl2, hl3, hl4, hl5, hl6, ht0, ht1, ht2, ht3, ht4, ht5, ht6, TConn.adv, TConn.mkd])
  refine CallS.mu (laws_markLetterS _ _) ?_
  simp only [go_sem, List.length_map]
  try (refine And.intro (by simp) ?_; try simp only [go_sem, List.length_map, hl0, hl1, hl2, hl3, hl4, hl5, hl6, ht0, ht1, ht2, ht3, ht4, ht5, ht6, TConn.adv, TConn.mkd])
  refine CallS.mu (laws_markLetterS _ _) ?_
  simp only [go_sem, List.length_map]
  try (refine And.intro (by simp) ?_; try simp only [go_sem, List.length_map, hl0, hl1, hl2, hl3, hl4, hl5, hl6, ht0, ht1, ht2, ht3, ht4, ht5, ht6, TConn.adv, TConn.mkd])
  refine CallS.mu (laws_markTrackS _ _) ?_
  simp only [go_sem, List.length_map, hl0, hl1, hl2, hl3, hl4, hl5, hl6, ht0, ht1, ht2, ht3, ht4, ht5, ht6]
  try (refine And.intro (by simp) ?_; try simp only [go_sem, List.length_map, hl0, hl1, hl2, hl3, hl4, hl5, hl6, ht0, ht1, ht2, ht3, ht4, ht5, ht6, TConn.adv, TConn.mkd])
  simp [outOA]
theorem TLetter.eq_mk {k : Int} {x : TLetter} (e0 : x.number = k) (e1 : x.payload = mtext (nx k)) : x = TLetter.mk' k := by
  cases x; simp only at *; subst_vars; rfl
set_option maxRecDepth 100000 in
theorem laws_heldLetterS (xs : List TLetter) (k : Int) : PureCall Try.prog 68 [.one (.sl 2 (xs.map TLetter.enc)), .one (.int .i64 k)] [.one (.int .i64 (heldL (TLetter.mk' : Int → TLetter) 2 k xs))] := by
  refine pure_ev Try.func68 rfl Try.call68 Try.checked.mixed [.d (.sl 2 (xs.map TLetter.enc)), .d (.int .i64 k), .junk, .junk, .junk, .junk, .junk, .junk, .junk, .junk, .junk, .junk, .junk, .junk, .junk, .junk, .junk, .junk, .junk, .junk, .junk, .junk, .junk, .junk, .junk, .junk, .junk, .junk, .junk, .junk, .junk, .junk] rfl [.tmp 4] rfl ?_
  intro ok
  have hm := len_of ok
  clear ok
  simp only [go_sem]
  refine LoopK.intro (fun i : Nat => ⟨[.d (.sl 2 (xs.map TLetter.enc)), .d (.int .i64 (nxs (2 * i) k)), .junk, .junk, .d (.int .i64 0), .d (.int .i64 i), .junk, .junk, .junk, .junk, .junk, .junk, .junk, .junk, .junk, .junk, .junk, .junk, .junk, .junk, .junk, .junk, .junk, .junk, .junk, .junk, .junk, .junk, .junk, .junk, .junk, .junk], []⟩)
      (fun i => xs.length - i) (fun i => i ≤ xs.length ∧ heldL (TLetter.mk' : Int → TLetter) 2 k xs = heldL (TLetter.mk' : Int → TLetter) 2 (nxs (2 * i) k) (xs.drop i)) 0 [] ⟨by omega, by simp [nxs]⟩ ?_ ?_
  · simp only [go_sem]; simp [nxs]
  · rintro i ⟨hi, he⟩
    simp only [go_sem, List.length_map]
    refine cSplit (fun h1 => ?_) (fun h1 => ?_)
    · simp only [decide_eq_true_eq] at h1
      have hlt : i < xs.length := by omega
      have hxi := map_at TLetter.enc xs i hlt
      have hw := inc hlt hm
      have hn : nxs (2 * (i + 1)) k = nx (nx (nxs (2 * i) k)) := rfl
      have hn2 : nxs 2 (nxs (2 * i) k) = nxs (2 * (i + 1)) k := rfl
      have hb2 : ((i : Nat) : Int) < (xs.length : Int) := h1
      rw [heldL_step (TLetter.mk' : Int → TLetter) 2 _ xs i hlt, hn2] at he
      generalize hz : nxs (2 * i) k = z at *
      generalize hx : xs[i] = x at *
      simp only [TLetter.enc] at hxi
      try simp only [go_sem, List.length_map, Int.toNat_natCast, hxi]
      try (with_reducible refine And.intro ?_ ?_; (focus (first | omega | (constructor <;> omega))); try simp only [go_sem, List.length_map, Int.toNat_natCast, hxi, hw])
      refine cSplit (fun h => ?_) (fun h => ?_)
      · rw [if_neg (fun e => (of_decide_eq_true h) (by rw [e]; rfl))] at he; rw [he]; simp only [go_sem]
        try simp [outOA]
      have e0 := Decidable.of_not_not (of_decide_eq_false h); clear h
      try simp only [go_sem]
      try (with_reducible refine And.intro ?_ ?_; (focus (first | omega | (constructor <;> omega))); try simp only [go_sem, List.length_map, Int.toNat_natCast, hxi, hw])
      try simp only [go_sem, List.length_map, Int.toNat_natCast, hxi, hw]
      repeat' (first
        | (refine CallS.intro (by first | assumption | (apply laws_markText <;> first | assumption | omega)) ?_; simp only [go_sem, List.length_map, Int.toNat_natCast, hxi, hw])
        | (refine CallK.intro (by first | assumption | (apply laws_markText <;> first | assumption | omega)) ?_; simp only [go_sem])
        | (with_reducible refine gTrueS ?_; simp only [go_sem, List.length_map, Int.toNat_natCast, hxi, hw]) | (with_reducible refine gFalseS ?_; simp only [go_sem, List.length_map, Int.toNat_natCast, hxi, hw]) | (with_reducible refine gTrue ?_; simp only [go_sem, List.length_map, Int.toNat_natCast, hxi, hw]) | (with_reducible refine gFalse ?_; simp only [go_sem, List.length_map, Int.toNat_natCast, hxi, hw])
        | (refine gSymS ?_; simp only [go_sem, List.length_map, Int.toNat_natCast, hxi, hw]) | (refine gSym ?_; simp only [go_sem, List.length_map, Int.toNat_natCast, hxi, hw])
        | (refine drawE_intro [[.post, .un, .post, .post, .post, .un, .un, .post], [.un, .post, .post, .post, .post, .un, .un, .post], [.pre, .pre, .post, .post, .post, .un, .un, .post], [.pre, .pre, .pre, .post, .post, .un, .un, .post], [.pre, .pre, .pre, .pre, .post, .un, .un, .post], [.un, .un, .un, .un, .un, .post, .post, .post], [.un, .un, .un, .un, .un, .pre, .post, .post], [.pre, .pre, .pre, .pre, .pre, .pre, .pre, .post]] (by kernel_rfl) (by rfl) ?_; simp only [go_sem, List.length_map, Int.toNat_natCast, hxi])
        | (with_reducible refine And.intro ?_ ?_; (focus (first | omega | (exact ⟨by omega, by omega⟩) | (simp; done) | (simp; omega)))))
      refine cSplit (fun h => ?_) (fun h => ?_)
      · rw [if_neg (fun e => (of_decide_eq_true h) (by rw [e]; rfl))] at he; rw [he]; simp only [go_sem]
        try simp [outOA]
      have e1 := Decidable.of_not_not (of_decide_eq_false h); clear h
      try simp only [go_sem, hw]
      rw [if_pos (TLetter.eq_mk e0 e1)] at he
      refine RoundE.intro (i + 1) [] ⟨by omega, he⟩ (by omega) ?_
      simp only [nx] at hn
      simp only [go_sem, hn]; try simp
    · simp only [go_sem]
      simp only [decide_eq_false_iff_not] at h1
      rw [List.drop_eq_nil_of_le (by omega), heldL] at he
      simp [he]
set_option maxRecDepth 100000 in
theorem laws_heldIntS (xs : List Int) (k : Int) : PureCall Try.prog 104 [.one (.sl 1 (xs.map eI)), .one (.int .i64 k)] [.one (.int .i64 (heldL (_root_.id : Int → Int) 1 k xs))] := by
  refine pure_ev Try.func104 rfl Try.call104 Try.checked.mixed [.d (.sl 1 (xs.map eI)), .d (.int .i64 k), .junk, .junk, .junk, .junk, .junk, .junk, .junk, .junk, .junk, .junk, .junk, .junk, .junk, .junk, .junk, .junk, .junk, .junk, .junk] rfl [.tmp 4] rfl ?_
  intro ok
  have hm := len_of ok
  simp only [go_sem]
  refine LoopK.intro (fun i : Nat => ⟨[.d (.sl 1 (xs.map eI)), .d (.int .i64 (nxs (1 * i) k)), .junk, .junk, .d (.int .i64 0), .d (.int .i64 i), .junk, .junk, .junk, .junk, .junk, .junk, .junk, .junk, .junk, .junk, .junk, .junk, .junk, .junk, .junk], []⟩)
      (fun i => xs.length - i) (fun i => i ≤ xs.length ∧ heldL (_root_.id : Int → Int) 1 k xs = heldL (_root_.id : Int → Int) 1 (nxs (1 * i) k) (xs.drop i)) 0 [] ⟨by omega, by simp [nxs]⟩ ?_ ?_
  · simp only [go_sem]; simp [nxs]
  · rintro i ⟨hi, he⟩
    simp only [go_sem, List.length_map]
    refine cSplit (fun h1 => ?_) (fun h1 => ?_)
    · simp only [decide_eq_true_eq] at h1
      have hlt : i < xs.length := by omega
      have hxi := map_at eI xs i hlt
      have hw := inc hlt hm
      have hn : nxs (1 * (i + 1)) k = nx (nxs (1 * i) k) := rfl
      have hn2 : nxs 1 (nxs (1 * i) k) = nxs (1 * (i + 1)) k := rfl
      have hb2 : ((i : Nat) : Int) < (xs.length : Int) := h1
      rw [heldL_step (_root_.id : Int → Int) 1 _ xs i hlt, hn2] at he
      rw [he]
      clear he
      simp only [id]
      generalize hz : nxs (1 * i) k = z at *
      obtain hxe : ∃ q, xs[i] = q := ⟨_, rfl⟩
      obtain ⟨q, hxe⟩ := hxe
      try simp only [hxe, eI] at hxi
      try simp only [hxe]
      try simp only [go_sem, List.length_map, Int.toNat_natCast, hxi]
      repeat' (first
        | (with_reducible refine gTrueS ?_; simp only [go_sem, List.length_map, Int.toNat_natCast, hxi, hw]) | (with_reducible refine gFalseS ?_; simp only [go_sem, List.length_map, Int.toNat_natCast, hxi, hw]) | (with_reducible refine gTrue ?_; simp only [go_sem, List.length_map, Int.toNat_natCast, hxi, hw]) | (with_reducible refine gFalse ?_; simp only [go_sem, List.length_map, Int.toNat_natCast, hxi, hw])
        | (refine gSymS ?_; simp only [go_sem, List.length_map, Int.toNat_natCast, hxi, hw]) | (refine gSym ?_; simp only [go_sem, List.length_map, Int.toNat_natCast, hxi, hw])
        | (refine cSplit (fun h => ?_) (fun h => ?_) <;> simp only [go_sem, hw])
        | (with_reducible refine And.intro ?_ ?_; (focus (first | omega | (exact ⟨by omega, by omega⟩) | (simp; done) | (simp; omega)))))
      all_goals first
        | (refine RoundE.intro (i + 1) [] ⟨by omega, ?_⟩ (by omega) ?_
           · simp_all [nx]
           · simp only [go_sem]; simp_all [nx])
        | (simp_all [nx]; done)
    · simp only [go_sem]
      simp only [decide_eq_false_iff_not] at h1
      rw [List.drop_eq_nil_of_le (by omega), heldL] at he
      simp [he]
theorem TRange.eq_mk {k : Int} {x : TRange} (e0 : x.low = k) (e1 : x.high = (nx k)) : x = TRange.mk' k := by
  cases x; simp only at *; subst_vars; rfl
set_option maxRecDepth 100000 in
theorem laws_heldRangeS (xs : List TRange) (k : Int) : PureCall Try.prog 36 [.one (.sl 2 (xs.map TRange.enc)), .one (.int .i64 k)] [.one (.int .i64 (heldL (TRange.mk' : Int → TRange) 2 k xs))] := by
  refine pure_ev Try.func36 rfl Try.call36 Try.checked.mixed [.d (.sl 2 (xs.map TRange.enc)), .d (.int .i64 k), .junk, .junk, .junk, .junk, .junk, .junk, .junk, .junk, .junk, .junk, .junk, .junk, .junk, .junk, .junk, .junk, .junk, .junk, .junk, .junk, .junk, .junk, .junk, .junk, .junk, .junk, .junk, .junk, .junk] rfl [.tmp 4] rfl ?_
  intro ok
  have hm := len_of ok
  clear ok
  simp only [go_sem]
  refine LoopK.intro (fun i : Nat => ⟨[.d (.sl 2 (xs.map TRange.enc)), .d (.int .i64 (nxs (2 * i) k)), .junk, .junk, .d (.int .i64 0), .d (.int .i64 i), .junk, .junk, .junk, .junk, .junk, .junk, .junk, .junk, .junk, .junk, .junk, .junk, .junk, .junk, .junk, .junk, .junk, .junk, .junk, .junk, .junk, .junk, .junk, .junk, .junk], []⟩)
      (fun i => xs.length - i) (fun i => i ≤ xs.length ∧ heldL (TRange.mk' : Int → TRange) 2 k xs = heldL (TRange.mk' : Int → TRange) 2 (nxs (2 * i) k) (xs.drop i)) 0 [] ⟨by omega, by simp [nxs]⟩ ?_ ?_
  · simp only [go_sem]; simp [nxs]
  · rintro i ⟨hi, he⟩
    simp only [go_sem, List.length_map]
    refine cSplit (fun h1 => ?_) (fun h1 => ?_)
    · simp only [decide_eq_true_eq] at h1
      have hlt : i < xs.length := by omega
      have hxi := map_at TRange.enc xs i hlt
      have hw := inc hlt hm
      have hn : nxs (2 * (i + 1)) k = nx (nx (nxs (2 * i) k)) := rfl
      have hn2 : nxs 2 (nxs (2 * i) k) = nxs (2 * (i + 1)) k := rfl
      have hb2 : ((i : Nat) : Int) < (xs.length : Int) := h1
      rw [heldL_step (TRange.mk' : Int → TRange) 2 _ xs i hlt, hn2] at he
      generalize hz : nxs (2 * i) k = z at *
      generalize hx : xs[i] = x at *
      simp only [TRange.enc] at hxi
      try simp only [go_sem, List.length_map, Int.toNat_natCast, hxi]
      try (with_reducible refine And.intro ?_ ?_; (focus (first | omega | (constructor <;> omega))); try simp only [go_sem, List.length_map, Int.toNat_natCast, hxi, hw])
      refine cSplit (fun h => ?_) (fun h => ?_)
      · rw [if_neg (fun e => (of_decide_eq_true h) (by rw [e]; rfl))] at he; rw [he]; simp only [go_sem]
        try simp [outOA]
      have e0 := Decidable.of_not_not (of_decide_eq_false h); clear h
      try simp only [go_sem, List.length_map, Int.toNat_natCast, hxi]
      try (with_reducible refine And.intro ?_ ?_; (focus (first | omega | (constructor <;> omega))); try simp only [go_sem, List.length_map, Int.toNat_natCast, hxi, hw])
      refine cSplit (fun h => ?_) (fun h => ?_)
      · rw [if_neg (fun e => (of_decide_eq_true h) (by rw [e]; rfl))] at he; rw [he]; simp only [go_sem]
        try simp [outOA]
      have e1 := Decidable.of_not_not (of_decide_eq_false h); clear h
      try simp only [go_sem, hw]
      rw [if_pos (TRange.eq_mk e0 e1)] at he
      refine RoundE.intro (i + 1) [] ⟨by omega, he⟩ (by omega) ?_
      simp only [nx] at hn
      simp only [go_sem, hn]; try simp
    · simp only [go_sem]
      simp only [decide_eq_false_iff_not] at h1
      rw [List.drop_eq_nil_of_le (by omega), heldL] at he
      simp [he]
theorem TChunk.eq_mk {k : Int} {x : TChunk} (e0 : x.offset = k) (e1 : x.data = mtext (nx k)) : x = TChunk.mk' k := by
  cases x; simp only at *; subst_vars; rfl
set_option maxRecDepth 100000 in
theorem laws_heldChunkS (xs : List TChunk) (k : Int) : PureCall Try.prog 196 [.one (.sl 2 (xs.map TChunk.enc)), .one (.int .i64 k)] [.one (.int .i64 (heldL (TChunk.mk' : Int → TChunk) 2 k xs))] := by
  refine pure_ev Try.func196 rfl Try.call196 Try.checked.mixed [.d (.sl 2 (xs.map TChunk.enc)), .d (.int .i64 k), .junk, .junk, .junk, .junk, .junk, .junk, .junk, .junk, .junk, .junk, .junk, .junk, .junk, .junk, .junk, .junk, .junk, .junk, .junk, .junk, .junk, .junk, .junk, .junk, .junk, .junk, .junk, .junk, .junk, .junk] rfl [.tmp 4] rfl ?_
  intro ok
  have hm := len_of ok
  clear ok
  simp only [go_sem]
  refine LoopK.intro (fun i : Nat => ⟨[.d (.sl 2 (xs.map TChunk.enc)), .d (.int .i64 (nxs (2 * i) k)), .junk, .junk, .d (.int .i64 0), .d (.int .i64 i), .junk, .junk, .junk, .junk, .junk, .junk, .junk, .junk, .junk, .junk, .junk, .junk, .junk, .junk, .junk, .junk, .junk, .junk, .junk, .junk, .junk, .junk, .junk, .junk, .junk, .junk], []⟩)
      (fun i => xs.length - i) (fun i => i ≤ xs.length ∧ heldL (TChunk.mk' : Int → TChunk) 2 k xs = heldL (TChunk.mk' : Int → TChunk) 2 (nxs (2 * i) k) (xs.drop i)) 0 [] ⟨by omega, by simp [nxs]⟩ ?_ ?_
  · simp only [go_sem]; simp [nxs]
  · rintro i ⟨hi, he⟩
    simp only [go_sem, List.length_map]
    refine cSplit (fun h1 => ?_) (fun h1 => ?_)
    · simp only [decide_eq_true_eq] at h1
      have hlt : i < xs.length := by omega
      have hxi := map_at TChunk.enc xs i hlt
      have hw := inc hlt hm
      have hn : nxs (2 * (i + 1)) k = nx (nx (nxs (2 * i) k)) := rfl
      have hn2 : nxs 2 (nxs (2 * i) k) = nxs (2 * (i + 1)) k := rfl
      have hb2 : ((i : Nat) : Int) < (xs.length : Int) := h1
      rw [heldL_step (TChunk.mk' : Int → TChunk) 2 _ xs i hlt, hn2] at he
      generalize hz : nxs (2 * i) k = z at *
      generalize hx : xs[i] = x at *
      simp only [TChunk.enc] at hxi
      try simp only [go_sem, List.length_map, Int.toNat_natCast, hxi]
      try (with_reducible refine And.intro ?_ ?_; (focus (first | omega | (constructor <;> omega))); try simp only [go_sem, List.length_map, Int.toNat_natCast, hxi, hw])
      refine cSplit (fun h => ?_) (fun h => ?_)
      · rw [if_neg (fun e => (of_decide_eq_true h) (by rw [e]; rfl))] at he; rw [he]; simp only [go_sem]
        try simp [outOA]
      have e0 := Decidable.of_not_not (of_decide_eq_false h); clear h
      try simp only [go_sem]
      try (with_reducible refine And.intro ?_ ?_; (focus (first | omega | (constructor <;> omega))); try simp only [go_sem, List.length_map, Int.toNat_natCast, hxi, hw])
      try simp only [go_sem, List.length_map, Int.toNat_natCast, hxi, hw]
      repeat' (first
        | (refine CallS.intro (by first | assumption | (apply laws_markText <;> first | assumption | omega)) ?_; simp only [go_sem, List.length_map, Int.toNat_natCast, hxi, hw])
        | (refine CallK.intro (by first | assumption | (apply laws_markText <;> first | assumption | omega)) ?_; simp only [go_sem])
        | (with_reducible refine gTrueS ?_; simp only [go_sem, List.length_map, Int.toNat_natCast, hxi, hw]) | (with_reducible refine gFalseS ?_; simp only [go_sem, List.length_map, Int.toNat_natCast, hxi, hw]) | (with_reducible refine gTrue ?_; simp only [go_sem, List.length_map, Int.toNat_natCast, hxi, hw]) | (with_reducible refine gFalse ?_; simp only [go_sem, List.length_map, Int.toNat_natCast, hxi, hw])
        | (refine gSymS ?_; simp only [go_sem, List.length_map, Int.toNat_natCast, hxi, hw]) | (refine gSym ?_; simp only [go_sem, List.length_map, Int.toNat_natCast, hxi, hw])
        | (refine drawE_intro [[.post, .un, .post, .post, .post, .un, .un, .post], [.un, .post, .post, .post, .post, .un, .un, .post], [.pre, .pre, .post, .post, .post, .un, .un, .post], [.pre, .pre, .pre, .post, .post, .un, .un, .post], [.pre, .pre, .pre, .pre, .post, .un, .un, .post], [.un, .un, .un, .un, .un, .post, .post, .post], [.un, .un, .un, .un, .un, .pre, .post, .post], [.pre, .pre, .pre, .pre, .pre, .pre, .pre, .post]] (by kernel_rfl) (by rfl) ?_; simp only [go_sem, List.length_map, Int.toNat_natCast, hxi])
        | (with_reducible refine And.intro ?_ ?_; (focus (first | omega | (exact ⟨by omega, by omega⟩) | (simp; done) | (simp; omega)))))
      refine cSplit (fun h => ?_) (fun h => ?_)
      · rw [if_neg (fun e => (of_decide_eq_true h) (by rw [e]; rfl))] at he; rw [he]; simp only [go_sem]
        try simp [outOA]
      have e1 := Decidable.of_not_not (of_decide_eq_false h); clear h
      try simp only [go_sem, hw]
      rw [if_pos (TChunk.eq_mk e0 e1)] at he
      refine RoundE.intro (i + 1) [] ⟨by omega, he⟩ (by omega) ?_
      simp only [nx] at hn
      simp only [go_sem, hn]; try simp
    · simp only [go_sem]
      simp only [decide_eq_false_iff_not] at h1
      rw [List.drop_eq_nil_of_le (by omega), heldL] at he
      simp [he]
set_option maxHeartbeats 8000000 in
set_option maxRecDepth 100000 in
theorem laws_heldStreamS (xs : List TStream) (k : Int) : PureCall Try.prog 182 [.one (.sl 39 (xs.map TStream.enc)), .one (.int .i64 k)] [.one (.int .i64 (heldN TStream.held1 k xs))] := by
  refine pure_ev Try.func182 rfl Try.call182 Try.checked.mixed [.d (.sl 39 (xs.map TStream.enc)), .d (.int .i64 k), .junk, .junk, .junk, .junk, .junk, .junk, .junk, .junk, .junk, .junk, .junk, .junk, .junk, .junk, .junk, .junk, .junk, .junk, .junk, .junk, .junk, .junk, .junk, .junk, .junk, .junk, .junk, .junk, .junk, .junk, .junk, .junk, .junk, .junk, .junk, .junk, .junk, .junk, .junk, .junk, .junk, .junk, .junk, .junk, .junk, .junk, .junk, .junk, .junk, .junk, .junk, .junk, .junk, .junk, .junk, .junk, .junk, .junk, .junk, .junk, .junk, .junk, .junk, .junk, .junk, .junk, .junk, .junk, .junk, .junk, .junk, .junk, .junk, .junk, .junk, .junk, .junk, .junk, .junk, .junk, .junk, .junk, .junk, .junk, .junk, .junk, .junk, .junk, .junk, .junk, .junk, .junk, .junk, .junk, .junk, .junk, .junk, .junk, .junk, .junk, .junk, .junk, .junk, .junk, .junk, .junk, .junk, .junk, .junk, .junk, .junk, .junk, .junk, .junk, .junk, .junk, .junk, .junk, .junk, .junk, .junk, .junk, .junk, .junk, .junk, .junk, .junk, .junk, .junk, .junk, .junk, .junk, .junk, .junk, .junk, .junk, .junk, .junk, .junk, .junk, .junk, .junk, .junk, .junk, .junk, .junk, .junk, .junk, .junk, .junk, .junk, .junk, .junk, .junk, .junk, .junk, .junk, .junk, .junk, .junk, .junk, .junk, .junk, .junk, .junk, .junk, .junk, .junk, .junk, .junk, .junk, .junk, .junk, .junk, .junk, .junk, .junk, .junk, .junk, .junk, .junk, .junk, .junk, .junk, .junk, .junk, .junk, .junk, .junk, .junk, .junk, .junk, .junk, .junk, .junk, .junk, .junk, .junk, .junk, .junk, .junk, .junk, .junk, .junk, .junk, .junk, .junk, .junk, .junk, .junk, .junk, .junk, .junk, .junk, .junk, .junk, .junk, .junk, .junk, .junk, .junk, .junk, .junk, .junk, .junk, .junk, .junk, .junk, .junk, .junk, .junk, .junk, .junk, .junk, .junk, .junk, .junk, .junk, .junk, .junk, .junk, .junk, .junk, .junk, .junk, .junk, .junk, .junk, .junk, .junk, .junk, .junk, .junk, .junk, .junk, .junk, .junk, .junk, .junk, .junk, .junk, .junk, .junk, .junk, .junk, .junk, .junk, .junk, .junk, .junk, .junk, .junk, .junk, .junk, .junk, .junk, .junk, .junk, .junk, .junk, .junk, .junk, .junk, .junk, .junk, .junk, .junk, .junk, .junk, .junk, .junk, .junk, .junk, .junk, .junk, .junk, .junk, .junk, .junk, .junk, .junk, .junk, .junk, .junk, .junk, .junk, .junk, .junk, .junk, .junk, .junk, .junk, .junk, .junk, .junk, .junk, .junk, .junk, .junk, .junk, .junk, .junk, .junk, .junk, .junk, .junk, .junk, .junk, .junk, .junk, .junk, .junk, .junk, .junk, .junk, .junk, .junk, .junk, .junk, .junk, .junk, .junk, .junk, .junk, .junk, .junk, .junk, .junk, .junk, .junk, .junk, .junk, .junk, .junk, .junk, .junk, .junk, .junk, .junk, .junk, .junk, .junk, .junk, .junk, .junk, .junk, .junk, .junk, .junk, .junk, .junk, .junk, .junk, .junk, .junk, .junk, .junk, .junk, .junk, .junk, .junk, .junk, .junk, .junk, .junk, .junk, .junk, .junk, .junk, .junk, .junk, .junk, .junk, .junk, .junk, .junk, .junk, .junk, .junk, .junk, .junk, .junk, .junk, .junk, .junk, .junk, .junk, .junk, .junk, .junk, .junk, .junk, .junk, .junk] rfl [.tmp 4] rfl ?_
  intro ok
  have hm := len_of ok
  clear ok
  simp only [go_sem]
  refine LoopK.intro (fun p : Nat × Int => ⟨[.d (.sl 39 (xs.map TStream.enc)), .d (.int .i64 p.2), .junk, .junk, .d (.int .i64 0), .d (.int .i64 p.1), .junk, .junk, .junk, .junk, .junk, .junk, .junk, .junk, .junk, .junk, .junk, .junk, .junk, .junk, .junk, .junk, .junk, .junk, .junk, .junk, .junk, .junk, .junk, .junk, .junk, .junk, .junk, .junk, .junk, .junk, .junk, .junk, .junk, .junk, .junk, .junk, .junk, .junk, .junk, .junk, .junk, .junk, .junk, .junk, .junk, .junk, .junk, .junk, .junk, .junk, .junk, .junk, .junk, .junk, .junk, .junk, .junk, .junk, .junk, .junk, .junk, .junk, .junk, .junk, .junk, .junk, .junk, .junk, .junk, .junk, .junk, .junk, .junk, .junk, .junk, .junk, .junk, .junk, .junk, .junk, .junk, .junk, .junk, .junk, .junk, .junk, .junk, .junk, .junk, .junk, .junk, .junk, .junk, .junk, .junk, .junk, .junk, .junk, .junk, .junk, .junk, .junk, .junk, .junk, .junk, .junk, .junk, .junk, .junk, .junk, .junk, .junk, .junk, .junk, .junk, .junk, .junk, .junk, .junk, .junk, .junk, .junk, .junk, .junk, .junk, .junk, .junk, .junk, .junk, .junk, .junk, .junk, .junk, .junk, .junk, .junk, .junk, .junk, .junk, .junk, .junk, .junk, .junk, .junk, .junk, .junk, .junk, .junk, .junk, .junk, .junk, .junk, .junk, .junk, .junk, .junk, .junk, .junk, .junk, .junk, .junk, .junk, .junk, .junk, .junk, .junk, .junk, .junk, .junk, .junk, .junk, .junk, .junk, .junk, .junk, .junk, .junk, .junk, .junk, .junk, .junk, .junk, .junk, .junk, .junk, .junk, .junk, .junk, .junk, .junk, .junk, .junk, .junk, .junk, .junk, .junk, .junk, .junk, .junk, .junk, .junk, .junk, .junk, .junk, .junk, .junk, .junk, .junk, .junk, .junk, .junk, .junk, .junk, .junk, .junk, .junk, .junk, .junk, .junk, .junk, .junk, .junk, .junk, .junk, .junk, .junk, .junk, .junk, .junk, .junk, .junk, .junk, .junk, .junk, .junk, .junk, .junk, .junk, .junk, .junk, .junk, .junk, .junk, .junk, .junk, .junk, .junk, .junk, .junk, .junk, .junk, .junk, .junk, .junk, .junk, .junk, .junk, .junk, .junk, .junk, .junk, .junk, .junk, .junk, .junk, .junk, .junk, .junk, .junk, .junk, .junk, .junk, .junk, .junk, .junk, .junk, .junk, .junk, .junk, .junk, .junk, .junk, .junk, .junk, .junk, .junk, .junk, .junk, .junk, .junk, .junk, .junk, .junk, .junk, .junk, .junk, .junk, .junk, .junk, .junk, .junk, .junk, .junk, .junk, .junk, .junk, .junk, .junk, .junk, .junk, .junk, .junk, .junk, .junk, .junk, .junk, .junk, .junk, .junk, .junk, .junk, .junk, .junk, .junk, .junk, .junk, .junk, .junk, .junk, .junk, .junk, .junk, .junk, .junk, .junk, .junk, .junk, .junk, .junk, .junk, .junk, .junk, .junk, .junk, .junk, .junk, .junk, .junk, .junk, .junk, .junk, .junk, .junk, .junk, .junk, .junk, .junk, .junk, .junk, .junk, .junk, .junk, .junk, .junk, .junk, .junk, .junk, .junk, .junk, .junk, .junk, .junk, .junk, .junk, .junk, .junk, .junk, .junk, .junk, .junk, .junk, .junk, .junk, .junk, .junk, .junk, .junk, .junk, .junk, .junk, .junk, .junk, .junk, .junk, .junk, .junk, .junk, .junk, .junk, .junk, .junk, .junk, .junk, .junk, .junk, .junk, .junk, .junk, .junk, .junk], []⟩)
      (fun p => xs.length - p.1) (fun p => p.1 ≤ xs.length ∧ heldN TStream.held1 k xs = heldN TStream.held1 p.2 (xs.drop p.1)) (0, k) [] ⟨by simp, by simp⟩ ?_ ?_
  · simp only [go_sem]; simp
  · rintro ⟨i, z⟩ ⟨hi, he⟩
    simp only at hi he
    simp only [go_sem, List.length_map]
    refine cSplit (fun h1 => ?_) (fun h1 => ?_)
    · simp only [decide_eq_true_eq] at h1
      have hlt : i < xs.length := by omega
      have hxi := map_at TStream.enc xs i hlt
      have hw := inc hlt hm
      rw [heldN_step TStream.held1 _ xs i hlt] at he
      generalize hx : xs[i] = x at *
      simp only [TStream.enc] at hxi
      generalize hR : heldN TStream.held1 k xs = R at *
      generalize hC : (fun k' => heldN TStream.held1 k' (List.drop (i + 1) xs)) = C at *
      unfold TStream.held1 at he
      have hb : ((i : Nat) : Int) < (xs.length : Int) := h1
      try simp only [go_sem, List.length_map, Int.toNat_natCast, hxi]
      try (with_reducible refine And.intro ?_ ?_; (focus (first | omega | (constructor <;> omega))); try simp only [go_sem, List.length_map, Int.toNat_natCast, hxi, hw])
      refine cSplit (fun h => ?_) (fun h => ?_)
      · rw [if_neg (of_decide_eq_true h), hmap] at he; rw [he]; simp only [go_sem]
        try simp [outOA]
      rw [if_pos (Decidable.of_not_not (of_decide_eq_false h))] at he; clear h
      try simp only [go_sem, List.length_map, Int.toNat_natCast, hxi]
      try (with_reducible refine And.intro ?_ ?_; (focus (first | omega | (constructor <;> omega))); try simp only [go_sem, List.length_map, Int.toNat_natCast, hxi, hw])
      refine cSplit (fun h => ?_) (fun h => ?_)
      · rw [if_neg (of_decide_eq_true h), hmap] at he; rw [he]; simp only [go_sem]
        try simp [outOA]
      rw [if_pos (Decidable.of_not_not (of_decide_eq_false h))] at he; clear h
      try simp only [go_sem, List.length_map, Int.toNat_natCast, hxi]
      try (with_reducible refine And.intro ?_ ?_; (focus (first | omega | (constructor <;> omega))); try simp only [go_sem, List.length_map, Int.toNat_natCast, hxi, hw])
      refine cSplit (fun h => ?_) (fun h => ?_)
      · rw [if_neg (of_decide_eq_true h), hmap] at he; rw [he]; simp only [go_sem]
        try simp [outOA]
      rw [if_pos (Decidable.of_not_not (of_decide_eq_false h))] at he; clear h
      try simp only [go_sem, List.length_map, Int.toNat_natCast, hxi]
      try (with_reducible refine And.intro ?_ ?_; (focus (first | omega | (constructor <;> omega))); try simp only [go_sem, List.length_map, Int.toNat_natCast, hxi, hw])
      refine cSplit (fun h => ?_) (fun h => ?_)
      · rw [if_neg (of_decide_eq_true h), hmap] at he; rw [he]; simp only [go_sem]
        try simp [outOA]
      rw [if_pos (Decidable.of_not_not (of_decide_eq_false h))] at he; clear h
      try simp only [go_sem, List.length_map, Int.toNat_natCast, hxi]
      try (with_reducible refine And.intro ?_ ?_; (focus (first | omega | (constructor <;> omega))); try simp only [go_sem, List.length_map, Int.toNat_natCast, hxi, hw])
      refine cSplit (fun h => ?_) (fun h => ?_)
      · rw [if_neg (of_decide_eq_true h), hmap] at he; rw [he]; simp only [go_sem]
        try simp [outOA]
      rw [if_pos (Decidable.of_not_not (of_decide_eq_false h))] at he; clear h
      try simp only [go_sem, List.length_map, Int.toNat_natCast, hxi]
      try (with_reducible refine And.intro ?_ ?_; (focus (first | omega | (constructor <;> omega))); try simp only [go_sem, List.length_map, Int.toNat_natCast, hxi, hw])
      refine CallS.intro (laws_heldIntS _ _) ?_
      simp only [go_sem]
      refine cSplit (fun h => ?_) (fun h => ?_)
      · rw [if_pos (of_decide_eq_true h), hmap] at he; rw [he]; simp only [go_sem]
        try simp [outOA]
      rw [if_neg (of_decide_eq_false h)] at he; clear h
      try simp only [go_sem, List.length_map, Int.toNat_natCast, hxi]
      try (with_reducible refine And.intro ?_ ?_; (focus (first | omega | (constructor <;> omega))); try simp only [go_sem, List.length_map, Int.toNat_natCast, hxi, hw])
      refine CallS.intro (laws_heldRangeS _ _) ?_
      simp only [go_sem]
      refine cSplit (fun h => ?_) (fun h => ?_)
      · rw [if_pos (of_decide_eq_true h), hmap] at he; rw [he]; simp only [go_sem]
        try simp [outOA]
      rw [if_neg (of_decide_eq_false h)] at he; clear h
      try simp only [go_sem, List.length_map, Int.toNat_natCast, hxi]
      try (with_reducible refine And.intro ?_ ?_; (focus (first | omega | (constructor <;> omega))); try simp only [go_sem, List.length_map, Int.toNat_natCast, hxi, hw])
      refine CallS.intro (laws_heldRangeS _ _) ?_
      simp only [go_sem]
      refine cSplit (fun h => ?_) (fun h => ?_)
      · rw [if_pos (of_decide_eq_true h), hmap] at he; rw [he]; simp only [go_sem]
        try simp [outOA]
      rw [if_neg (of_decide_eq_false h)] at he; clear h
      try simp only [go_sem, List.length_map, Int.toNat_natCast, hxi]
      try (with_reducible refine And.intro ?_ ?_; (focus (first | omega | (constructor <;> omega))); try simp only [go_sem, List.length_map, Int.toNat_natCast, hxi, hw])
      refine CallS.intro (laws_heldRangeS _ _) ?_
      simp only [go_sem]
      refine cSplit (fun h => ?_) (fun h => ?_)
      · rw [if_pos (of_decide_eq_true h), hmap] at he; rw [he]; simp only [go_sem]
        try simp [outOA]
      rw [if_neg (of_decide_eq_false h)] at he; clear h
      try simp only [go_sem, List.length_map, Int.toNat_natCast, hxi]
      try (with_reducible refine And.intro ?_ ?_; (focus (first | omega | (constructor <;> omega))); try simp only [go_sem, List.length_map, Int.toNat_natCast, hxi, hw])
      refine cSplit (fun h => ?_) (fun h => ?_)
      · rw [if_neg (of_decide_eq_true h), hmap] at he; rw [he]; simp only [go_sem]
        try simp [outOA]
      rw [if_pos (Decidable.of_not_not (of_decide_eq_false h))] at he; clear h
      try simp only [go_sem, List.length_map, Int.toNat_natCast, hxi]
      try (with_reducible refine And.intro ?_ ?_; (focus (first | omega | (constructor <;> omega))); try simp only [go_sem, List.length_map, Int.toNat_natCast, hxi, hw])
      refine cSplit (fun h => ?_) (fun h => ?_)
      · rw [if_neg (of_decide_eq_true h), hmap] at he; rw [he]; simp only [go_sem]
        try simp [outOA]
      rw [if_pos (Decidable.of_not_not (of_decide_eq_false h))] at he; clear h
      try simp only [go_sem, List.length_map, Int.toNat_natCast, hxi]
      try (with_reducible refine And.intro ?_ ?_; (focus (first | omega | (constructor <;> omega))); try simp only [go_sem, List.length_map, Int.toNat_natCast, hxi, hw])
      refine cSplit (fun h => ?_) (fun h => ?_)
      · rw [if_neg (of_decide_eq_true h), hmap] at he; rw [he]; simp only [go_sem]
        try simp [outOA]
      rw [if_pos (Decidable.of_not_not (of_decide_eq_false h))] at he; clear h
      try simp only [go_sem, List.length_map, Int.toNat_natCast, hxi]
      try (with_reducible refine And.intro ?_ ?_; (focus (first | omega | (constructor <;> omega))); try simp only [go_sem, List.length_map, Int.toNat_natCast, hxi, hw])
      refine cSplit (fun h => ?_) (fun h => ?_)
      · rw [if_neg (of_decide_eq_true h), hmap] at he; rw [he]; simp only [go_sem]
        try simp [outOA]
      rw [if_pos (Decidable.of_not_not (of_decide_eq_false h))] at he; clear h
      try simp only [go_sem, List.length_map, Int.toNat_natCast, hxi]
      try (with_reducible refine And.intro ?_ ?_; (focus (first | omega | (constructor <;> omega))); try simp only [go_sem, List.length_map, Int.toNat_natCast, hxi, hw])
      refine cSplit (fun h => ?_) (fun h => ?_)
      · rw [if_neg (of_decide_eq_true h), hmap] at he; rw [he]; simp only [go_sem]
        try simp [outOA]
      rw [if_pos (Decidable.of_not_not (of_decide_eq_false h))] at he; clear h
      try simp only [go_sem, List.length_map, Int.toNat_natCast, hxi]
      try (with_reducible refine And.intro ?_ ?_; (focus (first | omega | (constructor <;> omega))); try simp only [go_sem, List.length_map, Int.toNat_natCast, hxi, hw])
      refine cSplit (fun h => ?_) (fun h => ?_)
      · rw [if_neg (of_decide_eq_true h), hmap] at he; rw [he]; simp only [go_sem]
        try simp [outOA]
      rw [if_pos (Decidable.of_not_not (of_decide_eq_false h))] at he; clear h
      try simp only [go_sem, List.length_map, Int.toNat_natCast, hxi]
      try (with_reducible refine And.intro ?_ ?_; (focus (first | omega | (constructor <;> omega))); try simp only [go_sem, List.length_map, Int.toNat_natCast, hxi, hw])
      refine cSplit (fun h => ?_) (fun h => ?_)
      · rw [if_neg (of_decide_eq_true h), hmap] at he; rw [he]; simp only [go_sem]
        try simp [outOA]
      rw [if_pos (Decidable.of_not_not (of_decide_eq_false h))] at he; clear h
      try simp only [go_sem, List.length_map, Int.toNat_natCast, hxi]
      try (with_reducible refine And.intro ?_ ?_; (focus (first | omega | (constructor <;> omega))); try simp only [go_sem, List.length_map, Int.toNat_natCast, hxi, hw])
      refine cSplit (fun h => ?_) (fun h => ?_)
      · rw [if_neg (of_decide_eq_true h), hmap] at he; rw [he]; simp only [go_sem]
        try simp [outOA]
      rw [if_pos (Decidable.of_not_not (of_decide_eq_false h))] at he; clear h
      try simp only [go_sem, List.length_map, Int.toNat_natCast, hxi]
      try (with_reducible refine And.intro ?_ ?_; (focus (first | omega | (constructor <;> omega))); try simp only [go_sem, List.length_map, Int.toNat_natCast, hxi, hw])
      refine cSplit (fun h => ?_) (fun h => ?_)
      · rw [if_neg (of_decide_eq_true h), hmap] at he; rw [he]; simp only [go_sem]
        try simp [outOA]
      rw [if_pos (Decidable.of_not_not (of_decide_eq_false h))] at he; clear h
      try simp only [go_sem, List.length_map, Int.toNat_natCast, hxi]
      try (with_reducible refine And.intro ?_ ?_; (focus (first | omega | (constructor <;> omega))); try simp only [go_sem, List.length_map, Int.toNat_natCast, hxi, hw])
      refine cSplit (fun h => ?_) (fun h => ?_)
      · rw [if_neg (of_decide_eq_true h), hmap] at he; rw [he]; simp only [go_sem]
        try simp [outOA]
      rw [if_pos (Decidable.of_not_not (of_decide_eq_false h))] at he; clear h
      try simp only [go_sem, List.length_map, Int.toNat_natCast, hxi]
      try (with_reducible refine And.intro ?_ ?_; (focus (first | omega | (constructor <;> omega))); try simp only [go_sem, List.length_map, Int.toNat_natCast, hxi, hw])
      refine CallS.intro (laws_heldChunkS _ _) ?_
      simp only [go_sem]
      refine cSplit (fun h => ?_) (fun h => ?_)
      · rw [if_pos (of_decide_eq_true h), hmap] at he; rw [he]; simp only [go_sem]
        try simp [outOA]
      rw [if_neg (of_decide_eq_false h)] at he; clear h
      try simp only [go_sem, List.length_map, Int.toNat_natCast, hxi]
      try (with_reducible refine And.intro ?_ ?_; (focus (first | omega | (constructor <;> omega))); try simp only [go_sem, List.length_map, Int.toNat_natCast, hxi, hw])
      refine cSplit (fun h => ?_) (fun h => ?_)
      · rw [if_neg (of_decide_eq_true h), hmap] at he; rw [he]; simp only [go_sem]
        try simp [outOA]
      rw [if_pos (Decidable.of_not_not (of_decide_eq_false h))] at he; clear h
      try simp only [go_sem, List.length_map, Int.toNat_natCast, hxi]
      try (with_reducible refine And.intro ?_ ?_; (focus (first | omega | (constructor <;> omega))); try simp only [go_sem, List.length_map, Int.toNat_natCast, hxi, hw])
      refine cSplit (fun h => ?_) (fun h => ?_)
      · rw [if_neg (of_decide_eq_true h), hmap] at he; rw [he]; simp only [go_sem]
        try simp [outOA]
      rw [if_pos (Decidable.of_not_not (of_decide_eq_false h))] at he; clear h
      try simp only [go_sem, List.length_map, Int.toNat_natCast, hxi]
      try (with_reducible refine And.intro ?_ ?_; (focus (first | omega | (constructor <;> omega))); try simp only [go_sem, List.length_map, Int.toNat_natCast, hxi, hw])
      refine cSplit (fun h => ?_) (fun h => ?_)
      · rw [if_neg (of_decide_eq_true h), hmap] at he; rw [he]; simp only [go_sem]
        try simp [outOA]
      rw [if_pos (Decidable.of_not_not (of_decide_eq_false h))] at he; clear h
      try simp only [go_sem, List.length_map, Int.toNat_natCast, hxi]
      try (with_reducible refine And.intro ?_ ?_; (focus (first | omega | (constructor <;> omega))); try simp only [go_sem, List.length_map, Int.toNat_natCast, hxi, hw])
      refine cSplit (fun h => ?_) (fun h => ?_)
      · rw [if_neg (of_decide_eq_true h), hmap] at he; rw [he]; simp only [go_sem]
        try simp [outOA]
      rw [if_pos (Decidable.of_not_not (of_decide_eq_false h))] at he; clear h
      try simp only [go_sem, List.length_map, Int.toNat_natCast, hxi]
      try (with_reducible refine And.intro ?_ ?_; (focus (first | omega | (constructor <;> omega))); try simp only [go_sem, List.length_map, Int.toNat_natCast, hxi, hw])
      refine cSplit (fun h => ?_) (fun h => ?_)
      · rw [if_neg (of_decide_eq_true h), hmap] at he; rw [he]; simp only [go_sem]
        try simp [outOA]
      rw [if_pos (Decidable.of_not_not (of_decide_eq_false h))] at he; clear h
      try simp only [go_sem, List.length_map, Int.toNat_natCast, hxi]
      try (with_reducible refine And.intro ?_ ?_; (focus (first | omega | (constructor <;> omega))); try simp only [go_sem, List.length_map, Int.toNat_natCast, hxi, hw])
      refine cSplit (fun h => ?_) (fun h => ?_)
      · rw [if_neg (of_decide_eq_true h), hmap] at he; rw [he]; simp only [go_sem]
        try simp [outOA]
      rw [if_pos (Decidable.of_not_not (of_decide_eq_false h))] at he; clear h
      try simp only [go_sem, List.length_map, Int.toNat_natCast, hxi]
      try (with_reducible refine And.intro ?_ ?_; (focus (first | omega | (constructor <;> omega))); try simp only [go_sem, List.length_map, Int.toNat_natCast, hxi, hw])
      refine cSplit (fun h => ?_) (fun h => ?_)
      · rw [if_neg (of_decide_eq_true h), hmap] at he; rw [he]; simp only [go_sem]
        try simp [outOA]
      rw [if_pos (Decidable.of_not_not (of_decide_eq_false h))] at he; clear h
      try simp only [go_sem, List.length_map, Int.toNat_natCast, hxi]
      try (with_reducible refine And.intro ?_ ?_; (focus (first | omega | (constructor <;> omega))); try simp only [go_sem, List.length_map, Int.toNat_natCast, hxi, hw])
      refine cSplit (fun h => ?_) (fun h => ?_)
      · rw [if_neg (of_decide_eq_true h), hmap] at he; rw [he]; simp only [go_sem]
        try simp [outOA]
      rw [if_pos (Decidable.of_not_not (of_decide_eq_false h))] at he; clear h
      try simp only [go_sem, List.length_map, Int.toNat_natCast, hxi]
      try (with_reducible refine And.intro ?_ ?_; (focus (first | omega | (constructor <;> omega))); try simp only [go_sem, List.length_map, Int.toNat_natCast, hxi, hw])
      refine cSplit (fun h => ?_) (fun h => ?_)
      · rw [if_neg (of_decide_eq_true h), hmap] at he; rw [he]; simp only [go_sem]
        try simp [outOA]
      rw [if_pos (Decidable.of_not_not (of_decide_eq_false h))] at he; clear h
      try simp only [go_sem, List.length_map, Int.toNat_natCast, hxi]
      try (with_reducible refine And.intro ?_ ?_; (focus (first | omega | (constructor <;> omega))); try simp only [go_sem, List.length_map, Int.toNat_natCast, hxi, hw])
      refine cSplit (fun h => ?_) (fun h => ?_)
      · rw [if_neg (of_decide_eq_true h), hmap] at he; rw [he]; simp only [go_sem]
        try simp [outOA]
      rw [if_pos (Decidable.of_not_not (of_decide_eq_false h))] at he; clear h
      try simp only [go_sem, List.length_map, Int.toNat_natCast, hxi]
      try (with_reducible refine And.intro ?_ ?_; (focus (first | omega | (constructor <;> omega))); try simp only [go_sem, List.length_map, Int.toNat_natCast, hxi, hw])
      refine cSplit (fun h => ?_) (fun h => ?_)
      · rw [if_neg (of_bne_t h), hmap] at he; rw [he]; simp only [go_sem]
        try simp [outOA]
      rw [if_pos (of_bne_f h)] at he; clear h
      try simp only [go_sem, List.length_map, Int.toNat_natCast, hxi]
      try (with_reducible refine And.intro ?_ ?_; (focus (first | omega | (constructor <;> omega))); try simp only [go_sem, List.length_map, Int.toNat_natCast, hxi, hw])
      refine cSplit (fun h => ?_) (fun h => ?_)
      · rw [if_neg (of_bne_t h), hmap] at he; rw [he]; simp only [go_sem]
        try simp [outOA]
      rw [if_pos (of_bne_f h)] at he; clear h
      try simp only [go_sem, List.length_map, Int.toNat_natCast, hxi]
      try (with_reducible refine And.intro ?_ ?_; (focus (first | omega | (constructor <;> omega))); try simp only [go_sem, List.length_map, Int.toNat_natCast, hxi, hw])
      refine cSplit (fun h => ?_) (fun h => ?_)
      · rw [if_neg (of_bne_t h), hmap] at he; rw [he]; simp only [go_sem]
        try simp [outOA]
      rw [if_pos (of_bne_f h)] at he; clear h
      try simp only [go_sem, List.length_map, Int.toNat_natCast, hxi]
      try (with_reducible refine And.intro ?_ ?_; (focus (first | omega | (constructor <;> omega))); try simp only [go_sem, List.length_map, Int.toNat_natCast, hxi, hw])
      refine cSplit (fun h => ?_) (fun h => ?_)
      · rw [if_neg (of_bne_t h), hmap] at he; rw [he]; simp only [go_sem]
        try simp [outOA]
      rw [if_pos (of_bne_f h)] at he; clear h
      try simp only [go_sem, List.length_map, Int.toNat_natCast, hxi]
      try (with_reducible refine And.intro ?_ ?_; (focus (first | omega | (constructor <;> omega))); try simp only [go_sem, List.length_map, Int.toNat_natCast, hxi, hw])
      refine cSplit (fun h => ?_) (fun h => ?_)
      · rw [if_neg (of_bne_t h), hmap] at he; rw [he]; simp only [go_sem]
        try simp [outOA]
      rw [if_pos (of_bne_f h)] at he; clear h
      try simp only [go_sem, List.length_map, Int.toNat_natCast, hxi]
      try (with_reducible refine And.intro ?_ ?_; (focus (first | omega | (constructor <;> omega))); try simp only [go_sem, List.length_map, Int.toNat_natCast, hxi, hw])
      refine cSplit (fun h => ?_) (fun h => ?_)
      · rw [if_neg (of_bne_t h), hmap] at he; rw [he]; simp only [go_sem]
        try simp [outOA]
      rw [if_pos (of_bne_f h)] at he; clear h
      try simp only [go_sem, List.length_map, Int.toNat_natCast, hxi]
      try (with_reducible refine And.intro ?_ ?_; (focus (first | omega | (constructor <;> omega))); try simp only [go_sem, List.length_map, Int.toNat_natCast, hxi, hw])
      refine cSplit (fun h => ?_) (fun h => ?_)
      · rw [if_neg (of_bne_t h), hmap] at he; rw [he]; simp only [go_sem]
        try simp [outOA]
      rw [if_pos (of_bne_f h)] at he; clear h
      try simp only [go_sem, List.length_map, Int.toNat_natCast, hxi]
      try (with_reducible refine And.intro ?_ ?_; (focus (first | omega | (constructor <;> omega))); try simp only [go_sem, List.length_map, Int.toNat_natCast, hxi, hw])
      refine cSplit (fun h => ?_) (fun h => ?_)
      · rw [if_neg (of_decide_eq_true h), hmap] at he; rw [he]; simp only [go_sem]
        try simp [outOA]
      rw [if_pos (Decidable.of_not_not (of_decide_eq_false h))] at he; clear h
      try simp only [go_sem, List.length_map, Int.toNat_natCast, hxi]
      try (with_reducible refine And.intro ?_ ?_; (focus (first | omega | (constructor <;> omega))); try simp only [go_sem, List.length_map, Int.toNat_natCast, hxi, hw])
      refine cSplit (fun h => ?_) (fun h => ?_)
      · rw [if_neg (of_bne_t h), hmap] at he; rw [he]; simp only [go_sem]
        try simp [outOA]
      rw [if_pos (of_bne_f h)] at he; clear h
      try simp only [go_sem, hw]
      rw [hmap] at he
      obtain ⟨z', hz'⟩ : ∃ z', z' = (IntKind.i64.wrap ((IntKind.i64.wrap ((IntKind.i64.wrap ((IntKind.i64.wrap ((IntKind.i64.wrap ((IntKind.i64.wrap ((IntKind.i64.wrap ((IntKind.i64.wrap ((IntKind.i64.wrap ((IntKind.i64.wrap ((IntKind.i64.wrap ((IntKind.i64.wrap ((IntKind.i64.wrap ((IntKind.i64.wrap ((IntKind.i64.wrap ((IntKind.i64.wrap ((IntKind.i64.wrap ((IntKind.i64.wrap ((IntKind.i64.wrap ((heldL (TChunk.mk' : Int → TChunk) 2 (IntKind.i64.wrap ((IntKind.i64.wrap ((IntKind.i64.wrap ((IntKind.i64.wrap ((IntKind.i64.wrap ((IntKind.i64.wrap ((IntKind.i64.wrap ((IntKind.i64.wrap ((IntKind.i64.wrap ((IntKind.i64.wrap ((heldL (TRange.mk' : Int → TRange) 2 (heldL (TRange.mk' : Int → TRange) 2 (heldL (TRange.mk' : Int → TRange) 2 (heldL (_root_.id : Int → Int) 1 (IntKind.i64.wrap ((IntKind.i64.wrap ((IntKind.i64.wrap ((IntKind.i64.wrap ((IntKind.i64.wrap (z + 1)) + 1)) + 1)) + 1)) + 1)) x.send.ring.cells) x.send.pending) x.send.flight) x.send.acked) + 1)) + 1)) + 1)) + 1)) + 1)) + 1)) + 1)) + 1)) + 1)) + 1)) x.recv.buffer.chunks) + 1)) + 1)) + 1)) + 1)) + 1)) + 1)) + 1)) + 1)) + 1)) + 1)) + 1)) + 1)) + 1)) + 1)) + 1)) + 1)) + 1)) + 1)) + 1)) := ⟨_, rfl⟩
      rw [← hz', ← hC] at he
      refine RoundE.intro (i + 1, z') [] ⟨by simp only; omega, he⟩ (by simp only; omega) ?_
      simp only [go_sem]; simp [hz']
    · simp only [go_sem]
      simp only [decide_eq_false_iff_not] at h1
      rw [List.drop_eq_nil_of_le (by omega), heldN] at he
      simp [he]
set_option maxHeartbeats 8000000 in
set_option maxRecDepth 100000 in
theorem laws_heldPacketS (xs : List TPacket) (k : Int) : PureCall Try.prog 183 [.one (.sl 2 (xs.map TPacket.enc)), .one (.int .i64 k)] [.one (.int .i64 (heldN TPacket.held1 k xs))] := by
  refine pure_ev Try.func183 rfl Try.call183 Try.checked.mixed [.d (.sl 2 (xs.map TPacket.enc)), .d (.int .i64 k), .junk, .junk, .junk, .junk, .junk, .junk, .junk, .junk, .junk, .junk, .junk, .junk, .junk, .junk, .junk, .junk, .junk, .junk, .junk, .junk, .junk, .junk, .junk, .junk, .junk, .junk, .junk, .junk, .junk] rfl [.tmp 4] rfl ?_
  intro ok
  have hm := len_of ok
  clear ok
  simp only [go_sem]
  refine LoopK.intro (fun p : Nat × Int => ⟨[.d (.sl 2 (xs.map TPacket.enc)), .d (.int .i64 p.2), .junk, .junk, .d (.int .i64 0), .d (.int .i64 p.1), .junk, .junk, .junk, .junk, .junk, .junk, .junk, .junk, .junk, .junk, .junk, .junk, .junk, .junk, .junk, .junk, .junk, .junk, .junk, .junk, .junk, .junk, .junk, .junk, .junk], []⟩)
      (fun p => xs.length - p.1) (fun p => p.1 ≤ xs.length ∧ heldN TPacket.held1 k xs = heldN TPacket.held1 p.2 (xs.drop p.1)) (0, k) [] ⟨by simp, by simp⟩ ?_ ?_
  · simp only [go_sem]; simp
  · rintro ⟨i, z⟩ ⟨hi, he⟩
    simp only at hi he
    simp only [go_sem, List.length_map]
    refine cSplit (fun h1 => ?_) (fun h1 => ?_)
    · simp only [decide_eq_true_eq] at h1
      have hlt : i < xs.length := by omega
      have hxi := map_at TPacket.enc xs i hlt
      have hw := inc hlt hm
      rw [heldN_step TPacket.held1 _ xs i hlt] at he
      generalize hx : xs[i] = x at *
      simp only [TPacket.enc] at hxi
      generalize hR : heldN TPacket.held1 k xs = R at *
      generalize hC : (fun k' => heldN TPacket.held1 k' (List.drop (i + 1) xs)) = C at *
      unfold TPacket.held1 at he
      have hb : ((i : Nat) : Int) < (xs.length : Int) := h1
      try simp only [go_sem, List.length_map, Int.toNat_natCast, hxi]
      try (with_reducible refine And.intro ?_ ?_; (focus (first | omega | (constructor <;> omega))); try simp only [go_sem, List.length_map, Int.toNat_natCast, hxi, hw])
      refine cSplit (fun h => ?_) (fun h => ?_)
      · rw [if_neg (of_decide_eq_true h), hmap] at he; rw [he]; simp only [go_sem]
        try simp [outOA]
      rw [if_pos (Decidable.of_not_not (of_decide_eq_false h))] at he; clear h
      try simp only [go_sem, List.length_map, Int.toNat_natCast, hxi]
      try (with_reducible refine And.intro ?_ ?_; (focus (first | omega | (constructor <;> omega))); try simp only [go_sem, List.length_map, Int.toNat_natCast, hxi, hw])
      refine CallS.intro (laws_heldFrameS _ _) ?_
      simp only [go_sem]
      refine cSplit (fun h => ?_) (fun h => ?_)
      · rw [if_pos (of_decide_eq_true h), hmap] at he; rw [he]; simp only [go_sem]
        try simp [outOA]
      rw [if_neg (of_decide_eq_false h)] at he; clear h
      try simp only [go_sem, hw]
      rw [hmap] at he
      obtain ⟨z', hz'⟩ : ∃ z', z' = (heldL (TFrame.mk' : Int → TFrame) 9 (IntKind.i64.wrap (z + 1)) x.frames) := ⟨_, rfl⟩
      rw [← hz', ← hC] at he
      refine RoundE.intro (i + 1, z') [] ⟨by simp only; omega, he⟩ (by simp only; omega) ?_
      simp only [go_sem]; simp [hz']
    · simp only [go_sem]
      simp only [decide_eq_false_iff_not] at h1
      rw [List.drop_eq_nil_of_le (by omega), heldN] at he
      simp [he]
set_option maxRecDepth 100000 in
theorem laws_heldConn (x : TConn) (k : Int) : PureCall Try.prog 136 [.agg [.bool x.server, .int .i64 x.own.ring, .int .i64 x.own.window, .int .i64 x.own.windowMost, .int .i64 x.own.total, .int .i64 x.own.totalMost, .int .i64 x.own.bidi, .int .i64 x.own.uni, .int .i64 x.own.trip, .int .i64 x.peer.ring, .int .i64 x.peer.window, .int .i64 x.peer.windowMost, .int .i64 x.peer.total, .int .i64 x.peer.totalMost, .int .i64 x.peer.bidi, .int .i64 x.peer.uni, .int .i64 x.peer.trip, .sl 39 (x.streams.map TStream.enc), .int .i64 x.total.limit, .int .i64 x.total.used, .int .i64 x.total.blocked, .int .i64 x.total.told, .int .i64 x.inflow.size, .int .i64 x.inflow.most, .int .i64 x.inflow.limit, .int .i64 x.inflow.seen, .int .i64 x.inflow.read, .int .i64 x.inflow.since, .int .i64 x.openBidi.limit, .int .i64 x.openBidi.opened, .int .i64 x.openBidi.blocked, .int .i64 x.openUni.limit, .int .i64 x.openUni.opened, .int .i64 x.openUni.blocked, .int .i64 x.allowBidi.most, .int .i64 x.allowBidi.limit, .int .i64 x.allowBidi.seen, .int .i64 x.allowBidi.closed, .int .i64 x.allowUni.most, .int .i64 x.allowUni.limit, .int .i64 x.allowUni.seen, .int .i64 x.allowUni.closed, .bool x.tellTotal, .bool x.tellBidi, .bool x.tellUni, .int .i64 x.last, .int .i64 x.number, .sl 2 (x.packets.map TPacket.enc), .int .i64 x.now, .int .i64 x.closed], .one (.int .i64 k)] [.one (.int .i64 (TConn.held k x))] := by
  refine pure_ev Try.func136 rfl Try.call136 Try.checked.mixed [.agg [.d (.bool x.server), .d (.int .i64 x.own.ring), .d (.int .i64 x.own.window), .d (.int .i64 x.own.windowMost), .d (.int .i64 x.own.total), .d (.int .i64 x.own.totalMost), .d (.int .i64 x.own.bidi), .d (.int .i64 x.own.uni), .d (.int .i64 x.own.trip), .d (.int .i64 x.peer.ring), .d (.int .i64 x.peer.window), .d (.int .i64 x.peer.windowMost), .d (.int .i64 x.peer.total), .d (.int .i64 x.peer.totalMost), .d (.int .i64 x.peer.bidi), .d (.int .i64 x.peer.uni), .d (.int .i64 x.peer.trip), .d (.sl 39 (x.streams.map TStream.enc)), .d (.int .i64 x.total.limit), .d (.int .i64 x.total.used), .d (.int .i64 x.total.blocked), .d (.int .i64 x.total.told), .d (.int .i64 x.inflow.size), .d (.int .i64 x.inflow.most), .d (.int .i64 x.inflow.limit), .d (.int .i64 x.inflow.seen), .d (.int .i64 x.inflow.read), .d (.int .i64 x.inflow.since), .d (.int .i64 x.openBidi.limit), .d (.int .i64 x.openBidi.opened), .d (.int .i64 x.openBidi.blocked), .d (.int .i64 x.openUni.limit), .d (.int .i64 x.openUni.opened), .d (.int .i64 x.openUni.blocked), .d (.int .i64 x.allowBidi.most), .d (.int .i64 x.allowBidi.limit), .d (.int .i64 x.allowBidi.seen), .d (.int .i64 x.allowBidi.closed), .d (.int .i64 x.allowUni.most), .d (.int .i64 x.allowUni.limit), .d (.int .i64 x.allowUni.seen), .d (.int .i64 x.allowUni.closed), .d (.bool x.tellTotal), .d (.bool x.tellBidi), .d (.bool x.tellUni), .d (.int .i64 x.last), .d (.int .i64 x.number), .d (.sl 2 (x.packets.map TPacket.enc)), .d (.int .i64 x.now), .d (.int .i64 x.closed)], .d (.int .i64 k), .junk, .junk, .junk, .junk, .junk, .junk, .junk, .junk, .junk, .junk, .junk, .junk, .junk, .junk, .junk, .junk] rfl [.tmp 4] rfl ?_
  intro _
  unfold TConn.held
  try simp only [go_sem]
  repeat' (first
    | (refine CallS.intro (by first | assumption | (apply laws_heldStreamS <;> first | assumption | omega) | (apply laws_heldPacketS <;> first | assumption | omega)) ?_; simp only [go_sem])
    | (refine CallK.intro (by first | assumption | (apply laws_heldStreamS <;> first | assumption | omega) | (apply laws_heldPacketS <;> first | assumption | omega)) ?_; simp only [go_sem, List.length_map])
    | (with_reducible refine gTrueS ?_; simp only [go_sem, List.length_map]) | (with_reducible refine gFalseS ?_; simp only [go_sem, List.length_map]) | (with_reducible refine gTrue ?_; simp only [go_sem, List.length_map]) | (with_reducible refine gFalse ?_; simp only [go_sem, List.length_map])
    | (refine gSymS ?_; simp only [go_sem, List.length_map]) | (refine gSym ?_; simp only [go_sem, List.length_map])
    | (refine cSplit (fun h => ?_) (fun h => ?_) <;> simp only [go_sem])
    | (with_reducible refine And.intro ?_ ?_; (focus (first | omega | (exact ⟨by omega, by omega⟩) | (simp; done) | (simp; omega)))))
  all_goals first | (simp_all; done) | (simp_all; omega)
theorem TTrack.eq_mk {k : Int} {x : TTrack} (e0 : x.id = k) (e1 : x.server = decide (Int.tmod (nx k) 3 = 0)) (e2 : x.wrote = mtext (nx (nx k))) (e3 : x.got = mtext (nx (nx (nx k)))) (e4 : x.done = decide (Int.tmod (nx (nx (nx (nx k)))) 3 = 0)) (e5 : x.ended = decide (Int.tmod (nx (nx (nx (nx (nx k))))) 3 = 0)) (e6 : x.broken = decide (Int.tmod (nx (nx (nx (nx (nx (nx k)))))) 3 = 0)) : x = TTrack.mk' k := by
  cases x; simp only at *; subst_vars; rfl
set_option maxRecDepth 100000 in
theorem laws_heldTrackS (xs : List TTrack) (k : Int) : PureCall Try.prog 137 [.one (.sl 7 (xs.map TTrack.enc)), .one (.int .i64 k)] [.one (.int .i64 (heldL (TTrack.mk' : Int → TTrack) 7 k xs))] := by
  refine pure_ev Try.func137 rfl Try.call137 Try.checked.mixed [.d (.sl 7 (xs.map TTrack.enc)), .d (.int .i64 k), .junk, .junk, .junk, .junk, .junk, .junk, .junk, .junk, .junk, .junk, .junk, .junk, .junk, .junk, .junk, .junk, .junk, .junk, .junk, .junk, .junk, .junk, .junk, .junk, .junk, .junk, .junk, .junk, .junk, .junk, .junk, .junk, .junk, .junk, .junk, .junk, .junk, .junk, .junk, .junk, .junk, .junk, .junk, .junk, .junk, .junk, .junk, .junk, .junk, .junk, .junk, .junk, .junk, .junk, .junk, .junk, .junk, .junk, .junk, .junk, .junk, .junk, .junk, .junk, .junk, .junk, .junk, .junk, .junk, .junk, .junk, .junk, .junk, .junk, .junk, .junk, .junk, .junk, .junk, .junk, .junk, .junk, .junk, .junk] rfl [.tmp 4] rfl ?_
  intro ok
  have hm := len_of ok
  clear ok
  simp only [go_sem]
  refine LoopK.intro (fun i : Nat => ⟨[.d (.sl 7 (xs.map TTrack.enc)), .d (.int .i64 (nxs (7 * i) k)), .junk, .junk, .d (.int .i64 0), .d (.int .i64 i), .junk, .junk, .junk, .junk, .junk, .junk, .junk, .junk, .junk, .junk, .junk, .junk, .junk, .junk, .junk, .junk, .junk, .junk, .junk, .junk, .junk, .junk, .junk, .junk, .junk, .junk, .junk, .junk, .junk, .junk, .junk, .junk, .junk, .junk, .junk, .junk, .junk, .junk, .junk, .junk, .junk, .junk, .junk, .junk, .junk, .junk, .junk, .junk, .junk, .junk, .junk, .junk, .junk, .junk, .junk, .junk, .junk, .junk, .junk, .junk, .junk, .junk, .junk, .junk, .junk, .junk, .junk, .junk, .junk, .junk, .junk, .junk, .junk, .junk, .junk, .junk, .junk, .junk, .junk, .junk], []⟩)
      (fun i => xs.length - i) (fun i => i ≤ xs.length ∧ heldL (TTrack.mk' : Int → TTrack) 7 k xs = heldL (TTrack.mk' : Int → TTrack) 7 (nxs (7 * i) k) (xs.drop i)) 0 [] ⟨by omega, by simp [nxs]⟩ ?_ ?_
  · simp only [go_sem]; simp [nxs]
  · rintro i ⟨hi, he⟩
    simp only [go_sem, List.length_map]
    refine cSplit (fun h1 => ?_) (fun h1 => ?_)
    · simp only [decide_eq_true_eq] at h1
      have hlt : i < xs.length := by omega
      have hxi := map_at TTrack.enc xs i hlt
      have hw := inc hlt hm
      have hn : nxs (7 * (i + 1)) k = nx (nx (nx (nx (nx (nx (nx (nxs (7 * i) k))))))) := rfl
      have hn2 : nxs 7 (nxs (7 * i) k) = nxs (7 * (i + 1)) k := rfl
      have hb2 : ((i : Nat) : Int) < (xs.length : Int) := h1
      rw [heldL_step (TTrack.mk' : Int → TTrack) 7 _ xs i hlt, hn2] at he
      generalize hz : nxs (7 * i) k = z at *
      generalize hx : xs[i] = x at *
      simp only [TTrack.enc] at hxi
      try simp only [go_sem, List.length_map, Int.toNat_natCast, hxi]
      try (with_reducible refine And.intro ?_ ?_; (focus (first | omega | (constructor <;> omega))); try simp only [go_sem, List.length_map, Int.toNat_natCast, hxi, hw])
      refine cSplit (fun h => ?_) (fun h => ?_)
      · rw [if_neg (fun e => (of_decide_eq_true h) (by rw [e]; rfl))] at he; rw [he]; simp only [go_sem]
        try simp [outOA]
      have e0 := Decidable.of_not_not (of_decide_eq_false h); clear h
      try simp only [go_sem, List.length_map, Int.toNat_natCast, hxi]
      try (with_reducible refine And.intro ?_ ?_; (focus (first | omega | (constructor <;> omega))); try simp only [go_sem, List.length_map, Int.toNat_natCast, hxi, hw])
      refine cSplit (fun h => ?_) (fun h => ?_)
      · rw [if_neg (fun e => (of_bne_t h) (by rw [e]; rfl))] at he; rw [he]; simp only [go_sem]
        try simp [outOA]
      have e1 := of_bne_f h; clear h
      try simp only [go_sem]
      try (with_reducible refine And.intro ?_ ?_; (focus (first | omega | (constructor <;> omega))); try simp only [go_sem, List.length_map, Int.toNat_natCast, hxi, hw])
      try simp only [go_sem, List.length_map, Int.toNat_natCast, hxi, hw]
      repeat' (first
        | (refine CallS.intro (by first | assumption | (apply laws_markText <;> first | assumption | omega)) ?_; simp only [go_sem, List.length_map, Int.toNat_natCast, hxi, hw])
        | (refine CallK.intro (by first | assumption | (apply laws_markText <;> first | assumption | omega)) ?_; simp only [go_sem])
        | (with_reducible refine gTrueS ?_; simp only [go_sem, List.length_map, Int.toNat_natCast, hxi, hw]) | (with_reducible refine gFalseS ?_; simp only [go_sem, List.length_map, Int.toNat_natCast, hxi, hw]) | (with_reducible refine gTrue ?_; simp only [go_sem, List.length_map, Int.toNat_natCast, hxi, hw]) | (with_reducible refine gFalse ?_; simp only [go_sem, List.length_map, Int.toNat_natCast, hxi, hw])
        | (refine gSymS ?_; simp only [go_sem, List.length_map, Int.toNat_natCast, hxi, hw]) | (refine gSym ?_; simp only [go_sem, List.length_map, Int.toNat_natCast, hxi, hw])
        | (refine drawE_intro [[.post, .un, .post, .post, .post, .un, .un, .post], [.un, .post, .post, .post, .post, .un, .un, .post], [.pre, .pre, .post, .post, .post, .un, .un, .post], [.pre, .pre, .pre, .post, .post, .un, .un, .post], [.pre, .pre, .pre, .pre, .post, .un, .un, .post], [.un, .un, .un, .un, .un, .post, .post, .post], [.un, .un, .un, .un, .un, .pre, .post, .post], [.pre, .pre, .pre, .pre, .pre, .pre, .pre, .post]] (by kernel_rfl) (by rfl) ?_; simp only [go_sem, List.length_map, Int.toNat_natCast, hxi])
        | (with_reducible refine And.intro ?_ ?_; (focus (first | omega | (exact ⟨by omega, by omega⟩) | (simp; done) | (simp; omega)))))
      refine cSplit (fun h => ?_) (fun h => ?_)
      · rw [if_neg (fun e => (of_decide_eq_true h) (by rw [e]; rfl))] at he; rw [he]; simp only [go_sem]
        try simp [outOA]
      have e2 := Decidable.of_not_not (of_decide_eq_false h); clear h
      try simp only [go_sem]
      try (with_reducible refine And.intro ?_ ?_; (focus (first | omega | (constructor <;> omega))); try simp only [go_sem, List.length_map, Int.toNat_natCast, hxi, hw])
      try simp only [go_sem, List.length_map, Int.toNat_natCast, hxi, hw]
      repeat' (first
        | (refine CallS.intro (by first | assumption | (apply laws_markText <;> first | assumption | omega)) ?_; simp only [go_sem, List.length_map, Int.toNat_natCast, hxi, hw])
        | (refine CallK.intro (by first | assumption | (apply laws_markText <;> first | assumption | omega)) ?_; simp only [go_sem])
        | (with_reducible refine gTrueS ?_; simp only [go_sem, List.length_map, Int.toNat_natCast, hxi, hw]) | (with_reducible refine gFalseS ?_; simp only [go_sem, List.length_map, Int.toNat_natCast, hxi, hw]) | (with_reducible refine gTrue ?_; simp only [go_sem, List.length_map, Int.toNat_natCast, hxi, hw]) | (with_reducible refine gFalse ?_; simp only [go_sem, List.length_map, Int.toNat_natCast, hxi, hw])
        | (refine gSymS ?_; simp only [go_sem, List.length_map, Int.toNat_natCast, hxi, hw]) | (refine gSym ?_; simp only [go_sem, List.length_map, Int.toNat_natCast, hxi, hw])
        | (refine drawE_intro [[.post, .un, .post, .post, .post, .un, .un, .post], [.un, .post, .post, .post, .post, .un, .un, .post], [.pre, .pre, .post, .post, .post, .un, .un, .post], [.pre, .pre, .pre, .post, .post, .un, .un, .post], [.pre, .pre, .pre, .pre, .post, .un, .un, .post], [.un, .un, .un, .un, .un, .post, .post, .post], [.un, .un, .un, .un, .un, .pre, .post, .post], [.pre, .pre, .pre, .pre, .pre, .pre, .pre, .post]] (by kernel_rfl) (by rfl) ?_; simp only [go_sem, List.length_map, Int.toNat_natCast, hxi])
        | (with_reducible refine And.intro ?_ ?_; (focus (first | omega | (exact ⟨by omega, by omega⟩) | (simp; done) | (simp; omega)))))
      refine cSplit (fun h => ?_) (fun h => ?_)
      · rw [if_neg (fun e => (of_decide_eq_true h) (by rw [e]; rfl))] at he; rw [he]; simp only [go_sem]
        try simp [outOA]
      have e3 := Decidable.of_not_not (of_decide_eq_false h); clear h
      try simp only [go_sem, List.length_map, Int.toNat_natCast, hxi]
      try (with_reducible refine And.intro ?_ ?_; (focus (first | omega | (constructor <;> omega))); try simp only [go_sem, List.length_map, Int.toNat_natCast, hxi, hw])
      refine cSplit (fun h => ?_) (fun h => ?_)
      · rw [if_neg (fun e => (of_bne_t h) (by rw [e]; rfl))] at he; rw [he]; simp only [go_sem]
        try simp [outOA]
      have e4 := of_bne_f h; clear h
      try simp only [go_sem, List.length_map, Int.toNat_natCast, hxi]
      try (with_reducible refine And.intro ?_ ?_; (focus (first | omega | (constructor <;> omega))); try simp only [go_sem, List.length_map, Int.toNat_natCast, hxi, hw])
      refine cSplit (fun h => ?_) (fun h => ?_)
      · rw [if_neg (fun e => (of_bne_t h) (by rw [e]; rfl))] at he; rw [he]; simp only [go_sem]
        try simp [outOA]
      have e5 := of_bne_f h; clear h
      try simp only [go_sem, List.length_map, Int.toNat_natCast, hxi]
      try (with_reducible refine And.intro ?_ ?_; (focus (first | omega | (constructor <;> omega))); try simp only [go_sem, List.length_map, Int.toNat_natCast, hxi, hw])
      refine cSplit (fun h => ?_) (fun h => ?_)
      · rw [if_neg (fun e => (of_bne_t h) (by rw [e]; rfl))] at he; rw [he]; simp only [go_sem]
        try simp [outOA]
      have e6 := of_bne_f h; clear h
      try simp only [go_sem, hw]
      rw [if_pos (TTrack.eq_mk e0 e1 e2 e3 e4 e5 e6)] at he
      refine RoundE.intro (i + 1) [] ⟨by omega, he⟩ (by omega) ?_
      simp only [nx] at hn
      simp only [go_sem, hn]; try simp
    · simp only [go_sem]
      simp only [decide_eq_false_iff_not] at h1
      rw [List.drop_eq_nil_of_le (by omega), heldL] at he
      simp [he]
set_option maxRecDepth 100000 in
theorem laws_heldPair (x : TPair) (k : Int) : PureCall Try.prog 63 [.agg [.bool x.client.server, .int .i64 x.client.own.ring, .int .i64 x.client.own.window, .int .i64 x.client.own.windowMost, .int .i64 x.client.own.total, .int .i64 x.client.own.totalMost, .int .i64 x.client.own.bidi, .int .i64 x.client.own.uni, .int .i64 x.client.own.trip, .int .i64 x.client.peer.ring, .int .i64 x.client.peer.window, .int .i64 x.client.peer.windowMost, .int .i64 x.client.peer.total, .int .i64 x.client.peer.totalMost, .int .i64 x.client.peer.bidi, .int .i64 x.client.peer.uni, .int .i64 x.client.peer.trip, .sl 39 (x.client.streams.map TStream.enc), .int .i64 x.client.total.limit, .int .i64 x.client.total.used, .int .i64 x.client.total.blocked, .int .i64 x.client.total.told, .int .i64 x.client.inflow.size, .int .i64 x.client.inflow.most, .int .i64 x.client.inflow.limit, .int .i64 x.client.inflow.seen, .int .i64 x.client.inflow.read, .int .i64 x.client.inflow.since, .int .i64 x.client.openBidi.limit, .int .i64 x.client.openBidi.opened, .int .i64 x.client.openBidi.blocked, .int .i64 x.client.openUni.limit, .int .i64 x.client.openUni.opened, .int .i64 x.client.openUni.blocked, .int .i64 x.client.allowBidi.most, .int .i64 x.client.allowBidi.limit, .int .i64 x.client.allowBidi.seen, .int .i64 x.client.allowBidi.closed, .int .i64 x.client.allowUni.most, .int .i64 x.client.allowUni.limit, .int .i64 x.client.allowUni.seen, .int .i64 x.client.allowUni.closed, .bool x.client.tellTotal, .bool x.client.tellBidi, .bool x.client.tellUni, .int .i64 x.client.last, .int .i64 x.client.number, .sl 2 (x.client.packets.map TPacket.enc), .int .i64 x.client.now, .int .i64 x.client.closed, .bool x.server.server, .int .i64 x.server.own.ring, .int .i64 x.server.own.window, .int .i64 x.server.own.windowMost, .int .i64 x.server.own.total, .int .i64 x.server.own.totalMost, .int .i64 x.server.own.bidi, .int .i64 x.server.own.uni, .int .i64 x.server.own.trip, .int .i64 x.server.peer.ring, .int .i64 x.server.peer.window, .int .i64 x.server.peer.windowMost, .int .i64 x.server.peer.total, .int .i64 x.server.peer.totalMost, .int .i64 x.server.peer.bidi, .int .i64 x.server.peer.uni, .int .i64 x.server.peer.trip, .sl 39 (x.server.streams.map TStream.enc), .int .i64 x.server.total.limit, .int .i64 x.server.total.used, .int .i64 x.server.total.blocked, .int .i64 x.server.total.told, .int .i64 x.server.inflow.size, .int .i64 x.server.inflow.most, .int .i64 x.server.inflow.limit, .int .i64 x.server.inflow.seen, .int .i64 x.server.inflow.read, .int .i64 x.server.inflow.since, .int .i64 x.server.openBidi.limit, .int .i64 x.server.openBidi.opened, .int .i64 x.server.openBidi.blocked, .int .i64 x.server.openUni.limit, .int .i64 x.server.openUni.opened, .int .i64 x.server.openUni.blocked, .int .i64 x.server.allowBidi.most, .int .i64 x.server.allowBidi.limit, .int .i64 x.server.allowBidi.seen, .int .i64 x.server.allowBidi.closed, .int .i64 x.server.allowUni.most, .int .i64 x.server.allowUni.limit, .int .i64 x.server.allowUni.seen, .int .i64 x.server.allowUni.closed, .bool x.server.tellTotal, .bool x.server.tellBidi, .bool x.server.tellUni, .int .i64 x.server.last, .int .i64 x.server.number, .sl 2 (x.server.packets.map TPacket.enc), .int .i64 x.server.now, .int .i64 x.server.closed, .sl 2 (x.toServer.map TLetter.enc), .sl 2 (x.toClient.map TLetter.enc), .sl 7 (x.tracks.map TTrack.enc)], .one (.int .i64 k)] [.one (.int .i64 (TPair.held k x))] := by
  refine pure_ev Try.func63 rfl Try.call63 Try.checked.mixed [.agg [.d (.bool x.client.server), .d (.int .i64 x.client.own.ring), .d (.int .i64 x.client.own.window), .d (.int .i64 x.client.own.windowMost), .d (.int .i64 x.client.own.total), .d (.int .i64 x.client.own.totalMost), .d (.int .i64 x.client.own.bidi), .d (.int .i64 x.client.own.uni), .d (.int .i64 x.client.own.trip), .d (.int .i64 x.client.peer.ring), .d (.int .i64 x.client.peer.window), .d (.int .i64 x.client.peer.windowMost), .d (.int .i64 x.client.peer.total), .d (.int .i64 x.client.peer.totalMost), .d (.int .i64 x.client.peer.bidi), .d (.int .i64 x.client.peer.uni), .d (.int .i64 x.client.peer.trip), .d (.sl 39 (x.client.streams.map TStream.enc)), .d (.int .i64 x.client.total.limit), .d (.int .i64 x.client.total.used), .d (.int .i64 x.client.total.blocked), .d (.int .i64 x.client.total.told), .d (.int .i64 x.client.inflow.size), .d (.int .i64 x.client.inflow.most), .d (.int .i64 x.client.inflow.limit), .d (.int .i64 x.client.inflow.seen), .d (.int .i64 x.client.inflow.read), .d (.int .i64 x.client.inflow.since), .d (.int .i64 x.client.openBidi.limit), .d (.int .i64 x.client.openBidi.opened), .d (.int .i64 x.client.openBidi.blocked), .d (.int .i64 x.client.openUni.limit), .d (.int .i64 x.client.openUni.opened), .d (.int .i64 x.client.openUni.blocked), .d (.int .i64 x.client.allowBidi.most), .d (.int .i64 x.client.allowBidi.limit), .d (.int .i64 x.client.allowBidi.seen), .d (.int .i64 x.client.allowBidi.closed), .d (.int .i64 x.client.allowUni.most), .d (.int .i64 x.client.allowUni.limit), .d (.int .i64 x.client.allowUni.seen), .d (.int .i64 x.client.allowUni.closed), .d (.bool x.client.tellTotal), .d (.bool x.client.tellBidi), .d (.bool x.client.tellUni), .d (.int .i64 x.client.last), .d (.int .i64 x.client.number), .d (.sl 2 (x.client.packets.map TPacket.enc)), .d (.int .i64 x.client.now), .d (.int .i64 x.client.closed), .d (.bool x.server.server), .d (.int .i64 x.server.own.ring), .d (.int .i64 x.server.own.window), .d (.int .i64 x.server.own.windowMost), .d (.int .i64 x.server.own.total), .d (.int .i64 x.server.own.totalMost), .d (.int .i64 x.server.own.bidi), .d (.int .i64 x.server.own.uni), .d (.int .i64 x.server.own.trip), .d (.int .i64 x.server.peer.ring), .d (.int .i64 x.server.peer.window), .d (.int .i64 x.server.peer.windowMost), .d (.int .i64 x.server.peer.total), .d (.int .i64 x.server.peer.totalMost), .d (.int .i64 x.server.peer.bidi), .d (.int .i64 x.server.peer.uni), .d (.int .i64 x.server.peer.trip), .d (.sl 39 (x.server.streams.map TStream.enc)), .d (.int .i64 x.server.total.limit), .d (.int .i64 x.server.total.used), .d (.int .i64 x.server.total.blocked), .d (.int .i64 x.server.total.told), .d (.int .i64 x.server.inflow.size), .d (.int .i64 x.server.inflow.most), .d (.int .i64 x.server.inflow.limit), .d (.int .i64 x.server.inflow.seen), .d (.int .i64 x.server.inflow.read), .d (.int .i64 x.server.inflow.since), .d (.int .i64 x.server.openBidi.limit), .d (.int .i64 x.server.openBidi.opened), .d (.int .i64 x.server.openBidi.blocked), .d (.int .i64 x.server.openUni.limit), .d (.int .i64 x.server.openUni.opened), .d (.int .i64 x.server.openUni.blocked), .d (.int .i64 x.server.allowBidi.most), .d (.int .i64 x.server.allowBidi.limit), .d (.int .i64 x.server.allowBidi.seen), .d (.int .i64 x.server.allowBidi.closed), .d (.int .i64 x.server.allowUni.most), .d (.int .i64 x.server.allowUni.limit), .d (.int .i64 x.server.allowUni.seen), .d (.int .i64 x.server.allowUni.closed), .d (.bool x.server.tellTotal), .d (.bool x.server.tellBidi), .d (.bool x.server.tellUni), .d (.int .i64 x.server.last), .d (.int .i64 x.server.number), .d (.sl 2 (x.server.packets.map TPacket.enc)), .d (.int .i64 x.server.now), .d (.int .i64 x.server.closed), .d (.sl 2 (x.toServer.map TLetter.enc)), .d (.sl 2 (x.toClient.map TLetter.enc)), .d (.sl 7 (x.tracks.map TTrack.enc))], .d (.int .i64 k), .junk, .junk, .junk, .junk, .junk, .junk, .junk, .junk, .junk, .junk, .junk, .junk, .junk, .junk, .junk, .junk, .junk, .junk, .junk, .junk, .junk, .junk, .junk, .junk, .junk, .junk, .junk, .junk, .junk, .junk, .junk, .junk, .junk, .junk] rfl [.tmp 4] rfl ?_
  intro _
  unfold TPair.held
  try simp only [go_sem]
  repeat' (first
    | (refine CallS.intro (by first | assumption | (apply laws_heldConn <;> first | assumption | omega) | (apply laws_heldLetterS <;> first | assumption | omega) | (apply laws_heldTrackS <;> first | assumption | omega)) ?_; simp only [go_sem])
    | (refine CallK.intro (by first | assumption | (apply laws_heldConn <;> first | assumption | omega) | (apply laws_heldLetterS <;> first | assumption | omega) | (apply laws_heldTrackS <;> first | assumption | omega)) ?_; simp only [go_sem, List.length_map])
    | (with_reducible refine gTrueS ?_; simp only [go_sem, List.length_map]) | (with_reducible refine gFalseS ?_; simp only [go_sem, List.length_map]) | (with_reducible refine gTrue ?_; simp only [go_sem, List.length_map]) | (with_reducible refine gFalse ?_; simp only [go_sem, List.length_map])
    | (refine gSymS ?_; simp only [go_sem, List.length_map]) | (refine gSym ?_; simp only [go_sem, List.length_map])
    | (refine cSplit (fun h => ?_) (fun h => ?_) <;> simp only [go_sem])
    | (with_reducible refine And.intro ?_ ?_; (focus (first | omega | (exact ⟨by omega, by omega⟩) | (simp; done) | (simp; omega)))))
  all_goals first | (simp_all; done) | (simp_all; omega)
end Gv
