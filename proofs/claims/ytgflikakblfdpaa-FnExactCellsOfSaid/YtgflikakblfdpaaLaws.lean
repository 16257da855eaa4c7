/-
  The laws of the helper functions of the statements: copying, counting, comparing, marking. Printed by a program of ours.
-/
import Derived.Test.YtgflikakblfdpaaLawKit
namespace Gv
open Go Go.Proofs

set_option maxRecDepth 100000 in
theorem laws_markText (k : Int) : PureCall Try.prog 140 [.one (.int .i64 k)] [.one (.str (mtext k))] := by
  refine pure_ev Try.func140 rfl Try.call140 Try.checked.mixed [.d (.int .i64 k), .junk, .junk, .junk, .junk, .junk, .junk, .junk, .junk, .junk, .junk, .junk, .junk, .junk, .junk, .junk, .junk, .junk, .junk, .junk] rfl [.tmp 2] rfl ?_
  intro ok
  have hk := i64_of ok.1
  simp only [go_sem]
  refine cSplit (fun h => ?_) (fun h => ?_)
  · simp only [decide_eq_true_eq] at h
    simp only [go_sem]
    simp [mtext, h]
  · simp only [decide_eq_false_iff_not] at h
    simp only [go_sem]
    refine LoopK.intro (fun p : Int × List UInt8 => ⟨[.d (.int .i64 p.1), .junk, .d (.str []), .d (.str p.2), .junk, .junk, .junk, .junk, .junk, .junk, .junk, .junk, .junk, .junk, .junk, .junk, .junk, .junk, .junk, .junk], []⟩)
      (fun p => p.1.toNat) (fun p => 0 ≤ p.1 ∧ p.1 ≤ k ∧ dig k [] = dig p.1 p.2 ∧ p.1 * 2 ^ p.2.length ≤ k ∧ p.2.length ≤ 101) (k, []) [] ⟨by omega, by omega, rfl, by simp, by simp⟩ ?_ ?_
    · simp only [go_sem]
    · rintro ⟨j, acc⟩ ⟨h1, h2, h3, h4, h5⟩
      simp only at h1 h2 h3 h4 h5
      simp only [go_sem]
      refine cSplit (fun h6 => ?_) (fun h6 => ?_)
      · simp only [decide_eq_true_eq] at h6
        have hd := Int.tdiv_eq_ediv_of_nonneg (a := j) (b := 10) (by omega)
        have hl : acc.length ≤ 100 := mtext_len (by omega) h1 h4 (.inl h6)
        have hw : IntKind.i64.wrap (j.tdiv 10) = j.tdiv 10 := by rw [w64] <;> omega
        simp only [go_sem, hw]
        have h3 := h3.trans (show dig j acc = dig (j.tdiv 10) (UInt8.ofNat (IntKind.u8.wrap (IntKind.i64.wrap (48 + j.tmod 10))).toNat :: acc) by rw [dig, dif_pos h6])
        refine ⟨by simp only [maxLen]; simp; omega, RoundE.intro (j.tdiv 10, UInt8.ofNat (IntKind.u8.wrap (IntKind.i64.wrap (48 + j.tmod 10))).toNat :: acc) [] ⟨by simp only; omega, by simp only; omega, h3, ?_, by simp; omega⟩ (by simp only; omega) ?_⟩
        · simp only [List.length_cons]
          have h7 : j.tdiv 10 * 2 ≤ j := by omega
          have h8 : (0 : Int) ≤ 2 ^ acc.length := Int.pow_nonneg (by omega)
          have h9 := Int.mul_le_mul_of_nonneg_right h7 h8
          rw [Int.pow_succ, Int.mul_comm (2 ^ acc.length) 2, ← Int.mul_assoc]
          omega
        · simp only [go_sem]
      · simp only [decide_eq_false_iff_not] at h6
        have : j = 0 := by omega
        subst this
        have h3 := h3.trans (show dig 0 acc = acc by rw [dig, dif_neg (by omega)])
        simp only [go_sem]
        refine ⟨by simp only [maxLen]; simp; omega, ?_⟩
        simp [mtext, h, h3]
def TChunk.bulk (x : TChunk) : Nat := x.data.length
def TChunk.mk' (k : Int) : TChunk := ⟨k, mtext (nx k)⟩
set_option maxRecDepth 100000 in
theorem laws_szChunk (x : TChunk) (left : Int) (hl : 0 ≤ left ∧ left ≤ 1048576) : PureCall Try.prog 151 [.agg [.int .i64 x.offset, .str x.data], .one (.int .i64 left)] [.one (.int .i64 (szB (TChunk.bulk x) left))] := by
  refine pure_ev Try.func151 rfl Try.call151 Try.checked.mixed [.agg [.d (.int .i64 x.offset), .d (.str x.data)], .d (.int .i64 left), .junk, .junk, .junk, .junk, .junk, .junk, .junk, .junk, .junk, .junk, .junk] rfl [.tmp 4] rfl ?_
  intro ok
  have hw0 : IntKind.i64.wrap (left - (x.data.length : Int)) = left - (x.data.length : Int) := wsub (by omega) (ok.1.2.1)
  simp only [go_sem, hw0]
  refine cSplit (fun h => ?_) (fun h => ?_)
  · simp only [decide_eq_true_eq] at h; simp only [go_sem]; rw [szB_lt (by simp only [TChunk.bulk]; omega)]
  simp only [decide_eq_false_iff_not] at h
  try simp only [go_sem]
  rw [show szB (TChunk.bulk x) left = left - ((x.data.length : Nat) : Int) from by rw [szB_ge (by simp only [TChunk.bulk]; omega)]; simp only [TChunk.bulk]; try omega]
set_option maxRecDepth 100000 in
theorem laws_szChunkS (xs : List TChunk) (left : Int) (hl : 0 ≤ left ∧ left ≤ 1048576) : PureCall Try.prog 92 [.one (.sl 2 (xs.map TChunk.enc)), .one (.int .i64 left)] [.one (.int .i64 (szB ((xs.length + sumB TChunk.bulk xs)) left))] := by
  refine pure_ev Try.func92 rfl Try.call92 Try.checked.mixed [.d (.sl 2 (xs.map TChunk.enc)), .d (.int .i64 left), .junk, .junk, .junk, .junk, .junk, .junk, .junk, .junk, .junk, .junk, .junk, .junk, .junk, .junk, .junk, .junk, .junk, .junk, .junk, .junk, .junk, .junk, .junk, .junk, .junk] rfl [.tmp 4] rfl ?_
  intro ok
  have hm := len_of ok
  have hw := wsub hl hm
  simp only [go_sem, List.length_map, hw]
  refine cSplit (fun h => ?_) (fun h => ?_)
  · simp only [decide_eq_true_eq] at h; simp only [go_sem]; rw [szB_lt (by omega)]
  · simp only [decide_eq_false_iff_not] at h; simp only [go_sem]
    refine LoopK.intro (fun i : Nat => ⟨[.d (.sl 2 (xs.map TChunk.enc)), .d (.int .i64 (left - ((xs.length + sumB TChunk.bulk (xs.take i) : Nat) : Int))), .junk, .junk, .d (.int .i64 0), .d (.int .i64 i), .junk, .junk, .junk, .junk, .junk, .junk, .junk, .junk, .junk, .junk, .junk, .junk, .junk, .junk, .junk, .junk, .junk, .junk, .junk, .junk, .junk], []⟩)
      (fun i => xs.length - i) (fun i => i ≤ xs.length ∧ ((xs.length + sumB TChunk.bulk (xs.take i) : Nat) : Int) ≤ left) 0 [] ⟨by omega, by (simp only [List.take_zero, sumB_nil]) <;> omega⟩ ?_ ?_
    · simp only [go_sem]; simp [sumB]
    · rintro i ⟨hi, hle⟩
      simp only [go_sem, List.length_map]
      have hs2 := sumB_take_le TChunk.bulk xs (i + 1)
      refine cSplit (fun h1 => ?_) (fun h1 => ?_)
      · simp only [decide_eq_true_eq] at h1
        have hlt : i < xs.length := by omega
        have hxi := map_at TChunk.enc xs i hlt
        have hw2 := inc hlt hm
        have hs := sumB_take TChunk.bulk xs i hlt
        simp only [go_sem, List.length_map, Int.toNat_natCast, hxi, TChunk.enc]
        refine ⟨⟨by omega, by omega⟩, ?_⟩
        refine CallS.intro (laws_szChunk xs[i] _ (by omega)) ?_
        simp only [go_sem]
        refine cSplit (fun h2 => ?_) (fun h2 => ?_)
        · have h2 := szB_neg (of_decide_eq_true h2); simp only [go_sem]; rw [szB_lt (by omega)]
        · obtain ⟨e2, hb⟩ := szB_pos (of_decide_eq_false h2)
          simp only [go_sem, hw2, e2]
          refine RoundE.intro (i + 1) [] ⟨by omega, by omega⟩ (by omega) ?_
          simp only [go_sem]; simp [hs]; try omega
      · simp only [go_sem]
        simp only [decide_eq_false_iff_not] at h1
        have hi2 : i = xs.length := by omega
        subst hi2
        rw [List.take_length] at hle ⊢
        rw [szB_ge (by omega)]
def TBuffer.bulk (x : TBuffer) : Nat := (x.chunks.length + sumB TChunk.bulk x.chunks)
set_option maxRecDepth 100000 in
theorem laws_szBuffer (x : TBuffer) (left : Int) (hl : 0 ≤ left ∧ left ≤ 1048576) : PureCall Try.prog 37 [.agg [.int .i64 x.next, .sl 2 (x.chunks.map TChunk.enc)], .one (.int .i64 left)] [.one (.int .i64 (szB (TBuffer.bulk x) left))] := by
  refine pure_ev Try.func37 rfl Try.call37 Try.checked.mixed [.agg [.d (.int .i64 x.next), .d (.sl 2 (x.chunks.map TChunk.enc))], .d (.int .i64 left), .junk, .junk, .junk, .junk, .junk, .junk, .junk, .junk, .junk, .junk] rfl [.tmp 4] rfl ?_
  intro ok
  simp only [go_sem]
  refine CallS.intro (laws_szChunkS x.chunks (left) (by omega)) ?_
  simp only [go_sem]
  refine cSplit (fun h => ?_) (fun h => ?_)
  · simp only [decide_eq_true_eq] at h; have h := szB_neg h; simp only [go_sem]; rw [szB_lt (by simp only [TBuffer.bulk]; omega)]
  simp only [decide_eq_false_iff_not] at h; obtain ⟨e0, h⟩ := szB_pos h; simp only [go_sem, e0]
  try simp only [go_sem]
  rw [show szB (TBuffer.bulk x) left = left - (((x.chunks.length + sumB TChunk.bulk x.chunks) : Nat) : Int) from by rw [szB_ge (by simp only [TBuffer.bulk]; omega)]; simp only [TBuffer.bulk]; try omega]
set_option maxRecDepth 100000 in
theorem laws_toChunk (x : TChunk) : PureCall Try.prog 153 [.agg [.int .i64 x.offset, .str x.data]] [.agg [.int .i64 x.offset, .str x.data]] := by
  refine pure_ev Try.func153 rfl Try.call153 Try.checked.mixed [.agg [.d (.int .i64 x.offset), .d (.str x.data)], .junk, .junk, .junk, .junk, .junk, .junk, .junk, .junk, .junk, .junk] rfl [.cell 2 152] rfl ?_
  intro _
  try simp only [go_sem]
  repeat' (first
    | (with_reducible refine gTrueS ?_; simp only [go_sem, List.length_map, List.take_length, List.length_take, Nat.min_self]) | (with_reducible refine gFalseS ?_; simp only [go_sem, List.length_map, List.take_length, List.length_take, Nat.min_self]) | (with_reducible refine gTrue ?_; simp only [go_sem, List.length_map, List.take_length, List.length_take, Nat.min_self]) | (with_reducible refine gFalse ?_; simp only [go_sem, List.length_map, List.take_length, List.length_take, Nat.min_self])
    | (refine gSymS ?_; simp only [go_sem, List.length_map, List.take_length, List.length_take, Nat.min_self]) | (refine gSym ?_; simp only [go_sem, List.length_map, List.take_length, List.length_take, Nat.min_self])
    | (refine cSplit (fun h => ?_) (fun h => ?_) <;> simp only [go_sem, List.length_map, List.take_length, List.length_take, Nat.min_self])
    | (with_reducible refine And.intro ?_ ?_; (focus (first | omega | (exact ⟨by omega, by omega⟩) | (simp; done) | (simp; omega)))))
  all_goals simp
set_option maxRecDepth 100000 in
theorem laws_toChunkS (xs : List TChunk) (hx : (xs.length + sumB TChunk.bulk xs) ≤ 1048576) : PureCall Try.prog 97 [.one (.sl 2 (xs.map TChunk.enc))] [.one (.sl 2 (xs.map TChunk.enc))] := by
  refine pure_ev Try.func97 rfl Try.call97 Try.checked.mixed [.d (.sl 2 (xs.map TChunk.enc)), .junk, .junk, .junk, .junk, .junk, .junk, .junk, .junk, .junk, .junk, .junk, .junk, .junk, .junk, .junk, .junk, .junk, .junk, .junk, .junk, .junk, .junk] rfl [.tmp 2] rfl ?_
  intro _
  have hm : xs.length ≤ maxLen := by simp only [maxLen]; omega
  simp only [go_sem, List.length_map, Int.toNat_natCast]
  refine ⟨⟨by omega, by omega, hm⟩, ?_⟩
  refine LoopK.intro (fun i : Nat => ⟨[.d (.sl 2 (xs.map TChunk.enc)), .junk, .junk, .sl 0 0 xs.length, .d (.int .i64 i), .junk, .junk, .junk, .junk, .junk, .junk, .junk, .junk, .junk, .junk, .junk, .junk, .junk, .junk, .junk, .junk, .junk, .junk], [.arr 2 ((cpL (⟨0, []⟩ : TChunk) xs i).map TChunk.enc) true]⟩)
      (fun i => xs.length - i) (fun i => i ≤ xs.length) 0 [0] (by omega) ?_ ?_
  · simp only [go_sem]; simp [cpL, TChunk.enc]
  · intro i hi
    simp only [go_sem, List.length_map]
    refine cSplit (fun h1 => ?_) (fun h1 => ?_)
    · simp only [decide_eq_true_eq] at h1
      have hlt : i < xs.length := by omega
      have hxi := map_at TChunk.enc xs i hlt
      have hw := inc hlt hm
      have hg := cpL_get (⟨0, []⟩ : TChunk) TChunk.enc xs i hlt
      have hs := cpL_set (⟨0, []⟩ : TChunk) TChunk.enc xs i hlt
      have hl := cpL_len (⟨0, []⟩ : TChunk) xs i (by omega)
      have hb := sumB_at TChunk.bulk xs i hlt
      simp only [TChunk.enc] at hs hg hxi
      simp only [go_sem, List.length_map, List.map_nil, Int.toNat_natCast, hxi]
      refine ⟨⟨by omega, by omega⟩, ?_⟩
      refine CallS.intro (laws_toChunk xs[i]) ?_
      simp only [go_sem, List.length_map, List.map_nil, Int.toNat_natCast, hg, hs, hl, hw]
      refine ⟨⟨by omega, by omega⟩, ⟨by omega, by simp⟩, RoundE.intro (i + 1) [0] (by omega) (by omega) ?_⟩
      simp only [go_sem]; simp
    · simp only [go_sem]
      simp only [decide_eq_false_iff_not] at h1
      have hi2 : i = xs.length := by omega
      subst hi2
      rw [cpL_all]
      simp [outOA]
      exact List.take_of_length_le (by simp)
set_option maxRecDepth 100000 in
theorem laws_toBuffer (x : TBuffer) (hx : TBuffer.bulk x ≤ 1048576) : PureCall Try.prog 39 [.agg [.int .i64 x.next, .sl 2 (x.chunks.map TChunk.enc)]] [.agg [.int .i64 x.next, .sl 2 (x.chunks.map TChunk.enc)]] := by
  refine pure_ev Try.func39 rfl Try.call39 Try.checked.mixed [.agg [.d (.int .i64 x.next), .d (.sl 2 (x.chunks.map TChunk.enc))], .junk, .junk, .junk, .junk, .junk, .junk, .junk, .junk, .junk, .junk, .junk] rfl [.cell 2 63] rfl ?_
  intro _
  simp only [TBuffer.bulk] at hx
  try simp only [go_sem]
  repeat' (first
    | (refine CallS.intro (by first | (apply laws_toChunkS <;> first | assumption | omega)) ?_; simp only [go_sem, List.length_map])
    | (refine CallK.intro (by first | (apply laws_toChunkS <;> first | assumption | omega)) ?_; simp only [go_sem, List.length_map, List.take_length, List.length_take, Nat.min_self])
    | (with_reducible refine gTrueS ?_; simp only [go_sem, List.length_map, List.take_length, List.length_take, Nat.min_self]) | (with_reducible refine gFalseS ?_; simp only [go_sem, List.length_map, List.take_length, List.length_take, Nat.min_self]) | (with_reducible refine gTrue ?_; simp only [go_sem, List.length_map, List.take_length, List.length_take, Nat.min_self]) | (with_reducible refine gFalse ?_; simp only [go_sem, List.length_map, List.take_length, List.length_take, Nat.min_self])
    | (refine gSymS ?_; simp only [go_sem, List.length_map, List.take_length, List.length_take, Nat.min_self]) | (refine gSym ?_; simp only [go_sem, List.length_map, List.take_length, List.length_take, Nat.min_self])
    | (refine cSplit (fun h => ?_) (fun h => ?_) <;> simp only [go_sem, List.length_map, List.take_length, List.length_take, Nat.min_self])
    | (with_reducible refine And.intro ?_ ?_; (focus (first | omega | (exact ⟨by omega, by omega⟩) | (simp; done) | (simp; omega)))))
  all_goals simp
set_option maxRecDepth 100000 in
theorem laws_eqIntS (xs ys : List Int) : PureCall Try.prog 90 [.one (.sl 1 (xs.map eI)), .one (.sl 1 (ys.map eI))] [.one (.bool (decide (xs = ys)))] := by
  refine pure_ev Try.func90 rfl Try.call90 Try.checked.mixed [.d (.sl 1 (xs.map eI)), .d (.sl 1 (ys.map eI)), .junk, .junk, .junk, .junk, .junk, .junk, .junk, .junk, .junk, .junk, .junk, .junk, .junk, .junk, .junk, .junk, .junk, .junk, .junk, .junk, .junk, .junk, .junk, .junk] rfl [.tmp 4] rfl ?_
  intro ok
  have hm := len_of ok
  simp only [go_sem, List.length_map]
  refine cSplit (fun h => ?_) (fun h => ?_)
  · simp only [go_sem]
    simp only [ne_eq, decide_not, Bool.not_eq_true', decide_eq_false_iff_not] at h
    have : xs ≠ ys := fun e => h (by rw [e])
    simp [this]
  · simp only [ne_eq, decide_not, Bool.not_eq_false', decide_eq_true_eq] at h
    simp only [go_sem]
    refine LoopK.intro (fun i : Nat => ⟨[.d (.sl 1 (xs.map eI)), .d (.sl 1 (ys.map eI)), .junk, .junk, .d (.bool false), .d (.int .i64 i), .junk, .junk, .junk, .junk, .junk, .junk, .junk, .junk, .junk, .junk, .junk, .junk, .junk, .junk, .junk, .junk, .junk, .junk, .junk, .junk], []⟩)
      (fun i => xs.length - i) (fun i => i ≤ xs.length ∧ xs.take i = ys.take i) 0 [] ⟨by omega, by simp⟩ ?_ ?_
    · simp only [go_sem]; simp
    · rintro i ⟨hi, he⟩
      simp only [go_sem, List.length_map]
      refine cSplit (fun h1 => ?_) (fun h1 => ?_)
      · simp only [decide_eq_true_eq] at h1
        have hxi := map_at eI xs i (by omega)
        have hyi := map_at eI ys i (by omega)
        have hw := inc (i := i) (m := xs.length) (by omega) hm
        simp only [go_sem]
        refine drawE_intro [[.post, .un, .post, .post, .un, .un, .un, .un, .post], [.un, .post, .post, .post, .un, .un, .un, .un, .post], [.pre, .pre, .post, .post, .un, .un, .un, .un, .post], [.pre, .pre, .pre, .post, .un, .un, .un, .un, .post], [.un, .un, .un, .un, .post, .un, .post, .post, .post], [.un, .un, .un, .un, .un, .post, .post, .post, .post], [.un, .un, .un, .un, .pre, .pre, .post, .post, .post], [.un, .un, .un, .un, .pre, .pre, .pre, .post, .post], [.pre, .pre, .pre, .pre, .pre, .pre, .pre, .pre, .post]] (by kernel_rfl) (by rfl) ?_
        simp only [go_sem, List.length_map, Int.toNat_natCast, hxi, hyi, eI]
        refine ⟨⟨by omega, by omega⟩, ⟨by omega, by omega⟩, ?_⟩
        refine cSplit (fun h2 => ?_) (fun h2 => ?_)
        · simp only [go_sem]
          have : xs ≠ ys := fun e => by subst e; simp at h2
          simp [this]
        · simp only [go_sem, hw]
          have h3 : xs[i]'(by omega) = ys[i]'(by omega) := by simpa using h2
          refine RoundE.intro (i + 1) [] ⟨by omega, take_eq he (by omega) (by omega) h3⟩ (by omega) ?_
          simp only [go_sem]
      · simp only [go_sem]
        simp only [decide_eq_false_iff_not] at h1
        have : xs = ys := by rw [List.take_of_length_le (by omega), List.take_of_length_le (by omega)] at he; exact he
        simp [this]
def TCells.bulk (x : TCells) : Nat := x.bytes.length
set_option maxRecDepth 100000 in
theorem laws_eqCells (x y : TCells) : PureCall Try.prog 33 [.agg [.sl 1 (x.bytes.map eI), .int .i64 x.read], .agg [.sl 1 (y.bytes.map eI), .int .i64 y.read]] [.one (.bool (decide (x = y)))] := by
  refine pure_ev Try.func33 rfl Try.call33 Try.checked.mixed [.agg [.d (.sl 1 (x.bytes.map eI)), .d (.int .i64 x.read)], .agg [.d (.sl 1 (y.bytes.map eI)), .d (.int .i64 y.read)], .junk, .junk, .junk, .junk, .junk, .junk, .junk, .junk, .junk, .junk, .junk, .junk, .junk, .junk] rfl [.tmp 4] rfl ?_
  obtain ⟨a0, a1⟩ := x
  obtain ⟨b0, b1⟩ := y
  simp only [TCells.mk.injEq]
  intro _
  try simp only [go_sem]
  repeat' (first
    | (refine CallS.intro (by first | (apply laws_eqIntS <;> first | assumption | omega)) ?_; simp only [go_sem])
    | (refine CallK.intro (by first | (apply laws_eqIntS <;> first | assumption | omega)) ?_; simp only [go_sem, List.length_map])
    | (with_reducible refine gTrueS ?_; simp only [go_sem, List.length_map]) | (with_reducible refine gFalseS ?_; simp only [go_sem, List.length_map]) | (with_reducible refine gTrue ?_; simp only [go_sem, List.length_map]) | (with_reducible refine gFalse ?_; simp only [go_sem, List.length_map])
    | (refine gSymS ?_; simp only [go_sem, List.length_map]) | (refine gSym ?_; simp only [go_sem, List.length_map])
    | (refine cSplit (fun h => ?_) (fun h => ?_) <;> simp only [go_sem])
    | (with_reducible refine And.intro ?_ ?_; (focus (first | omega | (exact ⟨by omega, by omega⟩) | (simp; done) | (simp; omega)))))
  all_goals simp_all
set_option maxRecDepth 100000 in
theorem laws_eqChunk (x y : TChunk) : PureCall Try.prog 157 [.agg [.int .i64 x.offset, .str x.data], .agg [.int .i64 y.offset, .str y.data]] [.one (.bool (decide (x = y)))] := by
  refine pure_ev Try.func157 rfl Try.call157 Try.checked.mixed [.agg [.d (.int .i64 x.offset), .d (.str x.data)], .agg [.d (.int .i64 y.offset), .d (.str y.data)], .junk, .junk, .junk, .junk, .junk, .junk, .junk, .junk, .junk, .junk, .junk, .junk, .junk] rfl [.tmp 4] rfl ?_
  obtain ⟨a0, a1⟩ := x
  obtain ⟨b0, b1⟩ := y
  simp only [TChunk.mk.injEq]
  intro _
  try simp only [go_sem]
  repeat' (first
    | (with_reducible refine gTrueS ?_; simp only [go_sem, List.length_map]) | (with_reducible refine gFalseS ?_; simp only [go_sem, List.length_map]) | (with_reducible refine gTrue ?_; simp only [go_sem, List.length_map]) | (with_reducible refine gFalse ?_; simp only [go_sem, List.length_map])
    | (refine gSymS ?_; simp only [go_sem, List.length_map]) | (refine gSym ?_; simp only [go_sem, List.length_map])
    | (refine cSplit (fun h => ?_) (fun h => ?_) <;> simp only [go_sem])
    | (with_reducible refine And.intro ?_ ?_; (focus (first | omega | (exact ⟨by omega, by omega⟩) | (simp; done) | (simp; omega)))))
  all_goals simp_all
set_option maxRecDepth 100000 in
theorem laws_eqChunkS (xs ys : List TChunk) : PureCall Try.prog 102 [.one (.sl 2 (xs.map TChunk.enc)), .one (.sl 2 (ys.map TChunk.enc))] [.one (.bool (decide (xs = ys)))] := by
  refine pure_ev Try.func102 rfl Try.call102 Try.checked.mixed [.d (.sl 2 (xs.map TChunk.enc)), .d (.sl 2 (ys.map TChunk.enc)), .junk, .junk, .junk, .junk, .junk, .junk, .junk, .junk, .junk, .junk, .junk, .junk, .junk, .junk, .junk, .junk, .junk, .junk, .junk, .junk, .junk, .junk, .junk, .junk, .junk] rfl [.tmp 4] rfl ?_
  intro ok
  have hm := len_of ok
  simp only [go_sem, List.length_map]
  refine cSplit (fun h => ?_) (fun h => ?_)
  · simp only [go_sem]
    simp only [ne_eq, decide_not, Bool.not_eq_true', decide_eq_false_iff_not] at h
    have : xs ≠ ys := fun e => h (by rw [e])
    simp [this]
  · simp only [ne_eq, decide_not, Bool.not_eq_false', decide_eq_true_eq] at h
    simp only [go_sem]
    refine LoopK.intro (fun i : Nat => ⟨[.d (.sl 2 (xs.map TChunk.enc)), .d (.sl 2 (ys.map TChunk.enc)), .junk, .junk, .d (.bool false), .d (.int .i64 i), .junk, .junk, .junk, .junk, .junk, .junk, .junk, .junk, .junk, .junk, .junk, .junk, .junk, .junk, .junk, .junk, .junk, .junk, .junk, .junk, .junk], []⟩)
      (fun i => xs.length - i) (fun i => i ≤ xs.length ∧ xs.take i = ys.take i) 0 [] ⟨by omega, by simp⟩ ?_ ?_
    · simp only [go_sem]; simp
    · rintro i ⟨hi, he⟩
      simp only [go_sem, List.length_map]
      refine cSplit (fun h1 => ?_) (fun h1 => ?_)
      · simp only [decide_eq_true_eq] at h1
        have hxi := map_at TChunk.enc xs i (by omega)
        have hyi := map_at TChunk.enc ys i (by omega)
        have hw := inc (i := i) (m := xs.length) (by omega) hm
        simp only [go_sem]
        refine drawE_intro [[.post, .un, .post, .post, .un, .un, .un, .un, .post, .post], [.un, .post, .post, .post, .un, .un, .un, .un, .post, .post], [.pre, .pre, .post, .post, .un, .un, .un, .un, .post, .post], [.pre, .pre, .pre, .post, .un, .un, .un, .un, .post, .post], [.un, .un, .un, .un, .post, .un, .post, .post, .post, .post], [.un, .un, .un, .un, .un, .post, .post, .post, .post, .post], [.un, .un, .un, .un, .pre, .pre, .post, .post, .post, .post], [.un, .un, .un, .un, .pre, .pre, .pre, .post, .post, .post], [.pre, .pre, .pre, .pre, .pre, .pre, .pre, .pre, .post, .post], [.pre, .pre, .pre, .pre, .pre, .pre, .pre, .pre, .pre, .post]] (by kernel_rfl) (by rfl) ?_
        simp only [go_sem, List.length_map, Int.toNat_natCast, hxi, hyi, TChunk.enc]
        refine ⟨⟨by omega, by omega⟩, ⟨by omega, by omega⟩, ?_⟩
        refine CallK.intro (laws_eqChunk xs[i] ys[i]) ?_
        simp only [go_sem]
        refine cSplit (fun h2 => ?_) (fun h2 => ?_)
        · simp only [go_sem]
          have : xs ≠ ys := fun e => by subst e; simp at h2
          simp [this]
        · simp only [go_sem, hw]
          have h3 : xs[i]'(by omega) = ys[i]'(by omega) := by simpa using h2
          refine RoundE.intro (i + 1) [] ⟨by omega, take_eq he (by omega) (by omega) h3⟩ (by omega) ?_
          simp only [go_sem]
      · simp only [go_sem]
        simp only [decide_eq_false_iff_not] at h1
        have : xs = ys := by rw [List.take_of_length_le (by omega), List.take_of_length_le (by omega)] at he; exact he
        simp [this]
set_option maxRecDepth 100000 in
theorem laws_eqBuffer (x y : TBuffer) : PureCall Try.prog 41 [.agg [.int .i64 x.next, .sl 2 (x.chunks.map TChunk.enc)], .agg [.int .i64 y.next, .sl 2 (y.chunks.map TChunk.enc)]] [.one (.bool (decide (x = y)))] := by
  refine pure_ev Try.func41 rfl Try.call41 Try.checked.mixed [.agg [.d (.int .i64 x.next), .d (.sl 2 (x.chunks.map TChunk.enc))], .agg [.d (.int .i64 y.next), .d (.sl 2 (y.chunks.map TChunk.enc))], .junk, .junk, .junk, .junk, .junk, .junk, .junk, .junk, .junk, .junk, .junk, .junk, .junk, .junk] rfl [.tmp 4] rfl ?_
  obtain ⟨a0, a1⟩ := x
  obtain ⟨b0, b1⟩ := y
  simp only [TBuffer.mk.injEq]
  intro _
  try simp only [go_sem]
  repeat' (first
    | (refine CallS.intro (by first | (apply laws_eqChunkS <;> first | assumption | omega)) ?_; simp only [go_sem])
    | (refine CallK.intro (by first | (apply laws_eqChunkS <;> first | assumption | omega)) ?_; simp only [go_sem, List.length_map])
    | (with_reducible refine gTrueS ?_; simp only [go_sem, List.length_map]) | (with_reducible refine gFalseS ?_; simp only [go_sem, List.length_map]) | (with_reducible refine gTrue ?_; simp only [go_sem, List.length_map]) | (with_reducible refine gFalse ?_; simp only [go_sem, List.length_map])
    | (refine gSymS ?_; simp only [go_sem, List.length_map]) | (refine gSym ?_; simp only [go_sem, List.length_map])
    | (refine cSplit (fun h => ?_) (fun h => ?_) <;> simp only [go_sem])
    | (with_reducible refine And.intro ?_ ?_; (focus (first | omega | (exact ⟨by omega, by omega⟩) | (simp; done) | (simp; omega)))))
  all_goals simp_all
set_option maxRecDepth 100000 in
theorem laws_markChunkS (xs : List TChunk) (k : Int) : MutCall Try.prog 103 [.one (.sl 2 (xs.map TChunk.enc)), .one (.int .i64 k)] [.one (.sl 2 ((mkL (TChunk.mk' : Int → TChunk) 2 k xs xs.length).map TChunk.enc)), .one (.int .i64 k)] [.one (.int .i64 (nxs (2 * xs.length) k))] := by
  refine mut_ev Try.func103 rfl Try.call103 Try.checked.mixed [.sl 0 0 (xs.map TChunk.enc).length, .d (.int .i64 k), .junk, .junk, .junk, .junk, .junk, .junk, .junk, .junk, .junk, .junk, .junk, .junk, .junk, .junk, .junk, .junk, .junk, .junk, .junk, .junk, .junk, .junk, .junk, .junk, .junk, .junk] [.arr 2 (xs.map TChunk.enc) true] [.sl 0 0 (xs.map TChunk.enc).length, .d (.int .i64 k)] rfl rfl rfl [.tmp 4] rfl ?_
  intro ok
  have hm := len_of ok
  simp only [go_sem, List.length_map]
  refine LoopK.intro (fun i : Nat => ⟨[.sl 0 0 xs.length, .d (.int .i64 (nxs (2 * i) k)), .junk, .junk, .d (.int .i64 0), .d (.int .i64 i), .junk, .junk, .junk, .junk, .junk, .junk, .junk, .junk, .junk, .junk, .junk, .junk, .junk, .junk, .junk, .junk, .junk, .junk, .junk, .junk, .junk, .junk], [.arr 2 ((mkL (TChunk.mk' : Int → TChunk) 2 k xs i).map TChunk.enc) true]⟩)
      (fun i => xs.length - i) (fun i => i ≤ xs.length) 0 [0] (by omega) ?_ ?_
  · simp only [go_sem]; simp [mkL_zero, nxs]
  · intro i hi
    simp only [go_sem]
    refine cSplit (fun h1 => ?_) (fun h1 => ?_)
    · simp only [decide_eq_true_eq] at h1
      have hlt : i < xs.length := by omega
      have hg := mkL_get (TChunk.mk' : Int → TChunk) 2 TChunk.enc k xs i hlt
      have hs := mkL_set (TChunk.mk' : Int → TChunk) 2 TChunk.enc k xs i hlt
      have hl := mkL_len (TChunk.mk' : Int → TChunk) 2 k xs i (by omega)
      have hw := inc hlt hm
      have hn : nxs (2 * (i + 1)) k = nx (nx (nxs (2 * i) k)) := rfl
      have hk : ∀ (l : List (List D)) (a : List D), l.length = xs.length → (l.set i a)[i]? = some a := fun l a hl => by rw [List.getElem?_set_self (by omega)]
      simp only [TChunk.enc, TChunk.mk'] at hs hg
      simp only [nx] at hn hs
      generalize hL : (mkL (TChunk.mk' : Int → TChunk) 2 k xs i).map TChunk.enc = rows at *
      have hrl : rows.length = xs.length := by rw [← hL, List.length_map, hl]
      simp only [go_sem, Int.toNat_natCast, hg]
      repeat' (first
        | (refine CallS.intro (laws_markText _) ?_; simp only [go_sem, Int.toNat_natCast, hw, hk _ _ hrl, List.length_set, hrl, List.set_set])
        | (with_reducible refine And.intro (by omega) ?_)
        | (with_reducible refine And.intro (by exact ⟨by omega, by omega⟩) ?_)
        | (with_reducible refine And.intro (by (try simp only [go_sem, hrl]) <;> first | omega | exact ⟨by omega, by simp⟩ | (simp; done)) ?_; try simp only [go_sem, Int.toNat_natCast, hg, hw, hk _ _ hrl, List.length_set, hrl, List.set_set])
        | (refine RoundE.intro (i + 1) [0] (by omega) (by omega) ?_))
      try simp only [go_sem, hn, hs]
      simp [hn]
    · simp only [go_sem]
      simp only [decide_eq_false_iff_not] at h1
      have : i = xs.length := by omega
      subst this
      have hl := mkL_len (TChunk.mk' : Int → TChunk) 2 k xs xs.length (by omega)
      simp [outOA, hl]
      rw [List.take_of_length_le (by simp [hl])]
def TBuffer.mkd (k : Int) (x : TBuffer) : TBuffer := { x with chunks := mkL (TChunk.mk' : Int → TChunk) 2 k x.chunks x.chunks.length }
def TBuffer.adv (k : Int) (x : TBuffer) : Int := (nxs (2 * x.chunks.length) k)
def TBuffer.held (k : Int) (x : TBuffer) : Int := if heldL (TChunk.mk' : Int → TChunk) 2 k x.chunks < 0 then -1 else heldL (TChunk.mk' : Int → TChunk) 2 k x.chunks
def TBuffer.cnt (x : TBuffer) : Nat := 2 * x.chunks.length
theorem TBuffer.adv_eq {k : Int} (hk : 0 ≤ k) (x : TBuffer) (h : k + TBuffer.cnt x ≤ 4611686018427387904) : TBuffer.adv k x = k + TBuffer.cnt x := by
  simp only [TBuffer.adv, TBuffer.cnt] at *
  have a0 : nxs (2 * x.chunks.length) (k) = k + ((2 * x.chunks.length : Nat) : Int) := nxs_small (by omega) _ (by omega)
  rw [a0]; try omega
theorem TBuffer.held_mkd {k : Int} (hk : 0 ≤ k) (x : TBuffer) (h : k + TBuffer.cnt x ≤ 4611686018427387904) : TBuffer.held k (TBuffer.mkd k x) = TBuffer.adv k x := by
  simp only [TBuffer.cnt] at h
  simp only [TBuffer.adv, TBuffer.held, TBuffer.mkd]
  have a0 : nxs (2 * x.chunks.length) (k) = k + ((2 * x.chunks.length : Nat) : Int) := nxs_small (by omega) _ (by omega)
  simp only [held_all, a0]
  repeat rw [if_neg (by omega)]
theorem TBuffer.adv_nn (x : TBuffer) (h : TBuffer.cnt x ≤ 1000000000000) : ¬ TBuffer.adv 1 x < 0 := by rw [TBuffer.adv_eq (by omega) x (by omega)]; omega
theorem TBuffer.held_one (x : TBuffer) (h : TBuffer.cnt x ≤ 1000000000000) : TBuffer.held 1 (TBuffer.mkd 1 x) = TBuffer.adv 1 x := TBuffer.held_mkd (by omega) x (by omega)
@[go_sem] theorem TBuffer.mkd_Next (k : Int) (x : TBuffer) : (TBuffer.mkd k x).next = x.next := rfl
@[go_sem] theorem TBuffer.mkd_len_chunks (k : Int) (x : TBuffer) : (TBuffer.mkd k x).chunks.length = x.chunks.length := by simp only [TBuffer.mkd, mkL_len_self]
@[go_sem] theorem TBuffer.mkd_take_chunks (k : Int) (x : TBuffer) : ((TBuffer.mkd k x).chunks.map TChunk.enc).take x.chunks.length = (TBuffer.mkd k x).chunks.map TChunk.enc := List.take_of_length_le (by simp [TBuffer.mkd_len_chunks])
set_option maxRecDepth 100000 in
theorem laws_markBuffer (x : TBuffer) (k : Int) : MutCall Try.prog 42 [.agg [.int .i64 x.next, .sl 2 (x.chunks.map TChunk.enc)], .one (.int .i64 k)] [.agg [.int .i64 (TBuffer.mkd k x).next, .sl 2 ((TBuffer.mkd k x).chunks.map TChunk.enc)], .one (.int .i64 k)] [.one (.int .i64 (TBuffer.adv k x))] := by
  refine mut_ev Try.func42 rfl Try.call42 Try.checked.mixed [.agg [.d (.int .i64 x.next), .sl 0 0 (x.chunks.map TChunk.enc).length], .d (.int .i64 k), .junk, .junk, .junk, .junk, .junk, .junk, .junk, .junk] [.arr 2 (x.chunks.map TChunk.enc) true] [.agg [.d (.int .i64 x.next), .sl 0 0 (x.chunks.map TChunk.enc).length], .d (.int .i64 k)] rfl rfl rfl [.tmp 4] rfl ?_
  intro _
  have hl0 := fun k => mkL_len (TChunk.mk' : Int → TChunk) 2 k x.chunks x.chunks.length (Nat.le_refl _)
  have ht0 : ∀ k, ((mkL (TChunk.mk' : Int → TChunk) 2 k x.chunks x.chunks.length).map TChunk.enc).take x.chunks.length = (mkL (TChunk.mk' : Int → TChunk) 2 k x.chunks x.chunks.length).map TChunk.enc := fun k => List.take_of_length_le (by simp [hl0])
  unfold TBuffer.mkd TBuffer.adv
  simp only [go_sem, List.length_map]
  refine CallS.mu (laws_markChunkS _ _) ?_
  simp only [go_sem, List.length_map, hl0, ht0]
  try (refine And.intro (by simp) ?_; simp only [go_sem, List.length_map, hl0, ht0])
  simp [outOA]
set_option maxRecDepth 100000 in
theorem laws_markIntS (xs : List Int) (k : Int) : MutCall Try.prog 91 [.one (.sl 1 (xs.map eI)), .one (.int .i64 k)] [.one (.sl 1 ((mkL (id : Int → Int) 1 k xs xs.length).map eI)), .one (.int .i64 k)] [.one (.int .i64 (nxs (1 * xs.length) k))] := by
  refine mut_ev Try.func91 rfl Try.call91 Try.checked.mixed [.sl 0 0 (xs.map eI).length, .d (.int .i64 k), .junk, .junk, .junk, .junk, .junk, .junk, .junk, .junk, .junk, .junk, .junk, .junk, .junk, .junk, .junk, .junk, .junk] [.arr 1 (xs.map eI) true] [.sl 0 0 (xs.map eI).length, .d (.int .i64 k)] rfl rfl rfl [.tmp 4] rfl ?_
  intro ok
  have hm := len_of ok
  simp only [go_sem, List.length_map]
  refine LoopK.intro (fun i : Nat => ⟨[.sl 0 0 xs.length, .d (.int .i64 (nxs (1 * i) k)), .junk, .junk, .d (.int .i64 0), .d (.int .i64 i), .junk, .junk, .junk, .junk, .junk, .junk, .junk, .junk, .junk, .junk, .junk, .junk, .junk], [.arr 1 ((mkL (id : Int → Int) 1 k xs i).map eI) true]⟩)
      (fun i => xs.length - i) (fun i => i ≤ xs.length) 0 [0] (by omega) ?_ ?_
  · simp only [go_sem]; simp [mkL_zero, nxs]
  · intro i hi
    simp only [go_sem]
    refine cSplit (fun h1 => ?_) (fun h1 => ?_)
    · simp only [decide_eq_true_eq] at h1
      have hlt : i < xs.length := by omega
      have hg := mkL_get (id : Int → Int) 1 eI k xs i hlt
      have hs := mkL_set (id : Int → Int) 1 eI k xs i hlt
      have hl := mkL_len (id : Int → Int) 1 k xs i (by omega)
      have hw := inc hlt hm
      have hn : nxs (1 * (i + 1)) k = nx (nxs (1 * i) k) := rfl
      have hk : ∀ (l : List (List D)) (a : List D), l.length = xs.length → (l.set i a)[i]? = some a := fun l a hl => by rw [List.getElem?_set_self (by omega)]
      simp only [eI, id] at hs hg
      simp only [nx, Nat.one_mul] at hn hs
      generalize hL : (mkL (id : Int → Int) 1 k xs i).map eI = rows at *
      have hrl : rows.length = xs.length := by rw [← hL, List.length_map, hl]
      simp only [go_sem, Int.toNat_natCast, hg, hw]
      repeat' (first
        | (refine CallS.intro (laws_markText _) ?_; simp only [go_sem, Int.toNat_natCast, hg, hw, hk _ _ hrl, List.length_set, hrl, List.set_set])
        | (with_reducible refine And.intro (by omega) ?_)
        | (with_reducible refine And.intro (by exact ⟨by omega, by omega⟩) ?_)
        | (with_reducible refine And.intro (by (try simp only [go_sem, hrl]) <;> first | omega | exact ⟨by omega, by simp⟩ | (simp; done)) ?_; try simp only [go_sem, Int.toNat_natCast, hg, hw, hk _ _ hrl, List.length_set, hrl, List.set_set])
        | (refine RoundE.intro (i + 1) [0] (by omega) (by omega) ?_))
      try simp only [go_sem]
      simp [hn, hs]
    · simp only [go_sem]
      simp only [decide_eq_false_iff_not] at h1
      have : i = xs.length := by omega
      subst this
      have hl := mkL_len (id : Int → Int) 1 k xs xs.length (by omega)
      simp [outOA, hl]
      rw [List.take_of_length_le (by simp [hl])]
def TCells.mkd (k : Int) (x : TCells) : TCells := { x with bytes := mkL (id : Int → Int) 1 k x.bytes x.bytes.length }
def TCells.adv (k : Int) (x : TCells) : Int := (nxs (1 * x.bytes.length) k)
def TCells.held (k : Int) (x : TCells) : Int := if heldL (id : Int → Int) 1 k x.bytes < 0 then -1 else heldL (id : Int → Int) 1 k x.bytes
def TCells.cnt (x : TCells) : Nat := 1 * x.bytes.length
theorem TCells.adv_eq {k : Int} (hk : 0 ≤ k) (x : TCells) (h : k + TCells.cnt x ≤ 4611686018427387904) : TCells.adv k x = k + TCells.cnt x := by
  simp only [TCells.adv, TCells.cnt] at *
  have a0 : nxs (1 * x.bytes.length) (k) = k + ((1 * x.bytes.length : Nat) : Int) := nxs_small (by omega) _ (by omega)
  rw [a0]; try omega
theorem TCells.held_mkd {k : Int} (hk : 0 ≤ k) (x : TCells) (h : k + TCells.cnt x ≤ 4611686018427387904) : TCells.held k (TCells.mkd k x) = TCells.adv k x := by
  simp only [TCells.cnt] at h
  simp only [TCells.adv, TCells.held, TCells.mkd]
  have a0 : nxs (1 * x.bytes.length) (k) = k + ((1 * x.bytes.length : Nat) : Int) := nxs_small (by omega) _ (by omega)
  simp only [held_all, a0]
  repeat rw [if_neg (by omega)]
theorem TCells.adv_nn (x : TCells) (h : TCells.cnt x ≤ 1000000000000) : ¬ TCells.adv 1 x < 0 := by rw [TCells.adv_eq (by omega) x (by omega)]; omega
theorem TCells.held_one (x : TCells) (h : TCells.cnt x ≤ 1000000000000) : TCells.held 1 (TCells.mkd 1 x) = TCells.adv 1 x := TCells.held_mkd (by omega) x (by omega)
@[go_sem] theorem TCells.mkd_len_bytes (k : Int) (x : TCells) : (TCells.mkd k x).bytes.length = x.bytes.length := by simp only [TCells.mkd, mkL_len_self]
@[go_sem] theorem TCells.mkd_take_bytes (k : Int) (x : TCells) : ((TCells.mkd k x).bytes.map eI).take x.bytes.length = (TCells.mkd k x).bytes.map eI := List.take_of_length_le (by simp [TCells.mkd_len_bytes])
@[go_sem] theorem TCells.mkd_Read (k : Int) (x : TCells) : (TCells.mkd k x).read = x.read := rfl
set_option maxRecDepth 100000 in
theorem laws_markCells (x : TCells) (k : Int) : MutCall Try.prog 34 [.agg [.sl 1 (x.bytes.map eI), .int .i64 x.read], .one (.int .i64 k)] [.agg [.sl 1 ((TCells.mkd k x).bytes.map eI), .int .i64 (TCells.mkd k x).read], .one (.int .i64 k)] [.one (.int .i64 (TCells.adv k x))] := by
  refine mut_ev Try.func34 rfl Try.call34 Try.checked.mixed [.agg [.sl 0 0 (x.bytes.map eI).length, .d (.int .i64 x.read)], .d (.int .i64 k), .junk, .junk, .junk, .junk, .junk, .junk, .junk, .junk] [.arr 1 (x.bytes.map eI) true] [.agg [.sl 0 0 (x.bytes.map eI).length, .d (.int .i64 x.read)], .d (.int .i64 k)] rfl rfl rfl [.tmp 4] rfl ?_
  intro _
  have hl0 := fun k => mkL_len (id : Int → Int) 1 k x.bytes x.bytes.length (Nat.le_refl _)
  have ht0 : ∀ k, ((mkL (id : Int → Int) 1 k x.bytes x.bytes.length).map eI).take x.bytes.length = (mkL (id : Int → Int) 1 k x.bytes x.bytes.length).map eI := fun k => List.take_of_length_le (by simp [hl0])
  unfold TCells.mkd TCells.adv
  simp only [go_sem, List.length_map]
  refine CallS.mu (laws_markIntS _ _) ?_
  simp only [go_sem, List.length_map, hl0, ht0]
  try (refine And.intro (by simp) ?_; simp only [go_sem, List.length_map, hl0, ht0])
  simp [outOA]
set_option maxRecDepth 100000 in
theorem laws_heldIntS (xs : List Int) (k : Int) : PureCall Try.prog 104 [.one (.sl 1 (xs.map eI)), .one (.int .i64 k)] [.one (.int .i64 (heldL (id : Int → Int) 1 k xs))] := by
  refine pure_ev Try.func104 rfl Try.call104 Try.checked.mixed [.d (.sl 1 (xs.map eI)), .d (.int .i64 k), .junk, .junk, .junk, .junk, .junk, .junk, .junk, .junk, .junk, .junk, .junk, .junk, .junk, .junk, .junk, .junk, .junk, .junk, .junk] rfl [.tmp 4] rfl ?_
  intro ok
  have hm := len_of ok
  simp only [go_sem]
  refine LoopK.intro (fun i : Nat => ⟨[.d (.sl 1 (xs.map eI)), .d (.int .i64 (nxs (1 * i) k)), .junk, .junk, .d (.int .i64 0), .d (.int .i64 i), .junk, .junk, .junk, .junk, .junk, .junk, .junk, .junk, .junk, .junk, .junk, .junk, .junk, .junk, .junk], []⟩)
      (fun i => xs.length - i) (fun i => i ≤ xs.length ∧ heldL (id : Int → Int) 1 k xs = heldL (id : Int → Int) 1 (nxs (1 * i) k) (xs.drop i)) 0 [] ⟨by omega, by simp [nxs]⟩ ?_ ?_
  · simp only [go_sem]; simp [nxs]
  · rintro i ⟨hi, he⟩
    simp only [go_sem, List.length_map]
    refine cSplit (fun h1 => ?_) (fun h1 => ?_)
    · simp only [decide_eq_true_eq] at h1
      have hlt : i < xs.length := by omega
      have hxi := map_at eI xs i hlt
      have hw := inc hlt hm
      have hn : nxs (1 * (i + 1)) k = nx (nxs (1 * i) k) := rfl
      have hn2 : nxs 1 (nxs (1 * i) k) = nxs (1 * (i + 1)) k := rfl
      have hb2 : ((i : Nat) : Int) < (xs.length : Int) := h1
      rw [heldL_step (id : Int → Int) 1 _ xs i hlt, hn2] at he
      rw [he]
      clear he
      simp only [id]
      generalize hz : nxs (1 * i) k = z at *
      obtain hxe : ∃ q, xs[i] = q := ⟨_, rfl⟩
      obtain ⟨q, hxe⟩ := hxe
      try simp only [hxe, eI] at hxi
      try simp only [hxe]
      try simp only [go_sem, List.length_map, Int.toNat_natCast, hxi]
      repeat' (first
        | (with_reducible refine gTrueS ?_; simp only [go_sem, List.length_map, Int.toNat_natCast, hxi, hw]) | (with_reducible refine gFalseS ?_; simp only [go_sem, List.length_map, Int.toNat_natCast, hxi, hw]) | (with_reducible refine gTrue ?_; simp only [go_sem, List.length_map, Int.toNat_natCast, hxi, hw]) | (with_reducible refine gFalse ?_; simp only [go_sem, List.length_map, Int.toNat_natCast, hxi, hw])
        | (refine gSymS ?_; simp only [go_sem, List.length_map, Int.toNat_natCast, hxi, hw]) | (refine gSym ?_; simp only [go_sem, List.length_map, Int.toNat_natCast, hxi, hw])
        | (refine cSplit (fun h => ?_) (fun h => ?_) <;> simp only [go_sem, hw])
        | (with_reducible refine And.intro ?_ ?_; (focus (first | omega | (exact ⟨by omega, by omega⟩) | (simp; done) | (simp; omega)))))
      all_goals first
        | (refine RoundE.intro (i + 1) [] ⟨by omega, ?_⟩ (by omega) ?_
           · simp_all [nx]
           · simp only [go_sem]; simp_all [nx])
        | (simp_all [nx]; done)
    · simp only [go_sem]
      simp only [decide_eq_false_iff_not] at h1
      rw [List.drop_eq_nil_of_le (by omega), heldL] at he
      simp [he]
set_option maxRecDepth 100000 in
theorem laws_heldCells (x : TCells) (k : Int) : PureCall Try.prog 43 [.agg [.sl 1 (x.bytes.map eI), .int .i64 x.read], .one (.int .i64 k)] [.one (.int .i64 (TCells.held k x))] := by
  refine pure_ev Try.func43 rfl Try.call43 Try.checked.mixed [.agg [.d (.sl 1 (x.bytes.map eI)), .d (.int .i64 x.read)], .d (.int .i64 k), .junk, .junk, .junk, .junk, .junk, .junk, .junk, .junk, .junk, .junk] rfl [.tmp 4] rfl ?_
  intro _
  unfold TCells.held
  try simp only [go_sem]
  repeat' (first
    | (refine CallS.intro (by first | (apply laws_heldIntS <;> first | assumption | omega)) ?_; simp only [go_sem])
    | (refine CallK.intro (by first | (apply laws_heldIntS <;> first | assumption | omega)) ?_; simp only [go_sem, List.length_map])
    | (with_reducible refine gTrueS ?_; simp only [go_sem, List.length_map]) | (with_reducible refine gFalseS ?_; simp only [go_sem, List.length_map]) | (with_reducible refine gTrue ?_; simp only [go_sem, List.length_map]) | (with_reducible refine gFalse ?_; simp only [go_sem, List.length_map])
    | (refine gSymS ?_; simp only [go_sem, List.length_map]) | (refine gSym ?_; simp only [go_sem, List.length_map])
    | (refine cSplit (fun h => ?_) (fun h => ?_) <;> simp only [go_sem])
    | (with_reducible refine And.intro ?_ ?_; (focus (first | omega | (exact ⟨by omega, by omega⟩) | (simp; done) | (simp; omega)))))
  all_goals first | (simp_all; done) | (simp_all; omega)
end Gv
