/-
  Buffers: taking bytes.
-/
import Derived.Test.YtiaaipckeinbiaaBufFn
namespace Gv
open Go Go.Proofs

def tkN (n : Int) (xs : List TChunk) (most : Int) : Nat := min (readB n xs) most.toNat
def tkD (xs : List TChunk) : List UInt8 := (xs.getD 0 ⟨0, []⟩).data
def tkS (n : Int) (xs : List TChunk) (most : Int) : List UInt8 := (tkD xs).take (tkN n xs most)
def tkX (n : Int) (xs : List TChunk) (most : Int) : List TChunk :=
  if tkN n xs most = 0 then xs else if tkN n xs most = (tkD xs).length then xs.drop 1 else ⟨n + tkN n xs most, (tkD xs).drop (tkN n xs most)⟩ :: xs.drop 1
theorem readB_pos {n : Int} {xs : List TChunk} (h : readB n xs ≠ 0) : isBuf ⟨n, xs⟩ = true ∧ ∃ hl : 0 < xs.length, xs[0].offset = n ∧ readB n xs = xs[0].data.length ∧ tkD xs = xs[0].data := by
  unfold readB at h ⊢
  by_cases hI : isBuf ⟨n, xs⟩ = true
  · rw [if_pos hI] at h ⊢
    cases xs with
    | nil => exact absurd rfl h
    | cons c cs =>
      simp only [readyB] at h ⊢
      by_cases hc : c.offset = n
      · rw [if_pos hc]; exact ⟨hI, by simp, hc, rfl, rfl⟩
      · rw [if_neg hc] at h; exact absurd rfl h
  · rw [if_neg hI] at h; exact absurd rfl h
theorem isBuf_n {n : Int} {xs : List TChunk} (h : isBuf ⟨n, xs⟩ = true) : 0 ≤ n ∧ n ≤ 4611686018427387903 ∧ chk n xs = true := by
  simp only [isBuf, Bool.and_eq_true, inB, decide_eq_true_eq] at h; exact ⟨h.1.1, h.1.2, h.2⟩
theorem tl_cons {α β : Type} (f : α → β) (xs : List α) (y : β) (h : 0 < xs.length) : (xs.map f).set 0 y = y :: (xs.drop 1).map f := by
  cases xs with
  | nil => simp at h
  | cons x xs => rfl

set_option maxRecDepth 100000 in
theorem impl_TakeBytes_raw (n : Int) (xs : List TChunk) (most : Int) (hb : ∀ c ∈ xs, c.data.length ≤ 1048576) (hx : xs.length ≤ 1048576) : PureCall Try.prog 9 [.agg [.int .i64 n, .sl 2 (xs.map TChunk.enc)], .one (.int .i64 most)] [.one (.str (tkS n xs most)), .agg [.int .i64 (n + tkN n xs most), .sl 2 ((tkX n xs most).map TChunk.enc)]] := by
  refine pure_ev Try.func9 rfl Try.call9 Try.checked.mixed [.agg [.d (.int .i64 n), .d (.sl 2 (xs.map TChunk.enc))], .d (.int .i64 most), .junk, .junk, .junk, .junk, .junk, .junk, .junk, .junk, .junk, .junk, .junk, .junk, .junk, .junk, .junk, .junk, .junk, .junk, .junk, .junk, .junk, .junk, .junk, .junk, .junk, .junk, .junk, .junk, .junk, .junk, .junk, .junk, .junk, .junk, .junk, .junk, .junk, .junk, .junk, .junk, .junk, .junk, .junk, .junk, .junk, .junk, .junk, .junk, .junk, .junk, .junk, .junk, .junk, .junk, .junk] rfl [.tmp 4, .cell 5 26] rfl ?_
  intro ok
  have hx1 : xs.length ≤ 1048577 := by omega
  cases hk : tkN n xs most with
  | zero =>
    have hm : decide ((if (readB n xs : Int) < most then (readB n xs : Int) else most) ≤ 0) = true := by
      refine decide_eq_true ?_
      unfold tkN at hk
      split <;> omega
    try simp only [go_sem]
    repeat' (first
      | (refine CallS.intro (by first | assumption | (apply impl_copyBuffer <;> first | assumption | omega) | (apply impl_ReadyBytes <;> first | assumption | omega)) ?_; simp only [go_sem, List.length_map, hm])
      | (refine CallK.intro (by first | assumption | (apply impl_copyBuffer <;> first | assumption | omega) | (apply impl_ReadyBytes <;> first | assumption | omega)) ?_; simp only [go_sem, List.length_map, hm])
      | (with_reducible refine gTrueS ?_; simp only [go_sem, List.length_map, hm]) | (with_reducible refine gFalseS ?_; simp only [go_sem, List.length_map, hm]) | (with_reducible refine gTrue ?_; simp only [go_sem, List.length_map, hm]) | (with_reducible refine gFalse ?_; simp only [go_sem, List.length_map, hm])
      | (refine gSymS ?_; simp only [go_sem, List.length_map, hm]) | (refine gSym ?_; simp only [go_sem, List.length_map, hm])
      | (refine drawE_intro [[.post, .post, .un, .un, .post, .post, .un, .post, .post], [.pre, .post, .un, .un, .post, .post, .un, .post, .post], [.un, .un, .post, .un, .un, .post, .un, .un, .post], [.un, .un, .un, .post, .post, .post, .un, .post, .post], [.pre, .pre, .un, .pre, .post, .post, .un, .post, .post], [.pre, .pre, .pre, .pre, .pre, .post, .un, .un, .post], [.un, .un, .un, .un, .un, .un, .post, .post, .post], [.pre, .pre, .un, .pre, .pre, .un, .pre, .post, .post], [.pre, .pre, .pre, .pre, .pre, .pre, .pre, .pre, .post]] (by kernel_rfl) (by rfl) ?_; simp only [go_sem])
      | (refine drawE_intro [[.post, .un, .post], [.un, .post, .post], [.pre, .pre, .post]] (by kernel_rfl) (by rfl) ?_; simp only [go_sem, List.length_map])
      | (refine drawE_intro [[.post, .post, .un, .un, .un, .un, .un, .un, .un, .un, .un, .un, .post, .post], [.pre, .post, .un, .un, .un, .un, .un, .un, .un, .un, .un, .un, .post, .post], [.un, .un, .post, .post, .un, .un, .un, .un, .un, .un, .un, .post, .post, .post], [.un, .un, .pre, .post, .un, .un, .un, .un, .un, .un, .un, .post, .post, .post], [.un, .un, .un, .un, .post, .post, .post, .post, .post, .un, .post, .post, .post, .post], [.un, .un, .un, .un, .pre, .post, .post, .post, .post, .un, .post, .post, .post, .post], [.un, .un, .un, .un, .pre, .pre, .post, .post, .post, .un, .post, .post, .post, .post], [.un, .un, .un, .un, .pre, .pre, .pre, .post, .post, .un, .post, .post, .post, .post], [.un, .un, .un, .un, .pre, .pre, .pre, .pre, .post, .un, .post, .post, .post, .post], [.un, .un, .un, .un, .un, .un, .un, .un, .un, .post, .post, .post, .post, .post], [.un, .un, .un, .un, .pre, .pre, .pre, .pre, .pre, .pre, .post, .post, .post, .post], [.un, .un, .pre, .pre, .pre, .pre, .pre, .pre, .pre, .pre, .pre, .post, .post, .post], [.pre, .pre, .pre, .pre, .pre, .pre, .pre, .pre, .pre, .pre, .pre, .pre, .post, .post], [.pre, .pre, .pre, .pre, .pre, .pre, .pre, .pre, .pre, .pre, .pre, .pre, .pre, .post]] (by kernel_rfl) (by rfl) ?_; simp only [go_sem, List.length_map, hm])
      | (refine drawE_intro [[.post, .un, .post, .post], [.un, .post, .un, .post], [.pre, .un, .post, .post], [.pre, .pre, .pre, .post]] (by kernel_rfl) (by rfl) ?_; simp only [go_sem, List.length_map, hm])
      | (refine cSplit (fun h => ?_) (fun h => ?_) <;> simp only [go_sem, List.length_map, hm])
      | (with_reducible refine And.intro ?_ ?_; (focus (first | omega | (exact ⟨by omega, by omega⟩) | (simp; done) | (simp; omega)))))
    all_goals simp [tkS, tkX, hk]
  | succ k =>
    have hr : readB n xs ≠ 0 := by unfold tkN at hk; omega
    obtain ⟨hI, hlt, ho, hrl, htd⟩ := readB_pos hr
    obtain ⟨hn0, hn1, hc⟩ := isBuf_n hI
    have hm : (if (readB n xs : Int) < most then (readB n xs : Int) else most) = ((k + 1 : Nat) : Int) := by
      unfold tkN at hk
      split <;> omega
    have hm0 : decide (((k + 1 : Nat) : Int) ≤ 0) = false := decide_eq_false (by omega)
    have hxi := map_at TChunk.enc xs 0 hlt
    have hdl := hb xs[0] (List.getElem_mem hlt)
    have hkl : k + 1 ≤ xs[0].data.length := by unfold tkN at hk; omega
    have hcm := chk_mem xs n hc xs[0] (List.getElem_mem hlt)
    have hw : IntKind.i64.wrap (n + ((k + 1 : Nat) : Int)) = n + ((k + 1 : Nat) : Int) := by rw [w64] <;> omega
    have hsl : xs[0].data.take (k + 1) = tkS n xs most := by unfold tkS; rw [htd, hk]
    by_cases hq : k + 1 = xs[0].data.length
    · have e1 : decide (((k + 1 : Nat) : Int) = (xs[0].data.length : Int)) = true := decide_eq_true (by omega)
      have hX : tkX n xs most = xs.drop 1 := by unfold tkX; rw [hk, htd, if_neg (by omega), if_pos hq]
      try simp only [go_sem]
      repeat' (first
        | (refine CallS.intro (by first | assumption | (apply impl_copyBuffer <;> first | assumption | omega) | (apply impl_ReadyBytes <;> first | assumption | omega)) ?_; simp only [go_sem, List.length_map, hm, hm0, hxi, TChunk.enc, Int.toNat_zero, Int.toNat_natCast, hw, e1])
        | (refine CallK.intro (by first | assumption | (apply impl_copyBuffer <;> first | assumption | omega) | (apply impl_ReadyBytes <;> first | assumption | omega)) ?_; simp only [go_sem, List.length_map, hm, hm0, hxi, TChunk.enc, Int.toNat_zero, Int.toNat_natCast, hw, e1])
        | (with_reducible refine gTrueS ?_; simp only [go_sem, List.length_map, hm, hm0, hxi, TChunk.enc, Int.toNat_zero, Int.toNat_natCast, hw, e1]) | (with_reducible refine gFalseS ?_; simp only [go_sem, List.length_map, hm, hm0, hxi, TChunk.enc, Int.toNat_zero, Int.toNat_natCast, hw, e1]) | (with_reducible refine gTrue ?_; simp only [go_sem, List.length_map, hm, hm0, hxi, TChunk.enc, Int.toNat_zero, Int.toNat_natCast, hw, e1]) | (with_reducible refine gFalse ?_; simp only [go_sem, List.length_map, hm, hm0, hxi, TChunk.enc, Int.toNat_zero, Int.toNat_natCast, hw, e1])
        | (refine gSymS ?_; simp only [go_sem, List.length_map, hm, hm0, hxi, TChunk.enc, Int.toNat_zero, Int.toNat_natCast, hw, e1]) | (refine gSym ?_; simp only [go_sem, List.length_map, hm, hm0, hxi, TChunk.enc, Int.toNat_zero, Int.toNat_natCast, hw, e1])
        | (refine drawE_intro [[.post, .post, .un, .un, .post, .post, .un, .post, .post], [.pre, .post, .un, .un, .post, .post, .un, .post, .post], [.un, .un, .post, .un, .un, .post, .un, .un, .post], [.un, .un, .un, .post, .post, .post, .un, .post, .post], [.pre, .pre, .un, .pre, .post, .post, .un, .post, .post], [.pre, .pre, .pre, .pre, .pre, .post, .un, .un, .post], [.un, .un, .un, .un, .un, .un, .post, .post, .post], [.pre, .pre, .un, .pre, .pre, .un, .pre, .post, .post], [.pre, .pre, .pre, .pre, .pre, .pre, .pre, .pre, .post]] (by kernel_rfl) (by rfl) ?_; simp only [go_sem])
        | (refine drawE_intro [[.post, .un, .post], [.un, .post, .post], [.pre, .pre, .post]] (by kernel_rfl) (by rfl) ?_; simp only [go_sem, List.length_map, hm, hm0, hxi, TChunk.enc, Int.toNat_zero, Int.toNat_natCast, hw, e1])
        | (refine drawE_intro [[.post, .post, .un, .un, .un, .un, .un, .un, .un, .un, .un, .un, .post, .post], [.pre, .post, .un, .un, .un, .un, .un, .un, .un, .un, .un, .un, .post, .post], [.un, .un, .post, .post, .un, .un, .un, .un, .un, .un, .un, .post, .post, .post], [.un, .un, .pre, .post, .un, .un, .un, .un, .un, .un, .un, .post, .post, .post], [.un, .un, .un, .un, .post, .post, .post, .post, .post, .un, .post, .post, .post, .post], [.un, .un, .un, .un, .pre, .post, .post, .post, .post, .un, .post, .post, .post, .post], [.un, .un, .un, .un, .pre, .pre, .post, .post, .post, .un, .post, .post, .post, .post], [.un, .un, .un, .un, .pre, .pre, .pre, .post, .post, .un, .post, .post, .post, .post], [.un, .un, .un, .un, .pre, .pre, .pre, .pre, .post, .un, .post, .post, .post, .post], [.un, .un, .un, .un, .un, .un, .un, .un, .un, .post, .post, .post, .post, .post], [.un, .un, .un, .un, .pre, .pre, .pre, .pre, .pre, .pre, .post, .post, .post, .post], [.un, .un, .pre, .pre, .pre, .pre, .pre, .pre, .pre, .pre, .pre, .post, .post, .post], [.pre, .pre, .pre, .pre, .pre, .pre, .pre, .pre, .pre, .pre, .pre, .pre, .post, .post], [.pre, .pre, .pre, .pre, .pre, .pre, .pre, .pre, .pre, .pre, .pre, .pre, .pre, .post]] (by kernel_rfl) (by rfl) ?_; simp only [go_sem, List.length_map, hm, hm0, hxi, TChunk.enc, Int.toNat_zero, Int.toNat_natCast, hw, e1])
        | (refine drawE_intro [[.post, .un, .post, .post], [.un, .post, .un, .post], [.pre, .un, .post, .post], [.pre, .pre, .pre, .post]] (by kernel_rfl) (by rfl) ?_; simp only [go_sem, List.length_map])
        | (refine cSplit (fun h => ?_) (fun h => ?_) <;> simp only [go_sem, List.length_map, hm, hm0, hxi, TChunk.enc, Int.toNat_zero, Int.toNat_natCast, hw, e1])
        | (with_reducible refine And.intro ?_ ?_; (focus (first | omega | (exact ⟨by omega, by omega⟩) | (simp; done) | (simp; omega)))))
      all_goals (
        have hle : 1 + (xs.length - 1) ≤ xs.length := by omega
        have ht : List.take (xs.length - 1) (List.drop 1 (List.map TChunk.enc xs)) = (xs.drop 1).map TChunk.enc := by
          rw [List.take_of_length_le (by simp), List.map_drop]
        rw [if_pos hle, ht, Nat.sub_zero, hsl, hX]; simp [outOA])
    · have e1 : decide (((k + 1 : Nat) : Int) = (xs[0].data.length : Int)) = false := decide_eq_false (by omega)
      have hX : tkX n xs most = ⟨n + ((k + 1 : Nat) : Int), xs[0].data.drop (k + 1)⟩ :: xs.drop 1 := by unfold tkX; rw [hk, htd, if_neg (by omega), if_neg hq]
      try simp only [go_sem]
      repeat' (first
        | (refine CallS.intro (by first | assumption | (apply impl_copyBuffer <;> first | assumption | omega) | (apply impl_ReadyBytes <;> first | assumption | omega)) ?_; simp only [go_sem, List.length_map, hm, hm0, hxi, TChunk.enc, Int.toNat_zero, Int.toNat_natCast, hw, e1])
        | (refine CallK.intro (by first | assumption | (apply impl_copyBuffer <;> first | assumption | omega) | (apply impl_ReadyBytes <;> first | assumption | omega)) ?_; simp only [go_sem, List.length_map, hm, hm0, hxi, TChunk.enc, Int.toNat_zero, Int.toNat_natCast, hw, e1])
        | (with_reducible refine gTrueS ?_; simp only [go_sem, List.length_map, hm, hm0, hxi, TChunk.enc, Int.toNat_zero, Int.toNat_natCast, hw, e1]) | (with_reducible refine gFalseS ?_; simp only [go_sem, List.length_map, hm, hm0, hxi, TChunk.enc, Int.toNat_zero, Int.toNat_natCast, hw, e1]) | (with_reducible refine gTrue ?_; simp only [go_sem, List.length_map, hm, hm0, hxi, TChunk.enc, Int.toNat_zero, Int.toNat_natCast, hw, e1]) | (with_reducible refine gFalse ?_; simp only [go_sem, List.length_map, hm, hm0, hxi, TChunk.enc, Int.toNat_zero, Int.toNat_natCast, hw, e1])
        | (refine gSymS ?_; simp only [go_sem, List.length_map, hm, hm0, hxi, TChunk.enc, Int.toNat_zero, Int.toNat_natCast, hw, e1]) | (refine gSym ?_; simp only [go_sem, List.length_map, hm, hm0, hxi, TChunk.enc, Int.toNat_zero, Int.toNat_natCast, hw, e1])
        | (refine drawE_intro [[.post, .post, .un, .un, .post, .post, .un, .post, .post], [.pre, .post, .un, .un, .post, .post, .un, .post, .post], [.un, .un, .post, .un, .un, .post, .un, .un, .post], [.un, .un, .un, .post, .post, .post, .un, .post, .post], [.pre, .pre, .un, .pre, .post, .post, .un, .post, .post], [.pre, .pre, .pre, .pre, .pre, .post, .un, .un, .post], [.un, .un, .un, .un, .un, .un, .post, .post, .post], [.pre, .pre, .un, .pre, .pre, .un, .pre, .post, .post], [.pre, .pre, .pre, .pre, .pre, .pre, .pre, .pre, .post]] (by kernel_rfl) (by rfl) ?_; simp only [go_sem])
        | (refine drawE_intro [[.post, .un, .post], [.un, .post, .post], [.pre, .pre, .post]] (by kernel_rfl) (by rfl) ?_; simp only [go_sem, List.length_map, hm, hm0, hxi, TChunk.enc, Int.toNat_zero, Int.toNat_natCast, hw, e1])
        | (refine drawE_intro [[.post, .post, .un, .un, .un, .un, .un, .un, .un, .un, .un, .un, .post, .post], [.pre, .post, .un, .un, .un, .un, .un, .un, .un, .un, .un, .un, .post, .post], [.un, .un, .post, .post, .un, .un, .un, .un, .un, .un, .un, .post, .post, .post], [.un, .un, .pre, .post, .un, .un, .un, .un, .un, .un, .un, .post, .post, .post], [.un, .un, .un, .un, .post, .post, .post, .post, .post, .un, .post, .post, .post, .post], [.un, .un, .un, .un, .pre, .post, .post, .post, .post, .un, .post, .post, .post, .post], [.un, .un, .un, .un, .pre, .pre, .post, .post, .post, .un, .post, .post, .post, .post], [.un, .un, .un, .un, .pre, .pre, .pre, .post, .post, .un, .post, .post, .post, .post], [.un, .un, .un, .un, .pre, .pre, .pre, .pre, .post, .un, .post, .post, .post, .post], [.un, .un, .un, .un, .un, .un, .un, .un, .un, .post, .post, .post, .post, .post], [.un, .un, .un, .un, .pre, .pre, .pre, .pre, .pre, .pre, .post, .post, .post, .post], [.un, .un, .pre, .pre, .pre, .pre, .pre, .pre, .pre, .pre, .pre, .post, .post, .post], [.pre, .pre, .pre, .pre, .pre, .pre, .pre, .pre, .pre, .pre, .pre, .pre, .post, .post], [.pre, .pre, .pre, .pre, .pre, .pre, .pre, .pre, .pre, .pre, .pre, .pre, .pre, .post]] (by kernel_rfl) (by rfl) ?_; simp only [go_sem, List.length_map, hxi, TChunk.enc, Int.toNat_zero, Int.toNat_natCast])
        | (refine drawE_intro [[.post, .un, .post, .post], [.un, .post, .un, .post], [.pre, .un, .post, .post], [.pre, .pre, .pre, .post]] (by kernel_rfl) (by rfl) ?_; simp only [go_sem])
        | (refine cSplit (fun h => ?_) (fun h => ?_) <;> simp only [go_sem, List.length_map, hm, hm0, hxi, TChunk.enc, Int.toNat_zero, Int.toNat_natCast, hw, e1])
        | (with_reducible refine And.intro ?_ ?_; (focus (first | omega | (exact ⟨by omega, by omega⟩) | (simp; done) | (simp; omega)))))
      all_goals (
        have ht1 : List.take (xs[0].data.length - (k + 1)) (List.drop (k + 1) xs[0].data) = List.drop (k + 1) xs[0].data := List.take_of_length_le (by simp)
        rw [ht1, tl_cons TChunk.enc xs _ hlt]
        have hln : xs.length = (([D.int .i64 (n + ((k + 1 : Nat) : Int)), D.str (List.drop (k + 1) xs[0].data)] : List D) :: (xs.drop 1).map TChunk.enc).length := by simp; omega
        rw [if_pos (Nat.le_of_eq hln), List.take_of_length_le (Nat.le_of_eq hln.symm), Nat.sub_zero, hsl, hX]; simp [outOA, TChunk.enc])
set_option maxRecDepth 100000 in
theorem spec_TakeBytes_raw (n : Int) (xs : List TChunk) (most : Int) (hb : ∀ c ∈ xs, c.data.length ≤ 1048576) (hx : xs.length ≤ 1048576) : PureCall Try.prog 63 [.agg [.int .i64 n, .sl 2 (xs.map TChunk.enc)], .one (.int .i64 most)] [.one (.str (tkS n xs most)), .agg [.int .i64 (n + tkN n xs most), .sl 2 ((tkX n xs most).map TChunk.enc)]] := by
  refine pure_ev Try.func63 rfl Try.call63 Try.checked.mixed [.agg [.d (.int .i64 n), .d (.sl 2 (xs.map TChunk.enc))], .d (.int .i64 most), .junk, .junk, .junk, .junk, .junk, .junk, .junk, .junk, .junk, .junk, .junk, .junk, .junk, .junk, .junk, .junk, .junk, .junk, .junk, .junk, .junk, .junk, .junk, .junk, .junk, .junk, .junk, .junk, .junk, .junk, .junk, .junk, .junk, .junk, .junk, .junk, .junk, .junk, .junk, .junk, .junk, .junk, .junk, .junk, .junk, .junk, .junk, .junk, .junk, .junk, .junk] rfl [.tmp 4, .cell 5 26] rfl ?_
  intro ok
  have hx1 : xs.length ≤ 1048577 := by omega
  cases hk : tkN n xs most with
  | zero =>
    have hm : (if (if most < 0 then 0 else most) < (readB n xs : Int) then (if most < 0 then 0 else most) else (readB n xs : Int)) = 0 := by
      unfold tkN at hk
      split <;> split <;> omega
    try simp only [go_sem]
    repeat' (first
      | (refine CallS.intro (by first | assumption | (apply spec_ReadyBytes <;> first | assumption | omega) | (apply spec_l6Copy <;> first | assumption | omega)) ?_; simp only [go_sem, List.length_map, hm])
      | (refine CallK.intro (by first | assumption | (apply spec_ReadyBytes <;> first | assumption | omega) | (apply spec_l6Copy <;> first | assumption | omega)) ?_; simp only [go_sem, List.length_map, hm])
      | (with_reducible refine gTrueS ?_; simp only [go_sem, List.length_map, hm]) | (with_reducible refine gFalseS ?_; simp only [go_sem, List.length_map, hm]) | (with_reducible refine gTrue ?_; simp only [go_sem, List.length_map, hm]) | (with_reducible refine gFalse ?_; simp only [go_sem, List.length_map, hm])
      | (refine gSymS ?_; simp only [go_sem, List.length_map, hm]) | (refine gSym ?_; simp only [go_sem, List.length_map, hm])
      | (refine drawE_intro [[.post, .un, .post], [.un, .post, .post], [.pre, .pre, .post]] (by kernel_rfl) (by rfl) ?_; simp only [go_sem, List.length_map])
      | (refine drawE_intro [[.post, .post, .un, .un, .un, .un, .un, .un, .post, .post], [.pre, .post, .un, .un, .un, .un, .un, .un, .post, .post], [.un, .un, .post, .post, .un, .un, .un, .post, .post, .post], [.un, .un, .pre, .post, .un, .un, .un, .post, .post, .post], [.un, .un, .un, .un, .post, .un, .post, .post, .post, .post], [.un, .un, .un, .un, .un, .post, .post, .post, .post, .post], [.un, .un, .un, .un, .pre, .pre, .post, .post, .post, .post], [.un, .un, .pre, .pre, .pre, .pre, .pre, .post, .post, .post], [.pre, .pre, .pre, .pre, .pre, .pre, .pre, .pre, .post, .post], [.pre, .pre, .pre, .pre, .pre, .pre, .pre, .pre, .pre, .post]] (by kernel_rfl) (by rfl) ?_; simp only [go_sem, List.length_map, hm])
      | (refine drawE_intro [[.post, .un, .post, .un, .post, .post], [.un, .post, .post, .un, .post, .post], [.pre, .pre, .post, .un, .post, .post], [.un, .un, .un, .post, .un, .post], [.pre, .pre, .pre, .un, .post, .post], [.pre, .pre, .pre, .pre, .pre, .post]] (by kernel_rfl) (by rfl) ?_; simp only [go_sem, List.length_map, hm])
      | (refine cSplit (fun h => ?_) (fun h => ?_) <;> simp only [go_sem, List.length_map, hm])
      | (with_reducible refine And.intro ?_ ?_; (focus (first | omega | (exact ⟨by omega, by omega⟩) | (simp; done) | (simp; omega)))))
    all_goals simp [tkS, tkX, hk]
  | succ k =>
    have hr : readB n xs ≠ 0 := by unfold tkN at hk; omega
    obtain ⟨hI, hlt, ho, hrl, htd⟩ := readB_pos hr
    obtain ⟨hn0, hn1, hc⟩ := isBuf_n hI
    have hm : (if (if most < 0 then 0 else most) < (readB n xs : Int) then (if most < 0 then 0 else most) else (readB n xs : Int)) = ((k + 1 : Nat) : Int) := by
      unfold tkN at hk
      split <;> split <;> omega
    have hm0 : decide (((k + 1 : Nat) : Int) = 0) = false := decide_eq_false (by omega)
    have hxi := map_at TChunk.enc xs 0 hlt
    have hdl := hb xs[0] (List.getElem_mem hlt)
    have hkl : k + 1 ≤ xs[0].data.length := by unfold tkN at hk; omega
    have hcm := chk_mem xs n hc xs[0] (List.getElem_mem hlt)
    have hw : IntKind.i64.wrap (n + ((k + 1 : Nat) : Int)) = n + ((k + 1 : Nat) : Int) := by rw [w64] <;> omega
    have hsl : xs[0].data.take (k + 1) = tkS n xs most := by unfold tkS; rw [htd, hk]
    by_cases hq : k + 1 = xs[0].data.length
    · have e1 : decide (((k + 1 : Nat) : Int) = (xs[0].data.length : Int)) = true := decide_eq_true (by omega)
      have hX : tkX n xs most = xs.drop 1 := by unfold tkX; rw [hk, htd, if_neg (by omega), if_pos hq]
      try simp only [go_sem]
      repeat' (first
        | (refine CallS.intro (by first | assumption | (apply spec_ReadyBytes <;> first | assumption | omega) | (apply spec_l6Copy <;> first | assumption | omega)) ?_; simp only [go_sem, List.length_map, hm, hm0, hxi, TChunk.enc, Int.toNat_zero, hw, e1])
        | (refine CallK.intro (by first | assumption | (apply spec_ReadyBytes <;> first | assumption | omega) | (apply spec_l6Copy <;> first | assumption | omega)) ?_; simp only [go_sem, List.length_map, hm, hm0, hxi, TChunk.enc, Int.toNat_zero, Int.toNat_natCast, hw, e1])
        | (with_reducible refine gTrueS ?_; simp only [go_sem, List.length_map, hm, hm0, hxi, TChunk.enc, Int.toNat_zero, Int.toNat_natCast, hw, e1]) | (with_reducible refine gFalseS ?_; simp only [go_sem, List.length_map, hm, hm0, hxi, TChunk.enc, Int.toNat_zero, Int.toNat_natCast, hw, e1]) | (with_reducible refine gTrue ?_; simp only [go_sem, List.length_map, hm, hm0, hxi, TChunk.enc, Int.toNat_zero, Int.toNat_natCast, hw, e1]) | (with_reducible refine gFalse ?_; simp only [go_sem, List.length_map, hm, hm0, hxi, TChunk.enc, Int.toNat_zero, Int.toNat_natCast, hw, e1])
        | (refine gSymS ?_; simp only [go_sem, List.length_map, hm, hm0, hxi, TChunk.enc, Int.toNat_zero, Int.toNat_natCast, hw, e1]) | (refine gSym ?_; simp only [go_sem, List.length_map, hm, hm0, hxi, TChunk.enc, Int.toNat_zero, Int.toNat_natCast, hw, e1])
        | (refine drawE_intro [[.post, .un, .post], [.un, .post, .post], [.pre, .pre, .post]] (by kernel_rfl) (by rfl) ?_; simp only [go_sem, List.length_map, hm, hm0, hxi, TChunk.enc, Int.toNat_zero, Int.toNat_natCast, hw, e1])
        | (refine drawE_intro [[.post, .post, .un, .un, .un, .un, .un, .un, .post, .post], [.pre, .post, .un, .un, .un, .un, .un, .un, .post, .post], [.un, .un, .post, .post, .un, .un, .un, .post, .post, .post], [.un, .un, .pre, .post, .un, .un, .un, .post, .post, .post], [.un, .un, .un, .un, .post, .un, .post, .post, .post, .post], [.un, .un, .un, .un, .un, .post, .post, .post, .post, .post], [.un, .un, .un, .un, .pre, .pre, .post, .post, .post, .post], [.un, .un, .pre, .pre, .pre, .pre, .pre, .post, .post, .post], [.pre, .pre, .pre, .pre, .pre, .pre, .pre, .pre, .post, .post], [.pre, .pre, .pre, .pre, .pre, .pre, .pre, .pre, .pre, .post]] (by kernel_rfl) (by rfl) ?_; simp only [go_sem, List.length_map, hm, hm0, hxi, TChunk.enc, Int.toNat_zero, Int.toNat_natCast, hw, e1])
        | (refine drawE_intro [[.post, .un, .post, .un, .post, .post], [.un, .post, .post, .un, .post, .post], [.pre, .pre, .post, .un, .post, .post], [.un, .un, .un, .post, .un, .post], [.pre, .pre, .pre, .un, .post, .post], [.pre, .pre, .pre, .pre, .pre, .post]] (by kernel_rfl) (by rfl) ?_; simp only [go_sem, List.length_map, hm, hm0, hxi, TChunk.enc, Int.toNat_zero, Int.toNat_natCast, hw, e1])
        | (refine cSplit (fun h => ?_) (fun h => ?_) <;> simp only [go_sem, List.length_map, hm, hm0, hxi, TChunk.enc, Int.toNat_zero, Int.toNat_natCast, hw, e1])
        | (with_reducible refine And.intro ?_ ?_; (focus (first | omega | (exact ⟨by omega, by omega⟩) | (simp; done) | (simp; omega)))))
      have hle : 1 + (xs.length - 1) ≤ xs.length := by omega
      have ht : List.take (xs.length - 1) (List.drop 1 (List.map TChunk.enc xs)) = (xs.drop 1).map TChunk.enc := by
        rw [List.take_of_length_le (by simp), List.map_drop]
      rw [if_pos hle, ht]
      refine CallS.intro (spec_l6Copy (n + ((k + 1 : Nat) : Int)) (xs.drop 1) (by simp; omega)) ?_
      try simp only [go_sem, List.length_map]
      repeat' (first
        | (refine CallS.intro (by first | assumption | (apply spec_ReadyBytes <;> first | assumption | omega) | (apply spec_l6Copy <;> first | assumption | omega)) ?_; simp only [go_sem, List.length_map, hm, hm0, hxi, TChunk.enc, Int.toNat_zero, Int.toNat_natCast, hw, e1])
        | (refine CallK.intro (by first | assumption | (apply spec_ReadyBytes <;> first | assumption | omega) | (apply spec_l6Copy <;> first | assumption | omega)) ?_; simp only [go_sem, List.length_map, hm, hm0, hxi, TChunk.enc, Int.toNat_zero, Int.toNat_natCast, hw, e1])
        | (with_reducible refine gTrueS ?_; simp only [go_sem, List.length_map, hm, hm0, hxi, TChunk.enc, Int.toNat_zero, Int.toNat_natCast, hw, e1]) | (with_reducible refine gFalseS ?_; simp only [go_sem, List.length_map, hm, hm0, hxi, TChunk.enc, Int.toNat_zero, Int.toNat_natCast, hw, e1]) | (with_reducible refine gTrue ?_; simp only [go_sem, List.length_map, hm, hm0, hxi, TChunk.enc, Int.toNat_zero, Int.toNat_natCast, hw, e1]) | (with_reducible refine gFalse ?_; simp only [go_sem, List.length_map, hm, hm0, hxi, TChunk.enc, Int.toNat_zero, Int.toNat_natCast, hw, e1])
        | (refine gSymS ?_; simp only [go_sem, List.length_map, hm, hm0, hxi, TChunk.enc, Int.toNat_zero, Int.toNat_natCast, hw, e1]) | (refine gSym ?_; simp only [go_sem, List.length_map, hm, hm0, hxi, TChunk.enc, Int.toNat_zero, Int.toNat_natCast, hw, e1])
        | (refine drawE_intro [[.post, .un, .post], [.un, .post, .post], [.pre, .pre, .post]] (by kernel_rfl) (by rfl) ?_; simp only [go_sem, List.length_map, hm, hm0, hxi, TChunk.enc, Int.toNat_zero, Int.toNat_natCast, hw, e1])
        | (refine drawE_intro [[.post, .post, .un, .un, .un, .un, .un, .un, .post, .post], [.pre, .post, .un, .un, .un, .un, .un, .un, .post, .post], [.un, .un, .post, .post, .un, .un, .un, .post, .post, .post], [.un, .un, .pre, .post, .un, .un, .un, .post, .post, .post], [.un, .un, .un, .un, .post, .un, .post, .post, .post, .post], [.un, .un, .un, .un, .un, .post, .post, .post, .post, .post], [.un, .un, .un, .un, .pre, .pre, .post, .post, .post, .post], [.un, .un, .pre, .pre, .pre, .pre, .pre, .post, .post, .post], [.pre, .pre, .pre, .pre, .pre, .pre, .pre, .pre, .post, .post], [.pre, .pre, .pre, .pre, .pre, .pre, .pre, .pre, .pre, .post]] (by kernel_rfl) (by rfl) ?_; simp only [go_sem, List.length_map, hm, hm0, hxi, TChunk.enc, Int.toNat_zero, Int.toNat_natCast, hw, e1])
        | (refine drawE_intro [[.post, .un, .post, .un, .post, .post], [.un, .post, .post, .un, .post, .post], [.pre, .pre, .post, .un, .post, .post], [.un, .un, .un, .post, .un, .post], [.pre, .pre, .pre, .un, .post, .post], [.pre, .pre, .pre, .pre, .pre, .post]] (by kernel_rfl) (by rfl) ?_; simp only [go_sem, List.length_map, hm, hm0, hxi, TChunk.enc, Int.toNat_zero, Int.toNat_natCast, hw, e1])
        | (refine cSplit (fun h => ?_) (fun h => ?_) <;> simp only [go_sem, List.length_map, hm, hm0, hxi, TChunk.enc, Int.toNat_zero, Int.toNat_natCast, hw, e1])
        | (with_reducible refine And.intro ?_ ?_; (focus (first | omega | (exact ⟨by omega, by omega⟩) | (simp; done) | (simp; omega)))))
      all_goals (
        have htk : tkS n xs most = xs[0].data := by rw [← hsl, hq]; exact List.take_length
        rw [htk, hX])
    · have e1 : decide (((k + 1 : Nat) : Int) = (xs[0].data.length : Int)) = false := decide_eq_false (by omega)
      have hX : tkX n xs most = ⟨n + ((k + 1 : Nat) : Int), xs[0].data.drop (k + 1)⟩ :: xs.drop 1 := by unfold tkX; rw [hk, htd, if_neg (by omega), if_neg hq]
      try simp only [go_sem]
      repeat' (first
        | (refine CallS.intro (by first | assumption | (apply spec_ReadyBytes <;> first | assumption | omega) | (apply spec_l6Copy <;> first | assumption | omega)) ?_; simp only [go_sem, List.length_map, hm, hm0, hxi, TChunk.enc, Int.toNat_zero, hw, e1])
        | (refine CallK.intro (by first | assumption | (apply spec_ReadyBytes <;> first | assumption | omega) | (apply spec_l6Copy <;> first | assumption | omega)) ?_; simp only [go_sem, List.length_map, hm, hm0, hxi, TChunk.enc, Int.toNat_zero, Int.toNat_natCast, hw, e1])
        | (with_reducible refine gTrueS ?_; simp only [go_sem, List.length_map, hm, hm0, hxi, TChunk.enc, Int.toNat_zero, Int.toNat_natCast, hw, e1]) | (with_reducible refine gFalseS ?_; simp only [go_sem, List.length_map, hm, hm0, hxi, TChunk.enc, Int.toNat_zero, Int.toNat_natCast, hw, e1]) | (with_reducible refine gTrue ?_; simp only [go_sem, List.length_map, hm, hm0, hxi, TChunk.enc, Int.toNat_zero, Int.toNat_natCast, hw, e1]) | (with_reducible refine gFalse ?_; simp only [go_sem, List.length_map, hm, hm0, hxi, TChunk.enc, Int.toNat_zero, Int.toNat_natCast, hw, e1])
        | (refine gSymS ?_; simp only [go_sem, List.length_map, hm, hm0, hxi, TChunk.enc, Int.toNat_zero, Int.toNat_natCast, hw, e1]) | (refine gSym ?_; simp only [go_sem, List.length_map, hm, hm0, hxi, TChunk.enc, Int.toNat_zero, Int.toNat_natCast, hw, e1])
        | (refine drawE_intro [[.post, .un, .post], [.un, .post, .post], [.pre, .pre, .post]] (by kernel_rfl) (by rfl) ?_; simp only [go_sem, List.length_map, hm, hm0, hxi, TChunk.enc, Int.toNat_zero, Int.toNat_natCast, hw, e1])
        | (refine drawE_intro [[.post, .post, .un, .un, .un, .un, .un, .un, .post, .post], [.pre, .post, .un, .un, .un, .un, .un, .un, .post, .post], [.un, .un, .post, .post, .un, .un, .un, .post, .post, .post], [.un, .un, .pre, .post, .un, .un, .un, .post, .post, .post], [.un, .un, .un, .un, .post, .un, .post, .post, .post, .post], [.un, .un, .un, .un, .un, .post, .post, .post, .post, .post], [.un, .un, .un, .un, .pre, .pre, .post, .post, .post, .post], [.un, .un, .pre, .pre, .pre, .pre, .pre, .post, .post, .post], [.pre, .pre, .pre, .pre, .pre, .pre, .pre, .pre, .post, .post], [.pre, .pre, .pre, .pre, .pre, .pre, .pre, .pre, .pre, .post]] (by kernel_rfl) (by rfl) ?_; simp only [go_sem, List.length_map, hxi, TChunk.enc, Int.toNat_zero, Int.toNat_natCast])
        | (refine drawE_intro [[.post, .un, .post, .un, .post, .post], [.un, .post, .post, .un, .post, .post], [.pre, .pre, .post, .un, .post, .post], [.un, .un, .un, .post, .un, .post], [.pre, .pre, .pre, .un, .post, .post], [.pre, .pre, .pre, .pre, .pre, .post]] (by kernel_rfl) (by rfl) ?_; simp only [go_sem, Int.toNat_natCast])
        | (refine cSplit (fun h => ?_) (fun h => ?_) <;> simp only [go_sem, List.length_map, hm, hm0, hxi, TChunk.enc, Int.toNat_zero, Int.toNat_natCast, hw, e1])
        | (with_reducible refine And.intro ?_ ?_; (focus (first | omega | (exact ⟨by omega, by omega⟩) | (simp; done) | (simp; omega)))))
      all_goals (
        have ht1 : List.take (xs[0].data.length - (k + 1)) (List.drop (k + 1) xs[0].data) = List.drop (k + 1) xs[0].data := List.take_of_length_le (by simp)
        rw [ht1, tl_cons TChunk.enc xs _ hlt]
        have hln : xs.length = (([D.int .i64 (n + ((k + 1 : Nat) : Int)), D.str (List.drop (k + 1) xs[0].data)] : List D) :: (xs.drop 1).map TChunk.enc).length := by simp; omega
        rw [if_pos (Nat.le_of_eq hln), List.take_of_length_le (Nat.le_of_eq hln.symm), Nat.sub_zero, hsl, hX]; simp [outOA, TChunk.enc])
end Gv
