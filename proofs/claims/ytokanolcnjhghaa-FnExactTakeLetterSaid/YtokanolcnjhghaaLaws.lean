/-
  The laws of the helper functions of the statements: copying, counting, comparing. Printed by a program of ours.
-/
import Derived.Test.YtokanolcnjhghaaLawKit
namespace Gv
open Go Go.Proofs

def TLetter.bulk (x : TLetter) : Nat := x.payload.length
set_option maxRecDepth 100000 in
theorem laws_szLetter (x : TLetter) (left : Int) (hl : 0 ≤ left ∧ left ≤ 1048576) : PureCall Try.prog 12 [.agg [.int .i64 x.number, .str x.payload], .one (.int .i64 left)] [.one (.int .i64 (szB (TLetter.bulk x) left))] := by
  refine pure_ev Try.func12 rfl Try.call12 Try.checked.mixed [.agg [.d (.int .i64 x.number), .d (.str x.payload)], .d (.int .i64 left), .junk, .junk, .junk, .junk, .junk, .junk, .junk, .junk, .junk, .junk, .junk] rfl [.tmp 4] rfl ?_
  intro ok
  have hw0 : IntKind.i64.wrap (left - (x.payload.length : Int)) = left - (x.payload.length : Int) := wsub (by omega) (ok.1.2.1)
  simp only [go_sem, hw0]
  refine cSplit (fun h => ?_) (fun h => ?_)
  · simp only [decide_eq_true_eq] at h; simp only [go_sem]; rw [szB_lt (by simp only [TLetter.bulk]; omega)]
  simp only [decide_eq_false_iff_not] at h
  try simp only [go_sem]
  rw [show szB (TLetter.bulk x) left = left - ((x.payload.length : Nat) : Int) from by rw [szB_ge (by simp only [TLetter.bulk]; omega)]; simp only [TLetter.bulk]; try omega]
set_option maxRecDepth 100000 in
theorem laws_szLetterS (xs : List TLetter) (left : Int) (hl : 0 ≤ left ∧ left ≤ 1048576) : PureCall Try.prog 4 [.one (.sl 2 (xs.map TLetter.enc)), .one (.int .i64 left)] [.one (.int .i64 (szB ((xs.length + sumB TLetter.bulk xs)) left))] := by
  refine pure_ev Try.func4 rfl Try.call4 Try.checked.mixed [.d (.sl 2 (xs.map TLetter.enc)), .d (.int .i64 left), .junk, .junk, .junk, .junk, .junk, .junk, .junk, .junk, .junk, .junk, .junk, .junk, .junk, .junk, .junk, .junk, .junk, .junk, .junk, .junk, .junk, .junk, .junk, .junk, .junk] rfl [.tmp 4] rfl ?_
  intro ok
  have hm := len_of ok
  have hw := wsub hl hm
  simp only [go_sem, List.length_map, hw]
  refine cSplit (fun h => ?_) (fun h => ?_)
  · simp only [decide_eq_true_eq] at h; simp only [go_sem]; rw [szB_lt (by omega)]
  · simp only [decide_eq_false_iff_not] at h; simp only [go_sem]
    refine LoopK.intro (fun i : Nat => ⟨[.d (.sl 2 (xs.map TLetter.enc)), .d (.int .i64 (left - ((xs.length + sumB TLetter.bulk (xs.take i) : Nat) : Int))), .junk, .junk, .d (.int .i64 0), .d (.int .i64 i), .junk, .junk, .junk, .junk, .junk, .junk, .junk, .junk, .junk, .junk, .junk, .junk, .junk, .junk, .junk, .junk, .junk, .junk, .junk, .junk, .junk], []⟩)
      (fun i => xs.length - i) (fun i => i ≤ xs.length ∧ ((xs.length + sumB TLetter.bulk (xs.take i) : Nat) : Int) ≤ left) 0 [] ⟨by omega, by (simp only [List.take_zero, sumB_nil]) <;> omega⟩ ?_ ?_
    · simp only [go_sem]; simp [sumB]
    · rintro i ⟨hi, hle⟩
      simp only [go_sem, List.length_map]
      have hs2 := sumB_take_le TLetter.bulk xs (i + 1)
      refine cSplit (fun h1 => ?_) (fun h1 => ?_)
      · simp only [decide_eq_true_eq] at h1
        have hlt : i < xs.length := by omega
        have hxi := map_at TLetter.enc xs i hlt
        have hw2 := inc hlt hm
        have hs := sumB_take TLetter.bulk xs i hlt
        simp only [go_sem, List.length_map, Int.toNat_natCast, hxi, TLetter.enc]
        refine ⟨⟨by omega, by omega⟩, ?_⟩
        refine CallS.intro (laws_szLetter xs[i] _ (by omega)) ?_
        simp only [go_sem]
        refine cSplit (fun h2 => ?_) (fun h2 => ?_)
        · have h2 := szB_neg (of_decide_eq_true h2); simp only [go_sem]; rw [szB_lt (by omega)]
        · obtain ⟨e2, hb⟩ := szB_pos (of_decide_eq_false h2)
          simp only [go_sem, hw2, e2]
          refine RoundE.intro (i + 1) [] ⟨by omega, by omega⟩ (by omega) ?_
          simp only [go_sem]; simp [hs]; try omega
      · simp only [go_sem]
        simp only [decide_eq_false_iff_not] at h1
        have hi2 : i = xs.length := by omega
        subst hi2
        rw [List.take_length] at hle ⊢
        rw [szB_ge (by omega)]
set_option maxRecDepth 100000 in
theorem laws_toLetter (x : TLetter) : PureCall Try.prog 15 [.agg [.int .i64 x.number, .str x.payload]] [.agg [.int .i64 x.number, .str x.payload]] := by
  refine pure_ev Try.func15 rfl Try.call15 Try.checked.mixed [.agg [.d (.int .i64 x.number), .d (.str x.payload)], .junk, .junk, .junk, .junk, .junk, .junk, .junk, .junk, .junk, .junk] rfl [.cell 2 25] rfl ?_
  intro _
  try simp only [go_sem]
  repeat' (first
    | (with_reducible refine gTrueS ?_; simp only [go_sem, List.length_map, List.take_length, List.length_take, Nat.min_self]) | (with_reducible refine gFalseS ?_; simp only [go_sem, List.length_map, List.take_length, List.length_take, Nat.min_self]) | (with_reducible refine gTrue ?_; simp only [go_sem, List.length_map, List.take_length, List.length_take, Nat.min_self]) | (with_reducible refine gFalse ?_; simp only [go_sem, List.length_map, List.take_length, List.length_take, Nat.min_self])
    | (refine gSymS ?_; simp only [go_sem, List.length_map, List.take_length, List.length_take, Nat.min_self]) | (refine gSym ?_; simp only [go_sem, List.length_map, List.take_length, List.length_take, Nat.min_self])
    | (refine cSplit (fun h => ?_) (fun h => ?_) <;> simp only [go_sem, List.length_map, List.take_length, List.length_take, Nat.min_self])
    | (with_reducible refine And.intro ?_ ?_; (focus (first | omega | (exact ⟨by omega, by omega⟩) | (simp; done) | (simp; omega)))))
  all_goals simp
set_option maxRecDepth 100000 in
theorem laws_toLetterS (xs : List TLetter) (hx : (xs.length + sumB TLetter.bulk xs) ≤ 1048576) : PureCall Try.prog 6 [.one (.sl 2 (xs.map TLetter.enc))] [.one (.sl 2 (xs.map TLetter.enc))] := by
  refine pure_ev Try.func6 rfl Try.call6 Try.checked.mixed [.d (.sl 2 (xs.map TLetter.enc)), .junk, .junk, .junk, .junk, .junk, .junk, .junk, .junk, .junk, .junk, .junk, .junk, .junk, .junk, .junk, .junk, .junk, .junk, .junk, .junk, .junk, .junk] rfl [.tmp 2] rfl ?_
  intro _
  have hm : xs.length ≤ maxLen := by simp only [maxLen]; omega
  simp only [go_sem, List.length_map, Int.toNat_natCast]
  refine ⟨⟨by omega, by omega, hm⟩, ?_⟩
  refine LoopK.intro (fun i : Nat => ⟨[.d (.sl 2 (xs.map TLetter.enc)), .junk, .junk, .sl 0 0 xs.length, .d (.int .i64 i), .junk, .junk, .junk, .junk, .junk, .junk, .junk, .junk, .junk, .junk, .junk, .junk, .junk, .junk, .junk, .junk, .junk, .junk], [.arr 2 ((cpL (⟨0, []⟩ : TLetter) xs i).map TLetter.enc) true]⟩)
      (fun i => xs.length - i) (fun i => i ≤ xs.length) 0 [0] (by omega) ?_ ?_
  · simp only [go_sem]; simp [cpL, TLetter.enc]
  · intro i hi
    simp only [go_sem, List.length_map]
    refine cSplit (fun h1 => ?_) (fun h1 => ?_)
    · simp only [decide_eq_true_eq] at h1
      have hlt : i < xs.length := by omega
      have hxi := map_at TLetter.enc xs i hlt
      have hw := inc hlt hm
      have hg := cpL_get (⟨0, []⟩ : TLetter) TLetter.enc xs i hlt
      have hs := cpL_set (⟨0, []⟩ : TLetter) TLetter.enc xs i hlt
      have hl := cpL_len (⟨0, []⟩ : TLetter) xs i (by omega)
      have hb := sumB_at TLetter.bulk xs i hlt
      simp only [TLetter.enc] at hs hg hxi
      simp only [go_sem, List.length_map, List.map_nil, Int.toNat_natCast, hxi]
      refine ⟨⟨by omega, by omega⟩, ?_⟩
      refine CallS.intro (laws_toLetter xs[i]) ?_
      simp only [go_sem, List.length_map, List.map_nil, Int.toNat_natCast, hg, hs, hl, hw]
      refine ⟨⟨by omega, by omega⟩, ⟨by omega, by simp⟩, RoundE.intro (i + 1) [0] (by omega) (by omega) ?_⟩
      simp only [go_sem]; simp
    · simp only [go_sem]
      simp only [decide_eq_false_iff_not] at h1
      have hi2 : i = xs.length := by omega
      subst hi2
      rw [cpL_all]
      simp [outOA]
      exact List.take_of_length_le (by simp)
set_option maxRecDepth 100000 in
theorem laws_eqLetter (x y : TLetter) : PureCall Try.prog 8 [.agg [.int .i64 x.number, .str x.payload], .agg [.int .i64 y.number, .str y.payload]] [.one (.bool (decide (x = y)))] := by
  refine pure_ev Try.func8 rfl Try.call8 Try.checked.mixed [.agg [.d (.int .i64 x.number), .d (.str x.payload)], .agg [.d (.int .i64 y.number), .d (.str y.payload)], .junk, .junk, .junk, .junk, .junk, .junk, .junk, .junk, .junk, .junk, .junk, .junk, .junk] rfl [.tmp 4] rfl ?_
  obtain ⟨a0, a1⟩ := x
  obtain ⟨b0, b1⟩ := y
  simp only [TLetter.mk.injEq]
  intro _
  try simp only [go_sem]
  repeat' (first
    | (with_reducible refine gTrueS ?_; simp only [go_sem, List.length_map]) | (with_reducible refine gFalseS ?_; simp only [go_sem, List.length_map]) | (with_reducible refine gTrue ?_; simp only [go_sem, List.length_map]) | (with_reducible refine gFalse ?_; simp only [go_sem, List.length_map])
    | (refine gSymS ?_; simp only [go_sem, List.length_map]) | (refine gSym ?_; simp only [go_sem, List.length_map])
    | (refine cSplit (fun h => ?_) (fun h => ?_) <;> simp only [go_sem])
    | (with_reducible refine And.intro ?_ ?_; (focus (first | omega | (exact ⟨by omega, by omega⟩) | (simp; done) | (simp; omega)))))
  all_goals simp_all
set_option maxRecDepth 100000 in
theorem laws_eqLetterS (xs ys : List TLetter) : PureCall Try.prog 9 [.one (.sl 2 (xs.map TLetter.enc)), .one (.sl 2 (ys.map TLetter.enc))] [.one (.bool (decide (xs = ys)))] := by
  refine pure_ev Try.func9 rfl Try.call9 Try.checked.mixed [.d (.sl 2 (xs.map TLetter.enc)), .d (.sl 2 (ys.map TLetter.enc)), .junk, .junk, .junk, .junk, .junk, .junk, .junk, .junk, .junk, .junk, .junk, .junk, .junk, .junk, .junk, .junk, .junk, .junk, .junk, .junk, .junk, .junk, .junk, .junk, .junk] rfl [.tmp 4] rfl ?_
  intro ok
  have hm := len_of ok
  simp only [go_sem, List.length_map]
  refine cSplit (fun h => ?_) (fun h => ?_)
  · simp only [go_sem]
    simp only [ne_eq, decide_not, Bool.not_eq_true', decide_eq_false_iff_not] at h
    have : xs ≠ ys := fun e => h (by rw [e])
    simp [this]
  · simp only [ne_eq, decide_not, Bool.not_eq_false', decide_eq_true_eq] at h
    simp only [go_sem]
    refine LoopK.intro (fun i : Nat => ⟨[.d (.sl 2 (xs.map TLetter.enc)), .d (.sl 2 (ys.map TLetter.enc)), .junk, .junk, .d (.bool false), .d (.int .i64 i), .junk, .junk, .junk, .junk, .junk, .junk, .junk, .junk, .junk, .junk, .junk, .junk, .junk, .junk, .junk, .junk, .junk, .junk, .junk, .junk, .junk], []⟩)
      (fun i => xs.length - i) (fun i => i ≤ xs.length ∧ xs.take i = ys.take i) 0 [] ⟨by omega, by simp⟩ ?_ ?_
    · simp only [go_sem]; simp
    · rintro i ⟨hi, he⟩
      simp only [go_sem, List.length_map]
      refine cSplit (fun h1 => ?_) (fun h1 => ?_)
      · simp only [decide_eq_true_eq] at h1
        have hxi := map_at TLetter.enc xs i (by omega)
        have hyi := map_at TLetter.enc ys i (by omega)
        have hw := inc (i := i) (m := xs.length) (by omega) hm
        simp only [go_sem]
        refine drawE_intro [[.post, .un, .post, .post, .un, .un, .un, .un, .post, .post], [.un, .post, .post, .post, .un, .un, .un, .un, .post, .post], [.pre, .pre, .post, .post, .un, .un, .un, .un, .post, .post], [.pre, .pre, .pre, .post, .un, .un, .un, .un, .post, .post], [.un, .un, .un, .un, .post, .un, .post, .post, .post, .post], [.un, .un, .un, .un, .un, .post, .post, .post, .post, .post], [.un, .un, .un, .un, .pre, .pre, .post, .post, .post, .post], [.un, .un, .un, .un, .pre, .pre, .pre, .post, .post, .post], [.pre, .pre, .pre, .pre, .pre, .pre, .pre, .pre, .post, .post], [.pre, .pre, .pre, .pre, .pre, .pre, .pre, .pre, .pre, .post]] (by kernel_rfl) (by rfl) ?_
        simp only [go_sem, List.length_map, Int.toNat_natCast, hxi, hyi, TLetter.enc]
        refine ⟨⟨by omega, by omega⟩, ⟨by omega, by omega⟩, ?_⟩
        refine CallK.intro (laws_eqLetter xs[i] ys[i]) ?_
        simp only [go_sem]
        refine cSplit (fun h2 => ?_) (fun h2 => ?_)
        · simp only [go_sem]
          have : xs ≠ ys := fun e => by subst e; simp at h2
          simp [this]
        · simp only [go_sem, hw]
          have h3 : xs[i]'(by omega) = ys[i]'(by omega) := by simpa using h2
          refine RoundE.intro (i + 1) [] ⟨by omega, take_eq he (by omega) (by omega) h3⟩ (by omega) ?_
          simp only [go_sem]
      · simp only [go_sem]
        simp only [decide_eq_false_iff_not] at h1
        have : xs = ys := by rw [List.take_of_length_le (by omega), List.take_of_length_le (by omega)] at he; exact he
        simp [this]
end Gv
