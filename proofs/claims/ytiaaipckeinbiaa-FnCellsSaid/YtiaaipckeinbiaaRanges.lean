/-
  Ranges.
-/
import Derived.Test.YtiaaipckeinbiaaFns1
namespace Gv
open Go Go.Proofs

def rOk (r : TRange) : Bool := decide (0 ≤ r.low) && decide (r.low < r.high) && decide (r.high ≤ 4611686018427387903)
def rAt (xs : List TRange) (i : Nat) : Bool :=
  match xs[i]? with
  | some x => rOk x && (match i with | 0 => true | j + 1 => match xs[j]? with | some p => decide (p.high < x.low) | none => true)
  | none => true
def areR (xs : List TRange) : Bool := (List.range xs.length).all (rAt xs)
theorem areR_bad (xs : List TRange) (i : Nat) (h : i < xs.length) (h2 : rAt xs i = false) : areR xs = false := by
  unfold areR; rw [List.all_eq_false]; exact ⟨i, List.mem_range.2 h, by simp [h2]⟩
theorem range_step {p : Nat → Bool} {i : Nat} (h : (List.range i).all p = true) (h2 : p i = true) : (List.range (i + 1)).all p = true := by
  rw [List.range_succ, List.all_append, h]; simp [h2]
def minI (a b : Int) : Int := if b < a then b else a
def maxI (a b : Int) : Int := if b > a then b else a
def arStep (s : List TRange × Bool × TRange) (x : TRange) : List TRange × Bool × TRange :=
  if x.high < s.2.2.low then (s.1 ++ [x], s.2.1, s.2.2)
  else if s.2.2.high < x.low then ((if s.2.1 = true then s.1 else s.1 ++ [s.2.2]) ++ [x], true, s.2.2)
  else (s.1, s.2.1, ⟨minI s.2.2.low x.low, maxI s.2.2.high x.high⟩)
def arS (xs : List TRange) (r : TRange) : Nat → List TRange × Bool × TRange
  | 0 => ([], false, r)
  | i + 1 => match xs[i]? with | some x => arStep (arS xs r i) x | none => arS xs r i
theorem arS_step (xs : List TRange) (r : TRange) (i : Nat) (h : i < xs.length) : arS xs r (i + 1) = arStep (arS xs r i) xs[i] := by
  rw [arS, List.getElem?_eq_getElem h]
theorem arS_len (xs : List TRange) (r : TRange) : ∀ i, (arS xs r i).1.length ≤ i + (if (arS xs r i).2.1 = true then 1 else 0)
  | 0 => by simp [arS]
  | i + 1 => by
    have := arS_len xs r i
    rw [arS]
    split
    · unfold arStep
      by_cases h1 : (arS xs r i).2.1 = true
      · simp only [h1, if_true] at this ⊢
        split
        · simp [h1]; omega
        · split
          · simp; omega
          · simp [h1]; omega
      · simp only [h1] at this ⊢
        split
        · simp [h1] at this ⊢; omega
        · split
          · simp at this ⊢; omega
          · simp [h1] at this ⊢; omega
    · by_cases h1 : (arS xs r i).2.1 = true
      · simp only [h1, if_true] at this ⊢; omega
      · simp [h1] at this ⊢; omega
def addR (xs : List TRange) (r : TRange) : List TRange :=
  if areR xs && rOk r = true then (if (arS xs r xs.length).2.1 = true then (arS xs r xs.length).1 else (arS xs r xs.length).1 ++ [(arS xs r xs.length).2.2]) else xs
theorem addR_len (xs : List TRange) (r : TRange) : (addR xs r).length ≤ xs.length + 1 := by
  have := arS_len xs r xs.length
  unfold addR
  split
  · split
    · rename_i h; rw [if_pos h] at this; exact this
    · rename_i h; rw [if_neg h] at this; simp; omega
  · omega
theorem rAt_zero (xs : List TRange) (h : 0 < xs.length) : rAt xs 0 = rOk xs[0] := by
  unfold rAt; rw [List.getElem?_eq_getElem h]; simp
theorem rAt_succ (xs : List TRange) (j : Nat) (h : j + 1 < xs.length) : rAt xs (j + 1) = (rOk xs[j + 1] && decide (xs[j].high < xs[j + 1].low)) := by
  unfold rAt; rw [List.getElem?_eq_getElem h]; simp only [List.getElem?_eq_getElem (show j < xs.length by omega)]


set_option maxRecDepth 100000 in
theorem impl_isRange (l h : Int) : PureCall Try.prog 57 [.agg [.int .i64 l, .int .i64 h]] [.one (.bool (rOk ⟨l, h⟩))] := by
  refine pure_ev Try.func57 rfl Try.call57 Try.checked.mixed [.agg [.d (.int .i64 l), .d (.int .i64 h)], .junk, .junk, .junk, .junk, .junk, .junk, .junk, .junk, .junk, .junk, .junk, .junk, .junk, .junk, .junk, .junk, .junk] rfl [.tmp 2] rfl ?_
  intro _
  try simp only [go_sem]
  repeat' (first
    | (with_reducible refine gTrueS ?_; simp only [go_sem]) | (with_reducible refine gFalseS ?_; simp only [go_sem]) | (with_reducible refine gTrue ?_; simp only [go_sem]) | (with_reducible refine gFalse ?_; simp only [go_sem])
    | (refine gSymS ?_; simp only [go_sem]) | (refine gSym ?_; simp only [go_sem])
    | (refine cSplit (fun h => ?_) (fun h => ?_) <;> simp only [go_sem])
    | (with_reducible refine And.intro ?_ ?_; (focus (first | omega | (exact ⟨by omega, by omega⟩) | (simp; done) | (simp; omega)))))
  all_goals (simp [rOk]; try (cases decide (0 ≤ l) <;> cases decide (l < h) <;> simp))
set_option maxRecDepth 100000 in
theorem impl_copyRanges (xs : List TRange) (hx : xs.length ≤ 8388608) : PureCall Try.prog 58 [.one (.sl 2 (xs.map TRange.enc))] [.one (.sl 2 (xs.map TRange.enc))] := by
  refine pure_ev Try.func58 rfl Try.call58 Try.checked.mixed [.d (.sl 2 (xs.map TRange.enc)), .junk, .junk, .junk, .junk, .junk] rfl [.tmp 2] rfl ?_
  intro _
  try simp only [go_sem, List.length_map]
  repeat' (first
    | (with_reducible refine gTrueS ?_; simp only [go_sem, List.length_map]) | (with_reducible refine gFalseS ?_; simp only [go_sem, List.length_map]) | (with_reducible refine gTrue ?_; simp only [go_sem, List.length_map]) | (with_reducible refine gFalse ?_; simp only [go_sem, List.length_map])
    | (refine gSymS ?_; simp only [go_sem, List.length_map]) | (refine gSym ?_; simp only [go_sem, List.length_map])
    | (refine cSplit (fun h => ?_) (fun h => ?_) <;> simp only [go_sem, List.length_map])
    | (with_reducible refine And.intro ?_ ?_; (focus (first | omega | (exact ⟨by omega, by omega⟩) | (simp; done) | (simp; omega)))))
  all_goals simp
set_option maxRecDepth 100000 in
theorem impl_IsRanges (xs : List TRange) : PureCall Try.prog 56 [.one (.sl 2 (xs.map TRange.enc))] [.one (.bool (areR xs))] := by
  refine pure_ev Try.func56 rfl Try.call56 Try.checked.mixed [.d (.sl 2 (xs.map TRange.enc)), .junk, .junk, .junk, .junk, .junk, .junk, .junk, .junk, .junk, .junk, .junk, .junk, .junk, .junk, .junk, .junk, .junk, .junk, .junk, .junk, .junk, .junk, .junk, .junk, .junk, .junk, .junk, .junk, .junk, .junk] rfl [.tmp 2] rfl ?_
  intro ok
  have hm := len_of ok
  simp only [go_sem, List.length_map]
  refine LoopK.intro (fun i : Nat => ⟨[.d (.sl 2 (xs.map TRange.enc)), .junk, .d (.bool false), .junk, .junk, .d (.sl 2 (xs.map TRange.enc)), .d (.int .i64 xs.length), .d (.int .i64 i), .junk, .junk, .junk, .junk, .junk, .junk, .junk, .junk, .junk, .junk, .junk, .junk, .junk, .junk, .junk, .junk, .junk, .junk, .junk, .junk, .junk, .junk, .junk], []⟩)
      (fun i => xs.length - i) (fun i => i ≤ xs.length ∧ (List.range i).all (rAt xs) = true) 0 [] ⟨by omega, by simp⟩ ?_ ?_
  · simp only [go_sem]; simp
  · rintro i ⟨hi, he⟩
    simp only [go_sem]
    refine cSplit (fun h1 => ?_) (fun h1 => ?_)
    · have h1' := of_decide_eq_true h1
      have hlt : i < xs.length := by omega
      have hxi := map_at TRange.enc xs i hlt
      have hw := inc hlt hm
      have hbad := areR_bad xs i hlt
      have hgood : rAt xs i = true → (List.range (i + 1)).all (rAt xs) = true := range_step he
      cases i with
      | zero =>
        rw [rAt_zero xs hlt] at hbad hgood
        have hr : rOk ⟨xs[0].low, xs[0].high⟩ = rOk xs[0] := rfl
        have hw0 : IntKind.i64.wrap (0 + 1) = ((1 : Nat) : Int) := by rw [w64] <;> omega
        try simp only [go_sem, List.length_map, hxi, TRange.enc, Int.toNat_zero, Int.natCast_zero]
        repeat' (first
          | (refine CallS.intro (by first | assumption | (apply impl_isRange <;> first | assumption | omega)) ?_; simp only [go_sem, List.length_map, Int.toNat_natCast, hxi, TRange.enc, Int.toNat_zero, Int.natCast_zero, Int.lt_irrefl, decide_false])
          | (refine CallK.intro (by first | assumption | (apply impl_isRange <;> first | assumption | omega)) ?_; simp only [go_sem])
          | (with_reducible refine gTrueS ?_; simp only [go_sem, List.length_map, Int.toNat_natCast, hxi, TRange.enc, Int.toNat_zero, Int.natCast_zero, Int.lt_irrefl, decide_false]) | (with_reducible refine gFalseS ?_; simp only [go_sem, List.length_map, Int.toNat_natCast, hxi, TRange.enc, Int.toNat_zero, Int.natCast_zero, Int.lt_irrefl, decide_false]) | (with_reducible refine gTrue ?_; simp only [go_sem, List.length_map, Int.toNat_natCast, hxi, TRange.enc, Int.toNat_zero, Int.natCast_zero, Int.lt_irrefl, decide_false]) | (with_reducible refine gFalse ?_; simp only [go_sem])
          | (refine gSymS ?_; simp only [go_sem, List.length_map, Int.toNat_natCast, hxi, TRange.enc, Int.toNat_zero, Int.natCast_zero, Int.lt_irrefl, decide_false]) | (refine gSym ?_; simp only [go_sem, Int.lt_irrefl, decide_false])
          | (refine drawE_intro [[.post, .post, .post, .post, .post, .post, .post, .post, .post, .post, .post, .post, .post, .post, .post, .post, .post, .post], [.pre, .post, .post, .post, .post, .post, .post, .post, .post, .post, .post, .post, .post, .post, .post, .post, .post, .post], [.pre, .pre, .post, .post, .post, .post, .post, .post, .post, .post, .post, .post, .post, .post, .post, .post, .post, .post], [.pre, .pre, .pre, .post, .post, .post, .post, .post, .post, .post, .post, .post, .post, .post, .post, .post, .post, .post], [.pre, .pre, .pre, .pre, .post, .post, .post, .post, .post, .post, .post, .post, .post, .post, .post, .post, .post, .post], [.pre, .pre, .pre, .pre, .pre, .post, .post, .post, .post, .post, .post, .post, .post, .post, .post, .post, .post, .post], [.pre, .pre, .pre, .pre, .pre, .pre, .post, .post, .post, .post, .post, .post, .post, .post, .post, .post, .post, .post], [.pre, .pre, .pre, .pre, .pre, .pre, .pre, .post, .post, .un, .un, .un, .un, .un, .un, .post, .post, .post], [.pre, .pre, .pre, .pre, .pre, .pre, .pre, .pre, .post, .un, .un, .un, .un, .un, .un, .post, .post, .post], [.pre, .pre, .pre, .pre, .pre, .pre, .pre, .un, .un, .post, .un, .un, .post, .post, .post, .post, .post, .post], [.pre, .pre, .pre, .pre, .pre, .pre, .pre, .un, .un, .un, .post, .post, .post, .post, .post, .post, .post, .post], [.pre, .pre, .pre, .pre, .pre, .pre, .pre, .un, .un, .un, .pre, .post, .post, .post, .post, .post, .post, .post], [.pre, .pre, .pre, .pre, .pre, .pre, .pre, .un, .un, .pre, .pre, .pre, .post, .post, .post, .post, .post, .post], [.pre, .pre, .pre, .pre, .pre, .pre, .pre, .un, .un, .pre, .pre, .pre, .pre, .post, .post, .post, .post, .post], [.pre, .pre, .pre, .pre, .pre, .pre, .pre, .un, .un, .pre, .pre, .pre, .pre, .pre, .post, .post, .post, .post], [.pre, .pre, .pre, .pre, .pre, .pre, .pre, .pre, .pre, .pre, .pre, .pre, .pre, .pre, .pre, .post, .post, .post], [.pre, .pre, .pre, .pre, .pre, .pre, .pre, .pre, .pre, .pre, .pre, .pre, .pre, .pre, .pre, .pre, .post, .post], [.pre, .pre, .pre, .pre, .pre, .pre, .pre, .pre, .pre, .pre, .pre, .pre, .pre, .pre, .pre, .pre, .pre, .post]] (by kernel_rfl) (by rfl) ?_; simp only [go_sem])
          | (refine cSplit (fun h => ?_) (fun h => ?_) <;> simp only [go_sem])
          | (with_reducible refine And.intro ?_ ?_; (focus (first | omega | (exact ⟨by omega, by omega⟩) | (simp; done) | (simp; omega)))))
        all_goals first
          | (rw [hr] at h; rw [hbad (by revert h; cases rOk xs[0] <;> simp)])
          | (rw [hr] at h; refine RoundE.intro 1 [] ⟨by omega, hgood (by revert h; cases rOk xs[0] <;> simp)⟩ (by omega) ?_; simp only [go_sem, hw0])
      | succ j =>
        rw [rAt_succ xs j hlt] at hbad hgood
        have hxj := map_at TRange.enc xs j (by omega)
        have hs : IntKind.i64.wrap (((j + 1 : Nat) : Int) - 1) = (j : Int) := by simp only [maxLen] at hm; rw [w64] <;> omega
        have hg : decide ((0 : Int) < ((j + 1 : Nat) : Int)) = true := decide_eq_true (by omega)
        have hr : rOk ⟨xs[j + 1].low, xs[j + 1].high⟩ = rOk xs[j + 1] := rfl
        have hd : decide (xs[j + 1].low ≤ xs[j].high) = !decide (xs[j].high < xs[j + 1].low) := by by_cases hx : xs[j].high < xs[j + 1].low <;> simp [hx] <;> omega
        try simp only [go_sem, List.length_map, Int.toNat_natCast, hxi, TRange.enc]
        repeat' (first
          | (refine CallS.intro (by first | assumption | (apply impl_isRange <;> first | assumption | omega)) ?_; simp only [go_sem, List.length_map, Int.toNat_natCast, hxi, hxj, TRange.enc, hs, hg])
          | (refine CallK.intro (by first | assumption | (apply impl_isRange <;> first | assumption | omega)) ?_; simp only [go_sem])
          | (with_reducible refine gTrueS ?_; simp only [go_sem, List.length_map, Int.toNat_natCast, hxi, hxj, TRange.enc, hs, hg]) | (with_reducible refine gFalseS ?_; simp only [go_sem, List.length_map, Int.toNat_natCast, hxi, hxj, TRange.enc, hs, hg]) | (with_reducible refine gTrue ?_; simp only [go_sem, List.length_map, Int.toNat_natCast, hxi, hxj, TRange.enc, hs, hg]) | (with_reducible refine gFalse ?_; simp only [go_sem, List.length_map, Int.toNat_natCast, hxi, hxj, TRange.enc, hs, hg])
          | (refine gSymS ?_; simp only [go_sem, List.length_map, Int.toNat_natCast, hxi, hxj, TRange.enc, hs, hg]) | (refine gSym ?_; simp only [go_sem, List.length_map, Int.toNat_natCast, hxj, TRange.enc, hs, hg])
          | (refine drawE_intro [[.post, .post, .post, .post, .post, .post, .post, .post, .post, .post, .post, .post, .post, .post, .post, .post, .post, .post], [.pre, .post, .post, .post, .post, .post, .post, .post, .post, .post, .post, .post, .post, .post, .post, .post, .post, .post], [.pre, .pre, .post, .post, .post, .post, .post, .post, .post, .post, .post, .post, .post, .post, .post, .post, .post, .post], [.pre, .pre, .pre, .post, .post, .post, .post, .post, .post, .post, .post, .post, .post, .post, .post, .post, .post, .post], [.pre, .pre, .pre, .pre, .post, .post, .post, .post, .post, .post, .post, .post, .post, .post, .post, .post, .post, .post], [.pre, .pre, .pre, .pre, .pre, .post, .post, .post, .post, .post, .post, .post, .post, .post, .post, .post, .post, .post], [.pre, .pre, .pre, .pre, .pre, .pre, .post, .post, .post, .post, .post, .post, .post, .post, .post, .post, .post, .post], [.pre, .pre, .pre, .pre, .pre, .pre, .pre, .post, .post, .un, .un, .un, .un, .un, .un, .post, .post, .post], [.pre, .pre, .pre, .pre, .pre, .pre, .pre, .pre, .post, .un, .un, .un, .un, .un, .un, .post, .post, .post], [.pre, .pre, .pre, .pre, .pre, .pre, .pre, .un, .un, .post, .un, .un, .post, .post, .post, .post, .post, .post], [.pre, .pre, .pre, .pre, .pre, .pre, .pre, .un, .un, .un, .post, .post, .post, .post, .post, .post, .post, .post], [.pre, .pre, .pre, .pre, .pre, .pre, .pre, .un, .un, .un, .pre, .post, .post, .post, .post, .post, .post, .post], [.pre, .pre, .pre, .pre, .pre, .pre, .pre, .un, .un, .pre, .pre, .pre, .post, .post, .post, .post, .post, .post], [.pre, .pre, .pre, .pre, .pre, .pre, .pre, .un, .un, .pre, .pre, .pre, .pre, .post, .post, .post, .post, .post], [.pre, .pre, .pre, .pre, .pre, .pre, .pre, .un, .un, .pre, .pre, .pre, .pre, .pre, .post, .post, .post, .post], [.pre, .pre, .pre, .pre, .pre, .pre, .pre, .pre, .pre, .pre, .pre, .pre, .pre, .pre, .pre, .post, .post, .post], [.pre, .pre, .pre, .pre, .pre, .pre, .pre, .pre, .pre, .pre, .pre, .pre, .pre, .pre, .pre, .pre, .post, .post], [.pre, .pre, .pre, .pre, .pre, .pre, .pre, .pre, .pre, .pre, .pre, .pre, .pre, .pre, .pre, .pre, .pre, .post]] (by kernel_rfl) (by rfl) ?_; simp only [go_sem])
          | (refine cSplit (fun h => ?_) (fun h => ?_) <;> simp only [go_sem])
          | (with_reducible refine And.intro ?_ ?_; (focus (first | omega | (exact ⟨by omega, by omega⟩) | (simp; done) | (simp; omega)))))
        all_goals first
          | (rw [hr, hd] at h; rw [hbad (by revert h; cases rOk xs[j + 1] <;> cases decide (xs[j].high < xs[j + 1].low) <;> simp)])
          | (rw [hr, hd] at h; refine RoundE.intro (j + 1 + 1) [] ⟨by omega, hgood (by revert h; cases rOk xs[j + 1] <;> cases decide (xs[j].high < xs[j + 1].low) <;> simp)⟩ (by omega) ?_; simp only [go_sem, hw])
    · have h1' := of_decide_eq_false h1
      have hi2 : i = xs.length := by omega
      subst hi2
      simp only [go_sem]
      simp [areR, he]

set_option maxRecDepth 100000 in
theorem spec_l3Fine (l h : Int) : PureCall Try.prog 85 [.agg [.int .i64 l, .int .i64 h]] [.one (.bool (rOk ⟨l, h⟩))] := by
  refine pure_ev Try.func85 rfl Try.call85 Try.checked.mixed [.agg [.d (.int .i64 l), .d (.int .i64 h)], .junk, .junk, .junk, .junk, .junk, .junk, .junk, .junk, .junk, .junk, .junk, .junk, .junk, .junk, .junk, .junk, .junk] rfl [.tmp 2] rfl ?_
  intro _
  try simp only [go_sem]
  repeat' (first
    | (with_reducible refine gTrueS ?_; simp only [go_sem]) | (with_reducible refine gFalseS ?_; simp only [go_sem]) | (with_reducible refine gTrue ?_; simp only [go_sem]) | (with_reducible refine gFalse ?_; simp only [go_sem])
    | (refine gSymS ?_; simp only [go_sem]) | (refine gSym ?_; simp only [go_sem])
    | (refine cSplit (fun h => ?_) (fun h => ?_) <;> simp only [go_sem])
    | (with_reducible refine And.intro ?_ ?_; (focus (first | omega | (exact ⟨by omega, by omega⟩) | (simp; done) | (simp; omega)))))
  all_goals (simp [rOk]; try (cases decide (0 ≤ l) <;> cases decide (l < h) <;> simp))
set_option maxRecDepth 100000 in
theorem spec_l3Copy (xs : List TRange) (hx : xs.length ≤ 8388608) : PureCall Try.prog 86 [.one (.sl 2 (xs.map TRange.enc))] [.one (.sl 2 (xs.map TRange.enc))] := by
  refine pure_ev Try.func86 rfl Try.call86 Try.checked.mixed [.d (.sl 2 (xs.map TRange.enc)), .junk, .junk, .junk, .junk, .junk] rfl [.tmp 2] rfl ?_
  intro _
  try simp only [go_sem, List.length_map]
  repeat' (first
    | (with_reducible refine gTrueS ?_; simp only [go_sem, List.length_map]) | (with_reducible refine gFalseS ?_; simp only [go_sem, List.length_map]) | (with_reducible refine gTrue ?_; simp only [go_sem, List.length_map]) | (with_reducible refine gFalse ?_; simp only [go_sem, List.length_map])
    | (refine gSymS ?_; simp only [go_sem, List.length_map]) | (refine gSym ?_; simp only [go_sem, List.length_map])
    | (refine cSplit (fun h => ?_) (fun h => ?_) <;> simp only [go_sem, List.length_map])
    | (with_reducible refine And.intro ?_ ?_; (focus (first | omega | (exact ⟨by omega, by omega⟩) | (simp; done) | (simp; omega)))))
  all_goals simp
set_option maxRecDepth 100000 in
theorem spec_IsRanges (xs : List TRange) : PureCall Try.prog 84 [.one (.sl 2 (xs.map TRange.enc))] [.one (.bool (areR xs))] := by
  refine pure_ev Try.func84 rfl Try.call84 Try.checked.mixed [.d (.sl 2 (xs.map TRange.enc)), .junk, .junk, .junk, .junk, .junk, .junk, .junk, .junk, .junk, .junk, .junk, .junk, .junk, .junk, .junk, .junk, .junk, .junk, .junk, .junk, .junk, .junk, .junk, .junk, .junk, .junk, .junk, .junk, .junk, .junk, .junk, .junk, .junk] rfl [.tmp 2] rfl ?_
  intro ok
  have hm := len_of ok
  simp only [go_sem]
  refine LoopK.intro (fun i : Nat => ⟨[.d (.sl 2 (xs.map TRange.enc)), .junk, .d (.bool false), .d (.int .i64 i), .junk, .junk, .junk, .junk, .junk, .junk, .junk, .junk, .junk, .junk, .junk, .junk, .junk, .junk, .junk, .junk, .junk, .junk, .junk, .junk, .junk, .junk, .junk, .junk, .junk, .junk, .junk, .junk, .junk, .junk], []⟩)
      (fun i => xs.length - i) (fun i => i ≤ xs.length ∧ (List.range i).all (rAt xs) = true) 0 [] ⟨by omega, by simp⟩ ?_ ?_
  · simp only [go_sem]; simp
  · rintro i ⟨hi, he⟩
    simp only [go_sem, List.length_map]
    refine cSplit (fun h1 => ?_) (fun h1 => ?_)
    · have h1' := of_decide_eq_true h1
      have hlt : i < xs.length := by omega
      have hxi := map_at TRange.enc xs i hlt
      have hw := inc hlt hm
      have hbad := areR_bad xs i hlt
      have hgood : rAt xs i = true → (List.range (i + 1)).all (rAt xs) = true := range_step he
      cases i with
      | zero =>
        rw [rAt_zero xs hlt] at hbad hgood
        have hr : rOk ⟨xs[0].low, xs[0].high⟩ = rOk xs[0] := rfl
        have hw0 : IntKind.i64.wrap (0 + 1) = ((1 : Nat) : Int) := by rw [w64] <;> omega
        try simp only [go_sem, Int.natCast_zero]
        repeat' (first
          | (refine CallS.intro (by first | assumption | (apply spec_l3Fine <;> first | assumption | omega)) ?_; simp only [go_sem, List.length_map, Int.toNat_natCast, hxi, TRange.enc, Int.toNat_zero, Int.natCast_zero, Int.lt_irrefl, decide_false])
          | (refine CallK.intro (by first | assumption | (apply spec_l3Fine <;> first | assumption | omega)) ?_; simp only [go_sem])
          | (with_reducible refine gTrueS ?_; simp only [go_sem, List.length_map, Int.toNat_natCast, hxi, TRange.enc, Int.toNat_zero, Int.natCast_zero, Int.lt_irrefl, decide_false]) | (with_reducible refine gFalseS ?_; simp only [go_sem, List.length_map, Int.toNat_natCast, hxi, TRange.enc, Int.toNat_zero, Int.natCast_zero, Int.lt_irrefl, decide_false]) | (with_reducible refine gTrue ?_; simp only [go_sem, List.length_map, Int.toNat_natCast, hxi, TRange.enc, Int.toNat_zero, Int.natCast_zero, Int.lt_irrefl, decide_false]) | (with_reducible refine gFalse ?_; simp only [go_sem])
          | (refine gSymS ?_; simp only [go_sem, List.length_map, Int.toNat_natCast, hxi, TRange.enc, Int.toNat_zero, Int.natCast_zero, Int.lt_irrefl, decide_false]) | (refine gSym ?_; simp only [go_sem, Int.lt_irrefl, decide_false])
          | (refine drawE_intro [[.post, .un, .post, .post, .post, .post, .post, .post, .post, .post, .post, .post, .post, .post, .post, .post, .post, .post, .post, .post, .post, .post, .post, .post], [.un, .post, .post, .post, .post, .post, .post, .post, .post, .post, .post, .post, .post, .post, .post, .post, .post, .post, .post, .post, .post, .post, .post, .post], [.pre, .pre, .post, .post, .post, .post, .post, .post, .post, .post, .post, .post, .post, .post, .post, .post, .post, .post, .post, .post, .post, .post, .post, .post], [.pre, .pre, .pre, .post, .post, .post, .post, .post, .post, .post, .post, .post, .post, .post, .post, .post, .post, .post, .post, .post, .post, .post, .post, .post], [.pre, .pre, .pre, .pre, .post, .post, .post, .post, .post, .post, .post, .post, .post, .post, .post, .post, .post, .post, .post, .post, .post, .post, .post, .post], [.pre, .pre, .pre, .pre, .pre, .post, .post, .post, .post, .post, .post, .post, .post, .post, .post, .post, .post, .post, .post, .post, .post, .post, .post, .post], [.pre, .pre, .pre, .pre, .pre, .pre, .post, .post, .post, .post, .post, .post, .post, .post, .post, .post, .post, .post, .post, .post, .post, .post, .post, .post], [.pre, .pre, .pre, .pre, .pre, .pre, .pre, .post, .post, .post, .post, .post, .post, .post, .post, .post, .post, .post, .post, .post, .post, .post, .post, .post], [.pre, .pre, .pre, .pre, .pre, .pre, .pre, .pre, .post, .post, .post, .post, .post, .post, .post, .post, .post, .post, .post, .post, .post, .post, .post, .post], [.pre, .pre, .pre, .pre, .pre, .pre, .pre, .pre, .pre, .post, .post, .post, .post, .post, .post, .post, .post, .post, .post, .post, .post, .post, .post, .post], [.pre, .pre, .pre, .pre, .pre, .pre, .pre, .pre, .pre, .pre, .post, .un, .un, .post, .post, .post, .un, .un, .un, .un, .un, .post, .post, .post], [.pre, .pre, .pre, .pre, .pre, .pre, .pre, .pre, .pre, .pre, .un, .post, .post, .post, .post, .post, .un, .un, .un, .un, .un, .post, .post, .post], [.pre, .pre, .pre, .pre, .pre, .pre, .pre, .pre, .pre, .pre, .un, .pre, .post, .post, .post, .post, .un, .un, .un, .un, .un, .post, .post, .post], [.pre, .pre, .pre, .pre, .pre, .pre, .pre, .pre, .pre, .pre, .pre, .pre, .pre, .post, .post, .post, .un, .un, .un, .un, .un, .post, .post, .post], [.pre, .pre, .pre, .pre, .pre, .pre, .pre, .pre, .pre, .pre, .pre, .pre, .pre, .pre, .post, .post, .un, .un, .un, .un, .un, .post, .post, .post], [.pre, .pre, .pre, .pre, .pre, .pre, .pre, .pre, .pre, .pre, .pre, .pre, .pre, .pre, .pre, .post, .un, .un, .un, .un, .un, .post, .post, .post], [.pre, .pre, .pre, .pre, .pre, .pre, .pre, .pre, .pre, .pre, .un, .un, .un, .un, .un, .un, .post, .un, .post, .post, .post, .post, .post, .post], [.pre, .pre, .pre, .pre, .pre, .pre, .pre, .pre, .pre, .pre, .un, .un, .un, .un, .un, .un, .un, .post, .post, .post, .post, .post, .post, .post], [.pre, .pre, .pre, .pre, .pre, .pre, .pre, .pre, .pre, .pre, .un, .un, .un, .un, .un, .un, .pre, .pre, .post, .post, .post, .post, .post, .post], [.pre, .pre, .pre, .pre, .pre, .pre, .pre, .pre, .pre, .pre, .un, .un, .un, .un, .un, .un, .pre, .pre, .pre, .post, .post, .post, .post, .post], [.pre, .pre, .pre, .pre, .pre, .pre, .pre, .pre, .pre, .pre, .un, .un, .un, .un, .un, .un, .pre, .pre, .pre, .pre, .post, .post, .post, .post], [.pre, .pre, .pre, .pre, .pre, .pre, .pre, .pre, .pre, .pre, .pre, .pre, .pre, .pre, .pre, .pre, .pre, .pre, .pre, .pre, .pre, .post, .post, .post], [.pre, .pre, .pre, .pre, .pre, .pre, .pre, .pre, .pre, .pre, .pre, .pre, .pre, .pre, .pre, .pre, .pre, .pre, .pre, .pre, .pre, .pre, .post, .post], [.pre, .pre, .pre, .pre, .pre, .pre, .pre, .pre, .pre, .pre, .pre, .pre, .pre, .pre, .pre, .pre, .pre, .pre, .pre, .pre, .pre, .pre, .pre, .post]] (by kernel_rfl) (by rfl) ?_; simp only [go_sem, List.length_map, hxi, TRange.enc, Int.toNat_zero])
          | (refine cSplit (fun h => ?_) (fun h => ?_) <;> simp only [go_sem])
          | (with_reducible refine And.intro ?_ ?_; (focus (first | omega | (exact ⟨by omega, by omega⟩) | (simp; done) | (simp; omega)))))
        all_goals first
          | (rw [hr] at h; rw [hbad (by revert h; cases rOk xs[0] <;> simp)])
          | (rw [hr] at h; refine RoundE.intro 1 [] ⟨by omega, hgood (by revert h; cases rOk xs[0] <;> simp)⟩ (by omega) ?_; simp only [go_sem, hw0])
      | succ j =>
        rw [rAt_succ xs j hlt] at hbad hgood
        have hxj := map_at TRange.enc xs j (by omega)
        have hs : IntKind.i64.wrap (((j + 1 : Nat) : Int) - 1) = (j : Int) := by simp only [maxLen] at hm; rw [w64] <;> omega
        have hg : decide ((0 : Int) < ((j + 1 : Nat) : Int)) = true := decide_eq_true (by omega)
        have hr : rOk ⟨xs[j + 1].low, xs[j + 1].high⟩ = rOk xs[j + 1] := rfl
        have hd : decide (xs[j + 1].low ≤ xs[j].high) = !decide (xs[j].high < xs[j + 1].low) := by by_cases hx : xs[j].high < xs[j + 1].low <;> simp [hx] <;> omega
        try simp only [go_sem]
        repeat' (first
          | (refine CallS.intro (by first | assumption | (apply spec_l3Fine <;> first | assumption | omega)) ?_; simp only [go_sem, List.length_map, Int.toNat_natCast, hxi, hxj, TRange.enc, hs, hg])
          | (refine CallK.intro (by first | assumption | (apply spec_l3Fine <;> first | assumption | omega)) ?_; simp only [go_sem])
          | (with_reducible refine gTrueS ?_; simp only [go_sem, List.length_map, Int.toNat_natCast, hxi, hxj, TRange.enc, hs, hg]) | (with_reducible refine gFalseS ?_; simp only [go_sem, List.length_map, Int.toNat_natCast, hxi, hxj, TRange.enc, hs, hg]) | (with_reducible refine gTrue ?_; simp only [go_sem, List.length_map, Int.toNat_natCast, hxi, hxj, TRange.enc, hs, hg]) | (with_reducible refine gFalse ?_; simp only [go_sem, List.length_map, Int.toNat_natCast, hxi, hxj, TRange.enc, hs, hg])
          | (refine gSymS ?_; simp only [go_sem, List.length_map, Int.toNat_natCast, hxi, hxj, TRange.enc, hs, hg]) | (refine gSym ?_; simp only [go_sem, List.length_map, Int.toNat_natCast, hxi, hxj, TRange.enc, hs, hg])
          | (refine drawE_intro [[.post, .un, .post, .post, .post, .post, .post, .post, .post, .post, .post, .post, .post, .post, .post, .post, .post, .post, .post, .post, .post, .post, .post, .post], [.un, .post, .post, .post, .post, .post, .post, .post, .post, .post, .post, .post, .post, .post, .post, .post, .post, .post, .post, .post, .post, .post, .post, .post], [.pre, .pre, .post, .post, .post, .post, .post, .post, .post, .post, .post, .post, .post, .post, .post, .post, .post, .post, .post, .post, .post, .post, .post, .post], [.pre, .pre, .pre, .post, .post, .post, .post, .post, .post, .post, .post, .post, .post, .post, .post, .post, .post, .post, .post, .post, .post, .post, .post, .post], [.pre, .pre, .pre, .pre, .post, .post, .post, .post, .post, .post, .post, .post, .post, .post, .post, .post, .post, .post, .post, .post, .post, .post, .post, .post], [.pre, .pre, .pre, .pre, .pre, .post, .post, .post, .post, .post, .post, .post, .post, .post, .post, .post, .post, .post, .post, .post, .post, .post, .post, .post], [.pre, .pre, .pre, .pre, .pre, .pre, .post, .post, .post, .post, .post, .post, .post, .post, .post, .post, .post, .post, .post, .post, .post, .post, .post, .post], [.pre, .pre, .pre, .pre, .pre, .pre, .pre, .post, .post, .post, .post, .post, .post, .post, .post, .post, .post, .post, .post, .post, .post, .post, .post, .post], [.pre, .pre, .pre, .pre, .pre, .pre, .pre, .pre, .post, .post, .post, .post, .post, .post, .post, .post, .post, .post, .post, .post, .post, .post, .post, .post], [.pre, .pre, .pre, .pre, .pre, .pre, .pre, .pre, .pre, .post, .post, .post, .post, .post, .post, .post, .post, .post, .post, .post, .post, .post, .post, .post], [.pre, .pre, .pre, .pre, .pre, .pre, .pre, .pre, .pre, .pre, .post, .un, .un, .post, .post, .post, .un, .un, .un, .un, .un, .post, .post, .post], [.pre, .pre, .pre, .pre, .pre, .pre, .pre, .pre, .pre, .pre, .un, .post, .post, .post, .post, .post, .un, .un, .un, .un, .un, .post, .post, .post], [.pre, .pre, .pre, .pre, .pre, .pre, .pre, .pre, .pre, .pre, .un, .pre, .post, .post, .post, .post, .un, .un, .un, .un, .un, .post, .post, .post], [.pre, .pre, .pre, .pre, .pre, .pre, .pre, .pre, .pre, .pre, .pre, .pre, .pre, .post, .post, .post, .un, .un, .un, .un, .un, .post, .post, .post], [.pre, .pre, .pre, .pre, .pre, .pre, .pre, .pre, .pre, .pre, .pre, .pre, .pre, .pre, .post, .post, .un, .un, .un, .un, .un, .post, .post, .post], [.pre, .pre, .pre, .pre, .pre, .pre, .pre, .pre, .pre, .pre, .pre, .pre, .pre, .pre, .pre, .post, .un, .un, .un, .un, .un, .post, .post, .post], [.pre, .pre, .pre, .pre, .pre, .pre, .pre, .pre, .pre, .pre, .un, .un, .un, .un, .un, .un, .post, .un, .post, .post, .post, .post, .post, .post], [.pre, .pre, .pre, .pre, .pre, .pre, .pre, .pre, .pre, .pre, .un, .un, .un, .un, .un, .un, .un, .post, .post, .post, .post, .post, .post, .post], [.pre, .pre, .pre, .pre, .pre, .pre, .pre, .pre, .pre, .pre, .un, .un, .un, .un, .un, .un, .pre, .pre, .post, .post, .post, .post, .post, .post], [.pre, .pre, .pre, .pre, .pre, .pre, .pre, .pre, .pre, .pre, .un, .un, .un, .un, .un, .un, .pre, .pre, .pre, .post, .post, .post, .post, .post], [.pre, .pre, .pre, .pre, .pre, .pre, .pre, .pre, .pre, .pre, .un, .un, .un, .un, .un, .un, .pre, .pre, .pre, .pre, .post, .post, .post, .post], [.pre, .pre, .pre, .pre, .pre, .pre, .pre, .pre, .pre, .pre, .pre, .pre, .pre, .pre, .pre, .pre, .pre, .pre, .pre, .pre, .pre, .post, .post, .post], [.pre, .pre, .pre, .pre, .pre, .pre, .pre, .pre, .pre, .pre, .pre, .pre, .pre, .pre, .pre, .pre, .pre, .pre, .pre, .pre, .pre, .pre, .post, .post], [.pre, .pre, .pre, .pre, .pre, .pre, .pre, .pre, .pre, .pre, .pre, .pre, .pre, .pre, .pre, .pre, .pre, .pre, .pre, .pre, .pre, .pre, .pre, .post]] (by kernel_rfl) (by rfl) ?_; simp only [go_sem, List.length_map, Int.toNat_natCast, hxi, TRange.enc])
          | (refine cSplit (fun h => ?_) (fun h => ?_) <;> simp only [go_sem])
          | (with_reducible refine And.intro ?_ ?_; (focus (first | omega | (exact ⟨by omega, by omega⟩) | (simp; done) | (simp; omega)))))
        all_goals first
          | (rw [hr, hd] at h; rw [hbad (by revert h; cases rOk xs[j + 1] <;> cases decide (xs[j].high < xs[j + 1].low) <;> simp)])
          | (rw [hr, hd] at h; refine RoundE.intro (j + 1 + 1) [] ⟨by omega, hgood (by revert h; cases rOk xs[j + 1] <;> cases decide (xs[j].high < xs[j + 1].low) <;> simp)⟩ (by omega) ?_; simp only [go_sem, hw])
    · have h1' := of_decide_eq_false h1
      have hi2 : i = xs.length := by omega
      subst hi2
      simp only [go_sem]
      simp [areR, he]

set_option maxRecDepth 100000 in
theorem impl_AddRange (xs : List TRange) (l h : Int) (hx : xs.length ≤ 1048576) : PureCall Try.prog 36 [.one (.sl 2 (xs.map TRange.enc)), .agg [.int .i64 l, .int .i64 h]] [.one (.sl 2 ((addR xs ⟨l, h⟩).map TRange.enc))] := by
  refine pure_ev Try.func36 rfl Try.call36 Try.checked.mixed [.d (.sl 2 (xs.map TRange.enc)), .agg [.d (.int .i64 l), .d (.int .i64 h)], .junk, .junk, .junk, .junk, .junk, .junk, .junk, .junk, .junk, .junk, .junk, .junk, .junk, .junk, .junk, .junk, .junk, .junk, .junk, .junk, .junk, .junk, .junk, .junk, .junk, .junk, .junk, .junk, .junk, .junk, .junk, .junk, .junk, .junk, .junk, .junk, .junk, .junk, .junk, .junk, .junk, .junk, .junk, .junk, .junk, .junk, .junk, .junk, .junk, .junk, .junk, .junk, .junk, .junk, .junk, .junk, .junk, .junk, .junk, .junk, .junk, .junk, .junk, .junk, .junk, .junk, .junk, .junk, .junk] rfl [.tmp 4] rfl ?_
  intro ok
  have hm := len_of ok
  simp only [go_sem]
  refine CallS.intro (impl_IsRanges xs) ?_
  simp only [go_sem]
  repeat' (first
    | (refine CallS.intro (impl_isRange l h) ?_; simp only [go_sem, List.length_map])
    | (refine CallK.intro (impl_isRange l h) ?_; simp only [go_sem])
    | (refine gSymS ?_; simp only [go_sem]) | (refine gSym ?_; simp only [go_sem, List.length_map]))
  have hz : (bif !areR xs then true else !rOk ⟨l, h⟩) = !(areR xs && rOk ⟨l, h⟩) := by cases areR xs <;> cases rOk ⟨l, h⟩ <;> rfl
  rw [hz]
  refine cSplit (fun h0 => ?_) (fun h0 => ?_)
  · have h5 : (areR xs && rOk ⟨l, h⟩) = false := by cases hq : (areR xs && rOk ⟨l, h⟩) with | false => rfl | true => rw [hq] at h0; cases h0
    have htk : (xs.map TRange.enc).take xs.length = xs.map TRange.enc := List.take_of_length_le (by simp)
    simp only [go_sem]
    refine CallS.intro (impl_copyRanges xs (by omega)) ?_
    simp only [go_sem]
    simp [addR, h5, htk]
  · have h5 : (areR xs && rOk ⟨l, h⟩) = true := by cases hq : (areR xs && rOk ⟨l, h⟩) with | true => rfl | false => rw [hq] at h0; cases h0
    simp only [go_sem]
    refine LoopK.intro (fun i : Nat => ⟨[.d (.sl 2 (xs.map TRange.enc)), .junk, .junk, .ptr 0 0 0, .nils 2, .sl 1 0 (arS xs ⟨l, h⟩ i).1.length, .d (.bool (arS xs ⟨l, h⟩ i).2.1), .junk, .junk, .junk, .junk, .junk, .junk, .junk, .junk, .junk, .junk, .junk, .junk, .junk, .d (.sl 2 (xs.map TRange.enc)), .d (.int .i64 xs.length), .d (.int .i64 i), .junk, .junk, .junk, .junk, .junk, .junk, .junk, .junk, .junk, .junk, .junk, .junk, .junk, .junk, .junk, .junk, .junk, .junk, .junk, .junk, .junk, .junk, .junk, .junk, .junk, .junk, .junk, .junk, .junk, .junk, .junk, .junk, .junk, .junk, .junk, .junk, .junk, .junk, .junk, .junk, .junk, .junk, .junk, .junk, .junk, .junk, .junk, .junk], [.box [.d (.int .i64 (arS xs ⟨l, h⟩ i).2.2.low), .d (.int .i64 (arS xs ⟨l, h⟩ i).2.2.high)], .arr 2 ((arS xs ⟨l, h⟩ i).1.map TRange.enc) true]⟩)
      (fun i => xs.length - i) (fun i => i ≤ xs.length) 0 [0, 1] (by omega) ?_ ?_
    · simp only [go_sem]; simp [arS]
    · intro i hi
      have hal := arS_len xs ⟨l, h⟩ i
      have hal2 : (arS xs ⟨l, h⟩ i).1.length ≤ i + 1 := by split at hal <;> omega
      simp only [go_sem]
      refine cSplit (fun h1 => ?_) (fun h1 => ?_)
      · have h1' := of_decide_eq_true h1
        have hlt : i < xs.length := by omega
        have hxi := map_at TRange.enc xs i hlt
        have hw := inc hlt hm
        have hst := arS_step xs ⟨l, h⟩ i hlt
        generalize hs : arS xs ⟨l, h⟩ i = s at hst hal2
        obtain ⟨o, p, ⟨rl, rh⟩⟩ := s
        simp only at hal2
        by_cases hA : xs[i].high < rl
        · have hA' := decide_eq_true hA
          simp only [arStep, hA, if_true] at hst
          try simp only [go_sem, List.length_map, Int.toNat_natCast, hxi, TRange.enc, hA']
          repeat' (first
            | (refine CallS.intro (by first | assumption | (apply impl_IsRanges <;> first | assumption | omega) | (apply impl_isRange <;> first | assumption | omega) | (apply impl_copyRanges <;> first | assumption | omega)) ?_; simp only [go_sem, List.length_map, Int.toNat_natCast, hxi, TRange.enc, hA'])
            | (refine CallK.intro (by first | assumption | (apply impl_IsRanges <;> first | assumption | omega) | (apply impl_isRange <;> first | assumption | omega) | (apply impl_copyRanges <;> first | assumption | omega)) ?_; simp only [go_sem, List.length_map, Int.toNat_natCast, hxi, TRange.enc, hA'])
            | (with_reducible refine gTrueS ?_; simp only [go_sem, List.length_map, Int.toNat_natCast, hxi, TRange.enc, hA']) | (with_reducible refine gFalseS ?_; simp only [go_sem, List.length_map, Int.toNat_natCast, hxi, TRange.enc, hA']) | (with_reducible refine gTrue ?_; simp only [go_sem, List.length_map, Int.toNat_natCast, hxi, TRange.enc, hA']) | (with_reducible refine gFalse ?_; simp only [go_sem, List.length_map, Int.toNat_natCast, hxi, TRange.enc, hA'])
            | (refine gSymS ?_; simp only [go_sem, List.length_map, Int.toNat_natCast, hxi, TRange.enc, hA']) | (refine gSym ?_; simp only [go_sem, List.length_map, Int.toNat_natCast, hxi, TRange.enc, hA'])
            | (refine cSplit (fun h => ?_) (fun h => ?_) <;> simp only [go_sem, List.length_map, Int.toNat_natCast, hxi, TRange.enc, hA'])
            | (with_reducible refine And.intro ?_ ?_; (focus (first | omega | (exact ⟨by omega, by omega⟩) | (simp; done) | (simp; omega)))))
          all_goals (refine RoundE.intro (i + 1) [0, 4] (by omega) (by omega) ?_; simp only [go_sem, hw, hst]; simp [TRange.enc])
        · have hA' := decide_eq_false hA
          by_cases hB : rh < xs[i].low
          · have hB' := decide_eq_true hB
            simp only [arStep, hA, hB, if_true, if_false] at hst
            cases p with
            | true =>
              try simp only [go_sem, List.length_map, Int.toNat_natCast, hxi, TRange.enc, hA', hB']
              repeat' (first
                | (refine CallS.intro (by first | assumption | (apply impl_IsRanges <;> first | assumption | omega) | (apply impl_isRange <;> first | assumption | omega) | (apply impl_copyRanges <;> first | assumption | omega)) ?_; simp only [go_sem, List.length_map, Int.toNat_natCast, hxi, TRange.enc, hA', hB'])
                | (refine CallK.intro (by first | assumption | (apply impl_IsRanges <;> first | assumption | omega) | (apply impl_isRange <;> first | assumption | omega) | (apply impl_copyRanges <;> first | assumption | omega)) ?_; simp only [go_sem, List.length_map, Int.toNat_natCast, hxi, TRange.enc, hA', hB'])
                | (with_reducible refine gTrueS ?_; simp only [go_sem, List.length_map, Int.toNat_natCast, hxi, TRange.enc, hA', hB']) | (with_reducible refine gFalseS ?_; simp only [go_sem, List.length_map, Int.toNat_natCast, hxi, TRange.enc, hA', hB']) | (with_reducible refine gTrue ?_; simp only [go_sem, List.length_map, Int.toNat_natCast, hxi, TRange.enc, hA', hB']) | (with_reducible refine gFalse ?_; simp only [go_sem, List.length_map, Int.toNat_natCast, hxi, TRange.enc, hA', hB'])
                | (refine gSymS ?_; simp only [go_sem, List.length_map, Int.toNat_natCast, hxi, TRange.enc, hA', hB']) | (refine gSym ?_; simp only [go_sem, List.length_map, Int.toNat_natCast, hxi, TRange.enc, hA', hB'])
                | (refine cSplit (fun h => ?_) (fun h => ?_) <;> simp only [go_sem, List.length_map, Int.toNat_natCast, hxi, TRange.enc, hA', hB'])
                | (with_reducible refine And.intro ?_ ?_; (focus (first | omega | (exact ⟨by omega, by omega⟩) | (simp; done) | (simp; omega)))))
              all_goals (refine RoundE.intro (i + 1) [0, 4] (by omega) (by omega) ?_; simp only [go_sem, hw, hst]; simp [TRange.enc])
            | false =>
              try simp only [go_sem, List.length_map, Int.toNat_natCast, hxi, TRange.enc, hA', hB']
              repeat' (first
                | (refine CallS.intro (by first | assumption | (apply impl_IsRanges <;> first | assumption | omega) | (apply impl_isRange <;> first | assumption | omega) | (apply impl_copyRanges <;> first | assumption | omega)) ?_; simp only [go_sem, List.length_map, Int.toNat_natCast, hxi, TRange.enc, hA', hB'])
                | (refine CallK.intro (by first | assumption | (apply impl_IsRanges <;> first | assumption | omega) | (apply impl_isRange <;> first | assumption | omega) | (apply impl_copyRanges <;> first | assumption | omega)) ?_; simp only [go_sem, List.length_map, Int.toNat_natCast, hxi, TRange.enc, hA', hB'])
                | (with_reducible refine gTrueS ?_; simp only [go_sem, List.length_map, Int.toNat_natCast, hxi, TRange.enc, hA', hB']) | (with_reducible refine gFalseS ?_; simp only [go_sem, List.length_map, Int.toNat_natCast, hxi, TRange.enc, hA', hB']) | (with_reducible refine gTrue ?_; simp only [go_sem, List.length_map, Int.toNat_natCast, hxi, TRange.enc, hA', hB']) | (with_reducible refine gFalse ?_; simp only [go_sem, List.length_map, Int.toNat_natCast, hxi, TRange.enc, hA', hB'])
                | (refine gSymS ?_; simp only [go_sem, List.length_map, Int.toNat_natCast, hxi, TRange.enc, hA', hB']) | (refine gSym ?_; simp only [go_sem, List.length_map, Int.toNat_natCast, hxi, TRange.enc, hA', hB'])
                | (refine cSplit (fun h => ?_) (fun h => ?_) <;> simp only [go_sem, List.length_map, Int.toNat_natCast, hxi, TRange.enc, hA', hB'])
                | (with_reducible refine And.intro ?_ ?_; (focus (first | omega | (exact ⟨by omega, by omega⟩) | (simp; done) | (simp; omega)))))
              all_goals (refine RoundE.intro (i + 1) [0, 6] (by omega) (by omega) ?_; simp only [go_sem, hw, hst]; simp [TRange.enc])
          · have hB' := decide_eq_false hB
            simp only [arStep, hA, hB, if_false] at hst
            try simp only [go_sem, List.length_map, Int.toNat_natCast, hxi, TRange.enc, hA', hB']
            repeat' (first
              | (refine CallS.intro (by first | assumption | (apply impl_IsRanges <;> first | assumption | omega) | (apply impl_isRange <;> first | assumption | omega) | (apply impl_copyRanges <;> first | assumption | omega)) ?_; simp only [go_sem, List.length_map, Int.toNat_natCast, hxi, TRange.enc, hA', hB'])
              | (refine CallK.intro (by first | assumption | (apply impl_IsRanges <;> first | assumption | omega) | (apply impl_isRange <;> first | assumption | omega) | (apply impl_copyRanges <;> first | assumption | omega)) ?_; simp only [go_sem, List.length_map, Int.toNat_natCast, hxi, TRange.enc, hA', hB'])
              | (with_reducible refine gTrueS ?_; simp only [go_sem, List.length_map, Int.toNat_natCast, hxi, TRange.enc, hA', hB']) | (with_reducible refine gFalseS ?_; simp only [go_sem, List.length_map, Int.toNat_natCast, hxi, TRange.enc, hA', hB']) | (with_reducible refine gTrue ?_; simp only [go_sem, List.length_map, Int.toNat_natCast, hxi, TRange.enc, hA', hB']) | (with_reducible refine gFalse ?_; simp only [go_sem, List.length_map, Int.toNat_natCast, hxi, TRange.enc, hA', hB'])
              | (refine gSymS ?_; simp only [go_sem, List.length_map, Int.toNat_natCast, hxi, TRange.enc, hA', hB']) | (refine gSym ?_; simp only [go_sem, List.length_map, Int.toNat_natCast, hxi, TRange.enc, hA', hB'])
              | (refine cSplit (fun h => ?_) (fun h => ?_) <;> simp only [go_sem, List.length_map, Int.toNat_natCast, hxi, TRange.enc, hA', hB'])
              | (with_reducible refine And.intro ?_ ?_; (focus (first | omega | (exact ⟨by omega, by omega⟩) | (simp; done) | (simp; omega)))))
            all_goals (refine RoundE.intro (i + 1) [0, 1] (by omega) (by omega) ?_; simp only [go_sem, hw, hst]; simp [minI, maxI])
      · have h1' := of_decide_eq_false h1
        have hi2 : i = xs.length := by omega
        subst hi2
        generalize hs : arS xs ⟨l, h⟩ xs.length = s at hal2
        obtain ⟨o, p, ⟨rl, rh⟩⟩ := s
        simp only at hal2
        cases p with
        | true =>
          try simp only [go_sem, List.length_map]
          repeat' (first
            | (refine CallS.intro (by first | assumption | (apply impl_IsRanges <;> first | assumption | omega) | (apply impl_isRange <;> first | assumption | omega) | (apply impl_copyRanges <;> first | assumption | omega)) ?_; simp only [go_sem, List.length_map])
            | (refine CallK.intro (by first | assumption | (apply impl_IsRanges <;> first | assumption | omega) | (apply impl_isRange <;> first | assumption | omega) | (apply impl_copyRanges <;> first | assumption | omega)) ?_; simp only [go_sem, List.length_map])
            | (with_reducible refine gTrueS ?_; simp only [go_sem, List.length_map]) | (with_reducible refine gFalseS ?_; simp only [go_sem, List.length_map]) | (with_reducible refine gTrue ?_; simp only [go_sem, List.length_map]) | (with_reducible refine gFalse ?_; simp only [go_sem, List.length_map])
            | (refine gSymS ?_; simp only [go_sem, List.length_map]) | (refine gSym ?_; simp only [go_sem, List.length_map])
            | (refine cSplit (fun h => ?_) (fun h => ?_) <;> simp only [go_sem, List.length_map])
            | (with_reducible refine And.intro ?_ ?_; (focus (first | omega | (exact ⟨by omega, by omega⟩) | (simp; done) | (simp; omega)))))
          all_goals simp [addR, h5, hs]
        | false =>
          try simp only [go_sem, List.length_map]
          repeat' (first
            | (refine CallS.intro (by first | assumption | (apply impl_IsRanges <;> first | assumption | omega) | (apply impl_isRange <;> first | assumption | omega) | (apply impl_copyRanges <;> first | assumption | omega)) ?_; simp only [go_sem, List.length_map])
            | (refine CallK.intro (by first | assumption | (apply impl_IsRanges <;> first | assumption | omega) | (apply impl_isRange <;> first | assumption | omega) | (apply impl_copyRanges <;> first | assumption | omega)) ?_; simp only [go_sem, List.length_map])
            | (with_reducible refine gTrueS ?_; simp only [go_sem, List.length_map]) | (with_reducible refine gFalseS ?_; simp only [go_sem, List.length_map]) | (with_reducible refine gTrue ?_; simp only [go_sem, List.length_map]) | (with_reducible refine gFalse ?_; simp only [go_sem, List.length_map])
            | (refine gSymS ?_; simp only [go_sem, List.length_map]) | (refine gSym ?_; simp only [go_sem, List.length_map])
            | (refine cSplit (fun h => ?_) (fun h => ?_) <;> simp only [go_sem, List.length_map])
            | (with_reducible refine And.intro ?_ ?_; (focus (first | omega | (exact ⟨by omega, by omega⟩) | (simp; done) | (simp; omega)))))
          all_goals (simp [addR, h5, hs, TRange.enc]; try exact List.take_of_length_le (by simp))

set_option maxRecDepth 100000 in
theorem spec_AddRange (xs : List TRange) (l h : Int) (hx : xs.length ≤ 1048576) : PureCall Try.prog 76 [.one (.sl 2 (xs.map TRange.enc)), .agg [.int .i64 l, .int .i64 h]] [.one (.sl 2 ((addR xs ⟨l, h⟩).map TRange.enc))] := by
  refine pure_ev Try.func76 rfl Try.call76 Try.checked.mixed [.d (.sl 2 (xs.map TRange.enc)), .agg [.d (.int .i64 l), .d (.int .i64 h)], .junk, .junk, .junk, .junk, .junk, .junk, .junk, .junk, .junk, .junk, .junk, .junk, .junk, .junk, .junk, .junk, .junk, .junk, .junk, .junk, .junk, .junk, .junk, .junk, .junk, .junk, .junk, .junk, .junk, .junk, .junk, .junk, .junk, .junk, .junk, .junk, .junk, .junk, .junk, .junk, .junk, .junk, .junk, .junk, .junk, .junk, .junk, .junk, .junk, .junk, .junk, .junk, .junk, .junk, .junk, .junk, .junk, .junk, .junk, .junk, .junk, .junk, .junk, .junk, .junk, .junk, .junk, .junk, .junk, .junk, .junk, .junk, .junk, .junk, .junk, .junk, .junk, .junk, .junk, .junk, .junk, .junk, .junk, .junk, .junk, .junk] rfl [.tmp 4] rfl ?_
  intro ok
  have hm := len_of ok
  simp only [go_sem]
  refine CallS.intro (spec_IsRanges xs) ?_
  simp only [go_sem]
  repeat' (first
    | (refine CallS.intro (spec_l3Fine l h) ?_; simp only [go_sem, List.length_map])
    | (refine CallK.intro (spec_l3Fine l h) ?_; simp only [go_sem])
    | (refine gSymS ?_; simp only [go_sem]) | (refine gSym ?_; simp only [go_sem, List.length_map]))
  have hz : (bif !areR xs then true else !rOk ⟨l, h⟩) = !(areR xs && rOk ⟨l, h⟩) := by cases areR xs <;> cases rOk ⟨l, h⟩ <;> rfl
  rw [hz]
  refine cSplit (fun h0 => ?_) (fun h0 => ?_)
  · have h5 : (areR xs && rOk ⟨l, h⟩) = false := by cases hq : (areR xs && rOk ⟨l, h⟩) with | false => rfl | true => rw [hq] at h0; cases h0
    have htk : (xs.map TRange.enc).take xs.length = xs.map TRange.enc := List.take_of_length_le (by simp)
    simp only [go_sem]
    refine CallS.intro (spec_l3Copy xs (by omega)) ?_
    simp only [go_sem]
    simp [addR, h5, htk]
  · have h5 : (areR xs && rOk ⟨l, h⟩) = true := by cases hq : (areR xs && rOk ⟨l, h⟩) with | true => rfl | false => rw [hq] at h0; cases h0
    simp only [go_sem]
    refine LoopK.intro (fun i : Nat => ⟨[.d (.sl 2 (xs.map TRange.enc)), .junk, .junk, .ptr 0 0 0, .nils 2, .sl 1 0 (arS xs ⟨l, h⟩ i).1.length, .d (.bool (arS xs ⟨l, h⟩ i).2.1), .d (.int .i64 i), .junk, .junk, .junk, .junk, .junk, .junk, .junk, .junk, .junk, .junk, .junk, .junk, .junk, .junk, .junk, .junk, .junk, .junk, .junk, .junk, .junk, .junk, .junk, .junk, .junk, .junk, .junk, .junk, .junk, .junk, .junk, .junk, .junk, .junk, .junk, .junk, .junk, .junk, .junk, .junk, .junk, .junk, .junk, .junk, .junk, .junk, .junk, .junk, .junk, .junk, .junk, .junk, .junk, .junk, .junk, .junk, .junk, .junk, .junk, .junk, .junk, .junk, .junk, .junk, .junk, .junk, .junk, .junk, .junk, .junk, .junk, .junk, .junk, .junk, .junk, .junk, .junk, .junk, .junk, .junk], [.box [.d (.int .i64 (arS xs ⟨l, h⟩ i).2.2.low), .d (.int .i64 (arS xs ⟨l, h⟩ i).2.2.high)], .arr 2 ((arS xs ⟨l, h⟩ i).1.map TRange.enc) true]⟩)
      (fun i => xs.length - i) (fun i => i ≤ xs.length) 0 [0, 1] (by omega) ?_ ?_
    · simp only [go_sem]; simp [arS]
    · intro i hi
      have hal := arS_len xs ⟨l, h⟩ i
      have hal2 : (arS xs ⟨l, h⟩ i).1.length ≤ i + 1 := by split at hal <;> omega
      simp only [go_sem, List.length_map]
      refine cSplit (fun h1 => ?_) (fun h1 => ?_)
      · have h1' := of_decide_eq_true h1
        have hlt : i < xs.length := by omega
        have hxi := map_at TRange.enc xs i hlt
        have hw := inc hlt hm
        have hst := arS_step xs ⟨l, h⟩ i hlt
        generalize hs : arS xs ⟨l, h⟩ i = s at hst hal2
        obtain ⟨o, p, ⟨rl, rh⟩⟩ := s
        simp only at hal2
        by_cases hA : xs[i].high < rl
        · have hA' := decide_eq_true hA
          simp only [arStep, hA, if_true] at hst
          try simp only [go_sem]
          repeat' (first
            | (refine CallS.intro (by first | assumption | (apply spec_IsRanges <;> first | assumption | omega) | (apply spec_l3Fine <;> first | assumption | omega) | (apply spec_l3Copy <;> first | assumption | omega)) ?_; simp only [go_sem, List.length_map, Int.toNat_natCast, hxi, TRange.enc, hA'])
            | (refine CallK.intro (by first | assumption | (apply spec_IsRanges <;> first | assumption | omega) | (apply spec_l3Fine <;> first | assumption | omega) | (apply spec_l3Copy <;> first | assumption | omega)) ?_; simp only [go_sem, List.length_map, Int.toNat_natCast, hxi, TRange.enc, hA'])
            | (with_reducible refine gTrueS ?_; simp only [go_sem, List.length_map, Int.toNat_natCast, hxi, TRange.enc, hA']) | (with_reducible refine gFalseS ?_; simp only [go_sem, List.length_map, Int.toNat_natCast, hxi, TRange.enc, hA']) | (with_reducible refine gTrue ?_; simp only [go_sem, List.length_map, Int.toNat_natCast, hxi, TRange.enc, hA']) | (with_reducible refine gFalse ?_; simp only [go_sem, List.length_map, Int.toNat_natCast, hxi, TRange.enc, hA'])
            | (refine gSymS ?_; simp only [go_sem, List.length_map, Int.toNat_natCast, hxi, TRange.enc, hA']) | (refine gSym ?_; simp only [go_sem, List.length_map, Int.toNat_natCast, hxi, TRange.enc, hA'])
            | (refine drawE_intro [[.post, .un, .post, .post, .post, .un, .un, .post, .post], [.un, .post, .post, .post, .post, .un, .un, .post, .post], [.pre, .pre, .post, .post, .post, .un, .un, .post, .post], [.pre, .pre, .pre, .post, .post, .un, .un, .post, .post], [.pre, .pre, .pre, .pre, .post, .un, .un, .post, .post], [.un, .un, .un, .un, .un, .post, .post, .post, .post], [.un, .un, .un, .un, .un, .pre, .post, .post, .post], [.pre, .pre, .pre, .pre, .pre, .pre, .pre, .post, .post], [.pre, .pre, .pre, .pre, .pre, .pre, .pre, .pre, .post]] (by kernel_rfl) (by rfl) ?_; simp only [go_sem, List.length_map, Int.toNat_natCast, hxi, TRange.enc, hA'])
            | (refine drawE_intro [[.post, .post, .un, .un, .un, .un, .un, .post, .post, .post], [.pre, .post, .un, .un, .un, .un, .un, .post, .post, .post], [.un, .un, .post, .un, .post, .post, .post, .post, .post, .post], [.un, .un, .un, .post, .post, .post, .post, .post, .post, .post], [.un, .un, .pre, .pre, .post, .post, .post, .post, .post, .post], [.un, .un, .pre, .pre, .pre, .post, .post, .post, .post, .post], [.un, .un, .pre, .pre, .pre, .pre, .post, .post, .post, .post], [.pre, .pre, .pre, .pre, .pre, .pre, .pre, .post, .post, .post], [.pre, .pre, .pre, .pre, .pre, .pre, .pre, .pre, .post, .post], [.pre, .pre, .pre, .pre, .pre, .pre, .pre, .pre, .pre, .post]] (by kernel_rfl) (by rfl) ?_; simp only [go_sem, List.length_map, Int.toNat_natCast, hxi, TRange.enc, hA'])
            | (refine cSplit (fun h => ?_) (fun h => ?_) <;> simp only [go_sem, List.length_map, Int.toNat_natCast, hxi, TRange.enc, hA'])
            | (with_reducible refine And.intro ?_ ?_; (focus (first | omega | (exact ⟨by omega, by omega⟩) | (simp; done) | (simp; omega)))))
          all_goals (refine RoundE.intro (i + 1) [0, 3] (by omega) (by omega) ?_; simp only [go_sem, hw, hst]; simp [TRange.enc])
        · have hA' := decide_eq_false hA
          by_cases hB : rh < xs[i].low
          · have hB' := decide_eq_true hB
            simp only [arStep, hA, hB, if_true, if_false] at hst
            cases p with
            | true =>
              try simp only [go_sem]
              repeat' (first
                | (refine CallS.intro (by first | assumption | (apply spec_IsRanges <;> first | assumption | omega) | (apply spec_l3Fine <;> first | assumption | omega) | (apply spec_l3Copy <;> first | assumption | omega)) ?_; simp only [go_sem, List.length_map, Int.toNat_natCast, hxi, TRange.enc, hA', hB'])
                | (refine CallK.intro (by first | assumption | (apply spec_IsRanges <;> first | assumption | omega) | (apply spec_l3Fine <;> first | assumption | omega) | (apply spec_l3Copy <;> first | assumption | omega)) ?_; simp only [go_sem, List.length_map, Int.toNat_natCast, hxi, TRange.enc, hA', hB'])
                | (with_reducible refine gTrueS ?_; simp only [go_sem, List.length_map, Int.toNat_natCast, hxi, TRange.enc, hA', hB']) | (with_reducible refine gFalseS ?_; simp only [go_sem, List.length_map, Int.toNat_natCast, hxi, TRange.enc, hA', hB']) | (with_reducible refine gTrue ?_; simp only [go_sem, List.length_map, Int.toNat_natCast, hxi, TRange.enc, hA', hB']) | (with_reducible refine gFalse ?_; simp only [go_sem, List.length_map, Int.toNat_natCast, hxi, TRange.enc, hA', hB'])
                | (refine gSymS ?_; simp only [go_sem, List.length_map, Int.toNat_natCast, hxi, TRange.enc, hA', hB']) | (refine gSym ?_; simp only [go_sem, List.length_map, Int.toNat_natCast, hxi, TRange.enc, hA', hB'])
                | (refine drawE_intro [[.post, .un, .post, .post, .post, .un, .un, .post, .post], [.un, .post, .post, .post, .post, .un, .un, .post, .post], [.pre, .pre, .post, .post, .post, .un, .un, .post, .post], [.pre, .pre, .pre, .post, .post, .un, .un, .post, .post], [.pre, .pre, .pre, .pre, .post, .un, .un, .post, .post], [.un, .un, .un, .un, .un, .post, .post, .post, .post], [.un, .un, .un, .un, .un, .pre, .post, .post, .post], [.pre, .pre, .pre, .pre, .pre, .pre, .pre, .post, .post], [.pre, .pre, .pre, .pre, .pre, .pre, .pre, .pre, .post]] (by kernel_rfl) (by rfl) ?_; simp only [go_sem, List.length_map, Int.toNat_natCast, hxi, TRange.enc, hA', hB'])
                | (refine drawE_intro [[.post, .post, .un, .un, .un, .un, .un, .post, .post, .post], [.pre, .post, .un, .un, .un, .un, .un, .post, .post, .post], [.un, .un, .post, .un, .post, .post, .post, .post, .post, .post], [.un, .un, .un, .post, .post, .post, .post, .post, .post, .post], [.un, .un, .pre, .pre, .post, .post, .post, .post, .post, .post], [.un, .un, .pre, .pre, .pre, .post, .post, .post, .post, .post], [.un, .un, .pre, .pre, .pre, .pre, .post, .post, .post, .post], [.pre, .pre, .pre, .pre, .pre, .pre, .pre, .post, .post, .post], [.pre, .pre, .pre, .pre, .pre, .pre, .pre, .pre, .post, .post], [.pre, .pre, .pre, .pre, .pre, .pre, .pre, .pre, .pre, .post]] (by kernel_rfl) (by rfl) ?_; simp only [go_sem, List.length_map, Int.toNat_natCast, hxi, TRange.enc, hA', hB'])
                | (refine cSplit (fun h => ?_) (fun h => ?_) <;> simp only [go_sem, List.length_map, Int.toNat_natCast, hxi, TRange.enc, hA', hB'])
                | (with_reducible refine And.intro ?_ ?_; (focus (first | omega | (exact ⟨by omega, by omega⟩) | (simp; done) | (simp; omega)))))
              all_goals (refine RoundE.intro (i + 1) [0, 3] (by omega) (by omega) ?_; simp only [go_sem, hw, hst]; simp [TRange.enc])
            | false =>
              try simp only [go_sem]
              repeat' (first
                | (refine CallS.intro (by first | assumption | (apply spec_IsRanges <;> first | assumption | omega) | (apply spec_l3Fine <;> first | assumption | omega) | (apply spec_l3Copy <;> first | assumption | omega)) ?_; simp only [go_sem, List.length_map, Int.toNat_natCast, hxi, TRange.enc, hA', hB'])
                | (refine CallK.intro (by first | assumption | (apply spec_IsRanges <;> first | assumption | omega) | (apply spec_l3Fine <;> first | assumption | omega) | (apply spec_l3Copy <;> first | assumption | omega)) ?_; simp only [go_sem, List.length_map, Int.toNat_natCast, hxi, TRange.enc, hA', hB'])
                | (with_reducible refine gTrueS ?_; simp only [go_sem, List.length_map, Int.toNat_natCast, hxi, TRange.enc, hA', hB']) | (with_reducible refine gFalseS ?_; simp only [go_sem, List.length_map, Int.toNat_natCast, hxi, TRange.enc, hA', hB']) | (with_reducible refine gTrue ?_; simp only [go_sem, List.length_map, Int.toNat_natCast, hxi, TRange.enc, hA', hB']) | (with_reducible refine gFalse ?_; simp only [go_sem, List.length_map, Int.toNat_natCast, hxi, TRange.enc, hA', hB'])
                | (refine gSymS ?_; simp only [go_sem, List.length_map, Int.toNat_natCast, hxi, TRange.enc, hA', hB']) | (refine gSym ?_; simp only [go_sem, List.length_map, Int.toNat_natCast, hxi, TRange.enc, hA', hB'])
                | (refine drawE_intro [[.post, .un, .post, .post, .post, .un, .un, .post, .post], [.un, .post, .post, .post, .post, .un, .un, .post, .post], [.pre, .pre, .post, .post, .post, .un, .un, .post, .post], [.pre, .pre, .pre, .post, .post, .un, .un, .post, .post], [.pre, .pre, .pre, .pre, .post, .un, .un, .post, .post], [.un, .un, .un, .un, .un, .post, .post, .post, .post], [.un, .un, .un, .un, .un, .pre, .post, .post, .post], [.pre, .pre, .pre, .pre, .pre, .pre, .pre, .post, .post], [.pre, .pre, .pre, .pre, .pre, .pre, .pre, .pre, .post]] (by kernel_rfl) (by rfl) ?_; simp only [go_sem, List.length_map, Int.toNat_natCast, hxi, TRange.enc, hA', hB'])
                | (refine drawE_intro [[.post, .post, .un, .un, .un, .un, .un, .post, .post, .post], [.pre, .post, .un, .un, .un, .un, .un, .post, .post, .post], [.un, .un, .post, .un, .post, .post, .post, .post, .post, .post], [.un, .un, .un, .post, .post, .post, .post, .post, .post, .post], [.un, .un, .pre, .pre, .post, .post, .post, .post, .post, .post], [.un, .un, .pre, .pre, .pre, .post, .post, .post, .post, .post], [.un, .un, .pre, .pre, .pre, .pre, .post, .post, .post, .post], [.pre, .pre, .pre, .pre, .pre, .pre, .pre, .post, .post, .post], [.pre, .pre, .pre, .pre, .pre, .pre, .pre, .pre, .post, .post], [.pre, .pre, .pre, .pre, .pre, .pre, .pre, .pre, .pre, .post]] (by kernel_rfl) (by rfl) ?_; simp only [go_sem, List.length_map, Int.toNat_natCast, hxi, TRange.enc, hA', hB'])
                | (refine cSplit (fun h => ?_) (fun h => ?_) <;> simp only [go_sem, List.length_map, Int.toNat_natCast, hxi, TRange.enc, hA', hB'])
                | (with_reducible refine And.intro ?_ ?_; (focus (first | omega | (exact ⟨by omega, by omega⟩) | (simp; done) | (simp; omega)))))
              all_goals (refine RoundE.intro (i + 1) [0, 5] (by omega) (by omega) ?_; simp only [go_sem, hw, hst]; simp [TRange.enc])
          · have hB' := decide_eq_false hB
            simp only [arStep, hA, hB, if_false] at hst
            try simp only [go_sem]
            repeat' (first
              | (refine CallS.intro (by first | assumption | (apply spec_IsRanges <;> first | assumption | omega) | (apply spec_l3Fine <;> first | assumption | omega) | (apply spec_l3Copy <;> first | assumption | omega)) ?_; simp only [go_sem, List.length_map, Int.toNat_natCast, hxi, TRange.enc, hA', hB'])
              | (refine CallK.intro (by first | assumption | (apply spec_IsRanges <;> first | assumption | omega) | (apply spec_l3Fine <;> first | assumption | omega) | (apply spec_l3Copy <;> first | assumption | omega)) ?_; simp only [go_sem, List.length_map, Int.toNat_natCast, hxi, TRange.enc, hA', hB'])
              | (with_reducible refine gTrueS ?_; simp only [go_sem, List.length_map, Int.toNat_natCast, hxi, TRange.enc, hA', hB']) | (with_reducible refine gFalseS ?_; simp only [go_sem, List.length_map, Int.toNat_natCast, hxi, TRange.enc, hA', hB']) | (with_reducible refine gTrue ?_; simp only [go_sem, List.length_map, Int.toNat_natCast, hxi, TRange.enc, hA', hB']) | (with_reducible refine gFalse ?_; simp only [go_sem, List.length_map, Int.toNat_natCast, hxi, TRange.enc, hA', hB'])
              | (refine gSymS ?_; simp only [go_sem, List.length_map, Int.toNat_natCast, hxi, TRange.enc, hA', hB']) | (refine gSym ?_; simp only [go_sem, List.length_map, Int.toNat_natCast, hxi, TRange.enc, hA', hB'])
              | (refine drawE_intro [[.post, .un, .post, .post, .post, .un, .un, .post, .post], [.un, .post, .post, .post, .post, .un, .un, .post, .post], [.pre, .pre, .post, .post, .post, .un, .un, .post, .post], [.pre, .pre, .pre, .post, .post, .un, .un, .post, .post], [.pre, .pre, .pre, .pre, .post, .un, .un, .post, .post], [.un, .un, .un, .un, .un, .post, .post, .post, .post], [.un, .un, .un, .un, .un, .pre, .post, .post, .post], [.pre, .pre, .pre, .pre, .pre, .pre, .pre, .post, .post], [.pre, .pre, .pre, .pre, .pre, .pre, .pre, .pre, .post]] (by kernel_rfl) (by rfl) ?_; simp only [go_sem, List.length_map, Int.toNat_natCast, hxi, TRange.enc, hA', hB'])
              | (refine drawE_intro [[.post, .post, .un, .un, .un, .un, .un, .post, .post, .post], [.pre, .post, .un, .un, .un, .un, .un, .post, .post, .post], [.un, .un, .post, .un, .post, .post, .post, .post, .post, .post], [.un, .un, .un, .post, .post, .post, .post, .post, .post, .post], [.un, .un, .pre, .pre, .post, .post, .post, .post, .post, .post], [.un, .un, .pre, .pre, .pre, .post, .post, .post, .post, .post], [.un, .un, .pre, .pre, .pre, .pre, .post, .post, .post, .post], [.pre, .pre, .pre, .pre, .pre, .pre, .pre, .post, .post, .post], [.pre, .pre, .pre, .pre, .pre, .pre, .pre, .pre, .post, .post], [.pre, .pre, .pre, .pre, .pre, .pre, .pre, .pre, .pre, .post]] (by kernel_rfl) (by rfl) ?_; simp only [go_sem, List.length_map, Int.toNat_natCast, hxi, TRange.enc])
              | (refine cSplit (fun h => ?_) (fun h => ?_) <;> simp only [go_sem, List.length_map, Int.toNat_natCast, hxi, TRange.enc, hA', hB'])
              | (with_reducible refine And.intro ?_ ?_; (focus (first | omega | (exact ⟨by omega, by omega⟩) | (simp; done) | (simp; omega)))))
            all_goals (refine RoundE.intro (i + 1) [0, 1] (by omega) (by omega) ?_; simp only [go_sem, hw, hst]; simp [minI, maxI])
      · have h1' := of_decide_eq_false h1
        have hi2 : i = xs.length := by omega
        subst hi2
        generalize hs : arS xs ⟨l, h⟩ xs.length = s at hal2
        obtain ⟨o, p, ⟨rl, rh⟩⟩ := s
        simp only at hal2
        cases p with
        | true =>
          try simp only [go_sem, List.length_map]
          repeat' (first
            | (refine CallS.intro (by first | assumption | (apply spec_IsRanges <;> first | assumption | omega) | (apply spec_l3Fine <;> first | assumption | omega) | (apply spec_l3Copy <;> first | assumption | omega)) ?_; simp only [go_sem, List.length_map])
            | (refine CallK.intro (by first | assumption | (apply spec_IsRanges <;> first | assumption | omega) | (apply spec_l3Fine <;> first | assumption | omega) | (apply spec_l3Copy <;> first | assumption | omega)) ?_; simp only [go_sem, List.length_map])
            | (with_reducible refine gTrueS ?_; simp only [go_sem, List.length_map]) | (with_reducible refine gFalseS ?_; simp only [go_sem, List.length_map]) | (with_reducible refine gTrue ?_; simp only [go_sem, List.length_map]) | (with_reducible refine gFalse ?_; simp only [go_sem, List.length_map])
            | (refine gSymS ?_; simp only [go_sem, List.length_map]) | (refine gSym ?_; simp only [go_sem, List.length_map])
            | (refine drawE_intro [[.post, .un, .post, .post, .post, .un, .un, .post, .post], [.un, .post, .post, .post, .post, .un, .un, .post, .post], [.pre, .pre, .post, .post, .post, .un, .un, .post, .post], [.pre, .pre, .pre, .post, .post, .un, .un, .post, .post], [.pre, .pre, .pre, .pre, .post, .un, .un, .post, .post], [.un, .un, .un, .un, .un, .post, .post, .post, .post], [.un, .un, .un, .un, .un, .pre, .post, .post, .post], [.pre, .pre, .pre, .pre, .pre, .pre, .pre, .post, .post], [.pre, .pre, .pre, .pre, .pre, .pre, .pre, .pre, .post]] (by kernel_rfl) (by rfl) ?_; simp only [go_sem, List.length_map])
            | (refine drawE_intro [[.post, .post, .un, .un, .un, .un, .un, .post, .post, .post], [.pre, .post, .un, .un, .un, .un, .un, .post, .post, .post], [.un, .un, .post, .un, .post, .post, .post, .post, .post, .post], [.un, .un, .un, .post, .post, .post, .post, .post, .post, .post], [.un, .un, .pre, .pre, .post, .post, .post, .post, .post, .post], [.un, .un, .pre, .pre, .pre, .post, .post, .post, .post, .post], [.un, .un, .pre, .pre, .pre, .pre, .post, .post, .post, .post], [.pre, .pre, .pre, .pre, .pre, .pre, .pre, .post, .post, .post], [.pre, .pre, .pre, .pre, .pre, .pre, .pre, .pre, .post, .post], [.pre, .pre, .pre, .pre, .pre, .pre, .pre, .pre, .pre, .post]] (by kernel_rfl) (by rfl) ?_; simp only [go_sem, List.length_map])
            | (refine cSplit (fun h => ?_) (fun h => ?_) <;> simp only [go_sem, List.length_map])
            | (with_reducible refine And.intro ?_ ?_; (focus (first | omega | (exact ⟨by omega, by omega⟩) | (simp; done) | (simp; omega)))))
          all_goals simp [addR, h5, hs]
        | false =>
          try simp only [go_sem, List.length_map]
          repeat' (first
            | (refine CallS.intro (by first | assumption | (apply spec_IsRanges <;> first | assumption | omega) | (apply spec_l3Fine <;> first | assumption | omega) | (apply spec_l3Copy <;> first | assumption | omega)) ?_; simp only [go_sem, List.length_map])
            | (refine CallK.intro (by first | assumption | (apply spec_IsRanges <;> first | assumption | omega) | (apply spec_l3Fine <;> first | assumption | omega) | (apply spec_l3Copy <;> first | assumption | omega)) ?_; simp only [go_sem, List.length_map])
            | (with_reducible refine gTrueS ?_; simp only [go_sem, List.length_map]) | (with_reducible refine gFalseS ?_; simp only [go_sem, List.length_map]) | (with_reducible refine gTrue ?_; simp only [go_sem, List.length_map]) | (with_reducible refine gFalse ?_; simp only [go_sem, List.length_map])
            | (refine gSymS ?_; simp only [go_sem, List.length_map]) | (refine gSym ?_; simp only [go_sem, List.length_map])
            | (refine drawE_intro [[.post, .un, .post, .post, .post, .un, .un, .post, .post], [.un, .post, .post, .post, .post, .un, .un, .post, .post], [.pre, .pre, .post, .post, .post, .un, .un, .post, .post], [.pre, .pre, .pre, .post, .post, .un, .un, .post, .post], [.pre, .pre, .pre, .pre, .post, .un, .un, .post, .post], [.un, .un, .un, .un, .un, .post, .post, .post, .post], [.un, .un, .un, .un, .un, .pre, .post, .post, .post], [.pre, .pre, .pre, .pre, .pre, .pre, .pre, .post, .post], [.pre, .pre, .pre, .pre, .pre, .pre, .pre, .pre, .post]] (by kernel_rfl) (by rfl) ?_; simp only [go_sem, List.length_map])
            | (refine drawE_intro [[.post, .post, .un, .un, .un, .un, .un, .post, .post, .post], [.pre, .post, .un, .un, .un, .un, .un, .post, .post, .post], [.un, .un, .post, .un, .post, .post, .post, .post, .post, .post], [.un, .un, .un, .post, .post, .post, .post, .post, .post, .post], [.un, .un, .pre, .pre, .post, .post, .post, .post, .post, .post], [.un, .un, .pre, .pre, .pre, .post, .post, .post, .post, .post], [.un, .un, .pre, .pre, .pre, .pre, .post, .post, .post, .post], [.pre, .pre, .pre, .pre, .pre, .pre, .pre, .post, .post, .post], [.pre, .pre, .pre, .pre, .pre, .pre, .pre, .pre, .post, .post], [.pre, .pre, .pre, .pre, .pre, .pre, .pre, .pre, .pre, .post]] (by kernel_rfl) (by rfl) ?_; simp only [go_sem, List.length_map])
            | (refine cSplit (fun h => ?_) (fun h => ?_) <;> simp only [go_sem, List.length_map])
            | (with_reducible refine And.intro ?_ ?_; (focus (first | omega | (exact ⟨by omega, by omega⟩) | (simp; done) | (simp; omega)))))
          all_goals (simp [addR, h5, hs, TRange.enc]; try exact List.take_of_length_le (by simp))
end Gv
