/-
  The laws of functions that the statement reaches.
-/
import Derived.Test.YtnbjfeelokgnlaaCellsB
namespace Gv
open Go Go.Proofs

theorem szI_ok' {n : Nat} {left : Int} (hm : n ≤ maxLen) (hl : 0 ≤ left ∧ left ≤ 1048576) (h : ¬ szI n left < 0) : n ≤ 1048576 ∧ 0 ≤ szI n left ∧ szI n left ≤ 1048576 := by
  simp only [maxLen] at hm
  unfold szI at h ⊢
  rw [IntKind.wrap_i64] at h ⊢
  split at h <;> split <;> omega

theorem take_eq {xs ys : List Int} {i : Nat} (he : xs.take i = ys.take i) (hx : i < xs.length) (hy : i < ys.length) (h : xs[i] = ys[i]) : xs.take (i + 1) = ys.take (i + 1) := by
  rw [List.take_add_one, List.take_add_one, he, List.getElem?_eq_getElem hx, List.getElem?_eq_getElem hy, h]

theorem slices_Equal_int_int (xs ys : List Int) : PureCall Try.prog 33 [.one (.sl 1 (xs.map eI)), .one (.sl 1 (ys.map eI))] [.one (.bool (decide (xs = ys)))] := by
  refine pure_ev Try.func33 rfl Try.call33 Try.checked.mixed [.d (.sl 1 (xs.map eI)), .d (.sl 1 (ys.map eI)), .junk, .junk, .junk, .junk, .junk, .junk, .junk, .junk, .junk, .junk, .junk, .junk, .junk, .junk, .junk, .junk, .junk, .junk, .junk, .junk, .junk, .junk, .junk, .junk] rfl [.tmp 4] rfl ?_
  intro ⟨⟨hm, _⟩, _⟩
  rw [List.length_map] at hm
  simp only [go_sem, List.length_map]
  refine cSplit (fun h => ?_) (fun h => ?_)
  · simp only [go_sem]
    simp only [ne_eq, decide_not, Bool.not_eq_true', decide_eq_false_iff_not] at h
    have : xs ≠ ys := fun e => h (by rw [e])
    simp [this]
  · simp only [ne_eq, decide_not, Bool.not_eq_false', decide_eq_true_eq] at h
    simp only [go_sem, List.length_map]
    refine LoopK.intro (fun i : Nat => ⟨[.d (.sl 1 (xs.map eI)), .d (.sl 1 (ys.map eI)), .junk, .junk, .d (.bool false), .junk, .junk, .junk, .junk, .junk, .junk, .junk, .d (.int .i64 xs.length), .d (.int .i64 i), .junk, .junk, .junk, .junk, .junk, .junk, .junk, .junk, .junk, .junk, .junk, .junk], []⟩)
      (fun i => xs.length - i) (fun i => i ≤ xs.length ∧ xs.take i = ys.take i) 0 [] ⟨by omega, by simp⟩ ?_ ?_
    · simp only [go_sem]; simp
    · rintro i ⟨hi, he⟩
      simp only [go_sem, List.length_map]
      refine cSplit (fun h1 => ?_) (fun h1 => ?_)
      · simp only [decide_eq_true_eq] at h1
        have hxi := map_at eI xs i (by omega)
        have hyi := map_at eI ys i (by omega)
        have hw := inc (i := i) (m := xs.length) (by omega) hm
        simp only [go_sem]
        refine drawE_intro [[.post, .un, .post, .post, .un, .un, .un, .un, .post], [.un, .post, .post, .post, .un, .un, .un, .un, .post], [.pre, .pre, .post, .post, .un, .un, .un, .un, .post], [.pre, .pre, .pre, .post, .un, .un, .un, .un, .post], [.un, .un, .un, .un, .post, .un, .post, .post, .post], [.un, .un, .un, .un, .un, .post, .post, .post, .post], [.un, .un, .un, .un, .pre, .pre, .post, .post, .post], [.un, .un, .un, .un, .pre, .pre, .pre, .post, .post], [.pre, .pre, .pre, .pre, .pre, .pre, .pre, .pre, .post]] (by kernel_rfl) (by kernel_rfl) ?_
        simp only [go_sem, List.length_map, Int.toNat_natCast, hxi, hyi, eI]
        refine ⟨⟨by omega, by omega⟩, ⟨by omega, by omega⟩, cSplit (fun h2 => ?_) (fun h2 => ?_)⟩
        · simp only [go_sem]
          have : xs ≠ ys := fun e => by subst e; simp at h2
          simp [this]
        · simp only [go_sem, hw]
          simp only [ne_eq, decide_not, Bool.not_eq_false', decide_eq_true_eq] at h2
          refine RoundE.intro (i + 1) [] ⟨by omega, take_eq he (by omega) (by omega) h2⟩ (by omega) ?_
          simp only [go_sem]
      · simp only [go_sem]
        simp only [decide_eq_false_iff_not] at h1
        have : xs = ys := by rw [List.take_of_length_le (by omega), List.take_of_length_le (by omega)] at he; exact he
        simp [this]

def eqCB (xs ys : List Int) (r q : Int) : Bool := decide (xs = ys) && decide (r = q)

theorem impl_EqualCells (xs ys : List Int) (r q : Int) : PureCall Try.prog 18 [.agg [.sl 1 (xs.map eI), .int .i64 r], .agg [.sl 1 (ys.map eI), .int .i64 q]] [.one (.bool (eqCB xs ys r q))] := by
  refine pure_ev Try.func18 rfl Try.call18 Try.checked.mixed [.agg [.d (.sl 1 (xs.map eI)), .d (.int .i64 r)], .agg [.d (.sl 1 (ys.map eI)), .d (.int .i64 q)], .junk, .junk, .junk, .junk, .junk, .junk, .junk, .junk, .junk, .junk, .junk, .junk, .junk, .junk, .junk] rfl [.tmp 4] rfl ?_
  intro _
  simp only [go_sem]
  repeat ((first | refine gSymS ?_ | refine gSym ?_); simp only [go_sem])
  first | refine CallS.intro (slices_Equal_int_int xs ys) ?_ | refine CallK.intro (slices_Equal_int_int xs ys) ?_
  simp only [go_sem]
  repeat ((first | refine gSymS ?_ | refine gSym ?_); simp only [go_sem])
  simp [eqCB, Bool.and_comm]

theorem spec_EqualCells (xs ys : List Int) (r q : Int) : PureCall Try.prog 17 [.agg [.sl 1 (xs.map eI), .int .i64 r], .agg [.sl 1 (ys.map eI), .int .i64 q]] [.one (.bool (eqCB xs ys r q))] := by
  refine pure_ev Try.func17 rfl Try.call17 Try.checked.mixed [.agg [.d (.sl 1 (xs.map eI)), .d (.int .i64 r)], .agg [.d (.sl 1 (ys.map eI)), .d (.int .i64 q)], .junk, .junk, .junk, .junk, .junk, .junk, .junk, .junk, .junk, .junk, .junk, .junk, .junk, .junk, .junk, .junk, .junk, .junk, .junk, .junk, .junk, .junk, .junk, .junk, .junk, .junk, .junk, .junk, .junk, .junk, .junk, .junk, .junk, .junk, .junk, .junk] rfl [.tmp 4] rfl ?_
  intro ⟨⟨⟨hm, _⟩, _⟩, _⟩
  rw [List.length_map] at hm
  simp only [go_sem, List.length_map]
  repeat ((first | refine gSymS ?_ | refine gSym ?_); simp only [go_sem])
  refine cSplit (fun h => ?_) (fun h => ?_)
  · simp only [go_sem]
    have : eqCB xs ys r q = false := by
      unfold eqCB
      cases hc : decide ((xs.length : Int) ≠ ys.length) with
      | true =>
        have : xs ≠ ys := fun e => by subst e; simp at hc
        simp [this]
      | false => rw [hc] at h; simp at h; simp [h]
    simp [this]
  · simp only [go_sem]
    have hl : xs.length = ys.length ∧ r = q := by
      cases hc : decide ((xs.length : Int) ≠ ys.length) with
      | true => rw [hc] at h; simp at h
      | false => rw [hc] at h; simp at h hc; exact ⟨by omega, h⟩
    obtain ⟨hl, rfl⟩ := hl
    refine LoopK.intro (fun i : Nat => ⟨[.junk, .junk, .ptr 0 0 0, .ptr 1 0 0, .d (.bool false), .d (.int .i64 i), .junk, .junk, .junk, .junk, .junk, .junk, .junk, .junk, .junk, .junk, .junk, .junk, .junk, .junk, .junk, .junk, .junk, .junk, .junk, .junk, .junk, .junk, .junk, .junk, .junk, .junk, .junk, .junk, .junk, .junk, .junk, .junk], [.box [.d (.sl 1 (xs.map eI)), .d (.int .i64 r)], .box [.d (.sl 1 (ys.map eI)), .d (.int .i64 r)]]⟩)
      (fun i => xs.length - i) (fun i => i ≤ xs.length ∧ xs.take i = ys.take i) 0 [0, 1] ⟨by omega, by simp⟩ ?_ ?_
    · simp only [go_sem]; simp
    · rintro i ⟨hi, he⟩
      simp only [go_sem, List.length_map]
      refine cSplit (fun h1 => ?_) (fun h1 => ?_)
      · simp only [decide_eq_true_eq] at h1
        have hxi := map_at eI xs i (by omega)
        have hyi := map_at eI ys i (by omega)
        have hw := inc (i := i) (m := xs.length) (by omega) hm
        simp only [go_sem]
        refine drawE_intro [[.post, .post, .un, .post, .post, .un, .un, .un, .un, .un, .post], [.pre, .post, .un, .post, .post, .un, .un, .un, .un, .un, .post], [.un, .un, .post, .post, .post, .un, .un, .un, .un, .un, .post], [.pre, .pre, .pre, .post, .post, .un, .un, .un, .un, .un, .post], [.pre, .pre, .pre, .pre, .post, .un, .un, .un, .un, .un, .post], [.un, .un, .un, .un, .un, .post, .post, .un, .post, .post, .post], [.un, .un, .un, .un, .un, .pre, .post, .un, .post, .post, .post], [.un, .un, .un, .un, .un, .un, .un, .post, .post, .post, .post], [.un, .un, .un, .un, .un, .pre, .pre, .pre, .post, .post, .post], [.un, .un, .un, .un, .un, .pre, .pre, .pre, .pre, .post, .post], [.pre, .pre, .pre, .pre, .pre, .pre, .pre, .pre, .pre, .pre, .post]] (by kernel_rfl) (by kernel_rfl) ?_
        simp only [go_sem, List.length_map, Int.toNat_natCast, hxi, hyi, eI]
        refine ⟨⟨by omega, by omega⟩, ⟨by omega, by omega⟩, cSplit (fun h2 => ?_) (fun h2 => ?_)⟩
        · simp only [go_sem]
          have : xs ≠ ys := fun e => by subst e; simp at h2
          simp [eqCB, this]
        · simp only [go_sem, hw]
          simp only [ne_eq, decide_not, Bool.not_eq_false', decide_eq_true_eq] at h2
          refine RoundE.intro (i + 1) [0, 1] ⟨by omega, take_eq he (by omega) (by omega) h2⟩ (by omega) ?_
          simp only [go_sem]; simp
      · simp only [go_sem]
        simp only [decide_eq_false_iff_not] at h1
        have : xs = ys := by rw [List.take_of_length_le (by omega), List.take_of_length_le (by omega)] at he; exact he
        simp [eqCB, this]

theorem laws_FnExactEqualCells (xs ys : List Int) (r q : Int) : PureCall Try.prog 5 [.agg [.sl 1 (xs.map eI), .int .i64 r], .agg [.sl 1 (ys.map eI), .int .i64 q]] [.one (.bool true)] := by
  refine pure_ev Try.func5 rfl Try.call5 Try.checked.mixed [.agg [.d (.sl 1 (xs.map eI)), .d (.int .i64 r)], .agg [.d (.sl 1 (ys.map eI)), .d (.int .i64 q)], .junk, .junk, .junk, .junk, .junk, .junk, .junk, .junk, .junk, .junk, .junk, .junk, .junk, .junk, .junk, .junk, .junk, .junk, .junk, .junk, .junk, .junk, .junk, .junk, .junk, .junk, .junk, .junk, .junk, .junk, .junk, .junk, .junk, .junk, .junk, .junk, .junk, .junk, .junk, .junk, .junk, .junk, .junk] rfl [.tmp 4] rfl ?_
  intro ⟨⟨⟨hm, _⟩, _⟩, ⟨⟨hm', _⟩, _⟩, _⟩
  rw [List.length_map] at hm hm'
  simp only [go_sem, List.length_map]
  refine CallS.intro (laws_szCells (xs.map eI) r 1048576) ?_
  simp only [go_sem, List.length_map]
  refine cSplit (fun h => ?_) (fun h => ?_)
  · simp only [go_sem]
  · simp only [decide_eq_false_iff_not] at h
    obtain ⟨hx, hl⟩ := szI_ok' hm (by omega) h
    simp only [go_sem, List.length_map]
    refine CallS.intro (laws_szCells (ys.map eI) q _) ?_
    simp only [go_sem, List.length_map]
    refine cSplit (fun h => ?_) (fun h => ?_)
    · simp only [go_sem]
    · simp only [decide_eq_false_iff_not] at h
      obtain ⟨hy, _⟩ := szI_ok' hm' hl h
      try simp only [go_sem, List.length_map]
      repeat' (first
        | (refine CallS.intro (by first | (apply laws_szCells <;> first | assumption | omega) | (apply laws_toCells <;> first | assumption | omega) | (apply spec_EqualCells <;> first | assumption | omega) | (apply impl_EqualCells <;> first | assumption | omega) | (apply laws_eqCells <;> first | assumption | omega)) ?_; simp only [go_sem, List.length_map])
        | (refine CallK.intro (by first | (apply laws_szCells <;> first | assumption | omega) | (apply laws_toCells <;> first | assumption | omega) | (apply spec_EqualCells <;> first | assumption | omega) | (apply impl_EqualCells <;> first | assumption | omega) | (apply laws_eqCells <;> first | assumption | omega)) ?_; simp only [go_sem, List.length_map])
        | (refine gSymS ?_; simp only [go_sem, List.length_map]) | (refine gSym ?_; simp only [go_sem, List.length_map])
        | (refine drawE_intro [[.post, .post, .un, .post, .post, .post], [.pre, .post, .un, .post, .post, .post], [.un, .un, .post, .post, .post, .post], [.pre, .pre, .pre, .post, .post, .post], [.pre, .pre, .pre, .pre, .post, .post], [.pre, .pre, .pre, .pre, .pre, .post]] (by kernel_rfl) (by rfl) ?_; simp only [go_sem, List.length_map])
        | (refine drawE_intro [[.post, .un, .un, .post, .post], [.un, .post, .post, .post, .post], [.un, .pre, .post, .post, .post], [.pre, .pre, .pre, .post, .post], [.pre, .pre, .pre, .pre, .post]] (by kernel_rfl) (by rfl) ?_; simp only [go_sem, List.length_map])
        | (refine cSplit (fun h => ?_) (fun h => ?_) <;> simp only [go_sem, List.length_map])
        | (with_reducible refine And.intro (by first | omega | exact ⟨by omega, by omega⟩) ?_))
      all_goals simp_all
end Gv
