/-
  The laws of the functions on letters.
-/
import Derived.Test.YtipnobdgmbohkaaFns1
namespace Gv
open Go Go.Proofs

theorem any_take {α : Type} (p : α → Bool) (xs : List α) (i : Nat) (h : i < xs.length) (h1 : (xs.take i).any p = false) (h2 : p xs[i] = false) : (xs.take (i + 1)).any p = false := by
  rw [List.take_add_one, List.getElem?_eq_getElem h, List.any_append, h1]; simp [h2]
theorem any_at {α : Type} (p : α → Bool) (xs : List α) (i : Nat) (h : i < xs.length) (h2 : p xs[i] = true) : xs.any p = true := List.any_eq_true.2 ⟨xs[i], List.getElem_mem h, h2⟩

set_option maxRecDepth 100000 in
theorem impl_HasLetter (xs : List TLetter) (n : Int) : PureCall Try.prog 14 [.one (.sl 2 (xs.map TLetter.enc)), .one (.int .i64 n)] [.one (.bool (xs.any fun x => decide (x.number = n)))] := by
  refine pure_ev Try.func14 rfl Try.call14 Try.checked.mixed [.d (.sl 2 (xs.map TLetter.enc)), .d (.int .i64 n), .junk, .junk, .junk, .junk, .junk, .junk] rfl [.tmp 4] rfl ?_
  intro ok
  have hm := len_of ok
  simp only [go_sem]
  refine CallS.inl (inl_ev (n := 9) (rs := [.tmp 4]) Try.func31 rfl Try.call31 Try.checked.mixed rfl rfl ?_)
  simp only [go_sem]
  refine CallS.inl (inl_ev (n := 19) (rs := [.tmp 4]) Try.func39 rfl Try.call39 Try.checked.mixed rfl rfl ?_)
  simp only [go_sem, List.length_map]
  refine LoopK.intro (fun i : Nat => ⟨[.d (.sl 2 (xs.map TLetter.enc)), .fn 32 [.ptr 0 0 0], .junk, .junk, .d (.int .i64 0), .junk, .junk, .d (.int .i64 xs.length), .d (.int .i64 i), .junk, .junk, .junk, .junk, .junk, .junk, .junk, .junk, .junk, .junk], [.box [.d (.int .i64 n)]]⟩)
      (fun i => xs.length - i) (fun i => i ≤ xs.length ∧ (xs.take i).any (fun x => decide (x.number = n)) = false) 0 [0] ⟨by omega, by simp⟩ ?_ ?_
  · simp only [go_sem]; simp
  · rintro i ⟨hi, he⟩
    simp only [go_sem]
    refine cSplit (fun h1 => ?_) (fun h1 => ?_)
    · simp only [decide_eq_true_eq] at h1
      have hlt : i < xs.length := by omega
      have hxi := map_at TLetter.enc xs i hlt
      have hw := inc hlt hm
      simp only [go_sem, List.length_map, Int.toNat_natCast, hxi, TLetter.enc]
      refine ⟨⟨by omega, by omega⟩, ?_⟩
      refine CallS.inl (inl_ev (n := 8) (rs := [.tmp 3]) Try.func32 rfl Try.call32 Try.checked.mixed rfl rfl ?_)
      simp only [go_sem]
      refine cSplit (fun h2 => ?_) (fun h2 => ?_)
      · simp only [go_sem]
        have := any_at (fun x : TLetter => decide (x.number = n)) xs i hlt h2
        simp [this]
      · simp only [go_sem, hw]
        refine RoundE.intro (i + 1) [0] ⟨by omega, any_take _ xs i hlt he h2⟩ (by omega) ?_
        simp only [go_sem]; simp
    · simp only [decide_eq_false_iff_not] at h1
      simp only [go_sem]
      rw [List.take_of_length_le (by omega)] at he
      simp [he]

set_option maxRecDepth 100000 in
theorem spec_HasLetter (xs : List TLetter) (n : Int) : PureCall Try.prog 18 [.one (.sl 2 (xs.map TLetter.enc)), .one (.int .i64 n)] [.one (.bool (xs.any fun x => decide (x.number = n)))] := by
  refine pure_ev Try.func18 rfl Try.call18 Try.checked.mixed [.d (.sl 2 (xs.map TLetter.enc)), .d (.int .i64 n), .junk, .junk, .junk, .junk, .junk, .junk, .junk, .junk, .junk, .junk, .junk, .junk, .junk, .junk, .junk, .junk, .junk] rfl [.tmp 4] rfl ?_
  intro ok
  have hm := len_of ok
  simp only [go_sem]
  refine LoopK.intro (fun i : Nat => ⟨[.d (.sl 2 (xs.map TLetter.enc)), .d (.int .i64 n), .junk, .junk, .d (.bool false), .d (.int .i64 i), .junk, .junk, .junk, .junk, .junk, .junk, .junk, .junk, .junk, .junk, .junk, .junk, .junk], []⟩)
      (fun i => xs.length - i) (fun i => i ≤ xs.length ∧ (xs.take i).any (fun x => decide (x.number = n)) = false) 0 [] ⟨by omega, by simp⟩ ?_ ?_
  · simp only [go_sem]; simp
  · rintro i ⟨hi, he⟩
    simp only [go_sem, List.length_map]
    refine cSplit (fun h1 => ?_) (fun h1 => ?_)
    · simp only [decide_eq_true_eq] at h1
      have hlt : i < xs.length := by omega
      have hxi := map_at TLetter.enc xs i hlt
      have hw := inc hlt hm
      simp only [go_sem, List.length_map, Int.toNat_natCast, hxi, TLetter.enc]
      refine ⟨⟨by omega, by omega⟩, ?_⟩
      refine cSplit (fun h2 => ?_) (fun h2 => ?_)
      · simp only [go_sem]
        have := any_at (fun x : TLetter => decide (x.number = n)) xs i hlt h2
        simp [this]
      · simp only [go_sem, hw]
        refine RoundE.intro (i + 1) [] ⟨by omega, any_take _ xs i hlt he h2⟩ (by omega) ?_
        simp only [go_sem]
    · simp only [decide_eq_false_iff_not] at h1
      simp only [go_sem]
      rw [List.take_of_length_le (by omega)] at he
      simp [he]

set_option maxRecDepth 100000 in
theorem slices_Equal_impl_Letter_impl_Letter (xs ys : List TLetter) : PureCall Try.prog 35 [.one (.sl 2 (xs.map TLetter.enc)), .one (.sl 2 (ys.map TLetter.enc))] [.one (.bool (decide (xs = ys)))] := by
  refine pure_ev Try.func35 rfl Try.call35 Try.checked.mixed [.d (.sl 2 (xs.map TLetter.enc)), .d (.sl 2 (ys.map TLetter.enc)), .junk, .junk, .junk, .junk, .junk, .junk, .junk, .junk, .junk, .junk, .junk, .junk, .junk, .junk, .junk, .junk, .junk, .junk, .junk, .junk, .junk, .junk, .junk, .junk] rfl [.tmp 4] rfl ?_
  intro ok
  have hm := len_of ok
  simp only [go_sem, List.length_map]
  refine cSplit (fun h => ?_) (fun h => ?_)
  · simp only [go_sem]
    simp only [ne_eq, decide_not, Bool.not_eq_true', decide_eq_false_iff_not] at h
    have : xs ≠ ys := fun e => h (by rw [e])
    simp [this]
  · simp only [ne_eq, decide_not, Bool.not_eq_false', decide_eq_true_eq] at h
    simp only [go_sem, List.length_map]
    refine LoopK.intro (fun i : Nat => ⟨[.d (.sl 2 (xs.map TLetter.enc)), .d (.sl 2 (ys.map TLetter.enc)), .junk, .junk, .d (.bool false), .junk, .junk, .junk, .junk, .junk, .junk, .junk, .d (.int .i64 xs.length), .d (.int .i64 i), .junk, .junk, .junk, .junk, .junk, .junk, .junk, .junk, .junk, .junk, .junk, .junk], []⟩)
      (fun i => xs.length - i) (fun i => i ≤ xs.length ∧ xs.take i = ys.take i) 0 [] ⟨by omega, by simp⟩ ?_ ?_
    · simp only [go_sem]; simp
    · rintro i ⟨hi, he⟩
      simp only [go_sem]
      refine cSplit (fun h1 => ?_) (fun h1 => ?_)
      · simp only [decide_eq_true_eq] at h1
        have hxi := map_at TLetter.enc xs i (by omega)
        have hyi := map_at TLetter.enc ys i (by omega)
        have hw := inc (i := i) (m := xs.length) (by omega) hm
        simp only [go_sem]
        refine drawE_intro [[.post, .un, .post, .post, .un, .un, .un, .un, .post], [.un, .post, .post, .post, .un, .un, .un, .un, .post], [.pre, .pre, .post, .post, .un, .un, .un, .un, .post], [.pre, .pre, .pre, .post, .un, .un, .un, .un, .post], [.un, .un, .un, .un, .post, .un, .post, .post, .post], [.un, .un, .un, .un, .un, .post, .post, .post, .post], [.un, .un, .un, .un, .pre, .pre, .post, .post, .post], [.un, .un, .un, .un, .pre, .pre, .pre, .post, .post], [.pre, .pre, .pre, .pre, .pre, .pre, .pre, .pre, .post]] (by kernel_rfl) (by rfl) ?_
        simp only [go_sem, List.length_map, Int.toNat_natCast, hxi, hyi, TLetter.enc]
        refine ⟨⟨by omega, by omega⟩, ⟨by omega, by omega⟩, ?_⟩
        have hz : (decide ((xs[i]'(by omega)).number = (ys[i]'(by omega)).number) && decide ((xs[i]'(by omega)).payload = (ys[i]'(by omega)).payload)) = decide (xs[i]'(by omega) = ys[i]'(by omega)) := by
          generalize xs[i]'(by omega) = a; generalize ys[i]'(by omega) = b
          cases a; cases b; simp
        simp only [hz]
        refine cSplit (fun h2 => ?_) (fun h2 => ?_)
        · simp only [go_sem]
          have : xs ≠ ys := fun e => by subst e; simp at h2
          simp [this]
        · simp only [go_sem, hw]
          have h3 : xs[i]'(by omega) = ys[i]'(by omega) := by simpa using h2
          refine RoundE.intro (i + 1) [] ⟨by omega, take_eq he (by omega) (by omega) h3⟩ (by omega) ?_
          simp only [go_sem]
      · simp only [go_sem]
        simp only [decide_eq_false_iff_not] at h1
        have : xs = ys := by rw [List.take_of_length_le (by omega), List.take_of_length_le (by omega)] at he; exact he
        simp [this]

set_option maxRecDepth 100000 in
theorem spec_SameLetters (xs ys : List TLetter) : PureCall Try.prog 13 [.one (.sl 2 (xs.map TLetter.enc)), .one (.sl 2 (ys.map TLetter.enc))] [.one (.bool (decide (xs = ys)))] := by
  refine pure_ev Try.func13 rfl Try.call13 Try.checked.mixed [.d (.sl 2 (xs.map TLetter.enc)), .d (.sl 2 (ys.map TLetter.enc)), .junk, .junk, .junk, .junk, .junk, .junk, .junk, .junk, .junk, .junk, .junk, .junk, .junk, .junk, .junk, .junk, .junk, .junk, .junk, .junk, .junk, .junk, .junk, .junk] rfl [.tmp 4] rfl ?_
  intro ok
  have hm := len_of ok
  simp only [go_sem, List.length_map]
  refine cSplit (fun h => ?_) (fun h => ?_)
  · simp only [go_sem]
    simp only [ne_eq, decide_not, Bool.not_eq_true', decide_eq_false_iff_not] at h
    have : xs ≠ ys := fun e => h (by rw [e])
    simp [this]
  · simp only [ne_eq, decide_not, Bool.not_eq_false', decide_eq_true_eq] at h
    simp only [go_sem]
    refine LoopK.intro (fun i : Nat => ⟨[.d (.sl 2 (xs.map TLetter.enc)), .d (.sl 2 (ys.map TLetter.enc)), .junk, .junk, .d (.bool false), .d (.int .i64 i), .junk, .junk, .junk, .junk, .junk, .junk, .junk, .junk, .junk, .junk, .junk, .junk, .junk, .junk, .junk, .junk, .junk, .junk, .junk, .junk], []⟩)
      (fun i => xs.length - i) (fun i => i ≤ xs.length ∧ xs.take i = ys.take i) 0 [] ⟨by omega, by simp⟩ ?_ ?_
    · simp only [go_sem]; simp
    · rintro i ⟨hi, he⟩
      simp only [go_sem, List.length_map]
      refine cSplit (fun h1 => ?_) (fun h1 => ?_)
      · simp only [decide_eq_true_eq] at h1
        have hxi := map_at TLetter.enc xs i (by omega)
        have hyi := map_at TLetter.enc ys i (by omega)
        have hw := inc (i := i) (m := xs.length) (by omega) hm
        simp only [go_sem]
        refine drawE_intro [[.post, .un, .post, .post, .un, .un, .un, .un, .post], [.un, .post, .post, .post, .un, .un, .un, .un, .post], [.pre, .pre, .post, .post, .un, .un, .un, .un, .post], [.pre, .pre, .pre, .post, .un, .un, .un, .un, .post], [.un, .un, .un, .un, .post, .un, .post, .post, .post], [.un, .un, .un, .un, .un, .post, .post, .post, .post], [.un, .un, .un, .un, .pre, .pre, .post, .post, .post], [.un, .un, .un, .un, .pre, .pre, .pre, .post, .post], [.pre, .pre, .pre, .pre, .pre, .pre, .pre, .pre, .post]] (by kernel_rfl) (by rfl) ?_
        simp only [go_sem, List.length_map, Int.toNat_natCast, hxi, hyi, TLetter.enc]
        refine ⟨⟨by omega, by omega⟩, ⟨by omega, by omega⟩, ?_⟩
        have hz : (decide ((xs[i]'(by omega)).number = (ys[i]'(by omega)).number) && decide ((xs[i]'(by omega)).payload = (ys[i]'(by omega)).payload)) = decide (xs[i]'(by omega) = ys[i]'(by omega)) := by
          generalize xs[i]'(by omega) = a; generalize ys[i]'(by omega) = b
          cases a; cases b; simp
        simp only [hz]
        refine cSplit (fun h2 => ?_) (fun h2 => ?_)
        · simp only [go_sem]
          have : xs ≠ ys := fun e => by subst e; simp at h2
          simp [this]
        · simp only [go_sem, hw]
          have h3 : xs[i]'(by omega) = ys[i]'(by omega) := by simpa using h2
          refine RoundE.intro (i + 1) [] ⟨by omega, take_eq he (by omega) (by omega) h3⟩ (by omega) ?_
          simp only [go_sem]
      · simp only [go_sem]
        simp only [decide_eq_false_iff_not] at h1
        have : xs = ys := by rw [List.take_of_length_le (by omega), List.take_of_length_le (by omega)] at he; exact he
        simp [this]

set_option maxRecDepth 100000 in
theorem impl_SameLetters (xs ys : List TLetter) : PureCall Try.prog 21 [.one (.sl 2 (xs.map TLetter.enc)), .one (.sl 2 (ys.map TLetter.enc))] [.one (.bool (decide (xs = ys)))] := by
  refine pure_ev Try.func21 rfl Try.call21 Try.checked.mixed [.d (.sl 2 (xs.map TLetter.enc)), .d (.sl 2 (ys.map TLetter.enc)), .junk, .junk, .junk, .junk, .junk, .junk] rfl [.tmp 4] rfl ?_
  intro _
  try simp only [go_sem]
  repeat' (first
    | (refine CallS.intro (by first | assumption | (apply slices_Equal_impl_Letter_impl_Letter <;> first | assumption | omega)) ?_; simp only [go_sem])
    | (refine CallK.intro (by first | assumption | (apply slices_Equal_impl_Letter_impl_Letter <;> first | assumption | omega)) ?_; simp only [go_sem])
    | (with_reducible refine gTrueS ?_; simp only [go_sem]) | (with_reducible refine gFalseS ?_; simp only [go_sem]) | (with_reducible refine gTrue ?_; simp only [go_sem]) | (with_reducible refine gFalse ?_; simp only [go_sem])
    | (refine gSymS ?_; simp only [go_sem]) | (refine gSym ?_; simp only [go_sem])
    | (refine cSplit (fun h => ?_) (fun h => ?_) <;> simp only [go_sem])
    | (with_reducible refine And.intro ?_ ?_; (focus (first | omega | (exact ⟨by omega, by omega⟩) | (simp; done) | (simp; omega)))))
end Gv
