/-
  Equality of tables of streams.
-/
import Derived.Test.YtgflikakblfdpaaGreatEqsB
namespace Gv
open Go Go.Proofs

set_option maxRecDepth 100000 in
theorem spec_EqualTables (xs ys : List TStream) : PureCall Tryz.prog 49 [.one (.sl 39 (xs.map TStream.enc)), .one (.sl 39 (ys.map TStream.enc))] [.one (.bool (decide (xs = ys)))] := by
  refine pure_ev Tryz.func49 rfl Tryz.call49 Tryz.checked.mixed [.d (.sl 39 (xs.map TStream.enc)), .d (.sl 39 (ys.map TStream.enc)), .junk, .junk, .junk, .junk, .junk, .junk, .junk, .junk, .junk, .junk, .junk, .junk, .junk, .junk, .junk, .junk, .junk, .junk, .junk, .junk, .junk, .junk, .junk, .junk, .junk] rfl [.tmp 4] rfl ?_
  intro ok
  have hm := len_of ok
  simp only [go_sem, List.length_map]
  refine cSplit (fun h => ?_) (fun h => ?_)
  · simp only [go_sem]
    simp only [ne_eq, decide_not, Bool.not_eq_true', decide_eq_false_iff_not] at h
    have : xs ≠ ys := fun e => h (by rw [e])
    simp [this]
  · simp only [ne_eq, decide_not, Bool.not_eq_false', decide_eq_true_eq] at h
    simp only [go_sem]
    refine LoopK.intro (fun i : Nat => ⟨[.d (.sl 39 (xs.map TStream.enc)), .d (.sl 39 (ys.map TStream.enc)), .junk, .junk, .d (.bool false), .d (.int .i64 i), .junk, .junk, .junk, .junk, .junk, .junk, .junk, .junk, .junk, .junk, .junk, .junk, .junk, .junk, .junk, .junk, .junk, .junk, .junk, .junk, .junk], []⟩)
      (fun i => xs.length - i) (fun i => i ≤ xs.length ∧ xs.take i = ys.take i) 0 [] ⟨by omega, by simp⟩ ?_ ?_
    · simp only [go_sem]; simp
    · rintro i ⟨hi, he⟩
      simp only [go_sem, List.length_map]
      refine cSplit (fun h1 => ?_) (fun h1 => ?_)
      · simp only [decide_eq_true_eq] at h1
        have hxl : i < xs.length := by omega
        have hyl : i < ys.length := by omega
        have hxi := map_at TStream.enc xs i hxl
        have hyi := map_at TStream.enc ys i hyl
        have hw := inc (i := i) (m := xs.length) hxl hm
        by_cases hq : xs[i] = ys[i]
        · have hz : decide (xs[i] = ys[i]) = true := decide_eq_true hq
          try simp only [go_sem]
          repeat' (first
            | (refine CallS.intro (by first | (apply spec_EqualStreams <;> first | assumption | omega)) ?_; simp only [go_sem, List.length_map, Int.toNat_natCast, hxi, hyi, TStream.enc, hz, hw, Bool.not_true])
            | (refine CallK.intro (by first | (apply spec_EqualStreams <;> first | assumption | omega)) ?_; simp only [go_sem, hz, hw, Bool.not_true])
            | (with_reducible refine gTrueS ?_; simp only [go_sem, List.length_map, Int.toNat_natCast, hxi, hyi, TStream.enc, hz, hw, Bool.not_true]) | (with_reducible refine gFalseS ?_; simp only [go_sem, List.length_map, Int.toNat_natCast, hxi, hyi, TStream.enc, hz, hw, Bool.not_true]) | (with_reducible refine gTrue ?_; simp only [go_sem, List.length_map, Int.toNat_natCast, hxi, hyi, TStream.enc, hz, hw, Bool.not_true]) | (with_reducible refine gFalse ?_; simp only [go_sem, List.length_map, Int.toNat_natCast, hxi, hyi, TStream.enc, hz, hw, Bool.not_true])
            | (refine gSymS ?_; simp only [go_sem, List.length_map, Int.toNat_natCast, hxi, hyi, TStream.enc, hz, hw, Bool.not_true]) | (refine gSym ?_; simp only [go_sem, List.length_map, Int.toNat_natCast, hxi, hyi, TStream.enc, hz, hw, Bool.not_true])
            | (refine drawE_intro [[.post, .un, .post, .post, .un, .un, .un, .un, .post, .post], [.un, .post, .post, .post, .un, .un, .un, .un, .post, .post], [.pre, .pre, .post, .post, .un, .un, .un, .un, .post, .post], [.pre, .pre, .pre, .post, .un, .un, .un, .un, .post, .post], [.un, .un, .un, .un, .post, .un, .post, .post, .post, .post], [.un, .un, .un, .un, .un, .post, .post, .post, .post, .post], [.un, .un, .un, .un, .pre, .pre, .post, .post, .post, .post], [.un, .un, .un, .un, .pre, .pre, .pre, .post, .post, .post], [.pre, .pre, .pre, .pre, .pre, .pre, .pre, .pre, .post, .post], [.pre, .pre, .pre, .pre, .pre, .pre, .pre, .pre, .pre, .post]] (by kernel_rfl) (by rfl) ?_; simp only [go_sem, List.length_map, Int.toNat_natCast, hxi, hyi, TStream.enc])
            | (refine cSplit (fun h => ?_) (fun h => ?_) <;> simp only [go_sem, List.length_map, Int.toNat_natCast, hxi, hyi, TStream.enc, hz, hw, Bool.not_true])
            | (with_reducible refine And.intro ?_ ?_; (focus (first | omega | (exact ⟨by omega, by omega⟩) | (simp; done) | (simp; omega)))))
          all_goals (refine RoundE.intro (i + 1) [] ⟨by omega, take_eq he hxl hyl hq⟩ (by omega) ?_; simp only [go_sem])
        · have hz : decide (xs[i] = ys[i]) = false := decide_eq_false hq
          have hne : xs ≠ ys := fun e => by subst e; exact hq rfl
          try simp only [go_sem]
          repeat' (first
            | (refine CallS.intro (by first | (apply spec_EqualStreams <;> first | assumption | omega)) ?_; simp only [go_sem, List.length_map, Int.toNat_natCast, hxi, hyi, TStream.enc, hz, Bool.not_false])
            | (refine CallK.intro (by first | (apply spec_EqualStreams <;> first | assumption | omega)) ?_; simp only [go_sem, hz, Bool.not_false])
            | (with_reducible refine gTrueS ?_; simp only [go_sem, List.length_map, Int.toNat_natCast, hxi, hyi, TStream.enc, hz, Bool.not_false]) | (with_reducible refine gFalseS ?_; simp only [go_sem, List.length_map, Int.toNat_natCast, hxi, hyi, TStream.enc, hz, Bool.not_false]) | (with_reducible refine gTrue ?_; simp only [go_sem, List.length_map, Int.toNat_natCast, hxi, hyi, TStream.enc, hz, Bool.not_false]) | (with_reducible refine gFalse ?_; simp only [go_sem, List.length_map, Int.toNat_natCast, hxi, hyi, TStream.enc, hz, Bool.not_false])
            | (refine gSymS ?_; simp only [go_sem, List.length_map, Int.toNat_natCast, hxi, hyi, TStream.enc, hz, Bool.not_false]) | (refine gSym ?_; simp only [go_sem, List.length_map, Int.toNat_natCast, hxi, hyi, TStream.enc, hz, Bool.not_false])
            | (refine drawE_intro [[.post, .un, .post, .post, .un, .un, .un, .un, .post, .post], [.un, .post, .post, .post, .un, .un, .un, .un, .post, .post], [.pre, .pre, .post, .post, .un, .un, .un, .un, .post, .post], [.pre, .pre, .pre, .post, .un, .un, .un, .un, .post, .post], [.un, .un, .un, .un, .post, .un, .post, .post, .post, .post], [.un, .un, .un, .un, .un, .post, .post, .post, .post, .post], [.un, .un, .un, .un, .pre, .pre, .post, .post, .post, .post], [.un, .un, .un, .un, .pre, .pre, .pre, .post, .post, .post], [.pre, .pre, .pre, .pre, .pre, .pre, .pre, .pre, .post, .post], [.pre, .pre, .pre, .pre, .pre, .pre, .pre, .pre, .pre, .post]] (by kernel_rfl) (by rfl) ?_; simp only [go_sem, List.length_map, Int.toNat_natCast, hxi, hyi, TStream.enc])
            | (refine cSplit (fun h => ?_) (fun h => ?_) <;> simp only [go_sem, List.length_map, Int.toNat_natCast, hxi, hyi, TStream.enc, hz, Bool.not_false])
            | (with_reducible refine And.intro ?_ ?_; (focus (first | omega | (exact ⟨by omega, by omega⟩) | (simp; done) | (simp; omega)))))
          all_goals simp [hne]
      · simp only [go_sem]
        simp only [decide_eq_false_iff_not] at h1
        have : xs = ys := by rw [List.take_of_length_le (by omega), List.take_of_length_le (by omega)] at he; exact he
        simp [this]

set_option maxRecDepth 100000 in
theorem impl_EqualTables (xs ys : List TStream) : PureCall Tryz.prog 60 [.one (.sl 39 (xs.map TStream.enc)), .one (.sl 39 (ys.map TStream.enc))] [.one (.bool (decide (xs = ys)))] := by
  refine pure_ev Tryz.func60 rfl Tryz.call60 Tryz.checked.mixed [.d (.sl 39 (xs.map TStream.enc)), .d (.sl 39 (ys.map TStream.enc)), .junk, .junk, .junk, .junk, .junk, .junk] rfl [.tmp 4] rfl ?_
  intro ok
  have hm := len_of ok
  simp only [go_sem]
  refine CallS.inl (inl_ev (n := 32) (rs := [.tmp 6]) Tryz.func86 rfl Tryz.call86 Tryz.checked.mixed rfl rfl ?_)
  simp only [go_sem, List.length_map]
  refine cSplit (fun h => ?_) (fun h => ?_)
  · simp only [go_sem]
    simp only [ne_eq, decide_not, Bool.not_eq_true', decide_eq_false_iff_not] at h
    have : xs ≠ ys := fun e => h (by rw [e])
    simp [this]
  · simp only [ne_eq, decide_not, Bool.not_eq_false', decide_eq_true_eq] at h
    simp only [go_sem, List.length_map]
    refine LoopK.intro (fun i : Nat => ⟨[.d (.sl 39 (xs.map TStream.enc)), .d (.sl 39 (ys.map TStream.enc)), .fn 87 [], .junk, .junk, .junk, .d (.bool false), .junk, .junk, .junk, .junk, .junk, .junk, .junk, .junk, .d (.sl 39 (xs.map TStream.enc)), .d (.int .i64 xs.length), .d (.int .i64 i), .junk, .junk, .junk, .junk, .junk, .junk, .junk, .junk, .junk, .junk, .junk, .junk, .junk, .junk], []⟩)
      (fun i => xs.length - i) (fun i => i ≤ xs.length ∧ xs.take i = ys.take i) 0 [] ⟨by omega, by simp⟩ ?_ ?_
    · simp only [go_sem]; simp
    · rintro i ⟨hi, he⟩
      simp only [go_sem]
      refine cSplit (fun h1 => ?_) (fun h1 => ?_)
      · simp only [decide_eq_true_eq] at h1
        have hxl : i < xs.length := by omega
        have hyl : i < ys.length := by omega
        have hxi := map_at TStream.enc xs i hxl
        have hyi := map_at TStream.enc ys i hyl
        have hw := inc (i := i) (m := xs.length) hxl hm
        by_cases hq : xs[i] = ys[i]
        · have hz : decide (xs[i] = ys[i]) = true := decide_eq_true hq
          simp only [go_sem, List.length_map, Int.toNat_natCast, hxi, hyi, TStream.enc]
          refine ⟨⟨by omega, by omega⟩, ?_⟩
          try simp only [go_sem, List.length_map, Int.toNat_natCast, hxi, hyi, TStream.enc, hz, hw, Bool.not_true]
          refine ⟨⟨by omega, by omega⟩, ?_⟩
          try simp only [go_sem, List.length_map, Int.toNat_natCast, hxi, hyi, TStream.enc, hz, hw, Bool.not_true]
          refine CallS.intro (impl_EqualStreams xs[i] ys[i]) ?_
          simp only [go_sem, hz, hw, Bool.not_true]
          all_goals (refine RoundE.intro (i + 1) [] ⟨by omega, take_eq he hxl hyl hq⟩ (by omega) ?_; simp only [go_sem])
        · have hz : decide (xs[i] = ys[i]) = false := decide_eq_false hq
          have hne : xs ≠ ys := fun e => by subst e; exact hq rfl
          simp only [go_sem, List.length_map, Int.toNat_natCast, hxi, hyi, TStream.enc]
          refine ⟨⟨by omega, by omega⟩, ?_⟩
          try simp only [go_sem, List.length_map, Int.toNat_natCast, hxi, hyi, TStream.enc, hz, Bool.not_false]
          refine ⟨⟨by omega, by omega⟩, ?_⟩
          try simp only [go_sem, List.length_map, Int.toNat_natCast, hxi, hyi, TStream.enc, hz, Bool.not_false]
          refine CallS.intro (impl_EqualStreams xs[i] ys[i]) ?_
          simp only [go_sem, hz, Bool.not_false]
          all_goals simp [hne]
      · simp only [go_sem]
        simp only [decide_eq_false_iff_not] at h1
        have : xs = ys := by rw [List.take_of_length_le (by omega), List.take_of_length_le (by omega)] at he; exact he
        simp [this]

end Gv
