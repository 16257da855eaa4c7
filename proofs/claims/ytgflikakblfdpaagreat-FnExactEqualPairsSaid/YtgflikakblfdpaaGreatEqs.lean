/-
  Equality of the parts of connections and pairs.
-/
import Derived.Test.YtgflikakblfdpaaGreatLawKit
namespace Gv
open Go Go.Proofs
theorem bif_and (a b : Bool) : (bif a then b else false) = (a && b) := by cases a <;> rfl
theorem bif_or (a b : Bool) : (bif a then true else b) = (a || b) := by cases a <;> rfl
theorem one_bool {a b : Bool} (h : a = true ↔ b = true) : [AD.one (D.bool a)] = [AD.one (D.bool b)] := by
  have : a = b := by cases a <;> cases b <;> simp_all
  rw [this]

set_option maxRecDepth 100000 in
theorem slices_Equal_int_int (xs ys : List Int) : PureCall Tryz.prog 142 [.one (.sl 1 (xs.map eI)), .one (.sl 1 (ys.map eI))] [.one (.bool (decide (xs = ys)))] := by
  refine pure_ev Tryz.func142 rfl Tryz.call142 Tryz.checked.mixed [.d (.sl 1 (xs.map eI)), .d (.sl 1 (ys.map eI)), .junk, .junk, .junk, .junk, .junk, .junk, .junk, .junk, .junk, .junk, .junk, .junk, .junk, .junk, .junk, .junk, .junk, .junk, .junk, .junk, .junk, .junk, .junk, .junk] rfl [.tmp 4] rfl ?_
  intro ok
  have hm := len_of ok
  simp only [go_sem, List.length_map]
  refine cSplit (fun h => ?_) (fun h => ?_)
  · simp only [go_sem]
    simp only [ne_eq, decide_not, Bool.not_eq_true', decide_eq_false_iff_not] at h
    have : xs ≠ ys := fun e => h (by rw [e])
    simp [this]
  · simp only [ne_eq, decide_not, Bool.not_eq_false', decide_eq_true_eq] at h
    simp only [go_sem, List.length_map]
    refine LoopK.intro (fun i : Nat => ⟨[.d (.sl 1 (xs.map eI)), .d (.sl 1 (ys.map eI)), .junk, .junk, .d (.bool false), .junk, .junk, .junk, .junk, .junk, .junk, .junk, .d (.int .i64 xs.length), .d (.int .i64 i), .junk, .junk, .junk, .junk, .junk, .junk, .junk, .junk, .junk, .junk, .junk, .junk], []⟩)
      (fun i => xs.length - i) (fun i => i ≤ xs.length ∧ xs.take i = ys.take i) 0 [] ⟨by omega, by simp⟩ ?_ ?_
    · simp only [go_sem]; simp
    · rintro i ⟨hi, he⟩
      simp only [go_sem]
      refine cSplit (fun h1 => ?_) (fun h1 => ?_)
      · simp only [decide_eq_true_eq] at h1
        have hxl : i < xs.length := by omega
        have hyl : i < ys.length := by omega
        have hxi := map_at eI xs i hxl
        have hyi := map_at eI ys i hyl
        have hw := inc (i := i) (m := xs.length) hxl hm
        by_cases hq : xs[i] = ys[i]
        · have hz : decide (xs[i] ≠ ys[i]) = false := decide_eq_false (fun e => e hq)
          try simp only [go_sem]
          repeat' (first
            | (with_reducible refine gTrueS ?_; simp only [go_sem, List.length_map, Int.toNat_natCast, hxi, hyi, eI, hz, hw, Bool.not_true]) | (with_reducible refine gFalseS ?_; simp only [go_sem, List.length_map, Int.toNat_natCast, hxi, hyi, eI, hz, hw, Bool.not_true]) | (with_reducible refine gTrue ?_; simp only [go_sem, List.length_map, Int.toNat_natCast, hxi, hyi, eI, hz, hw, Bool.not_true]) | (with_reducible refine gFalse ?_; simp only [go_sem, List.length_map, Int.toNat_natCast, hxi, hyi, eI, hz, hw, Bool.not_true])
            | (refine gSymS ?_; simp only [go_sem, List.length_map, Int.toNat_natCast, hxi, hyi, eI, hz, hw, Bool.not_true]) | (refine gSym ?_; simp only [go_sem, List.length_map, Int.toNat_natCast, hxi, hyi, eI, hz, hw, Bool.not_true])
            | (refine drawE_intro [[.post, .un, .post, .post, .un, .un, .un, .un, .post], [.un, .post, .post, .post, .un, .un, .un, .un, .post], [.pre, .pre, .post, .post, .un, .un, .un, .un, .post], [.pre, .pre, .pre, .post, .un, .un, .un, .un, .post], [.un, .un, .un, .un, .post, .un, .post, .post, .post], [.un, .un, .un, .un, .un, .post, .post, .post, .post], [.un, .un, .un, .un, .pre, .pre, .post, .post, .post], [.un, .un, .un, .un, .pre, .pre, .pre, .post, .post], [.pre, .pre, .pre, .pre, .pre, .pre, .pre, .pre, .post]] (by kernel_rfl) (by rfl) ?_; simp only [go_sem, List.length_map, Int.toNat_natCast, hxi, hyi, eI, hz, hw])
            | (refine cSplit (fun h => ?_) (fun h => ?_) <;> simp only [go_sem, List.length_map, Int.toNat_natCast, hxi, hyi, eI, hz, hw, Bool.not_true])
            | (with_reducible refine And.intro ?_ ?_; (focus (first | omega | (exact ⟨by omega, by omega⟩) | (simp; done) | (simp; omega)))))
          all_goals (refine RoundE.intro (i + 1) [] ⟨by omega, take_eq he hxl hyl hq⟩ (by omega) ?_; simp only [go_sem])
        · have hz : decide (xs[i] ≠ ys[i]) = true := decide_eq_true hq
          have hne : xs ≠ ys := fun e => by subst e; exact hq rfl
          try simp only [go_sem]
          repeat' (first
            | (with_reducible refine gTrueS ?_; simp only [go_sem, List.length_map, Int.toNat_natCast, hxi, hyi, eI, hz, Bool.not_false]) | (with_reducible refine gFalseS ?_; simp only [go_sem, List.length_map, Int.toNat_natCast, hxi, hyi, eI, hz, Bool.not_false]) | (with_reducible refine gTrue ?_; simp only [go_sem, List.length_map, Int.toNat_natCast, hxi, hyi, eI, hz, Bool.not_false]) | (with_reducible refine gFalse ?_; simp only [go_sem, List.length_map, Int.toNat_natCast, hxi, hyi, eI, hz, Bool.not_false])
            | (refine gSymS ?_; simp only [go_sem, List.length_map, Int.toNat_natCast, hxi, hyi, eI, hz, Bool.not_false]) | (refine gSym ?_; simp only [go_sem, List.length_map, Int.toNat_natCast, hxi, hyi, eI, hz, Bool.not_false])
            | (refine drawE_intro [[.post, .un, .post, .post, .un, .un, .un, .un, .post], [.un, .post, .post, .post, .un, .un, .un, .un, .post], [.pre, .pre, .post, .post, .un, .un, .un, .un, .post], [.pre, .pre, .pre, .post, .un, .un, .un, .un, .post], [.un, .un, .un, .un, .post, .un, .post, .post, .post], [.un, .un, .un, .un, .un, .post, .post, .post, .post], [.un, .un, .un, .un, .pre, .pre, .post, .post, .post], [.un, .un, .un, .un, .pre, .pre, .pre, .post, .post], [.pre, .pre, .pre, .pre, .pre, .pre, .pre, .pre, .post]] (by kernel_rfl) (by rfl) ?_; simp only [go_sem, List.length_map, Int.toNat_natCast, hxi, hyi, eI, hz])
            | (refine cSplit (fun h => ?_) (fun h => ?_) <;> simp only [go_sem, List.length_map, Int.toNat_natCast, hxi, hyi, eI, hz, Bool.not_false])
            | (with_reducible refine And.intro ?_ ?_; (focus (first | omega | (exact ⟨by omega, by omega⟩) | (simp; done) | (simp; omega)))))
          all_goals simp [hne]
      · simp only [go_sem]
        simp only [decide_eq_false_iff_not] at h1
        have : xs = ys := by rw [List.take_of_length_le (by omega), List.take_of_length_le (by omega)] at he; exact he
        simp [this]

theorem eqz_TRange (a b : TRange) : (decide (a.low = b.low) && decide (a.high = b.high)) = decide (a = b) := by
  have h : ((decide (a.low = b.low) && decide (a.high = b.high)) = true) ↔ (decide (a = b) = true) := by
    cases a; cases b; simp
  cases h1 : (decide (a.low = b.low) && decide (a.high = b.high)) <;> cases h2 : decide (a = b) <;> simp_all
set_option maxRecDepth 100000 in
theorem slices_Equal_impl_Range_impl_Range (xs ys : List TRange) : PureCall Tryz.prog 143 [.one (.sl 2 (xs.map TRange.enc)), .one (.sl 2 (ys.map TRange.enc))] [.one (.bool (decide (xs = ys)))] := by
  refine pure_ev Tryz.func143 rfl Tryz.call143 Tryz.checked.mixed [.d (.sl 2 (xs.map TRange.enc)), .d (.sl 2 (ys.map TRange.enc)), .junk, .junk, .junk, .junk, .junk, .junk, .junk, .junk, .junk, .junk, .junk, .junk, .junk, .junk, .junk, .junk, .junk, .junk, .junk, .junk, .junk, .junk, .junk, .junk] rfl [.tmp 4] rfl ?_
  intro ok
  have hm := len_of ok
  simp only [go_sem, List.length_map]
  refine cSplit (fun h => ?_) (fun h => ?_)
  · simp only [go_sem]
    simp only [ne_eq, decide_not, Bool.not_eq_true', decide_eq_false_iff_not] at h
    have : xs ≠ ys := fun e => h (by rw [e])
    simp [this]
  · simp only [ne_eq, decide_not, Bool.not_eq_false', decide_eq_true_eq] at h
    simp only [go_sem, List.length_map]
    refine LoopK.intro (fun i : Nat => ⟨[.d (.sl 2 (xs.map TRange.enc)), .d (.sl 2 (ys.map TRange.enc)), .junk, .junk, .d (.bool false), .junk, .junk, .junk, .junk, .junk, .junk, .junk, .d (.int .i64 xs.length), .d (.int .i64 i), .junk, .junk, .junk, .junk, .junk, .junk, .junk, .junk, .junk, .junk, .junk, .junk], []⟩)
      (fun i => xs.length - i) (fun i => i ≤ xs.length ∧ xs.take i = ys.take i) 0 [] ⟨by omega, by simp⟩ ?_ ?_
    · simp only [go_sem]; simp
    · rintro i ⟨hi, he⟩
      simp only [go_sem]
      refine cSplit (fun h1 => ?_) (fun h1 => ?_)
      · simp only [decide_eq_true_eq] at h1
        have hxl : i < xs.length := by omega
        have hyl : i < ys.length := by omega
        have hxi := map_at TRange.enc xs i hxl
        have hyi := map_at TRange.enc ys i hyl
        have hw := inc (i := i) (m := xs.length) hxl hm
        by_cases hq : xs[i] = ys[i]
        · have hz : (decide (xs[i].low = ys[i].low) && decide (xs[i].high = ys[i].high)) = true := by rw [eqz_TRange]; exact decide_eq_true hq
          try simp only [go_sem]
          repeat' (first
            | (with_reducible refine gTrueS ?_; simp only [go_sem, List.length_map, Int.toNat_natCast, hxi, hyi, TRange.enc, hz, hw, Bool.not_true]) | (with_reducible refine gFalseS ?_; simp only [go_sem, List.length_map, Int.toNat_natCast, hxi, hyi, TRange.enc, hz, hw, Bool.not_true]) | (with_reducible refine gTrue ?_; simp only [go_sem, List.length_map, Int.toNat_natCast, hxi, hyi, TRange.enc, hz, hw, Bool.not_true]) | (with_reducible refine gFalse ?_; simp only [go_sem, List.length_map, Int.toNat_natCast, hxi, hyi, TRange.enc, hz, hw, Bool.not_true])
            | (refine gSymS ?_; simp only [go_sem, List.length_map, Int.toNat_natCast, hxi, hyi, TRange.enc, hz, hw, Bool.not_true]) | (refine gSym ?_; simp only [go_sem, List.length_map, Int.toNat_natCast, hxi, hyi, TRange.enc, hz, hw, Bool.not_true])
            | (refine drawE_intro [[.post, .un, .post, .post, .un, .un, .un, .un, .post], [.un, .post, .post, .post, .un, .un, .un, .un, .post], [.pre, .pre, .post, .post, .un, .un, .un, .un, .post], [.pre, .pre, .pre, .post, .un, .un, .un, .un, .post], [.un, .un, .un, .un, .post, .un, .post, .post, .post], [.un, .un, .un, .un, .un, .post, .post, .post, .post], [.un, .un, .un, .un, .pre, .pre, .post, .post, .post], [.un, .un, .un, .un, .pre, .pre, .pre, .post, .post], [.pre, .pre, .pre, .pre, .pre, .pre, .pre, .pre, .post]] (by kernel_rfl) (by rfl) ?_; simp only [go_sem, List.length_map, Int.toNat_natCast, hxi, hyi, TRange.enc, hz, hw, Bool.not_true])
            | (refine cSplit (fun h => ?_) (fun h => ?_) <;> simp only [go_sem, List.length_map, Int.toNat_natCast, hxi, hyi, TRange.enc, hz, hw, Bool.not_true])
            | (with_reducible refine And.intro ?_ ?_; (focus (first | omega | (exact ⟨by omega, by omega⟩) | (simp; done) | (simp; omega)))))
          all_goals (refine RoundE.intro (i + 1) [] ⟨by omega, take_eq he hxl hyl hq⟩ (by omega) ?_; simp only [go_sem])
        · have hz : (decide (xs[i].low = ys[i].low) && decide (xs[i].high = ys[i].high)) = false := by rw [eqz_TRange]; exact decide_eq_false hq
          have hne : xs ≠ ys := fun e => by subst e; exact hq rfl
          try simp only [go_sem]
          repeat' (first
            | (with_reducible refine gTrueS ?_; simp only [go_sem, List.length_map, Int.toNat_natCast, hxi, hyi, TRange.enc, hz, Bool.not_false]) | (with_reducible refine gFalseS ?_; simp only [go_sem, List.length_map, Int.toNat_natCast, hxi, hyi, TRange.enc, hz, Bool.not_false]) | (with_reducible refine gTrue ?_; simp only [go_sem, List.length_map, Int.toNat_natCast, hxi, hyi, TRange.enc, hz, Bool.not_false]) | (with_reducible refine gFalse ?_; simp only [go_sem, List.length_map, Int.toNat_natCast, hxi, hyi, TRange.enc, hz, Bool.not_false])
            | (refine gSymS ?_; simp only [go_sem, List.length_map, Int.toNat_natCast, hxi, hyi, TRange.enc, hz, Bool.not_false]) | (refine gSym ?_; simp only [go_sem, List.length_map, Int.toNat_natCast, hxi, hyi, TRange.enc, hz, Bool.not_false])
            | (refine drawE_intro [[.post, .un, .post, .post, .un, .un, .un, .un, .post], [.un, .post, .post, .post, .un, .un, .un, .un, .post], [.pre, .pre, .post, .post, .un, .un, .un, .un, .post], [.pre, .pre, .pre, .post, .un, .un, .un, .un, .post], [.un, .un, .un, .un, .post, .un, .post, .post, .post], [.un, .un, .un, .un, .un, .post, .post, .post, .post], [.un, .un, .un, .un, .pre, .pre, .post, .post, .post], [.un, .un, .un, .un, .pre, .pre, .pre, .post, .post], [.pre, .pre, .pre, .pre, .pre, .pre, .pre, .pre, .post]] (by kernel_rfl) (by rfl) ?_; simp only [go_sem, List.length_map, Int.toNat_natCast, hxi, hyi, TRange.enc, hz, Bool.not_false])
            | (refine cSplit (fun h => ?_) (fun h => ?_) <;> simp only [go_sem, List.length_map, Int.toNat_natCast, hxi, hyi, TRange.enc, hz, Bool.not_false])
            | (with_reducible refine And.intro ?_ ?_; (focus (first | omega | (exact ⟨by omega, by omega⟩) | (simp; done) | (simp; omega)))))
          all_goals simp [hne]
      · simp only [go_sem]
        simp only [decide_eq_false_iff_not] at h1
        have : xs = ys := by rw [List.take_of_length_le (by omega), List.take_of_length_le (by omega)] at he; exact he
        simp [this]

theorem eqz_TChunk (a b : TChunk) : (decide (a.offset = b.offset) && decide (a.data = b.data)) = decide (a = b) := by
  have h : ((decide (a.offset = b.offset) && decide (a.data = b.data)) = true) ↔ (decide (a = b) = true) := by
    cases a; cases b; simp
  cases h1 : (decide (a.offset = b.offset) && decide (a.data = b.data)) <;> cases h2 : decide (a = b) <;> simp_all
set_option maxRecDepth 100000 in
theorem slices_Equal_impl_Chunk_impl_Chunk (xs ys : List TChunk) : PureCall Tryz.prog 144 [.one (.sl 2 (xs.map TChunk.enc)), .one (.sl 2 (ys.map TChunk.enc))] [.one (.bool (decide (xs = ys)))] := by
  refine pure_ev Tryz.func144 rfl Tryz.call144 Tryz.checked.mixed [.d (.sl 2 (xs.map TChunk.enc)), .d (.sl 2 (ys.map TChunk.enc)), .junk, .junk, .junk, .junk, .junk, .junk, .junk, .junk, .junk, .junk, .junk, .junk, .junk, .junk, .junk, .junk, .junk, .junk, .junk, .junk, .junk, .junk, .junk, .junk] rfl [.tmp 4] rfl ?_
  intro ok
  have hm := len_of ok
  simp only [go_sem, List.length_map]
  refine cSplit (fun h => ?_) (fun h => ?_)
  · simp only [go_sem]
    simp only [ne_eq, decide_not, Bool.not_eq_true', decide_eq_false_iff_not] at h
    have : xs ≠ ys := fun e => h (by rw [e])
    simp [this]
  · simp only [ne_eq, decide_not, Bool.not_eq_false', decide_eq_true_eq] at h
    simp only [go_sem, List.length_map]
    refine LoopK.intro (fun i : Nat => ⟨[.d (.sl 2 (xs.map TChunk.enc)), .d (.sl 2 (ys.map TChunk.enc)), .junk, .junk, .d (.bool false), .junk, .junk, .junk, .junk, .junk, .junk, .junk, .d (.int .i64 xs.length), .d (.int .i64 i), .junk, .junk, .junk, .junk, .junk, .junk, .junk, .junk, .junk, .junk, .junk, .junk], []⟩)
      (fun i => xs.length - i) (fun i => i ≤ xs.length ∧ xs.take i = ys.take i) 0 [] ⟨by omega, by simp⟩ ?_ ?_
    · simp only [go_sem]; simp
    · rintro i ⟨hi, he⟩
      simp only [go_sem]
      refine cSplit (fun h1 => ?_) (fun h1 => ?_)
      · simp only [decide_eq_true_eq] at h1
        have hxl : i < xs.length := by omega
        have hyl : i < ys.length := by omega
        have hxi := map_at TChunk.enc xs i hxl
        have hyi := map_at TChunk.enc ys i hyl
        have hw := inc (i := i) (m := xs.length) hxl hm
        by_cases hq : xs[i] = ys[i]
        · have hz : (decide (xs[i].offset = ys[i].offset) && decide (xs[i].data = ys[i].data)) = true := by rw [eqz_TChunk]; exact decide_eq_true hq
          try simp only [go_sem]
          repeat' (first
            | (with_reducible refine gTrueS ?_; simp only [go_sem, List.length_map, Int.toNat_natCast, hxi, hyi, TChunk.enc, hz, hw, Bool.not_true]) | (with_reducible refine gFalseS ?_; simp only [go_sem, List.length_map, Int.toNat_natCast, hxi, hyi, TChunk.enc, hz, hw, Bool.not_true]) | (with_reducible refine gTrue ?_; simp only [go_sem, List.length_map, Int.toNat_natCast, hxi, hyi, TChunk.enc, hz, hw, Bool.not_true]) | (with_reducible refine gFalse ?_; simp only [go_sem, List.length_map, Int.toNat_natCast, hxi, hyi, TChunk.enc, hz, hw, Bool.not_true])
            | (refine gSymS ?_; simp only [go_sem, List.length_map, Int.toNat_natCast, hxi, hyi, TChunk.enc, hz, hw, Bool.not_true]) | (refine gSym ?_; simp only [go_sem, List.length_map, Int.toNat_natCast, hxi, hyi, TChunk.enc, hz, hw, Bool.not_true])
            | (refine drawE_intro [[.post, .un, .post, .post, .un, .un, .un, .un, .post], [.un, .post, .post, .post, .un, .un, .un, .un, .post], [.pre, .pre, .post, .post, .un, .un, .un, .un, .post], [.pre, .pre, .pre, .post, .un, .un, .un, .un, .post], [.un, .un, .un, .un, .post, .un, .post, .post, .post], [.un, .un, .un, .un, .un, .post, .post, .post, .post], [.un, .un, .un, .un, .pre, .pre, .post, .post, .post], [.un, .un, .un, .un, .pre, .pre, .pre, .post, .post], [.pre, .pre, .pre, .pre, .pre, .pre, .pre, .pre, .post]] (by kernel_rfl) (by rfl) ?_; simp only [go_sem, List.length_map, Int.toNat_natCast, hxi, hyi, TChunk.enc, hz, hw, Bool.not_true])
            | (refine cSplit (fun h => ?_) (fun h => ?_) <;> simp only [go_sem, List.length_map, Int.toNat_natCast, hxi, hyi, TChunk.enc, hz, hw, Bool.not_true])
            | (with_reducible refine And.intro ?_ ?_; (focus (first | omega | (exact ⟨by omega, by omega⟩) | (simp; done) | (simp; omega)))))
          all_goals (refine RoundE.intro (i + 1) [] ⟨by omega, take_eq he hxl hyl hq⟩ (by omega) ?_; simp only [go_sem])
        · have hz : (decide (xs[i].offset = ys[i].offset) && decide (xs[i].data = ys[i].data)) = false := by rw [eqz_TChunk]; exact decide_eq_false hq
          have hne : xs ≠ ys := fun e => by subst e; exact hq rfl
          try simp only [go_sem]
          repeat' (first
            | (with_reducible refine gTrueS ?_; simp only [go_sem, List.length_map, Int.toNat_natCast, hxi, hyi, TChunk.enc, hz, Bool.not_false]) | (with_reducible refine gFalseS ?_; simp only [go_sem, List.length_map, Int.toNat_natCast, hxi, hyi, TChunk.enc, hz, Bool.not_false]) | (with_reducible refine gTrue ?_; simp only [go_sem, List.length_map, Int.toNat_natCast, hxi, hyi, TChunk.enc, hz, Bool.not_false]) | (with_reducible refine gFalse ?_; simp only [go_sem, List.length_map, Int.toNat_natCast, hxi, hyi, TChunk.enc, hz, Bool.not_false])
            | (refine gSymS ?_; simp only [go_sem, List.length_map, Int.toNat_natCast, hxi, hyi, TChunk.enc, hz, Bool.not_false]) | (refine gSym ?_; simp only [go_sem, List.length_map, Int.toNat_natCast, hxi, hyi, TChunk.enc, hz, Bool.not_false])
            | (refine drawE_intro [[.post, .un, .post, .post, .un, .un, .un, .un, .post], [.un, .post, .post, .post, .un, .un, .un, .un, .post], [.pre, .pre, .post, .post, .un, .un, .un, .un, .post], [.pre, .pre, .pre, .post, .un, .un, .un, .un, .post], [.un, .un, .un, .un, .post, .un, .post, .post, .post], [.un, .un, .un, .un, .un, .post, .post, .post, .post], [.un, .un, .un, .un, .pre, .pre, .post, .post, .post], [.un, .un, .un, .un, .pre, .pre, .pre, .post, .post], [.pre, .pre, .pre, .pre, .pre, .pre, .pre, .pre, .post]] (by kernel_rfl) (by rfl) ?_; simp only [go_sem, List.length_map, Int.toNat_natCast, hxi, hyi, TChunk.enc, hz, Bool.not_false])
            | (refine cSplit (fun h => ?_) (fun h => ?_) <;> simp only [go_sem, List.length_map, Int.toNat_natCast, hxi, hyi, TChunk.enc, hz, Bool.not_false])
            | (with_reducible refine And.intro ?_ ?_; (focus (first | omega | (exact ⟨by omega, by omega⟩) | (simp; done) | (simp; omega)))))
          all_goals simp [hne]
      · simp only [go_sem]
        simp only [decide_eq_false_iff_not] at h1
        have : xs = ys := by rw [List.take_of_length_le (by omega), List.take_of_length_le (by omega)] at he; exact he
        simp [this]

theorem eqz_TFrame (a b : TFrame) : (decide (a.kind = b.kind) && (decide (a.stream = b.stream) && (decide (a.offset = b.offset) && (decide (a.data = b.data) && (decide (a.fin = b.fin) && (decide (a.code = b.code) && (decide (a.limit = b.limit) && (decide (a.final = b.final) && decide (a.uni = b.uni))))))))) = decide (a = b) := by
  have h : ((decide (a.kind = b.kind) && (decide (a.stream = b.stream) && (decide (a.offset = b.offset) && (decide (a.data = b.data) && (decide (a.fin = b.fin) && (decide (a.code = b.code) && (decide (a.limit = b.limit) && (decide (a.final = b.final) && decide (a.uni = b.uni))))))))) = true) ↔ (decide (a = b) = true) := by
    cases a; cases b; simp
  cases h1 : (decide (a.kind = b.kind) && (decide (a.stream = b.stream) && (decide (a.offset = b.offset) && (decide (a.data = b.data) && (decide (a.fin = b.fin) && (decide (a.code = b.code) && (decide (a.limit = b.limit) && (decide (a.final = b.final) && decide (a.uni = b.uni))))))))) <;> cases h2 : decide (a = b) <;> simp_all
set_option maxRecDepth 100000 in
theorem slices_Equal_impl_Frame_impl_Frame (xs ys : List TFrame) : PureCall Tryz.prog 88 [.one (.sl 9 (xs.map TFrame.enc)), .one (.sl 9 (ys.map TFrame.enc))] [.one (.bool (decide (xs = ys)))] := by
  refine pure_ev Tryz.func88 rfl Tryz.call88 Tryz.checked.mixed [.d (.sl 9 (xs.map TFrame.enc)), .d (.sl 9 (ys.map TFrame.enc)), .junk, .junk, .junk, .junk, .junk, .junk, .junk, .junk, .junk, .junk, .junk, .junk, .junk, .junk, .junk, .junk, .junk, .junk, .junk, .junk, .junk, .junk, .junk, .junk] rfl [.tmp 4] rfl ?_
  intro ok
  have hm := len_of ok
  simp only [go_sem, List.length_map]
  refine cSplit (fun h => ?_) (fun h => ?_)
  · simp only [go_sem]
    simp only [ne_eq, decide_not, Bool.not_eq_true', decide_eq_false_iff_not] at h
    have : xs ≠ ys := fun e => h (by rw [e])
    simp [this]
  · simp only [ne_eq, decide_not, Bool.not_eq_false', decide_eq_true_eq] at h
    simp only [go_sem, List.length_map]
    refine LoopK.intro (fun i : Nat => ⟨[.d (.sl 9 (xs.map TFrame.enc)), .d (.sl 9 (ys.map TFrame.enc)), .junk, .junk, .d (.bool false), .junk, .junk, .junk, .junk, .junk, .junk, .junk, .d (.int .i64 xs.length), .d (.int .i64 i), .junk, .junk, .junk, .junk, .junk, .junk, .junk, .junk, .junk, .junk, .junk, .junk], []⟩)
      (fun i => xs.length - i) (fun i => i ≤ xs.length ∧ xs.take i = ys.take i) 0 [] ⟨by omega, by simp⟩ ?_ ?_
    · simp only [go_sem]; simp
    · rintro i ⟨hi, he⟩
      simp only [go_sem]
      refine cSplit (fun h1 => ?_) (fun h1 => ?_)
      · simp only [decide_eq_true_eq] at h1
        have hxl : i < xs.length := by omega
        have hyl : i < ys.length := by omega
        have hxi := map_at TFrame.enc xs i hxl
        have hyi := map_at TFrame.enc ys i hyl
        have hw := inc (i := i) (m := xs.length) hxl hm
        by_cases hq : xs[i] = ys[i]
        · have hz : (decide (xs[i].kind = ys[i].kind) && (decide (xs[i].stream = ys[i].stream) && (decide (xs[i].offset = ys[i].offset) && (decide (xs[i].data = ys[i].data) && (decide (xs[i].fin = ys[i].fin) && (decide (xs[i].code = ys[i].code) && (decide (xs[i].limit = ys[i].limit) && (decide (xs[i].final = ys[i].final) && decide (xs[i].uni = ys[i].uni))))))))) = true := by rw [eqz_TFrame]; exact decide_eq_true hq
          try simp only [go_sem]
          repeat' (first
            | (with_reducible refine gTrueS ?_; simp only [go_sem, List.length_map, Int.toNat_natCast, hxi, hyi, TFrame.enc, hz, hw, Bool.not_true]) | (with_reducible refine gFalseS ?_; simp only [go_sem, List.length_map, Int.toNat_natCast, hxi, hyi, TFrame.enc, hz, hw, Bool.not_true]) | (with_reducible refine gTrue ?_; simp only [go_sem, List.length_map, Int.toNat_natCast, hxi, hyi, TFrame.enc, hz, hw, Bool.not_true]) | (with_reducible refine gFalse ?_; simp only [go_sem, List.length_map, Int.toNat_natCast, hxi, hyi, TFrame.enc, hz, hw, Bool.not_true])
            | (refine gSymS ?_; simp only [go_sem, List.length_map, Int.toNat_natCast, hxi, hyi, TFrame.enc, hz, hw, Bool.not_true]) | (refine gSym ?_; simp only [go_sem, List.length_map, Int.toNat_natCast, hxi, hyi, TFrame.enc, hz, hw, Bool.not_true])
            | (refine drawE_intro [[.post, .un, .post, .post, .un, .un, .un, .un, .post], [.un, .post, .post, .post, .un, .un, .un, .un, .post], [.pre, .pre, .post, .post, .un, .un, .un, .un, .post], [.pre, .pre, .pre, .post, .un, .un, .un, .un, .post], [.un, .un, .un, .un, .post, .un, .post, .post, .post], [.un, .un, .un, .un, .un, .post, .post, .post, .post], [.un, .un, .un, .un, .pre, .pre, .post, .post, .post], [.un, .un, .un, .un, .pre, .pre, .pre, .post, .post], [.pre, .pre, .pre, .pre, .pre, .pre, .pre, .pre, .post]] (by kernel_rfl) (by rfl) ?_; simp only [go_sem, List.length_map, Int.toNat_natCast, hxi, hyi, TFrame.enc, hz, hw, Bool.not_true])
            | (refine cSplit (fun h => ?_) (fun h => ?_) <;> simp only [go_sem, List.length_map, Int.toNat_natCast, hxi, hyi, TFrame.enc, hz, hw, Bool.not_true])
            | (with_reducible refine And.intro ?_ ?_; (focus (first | omega | (exact ⟨by omega, by omega⟩) | (simp; done) | (simp; omega)))))
          all_goals (refine RoundE.intro (i + 1) [] ⟨by omega, take_eq he hxl hyl hq⟩ (by omega) ?_; simp only [go_sem])
        · have hz : (decide (xs[i].kind = ys[i].kind) && (decide (xs[i].stream = ys[i].stream) && (decide (xs[i].offset = ys[i].offset) && (decide (xs[i].data = ys[i].data) && (decide (xs[i].fin = ys[i].fin) && (decide (xs[i].code = ys[i].code) && (decide (xs[i].limit = ys[i].limit) && (decide (xs[i].final = ys[i].final) && decide (xs[i].uni = ys[i].uni))))))))) = false := by rw [eqz_TFrame]; exact decide_eq_false hq
          have hne : xs ≠ ys := fun e => by subst e; exact hq rfl
          try simp only [go_sem]
          repeat' (first
            | (with_reducible refine gTrueS ?_; simp only [go_sem, List.length_map, Int.toNat_natCast, hxi, hyi, TFrame.enc, hz, Bool.not_false]) | (with_reducible refine gFalseS ?_; simp only [go_sem, List.length_map, Int.toNat_natCast, hxi, hyi, TFrame.enc, hz, Bool.not_false]) | (with_reducible refine gTrue ?_; simp only [go_sem, List.length_map, Int.toNat_natCast, hxi, hyi, TFrame.enc, hz, Bool.not_false]) | (with_reducible refine gFalse ?_; simp only [go_sem, List.length_map, Int.toNat_natCast, hxi, hyi, TFrame.enc, hz, Bool.not_false])
            | (refine gSymS ?_; simp only [go_sem, List.length_map, Int.toNat_natCast, hxi, hyi, TFrame.enc, hz, Bool.not_false]) | (refine gSym ?_; simp only [go_sem, List.length_map, Int.toNat_natCast, hxi, hyi, TFrame.enc, hz, Bool.not_false])
            | (refine drawE_intro [[.post, .un, .post, .post, .un, .un, .un, .un, .post], [.un, .post, .post, .post, .un, .un, .un, .un, .post], [.pre, .pre, .post, .post, .un, .un, .un, .un, .post], [.pre, .pre, .pre, .post, .un, .un, .un, .un, .post], [.un, .un, .un, .un, .post, .un, .post, .post, .post], [.un, .un, .un, .un, .un, .post, .post, .post, .post], [.un, .un, .un, .un, .pre, .pre, .post, .post, .post], [.un, .un, .un, .un, .pre, .pre, .pre, .post, .post], [.pre, .pre, .pre, .pre, .pre, .pre, .pre, .pre, .post]] (by kernel_rfl) (by rfl) ?_; simp only [go_sem, List.length_map, Int.toNat_natCast, hxi, hyi, TFrame.enc, hz, Bool.not_false])
            | (refine cSplit (fun h => ?_) (fun h => ?_) <;> simp only [go_sem, List.length_map, Int.toNat_natCast, hxi, hyi, TFrame.enc, hz, Bool.not_false])
            | (with_reducible refine And.intro ?_ ?_; (focus (first | omega | (exact ⟨by omega, by omega⟩) | (simp; done) | (simp; omega)))))
          all_goals simp [hne]
      · simp only [go_sem]
        simp only [decide_eq_false_iff_not] at h1
        have : xs = ys := by rw [List.take_of_length_le (by omega), List.take_of_length_le (by omega)] at he; exact he
        simp [this]

theorem eqz_TLetter (a b : TLetter) : (decide (a.number = b.number) && decide (a.payload = b.payload)) = decide (a = b) := by
  have h : ((decide (a.number = b.number) && decide (a.payload = b.payload)) = true) ↔ (decide (a = b) = true) := by
    cases a; cases b; simp
  cases h1 : (decide (a.number = b.number) && decide (a.payload = b.payload)) <;> cases h2 : decide (a = b) <;> simp_all
set_option maxRecDepth 100000 in
theorem slices_Equal_impl_Letter_impl_Letter (xs ys : List TLetter) : PureCall Tryz.prog 63 [.one (.sl 2 (xs.map TLetter.enc)), .one (.sl 2 (ys.map TLetter.enc))] [.one (.bool (decide (xs = ys)))] := by
  refine pure_ev Tryz.func63 rfl Tryz.call63 Tryz.checked.mixed [.d (.sl 2 (xs.map TLetter.enc)), .d (.sl 2 (ys.map TLetter.enc)), .junk, .junk, .junk, .junk, .junk, .junk, .junk, .junk, .junk, .junk, .junk, .junk, .junk, .junk, .junk, .junk, .junk, .junk, .junk, .junk, .junk, .junk, .junk, .junk] rfl [.tmp 4] rfl ?_
  intro ok
  have hm := len_of ok
  simp only [go_sem, List.length_map]
  refine cSplit (fun h => ?_) (fun h => ?_)
  · simp only [go_sem]
    simp only [ne_eq, decide_not, Bool.not_eq_true', decide_eq_false_iff_not] at h
    have : xs ≠ ys := fun e => h (by rw [e])
    simp [this]
  · simp only [ne_eq, decide_not, Bool.not_eq_false', decide_eq_true_eq] at h
    simp only [go_sem, List.length_map]
    refine LoopK.intro (fun i : Nat => ⟨[.d (.sl 2 (xs.map TLetter.enc)), .d (.sl 2 (ys.map TLetter.enc)), .junk, .junk, .d (.bool false), .junk, .junk, .junk, .junk, .junk, .junk, .junk, .d (.int .i64 xs.length), .d (.int .i64 i), .junk, .junk, .junk, .junk, .junk, .junk, .junk, .junk, .junk, .junk, .junk, .junk], []⟩)
      (fun i => xs.length - i) (fun i => i ≤ xs.length ∧ xs.take i = ys.take i) 0 [] ⟨by omega, by simp⟩ ?_ ?_
    · simp only [go_sem]; simp
    · rintro i ⟨hi, he⟩
      simp only [go_sem]
      refine cSplit (fun h1 => ?_) (fun h1 => ?_)
      · simp only [decide_eq_true_eq] at h1
        have hxl : i < xs.length := by omega
        have hyl : i < ys.length := by omega
        have hxi := map_at TLetter.enc xs i hxl
        have hyi := map_at TLetter.enc ys i hyl
        have hw := inc (i := i) (m := xs.length) hxl hm
        by_cases hq : xs[i] = ys[i]
        · have hz : (decide (xs[i].number = ys[i].number) && decide (xs[i].payload = ys[i].payload)) = true := by rw [eqz_TLetter]; exact decide_eq_true hq
          try simp only [go_sem]
          repeat' (first
            | (with_reducible refine gTrueS ?_; simp only [go_sem, List.length_map, Int.toNat_natCast, hxi, hyi, TLetter.enc, hz, hw, Bool.not_true]) | (with_reducible refine gFalseS ?_; simp only [go_sem, List.length_map, Int.toNat_natCast, hxi, hyi, TLetter.enc, hz, hw, Bool.not_true]) | (with_reducible refine gTrue ?_; simp only [go_sem, List.length_map, Int.toNat_natCast, hxi, hyi, TLetter.enc, hz, hw, Bool.not_true]) | (with_reducible refine gFalse ?_; simp only [go_sem, List.length_map, Int.toNat_natCast, hxi, hyi, TLetter.enc, hz, hw, Bool.not_true])
            | (refine gSymS ?_; simp only [go_sem, List.length_map, Int.toNat_natCast, hxi, hyi, TLetter.enc, hz, hw, Bool.not_true]) | (refine gSym ?_; simp only [go_sem, List.length_map, Int.toNat_natCast, hxi, hyi, TLetter.enc, hz, hw, Bool.not_true])
            | (refine drawE_intro [[.post, .un, .post, .post, .un, .un, .un, .un, .post], [.un, .post, .post, .post, .un, .un, .un, .un, .post], [.pre, .pre, .post, .post, .un, .un, .un, .un, .post], [.pre, .pre, .pre, .post, .un, .un, .un, .un, .post], [.un, .un, .un, .un, .post, .un, .post, .post, .post], [.un, .un, .un, .un, .un, .post, .post, .post, .post], [.un, .un, .un, .un, .pre, .pre, .post, .post, .post], [.un, .un, .un, .un, .pre, .pre, .pre, .post, .post], [.pre, .pre, .pre, .pre, .pre, .pre, .pre, .pre, .post]] (by kernel_rfl) (by rfl) ?_; simp only [go_sem, List.length_map, Int.toNat_natCast, hxi, hyi, TLetter.enc, hz, hw, Bool.not_true])
            | (refine cSplit (fun h => ?_) (fun h => ?_) <;> simp only [go_sem, List.length_map, Int.toNat_natCast, hxi, hyi, TLetter.enc, hz, hw, Bool.not_true])
            | (with_reducible refine And.intro ?_ ?_; (focus (first | omega | (exact ⟨by omega, by omega⟩) | (simp; done) | (simp; omega)))))
          all_goals (refine RoundE.intro (i + 1) [] ⟨by omega, take_eq he hxl hyl hq⟩ (by omega) ?_; simp only [go_sem])
        · have hz : (decide (xs[i].number = ys[i].number) && decide (xs[i].payload = ys[i].payload)) = false := by rw [eqz_TLetter]; exact decide_eq_false hq
          have hne : xs ≠ ys := fun e => by subst e; exact hq rfl
          try simp only [go_sem]
          repeat' (first
            | (with_reducible refine gTrueS ?_; simp only [go_sem, List.length_map, Int.toNat_natCast, hxi, hyi, TLetter.enc, hz, Bool.not_false]) | (with_reducible refine gFalseS ?_; simp only [go_sem, List.length_map, Int.toNat_natCast, hxi, hyi, TLetter.enc, hz, Bool.not_false]) | (with_reducible refine gTrue ?_; simp only [go_sem, List.length_map, Int.toNat_natCast, hxi, hyi, TLetter.enc, hz, Bool.not_false]) | (with_reducible refine gFalse ?_; simp only [go_sem, List.length_map, Int.toNat_natCast, hxi, hyi, TLetter.enc, hz, Bool.not_false])
            | (refine gSymS ?_; simp only [go_sem, List.length_map, Int.toNat_natCast, hxi, hyi, TLetter.enc, hz, Bool.not_false]) | (refine gSym ?_; simp only [go_sem, List.length_map, Int.toNat_natCast, hxi, hyi, TLetter.enc, hz, Bool.not_false])
            | (refine drawE_intro [[.post, .un, .post, .post, .un, .un, .un, .un, .post], [.un, .post, .post, .post, .un, .un, .un, .un, .post], [.pre, .pre, .post, .post, .un, .un, .un, .un, .post], [.pre, .pre, .pre, .post, .un, .un, .un, .un, .post], [.un, .un, .un, .un, .post, .un, .post, .post, .post], [.un, .un, .un, .un, .un, .post, .post, .post, .post], [.un, .un, .un, .un, .pre, .pre, .post, .post, .post], [.un, .un, .un, .un, .pre, .pre, .pre, .post, .post], [.pre, .pre, .pre, .pre, .pre, .pre, .pre, .pre, .post]] (by kernel_rfl) (by rfl) ?_; simp only [go_sem, List.length_map, Int.toNat_natCast, hxi, hyi, TLetter.enc, hz, Bool.not_false])
            | (refine cSplit (fun h => ?_) (fun h => ?_) <;> simp only [go_sem, List.length_map, Int.toNat_natCast, hxi, hyi, TLetter.enc, hz, Bool.not_false])
            | (with_reducible refine And.intro ?_ ?_; (focus (first | omega | (exact ⟨by omega, by omega⟩) | (simp; done) | (simp; omega)))))
          all_goals simp [hne]
      · simp only [go_sem]
        simp only [decide_eq_false_iff_not] at h1
        have : xs = ys := by rw [List.take_of_length_le (by omega), List.take_of_length_le (by omega)] at he; exact he
        simp [this]

theorem eqz_TTrack (a b : TTrack) : (decide (a.id = b.id) && (decide (a.server = b.server) && (decide (a.wrote = b.wrote) && (decide (a.got = b.got) && (decide (a.done = b.done) && (decide (a.ended = b.ended) && decide (a.broken = b.broken))))))) = decide (a = b) := by
  have h : ((decide (a.id = b.id) && (decide (a.server = b.server) && (decide (a.wrote = b.wrote) && (decide (a.got = b.got) && (decide (a.done = b.done) && (decide (a.ended = b.ended) && decide (a.broken = b.broken))))))) = true) ↔ (decide (a = b) = true) := by
    cases a; cases b; simp
  cases h1 : (decide (a.id = b.id) && (decide (a.server = b.server) && (decide (a.wrote = b.wrote) && (decide (a.got = b.got) && (decide (a.done = b.done) && (decide (a.ended = b.ended) && decide (a.broken = b.broken))))))) <;> cases h2 : decide (a = b) <;> simp_all
set_option maxRecDepth 100000 in
theorem slices_Equal_impl_Track_impl_Track (xs ys : List TTrack) : PureCall Tryz.prog 26 [.one (.sl 7 (xs.map TTrack.enc)), .one (.sl 7 (ys.map TTrack.enc))] [.one (.bool (decide (xs = ys)))] := by
  refine pure_ev Tryz.func26 rfl Tryz.call26 Tryz.checked.mixed [.d (.sl 7 (xs.map TTrack.enc)), .d (.sl 7 (ys.map TTrack.enc)), .junk, .junk, .junk, .junk, .junk, .junk, .junk, .junk, .junk, .junk, .junk, .junk, .junk, .junk, .junk, .junk, .junk, .junk, .junk, .junk, .junk, .junk, .junk, .junk] rfl [.tmp 4] rfl ?_
  intro ok
  have hm := len_of ok
  simp only [go_sem, List.length_map]
  refine cSplit (fun h => ?_) (fun h => ?_)
  · simp only [go_sem]
    simp only [ne_eq, decide_not, Bool.not_eq_true', decide_eq_false_iff_not] at h
    have : xs ≠ ys := fun e => h (by rw [e])
    simp [this]
  · simp only [ne_eq, decide_not, Bool.not_eq_false', decide_eq_true_eq] at h
    simp only [go_sem, List.length_map]
    refine LoopK.intro (fun i : Nat => ⟨[.d (.sl 7 (xs.map TTrack.enc)), .d (.sl 7 (ys.map TTrack.enc)), .junk, .junk, .d (.bool false), .junk, .junk, .junk, .junk, .junk, .junk, .junk, .d (.int .i64 xs.length), .d (.int .i64 i), .junk, .junk, .junk, .junk, .junk, .junk, .junk, .junk, .junk, .junk, .junk, .junk], []⟩)
      (fun i => xs.length - i) (fun i => i ≤ xs.length ∧ xs.take i = ys.take i) 0 [] ⟨by omega, by simp⟩ ?_ ?_
    · simp only [go_sem]; simp
    · rintro i ⟨hi, he⟩
      simp only [go_sem]
      refine cSplit (fun h1 => ?_) (fun h1 => ?_)
      · simp only [decide_eq_true_eq] at h1
        have hxl : i < xs.length := by omega
        have hyl : i < ys.length := by omega
        have hxi := map_at TTrack.enc xs i hxl
        have hyi := map_at TTrack.enc ys i hyl
        have hw := inc (i := i) (m := xs.length) hxl hm
        by_cases hq : xs[i] = ys[i]
        · have hz : (decide (xs[i].id = ys[i].id) && (decide (xs[i].server = ys[i].server) && (decide (xs[i].wrote = ys[i].wrote) && (decide (xs[i].got = ys[i].got) && (decide (xs[i].done = ys[i].done) && (decide (xs[i].ended = ys[i].ended) && decide (xs[i].broken = ys[i].broken))))))) = true := by rw [eqz_TTrack]; exact decide_eq_true hq
          try simp only [go_sem]
          repeat' (first
            | (with_reducible refine gTrueS ?_; simp only [go_sem, List.length_map, Int.toNat_natCast, hxi, hyi, TTrack.enc, hz, hw, Bool.not_true]) | (with_reducible refine gFalseS ?_; simp only [go_sem, List.length_map, Int.toNat_natCast, hxi, hyi, TTrack.enc, hz, hw, Bool.not_true]) | (with_reducible refine gTrue ?_; simp only [go_sem, List.length_map, Int.toNat_natCast, hxi, hyi, TTrack.enc, hz, hw, Bool.not_true]) | (with_reducible refine gFalse ?_; simp only [go_sem, List.length_map, Int.toNat_natCast, hxi, hyi, TTrack.enc, hz, hw, Bool.not_true])
            | (refine gSymS ?_; simp only [go_sem, List.length_map, Int.toNat_natCast, hxi, hyi, TTrack.enc, hz, hw, Bool.not_true]) | (refine gSym ?_; simp only [go_sem, List.length_map, Int.toNat_natCast, hxi, hyi, TTrack.enc, hz, hw, Bool.not_true])
            | (refine drawE_intro [[.post, .un, .post, .post, .un, .un, .un, .un, .post], [.un, .post, .post, .post, .un, .un, .un, .un, .post], [.pre, .pre, .post, .post, .un, .un, .un, .un, .post], [.pre, .pre, .pre, .post, .un, .un, .un, .un, .post], [.un, .un, .un, .un, .post, .un, .post, .post, .post], [.un, .un, .un, .un, .un, .post, .post, .post, .post], [.un, .un, .un, .un, .pre, .pre, .post, .post, .post], [.un, .un, .un, .un, .pre, .pre, .pre, .post, .post], [.pre, .pre, .pre, .pre, .pre, .pre, .pre, .pre, .post]] (by kernel_rfl) (by rfl) ?_; simp only [go_sem, List.length_map, Int.toNat_natCast, hxi, hyi, TTrack.enc, hz, hw, Bool.not_true])
            | (refine cSplit (fun h => ?_) (fun h => ?_) <;> simp only [go_sem, List.length_map, Int.toNat_natCast, hxi, hyi, TTrack.enc, hz, hw, Bool.not_true])
            | (with_reducible refine And.intro ?_ ?_; (focus (first | omega | (exact ⟨by omega, by omega⟩) | (simp; done) | (simp; omega)))))
          all_goals (refine RoundE.intro (i + 1) [] ⟨by omega, take_eq he hxl hyl hq⟩ (by omega) ?_; simp only [go_sem])
        · have hz : (decide (xs[i].id = ys[i].id) && (decide (xs[i].server = ys[i].server) && (decide (xs[i].wrote = ys[i].wrote) && (decide (xs[i].got = ys[i].got) && (decide (xs[i].done = ys[i].done) && (decide (xs[i].ended = ys[i].ended) && decide (xs[i].broken = ys[i].broken))))))) = false := by rw [eqz_TTrack]; exact decide_eq_false hq
          have hne : xs ≠ ys := fun e => by subst e; exact hq rfl
          try simp only [go_sem]
          repeat' (first
            | (with_reducible refine gTrueS ?_; simp only [go_sem, List.length_map, Int.toNat_natCast, hxi, hyi, TTrack.enc, hz, Bool.not_false]) | (with_reducible refine gFalseS ?_; simp only [go_sem, List.length_map, Int.toNat_natCast, hxi, hyi, TTrack.enc, hz, Bool.not_false]) | (with_reducible refine gTrue ?_; simp only [go_sem, List.length_map, Int.toNat_natCast, hxi, hyi, TTrack.enc, hz, Bool.not_false]) | (with_reducible refine gFalse ?_; simp only [go_sem, List.length_map, Int.toNat_natCast, hxi, hyi, TTrack.enc, hz, Bool.not_false])
            | (refine gSymS ?_; simp only [go_sem, List.length_map, Int.toNat_natCast, hxi, hyi, TTrack.enc, hz, Bool.not_false]) | (refine gSym ?_; simp only [go_sem, List.length_map, Int.toNat_natCast, hxi, hyi, TTrack.enc, hz, Bool.not_false])
            | (refine drawE_intro [[.post, .un, .post, .post, .un, .un, .un, .un, .post], [.un, .post, .post, .post, .un, .un, .un, .un, .post], [.pre, .pre, .post, .post, .un, .un, .un, .un, .post], [.pre, .pre, .pre, .post, .un, .un, .un, .un, .post], [.un, .un, .un, .un, .post, .un, .post, .post, .post], [.un, .un, .un, .un, .un, .post, .post, .post, .post], [.un, .un, .un, .un, .pre, .pre, .post, .post, .post], [.un, .un, .un, .un, .pre, .pre, .pre, .post, .post], [.pre, .pre, .pre, .pre, .pre, .pre, .pre, .pre, .post]] (by kernel_rfl) (by rfl) ?_; simp only [go_sem, List.length_map, Int.toNat_natCast, hxi, hyi, TTrack.enc, hz, Bool.not_false])
            | (refine cSplit (fun h => ?_) (fun h => ?_) <;> simp only [go_sem, List.length_map, Int.toNat_natCast, hxi, hyi, TTrack.enc, hz, Bool.not_false])
            | (with_reducible refine And.intro ?_ ?_; (focus (first | omega | (exact ⟨by omega, by omega⟩) | (simp; done) | (simp; omega)))))
          all_goals simp [hne]
      · simp only [go_sem]
        simp only [decide_eq_false_iff_not] at h1
        have : xs = ys := by rw [List.take_of_length_le (by omega), List.take_of_length_le (by omega)] at he; exact he
        simp [this]

set_option maxRecDepth 100000 in
theorem spec_EqualRanges (xs ys : List TRange) : PureCall Tryz.prog 122 [.one (.sl 2 (xs.map TRange.enc)), .one (.sl 2 (ys.map TRange.enc))] [.one (.bool (decide (xs = ys)))] := by
  refine pure_ev Tryz.func122 rfl Tryz.call122 Tryz.checked.mixed [.d (.sl 2 (xs.map TRange.enc)), .d (.sl 2 (ys.map TRange.enc)), .junk, .junk, .junk, .junk, .junk, .junk, .junk, .junk, .junk, .junk, .junk, .junk, .junk, .junk, .junk, .junk, .junk, .junk, .junk, .junk, .junk, .junk, .junk, .junk] rfl [.tmp 4] rfl ?_
  intro ok
  have hm := len_of ok
  simp only [go_sem, List.length_map]
  refine cSplit (fun h => ?_) (fun h => ?_)
  · simp only [go_sem]
    simp only [ne_eq, decide_not, Bool.not_eq_true', decide_eq_false_iff_not] at h
    have : xs ≠ ys := fun e => h (by rw [e])
    simp [this]
  · simp only [ne_eq, decide_not, Bool.not_eq_false', decide_eq_true_eq] at h
    simp only [go_sem]
    refine LoopK.intro (fun i : Nat => ⟨[.d (.sl 2 (xs.map TRange.enc)), .d (.sl 2 (ys.map TRange.enc)), .junk, .junk, .d (.bool false), .d (.int .i64 i), .junk, .junk, .junk, .junk, .junk, .junk, .junk, .junk, .junk, .junk, .junk, .junk, .junk, .junk, .junk, .junk, .junk, .junk, .junk, .junk], []⟩)
      (fun i => xs.length - i) (fun i => i ≤ xs.length ∧ xs.take i = ys.take i) 0 [] ⟨by omega, by simp⟩ ?_ ?_
    · simp only [go_sem]; simp
    · rintro i ⟨hi, he⟩
      simp only [go_sem, List.length_map]
      refine cSplit (fun h1 => ?_) (fun h1 => ?_)
      · simp only [decide_eq_true_eq] at h1
        have hxl : i < xs.length := by omega
        have hyl : i < ys.length := by omega
        have hxi := map_at TRange.enc xs i hxl
        have hyi := map_at TRange.enc ys i hyl
        have hw := inc (i := i) (m := xs.length) hxl hm
        by_cases hq : xs[i] = ys[i]
        · have hz : (decide (xs[i].low = ys[i].low) && decide (xs[i].high = ys[i].high)) = true := by rw [eqz_TRange]; exact decide_eq_true hq
          try simp only [go_sem]
          repeat' (first
            | (with_reducible refine gTrueS ?_; simp only [go_sem, List.length_map, Int.toNat_natCast, hxi, hyi, TRange.enc, hz, hw, Bool.not_true]) | (with_reducible refine gFalseS ?_; simp only [go_sem, List.length_map, Int.toNat_natCast, hxi, hyi, TRange.enc, hz, hw, Bool.not_true]) | (with_reducible refine gTrue ?_; simp only [go_sem, List.length_map, Int.toNat_natCast, hxi, hyi, TRange.enc, hz, hw, Bool.not_true]) | (with_reducible refine gFalse ?_; simp only [go_sem, List.length_map, Int.toNat_natCast, hxi, hyi, TRange.enc, hz, hw, Bool.not_true])
            | (refine gSymS ?_; simp only [go_sem, List.length_map, Int.toNat_natCast, hxi, hyi, TRange.enc, hz, hw, Bool.not_true]) | (refine gSym ?_; simp only [go_sem, List.length_map, Int.toNat_natCast, hxi, hyi, TRange.enc, hz, hw, Bool.not_true])
            | (refine drawE_intro [[.post, .un, .post, .post, .un, .un, .un, .un, .post], [.un, .post, .post, .post, .un, .un, .un, .un, .post], [.pre, .pre, .post, .post, .un, .un, .un, .un, .post], [.pre, .pre, .pre, .post, .un, .un, .un, .un, .post], [.un, .un, .un, .un, .post, .un, .post, .post, .post], [.un, .un, .un, .un, .un, .post, .post, .post, .post], [.un, .un, .un, .un, .pre, .pre, .post, .post, .post], [.un, .un, .un, .un, .pre, .pre, .pre, .post, .post], [.pre, .pre, .pre, .pre, .pre, .pre, .pre, .pre, .post]] (by kernel_rfl) (by rfl) ?_; simp only [go_sem, List.length_map, Int.toNat_natCast, hxi, hyi, TRange.enc, hz, hw, Bool.not_true])
            | (refine cSplit (fun h => ?_) (fun h => ?_) <;> simp only [go_sem, List.length_map, Int.toNat_natCast, hxi, hyi, TRange.enc, hz, hw, Bool.not_true])
            | (with_reducible refine And.intro ?_ ?_; (focus (first | omega | (exact ⟨by omega, by omega⟩) | (simp; done) | (simp; omega)))))
          all_goals (refine RoundE.intro (i + 1) [] ⟨by omega, take_eq he hxl hyl hq⟩ (by omega) ?_; simp only [go_sem])
        · have hz : (decide (xs[i].low = ys[i].low) && decide (xs[i].high = ys[i].high)) = false := by rw [eqz_TRange]; exact decide_eq_false hq
          have hne : xs ≠ ys := fun e => by subst e; exact hq rfl
          try simp only [go_sem]
          repeat' (first
            | (with_reducible refine gTrueS ?_; simp only [go_sem, List.length_map, Int.toNat_natCast, hxi, hyi, TRange.enc, hz, Bool.not_false]) | (with_reducible refine gFalseS ?_; simp only [go_sem, List.length_map, Int.toNat_natCast, hxi, hyi, TRange.enc, hz, Bool.not_false]) | (with_reducible refine gTrue ?_; simp only [go_sem, List.length_map, Int.toNat_natCast, hxi, hyi, TRange.enc, hz, Bool.not_false]) | (with_reducible refine gFalse ?_; simp only [go_sem, List.length_map, Int.toNat_natCast, hxi, hyi, TRange.enc, hz, Bool.not_false])
            | (refine gSymS ?_; simp only [go_sem, List.length_map, Int.toNat_natCast, hxi, hyi, TRange.enc, hz, Bool.not_false]) | (refine gSym ?_; simp only [go_sem, List.length_map, Int.toNat_natCast, hxi, hyi, TRange.enc, hz, Bool.not_false])
            | (refine drawE_intro [[.post, .un, .post, .post, .un, .un, .un, .un, .post], [.un, .post, .post, .post, .un, .un, .un, .un, .post], [.pre, .pre, .post, .post, .un, .un, .un, .un, .post], [.pre, .pre, .pre, .post, .un, .un, .un, .un, .post], [.un, .un, .un, .un, .post, .un, .post, .post, .post], [.un, .un, .un, .un, .un, .post, .post, .post, .post], [.un, .un, .un, .un, .pre, .pre, .post, .post, .post], [.un, .un, .un, .un, .pre, .pre, .pre, .post, .post], [.pre, .pre, .pre, .pre, .pre, .pre, .pre, .pre, .post]] (by kernel_rfl) (by rfl) ?_; simp only [go_sem, List.length_map, Int.toNat_natCast, hxi, hyi, TRange.enc, hz, Bool.not_false])
            | (refine cSplit (fun h => ?_) (fun h => ?_) <;> simp only [go_sem, List.length_map, Int.toNat_natCast, hxi, hyi, TRange.enc, hz, Bool.not_false])
            | (with_reducible refine And.intro ?_ ?_; (focus (first | omega | (exact ⟨by omega, by omega⟩) | (simp; done) | (simp; omega)))))
          all_goals simp [hne]
      · simp only [go_sem]
        simp only [decide_eq_false_iff_not] at h1
        have : xs = ys := by rw [List.take_of_length_le (by omega), List.take_of_length_le (by omega)] at he; exact he
        simp [this]

set_option maxRecDepth 100000 in
theorem spec_SameLetters (xs ys : List TLetter) : PureCall Tryz.prog 20 [.one (.sl 2 (xs.map TLetter.enc)), .one (.sl 2 (ys.map TLetter.enc))] [.one (.bool (decide (xs = ys)))] := by
  refine pure_ev Tryz.func20 rfl Tryz.call20 Tryz.checked.mixed [.d (.sl 2 (xs.map TLetter.enc)), .d (.sl 2 (ys.map TLetter.enc)), .junk, .junk, .junk, .junk, .junk, .junk, .junk, .junk, .junk, .junk, .junk, .junk, .junk, .junk, .junk, .junk, .junk, .junk, .junk, .junk, .junk, .junk, .junk, .junk] rfl [.tmp 4] rfl ?_
  intro ok
  have hm := len_of ok
  simp only [go_sem, List.length_map]
  refine cSplit (fun h => ?_) (fun h => ?_)
  · simp only [go_sem]
    simp only [ne_eq, decide_not, Bool.not_eq_true', decide_eq_false_iff_not] at h
    have : xs ≠ ys := fun e => h (by rw [e])
    simp [this]
  · simp only [ne_eq, decide_not, Bool.not_eq_false', decide_eq_true_eq] at h
    simp only [go_sem]
    refine LoopK.intro (fun i : Nat => ⟨[.d (.sl 2 (xs.map TLetter.enc)), .d (.sl 2 (ys.map TLetter.enc)), .junk, .junk, .d (.bool false), .d (.int .i64 i), .junk, .junk, .junk, .junk, .junk, .junk, .junk, .junk, .junk, .junk, .junk, .junk, .junk, .junk, .junk, .junk, .junk, .junk, .junk, .junk], []⟩)
      (fun i => xs.length - i) (fun i => i ≤ xs.length ∧ xs.take i = ys.take i) 0 [] ⟨by omega, by simp⟩ ?_ ?_
    · simp only [go_sem]; simp
    · rintro i ⟨hi, he⟩
      simp only [go_sem, List.length_map]
      refine cSplit (fun h1 => ?_) (fun h1 => ?_)
      · simp only [decide_eq_true_eq] at h1
        have hxl : i < xs.length := by omega
        have hyl : i < ys.length := by omega
        have hxi := map_at TLetter.enc xs i hxl
        have hyi := map_at TLetter.enc ys i hyl
        have hw := inc (i := i) (m := xs.length) hxl hm
        by_cases hq : xs[i] = ys[i]
        · have hz : (decide (xs[i].number = ys[i].number) && decide (xs[i].payload = ys[i].payload)) = true := by rw [eqz_TLetter]; exact decide_eq_true hq
          try simp only [go_sem]
          repeat' (first
            | (with_reducible refine gTrueS ?_; simp only [go_sem, List.length_map, Int.toNat_natCast, hxi, hyi, TLetter.enc, hz, hw, Bool.not_true]) | (with_reducible refine gFalseS ?_; simp only [go_sem, List.length_map, Int.toNat_natCast, hxi, hyi, TLetter.enc, hz, hw, Bool.not_true]) | (with_reducible refine gTrue ?_; simp only [go_sem, List.length_map, Int.toNat_natCast, hxi, hyi, TLetter.enc, hz, hw, Bool.not_true]) | (with_reducible refine gFalse ?_; simp only [go_sem, List.length_map, Int.toNat_natCast, hxi, hyi, TLetter.enc, hz, hw, Bool.not_true])
            | (refine gSymS ?_; simp only [go_sem, List.length_map, Int.toNat_natCast, hxi, hyi, TLetter.enc, hz, hw, Bool.not_true]) | (refine gSym ?_; simp only [go_sem, List.length_map, Int.toNat_natCast, hxi, hyi, TLetter.enc, hz, hw, Bool.not_true])
            | (refine drawE_intro [[.post, .un, .post, .post, .un, .un, .un, .un, .post], [.un, .post, .post, .post, .un, .un, .un, .un, .post], [.pre, .pre, .post, .post, .un, .un, .un, .un, .post], [.pre, .pre, .pre, .post, .un, .un, .un, .un, .post], [.un, .un, .un, .un, .post, .un, .post, .post, .post], [.un, .un, .un, .un, .un, .post, .post, .post, .post], [.un, .un, .un, .un, .pre, .pre, .post, .post, .post], [.un, .un, .un, .un, .pre, .pre, .pre, .post, .post], [.pre, .pre, .pre, .pre, .pre, .pre, .pre, .pre, .post]] (by kernel_rfl) (by rfl) ?_; simp only [go_sem, List.length_map, Int.toNat_natCast, hxi, hyi, TLetter.enc, hz, hw, Bool.not_true])
            | (refine cSplit (fun h => ?_) (fun h => ?_) <;> simp only [go_sem, List.length_map, Int.toNat_natCast, hxi, hyi, TLetter.enc, hz, hw, Bool.not_true])
            | (with_reducible refine And.intro ?_ ?_; (focus (first | omega | (exact ⟨by omega, by omega⟩) | (simp; done) | (simp; omega)))))
          all_goals (refine RoundE.intro (i + 1) [] ⟨by omega, take_eq he hxl hyl hq⟩ (by omega) ?_; simp only [go_sem])
        · have hz : (decide (xs[i].number = ys[i].number) && decide (xs[i].payload = ys[i].payload)) = false := by rw [eqz_TLetter]; exact decide_eq_false hq
          have hne : xs ≠ ys := fun e => by subst e; exact hq rfl
          try simp only [go_sem]
          repeat' (first
            | (with_reducible refine gTrueS ?_; simp only [go_sem, List.length_map, Int.toNat_natCast, hxi, hyi, TLetter.enc, hz, Bool.not_false]) | (with_reducible refine gFalseS ?_; simp only [go_sem, List.length_map, Int.toNat_natCast, hxi, hyi, TLetter.enc, hz, Bool.not_false]) | (with_reducible refine gTrue ?_; simp only [go_sem, List.length_map, Int.toNat_natCast, hxi, hyi, TLetter.enc, hz, Bool.not_false]) | (with_reducible refine gFalse ?_; simp only [go_sem, List.length_map, Int.toNat_natCast, hxi, hyi, TLetter.enc, hz, Bool.not_false])
            | (refine gSymS ?_; simp only [go_sem, List.length_map, Int.toNat_natCast, hxi, hyi, TLetter.enc, hz, Bool.not_false]) | (refine gSym ?_; simp only [go_sem, List.length_map, Int.toNat_natCast, hxi, hyi, TLetter.enc, hz, Bool.not_false])
            | (refine drawE_intro [[.post, .un, .post, .post, .un, .un, .un, .un, .post], [.un, .post, .post, .post, .un, .un, .un, .un, .post], [.pre, .pre, .post, .post, .un, .un, .un, .un, .post], [.pre, .pre, .pre, .post, .un, .un, .un, .un, .post], [.un, .un, .un, .un, .post, .un, .post, .post, .post], [.un, .un, .un, .un, .un, .post, .post, .post, .post], [.un, .un, .un, .un, .pre, .pre, .post, .post, .post], [.un, .un, .un, .un, .pre, .pre, .pre, .post, .post], [.pre, .pre, .pre, .pre, .pre, .pre, .pre, .pre, .post]] (by kernel_rfl) (by rfl) ?_; simp only [go_sem, List.length_map, Int.toNat_natCast, hxi, hyi, TLetter.enc, hz, Bool.not_false])
            | (refine cSplit (fun h => ?_) (fun h => ?_) <;> simp only [go_sem, List.length_map, Int.toNat_natCast, hxi, hyi, TLetter.enc, hz, Bool.not_false])
            | (with_reducible refine And.intro ?_ ?_; (focus (first | omega | (exact ⟨by omega, by omega⟩) | (simp; done) | (simp; omega)))))
          all_goals simp [hne]
      · simp only [go_sem]
        simp only [decide_eq_false_iff_not] at h1
        have : xs = ys := by rw [List.take_of_length_le (by omega), List.take_of_length_le (by omega)] at he; exact he
        simp [this]

set_option maxRecDepth 100000 in
theorem impl_EqualRanges (xs ys : List TRange) : PureCall Tryz.prog 129 [.one (.sl 2 (xs.map TRange.enc)), .one (.sl 2 (ys.map TRange.enc))] [.one (.bool (decide (xs = ys)))] := by
  refine pure_ev Tryz.func129 rfl Tryz.call129 Tryz.checked.mixed [.d (.sl 2 (xs.map TRange.enc)), .d (.sl 2 (ys.map TRange.enc)), .junk, .junk, .junk, .junk, .junk, .junk] rfl [.tmp 4] rfl ?_
  intro ok
  try simp only [go_sem]
  repeat' (first
    | (refine CallS.intro (by first | (apply slices_Equal_impl_Range_impl_Range <;> first | assumption | omega)) ?_; simp only [go_sem])
    | (refine CallK.intro (by first | (apply slices_Equal_impl_Range_impl_Range <;> first | assumption | omega)) ?_; simp only [go_sem])
    | (with_reducible refine gTrueS ?_; simp only [go_sem]) | (with_reducible refine gFalseS ?_; simp only [go_sem]) | (with_reducible refine gTrue ?_; simp only [go_sem]) | (with_reducible refine gFalse ?_; simp only [go_sem])
    | (refine gSymS ?_; simp only [go_sem]) | (refine gSym ?_; simp only [go_sem])
    | (refine cSplit (fun h => ?_) (fun h => ?_) <;> simp only [go_sem])
    | (with_reducible refine And.intro ?_ ?_; (focus (first | omega | (exact ⟨by omega, by omega⟩) | (simp; done) | (simp; omega)))))
  all_goals simp

set_option maxRecDepth 100000 in
theorem impl_SameLetters (xs ys : List TLetter) : PureCall Tryz.prog 25 [.one (.sl 2 (xs.map TLetter.enc)), .one (.sl 2 (ys.map TLetter.enc))] [.one (.bool (decide (xs = ys)))] := by
  refine pure_ev Tryz.func25 rfl Tryz.call25 Tryz.checked.mixed [.d (.sl 2 (xs.map TLetter.enc)), .d (.sl 2 (ys.map TLetter.enc)), .junk, .junk, .junk, .junk, .junk, .junk] rfl [.tmp 4] rfl ?_
  intro ok
  try simp only [go_sem]
  repeat' (first
    | (refine CallS.intro (by first | (apply slices_Equal_impl_Letter_impl_Letter <;> first | assumption | omega)) ?_; simp only [go_sem])
    | (refine CallK.intro (by first | (apply slices_Equal_impl_Letter_impl_Letter <;> first | assumption | omega)) ?_; simp only [go_sem])
    | (with_reducible refine gTrueS ?_; simp only [go_sem]) | (with_reducible refine gFalseS ?_; simp only [go_sem]) | (with_reducible refine gTrue ?_; simp only [go_sem]) | (with_reducible refine gFalse ?_; simp only [go_sem])
    | (refine gSymS ?_; simp only [go_sem]) | (refine gSym ?_; simp only [go_sem])
    | (refine cSplit (fun h => ?_) (fun h => ?_) <;> simp only [go_sem])
    | (with_reducible refine And.intro ?_ ?_; (focus (first | omega | (exact ⟨by omega, by omega⟩) | (simp; done) | (simp; omega)))))
  all_goals simp

set_option maxRecDepth 100000 in
theorem impl_EqualRings (x y : TRing) : PureCall Tryz.prog 128 [.agg [.int .i64 x.size, .int .i64 x.base, .int .i64 x.end', .sl 1 (x.cells.map eI)], .agg [.int .i64 y.size, .int .i64 y.base, .int .i64 y.end', .sl 1 (y.cells.map eI)]] [.one (.bool (decide (x = y)))] := by
  refine pure_ev Tryz.func128 rfl Tryz.call128 Tryz.checked.mixed [.agg [.d (.int .i64 x.size), .d (.int .i64 x.base), .d (.int .i64 x.end'), .d (.sl 1 (x.cells.map eI))], .agg [.d (.int .i64 y.size), .d (.int .i64 y.base), .d (.int .i64 y.end'), .d (.sl 1 (y.cells.map eI))], .junk, .junk, .junk, .junk, .junk, .junk, .junk, .junk, .junk, .junk, .junk, .junk, .junk, .junk, .junk, .junk, .junk, .junk, .junk, .junk, .junk, .junk, .junk, .junk, .junk, .junk, .junk, .junk, .junk] rfl [.tmp 4] rfl ?_
  intro ok
  try simp only [go_sem]
  repeat' (first
    | (refine CallS.intro (by first | (apply slices_Equal_int_int <;> first | assumption | omega)) ?_; simp only [go_sem])
    | (refine CallK.intro (by first | (apply slices_Equal_int_int <;> first | assumption | omega)) ?_; simp only [go_sem])
    | (with_reducible refine gTrueS ?_; simp only [go_sem]) | (with_reducible refine gFalseS ?_; simp only [go_sem]) | (with_reducible refine gTrue ?_; simp only [go_sem]) | (with_reducible refine gFalse ?_; simp only [go_sem])
    | (refine gSymS ?_; simp only [go_sem]) | (refine gSym ?_; simp only [go_sem])
    | (refine cSplit (fun h => ?_) (fun h => ?_) <;> simp only [go_sem])
    | (with_reducible refine And.intro ?_ ?_; (focus (first | omega | (exact ⟨by omega, by omega⟩) | (simp; done) | (simp; omega)))))
  all_goals (refine one_bool ?_; cases x; cases y; simp [bif_and]; try (constructor <;> intro h <;> simp_all))

set_option maxRecDepth 100000 in
theorem impl_EqualBuffers (x y : TBuffer) : PureCall Tryz.prog 130 [.agg [.int .i64 x.next, .sl 2 (x.chunks.map TChunk.enc)], .agg [.int .i64 y.next, .sl 2 (y.chunks.map TChunk.enc)]] [.one (.bool (decide (x = y)))] := by
  refine pure_ev Tryz.func130 rfl Tryz.call130 Tryz.checked.mixed [.agg [.d (.int .i64 x.next), .d (.sl 2 (x.chunks.map TChunk.enc))], .agg [.d (.int .i64 y.next), .d (.sl 2 (y.chunks.map TChunk.enc))], .junk, .junk, .junk, .junk, .junk, .junk, .junk, .junk, .junk, .junk, .junk, .junk, .junk, .junk, .junk] rfl [.tmp 4] rfl ?_
  intro ok
  try simp only [go_sem]
  repeat' (first
    | (refine CallS.intro (by first | (apply slices_Equal_impl_Chunk_impl_Chunk <;> first | assumption | omega)) ?_; simp only [go_sem])
    | (refine CallK.intro (by first | (apply slices_Equal_impl_Chunk_impl_Chunk <;> first | assumption | omega)) ?_; simp only [go_sem])
    | (with_reducible refine gTrueS ?_; simp only [go_sem]) | (with_reducible refine gFalseS ?_; simp only [go_sem]) | (with_reducible refine gTrue ?_; simp only [go_sem]) | (with_reducible refine gFalse ?_; simp only [go_sem])
    | (refine gSymS ?_; simp only [go_sem]) | (refine gSym ?_; simp only [go_sem])
    | (refine cSplit (fun h => ?_) (fun h => ?_) <;> simp only [go_sem])
    | (with_reducible refine And.intro ?_ ?_; (focus (first | omega | (exact ⟨by omega, by omega⟩) | (simp; done) | (simp; omega)))))
  all_goals (refine one_bool ?_; cases x; cases y; simp [bif_and]; try (constructor <;> intro h <;> simp_all))

set_option maxRecDepth 100000 in
theorem impl_EqualReceivers (x y : TReceiver) : PureCall Tryz.prog 107 [.agg [.int .i64 x.state, .int .i64 x.buffer.next, .sl 2 (x.buffer.chunks.map TChunk.enc), .int .i64 x.final, .int .i64 x.highest, .int .i64 x.code], .agg [.int .i64 y.state, .int .i64 y.buffer.next, .sl 2 (y.buffer.chunks.map TChunk.enc), .int .i64 y.final, .int .i64 y.highest, .int .i64 y.code]] [.one (.bool (decide (x = y)))] := by
  refine pure_ev Tryz.func107 rfl Tryz.call107 Tryz.checked.mixed [.agg [.d (.int .i64 x.state), .d (.int .i64 x.buffer.next), .d (.sl 2 (x.buffer.chunks.map TChunk.enc)), .d (.int .i64 x.final), .d (.int .i64 x.highest), .d (.int .i64 x.code)], .agg [.d (.int .i64 y.state), .d (.int .i64 y.buffer.next), .d (.sl 2 (y.buffer.chunks.map TChunk.enc)), .d (.int .i64 y.final), .d (.int .i64 y.highest), .d (.int .i64 y.code)], .junk, .junk, .junk, .junk, .junk, .junk, .junk, .junk, .junk, .junk, .junk, .junk, .junk, .junk, .junk, .junk, .junk, .junk, .junk, .junk, .junk, .junk, .junk, .junk, .junk, .junk, .junk, .junk, .junk, .junk, .junk, .junk, .junk, .junk, .junk, .junk] rfl [.tmp 4] rfl ?_
  intro ok
  try simp only [go_sem]
  repeat' (first
    | (refine CallS.intro (by first | (apply impl_EqualBuffers <;> first | assumption | omega)) ?_; simp only [go_sem])
    | (refine CallK.intro (by first | (apply impl_EqualBuffers <;> first | assumption | omega)) ?_; simp only [go_sem])
    | (with_reducible refine gTrueS ?_; simp only [go_sem]) | (with_reducible refine gFalseS ?_; simp only [go_sem]) | (with_reducible refine gTrue ?_; simp only [go_sem]) | (with_reducible refine gFalse ?_; simp only [go_sem])
    | (refine gSymS ?_; simp only [go_sem]) | (refine gSym ?_; simp only [go_sem])
    | (refine cSplit (fun h => ?_) (fun h => ?_) <;> simp only [go_sem])
    | (with_reducible refine And.intro ?_ ?_; (focus (first | omega | (exact ⟨by omega, by omega⟩) | (simp; done) | (simp; omega)))))
  all_goals (refine one_bool ?_; cases x; cases y; simp [bif_and]; try (constructor <;> intro h <;> simp_all))

set_option maxRecDepth 100000 in
theorem impl_EqualSenders (x y : TSender) : PureCall Tryz.prog 106 [.agg [.int .i64 x.state, .int .i64 x.ring.size, .int .i64 x.ring.base, .int .i64 x.ring.end', .sl 1 (x.ring.cells.map eI), .sl 2 (x.pending.map TRange.enc), .sl 2 (x.flight.map TRange.enc), .sl 2 (x.acked.map TRange.enc), .int .i64 x.final, .int .i64 x.fin, .int .i64 x.sent, .int .i64 x.code], .agg [.int .i64 y.state, .int .i64 y.ring.size, .int .i64 y.ring.base, .int .i64 y.ring.end', .sl 1 (y.ring.cells.map eI), .sl 2 (y.pending.map TRange.enc), .sl 2 (y.flight.map TRange.enc), .sl 2 (y.acked.map TRange.enc), .int .i64 y.final, .int .i64 y.fin, .int .i64 y.sent, .int .i64 y.code]] [.one (.bool (decide (x = y)))] := by
  refine pure_ev Tryz.func106 rfl Tryz.call106 Tryz.checked.mixed [.agg [.d (.int .i64 x.state), .d (.int .i64 x.ring.size), .d (.int .i64 x.ring.base), .d (.int .i64 x.ring.end'), .d (.sl 1 (x.ring.cells.map eI)), .d (.sl 2 (x.pending.map TRange.enc)), .d (.sl 2 (x.flight.map TRange.enc)), .d (.sl 2 (x.acked.map TRange.enc)), .d (.int .i64 x.final), .d (.int .i64 x.fin), .d (.int .i64 x.sent), .d (.int .i64 x.code)], .agg [.d (.int .i64 y.state), .d (.int .i64 y.ring.size), .d (.int .i64 y.ring.base), .d (.int .i64 y.ring.end'), .d (.sl 1 (y.ring.cells.map eI)), .d (.sl 2 (y.pending.map TRange.enc)), .d (.sl 2 (y.flight.map TRange.enc)), .d (.sl 2 (y.acked.map TRange.enc)), .d (.int .i64 y.final), .d (.int .i64 y.fin), .d (.int .i64 y.sent), .d (.int .i64 y.code)], .junk, .junk, .junk, .junk, .junk, .junk, .junk, .junk, .junk, .junk, .junk, .junk, .junk, .junk, .junk, .junk, .junk, .junk, .junk, .junk, .junk, .junk, .junk, .junk, .junk, .junk, .junk, .junk, .junk, .junk, .junk, .junk, .junk, .junk, .junk, .junk, .junk, .junk, .junk, .junk, .junk, .junk, .junk, .junk, .junk, .junk, .junk, .junk, .junk, .junk, .junk, .junk, .junk, .junk, .junk, .junk, .junk, .junk, .junk, .junk, .junk, .junk, .junk, .junk] rfl [.tmp 4] rfl ?_
  intro ok
  try simp only [go_sem]
  repeat' (first
    | (refine CallS.intro (by first | (apply impl_EqualRings <;> first | assumption | omega) | (apply impl_EqualRanges <;> first | assumption | omega)) ?_; simp only [go_sem])
    | (refine CallK.intro (by first | (apply impl_EqualRings <;> first | assumption | omega) | (apply impl_EqualRanges <;> first | assumption | omega)) ?_; simp only [go_sem])
    | (with_reducible refine gTrueS ?_; simp only [go_sem]) | (with_reducible refine gFalseS ?_; simp only [go_sem]) | (with_reducible refine gTrue ?_; simp only [go_sem]) | (with_reducible refine gFalse ?_; simp only [go_sem])
    | (refine gSymS ?_; simp only [go_sem]) | (refine gSym ?_; simp only [go_sem])
    | (refine cSplit (fun h => ?_) (fun h => ?_) <;> simp only [go_sem])
    | (with_reducible refine And.intro ?_ ?_; (focus (first | omega | (exact ⟨by omega, by omega⟩) | (simp; done) | (simp; omega)))))
  all_goals (refine one_bool ?_; cases x; cases y; simp [bif_and]; try (constructor <;> intro h <;> simp_all))

set_option maxRecDepth 100000 in
theorem impl_samePackets (x y : TPacket) : PureCall Tryz.prog 62 [.agg [.int .i64 x.number, .sl 9 (x.frames.map TFrame.enc)], .agg [.int .i64 y.number, .sl 9 (y.frames.map TFrame.enc)]] [.one (.bool (decide (x = y)))] := by
  refine pure_ev Tryz.func62 rfl Tryz.call62 Tryz.checked.mixed [.agg [.d (.int .i64 x.number), .d (.sl 9 (x.frames.map TFrame.enc))], .agg [.d (.int .i64 y.number), .d (.sl 9 (y.frames.map TFrame.enc))], .junk, .junk, .junk, .junk, .junk, .junk, .junk, .junk, .junk, .junk, .junk, .junk, .junk, .junk, .junk] rfl [.tmp 4] rfl ?_
  intro ok
  try simp only [go_sem]
  repeat' (first
    | (refine CallS.intro (by first | (apply slices_Equal_impl_Frame_impl_Frame <;> first | assumption | omega)) ?_; simp only [go_sem])
    | (refine CallK.intro (by first | (apply slices_Equal_impl_Frame_impl_Frame <;> first | assumption | omega)) ?_; simp only [go_sem])
    | (with_reducible refine gTrueS ?_; simp only [go_sem]) | (with_reducible refine gFalseS ?_; simp only [go_sem]) | (with_reducible refine gTrue ?_; simp only [go_sem]) | (with_reducible refine gFalse ?_; simp only [go_sem])
    | (refine gSymS ?_; simp only [go_sem]) | (refine gSym ?_; simp only [go_sem])
    | (refine cSplit (fun h => ?_) (fun h => ?_) <;> simp only [go_sem])
    | (with_reducible refine And.intro ?_ ?_; (focus (first | omega | (exact ⟨by omega, by omega⟩) | (simp; done) | (simp; omega)))))
  all_goals (refine one_bool ?_; cases x; cases y; simp [bif_and]; try (constructor <;> intro h <;> simp_all))

set_option maxRecDepth 100000 in
theorem spec_EqualRings (x y : TRing) : PureCall Tryz.prog 121 [.agg [.int .i64 x.size, .int .i64 x.base, .int .i64 x.end', .sl 1 (x.cells.map eI)], .agg [.int .i64 y.size, .int .i64 y.base, .int .i64 y.end', .sl 1 (y.cells.map eI)]] [.one (.bool (decide (x = y)))] := by
  refine pure_ev Tryz.func121 rfl Tryz.call121 Tryz.checked.mixed [.agg [.d (.int .i64 x.size), .d (.int .i64 x.base), .d (.int .i64 x.end'), .d (.sl 1 (x.cells.map eI))], .agg [.d (.int .i64 y.size), .d (.int .i64 y.base), .d (.int .i64 y.end'), .d (.sl 1 (y.cells.map eI))], .junk, .junk, .junk, .junk, .junk, .junk, .junk, .junk, .junk, .junk, .junk, .junk, .junk, .junk, .junk, .junk, .junk, .junk, .junk, .junk, .junk, .junk, .junk, .junk, .junk, .junk, .junk, .junk, .junk, .junk, .junk, .junk, .junk, .junk, .junk, .junk, .junk, .junk, .junk, .junk, .junk, .junk, .junk, .junk, .junk, .junk, .junk, .junk, .junk, .junk] rfl [.tmp 4] rfl ?_
  intro ok
  have hm : x.cells.length ≤ maxLen := by have h := (ok.1.2.2.2.1).1; rwa [List.length_map] at h
  clear ok
  simp only [go_sem]
  repeat ((first | refine gSymS ?_ | refine gSym ?_); simp only [go_sem, List.length_map])
  refine cSplit (fun h => ?_) (fun h => ?_)
  · simp only [go_sem]
    have hne : x ≠ y := fun e => by subst e; simp [bif_or] at h
    simp [hne]
  · have hl : x.cells.length = y.cells.length := by simp [bif_or] at h; omega
    simp only [go_sem]
    refine LoopK.intro (fun i : Nat => ⟨[.junk, .junk, .ptr 0 0 0, .ptr 1 0 0, .d (.bool false), .d (.int .i64 i), .junk, .junk, .junk, .junk, .junk, .junk, .junk, .junk, .junk, .junk, .junk, .junk, .junk, .junk, .junk, .junk, .junk, .junk, .junk, .junk, .junk, .junk, .junk, .junk, .junk, .junk, .junk, .junk, .junk, .junk, .junk, .junk, .junk, .junk, .junk, .junk, .junk, .junk, .junk, .junk, .junk, .junk, .junk, .junk, .junk, .junk], [.box [.d (.int .i64 x.size), .d (.int .i64 x.base), .d (.int .i64 x.end'), .d (.sl 1 (x.cells.map eI))], .box [.d (.int .i64 y.size), .d (.int .i64 y.base), .d (.int .i64 y.end'), .d (.sl 1 (y.cells.map eI))]]⟩)
      (fun i => x.cells.length - i) (fun i => i ≤ x.cells.length ∧ x.cells.take i = y.cells.take i) 0 [0, 1] ⟨by omega, by simp⟩ ?_ ?_
    · simp only [go_sem]; simp
    · rintro i ⟨hi, he⟩
      simp only [go_sem, List.length_map]
      refine cSplit (fun h1 => ?_) (fun h1 => ?_)
      · simp only [decide_eq_true_eq] at h1
        have hxl : i < x.cells.length := by omega
        have hyl : i < y.cells.length := by omega
        have hxi := map_at eI x.cells i hxl
        have hyi := map_at eI y.cells i hyl
        have hw := inc (i := i) (m := x.cells.length) hxl hm
        by_cases hq : x.cells[i] = y.cells[i]
        · have hz : decide (x.cells[i] ≠ y.cells[i]) = false := decide_eq_false (fun e => e hq)
          try simp only [go_sem]
          repeat' (first
            | (with_reducible refine gTrueS ?_; simp only [go_sem, List.length_map, Int.toNat_natCast, hxi, hyi, eI, hz, hw, Bool.not_true]) | (with_reducible refine gFalseS ?_; simp only [go_sem, List.length_map, Int.toNat_natCast, hxi, hyi, eI, hz, hw, Bool.not_true]) | (with_reducible refine gTrue ?_; simp only [go_sem, List.length_map, Int.toNat_natCast, hxi, hyi, eI, hz, hw, Bool.not_true]) | (with_reducible refine gFalse ?_; simp only [go_sem, List.length_map, Int.toNat_natCast, hxi, hyi, eI, hz, hw, Bool.not_true])
            | (refine gSymS ?_; simp only [go_sem, List.length_map, Int.toNat_natCast, hxi, hyi, eI, hz, hw, Bool.not_true]) | (refine gSym ?_; simp only [go_sem, List.length_map, Int.toNat_natCast, hxi, hyi, eI, hz, hw, Bool.not_true])
            | (refine drawE_intro [[.post, .post, .un, .post, .post, .un, .un, .un, .un, .un, .post], [.pre, .post, .un, .post, .post, .un, .un, .un, .un, .un, .post], [.un, .un, .post, .post, .post, .un, .un, .un, .un, .un, .post], [.pre, .pre, .pre, .post, .post, .un, .un, .un, .un, .un, .post], [.pre, .pre, .pre, .pre, .post, .un, .un, .un, .un, .un, .post], [.un, .un, .un, .un, .un, .post, .post, .un, .post, .post, .post], [.un, .un, .un, .un, .un, .pre, .post, .un, .post, .post, .post], [.un, .un, .un, .un, .un, .un, .un, .post, .post, .post, .post], [.un, .un, .un, .un, .un, .pre, .pre, .pre, .post, .post, .post], [.un, .un, .un, .un, .un, .pre, .pre, .pre, .pre, .post, .post], [.pre, .pre, .pre, .pre, .pre, .pre, .pre, .pre, .pre, .pre, .post]] (by kernel_rfl) (by rfl) ?_; simp only [go_sem, List.length_map, Int.toNat_natCast, hxi, hyi, eI, hz, hw])
            | (refine cSplit (fun h => ?_) (fun h => ?_) <;> simp only [go_sem, List.length_map, Int.toNat_natCast, hxi, hyi, eI, hz, hw, Bool.not_true])
            | (with_reducible refine And.intro ?_ ?_; (focus (first | omega | (exact ⟨by omega, by omega⟩) | (simp; done) | (simp; omega)))))
          all_goals (refine RoundE.intro (i + 1) [0, 1] ⟨by omega, take_eq he hxl hyl hq⟩ (by omega) ?_; simp only [go_sem]; try simp)
        · have hz : decide (x.cells[i] ≠ y.cells[i]) = true := decide_eq_true hq
          have hne : x ≠ y := fun e => by subst e; exact hq rfl
          try simp only [go_sem]
          repeat' (first
            | (with_reducible refine gTrueS ?_; simp only [go_sem, List.length_map, Int.toNat_natCast, hxi, hyi, eI, hz, Bool.not_false]) | (with_reducible refine gFalseS ?_; simp only [go_sem, List.length_map, Int.toNat_natCast, hxi, hyi, eI, hz, Bool.not_false]) | (with_reducible refine gTrue ?_; simp only [go_sem, List.length_map, Int.toNat_natCast, hxi, hyi, eI, hz, Bool.not_false]) | (with_reducible refine gFalse ?_; simp only [go_sem, List.length_map, Int.toNat_natCast, hxi, hyi, eI, hz, Bool.not_false])
            | (refine gSymS ?_; simp only [go_sem, List.length_map, Int.toNat_natCast, hxi, hyi, eI, hz, Bool.not_false]) | (refine gSym ?_; simp only [go_sem, List.length_map, Int.toNat_natCast, hxi, hyi, eI, hz, Bool.not_false])
            | (refine drawE_intro [[.post, .post, .un, .post, .post, .un, .un, .un, .un, .un, .post], [.pre, .post, .un, .post, .post, .un, .un, .un, .un, .un, .post], [.un, .un, .post, .post, .post, .un, .un, .un, .un, .un, .post], [.pre, .pre, .pre, .post, .post, .un, .un, .un, .un, .un, .post], [.pre, .pre, .pre, .pre, .post, .un, .un, .un, .un, .un, .post], [.un, .un, .un, .un, .un, .post, .post, .un, .post, .post, .post], [.un, .un, .un, .un, .un, .pre, .post, .un, .post, .post, .post], [.un, .un, .un, .un, .un, .un, .un, .post, .post, .post, .post], [.un, .un, .un, .un, .un, .pre, .pre, .pre, .post, .post, .post], [.un, .un, .un, .un, .un, .pre, .pre, .pre, .pre, .post, .post], [.pre, .pre, .pre, .pre, .pre, .pre, .pre, .pre, .pre, .pre, .post]] (by kernel_rfl) (by rfl) ?_; simp only [go_sem, List.length_map, Int.toNat_natCast, hxi, hyi, eI, hz])
            | (refine cSplit (fun h => ?_) (fun h => ?_) <;> simp only [go_sem, List.length_map, Int.toNat_natCast, hxi, hyi, eI, hz, Bool.not_false])
            | (with_reducible refine And.intro ?_ ?_; (focus (first | omega | (exact ⟨by omega, by omega⟩) | (simp; done) | (simp; omega)))))
          all_goals simp [hne]
      · simp only [go_sem]
        simp only [decide_eq_false_iff_not] at h1
        have hc : x.cells = y.cells := by rw [List.take_of_length_le (by omega), List.take_of_length_le (by omega)] at he; exact he
        have hxy : x = y := by cases x; cases y; simp [bif_or] at h; simp_all
        simp [hxy]

set_option maxRecDepth 100000 in
theorem spec_EqualBuffers (x y : TBuffer) : PureCall Tryz.prog 123 [.agg [.int .i64 x.next, .sl 2 (x.chunks.map TChunk.enc)], .agg [.int .i64 y.next, .sl 2 (y.chunks.map TChunk.enc)]] [.one (.bool (decide (x = y)))] := by
  refine pure_ev Tryz.func123 rfl Tryz.call123 Tryz.checked.mixed [.agg [.d (.int .i64 x.next), .d (.sl 2 (x.chunks.map TChunk.enc))], .agg [.d (.int .i64 y.next), .d (.sl 2 (y.chunks.map TChunk.enc))], .junk, .junk, .junk, .junk, .junk, .junk, .junk, .junk, .junk, .junk, .junk, .junk, .junk, .junk, .junk, .junk, .junk, .junk, .junk, .junk, .junk, .junk, .junk, .junk, .junk, .junk, .junk, .junk, .junk, .junk, .junk, .junk, .junk, .junk, .junk, .junk] rfl [.tmp 4] rfl ?_
  intro ok
  have hm : x.chunks.length ≤ maxLen := by have h := (ok.1.2.1).1; rwa [List.length_map] at h
  clear ok
  simp only [go_sem]
  repeat ((first | refine gSymS ?_ | refine gSym ?_); simp only [go_sem, List.length_map])
  refine cSplit (fun h => ?_) (fun h => ?_)
  · simp only [go_sem]
    have hne : x ≠ y := fun e => by subst e; simp [bif_or] at h
    simp [hne]
  · have hl : x.chunks.length = y.chunks.length := by simp [bif_or] at h; omega
    simp only [go_sem]
    refine LoopK.intro (fun i : Nat => ⟨[.junk, .junk, .ptr 0 0 0, .ptr 1 0 0, .d (.bool false), .d (.int .i64 i), .junk, .junk, .junk, .junk, .junk, .junk, .junk, .junk, .junk, .junk, .junk, .junk, .junk, .junk, .junk, .junk, .junk, .junk, .junk, .junk, .junk, .junk, .junk, .junk, .junk, .junk, .junk, .junk, .junk, .junk, .junk, .junk], [.box [.d (.int .i64 x.next), .d (.sl 2 (x.chunks.map TChunk.enc))], .box [.d (.int .i64 y.next), .d (.sl 2 (y.chunks.map TChunk.enc))]]⟩)
      (fun i => x.chunks.length - i) (fun i => i ≤ x.chunks.length ∧ x.chunks.take i = y.chunks.take i) 0 [0, 1] ⟨by omega, by simp⟩ ?_ ?_
    · simp only [go_sem]; simp
    · rintro i ⟨hi, he⟩
      simp only [go_sem, List.length_map]
      refine cSplit (fun h1 => ?_) (fun h1 => ?_)
      · simp only [decide_eq_true_eq] at h1
        have hxl : i < x.chunks.length := by omega
        have hyl : i < y.chunks.length := by omega
        have hxi := map_at TChunk.enc x.chunks i hxl
        have hyi := map_at TChunk.enc y.chunks i hyl
        have hw := inc (i := i) (m := x.chunks.length) hxl hm
        by_cases hq : x.chunks[i] = y.chunks[i]
        · have hz : (decide (x.chunks[i].offset = y.chunks[i].offset) && decide (x.chunks[i].data = y.chunks[i].data)) = true := by rw [eqz_TChunk]; exact decide_eq_true hq
          try simp only [go_sem]
          repeat' (first
            | (with_reducible refine gTrueS ?_; simp only [go_sem, List.length_map, Int.toNat_natCast, hxi, hyi, TChunk.enc, hz, hw, Bool.not_true]) | (with_reducible refine gFalseS ?_; simp only [go_sem, List.length_map, Int.toNat_natCast, hxi, hyi, TChunk.enc, hz, hw, Bool.not_true]) | (with_reducible refine gTrue ?_; simp only [go_sem, List.length_map, Int.toNat_natCast, hxi, hyi, TChunk.enc, hz, hw, Bool.not_true]) | (with_reducible refine gFalse ?_; simp only [go_sem, List.length_map, Int.toNat_natCast, hxi, hyi, TChunk.enc, hz, hw, Bool.not_true])
            | (refine gSymS ?_; simp only [go_sem, List.length_map, Int.toNat_natCast, hxi, hyi, TChunk.enc, hz, hw, Bool.not_true]) | (refine gSym ?_; simp only [go_sem, List.length_map, Int.toNat_natCast, hxi, hyi, TChunk.enc, hz, hw, Bool.not_true])
            | (refine drawE_intro [[.post, .post, .un, .post, .post, .un, .un, .un, .un, .un, .post], [.pre, .post, .un, .post, .post, .un, .un, .un, .un, .un, .post], [.un, .un, .post, .post, .post, .un, .un, .un, .un, .un, .post], [.pre, .pre, .pre, .post, .post, .un, .un, .un, .un, .un, .post], [.pre, .pre, .pre, .pre, .post, .un, .un, .un, .un, .un, .post], [.un, .un, .un, .un, .un, .post, .post, .un, .post, .post, .post], [.un, .un, .un, .un, .un, .pre, .post, .un, .post, .post, .post], [.un, .un, .un, .un, .un, .un, .un, .post, .post, .post, .post], [.un, .un, .un, .un, .un, .pre, .pre, .pre, .post, .post, .post], [.un, .un, .un, .un, .un, .pre, .pre, .pre, .pre, .post, .post], [.pre, .pre, .pre, .pre, .pre, .pre, .pre, .pre, .pre, .pre, .post]] (by kernel_rfl) (by rfl) ?_; simp only [go_sem, List.length_map, Int.toNat_natCast, hxi, hyi, TChunk.enc, hz, hw, Bool.not_true])
            | (refine cSplit (fun h => ?_) (fun h => ?_) <;> simp only [go_sem, List.length_map, Int.toNat_natCast, hxi, hyi, TChunk.enc, hz, hw, Bool.not_true])
            | (with_reducible refine And.intro ?_ ?_; (focus (first | omega | (exact ⟨by omega, by omega⟩) | (simp; done) | (simp; omega)))))
          all_goals (refine RoundE.intro (i + 1) [0, 1] ⟨by omega, take_eq he hxl hyl hq⟩ (by omega) ?_; simp only [go_sem]; try simp)
        · have hz : (decide (x.chunks[i].offset = y.chunks[i].offset) && decide (x.chunks[i].data = y.chunks[i].data)) = false := by rw [eqz_TChunk]; exact decide_eq_false hq
          have hne : x ≠ y := fun e => by subst e; exact hq rfl
          try simp only [go_sem]
          repeat' (first
            | (with_reducible refine gTrueS ?_; simp only [go_sem, List.length_map, Int.toNat_natCast, hxi, hyi, TChunk.enc, hz, Bool.not_false]) | (with_reducible refine gFalseS ?_; simp only [go_sem, List.length_map, Int.toNat_natCast, hxi, hyi, TChunk.enc, hz, Bool.not_false]) | (with_reducible refine gTrue ?_; simp only [go_sem, List.length_map, Int.toNat_natCast, hxi, hyi, TChunk.enc, hz, Bool.not_false]) | (with_reducible refine gFalse ?_; simp only [go_sem, List.length_map, Int.toNat_natCast, hxi, hyi, TChunk.enc, hz, Bool.not_false])
            | (refine gSymS ?_; simp only [go_sem, List.length_map, Int.toNat_natCast, hxi, hyi, TChunk.enc, hz, Bool.not_false]) | (refine gSym ?_; simp only [go_sem, List.length_map, Int.toNat_natCast, hxi, hyi, TChunk.enc, hz, Bool.not_false])
            | (refine drawE_intro [[.post, .post, .un, .post, .post, .un, .un, .un, .un, .un, .post], [.pre, .post, .un, .post, .post, .un, .un, .un, .un, .un, .post], [.un, .un, .post, .post, .post, .un, .un, .un, .un, .un, .post], [.pre, .pre, .pre, .post, .post, .un, .un, .un, .un, .un, .post], [.pre, .pre, .pre, .pre, .post, .un, .un, .un, .un, .un, .post], [.un, .un, .un, .un, .un, .post, .post, .un, .post, .post, .post], [.un, .un, .un, .un, .un, .pre, .post, .un, .post, .post, .post], [.un, .un, .un, .un, .un, .un, .un, .post, .post, .post, .post], [.un, .un, .un, .un, .un, .pre, .pre, .pre, .post, .post, .post], [.un, .un, .un, .un, .un, .pre, .pre, .pre, .pre, .post, .post], [.pre, .pre, .pre, .pre, .pre, .pre, .pre, .pre, .pre, .pre, .post]] (by kernel_rfl) (by rfl) ?_; simp only [go_sem, List.length_map, Int.toNat_natCast, hxi, hyi, TChunk.enc, hz, Bool.not_false])
            | (refine cSplit (fun h => ?_) (fun h => ?_) <;> simp only [go_sem, List.length_map, Int.toNat_natCast, hxi, hyi, TChunk.enc, hz, Bool.not_false])
            | (with_reducible refine And.intro ?_ ?_; (focus (first | omega | (exact ⟨by omega, by omega⟩) | (simp; done) | (simp; omega)))))
          all_goals simp [hne]
      · simp only [go_sem]
        simp only [decide_eq_false_iff_not] at h1
        have hc : x.chunks = y.chunks := by rw [List.take_of_length_le (by omega), List.take_of_length_le (by omega)] at he; exact he
        have hxy : x = y := by cases x; cases y; simp [bif_or] at h; simp_all
        simp [hxy]

set_option maxRecDepth 100000 in
theorem spec_EqualReceivers (x y : TReceiver) : PureCall Tryz.prog 100 [.agg [.int .i64 x.state, .int .i64 x.buffer.next, .sl 2 (x.buffer.chunks.map TChunk.enc), .int .i64 x.final, .int .i64 x.highest, .int .i64 x.code], .agg [.int .i64 y.state, .int .i64 y.buffer.next, .sl 2 (y.buffer.chunks.map TChunk.enc), .int .i64 y.final, .int .i64 y.highest, .int .i64 y.code]] [.one (.bool (decide (x = y)))] := by
  refine pure_ev Tryz.func100 rfl Tryz.call100 Tryz.checked.mixed [.agg [.d (.int .i64 x.state), .d (.int .i64 x.buffer.next), .d (.sl 2 (x.buffer.chunks.map TChunk.enc)), .d (.int .i64 x.final), .d (.int .i64 x.highest), .d (.int .i64 x.code)], .agg [.d (.int .i64 y.state), .d (.int .i64 y.buffer.next), .d (.sl 2 (y.buffer.chunks.map TChunk.enc)), .d (.int .i64 y.final), .d (.int .i64 y.highest), .d (.int .i64 y.code)], .junk, .junk, .junk, .junk, .junk, .junk, .junk, .junk, .junk, .junk, .junk, .junk, .junk, .junk, .junk, .junk, .junk, .junk, .junk, .junk, .junk, .junk, .junk, .junk, .junk, .junk, .junk, .junk, .junk, .junk, .junk, .junk, .junk, .junk, .junk, .junk] rfl [.tmp 4] rfl ?_
  intro ok
  try simp only [go_sem]
  repeat' (first
    | (refine CallS.intro (by first | (apply spec_EqualBuffers <;> first | assumption | omega)) ?_; simp only [go_sem])
    | (refine CallK.intro (by first | (apply spec_EqualBuffers <;> first | assumption | omega)) ?_; simp only [go_sem])
    | (with_reducible refine gTrueS ?_; simp only [go_sem]) | (with_reducible refine gFalseS ?_; simp only [go_sem]) | (with_reducible refine gTrue ?_; simp only [go_sem]) | (with_reducible refine gFalse ?_; simp only [go_sem])
    | (refine gSymS ?_; simp only [go_sem]) | (refine gSym ?_; simp only [go_sem])
    | (refine cSplit (fun h => ?_) (fun h => ?_) <;> simp only [go_sem])
    | (with_reducible refine And.intro ?_ ?_; (focus (first | omega | (exact ⟨by omega, by omega⟩) | (simp; done) | (simp; omega)))))
  all_goals (refine one_bool ?_; cases x; cases y; simp [bif_and]; try (constructor <;> intro h <;> simp_all))

set_option maxRecDepth 100000 in
theorem spec_EqualSenders (x y : TSender) : PureCall Tryz.prog 99 [.agg [.int .i64 x.state, .int .i64 x.ring.size, .int .i64 x.ring.base, .int .i64 x.ring.end', .sl 1 (x.ring.cells.map eI), .sl 2 (x.pending.map TRange.enc), .sl 2 (x.flight.map TRange.enc), .sl 2 (x.acked.map TRange.enc), .int .i64 x.final, .int .i64 x.fin, .int .i64 x.sent, .int .i64 x.code], .agg [.int .i64 y.state, .int .i64 y.ring.size, .int .i64 y.ring.base, .int .i64 y.ring.end', .sl 1 (y.ring.cells.map eI), .sl 2 (y.pending.map TRange.enc), .sl 2 (y.flight.map TRange.enc), .sl 2 (y.acked.map TRange.enc), .int .i64 y.final, .int .i64 y.fin, .int .i64 y.sent, .int .i64 y.code]] [.one (.bool (decide (x = y)))] := by
  refine pure_ev Tryz.func99 rfl Tryz.call99 Tryz.checked.mixed [.agg [.d (.int .i64 x.state), .d (.int .i64 x.ring.size), .d (.int .i64 x.ring.base), .d (.int .i64 x.ring.end'), .d (.sl 1 (x.ring.cells.map eI)), .d (.sl 2 (x.pending.map TRange.enc)), .d (.sl 2 (x.flight.map TRange.enc)), .d (.sl 2 (x.acked.map TRange.enc)), .d (.int .i64 x.final), .d (.int .i64 x.fin), .d (.int .i64 x.sent), .d (.int .i64 x.code)], .agg [.d (.int .i64 y.state), .d (.int .i64 y.ring.size), .d (.int .i64 y.ring.base), .d (.int .i64 y.ring.end'), .d (.sl 1 (y.ring.cells.map eI)), .d (.sl 2 (y.pending.map TRange.enc)), .d (.sl 2 (y.flight.map TRange.enc)), .d (.sl 2 (y.acked.map TRange.enc)), .d (.int .i64 y.final), .d (.int .i64 y.fin), .d (.int .i64 y.sent), .d (.int .i64 y.code)], .junk, .junk, .junk, .junk, .junk, .junk, .junk, .junk, .junk, .junk, .junk, .junk, .junk, .junk, .junk, .junk, .junk, .junk, .junk, .junk, .junk, .junk, .junk, .junk, .junk, .junk, .junk, .junk, .junk, .junk, .junk, .junk, .junk, .junk, .junk, .junk, .junk, .junk, .junk, .junk, .junk, .junk, .junk, .junk, .junk, .junk, .junk, .junk, .junk, .junk, .junk, .junk, .junk, .junk, .junk, .junk, .junk, .junk, .junk, .junk, .junk, .junk, .junk, .junk] rfl [.tmp 4] rfl ?_
  intro ok
  try simp only [go_sem]
  repeat' (first
    | (refine CallS.intro (by first | (apply spec_EqualRings <;> first | assumption | omega) | (apply spec_EqualRanges <;> first | assumption | omega)) ?_; simp only [go_sem])
    | (refine CallK.intro (by first | (apply spec_EqualRings <;> first | assumption | omega) | (apply spec_EqualRanges <;> first | assumption | omega)) ?_; simp only [go_sem])
    | (with_reducible refine gTrueS ?_; simp only [go_sem]) | (with_reducible refine gFalseS ?_; simp only [go_sem]) | (with_reducible refine gTrue ?_; simp only [go_sem]) | (with_reducible refine gFalse ?_; simp only [go_sem])
    | (refine gSymS ?_; simp only [go_sem]) | (refine gSym ?_; simp only [go_sem])
    | (refine cSplit (fun h => ?_) (fun h => ?_) <;> simp only [go_sem])
    | (with_reducible refine And.intro ?_ ?_; (focus (first | omega | (exact ⟨by omega, by omega⟩) | (simp; done) | (simp; omega)))))
  all_goals (refine one_bool ?_; cases x; cases y; simp [bif_and]; try (constructor <;> intro h <;> simp_all))

set_option maxRecDepth 100000 in
theorem impl_flags (x : TStream) : PureCall Tryz.prog 105 [.agg [.int .i64 x.id, .int .i64 x.send.state, .int .i64 x.send.ring.size, .int .i64 x.send.ring.base, .int .i64 x.send.ring.end', .sl 1 (x.send.ring.cells.map eI), .sl 2 (x.send.pending.map TRange.enc), .sl 2 (x.send.flight.map TRange.enc), .sl 2 (x.send.acked.map TRange.enc), .int .i64 x.send.final, .int .i64 x.send.fin, .int .i64 x.send.sent, .int .i64 x.send.code, .int .i64 x.credit.limit, .int .i64 x.credit.used, .int .i64 x.credit.blocked, .int .i64 x.credit.told, .int .i64 x.recv.state, .int .i64 x.recv.buffer.next, .sl 2 (x.recv.buffer.chunks.map TChunk.enc), .int .i64 x.recv.final, .int .i64 x.recv.highest, .int .i64 x.recv.code, .int .i64 x.window.size, .int .i64 x.window.most, .int .i64 x.window.limit, .int .i64 x.window.seen, .int .i64 x.window.read, .int .i64 x.window.since, .int .i64 x.priority.urgency, .bool x.priority.incremental, .bool x.canSend, .bool x.canRecv, .bool x.tellReset, .bool x.tellStop, .bool x.tellMost, .bool x.stopped, .int .i64 x.stopCode, .bool x.counted]] [.agg [.bool x.canSend, .bool x.canRecv, .bool x.tellReset, .bool x.tellStop, .bool x.tellMost, .bool x.stopped, .bool x.counted]] := by
  refine pure_ev Tryz.func105 rfl Tryz.call105 Tryz.checked.mixed [.agg [.d (.int .i64 x.id), .d (.int .i64 x.send.state), .d (.int .i64 x.send.ring.size), .d (.int .i64 x.send.ring.base), .d (.int .i64 x.send.ring.end'), .d (.sl 1 (x.send.ring.cells.map eI)), .d (.sl 2 (x.send.pending.map TRange.enc)), .d (.sl 2 (x.send.flight.map TRange.enc)), .d (.sl 2 (x.send.acked.map TRange.enc)), .d (.int .i64 x.send.final), .d (.int .i64 x.send.fin), .d (.int .i64 x.send.sent), .d (.int .i64 x.send.code), .d (.int .i64 x.credit.limit), .d (.int .i64 x.credit.used), .d (.int .i64 x.credit.blocked), .d (.int .i64 x.credit.told), .d (.int .i64 x.recv.state), .d (.int .i64 x.recv.buffer.next), .d (.sl 2 (x.recv.buffer.chunks.map TChunk.enc)), .d (.int .i64 x.recv.final), .d (.int .i64 x.recv.highest), .d (.int .i64 x.recv.code), .d (.int .i64 x.window.size), .d (.int .i64 x.window.most), .d (.int .i64 x.window.limit), .d (.int .i64 x.window.seen), .d (.int .i64 x.window.read), .d (.int .i64 x.window.since), .d (.int .i64 x.priority.urgency), .d (.bool x.priority.incremental), .d (.bool x.canSend), .d (.bool x.canRecv), .d (.bool x.tellReset), .d (.bool x.tellStop), .d (.bool x.tellMost), .d (.bool x.stopped), .d (.int .i64 x.stopCode), .d (.bool x.counted)], .junk, .junk, .junk, .junk, .junk, .junk, .junk, .junk, .junk, .junk, .junk, .junk, .junk, .junk, .junk, .junk, .junk] rfl [.cell 2 175] rfl ?_
  intro ok
  try simp only [go_sem]
  repeat' (first
    | (with_reducible refine gTrueS ?_; simp only [go_sem]) | (with_reducible refine gFalseS ?_; simp only [go_sem]) | (with_reducible refine gTrue ?_; simp only [go_sem]) | (with_reducible refine gFalse ?_; simp only [go_sem])
    | (refine gSymS ?_; simp only [go_sem]) | (refine gSym ?_; simp only [go_sem])
    | (refine cSplit (fun h => ?_) (fun h => ?_) <;> simp only [go_sem])
    | (with_reducible refine And.intro ?_ ?_; (focus (first | omega | (exact ⟨by omega, by omega⟩) | (simp; done) | (simp; omega)))))
  all_goals simp [outOA]

end Gv
