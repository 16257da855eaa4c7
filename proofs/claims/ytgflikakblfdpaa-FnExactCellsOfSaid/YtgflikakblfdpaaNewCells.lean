/-
  The laws of functions on cells.
-/
import Derived.Test.YtgflikakblfdpaaFns1
namespace Gv
open Go Go.Proofs
def stN : Nat → St
  | 0 => ⟨[.ptr 0 0 0, .ptr 1 0 0, .junk, .d (.int .i64 0), .junk, .junk, .junk, .junk, .junk, .junk, .junk, .junk], [.box [.nils 1, .d (.int .i64 0)], .box [.nils 1, .d (.int .i64 0)]]⟩
  | n + 1 => ⟨[.ptr 0 0 0, .ptr 1 0 0, .junk, .d (.int .i64 ((n + 1 : Nat) : Int)), .junk, .junk, .junk, .junk, .junk, .junk, .junk, .junk], [.box [.nils 1, .d (.int .i64 0)], .box [.sl 2 0 (n + 1), .d (.int .i64 0)], .arr 1 (List.replicate (n + 1) [.int .i64 (-1)]) true]⟩

set_option maxRecDepth 100000 in
theorem impl_NewCells  : PureCall Try.prog 100 [] [.agg [.sl 1 (List.replicate 64 [.int .i64 (-1)]), .int .i64 0]] := by
  refine pure_ev Try.func100 rfl Try.call100 Try.checked.mixed [.junk, .junk, .junk, .junk, .junk, .junk, .junk, .junk, .junk, .junk, .junk, .junk] rfl [.cell 0 48] rfl ?_
  intro _
  simp only [go_sem]
  refine LoopK.intro stN (fun n => 64 - n) (fun n => n ≤ 64) 0 [0, 1] (by decide) ?_ ?_
  · simp only [stN, go_sem]
    simp
  · intro n hn
    cases n with
    | zero =>
      simp only [stN, go_sem]
      refine RoundE.intro 1 [0, 1, 3] (by omega) (by omega) ?_
      simp only [stN, go_sem]
      simp [w64]
    | succ n =>
      simp only [stN, go_sem]
      refine cSplit (fun h => ?_) (fun h => ?_)
      · simp only [go_sem]
        simp only [decide_eq_true_eq] at h
        refine ⟨⟨by omega, by decide⟩, RoundE.intro (n + 2) [0, 1, 4] (by omega) (by omega) ?_⟩
        have hw : IntKind.i64.wrap (((n + 1 : Nat) : Int) + 1) = ((n + 1 + 1 : Nat) : Int) := by rw [w64] <;> omega
        simp only [stN, go_sem, hw]
        simp [List.replicate_succ']
      · simp only [go_sem]
        simp only [decide_eq_false_iff_not] at h
        have h63 : n = 63 := by omega
        subst h63
        simp [outOA]

def stN8 : Nat → St
  | 0 => ⟨[.ptr 0 0 0, .ptr 1 0 0, .d (.int .i64 0), .junk, .junk, .junk, .junk, .junk, .junk, .junk, .junk, .junk, .junk, .junk], [.box [.nils 1, .d (.int .i64 0)], .box [.nils 1, .d (.int .i64 0)]]⟩
  | n + 1 => ⟨[.ptr 0 0 0, .ptr 1 0 0, .d (.int .i64 ((n + 1 : Nat) : Int)), .junk, .junk, .junk, .junk, .junk, .junk, .junk, .junk, .junk, .junk, .junk], [.box [.nils 1, .d (.int .i64 0)], .box [.sl 2 0 (n + 1), .d (.int .i64 0)], .arr 1 (List.replicate (n + 1) [.int .i64 (-1)]) true]⟩

set_option maxRecDepth 100000 in
theorem spec_NewCells  : PureCall Try.prog 95 [] [.agg [.sl 1 (List.replicate 64 [.int .i64 (-1)]), .int .i64 0]] := by
  refine pure_ev Try.func95 rfl Try.call95 Try.checked.mixed [.junk, .junk, .junk, .junk, .junk, .junk, .junk, .junk, .junk, .junk, .junk, .junk, .junk, .junk] rfl [.cell 0 48] rfl ?_
  intro _
  simp only [go_sem]
  refine LoopK.intro stN8 (fun n => 64 - n) (fun n => n ≤ 64) 0 [0, 1] (by decide) ?_ ?_
  · simp only [stN8, go_sem]
    simp
  · intro n hn
    cases n with
    | zero =>
      simp only [stN8, go_sem]
      refine RoundE.intro 1 [0, 1, 3] (by omega) (by omega) ?_
      simp only [stN8, go_sem]
      simp [w64]
    | succ n =>
      simp only [stN8, go_sem]
      refine cSplit (fun h => ?_) (fun h => ?_)
      · simp only [go_sem]
        simp only [decide_eq_true_eq] at h
        refine ⟨⟨by omega, by decide⟩, RoundE.intro (n + 2) [0, 1, 4] (by omega) (by omega) ?_⟩
        have hw : IntKind.i64.wrap (((n + 1 : Nat) : Int) + 1) = ((n + 1 + 1 : Nat) : Int) := by rw [w64] <;> omega
        simp only [stN8, go_sem, hw]
        simp [List.replicate_succ']
      · simp only [go_sem]
        simp only [decide_eq_false_iff_not] at h
        have h63 : n = 63 := by omega
        subst h63
        simp [outOA]


end Gv
