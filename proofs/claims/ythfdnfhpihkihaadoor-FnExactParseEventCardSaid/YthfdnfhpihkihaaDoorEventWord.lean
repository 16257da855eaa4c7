/-
  The words of events.
-/
import Derived.Test.YthfdnfhpihkihaaDoorFns1
namespace Gv
open Go Go.Proofs

def evWords : List (List UInt8) := [[], [111, 112, 101, 110], [119, 114, 105, 116, 101], [102, 105, 110, 105, 115, 104], [114, 101, 97, 100], [114, 101, 115, 101, 116], [115, 116, 111, 112], [112, 114, 105, 111, 114, 105, 116, 121], [101, 109, 105, 116], [97, 99, 107], [108, 111, 115, 101], [112, 97, 121, 108, 111, 97, 100], [116, 105, 109, 101]]
def evWord (k : Int) : List UInt8 := if inB k 1 12 = true then (evWords[k.toNat]?).getD [] else []

set_option maxRecDepth 100000 in
theorem impl_EventWord (k : Int) : PureCall Tryd.prog 17 [.one (.int .i64 k)] [.one (.str (evWord k))] := by
  refine pure_ev Tryd.func17 rfl Tryd.call17 Tryd.checked.mixed [.d (.int .i64 k), .junk, .junk, .junk, .junk, .junk, .junk, .junk, .junk] rfl [.tmp 2] rfl ?_
  intro _
  simp only [go_sem]
  refine CallS.intro (impl_within k 1 12) ?_
  simp only [go_sem]
  refine cSplit (fun h => ?_) (fun h => ?_)
  · have h5 : inB k 1 12 = false := by simpa using h
    simp only [go_sem]
    simp [evWord, h5]
  · have h5 : inB k 1 12 = true := by simpa using h
    have h6 := h5
    simp only [inB, Bool.and_eq_true, decide_eq_true_eq] at h6
    have h7 : k = 1 ∨ k = 2 ∨ k = 3 ∨ k = 4 ∨ k = 5 ∨ k = 6 ∨ k = 7 ∨ k = 8 ∨ k = 9 ∨ k = 10 ∨ k = 11 ∨ k = 12 := by omega
    clear h6
    rcases h7 with rfl | rfl | rfl | rfl | rfl | rfl | rfl | rfl | rfl | rfl | rfl | rfl <;> (simp only [go_sem]; simp [evWord, h5, evWords])

set_option maxRecDepth 100000 in
theorem spec_EventWord (k : Int) : PureCall Tryd.prog 13 [.one (.int .i64 k)] [.one (.str (evWord k))] := by
  refine pure_ev Tryd.func13 rfl Tryd.call13 Tryd.checked.mixed [.d (.int .i64 k), .junk, .junk, .junk, .junk, .junk, .junk, .junk, .junk, .junk, .junk] rfl [.tmp 2] rfl ?_
  intro _
  simp only [go_sem]
  refine CallS.intro (spec_l1In k 1 12) ?_
  simp only [go_sem]
  refine cSplit (fun h => ?_) (fun h => ?_)
  · have h5 : inB k 1 12 = false := by simpa using h
    simp only [go_sem]
    simp [evWord, h5]
  · have h5 : inB k 1 12 = true := by simpa using h
    have h6 := h5
    simp only [inB, Bool.and_eq_true, decide_eq_true_eq] at h6
    have hw : IntKind.i64.wrap (k - 1) = k - 1 := by rw [w64] <;> omega
    have h7 : k = 1 ∨ k = 2 ∨ k = 3 ∨ k = 4 ∨ k = 5 ∨ k = 6 ∨ k = 7 ∨ k = 8 ∨ k = 9 ∨ k = 10 ∨ k = 11 ∨ k = 12 := by omega
    clear h6
    simp only [go_sem, hw]
    rcases h7 with rfl | rfl | rfl | rfl | rfl | rfl | rfl | rfl | rfl | rfl | rfl | rfl <;> (simp only [go_sem, Int.reduceSub]; simp [evWord, h5, evWords])
end Gv
