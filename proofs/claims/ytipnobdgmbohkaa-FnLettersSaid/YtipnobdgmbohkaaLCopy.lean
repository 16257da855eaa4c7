/-
  Copies of letters.
-/
import Derived.Test.YtipnobdgmbohkaaFns1
namespace Gv
open Go Go.Proofs

set_option maxRecDepth 100000 in
theorem spec_l25Copy (xs : List TLetter) (hx : xs.length ≤ 1048577) : PureCall Try.prog 27 [.one (.sl 2 (xs.map TLetter.enc))] [.one (.sl 2 (xs.map TLetter.enc))] := by
  refine pure_ev Try.func27 rfl Try.call27 Try.checked.mixed [.d (.sl 2 (xs.map TLetter.enc)), .junk, .junk, .junk, .junk, .junk] rfl [.tmp 2] rfl ?_
  intro _
  try simp only [go_sem, List.length_map]
  repeat' (first
    | (with_reducible refine gTrueS ?_; simp only [go_sem, List.length_map]) | (with_reducible refine gFalseS ?_; simp only [go_sem, List.length_map]) | (with_reducible refine gTrue ?_; simp only [go_sem, List.length_map]) | (with_reducible refine gFalse ?_; simp only [go_sem, List.length_map])
    | (refine gSymS ?_; simp only [go_sem, List.length_map]) | (refine gSym ?_; simp only [go_sem, List.length_map])
    | (refine cSplit (fun h => ?_) (fun h => ?_) <;> simp only [go_sem, List.length_map])
    | (with_reducible refine And.intro ?_ ?_; (focus (first | omega | (exact ⟨by omega, by omega⟩) | (simp; done) | (simp; omega)))))
  all_goals simp

set_option maxRecDepth 100000 in
theorem impl_copyLetters (xs : List TLetter) (hx : xs.length ≤ 1048577) : PureCall Try.prog 26 [.one (.sl 2 (xs.map TLetter.enc))] [.one (.sl 2 (xs.map TLetter.enc))] := by
  refine pure_ev Try.func26 rfl Try.call26 Try.checked.mixed [.d (.sl 2 (xs.map TLetter.enc)), .junk, .junk, .junk, .junk, .junk] rfl [.tmp 2] rfl ?_
  intro _
  try simp only [go_sem, List.length_map]
  repeat' (first
    | (with_reducible refine gTrueS ?_; simp only [go_sem, List.length_map]) | (with_reducible refine gFalseS ?_; simp only [go_sem, List.length_map]) | (with_reducible refine gTrue ?_; simp only [go_sem, List.length_map]) | (with_reducible refine gFalse ?_; simp only [go_sem, List.length_map])
    | (refine gSymS ?_; simp only [go_sem, List.length_map]) | (refine gSym ?_; simp only [go_sem, List.length_map])
    | (refine cSplit (fun h => ?_) (fun h => ?_) <;> simp only [go_sem, List.length_map])
    | (with_reducible refine And.intro ?_ ?_; (focus (first | omega | (exact ⟨by omega, by omega⟩) | (simp; done) | (simp; omega)))))
  all_goals simp

end Gv
