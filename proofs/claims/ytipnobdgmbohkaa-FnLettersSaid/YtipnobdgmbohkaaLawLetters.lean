/-
  The law 'laws.FnLetters', as a function.
-/
import Derived.Test.YtipnobdgmbohkaaDrawL
import Derived.Test.YtipnobdgmbohkaaLetters
import Derived.Test.YtipnobdgmbohkaaTake
namespace Gv
open Go Go.Proofs

set_option maxRecDepth 100000 in
theorem laws_big (bs : List Int) : PureCall Try.prog 4 [.one (.sl 1 (bs.map eU8))] [.one (.bool (decide (1048576 < (bs.length : Int))))] := by
  refine pure_ev Try.func4 rfl Try.call4 Try.checked.mixed [.d (.sl 1 (bs.map eU8)), .junk, .junk, .junk, .junk, .junk] rfl [.tmp 2] rfl ?_
  intro ok
  try simp only [go_sem, List.length_map]
  repeat' (first
    | (with_reducible refine gTrueS ?_; simp only [go_sem, List.length_map]) | (with_reducible refine gFalseS ?_; simp only [go_sem, List.length_map]) | (with_reducible refine gTrue ?_; simp only [go_sem, List.length_map]) | (with_reducible refine gFalse ?_; simp only [go_sem, List.length_map])
    | (refine gSymS ?_; simp only [go_sem, List.length_map]) | (refine gSym ?_; simp only [go_sem, List.length_map])
    | (refine cSplit (fun h => ?_) (fun h => ?_) <;> simp only [go_sem, List.length_map])
    | (with_reducible refine And.intro ?_ ?_; (focus (first | omega | (exact ⟨by omega, by omega⟩) | (simp; done) | (simp; omega)))))

theorem tk_law (ys : List TLetter) (k : Int) (hy : ys.length ≤ 5) (h : tkOk ys k = true) : ((tkRest ys k).length : Int) = IntKind.i64.wrap (ys.length - 1) ∧ (ys.any fun x => decide (x.number = (tkLet ys k).number)) = true := by
  have hb := h
  simp only [tkOk, inB, Bool.and_eq_true, decide_eq_true_eq] at hb
  obtain ⟨n, rfl⟩ := Int.eq_ofNat_of_zero_le hb.1
  have hlt : n < ys.length := by omega
  refine ⟨?_, ?_⟩
  · rw [w64 (by omega) (by omega)]
    simp only [tkRest, h, if_true, Int.toNat_natCast, List.length_append, List.length_take, List.length_drop]
    omega
  · refine any_at _ ys n hlt ?_
    simp only [tkLet, h, if_true, Int.toNat_natCast]
    rw [List.getD_eq_getElem?_getD, List.getElem?_eq_getElem hlt]
    simp
theorem cp_law (ys : List TLetter) (k : Int) (hy : ys.length ≤ 5) (h : (copyL ys k).2 = true) : ((copyL ys k).1.length : Int) = IntKind.i64.wrap (ys.length + 1) := by
  rw [w64 (by omega) (by omega)]
  unfold copyL at *
  split
  · rename_i h1
    rw [if_pos h1] at h
    split
    · unfold putL
      rw [if_neg (by omega)]
      simp
    · rename_i h2
      rw [h2] at h
      simp at h
  · rename_i h1
    rw [if_neg h1] at h
    simp at h
theorem let_law (ys : List TLetter) (k : Int) (hy : ys.length ≤ 5) : (bif
        bif tkOk ys k then
          bif decide (((tkRest ys k).length : Int) ≠ IntKind.i64.wrap (ys.length - 1)) then true
          else !ys.any fun x => decide (x.number = (tkLet ys k).number)
        else false then
      true
    else bif (copyL ys k).snd then decide (((copyL ys k).fst.length : Int) ≠ IntKind.i64.wrap (ys.length + 1)) else false) = false := by
  have h1 := tk_law ys k hy
  have h2 := cp_law ys k hy
  cases ha : tkOk ys k <;> cases hb : (copyL ys k).2 <;> simp_all

set_option maxHeartbeats 4000000 in
set_option maxRecDepth 100000 in
theorem laws_FnLetters (bs : List Int) : PureCall Try.prog 3 [.one (.sl 1 (bs.map eU8))] [.one (.bool true)] := by
  refine pure_ev Try.func3 rfl Try.call3 Try.checked.mixed [.d (.sl 1 (bs.map eU8)), .junk, .junk, .junk, .junk, .junk, .junk, .junk, .junk, .junk, .junk, .junk, .junk, .junk, .junk, .junk, .junk, .junk, .junk, .junk, .junk, .junk, .junk, .junk, .junk, .junk, .junk, .junk, .junk, .junk, .junk, .junk, .junk, .junk, .junk, .junk, .junk, .junk, .junk, .junk, .junk, .junk, .junk, .junk, .junk, .junk, .junk, .junk, .junk, .junk, .junk, .junk, .junk, .junk, .junk, .junk, .junk, .junk, .junk, .junk, .junk, .junk, .junk, .junk, .junk, .junk, .junk, .junk, .junk, .junk, .junk, .junk, .junk, .junk, .junk, .junk, .junk, .junk, .junk, .junk, .junk, .junk, .junk, .junk, .junk, .junk, .junk, .junk, .junk, .junk, .junk, .junk, .junk, .junk, .junk, .junk, .junk, .junk, .junk, .junk, .junk, .junk, .junk, .junk, .junk, .junk, .junk, .junk, .junk, .junk, .junk, .junk, .junk, .junk, .junk, .junk, .junk, .junk, .junk, .junk, .junk, .junk, .junk, .junk, .junk, .junk, .junk, .junk, .junk, .junk, .junk, .junk, .junk, .junk, .junk, .junk, .junk, .junk, .junk, .junk, .junk, .junk, .junk, .junk, .junk, .junk, .junk, .junk, .junk, .junk, .junk, .junk, .junk, .junk, .junk, .junk, .junk, .junk, .junk, .junk, .junk, .junk, .junk, .junk, .junk, .junk, .junk, .junk, .junk, .junk, .junk, .junk, .junk, .junk] rfl [.tmp 2] rfl ?_
  intro ok
  simp only [go_sem]
  refine CallS.intro (laws_big bs) ?_
  simp only [go_sem]
  refine cSplit (fun h => ?_) (fun h => ?_)
  · simp only [go_sem]
  simp only [go_sem]
  refine CallS.nd (DrawPutLetter_nd bs) rfl ?_
  rintro _ ⟨xs, x, hx, rfl⟩
  simp only [go_sem, setD, TLetter.enc, List.length_map]
  refine CallS.intro (impl_PutLetter xs x.number x.payload (by omega)) ?_
  simp only [go_sem, List.length_map]
  refine CallS.intro (spec_PutLetter xs x.number x.payload (by omega)) ?_
  simp only [go_sem, List.length_map]
  refine CallS.nd (DrawTakeLetter_nd bs) rfl ?_
  rintro _ ⟨ys, k, hy, rfl⟩
  simp only [go_sem, setD, List.length_map]
  refine CallS.intro (impl_TakeLetter ys k (by omega)) ?_
  simp only [go_sem, TLetter.enc, List.length_map]
  refine CallS.intro (spec_TakeLetter ys k (by omega)) ?_
  simp only [go_sem, TLetter.enc, List.length_map]
  refine CallS.intro (impl_CopyLetter ys k (by omega)) ?_
  simp only [go_sem, List.length_map]
  refine CallS.intro (spec_CopyLetter ys k (by omega)) ?_
  simp only [go_sem, List.length_map]
  try simp only [go_sem, List.length_map]
  repeat' (first
    | (refine CallS.intro (by first | assumption | (apply laws_big <;> first | assumption | omega) | (apply spec_DrawPutLetter <;> first | assumption | omega) | (apply impl_PutLetter <;> first | assumption | omega) | (apply spec_PutLetter <;> first | assumption | omega) | (apply spec_DrawTakeLetter <;> first | assumption | omega) | (apply impl_TakeLetter <;> first | assumption | omega) | (apply spec_TakeLetter <;> first | assumption | omega) | (apply impl_CopyLetter <;> first | assumption | omega) | (apply spec_CopyLetter <;> first | assumption | omega) | (apply spec_SameLetters <;> first | assumption | omega) | (apply impl_HasLetter <;> first | assumption | omega) | (apply spec_DrawHasLetter <;> first | assumption | omega) | (apply spec_DrawAreLetters <;> first | assumption | omega) | (apply spec_DrawSameLetters <;> first | assumption | omega) | (apply spec_HasLetter <;> first | assumption | omega) | (apply impl_AreLetters <;> first | assumption | omega) | (apply spec_AreLetters <;> first | assumption | omega) | (apply impl_SameLetters <;> first | assumption | omega)) ?_; simp only [go_sem, List.length_map])
    | (refine CallK.intro (by first | assumption | (apply laws_big <;> first | assumption | omega) | (apply spec_DrawPutLetter <;> first | assumption | omega) | (apply impl_PutLetter <;> first | assumption | omega) | (apply spec_PutLetter <;> first | assumption | omega) | (apply spec_DrawTakeLetter <;> first | assumption | omega) | (apply impl_TakeLetter <;> first | assumption | omega) | (apply spec_TakeLetter <;> first | assumption | omega) | (apply impl_CopyLetter <;> first | assumption | omega) | (apply spec_CopyLetter <;> first | assumption | omega) | (apply spec_SameLetters <;> first | assumption | omega) | (apply impl_HasLetter <;> first | assumption | omega) | (apply spec_DrawHasLetter <;> first | assumption | omega) | (apply spec_DrawAreLetters <;> first | assumption | omega) | (apply spec_DrawSameLetters <;> first | assumption | omega) | (apply spec_HasLetter <;> first | assumption | omega) | (apply impl_AreLetters <;> first | assumption | omega) | (apply spec_AreLetters <;> first | assumption | omega) | (apply impl_SameLetters <;> first | assumption | omega)) ?_; simp only [go_sem])
    | (with_reducible refine gTrueS ?_; simp only [go_sem, List.length_map]) | (with_reducible refine gFalseS ?_; simp only [go_sem, List.length_map]) | (with_reducible refine gTrue ?_; simp only [go_sem, List.length_map]) | (with_reducible refine gFalse ?_; simp only [go_sem, List.length_map])
    | (refine gSymS ?_; simp only [go_sem, List.length_map]) | (refine gSym ?_; simp only [go_sem, List.length_map])
    | (refine cSplit (fun h => ?_) (fun h => ?_) <;> simp only [go_sem])
    | (with_reducible refine And.intro ?_ ?_; (focus (first | omega | (exact ⟨by omega, by omega⟩) | (simp; done) | (simp; omega)))))
  · simp at h
  · rw [let_law ys k hy] at h
    cases h
  · refine CallS.nd (DrawHasLetter_nd bs) rfl ?_
    rintro _ ⟨zs, n, hz, rfl⟩
    simp only [go_sem, setD, List.length_map]
    refine CallS.nd (DrawAreLetters_nd bs) rfl ?_
    rintro _ ⟨us, hu, rfl⟩
    simp only [go_sem, setD, List.length_map]
    refine CallS.nd (DrawSameLetters_nd bs) rfl ?_
    rintro _ ⟨vs, ws, rfl⟩
    simp only [go_sem, setD, List.length_map]
    try simp only [go_sem, List.length_map]
    repeat' (first
      | (refine CallS.intro (by first | assumption | (apply laws_big <;> first | assumption | omega) | (apply spec_DrawPutLetter <;> first | assumption | omega) | (apply impl_PutLetter <;> first | assumption | omega) | (apply spec_PutLetter <;> first | assumption | omega) | (apply spec_DrawTakeLetter <;> first | assumption | omega) | (apply impl_TakeLetter <;> first | assumption | omega) | (apply spec_TakeLetter <;> first | assumption | omega) | (apply impl_CopyLetter <;> first | assumption | omega) | (apply spec_CopyLetter <;> first | assumption | omega) | (apply spec_SameLetters <;> first | assumption | omega) | (apply impl_HasLetter <;> first | assumption | omega) | (apply spec_DrawHasLetter <;> first | assumption | omega) | (apply spec_DrawAreLetters <;> first | assumption | omega) | (apply spec_DrawSameLetters <;> first | assumption | omega) | (apply spec_HasLetter <;> first | assumption | omega) | (apply impl_AreLetters <;> first | assumption | omega) | (apply spec_AreLetters <;> first | assumption | omega) | (apply impl_SameLetters <;> first | assumption | omega)) ?_; simp only [go_sem, List.length_map])
      | (refine CallK.intro (by first | assumption | (apply laws_big <;> first | assumption | omega) | (apply spec_DrawPutLetter <;> first | assumption | omega) | (apply impl_PutLetter <;> first | assumption | omega) | (apply spec_PutLetter <;> first | assumption | omega) | (apply spec_DrawTakeLetter <;> first | assumption | omega) | (apply impl_TakeLetter <;> first | assumption | omega) | (apply spec_TakeLetter <;> first | assumption | omega) | (apply impl_CopyLetter <;> first | assumption | omega) | (apply spec_CopyLetter <;> first | assumption | omega) | (apply spec_SameLetters <;> first | assumption | omega) | (apply impl_HasLetter <;> first | assumption | omega) | (apply spec_DrawHasLetter <;> first | assumption | omega) | (apply spec_DrawAreLetters <;> first | assumption | omega) | (apply spec_DrawSameLetters <;> first | assumption | omega) | (apply spec_HasLetter <;> first | assumption | omega) | (apply impl_AreLetters <;> first | assumption | omega) | (apply spec_AreLetters <;> first | assumption | omega) | (apply impl_SameLetters <;> first | assumption | omega)) ?_; simp only [go_sem, List.length_map])
      | (with_reducible refine gTrueS ?_; simp only [go_sem, List.length_map]) | (with_reducible refine gFalseS ?_; simp only [go_sem, List.length_map]) | (with_reducible refine gTrue ?_; simp only [go_sem, List.length_map]) | (with_reducible refine gFalse ?_; simp only [go_sem, List.length_map])
      | (refine gSymS ?_; simp only [go_sem, List.length_map]) | (refine gSym ?_; simp only [go_sem, List.length_map])
      | (refine cSplit (fun h => ?_) (fun h => ?_) <;> simp only [go_sem, List.length_map])
      | (with_reducible refine And.intro ?_ ?_; (focus (first | omega | (exact ⟨by omega, by omega⟩) | (simp; done) | (simp; omega)))))
end Gv
