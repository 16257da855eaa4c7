/-
  The laws of the functions on letters that make new ones.
-/
import Derived.Test.YtipnobdgmbohkaaLCopy
namespace Gv
open Go Go.Proofs

def isLetter (x : TLetter) : Bool := inB x.number 0 999999 && inB x.payload.length 1 400
theorem all_take {α : Type} (p : α → Bool) (xs : List α) (i : Nat) (h : i < xs.length) (h1 : (xs.take i).all p = true) (h2 : p xs[i] = true) : (xs.take (i + 1)).all p = true := by
  rw [List.take_add_one, List.getElem?_eq_getElem h, List.all_append, h1]; simp [h2]
theorem all_at {α : Type} (p : α → Bool) (xs : List α) (i : Nat) (h : i < xs.length) (h2 : p xs[i] = false) : xs.all p = false := List.all_eq_false.2 ⟨xs[i], List.getElem_mem h, by simp [h2]⟩
def areLetters (xs : List TLetter) : Bool := decide (xs.length ≤ 60) && xs.all isLetter

theorem isL_of (x : TLetter) : (bif !inB x.number 0 999999 then true else !inB x.payload.length 1 400) = !isLetter x := by
  unfold isLetter; cases inB x.number 0 999999 <;> rfl

set_option maxRecDepth 100000 in
theorem spec_AreLetters (xs : List TLetter) : PureCall Try.prog 20 [.one (.sl 2 (xs.map TLetter.enc))] [.one (.bool (areLetters xs))] := by
  refine pure_ev Try.func20 rfl Try.call20 Try.checked.mixed [.d (.sl 2 (xs.map TLetter.enc)), .junk, .junk, .junk, .junk, .junk, .junk, .junk, .junk, .junk, .junk, .junk, .junk, .junk, .junk, .junk, .junk, .junk, .junk, .junk, .junk, .junk, .junk, .junk, .junk, .junk, .junk, .junk, .junk, .junk] rfl [.tmp 2] rfl ?_
  intro ok
  have hm := len_of ok
  simp only [go_sem]
  refine LoopK.intro (fun i : Nat => ⟨[.d (.sl 2 (xs.map TLetter.enc)), .junk, .d (.bool false), .d (.int .i64 i), .junk, .junk, .junk, .junk, .junk, .junk, .junk, .junk, .junk, .junk, .junk, .junk, .junk, .junk, .junk, .junk, .junk, .junk, .junk, .junk, .junk, .junk, .junk, .junk, .junk, .junk], []⟩)
      (fun i => xs.length - i) (fun i => i ≤ xs.length ∧ (xs.take i).all isLetter = true) 0 [] ⟨by omega, by simp⟩ ?_ ?_
  · simp only [go_sem]; simp
  · rintro i ⟨hi, he⟩
    simp only [go_sem, List.length_map]
    refine cSplit (fun h1 => ?_) (fun h1 => ?_)
    · simp only [decide_eq_true_eq] at h1
      have hlt : i < xs.length := by omega
      have hxi := map_at TLetter.enc xs i hlt
      have hw := inc hlt hm
      simp only [go_sem, List.length_map, Int.toNat_natCast, hxi, TLetter.enc]
      refine ⟨⟨by omega, by omega⟩, ?_⟩
      try simp only [go_sem, List.length_map, Int.toNat_natCast, hxi, hw, TLetter.enc]
      repeat' (first
        | (refine CallS.intro (by first | assumption | (apply spec_l1In <;> first | assumption | omega)) ?_; simp only [go_sem])
        | (refine CallK.intro (by first | assumption | (apply spec_l1In <;> first | assumption | omega)) ?_; simp only [go_sem])
        | (with_reducible refine gTrueS ?_; simp only [go_sem, List.length_map, Int.toNat_natCast, hxi, hw, TLetter.enc]) | (with_reducible refine gFalseS ?_; simp only [go_sem, List.length_map, Int.toNat_natCast, hxi, hw, TLetter.enc]) | (with_reducible refine gTrue ?_; simp only [go_sem, List.length_map, Int.toNat_natCast, hxi, hw, TLetter.enc]) | (with_reducible refine gFalse ?_; simp only [go_sem, List.length_map, Int.toNat_natCast, hxi, hw, TLetter.enc])
        | (refine gSymS ?_; simp only [go_sem, List.length_map, Int.toNat_natCast, hxi, TLetter.enc]) | (refine gSym ?_; simp only [go_sem, List.length_map, Int.toNat_natCast, hxi, hw, TLetter.enc])
        | (refine cSplit (fun h => ?_) (fun h => ?_) <;> simp only [go_sem, hw])
        | (with_reducible refine And.intro ?_ ?_; (focus (first | omega | (exact ⟨by omega, by omega⟩) | (simp; done) | (simp; omega)))))
      · have := all_at isLetter xs i hlt (by rw [isL_of xs[i]] at h; simpa using h)
        simp_all [areLetters]
      · have h3 : isLetter xs[i] = true := by rw [isL_of xs[i]] at h; simpa using h
        refine RoundE.intro (i + 1) [] ⟨by omega, all_take _ xs i hlt he h3⟩ (by omega) ?_
        simp only [go_sem]
    · simp only [decide_eq_false_iff_not] at h1
      simp only [go_sem, List.length_map]
      rw [List.take_of_length_le (by omega)] at he
      simp [areLetters, he]; omega

set_option maxRecDepth 100000 in
theorem impl_AreLetters (xs : List TLetter) : PureCall Try.prog 19 [.one (.sl 2 (xs.map TLetter.enc))] [.one (.bool (areLetters xs))] := by
  refine pure_ev Try.func19 rfl Try.call19 Try.checked.mixed [.d (.sl 2 (xs.map TLetter.enc)), .junk, .junk, .junk, .junk, .junk, .junk, .junk, .junk, .junk, .junk] rfl [.tmp 2] rfl ?_
  intro ok
  have hm := len_of ok
  simp only [go_sem, List.length_map]
  refine gSplitS (fun h => ?_) (fun h => ?_)
  · simp only [go_sem, h]
    repeat (refine gTrueS ?_; simp only [go_sem])
    refine CallS.inl (inl_ev (n := 9) (rs := [.tmp 4]) Try.func31 rfl Try.call31 Try.checked.mixed rfl rfl ?_)
    simp only [go_sem]
    refine CallS.inl (inl_ev (n := 19) (rs := [.tmp 4]) Try.func39 rfl Try.call39 Try.checked.mixed rfl rfl ?_)
    simp only [go_sem, List.length_map]
    refine LoopK.intro (fun i : Nat => ⟨[.d (.sl 2 (xs.map TLetter.enc)), .fn 34 [], .junk, .junk, .d (.int .i64 0), .junk, .junk, .d (.int .i64 xs.length), .d (.int .i64 i), .junk, .junk, .junk, .junk, .junk, .junk, .junk, .junk, .junk, .junk], []⟩)
        (fun i => xs.length - i) (fun i => i ≤ xs.length ∧ (xs.take i).all isLetter = true) 0 [] ⟨by omega, by simp⟩ ?_ ?_
    · simp only [go_sem]; simp
    · rintro i ⟨hi, he⟩
      simp only [go_sem]
      refine cSplit (fun h1 => ?_) (fun h1 => ?_)
      · simp only [decide_eq_true_eq] at h1
        have hlt : i < xs.length := by omega
        have hxi := map_at TLetter.enc xs i hlt
        have hw := inc hlt hm
        simp only [go_sem, List.length_map, Int.toNat_natCast, hxi, TLetter.enc]
        refine ⟨⟨by omega, by omega⟩, ?_⟩
        refine CallS.inl (inl_ev (n := 14) (rs := [.tmp 2]) Try.func34 rfl Try.call34 Try.checked.mixed rfl rfl ?_)
        simp only [go_sem]
        try simp only [go_sem, List.length_map, Int.toNat_natCast, hxi, hw, TLetter.enc]
        repeat' (first
          | (refine CallS.intro (by first | assumption | (apply impl_within <;> first | assumption | omega)) ?_; simp only [go_sem])
          | (refine CallK.intro (by first | assumption | (apply impl_within <;> first | assumption | omega)) ?_; simp only [go_sem])
          | (with_reducible refine gTrueS ?_; simp only [go_sem]) | (with_reducible refine gFalseS ?_; simp only [go_sem, List.length_map, Int.toNat_natCast, hxi, hw, TLetter.enc]) | (with_reducible refine gTrue ?_; simp only [go_sem, List.length_map, Int.toNat_natCast, hxi, hw, TLetter.enc]) | (with_reducible refine gFalse ?_; simp only [go_sem, List.length_map, Int.toNat_natCast, hxi, hw, TLetter.enc])
          | (refine gSymS ?_; simp only [go_sem]) | (refine gSym ?_; simp only [go_sem, List.length_map, Int.toNat_natCast, hxi, hw, TLetter.enc])
          | (refine cSplit (fun h => ?_) (fun h => ?_) <;> simp only [go_sem, hw])
          | (with_reducible refine And.intro ?_ ?_; (focus (first | omega | (exact ⟨by omega, by omega⟩) | (simp; done) | (simp; omega)))))
        · have := all_at isLetter xs i hlt (by rw [isL_of xs[i]] at h; simpa using h)
          simp [areLetters, this]
        · rw [isL_of xs[i]] at h
          refine RoundE.intro (i + 1) [] ⟨by omega, all_take _ xs i hlt he (by simpa using h)⟩ (by omega) ?_
          simp only [go_sem]
      · simp only [decide_eq_false_iff_not] at h1
        simp only [go_sem]
        rw [List.take_of_length_le (by omega)] at he
        have h5 : xs.length ≤ 60 := by have := of_decide_eq_true h; omega
        try simp only [go_sem]
        repeat' (first
          | (refine CallS.intro (by first | assumption | (apply impl_within <;> first | assumption | omega)) ?_; simp only [go_sem])
          | (refine CallK.intro (by first | assumption | (apply impl_within <;> first | assumption | omega)) ?_; simp only [go_sem])
          | (with_reducible refine gTrueS ?_; simp only [go_sem]) | (with_reducible refine gFalseS ?_; simp only [go_sem]) | (with_reducible refine gTrue ?_; simp only [go_sem]) | (with_reducible refine gFalse ?_; simp only [go_sem])
          | (refine gSymS ?_; simp only [go_sem]) | (refine gSym ?_; simp only [go_sem])
          | (refine cSplit (fun h => ?_) (fun h => ?_) <;> simp only [go_sem])
          | (with_reducible refine And.intro ?_ ?_; (focus (first | omega | (exact ⟨by omega, by omega⟩) | (simp; done) | (simp; omega)))))
        simp [areLetters, he, h5]
  · simp only [go_sem, h]
    repeat (refine gFalseS ?_; simp only [go_sem])
    have h5 : ¬ xs.length ≤ 60 := by have := of_decide_eq_false h; omega
    simp [areLetters, h5]

theorem cells_len {xs : List TLetter} {n : Nat} (h : xs.length ≤ n) : (xs.map TLetter.enc).length ≤ n := by simpa using h
def putL (xs : List TLetter) (x : TLetter) : List TLetter := if 60 ≤ xs.length then xs else xs ++ [x]
set_option maxRecDepth 100000 in
theorem spec_PutLetter (xs : List TLetter) (n : Int) (p : List UInt8) (hx : xs.length ≤ 1048576) : PureCall Try.prog 7 [.one (.sl 2 (xs.map TLetter.enc)), .agg [.int .i64 n, .str p]] [.one (.sl 2 ((putL xs ⟨n, p⟩).map TLetter.enc)), .one (.bool (decide (xs.length < 60)))] := by
  refine pure_ev Try.func7 rfl Try.call7 Try.checked.mixed [.d (.sl 2 (xs.map TLetter.enc)), .agg [.d (.int .i64 n), .d (.str p)], .junk, .junk, .junk, .junk, .junk, .junk, .junk, .junk, .junk, .junk, .junk, .junk, .junk, .junk, .junk] rfl [.tmp 4, .tmp 5] rfl ?_
  intro _
  try simp only [go_sem]
  repeat' (first
    | (refine CallS.intro (by first | assumption | (apply spec_l25Copy <;> first | assumption | omega)) ?_; simp only [go_sem, List.length_map])
    | (refine CallK.intro (by first | assumption | (apply spec_l25Copy <;> first | assumption | omega)) ?_; simp only [go_sem, List.length_map])
    | (with_reducible refine gTrueS ?_; simp only [go_sem, List.length_map]) | (with_reducible refine gFalseS ?_; simp only [go_sem, List.length_map]) | (with_reducible refine gTrue ?_; simp only [go_sem, List.length_map]) | (with_reducible refine gFalse ?_; simp only [go_sem, List.length_map])
    | (refine gSymS ?_; simp only [go_sem, List.length_map]) | (refine gSym ?_; simp only [go_sem, List.length_map])
    | (refine cSplit (fun h => ?_) (fun h => ?_) <;> simp only [go_sem, List.length_map])
    | (with_reducible refine And.intro ?_ ?_; (focus (first | omega | (exact ⟨by omega, by omega⟩) | (simp; done) | (simp; omega)))))
  · have h5 : 60 ≤ xs.length := by have := of_decide_eq_true h; omega
    simp [putL, h5]
  · have h5 : ¬ 60 ≤ xs.length := by have := of_decide_eq_false h; omega
    simp [putL, h5, TLetter.enc]
    exact ⟨List.take_of_length_le (by simp), by omega⟩
set_option maxRecDepth 100000 in
theorem impl_PutLetter (xs : List TLetter) (n : Int) (p : List UInt8) (hx : xs.length ≤ 1048576) : PureCall Try.prog 6 [.one (.sl 2 (xs.map TLetter.enc)), .agg [.int .i64 n, .str p]] [.one (.sl 2 ((putL xs ⟨n, p⟩).map TLetter.enc)), .one (.bool (decide (xs.length < 60)))] := by
  refine pure_ev Try.func6 rfl Try.call6 Try.checked.mixed [.d (.sl 2 (xs.map TLetter.enc)), .agg [.d (.int .i64 n), .d (.str p)], .junk, .junk, .junk, .junk, .junk, .junk, .junk, .junk, .junk, .junk, .junk, .junk, .junk, .junk] rfl [.tmp 4, .tmp 5] rfl ?_
  intro _
  try simp only [go_sem, List.length_map]
  repeat' (first
    | (refine CallS.intro (by first | assumption | (apply impl_copyLetters <;> first | assumption | omega)) ?_; simp only [go_sem, List.length_map])
    | (refine CallK.intro (by first | assumption | (apply impl_copyLetters <;> first | assumption | omega)) ?_; simp only [go_sem, List.length_map])
    | (with_reducible refine gTrueS ?_; simp only [go_sem, List.length_map]) | (with_reducible refine gFalseS ?_; simp only [go_sem, List.length_map]) | (with_reducible refine gTrue ?_; simp only [go_sem, List.length_map]) | (with_reducible refine gFalse ?_; simp only [go_sem, List.length_map])
    | (refine gSymS ?_; simp only [go_sem, List.length_map]) | (refine gSym ?_; simp only [go_sem, List.length_map])
    | (refine drawE_intro [[.post, .post, .un, .un, .post, .post, .post], [.pre, .post, .un, .un, .post, .post, .post], [.un, .un, .post, .post, .post, .post, .post], [.un, .un, .pre, .post, .post, .post, .post], [.pre, .pre, .pre, .pre, .post, .post, .post], [.pre, .pre, .pre, .pre, .pre, .post, .post], [.pre, .pre, .pre, .pre, .pre, .pre, .post]] (by kernel_rfl) (by rfl) ?_; simp only [go_sem])
    | (refine cSplit (fun h => ?_) (fun h => ?_) <;> simp only [go_sem])
    | (with_reducible refine And.intro ?_ ?_; (focus (first | omega | (exact ⟨by omega, by omega⟩) | (simp; done) | (simp; omega)))))
  · have h5 : 60 ≤ xs.length := by have := of_decide_eq_true h; omega
    simp [putL, h5]
  · have h5 : ¬ 60 ≤ xs.length := by have := of_decide_eq_false h; omega
    simp [putL, h5, TLetter.enc]
    exact ⟨List.take_of_length_le (by simp), by omega⟩

def copyL (xs : List TLetter) (at' : Int) : List TLetter × Bool :=
  if inB at' 0 ((xs.length : Int) - 1) = true then (match xs[at'.toNat]? with | some x => (putL xs x, decide (xs.length < 60)) | none => (xs, false)) else (xs, false)

set_option maxRecDepth 100000 in
theorem spec_CopyLetter (xs : List TLetter) (at' : Int) (hx : xs.length ≤ 1048576) : PureCall Try.prog 12 [.one (.sl 2 (xs.map TLetter.enc)), .one (.int .i64 at')] [.one (.sl 2 ((copyL xs at').1.map TLetter.enc)), .one (.bool (copyL xs at').2)] := by
  refine pure_ev Try.func12 rfl Try.call12 Try.checked.mixed [.d (.sl 2 (xs.map TLetter.enc)), .d (.int .i64 at'), .junk, .junk, .junk, .junk, .junk, .junk, .junk, .junk, .junk, .junk, .junk, .junk, .junk, .junk, .junk, .junk, .junk, .junk, .junk, .junk, .junk, .junk, .junk, .junk, .junk] rfl [.tmp 4, .tmp 5] rfl ?_
  intro ok
  have hw : IntKind.i64.wrap ((xs.length : Int) - 1) = (xs.length : Int) - 1 := by rw [w64] <;> omega
  simp only [go_sem, List.length_map, hw]
  refine CallS.intro (spec_l1In at' 0 _) ?_
  simp only [go_sem]
  refine cSplit (fun h => ?_) (fun h => ?_)
  · skip
    try simp only [go_sem]
    repeat' (first
      | (refine CallS.intro (by first | assumption | (apply spec_l1In <;> first | assumption | omega) | (apply spec_l25Copy <;> first | assumption | omega) | (apply spec_PutLetter <;> first | assumption | omega)) ?_; simp only [go_sem, List.length_map])
      | (refine CallK.intro (by first | assumption | (apply spec_l1In <;> first | assumption | omega) | (apply spec_l25Copy <;> first | assumption | omega) | (apply spec_PutLetter <;> first | assumption | omega)) ?_; simp only [go_sem, List.length_map])
      | (with_reducible refine gTrueS ?_; simp only [go_sem, List.length_map]) | (with_reducible refine gFalseS ?_; simp only [go_sem, List.length_map]) | (with_reducible refine gTrue ?_; simp only [go_sem, List.length_map]) | (with_reducible refine gFalse ?_; simp only [go_sem, List.length_map])
      | (refine gSymS ?_; simp only [go_sem, List.length_map]) | (refine gSym ?_; simp only [go_sem, List.length_map])
      | (refine cSplit (fun h => ?_) (fun h => ?_) <;> simp only [go_sem, List.length_map])
      | (with_reducible refine And.intro ?_ ?_; (focus (first | omega | (exact ⟨by omega, by omega⟩) | (simp; done) | (simp; omega)))))
    have h5 : inB at' 0 ((xs.length : Int) - 1) = false := by simpa using h
    simp [copyL, h5]
  · have h5 : inB at' 0 ((xs.length : Int) - 1) = true := by simpa using h
    have hb := h5
    simp only [inB, Bool.and_eq_true, decide_eq_true_eq] at hb
    have hlt : at'.toNat < xs.length := by omega
    have hxi := map_at TLetter.enc xs at'.toNat hlt
    simp only [go_sem, List.length_map, hxi, TLetter.enc]
    refine ⟨⟨by omega, by omega⟩, ?_⟩
    refine CallS.intro (spec_PutLetter xs _ _ hx) ?_
    simp only [go_sem, List.length_map]
    simp [copyL, h5, hlt]

set_option maxRecDepth 100000 in
theorem impl_CopyLetter (xs : List TLetter) (at' : Int) (hx : xs.length ≤ 1048576) : PureCall Try.prog 11 [.one (.sl 2 (xs.map TLetter.enc)), .one (.int .i64 at')] [.one (.sl 2 ((copyL xs at').1.map TLetter.enc)), .one (.bool (copyL xs at').2)] := by
  refine pure_ev Try.func11 rfl Try.call11 Try.checked.mixed [.d (.sl 2 (xs.map TLetter.enc)), .d (.int .i64 at'), .junk, .junk, .junk, .junk, .junk, .junk, .junk, .junk, .junk, .junk, .junk, .junk, .junk, .junk, .junk, .junk, .junk, .junk, .junk, .junk] rfl [.tmp 4, .tmp 5] rfl ?_
  intro ok
  have hw : IntKind.i64.wrap ((xs.length : Int) - 1) = (xs.length : Int) - 1 := by rw [w64] <;> omega
  simp only [go_sem, List.length_map, hw]
  refine CallS.intro (impl_within at' 0 _) ?_
  simp only [go_sem]
  refine cSplit (fun h => ?_) (fun h => ?_)
  · skip
    try simp only [go_sem]
    repeat' (first
      | (refine CallS.intro (by first | assumption | (apply impl_within <;> first | assumption | omega) | (apply impl_copyLetters <;> first | assumption | omega) | (apply impl_PutLetter <;> first | assumption | omega)) ?_; simp only [go_sem, List.length_map])
      | (refine CallK.intro (by first | assumption | (apply impl_within <;> first | assumption | omega) | (apply impl_copyLetters <;> first | assumption | omega) | (apply impl_PutLetter <;> first | assumption | omega)) ?_; simp only [go_sem, List.length_map])
      | (with_reducible refine gTrueS ?_; simp only [go_sem, List.length_map]) | (with_reducible refine gFalseS ?_; simp only [go_sem, List.length_map]) | (with_reducible refine gTrue ?_; simp only [go_sem, List.length_map]) | (with_reducible refine gFalse ?_; simp only [go_sem, List.length_map])
      | (refine gSymS ?_; simp only [go_sem, List.length_map]) | (refine gSym ?_; simp only [go_sem, List.length_map])
      | (refine cSplit (fun h => ?_) (fun h => ?_) <;> simp only [go_sem, List.length_map])
      | (with_reducible refine And.intro ?_ ?_; (focus (first | omega | (exact ⟨by omega, by omega⟩) | (simp; done) | (simp; omega)))))
    have h5 : inB at' 0 ((xs.length : Int) - 1) = false := by simpa using h
    simp [copyL, h5]
  · have h5 : inB at' 0 ((xs.length : Int) - 1) = true := by simpa using h
    have hb := h5
    simp only [inB, Bool.and_eq_true, decide_eq_true_eq] at hb
    have hlt : at'.toNat < xs.length := by omega
    have hxi := map_at TLetter.enc xs at'.toNat hlt
    simp only [go_sem, List.length_map, hxi, TLetter.enc]
    refine ⟨⟨by omega, by omega⟩, ?_⟩
    refine CallS.intro (impl_PutLetter xs _ _ hx) ?_
    simp only [go_sem, List.length_map]
    simp [copyL, h5, hlt]
theorem copyL_len (xs : List TLetter) (a : Int) : (copyL xs a).1.length ≤ xs.length + 1 := by
  unfold copyL
  split
  · split
    · unfold putL; split <;> simp
    · simp
  · simp
end Gv
