/-
  Taking a letter out.
-/
import Derived.Test.YtipnobdgmbohkaaLCopy
namespace Gv
open Go Go.Proofs

theorem del_take {α : Type} (l : List α) (i j n : Nat) (hn : l.length = n) (hij : i < j) (hj : j ≤ n) (z : List α) :
    List.take (i + (n - j)) (List.take (i + (n - j)) (List.take i l ++ (List.take (n - j) (List.drop j l) ++ List.drop (i + (n - j)) l)) ++ z) = List.take i l ++ List.drop j l := by
  rw [List.take_of_length_le (l := List.drop j l) (by simp; omega), ← List.append_assoc, List.take_left' (by simp; omega), List.take_left' (by simp; omega)]

set_option maxRecDepth 100000 in
theorem slices_Delete_impl_Letter_impl_Letter (xs : List TLetter) (i j : Nat) (hij : i < j) (hj : j ≤ xs.length) : ConsCall Try.prog 29 [.one (.sl 2 (xs.map TLetter.enc)), .one (.int .i64 i), .one (.int .i64 j)] [.one (.sl 2 ((xs.take i ++ xs.drop j).map TLetter.enc))] := by
  refine cons_ev Try.func29 rfl Try.call29 Try.checked.mixed [.sl 0 0 (xs.map TLetter.enc).length, .d (.int .i64 i), .d (.int .i64 j), .junk, .junk, .junk, .junk, .junk, .junk, .junk, .junk, .junk, .junk, .junk, .junk, .junk, .junk, .junk, .junk, .junk, .junk, .junk, .junk, .junk, .junk, .junk, .junk, .junk, .junk, .junk, .junk, .junk, .junk] [.arr 2 (xs.map TLetter.enc) true] rfl rfl [.tmp 6] rfl ?_
  intro ok
  have hm := len_of ok
  try simp only [go_sem, List.length_map]
  repeat' (first
    | (with_reducible refine gTrueS ?_; simp only [go_sem, List.length_map]) | (with_reducible refine gFalseS ?_; simp only [go_sem, List.length_map]) | (with_reducible refine gTrue ?_; simp only [go_sem, List.length_map]) | (with_reducible refine gFalse ?_; simp only [go_sem, List.length_map])
    | (refine gSymS ?_; simp only [go_sem, List.length_map]) | (refine gSym ?_; simp only [go_sem, List.length_map])
    | (refine drawE_intro [[.post, .un, .post, .un, .un, .un, .post, .post], [.un, .post, .post, .un, .un, .un, .post, .post], [.pre, .pre, .post, .un, .un, .un, .post, .post], [.un, .un, .un, .post, .un, .post, .post, .post], [.un, .un, .un, .un, .post, .post, .post, .post], [.un, .un, .un, .pre, .pre, .post, .post, .post], [.pre, .pre, .pre, .pre, .pre, .pre, .post, .post], [.pre, .pre, .pre, .pre, .pre, .pre, .pre, .post]] (by kernel_rfl) (by rfl) ?_; simp only [go_sem, List.length_map])
    | (refine cSplit (fun h => ?_) (fun h => ?_) <;> simp only [go_sem, List.length_map])
    | (with_reducible refine And.intro ?_ ?_; (focus (first | omega | (exact ⟨by omega, by omega⟩) | (simp; done) | (simp; omega)))))
  · have := of_decide_eq_true h
    omega
  · have hd := of_decide_eq_false h
    simp only [Int.toNat_natCast, Nat.sub_zero]
    refine ⟨⟨?_, ?_, ?_⟩, ?_⟩
    · simp only [← List.map_take, ← List.map_drop, flat_TLetter, Bool.and_true]
    · simp only [List.length_take, List.length_drop, List.length_map]
      omega
    · omega
    · rw [if_pos (by simp only [List.length_take, List.length_drop, List.length_map, List.length_append]; omega), del_take _ i j xs.length (by simp) hij hj]
      simp [outOA]

def tkOk (xs : List TLetter) (k : Int) : Bool := inB k 0 ((xs.length : Int) - 1)
def tkLet (xs : List TLetter) (k : Int) : TLetter := if tkOk xs k then xs.getD k.toNat ⟨0, []⟩ else ⟨0, []⟩
def tkRest (xs : List TLetter) (k : Int) : List TLetter := if tkOk xs k then xs.take k.toNat ++ xs.drop (k.toNat + 1) else xs

set_option maxRecDepth 100000 in
theorem impl_TakeLetter (xs : List TLetter) (k : Int) (hx : xs.length ≤ 1048577) : PureCall Try.prog 9 [.one (.sl 2 (xs.map TLetter.enc)), .one (.int .i64 k)] [.agg (TLetter.enc (tkLet xs k)), .one (.sl 2 ((tkRest xs k).map TLetter.enc)), .one (.bool (tkOk xs k))] := by
  refine pure_ev Try.func9 rfl Try.call9 Try.checked.mixed [.d (.sl 2 (xs.map TLetter.enc)), .d (.int .i64 k), .junk, .junk, .junk, .junk, .junk, .junk, .junk, .junk, .junk, .junk, .junk, .junk, .junk, .junk, .junk, .junk, .junk, .junk, .junk, .junk, .junk, .junk, .junk, .junk] rfl [.cell 4 26, .tmp 5, .tmp 6] rfl ?_
  intro ok
  have hm := len_of ok
  have hw : IntKind.i64.wrap ((xs.length : Int) - 1) = (xs.length : Int) - 1 := by
    simp only [maxLen] at hm
    rw [w64] <;> omega
  cases hb : inB k 0 ((xs.length : Int) - 1) with
  | false =>
    try simp only [go_sem, List.length_map, hw]
    repeat' (first
      | (refine CallS.intro (by first | assumption | (apply impl_within <;> first | assumption | omega) | (apply impl_copyLetters <;> first | assumption | omega)) ?_; simp only [go_sem, List.length_map, hb])
      | (refine CallK.co (by first | (apply slices_Delete_impl_Letter_impl_Letter <;> first | assumption | omega)) ?_; simp only [go_sem, List.length_map, hw, hb]) | (refine CallS.co (by first | (apply slices_Delete_impl_Letter_impl_Letter <;> first | assumption | omega)) ?_; simp only [go_sem, List.length_map, hw, hb])
      | (refine CallK.intro (by first | assumption | (apply impl_within <;> first | assumption | omega) | (apply impl_copyLetters <;> first | assumption | omega)) ?_; simp only [go_sem, List.length_map, hw, hb])
      | (with_reducible refine gTrueS ?_; simp only [go_sem, List.length_map, hw, hb]) | (with_reducible refine gFalseS ?_; simp only [go_sem, List.length_map, hw, hb]) | (with_reducible refine gTrue ?_; simp only [go_sem, List.length_map, hw, hb]) | (with_reducible refine gFalse ?_; simp only [go_sem, List.length_map, hw, hb])
      | (refine gSymS ?_; simp only [go_sem, List.length_map, hw, hb]) | (refine gSym ?_; simp only [go_sem, List.length_map, hw, hb])
      | (refine drawE_intro [[.post, .un, .post, .post, .un, .un, .un, .un, .un, .un, .post, .post, .post], [.un, .post, .post, .post, .un, .un, .un, .un, .un, .un, .post, .post, .post], [.pre, .pre, .post, .post, .un, .un, .un, .un, .un, .un, .post, .post, .post], [.pre, .pre, .pre, .post, .un, .un, .un, .un, .un, .un, .post, .post, .post], [.un, .un, .un, .un, .post, .post, .un, .un, .un, .post, .post, .post, .post], [.un, .un, .un, .un, .pre, .post, .un, .un, .un, .post, .post, .post, .post], [.un, .un, .un, .un, .un, .un, .post, .un, .un, .post, .post, .post, .post], [.un, .un, .un, .un, .un, .un, .un, .post, .post, .post, .post, .post, .post], [.un, .un, .un, .un, .un, .un, .un, .pre, .post, .post, .post, .post, .post], [.un, .un, .un, .un, .pre, .pre, .pre, .pre, .pre, .post, .post, .post, .post], [.pre, .pre, .pre, .pre, .pre, .pre, .pre, .pre, .pre, .pre, .post, .post, .post], [.pre, .pre, .pre, .pre, .pre, .pre, .pre, .pre, .pre, .pre, .pre, .post, .post], [.pre, .pre, .pre, .pre, .pre, .pre, .pre, .pre, .pre, .pre, .pre, .pre, .post]] (by kernel_rfl) (by rfl) ?_; simp only [go_sem, List.length_map, hw, hb])
      | (refine cSplit (fun h => ?_) (fun h => ?_) <;> simp only [go_sem, List.length_map, hw, hb])
      | (with_reducible refine And.intro ?_ ?_; (focus (first | omega | (exact ⟨by omega, by omega⟩) | (simp; done) | (simp; omega)))))
    simp [tkLet, tkRest, tkOk, hb, TLetter.enc]
  | true =>
    have hk : 0 ≤ k ∧ k ≤ (xs.length : Int) - 1 := by simpa [inB] using hb
    obtain ⟨n, rfl⟩ := Int.eq_ofNat_of_zero_le hk.1
    have hlt : n < xs.length := by omega
    have hi := inc hlt hm
    have hxi := map_at TLetter.enc xs n hlt
    try simp only [go_sem, List.length_map, hw, TLetter.enc]
    repeat' (first
      | (refine CallS.intro (by first | assumption | (apply impl_within <;> first | assumption | omega) | (apply impl_copyLetters <;> first | assumption | omega)) ?_; simp only [go_sem, hb])
      | (refine CallK.co (by first | (apply slices_Delete_impl_Letter_impl_Letter <;> first | assumption | omega)) ?_; simp only [go_sem, List.length_map]) | (refine CallS.co (by first | (apply slices_Delete_impl_Letter_impl_Letter <;> first | assumption | omega)) ?_; simp only [go_sem, List.length_map, hw, hb, hi, hxi, Int.toNat_natCast, TLetter.enc])
      | (refine CallK.intro (by first | assumption | (apply impl_within <;> first | assumption | omega) | (apply impl_copyLetters <;> first | assumption | omega)) ?_; simp only [go_sem, List.length_map, hi])
      | (with_reducible refine gTrueS ?_; simp only [go_sem, List.length_map, hw, hb, hi, hxi, Int.toNat_natCast, TLetter.enc]) | (with_reducible refine gFalseS ?_; simp only [go_sem, List.length_map, hw, hb, hi, hxi, Int.toNat_natCast, TLetter.enc]) | (with_reducible refine gTrue ?_; simp only [go_sem, List.length_map, hw, hb, hi, hxi, Int.toNat_natCast, TLetter.enc]) | (with_reducible refine gFalse ?_; simp only [go_sem, List.length_map, hw, hb, hi, hxi, Int.toNat_natCast, TLetter.enc])
      | (refine gSymS ?_; simp only [go_sem, List.length_map, hw, hb, hi, hxi, Int.toNat_natCast, TLetter.enc]) | (refine gSym ?_; simp only [go_sem, List.length_map, hw, hb, hi, hxi, Int.toNat_natCast, TLetter.enc])
      | (refine drawE_intro [[.post, .un, .post, .post, .un, .un, .un, .un, .un, .un, .post, .post, .post], [.un, .post, .post, .post, .un, .un, .un, .un, .un, .un, .post, .post, .post], [.pre, .pre, .post, .post, .un, .un, .un, .un, .un, .un, .post, .post, .post], [.pre, .pre, .pre, .post, .un, .un, .un, .un, .un, .un, .post, .post, .post], [.un, .un, .un, .un, .post, .post, .un, .un, .un, .post, .post, .post, .post], [.un, .un, .un, .un, .pre, .post, .un, .un, .un, .post, .post, .post, .post], [.un, .un, .un, .un, .un, .un, .post, .un, .un, .post, .post, .post, .post], [.un, .un, .un, .un, .un, .un, .un, .post, .post, .post, .post, .post, .post], [.un, .un, .un, .un, .un, .un, .un, .pre, .post, .post, .post, .post, .post], [.un, .un, .un, .un, .pre, .pre, .pre, .pre, .pre, .post, .post, .post, .post], [.pre, .pre, .pre, .pre, .pre, .pre, .pre, .pre, .pre, .pre, .post, .post, .post], [.pre, .pre, .pre, .pre, .pre, .pre, .pre, .pre, .pre, .pre, .pre, .post, .post], [.pre, .pre, .pre, .pre, .pre, .pre, .pre, .pre, .pre, .pre, .pre, .pre, .post]] (by kernel_rfl) (by rfl) ?_; simp only [go_sem, List.length_map, hxi, Int.toNat_natCast, TLetter.enc])
      | (refine cSplit (fun h => ?_) (fun h => ?_) <;> simp only [go_sem, List.length_map, hw, hb, hi, hxi, Int.toNat_natCast, TLetter.enc])
      | (with_reducible refine And.intro ?_ ?_; (focus (first | omega | (exact ⟨by omega, by omega⟩) | (simp; done) | (simp; omega)))))
    have hb2 : tkOk xs n = true := hb
    rw [List.take_of_length_le (by simp)]
    simp [tkLet, tkRest, hb2, hlt]

theorem er_step (xs : List TLetter) (n i : Nat) (h : i < xs.length) (hn : i ≠ n) : (xs.take (i + 1)).eraseIdx n = (xs.take i).eraseIdx n ++ [xs[i]] := by
  have e : xs.take (i + 1) = xs.take i ++ [xs[i]] := by rw [List.take_add_one, List.getElem?_eq_getElem h]; rfl
  have hl : (xs.take i).length = i := by simp; omega
  rw [e]
  by_cases h1 : n < i
  · rw [List.eraseIdx_append_of_lt_length (by omega)]
  · rw [List.eraseIdx_append_of_length_le (by omega), List.eraseIdx_of_length_le (l := xs.take i) (by omega), List.eraseIdx_of_length_le (l := [xs[i]]) (by rw [hl]; simp; omega)]
theorem er_skip (xs : List TLetter) (n : Nat) (h : n < xs.length) : (xs.take (n + 1)).eraseIdx n = (xs.take n).eraseIdx n := by
  have e : xs.take (n + 1) = xs.take n ++ [xs[n]] := by rw [List.take_add_one, List.getElem?_eq_getElem h]; rfl
  have hl : (xs.take n).length = n := by simp; omega
  rw [e, List.eraseIdx_append_of_length_le (by omega), hl, Nat.sub_self, List.eraseIdx_of_length_le (l := xs.take n) (by omega)]
  simp

set_option maxRecDepth 100000 in
theorem spec_TakeLetter (xs : List TLetter) (k : Int) (hx : xs.length ≤ 1048577) : PureCall Try.prog 10 [.one (.sl 2 (xs.map TLetter.enc)), .one (.int .i64 k)] [.agg (TLetter.enc (tkLet xs k)), .one (.sl 2 ((tkRest xs k).map TLetter.enc)), .one (.bool (tkOk xs k))] := by
  refine pure_ev Try.func10 rfl Try.call10 Try.checked.mixed [.d (.sl 2 (xs.map TLetter.enc)), .d (.int .i64 k), .junk, .junk, .junk, .junk, .junk, .junk, .junk, .junk, .junk, .junk, .junk, .junk, .junk, .junk, .junk, .junk, .junk, .junk, .junk, .junk, .junk, .junk, .junk, .junk, .junk, .junk, .junk, .junk, .junk, .junk, .junk, .junk, .junk, .junk, .junk, .junk, .junk, .junk] rfl [.cell 4 26, .tmp 5, .tmp 6] rfl ?_
  intro ok
  have hm := len_of ok
  have hw : IntKind.i64.wrap ((xs.length : Int) - 1) = (xs.length : Int) - 1 := by
    simp only [maxLen] at hm
    rw [w64] <;> omega
  cases hb : inB k 0 ((xs.length : Int) - 1) with
  | false =>
    try simp only [go_sem, List.length_map, hw]
    repeat' (first
      | (refine CallS.intro (by first | assumption | (apply spec_l1In <;> first | assumption | omega) | (apply spec_l25Copy <;> first | assumption | omega)) ?_; simp only [go_sem, List.length_map, hb])
      | (refine CallK.intro (by first | assumption | (apply spec_l1In <;> first | assumption | omega) | (apply spec_l25Copy <;> first | assumption | omega)) ?_; simp only [go_sem, List.length_map, hw, hb])
      | (with_reducible refine gTrueS ?_; simp only [go_sem, List.length_map, hw, hb]) | (with_reducible refine gFalseS ?_; simp only [go_sem, List.length_map, hw, hb]) | (with_reducible refine gTrue ?_; simp only [go_sem, List.length_map, hw, hb]) | (with_reducible refine gFalse ?_; simp only [go_sem, List.length_map, hw, hb])
      | (refine gSymS ?_; simp only [go_sem, List.length_map, hw, hb]) | (refine gSym ?_; simp only [go_sem, List.length_map, hw, hb])
      | (refine cSplit (fun h => ?_) (fun h => ?_) <;> simp only [go_sem, List.length_map, hw, hb])
      | (with_reducible refine And.intro ?_ ?_; (focus (first | omega | (exact ⟨by omega, by omega⟩) | (simp; done) | (simp; omega)))))
    simp [tkLet, tkRest, tkOk, hb, TLetter.enc]
  | true =>
    have hk : 0 ≤ k ∧ k ≤ (xs.length : Int) - 1 := by simpa [inB] using hb
    obtain ⟨n, rfl⟩ := Int.eq_ofNat_of_zero_le hk.1
    have hlt : n < xs.length := by omega
    try simp only [go_sem, List.length_map, hw]
    repeat' (first
      | (refine CallS.intro (by first | assumption | (apply spec_l1In <;> first | assumption | omega) | (apply spec_l25Copy <;> first | assumption | omega)) ?_; simp only [go_sem, hb])
      | (refine CallK.intro (by first | assumption | (apply spec_l1In <;> first | assumption | omega) | (apply spec_l25Copy <;> first | assumption | omega)) ?_; simp only [go_sem, List.length_map, hw, hb])
      | (with_reducible refine gTrueS ?_; simp only [go_sem, List.length_map, hw, hb]) | (with_reducible refine gFalseS ?_; simp only [go_sem, List.length_map, hw, hb]) | (with_reducible refine gTrue ?_; simp only [go_sem, List.length_map, hw, hb]) | (with_reducible refine gFalse ?_; simp only [go_sem, List.length_map, hw, hb])
      | (refine gSymS ?_; simp only [go_sem, List.length_map, hw, hb]) | (refine gSym ?_; simp only [go_sem, List.length_map, hw, hb])
      | (refine cSplit (fun h => ?_) (fun h => ?_) <;> simp only [go_sem, List.length_map, hw, hb])
      | (with_reducible refine And.intro ?_ ?_; (focus (first | omega | (exact ⟨by omega, by omega⟩) | (simp; done) | (simp; omega)))))
    refine LoopK.intro (fun i : Nat => ⟨[.d (.sl 2 (xs.map TLetter.enc)), .d (.int .i64 n), .junk, .junk, .ptr 0 0 0, .nils 2, .d (.bool false), .sl 1 0 ((xs.take i).eraseIdx n).length, .d (.int .i64 i), .junk, .junk, .junk, .junk, .junk, .junk, .junk, .junk, .junk, .junk, .junk, .junk, .junk, .junk, .junk, .junk, .junk, .junk, .junk, .junk, .junk, .junk, .junk, .junk, .junk, .junk, .junk, .junk, .junk, .junk, .junk], [.box [.d (.int .i64 0), .d (.str [])], .arr 2 (((xs.take i).eraseIdx n).map TLetter.enc) true]⟩)
      (fun i => xs.length - i) (fun i => i ≤ xs.length) 0 [0, 1] (by omega) ?_ ?_
    · simp only [go_sem]; simp
    · rintro i hi
      simp only [go_sem, List.length_map]
      refine cSplit (fun h1 => ?_) (fun h1 => ?_)
      · simp only [decide_eq_true_eq] at h1
        have hil : i < xs.length := by omega
        have hxi := map_at TLetter.enc xs i hil
        have hwi := inc hil hm
        have hel : ((xs.take i).eraseIdx n).length ≤ 1048577 := Nat.le_trans (List.length_eraseIdx_le _ _) (by simp; omega)
        simp only [go_sem, TLetter.enc]
        refine cSplit (fun h2 => ?_) (fun h2 => ?_)
        · have hne : i ≠ n := by
            have := of_decide_eq_true h2
            omega
          try simp only [go_sem, List.length_map, Int.toNat_natCast, hxi, hwi, TLetter.enc]
          repeat' (first
            | (refine CallS.intro (by first | assumption | (apply spec_l1In <;> first | assumption | omega) | (apply spec_l25Copy <;> first | assumption | omega)) ?_; simp only [go_sem, List.length_map, Int.toNat_natCast, hxi, hwi, TLetter.enc])
            | (refine CallK.intro (by first | assumption | (apply spec_l1In <;> first | assumption | omega) | (apply spec_l25Copy <;> first | assumption | omega)) ?_; simp only [go_sem, List.length_map, Int.toNat_natCast, hxi, hwi, TLetter.enc])
            | (with_reducible refine gTrueS ?_; simp only [go_sem, List.length_map, Int.toNat_natCast, hxi, hwi, TLetter.enc]) | (with_reducible refine gFalseS ?_; simp only [go_sem, List.length_map, Int.toNat_natCast, hxi, hwi, TLetter.enc]) | (with_reducible refine gTrue ?_; simp only [go_sem, List.length_map, Int.toNat_natCast, hxi, hwi, TLetter.enc]) | (with_reducible refine gFalse ?_; simp only [go_sem, List.length_map, Int.toNat_natCast, hxi, hwi, TLetter.enc])
            | (refine gSymS ?_; simp only [go_sem, List.length_map, Int.toNat_natCast, hxi, hwi, TLetter.enc]) | (refine gSym ?_; simp only [go_sem, List.length_map, Int.toNat_natCast, hxi, hwi, TLetter.enc])
            | (refine cSplit (fun h => ?_) (fun h => ?_) <;> simp only [go_sem, List.length_map, Int.toNat_natCast, hxi, hwi, TLetter.enc])
            | (with_reducible refine And.intro ?_ ?_; (focus (first | omega | (exact ⟨by omega, by omega⟩) | (simp; done) | (simp; omega)))))
          refine RoundE.intro (i + 1) [0, 3] (by omega) (by omega) ?_
          simp only [go_sem, er_step xs n i hil hne]
          simp [TLetter.enc]
        · have hie : i = n := by
            have := of_decide_eq_false h2
            omega
          subst hie
          try simp only [go_sem, hwi]
          repeat' (first
            | (refine CallS.intro (by first | assumption | (apply spec_l1In <;> first | assumption | omega) | (apply spec_l25Copy <;> first | assumption | omega)) ?_; simp only [go_sem, List.length_map, Int.toNat_natCast, hxi, hwi])
            | (refine CallK.intro (by first | assumption | (apply spec_l1In <;> first | assumption | omega) | (apply spec_l25Copy <;> first | assumption | omega)) ?_; simp only [go_sem, List.length_map, Int.toNat_natCast, hxi, hwi])
            | (with_reducible refine gTrueS ?_; simp only [go_sem, List.length_map, Int.toNat_natCast, hxi, hwi]) | (with_reducible refine gFalseS ?_; simp only [go_sem, List.length_map, Int.toNat_natCast, hxi, hwi]) | (with_reducible refine gTrue ?_; simp only [go_sem, List.length_map, Int.toNat_natCast, hxi, hwi]) | (with_reducible refine gFalse ?_; simp only [go_sem, List.length_map, Int.toNat_natCast, hxi, hwi])
            | (refine gSymS ?_; simp only [go_sem, List.length_map, Int.toNat_natCast, hxi, hwi]) | (refine gSym ?_; simp only [go_sem, List.length_map, Int.toNat_natCast, hxi, hwi])
            | (refine cSplit (fun h => ?_) (fun h => ?_) <;> simp only [go_sem, List.length_map, Int.toNat_natCast, hxi, hwi])
            | (with_reducible refine And.intro ?_ ?_; (focus (first | omega | (exact ⟨by omega, by omega⟩) | (simp; done) | (simp; omega)))))
          refine RoundE.intro (i + 1) [0, 1] (by omega) (by omega) ?_
          simp only [go_sem, er_skip xs i hil]
          simp
      · simp only [decide_eq_false_iff_not] at h1
        have hie : i = xs.length := by omega
        subst hie
        have hxi := map_at TLetter.enc xs n hlt
        rw [List.take_length]
        try simp only [go_sem, List.length_map, Int.toNat_natCast, hxi, TLetter.enc]
        repeat' (first
          | (refine CallS.intro (by first | assumption | (apply spec_l1In <;> first | assumption | omega) | (apply spec_l25Copy <;> first | assumption | omega)) ?_; simp only [go_sem, List.length_map, Int.toNat_natCast, hxi, TLetter.enc])
          | (refine CallK.intro (by first | assumption | (apply spec_l1In <;> first | assumption | omega) | (apply spec_l25Copy <;> first | assumption | omega)) ?_; simp only [go_sem, List.length_map, Int.toNat_natCast, hxi, TLetter.enc])
          | (with_reducible refine gTrueS ?_; simp only [go_sem, List.length_map, Int.toNat_natCast, hxi, TLetter.enc]) | (with_reducible refine gFalseS ?_; simp only [go_sem, List.length_map, Int.toNat_natCast, hxi, TLetter.enc]) | (with_reducible refine gTrue ?_; simp only [go_sem, List.length_map, Int.toNat_natCast, hxi, TLetter.enc]) | (with_reducible refine gFalse ?_; simp only [go_sem, List.length_map, Int.toNat_natCast, hxi, TLetter.enc])
          | (refine gSymS ?_; simp only [go_sem, List.length_map, Int.toNat_natCast, hxi, TLetter.enc]) | (refine gSym ?_; simp only [go_sem, List.length_map, Int.toNat_natCast, hxi, TLetter.enc])
          | (refine cSplit (fun h => ?_) (fun h => ?_) <;> simp only [go_sem, List.length_map, Int.toNat_natCast, hxi, TLetter.enc])
          | (with_reducible refine And.intro ?_ ?_; (focus (first | omega | (exact ⟨by omega, by omega⟩) | (simp; done) | (simp; omega)))))
        have hb2 : tkOk xs n = true := hb
        simp [tkLet, tkRest, hb2, hlt, List.eraseIdx_eq_take_drop_succ]

end Gv
