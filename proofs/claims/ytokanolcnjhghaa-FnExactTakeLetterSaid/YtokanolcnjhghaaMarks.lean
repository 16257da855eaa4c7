/-
  The laws of the helper functions of the statements: marking, and what marks are held. Printed by a program of ours.
-/
import Derived.Test.YtokanolcnjhghaaLaws
namespace Gv
open Go Go.Proofs
theorem wrap_one (k : Int) : IntKind.i64.wrap (k + 1) = nxs 1 k := rfl

set_option maxRecDepth 100000 in
theorem laws_markText (k : Int) : PureCall Try.prog 19 [.one (.int .i64 k)] [.one (.str (mtext k))] := by
  refine pure_ev Try.func19 rfl Try.call19 Try.checked.mixed [.d (.int .i64 k), .junk, .junk, .junk, .junk, .junk, .junk, .junk, .junk, .junk, .junk, .junk, .junk, .junk, .junk, .junk, .junk, .junk, .junk, .junk] rfl [.tmp 2] rfl ?_
  intro ok
  have hk := i64_of ok.1
  simp only [go_sem]
  refine cSplit (fun h => ?_) (fun h => ?_)
  · simp only [decide_eq_true_eq] at h
    simp only [go_sem]
    simp [mtext, h]
  · simp only [decide_eq_false_iff_not] at h
    simp only [go_sem]
    refine LoopK.intro (fun p : Int × List UInt8 => ⟨[.d (.int .i64 p.1), .junk, .d (.str []), .d (.str p.2), .junk, .junk, .junk, .junk, .junk, .junk, .junk, .junk, .junk, .junk, .junk, .junk, .junk, .junk, .junk, .junk], []⟩)
      (fun p => p.1.toNat) (fun p => 0 ≤ p.1 ∧ p.1 ≤ k ∧ dig k [] = dig p.1 p.2 ∧ p.1 * 2 ^ p.2.length ≤ k ∧ p.2.length ≤ 101) (k, []) [] ⟨by omega, by omega, rfl, by simp, by simp⟩ ?_ ?_
    · simp only [go_sem]
    · rintro ⟨j, acc⟩ ⟨h1, h2, h3, h4, h5⟩
      simp only at h1 h2 h3 h4 h5
      simp only [go_sem]
      refine cSplit (fun h6 => ?_) (fun h6 => ?_)
      · simp only [decide_eq_true_eq] at h6
        have hd := Int.tdiv_eq_ediv_of_nonneg (a := j) (b := 10) (by omega)
        have hl : acc.length ≤ 100 := mtext_len (by omega) h1 h4 (.inl h6)
        have hw : IntKind.i64.wrap (j.tdiv 10) = j.tdiv 10 := by rw [w64] <;> omega
        simp only [go_sem, hw]
        have h3 := h3.trans (show dig j acc = dig (j.tdiv 10) (UInt8.ofNat (IntKind.u8.wrap (IntKind.i64.wrap (48 + j.tmod 10))).toNat :: acc) by rw [dig, dif_pos h6])
        refine ⟨by simp only [maxLen]; simp; omega, RoundE.intro (j.tdiv 10, UInt8.ofNat (IntKind.u8.wrap (IntKind.i64.wrap (48 + j.tmod 10))).toNat :: acc) [] ⟨by simp only; omega, by simp only; omega, h3, ?_, by simp; omega⟩ (by simp only; omega) ?_⟩
        · simp only [List.length_cons]
          have h7 : j.tdiv 10 * 2 ≤ j := by omega
          have h8 : (0 : Int) ≤ 2 ^ acc.length := Int.pow_nonneg (by omega)
          have h9 := Int.mul_le_mul_of_nonneg_right h7 h8
          rw [Int.pow_succ, Int.mul_comm (2 ^ acc.length) 2, ← Int.mul_assoc]
          omega
        · simp only [go_sem]
      · simp only [decide_eq_false_iff_not] at h6
        have : j = 0 := by omega
        subst this
        have h3 := h3.trans (show dig 0 acc = acc by rw [dig, dif_neg (by omega)])
        simp only [go_sem]
        refine ⟨by simp only [maxLen]; simp; omega, ?_⟩
        simp [mtext, h, h3]
def TLetter.mk' (k : Int) : TLetter := ⟨k, mtext (nx k)⟩
set_option maxRecDepth 100000 in
theorem laws_markLetterS (xs : List TLetter) (k : Int) : MutCall Try.prog 10 [.one (.sl 2 (xs.map TLetter.enc)), .one (.int .i64 k)] [.one (.sl 2 ((mkL (TLetter.mk' : Int → TLetter) 2 k xs xs.length).map TLetter.enc)), .one (.int .i64 k)] [.one (.int .i64 (nxs (2 * xs.length) k))] := by
  refine mut_ev Try.func10 rfl Try.call10 Try.checked.mixed [.sl 0 0 (xs.map TLetter.enc).length, .d (.int .i64 k), .junk, .junk, .junk, .junk, .junk, .junk, .junk, .junk, .junk, .junk, .junk, .junk, .junk, .junk, .junk, .junk, .junk, .junk, .junk, .junk, .junk, .junk, .junk, .junk, .junk, .junk] [.arr 2 (xs.map TLetter.enc) true] [.sl 0 0 (xs.map TLetter.enc).length, .d (.int .i64 k)] rfl rfl rfl [.tmp 4] rfl ?_
  intro ok
  have hm := len_of ok
  simp only [go_sem, List.length_map]
  refine LoopK.intro (fun i : Nat => ⟨[.sl 0 0 xs.length, .d (.int .i64 (nxs (2 * i) k)), .junk, .junk, .d (.int .i64 0), .d (.int .i64 i), .junk, .junk, .junk, .junk, .junk, .junk, .junk, .junk, .junk, .junk, .junk, .junk, .junk, .junk, .junk, .junk, .junk, .junk, .junk, .junk, .junk, .junk], [.arr 2 ((mkL (TLetter.mk' : Int → TLetter) 2 k xs i).map TLetter.enc) true]⟩)
      (fun i => xs.length - i) (fun i => i ≤ xs.length) 0 [0] (by omega) ?_ ?_
  · simp only [go_sem]; simp [mkL_zero, nxs]
  · intro i hi
    simp only [go_sem]
    refine cSplit (fun h1 => ?_) (fun h1 => ?_)
    · simp only [decide_eq_true_eq] at h1
      have hlt : i < xs.length := by omega
      have hg := mkL_get (TLetter.mk' : Int → TLetter) 2 TLetter.enc k xs i hlt
      have hs := mkL_set (TLetter.mk' : Int → TLetter) 2 TLetter.enc k xs i hlt
      have hl := mkL_len (TLetter.mk' : Int → TLetter) 2 k xs i (by omega)
      have hw := inc hlt hm
      have hn : nxs (2 * (i + 1)) k = nx (nx (nxs (2 * i) k)) := rfl
      have hk : ∀ (l : List (List D)) (a : List D), l.length = xs.length → (l.set i a)[i]? = some a := fun l a hl => by rw [List.getElem?_set_self (by omega)]
      simp only [TLetter.enc, TLetter.mk'] at hs hg
      simp only [nx] at hn hs
      generalize hL : (mkL (TLetter.mk' : Int → TLetter) 2 k xs i).map TLetter.enc = rows at *
      have hrl : rows.length = xs.length := by rw [← hL, List.length_map, hl]
      simp only [go_sem, Int.toNat_natCast, hg]
      repeat' (first
        | (refine CallS.intro (laws_markText _) ?_; simp only [go_sem, Int.toNat_natCast, hw, hk _ _ hrl, List.length_set, hrl, List.set_set])
        | (with_reducible refine And.intro (by omega) ?_)
        | (with_reducible refine And.intro (by exact ⟨by omega, by omega⟩) ?_)
        | (with_reducible refine And.intro (by (try simp only [go_sem, hrl]) <;> first | omega | exact ⟨by omega, by simp⟩ | (simp; done)) ?_; try simp only [go_sem, Int.toNat_natCast, hg, hw, hk _ _ hrl, List.length_set, hrl, List.set_set])
        | (refine RoundE.intro (i + 1) [0] (by omega) (by omega) ?_))
      try simp only [go_sem, hn, hs]
      simp [hn]
      try exact hs.symm
    · simp only [go_sem]
      simp only [decide_eq_false_iff_not] at h1
      have : i = xs.length := by omega
      subst this
      have hl := mkL_len (TLetter.mk' : Int → TLetter) 2 k xs xs.length (by omega)
      simp [outOA, hl]
      rw [List.take_of_length_le (by simp [hl])]
theorem TLetter.eq_mk {k : Int} {x : TLetter} (e0 : x.number = k) (e1 : x.payload = mtext (nx k)) : x = TLetter.mk' k := by
  cases x; simp only at *; subst_vars; rfl
set_option maxRecDepth 100000 in
theorem laws_heldLetterS (xs : List TLetter) (k : Int) : PureCall Try.prog 11 [.one (.sl 2 (xs.map TLetter.enc)), .one (.int .i64 k)] [.one (.int .i64 (heldL (TLetter.mk' : Int → TLetter) 2 k xs))] := by
  refine pure_ev Try.func11 rfl Try.call11 Try.checked.mixed [.d (.sl 2 (xs.map TLetter.enc)), .d (.int .i64 k), .junk, .junk, .junk, .junk, .junk, .junk, .junk, .junk, .junk, .junk, .junk, .junk, .junk, .junk, .junk, .junk, .junk, .junk, .junk, .junk, .junk, .junk, .junk, .junk, .junk, .junk, .junk, .junk, .junk, .junk] rfl [.tmp 4] rfl ?_
  intro ok
  have hm := len_of ok
  clear ok
  simp only [go_sem]
  refine LoopK.intro (fun i : Nat => ⟨[.d (.sl 2 (xs.map TLetter.enc)), .d (.int .i64 (nxs (2 * i) k)), .junk, .junk, .d (.int .i64 0), .d (.int .i64 i), .junk, .junk, .junk, .junk, .junk, .junk, .junk, .junk, .junk, .junk, .junk, .junk, .junk, .junk, .junk, .junk, .junk, .junk, .junk, .junk, .junk, .junk, .junk, .junk, .junk, .junk], []⟩)
      (fun i => xs.length - i) (fun i => i ≤ xs.length ∧ heldL (TLetter.mk' : Int → TLetter) 2 k xs = heldL (TLetter.mk' : Int → TLetter) 2 (nxs (2 * i) k) (xs.drop i)) 0 [] ⟨by omega, by simp [nxs]⟩ ?_ ?_
  · simp only [go_sem]; simp [nxs]
  · rintro i ⟨hi, he⟩
    simp only [go_sem, List.length_map]
    refine cSplit (fun h1 => ?_) (fun h1 => ?_)
    · simp only [decide_eq_true_eq] at h1
      have hlt : i < xs.length := by omega
      have hxi := map_at TLetter.enc xs i hlt
      have hw := inc hlt hm
      have hn : nxs (2 * (i + 1)) k = nx (nx (nxs (2 * i) k)) := rfl
      have hn2 : nxs 2 (nxs (2 * i) k) = nxs (2 * (i + 1)) k := rfl
      have hb2 : ((i : Nat) : Int) < (xs.length : Int) := h1
      rw [heldL_step (TLetter.mk' : Int → TLetter) 2 _ xs i hlt, hn2] at he
      generalize hz : nxs (2 * i) k = z at *
      generalize hx : xs[i] = x at *
      simp only [TLetter.enc] at hxi
      try simp only [go_sem, List.length_map, Int.toNat_natCast, hxi]
      try (with_reducible refine And.intro ?_ ?_; (focus (first | omega | (constructor <;> omega))); try simp only [go_sem, List.length_map, Int.toNat_natCast, hxi, hw])
      refine cSplit (fun h => ?_) (fun h => ?_)
      · rw [if_neg (fun e => (of_decide_eq_true h) (by rw [e]; rfl))] at he; rw [he]; simp only [go_sem]
        try simp [outOA]
      have e0 := Decidable.of_not_not (of_decide_eq_false h); clear h
      try simp only [go_sem]
      try (with_reducible refine And.intro ?_ ?_; (focus (first | omega | (constructor <;> omega))); try simp only [go_sem, List.length_map, Int.toNat_natCast, hxi, hw])
      try simp only [go_sem, List.length_map, Int.toNat_natCast, hxi, hw]
      repeat' (first
        | (refine CallS.intro (by first | assumption | (apply laws_markText <;> first | assumption | omega)) ?_; simp only [go_sem, List.length_map, Int.toNat_natCast, hxi, hw])
        | (refine CallK.intro (by first | assumption | (apply laws_markText <;> first | assumption | omega)) ?_; simp only [go_sem])
        | (with_reducible refine gTrueS ?_; simp only [go_sem, List.length_map, Int.toNat_natCast, hxi, hw]) | (with_reducible refine gFalseS ?_; simp only [go_sem, List.length_map, Int.toNat_natCast, hxi, hw]) | (with_reducible refine gTrue ?_; simp only [go_sem, List.length_map, Int.toNat_natCast, hxi, hw]) | (with_reducible refine gFalse ?_; simp only [go_sem, List.length_map, Int.toNat_natCast, hxi, hw])
        | (refine gSymS ?_; simp only [go_sem, List.length_map, Int.toNat_natCast, hxi, hw]) | (refine gSym ?_; simp only [go_sem, List.length_map, Int.toNat_natCast, hxi, hw])
        | (refine drawE_intro [[.post, .un, .post, .post, .post, .un, .un, .post], [.un, .post, .post, .post, .post, .un, .un, .post], [.pre, .pre, .post, .post, .post, .un, .un, .post], [.pre, .pre, .pre, .post, .post, .un, .un, .post], [.pre, .pre, .pre, .pre, .post, .un, .un, .post], [.un, .un, .un, .un, .un, .post, .post, .post], [.un, .un, .un, .un, .un, .pre, .post, .post], [.pre, .pre, .pre, .pre, .pre, .pre, .pre, .post]] (by kernel_rfl) (by rfl) ?_; simp only [go_sem, List.length_map, Int.toNat_natCast, hxi])
        | (with_reducible refine And.intro ?_ ?_; (focus (first | omega | (exact ⟨by omega, by omega⟩) | (simp; done) | (simp; omega)))))
      refine cSplit (fun h => ?_) (fun h => ?_)
      · rw [if_neg (fun e => (of_decide_eq_true h) (by rw [e]; rfl))] at he; rw [he]; simp only [go_sem]
        try simp [outOA]
      have e1 := Decidable.of_not_not (of_decide_eq_false h); clear h
      try simp only [go_sem, hw]
      rw [if_pos (TLetter.eq_mk e0 e1)] at he
      refine RoundE.intro (i + 1) [] ⟨by omega, he⟩ (by omega) ?_
      simp only [nx] at hn
      simp only [go_sem, hn]; try simp
    · simp only [go_sem]
      simp only [decide_eq_false_iff_not] at h1
      rw [List.drop_eq_nil_of_le (by omega), heldL] at he
      simp [he]
end Gv
