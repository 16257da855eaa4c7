/-
  Events as lines.
-/
import Derived.Test.YthfdnfhpihkihaaDoorEvent
import Derived.Test.YthfdnfhpihkihaaDoorItoa
namespace Gv
open Go Go.Proofs

def evFmt (e : TEvent) : List UInt8 := if isEvent e = true then evWord e.kind ++ (if usesI e.kind = true then 32 :: Lib.itoa e.id else []) ++ (if usesN e.kind = true then 32 :: Lib.itoa e.n else []) ++ (if usesT e.kind = true then 32 :: e.text else []) else []

theorem evWord_len (k : Int) : (evWord k).length ≤ 8 := by
  unfold evWord
  split
  · rename_i h
    simp only [inB, Bool.and_eq_true, decide_eq_true_eq] at h
    have h7 : k = 1 ∨ k = 2 ∨ k = 3 ∨ k = 4 ∨ k = 5 ∨ k = 6 ∨ k = 7 ∨ k = 8 ∨ k = 9 ∨ k = 10 ∨ k = 11 ∨ k = 12 := by omega
    rcases h7 with rfl | rfl | rfl | rfl | rfl | rfl | rfl | rfl | rfl | rfl | rfl | rfl <;> simp [evWords]
  · simp
theorem isEvent_parts {e : TEvent} (h : isEvent e = true) : evWord e.kind ≠ [] ∧ (0 ≤ e.id ∧ e.id ≤ 999999) ∧ (0 ≤ e.n ∧ e.n ≤ 999999) := by
  simp only [isEvent, inB, Bool.and_eq_true, decide_eq_true_eq] at h
  exact ⟨h.1.1.1.1.1, h.1.1.1.1.2, h.1.1.1.2⟩
theorem itoa_len6 {n : Int} (h : 0 ≤ n ∧ n ≤ 999999) : (Lib.itoa n).length ≤ 21 := Lib.itoa_length_le n (by omega) (by omega)
theorem len_sum {a b : Nat} (h : a + b ≤ 2000000) : a + b ≤ maxLen := by simp only [maxLen]; omega

set_option maxHeartbeats 4000000 in
set_option maxRecDepth 100000 in
theorem impl_FormatEvent (k i n : Int) (s : List UInt8) (hs : s.length ≤ 1048576) : PureCall Tryd.prog 8 [.agg [.int .i64 k, .int .i64 i, .int .i64 n, .str s]] [.one (.str (evFmt ⟨k, i, n, s⟩))] := by
  refine pure_ev Tryd.func8 rfl Tryd.call8 Tryd.checked.mixed [.agg [.d (.int .i64 k), .d (.int .i64 i), .d (.int .i64 n), .d (.str s)], .junk, .junk, .junk, .junk, .junk, .junk, .junk, .junk, .junk, .junk, .junk, .junk, .junk, .junk, .junk, .junk, .junk, .junk, .junk, .junk, .junk, .junk, .junk, .junk, .junk, .junk, .junk, .junk, .junk, .junk, .junk, .junk, .junk, .junk, .junk, .junk, .junk, .junk, .junk, .junk] rfl [.tmp 2] rfl ?_
  intro ok
  simp only [go_sem]
  refine CallS.intro (impl_IsEvent k i n s hs) ?_
  simp only [go_sem]
  refine cSplit (fun h => ?_) (fun h => ?_)
  · have h1 : isEvent ⟨k, i, n, s⟩ = false := by simpa using h
    simp only [go_sem]
    simp [evFmt, h1]
  · have h1 : isEvent ⟨k, i, n, s⟩ = true := by simpa using h
    obtain ⟨h2, h3, h4⟩ := isEvent_parts h1
    simp only at h2 h3 h4
    have hM : 2000000 ≤ maxLen := by simp only [maxLen]; omega
    have hw := evWord_len k
    have hi := itoa_len6 h3
    have hn := itoa_len6 h4
    try simp only [go_sem]
    repeat' (first
      | (refine CallS.intro (by first | assumption | (apply impl_IsEvent <;> first | assumption | omega) | (apply impl_uses <;> first | assumption | omega) | (apply impl_EventWord <;> first | assumption | omega) | (apply impl_FormatInt <;> first | assumption | omega)) ?_; simp only [go_sem])
      | (refine CallK.intro (by first | assumption | (apply impl_IsEvent <;> first | assumption | omega) | (apply impl_uses <;> first | assumption | omega) | (apply impl_EventWord <;> first | assumption | omega) | (apply impl_FormatInt <;> first | assumption | omega)) ?_; simp only [go_sem])
      | (with_reducible refine gTrueS ?_; simp only [go_sem]) | (with_reducible refine gFalseS ?_; simp only [go_sem]) | (with_reducible refine gTrue ?_; simp only [go_sem]) | (with_reducible refine gFalse ?_; simp only [go_sem])
      | (refine gSymS ?_; simp only [go_sem]) | (refine gSym ?_; simp only [go_sem])
      | (refine cSplit (fun h => ?_) (fun h => ?_) <;> simp only [go_sem])
      | (with_reducible refine And.intro ?_ ?_; (focus (first | omega | (exact ⟨by omega, by omega⟩) | (simp; done) | (simp; omega)))))
    all_goals (clear hM hw hi hn ok; simp_all [evFmt])

set_option maxHeartbeats 4000000 in
set_option maxRecDepth 100000 in
theorem spec_FormatEvent (k i n : Int) (s : List UInt8) (hs : s.length ≤ 1048576) : PureCall Tryd.prog 6 [.agg [.int .i64 k, .int .i64 i, .int .i64 n, .str s]] [.one (.str (evFmt ⟨k, i, n, s⟩))] := by
  refine pure_ev Tryd.func6 rfl Tryd.call6 Tryd.checked.mixed [.agg [.d (.int .i64 k), .d (.int .i64 i), .d (.int .i64 n), .d (.str s)], .junk, .junk, .junk, .junk, .junk, .junk, .junk, .junk, .junk, .junk, .junk, .junk, .junk, .junk, .junk, .junk, .junk, .junk, .junk, .junk, .junk, .junk, .junk, .junk, .junk, .junk, .junk, .junk, .junk, .junk, .junk, .junk, .junk, .junk, .junk, .junk, .junk, .junk, .junk, .junk, .junk, .junk, .junk, .junk, .junk, .junk, .junk, .junk, .junk, .junk, .junk, .junk, .junk, .junk, .junk, .junk, .junk, .junk, .junk, .junk, .junk] rfl [.tmp 2] rfl ?_
  intro ok
  simp only [go_sem]
  refine CallS.intro (spec_IsEvent k i n s hs) ?_
  simp only [go_sem]
  refine cSplit (fun h => ?_) (fun h => ?_)
  · have h1 : isEvent ⟨k, i, n, s⟩ = false := by simpa using h
    simp only [go_sem]
    simp [evFmt, h1]
  · have h1 : isEvent ⟨k, i, n, s⟩ = true := by simpa using h
    obtain ⟨h2, h3, h4⟩ := isEvent_parts h1
    simp only at h2 h3 h4
    have hM : 2000000 ≤ maxLen := by simp only [maxLen]; omega
    have hw := evWord_len k
    have hi := itoa_len6 h3
    have hn := itoa_len6 h4
    try simp only [go_sem]
    repeat' (first
      | (refine CallS.intro (by first | assumption | (apply spec_IsEvent <;> first | assumption | omega) | (apply spec_EventWord <;> first | assumption | omega) | (apply spec_FormatInt <;> first | assumption | omega)) ?_; simp only [go_sem])
      | (refine CallK.intro (by first | assumption | (apply spec_IsEvent <;> first | assumption | omega) | (apply spec_EventWord <;> first | assumption | omega) | (apply spec_FormatInt <;> first | assumption | omega)) ?_; simp only [go_sem])
      | (with_reducible refine gTrueS ?_; simp only [go_sem]) | (with_reducible refine gFalseS ?_; simp only [go_sem]) | (with_reducible refine gTrue ?_; simp only [go_sem]) | (with_reducible refine gFalse ?_; simp only [go_sem])
      | (refine gSymS ?_; simp only [go_sem]) | (refine gSym ?_; simp only [go_sem])
      | (refine drawE_intro [[.post, .post, .un, .un, .un, .post, .post, .un, .un, .post, .post], [.pre, .post, .un, .un, .un, .post, .post, .un, .un, .post, .post], [.un, .un, .post, .post, .post, .post, .post, .un, .un, .post, .post], [.un, .un, .pre, .post, .post, .post, .post, .un, .un, .post, .post], [.un, .un, .pre, .pre, .post, .post, .post, .un, .un, .post, .post], [.pre, .pre, .pre, .pre, .pre, .post, .post, .un, .un, .post, .post], [.pre, .pre, .pre, .pre, .pre, .pre, .post, .un, .un, .post, .post], [.un, .un, .un, .un, .un, .un, .un, .post, .post, .post, .post], [.un, .un, .un, .un, .un, .un, .un, .pre, .post, .post, .post], [.pre, .pre, .pre, .pre, .pre, .pre, .pre, .pre, .pre, .post, .post], [.pre, .pre, .pre, .pre, .pre, .pre, .pre, .pre, .pre, .pre, .post]] (by kernel_rfl) (by rfl) ?_; simp only [go_sem])
      | (refine drawE_intro [[.post, .post, .un, .un, .un, .post, .post, .un, .un, .un, .post, .post], [.pre, .post, .un, .un, .un, .post, .post, .un, .un, .un, .post, .post], [.un, .un, .post, .post, .post, .post, .post, .un, .un, .post, .post, .post], [.un, .un, .pre, .post, .post, .post, .post, .un, .un, .post, .post, .post], [.un, .un, .pre, .pre, .post, .post, .post, .un, .un, .post, .post, .post], [.pre, .pre, .pre, .pre, .pre, .post, .post, .un, .un, .un, .post, .post], [.pre, .pre, .pre, .pre, .pre, .pre, .post, .un, .un, .un, .post, .post], [.un, .un, .un, .un, .un, .un, .un, .post, .post, .post, .post, .post], [.un, .un, .un, .un, .un, .un, .un, .pre, .post, .post, .post, .post], [.un, .un, .pre, .pre, .pre, .un, .un, .pre, .pre, .post, .post, .post], [.pre, .pre, .pre, .pre, .pre, .pre, .pre, .pre, .pre, .pre, .post, .post], [.pre, .pre, .pre, .pre, .pre, .pre, .pre, .pre, .pre, .pre, .pre, .post]] (by kernel_rfl) (by rfl) ?_; simp only [go_sem])
      | (refine cSplit (fun h => ?_) (fun h => ?_) <;> simp only [go_sem])
      | (with_reducible refine And.intro ?_ ?_; (focus (first | omega | (exact ⟨by omega, by omega⟩) | (simp; done) | (simp; omega)))))
    all_goals (clear hM hw hi hn ok; simp_all [evFmt, usesI, usesN, usesT])
end Gv
