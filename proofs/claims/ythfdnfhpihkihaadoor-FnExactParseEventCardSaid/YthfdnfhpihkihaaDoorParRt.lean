/-
  The two readings of lines agree: what is written is read back by both.
-/
import Derived.Test.YthfdnfhpihkihaaDoorParEv
namespace Gv
open Go Go.Proofs

theorem word_ok (k : Int) (h : 1 ≤ k ∧ k ≤ 12) : (∀ b ∈ evWord k, b ≠ 32) ∧ kindOf (evWord k) 12 = k ∧ evWord k ≠ [] := by
  have h7 : k = 1 ∨ k = 2 ∨ k = 3 ∨ k = 4 ∨ k = 5 ∨ k = 6 ∨ k = 7 ∨ k = 8 ∨ k = 9 ∨ k = 10 ∨ k = 11 ∨ k = 12 := by omega
  rcases h7 with rfl | rfl | rfl | rfl | rfl | rfl | rfl | rfl | rfl | rfl | rfl | rfl <;> decide
theorem itoa_no32 (n : Int) : ∀ b ∈ Lib.itoa n, b ≠ 32 := by
  intro b hb
  have h : ∀ u : Nat, ∀ b ∈ Lib.decDigits u, b ≠ 32 := by
    intro u b hb
    have := List.all_eq_true.1 (dec_digits u).1 b hb
    have := of_decide_eq_true this
    rintro rfl
    simp at this
  unfold Lib.itoa at hb
  split at hb
  · rcases List.mem_cons.1 hb with rfl | hb
    · decide
    · exact h _ b hb
  · exact h _ b hb
theorem dec_len (j : Nat) : ∀ (u : Nat), u < 10 ^ (j + 1) → (Lib.decDigits u).length ≤ j + 1 := by
  induction j with
  | zero =>
    intro u hu
    rw [Lib.decDigits, dif_pos (by omega)]
    simp
  | succ j ih =>
    intro u hu
    rw [Lib.decDigits]
    split
    · simp
    · have h1 := ih (u / 10) (by rw [Nat.pow_succ] at hu; omega)
      simp only [List.length_append, List.length_cons, List.length_nil]
      omega
theorem parseI_itoa (n : Int) (h : 0 ≤ n ∧ n ≤ 999999) : parseI (Lib.itoa n) = (n, true) := by
  have hl : (Lib.itoa n).length ≤ 10 := by
    unfold Lib.itoa
    rw [if_neg (by omega)]
    have := dec_len 5 n.toNat (by omega)
    omega
  unfold parseI
  rw [atoi_itoa]
  exact if_pos ⟨hl, rfl, by omega, by omega⟩
theorem numI_itoa (n : Int) (h : 0 ≤ n ∧ n ≤ 999999) : numI (Lib.itoa n) = n := by unfold numI; rw [parseI_itoa n h]; rfl
theorem cutW_itoa (n : Int) : cutW (Lib.itoa n) = (Lib.itoa n, []) := cutW_none _ (itoa_no32 n)
theorem cutW_itoa_at (n : Int) (r : List UInt8) : cutW (Lib.itoa n ++ 32 :: r) = (Lib.itoa n, r) := cutW_at _ _ (itoa_no32 n)

theorem roundtrip (e : TEvent) (h : isEvent e = true) : specEv (evFmt e) = e ∧ impEv (evFmt e) = some e ∧ evFmt e ≠ [] := by
  obtain ⟨k, i, n, t⟩ := e
  have hp := h
  simp only [isEvent, inB, Bool.and_eq_true, decide_eq_true_eq, Bool.or_eq_true] at hp
  obtain ⟨⟨⟨⟨⟨p1, p2⟩, p3⟩, p4⟩, p5⟩, p6⟩ := hp
  have h7 := evWord_ne p1
  obtain ⟨w1, w2, w3⟩ := word_ok k (by omega)
  have hc : ∀ X, cutW (evWord k ++ 32 :: X) = (evWord k, X) := fun X => cutW_at _ _ w1
  have hne : ∀ X : List UInt8, evWord k ++ X ≠ [] := fun X q => w3 (List.append_eq_nil_iff.1 q).1
  have hg : (k = 1 ∨ k = 11) ∨ (k = 2 ∨ k = 7) ∨ k = 3 ∨ (k = 4 ∨ k = 5 ∨ k = 6) ∨ (k = 8 ∨ k = 9 ∨ k = 10 ∨ k = 12) := by omega
  rcases hg with hg | hg | hg | hg | hg
  · have u1 : usesI k = false := by rcases hg with rfl | rfl <;> rfl
    have u2 : usesN k = false := by rcases hg with rfl | rfl <;> rfl
    have u3 : usesT k = true := by rcases hg with rfl | rfl <;> rfl
    have hi : i = 0 := by simpa [u1] using p4
    have hn : n = 0 := by simpa [u2] using p5
    subst hi; subst hn
    have hf : evFmt ⟨k, 0, 0, t⟩ = evWord k ++ 32 :: t := by simp [evFmt, h, u1, u2, u3]
    rw [hf]
    refine ⟨?_, ?_, hne _⟩
    · simp only [specEv, hc, w2]
      rw [if_pos hg]
    · simp [impEv, hc, w2, impStep, u1, u2, u3]
  · have u1 : usesI k = true := by rcases hg with rfl | rfl <;> rfl
    have u2 : usesN k = false := by rcases hg with rfl | rfl <;> rfl
    have u3 : usesT k = true := by rcases hg with rfl | rfl <;> rfl
    have hn : n = 0 := by simpa [u2] using p5
    subst hn
    have hf : evFmt ⟨k, i, 0, t⟩ = evWord k ++ 32 :: (Lib.itoa i ++ 32 :: t) := by simp [evFmt, h, u1, u2, u3]
    rw [hf]
    refine ⟨?_, ?_, hne _⟩
    · simp only [specEv, hc, w2, cutW_itoa_at, numI_itoa i p2]
      rw [if_neg (by omega), if_pos hg]
    · simp [impEv, hc, w2, impStep, u1, u2, u3, cutW_itoa_at, parseI_itoa i p2]
  · have u1 : usesI k = true := by rcases hg with rfl; rfl
    have u2 : usesN k = false := by rcases hg with rfl; rfl
    have u3 : usesT k = false := by rcases hg with rfl; rfl
    have hn : n = 0 := by simpa [u2] using p5
    have ht : t = [] := by subst hg; simpa [evText] using p6
    subst hn; subst ht
    have hf : evFmt ⟨k, i, 0, []⟩ = evWord k ++ 32 :: Lib.itoa i := by simp [evFmt, h, u1, u2, u3]
    rw [hf]
    refine ⟨?_, ?_, hne _⟩
    · simp only [specEv, hc, w2, numI_itoa i p2]
      rw [if_neg (by omega), if_neg (by omega), if_pos hg]
    · simp [impEv, hc, w2, impStep, u1, u2, u3, cutW_itoa, parseI_itoa i p2]
  · have u1 : usesI k = true := by rcases hg with rfl | rfl | rfl <;> rfl
    have u2 : usesN k = true := by rcases hg with rfl | rfl | rfl <;> rfl
    have u3 : usesT k = false := by rcases hg with rfl | rfl | rfl <;> rfl
    have ht : t = [] := by rcases hg with rfl | rfl | rfl <;> simpa [evText] using p6
    subst ht
    have hf : evFmt ⟨k, i, n, []⟩ = evWord k ++ 32 :: (Lib.itoa i ++ 32 :: Lib.itoa n) := by simp [evFmt, h, u1, u2, u3]
    rw [hf]
    refine ⟨?_, ?_, hne _⟩
    · simp only [specEv, hc, w2, cutW_itoa_at, numI_itoa i p2, numI_itoa n p3]
      rw [if_neg (by omega), if_neg (by omega), if_neg (by omega), if_pos hg]
    · simp [impEv, hc, w2, impStep, u1, u2, u3, cutW_itoa_at, cutW_itoa, parseI_itoa i p2, parseI_itoa n p3]
  · have u1 : usesI k = false := by rcases hg with rfl | rfl | rfl | rfl <;> rfl
    have u2 : usesN k = true := by rcases hg with rfl | rfl | rfl | rfl <;> rfl
    have u3 : usesT k = false := by rcases hg with rfl | rfl | rfl | rfl <;> rfl
    have hi : i = 0 := by simpa [u1] using p4
    have ht : t = [] := by rcases hg with rfl | rfl | rfl | rfl <;> simpa [evText] using p6
    subst hi; subst ht
    have hf : evFmt ⟨k, 0, n, []⟩ = evWord k ++ 32 :: Lib.itoa n := by simp [evFmt, h, u1, u2, u3]
    rw [hf]
    refine ⟨?_, ?_, hne _⟩
    · simp only [specEv, hc, w2, numI_itoa n p3]
      rw [if_neg (by omega), if_neg (by omega), if_neg (by omega), if_neg (by omega)]
    · simp [impEv, hc, w2, impStep, u1, u2, u3, cutW_itoa, parseI_itoa n p3]

theorem agree (s : List UInt8) : specPE s = impPE s := by
  by_cases hx : ∃ e, isEvent e = true ∧ evFmt e = s
  · obtain ⟨e, h1, rfl⟩ := hx
    obtain ⟨r1, r2, r3⟩ := roundtrip e h1
    have a1 : specPE (evFmt e) = (e, true) := by
      unfold specPE
      rw [r1]
      exact if_pos ⟨rfl, r3⟩
    have a2 : impPE (evFmt e) = (e, true) := by
      unfold impPE
      rw [r2]
      exact if_pos ⟨h1, rfl⟩
    rw [a1, a2]
  · have a1 : specPE s = (⟨0, 0, 0, []⟩, false) := by
      unfold specPE
      rw [if_neg]
      rintro ⟨h1, h2⟩
      refine hx ⟨specEv s, ?_, h1⟩
      cases q : isEvent (specEv s) with
      | true => rfl
      | false =>
        have : evFmt (specEv s) = [] := by simp [evFmt, q]
        rw [this] at h1
        exact absurd h1.symm h2
    have a2 : impPE s = (⟨0, 0, 0, []⟩, false) := by
      unfold impPE
      split
      · rename_i e he
        rw [if_neg]
        rintro ⟨h1, h2⟩
        exact hx ⟨e, h1, h2⟩
      · rfl
    rw [a1, a2]
end Gv
