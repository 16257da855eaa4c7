/-
  Numbers out of texts: the two readings agree.
-/
import Derived.Test.YthfdnfhpihkihaaDoorParInt
namespace Gv
open Go Go.Proofs

def stepD (p : Nat × Nat) (b : UInt8) : Nat × Nat := if 48 ≤ b.toNat ∧ b.toNat ≤ 57 then (p.1 * 10 + (b.toNat - 48), p.2 + 1) else p
def scanD (l : List UInt8) : Nat × Nat := l.foldl stepD (0, 0)
def specPI (s : List UInt8) : Int × Bool :=
  let p := scanD (s.take 11)
  let m : Int := if s.head? = some 45 then -(p.1 : Int) else p.1
  if 9 < p.2 ∨ 10 < s.length ∨ Lib.itoa m ≠ s then (0, false) else (m, true)

theorem scanD_append (l : List UInt8) (b : UInt8) : scanD (l ++ [b]) = stepD (scanD l) b := by simp [scanD]
theorem scanD_lt : ∀ (l : List UInt8), (scanD l).1 < 10 ^ (scanD l).2 := by
  intro l
  suffices h : ∀ (l : List UInt8) (p : Nat × Nat), p.1 < 10 ^ p.2 → (l.foldl stepD p).1 < 10 ^ (l.foldl stepD p).2 from h l (0, 0) (by simp)
  intro l
  induction l with
  | nil => intro p hp; exact hp
  | cons b r ih =>
    intro p hp
    refine ih _ ?_
    unfold stepD
    split
    · rename_i h
      simp only
      rw [Nat.pow_succ]
      omega
    · exact hp
theorem digit_nat {d : Nat} (h : d < 10) : (UInt8.ofNat (48 + d)).toNat = 48 + d := by
  simp only [UInt8.toNat_ofNat']
  omega
theorem scanD_dec (u : Nat) : (scanD (Lib.decDigits u)).1 = u := by
  induction u using Nat.strongRecOn with
  | ind u ih =>
    rw [Lib.decDigits]
    split
    · rename_i h
      have := digit_nat h
      simp only [scanD, List.foldl_cons, List.foldl_nil, stepD, this]
      rw [if_pos (by omega)]
      simp
    · rename_i h
      rw [scanD_append]
      have := digit_nat (d := u % 10) (by omega)
      simp only [stepD, this]
      rw [if_pos (by omega)]
      simp only [ih (u / 10) (by omega)]
      omega
theorem scanD_cnt (j : Nat) : ∀ (u : Nat), u < 10 ^ (j + 1) → (scanD (Lib.decDigits u)).2 ≤ j + 1 := by
  induction j with
  | zero =>
    intro u hu
    rw [Lib.decDigits, dif_pos (by omega)]
    simp only [scanD, List.foldl_cons, List.foldl_nil, stepD]
    split <;> simp
  | succ j ih =>
    intro u hu
    rw [Lib.decDigits]
    split
    · simp only [scanD, List.foldl_cons, List.foldl_nil, stepD]
      split <;> simp
    · rw [scanD_append]
      have h1 := ih (u / 10) (by rw [Nat.pow_succ] at hu; omega)
      unfold stepD
      split
      · simp only; omega
      · omega
theorem dec_digits (u : Nat) : (Lib.decDigits u).all (fun b => decide (48 ≤ b.toNat ∧ b.toNat ≤ 57)) = true ∧ Lib.decDigits u ≠ [] := by
  induction u using Nat.strongRecOn with
  | ind u ih =>
    rw [Lib.decDigits]
    split
    · rename_i h
      have := digit_nat h
      simp only [List.all_cons, List.all_nil, this, Bool.and_true, decide_eq_true_eq]
      exact ⟨by omega, by simp⟩
    · rename_i h
      have := digit_nat (d := u % 10) (by omega)
      simp only [List.all_append, (ih (u / 10) (by omega)).1, List.all_cons, List.all_nil, this, Bool.and_true, Bool.true_and, decide_eq_true_eq]
      exact ⟨by omega, by simp⟩
theorem decFrom_append : ∀ (l : List UInt8) (acc : Nat) (b : UInt8), Lib.decFrom acc (l ++ [b]) = (Lib.decFrom acc l).bind fun n => (Lib.digitVal b).map fun d => n * 10 + d
  | [], acc, b => by simp only [List.nil_append, Lib.decFrom]; cases Lib.digitVal b <;> rfl
  | a :: l, acc, b => by
    simp only [List.cons_append, Lib.decFrom]
    cases Lib.digitVal a with
    | none => rfl
    | some d => exact decFrom_append l _ b
theorem decFrom_dec (u : Nat) : Lib.decFrom 0 (Lib.decDigits u) = some u := by
  induction u using Nat.strongRecOn with
  | ind u ih =>
    rw [Lib.decDigits]
    split
    · rename_i h
      have := digit_nat h
      simp only [Lib.decFrom, Lib.digitVal, this]
      rw [if_pos (by omega)]
      simp
    · rename_i h
      rw [decFrom_append, ih (u / 10) (by omega)]
      have := digit_nat (d := u % 10) (by omega)
      simp only [Lib.digitVal, this]
      rw [if_pos (by omega)]
      simp only [Option.bind_some, Option.map_some, Option.some.injEq]
      omega
theorem decNat_dec (u : Nat) : Lib.decNat (Lib.decDigits u) = some u := by
  unfold Lib.decNat
  have := (dec_digits u).2
  rw [if_neg (by simpa using this)]
  exact decFrom_dec u
theorem dec_head (u : Nat) : ∃ b r, Lib.decDigits u = b :: r ∧ 48 ≤ b.toNat ∧ b.toNat ≤ 57 := by
  obtain ⟨h1, h2⟩ := dec_digits u
  cases h : Lib.decDigits u with
  | nil => exact absurd h h2
  | cons b r =>
    rw [h] at h1
    simp only [List.all_cons, Bool.and_eq_true, decide_eq_true_eq] at h1
    exact ⟨b, r, rfl, h1.1⟩
theorem atoi_itoa (n : Int) : Lib.atoi (Lib.itoa n) = some n := by
  unfold Lib.itoa
  split
  · rename_i h
    simp only [Lib.atoi, beq_self_eq_true, if_true, decNat_dec, Option.map_some, Option.some.injEq]
    omega
  · rename_i h
    obtain ⟨b, r, e, h1, h2⟩ := dec_head n.toNat
    rw [e]
    have n1 : (b == 45) = false := by
      rw [beq_eq_false_iff_ne]; rintro rfl; simp at h1
    have n2 : (b == 43) = false := by
      rw [beq_eq_false_iff_ne]; rintro rfl; simp at h1
    simp only [Lib.atoi, n1, n2, Bool.false_eq_true, if_false, ← e, decNat_dec, Option.map_some, Option.some.injEq]
    omega
theorem itoa_head (n : Int) : ((Lib.itoa n).head? = some 45) = (n < 0) := by
  unfold Lib.itoa
  split
  · rename_i h; simp [h]
  · rename_i h
    obtain ⟨b, r, e, h1, h2⟩ := dec_head n.toNat
    rw [e]
    simp only [List.head?_cons, Option.some.injEq, eq_iff_iff]
    constructor
    · rintro rfl; simp at h1
    · intro h3; exact absurd h3 h
theorem scanD_itoa (n : Int) : scanD (Lib.itoa n) = scanD (Lib.decDigits n.natAbs) := by
  unfold Lib.itoa
  split
  · have : stepD (0, 0) 45 = (0, 0) := by simp [stepD]
    simp only [scanD, List.foldl_cons, this]
  · rename_i h
    have : n.toNat = n.natAbs := by omega
    rw [this]
theorem specPI_eq (s : List UInt8) : specPI s = parseI s := by
  by_cases hp : ∃ n : Int, s = Lib.itoa n ∧ -999999999 ≤ n ∧ n ≤ 999999999 ∧ s.length ≤ 10
  · obtain ⟨n, rfl, h1, h2, h3⟩ := hp
    have e1 : parseI (Lib.itoa n) = (n, true) := by
      unfold parseI
      rw [atoi_itoa]
      exact if_pos ⟨h3, rfl, h1, h2⟩
    rw [e1]
    unfold specPI
    simp only
    rw [List.take_of_length_le (by omega), scanD_itoa, scanD_dec]
    have hh := itoa_head n
    have e2 : (if (Lib.itoa n).head? = some 45 then -((n.natAbs : Nat) : Int) else (n.natAbs : Nat)) = n := by
      split
      · rename_i q; rw [hh] at q; omega
      · rename_i q; rw [hh] at q; omega
    rw [e2]
    have h4 := scanD_cnt 8 n.natAbs (by omega)
    rw [if_neg]
    rintro (h | h | h)
    · omega
    · omega
    · exact h rfl
  · have e1 : parseI s = (0, false) := by
      unfold parseI
      split
      · rename_i n hn
        rw [if_neg]
        rintro ⟨q1, q2, q3, q4⟩
        exact hp ⟨n, q2.symm, q3, q4, q1⟩
      · rfl
    rw [e1]
    unfold specPI
    simp only
    rw [if_pos]
    rcases Nat.lt_or_ge 9 (scanD (s.take 11)).2 with h | h
    · exact .inl h
    rcases Nat.lt_or_ge 10 s.length with h2 | h2
    · exact .inr (.inl h2)
    refine .inr (.inr fun he => hp ⟨_, he.symm, ?_, ?_, h2⟩)
    all_goals
      have h5 := scanD_lt (s.take 11)
      have h6 : 10 ^ (scanD (s.take 11)).2 ≤ 10 ^ 9 := Nat.pow_le_pow_right (by omega) h
      split <;> omega
end Gv
