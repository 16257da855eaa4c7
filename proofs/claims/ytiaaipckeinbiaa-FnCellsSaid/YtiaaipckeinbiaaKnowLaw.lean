/-
  The known ranges of a buffer's cells are the buffer's ranges.
-/
import Derived.Test.YtiaaipckeinbiaaBufFn
import Derived.Test.YtiaaipckeinbiaaPartLaw
import Derived.Test.YtiaaipckeinbiaaKnown
namespace Gv
open Go Go.Proofs

def clip : List TChunk → Int → List TRange
  | [], _ => []
  | c :: cs, i => if c.offset < i then ⟨c.offset, if c.offset + (c.data.length : Int) < i then c.offset + (c.data.length : Int) else i⟩ :: clip cs i else []
theorem arS_fold (xs : List TRange) (r : TRange) : ∀ i, i ≤ xs.length → arS xs r i = (xs.take i).foldl arStep ([], false, r)
  | 0, _ => by simp [arS]
  | i + 1, h => by
    rw [arS_step xs r i (by omega), arS_fold xs r i (by omega), List.take_add_one, List.getElem?_eq_getElem (by omega), Option.toList_some, List.foldl_append]; rfl
theorem fold_low (r : TRange) : ∀ (xs out : List TRange), (∀ x ∈ xs, x.high < r.low) → xs.foldl arStep (out, false, r) = (out ++ xs, false, r)
  | [], out, _ => by simp
  | x :: xs, out, h => by
    have h1 := h x (by simp)
    rw [List.foldl_cons, show arStep (out, false, r) x = (out ++ [x], false, r) from by simp [arStep, h1], fold_low r xs _ fun y hy => h y (by simp [hy])]
    simp
theorem addR_low {xs : List TRange} {r : TRange} (h1 : areR xs = true) (h2 : rOk r = true) (h : ∀ x ∈ xs, x.high < r.low) : addR xs r = xs ++ [r] := by
  unfold addR
  rw [h1, h2, arS_fold xs r _ (Nat.le_refl _), List.take_length, fold_low r xs [] h]
  simp
theorem addR_touch {xs : List TRange} {l r : TRange} (h1 : areR (xs ++ [l]) = true) (h2 : rOk r = true) (h : ∀ x ∈ xs, x.high < r.low) (h3 : l.high = r.low) (h4 : l.low ≤ l.high) (h5 : r.low ≤ r.high) : addR (xs ++ [l]) r = xs ++ [⟨l.low, r.high⟩] := by
  unfold addR
  rw [h1, h2, arS_fold _ r _ (Nat.le_refl _), List.take_length, List.foldl_append, fold_low r xs [] h]
  have : arStep ([] ++ xs, false, r) l = (xs, false, ⟨l.low, r.high⟩) := by
    have e1 : ¬ l.high < r.low := by omega
    have e2 : ¬ r.high < l.low := by omega
    simp only [arStep, e1, e2, if_false, List.nil_append, minI, maxI, Prod.mk.injEq, true_and, TRange.mk.injEq]
    constructor <;> split <;> omega
  simp only [List.foldl_cons, List.foldl_nil, this]
  simp
theorem areR_cons (x : TRange) (xs : List TRange) (h : rOk x = true) (h2 : areR xs = true) (h3 : ∀ y, xs[0]? = some y → x.high < y.low) : areR (x :: xs) = true := by
  unfold areR at *
  rw [List.all_eq_true] at *
  intro i hi
  rw [List.mem_range, List.length_cons] at hi
  cases i with
  | zero => rw [rAt_zero _ (by simp)]; exact h
  | succ j =>
    have hj : j < xs.length := by omega
    have := h2 j (List.mem_range.2 hj)
    rw [rAt_succ _ j (by simpa using hj)]
    simp only [List.getElem_cons_succ]
    cases j with
    | zero =>
      rw [rAt_zero _ hj] at this
      rw [this]
      have h4 := h3 xs[0] (List.getElem?_eq_getElem hj)
      simpa using h4
    | succ k =>
      rw [rAt_succ _ k hj] at this
      simpa using this
theorem clip_head (i : Int) : ∀ (cs : List TChunk) (lo : Int), chk lo cs = true → ∀ y, (clip cs i)[0]? = some y → lo ≤ y.low
  | [], _, _, y, h => by simp [clip] at h
  | c :: cs, lo, hc, y, h => by
    obtain ⟨h1, h2, h3, h4⟩ := chk_cons hc
    unfold clip at h
    split at h
    · simp only [List.getElem?_cons_zero, Option.some.injEq] at h; rw [← h]; exact h2
    · simp at h
theorem clip_are (i : Int) : ∀ (cs : List TChunk) (lo : Int), 0 ≤ lo → chk lo cs = true → areR (clip cs i) = true
  | [], _, _, _ => rfl
  | c :: cs, lo, h0, hc => by
    obtain ⟨h1, h2, h3, h4⟩ := chk_cons hc
    have hl : 0 < c.data.length := List.length_pos_iff.2 h1
    unfold clip
    split
    · rename_i g
      refine areR_cons _ _ ?_ (clip_are i cs _ (by omega) h4) fun y hy => ?_
      · simp only [rOk, Bool.and_eq_true, decide_eq_true_eq]
        refine ⟨⟨by omega, ?_⟩, ?_⟩ <;> split <;> omega
      · have := clip_head i cs _ h4 y hy
        simp only
        split <;> omega
    · rfl
theorem clip_low (i : Int) : ∀ (cs : List TChunk) (lo : Int), chk lo cs = true → i ≤ lo → clip cs i = []
  | [], _, _, _ => rfl
  | c :: cs, lo, hc, h => by
    obtain ⟨h1, h2, h3, h4⟩ := chk_cons hc
    unfold clip; rw [if_neg (by omega)]
/-- One number more. -/
theorem clip_step (i : Int) (hi : 0 ≤ i) (hi2 : i < 4611686018427387903) : ∀ (cs : List TChunk) (lo : Int) (pre : List TRange), 0 ≤ lo → chk lo cs = true → areR (pre ++ clip cs i) = true → (∀ x ∈ pre, x.high < lo) →
    pre ++ clip cs (i + 1) = if byteAt cs i = -1 then pre ++ clip cs i else addR (pre ++ clip cs i) ⟨i, i + 1⟩
  | [], _, pre, _, _, _, _ => by simp [clip, byteAt]
  | c :: cs, lo, pre, h0, hc, ha, hp => by
    obtain ⟨h1, h2, h3, h4⟩ := chk_cons hc
    have hl : 0 < c.data.length := List.length_pos_iff.2 h1
    have hr : rOk ⟨i, i + 1⟩ = true := by simp only [rOk, Bool.and_eq_true, decide_eq_true_eq]; omega
    by_cases g1 : i < c.offset
    · have e1 : clip (c :: cs) i = [] := clip_low i _ c.offset (chk_mono _ _ _ (by simp only [chk, Bool.and_eq_true, decide_eq_true_eq]; exact ⟨⟨⟨h1, Int.le_refl _⟩, h3⟩, h4⟩) (Int.le_refl _)) (by omega)
      have e2 : clip (c :: cs) (i + 1) = [] := clip_low (i + 1) _ c.offset (chk_mono _ _ _ (by simp only [chk, Bool.and_eq_true, decide_eq_true_eq]; exact ⟨⟨⟨h1, Int.le_refl _⟩, h3⟩, h4⟩) (Int.le_refl _)) (by omega)
      have e3 : byteAt (c :: cs) i = -1 := byteAt_low _ c.offset i (by simp only [chk, Bool.and_eq_true, decide_eq_true_eq]; exact ⟨⟨⟨h1, Int.le_refl _⟩, h3⟩, h4⟩) g1
      rw [e1, e2, e3, if_pos rfl]
    · by_cases g2 : i < c.offset + (c.data.length : Int)
      · have hcl : clip cs i = [] := clip_low i cs _ h4 (by omega)
        have hcl2 : clip cs (i + 1) = [] := clip_low (i + 1) cs _ h4 (by omega)
        have hb : byteAt (c :: cs) i ≠ -1 := by
          rw [byteAt, if_pos ((hitB_iff _ _).2 ⟨hi, by omega, by omega, by omega⟩)]; omega
        have e2 : clip (c :: cs) (i + 1) = [⟨c.offset, i + 1⟩] := by
          unfold clip; rw [if_pos (by omega), hcl2]
          congr 2; split <;> omega
        rw [if_neg hb, e2]
        by_cases g3 : c.offset = i
        · have e1 : clip (c :: cs) i = [] := by unfold clip; rw [if_neg (by omega)]
          rw [e1] at ha ⊢
          rw [List.append_nil] at ha ⊢
          rw [addR_low ha hr (fun x hx => by have := hp x hx; show x.high < i; omega), g3]
        · have e1 : clip (c :: cs) i = [⟨c.offset, i⟩] := by
            unfold clip; rw [if_pos (by omega), hcl]
            congr 2; split <;> omega
          rw [e1] at ha ⊢
          rw [addR_touch ha hr (fun x hx => by have := hp x hx; show x.high < i; omega) rfl (by show c.offset ≤ i; omega) (by show i ≤ i + 1; omega)]
      · have e1 : clip (c :: cs) i = ⟨c.offset, c.offset + c.data.length⟩ :: clip cs i := by
          rw [clip, if_pos (by omega)]; congr 2; split <;> omega
        have e2 : clip (c :: cs) (i + 1) = ⟨c.offset, c.offset + c.data.length⟩ :: clip cs (i + 1) := by
          rw [clip, if_pos (by omega)]; congr 2; split <;> omega
        have e3 : byteAt (c :: cs) i = byteAt cs i := by
          rw [byteAt, if_neg (fun g => by have := (hitB_iff _ _).1 g; omega)]
        rw [e1] at ha ⊢
        rw [e2, e3]
        have := clip_step i hi hi2 cs (c.offset + c.data.length + 1) (pre ++ [⟨c.offset, c.offset + c.data.length⟩]) (by omega) h4 (by simpa using ha) (fun x hx => by
          rcases List.mem_append.1 hx with hx | hx
          · have := hp x hx; omega
          · rw [List.mem_singleton.1 hx]; show c.offset + (c.data.length : Int) < _; omega)
        simpa using this
theorem clip_all : ∀ (cs : List TChunk) (lo e : Int), chk lo cs = true → (∀ c ∈ cs, c.offset + (c.data.length : Int) ≤ e) → clip cs e = rngB cs
  | [], _, _, _, _ => rfl
  | c :: cs, lo, e, hc, he => by
    obtain ⟨h1, h2, h3, h4⟩ := chk_cons hc
    have hl : 0 < c.data.length := List.length_pos_iff.2 h1
    have := he c (by simp)
    unfold clip
    rw [if_pos (by omega), clip_all cs _ e h4 fun d hd => he d (by simp [hd])]
    show _ = (⟨c.offset, c.offset + c.data.length⟩ : TRange) :: rngB cs
    congr 2; split <;> omega
theorem kr_clip (xs : List TChunk) (n : Int) (hn : 0 ≤ n) (hc : chk n xs = true) (bs : List Int) (hb : ∀ j : Nat, j < bs.length → bs[j]?.getD 0 = byteAt xs (j : Nat)) (hl : bs.length ≤ 64) : ∀ i, i ≤ bs.length → kr bs i = clip xs (i : Nat)
  | 0, _ => (clip_low _ xs n hc (by simpa using hn)).symm
  | i + 1, h => by
    have ih := kr_clip xs n hn hc bs hb hl i (by omega)
    have hs := clip_step (i : Nat) (by omega) (by omega) xs n [] hn hc (by simpa using clip_are (i : Nat) xs n hn hc) (by simp)
    rw [kr, ih, hb i (by omega)]
    simp only [List.nil_append] at hs
    rw [show ((i + 1 : Nat) : Int) = (i : Int) + 1 from by omega, hs]
end Gv
