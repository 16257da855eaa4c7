/-
  Hexadecimal text.
-/
import Derived.Test.YthfdnfhpihkihaaDoorFns1
namespace Gv
open Go Go.Proofs

def byI (n : Int) : UInt8 := UInt8.ofNat n.toNat
theorem bytesL_map : ∀ (l : List Int), bytesL (l.map eU8) = some (l.map byI)
  | [] => rfl
  | n :: l => by simp only [List.map_cons, bytesL, eU8, byte1, bytesL_map l]; rfl
theorem flat_eU8 (xs : List Int) : flatE (xs.map eU8) = true := flat_map (fun _ => rfl) xs

def hexV (n : Int) : Int := if 48 ≤ n ∧ n ≤ 57 then n - 48 else if 97 ≤ n ∧ n ≤ 102 then n - 87 else -1
def digI (k : Int) : Int := if k < 10 then 48 + k else 87 + k
theorem hexV_dig {k : Int} (h : 0 ≤ k ∧ k < 16) : hexV (digI k) = k := by unfold digI hexV; split <;> split <;> (try split) <;> omega
theorem hexV_none {n : Int} (h : ∀ j : Nat, j < 16 → digI j ≠ n) : hexV n = -1 := by
  unfold hexV
  split
  · rename_i h1
    have := h (n - 48).toNat (by omega)
    unfold digI at this
    split at this <;> omega
  · split
    · rename_i h1
      have := h (n - 87).toNat (by omega)
      unfold digI at this
      split at this <;> omega
    · rfl
def hxAt (s : List UInt8) (i : Nat) : Int := hexV ((((s[i]?).getD 0).toNat : Nat) : Int)
theorem hex_rng (s : List UInt8) (i : Nat) : -1 ≤ hxAt s i ∧ hxAt s i ≤ 15 := by unfold hxAt hexV; split <;> (try split) <;> omega
def hexI (s : List UInt8) (j : Nat) : List Int := (List.range j).map fun t => 16 * hxAt s (2 * t) + hxAt s (2 * t + 1)
def hexOk (s : List UInt8) (j : Nat) : Bool := (List.range j).all fun t => decide (0 ≤ hxAt s (2 * t)) && decide (0 ≤ hxAt s (2 * t + 1))
theorem hexOk_step (s : List UInt8) (j : Nat) (h : hexOk s j = true) (h3 : 0 ≤ hxAt s (2 * j) ∧ 0 ≤ hxAt s (2 * j + 1)) : hexOk s (j + 1) = true := by
  unfold hexOk at *
  rw [List.range_succ, List.all_append, h]; simp [h3]
theorem hexOk_bad (s : List UInt8) (j : Nat) (hj : j < s.length / 2) (h3 : ¬ (0 ≤ hxAt s (2 * j) ∧ 0 ≤ hxAt s (2 * j + 1))) : hexOk s (s.length / 2) = false := by
  unfold hexOk
  rw [List.all_eq_false]
  refine ⟨j, List.mem_range.2 hj, ?_⟩
  simp only [Bool.and_eq_true, decide_eq_true_eq]; exact h3
def decHex (s : List UInt8) : List UInt8 × Bool := if s.length % 2 = 1 then ([], false) else if hexOk s (s.length / 2) = true then ((hexI s (s.length / 2)).map byI, true) else ([], false)

set_option maxRecDepth 100000 in
theorem impl_hexValue (n : Int) (hn : 0 ≤ n ∧ n ≤ 255) : PureCall Tryd.prog 42 [.one (.int .u8 n)] [.one (.int .i64 (hexV n))] := by
  refine pure_ev Tryd.func42 rfl Tryd.call42 Tryd.checked.mixed [.d (.int .u8 n), .junk, .junk, .junk, .junk, .junk, .junk, .junk, .junk, .junk, .junk, .junk, .junk, .junk, .junk, .junk, .junk, .junk, .junk, .junk, .junk, .junk, .junk, .junk] rfl [.tmp 2] rfl ?_
  intro _
  simp only [go_sem]
  repeat (refine gSymS ?_; simp only [go_sem])
  refine cSplit (fun h => ?_) (fun h => ?_)
  · have h1 : 48 ≤ n ∧ n ≤ 57 := by simpa using h
    have hw : IntKind.u8.wrap (n - 48) = n - 48 := w8 (by omega) (by omega)
    have hw2 : IntKind.i64.wrap (n - 48) = n - 48 := by rw [w64] <;> omega
    simp only [go_sem, hw, hw2]
    simp [hexV, h1]
  · have h1 : ¬ (48 ≤ n ∧ n ≤ 57) := by simpa using h
    simp only [go_sem]
    repeat (refine gSymS ?_; simp only [go_sem])
    refine cSplit (fun h => ?_) (fun h => ?_)
    · have h2 : 97 ≤ n ∧ n ≤ 102 := by simpa using h
      have hw : IntKind.u8.wrap (n - 97) = n - 97 := w8 (by omega) (by omega)
      have hw2 : IntKind.i64.wrap (n - 97) = n - 97 := by rw [w64] <;> omega
      have hw3 : IntKind.i64.wrap (n - 97 + 10) = n - 87 := by rw [w64] <;> omega
      simp only [go_sem, hw, hw2, hw3]
      simp [hexV, h1, h2]
    · have h2 : ¬ (97 ≤ n ∧ n ≤ 102) := by simpa using h
      simp only [go_sem]
      simp [hexV, h1, h2]

set_option maxRecDepth 100000 in
theorem spec_l1Digit (k : Int) (hk : 0 ≤ k ∧ k < 16) : PureCall Tryd.prog 41 [.one (.int .i64 k)] [.one (.int .u8 (digI k))] := by
  refine pure_ev Tryd.func41 rfl Tryd.call41 Tryd.checked.mixed [.d (.int .i64 k), .junk, .junk, .junk, .junk] rfl [.tmp 2] rfl ?_
  intro _
  simp only [go_sem]
  have h7 : k = 0 ∨ k = 1 ∨ k = 2 ∨ k = 3 ∨ k = 4 ∨ k = 5 ∨ k = 6 ∨ k = 7 ∨ k = 8 ∨ k = 9 ∨ k = 10 ∨ k = 11 ∨ k = 12 ∨ k = 13 ∨ k = 14 ∨ k = 15 := by omega
  rcases h7 with rfl | rfl | rfl | rfl | rfl | rfl | rfl | rfl | rfl | rfl | rfl | rfl | rfl | rfl | rfl | rfl <;> (simp only [go_sem]; simp [digI])

set_option maxRecDepth 100000 in
theorem spec_l1FromHex (n : Int) (hn : 0 ≤ n ∧ n ≤ 255) : PureCall Tryd.prog 34 [.one (.int .u8 n)] [.one (.int .i64 (hexV n))] := by
  refine pure_ev Tryd.func34 rfl Tryd.call34 Tryd.checked.mixed [.d (.int .u8 n), .junk, .junk, .junk, .junk, .junk, .junk, .junk, .junk, .junk, .junk, .junk, .junk] rfl [.tmp 2] rfl ?_
  intro _
  simp only [go_sem]
  refine LoopK.intro (fun k : Nat => ⟨[.d (.int .u8 n), .junk, .d (.int .i64 0), .d (.int .i64 k), .junk, .junk, .junk, .junk, .junk, .junk, .junk, .junk, .junk], []⟩)
      (fun k => 16 - k) (fun k => k ≤ 16 ∧ ∀ j : Nat, j < k → digI j ≠ n) 0 [] ⟨by omega, by omega⟩ ?_ ?_
  · simp only [go_sem]; simp
  · rintro k ⟨hk, hj⟩
    simp only [go_sem]
    refine cSplit (fun h1 => ?_) (fun h1 => ?_)
    · have h1' := of_decide_eq_true h1
      have hw : IntKind.i64.wrap ((k : Int) + 1) = ((k + 1 : Nat) : Int) := by rw [w64] <;> omega
      simp only [go_sem]
      refine CallS.intro (spec_l1Digit (k : Int) (by omega)) ?_
      simp only [go_sem]
      refine cSplit (fun h2 => ?_) (fun h2 => ?_)
      · have h2' := of_decide_eq_true h2
        simp only [go_sem]
        rw [← h2', hexV_dig (by omega)]
      · have h2' := of_decide_eq_false h2
        simp only [go_sem, hw]
        refine RoundE.intro (k + 1) [] ⟨by omega, fun j hj' => ?_⟩ (by omega) ?_
        · rcases Nat.lt_or_ge j k with h | h
          · exact hj j h
          · rw [show j = k from by omega]; exact h2'
        · simp only [go_sem]
    · have h1' := of_decide_eq_false h1
      simp only [go_sem]
      rw [hexV_none fun j hj' => hj j (by omega)]

set_option maxRecDepth 100000 in
theorem impl_DecodeHex (s : List UInt8) (hs : s.length ≤ 1048576) : PureCall Tryd.prog 36 [.one (.str s)] [.one (.str (decHex s).1), .one (.bool (decHex s).2)] := by
  refine pure_ev Tryd.func36 rfl Tryd.call36 Tryd.checked.mixed [.d (.str s), .junk, .junk, .junk, .junk, .junk, .junk, .junk, .junk, .junk, .junk, .junk, .junk, .junk, .junk, .junk, .junk, .junk, .junk, .junk, .junk, .junk, .junk, .junk, .junk, .junk, .junk, .junk, .junk, .junk, .junk, .junk, .junk, .junk, .junk, .junk, .junk, .junk, .junk, .junk, .junk, .junk, .junk, .junk] rfl [.tmp 2, .tmp 3] rfl ?_
  intro _
  have hr : (s.length : Int).tmod 2 = ((s.length % 2 : Nat) : Int) := by rw [Int.tmod_eq_emod_of_nonneg (by omega)]; omega
  simp only [go_sem, hr]
  refine cSplit (fun h => ?_) (fun h => ?_)
  · have h5 : s.length % 2 = 1 := by have := of_decide_eq_true h; omega
    simp only [go_sem]
    simp [decHex, h5]
  · have h5 : ¬ s.length % 2 = 1 := by have := of_decide_eq_false h; omega
    simp only [go_sem]
    refine LoopK.intro (fun j : Nat => ⟨[.d (.str s), .junk, .d (.str []), .d (.bool false), .sl 0 0 j, .d (.int .i64 ((2 * j : Nat) : Int)), .junk, .junk, .junk, .junk, .junk, .junk, .junk, .junk, .junk, .junk, .junk, .junk, .junk, .junk, .junk, .junk, .junk, .junk, .junk, .junk, .junk, .junk, .junk, .junk, .junk, .junk, .junk, .junk, .junk, .junk, .junk, .junk, .junk, .junk, .junk, .junk, .junk, .junk], [.arr 1 ((hexI s j).map eU8) true]⟩)
      (fun j => s.length - j) (fun j => 2 * j ≤ s.length ∧ hexOk s j = true) 0 [0] ⟨by omega, by simp [hexOk]⟩ ?_ ?_
    · simp only [go_sem]; simp [hexI]
    · rintro j ⟨hj, ho⟩
      have hrl : (hexI s j).length = j := by simp [hexI]
      have hml : ((hexI s j).map eU8).length = j := by simp [hexI]
      have htk2 : ((hexI s j).map eU8).take j = (hexI s j).map eU8 := List.take_of_length_le (by simp [hrl])
      simp only [go_sem]
      refine cSplit (fun h1 => ?_) (fun h1 => ?_)
      · have h1' := of_decide_eq_true h1
        have hA : 2 * j + 1 < s.length := by omega
        have h8 := hex_rng s (2 * j)
        have h9 := hex_rng s (2 * j + 1)
        have hx0 : s[2 * j]? = some (s[2 * j]'(by omega)) := List.getElem?_eq_getElem _
        have hx1 : s[2 * j + 1]? = some (s[2 * j + 1]'(by omega)) := List.getElem?_eq_getElem _
        have hw1 : IntKind.i64.wrap (((2 * j : Nat) : Int) + 1) = ((2 * j + 1 : Nat) : Int) := by rw [w64] <;> omega
        have hw2 : IntKind.i64.wrap (((2 * j : Nat) : Int) + 2) = ((2 * (j + 1) : Nat) : Int) := by rw [w64] <;> omega
        have hv0 : hexV ((s[2 * j]'(by omega)).toNat : Int) = hxAt s (2 * j) := by unfold hxAt; rw [hx0]; rfl
        have hv1 : hexV ((s[2 * j + 1]'(by omega)).toNat : Int) = hxAt s (2 * j + 1) := by unfold hxAt; rw [hx1]; rfl
        have hb0 := (s[2 * j]'(by omega)).toNat_lt
        have hb1 := (s[2 * j + 1]'(by omega)).toNat_lt
        simp only [go_sem]
        refine drawE_intro [[.post, .un, .post, .post, .un, .un, .un, .un, .post, .post, .post], [.un, .post, .post, .post, .un, .un, .un, .un, .post, .post, .post], [.pre, .pre, .post, .post, .un, .un, .un, .un, .post, .post, .post], [.pre, .pre, .pre, .post, .un, .un, .un, .un, .post, .post, .post], [.un, .un, .un, .un, .post, .un, .un, .post, .post, .post, .post], [.un, .un, .un, .un, .un, .post, .post, .post, .post, .post, .post], [.un, .un, .un, .un, .un, .pre, .post, .post, .post, .post, .post], [.un, .un, .un, .un, .pre, .pre, .pre, .post, .post, .post, .post], [.pre, .pre, .pre, .pre, .pre, .pre, .pre, .pre, .post, .post, .post], [.pre, .pre, .pre, .pre, .pre, .pre, .pre, .pre, .pre, .post, .post], [.pre, .pre, .pre, .pre, .pre, .pre, .pre, .pre, .pre, .pre, .post]] (by kernel_rfl) (by rfl) ?_
        simp only [go_sem, Int.toNat_natCast, hx0, Option.getD_some]
        refine ⟨⟨by omega, by omega⟩, ?_⟩
        refine CallK.intro (impl_hexValue _ ⟨by omega, by omega⟩) ?_
        simp only [go_sem, Int.toNat_natCast, hx1, hw1, Option.getD_some]
        refine ⟨⟨by omega, by omega⟩, ?_⟩
        refine CallK.intro (impl_hexValue _ ⟨by omega, by omega⟩) ?_
        simp only [go_sem, hv0, hv1]
        repeat (refine gSymS ?_; simp only [go_sem])
        refine cSplit (fun h2 => ?_) (fun h2 => ?_)
        · have h3 : ¬ (0 ≤ hxAt s (2 * j) ∧ 0 ≤ hxAt s (2 * j + 1)) := by
            intro h4; simp [show ¬ hxAt s (2 * j) < 0 from by omega, show ¬ hxAt s (2 * j + 1) < 0 from by omega] at h2
          have h4 := hexOk_bad s j (by omega) h3
          simp only [go_sem]
          simp [decHex, h5, h4]
        · have h3 : 0 ≤ hxAt s (2 * j) ∧ 0 ≤ hxAt s (2 * j + 1) := by
            by_cases ha : hxAt s (2 * j) < 0
            · simp [ha] at h2
            · by_cases hb : hxAt s (2 * j + 1) < 0
              · simp [hb] at h2
              · omega
          have hm1 : IntKind.i64.wrap (16 * hxAt s (2 * j)) = 16 * hxAt s (2 * j) := by rw [w64] <;> omega
          have hm2 : IntKind.i64.wrap (16 * hxAt s (2 * j) + hxAt s (2 * j + 1)) = 16 * hxAt s (2 * j) + hxAt s (2 * j + 1) := by rw [w64] <;> omega
          have hm3 : IntKind.u8.wrap (16 * hxAt s (2 * j) + hxAt s (2 * j + 1)) = 16 * hxAt s (2 * j) + hxAt s (2 * j + 1) := w8 (by omega) (by omega)
          have hrc : (hexI s j).map eU8 ++ [[.int .u8 (16 * hxAt s (2 * j) + hxAt s (2 * j + 1))]] = (hexI s (j + 1)).map eU8 := by simp [hexI, List.range_succ, eU8]
          simp only [go_sem, hm1, hm2, hm3, hrl, htk2, hrc, List.length_map, flat_eU8, hw2]
          refine ⟨⟨by omega, by decide⟩, RoundE.intro (j + 1) [2] ⟨by omega, hexOk_step s j ho h3⟩ (by omega) ?_⟩
          simp only [go_sem]
          simp
      · have h1' := of_decide_eq_false h1
        have hj2 : j = s.length / 2 := by omega
        subst hj2
        simp only [go_sem, bytesL_map, htk2, hrl, Nat.le_refl, List.length_map]
        simp [decHex, h5, ho]

set_option maxRecDepth 100000 in
theorem spec_DecodeHex (s : List UInt8) (hs : s.length ≤ 1048576) : PureCall Tryd.prog 27 [.one (.str s)] [.one (.str (decHex s).1), .one (.bool (decHex s).2)] := by
  refine pure_ev Tryd.func27 rfl Tryd.call27 Tryd.checked.mixed [.d (.str s), .junk, .junk, .junk, .junk, .junk, .junk, .junk, .junk, .junk, .junk, .junk, .junk, .junk, .junk, .junk, .junk, .junk, .junk, .junk, .junk, .junk, .junk, .junk, .junk, .junk, .junk, .junk, .junk, .junk, .junk, .junk, .junk, .junk, .junk, .junk, .junk, .junk, .junk, .junk, .junk, .junk, .junk, .junk] rfl [.tmp 2, .tmp 3] rfl ?_
  intro _
  have hr : (s.length : Int).tmod 2 = ((s.length % 2 : Nat) : Int) := by rw [Int.tmod_eq_emod_of_nonneg (by omega)]; omega
  simp only [go_sem, hr]
  refine cSplit (fun h => ?_) (fun h => ?_)
  · have h5 : s.length % 2 = 1 := by have := of_decide_eq_true h; omega
    simp only [go_sem]
    simp [decHex, h5]
  · have h5 : ¬ s.length % 2 = 1 := by have := of_decide_eq_false h; omega
    simp only [go_sem]
    refine LoopK.intro (fun j : Nat => ⟨[.d (.str s), .junk, .d (.str []), .d (.bool false), .sl 0 0 j, .d (.int .i64 ((2 * j : Nat) : Int)), .junk, .junk, .junk, .junk, .junk, .junk, .junk, .junk, .junk, .junk, .junk, .junk, .junk, .junk, .junk, .junk, .junk, .junk, .junk, .junk, .junk, .junk, .junk, .junk, .junk, .junk, .junk, .junk, .junk, .junk, .junk, .junk, .junk, .junk, .junk, .junk, .junk, .junk], [.arr 1 ((hexI s j).map eU8) true]⟩)
      (fun j => s.length - j) (fun j => 2 * j ≤ s.length ∧ hexOk s j = true) 0 [0] ⟨by omega, by simp [hexOk]⟩ ?_ ?_
    · simp only [go_sem]; simp [hexI]
    · rintro j ⟨hj, ho⟩
      have hrl : (hexI s j).length = j := by simp [hexI]
      have hml : ((hexI s j).map eU8).length = j := by simp [hexI]
      have htk2 : ((hexI s j).map eU8).take j = (hexI s j).map eU8 := List.take_of_length_le (by simp [hrl])
      simp only [go_sem]
      refine cSplit (fun h1 => ?_) (fun h1 => ?_)
      · have h1' := of_decide_eq_true h1
        have hA : 2 * j + 1 < s.length := by omega
        have h8 := hex_rng s (2 * j)
        have h9 := hex_rng s (2 * j + 1)
        have hx0 : s[2 * j]? = some (s[2 * j]'(by omega)) := List.getElem?_eq_getElem _
        have hx1 : s[2 * j + 1]? = some (s[2 * j + 1]'(by omega)) := List.getElem?_eq_getElem _
        have hw1 : IntKind.i64.wrap (((2 * j : Nat) : Int) + 1) = ((2 * j + 1 : Nat) : Int) := by rw [w64] <;> omega
        have hw2 : IntKind.i64.wrap (((2 * j : Nat) : Int) + 2) = ((2 * (j + 1) : Nat) : Int) := by rw [w64] <;> omega
        have hv0 : hexV ((s[2 * j]'(by omega)).toNat : Int) = hxAt s (2 * j) := by unfold hxAt; rw [hx0]; rfl
        have hv1 : hexV ((s[2 * j + 1]'(by omega)).toNat : Int) = hxAt s (2 * j + 1) := by unfold hxAt; rw [hx1]; rfl
        have hb0 := (s[2 * j]'(by omega)).toNat_lt
        have hb1 := (s[2 * j + 1]'(by omega)).toNat_lt
        simp only [go_sem, Int.toNat_natCast, hx0, Option.getD_some]
        refine ⟨⟨by omega, by omega⟩, ?_⟩
        refine CallS.intro (spec_l1FromHex _ ⟨by omega, by omega⟩) ?_
        simp only [go_sem, Int.toNat_natCast, hx1, hw1, Option.getD_some]
        refine ⟨⟨by omega, by omega⟩, ?_⟩
        refine CallS.intro (spec_l1FromHex _ ⟨by omega, by omega⟩) ?_
        simp only [go_sem, hv0, hv1]
        repeat (refine gSymS ?_; simp only [go_sem])
        refine cSplit (fun h2 => ?_) (fun h2 => ?_)
        · have h3 : ¬ (0 ≤ hxAt s (2 * j) ∧ 0 ≤ hxAt s (2 * j + 1)) := by
            intro h4; simp [show ¬ hxAt s (2 * j) < 0 from by omega, show ¬ hxAt s (2 * j + 1) < 0 from by omega] at h2
          have h4 := hexOk_bad s j (by omega) h3
          simp only [go_sem]
          simp [decHex, h5, h4]
        · have h3 : 0 ≤ hxAt s (2 * j) ∧ 0 ≤ hxAt s (2 * j + 1) := by
            by_cases ha : hxAt s (2 * j) < 0
            · simp [ha] at h2
            · by_cases hb : hxAt s (2 * j + 1) < 0
              · simp [hb] at h2
              · omega
          have hm1 : IntKind.i64.wrap (16 * hxAt s (2 * j)) = 16 * hxAt s (2 * j) := by rw [w64] <;> omega
          have hm2 : IntKind.i64.wrap (16 * hxAt s (2 * j) + hxAt s (2 * j + 1)) = 16 * hxAt s (2 * j) + hxAt s (2 * j + 1) := by rw [w64] <;> omega
          have hm3 : IntKind.u8.wrap (16 * hxAt s (2 * j) + hxAt s (2 * j + 1)) = 16 * hxAt s (2 * j) + hxAt s (2 * j + 1) := w8 (by omega) (by omega)
          have hrc : (hexI s j).map eU8 ++ [[.int .u8 (16 * hxAt s (2 * j) + hxAt s (2 * j + 1))]] = (hexI s (j + 1)).map eU8 := by simp [hexI, List.range_succ, eU8]
          simp only [go_sem, hm1, hm2, hm3, hrl, htk2, hrc, List.length_map, flat_eU8, hw2]
          refine ⟨⟨by omega, by decide⟩, RoundE.intro (j + 1) [2] ⟨by omega, hexOk_step s j ho h3⟩ (by omega) ?_⟩
          simp only [go_sem]
          simp
      · have h1' := of_decide_eq_false h1
        have hj2 : j = s.length / 2 := by omega
        subst hj2
        simp only [go_sem, bytesL_map, htk2, hrl, Nat.le_refl, List.length_map]
        simp [decHex, h5, ho]
end Gv
