/-
  Known ranges of cells.
-/
import Derived.Test.YtiaaipckeinbiaaEqCells
import Derived.Test.YtiaaipckeinbiaaRanges
namespace Gv
open Go Go.Proofs

def kr (xs : List Int) : Nat → List TRange
  | 0 => []
  | i + 1 => if xs[i]?.getD 0 = -1 then kr xs i else addR (kr xs i) ⟨(i : Int), ((i + 1 : Nat) : Int)⟩
theorem kr_len (xs : List Int) : ∀ i, (kr xs i).length ≤ i
  | 0 => by simp [kr]
  | i + 1 => by
    have := kr_len xs i
    have h2 := addR_len (kr xs i) ⟨(i : Int), ((i + 1 : Nat) : Int)⟩
    rw [kr]; split <;> omega
theorem kr_skip (xs : List Int) (i : Nat) (h : i < xs.length) (hx : xs[i] = -1) : kr xs (i + 1) = kr xs i := by
  rw [kr, List.getElem?_eq_getElem h, Option.getD_some, if_pos hx]
theorem kr_add (xs : List Int) (i : Nat) (h : i < xs.length) (hx : ¬ xs[i] = -1) : kr xs (i + 1) = addR (kr xs i) ⟨(i : Int), ((i + 1 : Nat) : Int)⟩ := by
  rw [kr, List.getElem?_eq_getElem h, Option.getD_some, if_neg hx]
def knownR (c : TCells) : List TRange := if isCells c.bytes c.read = true then kr c.bytes c.bytes.length else []
theorem knownR_len (c : TCells) : (knownR c).length ≤ 64 := by
  unfold knownR
  split
  · rename_i h
    have := kr_len c.bytes c.bytes.length
    simp only [isCells, Bool.and_eq_true, decide_eq_true_eq] at h
    omega
  · simp

set_option maxRecDepth 100000 in
theorem impl_KnownRanges_raw (xs : List Int) (r : Int) : PureCall Try.prog 14 [.agg [.sl 1 (xs.map eI), .int .i64 r]] [.one (.sl 2 ((knownR ⟨xs, r⟩).map TRange.enc))] := by
  refine pure_ev Try.func14 rfl Try.call14 Try.checked.mixed [.agg [.d (.sl 1 (xs.map eI)), .d (.int .i64 r)], .junk, .junk, .junk, .junk, .junk, .junk, .junk, .junk, .junk, .junk, .junk, .junk, .junk, .junk, .junk, .junk, .junk, .junk, .junk, .junk, .junk, .junk, .junk, .junk, .junk, .junk, .junk, .junk] rfl [.tmp 2] rfl ?_
  intro ok
  simp only [go_sem]
  refine CallS.intro (impl_IsCells xs r) ?_
  simp only [go_sem]
  refine cSplit (fun h0 => ?_) (fun h0 => ?_)
  · have hc : isCells xs r = false := by simpa using h0
    simp only [go_sem]
    simp [knownR, hc]
  · have hc : isCells xs r = true := by simpa using h0
    have hl : xs.length = 64 := by simp only [isCells, Bool.and_eq_true, decide_eq_true_eq] at hc; omega
    simp only [go_sem, List.length_map]
    refine LoopK.intro (fun i : Nat => ⟨[.junk, .ptr 0 0 0, .nils 2, .sl 1 0 (kr xs i).length, .junk, .junk, .junk, .junk, .junk, .junk, .junk, .junk, .d (.sl 1 (xs.map eI)), .d (.int .i64 xs.length), .d (.int .i64 i), .junk, .junk, .junk, .junk, .junk, .junk, .junk, .junk, .junk, .junk, .junk, .junk, .junk, .junk], [.box [.d (.sl 1 (xs.map eI)), .d (.int .i64 r)], .arr 2 ((kr xs i).map TRange.enc) true]⟩)
      (fun i => xs.length - i) (fun i => i ≤ xs.length) 0 [0, 1] (by omega) ?_ ?_
    · simp only [go_sem]; simp [kr]
    · intro i hi
      have hkl := kr_len xs i
      simp only [go_sem]
      refine cSplit (fun h1 => ?_) (fun h1 => ?_)
      · have h1' := of_decide_eq_true h1
        have hlt : i < xs.length := by omega
        have hxi := map_at eI xs i hlt
        have hw := inc (i := i) (m := xs.length) hlt (by simp only [maxLen]; omega)
        by_cases hx : xs[i] = -1
        · have hx' : decide (xs[i] ≠ -1) = false := decide_eq_false (by omega)
          have hk := kr_skip xs i hlt hx
          try simp only [go_sem, List.length_map, Int.toNat_natCast, hxi, eI, hx', hw]
          repeat' (first
            | (refine CallS.intro (by first | assumption | (apply impl_IsCells <;> first | assumption | omega) | (apply impl_AddRange <;> first | assumption | omega)) ?_; simp only [go_sem, List.length_map, Int.toNat_natCast, hxi, eI, hx', hw])
            | (refine CallK.intro (by first | assumption | (apply impl_IsCells <;> first | assumption | omega) | (apply impl_AddRange <;> first | assumption | omega)) ?_; simp only [go_sem, List.length_map, Int.toNat_natCast, hxi, eI, hx', hw])
            | (with_reducible refine gTrueS ?_; simp only [go_sem, List.length_map, Int.toNat_natCast, hxi, eI, hx', hw]) | (with_reducible refine gFalseS ?_; simp only [go_sem, List.length_map, Int.toNat_natCast, hxi, eI, hx', hw]) | (with_reducible refine gTrue ?_; simp only [go_sem, List.length_map, Int.toNat_natCast, hxi, eI, hx', hw]) | (with_reducible refine gFalse ?_; simp only [go_sem, List.length_map, Int.toNat_natCast, hxi, eI, hx', hw])
            | (refine gSymS ?_; simp only [go_sem, List.length_map, Int.toNat_natCast, hxi, eI, hx', hw]) | (refine gSym ?_; simp only [go_sem, List.length_map, Int.toNat_natCast, hxi, eI, hx', hw])
            | (refine cSplit (fun h => ?_) (fun h => ?_) <;> simp only [go_sem, List.length_map, Int.toNat_natCast, hxi, eI, hx', hw])
            | (with_reducible refine And.intro ?_ ?_; (focus (first | omega | (exact ⟨by omega, by omega⟩) | (simp; done) | (simp; omega)))))
          all_goals (refine RoundE.intro (i + 1) [0, 1] (by omega) (by omega) ?_; simp only [go_sem, hk]; try simp)
        · have hx' : decide (xs[i] ≠ -1) = true := decide_eq_true hx
          have hk := kr_add xs i hlt hx
          try simp only [go_sem, List.length_map, Int.toNat_natCast, hxi, eI, hx', hw]
          repeat' (first
            | (refine CallS.intro (by first | assumption | (apply impl_IsCells <;> first | assumption | omega) | (apply impl_AddRange <;> first | assumption | omega)) ?_; simp only [go_sem, List.length_map, hw])
            | (refine CallK.intro (by first | assumption | (apply impl_IsCells <;> first | assumption | omega) | (apply impl_AddRange <;> first | assumption | omega)) ?_; simp only [go_sem, List.length_map, Int.toNat_natCast, hxi, eI, hx', hw])
            | (with_reducible refine gTrueS ?_; simp only [go_sem, List.length_map, Int.toNat_natCast, hxi, eI, hx', hw]) | (with_reducible refine gFalseS ?_; simp only [go_sem, List.length_map, Int.toNat_natCast, hxi, eI, hx', hw]) | (with_reducible refine gTrue ?_; simp only [go_sem, List.length_map, Int.toNat_natCast, hxi, eI, hx', hw]) | (with_reducible refine gFalse ?_; simp only [go_sem, List.length_map, Int.toNat_natCast, hxi, eI, hx', hw])
            | (refine gSymS ?_; simp only [go_sem, List.length_map, Int.toNat_natCast, hxi, eI, hx', hw]) | (refine gSym ?_; simp only [go_sem, List.length_map, Int.toNat_natCast, hxi, eI, hx', hw])
            | (refine cSplit (fun h => ?_) (fun h => ?_) <;> simp only [go_sem, List.length_map, Int.toNat_natCast, hxi, eI, hx', hw])
            | (with_reducible refine And.intro ?_ ?_; (focus (first | omega | (exact ⟨by omega, by omega⟩) | (simp; done) | (simp; omega)))))
          all_goals (refine RoundE.intro (i + 1) [0, 2] (by omega) (by omega) ?_; simp only [go_sem, hk]; try simp)
      · have h1' := of_decide_eq_false h1
        have hi2 : i = xs.length := by omega
        subst hi2
        simp only [go_sem]
        simp [knownR, hc, outOA]

set_option maxRecDepth 100000 in
theorem impl_KnownRanges (c : TCells) : PureCall Try.prog 14 [.agg [.sl 1 (c.bytes.map eI), .int .i64 c.read]] [.one (.sl 2 ((knownR c).map TRange.enc))] := impl_KnownRanges_raw c.bytes c.read
end Gv
