/-
  The laws of functions on cells.
-/
import Derived.Test.YtgflikakblfdpaaFns1
namespace Gv
open Go Go.Proofs
def okB (r : Int) (i : Nat) (b : Int) : Bool := inB b (-1) 255 && !(decide ((i : Int) < r) && decide (b ≠ -1))
def allB (xs : List Int) (r : Int) (i : Nat) : Bool := (List.range i).all fun j => okB r j (xs[j]?.getD 0)
theorem allB_succ (xs : List Int) (r : Int) (i : Nat) (h : i < xs.length) : allB xs r (i + 1) = (allB xs r i && okB r i xs[i]) := by
  simp [allB, List.range_succ, h]
theorem allB_false (xs : List Int) (r : Int) (i : Nat) (h : i < xs.length) (hb : okB r i xs[i] = false) : allB xs r xs.length = false := by
  simp only [allB, List.all_eq_false, List.mem_range]
  exact ⟨i, h, by simp [h, hb]⟩
def isCells (xs : List Int) (r : Int) : Bool := decide ((xs.length : Int) = 64) && inB r 0 64 && allB xs r xs.length

set_option maxRecDepth 100000 in
theorem spec_IsCells (xs : List Int) (r : Int) : PureCall Try.prog 84 [.agg [.sl 1 (xs.map eI), .int .i64 r]] [.one (.bool (isCells xs r))] := by
  refine pure_ev Try.func84 rfl Try.call84 Try.checked.mixed [.agg [.d (.sl 1 (xs.map eI)), .d (.int .i64 r)], .junk, .junk, .junk, .junk, .junk, .junk, .junk, .junk, .junk, .junk, .junk, .junk, .junk, .junk, .junk, .junk, .junk, .junk, .junk, .junk, .junk, .junk, .junk, .junk, .junk, .junk, .junk, .junk, .junk, .junk, .junk, .junk, .junk, .junk, .junk, .junk, .junk, .junk, .junk, .junk] rfl [.tmp 2] rfl ?_
  intro ⟨⟨⟨hm, _⟩, _⟩, _⟩
  rw [List.length_map] at hm
  simp only [go_sem]
  refine LoopK.intro (fun i : Nat => ⟨[.junk, .ptr 0 0 0, .d (.bool false), .d (.int .i64 i), .junk, .junk, .junk, .junk, .junk, .junk, .junk, .junk, .junk, .junk, .junk, .junk, .junk, .junk, .junk, .junk, .junk, .junk, .junk, .junk, .junk, .junk, .junk, .junk, .junk, .junk, .junk, .junk, .junk, .junk, .junk, .junk, .junk, .junk, .junk, .junk, .junk], [.box [.d (.sl 1 (xs.map eI)), .d (.int .i64 r)]]⟩)
      (fun i => xs.length - i) (fun i => i ≤ xs.length ∧ allB xs r i = true) 0 [0] ⟨by omega, by simp [allB]⟩ ?_ ?_
  · simp only [go_sem]; simp
  · rintro i ⟨hi, he⟩
    simp only [go_sem, List.length_map]
    refine cSplit (fun h1 => ?_) (fun h1 => ?_)
    · simp only [decide_eq_true_eq] at h1
      have hlt : i < xs.length := by omega
      have hxi := map_at eI xs i hlt
      have hw := inc (i := i) (m := xs.length) (by omega) hm
      have hs := allB_succ xs r i hlt
      have hf := allB_false xs r i hlt
      simp only [go_sem, List.length_map, Int.toNat_natCast, hxi, eI]
      refine ⟨⟨by omega, by omega⟩, ?_⟩; first | refine CallS.intro (spec_l1In xs[i] (-1) 255) ?_ | refine CallK.intro (spec_l1In xs[i] (-1) 255) ?_
      simp only [go_sem]
      repeat ((first | refine gSymS ?_ | refine gSym ?_); simp only [go_sem, List.length_map, Int.toNat_natCast, hxi, eI])
      refine ⟨⟨by omega, by omega⟩, ?_⟩
      repeat ((first | refine gSymS ?_ | refine gSym ?_); simp only [go_sem])
      have hok : (bif !inB xs[i] (-1) 255 then true else bif decide ((i : Int) < r) then decide (xs[i] ≠ -1) else false) = !okB r i xs[i] := by
        unfold okB; cases inB xs[i] (-1) 255 <;> cases decide ((i : Int) < r) <;> simp
      rw [hok]
      refine cSplit (fun h2 => ?_) (fun h2 => ?_)
      · simp only [go_sem]
        have := hf (by simpa using h2)
        simp [isCells, this]
      · simp only [go_sem, hw]
        have h3 : okB r i xs[i] = true := by simpa using h2
        refine RoundE.intro (i + 1) [0] ⟨by omega, by rw [hs, he, h3]; rfl⟩ (by omega) ?_
        simp only [go_sem]; simp
    · simp only [go_sem]
      simp only [decide_eq_false_iff_not] at h1
      have hi2 : i = xs.length := by omega
      subst hi2
      repeat ((first | refine gSymS ?_ | refine gSym ?_); simp only [go_sem, List.length_map])
      first | refine CallS.intro (spec_l1In r 0 64) ?_ | refine CallK.intro (spec_l1In r 0 64) ?_
      simp only [go_sem]
      simp [isCells, he]

set_option maxRecDepth 100000 in
theorem impl_IsCells (xs : List Int) (r : Int) : PureCall Try.prog 87 [.agg [.sl 1 (xs.map eI), .int .i64 r]] [.one (.bool (isCells xs r))] := by
  refine pure_ev Try.func87 rfl Try.call87 Try.checked.mixed [.agg [.d (.sl 1 (xs.map eI)), .d (.int .i64 r)], .junk, .junk, .junk, .junk, .junk, .junk, .junk, .junk, .junk, .junk, .junk, .junk, .junk, .junk, .junk, .junk, .junk, .junk, .junk, .junk, .junk, .junk, .junk, .junk, .junk, .junk, .junk, .junk, .junk, .junk, .junk, .junk, .junk, .junk, .junk, .junk] rfl [.tmp 2] rfl ?_
  intro ⟨⟨⟨hm, _⟩, _⟩, _⟩
  rw [List.length_map] at hm
  simp only [go_sem, List.length_map]
  repeat ((first | refine gSymS ?_ | refine gSym ?_); simp only [go_sem])
  first | refine CallS.intro (impl_within r 0 64) ?_ | refine CallK.intro (impl_within r 0 64) ?_
  simp only [go_sem]
  repeat ((first | refine gSymS ?_ | refine gSym ?_); simp only [go_sem])
  refine cSplit (fun h => ?_) (fun h => ?_)
  · simp only [go_sem]
    have : isCells xs r = false := by
      unfold isCells
      cases hc : decide ((xs.length : Int) = 64) <;> simp_all
    simp [this]
  · simp only [go_sem, List.length_map]
    refine LoopK.intro (fun i : Nat => ⟨[.junk, .ptr 0 0 0, .d (.bool false), .junk, .junk, .junk, .junk, .junk, .junk, .junk, .junk, .junk, .junk, .junk, .junk, .junk, .d (.sl 1 (xs.map eI)), .d (.int .i64 xs.length), .d (.int .i64 i), .junk, .junk, .junk, .junk, .junk, .junk, .junk, .junk, .junk, .junk, .junk, .junk, .junk, .junk, .junk, .junk, .junk, .junk], [.box [.d (.sl 1 (xs.map eI)), .d (.int .i64 r)]]⟩)
      (fun i => xs.length - i) (fun i => i ≤ xs.length ∧ allB xs r i = true) 0 [0] ⟨by omega, by simp [allB]⟩ ?_ ?_
    · simp only [go_sem]; simp
    · rintro i ⟨hi, he⟩
      simp only [go_sem]
      refine cSplit (fun h1 => ?_) (fun h1 => ?_)
      · simp only [decide_eq_true_eq] at h1
        have hlt : i < xs.length := by omega
        have hxi := map_at eI xs i hlt
        have hw := inc (i := i) (m := xs.length) (by omega) hm
        have hs := allB_succ xs r i hlt
        have hf := allB_false xs r i hlt
        simp only [go_sem, List.length_map, Int.toNat_natCast, hxi, eI]
        refine ⟨⟨by omega, by omega⟩, ?_⟩; first | refine CallS.intro (impl_within xs[i] (-1) 255) ?_ | refine CallK.intro (impl_within xs[i] (-1) 255) ?_
        simp only [go_sem]
        repeat ((first | refine gSymS ?_ | refine gSym ?_); simp only [go_sem])
        have hok : (bif !inB xs[i] (-1) 255 then true else bif decide ((i : Int) < r) then decide (xs[i] ≠ -1) else false) = !okB r i xs[i] := by
          unfold okB; cases inB xs[i] (-1) 255 <;> cases decide ((i : Int) < r) <;> simp
        rw [hok]
        refine cSplit (fun h2 => ?_) (fun h2 => ?_)
        · simp only [go_sem]
          have := hf (by simpa using h2)
          simp [isCells, this]
        · simp only [go_sem, hw]
          have h3 : okB r i xs[i] = true := by simpa using h2
          refine RoundE.intro (i + 1) [0] ⟨by omega, by rw [hs, he, h3]; rfl⟩ (by omega) ?_
          simp only [go_sem]; simp
      · simp only [go_sem]
        simp only [decide_eq_false_iff_not] at h1
        have hi2 : i = xs.length := by omega
        subst hi2
        have : isCells xs r = true := by
          unfold isCells
          cases hc : decide ((xs.length : Int) = 64) <;> simp_all
        simp [this]

end Gv
