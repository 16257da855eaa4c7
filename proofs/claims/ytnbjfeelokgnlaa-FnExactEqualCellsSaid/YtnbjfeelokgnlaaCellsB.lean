/-
  The laws of functions that the statement reaches.
-/
import Derived.Test.YtnbjfeelokgnlaaCells
namespace Gv
open Go Go.Proofs

def inB (n lo hi : Int) : Bool := decide (lo ≤ n) && decide (n ≤ hi)

theorem spec_l1In (n lo hi : Int) : PureCall Try.prog 30 [.one (.int .i64 n), .one (.int .i64 lo), .one (.int .i64 hi)] [.one (.bool (inB n lo hi))] := by
  refine pure_ev Try.func30 rfl Try.call30 Try.checked.mixed [.d (.int .i64 n), .d (.int .i64 lo), .d (.int .i64 hi), .junk, .junk, .junk, .junk, .junk, .junk, .junk, .junk, .junk, .junk, .junk, .junk] rfl [.tmp 6] rfl ?_
  intro _
  simp only [go_sem]
  repeat ((first | refine gSymS ?_ | refine gSym ?_); simp only [go_sem])
  simp [inB]

theorem impl_within (n lo hi : Int) : PureCall Try.prog 32 [.one (.int .i64 n), .one (.int .i64 lo), .one (.int .i64 hi)] [.one (.bool (inB n lo hi))] := by
  refine pure_ev Try.func32 rfl Try.call32 Try.checked.mixed [.d (.int .i64 n), .d (.int .i64 lo), .d (.int .i64 hi), .junk, .junk, .junk, .junk, .junk, .junk, .junk, .junk, .junk, .junk, .junk, .junk] rfl [.tmp 6] rfl ?_
  intro _
  simp only [go_sem]
  repeat ((first | refine gSymS ?_ | refine gSym ?_); simp only [go_sem])
  simp [inB]

def szI (n : Nat) (left : Int) : Int := if IntKind.i64.wrap (left - n) < 0 then -1 else IntKind.i64.wrap (left - n)

theorem laws_szIntS (xs : List (List D)) (left : Int) : PureCall Try.prog 29 [.one (.sl 1 xs), .one (.int .i64 left)] [.one (.int .i64 (szI xs.length left))] := by
  refine pure_ev Try.func29 rfl Try.call29 Try.checked.mixed [.d (.sl 1 xs), .d (.int .i64 left), .junk, .junk, .junk, .junk, .junk, .junk, .junk, .junk, .junk, .junk] rfl [.tmp 4] rfl ?_
  intro _
  simp only [go_sem]
  refine cSplit (fun h => ?_) (fun h => ?_)
  · simp only [go_sem]
    simp at h
    simp [szI, h]
  · simp only [go_sem]
    simp at h
    simp [szI]; omega

theorem szI_neg {n : Nat} {left : Int} : szI n left < 0 → szI n left = -1 := by
  unfold szI; split <;> omega

theorem laws_szCells (xs : List (List D)) (r left : Int) : PureCall Try.prog 13 [.agg [.sl 1 xs, .int .i64 r], .one (.int .i64 left)] [.one (.int .i64 (szI xs.length left))] := by
  refine pure_ev Try.func13 rfl Try.call13 Try.checked.mixed [.agg [.d (.sl 1 xs), .d (.int .i64 r)], .d (.int .i64 left), .junk, .junk, .junk, .junk, .junk, .junk, .junk, .junk, .junk, .junk] rfl [.tmp 4] rfl ?_
  intro _
  simp only [go_sem]
  first | refine CallS.intro (laws_szIntS xs left) ?_ | refine CallK.intro (laws_szIntS xs left) ?_
  simp only [go_sem]
  refine cSplit (fun h => ?_) (fun h => ?_)
  · simp only [go_sem]
    simp at h
    simp [szI_neg h]
  · simp only [go_sem]

def okB (r : Int) (i : Nat) (b : Int) : Bool := inB b (-1) 255 && !(decide ((i : Int) < r) && decide (b ≠ -1))
def allB (xs : List Int) (r : Int) (i : Nat) : Bool := (List.range i).all fun j => okB r j (xs[j]?.getD 0)
theorem allB_succ (xs : List Int) (r : Int) (i : Nat) (h : i < xs.length) : allB xs r (i + 1) = (allB xs r i && okB r i xs[i]) := by
  simp [allB, List.range_succ, h]
theorem allB_false (xs : List Int) (r : Int) (i : Nat) (h : i < xs.length) (hb : okB r i xs[i] = false) : allB xs r xs.length = false := by
  simp only [allB, List.all_eq_false, List.mem_range]
  exact ⟨i, h, by simp [h, hb]⟩
def isCells (xs : List Int) (r : Int) : Bool := decide ((xs.length : Int) = 64) && inB r 0 64 && allB xs r xs.length

theorem spec_IsCells (xs : List Int) (r : Int) : PureCall Try.prog 14 [.agg [.sl 1 (xs.map eI), .int .i64 r]] [.one (.bool (isCells xs r))] := by
  refine pure_ev Try.func14 rfl Try.call14 Try.checked.mixed [.agg [.d (.sl 1 (xs.map eI)), .d (.int .i64 r)], .junk, .junk, .junk, .junk, .junk, .junk, .junk, .junk, .junk, .junk, .junk, .junk, .junk, .junk, .junk, .junk, .junk, .junk, .junk, .junk, .junk, .junk, .junk, .junk, .junk, .junk, .junk, .junk, .junk, .junk, .junk, .junk, .junk, .junk, .junk, .junk, .junk, .junk, .junk, .junk] rfl [.tmp 2] rfl ?_
  intro ⟨⟨⟨hm, _⟩, _⟩, _⟩
  rw [List.length_map] at hm
  simp only [go_sem]
  refine LoopK.intro (fun i : Nat => ⟨[.junk, .ptr 0 0 0, .d (.bool false), .d (.int .i64 i), .junk, .junk, .junk, .junk, .junk, .junk, .junk, .junk, .junk, .junk, .junk, .junk, .junk, .junk, .junk, .junk, .junk, .junk, .junk, .junk, .junk, .junk, .junk, .junk, .junk, .junk, .junk, .junk, .junk, .junk, .junk, .junk, .junk, .junk, .junk, .junk, .junk], [.box [.d (.sl 1 (xs.map eI)), .d (.int .i64 r)]]⟩)
      (fun i => xs.length - i) (fun i => i ≤ xs.length ∧ allB xs r i = true) 0 [0] ⟨by omega, by simp [allB]⟩ ?_ ?_
  · simp only [go_sem]; simp
  · rintro i ⟨hi, he⟩
    simp only [go_sem, List.length_map]
    refine cSplit (fun h1 => ?_) (fun h1 => ?_)
    · simp only [decide_eq_true_eq] at h1
      have hlt : i < xs.length := by omega
      have hxi := map_at eI xs i hlt
      have hw := inc (i := i) (m := xs.length) (by omega) hm
      have hs := allB_succ xs r i hlt
      have hf := allB_false xs r i hlt
      simp only [go_sem, List.length_map, Int.toNat_natCast, hxi, eI]
      refine ⟨⟨by omega, by omega⟩, ?_⟩; first | refine CallS.intro (spec_l1In xs[i] (-1) 255) ?_ | refine CallK.intro (spec_l1In xs[i] (-1) 255) ?_
      simp only [go_sem]
      repeat ((first | refine gSymS ?_ | refine gSym ?_); simp only [go_sem, List.length_map, Int.toNat_natCast, hxi, eI])
      refine ⟨⟨by omega, by omega⟩, ?_⟩
      repeat ((first | refine gSymS ?_ | refine gSym ?_); simp only [go_sem, List.length_map, Int.toNat_natCast, hxi, eI])
      have hok : (bif !inB xs[i] (-1) 255 then true else bif decide ((i : Int) < r) then decide (xs[i] ≠ -1) else false) = !okB r i xs[i] := by
        unfold okB; cases inB xs[i] (-1) 255 <;> cases decide ((i : Int) < r) <;> simp
      rw [hok]
      refine cSplit (fun h2 => ?_) (fun h2 => ?_)
      · simp only [go_sem]
        have := hf (by simpa using h2)
        simp [isCells, this]
      · simp only [go_sem, hw]
        have h3 : okB r i xs[i] = true := by simpa using h2
        refine RoundE.intro (i + 1) [0] ⟨by omega, by rw [hs, he, h3]; rfl⟩ (by omega) ?_
        simp only [go_sem]; simp
    · simp only [go_sem]
      simp only [decide_eq_false_iff_not] at h1
      have hi2 : i = xs.length := by omega
      subst hi2
      repeat ((first | refine gSymS ?_ | refine gSym ?_); simp only [go_sem, List.length_map])
      first | refine CallS.intro (spec_l1In r 0 64) ?_ | refine CallK.intro (spec_l1In r 0 64) ?_
      simp only [go_sem]
      simp [isCells, he]

theorem impl_IsCells (xs : List Int) (r : Int) : PureCall Try.prog 16 [.agg [.sl 1 (xs.map eI), .int .i64 r]] [.one (.bool (isCells xs r))] := by
  refine pure_ev Try.func16 rfl Try.call16 Try.checked.mixed [.agg [.d (.sl 1 (xs.map eI)), .d (.int .i64 r)], .junk, .junk, .junk, .junk, .junk, .junk, .junk, .junk, .junk, .junk, .junk, .junk, .junk, .junk, .junk, .junk, .junk, .junk, .junk, .junk, .junk, .junk, .junk, .junk, .junk, .junk, .junk, .junk, .junk, .junk, .junk, .junk, .junk, .junk, .junk, .junk] rfl [.tmp 2] rfl ?_
  intro ⟨⟨⟨hm, _⟩, _⟩, _⟩
  rw [List.length_map] at hm
  simp only [go_sem, List.length_map]
  repeat ((first | refine gSymS ?_ | refine gSym ?_); simp only [go_sem, List.length_map])
  first | refine CallS.intro (impl_within r 0 64) ?_ | refine CallK.intro (impl_within r 0 64) ?_
  simp only [go_sem]
  repeat ((first | refine gSymS ?_ | refine gSym ?_); simp only [go_sem, List.length_map])
  refine cSplit (fun h => ?_) (fun h => ?_)
  · simp only [go_sem]
    have : isCells xs r = false := by
      unfold isCells
      cases hc : decide ((xs.length : Int) = 64) <;> simp_all
    simp [this]
  · simp only [go_sem, List.length_map]
    refine LoopK.intro (fun i : Nat => ⟨[.junk, .ptr 0 0 0, .d (.bool false), .junk, .junk, .junk, .junk, .junk, .junk, .junk, .junk, .junk, .junk, .junk, .junk, .junk, .d (.sl 1 (xs.map eI)), .d (.int .i64 xs.length), .d (.int .i64 i), .junk, .junk, .junk, .junk, .junk, .junk, .junk, .junk, .junk, .junk, .junk, .junk, .junk, .junk, .junk, .junk, .junk, .junk], [.box [.d (.sl 1 (xs.map eI)), .d (.int .i64 r)]]⟩)
      (fun i => xs.length - i) (fun i => i ≤ xs.length ∧ allB xs r i = true) 0 [0] ⟨by omega, by simp [allB]⟩ ?_ ?_
    · simp only [go_sem]; simp
    · rintro i ⟨hi, he⟩
      simp only [go_sem]
      refine cSplit (fun h1 => ?_) (fun h1 => ?_)
      · simp only [decide_eq_true_eq] at h1
        have hlt : i < xs.length := by omega
        have hxi := map_at eI xs i hlt
        have hw := inc (i := i) (m := xs.length) (by omega) hm
        have hs := allB_succ xs r i hlt
        have hf := allB_false xs r i hlt
        simp only [go_sem, List.length_map, Int.toNat_natCast, hxi, eI]
        refine ⟨⟨by omega, by omega⟩, ?_⟩; first | refine CallS.intro (impl_within xs[i] (-1) 255) ?_ | refine CallK.intro (impl_within xs[i] (-1) 255) ?_
        simp only [go_sem]
        repeat ((first | refine gSymS ?_ | refine gSym ?_); simp only [go_sem, List.length_map, Int.toNat_natCast, hxi, eI])
        have hok : (bif !inB xs[i] (-1) 255 then true else bif decide ((i : Int) < r) then decide (xs[i] ≠ -1) else false) = !okB r i xs[i] := by
          unfold okB; cases inB xs[i] (-1) 255 <;> cases decide ((i : Int) < r) <;> simp
        rw [hok]
        refine cSplit (fun h2 => ?_) (fun h2 => ?_)
        · simp only [go_sem]
          have := hf (by simpa using h2)
          simp [isCells, this]
        · simp only [go_sem, hw]
          have h3 : okB r i xs[i] = true := by simpa using h2
          refine RoundE.intro (i + 1) [0] ⟨by omega, by rw [hs, he, h3]; rfl⟩ (by omega) ?_
          simp only [go_sem]; simp
      · simp only [go_sem]
        simp only [decide_eq_false_iff_not] at h1
        have hi2 : i = xs.length := by omega
        subst hi2
        have : isCells xs r = true := by
          unfold isCells
          cases hc : decide ((xs.length : Int) = 64) <;> simp_all
        simp [this]

def cpL (xs : List Int) (i : Nat) : List Int := xs.take i ++ List.replicate (xs.length - i) 0
theorem cpL_len (xs : List Int) (i : Nat) (h : i ≤ xs.length) : (cpL xs i).length = xs.length := by simp [cpL]; omega
theorem cpL_get (xs : List Int) (i : Nat) (h : i < xs.length) : ((cpL xs i).map eI)[i]? = some (eI 0) := by
  rw [List.getElem?_map]; unfold cpL
  rw [List.getElem?_append_right (by simp; omega)]
  simp [List.getElem?_replicate]; omega
theorem cpL_set (xs : List Int) (i : Nat) (h : i < xs.length) : ((cpL xs i).map eI).set i (eI xs[i]) = (cpL xs (i + 1)).map eI := by
  rw [← List.map_set]
  congr 1
  unfold cpL
  have hl : (xs.take i).length = i := by simp; omega
  rw [List.set_append_right _ _ (by omega), hl, Nat.sub_self, show xs.length - i = (xs.length - (i + 1)) + 1 from by omega, List.replicate_succ, List.set_cons_zero, List.take_add_one, List.getElem?_eq_getElem h, Option.toList_some, List.append_assoc]
  rfl

theorem laws_toIntS (xs : List Int) (hx : xs.length ≤ 1048576) : PureCall Try.prog 31 [.one (.sl 1 (xs.map eI))] [.one (.sl 1 (xs.map eI))] := by
  refine pure_ev Try.func31 rfl Try.call31 Try.checked.mixed [.d (.sl 1 (xs.map eI)), .junk, .junk, .junk, .junk, .junk, .junk, .junk, .junk, .junk, .junk, .junk, .junk, .junk, .junk, .junk, .junk, .junk, .junk, .junk, .junk, .junk] rfl [.tmp 2] rfl ?_
  intro _
  have hm : xs.length ≤ maxLen := by simp only [maxLen]; omega
  simp only [go_sem, List.length_map, Int.toNat_natCast]
  refine ⟨⟨by omega, by omega, hm⟩, ?_⟩
  refine LoopK.intro (fun i : Nat => ⟨[.d (.sl 1 (xs.map eI)), .junk, .junk, .sl 0 0 xs.length, .d (.int .i64 i), .junk, .junk, .junk, .junk, .junk, .junk, .junk, .junk, .junk, .junk, .junk, .junk, .junk, .junk, .junk, .junk, .junk], [.arr 1 ((cpL xs i).map eI) true]⟩)
      (fun i => xs.length - i) (fun i => i ≤ xs.length) 0 [0] (by omega) ?_ ?_
  · simp only [go_sem]; simp [cpL, eI]
  · intro i hi
    simp only [go_sem, List.length_map]
    refine cSplit (fun h1 => ?_) (fun h1 => ?_)
    · simp only [decide_eq_true_eq] at h1
      have hlt : i < xs.length := by omega
      have hxi := map_at eI xs i hlt
      have hw := inc (i := i) (m := xs.length) (by omega) hm
      have hg := cpL_get xs i hlt
      have hs := cpL_set xs i hlt
      have hl := cpL_len xs i (by omega)
      simp only [eI] at hs hg hxi
      simp only [go_sem, List.length_map, Int.toNat_natCast, hxi, hg, hs, hl, hw, eI]
      refine ⟨⟨by omega, by omega⟩, ⟨by omega, by omega⟩, ⟨by omega, by simp⟩, RoundE.intro (i + 1) [0] (by omega) (by omega) ?_⟩
      simp only [go_sem]; simp
    · simp only [go_sem]
      simp only [decide_eq_false_iff_not] at h1
      have hi2 : i = xs.length := by omega
      subst hi2
      have hl := cpL_len xs xs.length (by omega)
      have he : cpL xs xs.length = xs := by simp [cpL]
      rw [he]
      simp [outOA]
      exact List.take_of_length_le (by simp)

theorem laws_toCells (xs : List Int) (r : Int) (hx : xs.length ≤ 1048576) : PureCall Try.prog 15 [.agg [.sl 1 (xs.map eI), .int .i64 r]] [.agg [.sl 1 (xs.map eI), .int .i64 r]] := by
  refine pure_ev Try.func15 rfl Try.call15 Try.checked.mixed [.agg [.d (.sl 1 (xs.map eI)), .d (.int .i64 r)], .junk, .junk, .junk, .junk, .junk, .junk, .junk, .junk, .junk, .junk, .junk] rfl [.cell 2 24] rfl ?_
  intro _
  simp only [go_sem]
  first | refine CallS.intro (laws_toIntS xs hx) ?_ | refine CallK.intro (laws_toIntS xs hx) ?_
  simp only [go_sem, List.length_map]
  simp

theorem szI_ok {n : Nat} (hm : n ≤ maxLen) (h : ¬ szI n 1048576 < 0) : n ≤ 1048576 := by
  simp only [maxLen] at hm
  unfold szI at h
  rw [IntKind.wrap_i64] at h
  split at h <;> omega

theorem laws_FnExactIsCells (xs : List Int) (r : Int) : PureCall Try.prog 4 [.agg [.sl 1 (xs.map eI), .int .i64 r]] [.one (.bool true)] := by
  refine pure_ev Try.func4 rfl Try.call4 Try.checked.mixed [.agg [.d (.sl 1 (xs.map eI)), .d (.int .i64 r)], .junk, .junk, .junk, .junk, .junk, .junk, .junk, .junk, .junk, .junk, .junk, .junk, .junk, .junk, .junk, .junk, .junk, .junk, .junk, .junk, .junk, .junk, .junk, .junk, .junk, .junk] rfl [.tmp 2] rfl ?_
  intro ⟨⟨⟨hm, _⟩, _⟩, _⟩
  rw [List.length_map] at hm
  simp only [go_sem]
  first | refine CallS.intro (laws_szCells (xs.map eI) r 1048576) ?_ | refine CallK.intro (laws_szCells (xs.map eI) r 1048576) ?_
  simp only [go_sem, List.length_map]
  refine cSplit (fun h => ?_) (fun h => ?_)
  · simp only [go_sem]
  · simp only [decide_eq_false_iff_not] at h
    have hx := szI_ok hm h
    simp only [go_sem]
    first | refine CallS.intro (laws_toCells xs r hx) ?_ | refine CallK.intro (laws_toCells xs r hx) ?_
    simp only [go_sem, List.length_map]
    first | refine CallS.intro (spec_IsCells xs r) ?_ | refine CallK.intro (spec_IsCells xs r) ?_
    simp only [go_sem, List.length_map]
    first | refine CallS.intro (laws_toCells xs r hx) ?_ | refine CallK.intro (laws_toCells xs r hx) ?_
    simp only [go_sem, List.length_map]
    first | refine CallS.intro (impl_IsCells xs r) ?_ | refine CallK.intro (impl_IsCells xs r) ?_
    simp only [go_sem, List.length_map, bne_self_eq_false]
    refine drawE_intro [[.post, .un, .un, .post, .post], [.un, .post, .post, .post, .post], [.un, .pre, .post, .post, .post], [.pre, .pre, .pre, .post, .post], [.pre, .pre, .pre, .pre, .post]] (by kernel_rfl) (by kernel_rfl) ?_
    simp only [go_sem, List.length_map]
    first | refine CallS.intro (laws_toCells xs r hx) ?_ | refine CallK.intro (laws_toCells xs r hx) ?_
    simp only [go_sem, List.length_map]
    first | refine CallS.intro (laws_eqCells xs xs r r) ?_ | refine CallK.intro (laws_eqCells xs xs r r) ?_
    simp only [go_sem, List.length_map]
end Gv
