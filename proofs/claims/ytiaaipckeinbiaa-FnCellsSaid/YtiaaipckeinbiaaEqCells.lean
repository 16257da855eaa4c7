/-
  The laws of functions on cells.
-/
import Derived.Test.YtiaaipckeinbiaaFns1
namespace Gv
open Go Go.Proofs
def stN : Nat → St
  | 0 => ⟨[.ptr 0 0 0, .ptr 1 0 0, .junk, .d (.int .i64 0), .junk, .junk, .junk, .junk, .junk, .junk, .junk, .junk], [.box [.nils 1, .d (.int .i64 0)], .box [.nils 1, .d (.int .i64 0)]]⟩
  | n + 1 => ⟨[.ptr 0 0 0, .ptr 1 0 0, .junk, .d (.int .i64 ((n + 1 : Nat) : Int)), .junk, .junk, .junk, .junk, .junk, .junk, .junk, .junk], [.box [.nils 1, .d (.int .i64 0)], .box [.sl 2 0 (n + 1), .d (.int .i64 0)], .arr 1 (List.replicate (n + 1) [.int .i64 (-1)]) true]⟩

set_option maxRecDepth 100000 in
theorem impl_NewCells  : PureCall Try.prog 5 [] [.agg [.sl 1 (List.replicate 64 [.int .i64 (-1)]), .int .i64 0]] := by
  refine pure_ev Try.func5 rfl Try.call5 Try.checked.mixed [.junk, .junk, .junk, .junk, .junk, .junk, .junk, .junk, .junk, .junk, .junk, .junk] rfl [.cell 0 29] rfl ?_
  intro _
  simp only [go_sem]
  refine LoopK.intro stN (fun n => 64 - n) (fun n => n ≤ 64) 0 [0, 1] (by decide) ?_ ?_
  · simp only [stN, go_sem]
    simp
  · intro n hn
    cases n with
    | zero =>
      simp only [stN, go_sem]
      refine RoundE.intro 1 [0, 1, 3] (by omega) (by omega) ?_
      simp only [stN, go_sem]
      simp [w64]
    | succ n =>
      simp only [stN, go_sem]
      refine cSplit (fun h => ?_) (fun h => ?_)
      · simp only [go_sem]
        simp only [decide_eq_true_eq] at h
        refine ⟨⟨by omega, by decide⟩, RoundE.intro (n + 2) [0, 1, 4] (by omega) (by omega) ?_⟩
        have hw : IntKind.i64.wrap (((n + 1 : Nat) : Int) + 1) = ((n + 1 + 1 : Nat) : Int) := by rw [w64] <;> omega
        simp only [stN, go_sem, hw]
        simp [List.replicate_succ']
      · simp only [go_sem]
        simp only [decide_eq_false_iff_not] at h
        have h63 : n = 63 := by omega
        subst h63
        simp [outOA]

def stN8 : Nat → St
  | 0 => ⟨[.ptr 0 0 0, .ptr 1 0 0, .d (.int .i64 0), .junk, .junk, .junk, .junk, .junk, .junk, .junk, .junk, .junk, .junk, .junk], [.box [.nils 1, .d (.int .i64 0)], .box [.nils 1, .d (.int .i64 0)]]⟩
  | n + 1 => ⟨[.ptr 0 0 0, .ptr 1 0 0, .d (.int .i64 ((n + 1 : Nat) : Int)), .junk, .junk, .junk, .junk, .junk, .junk, .junk, .junk, .junk, .junk, .junk], [.box [.nils 1, .d (.int .i64 0)], .box [.sl 2 0 (n + 1), .d (.int .i64 0)], .arr 1 (List.replicate (n + 1) [.int .i64 (-1)]) true]⟩

set_option maxRecDepth 100000 in
theorem spec_NewCells  : PureCall Try.prog 47 [] [.agg [.sl 1 (List.replicate 64 [.int .i64 (-1)]), .int .i64 0]] := by
  refine pure_ev Try.func47 rfl Try.call47 Try.checked.mixed [.junk, .junk, .junk, .junk, .junk, .junk, .junk, .junk, .junk, .junk, .junk, .junk, .junk, .junk] rfl [.cell 0 29] rfl ?_
  intro _
  simp only [go_sem]
  refine LoopK.intro stN8 (fun n => 64 - n) (fun n => n ≤ 64) 0 [0, 1] (by decide) ?_ ?_
  · simp only [stN8, go_sem]
    simp
  · intro n hn
    cases n with
    | zero =>
      simp only [stN8, go_sem]
      refine RoundE.intro 1 [0, 1, 3] (by omega) (by omega) ?_
      simp only [stN8, go_sem]
      simp [w64]
    | succ n =>
      simp only [stN8, go_sem]
      refine cSplit (fun h => ?_) (fun h => ?_)
      · simp only [go_sem]
        simp only [decide_eq_true_eq] at h
        refine ⟨⟨by omega, by decide⟩, RoundE.intro (n + 2) [0, 1, 4] (by omega) (by omega) ?_⟩
        have hw : IntKind.i64.wrap (((n + 1 : Nat) : Int) + 1) = ((n + 1 + 1 : Nat) : Int) := by rw [w64] <;> omega
        simp only [stN8, go_sem, hw]
        simp [List.replicate_succ']
      · simp only [go_sem]
        simp only [decide_eq_false_iff_not] at h
        have h63 : n = 63 := by omega
        subst h63
        simp [outOA]


end Gv

/-
  The laws of functions on cells.
-/
namespace Gv
open Go Go.Proofs
def okB (r : Int) (i : Nat) (b : Int) : Bool := inB b (-1) 255 && !(decide ((i : Int) < r) && decide (b ≠ -1))
def allB (xs : List Int) (r : Int) (i : Nat) : Bool := (List.range i).all fun j => okB r j (xs[j]?.getD 0)
theorem allB_succ (xs : List Int) (r : Int) (i : Nat) (h : i < xs.length) : allB xs r (i + 1) = (allB xs r i && okB r i xs[i]) := by
  simp [allB, List.range_succ, h]
theorem allB_false (xs : List Int) (r : Int) (i : Nat) (h : i < xs.length) (hb : okB r i xs[i] = false) : allB xs r xs.length = false := by
  simp only [allB, List.all_eq_false, List.mem_range]
  exact ⟨i, h, by simp [h, hb]⟩
def isCells (xs : List Int) (r : Int) : Bool := decide ((xs.length : Int) = 64) && inB r 0 64 && allB xs r xs.length

set_option maxRecDepth 100000 in
theorem spec_IsCells (xs : List Int) (r : Int) : PureCall Try.prog 25 [.agg [.sl 1 (xs.map eI), .int .i64 r]] [.one (.bool (isCells xs r))] := by
  refine pure_ev Try.func25 rfl Try.call25 Try.checked.mixed [.agg [.d (.sl 1 (xs.map eI)), .d (.int .i64 r)], .junk, .junk, .junk, .junk, .junk, .junk, .junk, .junk, .junk, .junk, .junk, .junk, .junk, .junk, .junk, .junk, .junk, .junk, .junk, .junk, .junk, .junk, .junk, .junk, .junk, .junk, .junk, .junk, .junk, .junk, .junk, .junk, .junk, .junk, .junk, .junk, .junk, .junk, .junk, .junk] rfl [.tmp 2] rfl ?_
  intro ⟨⟨⟨hm, _⟩, _⟩, _⟩
  rw [List.length_map] at hm
  simp only [go_sem]
  refine LoopK.intro (fun i : Nat => ⟨[.junk, .ptr 0 0 0, .d (.bool false), .d (.int .i64 i), .junk, .junk, .junk, .junk, .junk, .junk, .junk, .junk, .junk, .junk, .junk, .junk, .junk, .junk, .junk, .junk, .junk, .junk, .junk, .junk, .junk, .junk, .junk, .junk, .junk, .junk, .junk, .junk, .junk, .junk, .junk, .junk, .junk, .junk, .junk, .junk, .junk], [.box [.d (.sl 1 (xs.map eI)), .d (.int .i64 r)]]⟩)
      (fun i => xs.length - i) (fun i => i ≤ xs.length ∧ allB xs r i = true) 0 [0] ⟨by omega, by simp [allB]⟩ ?_ ?_
  · simp only [go_sem]; simp
  · rintro i ⟨hi, he⟩
    simp only [go_sem, List.length_map]
    refine cSplit (fun h1 => ?_) (fun h1 => ?_)
    · simp only [decide_eq_true_eq] at h1
      have hlt : i < xs.length := by omega
      have hxi := map_at eI xs i hlt
      have hw := inc (i := i) (m := xs.length) (by omega) hm
      have hs := allB_succ xs r i hlt
      have hf := allB_false xs r i hlt
      simp only [go_sem, List.length_map, Int.toNat_natCast, hxi, eI]
      refine ⟨⟨by omega, by omega⟩, ?_⟩; first | refine CallS.intro (spec_l1In xs[i] (-1) 255) ?_ | refine CallK.intro (spec_l1In xs[i] (-1) 255) ?_
      simp only [go_sem]
      repeat ((first | refine gSymS ?_ | refine gSym ?_); simp only [go_sem, List.length_map, Int.toNat_natCast, hxi, eI])
      refine ⟨⟨by omega, by omega⟩, ?_⟩
      repeat ((first | refine gSymS ?_ | refine gSym ?_); simp only [go_sem])
      have hok : (bif !inB xs[i] (-1) 255 then true else bif decide ((i : Int) < r) then decide (xs[i] ≠ -1) else false) = !okB r i xs[i] := by
        unfold okB; cases inB xs[i] (-1) 255 <;> cases decide ((i : Int) < r) <;> simp
      rw [hok]
      refine cSplit (fun h2 => ?_) (fun h2 => ?_)
      · simp only [go_sem]
        have := hf (by simpa using h2)
        simp [isCells, this]
      · simp only [go_sem, hw]
        have h3 : okB r i xs[i] = true := by simpa using h2
        refine RoundE.intro (i + 1) [0] ⟨by omega, by rw [hs, he, h3]; rfl⟩ (by omega) ?_
        simp only [go_sem]; simp
    · simp only [go_sem]
      simp only [decide_eq_false_iff_not] at h1
      have hi2 : i = xs.length := by omega
      subst hi2
      repeat ((first | refine gSymS ?_ | refine gSym ?_); simp only [go_sem, List.length_map])
      first | refine CallS.intro (spec_l1In r 0 64) ?_ | refine CallK.intro (spec_l1In r 0 64) ?_
      simp only [go_sem]
      simp [isCells, he]

set_option maxRecDepth 100000 in
theorem impl_IsCells (xs : List Int) (r : Int) : PureCall Try.prog 24 [.agg [.sl 1 (xs.map eI), .int .i64 r]] [.one (.bool (isCells xs r))] := by
  refine pure_ev Try.func24 rfl Try.call24 Try.checked.mixed [.agg [.d (.sl 1 (xs.map eI)), .d (.int .i64 r)], .junk, .junk, .junk, .junk, .junk, .junk, .junk, .junk, .junk, .junk, .junk, .junk, .junk, .junk, .junk, .junk, .junk, .junk, .junk, .junk, .junk, .junk, .junk, .junk, .junk, .junk, .junk, .junk, .junk, .junk, .junk, .junk, .junk, .junk, .junk, .junk] rfl [.tmp 2] rfl ?_
  intro ⟨⟨⟨hm, _⟩, _⟩, _⟩
  rw [List.length_map] at hm
  simp only [go_sem, List.length_map]
  repeat ((first | refine gSymS ?_ | refine gSym ?_); simp only [go_sem])
  first | refine CallS.intro (impl_within r 0 64) ?_ | refine CallK.intro (impl_within r 0 64) ?_
  simp only [go_sem]
  repeat ((first | refine gSymS ?_ | refine gSym ?_); simp only [go_sem])
  refine cSplit (fun h => ?_) (fun h => ?_)
  · simp only [go_sem]
    have : isCells xs r = false := by
      unfold isCells
      cases hc : decide ((xs.length : Int) = 64) <;> simp_all
    simp [this]
  · simp only [go_sem, List.length_map]
    refine LoopK.intro (fun i : Nat => ⟨[.junk, .ptr 0 0 0, .d (.bool false), .junk, .junk, .junk, .junk, .junk, .junk, .junk, .junk, .junk, .junk, .junk, .junk, .junk, .d (.sl 1 (xs.map eI)), .d (.int .i64 xs.length), .d (.int .i64 i), .junk, .junk, .junk, .junk, .junk, .junk, .junk, .junk, .junk, .junk, .junk, .junk, .junk, .junk, .junk, .junk, .junk, .junk], [.box [.d (.sl 1 (xs.map eI)), .d (.int .i64 r)]]⟩)
      (fun i => xs.length - i) (fun i => i ≤ xs.length ∧ allB xs r i = true) 0 [0] ⟨by omega, by simp [allB]⟩ ?_ ?_
    · simp only [go_sem]; simp
    · rintro i ⟨hi, he⟩
      simp only [go_sem]
      refine cSplit (fun h1 => ?_) (fun h1 => ?_)
      · simp only [decide_eq_true_eq] at h1
        have hlt : i < xs.length := by omega
        have hxi := map_at eI xs i hlt
        have hw := inc (i := i) (m := xs.length) (by omega) hm
        have hs := allB_succ xs r i hlt
        have hf := allB_false xs r i hlt
        simp only [go_sem, List.length_map, Int.toNat_natCast, hxi, eI]
        refine ⟨⟨by omega, by omega⟩, ?_⟩; first | refine CallS.intro (impl_within xs[i] (-1) 255) ?_ | refine CallK.intro (impl_within xs[i] (-1) 255) ?_
        simp only [go_sem]
        repeat ((first | refine gSymS ?_ | refine gSym ?_); simp only [go_sem])
        have hok : (bif !inB xs[i] (-1) 255 then true else bif decide ((i : Int) < r) then decide (xs[i] ≠ -1) else false) = !okB r i xs[i] := by
          unfold okB; cases inB xs[i] (-1) 255 <;> cases decide ((i : Int) < r) <;> simp
        rw [hok]
        refine cSplit (fun h2 => ?_) (fun h2 => ?_)
        · simp only [go_sem]
          have := hf (by simpa using h2)
          simp [isCells, this]
        · simp only [go_sem, hw]
          have h3 : okB r i xs[i] = true := by simpa using h2
          refine RoundE.intro (i + 1) [0] ⟨by omega, by rw [hs, he, h3]; rfl⟩ (by omega) ?_
          simp only [go_sem]; simp
      · simp only [go_sem]
        simp only [decide_eq_false_iff_not] at h1
        have hi2 : i = xs.length := by omega
        subst hi2
        have : isCells xs r = true := by
          unfold isCells
          cases hc : decide ((xs.length : Int) = 64) <;> simp_all
        simp [this]

end Gv

/-
  The laws of functions on cells.
-/
namespace Gv
open Go Go.Proofs
set_option maxRecDepth 100000 in
theorem slices_Equal_int_int (xs ys : List Int) : PureCall Try.prog 50 [.one (.sl 1 (xs.map eI)), .one (.sl 1 (ys.map eI))] [.one (.bool (decide (xs = ys)))] := by
  refine pure_ev Try.func50 rfl Try.call50 Try.checked.mixed [.d (.sl 1 (xs.map eI)), .d (.sl 1 (ys.map eI)), .junk, .junk, .junk, .junk, .junk, .junk, .junk, .junk, .junk, .junk, .junk, .junk, .junk, .junk, .junk, .junk, .junk, .junk, .junk, .junk, .junk, .junk, .junk, .junk] rfl [.tmp 4] rfl ?_
  intro ⟨⟨hm, _⟩, _⟩
  rw [List.length_map] at hm
  simp only [go_sem, List.length_map]
  refine cSplit (fun h => ?_) (fun h => ?_)
  · simp only [go_sem]
    simp only [ne_eq, decide_not, Bool.not_eq_true', decide_eq_false_iff_not] at h
    have : xs ≠ ys := fun e => h (by rw [e])
    simp [this]
  · simp only [ne_eq, decide_not, Bool.not_eq_false', decide_eq_true_eq] at h
    simp only [go_sem, List.length_map]
    refine LoopK.intro (fun i : Nat => ⟨[.d (.sl 1 (xs.map eI)), .d (.sl 1 (ys.map eI)), .junk, .junk, .d (.bool false), .junk, .junk, .junk, .junk, .junk, .junk, .junk, .d (.int .i64 xs.length), .d (.int .i64 i), .junk, .junk, .junk, .junk, .junk, .junk, .junk, .junk, .junk, .junk, .junk, .junk], []⟩)
      (fun i => xs.length - i) (fun i => i ≤ xs.length ∧ xs.take i = ys.take i) 0 [] ⟨by omega, by simp⟩ ?_ ?_
    · simp only [go_sem]; simp
    · rintro i ⟨hi, he⟩
      simp only [go_sem]
      refine cSplit (fun h1 => ?_) (fun h1 => ?_)
      · simp only [decide_eq_true_eq] at h1
        have hxi := map_at eI xs i (by omega)
        have hyi := map_at eI ys i (by omega)
        have hw := inc (i := i) (m := xs.length) (by omega) hm
        simp only [go_sem]
        refine drawE_intro [[.post, .un, .post, .post, .un, .un, .un, .un, .post], [.un, .post, .post, .post, .un, .un, .un, .un, .post], [.pre, .pre, .post, .post, .un, .un, .un, .un, .post], [.pre, .pre, .pre, .post, .un, .un, .un, .un, .post], [.un, .un, .un, .un, .post, .un, .post, .post, .post], [.un, .un, .un, .un, .un, .post, .post, .post, .post], [.un, .un, .un, .un, .pre, .pre, .post, .post, .post], [.un, .un, .un, .un, .pre, .pre, .pre, .post, .post], [.pre, .pre, .pre, .pre, .pre, .pre, .pre, .pre, .post]] (by kernel_rfl) (by kernel_rfl) ?_
        simp only [go_sem, List.length_map, Int.toNat_natCast, hxi, hyi, eI]
        refine ⟨⟨by omega, by omega⟩, ⟨by omega, by omega⟩, cSplit (fun h2 => ?_) (fun h2 => ?_)⟩
        · simp only [go_sem]
          have : xs ≠ ys := fun e => by subst e; simp at h2
          simp [this]
        · simp only [go_sem, hw]
          simp only [ne_eq, decide_not, Bool.not_eq_false', decide_eq_true_eq] at h2
          refine RoundE.intro (i + 1) [] ⟨by omega, take_eq he (by omega) (by omega) h2⟩ (by omega) ?_
          simp only [go_sem]
      · simp only [go_sem]
        simp only [decide_eq_false_iff_not] at h1
        have : xs = ys := by rw [List.take_of_length_le (by omega), List.take_of_length_le (by omega)] at he; exact he
        simp [this]

def eqCB (xs ys : List Int) (r q : Int) : Bool := decide (xs = ys) && decide (r = q)

set_option maxRecDepth 100000 in
theorem impl_EqualCells (xs ys : List Int) (r q : Int) : PureCall Try.prog 23 [.agg [.sl 1 (xs.map eI), .int .i64 r], .agg [.sl 1 (ys.map eI), .int .i64 q]] [.one (.bool (eqCB xs ys r q))] := by
  refine pure_ev Try.func23 rfl Try.call23 Try.checked.mixed [.agg [.d (.sl 1 (xs.map eI)), .d (.int .i64 r)], .agg [.d (.sl 1 (ys.map eI)), .d (.int .i64 q)], .junk, .junk, .junk, .junk, .junk, .junk, .junk, .junk, .junk, .junk, .junk, .junk, .junk, .junk, .junk] rfl [.tmp 4] rfl ?_
  intro _
  simp only [go_sem]
  repeat ((first | refine gSymS ?_ | refine gSym ?_); simp only [go_sem])
  first | refine CallS.intro (slices_Equal_int_int xs ys) ?_ | refine CallK.intro (slices_Equal_int_int xs ys) ?_
  simp only [go_sem]
  repeat ((first | refine gSymS ?_ | refine gSym ?_); simp only [go_sem])
  simp [eqCB, Bool.and_comm]

set_option maxRecDepth 100000 in
theorem spec_EqualCells (xs ys : List Int) (r q : Int) : PureCall Try.prog 12 [.agg [.sl 1 (xs.map eI), .int .i64 r], .agg [.sl 1 (ys.map eI), .int .i64 q]] [.one (.bool (eqCB xs ys r q))] := by
  refine pure_ev Try.func12 rfl Try.call12 Try.checked.mixed [.agg [.d (.sl 1 (xs.map eI)), .d (.int .i64 r)], .agg [.d (.sl 1 (ys.map eI)), .d (.int .i64 q)], .junk, .junk, .junk, .junk, .junk, .junk, .junk, .junk, .junk, .junk, .junk, .junk, .junk, .junk, .junk, .junk, .junk, .junk, .junk, .junk, .junk, .junk, .junk, .junk, .junk, .junk, .junk, .junk, .junk, .junk, .junk, .junk, .junk, .junk, .junk, .junk] rfl [.tmp 4] rfl ?_
  intro ⟨⟨⟨hm, _⟩, _⟩, _⟩
  rw [List.length_map] at hm
  simp only [go_sem, List.length_map]
  repeat ((first | refine gSymS ?_ | refine gSym ?_); simp only [go_sem])
  refine cSplit (fun h => ?_) (fun h => ?_)
  · simp only [go_sem]
    have : eqCB xs ys r q = false := by
      unfold eqCB
      cases hc : decide ((xs.length : Int) ≠ ys.length) with
      | true =>
        have : xs ≠ ys := fun e => by subst e; simp at hc
        simp [this]
      | false => rw [hc] at h; simp at h; simp [h]
    simp [this]
  · simp only [go_sem]
    have hl : xs.length = ys.length ∧ r = q := by
      cases hc : decide ((xs.length : Int) ≠ ys.length) with
      | true => rw [hc] at h; simp at h
      | false => rw [hc] at h; simp at h hc; exact ⟨by omega, h⟩
    obtain ⟨hl, rfl⟩ := hl
    refine LoopK.intro (fun i : Nat => ⟨[.junk, .junk, .ptr 0 0 0, .ptr 1 0 0, .d (.bool false), .d (.int .i64 i), .junk, .junk, .junk, .junk, .junk, .junk, .junk, .junk, .junk, .junk, .junk, .junk, .junk, .junk, .junk, .junk, .junk, .junk, .junk, .junk, .junk, .junk, .junk, .junk, .junk, .junk, .junk, .junk, .junk, .junk, .junk, .junk], [.box [.d (.sl 1 (xs.map eI)), .d (.int .i64 r)], .box [.d (.sl 1 (ys.map eI)), .d (.int .i64 r)]]⟩)
      (fun i => xs.length - i) (fun i => i ≤ xs.length ∧ xs.take i = ys.take i) 0 [0, 1] ⟨by omega, by simp⟩ ?_ ?_
    · simp only [go_sem]; simp
    · rintro i ⟨hi, he⟩
      simp only [go_sem, List.length_map]
      refine cSplit (fun h1 => ?_) (fun h1 => ?_)
      · simp only [decide_eq_true_eq] at h1
        have hxi := map_at eI xs i (by omega)
        have hyi := map_at eI ys i (by omega)
        have hw := inc (i := i) (m := xs.length) (by omega) hm
        simp only [go_sem]
        refine drawE_intro [[.post, .post, .un, .post, .post, .un, .un, .un, .un, .un, .post], [.pre, .post, .un, .post, .post, .un, .un, .un, .un, .un, .post], [.un, .un, .post, .post, .post, .un, .un, .un, .un, .un, .post], [.pre, .pre, .pre, .post, .post, .un, .un, .un, .un, .un, .post], [.pre, .pre, .pre, .pre, .post, .un, .un, .un, .un, .un, .post], [.un, .un, .un, .un, .un, .post, .post, .un, .post, .post, .post], [.un, .un, .un, .un, .un, .pre, .post, .un, .post, .post, .post], [.un, .un, .un, .un, .un, .un, .un, .post, .post, .post, .post], [.un, .un, .un, .un, .un, .pre, .pre, .pre, .post, .post, .post], [.un, .un, .un, .un, .un, .pre, .pre, .pre, .pre, .post, .post], [.pre, .pre, .pre, .pre, .pre, .pre, .pre, .pre, .pre, .pre, .post]] (by kernel_rfl) (by kernel_rfl) ?_
        simp only [go_sem, List.length_map, Int.toNat_natCast, hxi, hyi, eI]
        refine ⟨⟨by omega, by omega⟩, ⟨by omega, by omega⟩, cSplit (fun h2 => ?_) (fun h2 => ?_)⟩
        · simp only [go_sem]
          have : xs ≠ ys := fun e => by subst e; simp at h2
          simp [eqCB, this]
        · simp only [go_sem, hw]
          simp only [ne_eq, decide_not, Bool.not_eq_false', decide_eq_true_eq] at h2
          refine RoundE.intro (i + 1) [0, 1] ⟨by omega, take_eq he (by omega) (by omega) h2⟩ (by omega) ?_
          simp only [go_sem]; simp
      · simp only [go_sem]
        simp only [decide_eq_false_iff_not] at h1
        have : xs = ys := by rw [List.take_of_length_le (by omega), List.take_of_length_le (by omega)] at he; exact he
        simp [eqCB, this]

end Gv
