/-
  The laws of functions that the statement reaches.
-/
import Derived.Test.YtnbjfeelokgnlaaTypes
namespace Gv
open Go Go.Proofs


theorem map_at {α : Type} (f : α → List D) (xs : List α) (i : Nat) (h : i < xs.length) : (xs.map f)[i]? = some (f xs[i]) := by simp [h]
theorem i64_of {n : Int} (h : dOk (.int .i64 n)) : -9223372036854775808 ≤ n ∧ n ≤ 9223372036854775807 := by
  have h1 : IntKind.i64.min = -9223372036854775808 := by decide
  have h2 : IntKind.i64.max = 9223372036854775807 := by decide
  simp only [dOk, h1, h2] at h; exact h
theorem inc {i m : Nat} (h : i < m) (hm : m ≤ maxLen) : IntKind.i64.wrap ((i : Int) + 1) = ((i + 1 : Nat) : Int) := by
  simp only [maxLen] at hm
  rw [w64] <;> omega

def mkEnd (k : Int) : Nat → Int
  | 0 => k
  | n + 1 => IntKind.i64.wrap (mkEnd k n + 1)
def mkL (k : Int) (xs : List Int) (i : Nat) : List Int := (List.range i).map (mkEnd k) ++ xs.drop i
theorem mkL_get (k : Int) (xs : List Int) (i : Nat) (h : i < xs.length) : ((mkL k xs i).map eI)[i]? = some (eI xs[i]) := by
  rw [List.getElem?_map]; unfold mkL
  rw [List.getElem?_append_right (by simp)]
  simp [h]
theorem mkL_set (k : Int) (xs : List Int) (i : Nat) (h : i < xs.length) : ((mkL k xs i).map eI).set i (eI (mkEnd k i)) = (mkL k xs (i + 1)).map eI := by
  rw [← List.map_set]
  congr 1
  unfold mkL
  rw [List.set_append_right _ _ (by simp)]
  rw [List.range_succ, List.map_append, List.append_assoc]
  congr 1
  simp only [List.length_map, List.length_range, Nat.sub_self]
  rw [List.drop_eq_getElem_cons h]
  rfl
theorem mkL_len (k : Int) (xs : List Int) (i : Nat) (h : i ≤ xs.length) : (mkL k xs i).length = xs.length := by simp [mkL]; omega

theorem laws_markIntS (xs : List Int) (k : Int) : MutCall Try.prog 27 [.one (.sl 1 (xs.map eI)), .one (.int .i64 k)] [.one (.sl 1 ((mkL k xs xs.length).map eI)), .one (.int .i64 k)] [.one (.int .i64 (mkEnd k xs.length))] := by
  refine mut_ev Try.func27 rfl Try.call27 Try.checked.mixed [.sl 0 0 (xs.map eI).length, .d (.int .i64 k), .junk, .junk, .junk, .junk, .junk, .junk, .junk, .junk, .junk, .junk, .junk, .junk, .junk, .junk, .junk, .junk, .junk] [.arr 1 (xs.map eI) true] [.sl 0 0 (xs.map eI).length, .d (.int .i64 k)] rfl rfl rfl [.tmp 4] rfl ?_
  intro ⟨⟨hm, _⟩, _⟩
  rw [List.length_map] at hm
  simp only [go_sem, List.length_map]
  refine LoopK.intro (fun i : Nat => ⟨[.sl 0 0 xs.length, .d (.int .i64 (mkEnd k i)), .junk, .junk, .d (.int .i64 0), .d (.int .i64 i), .junk, .junk, .junk, .junk, .junk, .junk, .junk, .junk, .junk, .junk, .junk, .junk, .junk], [.arr 1 ((mkL k xs i).map eI) true]⟩)
      (fun i => xs.length - i) (fun i => i ≤ xs.length) 0 [0] (by omega) ?_ ?_
  · simp only [go_sem]; simp [mkL, mkEnd]
  · intro i hi
    simp only [go_sem]
    refine cSplit (fun h1 => ?_) (fun h1 => ?_)
    · simp only [decide_eq_true_eq] at h1
      have hg := mkL_get k xs i (by omega)
      have hs := mkL_set k xs i (by omega)
      have hl := mkL_len k xs i (by omega)
      have hw := inc (i := i) (m := xs.length) (by omega) hm
      simp only [go_sem, Int.toNat_natCast, hg, hw]
      refine ⟨⟨by omega, by omega⟩, ⟨by simp [hl]; exact_mod_cast h1, by simp [eI]⟩, RoundE.intro (i + 1) [0] (by omega) (by omega) ?_⟩
      simp only [eI] at hs
      simp only [go_sem, hg, eI, hs]
      simp [mkEnd, eI, hs]
    · simp only [go_sem]
      simp only [decide_eq_false_iff_not] at h1
      have : i = xs.length := by omega
      subst this
      have hl := mkL_len k xs xs.length (by omega)
      simp [outOA, hl]
      rw [List.take_of_length_le (by simp [hl])]
theorem laws_eqIntS (xs ys : List Int) : PureCall Try.prog 26 [.one (.sl 1 (xs.map eI)), .one (.sl 1 (ys.map eI))] [.one (.bool (decide (xs = ys)))] := by
  refine pure_ev Try.func26 rfl Try.call26 Try.checked.mixed [.d (.sl 1 (xs.map eI)), .d (.sl 1 (ys.map eI)), .junk, .junk, .junk, .junk, .junk, .junk, .junk, .junk, .junk, .junk, .junk, .junk, .junk, .junk, .junk, .junk, .junk, .junk, .junk, .junk, .junk, .junk, .junk, .junk] rfl [.tmp 4] rfl ?_
  intro ⟨⟨hm, _⟩, _⟩
  rw [List.length_map] at hm
  simp only [go_sem, List.length_map]
  refine cSplit (fun h => ?_) (fun h => ?_)
  · simp only [go_sem]
    simp only [ne_eq, decide_not, Bool.not_eq_true', decide_eq_false_iff_not] at h
    have : xs ≠ ys := fun e => h (by rw [e])
    simp [this]
  · simp only [ne_eq, decide_not, Bool.not_eq_false', decide_eq_true_eq] at h
    simp only [go_sem]
    refine LoopK.intro (fun i : Nat => ⟨[.d (.sl 1 (xs.map eI)), .d (.sl 1 (ys.map eI)), .junk, .junk, .d (.bool false), .d (.int .i64 i), .junk, .junk, .junk, .junk, .junk, .junk, .junk, .junk, .junk, .junk, .junk, .junk, .junk, .junk, .junk, .junk, .junk, .junk, .junk, .junk], []⟩)
      (fun i => xs.length - i) (fun i => i ≤ xs.length ∧ xs.take i = ys.take i) 0 [] ⟨by omega, by simp⟩ ?_ ?_
    · simp only [go_sem]; simp
    · rintro i ⟨hi, he⟩
      simp only [go_sem, List.length_map]
      refine cSplit (fun h1 => ?_) (fun h1 => ?_)
      · simp only [decide_eq_true_eq] at h1
        have hxi := map_at eI xs i (by omega)
        have hyi := map_at eI ys i (by omega)
        have hw := inc (i := i) (m := xs.length) (by omega) hm
        simp only [go_sem]
        refine drawE_intro [[.post, .un, .post, .post, .un, .un, .un, .un, .post], [.un, .post, .post, .post, .un, .un, .un, .un, .post], [.pre, .pre, .post, .post, .un, .un, .un, .un, .post], [.pre, .pre, .pre, .post, .un, .un, .un, .un, .post], [.un, .un, .un, .un, .post, .un, .post, .post, .post], [.un, .un, .un, .un, .un, .post, .post, .post, .post], [.un, .un, .un, .un, .pre, .pre, .post, .post, .post], [.un, .un, .un, .un, .pre, .pre, .pre, .post, .post], [.pre, .pre, .pre, .pre, .pre, .pre, .pre, .pre, .post]] (by kernel_rfl) (by kernel_rfl) ?_
        simp only [go_sem, List.length_map, Int.toNat_natCast, hxi, hyi, eI]
        refine ⟨⟨by omega, by omega⟩, ⟨by omega, by omega⟩, cSplit (fun h2 => ?_) (fun h2 => ?_)⟩
        · simp only [go_sem]
          have : xs ≠ ys := fun e => by subst e; simp at h2
          simp [this]
        · simp only [go_sem, hw]
          refine RoundE.intro (i + 1) [] ⟨by omega, ?_⟩ (by omega) ?_
          · rw [List.take_add_one, List.take_add_one, he]
            simp only [ne_eq, decide_not, Bool.not_eq_false', decide_eq_true_eq] at h2
            rw [List.getElem?_eq_getElem (by omega), List.getElem?_eq_getElem (by omega), h2]
          · simp only [go_sem]
      · simp only [go_sem]
        simp only [decide_eq_false_iff_not] at h1
        have : xs = ys := by rw [List.take_of_length_le (by omega), List.take_of_length_le (by omega)] at he; exact he
        simp [this]
def stN : Nat → St
  | 0 => ⟨[.ptr 0 0 0, .ptr 1 0 0, .junk, .d (.int .i64 0), .junk, .junk, .junk, .junk, .junk, .junk, .junk, .junk], [.box [.nils 1, .d (.int .i64 0)], .box [.nils 1, .d (.int .i64 0)]]⟩
  | n + 1 => ⟨[.ptr 0 0 0, .ptr 1 0 0, .junk, .d (.int .i64 ((n + 1 : Nat) : Int)), .junk, .junk, .junk, .junk, .junk, .junk, .junk, .junk], [.box [.nils 1, .d (.int .i64 0)], .box [.sl 2 0 (n + 1), .d (.int .i64 0)], .arr 1 (List.replicate (n + 1) [.int .i64 (-1)]) true]⟩

theorem impl_NewCells  : PureCall Try.prog 9 [] [.agg [.sl 1 (List.replicate 64 [.int .i64 (-1)]), .int .i64 0]] := by
  refine pure_ev Try.func9 rfl Try.call9 Try.checked.mixed [.junk, .junk, .junk, .junk, .junk, .junk, .junk, .junk, .junk, .junk, .junk, .junk] rfl [.cell 0 24] rfl ?_
  intro _
  simp only [go_sem]
  refine LoopK.intro stN (fun n => 64 - n) (fun n => n ≤ 64) 0 [0, 1] (by decide) ?_ ?_
  · simp only [stN, go_sem]
    simp
  · intro n hn
    cases n with
    | zero =>
      simp only [stN, go_sem]
      refine ⟨by decide, RoundE.intro 1 [0, 1, 3] (by omega) (by omega) ?_⟩
      simp only [stN, go_sem]
      simp [w64]
    | succ n =>
      simp only [stN, go_sem]
      refine cSplit (fun h => ?_) (fun h => ?_)
      · simp only [go_sem]
        simp only [decide_eq_true_eq] at h
        refine ⟨by decide, ⟨by omega, rfl⟩, RoundE.intro (n + 2) [0, 1, 4] (by omega) (by omega) ?_⟩
        have hw : IntKind.i64.wrap (((n + 1 : Nat) : Int) + 1) = ((n + 1 + 1 : Nat) : Int) := by rw [w64] <;> omega
        simp only [stN, go_sem, hw]
        simp [List.replicate_succ']
      · simp only [go_sem]
        simp only [decide_eq_false_iff_not] at h
        have h63 : n = 63 := by omega
        subst h63
        simp [outOA]

def heldG : Int → List Int → Int
  | k, [] => k
  | k, x :: xs => if x = k then heldG (IntKind.i64.wrap (k + 1)) xs else -1

theorem laws_heldIntS (xs : List Int) (k : Int) : PureCall Try.prog 28 [.one (.sl 1 (xs.map eI)), .one (.int .i64 k)] [.one (.int .i64 (heldG k xs))] := by
  refine pure_ev Try.func28 rfl Try.call28 Try.checked.mixed [.d (.sl 1 (xs.map eI)), .d (.int .i64 k), .junk, .junk, .junk, .junk, .junk, .junk, .junk, .junk, .junk, .junk, .junk, .junk, .junk, .junk, .junk, .junk, .junk, .junk, .junk] rfl [.tmp 4] rfl ?_
  intro ⟨⟨hm, _⟩, _⟩
  rw [List.length_map] at hm
  simp only [go_sem, List.length_map]
  refine LoopK.intro (fun i : Nat => ⟨[.d (.sl 1 (xs.map eI)), .d (.int .i64 (mkEnd k i)), .junk, .junk, .d (.int .i64 0), .d (.int .i64 i), .junk, .junk, .junk, .junk, .junk, .junk, .junk, .junk, .junk, .junk, .junk, .junk, .junk, .junk, .junk], []⟩)
      (fun i => xs.length - i) (fun i => i ≤ xs.length ∧ heldG k xs = heldG (mkEnd k i) (xs.drop i)) 0 [] ⟨by omega, by simp [mkEnd]⟩ ?_ ?_
  · simp only [go_sem]; simp [mkEnd]
  · rintro i ⟨hi, he⟩
    simp only [go_sem, List.length_map]
    refine cSplit (fun h1 => ?_) (fun h1 => ?_)
    · simp only [decide_eq_true_eq] at h1
      have hlt : i < xs.length := by omega
      have hxi := map_at eI xs i hlt
      have hw := inc (i := i) (m := xs.length) (by omega) hm
      rw [List.drop_eq_getElem_cons hlt, heldG] at he
      simp only [go_sem, List.length_map, Int.toNat_natCast, hxi, eI]
      refine ⟨⟨by omega, by omega⟩, cSplit (fun h2 => ?_) (fun h2 => ?_)⟩
      · simp only [go_sem]
        simp only [ne_eq, decide_not, Bool.not_eq_true', decide_eq_false_iff_not] at h2
        rw [if_neg h2] at he
        simp [he]
      · simp only [go_sem, hw]
        simp only [ne_eq, decide_not, Bool.not_eq_false', decide_eq_true_eq] at h2
        rw [if_pos h2] at he
        refine RoundE.intro (i + 1) [] ⟨by omega, he⟩ (by omega) ?_
        simp only [go_sem]; simp [mkEnd]
    · simp only [go_sem]
      simp only [decide_eq_false_iff_not] at h1
      rw [List.drop_eq_nil_of_le (by omega), heldG] at he
      simp [he]

theorem mkEnd_shift (k : Int) : ∀ n, mkEnd k (n + 1) = mkEnd (IntKind.i64.wrap (k + 1)) n
  | 0 => rfl
  | n + 1 => by rw [mkEnd, mkEnd_shift k n]; rfl
theorem held_mk : ∀ (n : Nat) (k : Int), heldG k ((List.range n).map (mkEnd k)) = mkEnd k n
  | 0, k => rfl
  | n + 1, k => by
    rw [List.range_succ_eq_map, List.map_cons, List.map_map, heldG, if_pos (show mkEnd k 0 = k from rfl), mkEnd_shift]
    have : (mkEnd k ∘ Nat.succ) = mkEnd (IntKind.i64.wrap (k + 1)) := by funext i; exact mkEnd_shift k i
    rw [this]; exact held_mk n _

theorem laws_eqCells (xs ys : List Int) (r q : Int) : PureCall Try.prog 10 [.agg [.sl 1 (xs.map eI), .int .i64 r], .agg [.sl 1 (ys.map eI), .int .i64 q]] [.one (.bool (decide (xs = ys) && decide (r = q)))] := by
  refine pure_ev Try.func10 rfl Try.call10 Try.checked.mixed [.agg [.d (.sl 1 (xs.map eI)), .d (.int .i64 r)], .agg [.d (.sl 1 (ys.map eI)), .d (.int .i64 q)], .junk, .junk, .junk, .junk, .junk, .junk, .junk, .junk, .junk, .junk, .junk, .junk, .junk, .junk] rfl [.tmp 4] rfl ?_
  intro _
  simp only [go_sem]
  refine CallS.intro (laws_eqIntS xs ys) ?_
  simp only [go_sem]
  refine cSplit (fun h => ?_) (fun h => ?_)
  · simp only [go_sem]; simp at h; simp [h]
  · simp only [go_sem]
    refine cSplit (fun h2 => ?_) (fun h2 => ?_)
    · simp only [go_sem]; simp at h2; simp [h2]
    · simp only [go_sem]; simp at h h2; simp [h, h2]

theorem laws_heldCells (xs : List Int) (r k : Int) : PureCall Try.prog 12 [.agg [.sl 1 (xs.map eI), .int .i64 r], .one (.int .i64 k)] [.one (.int .i64 (if heldG k xs < 0 then -1 else heldG k xs))] := by
  refine pure_ev Try.func12 rfl Try.call12 Try.checked.mixed [.agg [.d (.sl 1 (xs.map eI)), .d (.int .i64 r)], .d (.int .i64 k), .junk, .junk, .junk, .junk, .junk, .junk, .junk, .junk, .junk, .junk] rfl [.tmp 4] rfl ?_
  intro _
  simp only [go_sem]
  refine CallS.intro (laws_heldIntS xs k) ?_
  simp only [go_sem]
  refine cSplit (fun h => ?_) (fun h => ?_)
  · simp only [go_sem]; simp at h; simp [h]
  · simp only [go_sem]; simp at h; simp; omega

theorem laws_markCells (xs : List Int) (r k : Int) : MutCall Try.prog 11 [.agg [.sl 1 (xs.map eI), .int .i64 r], .one (.int .i64 k)] [.agg [.sl 1 ((mkL k xs xs.length).map eI), .int .i64 r], .one (.int .i64 k)] [.one (.int .i64 (mkEnd k xs.length))] := by
  refine mut_ev Try.func11 rfl Try.call11 Try.checked.mixed [.agg [.sl 0 0 (xs.map eI).length, .d (.int .i64 r)], .d (.int .i64 k), .junk, .junk, .junk, .junk, .junk, .junk, .junk, .junk] [.arr 1 (xs.map eI) true] [.agg [.sl 0 0 (xs.map eI).length, .d (.int .i64 r)], .d (.int .i64 k)] rfl rfl rfl [.tmp 4] rfl ?_
  intro _
  have hl := mkL_len k xs xs.length (by omega)
  simp only [go_sem, List.length_map]
  refine CallS.mut (laws_markIntS xs k) (ids := [0]) (p := _) (upd := [(0, .arr 1 ((mkL k xs xs.length).map eI) true)]) ?_ (by simp) (by simp only [go_sem, List.length_map]; rfl) ?_ rfl (by simp) ?_
  · simp [toOAs, toOA, toD, hget, D.flat]; exact List.take_of_length_le (by simp)
  · simp
  · simp only [go_sem]
    simp [outOA, hl]
    exact List.take_of_length_le (by simp [hl])
def stN8 : Nat → St
  | 0 => ⟨[.ptr 0 0 0, .ptr 1 0 0, .d (.int .i64 0), .junk, .junk, .junk, .junk, .junk, .junk, .junk, .junk, .junk, .junk, .junk], [.box [.nils 1, .d (.int .i64 0)], .box [.nils 1, .d (.int .i64 0)]]⟩
  | n + 1 => ⟨[.ptr 0 0 0, .ptr 1 0 0, .d (.int .i64 ((n + 1 : Nat) : Int)), .junk, .junk, .junk, .junk, .junk, .junk, .junk, .junk, .junk, .junk, .junk], [.box [.nils 1, .d (.int .i64 0)], .box [.sl 2 0 (n + 1), .d (.int .i64 0)], .arr 1 (List.replicate (n + 1) [.int .i64 (-1)]) true]⟩

theorem spec_NewCells  : PureCall Try.prog 8 [] [.agg [.sl 1 (List.replicate 64 [.int .i64 (-1)]), .int .i64 0]] := by
  refine pure_ev Try.func8 rfl Try.call8 Try.checked.mixed [.junk, .junk, .junk, .junk, .junk, .junk, .junk, .junk, .junk, .junk, .junk, .junk, .junk, .junk] rfl [.cell 0 24] rfl ?_
  intro _
  simp only [go_sem]
  refine LoopK.intro stN8 (fun n => 64 - n) (fun n => n ≤ 64) 0 [0, 1] (by decide) ?_ ?_
  · simp only [stN8, go_sem]
    simp
  · intro n hn
    cases n with
    | zero =>
      simp only [stN8, go_sem]
      refine ⟨by decide, RoundE.intro 1 [0, 1, 3] (by omega) (by omega) ?_⟩
      simp only [stN8, go_sem]
      simp [w64]
    | succ n =>
      simp only [stN8, go_sem]
      refine cSplit (fun h => ?_) (fun h => ?_)
      · simp only [go_sem]
        simp only [decide_eq_true_eq] at h
        refine ⟨by decide, ⟨by omega, rfl⟩, RoundE.intro (n + 2) [0, 1, 4] (by omega) (by omega) ?_⟩
        have hw : IntKind.i64.wrap (((n + 1 : Nat) : Int) + 1) = ((n + 1 + 1 : Nat) : Int) := by rw [w64] <;> omega
        simp only [stN8, go_sem, hw]
        simp [List.replicate_succ']
      · simp only [go_sem]
        simp only [decide_eq_false_iff_not] at h
        have h63 : n = 63 := by omega
        subst h63
        simp [outOA]


theorem rep64 : List.replicate 64 [D.int .i64 (-1)] = (List.replicate 64 (-1 : Int)).map eI := by rw [List.map_replicate]; rfl

theorem laws_FnExactNewCells  : PureCall Try.prog 3 [] [.one (.bool true)] := by
  refine pure_ev Try.func3 rfl Try.call3 Try.checked.mixed [.junk, .junk, .junk, .junk, .junk, .junk, .junk, .junk, .junk, .junk, .junk, .junk, .junk, .junk, .junk, .junk, .junk, .junk, .junk, .junk, .junk, .junk, .junk, .junk, .junk, .junk, .junk, .junk, .junk, .junk, .junk, .junk, .junk, .junk, .junk, .junk] rfl [.tmp 0] rfl ?_
  intro _
  have f8 := spec_NewCells
  have f9 := impl_NewCells
  rw [rep64] at f8 f9
  generalize hxs : List.replicate 64 (-1 : Int) = xs at f8 f9
  have hlen : xs.length = 64 := by rw [← hxs]; rfl
  simp only [go_sem]
  refine CallS.intro f8 ?_
  simp only [go_sem, List.length_map]
  refine CallS.intro f9 ?_
  simp only [go_sem, List.length_map]
  refine CallS.intro (laws_eqCells xs xs 0 0) ?_
  simp only [go_sem, List.length_map, decide_true, Bool.and_self]
  refine CallS.mut (laws_markCells xs 0 1) (ids := [2]) (p := _) (upd := [(2, .arr 1 ((mkL 1 xs xs.length).map eI) true)]) ?_ (by simp) (by simp only [go_sem, List.length_map]; rfl) ?_ rfl (by simp) ?_
  · simp only [go_sem, List.length_map]
  · simp
  have hl := mkL_len 1 xs xs.length (by omega)
  have hh : heldG 1 (mkL 1 xs xs.length) = 65 := by
    unfold mkL
    rw [List.drop_length, List.append_nil, held_mk, hlen]; kernel_rfl
  have hk : mkEnd 1 xs.length = 65 := by rw [hlen]; kernel_rfl
  have f12 := laws_heldCells (mkL 1 xs xs.length) 0 1
  rw [hh] at f12
  have htk : (List.map eI (mkL 1 xs xs.length)).take xs.length = List.map eI (mkL 1 xs xs.length) := List.take_of_length_le (by simp [hl])
  simp only [go_sem, List.length_map, hl, htk, hk]
  refine CallS.intro f12 ?_
  simp only [go_sem, List.length_map, hl, htk, hk, ne_eq, not_true_eq_false]
  refine CallS.intro f9 ?_
  simp only [go_sem, List.length_map, hl, htk, hk, ne_eq, not_true_eq_false]
  refine CallS.intro (laws_eqCells xs xs 0 0) ?_
  simp only [go_sem, List.length_map, decide_true, Bool.and_self, hl, htk]
  refine CallS.intro f12 ?_
  simp only [go_sem, List.length_map, hl, htk, hk, ne_eq, not_true_eq_false]
end Gv
