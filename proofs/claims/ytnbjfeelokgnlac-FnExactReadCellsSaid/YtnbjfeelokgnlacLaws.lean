/-
  The laws of the helper functions of the statements: copying, counting, comparing, marking. Printed by a program of ours.
-/
import Derived.Test.YtnbjfeelokgnlacLawKit
namespace Gv
open Go Go.Proofs

set_option maxRecDepth 100000 in
theorem laws_szIntS (xs : List Int) (left : Int) (hl : 0 ≤ left ∧ left ≤ 1048576) : PureCall Try.prog 11 [.one (.sl 1 (xs.map eI)), .one (.int .i64 left)] [.one (.int .i64 (szB (xs.length) left))] := by
  refine pure_ev Try.func11 rfl Try.call11 Try.checked.mixed [.d (.sl 1 (xs.map eI)), .d (.int .i64 left), .junk, .junk, .junk, .junk, .junk, .junk, .junk, .junk, .junk, .junk] rfl [.tmp 4] rfl ?_
  intro ok
  have hm := len_of ok
  have hw := wsub hl hm
  simp only [go_sem, List.length_map, hw]
  refine cSplit (fun h => ?_) (fun h => ?_)
  · simp only [decide_eq_true_eq] at h; simp only [go_sem]; rw [szB_lt (by omega)]
  · simp only [decide_eq_false_iff_not] at h; simp only [go_sem]
    rw [szB_ge (by omega)]
def TCells.bulk (x : TCells) : Nat := x.bytes.length
set_option maxRecDepth 100000 in
theorem laws_szCells (x : TCells) (left : Int) (hl : 0 ≤ left ∧ left ≤ 1048576) : PureCall Try.prog 4 [.agg [.sl 1 (x.bytes.map eI), .int .i64 x.read], .one (.int .i64 left)] [.one (.int .i64 (szB (TCells.bulk x) left))] := by
  refine pure_ev Try.func4 rfl Try.call4 Try.checked.mixed [.agg [.d (.sl 1 (x.bytes.map eI)), .d (.int .i64 x.read)], .d (.int .i64 left), .junk, .junk, .junk, .junk, .junk, .junk, .junk, .junk, .junk, .junk] rfl [.tmp 4] rfl ?_
  intro ok
  simp only [go_sem, List.length_map]
  refine CallS.intro (laws_szIntS x.bytes (left) (by omega)) ?_
  simp only [go_sem, List.length_map]
  refine cSplit (fun h => ?_) (fun h => ?_)
  · simp only [decide_eq_true_eq] at h; have h := szB_neg h; simp only [go_sem]; rw [szB_lt (by simp only [TCells.bulk]; omega)]
  simp only [decide_eq_false_iff_not] at h; obtain ⟨e0, h⟩ := szB_pos h; simp only [go_sem, e0]
  try simp only [go_sem]
  rw [show szB (TCells.bulk x) left = left - ((x.bytes.length : Nat) : Int) from by rw [szB_ge (by simp only [TCells.bulk]; omega)]; simp only [TCells.bulk]; try omega]
set_option maxRecDepth 100000 in
theorem laws_toIntS (xs : List Int) (hx : xs.length ≤ 1048576) : PureCall Try.prog 15 [.one (.sl 1 (xs.map eI))] [.one (.sl 1 (xs.map eI))] := by
  refine pure_ev Try.func15 rfl Try.call15 Try.checked.mixed [.d (.sl 1 (xs.map eI)), .junk, .junk, .junk, .junk, .junk, .junk, .junk, .junk, .junk, .junk, .junk, .junk, .junk, .junk, .junk, .junk, .junk, .junk, .junk, .junk, .junk] rfl [.tmp 2] rfl ?_
  intro _
  have hm : xs.length ≤ maxLen := by simp only [maxLen]; omega
  simp only [go_sem, List.length_map, Int.toNat_natCast]
  refine ⟨⟨by omega, by omega, hm⟩, ?_⟩
  refine LoopK.intro (fun i : Nat => ⟨[.d (.sl 1 (xs.map eI)), .junk, .junk, .sl 0 0 xs.length, .d (.int .i64 i), .junk, .junk, .junk, .junk, .junk, .junk, .junk, .junk, .junk, .junk, .junk, .junk, .junk, .junk, .junk, .junk, .junk], [.arr 1 ((cpL (0 : Int) xs i).map eI) true]⟩)
      (fun i => xs.length - i) (fun i => i ≤ xs.length) 0 [0] (by omega) ?_ ?_
  · simp only [go_sem]; simp [cpL, eI]
  · intro i hi
    simp only [go_sem, List.length_map]
    refine cSplit (fun h1 => ?_) (fun h1 => ?_)
    · simp only [decide_eq_true_eq] at h1
      have hlt : i < xs.length := by omega
      have hxi := map_at eI xs i hlt
      have hw := inc hlt hm
      have hg := cpL_get (0 : Int) eI xs i hlt
      have hs := cpL_set (0 : Int) eI xs i hlt
      have hl := cpL_len (0 : Int) xs i (by omega)
      simp only [eI] at hs hg hxi
      simp only [go_sem, List.length_map, List.map_nil, Int.toNat_natCast, hxi, hg, hs, hl, hw, eI]
      refine ⟨⟨by omega, by omega⟩, ?_⟩
      refine ⟨⟨by omega, by omega⟩, ⟨by omega, by simp⟩, RoundE.intro (i + 1) [0] (by omega) (by omega) ?_⟩
      simp only [go_sem]; simp
    · simp only [go_sem]
      simp only [decide_eq_false_iff_not] at h1
      have hi2 : i = xs.length := by omega
      subst hi2
      rw [cpL_all]
      simp [outOA]
      exact List.take_of_length_le (by simp)
set_option maxRecDepth 100000 in
theorem laws_toCells (x : TCells) (hx : TCells.bulk x ≤ 1048576) : PureCall Try.prog 6 [.agg [.sl 1 (x.bytes.map eI), .int .i64 x.read]] [.agg [.sl 1 (x.bytes.map eI), .int .i64 x.read]] := by
  refine pure_ev Try.func6 rfl Try.call6 Try.checked.mixed [.agg [.d (.sl 1 (x.bytes.map eI)), .d (.int .i64 x.read)], .junk, .junk, .junk, .junk, .junk, .junk, .junk, .junk, .junk, .junk, .junk] rfl [.cell 2 26] rfl ?_
  intro _
  simp only [TCells.bulk] at hx
  try simp only [go_sem, List.length_map, List.take_length, List.length_take, Nat.min_self]
  repeat' (first
    | (refine CallS.intro (by first | (apply laws_toIntS <;> first | assumption | omega)) ?_; simp only [go_sem, List.length_map, List.take_length, List.length_take, Nat.min_self])
    | (refine CallK.intro (by first | (apply laws_toIntS <;> first | assumption | omega)) ?_; simp only [go_sem, List.length_map, List.take_length, List.length_take, Nat.min_self])
    | (with_reducible refine gTrueS ?_; simp only [go_sem, List.length_map, List.take_length, List.length_take, Nat.min_self]) | (with_reducible refine gFalseS ?_; simp only [go_sem, List.length_map, List.take_length, List.length_take, Nat.min_self])
    | (refine gSymS ?_; simp only [go_sem, List.length_map, List.take_length, List.length_take, Nat.min_self]) | (refine gSym ?_; simp only [go_sem, List.length_map, List.take_length, List.length_take, Nat.min_self])
    | (refine cSplit (fun h => ?_) (fun h => ?_) <;> simp only [go_sem, List.length_map, List.take_length, List.length_take, Nat.min_self])
    | (with_reducible refine And.intro ?_ ?_; (focus (first | omega | (exact ⟨by omega, by omega⟩) | (simp; done)))))
  all_goals simp
set_option maxRecDepth 100000 in
theorem laws_eqIntS (xs ys : List Int) : PureCall Try.prog 18 [.one (.sl 1 (xs.map eI)), .one (.sl 1 (ys.map eI))] [.one (.bool (decide (xs = ys)))] := by
  refine pure_ev Try.func18 rfl Try.call18 Try.checked.mixed [.d (.sl 1 (xs.map eI)), .d (.sl 1 (ys.map eI)), .junk, .junk, .junk, .junk, .junk, .junk, .junk, .junk, .junk, .junk, .junk, .junk, .junk, .junk, .junk, .junk, .junk, .junk, .junk, .junk, .junk, .junk, .junk, .junk] rfl [.tmp 4] rfl ?_
  intro ok
  have hm := len_of ok
  simp only [go_sem, List.length_map]
  refine cSplit (fun h => ?_) (fun h => ?_)
  · simp only [go_sem]
    simp only [ne_eq, decide_not, Bool.not_eq_true', decide_eq_false_iff_not] at h
    have : xs ≠ ys := fun e => h (by rw [e])
    simp [this]
  · simp only [ne_eq, decide_not, Bool.not_eq_false', decide_eq_true_eq] at h
    simp only [go_sem]
    refine LoopK.intro (fun i : Nat => ⟨[.d (.sl 1 (xs.map eI)), .d (.sl 1 (ys.map eI)), .junk, .junk, .d (.bool false), .d (.int .i64 i), .junk, .junk, .junk, .junk, .junk, .junk, .junk, .junk, .junk, .junk, .junk, .junk, .junk, .junk, .junk, .junk, .junk, .junk, .junk, .junk], []⟩)
      (fun i => xs.length - i) (fun i => i ≤ xs.length ∧ xs.take i = ys.take i) 0 [] ⟨by omega, by simp⟩ ?_ ?_
    · simp only [go_sem]; simp
    · rintro i ⟨hi, he⟩
      simp only [go_sem, List.length_map]
      refine cSplit (fun h1 => ?_) (fun h1 => ?_)
      · simp only [decide_eq_true_eq] at h1
        have hxi := map_at eI xs i (by omega)
        have hyi := map_at eI ys i (by omega)
        have hw := inc (i := i) (m := xs.length) (by omega) hm
        simp only [go_sem]
        refine drawE_intro [[.post, .un, .post, .post, .un, .un, .un, .un, .post], [.un, .post, .post, .post, .un, .un, .un, .un, .post], [.pre, .pre, .post, .post, .un, .un, .un, .un, .post], [.pre, .pre, .pre, .post, .un, .un, .un, .un, .post], [.un, .un, .un, .un, .post, .un, .post, .post, .post], [.un, .un, .un, .un, .un, .post, .post, .post, .post], [.un, .un, .un, .un, .pre, .pre, .post, .post, .post], [.un, .un, .un, .un, .pre, .pre, .pre, .post, .post], [.pre, .pre, .pre, .pre, .pre, .pre, .pre, .pre, .post]] (by kernel_rfl) (by rfl) ?_
        simp only [go_sem, List.length_map, Int.toNat_natCast, hxi, hyi, eI]
        refine ⟨⟨by omega, by omega⟩, ⟨by omega, by omega⟩, ?_⟩
        refine cSplit (fun h2 => ?_) (fun h2 => ?_)
        · simp only [go_sem]
          have : xs ≠ ys := fun e => by subst e; simp at h2
          simp [this]
        · simp only [go_sem, hw]
          have h3 : xs[i]'(by omega) = ys[i]'(by omega) := by simpa using h2
          refine RoundE.intro (i + 1) [] ⟨by omega, take_eq he (by omega) (by omega) h3⟩ (by omega) ?_
          simp only [go_sem]
      · simp only [go_sem]
        simp only [decide_eq_false_iff_not] at h1
        have : xs = ys := by rw [List.take_of_length_le (by omega), List.take_of_length_le (by omega)] at he; exact he
        simp [this]
set_option maxRecDepth 100000 in
theorem laws_eqCells (x y : TCells) : PureCall Try.prog 8 [.agg [.sl 1 (x.bytes.map eI), .int .i64 x.read], .agg [.sl 1 (y.bytes.map eI), .int .i64 y.read]] [.one (.bool (decide (x = y)))] := by
  refine pure_ev Try.func8 rfl Try.call8 Try.checked.mixed [.agg [.d (.sl 1 (x.bytes.map eI)), .d (.int .i64 x.read)], .agg [.d (.sl 1 (y.bytes.map eI)), .d (.int .i64 y.read)], .junk, .junk, .junk, .junk, .junk, .junk, .junk, .junk, .junk, .junk, .junk, .junk, .junk, .junk] rfl [.tmp 4] rfl ?_
  obtain ⟨a0, a1⟩ := x
  obtain ⟨b0, b1⟩ := y
  simp only [TCells.mk.injEq]
  intro _
  try simp only [go_sem, List.length_map]
  repeat' (first
    | (refine CallS.intro (by first | (apply laws_eqIntS <;> first | assumption | omega)) ?_; simp only [go_sem, List.length_map])
    | (refine CallK.intro (by first | (apply laws_eqIntS <;> first | assumption | omega)) ?_; simp only [go_sem, List.length_map])
    | (with_reducible refine gTrueS ?_; simp only [go_sem, List.length_map]) | (with_reducible refine gFalseS ?_; simp only [go_sem, List.length_map])
    | (refine gSymS ?_; simp only [go_sem, List.length_map]) | (refine gSym ?_; simp only [go_sem, List.length_map])
    | (refine cSplit (fun h => ?_) (fun h => ?_) <;> simp only [go_sem, List.length_map])
    | (with_reducible refine And.intro ?_ ?_; (focus (first | omega | (exact ⟨by omega, by omega⟩) | (simp; done)))))
  all_goals simp_all
set_option maxRecDepth 100000 in
theorem laws_markIntS (xs : List Int) (k : Int) : MutCall Try.prog 19 [.one (.sl 1 (xs.map eI)), .one (.int .i64 k)] [.one (.sl 1 ((mkL (id : Int → Int) 1 k xs xs.length).map eI)), .one (.int .i64 k)] [.one (.int .i64 (nxs (1 * xs.length) k))] := by
  refine mut_ev Try.func19 rfl Try.call19 Try.checked.mixed [.sl 0 0 (xs.map eI).length, .d (.int .i64 k), .junk, .junk, .junk, .junk, .junk, .junk, .junk, .junk, .junk, .junk, .junk, .junk, .junk, .junk, .junk, .junk, .junk] [.arr 1 (xs.map eI) true] [.sl 0 0 (xs.map eI).length, .d (.int .i64 k)] rfl rfl rfl [.tmp 4] rfl ?_
  intro ok
  have hm := len_of ok
  simp only [go_sem, List.length_map]
  refine LoopK.intro (fun i : Nat => ⟨[.sl 0 0 xs.length, .d (.int .i64 (nxs (1 * i) k)), .junk, .junk, .d (.int .i64 0), .d (.int .i64 i), .junk, .junk, .junk, .junk, .junk, .junk, .junk, .junk, .junk, .junk, .junk, .junk, .junk], [.arr 1 ((mkL (id : Int → Int) 1 k xs i).map eI) true]⟩)
      (fun i => xs.length - i) (fun i => i ≤ xs.length) 0 [0] (by omega) ?_ ?_
  · simp only [go_sem]; simp [mkL_zero, nxs]
  · intro i hi
    simp only [go_sem]
    refine cSplit (fun h1 => ?_) (fun h1 => ?_)
    · simp only [decide_eq_true_eq] at h1
      have hlt : i < xs.length := by omega
      have hg := mkL_get (id : Int → Int) 1 eI k xs i hlt
      have hs := mkL_set (id : Int → Int) 1 eI k xs i hlt
      have hl := mkL_len (id : Int → Int) 1 k xs i (by omega)
      have hw := inc hlt hm
      have hn : nxs (1 * (i + 1)) k = nx (nxs (1 * i) k) := rfl
      have hk : ∀ (l : List (List D)) (a : List D), l.length = xs.length → (l.set i a)[i]? = some a := fun l a hl => by rw [List.getElem?_set_self (by omega)]
      simp only [eI, id] at hs hg
      simp only [nx, Nat.one_mul] at hn hs
      generalize hL : (mkL (id : Int → Int) 1 k xs i).map eI = rows at *
      have hrl : rows.length = xs.length := by rw [← hL, List.length_map, hl]
      simp only [go_sem, Int.toNat_natCast, hg, hw]
      repeat' (first
        | (refine CallS.intro (laws_markText _) ?_; simp only [go_sem, Int.toNat_natCast, hg, hw, hk _ _ hrl, List.length_set, hrl, List.set_set])
        | (with_reducible refine And.intro (by omega) ?_)
        | (with_reducible refine And.intro (by exact ⟨by omega, by omega⟩) ?_)
        | (with_reducible refine And.intro (by (try simp only [go_sem, List.length_set, hrl, hg, hk _ _ hrl, Int.toNat_natCast, List.set_set, true_and, and_true]) <;> first | omega | exact ⟨by omega, by simp⟩ | (simp; done)) ?_; try simp only [go_sem, Int.toNat_natCast, hg, hw, hk _ _ hrl, List.length_set, hrl, List.set_set])
        | (refine RoundE.intro (i + 1) [0] (by omega) (by omega) ?_))
      try simp only [go_sem, hn, hs, List.set_set]
      simp [hn, hs]
    · simp only [go_sem]
      simp only [decide_eq_false_iff_not] at h1
      have : i = xs.length := by omega
      subst this
      have hl := mkL_len (id : Int → Int) 1 k xs xs.length (by omega)
      simp [outOA, hl]
      rw [List.take_of_length_le (by simp [hl])]
def TCells.mkd (k : Int) (x : TCells) : TCells := { x with bytes := mkL (id : Int → Int) 1 k x.bytes x.bytes.length }
def TCells.adv (k : Int) (x : TCells) : Int := (nxs (1 * x.bytes.length) k)
def TCells.held (k : Int) (x : TCells) : Int := if heldL (id : Int → Int) 1 k x.bytes < 0 then -1 else heldL (id : Int → Int) 1 k x.bytes
def TCells.cnt (x : TCells) : Nat := 1 * x.bytes.length
theorem TCells.adv_eq {k : Int} (hk : 0 ≤ k) (x : TCells) (h : k + TCells.cnt x ≤ 4611686018427387904) : TCells.adv k x = k + TCells.cnt x := by
  simp only [TCells.adv, TCells.cnt] at *
  have a0 : nxs (1 * x.bytes.length) (k) = k + ((1 * x.bytes.length : Nat) : Int) := nxs_small (by omega) _ (by omega)
  rw [a0]; try omega
theorem TCells.held_mkd {k : Int} (hk : 0 ≤ k) (x : TCells) (h : k + TCells.cnt x ≤ 4611686018427387904) : TCells.held k (TCells.mkd k x) = TCells.adv k x := by
  simp only [TCells.cnt] at h
  simp only [TCells.adv, TCells.held, TCells.mkd]
  have a0 : nxs (1 * x.bytes.length) (k) = k + ((1 * x.bytes.length : Nat) : Int) := nxs_small (by omega) _ (by omega)
  simp only [held_all, a0]
  repeat rw [if_neg (by omega)]
theorem TCells.adv_nn (x : TCells) (h : TCells.cnt x ≤ 1000000000000) : ¬ TCells.adv 1 x < 0 := by rw [TCells.adv_eq (by omega) x (by omega)]; omega
theorem TCells.held_one (x : TCells) (h : TCells.cnt x ≤ 1000000000000) : TCells.held 1 (TCells.mkd 1 x) = TCells.adv 1 x := TCells.held_mkd (by omega) x (by omega)
@[go_sem] theorem TCells.mkd_len_bytes (k : Int) (x : TCells) : (TCells.mkd k x).bytes.length = x.bytes.length := by simp only [TCells.mkd, mkL_len_self]
@[go_sem] theorem TCells.mkd_take_bytes (k : Int) (x : TCells) : ((TCells.mkd k x).bytes.map eI).take x.bytes.length = (TCells.mkd k x).bytes.map eI := List.take_of_length_le (by simp [TCells.mkd_len_bytes])
@[go_sem] theorem TCells.mkd_Read (k : Int) (x : TCells) : (TCells.mkd k x).read = x.read := rfl
set_option maxRecDepth 100000 in
theorem laws_markCells (x : TCells) (k : Int) : MutCall Try.prog 9 [.agg [.sl 1 (x.bytes.map eI), .int .i64 x.read], .one (.int .i64 k)] [.agg [.sl 1 ((TCells.mkd k x).bytes.map eI), .int .i64 (TCells.mkd k x).read], .one (.int .i64 k)] [.one (.int .i64 (TCells.adv k x))] := by
  refine mut_ev Try.func9 rfl Try.call9 Try.checked.mixed [.agg [.sl 0 0 (x.bytes.map eI).length, .d (.int .i64 x.read)], .d (.int .i64 k), .junk, .junk, .junk, .junk, .junk, .junk, .junk, .junk] [.arr 1 (x.bytes.map eI) true] [.agg [.sl 0 0 (x.bytes.map eI).length, .d (.int .i64 x.read)], .d (.int .i64 k)] rfl rfl rfl [.tmp 4] rfl ?_
  intro _
  have hl0 := fun k => mkL_len (id : Int → Int) 1 k x.bytes x.bytes.length (Nat.le_refl _)
  have ht0 : ∀ k, ((mkL (id : Int → Int) 1 k x.bytes x.bytes.length).map eI).take x.bytes.length = (mkL (id : Int → Int) 1 k x.bytes x.bytes.length).map eI := fun k => List.take_of_length_le (by simp [hl0])
  unfold TCells.mkd TCells.adv
  simp only [go_sem, List.length_map, hl0, ht0]
  refine CallS.mu (laws_markIntS _ _) ?_
  simp only [go_sem, List.length_map, hl0, ht0]
  try (refine And.intro (by simp) ?_; simp only [go_sem, List.length_map, hl0, ht0])
  simp [outOA, hl0, ht0]
set_option maxRecDepth 100000 in
theorem laws_heldIntS (xs : List Int) (k : Int) : PureCall Try.prog 20 [.one (.sl 1 (xs.map eI)), .one (.int .i64 k)] [.one (.int .i64 (heldL (id : Int → Int) 1 k xs))] := by
  refine pure_ev Try.func20 rfl Try.call20 Try.checked.mixed [.d (.sl 1 (xs.map eI)), .d (.int .i64 k), .junk, .junk, .junk, .junk, .junk, .junk, .junk, .junk, .junk, .junk, .junk, .junk, .junk, .junk, .junk, .junk, .junk, .junk, .junk] rfl [.tmp 4] rfl ?_
  intro ok
  have hm := len_of ok
  simp only [go_sem, List.length_map]
  refine LoopK.intro (fun i : Nat => ⟨[.d (.sl 1 (xs.map eI)), .d (.int .i64 (nxs (1 * i) k)), .junk, .junk, .d (.int .i64 0), .d (.int .i64 i), .junk, .junk, .junk, .junk, .junk, .junk, .junk, .junk, .junk, .junk, .junk, .junk, .junk, .junk, .junk], []⟩)
      (fun i => xs.length - i) (fun i => i ≤ xs.length ∧ heldL (id : Int → Int) 1 k xs = heldL (id : Int → Int) 1 (nxs (1 * i) k) (xs.drop i)) 0 [] ⟨by omega, by simp [nxs]⟩ ?_ ?_
  · simp only [go_sem]; simp [nxs]
  · rintro i ⟨hi, he⟩
    simp only [go_sem, List.length_map]
    refine cSplit (fun h1 => ?_) (fun h1 => ?_)
    · simp only [decide_eq_true_eq] at h1
      have hlt : i < xs.length := by omega
      have hxi := map_at eI xs i hlt
      have hw := inc hlt hm
      have hn : nxs (1 * (i + 1)) k = nx (nxs (1 * i) k) := rfl
      have hn2 : nxs 1 (nxs (1 * i) k) = nxs (1 * (i + 1)) k := rfl
      have hb2 : ((i : Nat) : Int) < (xs.length : Int) := h1
      rw [heldL_step (id : Int → Int) 1 _ xs i hlt, hn2] at he
      rw [he]
      clear he
      simp only [id]
      generalize hz : nxs (1 * i) k = z at *
      obtain hxe : ∃ q, xs[i] = q := ⟨_, rfl⟩
      obtain ⟨q, hxe⟩ := hxe
      try simp only [hxe, eI] at hxi
      try simp only [hxe]
      try simp only [go_sem, List.length_map, Int.toNat_natCast, hxi, hw]
      repeat' (first
        | (with_reducible refine gTrueS ?_; simp only [go_sem, List.length_map, Int.toNat_natCast, hxi, hw]) | (with_reducible refine gFalseS ?_; simp only [go_sem, List.length_map, Int.toNat_natCast, hxi, hw])
        | (refine gSymS ?_; simp only [go_sem, List.length_map, Int.toNat_natCast, hxi, hw]) | (refine gSym ?_; simp only [go_sem, List.length_map, Int.toNat_natCast, hxi, hw])
        | (refine cSplit (fun h => ?_) (fun h => ?_) <;> simp only [go_sem, List.length_map, Int.toNat_natCast, hxi, hw])
        | (with_reducible refine And.intro ?_ ?_; (focus (first | omega | (exact ⟨by omega, by omega⟩) | (simp; done)))))
      all_goals first
        | (refine RoundE.intro (i + 1) [] ⟨by omega, ?_⟩ (by omega) ?_
           · simp_all [nx]
           · simp only [go_sem]; simp_all [nx])
        | (simp_all [nx]; done)
    · simp only [go_sem]
      simp only [decide_eq_false_iff_not] at h1
      rw [List.drop_eq_nil_of_le (by omega), heldL] at he
      simp [he]
set_option maxRecDepth 100000 in
theorem laws_heldCells (x : TCells) (k : Int) : PureCall Try.prog 10 [.agg [.sl 1 (x.bytes.map eI), .int .i64 x.read], .one (.int .i64 k)] [.one (.int .i64 (TCells.held k x))] := by
  refine pure_ev Try.func10 rfl Try.call10 Try.checked.mixed [.agg [.d (.sl 1 (x.bytes.map eI)), .d (.int .i64 x.read)], .d (.int .i64 k), .junk, .junk, .junk, .junk, .junk, .junk, .junk, .junk, .junk, .junk] rfl [.tmp 4] rfl ?_
  intro _
  unfold TCells.held
  try simp only [go_sem, List.length_map]
  repeat' (first
    | (refine CallS.intro (by first | (apply laws_heldIntS <;> first | assumption | omega)) ?_; simp only [go_sem, List.length_map])
    | (refine CallK.intro (by first | (apply laws_heldIntS <;> first | assumption | omega)) ?_; simp only [go_sem, List.length_map])
    | (with_reducible refine gTrueS ?_; simp only [go_sem, List.length_map]) | (with_reducible refine gFalseS ?_; simp only [go_sem, List.length_map])
    | (refine gSymS ?_; simp only [go_sem, List.length_map]) | (refine gSym ?_; simp only [go_sem, List.length_map])
    | (refine cSplit (fun h => ?_) (fun h => ?_) <;> simp only [go_sem, List.length_map])
    | (with_reducible refine And.intro ?_ ?_; (focus (first | omega | (exact ⟨by omega, by omega⟩) | (simp; done)))))
  all_goals first | (simp_all; done) | (simp_all; omega)
end Gv
