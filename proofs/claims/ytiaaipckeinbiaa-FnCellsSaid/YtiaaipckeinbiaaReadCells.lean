/-
  Cells are read.
-/
import Derived.Test.YtiaaipckeinbiaaEqCells
namespace Gv
open Go Go.Proofs

theorem isCells_ix {xs : List Int} {r : Int} (h : isCells xs r = true) : xs.length = 64 ∧ 0 ≤ r ∧ r ≤ 64 ∧ ∀ i (hi : i < xs.length), -1 ≤ xs[i] ∧ xs[i] ≤ 255 := by
  simp only [isCells, inB, Bool.and_eq_true, decide_eq_true_eq, allB, List.all_eq_true, List.mem_range] at h
  refine ⟨by omega, by omega, by omega, fun i hi => ?_⟩
  have := h.2 i hi
  rw [List.getElem?_eq_getElem hi] at this
  simp only [okB, inB, Option.getD_some, Bool.and_eq_true, decide_eq_true_eq] at this
  omega

def rcC (xs : List Int) (r : Nat) (most : Int) (k : Nat) : Bool := decide (r + k < 64) && decide (xs[r + k]?.getD 0 ≠ -1) && decide ((k : Int) < most)
def rcK (xs : List Int) (r : Nat) (most : Int) : Nat → Nat → Nat
  | 0, k => k
  | f + 1, k => if rcC xs r most k = true then rcK xs r most f (k + 1) else k
theorem rcK_stop (xs : List Int) (r : Nat) (most : Int) (f k : Nat) (h : rcC xs r most k = false) : rcK xs r most f k = k := by cases f <;> simp [rcK, h]
def rcS (xs : List Int) (r : Nat) : Nat → List Int
  | 0 => xs
  | k + 1 => (rcS xs r k).set (r + k) (-1)
theorem rcS_len (xs : List Int) (r : Nat) : ∀ k, (rcS xs r k).length = xs.length
  | 0 => rfl
  | k + 1 => by rw [rcS, List.length_set, rcS_len xs r k]
theorem rcS_at (xs : List Int) (r : Nat) : ∀ (k i : Nat), r + k ≤ i → (rcS xs r k)[i]? = xs[i]?
  | 0, i, _ => rfl
  | k + 1, i, h => by rw [rcS, List.getElem?_set_ne (by omega)]; exact rcS_at xs r k i (by omega)
def rcI (xs : List Int) (r : Nat) (k : Nat) : List Int := (List.range k).map fun j => xs[r + j]?.getD 0
def byI (n : Int) : UInt8 := UInt8.ofNat n.toNat
def rcN (xs : List Int) (r most : Int) : Nat := if isCells xs r = true then rcK xs r.toNat most 64 0 else 0
def readS (c : TCells) (most : Int) : List UInt8 := (rcI c.bytes c.read.toNat (rcN c.bytes c.read most)).map byI
def readC (c : TCells) (most : Int) : TCells := ⟨rcS c.bytes c.read.toNat (rcN c.bytes c.read most), if isCells c.bytes c.read = true then c.read + rcN c.bytes c.read most else c.read⟩
theorem readC_len (c : TCells) (most : Int) : (readC c most).bytes.length = c.bytes.length := rcS_len _ _ _
theorem rcI_succ (xs : List Int) (r k : Nat) : rcI xs r (k + 1) = rcI xs r k ++ [xs[r + k]?.getD 0] := by simp [rcI, List.range_succ]
theorem bytesL_map : ∀ (l : List Int), bytesL (l.map eU8) = some (l.map byI)
  | [] => rfl
  | n :: l => by simp only [List.map_cons, bytesL, eU8, byte1, bytesL_map l]; rfl
theorem u8_of {n : Int} (h1 : 0 ≤ n) (h2 : n ≤ 255) : IntKind.u8.wrap n = n := w8 h1 h2
theorem flat_eU8 (xs : List Int) : flatE (xs.map eU8) = true := flat_map (fun _ => rfl) xs

set_option maxRecDepth 100000 in
theorem spec_l22Copy (xs : List Int) (r : Int) (hx : xs.length ≤ 1048576) : PureCall Try.prog 42 [.agg [.sl 1 (xs.map eI), .int .i64 r]] [.agg [.sl 1 (xs.map eI), .int .i64 r]] := by
  refine pure_ev Try.func42 rfl Try.call42 Try.checked.mixed [.agg [.d (.sl 1 (xs.map eI)), .d (.int .i64 r)], .junk, .junk, .junk, .junk, .junk, .junk, .junk, .junk, .junk] rfl [.cell 2 29] rfl ?_
  intro _
  try simp only [go_sem]
  repeat' (first
    | (with_reducible refine gTrueS ?_; simp only [go_sem, List.length_map]) | (with_reducible refine gFalseS ?_; simp only [go_sem, List.length_map]) | (with_reducible refine gTrue ?_; simp only [go_sem, List.length_map]) | (with_reducible refine gFalse ?_; simp only [go_sem, List.length_map])
    | (refine gSymS ?_; simp only [go_sem, List.length_map]) | (refine gSym ?_; simp only [go_sem, List.length_map])
    | (refine drawE_intro [[.post, .un, .un, .post, .un, .un, .post, .post], [.un, .post, .post, .post, .un, .un, .post, .post], [.un, .pre, .post, .post, .un, .un, .post, .post], [.pre, .pre, .pre, .post, .un, .un, .post, .post], [.un, .un, .un, .un, .post, .post, .post, .post], [.un, .un, .un, .un, .pre, .post, .post, .post], [.pre, .pre, .pre, .pre, .pre, .pre, .post, .post], [.pre, .pre, .pre, .pre, .pre, .pre, .pre, .post]] (by kernel_rfl) (by rfl) ?_; simp only [go_sem, List.length_map])
    | (refine cSplit (fun h => ?_) (fun h => ?_) <;> simp only [go_sem, List.length_map])
    | (with_reducible refine And.intro ?_ ?_; (focus (first | omega | (exact ⟨by omega, by omega⟩) | (simp; done) | (simp; omega)))))
  all_goals simp
set_option maxRecDepth 100000 in
theorem impl_copyCells (xs : List Int) (r : Int) (hx : xs.length ≤ 1048576) : PureCall Try.prog 33 [.agg [.sl 1 (xs.map eI), .int .i64 r]] [.agg [.sl 1 (xs.map eI), .int .i64 r]] := by
  refine pure_ev Try.func33 rfl Try.call33 Try.checked.mixed [.agg [.d (.sl 1 (xs.map eI)), .d (.int .i64 r)], .junk, .junk, .junk, .junk, .junk, .junk, .junk, .junk] rfl [.cell 2 29] rfl ?_
  intro _
  try simp only [go_sem, List.length_map]
  repeat' (first
    | (with_reducible refine gTrueS ?_; simp only [go_sem, List.length_map]) | (with_reducible refine gFalseS ?_; simp only [go_sem, List.length_map]) | (with_reducible refine gTrue ?_; simp only [go_sem, List.length_map]) | (with_reducible refine gFalse ?_; simp only [go_sem, List.length_map])
    | (refine gSymS ?_; simp only [go_sem, List.length_map]) | (refine gSym ?_; simp only [go_sem, List.length_map])
    | (refine cSplit (fun h => ?_) (fun h => ?_) <;> simp only [go_sem, List.length_map])
    | (with_reducible refine And.intro ?_ ?_; (focus (first | omega | (exact ⟨by omega, by omega⟩) | (simp; done) | (simp; omega)))))
  all_goals simp

def stEnc (n : Int) : Nat → St
  | 0 => ⟨[.d (.int .i64 n), .d (.int .i64 1), .junk, .junk, .d (.str []), .d (.str []), .d (.int .i64 0), .junk, .junk, .junk, .junk, .junk, .junk, .junk, .junk, .junk, .junk, .junk, .junk, .junk, .junk, .junk, .junk, .junk, .junk, .junk, .junk, .junk, .junk, .junk, .junk], []⟩
  | i + 1 => ⟨[.d (.int .i64 0), .d (.int .i64 1), .junk, .junk, .d (.str []), .d (.str [byI n]), .d (.int .i64 ((i + 1 : Nat) : Int)), .junk, .junk, .junk, .junk, .junk, .junk, .junk, .junk, .junk, .junk, .junk, .junk, .junk, .junk, .junk, .junk, .junk, .junk, .junk, .junk, .junk, .junk, .junk, .junk], []⟩
set_option maxRecDepth 100000 in
theorem spec_EncodeFixed_one (n : Int) (h : 0 ≤ n ∧ n ≤ 255) : PureCall Try.prog 61 [.one (.int .i64 n), .one (.int .i64 1)] [.one (.str [byI n])] := by
  refine pure_ev Try.func61 rfl Try.call61 Try.checked.mixed [.d (.int .i64 n), .d (.int .i64 1), .junk, .junk, .junk, .junk, .junk, .junk, .junk, .junk, .junk, .junk, .junk, .junk, .junk, .junk, .junk, .junk, .junk, .junk, .junk, .junk, .junk, .junk, .junk, .junk, .junk, .junk, .junk, .junk, .junk] rfl [.tmp 4] rfl ?_
  intro _
  have h1 : ¬ n < 0 := by omega
  have h2 : n.tmod 256 = n := by rw [Int.tmod_eq_emod_of_nonneg (by omega)]; omega
  have h3 : n.tdiv 256 = 0 := by rw [Int.tdiv_eq_ediv_of_nonneg (by omega)]; omega
  have h4 : IntKind.u8.wrap n = n := w8 h.1 h.2
  have h5 : IntKind.i64.wrap 0 = 0 := by decide
  simp only [go_sem]
  refine CallS.intro (spec_l1In 1 1 7) ?_
  simp only [go_sem]
  repeat (refine gSymS ?_; simp only [go_sem])
  have hz : (bif !inB 1 1 7 then true else decide (n < 0)) = false := by simp [inB, h1]
  rw [hz]
  simp only [go_sem]
  refine LoopK.intro (stEnc n) (fun i => 1 - i) (fun i => i ≤ 1) 0 [] (by omega) ?_ ?_
  · simp only [stEnc, go_sem]
  · intro i hi
    cases i with
    | zero =>
      simp only [stEnc, go_sem, h2, h3, h4, h5]
      refine RoundE.intro 1 [] (by omega) (by omega) ?_
      simp only [stEnc, go_sem]
      simp [byI, w64]
    | succ i =>
      have hi0 : i = 0 := by omega
      subst hi0
      simp only [stEnc, go_sem]
      refine cSplit (fun h6 => absurd (of_decide_eq_true h6) (by omega)) (fun _ => ?_)
      simp only [go_sem]
theorem and255_n {n : Int} (h : 0 ≤ n ∧ n ≤ 255) : bitI .and .i64 n 255 = n := by
  have key : ∀ m : Fin 256, bitI .and .i64 (m.val : Int) 255 = (m.val : Int) := by decide +kernel
  have := key ⟨n.toNat, by omega⟩
  simpa [show (n.toNat : Int) = n from by omega] using this
set_option maxRecDepth 100000 in
theorem spec_l2Byte_one (n : Int) (h : 0 ≤ n ∧ n ≤ 255) : PureCall Try.prog 43 [.one (.int .i64 n)] [.one (.str [byI n])] := by
  refine pure_ev Try.func43 rfl Try.call43 Try.checked.mixed [.d (.int .i64 n), .junk, .junk, .junk, .junk, .junk] rfl [.tmp 2] rfl ?_
  intro _
  simp only [go_sem, and255_n h]
  refine CallS.intro (spec_EncodeFixed_one n h) ?_
  simp only [go_sem]

set_option maxRecDepth 100000 in
theorem impl_ReadCells (c : TCells) (most : Int) (hx : c.bytes.length ≤ 1048576) : PureCall Try.prog 10 [.agg [.sl 1 (c.bytes.map eI), .int .i64 c.read], .one (.int .i64 most)] [.one (.str (readS c most)), .agg [.sl 1 ((readC c most).bytes.map eI), .int .i64 (readC c most).read]] := by
  refine pure_ev Try.func10 rfl Try.call10 Try.checked.mixed [.agg [.d (.sl 1 (c.bytes.map eI)), .d (.int .i64 c.read)], .d (.int .i64 most), .junk, .junk, .junk, .junk, .junk, .junk, .junk, .junk, .junk, .junk, .junk, .junk, .junk, .junk, .junk, .junk, .junk, .junk, .junk, .junk, .junk, .junk, .junk, .junk, .junk, .junk, .junk, .junk, .junk, .junk, .junk, .junk, .junk, .junk, .junk, .junk, .junk, .junk, .junk, .junk, .junk, .junk, .junk, .junk, .junk, .junk, .junk, .junk, .junk, .junk, .junk, .junk, .junk] rfl [.tmp 4, .cell 5 29] rfl ?_
  obtain ⟨xs, r⟩ := c
  intro ok
  simp only [go_sem]
  refine CallS.intro (impl_copyCells xs r hx) ?_
  simp only [go_sem, List.length_map]
  refine CallS.intro (impl_IsCells xs r) ?_
  simp only [go_sem]
  refine cSplit (fun h => ?_) (fun h => ?_)
  · have h5 : isCells xs r = false := by simpa using h
    simp only [go_sem]
    refine drawE_intro [[.post, .un, .post], [.un, .post, .post], [.pre, .pre, .post]] (by kernel_rfl) (by rfl) ?_
    simp only [go_sem, List.length_map]
    simp [readS, readC, rcN, h5, rcI, rcS]
  · have h5 : isCells xs r = true := by simpa using h
    obtain ⟨h6, h7, h8, h9⟩ := isCells_ix h5
    obtain ⟨o, rfl⟩ := Int.eq_ofNat_of_zero_le h7
    simp only [go_sem]
    refine LoopK.intro (fun k : Nat => ⟨[.junk, .d (.int .i64 most), .ptr 0 0 0, .junk, .d (.str []), .ptr 1 0 0, .ptr 4 0 0, .sl 3 0 k, .junk, .junk, .junk, .junk, .junk, .junk, .junk, .junk, .junk, .junk, .junk, .junk, .junk, .junk, .junk, .junk, .junk, .junk, .junk, .junk, .junk, .junk, .junk, .junk, .junk, .junk, .junk, .junk, .junk, .junk, .junk, .junk, .junk, .junk, .junk, .junk, .junk, .junk, .junk, .junk, .junk, .junk, .junk, .junk, .junk, .junk, .junk], [.box [.d (.sl 1 (xs.map eI)), .d (.int .i64 (o : Int))], .box [.nils 1, .d (.int .i64 0)], .arr 1 ((rcS xs o k).map eI) true, .arr 1 ((rcI xs o k).map eU8) true, .box [.sl 2 0 xs.length, .d (.int .i64 ((o + k : Nat) : Int))]]⟩)
      (fun k => 64 - k) (fun k => o + k ≤ 64 ∧ rcK xs o most 64 0 = rcK xs o most (64 - k) k) 0 [0, 1, 2, 3, 4] ⟨by omega, rfl⟩ ?_ ?_
    · simp only [go_sem]; simp [rcS, rcI]
    · rintro k ⟨hk, he⟩
      have hpl := rcS_len xs o k
      have hrl : (rcI xs o k).length = k := by simp [rcI]
      have fin : rcC xs o most k = false → rcK xs o most 64 0 = k := fun hc => he.trans (rcK_stop xs o most _ _ hc)
      have htk : ((rcS xs o k).map eI).take xs.length = (rcS xs o k).map eI := List.take_of_length_le (by simp [hpl])
      have htk2 : ((rcI xs o k).map eU8).take k = (rcI xs o k).map eU8 := List.take_of_length_le (by simp [hrl])
      have hml : ((rcI xs o k).map eU8).length = k := by simp [hrl]
      have done : rcC xs o most k = false → ∀ g, g = k → readS ⟨xs, (o : Int)⟩ most = (rcI xs o g).map byI ∧ (readC ⟨xs, (o : Int)⟩ most).bytes = rcS xs o g ∧ (readC ⟨xs, (o : Int)⟩ most).read = ((o + g : Nat) : Int) := by
        rintro hc g rfl
        simp [readS, readC, rcN, h5, fin hc]
      simp only [go_sem]
      refine gSplitS (fun h10 => ?_) (fun h10 => ?_)
      · have hlt : o + k < xs.length := by have := of_decide_eq_true h10; omega
        have hxi : ((rcS xs o k).map eI)[o + k]? = some (eI xs[o + k]) := by rw [List.getElem?_map, rcS_at xs o k _ (Nat.le_refl _), List.getElem?_eq_getElem hlt]; rfl
        have hg : xs[o + k]?.getD 0 = xs[o + k] := by rw [List.getElem?_eq_getElem hlt]; rfl
        simp only [go_sem, h10]
        repeat ((first | refine gTrueS ?_ | (with_reducible refine And.intro ?_ ?_; (focus (first | omega | exact ⟨by omega, by omega⟩)))); try simp only [go_sem, Int.toNat_natCast, hxi, eI, List.length_map, hpl])
        refine gSplitS (fun h11 => ?_) (fun h11 => ?_)
        · have h11' : xs[o + k] ≠ -1 := of_decide_eq_true h11
          have h12 := h9 (o + k) hlt
          have hu := u8_of (n := xs[o + k]) (by omega) (by omega)
          simp only [go_sem, h11]
          repeat (refine gTrueS ?_; simp only [go_sem])
          refine cSplit (fun h13 => ?_) (fun h13 => ?_)
          · have hc : rcC xs o most k = true := by
              have h13' := of_decide_eq_true h13
              have h10' := of_decide_eq_true h10
              simp only [rcC, hg, Bool.and_eq_true, decide_eq_true_eq]; omega
            have he2 : rcK xs o most (64 - k) k = rcK xs o most (64 - (k + 1)) (k + 1) := by
              rw [show 64 - k = (64 - (k + 1)) + 1 from by omega, rcK, if_pos hc]
            have hwk : IntKind.i64.wrap (((o + k : Nat) : Int) + 1) = ((o + (k + 1) : Nat) : Int) := by rw [w64] <;> omega
            have hrc : (rcI xs o k).map eU8 ++ [[.int .u8 xs[o + k]]] = (rcI xs o (k + 1)).map eU8 := by rw [rcI_succ, hg]; simp [eU8]
            have hst : ((rcS xs o k).map eI).set (o + k) [.int .i64 (-1)] = (rcS xs o (k + 1)).map eI := by rw [rcS, List.map_set]; rfl
            simp only [go_sem, Int.toNat_natCast, hxi, eI, List.length_map, hpl, hu, hrl, htk2, hrc, flat_eU8]
            refine ⟨⟨by omega, by omega⟩, by omega, ⟨by omega, by decide⟩, ⟨by omega, by omega⟩, ?_⟩
            refine ⟨⟨by omega, by simp⟩, RoundE.intro (k + 1) [0, 1, 2, 6, 4] ⟨by omega, he.trans he2⟩ (by omega) ?_⟩
            simp only [go_sem, hst, hwk]
            simp
          · have hc : rcC xs o most k = false := by
              have := of_decide_eq_false h13
              simp [rcC]; intros; omega
            obtain ⟨e1, e2, e3⟩ := done hc k rfl
            try simp only [go_sem]
            refine drawE_intro [[.post, .post, .un, .post, .post], [.pre, .post, .un, .post, .post], [.un, .un, .post, .un, .post], [.pre, .pre, .un, .post, .post], [.pre, .pre, .pre, .pre, .post]] (by kernel_rfl) (by rfl) ?_
            simp only [go_sem, bytesL_map, htk2, hrl, Nat.le_refl, List.length_map]
            simp [e1, e2, e3, outOA, htk, hpl]
        · have hc : rcC xs o most k = false := by
            have h11' := of_decide_eq_false h11
            have h14 : xs[o + k] = -1 := Classical.not_not.1 h11'
            simp [rcC, hlt, h14]
          simp only [go_sem, h11]
          repeat (refine gFalseS ?_; simp only [go_sem])
          obtain ⟨e1, e2, e3⟩ := done hc k rfl
          try simp only [go_sem]
          refine drawE_intro [[.post, .post, .un, .post, .post], [.pre, .post, .un, .post, .post], [.un, .un, .post, .un, .post], [.pre, .pre, .un, .post, .post], [.pre, .pre, .pre, .pre, .post]] (by kernel_rfl) (by rfl) ?_
          simp only [go_sem, bytesL_map, htk2, hrl, Nat.le_refl, List.length_map]
          simp [e1, e2, e3, outOA, htk, hpl]
      · have hc : rcC xs o most k = false := by
          have := of_decide_eq_false h10
          simp [rcC]; intros; omega
        simp only [go_sem, h10]
        repeat (refine gFalseS ?_; simp only [go_sem])
        obtain ⟨e1, e2, e3⟩ := done hc k rfl
        try simp only [go_sem]
        refine drawE_intro [[.post, .post, .un, .post, .post], [.pre, .post, .un, .post, .post], [.un, .un, .post, .un, .post], [.pre, .pre, .un, .post, .post], [.pre, .pre, .pre, .pre, .post]] (by kernel_rfl) (by rfl) ?_
        simp only [go_sem, bytesL_map, htk2, hrl, Nat.le_refl, List.length_map]
        simp [e1, e2, e3, outOA, htk, hpl]

set_option maxRecDepth 100000 in
theorem spec_ReadCells (c : TCells) (most : Int) (hx : c.bytes.length ≤ 1048576) : PureCall Try.prog 18 [.agg [.sl 1 (c.bytes.map eI), .int .i64 c.read], .one (.int .i64 most)] [.one (.str (readS c most)), .agg [.sl 1 ((readC c most).bytes.map eI), .int .i64 (readC c most).read]] := by
  refine pure_ev Try.func18 rfl Try.call18 Try.checked.mixed [.agg [.d (.sl 1 (c.bytes.map eI)), .d (.int .i64 c.read)], .d (.int .i64 most), .junk, .junk, .junk, .junk, .junk, .junk, .junk, .junk, .junk, .junk, .junk, .junk, .junk, .junk, .junk, .junk, .junk, .junk, .junk, .junk, .junk, .junk, .junk, .junk, .junk, .junk, .junk, .junk, .junk, .junk, .junk, .junk, .junk, .junk, .junk, .junk, .junk, .junk, .junk, .junk, .junk, .junk, .junk, .junk, .junk, .junk, .junk, .junk, .junk, .junk] rfl [.tmp 4, .cell 5 29] rfl ?_
  obtain ⟨xs, r⟩ := c
  intro ok
  simp only [go_sem]
  refine CallS.intro (spec_l22Copy xs r hx) ?_
  simp only [go_sem, List.length_map]
  cases h5 : isCells xs r with
  | false =>
    refine LoopK.intro (fun _ : Unit => ⟨[.junk, .d (.int .i64 most), .ptr 0 0 0, .junk, .d (.str []), .ptr 1 0 0, .ptr 3 0 0, .d (.str []), .junk, .junk, .junk, .junk, .junk, .junk, .junk, .junk, .junk, .junk, .junk, .junk, .junk, .junk, .junk, .junk, .junk, .junk, .junk, .junk, .junk, .junk, .junk, .junk, .junk, .junk, .junk, .junk, .junk, .junk, .junk, .junk, .junk, .junk, .junk, .junk, .junk, .junk, .junk, .junk, .junk, .junk, .junk, .junk], [.box [.d (.sl 1 (xs.map eI)), .d (.int .i64 r)], .box [.nils 1, .d (.int .i64 0)], .arr 1 (xs.map eI) true, .box [.sl 2 0 xs.length, .d (.int .i64 r)]]⟩) (fun _ => 0) (fun _ => True) () [0, 1, 2, 3] trivial ?_ ?_
    · simp only [go_sem]; simp
    · intro _ _
      simp only [go_sem]
      refine CallS.intro (spec_IsCells xs r) ?_
      simp only [go_sem, h5]
      repeat (refine gFalseS ?_; simp only [go_sem])
      refine drawE_intro [[.post, .un, .post, .post], [.un, .post, .un, .post], [.pre, .un, .post, .post], [.pre, .pre, .pre, .post]] (by kernel_rfl) (by rfl) ?_
      simp only [go_sem, List.length_map]
      simp [readS, readC, rcN, h5, rcI, rcS]
  | true =>
    obtain ⟨h6, h7, h8, h9⟩ := isCells_ix h5
    obtain ⟨o, rfl⟩ := Int.eq_ofNat_of_zero_le h7
    refine LoopK.intro (fun k : Nat => ⟨[.junk, .d (.int .i64 most), .ptr 0 0 0, .junk, .d (.str []), .ptr 1 0 0, .ptr 3 0 0, .d (.str ((rcI xs o k).map byI)), .junk, .junk, .junk, .junk, .junk, .junk, .junk, .junk, .junk, .junk, .junk, .junk, .junk, .junk, .junk, .junk, .junk, .junk, .junk, .junk, .junk, .junk, .junk, .junk, .junk, .junk, .junk, .junk, .junk, .junk, .junk, .junk, .junk, .junk, .junk, .junk, .junk, .junk, .junk, .junk, .junk, .junk, .junk, .junk], [.box [.d (.sl 1 (xs.map eI)), .d (.int .i64 (o : Int))], .box [.nils 1, .d (.int .i64 0)], .arr 1 ((rcS xs o k).map eI) true, .box [.sl 2 0 xs.length, .d (.int .i64 ((o + k : Nat) : Int))]]⟩)
      (fun k => 64 - k) (fun k => o + k ≤ 64 ∧ rcK xs o most 64 0 = rcK xs o most (64 - k) k) 0 [0, 1, 2, 3] ⟨by omega, rfl⟩ ?_ ?_
    · simp only [go_sem]; simp [rcS, rcI]
    · rintro k ⟨hk, he⟩
      have hpl := rcS_len xs o k
      have hrl : (rcI xs o k).length = k := by simp [rcI]
      have fin : rcC xs o most k = false → rcK xs o most 64 0 = k := fun hc => he.trans (rcK_stop xs o most _ _ hc)
      have htk : ((rcS xs o k).map eI).take xs.length = (rcS xs o k).map eI := List.take_of_length_le (by simp [hpl])
      have done : rcC xs o most k = false → ∀ g, g = k → readS ⟨xs, (o : Int)⟩ most = (rcI xs o g).map byI ∧ (readC ⟨xs, (o : Int)⟩ most).bytes = rcS xs o g ∧ (readC ⟨xs, (o : Int)⟩ most).read = ((o + g : Nat) : Int) := by
        rintro hc g rfl
        simp [readS, readC, rcN, h5, fin hc]
      simp only [go_sem]
      refine CallS.intro (spec_IsCells xs (o : Int)) ?_
      simp only [go_sem, h5]
      repeat ((first | refine gTrueS ?_ | (with_reducible refine And.intro ?_ ?_; (focus (first | omega | exact ⟨by omega, by omega⟩)))); try simp only [go_sem, List.length_map, hrl])
      refine gSplitS (fun h13 => ?_) (fun h13 => ?_)
      · have h13' := of_decide_eq_true h13
        simp only [go_sem, h13]
        repeat ((first | refine gTrueS ?_ | (with_reducible refine And.intro ?_ ?_; (focus (first | omega | exact ⟨by omega, by omega⟩)))); try simp only [go_sem])
        refine gSplitS (fun h10 => ?_) (fun h10 => ?_)
        · have h10' := of_decide_eq_true h10
          have hlt : o + k < xs.length := by omega
          have hxi : ((rcS xs o k).map eI)[o + k]? = some (eI xs[o + k]) := by rw [List.getElem?_map, rcS_at xs o k _ (Nat.le_refl _), List.getElem?_eq_getElem hlt]; rfl
          have hg : xs[o + k]?.getD 0 = xs[o + k] := by rw [List.getElem?_eq_getElem hlt]; rfl
          simp only [go_sem, h10]
          repeat ((first | refine gTrueS ?_ | (with_reducible refine And.intro ?_ ?_; (focus (first | omega | exact ⟨by omega, by omega⟩)))); try simp only [go_sem, Int.toNat_natCast, hxi, eI, List.length_map, hpl])
          refine cSplit (fun h11 => ?_) (fun h11 => ?_)
          · have h11' : xs[o + k] ≠ -1 := of_decide_eq_true h11
            have h12 := h9 (o + k) hlt
            have hc : rcC xs o most k = true := by
              simp only [rcC, hg, Bool.and_eq_true, decide_eq_true_eq]; omega
            have he2 : rcK xs o most (64 - k) k = rcK xs o most (64 - (k + 1)) (k + 1) := by
              rw [show 64 - k = (64 - (k + 1)) + 1 from by omega, rcK, if_pos hc]
            have hwk : IntKind.i64.wrap (((o + k : Nat) : Int) + 1) = ((o + (k + 1) : Nat) : Int) := by rw [w64] <;> omega
            have hrc : (rcI xs o k).map byI ++ [byI xs[o + k]] = (rcI xs o (k + 1)).map byI := by rw [rcI_succ, hg]; simp
            have hst : ((rcS xs o k).map eI).set (o + k) [.int .i64 (-1)] = (rcS xs o (k + 1)).map eI := by rw [rcS, List.map_set]; rfl
            simp only [go_sem, Int.toNat_natCast, hxi, eI, List.length_map, hpl]
            refine ⟨⟨by omega, by omega⟩, by omega, ?_⟩
            refine CallS.intro (spec_l2Byte_one xs[o + k] ⟨by omega, h12.2⟩) ?_
            simp only [go_sem, Int.toNat_natCast, hxi, eI, List.length_map, hpl, hrc, hrl]
            refine ⟨by simp only [maxLen]; omega, ⟨by omega, by omega⟩, ⟨by omega, by simp⟩, RoundE.intro (k + 1) [0, 1, 2, 3] ⟨by omega, he.trans he2⟩ (by omega) ?_⟩
            simp only [go_sem, hst, hwk]
            simp
          · have hc : rcC xs o most k = false := by
              have h14 : xs[o + k] = -1 := Classical.not_not.1 (of_decide_eq_false h11)
              simp [rcC, hlt, h14]
            obtain ⟨e1, e2, e3⟩ := done hc k rfl
            try simp only [go_sem]
            refine drawE_intro [[.post, .un, .post, .post], [.un, .post, .un, .post], [.pre, .un, .post, .post], [.pre, .pre, .pre, .post]] (by kernel_rfl) (by rfl) ?_
            simp only [go_sem, List.length_map]
            simp [e1, e2, e3, outOA, htk, hpl]
        · have hc : rcC xs o most k = false := by
            have := of_decide_eq_false h10
            simp [rcC]; intros; omega
          simp only [go_sem, h10]
          repeat (refine gFalseS ?_; simp only [go_sem])
          obtain ⟨e1, e2, e3⟩ := done hc k rfl
          try simp only [go_sem]
          refine drawE_intro [[.post, .un, .post, .post], [.un, .post, .un, .post], [.pre, .un, .post, .post], [.pre, .pre, .pre, .post]] (by kernel_rfl) (by rfl) ?_
          simp only [go_sem, List.length_map]
          simp [e1, e2, e3, outOA, htk, hpl]
      · have hc : rcC xs o most k = false := by
          have := of_decide_eq_false h13
          simp [rcC]; intros; omega
        simp only [go_sem, h13]
        repeat (refine gFalseS ?_; simp only [go_sem])
        obtain ⟨e1, e2, e3⟩ := done hc k rfl
        try simp only [go_sem]
        refine drawE_intro [[.post, .un, .post, .post], [.un, .post, .un, .post], [.pre, .un, .post, .post], [.pre, .pre, .pre, .post]] (by kernel_rfl) (by rfl) ?_
        simp only [go_sem, List.length_map]
        simp [e1, e2, e3, outOA, htk, hpl]
end Gv
