/-
  Bytes are put into cells.
-/
import Derived.Test.YtiaaipckeinbiaaEqCells
namespace Gv
open Go Go.Proofs

theorem isCells_len {xs : List Int} {r : Int} (h : isCells xs r = true) : xs.length = 64 ∧ 0 ≤ r ∧ r ≤ 64 := by
  simp only [isCells, inB, Bool.and_eq_true, decide_eq_true_eq] at h
  omega
theorem cond_and (a b : Bool) : (bif a then b else false) = (a && b) := by cases a <;> rfl
def pcS (xs : List Int) (r : Int) (o : Nat) (data : List UInt8) : Nat → List Int
  | 0 => xs
  | k + 1 => if (decide (r ≤ ((o + k : Nat) : Int)) && decide (xs[o + k]?.getD 0 = -1)) = true then (pcS xs r o data k).set (o + k) (((data[k]?).getD 0).toNat : Int) else pcS xs r o data k
theorem pcS_len (xs : List Int) (r : Int) (o : Nat) (data : List UInt8) : ∀ k, (pcS xs r o data k).length = xs.length
  | 0 => rfl
  | k + 1 => by rw [pcS]; split <;> simp [pcS_len xs r o data k]
theorem pcS_step (xs : List Int) (r : Int) (o : Nat) (data : List UInt8) (k : Nat) (h1 : k < data.length) (h2 : o + k < xs.length) :
    pcS xs r o data (k + 1) = if (decide (r ≤ ((o + k : Nat) : Int)) && decide (xs[o + k] = -1)) = true then (pcS xs r o data k).set (o + k) ((data[k].toNat : Nat) : Int) else pcS xs r o data k := by
  rw [pcS, List.getElem?_eq_getElem h2, List.getElem?_eq_getElem h1]; rfl
def putOk (xs : List Int) (r off : Int) (data : List UInt8) : Bool := isCells xs r && decide (0 ≤ off) && decide (off ≤ 64 - (data.length : Int))
def putC (xs : List Int) (r off : Int) (data : List UInt8) : List Int := if putOk xs r off data = true then pcS xs r off.toNat data data.length else xs

set_option maxRecDepth 100000 in
theorem spec_l22Copy (xs : List Int) (r : Int) (hx : xs.length ≤ 1048576) : PureCall Try.prog 42 [.agg [.sl 1 (xs.map eI), .int .i64 r]] [.agg [.sl 1 (xs.map eI), .int .i64 r]] := by
  refine pure_ev Try.func42 rfl Try.call42 Try.checked.mixed [.agg [.d (.sl 1 (xs.map eI)), .d (.int .i64 r)], .junk, .junk, .junk, .junk, .junk, .junk, .junk, .junk, .junk] rfl [.cell 2 29] rfl ?_
  intro _
  try simp only [go_sem]
  repeat' (first
    | (with_reducible refine gTrueS ?_; simp only [go_sem, List.length_map]) | (with_reducible refine gFalseS ?_; simp only [go_sem, List.length_map]) | (with_reducible refine gTrue ?_; simp only [go_sem, List.length_map]) | (with_reducible refine gFalse ?_; simp only [go_sem, List.length_map])
    | (refine gSymS ?_; simp only [go_sem, List.length_map]) | (refine gSym ?_; simp only [go_sem, List.length_map])
    | (refine drawE_intro [[.post, .un, .un, .post, .un, .un, .post, .post], [.un, .post, .post, .post, .un, .un, .post, .post], [.un, .pre, .post, .post, .un, .un, .post, .post], [.pre, .pre, .pre, .post, .un, .un, .post, .post], [.un, .un, .un, .un, .post, .post, .post, .post], [.un, .un, .un, .un, .pre, .post, .post, .post], [.pre, .pre, .pre, .pre, .pre, .pre, .post, .post], [.pre, .pre, .pre, .pre, .pre, .pre, .pre, .post]] (by kernel_rfl) (by rfl) ?_; simp only [go_sem, List.length_map])
    | (refine cSplit (fun h => ?_) (fun h => ?_) <;> simp only [go_sem, List.length_map])
    | (with_reducible refine And.intro ?_ ?_; (focus (first | omega | (exact ⟨by omega, by omega⟩) | (simp; done) | (simp; omega)))))
  all_goals simp
set_option maxRecDepth 100000 in
theorem impl_copyCells (xs : List Int) (r : Int) (hx : xs.length ≤ 1048576) : PureCall Try.prog 33 [.agg [.sl 1 (xs.map eI), .int .i64 r]] [.agg [.sl 1 (xs.map eI), .int .i64 r]] := by
  refine pure_ev Try.func33 rfl Try.call33 Try.checked.mixed [.agg [.d (.sl 1 (xs.map eI)), .d (.int .i64 r)], .junk, .junk, .junk, .junk, .junk, .junk, .junk, .junk] rfl [.cell 2 29] rfl ?_
  intro _
  try simp only [go_sem, List.length_map]
  repeat' (first
    | (with_reducible refine gTrueS ?_; simp only [go_sem, List.length_map]) | (with_reducible refine gFalseS ?_; simp only [go_sem, List.length_map]) | (with_reducible refine gTrue ?_; simp only [go_sem, List.length_map]) | (with_reducible refine gFalse ?_; simp only [go_sem, List.length_map])
    | (refine gSymS ?_; simp only [go_sem, List.length_map]) | (refine gSym ?_; simp only [go_sem, List.length_map])
    | (refine cSplit (fun h => ?_) (fun h => ?_) <;> simp only [go_sem, List.length_map])
    | (with_reducible refine And.intro ?_ ?_; (focus (first | omega | (exact ⟨by omega, by omega⟩) | (simp; done) | (simp; omega)))))
  all_goals simp

set_option maxRecDepth 100000 in
theorem impl_PutCells_raw (xs : List Int) (r off : Int) (data : List UInt8) (hx : xs.length ≤ 1048576) (hd : data.length ≤ 1048576) : PureCall Try.prog 8 [.agg [.sl 1 (xs.map eI), .int .i64 r], .one (.int .i64 off), .one (.str data)] [.agg [.sl 1 ((putC xs r off data).map eI), .int .i64 r]] := by
  refine pure_ev Try.func8 rfl Try.call8 Try.checked.mixed [.agg [.d (.sl 1 (xs.map eI)), .d (.int .i64 r)], .d (.int .i64 off), .d (.str data), .junk, .junk, .junk, .junk, .junk, .junk, .junk, .junk, .junk, .junk, .junk, .junk, .junk, .junk, .junk, .junk, .junk, .junk, .junk, .junk, .junk, .junk, .junk, .junk, .junk, .junk, .junk, .junk, .junk, .junk, .junk, .junk, .junk, .junk, .junk, .junk, .junk, .junk, .junk, .junk, .junk, .junk, .junk, .junk, .junk, .junk, .junk, .junk, .junk, .junk, .junk, .junk, .junk, .junk] rfl [.cell 6 29] rfl ?_
  intro ok
  have hws : IntKind.i64.wrap (64 - (data.length : Int)) = 64 - (data.length : Int) := by rw [w64] <;> omega
  simp only [go_sem]
  refine CallS.intro (impl_copyCells xs r hx) ?_
  simp only [go_sem, List.length_map]
  refine CallS.intro (impl_IsCells xs r) ?_
  simp only [go_sem]
  repeat ((first | refine gSymS ?_ | refine gSym ?_); simp only [go_sem, hws])
  have hz : (bif bif !isCells xs r then true else decide (off < 0) then true else decide (64 - (data.length : Int) < off)) = !putOk xs r off data := by
    unfold putOk; cases isCells xs r <;> by_cases h1 : off < 0 <;> by_cases h2 : 64 - (data.length : Int) < off <;> simp [h1, h2] <;> omega
  rw [hz]
  refine cSplit (fun h => ?_) (fun h => ?_)
  · simp only [go_sem]
    have h5 : putOk xs r off data = false := by simpa using h
    simp [putC, h5, outOA]
  · have h5 : putOk xs r off data = true := by simpa using h
    have h6 := h5
    simp only [putOk, Bool.and_eq_true, decide_eq_true_eq] at h6
    obtain ⟨⟨h7, h8⟩, h9⟩ := h6
    have hl := isCells_len h7
    obtain ⟨o, rfl⟩ := Int.eq_ofNat_of_zero_le h8
    simp only [go_sem]
    refine LoopK.intro (fun k : Nat => ⟨[.junk, .d (.int .i64 (o : Int)), .d (.str data), .ptr 0 0 0, .junk, .junk, .ptr 1 0 0, .ptr 3 0 0, .d (.int .i64 k), .junk, .junk, .junk, .junk, .junk, .junk, .junk, .junk, .junk, .junk, .junk, .junk, .junk, .junk, .junk, .junk, .junk, .junk, .junk, .junk, .junk, .junk, .junk, .junk, .junk, .junk, .junk, .junk, .junk, .junk, .junk, .junk, .junk, .junk, .junk, .junk, .junk, .junk, .junk, .junk, .junk, .junk, .junk, .junk, .junk, .junk, .junk, .junk], [.box [.d (.sl 1 (xs.map eI)), .d (.int .i64 r)], .box [.nils 1, .d (.int .i64 0)], .arr 1 ((pcS xs r o data k).map eI) true, .box [.sl 2 0 xs.length, .d (.int .i64 r)]]⟩)
      (fun k => data.length - k) (fun k => k ≤ data.length) 0 [0, 1, 2, 3] (by omega) ?_ ?_
    · simp only [go_sem]; simp [pcS]
    · intro k hk
      simp only [go_sem]
      refine cSplit (fun h1 => ?_) (fun h1 => ?_)
      · simp only [decide_eq_true_eq] at h1
        have hlt : k < data.length := by omega
        have hlt2 : o + k < xs.length := by omega
        have hxi := map_at eI xs (o + k) hlt2
        have hw := inc (i := k) (m := data.length) hlt (by simp only [maxLen]; omega)
        have hw2 : IntKind.i64.wrap ((o : Int) + (k : Int)) = ((o + k : Nat) : Int) := by rw [w64] <;> omega
        have hpl := pcS_len xs r o data k
        have hps : ((pcS xs r o data k).map eI)[o + k]? = some (eI (pcS xs r o data k)[o + k]) := map_at eI _ _ (by omega)
        have hdk : data[k]? = some data[k] := List.getElem?_eq_getElem hlt
        have hbt : IntKind.i64.wrap ((data[k].toNat : Nat) : Int) = ((data[k].toNat : Nat) : Int) := by have := data[k].toNat_lt; rw [w64] <;> omega
        have hst := pcS_step xs r o data k hlt hlt2
        simp only [go_sem, hw2]
        repeat ((first | refine gSymS ?_ | (with_reducible refine And.intro ⟨by omega, by omega⟩ ?_)); try simp only [go_sem, List.length_map, Int.toNat_natCast, hxi, eI])
        refine cSplit (fun h2 => ?_) (fun h2 => ?_)
        · rw [cond_and] at h2
          rw [if_pos h2] at hst
          simp only [go_sem]
          refine drawE_intro [[.post, .post, .un, .un, .un, .un, .un, .post, .post], [.pre, .post, .un, .un, .un, .un, .un, .post, .post], [.un, .un, .post, .un, .un, .un, .un, .post, .post], [.un, .un, .un, .post, .un, .post, .post, .post, .post], [.un, .un, .un, .un, .post, .post, .post, .post, .post], [.un, .un, .un, .pre, .pre, .post, .post, .post, .post], [.un, .un, .un, .pre, .pre, .pre, .post, .post, .post], [.pre, .pre, .pre, .pre, .pre, .pre, .pre, .post, .post], [.pre, .pre, .pre, .pre, .pre, .pre, .pre, .pre, .post]] (by kernel_rfl) (by rfl) ?_
          simp only [go_sem, List.length_map, Int.toNat_natCast, hw, hps, eI, hdk, hbt, hpl]
          have hs2 : ((pcS xs r o data k).map eI).set (o + k) [.int .i64 ((data[k].toNat : Nat) : Int)] = (pcS xs r o data (k + 1)).map eI := by rw [hst, List.map_set]; rfl
          refine ⟨⟨by omega, by omega⟩, ⟨by omega, by omega⟩, ⟨by omega, by simp⟩, RoundE.intro (k + 1) [0, 1, 2, 3] (by omega) (by omega) ?_⟩
          simp only [go_sem, hs2]
          try simp
        · rw [cond_and] at h2
          rw [h2] at hst
          simp only [Bool.false_eq_true, if_false] at hst
          simp only [go_sem, hw]
          refine RoundE.intro (k + 1) [0, 1, 2, 3] (by omega) (by omega) ?_
          simp only [go_sem, hst]
          try simp
      · simp only [decide_eq_false_iff_not] at h1
        have : k = data.length := by omega
        subst this
        have hpl := pcS_len xs r o data data.length
        have htk : ((pcS xs r o data data.length).map eI).take xs.length = (pcS xs r o data data.length).map eI := List.take_of_length_le (by simp [hpl])
        simp only [go_sem]
        simp [putC, h5, hpl, htk, outOA]
set_option maxRecDepth 100000 in
theorem spec_PutCells_raw (xs : List Int) (r off : Int) (data : List UInt8) (hx : xs.length ≤ 1048576) (hd : data.length ≤ 1048576) : PureCall Try.prog 22 [.agg [.sl 1 (xs.map eI), .int .i64 r], .one (.int .i64 off), .one (.str data)] [.agg [.sl 1 ((putC xs r off data).map eI), .int .i64 r]] := by
  refine pure_ev Try.func22 rfl Try.call22 Try.checked.mixed [.agg [.d (.sl 1 (xs.map eI)), .d (.int .i64 r)], .d (.int .i64 off), .d (.str data), .junk, .junk, .junk, .junk, .junk, .junk, .junk, .junk, .junk, .junk, .junk, .junk, .junk, .junk, .junk, .junk, .junk, .junk, .junk, .junk, .junk, .junk, .junk, .junk, .junk, .junk, .junk, .junk, .junk, .junk, .junk, .junk, .junk, .junk, .junk, .junk, .junk, .junk, .junk, .junk, .junk, .junk, .junk, .junk, .junk, .junk, .junk, .junk, .junk, .junk, .junk, .junk, .junk, .junk, .junk, .junk] rfl [.cell 6 29] rfl ?_
  intro ok
  have hws : IntKind.i64.wrap (64 - (data.length : Int)) = 64 - (data.length : Int) := by rw [w64] <;> omega
  simp only [go_sem]
  refine CallS.intro (spec_l22Copy xs r hx) ?_
  simp only [go_sem, List.length_map]
  refine CallS.intro (spec_IsCells xs r) ?_
  simp only [go_sem]
  repeat ((first | refine gSymS ?_ | refine gSym ?_); simp only [go_sem, hws])
  have hz : (bif bif !isCells xs r then true else decide (off < 0) then true else decide (64 - (data.length : Int) < off)) = !putOk xs r off data := by
    unfold putOk; cases isCells xs r <;> by_cases h1 : off < 0 <;> by_cases h2 : 64 - (data.length : Int) < off <;> simp [h1, h2] <;> omega
  rw [hz]
  refine cSplit (fun h => ?_) (fun h => ?_)
  · simp only [go_sem]
    have h5 : putOk xs r off data = false := by simpa using h
    simp [putC, h5, outOA]
  · have h5 : putOk xs r off data = true := by simpa using h
    have h6 := h5
    simp only [putOk, Bool.and_eq_true, decide_eq_true_eq] at h6
    obtain ⟨⟨h7, h8⟩, h9⟩ := h6
    have hl := isCells_len h7
    obtain ⟨o, rfl⟩ := Int.eq_ofNat_of_zero_le h8
    simp only [go_sem]
    refine LoopK.intro (fun k : Nat => ⟨[.junk, .d (.int .i64 (o : Int)), .d (.str data), .ptr 0 0 0, .junk, .junk, .ptr 1 0 0, .ptr 3 0 0, .d (.int .i64 k), .junk, .junk, .junk, .junk, .junk, .junk, .junk, .junk, .junk, .junk, .junk, .junk, .junk, .junk, .junk, .junk, .junk, .junk, .junk, .junk, .junk, .junk, .junk, .junk, .junk, .junk, .junk, .junk, .junk, .junk, .junk, .junk, .junk, .junk, .junk, .junk, .junk, .junk, .junk, .junk, .junk, .junk, .junk, .junk, .junk, .junk, .junk, .junk, .junk, .junk], [.box [.d (.sl 1 (xs.map eI)), .d (.int .i64 r)], .box [.nils 1, .d (.int .i64 0)], .arr 1 ((pcS xs r o data k).map eI) true, .box [.sl 2 0 xs.length, .d (.int .i64 r)]]⟩)
      (fun k => data.length - k) (fun k => k ≤ data.length) 0 [0, 1, 2, 3] (by omega) ?_ ?_
    · simp only [go_sem]; simp [pcS]
    · intro k hk
      simp only [go_sem]
      refine cSplit (fun h1 => ?_) (fun h1 => ?_)
      · simp only [decide_eq_true_eq] at h1
        have hlt : k < data.length := by omega
        have hlt2 : o + k < xs.length := by omega
        have hxi := map_at eI xs (o + k) hlt2
        have hw := inc (i := k) (m := data.length) hlt (by simp only [maxLen]; omega)
        have hw2 : IntKind.i64.wrap ((o : Int) + (k : Int)) = ((o + k : Nat) : Int) := by rw [w64] <;> omega
        have hpl := pcS_len xs r o data k
        have hps : ((pcS xs r o data k).map eI)[o + k]? = some (eI (pcS xs r o data k)[o + k]) := map_at eI _ _ (by omega)
        have hdk : data[k]? = some data[k] := List.getElem?_eq_getElem hlt
        have hbt : IntKind.i64.wrap ((data[k].toNat : Nat) : Int) = ((data[k].toNat : Nat) : Int) := by have := data[k].toNat_lt; rw [w64] <;> omega
        have hst := pcS_step xs r o data k hlt hlt2
        simp only [go_sem, hw2]
        repeat ((first | refine gSymS ?_ | (with_reducible refine And.intro ⟨by omega, by omega⟩ ?_)); try simp only [go_sem, List.length_map, Int.toNat_natCast, hw2, hxi, eI])
        refine cSplit (fun h2 => ?_) (fun h2 => ?_)
        · rw [cond_and] at h2
          rw [if_pos h2] at hst
          simp only [go_sem]
          refine drawE_intro [[.post, .post, .un, .un, .un, .un, .un, .un, .un, .post, .post], [.pre, .post, .un, .un, .un, .un, .un, .un, .un, .post, .post], [.un, .un, .post, .un, .post, .un, .un, .un, .un, .post, .post], [.un, .un, .un, .post, .post, .un, .un, .un, .un, .post, .post], [.un, .un, .pre, .pre, .post, .un, .un, .un, .un, .post, .post], [.un, .un, .un, .un, .un, .post, .un, .post, .post, .post, .post], [.un, .un, .un, .un, .un, .un, .post, .post, .post, .post, .post], [.un, .un, .un, .un, .un, .pre, .pre, .post, .post, .post, .post], [.un, .un, .un, .un, .un, .pre, .pre, .pre, .post, .post, .post], [.pre, .pre, .pre, .pre, .pre, .pre, .pre, .pre, .pre, .post, .post], [.pre, .pre, .pre, .pre, .pre, .pre, .pre, .pre, .pre, .pre, .post]] (by kernel_rfl) (by rfl) ?_
          simp only [go_sem, List.length_map, Int.toNat_natCast, hw2, hw, hps, eI, hdk, hbt, hpl]
          have hs2 : ((pcS xs r o data k).map eI).set (o + k) [.int .i64 ((data[k].toNat : Nat) : Int)] = (pcS xs r o data (k + 1)).map eI := by rw [hst, List.map_set]; rfl
          refine ⟨⟨by omega, by omega⟩, ⟨by omega, by omega⟩, ⟨by omega, by simp⟩, RoundE.intro (k + 1) [0, 1, 2, 3] (by omega) (by omega) ?_⟩
          simp only [go_sem, hs2]
          try simp
        · rw [cond_and] at h2
          rw [h2] at hst
          simp only [Bool.false_eq_true, if_false] at hst
          simp only [go_sem, hw]
          refine RoundE.intro (k + 1) [0, 1, 2, 3] (by omega) (by omega) ?_
          simp only [go_sem, hst]
          try simp
      · simp only [decide_eq_false_iff_not] at h1
        have : k = data.length := by omega
        subst this
        have hpl := pcS_len xs r o data data.length
        have htk : ((pcS xs r o data data.length).map eI).take xs.length = (pcS xs r o data data.length).map eI := List.take_of_length_le (by simp [hpl])
        simp only [go_sem]
        simp [putC, h5, hpl, htk, outOA]
def putCells (c : TCells) (off : Int) (data : List UInt8) : TCells := ⟨putC c.bytes c.read off data, c.read⟩
theorem putCells_len (c : TCells) (off : Int) (data : List UInt8) : (putCells c off data).bytes.length = c.bytes.length := by
  unfold putCells putC; split <;> simp [pcS_len]
set_option maxRecDepth 100000 in
theorem impl_PutCells (c : TCells) (off : Int) (data : List UInt8) (hx : c.bytes.length ≤ 1048576) (hd : data.length ≤ 1048576) : PureCall Try.prog 8 [.agg [.sl 1 (c.bytes.map eI), .int .i64 c.read], .one (.int .i64 off), .one (.str data)] [.agg [.sl 1 ((putCells c off data).bytes.map eI), .int .i64 (putCells c off data).read]] :=
  impl_PutCells_raw c.bytes c.read off data hx hd
set_option maxRecDepth 100000 in
theorem spec_PutCells (c : TCells) (off : Int) (data : List UInt8) (hx : c.bytes.length ≤ 1048576) (hd : data.length ≤ 1048576) : PureCall Try.prog 22 [.agg [.sl 1 (c.bytes.map eI), .int .i64 c.read], .one (.int .i64 off), .one (.str data)] [.agg [.sl 1 ((putCells c off data).bytes.map eI), .int .i64 (putCells c off data).read]] :=
  spec_PutCells_raw c.bytes c.read off data hx hd
end Gv
