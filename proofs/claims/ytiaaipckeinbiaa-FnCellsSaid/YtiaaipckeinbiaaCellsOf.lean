/-
  Cells of a buffer.
-/
import Derived.Test.YtiaaipckeinbiaaBuf
namespace Gv
open Go Go.Proofs

def cOfOk (b : TBuffer) : Bool := isBuf b && decide (endOf b ≤ 64)
def cOf (b : TBuffer) : TCells := if cOfOk b = true then cellsOf b else ⟨[], 0⟩
theorem cOf_len (b : TBuffer) : (cOf b).bytes.length ≤ 64 := by
  unfold cOf; split <;> simp [cellsOf]
theorem cOf_put (b : TBuffer) (h : cOfOk b = true) : cOf b = putAll ⟨newC, b.next⟩ b.chunks := by
  unfold cOf; rw [if_pos h]
  simp only [cOfOk, Bool.and_eq_true, decide_eq_true_eq] at h
  rw [cellsOf_eq b h.1 h.2]
def stB (cs : List TChunk) (i : Nat) : List Int := (List.range i).map (fun j => byteAt cs (j : Nat)) ++ List.replicate (64 - i) (-1)
theorem stB_len (cs : List TChunk) (i : Nat) (h : i ≤ 64) : (stB cs i).length = 64 := by simp [stB]; omega
theorem stB_set (cs : List TChunk) (i : Nat) (h : i < 64) : ((stB cs i).map eI).set i [.int .i64 (byteAt cs (i : Nat))] = (stB cs (i + 1)).map eI := by
  have : ([.int .i64 (byteAt cs (i : Nat))] : List D) = eI (byteAt cs (i : Nat)) := rfl
  rw [this, ← List.map_set]
  congr 1
  unfold stB
  rw [List.set_append_right _ _ (by simp), List.range_succ, List.map_append, List.append_assoc]
  congr 1
  simp only [List.length_map, List.length_range, Nat.sub_self]
  rw [show 64 - i = (64 - (i + 1)) + 1 from by omega, List.replicate_succ]
  rfl
theorem stB_get (cs : List TChunk) (i : Nat) (h : i < 64) : ((stB cs i).map eI)[i]? = some (eI (-1)) := by
  rw [List.getElem?_map]; unfold stB
  rw [List.getElem?_append_right (by simp)]
  simp [show 0 < 64 - i from by omega]
theorem cOfOk_pick (n : Int) (xs : List TChunk) : (bif !isBuf ⟨n, xs⟩ then true else decide (64 < endOf ⟨n, xs⟩)) = !cOfOk ⟨n, xs⟩ := by
  have h1 : decide (endOf ⟨n, xs⟩ ≤ 64) = !decide (64 < endOf ⟨n, xs⟩) := by by_cases g : 64 < endOf ⟨n, xs⟩ <;> simp [g] <;> omega
  unfold cOfOk; rw [h1]
  cases isBuf ⟨n, xs⟩ <;> cases decide (64 < endOf ⟨n, xs⟩) <;> rfl

set_option maxRecDepth 100000 in
theorem impl_CellsOf_raw (n : Int) (xs : List TChunk) (hb : ∀ c ∈ xs, c.data.length ≤ 1048576) (hx : xs.length ≤ 1048576) : PureCall Try.prog 11 [.agg [.int .i64 n, .sl 2 (xs.map TChunk.enc)]] [.agg [.sl 1 ((cOf ⟨n, xs⟩).bytes.map eI), .int .i64 (cOf ⟨n, xs⟩).read], .one (.bool (cOfOk ⟨n, xs⟩))] := by
  refine pure_ev Try.func11 rfl Try.call11 Try.checked.mixed [.agg [.d (.int .i64 n), .d (.sl 2 (xs.map TChunk.enc))], .junk, .junk, .junk, .junk, .junk, .junk, .junk, .junk, .junk, .junk, .junk, .junk, .junk, .junk, .junk, .junk, .junk, .junk, .junk, .junk, .junk, .junk, .junk, .junk, .junk, .junk, .junk, .junk, .junk, .junk, .junk, .junk, .junk, .junk] rfl [.cell 2 29, .tmp 3] rfl ?_
  intro ok
  cases hok : cOfOk ⟨n, xs⟩ with
  | false =>
    have hz := cOfOk_pick n xs
    rw [hok] at hz
    try simp only [go_sem]
    repeat' (first
      | (refine CallS.intro (by first | assumption | (apply impl_IsBuffer <;> first | assumption | omega) | (apply impl_EndOf <;> first | assumption | omega) | (apply impl_NewCells <;> first | assumption | omega) | (apply impl_PutCells <;> first | assumption | omega)) ?_; simp only [go_sem])
      | (refine CallK.intro (by first | assumption | (apply impl_IsBuffer <;> first | assumption | omega) | (apply impl_EndOf <;> first | assumption | omega) | (apply impl_NewCells <;> first | assumption | omega) | (apply impl_PutCells <;> first | assumption | omega)) ?_; simp only [go_sem])
      | (with_reducible refine gTrueS ?_; simp only [go_sem, List.length_map, hz, Bool.not_false]) | (with_reducible refine gFalseS ?_; simp only [go_sem, List.length_map, hz, Bool.not_false]) | (with_reducible refine gTrue ?_; simp only [go_sem, List.length_map, hz, Bool.not_false]) | (with_reducible refine gFalse ?_; simp only [go_sem, List.length_map, hz, Bool.not_false])
      | (refine gSymS ?_; simp only [go_sem, hz, Bool.not_false]) | (refine gSym ?_; simp only [go_sem, List.length_map, hz, Bool.not_false])
      | (refine cSplit (fun h => ?_) (fun h => ?_) <;> simp only [go_sem, List.length_map, hz, Bool.not_false])
      | (with_reducible refine And.intro ?_ ?_; (focus (first | omega | (exact ⟨by omega, by omega⟩) | (simp; done) | (simp; omega)))))
    all_goals simp [cOf, hok]
  | true =>
    have hz := cOfOk_pick n xs
    rw [hok] at hz
    simp only [go_sem]
    refine CallS.intro (impl_IsBuffer n xs hb hx) ?_
    simp only [go_sem]
    repeat' (first
      | (refine CallS.intro (impl_EndOf n xs hb hx) ?_; simp only [go_sem, List.length_map, hz, Bool.not_true])
      | (refine CallK.intro (impl_EndOf n xs hb hx) ?_; simp only [go_sem])
      | (refine gSymS ?_; simp only [go_sem, hz, Bool.not_true]) | (refine gSym ?_; simp only [go_sem, List.length_map, hz, Bool.not_true]))
    refine CallS.intro impl_NewCells ?_
    simp only [go_sem, List.length_map]
    have hst : ∀ i (hlt : i < xs.length), putC (putAll ⟨newC, n⟩ (xs.take i)).bytes n xs[i].offset xs[i].data = (putAll ⟨newC, n⟩ (xs.take (i + 1))).bytes := by
      intro i hlt
      rw [putAll_step _ _ _ hlt]
      show _ = putC _ (putAll ⟨newC, n⟩ (xs.take i)).read _ _
      rw [putAll_read]
    have hcf := cOf_put ⟨n, xs⟩ hok
    have hrd : (cOf ⟨n, xs⟩).read = n := by rw [hcf, putAll_read]
    refine LoopK.intro (fun i : Nat => ⟨[.junk, .ptr 0 0 0, .ptr 1 0 0, .d (.bool false), .ptr 3 0 0, .junk, .junk, .junk, .junk, .junk, .junk, .junk, .junk, .junk, .junk, .junk, .junk, .junk, .junk, .junk, .junk, .d (.sl 2 (xs.map TChunk.enc)), .d (.int .i64 xs.length), .d (.int .i64 i), .junk, .junk, .junk, .junk, .junk, .junk, .junk, .junk, .junk, .junk, .junk], [.box [.d (.int .i64 n), .d (.sl 2 (xs.map TChunk.enc))], .box [.nils 1, .d (.int .i64 0)], .arr 1 ((putAll ⟨newC, n⟩ (xs.take i)).bytes.map eI) true, .box [.sl 2 0 (putAll ⟨newC, n⟩ (xs.take i)).bytes.length, .d (.int .i64 n)]]⟩)
      (fun i => xs.length - i) (fun i => i ≤ xs.length) 0 [0, 1, 2, 3] (by omega) ?_ ?_
    · simp only [go_sem]; simp [putAll, newC, eI]
    · intro i hi
      have hyl : (putAll ⟨newC, n⟩ (xs.take i)).bytes.length = 64 := by rw [putAll_len]; simp [newC]
      simp only [go_sem]
      refine cSplit (fun h1 => ?_) (fun h1 => ?_)
      · have h1' := of_decide_eq_true h1
        have hlt : i < xs.length := by omega
        have hxi := map_at TChunk.enc xs i hlt
        have hw := inc (i := i) (m := xs.length) hlt (by simp only [maxLen]; omega)
        have hdl := hb xs[i] (List.getElem_mem hlt)
        have hs := hst i hlt
        generalize (putAll ⟨newC, n⟩ (xs.take i)).bytes = ys at hyl hs
        simp only [go_sem, List.length_map, Int.toNat_natCast, hxi, TChunk.enc]
        refine ⟨⟨by omega, by omega⟩, ?_⟩
        refine CallS.intro (impl_PutCells_raw ys n xs[i].offset xs[i].data (by omega) hdl) ?_
        simp only [go_sem, List.length_map, hs, hw]
        refine RoundE.intro (i + 1) [0, 1, 5, 3] (by omega) (by omega) ?_
        simp only [go_sem]
        try simp
      · have h1' := of_decide_eq_false h1
        have hi2 : i = xs.length := by omega
        subst hi2
        rw [List.take_length] at hyl ⊢
        rw [show (cOf ⟨n, xs⟩).bytes = (putAll ⟨newC, n⟩ xs).bytes from by rw [hcf], hrd]
        generalize (putAll ⟨newC, n⟩ xs).bytes = ys at hyl
        simp only [go_sem, List.length_map]
        simp [outOA]

set_option maxRecDepth 100000 in
theorem spec_CellsOf_raw (n : Int) (xs : List TChunk) (hb : ∀ c ∈ xs, c.data.length ≤ 1048576) (hx : xs.length ≤ 1048576) : PureCall Try.prog 20 [.agg [.int .i64 n, .sl 2 (xs.map TChunk.enc)]] [.agg [.sl 1 ((cOf ⟨n, xs⟩).bytes.map eI), .int .i64 (cOf ⟨n, xs⟩).read], .one (.bool (cOfOk ⟨n, xs⟩))] := by
  refine pure_ev Try.func20 rfl Try.call20 Try.checked.mixed [.agg [.d (.int .i64 n), .d (.sl 2 (xs.map TChunk.enc))], .junk, .junk, .junk, .junk, .junk, .junk, .junk, .junk, .junk, .junk, .junk, .junk, .junk, .junk, .junk, .junk, .junk, .junk, .junk, .junk, .junk, .junk, .junk, .junk, .junk, .junk, .junk, .junk, .junk, .junk] rfl [.cell 2 29, .tmp 3] rfl ?_
  intro ok
  cases hok : cOfOk ⟨n, xs⟩ with
  | false =>
    have hz := cOfOk_pick n xs
    rw [hok] at hz
    try simp only [go_sem]
    repeat' (first
      | (refine CallS.intro (by first | assumption | (apply spec_IsBuffer <;> first | assumption | omega) | (apply spec_EndOf <;> first | assumption | omega) | (apply spec_NewCells <;> first | assumption | omega) | (apply spec_ByteAt <;> first | assumption | omega)) ?_; simp only [go_sem])
      | (refine CallK.intro (by first | assumption | (apply spec_IsBuffer <;> first | assumption | omega) | (apply spec_EndOf <;> first | assumption | omega) | (apply spec_NewCells <;> first | assumption | omega) | (apply spec_ByteAt <;> first | assumption | omega)) ?_; simp only [go_sem])
      | (with_reducible refine gTrueS ?_; simp only [go_sem, List.length_map, hz, Bool.not_false]) | (with_reducible refine gFalseS ?_; simp only [go_sem, List.length_map, hz, Bool.not_false]) | (with_reducible refine gTrue ?_; simp only [go_sem, List.length_map, hz, Bool.not_false]) | (with_reducible refine gFalse ?_; simp only [go_sem, List.length_map, hz, Bool.not_false])
      | (refine gSymS ?_; simp only [go_sem, hz, Bool.not_false]) | (refine gSym ?_; simp only [go_sem, List.length_map, hz, Bool.not_false])
      | (refine drawE_intro [[.post, .post, .un, .un, .un, .un, .post, .post], [.pre, .post, .un, .un, .un, .un, .post, .post], [.un, .un, .post, .un, .un, .un, .post, .post], [.un, .un, .un, .post, .un, .post, .post, .post], [.un, .un, .un, .un, .post, .post, .post, .post], [.un, .un, .un, .pre, .pre, .post, .post, .post], [.pre, .pre, .pre, .pre, .pre, .pre, .post, .post], [.pre, .pre, .pre, .pre, .pre, .pre, .pre, .post]] (by kernel_rfl) (by rfl) ?_; simp only [go_sem, List.length_map, hz, Bool.not_false])
      | (refine cSplit (fun h => ?_) (fun h => ?_) <;> simp only [go_sem, List.length_map, hz, Bool.not_false])
      | (with_reducible refine And.intro ?_ ?_; (focus (first | omega | (exact ⟨by omega, by omega⟩) | (simp; done) | (simp; omega)))))
    all_goals simp [cOf, hok]
  | true =>
    have hz := cOfOk_pick n xs
    rw [hok] at hz
    simp only [go_sem]
    refine CallS.intro (spec_IsBuffer n xs hb hx) ?_
    simp only [go_sem]
    repeat' (first
      | (refine CallS.intro (spec_EndOf n xs hb hx) ?_; simp only [go_sem, List.length_map, hz, Bool.not_true])
      | (refine CallK.intro (spec_EndOf n xs hb hx) ?_; simp only [go_sem])
      | (refine gSymS ?_; simp only [go_sem, hz, Bool.not_true]) | (refine gSym ?_; simp only [go_sem, List.length_map, hz, Bool.not_true]))
    refine CallS.intro spec_NewCells ?_
    simp only [go_sem]
    have hcf : cOf ⟨n, xs⟩ = cellsOf ⟨n, xs⟩ := by unfold cOf; rw [if_pos hok]
    refine LoopK.intro (fun i : Nat => ⟨[.junk, .ptr 0 0 0, .ptr 1 0 0, .d (.bool false), .ptr 3 0 0, .d (.int .i64 i), .junk, .junk, .junk, .junk, .junk, .junk, .junk, .junk, .junk, .junk, .junk, .junk, .junk, .junk, .junk, .junk, .junk, .junk, .junk, .junk, .junk, .junk, .junk, .junk, .junk], [.box [.d (.int .i64 n), .d (.sl 2 (xs.map TChunk.enc))], .box [.nils 1, .d (.int .i64 0)], .arr 1 ((stB xs i).map eI) true, .box [.sl 2 0 64, .d (.int .i64 n)]]⟩)
      (fun i => 64 - i) (fun i => i ≤ 64) 0 [0, 1, 2, 3] (by omega) ?_ ?_
    · simp only [go_sem]; simp [stB, eI]
    · intro i hi
      have hsl := stB_len xs i hi
      simp only [go_sem]
      refine cSplit (fun h1 => ?_) (fun h1 => ?_)
      · have h1' := of_decide_eq_true h1
        have hlt : i < 64 := by omega
        have hw := inc (i := i) (m := 64) hlt (by simp only [maxLen]; omega)
        have hs2 := stB_set xs i hlt
        have hgt := stB_get xs i hlt
        try simp only [go_sem]
        repeat' (first
          | (refine CallS.intro (by first | assumption | (apply spec_IsBuffer <;> first | assumption | omega) | (apply spec_EndOf <;> first | assumption | omega) | (apply spec_NewCells <;> first | assumption | omega) | (apply spec_ByteAt <;> first | assumption | omega)) ?_; simp only [go_sem, List.length_map, Int.toNat_natCast, hsl, hgt, eI, hw])
          | (refine CallK.intro (by first | assumption | (apply spec_IsBuffer <;> first | assumption | omega) | (apply spec_EndOf <;> first | assumption | omega) | (apply spec_NewCells <;> first | assumption | omega) | (apply spec_ByteAt <;> first | assumption | omega)) ?_; simp only [go_sem, List.length_map, Int.toNat_natCast, hsl, hgt, eI, hw])
          | (with_reducible refine gTrueS ?_; simp only [go_sem, List.length_map, Int.toNat_natCast, hsl, hgt, eI, hw]) | (with_reducible refine gFalseS ?_; simp only [go_sem, List.length_map, Int.toNat_natCast, hsl, hgt, eI, hw]) | (with_reducible refine gTrue ?_; simp only [go_sem, List.length_map, Int.toNat_natCast, hsl, hgt, eI, hw]) | (with_reducible refine gFalse ?_; simp only [go_sem, List.length_map, Int.toNat_natCast, hsl, hgt, eI, hw])
          | (refine gSymS ?_; simp only [go_sem, List.length_map, Int.toNat_natCast, hsl, hgt, eI, hw]) | (refine gSym ?_; simp only [go_sem, List.length_map, Int.toNat_natCast, hsl, hgt, eI, hw])
          | (refine drawE_intro [[.post, .post, .un, .un, .un, .un, .post, .post], [.pre, .post, .un, .un, .un, .un, .post, .post], [.un, .un, .post, .un, .un, .un, .post, .post], [.un, .un, .un, .post, .un, .post, .post, .post], [.un, .un, .un, .un, .post, .post, .post, .post], [.un, .un, .un, .pre, .pre, .post, .post, .post], [.pre, .pre, .pre, .pre, .pre, .pre, .post, .post], [.pre, .pre, .pre, .pre, .pre, .pre, .pre, .post]] (by kernel_rfl) (by rfl) ?_; simp only [go_sem])
          | (refine cSplit (fun h => ?_) (fun h => ?_) <;> simp only [go_sem, List.length_map, Int.toNat_natCast, hsl, hgt, eI, hw])
          | (with_reducible refine And.intro ?_ ?_; (focus (first | omega | (exact ⟨by omega, by omega⟩) | (simp; done) | (simp; omega)))))
        all_goals (refine RoundE.intro (i + 1) [0, 1, 2, 3] (by omega) (by omega) ?_; simp only [go_sem, hs2]; try simp)
      · have h1' := of_decide_eq_false h1
        have hi2 : i = 64 := by omega
        subst hi2
        have hby : (cOf ⟨n, xs⟩).bytes = stB xs 64 := by rw [hcf]; simp [stB, cellsOf]
        have hrd : (cOf ⟨n, xs⟩).read = n := by rw [hcf]; rfl
        rw [hby, hrd]
        generalize stB xs 64 = ys at hsl
        have htk : (ys.map eI).take 64 = ys.map eI := List.take_of_length_le (by simp [hsl])
        simp only [go_sem, List.length_map, hsl, htk]
        simp [outOA]
set_option maxRecDepth 100000 in
theorem impl_CellsOf (b : TBuffer) (hb : ∀ c ∈ b.chunks, c.data.length ≤ 1048576) (hx : b.chunks.length ≤ 1048576) : PureCall Try.prog 11 [.agg [.int .i64 b.next, .sl 2 (b.chunks.map TChunk.enc)]] [.agg [.sl 1 ((cOf b).bytes.map eI), .int .i64 (cOf b).read], .one (.bool (cOfOk b))] := impl_CellsOf_raw b.next b.chunks hb hx
set_option maxRecDepth 100000 in
theorem spec_CellsOf (b : TBuffer) (hb : ∀ c ∈ b.chunks, c.data.length ≤ 1048576) (hx : b.chunks.length ≤ 1048576) : PureCall Try.prog 20 [.agg [.int .i64 b.next, .sl 2 (b.chunks.map TChunk.enc)]] [.agg [.sl 1 ((cOf b).bytes.map eI), .int .i64 (cOf b).read], .one (.bool (cOfOk b))] := spec_CellsOf_raw b.next b.chunks hb hx
end Gv
