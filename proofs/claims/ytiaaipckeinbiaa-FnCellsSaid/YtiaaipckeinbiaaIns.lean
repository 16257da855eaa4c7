/-
  New data in a buffer: the function.
-/
import Derived.Test.YtiaaipckeinbiaaJoin
import Derived.Test.YtiaaipckeinbiaaBufTake
import Derived.Test.YtiaaipckeinbiaaPartLaw
import Derived.Test.YtiaaipckeinbiaaSort
namespace Gv
open Go Go.Proofs

def lowI (n off : Int) : Int := if n > off then n else off
def insX (n : Int) (xs : List TChunk) (off : Int) (data : List UInt8) : List TChunk :=
  if data ≠ [] ∧ lowI n off < off + data.length then joinL (partL n off data xs) else xs

theorem asc_lo {e lo lo' : Int} {cs : List TChunk} (h : asc e lo cs = true) (h2 : lo' ≤ lo) : asc e lo' cs = true := by
  cases cs with
  | nil => have := asc_le h; simp only [asc, decide_eq_true_eq]; omega
  | cons c cs =>
    obtain ⟨h1, h3, h4⟩ := asc_cons h
    simp only [asc, Bool.and_eq_true, decide_eq_true_eq]; exact ⟨⟨h1, by omega⟩, h4⟩
theorem asc_sorted {e : Int} : ∀ {cs : List TChunk} {lo : Int}, asc e lo cs = true → ∀ i (h : i + 1 < cs.length), cs[i].offset < cs[i + 1].offset
  | [], _, _, i, h => by simp at h
  | [_], _, _, i, h => by simp at h
  | c :: d :: cs, lo, h, 0, hi => by
    obtain ⟨h1, h2, h3⟩ := asc_cons h
    obtain ⟨h4, h5, h6⟩ := asc_cons h3
    have : 0 < c.data.length := List.length_pos_iff.2 h1
    show c.offset < d.offset; omega
  | c :: d :: cs, lo, h, i + 1, hi => by
    obtain ⟨h1, h2, h3⟩ := asc_cons h
    exact asc_sorted h3 i (by simpa using hi)
set_option maxHeartbeats 4000000 in
set_option maxRecDepth 100000 in
theorem impl_InsertData (n : Int) (xs : List TChunk) (off : Int) (data : List UInt8) (hI : isBuf ⟨n, xs⟩ = true) (hE : ∀ c ∈ xs, c.offset + (c.data.length : Int) ≤ 1048576) (hx : xs.length ≤ 7) (hd : data.length ≤ 8) (ho : 0 ≤ off) (ho2 : off + (data.length : Int) ≤ 1048576) : PureCall Try.prog 7 [.agg [.int .i64 n, .sl 2 (xs.map TChunk.enc)], .one (.int .i64 off), .one (.str data)] [.agg [.int .i64 n, .sl 2 ((insX n xs off data).map TChunk.enc)]] := by
  refine pure_ev Try.func7 rfl Try.call7 Try.checked.mixed [.agg [.d (.int .i64 n), .d (.sl 2 (xs.map TChunk.enc))], .d (.int .i64 off), .d (.str data), .junk, .junk, .junk, .junk, .junk, .junk, .junk, .junk, .junk, .junk, .junk, .junk, .junk, .junk, .junk, .junk, .junk, .junk, .junk, .junk, .junk, .junk, .junk, .junk, .junk, .junk, .junk, .junk, .junk, .junk, .junk, .junk, .junk, .junk, .junk, .junk, .junk, .junk, .junk, .junk, .junk, .junk, .junk, .junk, .junk, .junk, .junk, .junk, .junk, .junk, .junk, .junk, .junk, .junk, .junk, .junk, .junk, .junk, .junk, .junk, .junk, .junk, .junk, .junk, .junk, .junk, .junk, .junk, .junk, .junk, .junk, .junk, .junk, .junk, .junk, .junk, .junk, .junk, .junk] rfl [.cell 6 26] rfl ?_
  intro ok
  obtain ⟨hn0, hn1, hck⟩ := isBuf_n hI
  have hb : ∀ c ∈ xs, c.data.length ≤ 1048576 := fun c hc => by have := chk_mem _ _ hck c hc; have := hE c hc; omega
  have hx1 : xs.length ≤ 1048576 := by omega
  have hx2 : xs.length ≤ 1048577 := by omega
  have e2 : decide (off < 0) = false := decide_eq_false (by omega)
  have hw : IntKind.i64.wrap (4611686018427387903 - (data.length : Int)) = 4611686018427387903 - (data.length : Int) := by rw [w64] <;> omega
  have e3 : decide (4611686018427387903 - (data.length : Int) < off) = false := decide_eq_false (by omega)
  have hw2 : IntKind.i64.wrap (off + (data.length : Int)) = off + (data.length : Int) := by rw [w64] <;> omega
  by_cases hde : data = []
  · have e1 : decide (data = []) = true := decide_eq_true hde
    have hX : insX n xs off data = xs := by unfold insX; rw [if_neg (fun h => h.1 hde)]
    try simp only [go_sem]
    repeat' (first
      | (refine CallS.intro (by first | assumption | (apply impl_IsBuffer <;> first | assumption | omega) | (apply impl_copyBuffer <;> first | assumption | omega) | (apply impl_Chunk_end <;> first | assumption | omega) | (apply slices_SortFunc_impl_Chunk_impl_Chunk <;> first | assumption | omega) | (apply impl_joined <;> first | assumption | omega)) ?_; simp only [go_sem, List.length_map, hI])
      | (refine CallK.intro (by first | assumption | (apply impl_IsBuffer <;> first | assumption | omega) | (apply impl_copyBuffer <;> first | assumption | omega) | (apply impl_Chunk_end <;> first | assumption | omega) | (apply slices_SortFunc_impl_Chunk_impl_Chunk <;> first | assumption | omega) | (apply impl_joined <;> first | assumption | omega)) ?_; simp only [go_sem, List.length_map, hI, e1, e2, hw, e3, hw2])
      | (with_reducible refine gTrueS ?_; simp only [go_sem, e1]) | (with_reducible refine gFalseS ?_; simp only [go_sem]) | (with_reducible refine gTrue ?_; simp only [go_sem, List.length_map, hI, e1, e2, hw, e3, hw2]) | (with_reducible refine gFalse ?_; simp only [go_sem, List.length_map, hI, e1, e2, hw, e3, hw2])
      | (refine gSymS ?_; simp only [go_sem, List.length_map, hI, e1, e2, hw, e3, hw2]) | (refine gSym ?_; simp only [go_sem, List.length_map, hI, e1, e2, hw, e3, hw2])
      | (refine drawE_intro [[.post, .un, .un, .post, .un, .un, .un, .un, .un, .un, .post, .post], [.un, .post, .post, .post, .un, .un, .un, .un, .un, .un, .post, .post], [.un, .pre, .post, .post, .un, .un, .un, .un, .un, .un, .post, .post], [.pre, .pre, .pre, .post, .un, .un, .un, .un, .un, .un, .post, .post], [.un, .un, .un, .un, .post, .un, .un, .post, .un, .un, .un, .post], [.un, .un, .un, .un, .un, .post, .post, .post, .un, .un, .un, .post], [.un, .un, .un, .un, .un, .pre, .post, .post, .un, .un, .un, .post], [.un, .un, .un, .un, .pre, .pre, .pre, .post, .un, .un, .un, .post], [.un, .un, .un, .un, .un, .un, .un, .un, .post, .un, .post, .post], [.un, .un, .un, .un, .un, .un, .un, .un, .un, .post, .post, .post], [.pre, .pre, .pre, .pre, .un, .un, .un, .un, .pre, .pre, .post, .post], [.pre, .pre, .pre, .pre, .pre, .pre, .pre, .pre, .pre, .pre, .pre, .post]] (by kernel_rfl) (by rfl) ?_; simp only [go_sem, List.length_map, hI, e1, e2, hw, e3, hw2])
      | (refine drawE_intro [[.post, .un, .un, .post, .post], [.un, .post, .post, .post, .post], [.un, .pre, .post, .post, .post], [.pre, .pre, .pre, .post, .post], [.pre, .pre, .pre, .pre, .post]] (by kernel_rfl) (by rfl) ?_; simp only [go_sem, List.length_map, hI, e1, e2, hw, e3, hw2])
      | (refine drawE_intro [[.post, .post, .un, .un, .post, .post], [.pre, .post, .un, .un, .post, .post], [.un, .un, .post, .post, .post, .post], [.un, .un, .pre, .post, .post, .post], [.pre, .pre, .pre, .pre, .post, .post], [.pre, .pre, .pre, .pre, .pre, .post]] (by kernel_rfl) (by rfl) ?_; simp only [go_sem, List.length_map, hI, e1, e2, hw, e3, hw2])
      | (refine cSplit (fun h => ?_) (fun h => ?_) <;> simp only [go_sem, List.length_map, hI, e1, e2, hw, e3, hw2])
      | (with_reducible refine And.intro ?_ ?_; (focus (first | omega | (exact ⟨by omega, by omega⟩) | (simp; done) | (simp; omega)))))
    all_goals (rw [hX]; try simp)
  · have e1 : decide (data = []) = false := decide_eq_false hde
    by_cases hle : off + (data.length : Int) ≤ n
    · have e4 : decide (off + (data.length : Int) ≤ n) = true := decide_eq_true hle
      have hX : insX n xs off data = xs := by unfold insX lowI; rw [if_neg (fun h => by have := h.2; split at this <;> omega)]
      try simp only [go_sem]
      repeat' (first
        | (refine CallS.intro (by first | assumption | (apply impl_IsBuffer <;> first | assumption | omega) | (apply impl_copyBuffer <;> first | assumption | omega) | (apply impl_Chunk_end <;> first | assumption | omega) | (apply slices_SortFunc_impl_Chunk_impl_Chunk <;> first | assumption | omega) | (apply impl_joined <;> first | assumption | omega)) ?_; simp only [go_sem, List.length_map, hI])
        | (refine CallK.intro (by first | assumption | (apply impl_IsBuffer <;> first | assumption | omega) | (apply impl_copyBuffer <;> first | assumption | omega) | (apply impl_Chunk_end <;> first | assumption | omega) | (apply slices_SortFunc_impl_Chunk_impl_Chunk <;> first | assumption | omega) | (apply impl_joined <;> first | assumption | omega)) ?_; simp only [go_sem, List.length_map, hI, e1, e2, hw, e3, hw2, e4])
        | (with_reducible refine gTrueS ?_; simp only [go_sem, e1, e2, hw, e3, hw2, e4]) | (with_reducible refine gFalseS ?_; simp only [go_sem, List.length_map, hI, e1, e2, hw, e3, hw2, e4]) | (with_reducible refine gTrue ?_; simp only [go_sem, List.length_map, hI, e1, e2, hw, e3, hw2, e4]) | (with_reducible refine gFalse ?_; simp only [go_sem, List.length_map, hI, e1, e2, hw, e3, hw2, e4])
        | (refine gSymS ?_; simp only [go_sem, List.length_map, hI, e1, e2, hw, e3, hw2, e4]) | (refine gSym ?_; simp only [go_sem, List.length_map, hI, e1, e2, hw, e3, hw2, e4])
        | (refine drawE_intro [[.post, .un, .un, .post, .un, .un, .un, .un, .un, .un, .post, .post], [.un, .post, .post, .post, .un, .un, .un, .un, .un, .un, .post, .post], [.un, .pre, .post, .post, .un, .un, .un, .un, .un, .un, .post, .post], [.pre, .pre, .pre, .post, .un, .un, .un, .un, .un, .un, .post, .post], [.un, .un, .un, .un, .post, .un, .un, .post, .un, .un, .un, .post], [.un, .un, .un, .un, .un, .post, .post, .post, .un, .un, .un, .post], [.un, .un, .un, .un, .un, .pre, .post, .post, .un, .un, .un, .post], [.un, .un, .un, .un, .pre, .pre, .pre, .post, .un, .un, .un, .post], [.un, .un, .un, .un, .un, .un, .un, .un, .post, .un, .post, .post], [.un, .un, .un, .un, .un, .un, .un, .un, .un, .post, .post, .post], [.pre, .pre, .pre, .pre, .un, .un, .un, .un, .pre, .pre, .post, .post], [.pre, .pre, .pre, .pre, .pre, .pre, .pre, .pre, .pre, .pre, .pre, .post]] (by kernel_rfl) (by rfl) ?_; simp only [go_sem, List.length_map, hI, e1, e2, hw, e3, hw2, e4])
        | (refine drawE_intro [[.post, .un, .un, .post, .post], [.un, .post, .post, .post, .post], [.un, .pre, .post, .post, .post], [.pre, .pre, .pre, .post, .post], [.pre, .pre, .pre, .pre, .post]] (by kernel_rfl) (by rfl) ?_; simp only [go_sem, List.length_map, hI, e1, e2, hw, e3, hw2, e4])
        | (refine drawE_intro [[.post, .post, .un, .un, .post, .post], [.pre, .post, .un, .un, .post, .post], [.un, .un, .post, .post, .post, .post], [.un, .un, .pre, .post, .post, .post], [.pre, .pre, .pre, .pre, .post, .post], [.pre, .pre, .pre, .pre, .pre, .post]] (by kernel_rfl) (by rfl) ?_; simp only [go_sem, List.length_map, hI, e1, e2, hw, e3, hw2, e4])
        | (refine cSplit (fun h => ?_) (fun h => ?_) <;> simp only [go_sem, List.length_map, hI, e1, e2, hw, e3, hw2, e4])
        | (with_reducible refine And.intro ?_ ?_; (focus (first | omega | (exact ⟨by omega, by omega⟩) | (simp; done) | (simp; omega)))))
      all_goals (rw [hX]; try simp)
    · have e4 : decide (off + (data.length : Int) ≤ n) = false := decide_eq_false hle
      have hlt : (if n > off then n else off) < off + (data.length : Int) := by
        have : 0 < data.length := List.length_pos_iff.2 hde
        split <;> omega
      have hX : insX n xs off data = joinL (partL n off data xs) := by unfold insX; rw [if_pos ⟨hde, hlt⟩]
      try simp only [go_sem]
      repeat' (first
        | (refine CallS.intro (by first | assumption | (apply impl_IsBuffer <;> first | assumption | omega) | (apply impl_copyBuffer <;> first | assumption | omega) | (apply impl_Chunk_end <;> first | assumption | omega) | (apply slices_SortFunc_impl_Chunk_impl_Chunk <;> first | assumption | omega) | (apply impl_joined <;> first | assumption | omega)) ?_; simp only [go_sem, hI])
        | (refine CallK.intro (by first | assumption | (apply impl_IsBuffer <;> first | assumption | omega) | (apply impl_copyBuffer <;> first | assumption | omega) | (apply impl_Chunk_end <;> first | assumption | omega) | (apply slices_SortFunc_impl_Chunk_impl_Chunk <;> first | assumption | omega) | (apply impl_joined <;> first | assumption | omega)) ?_; simp only [go_sem, List.length_map, hI, e1, e2, hw, e3, hw2, e4])
        | (with_reducible refine gTrueS ?_; simp only [go_sem, e1, e2, hw, e3, hw2, e4]) | (with_reducible refine gFalseS ?_; simp only [go_sem, List.length_map, hI, e1, e2, hw, e3, hw2, e4]) | (with_reducible refine gTrue ?_; simp only [go_sem, List.length_map, hI, e1, e2, hw, e3, hw2, e4]) | (with_reducible refine gFalse ?_; simp only [go_sem, List.length_map, hI, e1, e2, hw, e3, hw2, e4])
        | (refine gSymS ?_; simp only [go_sem, List.length_map, hI, e1, e2, hw, e3, hw2, e4]) | (refine gSym ?_; simp only [go_sem, List.length_map, hI, e1, e2, hw, e3, hw2, e4])
        | (refine drawE_intro [[.post, .un, .un, .post, .un, .un, .un, .un, .un, .un, .post, .post], [.un, .post, .post, .post, .un, .un, .un, .un, .un, .un, .post, .post], [.un, .pre, .post, .post, .un, .un, .un, .un, .un, .un, .post, .post], [.pre, .pre, .pre, .post, .un, .un, .un, .un, .un, .un, .post, .post], [.un, .un, .un, .un, .post, .un, .un, .post, .un, .un, .un, .post], [.un, .un, .un, .un, .un, .post, .post, .post, .un, .un, .un, .post], [.un, .un, .un, .un, .un, .pre, .post, .post, .un, .un, .un, .post], [.un, .un, .un, .un, .pre, .pre, .pre, .post, .un, .un, .un, .post], [.un, .un, .un, .un, .un, .un, .un, .un, .post, .un, .post, .post], [.un, .un, .un, .un, .un, .un, .un, .un, .un, .post, .post, .post], [.pre, .pre, .pre, .pre, .un, .un, .un, .un, .pre, .pre, .post, .post], [.pre, .pre, .pre, .pre, .pre, .pre, .pre, .pre, .pre, .pre, .pre, .post]] (by kernel_rfl) (by rfl) ?_; simp only [go_sem, List.length_map, hw2])
        | (refine drawE_intro [[.post, .un, .un, .post, .post], [.un, .post, .post, .post, .post], [.un, .pre, .post, .post, .post], [.pre, .pre, .pre, .post, .post], [.pre, .pre, .pre, .pre, .post]] (by kernel_rfl) (by rfl) ?_; simp only [go_sem, List.length_map, hI, e1, e2, hw, e3, hw2, e4])
        | (refine drawE_intro [[.post, .post, .un, .un, .post, .post], [.pre, .post, .un, .un, .post, .post], [.un, .un, .post, .post, .post, .post], [.un, .un, .pre, .post, .post, .post], [.pre, .pre, .pre, .pre, .post, .post], [.pre, .pre, .pre, .pre, .pre, .post]] (by kernel_rfl) (by rfl) ?_; simp only [go_sem, List.length_map, hI, e1, e2, hw, e3, hw2, e4])
        | (refine cSplit (fun h => ?_) (fun h => ?_) <;> simp only [go_sem, List.length_map, hI, e1, e2, hw, e3, hw2, e4])
        | (with_reducible refine And.intro ?_ ?_; (focus (first | omega | (exact ⟨by omega, by omega⟩) | (simp; done) | (simp; omega)))))
      refine LoopK.intro (fun i : Nat => ⟨[.agg [.d (.int .i64 n), .d (.sl 2 (xs.map TChunk.enc))], .junk, .junk, .ptr 0 0 0, .ptr 1 0 0, .ptr 2 0 0, .ptr 3 0 0, .ptr 4 0 0, .ptr 5 0 0, .ptr 7 0 0, .fn 28 [.ptr 4 0 0, .ptr 5 0 0, .ptr 7 0 0, .ptr 2 0 0, .ptr 1 0 0], .junk, .junk, .junk, .junk, .junk, .junk, .junk, .junk, .junk, .junk, .junk, .junk, .junk, .junk, .junk, .junk, .junk, .junk, .junk, .junk, .junk, .junk, .junk, .junk, .junk, .junk, .junk, .junk, .junk, .junk, .junk, .junk, .junk, .junk, .junk, .junk, .junk, .junk, .junk, .junk, .junk, .junk, .d (.sl 2 (xs.map TChunk.enc)), .d (.int .i64 xs.length), .d (.int .i64 i), .junk, .junk, .junk, .junk, .junk, .junk, .junk, .junk, .junk, .junk, .junk, .junk, .junk, .junk, .junk, .junk, .junk, .junk, .junk, .junk, .junk, .junk, .junk, .junk, .junk, .junk], [.box [.d (.int .i64 n), .d (.sl 2 (xs.map TChunk.enc))], .box [.d (.int .i64 off)], .box [.d (.str data)], .box [.d (.int .i64 0), .nils 2], .box [.d (.int .i64 (partI n off data xs i).1)], .box [.d (.int .i64 (off + (data.length : Int)))], .arr 2 ((partI n off data xs i).2.map TChunk.enc) true, .box [.sl 6 0 (partI n off data xs i).2.length]]⟩)
        (fun i => xs.length - i) (fun i => i ≤ xs.length) 0 [0, 1, 2, 3, 4, 5, 6, 7] (by omega) ?_ ?_
      · simp only [go_sem]; simp [partI]
      · intro i hi
        obtain ⟨en, hP, hen⟩ := partI_law ho hn0 hck hlt i
        have heE := hen 1048576 (by split at hlt <;> omega) hE
        have hst : ∀ h : i < xs.length, partI n off data xs (i + 1) = pSt off (off + data.length) data (partI n off data xs i) xs[i] := partI_step n off data xs i
        generalize hL : (if n > off then n else off) = lo0 at hP hlt
        have hlo : off ≤ lo0 := by rw [← hL]; split <;> omega
        have hpl : partL n off data xs = putP off (off + data.length) data (partI n off data xs xs.length).1 (off + data.length) (partI n off data xs xs.length).2 := rfl
        have hpi : i = xs.length → partI n off data xs xs.length = partI n off data xs i := fun h => by rw [h]
        generalize partI n off data xs i = s at hP hst hpi
        obtain ⟨low, ps⟩ := s
        simp only at hP
        have hll : lo0 ≤ low := by rcases hP.ll with h | h <;> omega
        have hct := hP.ct
        have hlw : low ≤ 1048576 := by rcases hP.ll with h | h <;> omega
        have htl : (xs.take i).length ≤ 7 := by rw [List.length_take]; omega
        have hpsl : ps.length ≤ 16 := by omega
        simp only [go_sem]
        refine cSplit (fun h1 => ?_) (fun h1 => ?_)
        · have h1' := of_decide_eq_true h1
          have hlt2 : i < xs.length := by omega
          have hxi := map_at TChunk.enc xs i hlt2
          have hwi := inc (i := i) (m := xs.length) hlt2 (by simp only [maxLen]; omega)
          have hs := hst hlt2
          obtain ⟨m, hm⟩ : ∃ m, (if off + (data.length : Int) < xs[i].offset then off + (data.length : Int) else xs[i].offset) = m := ⟨_, rfl⟩
          have hcm := chk_mem _ _ hck xs[i] (List.getElem_mem hlt2)
          have hce := hE xs[i] (List.getElem_mem hlt2)
          have hend : 0 ≤ xs[i].offset ∧ xs[i].offset ≤ 4611686018427387903 - (xs[i].data.length : Int) := ⟨by omega, hcm.2⟩
          have hmh : m ≤ off + (data.length : Int) := by rw [← hm]; split <;> omega
          simp only [go_sem, List.length_map, Int.toNat_natCast, hxi, TChunk.enc]
          refine ⟨⟨by omega, by omega⟩, ?_⟩
          refine CallS.inl (inl_ev (n := 27) (rs := []) Try.func28 rfl Try.call28 Try.checked.mixed rfl rfl ?_)
          simp only [go_sem, hm]
          refine cSplit (fun h2 => ?_) (fun h2 => ?_)
          · have hp := of_decide_eq_true h2
            have hwa : IntKind.i64.wrap (low - off) = (((low - off).toNat : Nat) : Int) := by rw [w64] <;> omega
            have hwb : IntKind.i64.wrap (m - off) = (((m - off).toNat : Nat) : Int) := by rw [w64] <;> omega
            try simp only [go_sem]
            repeat' (first
              | (with_reducible refine gTrueS ?_; simp only [go_sem, hm, hwa, hwb, List.length_map, Int.toNat_natCast]) | (with_reducible refine gFalseS ?_; simp only [go_sem, hm, hwa, hwb, List.length_map, Int.toNat_natCast]) | (with_reducible refine gTrue ?_; simp only [go_sem, hm, hwa, hwb, List.length_map, Int.toNat_natCast]) | (with_reducible refine gFalse ?_; simp only [go_sem, hm, hwa, hwb, List.length_map, Int.toNat_natCast])
              | (refine gSymS ?_; simp only [go_sem, hm, hwa, hwb, List.length_map, Int.toNat_natCast]) | (refine gSym ?_; simp only [go_sem, hm, hwa, hwb, List.length_map, Int.toNat_natCast])
              | (refine drawE_intro [[.post, .un, .un, .un, .un, .un, .un, .un, .un, .un, .un, .un, .un, .un, .post, .post], [.un, .post, .un, .un, .un, .un, .un, .un, .un, .un, .un, .un, .post, .post, .post, .post], [.un, .un, .post, .un, .un, .un, .un, .un, .un, .un, .un, .post, .post, .post, .post, .post], [.un, .un, .un, .post, .un, .post, .un, .un, .un, .un, .un, .post, .post, .post, .post, .post], [.un, .un, .un, .un, .post, .post, .un, .un, .un, .un, .un, .post, .post, .post, .post, .post], [.un, .un, .un, .pre, .pre, .post, .un, .un, .un, .un, .un, .post, .post, .post, .post, .post], [.un, .un, .un, .un, .un, .un, .post, .un, .post, .un, .post, .post, .post, .post, .post, .post], [.un, .un, .un, .un, .un, .un, .un, .post, .post, .un, .post, .post, .post, .post, .post, .post], [.un, .un, .un, .un, .un, .un, .pre, .pre, .post, .un, .post, .post, .post, .post, .post, .post], [.un, .un, .un, .un, .un, .un, .un, .un, .un, .post, .post, .post, .post, .post, .post, .post], [.un, .un, .un, .un, .un, .un, .pre, .pre, .pre, .pre, .post, .post, .post, .post, .post, .post], [.un, .un, .pre, .pre, .pre, .pre, .pre, .pre, .pre, .pre, .pre, .post, .post, .post, .post, .post], [.un, .pre, .pre, .pre, .pre, .pre, .pre, .pre, .pre, .pre, .pre, .pre, .post, .post, .post, .post], [.un, .pre, .pre, .pre, .pre, .pre, .pre, .pre, .pre, .pre, .pre, .pre, .pre, .post, .post, .post], [.pre, .pre, .pre, .pre, .pre, .pre, .pre, .pre, .pre, .pre, .pre, .pre, .pre, .pre, .post, .post], [.pre, .pre, .pre, .pre, .pre, .pre, .pre, .pre, .pre, .pre, .pre, .pre, .pre, .pre, .pre, .post]] (by kernel_rfl) (by rfl) ?_; simp only [go_sem, hm, hwa, hwb, List.length_map, Int.toNat_natCast])
              | (refine cSplit (fun h => ?_) (fun h => ?_) <;> simp only [go_sem, hm, hwa, hwb, List.length_map, Int.toNat_natCast])
              | (with_reducible refine And.intro ?_ ?_; (focus (first | omega | (exact ⟨by omega, by omega⟩) | (simp; done) | (simp; omega)))))
            try simp only [go_sem, hm, List.length_map, Int.toNat_natCast, hxi, TChunk.enc, hwi]
            repeat' (first
              | (refine CallS.intro (by first | assumption | (apply impl_IsBuffer <;> first | assumption | omega) | (apply impl_copyBuffer <;> first | assumption | omega) | (apply impl_Chunk_end <;> first | assumption | omega) | (apply slices_SortFunc_impl_Chunk_impl_Chunk <;> first | assumption | omega) | (apply impl_joined <;> first | assumption | omega)) ?_; simp only [go_sem, hm, List.length_map, Int.toNat_natCast, hxi, TChunk.enc, hwi])
              | (refine CallK.intro (by first | assumption | (apply impl_IsBuffer <;> first | assumption | omega) | (apply impl_copyBuffer <;> first | assumption | omega) | (apply impl_Chunk_end <;> first | assumption | omega) | (apply slices_SortFunc_impl_Chunk_impl_Chunk <;> first | assumption | omega) | (apply impl_joined <;> first | assumption | omega)) ?_; simp only [go_sem, hwi])
              | (with_reducible refine gTrueS ?_; simp only [go_sem, hm, List.length_map, Int.toNat_natCast, hxi, TChunk.enc, hwi]) | (with_reducible refine gFalseS ?_; simp only [go_sem, hm, List.length_map, Int.toNat_natCast, hxi, TChunk.enc, hwi]) | (with_reducible refine gTrue ?_; simp only [go_sem, hm, List.length_map, Int.toNat_natCast, hxi, TChunk.enc, hwi]) | (with_reducible refine gFalse ?_; simp only [go_sem, hm, List.length_map, Int.toNat_natCast, hxi, TChunk.enc, hwi])
              | (refine gSymS ?_; simp only [go_sem, hm, List.length_map, Int.toNat_natCast, hxi, TChunk.enc, hwi]) | (refine gSym ?_; simp only [go_sem, hm, List.length_map, Int.toNat_natCast, hxi, TChunk.enc, hwi])
              | (refine drawE_intro [[.post, .un, .un, .post, .un, .un, .un, .un, .un, .un, .post, .post], [.un, .post, .post, .post, .un, .un, .un, .un, .un, .un, .post, .post], [.un, .pre, .post, .post, .un, .un, .un, .un, .un, .un, .post, .post], [.pre, .pre, .pre, .post, .un, .un, .un, .un, .un, .un, .post, .post], [.un, .un, .un, .un, .post, .un, .un, .post, .un, .un, .un, .post], [.un, .un, .un, .un, .un, .post, .post, .post, .un, .un, .un, .post], [.un, .un, .un, .un, .un, .pre, .post, .post, .un, .un, .un, .post], [.un, .un, .un, .un, .pre, .pre, .pre, .post, .un, .un, .un, .post], [.un, .un, .un, .un, .un, .un, .un, .un, .post, .un, .post, .post], [.un, .un, .un, .un, .un, .un, .un, .un, .un, .post, .post, .post], [.pre, .pre, .pre, .pre, .un, .un, .un, .un, .pre, .pre, .post, .post], [.pre, .pre, .pre, .pre, .pre, .pre, .pre, .pre, .pre, .pre, .pre, .post]] (by kernel_rfl) (by rfl) ?_; simp only [go_sem, hm, List.length_map, Int.toNat_natCast, hxi, TChunk.enc, hwi])
              | (refine drawE_intro [[.post, .un, .un, .post, .post], [.un, .post, .post, .post, .post], [.un, .pre, .post, .post, .post], [.pre, .pre, .pre, .post, .post], [.pre, .pre, .pre, .pre, .post]] (by kernel_rfl) (by rfl) ?_; simp only [go_sem])
              | (refine drawE_intro [[.post, .post, .un, .un, .post, .post], [.pre, .post, .un, .un, .post, .post], [.un, .un, .post, .post, .post, .post], [.un, .un, .pre, .post, .post, .post], [.pre, .pre, .pre, .pre, .post, .post], [.pre, .pre, .pre, .pre, .pre, .post]] (by kernel_rfl) (by rfl) ?_; simp only [go_sem, hm, List.length_map, Int.toNat_natCast, hxi, TChunk.enc, hwi])
              | (refine cSplit (fun h => ?_) (fun h => ?_) <;> simp only [go_sem, hm, List.length_map, Int.toNat_natCast, hxi, TChunk.enc, hwi])
              | (with_reducible refine And.intro ?_ ?_; (focus (first | omega | (exact ⟨by omega, by omega⟩) | (simp; done) | (simp; omega)))))
            have hs1 : (partI n off data xs (i + 1)).1 = (if xs[i].offset + (xs[i].data.length : Int) > low then xs[i].offset + (xs[i].data.length : Int) else low) := by rw [hs]; rfl
            have hs2 : (partI n off data xs (i + 1)).2 = ps ++ [pcOf off data low m] ++ [xs[i]] := by
              rw [hs]; show putP off (off + data.length) data low xs[i].offset ps ++ [xs[i]] = _
              unfold putP; rw [hm, if_pos hp]
            refine RoundE.intro (i + 1) [0, 1, 2, 3, 4, 5, 12, 7] (by omega) (by omega) ?_
            simp only [go_sem, hs1, hs2]
            simp [TChunk.enc, pcOf]
          · have hp := of_decide_eq_false h2
            try simp only [go_sem, List.length_map]
            repeat' (first
              | (refine CallS.intro (by first | assumption | (apply impl_IsBuffer <;> first | assumption | omega) | (apply impl_copyBuffer <;> first | assumption | omega) | (apply impl_Chunk_end <;> first | assumption | omega) | (apply slices_SortFunc_impl_Chunk_impl_Chunk <;> first | assumption | omega) | (apply impl_joined <;> first | assumption | omega)) ?_; simp only [go_sem, hm, List.length_map, Int.toNat_natCast, hxi, TChunk.enc, hwi])
              | (refine CallK.intro (by first | assumption | (apply impl_IsBuffer <;> first | assumption | omega) | (apply impl_copyBuffer <;> first | assumption | omega) | (apply impl_Chunk_end <;> first | assumption | omega) | (apply slices_SortFunc_impl_Chunk_impl_Chunk <;> first | assumption | omega) | (apply impl_joined <;> first | assumption | omega)) ?_; simp only [go_sem, hwi])
              | (with_reducible refine gTrueS ?_; simp only [go_sem, hm, List.length_map, Int.toNat_natCast, hxi, TChunk.enc, hwi]) | (with_reducible refine gFalseS ?_; simp only [go_sem, hm, List.length_map, Int.toNat_natCast, hxi, TChunk.enc, hwi]) | (with_reducible refine gTrue ?_; simp only [go_sem, hm, List.length_map, Int.toNat_natCast, hxi, TChunk.enc, hwi]) | (with_reducible refine gFalse ?_; simp only [go_sem, hm, List.length_map, Int.toNat_natCast, hxi, TChunk.enc, hwi])
              | (refine gSymS ?_; simp only [go_sem, hm, List.length_map, Int.toNat_natCast, hxi, TChunk.enc, hwi]) | (refine gSym ?_; simp only [go_sem, hm, List.length_map, Int.toNat_natCast, hxi, TChunk.enc, hwi])
              | (refine drawE_intro [[.post, .un, .un, .post, .un, .un, .un, .un, .un, .un, .post, .post], [.un, .post, .post, .post, .un, .un, .un, .un, .un, .un, .post, .post], [.un, .pre, .post, .post, .un, .un, .un, .un, .un, .un, .post, .post], [.pre, .pre, .pre, .post, .un, .un, .un, .un, .un, .un, .post, .post], [.un, .un, .un, .un, .post, .un, .un, .post, .un, .un, .un, .post], [.un, .un, .un, .un, .un, .post, .post, .post, .un, .un, .un, .post], [.un, .un, .un, .un, .un, .pre, .post, .post, .un, .un, .un, .post], [.un, .un, .un, .un, .pre, .pre, .pre, .post, .un, .un, .un, .post], [.un, .un, .un, .un, .un, .un, .un, .un, .post, .un, .post, .post], [.un, .un, .un, .un, .un, .un, .un, .un, .un, .post, .post, .post], [.pre, .pre, .pre, .pre, .un, .un, .un, .un, .pre, .pre, .post, .post], [.pre, .pre, .pre, .pre, .pre, .pre, .pre, .pre, .pre, .pre, .pre, .post]] (by kernel_rfl) (by rfl) ?_; simp only [go_sem, hm, List.length_map, Int.toNat_natCast, hxi, TChunk.enc, hwi])
              | (refine drawE_intro [[.post, .un, .un, .post, .post], [.un, .post, .post, .post, .post], [.un, .pre, .post, .post, .post], [.pre, .pre, .pre, .post, .post], [.pre, .pre, .pre, .pre, .post]] (by kernel_rfl) (by rfl) ?_; simp only [go_sem])
              | (refine drawE_intro [[.post, .post, .un, .un, .post, .post], [.pre, .post, .un, .un, .post, .post], [.un, .un, .post, .post, .post, .post], [.un, .un, .pre, .post, .post, .post], [.pre, .pre, .pre, .pre, .post, .post], [.pre, .pre, .pre, .pre, .pre, .post]] (by kernel_rfl) (by rfl) ?_; simp only [go_sem, hm, List.length_map, Int.toNat_natCast, hxi, TChunk.enc, hwi])
              | (refine cSplit (fun h => ?_) (fun h => ?_) <;> simp only [go_sem, hm, List.length_map, Int.toNat_natCast, hxi, TChunk.enc, hwi])
              | (with_reducible refine And.intro ?_ ?_; (focus (first | omega | (exact ⟨by omega, by omega⟩) | (simp; done) | (simp; omega)))))
            have hs1 : (partI n off data xs (i + 1)).1 = (if xs[i].offset + (xs[i].data.length : Int) > low then xs[i].offset + (xs[i].data.length : Int) else low) := by rw [hs]; rfl
            have hs2 : (partI n off data xs (i + 1)).2 = ps ++ [xs[i]] := by
              rw [hs]; show putP off (off + data.length) data low xs[i].offset ps ++ [xs[i]] = _
              unfold putP; rw [hm, if_neg hp]
            refine RoundE.intro (i + 1) [0, 1, 2, 3, 4, 5, 10, 7] (by omega) (by omega) ?_
            simp only [go_sem, hs1, hs2]
            simp [TChunk.enc]
        · have h1' := of_decide_eq_false h1
          have hi2 : i = xs.length := by omega
          simp only [go_sem]
          rw [hpi hi2] at hpl
          have hlaw := partL_law (data := data) ho hn0 hck (by rw [hL]; exact hlt) hE ho2
          have hasc := hlaw.1
          have hlen := hlaw.2.2.2
          have hm : (if off + (data.length : Int) < off + (data.length : Int) then off + (data.length : Int) else off + (data.length : Int)) = off + (data.length : Int) := by simp
          unfold putP at hpl
          rw [hm] at hpl
          simp only at hpl
          have hmh : off + (data.length : Int) ≤ off + (data.length : Int) := Int.le_refl _
          refine CallS.inl (inl_ev (n := 27) (rs := []) Try.func28 rfl Try.call28 Try.checked.mixed rfl rfl ?_)
          simp only [go_sem, hm]
          refine cSplit (fun h2 => ?_) (fun h2 => ?_)
          · have hp := of_decide_eq_true h2
            rw [if_pos hp] at hpl
            have hwa : IntKind.i64.wrap (low - off) = (((low - off).toNat : Nat) : Int) := by rw [w64] <;> omega
            have hwb : IntKind.i64.wrap (off + (data.length : Int) - off) = (((off + (data.length : Int) - off).toNat : Nat) : Int) := by rw [w64] <;> omega
            try simp only [go_sem]
            repeat' (first
              | (with_reducible refine gTrueS ?_; simp only [go_sem, hm, hwa, hwb, List.length_map, Int.toNat_natCast]) | (with_reducible refine gFalseS ?_; simp only [go_sem, hm, hwa, hwb, List.length_map, Int.toNat_natCast]) | (with_reducible refine gTrue ?_; simp only [go_sem, hm, hwa, hwb, List.length_map, Int.toNat_natCast]) | (with_reducible refine gFalse ?_; simp only [go_sem, hm, hwa, hwb, List.length_map, Int.toNat_natCast])
              | (refine gSymS ?_; simp only [go_sem, hm, hwa, hwb, List.length_map, Int.toNat_natCast]) | (refine gSym ?_; simp only [go_sem, hm, hwa, hwb, List.length_map, Int.toNat_natCast])
              | (refine drawE_intro [[.post, .un, .un, .un, .un, .un, .un, .un, .un, .un, .un, .un, .un, .un, .post, .post], [.un, .post, .un, .un, .un, .un, .un, .un, .un, .un, .un, .un, .post, .post, .post, .post], [.un, .un, .post, .un, .un, .un, .un, .un, .un, .un, .un, .post, .post, .post, .post, .post], [.un, .un, .un, .post, .un, .post, .un, .un, .un, .un, .un, .post, .post, .post, .post, .post], [.un, .un, .un, .un, .post, .post, .un, .un, .un, .un, .un, .post, .post, .post, .post, .post], [.un, .un, .un, .pre, .pre, .post, .un, .un, .un, .un, .un, .post, .post, .post, .post, .post], [.un, .un, .un, .un, .un, .un, .post, .un, .post, .un, .post, .post, .post, .post, .post, .post], [.un, .un, .un, .un, .un, .un, .un, .post, .post, .un, .post, .post, .post, .post, .post, .post], [.un, .un, .un, .un, .un, .un, .pre, .pre, .post, .un, .post, .post, .post, .post, .post, .post], [.un, .un, .un, .un, .un, .un, .un, .un, .un, .post, .post, .post, .post, .post, .post, .post], [.un, .un, .un, .un, .un, .un, .pre, .pre, .pre, .pre, .post, .post, .post, .post, .post, .post], [.un, .un, .pre, .pre, .pre, .pre, .pre, .pre, .pre, .pre, .pre, .post, .post, .post, .post, .post], [.un, .pre, .pre, .pre, .pre, .pre, .pre, .pre, .pre, .pre, .pre, .pre, .post, .post, .post, .post], [.un, .pre, .pre, .pre, .pre, .pre, .pre, .pre, .pre, .pre, .pre, .pre, .pre, .post, .post, .post], [.pre, .pre, .pre, .pre, .pre, .pre, .pre, .pre, .pre, .pre, .pre, .pre, .pre, .pre, .post, .post], [.pre, .pre, .pre, .pre, .pre, .pre, .pre, .pre, .pre, .pre, .pre, .pre, .pre, .pre, .pre, .post]] (by kernel_rfl) (by rfl) ?_; simp only [go_sem, hm, hwa, hwb, List.length_map, Int.toNat_natCast])
              | (refine cSplit (fun h => ?_) (fun h => ?_) <;> simp only [go_sem, hm, hwa, hwb, List.length_map, Int.toNat_natCast])
              | (with_reducible refine And.intro ?_ ?_; (focus (first | omega | (exact ⟨by omega, by omega⟩) | (simp; done) | (simp; omega)))))
            have hq1 : ps.length + 1 = (partL n off data xs).length := by rw [hpl]; simp
            have hq2 : List.map TChunk.enc ps ++ [[D.int .i64 low, D.str (List.take ((off + (data.length : Int) - off).toNat - (low - off).toNat) (List.drop (low - off).toNat data))]] = (partL n off data xs).map TChunk.enc := by
              rw [hpl, List.map_append]; rfl
            have hq3 : (partL n off data xs).length ≤ 12 := by omega
            generalize partL n off data xs = qs at hq1 hq2 hasc hX hq3
            have hbq : ∀ c ∈ qs, 0 ≤ c.offset ∧ c.offset ≤ 4611686018427387904 := fun c hc => by have := asc_data hasc c hc; omega
            have hoq := asc_sorted hasc
            have haq : asc 1048576 0 qs = true := asc_lo hasc hn0
            have hql : qs.length ≤ 1048576 := by omega
            simp only [hq1, hq2]
            refine CallS.inl (sort_inl _ 9 qs _ rfl (by simp) hq3 hbq hoq (by simp [roks, rok, voks, vok]) (by simp [voks, vok]) _ ?_)
            try simp only [go_sem]
            repeat' (first
              | (refine CallS.intro (by first | assumption | (apply impl_IsBuffer <;> first | assumption | omega) | (apply impl_copyBuffer <;> first | assumption | omega) | (apply impl_Chunk_end <;> first | assumption | omega) | (apply slices_SortFunc_impl_Chunk_impl_Chunk <;> first | assumption | omega) | (apply impl_joined <;> first | assumption | omega)) ?_; simp only [go_sem, List.length_map])
              | (refine CallK.intro (by first | assumption | (apply impl_IsBuffer <;> first | assumption | omega) | (apply impl_copyBuffer <;> first | assumption | omega) | (apply impl_Chunk_end <;> first | assumption | omega) | (apply slices_SortFunc_impl_Chunk_impl_Chunk <;> first | assumption | omega) | (apply impl_joined <;> first | assumption | omega)) ?_; simp only [go_sem, List.length_map])
              | (with_reducible refine gTrueS ?_; simp only [go_sem, List.length_map]) | (with_reducible refine gFalseS ?_; simp only [go_sem, List.length_map]) | (with_reducible refine gTrue ?_; simp only [go_sem, List.length_map]) | (with_reducible refine gFalse ?_; simp only [go_sem, List.length_map])
              | (refine gSymS ?_; simp only [go_sem, List.length_map]) | (refine gSym ?_; simp only [go_sem, List.length_map])
              | (refine drawE_intro [[.post, .un, .un, .post, .un, .un, .un, .un, .un, .un, .post, .post], [.un, .post, .post, .post, .un, .un, .un, .un, .un, .un, .post, .post], [.un, .pre, .post, .post, .un, .un, .un, .un, .un, .un, .post, .post], [.pre, .pre, .pre, .post, .un, .un, .un, .un, .un, .un, .post, .post], [.un, .un, .un, .un, .post, .un, .un, .post, .un, .un, .un, .post], [.un, .un, .un, .un, .un, .post, .post, .post, .un, .un, .un, .post], [.un, .un, .un, .un, .un, .pre, .post, .post, .un, .un, .un, .post], [.un, .un, .un, .un, .pre, .pre, .pre, .post, .un, .un, .un, .post], [.un, .un, .un, .un, .un, .un, .un, .un, .post, .un, .post, .post], [.un, .un, .un, .un, .un, .un, .un, .un, .un, .post, .post, .post], [.pre, .pre, .pre, .pre, .un, .un, .un, .un, .pre, .pre, .post, .post], [.pre, .pre, .pre, .pre, .pre, .pre, .pre, .pre, .pre, .pre, .pre, .post]] (by kernel_rfl) (by rfl) ?_; simp only [go_sem, List.length_map])
              | (refine drawE_intro [[.post, .un, .un, .post, .post], [.un, .post, .post, .post, .post], [.un, .pre, .post, .post, .post], [.pre, .pre, .pre, .post, .post], [.pre, .pre, .pre, .pre, .post]] (by kernel_rfl) (by rfl) ?_; simp only [go_sem, List.length_map])
              | (refine drawE_intro [[.post, .post, .un, .un, .post, .post], [.pre, .post, .un, .un, .post, .post], [.un, .un, .post, .post, .post, .post], [.un, .un, .pre, .post, .post, .post], [.pre, .pre, .pre, .pre, .post, .post], [.pre, .pre, .pre, .pre, .pre, .post]] (by kernel_rfl) (by rfl) ?_; simp only [go_sem, List.length_map])
              | (refine cSplit (fun h => ?_) (fun h => ?_) <;> simp only [go_sem, List.length_map])
              | (with_reducible refine And.intro ?_ ?_; (focus (first | omega | (exact ⟨by omega, by omega⟩) | (simp; done) | (simp; omega)))))
            rw [hX]
          · have hp := of_decide_eq_false h2
            rw [if_neg hp] at hpl
            simp only [go_sem]
            have hq1 : ps.length = (partL n off data xs).length := by rw [hpl]
            have hq2 : List.map TChunk.enc ps = (partL n off data xs).map TChunk.enc := by rw [hpl]
            have hq3 : (partL n off data xs).length ≤ 12 := by omega
            generalize partL n off data xs = qs at hq1 hq2 hasc hX hq3
            have hbq : ∀ c ∈ qs, 0 ≤ c.offset ∧ c.offset ≤ 4611686018427387904 := fun c hc => by have := asc_data hasc c hc; omega
            have hoq := asc_sorted hasc
            have haq : asc 1048576 0 qs = true := asc_lo hasc hn0
            have hql : qs.length ≤ 1048576 := by omega
            simp only [hq1, hq2]
            refine CallS.inl (sort_inl _ 6 qs _ rfl (by simp) hq3 hbq hoq (by simp [roks, rok, voks, vok]) (by simp [voks, vok]) _ ?_)
            try simp only [go_sem]
            repeat' (first
              | (refine CallS.intro (by first | assumption | (apply impl_IsBuffer <;> first | assumption | omega) | (apply impl_copyBuffer <;> first | assumption | omega) | (apply impl_Chunk_end <;> first | assumption | omega) | (apply slices_SortFunc_impl_Chunk_impl_Chunk <;> first | assumption | omega) | (apply impl_joined <;> first | assumption | omega)) ?_; simp only [go_sem, List.length_map])
              | (refine CallK.intro (by first | assumption | (apply impl_IsBuffer <;> first | assumption | omega) | (apply impl_copyBuffer <;> first | assumption | omega) | (apply impl_Chunk_end <;> first | assumption | omega) | (apply slices_SortFunc_impl_Chunk_impl_Chunk <;> first | assumption | omega) | (apply impl_joined <;> first | assumption | omega)) ?_; simp only [go_sem, List.length_map])
              | (with_reducible refine gTrueS ?_; simp only [go_sem, List.length_map]) | (with_reducible refine gFalseS ?_; simp only [go_sem, List.length_map]) | (with_reducible refine gTrue ?_; simp only [go_sem, List.length_map]) | (with_reducible refine gFalse ?_; simp only [go_sem, List.length_map])
              | (refine gSymS ?_; simp only [go_sem, List.length_map]) | (refine gSym ?_; simp only [go_sem, List.length_map])
              | (refine drawE_intro [[.post, .un, .un, .post, .un, .un, .un, .un, .un, .un, .post, .post], [.un, .post, .post, .post, .un, .un, .un, .un, .un, .un, .post, .post], [.un, .pre, .post, .post, .un, .un, .un, .un, .un, .un, .post, .post], [.pre, .pre, .pre, .post, .un, .un, .un, .un, .un, .un, .post, .post], [.un, .un, .un, .un, .post, .un, .un, .post, .un, .un, .un, .post], [.un, .un, .un, .un, .un, .post, .post, .post, .un, .un, .un, .post], [.un, .un, .un, .un, .un, .pre, .post, .post, .un, .un, .un, .post], [.un, .un, .un, .un, .pre, .pre, .pre, .post, .un, .un, .un, .post], [.un, .un, .un, .un, .un, .un, .un, .un, .post, .un, .post, .post], [.un, .un, .un, .un, .un, .un, .un, .un, .un, .post, .post, .post], [.pre, .pre, .pre, .pre, .un, .un, .un, .un, .pre, .pre, .post, .post], [.pre, .pre, .pre, .pre, .pre, .pre, .pre, .pre, .pre, .pre, .pre, .post]] (by kernel_rfl) (by rfl) ?_; simp only [go_sem, List.length_map])
              | (refine drawE_intro [[.post, .un, .un, .post, .post], [.un, .post, .post, .post, .post], [.un, .pre, .post, .post, .post], [.pre, .pre, .pre, .post, .post], [.pre, .pre, .pre, .pre, .post]] (by kernel_rfl) (by rfl) ?_; simp only [go_sem, List.length_map])
              | (refine drawE_intro [[.post, .post, .un, .un, .post, .post], [.pre, .post, .un, .un, .post, .post], [.un, .un, .post, .post, .post, .post], [.un, .un, .pre, .post, .post, .post], [.pre, .pre, .pre, .pre, .post, .post], [.pre, .pre, .pre, .pre, .pre, .post]] (by kernel_rfl) (by rfl) ?_; simp only [go_sem, List.length_map])
              | (refine cSplit (fun h => ?_) (fun h => ?_) <;> simp only [go_sem, List.length_map])
              | (with_reducible refine And.intro ?_ ?_; (focus (first | omega | (exact ⟨by omega, by omega⟩) | (simp; done) | (simp; omega)))))
            rw [hX]
end Gv
