/-
  Chunks joined: the function.
-/
import Derived.Test.YtiaaipckeinbiaaBufFn
import Derived.Test.YtiaaipckeinbiaaPartLaw
namespace Gv
open Go Go.Proofs

theorem joinS_no {out : List TChunk} {c : TChunk} {m : Nat} (h : out.length = m + 1) (h2 : out[m].offset + (out[m].data.length : Int) ≠ c.offset) : joinS out c = out ++ [c] := by
  have hl : out.getLast? = some out[m] := by rw [List.getLast?_eq_getElem?, show out.length - 1 = m by omega, List.getElem?_eq_getElem]
  unfold joinS; rw [hl]; simp only [if_neg h2]
theorem joinS_yes {out : List TChunk} {c : TChunk} {m : Nat} (h : out.length = m + 1) (h2 : out[m].offset + (out[m].data.length : Int) = c.offset) : joinS out c = out.set m ⟨out[m].offset, out[m].data ++ c.data⟩ := by
  have hl : out.getLast? = some out[m] := by rw [List.getLast?_eq_getElem?, show out.length - 1 = m by omega, List.getElem?_eq_getElem]
  unfold joinS; rw [hl]; simp only [if_pos h2]
  obtain ⟨ys, l, rfl⟩ : ∃ ys l, out = ys ++ [l] := ⟨out.dropLast, out[m], last_split hl⟩
  have hm : m = ys.length := by simpa using h.symm
  subst hm
  simp

theorem asc_data {e : Int} : ∀ {cs : List TChunk} {lo : Int}, asc e lo cs = true → ∀ c ∈ cs, lo ≤ c.offset ∧ c.offset + (c.data.length : Int) ≤ e
  | [], _, _, c, hc => by cases hc
  | d :: cs, lo, h, c, hc => by
    obtain ⟨h1, h2, h3⟩ := asc_cons h
    have h4 := asc_le h3
    rcases List.mem_cons.1 hc with rfl | hc
    · exact ⟨h2, h4⟩
    · have := asc_data h3 c hc; omega
set_option maxRecDepth 100000 in
theorem impl_joined (xs : List TChunk) (hx : xs.length ≤ 1048576) (ha : asc 1048576 0 xs = true) : PureCall Try.prog 32 [.one (.sl 2 (xs.map TChunk.enc))] [.one (.sl 2 ((joinL xs).map TChunk.enc))] := by
  refine pure_ev Try.func32 rfl Try.call32 Try.checked.mixed [.d (.sl 2 (xs.map TChunk.enc)), .junk, .junk, .junk, .junk, .junk, .junk, .junk, .junk, .junk, .junk, .junk, .junk, .junk, .junk, .junk, .junk, .junk, .junk, .junk, .junk, .junk, .junk, .junk, .junk, .junk, .junk, .junk, .junk, .junk, .junk, .junk, .junk, .junk, .junk, .junk, .junk, .junk, .junk, .junk, .junk, .junk, .junk, .junk, .junk] rfl [.tmp 2] rfl ?_
  intro ok
  simp only [go_sem, List.length_map]
  refine LoopK.intro (fun i : Nat => ⟨[.d (.sl 2 (xs.map TChunk.enc)), .junk, .nils 2, .sl 0 0 (joinL (xs.take i)).length, .junk, .junk, .junk, .junk, .d (.sl 2 (xs.map TChunk.enc)), .d (.int .i64 xs.length), .d (.int .i64 i), .junk, .junk, .junk, .junk, .junk, .junk, .junk, .junk, .junk, .junk, .junk, .junk, .junk, .junk, .junk, .junk, .junk, .junk, .junk, .junk, .junk, .junk, .junk, .junk, .junk, .junk, .junk, .junk, .junk, .junk, .junk, .junk, .junk, .junk], [.arr 2 ((joinL (xs.take i)).map TChunk.enc) true]⟩)
    (fun i => xs.length - i) (fun i => i ≤ xs.length) 0 [0] (by omega) ?_ ?_
  · simp only [go_sem]; simp [joinL]
  · rintro i hi
    simp only [go_sem]
    refine cSplit (fun h1 => ?_) (fun h1 => ?_)
    · have h1' := of_decide_eq_true h1
      have hlt : i < xs.length := by omega
      have hxi := map_at TChunk.enc xs i hlt
      have hw := inc (i := i) (m := xs.length) hlt (by simp only [maxLen]; omega)
      have hJ := joinL_JP (Int.le_refl 0) (by decide) (asc_take i ha)
      have hjl := joinL_len (xs.take i)
      have hjl2 : (joinL (xs.take i)).length ≤ 1048576 := by rw [List.length_take] at hjl; omega
      have hst := joinL_step xs i hlt
      generalize joinL (xs.take i) = out at hJ hjl hjl2 hst
      cases hm : out.length with
      | zero =>
        have hz := joinS_none (c := xs[i]) hm
        have hw1 : IntKind.i64.wrap (((0 : Nat) : Int) - 1) = -1 := by decide
        have e1 : decide ((0 : Int) ≤ -1) = false := rfl
        try simp only [go_sem, List.length_map, Int.toNat_natCast, hxi, TChunk.enc, hw1]
        repeat' (first
          | (refine CallS.intro (by first | assumption | (apply impl_Chunk_end <;> first | assumption | omega)) ?_; simp only [go_sem, List.length_map, Int.toNat_natCast, hxi, TChunk.enc, hm, hw1, e1, hw])
          | (refine CallK.intro (by first | assumption | (apply impl_Chunk_end <;> first | assumption | omega)) ?_; simp only [go_sem, List.length_map, Int.toNat_natCast, hxi, TChunk.enc, hm, hw1, e1, hw])
          | (with_reducible refine gTrueS ?_; simp only [go_sem, List.length_map, Int.toNat_natCast, hxi, TChunk.enc, hm, hw1, e1, hw]) | (with_reducible refine gFalseS ?_; simp only [go_sem, List.length_map, Int.toNat_natCast, hxi, TChunk.enc, hm, hw1, e1, hw]) | (with_reducible refine gTrue ?_; simp only [go_sem, List.length_map, Int.toNat_natCast, hxi, TChunk.enc, hm, hw1, e1, hw]) | (with_reducible refine gFalse ?_; simp only [go_sem, List.length_map, hm, hw])
          | (refine gSymS ?_; simp only [go_sem, List.length_map, Int.toNat_natCast, hxi, TChunk.enc, hm, hw1, e1, hw]) | (refine gSym ?_; simp only [go_sem, List.length_map, Int.toNat_natCast, hxi, TChunk.enc, hm, hw1, e1, hw])
          | (refine drawE_intro [[.post, .post, .post, .post, .post, .post, .post, .post, .post, .post, .post, .post], [.pre, .post, .post, .post, .post, .post, .post, .post, .post, .post, .post, .post], [.pre, .pre, .post, .post, .post, .post, .post, .post, .post, .post, .post, .post], [.pre, .pre, .pre, .post, .un, .post, .post, .post, .un, .un, .post, .post], [.pre, .pre, .pre, .un, .post, .post, .post, .post, .un, .un, .post, .post], [.pre, .pre, .pre, .pre, .pre, .post, .post, .post, .un, .un, .post, .post], [.pre, .pre, .pre, .pre, .pre, .pre, .post, .post, .un, .un, .post, .post], [.pre, .pre, .pre, .pre, .pre, .pre, .pre, .post, .un, .un, .post, .post], [.pre, .pre, .pre, .un, .un, .un, .un, .un, .post, .post, .post, .post], [.pre, .pre, .pre, .un, .un, .un, .un, .un, .pre, .post, .post, .post], [.pre, .pre, .pre, .pre, .pre, .pre, .pre, .pre, .pre, .pre, .post, .post], [.pre, .pre, .pre, .pre, .pre, .pre, .pre, .pre, .pre, .pre, .pre, .post]] (by kernel_rfl) (by rfl) ?_; simp only [go_sem])
          | (refine drawE_intro [[.post, .un, .post, .post, .post, .un, .un, .post, .post, .post, .post], [.un, .post, .post, .post, .post, .un, .un, .post, .post, .post, .post], [.pre, .pre, .post, .post, .post, .un, .un, .post, .post, .post, .post], [.pre, .pre, .pre, .post, .post, .un, .un, .post, .post, .post, .post], [.pre, .pre, .pre, .pre, .post, .un, .un, .post, .post, .post, .post], [.un, .un, .un, .un, .un, .post, .post, .post, .post, .post, .post], [.un, .un, .un, .un, .un, .pre, .post, .post, .post, .post, .post], [.pre, .pre, .pre, .pre, .pre, .pre, .pre, .post, .post, .post, .post], [.pre, .pre, .pre, .pre, .pre, .pre, .pre, .pre, .post, .post, .post], [.pre, .pre, .pre, .pre, .pre, .pre, .pre, .pre, .pre, .post, .post], [.pre, .pre, .pre, .pre, .pre, .pre, .pre, .pre, .pre, .pre, .post]] (by kernel_rfl) (by rfl) ?_; simp only [go_sem, List.length_map, Int.toNat_natCast, hxi, TChunk.enc, hm, hw1, e1, hw])
          | (refine cSplit (fun h => ?_) (fun h => ?_) <;> simp only [go_sem, List.length_map, Int.toNat_natCast, hxi, TChunk.enc, hm, hw1, e1, hw])
          | (with_reducible refine And.intro ?_ ?_; (focus (first | omega | (exact ⟨by omega, by omega⟩) | (simp; done) | (simp; omega)))))
        all_goals (
          refine RoundE.intro (i + 1) [3] (by omega) (by omega) ?_
          rw [List.length_eq_zero_iff.1 hm] at hst ⊢
          simp only [go_sem, hst, joinS, List.getLast?_nil]
          simp [TChunk.enc])
      | succ m =>
        have hlm : m < out.length := by omega
        have hom := map_at TChunk.enc out m hlm
        have hen := hJ.en out[m] (List.getElem_mem hlm)
        have hcm := chk_mem _ _ hJ.ck out[m] (List.getElem_mem hlm)
        have hend : 0 ≤ out[m].offset ∧ out[m].offset ≤ 4611686018427387903 - (out[m].data.length : Int) := ⟨by omega, hcm.2⟩
        have hol : out[m].data.length ≤ 1048576 := by omega
        have hdl : xs[i].data.length ≤ 1048576 := by have := asc_data ha xs[i] (List.getElem_mem hlt); omega
        have hw1 : IntKind.i64.wrap (((m + 1 : Nat) : Int) - 1) = (m : Int) := by rw [w64] <;> omega
        have e1 : decide ((0 : Int) ≤ (m : Int)) = true := decide_eq_true (by omega)
        by_cases ht : out[m].offset + (out[m].data.length : Int) = xs[i].offset
        · have e2 : decide (out[m].offset + (out[m].data.length : Int) = xs[i].offset) = true := decide_eq_true ht
          try simp only [go_sem, List.length_map, Int.toNat_natCast, hxi, TChunk.enc, hw1]
          repeat' (first
            | (refine CallS.intro (by first | assumption | (apply impl_Chunk_end <;> first | assumption | omega)) ?_; simp only [go_sem, List.length_map, Int.toNat_natCast, hxi, hom, TChunk.enc, hm, hw1, e1, e2, hw])
            | (refine CallK.intro (by first | assumption | (apply impl_Chunk_end <;> first | assumption | omega)) ?_; simp only [go_sem])
            | (with_reducible refine gTrueS ?_; simp only [go_sem, List.length_map, Int.toNat_natCast, hxi, hom, TChunk.enc, hm, hw1, e1, e2, hw]) | (with_reducible refine gFalseS ?_; simp only [go_sem, List.length_map, Int.toNat_natCast, hxi, hom, TChunk.enc, hm, hw1, e1, e2, hw]) | (with_reducible refine gTrue ?_; simp only [go_sem, List.length_map, Int.toNat_natCast, hom, TChunk.enc, hm, e2]) | (with_reducible refine gFalse ?_; simp only [go_sem, List.length_map, Int.toNat_natCast, hxi, hom, TChunk.enc, hm, hw1, e1, e2, hw])
            | (refine gSymS ?_; simp only [go_sem, List.length_map, Int.toNat_natCast, hxi, hom, TChunk.enc, hm, hw1, e1, e2, hw]) | (refine gSym ?_; simp only [go_sem, List.length_map, Int.toNat_natCast, hxi, hom, TChunk.enc, hm, hw1, e1, e2, hw])
            | (refine drawE_intro [[.post, .post, .post, .post, .post, .post, .post, .post, .post, .post, .post, .post], [.pre, .post, .post, .post, .post, .post, .post, .post, .post, .post, .post, .post], [.pre, .pre, .post, .post, .post, .post, .post, .post, .post, .post, .post, .post], [.pre, .pre, .pre, .post, .un, .post, .post, .post, .un, .un, .post, .post], [.pre, .pre, .pre, .un, .post, .post, .post, .post, .un, .un, .post, .post], [.pre, .pre, .pre, .pre, .pre, .post, .post, .post, .un, .un, .post, .post], [.pre, .pre, .pre, .pre, .pre, .pre, .post, .post, .un, .un, .post, .post], [.pre, .pre, .pre, .pre, .pre, .pre, .pre, .post, .un, .un, .post, .post], [.pre, .pre, .pre, .un, .un, .un, .un, .un, .post, .post, .post, .post], [.pre, .pre, .pre, .un, .un, .un, .un, .un, .pre, .post, .post, .post], [.pre, .pre, .pre, .pre, .pre, .pre, .pre, .pre, .pre, .pre, .post, .post], [.pre, .pre, .pre, .pre, .pre, .pre, .pre, .pre, .pre, .pre, .pre, .post]] (by kernel_rfl) (by rfl) ?_; simp only [go_sem, e1])
            | (refine drawE_intro [[.post, .un, .post, .post, .post, .un, .un, .post, .post, .post, .post], [.un, .post, .post, .post, .post, .un, .un, .post, .post, .post, .post], [.pre, .pre, .post, .post, .post, .un, .un, .post, .post, .post, .post], [.pre, .pre, .pre, .post, .post, .un, .un, .post, .post, .post, .post], [.pre, .pre, .pre, .pre, .post, .un, .un, .post, .post, .post, .post], [.un, .un, .un, .un, .un, .post, .post, .post, .post, .post, .post], [.un, .un, .un, .un, .un, .pre, .post, .post, .post, .post, .post], [.pre, .pre, .pre, .pre, .pre, .pre, .pre, .post, .post, .post, .post], [.pre, .pre, .pre, .pre, .pre, .pre, .pre, .pre, .post, .post, .post], [.pre, .pre, .pre, .pre, .pre, .pre, .pre, .pre, .pre, .post, .post], [.pre, .pre, .pre, .pre, .pre, .pre, .pre, .pre, .pre, .pre, .post]] (by kernel_rfl) (by rfl) ?_; simp only [go_sem, List.length_map, Int.toNat_natCast, hom, TChunk.enc, hm, hw])
            | (refine cSplit (fun h => ?_) (fun h => ?_) <;> simp only [go_sem, List.length_map, Int.toNat_natCast, hxi, hom, TChunk.enc, hm, hw1, e1, e2, hw])
            | (with_reducible refine And.intro ?_ ?_; (focus (first | omega | (exact ⟨by omega, by omega⟩) | (simp; done) | (simp; omega)))))
          all_goals (
            refine ⟨by simp only [maxLen]; have := hdl; have := hol; omega, ⟨by omega, by omega⟩, ⟨by omega, by simp⟩, ?_⟩
            refine RoundE.intro (i + 1) [0] (by omega) (by omega) ?_
            have hsl : (joinL (xs.take (i + 1))).length = m + 1 := by rw [hst, joinS_yes hm ht, List.length_set, hm]
            have hsm : ((out.map TChunk.enc).set m [D.int .i64 out[m].offset, D.str (out[m].data ++ xs[i].data)]) = (joinL (xs.take (i + 1))).map TChunk.enc := by
              rw [hst, joinS_yes hm ht, List.map_set]; rfl
            simp only [go_sem, hsl, hsm]
            try simp)
        · have e2 : decide (out[m].offset + (out[m].data.length : Int) = xs[i].offset) = false := decide_eq_false ht
          try simp only [go_sem, List.length_map, Int.toNat_natCast, hxi, TChunk.enc, hw1]
          repeat' (first
            | (refine CallS.intro (by first | assumption | (apply impl_Chunk_end <;> first | assumption | omega)) ?_; simp only [go_sem, List.length_map, Int.toNat_natCast, hxi, hom, TChunk.enc, hm, hw1, e1, e2, hw])
            | (refine CallK.intro (by first | assumption | (apply impl_Chunk_end <;> first | assumption | omega)) ?_; simp only [go_sem])
            | (with_reducible refine gTrueS ?_; simp only [go_sem, List.length_map, Int.toNat_natCast, hxi, hom, TChunk.enc, hm, hw1, e1, e2, hw]) | (with_reducible refine gFalseS ?_; simp only [go_sem, List.length_map, Int.toNat_natCast, hxi, hom, TChunk.enc, hm, hw1, e1, e2, hw]) | (with_reducible refine gTrue ?_; simp only [go_sem, List.length_map, Int.toNat_natCast, hom, TChunk.enc, hm, e2, hw]) | (with_reducible refine gFalse ?_; simp only [go_sem, List.length_map, Int.toNat_natCast, hxi, hom, TChunk.enc, hm, hw1, e1, e2, hw])
            | (refine gSymS ?_; simp only [go_sem, List.length_map, Int.toNat_natCast, hxi, hom, TChunk.enc, hm, hw1, e1, e2, hw]) | (refine gSym ?_; simp only [go_sem, List.length_map, Int.toNat_natCast, hxi, hom, TChunk.enc, hm, hw1, e1, e2, hw])
            | (refine drawE_intro [[.post, .post, .post, .post, .post, .post, .post, .post, .post, .post, .post, .post], [.pre, .post, .post, .post, .post, .post, .post, .post, .post, .post, .post, .post], [.pre, .pre, .post, .post, .post, .post, .post, .post, .post, .post, .post, .post], [.pre, .pre, .pre, .post, .un, .post, .post, .post, .un, .un, .post, .post], [.pre, .pre, .pre, .un, .post, .post, .post, .post, .un, .un, .post, .post], [.pre, .pre, .pre, .pre, .pre, .post, .post, .post, .un, .un, .post, .post], [.pre, .pre, .pre, .pre, .pre, .pre, .post, .post, .un, .un, .post, .post], [.pre, .pre, .pre, .pre, .pre, .pre, .pre, .post, .un, .un, .post, .post], [.pre, .pre, .pre, .un, .un, .un, .un, .un, .post, .post, .post, .post], [.pre, .pre, .pre, .un, .un, .un, .un, .un, .pre, .post, .post, .post], [.pre, .pre, .pre, .pre, .pre, .pre, .pre, .pre, .pre, .pre, .post, .post], [.pre, .pre, .pre, .pre, .pre, .pre, .pre, .pre, .pre, .pre, .pre, .post]] (by kernel_rfl) (by rfl) ?_; simp only [go_sem, e1])
            | (refine drawE_intro [[.post, .un, .post, .post, .post, .un, .un, .post, .post, .post, .post], [.un, .post, .post, .post, .post, .un, .un, .post, .post, .post, .post], [.pre, .pre, .post, .post, .post, .un, .un, .post, .post, .post, .post], [.pre, .pre, .pre, .post, .post, .un, .un, .post, .post, .post, .post], [.pre, .pre, .pre, .pre, .post, .un, .un, .post, .post, .post, .post], [.un, .un, .un, .un, .un, .post, .post, .post, .post, .post, .post], [.un, .un, .un, .un, .un, .pre, .post, .post, .post, .post, .post], [.pre, .pre, .pre, .pre, .pre, .pre, .pre, .post, .post, .post, .post], [.pre, .pre, .pre, .pre, .pre, .pre, .pre, .pre, .post, .post, .post], [.pre, .pre, .pre, .pre, .pre, .pre, .pre, .pre, .pre, .post, .post], [.pre, .pre, .pre, .pre, .pre, .pre, .pre, .pre, .pre, .pre, .post]] (by kernel_rfl) (by rfl) ?_; simp only [go_sem, List.length_map, Int.toNat_natCast, hxi, hom, TChunk.enc, hm, hw1, e1, e2, hw])
            | (refine cSplit (fun h => ?_) (fun h => ?_) <;> simp only [go_sem, List.length_map, Int.toNat_natCast, hxi, hom, TChunk.enc, hm, hw1, e1, e2, hw])
            | (with_reducible refine And.intro ?_ ?_; (focus (first | omega | (exact ⟨by omega, by omega⟩) | (simp; done) | (simp; omega)))))
          all_goals (
            refine RoundE.intro (i + 1) [3] (by omega) (by omega) ?_
            have hsl : (joinL (xs.take (i + 1))).length = m + 1 + 1 := by rw [hst, joinS_no hm ht]; simp [hm]
            have hsm : (joinL (xs.take (i + 1))).map TChunk.enc = out.map TChunk.enc ++ [[D.int .i64 xs[i].offset, D.str xs[i].data]] := by
              rw [hst, joinS_no hm ht, List.map_append]; rfl
            simp only [go_sem, hsl, hsm]
            simp [List.take_of_length_le])
    · have h1' := of_decide_eq_false h1
      have hi2 : i = xs.length := by omega
      subst hi2
      rw [List.take_length]
      simp only [go_sem, List.length_map]
      simp [outOA]
end Gv
