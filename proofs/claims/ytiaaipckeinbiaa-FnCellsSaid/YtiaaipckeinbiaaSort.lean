/-
  The library's sort at chunks that are in order, at most twelve.
-/
import Derived.Test.YtiaaipckeinbiaaBufFn
import Derived.Test.YtiaaipckeinbiaaCurN
namespace Gv
open Go Go.Proofs

set_option maxRecDepth 100000 in
theorem impl_InsertData_2 (a : Int) (x : List UInt8) (b : Int) (y : List UInt8) (h : 0 ≤ a ∧ a ≤ 4611686018427387904 ∧ 0 ≤ b ∧ b ≤ 4611686018427387904) : PureCall Try.prog 31 [.agg [.int .i64 a, .str x], .agg [.int .i64 b, .str y]] [.one (.int .i64 (a - b))] := by
  refine pure_ev Try.func31 rfl Try.call31 Try.checked.mixed [.agg [.d (.int .i64 a), .d (.str x)], .agg [.d (.int .i64 b), .d (.str y)], .junk, .junk, .junk, .junk, .junk, .junk, .junk, .junk] rfl [.tmp 4] rfl ?_
  intro _
  have hw : IntKind.i64.wrap (a - b) = a - b := by rw [w64] <;> omega
  try simp only [go_sem, hw]
  repeat' (first
    | (with_reducible refine gTrueS ?_; simp only [go_sem, hw]) | (with_reducible refine gFalseS ?_; simp only [go_sem, hw]) | (with_reducible refine gTrue ?_; simp only [go_sem, hw]) | (with_reducible refine gFalse ?_; simp only [go_sem, hw])
    | (refine gSymS ?_; simp only [go_sem, hw]) | (refine gSym ?_; simp only [go_sem, hw])
    | (refine cSplit (fun h => ?_) (fun h => ?_) <;> simp only [go_sem, hw])
    | (with_reducible refine And.intro ?_ ?_; (focus (first | omega | (exact ⟨by omega, by omega⟩) | (simp; done) | (simp; omega)))))
  all_goals simp

set_option maxRecDepth 100000 in
theorem insSort_inl (hs : List H) (id : Nat) (xs : List TChunk) (kv : List V) (he : hget hs id = .arr 2 (xs.map TChunk.enc) true) (hid : id < hs.length) (hx : xs.length ≤ 1048576)
    (hb : ∀ c ∈ xs, 0 ≤ c.offset ∧ c.offset ≤ 4611686018427387904) (ho : ∀ i (h : i + 1 < xs.length), xs[i].offset < xs[i + 1].offset)
    (hr : roks hs.length hs) (hkv : voks hs.length kv) (K : V → List H → Prop) (hk : K (tupV []) hs) : InlCall Try.prog 65 kv hs [.sl id 0 xs.length, .d (.int .i64 0), .d (.int .i64 xs.length), .fn 31 []] K := by
  refine (inl_ev (n := 53) (rs := []) Try.func65 rfl Try.call65 Try.checked.mixed rfl rfl ?_)
  have hg : (List.range hs.length).getD id 0 = id := fix_range (Nat.le_refl _) id hid
  have hg2 : (List.range hs.length)[id]?.getD 0 = id := by rw [← List.getD_eq_getElem?_getD]; exact hg
  have hw0 : IntKind.i64.wrap (0 + 1) = ((0 + 1 : Nat) : Int) := by decide
  simp only [go_sem, hw0]
  refine LoopK.intro (α := Nat) (fun i => ⟨[.sl id 0 xs.length, .d (.int .i64 0), .d (.int .i64 xs.length), .fn 31 [], .junk, .junk, .junk, .junk, .d (.int .i64 ((i + 1 : Nat) : Int))] ++ List.replicate 44 .junk, hs⟩)
    (fun i => xs.length + 1 - i) (fun i => i ≤ xs.length) 0 (List.range hs.length) (by omega) ?_ ?_
  · exact see_keep0 hr hkv (by simp [vsees, vsee, ren, rens, hg2, List.replicate]) (by simp [voks, vok, hid, List.replicate])
  · intro i hi
    simp only [List.replicate, List.cons_append, List.nil_append]
    simp only [go_sem]
    refine cSplit (fun q => ?_) (fun q => ?_)
    · have hlt : i + 1 < xs.length := by have := of_decide_eq_true q; omega
      simp only [go_sem]
      refine LoopK.intro (α := Unit) (fun _ => ⟨[.sl id 0 xs.length, .d (.int .i64 0), .d (.int .i64 xs.length), .fn 31 [], .junk, .junk, .junk, .junk, .d (.int .i64 ((i + 1 : Nat) : Int)), .d (.int .i64 ((i + 1 : Nat) : Int))] ++ List.replicate 43 .junk, hs⟩)
        (fun _ => 0) (fun _ => True) () (List.range hs.length) trivial ?_ ?_
      · exact see_keep0 hr hkv (by simp [vsees, vsee, ren, rens, hg2, List.replicate]) (by simp [voks, vok, hid, List.replicate])
      · rintro _ _
        have hxi := map_at TChunk.enc xs (i + 1) hlt
        have hxj := map_at TChunk.enc xs i (by omega)
        have hw := inc (i := i + 1) (m := xs.length) hlt (by simp only [maxLen]; omega)
        have hwm : IntKind.i64.wrap (((i + 1 : Nat) : Int) - 1) = (i : Int) := by rw [w64] <;> omega
        have e1 : decide ((0 : Int) < ((i + 1 : Nat) : Int)) = true := decide_eq_true (by omega)
        have e2 : decide (xs[i + 1].offset - xs[i].offset < 0) = false := decide_eq_false (by have := ho i hlt; omega)
        have hbi := hb xs[i + 1] (List.getElem_mem hlt)
        have hbj := hb xs[i] (List.getElem_mem (show i < xs.length by omega))
        simp only [List.replicate, List.cons_append, List.nil_append]
        try simp only [go_sem]
        repeat' (first
          | (with_reducible refine gTrueS ?_; simp only [go_sem, he, List.length_map, Int.toNat_natCast, hxi, hxj, TChunk.enc, hw, hwm, e1, e2]) | (with_reducible refine gFalseS ?_; simp only [go_sem, he, List.length_map, Int.toNat_natCast, hxi, hxj, TChunk.enc, hw, hwm, e1, e2]) | (with_reducible refine gTrue ?_; simp only [go_sem, he, List.length_map, Int.toNat_natCast, hxi, hxj, TChunk.enc, hwm]) | (with_reducible refine gFalse ?_; simp only [go_sem, he, List.length_map, Int.toNat_natCast, hxi, hxj, TChunk.enc, hw, hwm, e1, e2])
          | (refine gSymS ?_; simp only [go_sem, he, List.length_map, Int.toNat_natCast, hxi, hxj, TChunk.enc, hw, hwm, e1, e2]) | (refine gSym ?_; simp only [go_sem, he, List.length_map, Int.toNat_natCast, hxi, hxj, TChunk.enc, hw, hwm, e1, e2])
          | (refine drawE_intro [[.post, .un, .post, .post, .post, .post, .post, .post, .post, .post, .post, .post, .post, .post, .post, .post, .post], [.un, .post, .post, .post, .post, .post, .post, .post, .post, .post, .post, .post, .post, .post, .post, .post, .post], [.pre, .pre, .post, .post, .post, .post, .post, .post, .post, .post, .post, .post, .post, .post, .post, .post, .post], [.pre, .pre, .pre, .post, .post, .post, .post, .post, .post, .post, .post, .post, .post, .post, .post, .post, .post], [.pre, .pre, .pre, .pre, .post, .un, .un, .un, .un, .un, .un, .un, .un, .un, .post, .post, .post], [.pre, .pre, .pre, .pre, .un, .post, .un, .post, .post, .un, .un, .un, .un, .un, .post, .post, .post], [.pre, .pre, .pre, .pre, .un, .un, .post, .post, .post, .un, .un, .un, .un, .un, .post, .post, .post], [.pre, .pre, .pre, .pre, .un, .pre, .pre, .post, .post, .un, .un, .un, .un, .un, .post, .post, .post], [.pre, .pre, .pre, .pre, .un, .pre, .pre, .pre, .post, .un, .un, .un, .un, .un, .post, .post, .post], [.pre, .pre, .pre, .pre, .un, .un, .un, .un, .un, .post, .un, .un, .post, .post, .post, .post, .post], [.pre, .pre, .pre, .pre, .un, .un, .un, .un, .un, .un, .post, .post, .post, .post, .post, .post, .post], [.pre, .pre, .pre, .pre, .un, .un, .un, .un, .un, .un, .pre, .post, .post, .post, .post, .post, .post], [.pre, .pre, .pre, .pre, .un, .un, .un, .un, .un, .pre, .pre, .pre, .post, .post, .post, .post, .post], [.pre, .pre, .pre, .pre, .un, .un, .un, .un, .un, .pre, .pre, .pre, .pre, .post, .post, .post, .post], [.pre, .pre, .pre, .pre, .pre, .pre, .pre, .pre, .pre, .pre, .pre, .pre, .pre, .pre, .post, .post, .post], [.pre, .pre, .pre, .pre, .pre, .pre, .pre, .pre, .pre, .pre, .pre, .pre, .pre, .pre, .pre, .post, .post], [.pre, .pre, .pre, .pre, .pre, .pre, .pre, .pre, .pre, .pre, .pre, .pre, .pre, .pre, .pre, .pre, .post]] (by kernel_rfl) (by rfl) ?_; simp only [go_sem, e1])
          | (refine drawE_intro [[.post, .un, .un, .un, .un, .un, .un, .un, .un, .un, .un, .un, .un, .un, .post, .post, .post, .post], [.un, .post, .un, .un, .un, .un, .un, .un, .un, .un, .un, .un, .un, .un, .post, .post, .post, .post], [.un, .un, .post, .un, .un, .un, .un, .un, .un, .un, .un, .un, .un, .un, .un, .un, .post, .post], [.un, .un, .un, .post, .post, .un, .un, .un, .un, .un, .un, .un, .un, .un, .un, .un, .post, .post], [.un, .un, .un, .pre, .post, .un, .un, .un, .un, .un, .un, .un, .un, .un, .un, .un, .post, .post], [.un, .un, .un, .un, .un, .post, .un, .un, .post, .post, .un, .un, .un, .un, .post, .post, .post, .post], [.un, .un, .un, .un, .un, .un, .post, .post, .post, .post, .un, .un, .un, .un, .post, .post, .post, .post], [.un, .un, .un, .un, .un, .un, .pre, .post, .post, .post, .un, .un, .un, .un, .post, .post, .post, .post], [.un, .un, .un, .un, .un, .pre, .pre, .pre, .post, .post, .un, .un, .un, .un, .post, .post, .post, .post], [.un, .un, .un, .un, .un, .pre, .pre, .pre, .pre, .post, .un, .un, .un, .un, .post, .post, .post, .post], [.un, .un, .un, .un, .un, .un, .un, .un, .un, .un, .post, .un, .post, .post, .post, .post, .post, .post], [.un, .un, .un, .un, .un, .un, .un, .un, .un, .un, .un, .post, .post, .post, .post, .post, .post, .post], [.un, .un, .un, .un, .un, .un, .un, .un, .un, .un, .pre, .pre, .post, .post, .post, .post, .post, .post], [.un, .un, .un, .un, .un, .un, .un, .un, .un, .un, .pre, .pre, .pre, .post, .post, .post, .post, .post], [.pre, .pre, .un, .un, .un, .pre, .pre, .pre, .pre, .pre, .pre, .pre, .pre, .pre, .post, .post, .post, .post], [.pre, .pre, .un, .un, .un, .pre, .pre, .pre, .pre, .pre, .pre, .pre, .pre, .pre, .pre, .post, .post, .post], [.pre, .pre, .pre, .pre, .pre, .pre, .pre, .pre, .pre, .pre, .pre, .pre, .pre, .pre, .pre, .pre, .post, .post], [.pre, .pre, .pre, .pre, .pre, .pre, .pre, .pre, .pre, .pre, .pre, .pre, .pre, .pre, .pre, .pre, .pre, .post]] (by kernel_rfl) (by rfl) ?_; simp only [go_sem, he, List.length_map, Int.toNat_natCast, hxi, hxj, TChunk.enc, hw, hwm, e1, e2])
          | (refine cSplit (fun h => ?_) (fun h => ?_) <;> simp only [go_sem, he, List.length_map, Int.toNat_natCast, hxi, hxj, TChunk.enc, hw, hwm, e1, e2])
          | (with_reducible refine And.intro ?_ ?_; (focus (first | omega | (exact ⟨by omega, by omega⟩) | (simp; done) | (simp; omega)))))
        refine CallK.intro (impl_InsertData_2 _ _ _ _ ⟨hbi.1, hbi.2, hbj.1, hbj.2⟩) ?_
        try simp only [go_sem]
        repeat' (first
          | (with_reducible refine gTrueS ?_; simp only [go_sem, he, List.length_map, Int.toNat_natCast, hxi, hxj, TChunk.enc, hw, hwm, e1, e2]) | (with_reducible refine gFalseS ?_; simp only [go_sem, he, List.length_map, Int.toNat_natCast, hxi, hxj, TChunk.enc, hw, hwm, e1, e2]) | (with_reducible refine gTrue ?_; simp only [go_sem, hw, e2]) | (with_reducible refine gFalse ?_; simp only [go_sem, he, List.length_map, Int.toNat_natCast, hxi, hxj, TChunk.enc, hw, hwm, e1, e2])
          | (refine gSymS ?_; simp only [go_sem, he, List.length_map, Int.toNat_natCast, hxi, hxj, TChunk.enc, hw, hwm, e1, e2]) | (refine gSym ?_; simp only [go_sem, he, List.length_map, Int.toNat_natCast, hxi, hxj, TChunk.enc, hw, hwm, e1, e2])
          | (refine drawE_intro [[.post, .un, .post, .post, .post, .post, .post, .post, .post, .post, .post, .post, .post, .post, .post, .post, .post], [.un, .post, .post, .post, .post, .post, .post, .post, .post, .post, .post, .post, .post, .post, .post, .post, .post], [.pre, .pre, .post, .post, .post, .post, .post, .post, .post, .post, .post, .post, .post, .post, .post, .post, .post], [.pre, .pre, .pre, .post, .post, .post, .post, .post, .post, .post, .post, .post, .post, .post, .post, .post, .post], [.pre, .pre, .pre, .pre, .post, .un, .un, .un, .un, .un, .un, .un, .un, .un, .post, .post, .post], [.pre, .pre, .pre, .pre, .un, .post, .un, .post, .post, .un, .un, .un, .un, .un, .post, .post, .post], [.pre, .pre, .pre, .pre, .un, .un, .post, .post, .post, .un, .un, .un, .un, .un, .post, .post, .post], [.pre, .pre, .pre, .pre, .un, .pre, .pre, .post, .post, .un, .un, .un, .un, .un, .post, .post, .post], [.pre, .pre, .pre, .pre, .un, .pre, .pre, .pre, .post, .un, .un, .un, .un, .un, .post, .post, .post], [.pre, .pre, .pre, .pre, .un, .un, .un, .un, .un, .post, .un, .un, .post, .post, .post, .post, .post], [.pre, .pre, .pre, .pre, .un, .un, .un, .un, .un, .un, .post, .post, .post, .post, .post, .post, .post], [.pre, .pre, .pre, .pre, .un, .un, .un, .un, .un, .un, .pre, .post, .post, .post, .post, .post, .post], [.pre, .pre, .pre, .pre, .un, .un, .un, .un, .un, .pre, .pre, .pre, .post, .post, .post, .post, .post], [.pre, .pre, .pre, .pre, .un, .un, .un, .un, .un, .pre, .pre, .pre, .pre, .post, .post, .post, .post], [.pre, .pre, .pre, .pre, .pre, .pre, .pre, .pre, .pre, .pre, .pre, .pre, .pre, .pre, .post, .post, .post], [.pre, .pre, .pre, .pre, .pre, .pre, .pre, .pre, .pre, .pre, .pre, .pre, .pre, .pre, .pre, .post, .post], [.pre, .pre, .pre, .pre, .pre, .pre, .pre, .pre, .pre, .pre, .pre, .pre, .pre, .pre, .pre, .pre, .post]] (by kernel_rfl) (by rfl) ?_; simp only [go_sem, he, List.length_map, Int.toNat_natCast, hxi, hxj, TChunk.enc, hw, hwm, e1, e2])
          | (refine drawE_intro [[.post, .un, .un, .un, .un, .un, .un, .un, .un, .un, .un, .un, .un, .un, .post, .post, .post, .post], [.un, .post, .un, .un, .un, .un, .un, .un, .un, .un, .un, .un, .un, .un, .post, .post, .post, .post], [.un, .un, .post, .un, .un, .un, .un, .un, .un, .un, .un, .un, .un, .un, .un, .un, .post, .post], [.un, .un, .un, .post, .post, .un, .un, .un, .un, .un, .un, .un, .un, .un, .un, .un, .post, .post], [.un, .un, .un, .pre, .post, .un, .un, .un, .un, .un, .un, .un, .un, .un, .un, .un, .post, .post], [.un, .un, .un, .un, .un, .post, .un, .un, .post, .post, .un, .un, .un, .un, .post, .post, .post, .post], [.un, .un, .un, .un, .un, .un, .post, .post, .post, .post, .un, .un, .un, .un, .post, .post, .post, .post], [.un, .un, .un, .un, .un, .un, .pre, .post, .post, .post, .un, .un, .un, .un, .post, .post, .post, .post], [.un, .un, .un, .un, .un, .pre, .pre, .pre, .post, .post, .un, .un, .un, .un, .post, .post, .post, .post], [.un, .un, .un, .un, .un, .pre, .pre, .pre, .pre, .post, .un, .un, .un, .un, .post, .post, .post, .post], [.un, .un, .un, .un, .un, .un, .un, .un, .un, .un, .post, .un, .post, .post, .post, .post, .post, .post], [.un, .un, .un, .un, .un, .un, .un, .un, .un, .un, .un, .post, .post, .post, .post, .post, .post, .post], [.un, .un, .un, .un, .un, .un, .un, .un, .un, .un, .pre, .pre, .post, .post, .post, .post, .post, .post], [.un, .un, .un, .un, .un, .un, .un, .un, .un, .un, .pre, .pre, .pre, .post, .post, .post, .post, .post], [.pre, .pre, .un, .un, .un, .pre, .pre, .pre, .pre, .pre, .pre, .pre, .pre, .pre, .post, .post, .post, .post], [.pre, .pre, .un, .un, .un, .pre, .pre, .pre, .pre, .pre, .pre, .pre, .pre, .pre, .pre, .post, .post, .post], [.pre, .pre, .pre, .pre, .pre, .pre, .pre, .pre, .pre, .pre, .pre, .pre, .pre, .pre, .pre, .pre, .post, .post], [.pre, .pre, .pre, .pre, .pre, .pre, .pre, .pre, .pre, .pre, .pre, .pre, .pre, .pre, .pre, .pre, .pre, .post]] (by kernel_rfl) (by rfl) ?_; simp only [go_sem, he, List.length_map, Int.toNat_natCast, hxi, hxj, TChunk.enc, hw, hwm, e1, e2])
          | (refine cSplit (fun h => ?_) (fun h => ?_) <;> simp only [go_sem, he, List.length_map, Int.toNat_natCast, hxi, hxj, TChunk.enc, hw, hwm, e1, e2])
          | (with_reducible refine And.intro ?_ ?_; (focus (first | omega | (exact ⟨by omega, by omega⟩) | (simp; done) | (simp; omega)))))
        all_goals (
          refine RoundE.intro (i + 1) (List.range hs.length) (by omega) (by omega) ?_
          exact see_keep0 hr hkv (by simp [vsees, vsee, ren, rens, hg2]) (by simp [voks, vok, hid]))
    · simp only [go_sem]
      exact hk

theorem ofvA : ofVal (.int .u64 4294967296) = .d (.int .u64 4294967296) := rfl
theorem ofvB : ofVal (.int .u64 65536) = .d (.int .u64 65536) := rfl
theorem ofvC : ofVal (.int .u64 256) = .d (.int .u64 256) := rfl
def lenT (n : Nat) : Int := if n = 0 then 0 else if n < 2 then 1 else if n < 4 then 2 else if n < 8 then 3 else 4
set_option maxRecDepth 100000 in
theorem math_bits_Len64 (n : Nat) (h : n ≤ 12) : PureCall Try.prog 74 [.one (.int .u64 n)] [.one (.int .i64 (lenT n))] := by
  refine pure_ev Try.func74 rfl Try.call74 Try.checked.mixed [.d (.int .u64 n), .junk, .junk, .junk, .junk, .junk, .junk, .junk, .junk, .junk, .junk, .junk, .junk, .junk, .junk, .junk, .junk, .junk, .junk, .junk, .junk, .junk, .junk, .junk, .junk] rfl [.tmp 2] rfl ?_
  intro _
  have f1 : decide (4294967296 ≤ ((n : Nat) : Int)) = false := decide_eq_false (by omega)
  have f2 : decide (65536 ≤ ((n : Nat) : Int)) = false := decide_eq_false (by omega)
  have f3 : decide (256 ≤ ((n : Nat) : Int)) = false := decide_eq_false (by omega)
  have f4 : IntKind.u8.wrap ((n : Nat) : Int) = ((n : Nat) : Int) := w8 (by omega) (by omega)
  have : n = 0 ∨ n = 1 ∨ n = 2 ∨ n = 3 ∨ n = 4 ∨ n = 5 ∨ n = 6 ∨ n = 7 ∨ n = 8 ∨ n = 9 ∨ n = 10 ∨ n = 11 ∨ n = 12 := by omega
  rcases this with rfl | rfl | rfl | rfl | rfl | rfl | rfl | rfl | rfl | rfl | rfl | rfl | rfl
  try simp only [go_sem, ofvA, ofvB, ofvC, f1, f2, f3, f4, Int.toNat_natCast]
  repeat' (first
    | (with_reducible refine gTrueS ?_; simp only [go_sem, ofvA, ofvB, ofvC, f1, f2, f3, f4, Int.toNat_natCast]) | (with_reducible refine gFalseS ?_; simp only [go_sem, ofvA, ofvB, ofvC, f1, f2, f3, f4, Int.toNat_natCast]) | (with_reducible refine gTrue ?_; simp only [go_sem, ofvA, ofvB, ofvC, f1, f2, f3, f4, Int.toNat_natCast]) | (with_reducible refine gFalse ?_; simp only [go_sem, ofvA, ofvB, ofvC, f1, f2, f3, f4, Int.toNat_natCast])
    | (refine gSymS ?_; simp only [go_sem, ofvA, ofvB, ofvC, f1, f2, f3, f4, Int.toNat_natCast]) | (refine gSym ?_; simp only [go_sem, ofvA, ofvB, ofvC, f1, f2, f3, f4, Int.toNat_natCast])
    | (refine cSplit (fun h => ?_) (fun h => ?_) <;> simp only [go_sem, ofvA, ofvB, ofvC, f1, f2, f3, f4, Int.toNat_natCast])
    | (with_reducible refine And.intro ?_ ?_; (focus (first | omega | (exact ⟨by omega, by omega⟩) | (simp; done) | (simp; omega)))))
  · simp [lenT]; try decide
  try simp only [go_sem, ofvA, ofvB, ofvC, f1, f2, f3, f4, Int.toNat_natCast]
  repeat' (first
    | (with_reducible refine gTrueS ?_; simp only [go_sem, ofvA, ofvB, ofvC, f1, f2, f3, f4, Int.toNat_natCast]) | (with_reducible refine gFalseS ?_; simp only [go_sem, ofvA, ofvB, ofvC, f1, f2, f3, f4, Int.toNat_natCast]) | (with_reducible refine gTrue ?_; simp only [go_sem, ofvA, ofvB, ofvC, f1, f2, f3, f4, Int.toNat_natCast]) | (with_reducible refine gFalse ?_; simp only [go_sem, ofvA, ofvB, ofvC, f1, f2, f3, f4, Int.toNat_natCast])
    | (refine gSymS ?_; simp only [go_sem, ofvA, ofvB, ofvC, f1, f2, f3, f4, Int.toNat_natCast]) | (refine gSym ?_; simp only [go_sem, ofvA, ofvB, ofvC, f1, f2, f3, f4, Int.toNat_natCast])
    | (refine cSplit (fun h => ?_) (fun h => ?_) <;> simp only [go_sem, ofvA, ofvB, ofvC, f1, f2, f3, f4, Int.toNat_natCast])
    | (with_reducible refine And.intro ?_ ?_; (focus (first | omega | (exact ⟨by omega, by omega⟩) | (simp; done) | (simp; omega)))))
  · simp [lenT]; try decide
  try simp only [go_sem, ofvA, ofvB, ofvC, f1, f2, f3, f4, Int.toNat_natCast]
  repeat' (first
    | (with_reducible refine gTrueS ?_; simp only [go_sem, ofvA, ofvB, ofvC, f1, f2, f3, f4, Int.toNat_natCast]) | (with_reducible refine gFalseS ?_; simp only [go_sem, ofvA, ofvB, ofvC, f1, f2, f3, f4, Int.toNat_natCast]) | (with_reducible refine gTrue ?_; simp only [go_sem, ofvA, ofvB, ofvC, f1, f2, f3, f4, Int.toNat_natCast]) | (with_reducible refine gFalse ?_; simp only [go_sem, ofvA, ofvB, ofvC, f1, f2, f3, f4, Int.toNat_natCast])
    | (refine gSymS ?_; simp only [go_sem, ofvA, ofvB, ofvC, f1, f2, f3, f4, Int.toNat_natCast]) | (refine gSym ?_; simp only [go_sem, ofvA, ofvB, ofvC, f1, f2, f3, f4, Int.toNat_natCast])
    | (refine cSplit (fun h => ?_) (fun h => ?_) <;> simp only [go_sem, ofvA, ofvB, ofvC, f1, f2, f3, f4, Int.toNat_natCast])
    | (with_reducible refine And.intro ?_ ?_; (focus (first | omega | (exact ⟨by omega, by omega⟩) | (simp; done) | (simp; omega)))))
  · simp [lenT]; try decide
  try simp only [go_sem, ofvA, ofvB, ofvC, f1, f2, f3, f4, Int.toNat_natCast]
  repeat' (first
    | (with_reducible refine gTrueS ?_; simp only [go_sem, ofvA, ofvB, ofvC, f1, f2, f3, f4, Int.toNat_natCast]) | (with_reducible refine gFalseS ?_; simp only [go_sem, ofvA, ofvB, ofvC, f1, f2, f3, f4, Int.toNat_natCast]) | (with_reducible refine gTrue ?_; simp only [go_sem, ofvA, ofvB, ofvC, f1, f2, f3, f4, Int.toNat_natCast]) | (with_reducible refine gFalse ?_; simp only [go_sem, ofvA, ofvB, ofvC, f1, f2, f3, f4, Int.toNat_natCast])
    | (refine gSymS ?_; simp only [go_sem, ofvA, ofvB, ofvC, f1, f2, f3, f4, Int.toNat_natCast]) | (refine gSym ?_; simp only [go_sem, ofvA, ofvB, ofvC, f1, f2, f3, f4, Int.toNat_natCast])
    | (refine cSplit (fun h => ?_) (fun h => ?_) <;> simp only [go_sem, ofvA, ofvB, ofvC, f1, f2, f3, f4, Int.toNat_natCast])
    | (with_reducible refine And.intro ?_ ?_; (focus (first | omega | (exact ⟨by omega, by omega⟩) | (simp; done) | (simp; omega)))))
  · simp [lenT]; try decide
  try simp only [go_sem, ofvA, ofvB, ofvC, f1, f2, f3, f4, Int.toNat_natCast]
  repeat' (first
    | (with_reducible refine gTrueS ?_; simp only [go_sem, ofvA, ofvB, ofvC, f1, f2, f3, f4, Int.toNat_natCast]) | (with_reducible refine gFalseS ?_; simp only [go_sem, ofvA, ofvB, ofvC, f1, f2, f3, f4, Int.toNat_natCast]) | (with_reducible refine gTrue ?_; simp only [go_sem, ofvA, ofvB, ofvC, f1, f2, f3, f4, Int.toNat_natCast]) | (with_reducible refine gFalse ?_; simp only [go_sem, ofvA, ofvB, ofvC, f1, f2, f3, f4, Int.toNat_natCast])
    | (refine gSymS ?_; simp only [go_sem, ofvA, ofvB, ofvC, f1, f2, f3, f4, Int.toNat_natCast]) | (refine gSym ?_; simp only [go_sem, ofvA, ofvB, ofvC, f1, f2, f3, f4, Int.toNat_natCast])
    | (refine cSplit (fun h => ?_) (fun h => ?_) <;> simp only [go_sem, ofvA, ofvB, ofvC, f1, f2, f3, f4, Int.toNat_natCast])
    | (with_reducible refine And.intro ?_ ?_; (focus (first | omega | (exact ⟨by omega, by omega⟩) | (simp; done) | (simp; omega)))))
  · simp [lenT]; try decide
  try simp only [go_sem, ofvA, ofvB, ofvC, f1, f2, f3, f4, Int.toNat_natCast]
  repeat' (first
    | (with_reducible refine gTrueS ?_; simp only [go_sem, ofvA, ofvB, ofvC, f1, f2, f3, f4, Int.toNat_natCast]) | (with_reducible refine gFalseS ?_; simp only [go_sem, ofvA, ofvB, ofvC, f1, f2, f3, f4, Int.toNat_natCast]) | (with_reducible refine gTrue ?_; simp only [go_sem, ofvA, ofvB, ofvC, f1, f2, f3, f4, Int.toNat_natCast]) | (with_reducible refine gFalse ?_; simp only [go_sem, ofvA, ofvB, ofvC, f1, f2, f3, f4, Int.toNat_natCast])
    | (refine gSymS ?_; simp only [go_sem, ofvA, ofvB, ofvC, f1, f2, f3, f4, Int.toNat_natCast]) | (refine gSym ?_; simp only [go_sem, ofvA, ofvB, ofvC, f1, f2, f3, f4, Int.toNat_natCast])
    | (refine cSplit (fun h => ?_) (fun h => ?_) <;> simp only [go_sem, ofvA, ofvB, ofvC, f1, f2, f3, f4, Int.toNat_natCast])
    | (with_reducible refine And.intro ?_ ?_; (focus (first | omega | (exact ⟨by omega, by omega⟩) | (simp; done) | (simp; omega)))))
  · simp [lenT]; try decide
  try simp only [go_sem, ofvA, ofvB, ofvC, f1, f2, f3, f4, Int.toNat_natCast]
  repeat' (first
    | (with_reducible refine gTrueS ?_; simp only [go_sem, ofvA, ofvB, ofvC, f1, f2, f3, f4, Int.toNat_natCast]) | (with_reducible refine gFalseS ?_; simp only [go_sem, ofvA, ofvB, ofvC, f1, f2, f3, f4, Int.toNat_natCast]) | (with_reducible refine gTrue ?_; simp only [go_sem, ofvA, ofvB, ofvC, f1, f2, f3, f4, Int.toNat_natCast]) | (with_reducible refine gFalse ?_; simp only [go_sem, ofvA, ofvB, ofvC, f1, f2, f3, f4, Int.toNat_natCast])
    | (refine gSymS ?_; simp only [go_sem, ofvA, ofvB, ofvC, f1, f2, f3, f4, Int.toNat_natCast]) | (refine gSym ?_; simp only [go_sem, ofvA, ofvB, ofvC, f1, f2, f3, f4, Int.toNat_natCast])
    | (refine cSplit (fun h => ?_) (fun h => ?_) <;> simp only [go_sem, ofvA, ofvB, ofvC, f1, f2, f3, f4, Int.toNat_natCast])
    | (with_reducible refine And.intro ?_ ?_; (focus (first | omega | (exact ⟨by omega, by omega⟩) | (simp; done) | (simp; omega)))))
  · simp [lenT]; try decide
  try simp only [go_sem, ofvA, ofvB, ofvC, f1, f2, f3, f4, Int.toNat_natCast]
  repeat' (first
    | (with_reducible refine gTrueS ?_; simp only [go_sem, ofvA, ofvB, ofvC, f1, f2, f3, f4, Int.toNat_natCast]) | (with_reducible refine gFalseS ?_; simp only [go_sem, ofvA, ofvB, ofvC, f1, f2, f3, f4, Int.toNat_natCast]) | (with_reducible refine gTrue ?_; simp only [go_sem, ofvA, ofvB, ofvC, f1, f2, f3, f4, Int.toNat_natCast]) | (with_reducible refine gFalse ?_; simp only [go_sem, ofvA, ofvB, ofvC, f1, f2, f3, f4, Int.toNat_natCast])
    | (refine gSymS ?_; simp only [go_sem, ofvA, ofvB, ofvC, f1, f2, f3, f4, Int.toNat_natCast]) | (refine gSym ?_; simp only [go_sem, ofvA, ofvB, ofvC, f1, f2, f3, f4, Int.toNat_natCast])
    | (refine cSplit (fun h => ?_) (fun h => ?_) <;> simp only [go_sem, ofvA, ofvB, ofvC, f1, f2, f3, f4, Int.toNat_natCast])
    | (with_reducible refine And.intro ?_ ?_; (focus (first | omega | (exact ⟨by omega, by omega⟩) | (simp; done) | (simp; omega)))))
  · simp [lenT]; try decide
  try simp only [go_sem, ofvA, ofvB, ofvC, f1, f2, f3, f4, Int.toNat_natCast]
  repeat' (first
    | (with_reducible refine gTrueS ?_; simp only [go_sem, ofvA, ofvB, ofvC, f1, f2, f3, f4, Int.toNat_natCast]) | (with_reducible refine gFalseS ?_; simp only [go_sem, ofvA, ofvB, ofvC, f1, f2, f3, f4, Int.toNat_natCast]) | (with_reducible refine gTrue ?_; simp only [go_sem, ofvA, ofvB, ofvC, f1, f2, f3, f4, Int.toNat_natCast]) | (with_reducible refine gFalse ?_; simp only [go_sem, ofvA, ofvB, ofvC, f1, f2, f3, f4, Int.toNat_natCast])
    | (refine gSymS ?_; simp only [go_sem, ofvA, ofvB, ofvC, f1, f2, f3, f4, Int.toNat_natCast]) | (refine gSym ?_; simp only [go_sem, ofvA, ofvB, ofvC, f1, f2, f3, f4, Int.toNat_natCast])
    | (refine cSplit (fun h => ?_) (fun h => ?_) <;> simp only [go_sem, ofvA, ofvB, ofvC, f1, f2, f3, f4, Int.toNat_natCast])
    | (with_reducible refine And.intro ?_ ?_; (focus (first | omega | (exact ⟨by omega, by omega⟩) | (simp; done) | (simp; omega)))))
  · simp [lenT]; try decide
  try simp only [go_sem, ofvA, ofvB, ofvC, f1, f2, f3, f4, Int.toNat_natCast]
  repeat' (first
    | (with_reducible refine gTrueS ?_; simp only [go_sem, ofvA, ofvB, ofvC, f1, f2, f3, f4, Int.toNat_natCast]) | (with_reducible refine gFalseS ?_; simp only [go_sem, ofvA, ofvB, ofvC, f1, f2, f3, f4, Int.toNat_natCast]) | (with_reducible refine gTrue ?_; simp only [go_sem, ofvA, ofvB, ofvC, f1, f2, f3, f4, Int.toNat_natCast]) | (with_reducible refine gFalse ?_; simp only [go_sem, ofvA, ofvB, ofvC, f1, f2, f3, f4, Int.toNat_natCast])
    | (refine gSymS ?_; simp only [go_sem, ofvA, ofvB, ofvC, f1, f2, f3, f4, Int.toNat_natCast]) | (refine gSym ?_; simp only [go_sem, ofvA, ofvB, ofvC, f1, f2, f3, f4, Int.toNat_natCast])
    | (refine cSplit (fun h => ?_) (fun h => ?_) <;> simp only [go_sem, ofvA, ofvB, ofvC, f1, f2, f3, f4, Int.toNat_natCast])
    | (with_reducible refine And.intro ?_ ?_; (focus (first | omega | (exact ⟨by omega, by omega⟩) | (simp; done) | (simp; omega)))))
  · simp [lenT]; try decide
  try simp only [go_sem, ofvA, ofvB, ofvC, f1, f2, f3, f4, Int.toNat_natCast]
  repeat' (first
    | (with_reducible refine gTrueS ?_; simp only [go_sem, ofvA, ofvB, ofvC, f1, f2, f3, f4, Int.toNat_natCast]) | (with_reducible refine gFalseS ?_; simp only [go_sem, ofvA, ofvB, ofvC, f1, f2, f3, f4, Int.toNat_natCast]) | (with_reducible refine gTrue ?_; simp only [go_sem, ofvA, ofvB, ofvC, f1, f2, f3, f4, Int.toNat_natCast]) | (with_reducible refine gFalse ?_; simp only [go_sem, ofvA, ofvB, ofvC, f1, f2, f3, f4, Int.toNat_natCast])
    | (refine gSymS ?_; simp only [go_sem, ofvA, ofvB, ofvC, f1, f2, f3, f4, Int.toNat_natCast]) | (refine gSym ?_; simp only [go_sem, ofvA, ofvB, ofvC, f1, f2, f3, f4, Int.toNat_natCast])
    | (refine cSplit (fun h => ?_) (fun h => ?_) <;> simp only [go_sem, ofvA, ofvB, ofvC, f1, f2, f3, f4, Int.toNat_natCast])
    | (with_reducible refine And.intro ?_ ?_; (focus (first | omega | (exact ⟨by omega, by omega⟩) | (simp; done) | (simp; omega)))))
  · simp [lenT]; try decide
  try simp only [go_sem, ofvA, ofvB, ofvC, f1, f2, f3, f4, Int.toNat_natCast]
  repeat' (first
    | (with_reducible refine gTrueS ?_; simp only [go_sem, ofvA, ofvB, ofvC, f1, f2, f3, f4, Int.toNat_natCast]) | (with_reducible refine gFalseS ?_; simp only [go_sem, ofvA, ofvB, ofvC, f1, f2, f3, f4, Int.toNat_natCast]) | (with_reducible refine gTrue ?_; simp only [go_sem, ofvA, ofvB, ofvC, f1, f2, f3, f4, Int.toNat_natCast]) | (with_reducible refine gFalse ?_; simp only [go_sem, ofvA, ofvB, ofvC, f1, f2, f3, f4, Int.toNat_natCast])
    | (refine gSymS ?_; simp only [go_sem, ofvA, ofvB, ofvC, f1, f2, f3, f4, Int.toNat_natCast]) | (refine gSym ?_; simp only [go_sem, ofvA, ofvB, ofvC, f1, f2, f3, f4, Int.toNat_natCast])
    | (refine cSplit (fun h => ?_) (fun h => ?_) <;> simp only [go_sem, ofvA, ofvB, ofvC, f1, f2, f3, f4, Int.toNat_natCast])
    | (with_reducible refine And.intro ?_ ?_; (focus (first | omega | (exact ⟨by omega, by omega⟩) | (simp; done) | (simp; omega)))))
  · simp [lenT]; try decide
  try simp only [go_sem, ofvA, ofvB, ofvC, f1, f2, f3, f4, Int.toNat_natCast]
  repeat' (first
    | (with_reducible refine gTrueS ?_; simp only [go_sem, ofvA, ofvB, ofvC, f1, f2, f3, f4, Int.toNat_natCast]) | (with_reducible refine gFalseS ?_; simp only [go_sem, ofvA, ofvB, ofvC, f1, f2, f3, f4, Int.toNat_natCast]) | (with_reducible refine gTrue ?_; simp only [go_sem, ofvA, ofvB, ofvC, f1, f2, f3, f4, Int.toNat_natCast]) | (with_reducible refine gFalse ?_; simp only [go_sem, ofvA, ofvB, ofvC, f1, f2, f3, f4, Int.toNat_natCast])
    | (refine gSymS ?_; simp only [go_sem, ofvA, ofvB, ofvC, f1, f2, f3, f4, Int.toNat_natCast]) | (refine gSym ?_; simp only [go_sem, ofvA, ofvB, ofvC, f1, f2, f3, f4, Int.toNat_natCast])
    | (refine cSplit (fun h => ?_) (fun h => ?_) <;> simp only [go_sem, ofvA, ofvB, ofvC, f1, f2, f3, f4, Int.toNat_natCast])
    | (with_reducible refine And.intro ?_ ?_; (focus (first | omega | (exact ⟨by omega, by omega⟩) | (simp; done) | (simp; omega)))))
  · simp [lenT]; try decide
set_option maxRecDepth 100000 in
theorem math_bits_Len (n : Nat) (h : n ≤ 12) : PureCall Try.prog 55 [.one (.int .u64 n)] [.one (.int .i64 (lenT n))] := by
  refine pure_ev Try.func55 rfl Try.call55 Try.checked.mixed [.d (.int .u64 n), .junk, .junk, .junk, .junk, .junk, .junk, .junk] rfl [.tmp 2] rfl ?_
  intro _
  try simp only [go_sem]
  repeat' (first
    | (refine CallS.intro (by first | assumption | (apply math_bits_Len32 <;> first | assumption | omega) | (apply math_bits_Len64 <;> first | assumption | omega)) ?_; simp only [go_sem])
    | (refine CallK.intro (by first | assumption | (apply math_bits_Len32 <;> first | assumption | omega) | (apply math_bits_Len64 <;> first | assumption | omega)) ?_; simp only [go_sem])
    | (with_reducible refine gTrueS ?_; simp only [go_sem]) | (with_reducible refine gFalseS ?_; simp only [go_sem]) | (with_reducible refine gTrue ?_; simp only [go_sem]) | (with_reducible refine gFalse ?_; simp only [go_sem])
    | (refine gSymS ?_; simp only [go_sem]) | (refine gSym ?_; simp only [go_sem])
    | (refine cSplit (fun h => ?_) (fun h => ?_) <;> simp only [go_sem])
    | (with_reducible refine And.intro ?_ ?_; (focus (first | omega | (exact ⟨by omega, by omega⟩) | (simp; done) | (simp; omega)))))
  all_goals simp

set_option maxRecDepth 100000 in
theorem sort_inl (hs : List H) (id : Nat) (xs : List TChunk) (kv : List V) (he : hget hs id = .arr 2 (xs.map TChunk.enc) true) (hid : id < hs.length) (hx : xs.length ≤ 12)
    (hb : ∀ c ∈ xs, 0 ≤ c.offset ∧ c.offset ≤ 4611686018427387904) (ho : ∀ i (h : i + 1 < xs.length), xs[i].offset < xs[i + 1].offset)
    (hr : roks hs.length hs) (hkv : voks hs.length kv) (K : V → List H → Prop) (hk : K (tupV []) hs) : InlCall Try.prog 30 kv hs [.sl id 0 xs.length, .fn 31 []] K := by
  refine (inl_ev (n := 14) (rs := []) Try.func30 rfl Try.call30 Try.checked.mixed rfl rfl ?_)
  have hg : (List.range hs.length).getD id 0 = id := fix_range (Nat.le_refl _) id hid
  have hg2 : (List.range hs.length)[id]?.getD 0 = id := by rw [← List.getD_eq_getElem?_getD]; exact hg
  have hwu : IntKind.u64.wrap ((xs.length : Nat) : Int) = ((xs.length : Nat) : Int) := by
    simp only [IntKind.wrap, IntKind.bits, IntKind.signed]; simp; omega
  have e1 : decide (((xs.length : Nat) : Int) ≤ 12) = true := decide_eq_true (by omega)
  have hws : IntKind.i64.wrap (((xs.length : Nat) : Int) - 0) = ((xs.length : Nat) : Int) := by rw [w64] <;> omega
  simp only [go_sem, hwu]
  refine CallS.intro (math_bits_Len _ hx) ?_
  simp only [go_sem]
  refine CallS.inl (inl_ev (n := 148) (rs := []) Try.func54 rfl Try.call54 Try.checked.mixed rfl rfl ?_)
  simp only [go_sem]
  refine LoopK.intro (α := Unit) (fun _ => ⟨[.sl id 0 xs.length, .d (.int .i64 0), .d (.int .i64 xs.length), .d (.int .i64 (lenT xs.length)), .fn 31 [], .junk, .junk, .junk, .junk, .junk, .d (.bool true), .d (.bool true)] ++ List.replicate 136 .junk, hs⟩)
    (fun _ => 0) (fun _ => True) () (List.range hs.length) trivial ?_ ?_
  · exact see_keep0 hr (by simp [voks, vok, hid, hkv]) (by simp [vsees, vsee, ren, rens, hg2, List.replicate]) (by simp [voks, vok, hid, List.replicate])
  · rintro _ _
    simp only [List.replicate, List.cons_append, List.nil_append]
    simp only [go_sem, hws, e1]
    refine CallS.inl (insSort_inl hs id xs _ he hid (by omega) hb ho hr (by simp [voks, vok, hid, hkv]) _ ?_)
    simp only [go_sem]
    exact hk
end Gv
