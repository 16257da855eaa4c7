/-
  Buffers: the functions.
-/
import Derived.Test.YtgflikakblfdpaaNewCells
import Derived.Test.YtgflikakblfdpaaBufLaw
namespace Gv
open Go Go.Proofs

set_option maxRecDepth 100000 in
theorem impl_isQuic (n : Int) : PureCall Try.prog 154 [.one (.int .i64 n)] [.one (.bool (inB n 0 4611686018427387903))] := by
  refine pure_ev Try.func154 rfl Try.call154 Try.checked.mixed [.d (.int .i64 n), .junk, .junk, .junk, .junk] rfl [.tmp 2] rfl ?_
  intro _
  try simp only [go_sem]
  repeat' (first
    | (refine CallS.intro (by first | (apply impl_within <;> first | assumption | omega)) ?_; simp only [go_sem])
    | (refine CallK.intro (by first | (apply impl_within <;> first | assumption | omega)) ?_; simp only [go_sem])
    | (with_reducible refine gTrueS ?_; simp only [go_sem]) | (with_reducible refine gFalseS ?_; simp only [go_sem]) | (with_reducible refine gTrue ?_; simp only [go_sem]) | (with_reducible refine gFalse ?_; simp only [go_sem])
    | (refine gSymS ?_; simp only [go_sem]) | (refine gSym ?_; simp only [go_sem])
    | (refine cSplit (fun h => ?_) (fun h => ?_) <;> simp only [go_sem])
    | (with_reducible refine And.intro ?_ ?_; (focus (first | omega | (exact ⟨by omega, by omega⟩) | (simp; done) | (simp; omega)))))
  all_goals simp [inB]
set_option maxRecDepth 100000 in
theorem spec_l4Quic (n : Int) : PureCall Try.prog 152 [.one (.int .i64 n)] [.one (.bool (inB n 0 4611686018427387903))] := by
  refine pure_ev Try.func152 rfl Try.call152 Try.checked.mixed [.d (.int .i64 n), .junk, .junk, .junk, .junk] rfl [.tmp 2] rfl ?_
  intro _
  try simp only [go_sem]
  repeat' (first
    | (refine CallS.intro (by first | (apply spec_l1In <;> first | assumption | omega)) ?_; simp only [go_sem])
    | (refine CallK.intro (by first | (apply spec_l1In <;> first | assumption | omega)) ?_; simp only [go_sem])
    | (with_reducible refine gTrueS ?_; simp only [go_sem]) | (with_reducible refine gFalseS ?_; simp only [go_sem]) | (with_reducible refine gTrue ?_; simp only [go_sem]) | (with_reducible refine gFalse ?_; simp only [go_sem])
    | (refine gSymS ?_; simp only [go_sem]) | (refine gSym ?_; simp only [go_sem])
    | (refine cSplit (fun h => ?_) (fun h => ?_) <;> simp only [go_sem])
    | (with_reducible refine And.intro ?_ ?_; (focus (first | omega | (exact ⟨by omega, by omega⟩) | (simp; done) | (simp; omega)))))
  all_goals simp [inB]
set_option maxRecDepth 100000 in
theorem impl_Chunk_end (o : Int) (d : List UInt8) (h : 0 ≤ o ∧ o ≤ 4611686018427387903 - (d.length : Int)) : PureCall Try.prog 155 [.agg [.int .i64 o, .str d]] [.one (.int .i64 (o + d.length))] := by
  refine pure_ev Try.func155 rfl Try.call155 Try.checked.mixed [.agg [.d (.int .i64 o), .d (.str d)], .junk, .junk, .junk, .junk, .junk, .junk, .junk, .junk] rfl [.tmp 2] rfl ?_
  intro _
  have hw : IntKind.i64.wrap (o + d.length) = o + d.length := by rw [w64] <;> omega
  try simp only [go_sem, hw]
  repeat' (first
    | (with_reducible refine gTrueS ?_; simp only [go_sem, hw]) | (with_reducible refine gFalseS ?_; simp only [go_sem, hw]) | (with_reducible refine gTrue ?_; simp only [go_sem, hw]) | (with_reducible refine gFalse ?_; simp only [go_sem, hw])
    | (refine gSymS ?_; simp only [go_sem, hw]) | (refine gSym ?_; simp only [go_sem, hw])
    | (refine cSplit (fun h => ?_) (fun h => ?_) <;> simp only [go_sem, hw])
    | (with_reducible refine And.intro ?_ ?_; (focus (first | omega | (exact ⟨by omega, by omega⟩) | (simp; done) | (simp; omega)))))
  all_goals simp

def chOk (lo : Int) (c : TChunk) : Bool := decide (c.data ≠ []) && decide (lo ≤ c.offset) && decide (c.offset ≤ 4611686018427387903 - (c.data.length : Int))
theorem chk_drop (lo : Int) (xs : List TChunk) (i : Nat) (h : i < xs.length) : chk lo (xs.drop i) = (chOk lo xs[i] && chk (xs[i].offset + xs[i].data.length + 1) (xs.drop (i + 1))) := by
  rw [List.drop_eq_getElem_cons h]; rfl
theorem byteAt_drop (xs : List TChunk) (o : Int) (i : Nat) (h : i < xs.length) : byteAt (xs.drop i) o = if hitB o xs[i] = true then ((((xs[i].data[(o - xs[i].offset).toNat]?).getD 0).toNat : Nat) : Int) else byteAt (xs.drop (i + 1)) o := by
  rw [List.drop_eq_getElem_cons h]; rfl
theorem isBuf_of {n : Int} {xs : List TChunk} (h : inB n 0 4611686018427387903 = true) : isBuf ⟨n, xs⟩ = chk n xs := by
  show (inB n 0 4611686018427387903 && chk n xs) = _; rw [h]; rfl
theorem isBuf_no {n : Int} {xs : List TChunk} (h : inB n 0 4611686018427387903 = false) : isBuf ⟨n, xs⟩ = false := by
  show (inB n 0 4611686018427387903 && chk n xs) = _; rw [h]; rfl
theorem chOk_iff (lo : Int) (c : TChunk) : chOk lo c = true ↔ c.data ≠ [] ∧ lo ≤ c.offset ∧ c.offset ≤ 4611686018427387903 - (c.data.length : Int) := by
  simp only [chOk, Bool.and_eq_true, decide_eq_true_eq, and_assoc]
theorem dl0 (d : List UInt8) : decide ((d.length : Int) = 0) = decide (d = []) := by cases d <;> simp; omega

set_option maxRecDepth 100000 in
theorem impl_IsBuffer (n : Int) (xs : List TChunk) (hb : ∀ c ∈ xs, c.data.length ≤ 1048576) (hx : xs.length ≤ 1048576) : PureCall Try.prog 98 [.agg [.int .i64 n, .sl 2 (xs.map TChunk.enc)]] [.one (.bool (isBuf ⟨n, xs⟩))] := by
  refine pure_ev Try.func98 rfl Try.call98 Try.checked.mixed [.agg [.d (.int .i64 n), .d (.sl 2 (xs.map TChunk.enc))], .junk, .junk, .junk, .junk, .junk, .junk, .junk, .junk, .junk, .junk, .junk, .junk, .junk, .junk, .junk, .junk, .junk, .junk, .junk, .junk, .junk, .junk, .junk, .junk, .junk, .junk, .junk, .junk, .junk, .junk, .junk, .junk, .junk, .junk, .junk, .junk, .junk, .junk, .junk, .junk, .junk] rfl [.tmp 2] rfl ?_
  intro ok
  simp only [go_sem]
  refine CallS.intro (impl_isQuic n) ?_
  simp only [go_sem]
  refine cSplit (fun h0 => ?_) (fun h0 => ?_)
  · have hq : inB n 0 4611686018427387903 = false := by simpa using h0
    simp only [go_sem]
    rw [isBuf_no hq]
  · have hq : inB n 0 4611686018427387903 = true := by simpa using h0
    have hq2 : 0 ≤ n ∧ n ≤ 4611686018427387903 := by simpa [inB] using hq
    simp only [go_sem, List.length_map]
    refine LoopK.intro (fun p : Nat × Int => ⟨[.junk, .ptr 0 0 0, .d (.bool false), .d (.int .i64 p.2), .junk, .junk, .junk, .junk, .junk, .junk, .junk, .junk, .junk, .d (.sl 2 (xs.map TChunk.enc)), .d (.int .i64 xs.length), .d (.int .i64 p.1), .junk, .junk, .junk, .junk, .junk, .junk, .junk, .junk, .junk, .junk, .junk, .junk, .junk, .junk, .junk, .junk, .junk, .junk, .junk, .junk, .junk, .junk, .junk, .junk, .junk, .junk], [.box [.d (.int .i64 n), .d (.sl 2 (xs.map TChunk.enc))]]⟩)
      (fun p => xs.length - p.1) (fun p => p.1 ≤ xs.length ∧ 0 ≤ p.2 ∧ p.2 ≤ 4611686018427387904 ∧ chk p.2 (xs.drop p.1) = chk n xs) (0, n) [0] ⟨by simp, by omega, by omega, rfl⟩ ?_ ?_
    · simp only [go_sem]; simp
    · rintro ⟨i, lo⟩ ⟨hi, hlo, hlo2, he⟩
      simp only at hi hlo hlo2 he
      simp only [go_sem]
      refine cSplit (fun h1 => ?_) (fun h1 => ?_)
      · have h1' := of_decide_eq_true h1
        have hlt : i < xs.length := by omega
        have hxi := map_at TChunk.enc xs i hlt
        have hw := inc (i := i) (m := xs.length) hlt (by simp only [maxLen]; omega)
        have hdl := hb xs[i] (List.getElem_mem hlt)
        have hws : IntKind.i64.wrap (4611686018427387903 - (xs[i].data.length : Int)) = 4611686018427387903 - (xs[i].data.length : Int) := by rw [w64] <;> omega
        have hcd := chk_drop lo xs i hlt
        by_cases hok : chOk lo xs[i] = true
        · rw [hok, Bool.true_and] at hcd
          obtain ⟨f1, f2, f3⟩ := (chOk_iff _ _).1 hok
          have hne : xs[i].data.length ≠ 0 := by simpa using f1
          have e1 : decide ((xs[i].data.length : Int) = 0) = false := decide_eq_false (by omega)
          have e2 : decide (xs[i].offset < lo) = false := decide_eq_false (by omega)
          have e3 : decide (4611686018427387903 - (xs[i].data.length : Int) < xs[i].offset) = false := decide_eq_false (by omega)
          have hwe : IntKind.i64.wrap (xs[i].offset + (xs[i].data.length : Int) + 1) = xs[i].offset + (xs[i].data.length : Int) + 1 := by rw [w64] <;> omega
          have hend : 0 ≤ xs[i].offset ∧ xs[i].offset ≤ 4611686018427387903 - (xs[i].data.length : Int) := ⟨by omega, by omega⟩
          try simp only [go_sem, List.length_map, Int.toNat_natCast, hxi, TChunk.enc, e1]
          repeat' (first
            | (refine CallS.intro (by first | (apply impl_isQuic <;> first | assumption | omega) | (apply impl_Chunk_end <;> first | assumption | omega)) ?_; simp only [go_sem])
            | (refine CallK.intro (by first | (apply impl_isQuic <;> first | assumption | omega) | (apply impl_Chunk_end <;> first | assumption | omega)) ?_; simp only [go_sem, List.length_map, Int.toNat_natCast, hxi, TChunk.enc, hws, e1, e2, e3])
            | (with_reducible refine gTrueS ?_; simp only [go_sem, hws, e2, e3]) | (with_reducible refine gFalseS ?_; simp only [go_sem, List.length_map, Int.toNat_natCast, hxi, TChunk.enc, hws, e1, e2, e3]) | (with_reducible refine gTrue ?_; simp only [go_sem, List.length_map, Int.toNat_natCast, hxi, TChunk.enc, hws, e1, e2, e3]) | (with_reducible refine gFalse ?_; simp only [go_sem, List.length_map, Int.toNat_natCast, hxi, TChunk.enc, hws, e1, e2, e3])
            | (refine gSymS ?_; simp only [go_sem, List.length_map, Int.toNat_natCast, hxi, TChunk.enc, hws, e1, e2, e3]) | (refine gSym ?_; simp only [go_sem, List.length_map, Int.toNat_natCast, hxi, TChunk.enc, hws, e1, e2, e3])
            | (refine cSplit (fun h => ?_) (fun h => ?_) <;> simp only [go_sem, List.length_map, Int.toNat_natCast, hxi, TChunk.enc, hws, e1, e2, e3])
            | (with_reducible refine And.intro ?_ ?_; (focus (first | omega | (exact ⟨by omega, by omega⟩) | (simp; done) | (simp; omega)))))
          all_goals (refine RoundE.intro (i + 1, xs[i].offset + (xs[i].data.length : Int) + 1) [0] ⟨by simp only; omega, by simp only; omega, by simp only; omega, by rw [← he, hcd]⟩ (by simp only; omega) ?_; simp only [go_sem, hw, hwe]; try simp)
        · have hok2 : chOk lo xs[i] = false := by simpa using hok
          rw [hok2, Bool.false_and] at hcd
          have hz : (bif bif decide ((xs[i].data.length : Int) = 0) then true else decide (xs[i].offset < lo) then true else decide (4611686018427387903 - (xs[i].data.length : Int) < xs[i].offset)) = true := by
            rw [dl0]
            by_cases g1 : xs[i].data = []
            · simp [g1]
            · by_cases g2 : xs[i].offset < lo
              · simp [g1, g2]
              · by_cases g3 : 4611686018427387903 - (xs[i].data.length : Int) < xs[i].offset
                · simp [g3]
                · exact absurd ((chOk_iff _ _).2 ⟨g1, by omega, by omega⟩) hok
          try simp only [go_sem, List.length_map, Int.toNat_natCast, hxi, TChunk.enc]
          repeat' (first
            | (refine CallS.intro (by first | (apply impl_isQuic <;> first | assumption | omega) | (apply impl_Chunk_end <;> first | assumption | omega)) ?_; simp only [go_sem, List.length_map, Int.toNat_natCast, hxi, TChunk.enc, hws, hz])
            | (refine CallK.intro (by first | (apply impl_isQuic <;> first | assumption | omega) | (apply impl_Chunk_end <;> first | assumption | omega)) ?_; simp only [go_sem, List.length_map, Int.toNat_natCast, hxi, TChunk.enc, hws, hz])
            | (with_reducible refine gTrueS ?_; simp only [go_sem, List.length_map, Int.toNat_natCast, hxi, TChunk.enc, hws, hz]) | (with_reducible refine gFalseS ?_; simp only [go_sem, List.length_map, Int.toNat_natCast, hxi, TChunk.enc, hws, hz]) | (with_reducible refine gTrue ?_; simp only [go_sem, List.length_map, Int.toNat_natCast, hxi, TChunk.enc, hws, hz]) | (with_reducible refine gFalse ?_; simp only [go_sem, List.length_map, Int.toNat_natCast, hxi, TChunk.enc, hws, hz])
            | (refine gSymS ?_; simp only [go_sem, hws, hz]) | (refine gSym ?_; simp only [go_sem, List.length_map, Int.toNat_natCast, hxi, TChunk.enc, hws, hz])
            | (refine cSplit (fun h => ?_) (fun h => ?_) <;> simp only [go_sem, List.length_map, Int.toNat_natCast, hxi, TChunk.enc, hws, hz])
            | (with_reducible refine And.intro ?_ ?_; (focus (first | omega | (exact ⟨by omega, by omega⟩) | (simp; done) | (simp; omega)))))
          all_goals (rw [isBuf_of hq, ← he, hcd])
      · have h1' := of_decide_eq_false h1
        have hi2 : i = xs.length := by omega
        subst hi2
        simp only [go_sem]
        rw [isBuf_of hq, ← he, List.drop_length]; rfl

set_option maxRecDepth 100000 in
theorem spec_IsBuffer (n : Int) (xs : List TChunk) (hb : ∀ c ∈ xs, c.data.length ≤ 1048576) (hx : xs.length ≤ 1048576) : PureCall Try.prog 93 [.agg [.int .i64 n, .sl 2 (xs.map TChunk.enc)]] [.one (.bool (isBuf ⟨n, xs⟩))] := by
  refine pure_ev Try.func93 rfl Try.call93 Try.checked.mixed [.agg [.d (.int .i64 n), .d (.sl 2 (xs.map TChunk.enc))], .junk, .junk, .junk, .junk, .junk, .junk, .junk, .junk, .junk, .junk, .junk, .junk, .junk, .junk, .junk, .junk, .junk, .junk, .junk, .junk, .junk, .junk, .junk, .junk, .junk, .junk, .junk, .junk, .junk, .junk, .junk, .junk, .junk, .junk, .junk, .junk, .junk, .junk, .junk, .junk, .junk, .junk, .junk, .junk, .junk, .junk, .junk] rfl [.tmp 2] rfl ?_
  intro ok
  simp only [go_sem]
  have hn0 : inB n 0 4611686018427387903 = true → 0 ≤ n ∧ n ≤ 4611686018427387903 := fun h => by simpa [inB] using h
  have hini : inB n 0 4611686018427387903 = true → -1 ≤ IntKind.i64.wrap (n - 1) ∧ IntKind.i64.wrap (n - 1) ≤ 4611686018427387903 ∧ chk (IntKind.i64.wrap (n - 1) + 1) (xs.drop 0) = chk n xs := by
    intro hq
    have := hn0 hq
    have hw1 : IntKind.i64.wrap (n - 1) = n - 1 := by rw [w64] <;> omega
    rw [hw1]
    exact ⟨by omega, by omega, by rw [show n - 1 + 1 = n from by omega, List.drop_zero]⟩
  refine LoopK.intro (fun p : Nat × Int => ⟨[.junk, .ptr 0 0 0, .d (.bool false), .d (.int .i64 p.2), .d (.int .i64 p.1), .junk, .junk, .junk, .junk, .junk, .junk, .junk, .junk, .junk, .junk, .junk, .junk, .junk, .junk, .junk, .junk, .junk, .junk, .junk, .junk, .junk, .junk, .junk, .junk, .junk, .junk, .junk, .junk, .junk, .junk, .junk, .junk, .junk, .junk, .junk, .junk, .junk, .junk, .junk, .junk, .junk, .junk, .junk], [.box [.d (.int .i64 n), .d (.sl 2 (xs.map TChunk.enc))]]⟩)
      (fun p => xs.length - p.1) (fun p => p.1 ≤ xs.length ∧ (inB n 0 4611686018427387903 = true → -1 ≤ p.2 ∧ p.2 ≤ 4611686018427387903 ∧ chk (p.2 + 1) (xs.drop p.1) = chk n xs)) (0, IntKind.i64.wrap (n - 1)) [0] ⟨by simp, hini⟩ ?_ ?_
  · simp only [go_sem]; simp
  · rintro ⟨i, e⟩ ⟨hi, hq⟩
    simp only at hi hq
    simp only [go_sem, List.length_map]
    refine cSplit (fun h1 => ?_) (fun h1 => ?_)
    · have h1' := of_decide_eq_true h1
      have hlt : i < xs.length := by omega
      have hxi := map_at TChunk.enc xs i hlt
      have hw := inc (i := i) (m := xs.length) hlt (by simp only [maxLen]; omega)
      have hdl := hb xs[i] (List.getElem_mem hlt)
      have hws : IntKind.i64.wrap (4611686018427387903 - (xs[i].data.length : Int)) = 4611686018427387903 - (xs[i].data.length : Int) := by rw [w64] <;> omega
      have hcd := chk_drop (e + 1) xs i hlt
      have hz : (bif bif decide (xs[i].offset ≤ e) then true else decide (xs[i].data = []) then true else decide (4611686018427387903 - (xs[i].data.length : Int) < xs[i].offset)) = !chOk (e + 1) xs[i] := by
        have hf1 : decide (e + 1 ≤ xs[i].offset) = !decide (xs[i].offset ≤ e) := by by_cases g : xs[i].offset ≤ e <;> simp [g] <;> omega
        have hf2 : decide (xs[i].data ≠ []) = !decide (xs[i].data = []) := by simp
        have hf3 : decide (xs[i].offset ≤ 4611686018427387903 - (xs[i].data.length : Int)) = !decide (4611686018427387903 - (xs[i].data.length : Int) < xs[i].offset) := by by_cases g : 4611686018427387903 - (xs[i].data.length : Int) < xs[i].offset <;> simp [g] <;> omega
        unfold chOk
        rw [hf1, hf2, hf3]
        cases decide (xs[i].offset ≤ e) <;> cases decide (xs[i].data = []) <;> cases decide (4611686018427387903 - (xs[i].data.length : Int) < xs[i].offset) <;> rfl
      cases hok : chOk (e + 1) xs[i] with
      | true =>
        rw [hok] at hz hcd
        simp only [Bool.true_and, Bool.not_true] at hz hcd
        obtain ⟨f1, f2, f3⟩ := (chOk_iff _ _).1 hok
        try simp only [go_sem, List.length_map, Int.toNat_natCast, hxi, TChunk.enc]
        repeat' (first
          | (refine CallS.intro (by first | (apply spec_l4Quic <;> first | assumption | omega)) ?_; simp only [go_sem, List.length_map, Int.toNat_natCast, hxi, TChunk.enc, hws, hz])
          | (refine CallK.intro (by first | (apply spec_l4Quic <;> first | assumption | omega)) ?_; simp only [go_sem, List.length_map, Int.toNat_natCast, hxi, TChunk.enc, hws, hz])
          | (with_reducible refine gTrueS ?_; simp only [go_sem, List.length_map, Int.toNat_natCast, hxi, TChunk.enc, hws, hz]) | (with_reducible refine gFalseS ?_; simp only [go_sem, List.length_map, Int.toNat_natCast, hxi, TChunk.enc, hws, hz]) | (with_reducible refine gTrue ?_; simp only [go_sem, List.length_map, Int.toNat_natCast, hxi, TChunk.enc, hws, hz]) | (with_reducible refine gFalse ?_; simp only [go_sem, List.length_map, Int.toNat_natCast, hxi, TChunk.enc, hws, hz])
          | (refine gSymS ?_; simp only [go_sem, hws, hz]) | (refine gSym ?_; simp only [go_sem, List.length_map, Int.toNat_natCast, hxi, TChunk.enc, hws, hz])
          | (refine cSplit (fun h => ?_) (fun h => ?_) <;> simp only [go_sem, List.length_map, Int.toNat_natCast, hxi, TChunk.enc, hws, hz])
          | (with_reducible refine And.intro ?_ ?_; (focus (first | omega | (exact ⟨by omega, by omega⟩) | (simp; done) | (simp; omega)))))
        all_goals (refine RoundE.intro (i + 1, IntKind.i64.wrap (xs[i].offset + (xs[i].data.length : Int))) [0] ⟨by simp only; omega, fun hqq => ?_⟩ (by simp only; omega) ?_)
        all_goals first
          | (simp only [go_sem, hw]; done)
          | (simp only [go_sem, hw]; simp; done)
          | (obtain ⟨he1, he2, he⟩ := hq hqq
             have hw2 : IntKind.i64.wrap (xs[i].offset + (xs[i].data.length : Int)) = xs[i].offset + (xs[i].data.length : Int) := by rw [w64] <;> omega
             simp only [hw2]
             exact ⟨by omega, by omega, by rw [← he, hcd]⟩)
      | false =>
        rw [hok] at hz hcd
        simp only [Bool.false_and, Bool.not_false] at hz hcd
        try simp only [go_sem, List.length_map, Int.toNat_natCast, hxi, TChunk.enc]
        repeat' (first
          | (refine CallS.intro (by first | (apply spec_l4Quic <;> first | assumption | omega)) ?_; simp only [go_sem, List.length_map, Int.toNat_natCast, hxi, TChunk.enc, hws, hz])
          | (refine CallK.intro (by first | (apply spec_l4Quic <;> first | assumption | omega)) ?_; simp only [go_sem, List.length_map, Int.toNat_natCast, hxi, TChunk.enc, hws, hz])
          | (with_reducible refine gTrueS ?_; simp only [go_sem, List.length_map, Int.toNat_natCast, hxi, TChunk.enc, hws, hz]) | (with_reducible refine gFalseS ?_; simp only [go_sem, List.length_map, Int.toNat_natCast, hxi, TChunk.enc, hws, hz]) | (with_reducible refine gTrue ?_; simp only [go_sem, List.length_map, Int.toNat_natCast, hxi, TChunk.enc, hws, hz]) | (with_reducible refine gFalse ?_; simp only [go_sem, List.length_map, Int.toNat_natCast, hxi, TChunk.enc, hws, hz])
          | (refine gSymS ?_; simp only [go_sem, hws, hz]) | (refine gSym ?_; simp only [go_sem, List.length_map, Int.toNat_natCast, hxi, TChunk.enc, hws, hz])
          | (refine cSplit (fun h => ?_) (fun h => ?_) <;> simp only [go_sem, List.length_map, Int.toNat_natCast, hxi, TChunk.enc, hws, hz])
          | (with_reducible refine And.intro ?_ ?_; (focus (first | omega | (exact ⟨by omega, by omega⟩) | (simp; done) | (simp; omega)))))
        all_goals (cases hqq : inB n 0 4611686018427387903 with | false => rw [isBuf_no hqq] | true => rw [isBuf_of hqq, ← (hq hqq).2.2, hcd])
    · have h1' := of_decide_eq_false h1
      have hi2 : i = xs.length := by omega
      subst hi2
      simp only [go_sem]
      refine CallS.intro (spec_l4Quic n) ?_
      simp only [go_sem]
      cases hqq : inB n 0 4611686018427387903 with
      | false => rw [isBuf_no hqq]
      | true => rw [isBuf_of hqq, ← (hq hqq).2.2, List.drop_length]; rfl

set_option maxRecDepth 100000 in
theorem impl_EndOf (n : Int) (xs : List TChunk) (hb : ∀ c ∈ xs, c.data.length ≤ 1048576) (hx : xs.length ≤ 1048576) : PureCall Try.prog 99 [.agg [.int .i64 n, .sl 2 (xs.map TChunk.enc)]] [.one (.int .i64 (endOf ⟨n, xs⟩))] := by
  refine pure_ev Try.func99 rfl Try.call99 Try.checked.mixed [.agg [.d (.int .i64 n), .d (.sl 2 (xs.map TChunk.enc))], .junk, .junk, .junk, .junk, .junk, .junk, .junk, .junk, .junk, .junk, .junk, .junk, .junk, .junk, .junk, .junk, .junk, .junk, .junk, .junk, .junk, .junk] rfl [.tmp 2] rfl ?_
  intro ok
  cases hI : isBuf ⟨n, xs⟩ with
  | false =>
    have hbl : ∀ b : Bool, (bif b then true else true) = true := fun b => by cases b <;> rfl
    try simp only [go_sem]
    repeat' (first
      | (refine CallS.intro (by first | (apply impl_IsBuffer <;> first | assumption | omega) | (apply impl_Chunk_end <;> first | assumption | omega)) ?_; simp only [go_sem, hI])
      | (refine CallK.intro (by first | (apply impl_IsBuffer <;> first | assumption | omega) | (apply impl_Chunk_end <;> first | assumption | omega)) ?_; simp only [go_sem, List.length_map, hI, hbl])
      | (with_reducible refine gTrueS ?_; simp only [go_sem, List.length_map, hI, hbl]) | (with_reducible refine gFalseS ?_; simp only [go_sem]) | (with_reducible refine gTrue ?_; simp only [go_sem, List.length_map, hI, hbl]) | (with_reducible refine gFalse ?_; simp only [go_sem, List.length_map, hI, hbl])
      | (refine gSymS ?_; simp only [go_sem, List.length_map, hI, hbl]) | (refine gSym ?_; simp only [go_sem, List.length_map, hI, hbl])
      | (refine cSplit (fun h => ?_) (fun h => ?_) <;> simp only [go_sem, List.length_map, hI, hbl])
      | (with_reducible refine And.intro ?_ ?_; (focus (first | omega | (exact ⟨by omega, by omega⟩) | (simp; done) | (simp; omega)))))
    all_goals simp [endOf, hI]
  | true =>
    cases hxs : xs with
    | nil =>
      rw [← hxs]
      have e1 : decide ((xs.length : Int) = 0) = true := by rw [hxs]; rfl
      have hln : xs.getLast? = none := by rw [hxs]; rfl
      try simp only [go_sem]
      repeat' (first
        | (refine CallS.intro (by first | (apply impl_IsBuffer <;> first | assumption | omega) | (apply impl_Chunk_end <;> first | assumption | omega)) ?_; simp only [go_sem, hI])
        | (refine CallK.intro (by first | (apply impl_IsBuffer <;> first | assumption | omega) | (apply impl_Chunk_end <;> first | assumption | omega)) ?_; simp only [go_sem, List.length_map, hI, e1])
        | (with_reducible refine gTrueS ?_; simp only [go_sem, List.length_map, e1]) | (with_reducible refine gFalseS ?_; simp only [go_sem, List.length_map, hI, e1]) | (with_reducible refine gTrue ?_; simp only [go_sem, List.length_map, hI, e1]) | (with_reducible refine gFalse ?_; simp only [go_sem, List.length_map, hI, e1])
        | (refine gSymS ?_; simp only [go_sem, List.length_map, hI, e1]) | (refine gSym ?_; simp only [go_sem, List.length_map, hI, e1])
        | (refine cSplit (fun h => ?_) (fun h => ?_) <;> simp only [go_sem, List.length_map, hI, e1])
        | (with_reducible refine And.intro ?_ ?_; (focus (first | omega | (exact ⟨by omega, by omega⟩) | (simp; done) | (simp; omega)))))
      all_goals simp [endOf, hI, hln]
    | cons c0 cs0 =>
      rw [← hxs]
      have hlen : 0 < xs.length := by rw [hxs]; simp
      obtain ⟨m, hm⟩ : ∃ m, xs.length = m + 1 := ⟨xs.length - 1, by omega⟩
      have hlt : m < xs.length := by omega
      have hxi := map_at TChunk.enc xs m hlt
      have hl : xs.getLast? = some xs[m] := by rw [List.getLast?_eq_getElem?, hm, Nat.add_sub_cancel, List.getElem?_eq_getElem]
      have e1 : decide ((xs.length : Int) = 0) = false := decide_eq_false (by omega)
      have hw : IntKind.i64.wrap ((xs.length : Int) - 1) = (m : Int) := by rw [w64] <;> omega
      have hq := hI
      have hnn : 0 ≤ n ∧ chk n xs = true := by
        simp only [isBuf, Bool.and_eq_true, inB, decide_eq_true_eq] at hq; exact ⟨hq.1.1, hq.2⟩
      have hc := chk_mem xs n hnn.2 xs[m] (List.getElem_mem hlt)
      have hend : 0 ≤ xs[m].offset ∧ xs[m].offset ≤ 4611686018427387903 - (xs[m].data.length : Int) := ⟨by omega, hc.2⟩
      have hwe : IntKind.i64.wrap (xs[m].offset + (xs[m].data.length : Int)) = xs[m].offset + (xs[m].data.length : Int) := by rw [w64] <;> omega
      try simp only [go_sem]
      repeat' (first
        | (refine CallS.intro (by first | (apply impl_IsBuffer <;> first | assumption | omega) | (apply impl_Chunk_end <;> first | assumption | omega)) ?_; simp only [go_sem, hI])
        | (refine CallK.intro (by first | (apply impl_IsBuffer <;> first | assumption | omega) | (apply impl_Chunk_end <;> first | assumption | omega)) ?_; simp only [go_sem, List.length_map, Int.toNat_natCast, hxi, TChunk.enc, hI, e1, hw, hwe])
        | (with_reducible refine gTrueS ?_; simp only [go_sem, List.length_map, Int.toNat_natCast, hxi, TChunk.enc, e1, hw]) | (with_reducible refine gFalseS ?_; simp only [go_sem, List.length_map, Int.toNat_natCast, hxi, TChunk.enc, hI, e1, hw, hwe]) | (with_reducible refine gTrue ?_; simp only [go_sem, List.length_map, Int.toNat_natCast, hxi, TChunk.enc, hI, e1, hw, hwe]) | (with_reducible refine gFalse ?_; simp only [go_sem, List.length_map, Int.toNat_natCast, hxi, TChunk.enc, hI, e1, hw, hwe])
        | (refine gSymS ?_; simp only [go_sem, List.length_map, Int.toNat_natCast, hxi, TChunk.enc, hI, e1, hw, hwe]) | (refine gSym ?_; simp only [go_sem, List.length_map, Int.toNat_natCast, hxi, TChunk.enc, hI, e1, hw, hwe])
        | (refine cSplit (fun h => ?_) (fun h => ?_) <;> simp only [go_sem, List.length_map, Int.toNat_natCast, hxi, TChunk.enc, hI, e1, hw, hwe])
        | (with_reducible refine And.intro ?_ ?_; (focus (first | omega | (exact ⟨by omega, by omega⟩) | (simp; done) | (simp; omega)))))
      all_goals simp [endOf, hI, hl]

set_option maxRecDepth 100000 in
theorem spec_EndOf (n : Int) (xs : List TChunk) (hb : ∀ c ∈ xs, c.data.length ≤ 1048576) (hx : xs.length ≤ 1048576) : PureCall Try.prog 94 [.agg [.int .i64 n, .sl 2 (xs.map TChunk.enc)]] [.one (.int .i64 (endOf ⟨n, xs⟩))] := by
  refine pure_ev Try.func94 rfl Try.call94 Try.checked.mixed [.agg [.d (.int .i64 n), .d (.sl 2 (xs.map TChunk.enc))], .junk, .junk, .junk, .junk, .junk, .junk, .junk, .junk, .junk, .junk, .junk, .junk, .junk, .junk, .junk, .junk, .junk, .junk, .junk, .junk, .junk, .junk, .junk, .junk, .junk, .junk, .junk, .junk] rfl [.tmp 2] rfl ?_
  intro ok
  cases hI : isBuf ⟨n, xs⟩ with
  | false =>
    have hbl : ∀ b : Bool, (bif b then true else true) = true := fun b => by cases b <;> rfl
    try simp only [go_sem, List.length_map]
    repeat' (first
      | (refine CallS.intro (by first | (apply spec_IsBuffer <;> first | assumption | omega)) ?_; simp only [go_sem, List.length_map, hI, hbl])
      | (refine CallK.intro (by first | (apply spec_IsBuffer <;> first | assumption | omega)) ?_; simp only [go_sem, hI])
      | (with_reducible refine gTrueS ?_; simp only [go_sem, List.length_map, hI, hbl]) | (with_reducible refine gFalseS ?_; simp only [go_sem, List.length_map, hI, hbl]) | (with_reducible refine gTrue ?_; simp only [go_sem, List.length_map, hI, hbl]) | (with_reducible refine gFalse ?_; simp only [go_sem, List.length_map, hI, hbl])
      | (refine gSymS ?_; simp only [go_sem, hbl]) | (refine gSym ?_; simp only [go_sem, List.length_map, hI, hbl])
      | (refine cSplit (fun h => ?_) (fun h => ?_) <;> simp only [go_sem, List.length_map, hI, hbl])
      | (with_reducible refine And.intro ?_ ?_; (focus (first | omega | (exact ⟨by omega, by omega⟩) | (simp; done) | (simp; omega)))))
    all_goals simp [endOf, hI]
  | true =>
    cases hxs : xs with
    | nil =>
      rw [← hxs]
      have e1 : decide ((xs.length : Int) = 0) = true := by rw [hxs]; rfl
      have hln : xs.getLast? = none := by rw [hxs]; rfl
      try simp only [go_sem, List.length_map, e1]
      repeat' (first
        | (refine CallS.intro (by first | (apply spec_IsBuffer <;> first | assumption | omega)) ?_; simp only [go_sem, List.length_map, hI, e1])
        | (refine CallK.intro (by first | (apply spec_IsBuffer <;> first | assumption | omega)) ?_; simp only [go_sem, List.length_map, hI, e1])
        | (with_reducible refine gTrueS ?_; simp only [go_sem, List.length_map, hI, e1]) | (with_reducible refine gFalseS ?_; simp only [go_sem]) | (with_reducible refine gTrue ?_; simp only [go_sem, List.length_map, hI, e1]) | (with_reducible refine gFalse ?_; simp only [go_sem, List.length_map, hI, e1])
        | (refine gSymS ?_; simp only [go_sem, List.length_map, hI, e1]) | (refine gSym ?_; simp only [go_sem, List.length_map, hI, e1])
        | (refine cSplit (fun h => ?_) (fun h => ?_) <;> simp only [go_sem, List.length_map, hI, e1])
        | (with_reducible refine And.intro ?_ ?_; (focus (first | omega | (exact ⟨by omega, by omega⟩) | (simp; done) | (simp; omega)))))
      all_goals simp [endOf, hI, hln]
    | cons c0 cs0 =>
      rw [← hxs]
      have hlen : 0 < xs.length := by rw [hxs]; simp
      obtain ⟨m, hm⟩ : ∃ m, xs.length = m + 1 := ⟨xs.length - 1, by omega⟩
      have hlt : m < xs.length := by omega
      have hxi := map_at TChunk.enc xs m hlt
      have hl : xs.getLast? = some xs[m] := by rw [List.getLast?_eq_getElem?, hm, Nat.add_sub_cancel, List.getElem?_eq_getElem]
      have e1 : decide ((xs.length : Int) = 0) = false := decide_eq_false (by omega)
      have hw : IntKind.i64.wrap ((xs.length : Int) - 1) = (m : Int) := by rw [w64] <;> omega
      have hq := hI
      have hnn : 0 ≤ n ∧ chk n xs = true := by
        simp only [isBuf, Bool.and_eq_true, inB, decide_eq_true_eq] at hq; exact ⟨hq.1.1, hq.2⟩
      have hc := chk_mem xs n hnn.2 xs[m] (List.getElem_mem hlt)
      have hend : 0 ≤ xs[m].offset ∧ xs[m].offset ≤ 4611686018427387903 - (xs[m].data.length : Int) := ⟨by omega, hc.2⟩
      have hwe : IntKind.i64.wrap (xs[m].offset + (xs[m].data.length : Int)) = xs[m].offset + (xs[m].data.length : Int) := by rw [w64] <;> omega
      try simp only [go_sem, List.length_map, e1]
      repeat' (first
        | (refine CallS.intro (by first | (apply spec_IsBuffer <;> first | assumption | omega)) ?_; simp only [go_sem, hI])
        | (refine CallK.intro (by first | (apply spec_IsBuffer <;> first | assumption | omega)) ?_; simp only [go_sem, List.length_map, Int.toNat_natCast, hxi, TChunk.enc, hI, e1, hw, hwe])
        | (with_reducible refine gTrueS ?_; simp only [go_sem, List.length_map, Int.toNat_natCast, hxi, TChunk.enc, hw, hwe]) | (with_reducible refine gFalseS ?_; simp only [go_sem, List.length_map, Int.toNat_natCast, hxi, TChunk.enc, hI, e1, hw, hwe]) | (with_reducible refine gTrue ?_; simp only [go_sem, List.length_map, Int.toNat_natCast, hxi, TChunk.enc, hI, e1, hw, hwe]) | (with_reducible refine gFalse ?_; simp only [go_sem, List.length_map, Int.toNat_natCast, hxi, TChunk.enc, hI, e1, hw, hwe])
        | (refine gSymS ?_; simp only [go_sem, List.length_map, Int.toNat_natCast, hxi, TChunk.enc, hI, e1, hw, hwe]) | (refine gSym ?_; simp only [go_sem, List.length_map, Int.toNat_natCast, hxi, TChunk.enc, hI, e1, hw, hwe])
        | (refine cSplit (fun h => ?_) (fun h => ?_) <;> simp only [go_sem, List.length_map, Int.toNat_natCast, hxi, TChunk.enc, hI, e1, hw, hwe])
        | (with_reducible refine And.intro ?_ ?_; (focus (first | omega | (exact ⟨by omega, by omega⟩) | (simp; done) | (simp; omega)))))
      all_goals simp [endOf, hI, hl]

set_option maxRecDepth 100000 in
theorem spec_ByteAt (n : Int) (xs : List TChunk) (o : Int) (hb : ∀ c ∈ xs, c.data.length ≤ 1048576) (hx : xs.length ≤ 1048576) : PureCall Try.prog 96 [.agg [.int .i64 n, .sl 2 (xs.map TChunk.enc)], .one (.int .i64 o)] [.one (.int .i64 (byteAt xs o))] := by
  refine pure_ev Try.func96 rfl Try.call96 Try.checked.mixed [.agg [.d (.int .i64 n), .d (.sl 2 (xs.map TChunk.enc))], .d (.int .i64 o), .junk, .junk, .junk, .junk, .junk, .junk, .junk, .junk, .junk, .junk, .junk, .junk, .junk, .junk, .junk, .junk, .junk, .junk, .junk, .junk, .junk, .junk, .junk, .junk, .junk, .junk, .junk, .junk, .junk, .junk, .junk, .junk, .junk, .junk, .junk, .junk, .junk, .junk, .junk, .junk, .junk, .junk, .junk, .junk, .junk, .junk, .junk, .junk, .junk, .junk, .junk, .junk, .junk, .junk, .junk] rfl [.tmp 4] rfl ?_
  intro ok
  have ho := i64_of ok.2.1
  simp only [go_sem]
  refine LoopK.intro (fun i : Nat => ⟨[.junk, .d (.int .i64 o), .ptr 0 0 0, .junk, .d (.int .i64 0), .d (.int .i64 i), .junk, .junk, .junk, .junk, .junk, .junk, .junk, .junk, .junk, .junk, .junk, .junk, .junk, .junk, .junk, .junk, .junk, .junk, .junk, .junk, .junk, .junk, .junk, .junk, .junk, .junk, .junk, .junk, .junk, .junk, .junk, .junk, .junk, .junk, .junk, .junk, .junk, .junk, .junk, .junk, .junk, .junk, .junk, .junk, .junk, .junk, .junk, .junk, .junk, .junk, .junk], [.box [.d (.int .i64 n), .d (.sl 2 (xs.map TChunk.enc))]]⟩)
      (fun i => xs.length - i) (fun i => i ≤ xs.length ∧ byteAt (xs.drop i) o = byteAt xs o) 0 [0] ⟨by omega, rfl⟩ ?_ ?_
  · simp only [go_sem]; simp
  · rintro i ⟨hi, he⟩
    simp only [go_sem, List.length_map]
    refine cSplit (fun h1 => ?_) (fun h1 => ?_)
    · have h1' := of_decide_eq_true h1
      have hlt : i < xs.length := by omega
      have hxi := map_at TChunk.enc xs i hlt
      have hw := inc (i := i) (m := xs.length) hlt (by simp only [maxLen]; omega)
      have hdl := hb xs[i] (List.getElem_mem hlt)
      have hbd := byteAt_drop xs o i hlt
      by_cases hh : hitB o xs[i] = true
      · rw [if_pos hh] at hbd
        obtain ⟨f1, f2, f3, f4⟩ := (hitB_iff _ _).1 hh
        obtain ⟨k, hk⟩ := Int.eq_ofNat_of_zero_le (show 0 ≤ o - xs[i].offset by omega)
        have hwk : IntKind.i64.wrap (o - xs[i].offset) = (k : Int) := by rw [w64] <;> omega
        have hkl : k < xs[i].data.length := by omega
        have hdk : xs[i].data[k]? = some xs[i].data[k] := List.getElem?_eq_getElem hkl
        have hbt : IntKind.i64.wrap ((xs[i].data[k].toNat : Nat) : Int) = ((xs[i].data[k].toNat : Nat) : Int) := by have := xs[i].data[k].toNat_lt; rw [w64] <;> omega
        have e1 : decide (0 ≤ o) = true := decide_eq_true f1
        have e2 : decide (0 ≤ xs[i].offset) = true := decide_eq_true f2
        have e3 : decide ((0 : Int) ≤ (k : Int)) = true := decide_eq_true (by omega)
        have e4 : decide ((k : Int) < (xs[i].data.length : Int)) = true := decide_eq_true (by omega)
        rw [hk, Int.toNat_natCast, hdk, Option.getD_some] at hbd
        try simp only [go_sem, List.length_map, Int.toNat_natCast, hxi, TChunk.enc, hwk, e1, Option.getD_some]
        repeat' (first
          | (with_reducible refine gTrueS ?_; simp only [go_sem, List.length_map, Int.toNat_natCast, hxi, TChunk.enc, e2, e3, e4, hdk, hbt, Option.getD_some]) | (with_reducible refine gFalseS ?_; simp only [go_sem, List.length_map, Int.toNat_natCast, hxi, TChunk.enc, hwk, e1, e2, e3, e4, hdk, hbt, Option.getD_some]) | (with_reducible refine gTrue ?_; simp only [go_sem, List.length_map, Int.toNat_natCast, hxi, TChunk.enc, hwk, e1, e2, e3, e4, hdk, hbt, Option.getD_some]) | (with_reducible refine gFalse ?_; simp only [go_sem, List.length_map, Int.toNat_natCast, hxi, TChunk.enc, hwk, e1, e2, e3, e4, hdk, hbt, Option.getD_some])
          | (refine gSymS ?_; simp only [go_sem, List.length_map, Int.toNat_natCast, hxi, TChunk.enc, hwk, e1, e2, e3, e4, hdk, hbt, Option.getD_some]) | (refine gSym ?_; simp only [go_sem, List.length_map, Int.toNat_natCast, hxi, TChunk.enc, hwk, e1, e2, e3, e4, hdk, hbt, Option.getD_some])
          | (refine cSplit (fun h => ?_) (fun h => ?_) <;> simp only [go_sem, List.length_map, Int.toNat_natCast, hxi, TChunk.enc, hwk, e1, e2, e3, e4, hdk, hbt, Option.getD_some])
          | (with_reducible refine And.intro ?_ ?_; (focus (first | omega | (exact ⟨by omega, by omega⟩) | (simp; done) | (simp; omega)))))
        all_goals (rw [← he, hbd])
      · rw [if_neg hh] at hbd
        have hz : (bif bif bif decide (0 ≤ o) then decide (0 ≤ xs[i].offset) else false then decide (0 ≤ IntKind.i64.wrap (o - xs[i].offset)) else false then decide (IntKind.i64.wrap (o - xs[i].offset) < (xs[i].data.length : Int)) else false) = false := by
          by_cases g1 : 0 ≤ o
          · by_cases g2 : 0 ≤ xs[i].offset
            · have hof := i64_of (n := o - xs[i].offset) (by
                have h1 : IntKind.i64.min = -9223372036854775808 := by decide
                have h2 : IntKind.i64.max = 9223372036854775807 := by decide
                have h3 := eOk_at ok.1.2.1.2 _ (List.mem_map.2 ⟨xs[i], List.getElem_mem hlt, rfl⟩)
                have h4 := i64_of h3.1
                simp only [dOk, h1, h2]; omega)
              have hwk : IntKind.i64.wrap (o - xs[i].offset) = o - xs[i].offset := by rw [w64] <;> omega
              rw [hwk]
              by_cases g3 : 0 ≤ o - xs[i].offset
              · have g4 : ¬ o - xs[i].offset < (xs[i].data.length : Int) := fun g4 => hh ((hitB_iff _ _).2 ⟨g1, g2, by omega, g4⟩)
                simp [g4]
              · simp [show ¬ xs[i].offset ≤ o from by omega]
            · simp [g2]
          · simp [g1]
        try simp only [go_sem, List.length_map, Int.toNat_natCast, hxi, TChunk.enc]
        repeat' (first
          | (with_reducible refine gTrueS ?_; simp only [go_sem, List.length_map, Int.toNat_natCast, hxi, TChunk.enc, hz]) | (with_reducible refine gFalseS ?_; simp only [go_sem, List.length_map, Int.toNat_natCast, hxi, TChunk.enc, hz]) | (with_reducible refine gTrue ?_; simp only [go_sem, List.length_map, Int.toNat_natCast, hxi, TChunk.enc, hz]) | (with_reducible refine gFalse ?_; simp only [go_sem, List.length_map, Int.toNat_natCast, hxi, TChunk.enc, hz])
          | (refine gSymS ?_; simp only [go_sem, List.length_map, Int.toNat_natCast, hxi, TChunk.enc, hz]) | (refine gSym ?_; simp only [go_sem, List.length_map, Int.toNat_natCast, hxi, TChunk.enc, hz])
          | (refine cSplit (fun h => ?_) (fun h => ?_) <;> simp only [go_sem, List.length_map, Int.toNat_natCast, hxi, TChunk.enc, hz])
          | (with_reducible refine And.intro ?_ ?_; (focus (first | omega | (exact ⟨by omega, by omega⟩) | (simp; done) | (simp; omega)))))
        all_goals (refine RoundE.intro (i + 1) [0] ⟨by omega, by rw [← he, hbd]⟩ (by omega) ?_; simp only [go_sem, hw]; try simp)
    · have h1' := of_decide_eq_false h1
      have hi2 : i = xs.length := by omega
      subst hi2
      simp only [go_sem]
      rw [← he, List.drop_length]; rfl
end Gv
