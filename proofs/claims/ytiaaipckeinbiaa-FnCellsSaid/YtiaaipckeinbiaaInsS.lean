/-
  New data in a buffer: the reference's function.
-/
import Derived.Test.YtiaaipckeinbiaaBufRng
import Derived.Test.YtiaaipckeinbiaaPartLaw
import Derived.Test.YtiaaipckeinbiaaReadCells
namespace Gv
open Go Go.Proofs

def lowS (n off : Int) : Int := if n > off then n else off
def valS (xs : List TChunk) (off : Int) (data : List UInt8) (o : Int) : Int := if byteAt xs o < 0 then byteD off data o else byteAt xs o
def bytS (xs : List TChunk) (off : Int) (data : List UInt8) (lo : Int) (k : Nat) : List UInt8 := (List.range k).map fun j => byI (valS xs off data (lo + (j : Nat)))
def chS (xs : List TChunk) (off : Int) (data : List UInt8) (r : TRange) : TChunk := ⟨r.low, bytS xs off data r.low (r.high - r.low).toNat⟩
def rngS (n : Int) (xs : List TChunk) (off : Int) (data : List UInt8) : List TRange := addR (rngB xs) ⟨lowS n off, off + data.length⟩
def insOk (n : Int) (xs : List TChunk) (off : Int) (data : List UInt8) : Bool := isBuf ⟨n, xs⟩ && decide (data ≠ []) && decide (lowS n off < off + data.length)
def insS (n : Int) (xs : List TChunk) (off : Int) (data : List UInt8) : List TChunk :=
  if insOk n xs off data = true then (rngS n xs off data).map (chS xs off data) else xs
theorem bytS_succ (xs : List TChunk) (off : Int) (data : List UInt8) (lo : Int) (k : Nat) : bytS xs off data lo (k + 1) = bytS xs off data lo k ++ [byI (valS xs off data (lo + (k : Nat)))] := by
  simp [bytS, List.range_succ]
theorem bytS_len (xs : List TChunk) (off : Int) (data : List UInt8) (lo : Int) (k : Nat) : (bytS xs off data lo k).length = k := by simp [bytS]

/-- What the ranges of addR cover. -/
def covR (rs : List TRange) (q y : TRange) : Prop := ∀ a, y.low ≤ a → a < y.high → (∃ x ∈ rs, x.low ≤ a ∧ a < x.high) ∨ (q.low ≤ a ∧ a < q.high)
def inR (E : Int) (y : TRange) : Prop := 0 ≤ y.low ∧ y.low ≤ E ∧ y.high ≤ E
theorem arS_all (Q : TRange → Prop) (rs : List TRange) (q : TRange) (hq : Q q) (hx : ∀ x ∈ rs, Q x) (hm : ∀ a b : TRange, Q a → Q b → ¬ b.high < a.low → ¬ a.high < b.low → Q ⟨minI a.low b.low, maxI a.high b.high⟩) :
    ∀ i, (∀ y ∈ (arS rs q i).1, Q y) ∧ Q (arS rs q i).2.2
  | 0 => ⟨(fun y hy => by cases hy), hq⟩
  | i + 1 => by
    obtain ⟨h1, h2⟩ := arS_all Q rs q hq hx hm i
    rw [arS]
    split
    · rename_i x he
      have hxm := hx x (List.mem_of_getElem? he)
      unfold arStep
      split
      · refine ⟨fun y hy => ?_, h2⟩
        rcases List.mem_append.1 hy with hy | hy
        · exact h1 y hy
        · rw [List.mem_singleton.1 hy]; exact hxm
      · rename_i g1
        split
        · refine ⟨fun y hy => ?_, h2⟩
          rcases List.mem_append.1 hy with hy | hy
          · split at hy
            · exact h1 y hy
            · rcases List.mem_append.1 hy with hy | hy
              · exact h1 y hy
              · rw [List.mem_singleton.1 hy]; exact h2
          · rw [List.mem_singleton.1 hy]; exact hxm
        · rename_i g2
          exact ⟨h1, hm _ _ h2 hxm g1 g2⟩
    · exact ⟨h1, h2⟩
theorem addR_all (Q : TRange → Prop) (rs : List TRange) (q : TRange) (hq : Q q) (hx : ∀ x ∈ rs, Q x) (hm : ∀ a b : TRange, Q a → Q b → ¬ b.high < a.low → ¬ a.high < b.low → Q ⟨minI a.low b.low, maxI a.high b.high⟩) : ∀ y ∈ addR rs q, Q y := by
  obtain ⟨h1, h2⟩ := arS_all Q rs q hq hx hm rs.length
  unfold addR
  split
  · split
    · exact h1
    · intro y hy
      rcases List.mem_append.1 hy with hy | hy
      · exact h1 y hy
      · rw [List.mem_singleton.1 hy]; exact h2
  · exact hx
theorem addR_cov (rs : List TRange) (q : TRange) : ∀ y ∈ addR rs q, covR rs q y := by
  refine addR_all _ rs q (fun a h1 h2 => .inr ⟨h1, h2⟩) (fun x hx a h1 h2 => .inl ⟨x, hx, h1, h2⟩) fun a b ha hb g1 g2 c h1 h2 => ?_
  simp only [minI, maxI] at h1 h2
  by_cases k : a.low ≤ c ∧ c < a.high
  · exact ha c k.1 k.2
  · refine hb c ?_ ?_ <;> (split at h1 <;> split at h2 <;> omega)
theorem addR_in (E : Int) (rs : List TRange) (q : TRange) (hq : inR E q) (hx : ∀ x ∈ rs, inR E x) : ∀ y ∈ addR rs q, inR E y := by
  refine addR_all _ rs q hq hx fun a b ha hb g1 g2 => ?_
  simp only [inR, minI, maxI] at *
  refine ⟨?_, ?_, ?_⟩ <;> split <;> omega
theorem byteAt_cov (o : Int) : ∀ (cs : List TChunk), (∀ c ∈ cs, 0 ≤ c.offset) → ∀ x ∈ rngB cs, x.low ≤ o → o < x.high → 0 ≤ byteAt cs o
  | [], _, x, hx, _, _ => by cases hx
  | c :: cs, h0, x, hx, h1, h2 => by
    rw [byteAt]
    by_cases g : hitB o c = true
    · rw [if_pos g]; omega
    · rw [if_neg g]
      rcases List.mem_cons.1 hx with rfl | hx
      · exact absurd ((hitB_iff _ _).2 ⟨by have := h0 c (by simp); simp only at h1; omega, h0 c (by simp), h1, by simp only at h2; omega⟩) g
      · exact byteAt_cov o cs (fun d hd => h0 d (by simp [hd])) x hx h1 h2
theorem byteAt_lt (o : Int) : ∀ (cs : List TChunk), byteAt cs o < 256
  | [] => by simp [byteAt]
  | c :: cs => by
    rw [byteAt]; split
    · have := ((c.data[(o - c.offset).toNat]?).getD 0).toNat_lt; omega
    · exact byteAt_lt o cs
theorem valS_in (xs : List TChunk) (off : Int) (data : List UInt8) (o : Int) : 0 ≤ valS xs off data o ∧ valS xs off data o ≤ 255 := by
  unfold valS
  have := byteAt_lt o xs
  split
  · unfold byteD; have := ((data[(o - off).toNat]?).getD 0).toNat_lt; omega
  · omega

set_option maxHeartbeats 4000000 in
set_option maxRecDepth 100000 in
theorem spec_InsertData (n : Int) (xs : List TChunk) (off : Int) (data : List UInt8) (hb : ∀ c ∈ xs, c.data.length ≤ 1048576) (hx : xs.length ≤ 1048575) (hE : ∀ c ∈ xs, c.offset ≤ 1000 ∧ c.offset + (c.data.length : Int) ≤ 1000) (hd : data.length ≤ 8) (ho : 0 ≤ off) (ho2 : off + (data.length : Int) ≤ 1000) : PureCall Try.prog 62 [.agg [.int .i64 n, .sl 2 (xs.map TChunk.enc)], .one (.int .i64 off), .one (.str data)] [.agg [.int .i64 n, .sl 2 ((insS n xs off data).map TChunk.enc)]] := by
  refine pure_ev Try.func62 rfl Try.call62 Try.checked.mixed [.agg [.d (.int .i64 n), .d (.sl 2 (xs.map TChunk.enc))], .d (.int .i64 off), .d (.str data), .junk, .junk, .junk, .junk, .junk, .junk, .junk, .junk, .junk, .junk, .junk, .junk, .junk, .junk, .junk, .junk, .junk, .junk, .junk, .junk, .junk, .junk, .junk, .junk, .junk, .junk, .junk, .junk, .junk, .junk, .junk, .junk, .junk, .junk, .junk, .junk, .junk, .junk, .junk, .junk, .junk, .junk, .junk, .junk, .junk, .junk, .junk, .junk, .junk, .junk, .junk, .junk, .junk, .junk, .junk, .junk, .junk, .junk, .junk, .junk, .junk, .junk, .junk, .junk, .junk, .junk, .junk, .junk, .junk, .junk, .junk, .junk, .junk, .junk, .junk, .junk, .junk, .junk, .junk, .junk, .junk, .junk, .junk, .junk, .junk, .junk, .junk, .junk, .junk, .junk, .junk, .junk, .junk, .junk, .junk, .junk, .junk, .junk, .junk, .junk, .junk, .junk] rfl [.cell 6 26] rfl ?_
  intro ok
  have hx1 : xs.length ≤ 1048576 := by omega
  have hx2 : xs.length ≤ 1048577 := by omega
  have e2 : decide (off < 0) = false := decide_eq_false (by omega)
  have hw : IntKind.i64.wrap (4611686018427387903 - (data.length : Int)) = 4611686018427387903 - (data.length : Int) := by rw [w64] <;> omega
  have e3 : decide (4611686018427387903 - (data.length : Int) < off) = false := decide_eq_false (by omega)
  have hw2 : IntKind.i64.wrap (off + (data.length : Int)) = off + (data.length : Int) := by rw [w64] <;> omega
  cases hI : isBuf ⟨n, xs⟩ with
  | false =>
    have hX : insS n xs off data = xs := by unfold insS insOk; rw [hI]; rfl
    try simp only [go_sem]
    repeat' (first
      | (refine CallS.intro (by first | assumption | (apply spec_IsBuffer <;> first | assumption | omega) | (apply spec_l6Copy <;> first | assumption | omega) | (apply spec_BufferRanges <;> first | assumption | omega) | (apply spec_AddRange <;> first | assumption | omega) | (apply spec_ByteAt <;> first | assumption | omega) | (apply spec_l2Byte <;> first | assumption | omega)) ?_; simp only [go_sem, List.length_map, hI])
      | (refine CallK.intro (by first | assumption | (apply spec_IsBuffer <;> first | assumption | omega) | (apply spec_l6Copy <;> first | assumption | omega) | (apply spec_BufferRanges <;> first | assumption | omega) | (apply spec_AddRange <;> first | assumption | omega) | (apply spec_ByteAt <;> first | assumption | omega) | (apply spec_l2Byte <;> first | assumption | omega)) ?_; simp only [go_sem, List.length_map, hI])
      | (with_reducible refine gTrueS ?_; simp only [go_sem, List.length_map, hI]) | (with_reducible refine gFalseS ?_; simp only [go_sem]) | (with_reducible refine gTrue ?_; simp only [go_sem, List.length_map, hI]) | (with_reducible refine gFalse ?_; simp only [go_sem, List.length_map, hI])
      | (refine gSymS ?_; simp only [go_sem, List.length_map, hI]) | (refine gSym ?_; simp only [go_sem, List.length_map, hI])
      | (refine drawE_intro [[.post, .post, .un, .un, .un, .un, .un, .un, .un, .un, .post, .post, .post], [.pre, .post, .un, .un, .un, .un, .un, .un, .un, .un, .post, .post, .post], [.un, .un, .post, .un, .post, .post, .post, .un, .post, .post, .post, .post, .post], [.un, .un, .un, .post, .post, .post, .post, .un, .post, .post, .post, .post, .post], [.un, .un, .pre, .pre, .post, .post, .post, .un, .post, .post, .post, .post, .post], [.un, .un, .pre, .pre, .pre, .post, .post, .un, .post, .post, .post, .post, .post], [.un, .un, .pre, .pre, .pre, .pre, .post, .un, .post, .post, .post, .post, .post], [.un, .un, .un, .un, .un, .un, .un, .post, .post, .post, .post, .post, .post], [.un, .un, .pre, .pre, .pre, .pre, .pre, .pre, .post, .post, .post, .post, .post], [.un, .un, .pre, .pre, .pre, .pre, .pre, .pre, .pre, .post, .post, .post, .post], [.pre, .pre, .pre, .pre, .pre, .pre, .pre, .pre, .pre, .pre, .post, .post, .post], [.pre, .pre, .pre, .pre, .pre, .pre, .pre, .pre, .pre, .pre, .pre, .post, .post], [.pre, .pre, .pre, .pre, .pre, .pre, .pre, .pre, .pre, .pre, .pre, .pre, .post]] (by kernel_rfl) (by rfl) ?_; simp only [go_sem, List.length_map, hI])
      | (refine cSplit (fun h => ?_) (fun h => ?_) <;> simp only [go_sem, List.length_map, hI])
      | (with_reducible refine And.intro ?_ ?_; (focus (first | omega | (exact ⟨by omega, by omega⟩) | (simp; done) | (simp; omega)))))
    all_goals (rw [hX]; try simp)
  | true =>
  obtain ⟨hn0, hn1, hck⟩ := isBuf_n hI
  by_cases hde : data = []
  · have e1 : decide (data = []) = true := decide_eq_true hde
    have hX : insS n xs off data = xs := by unfold insS insOk; simp [hde]
    try simp only [go_sem]
    repeat' (first
      | (refine CallS.intro (by first | assumption | (apply spec_IsBuffer <;> first | assumption | omega) | (apply spec_l6Copy <;> first | assumption | omega) | (apply spec_BufferRanges <;> first | assumption | omega) | (apply spec_AddRange <;> first | assumption | omega) | (apply spec_ByteAt <;> first | assumption | omega) | (apply spec_l2Byte <;> first | assumption | omega)) ?_; simp only [go_sem, List.length_map, hI])
      | (refine CallK.intro (by first | assumption | (apply spec_IsBuffer <;> first | assumption | omega) | (apply spec_l6Copy <;> first | assumption | omega) | (apply spec_BufferRanges <;> first | assumption | omega) | (apply spec_AddRange <;> first | assumption | omega) | (apply spec_ByteAt <;> first | assumption | omega) | (apply spec_l2Byte <;> first | assumption | omega)) ?_; simp only [go_sem, List.length_map, hI, e1, e2, hw, e3, hw2])
      | (with_reducible refine gTrueS ?_; simp only [go_sem, e1]) | (with_reducible refine gFalseS ?_; simp only [go_sem]) | (with_reducible refine gTrue ?_; simp only [go_sem, List.length_map, hI, e1, e2, hw, e3, hw2]) | (with_reducible refine gFalse ?_; simp only [go_sem, List.length_map, hI, e1, e2, hw, e3, hw2])
      | (refine gSymS ?_; simp only [go_sem, List.length_map, hI, e1, e2, hw, e3, hw2]) | (refine gSym ?_; simp only [go_sem, List.length_map, hI, e1, e2, hw, e3, hw2])
      | (refine drawE_intro [[.post, .post, .un, .un, .un, .un, .un, .un, .un, .un, .post, .post, .post], [.pre, .post, .un, .un, .un, .un, .un, .un, .un, .un, .post, .post, .post], [.un, .un, .post, .un, .post, .post, .post, .un, .post, .post, .post, .post, .post], [.un, .un, .un, .post, .post, .post, .post, .un, .post, .post, .post, .post, .post], [.un, .un, .pre, .pre, .post, .post, .post, .un, .post, .post, .post, .post, .post], [.un, .un, .pre, .pre, .pre, .post, .post, .un, .post, .post, .post, .post, .post], [.un, .un, .pre, .pre, .pre, .pre, .post, .un, .post, .post, .post, .post, .post], [.un, .un, .un, .un, .un, .un, .un, .post, .post, .post, .post, .post, .post], [.un, .un, .pre, .pre, .pre, .pre, .pre, .pre, .post, .post, .post, .post, .post], [.un, .un, .pre, .pre, .pre, .pre, .pre, .pre, .pre, .post, .post, .post, .post], [.pre, .pre, .pre, .pre, .pre, .pre, .pre, .pre, .pre, .pre, .post, .post, .post], [.pre, .pre, .pre, .pre, .pre, .pre, .pre, .pre, .pre, .pre, .pre, .post, .post], [.pre, .pre, .pre, .pre, .pre, .pre, .pre, .pre, .pre, .pre, .pre, .pre, .post]] (by kernel_rfl) (by rfl) ?_; simp only [go_sem, List.length_map, hI, e1, e2, hw, e3, hw2])
      | (refine cSplit (fun h => ?_) (fun h => ?_) <;> simp only [go_sem, List.length_map, hI, e1, e2, hw, e3, hw2])
      | (with_reducible refine And.intro ?_ ?_; (focus (first | omega | (exact ⟨by omega, by omega⟩) | (simp; done) | (simp; omega)))))
    all_goals (rw [hX]; try simp)
  · have e1 : decide (data = []) = false := decide_eq_false hde
    obtain ⟨low, hL⟩ : ∃ low, (if n > off then n else off) = low := ⟨_, rfl⟩
    have hlo : off ≤ low ∧ 0 ≤ low := by rw [← hL]; split <;> omega
    by_cases hle : off + (data.length : Int) ≤ low
    · have e4 : decide (off + (data.length : Int) ≤ low) = true := decide_eq_true hle
      have hX : insS n xs off data = xs := by unfold insS insOk lowS; rw [hL, decide_eq_false (show ¬ low < off + (data.length : Int) by omega)]; simp
      try simp only [go_sem]
      repeat' (first
        | (refine CallS.intro (by first | assumption | (apply spec_IsBuffer <;> first | assumption | omega) | (apply spec_l6Copy <;> first | assumption | omega) | (apply spec_BufferRanges <;> first | assumption | omega) | (apply spec_AddRange <;> first | assumption | omega) | (apply spec_ByteAt <;> first | assumption | omega) | (apply spec_l2Byte <;> first | assumption | omega)) ?_; simp only [go_sem, List.length_map, hI])
        | (refine CallK.intro (by first | assumption | (apply spec_IsBuffer <;> first | assumption | omega) | (apply spec_l6Copy <;> first | assumption | omega) | (apply spec_BufferRanges <;> first | assumption | omega) | (apply spec_AddRange <;> first | assumption | omega) | (apply spec_ByteAt <;> first | assumption | omega) | (apply spec_l2Byte <;> first | assumption | omega)) ?_; simp only [go_sem, List.length_map, hI, e1, e2, hw, e3, hw2, hL, e4])
        | (with_reducible refine gTrueS ?_; simp only [go_sem, e1, e2, hw, e3, hw2, hL, e4]) | (with_reducible refine gFalseS ?_; simp only [go_sem, List.length_map, hI, e1, e2, hw, e3, hw2, hL, e4]) | (with_reducible refine gTrue ?_; simp only [go_sem, List.length_map, hI, e1, e2, hw, e3, hw2, hL, e4]) | (with_reducible refine gFalse ?_; simp only [go_sem, List.length_map, hI, e1, e2, hw, e3, hw2, hL, e4])
        | (refine gSymS ?_; simp only [go_sem, List.length_map, hI, e1, e2, hw, e3, hw2, hL, e4]) | (refine gSym ?_; simp only [go_sem, List.length_map, hI, e1, e2, hw, e3, hw2, hL, e4])
        | (refine drawE_intro [[.post, .post, .un, .un, .un, .un, .un, .un, .un, .un, .post, .post, .post], [.pre, .post, .un, .un, .un, .un, .un, .un, .un, .un, .post, .post, .post], [.un, .un, .post, .un, .post, .post, .post, .un, .post, .post, .post, .post, .post], [.un, .un, .un, .post, .post, .post, .post, .un, .post, .post, .post, .post, .post], [.un, .un, .pre, .pre, .post, .post, .post, .un, .post, .post, .post, .post, .post], [.un, .un, .pre, .pre, .pre, .post, .post, .un, .post, .post, .post, .post, .post], [.un, .un, .pre, .pre, .pre, .pre, .post, .un, .post, .post, .post, .post, .post], [.un, .un, .un, .un, .un, .un, .un, .post, .post, .post, .post, .post, .post], [.un, .un, .pre, .pre, .pre, .pre, .pre, .pre, .post, .post, .post, .post, .post], [.un, .un, .pre, .pre, .pre, .pre, .pre, .pre, .pre, .post, .post, .post, .post], [.pre, .pre, .pre, .pre, .pre, .pre, .pre, .pre, .pre, .pre, .post, .post, .post], [.pre, .pre, .pre, .pre, .pre, .pre, .pre, .pre, .pre, .pre, .pre, .post, .post], [.pre, .pre, .pre, .pre, .pre, .pre, .pre, .pre, .pre, .pre, .pre, .pre, .post]] (by kernel_rfl) (by rfl) ?_; simp only [go_sem, List.length_map, hI, e1, e2, hw, e3, hw2, hL, e4])
        | (refine cSplit (fun h => ?_) (fun h => ?_) <;> simp only [go_sem, List.length_map, hI, e1, e2, hw, e3, hw2, hL, e4])
        | (with_reducible refine And.intro ?_ ?_; (focus (first | omega | (exact ⟨by omega, by omega⟩) | (simp; done) | (simp; omega)))))
      all_goals (rw [hX]; try simp)
    · have e4 : decide (off + (data.length : Int) ≤ low) = false := decide_eq_false hle
      have hX : insS n xs off data = (rngS n xs off data).map (chS xs off data) := by
        unfold insS insOk lowS; rw [hL, hI, decide_eq_true hde, decide_eq_true (show low < off + (data.length : Int) by omega)]; rfl
      have hRl : (rngS n xs off data).length ≤ 1048576 := by
        have := addR_len (rngB xs) ⟨lowS n off, off + data.length⟩
        rw [rngB_len] at this; unfold rngS; omega
      have hRc : ∀ y ∈ rngS n xs off data, covR (rngB xs) ⟨low, off + data.length⟩ y := by
        unfold rngS lowS; rw [hL]; exact addR_cov _ _
      have hRi : ∀ y ∈ rngS n xs off data, inR 1000 y := by
        refine addR_in 1000 _ _ ⟨by unfold lowS; rw [hL]; exact hlo.2, by unfold lowS; rw [hL]; show low ≤ 1000; omega, ho2⟩ fun x hx => ?_
        obtain ⟨c, hc, rfl⟩ := List.mem_map.1 hx
        have := chk_mem _ _ hck c hc
        have := hE c hc
        exact ⟨by show 0 ≤ c.offset; omega, this.1, this.2⟩
      have hRd : addR (rngB xs) ⟨low, off + (data.length : Int)⟩ = rngS n xs off data := by unfold rngS lowS; rw [hL]
      have hRb : rngsB n xs = rngB xs := by unfold rngsB; rw [if_pos hI]
      have hrl : (rngB xs).length ≤ 1048576 := by rw [rngB_len]; omega
      try simp only [go_sem]
      repeat' (first
        | (refine CallS.intro (by first | assumption | (apply spec_IsBuffer <;> first | assumption | omega) | (apply spec_l6Copy <;> first | assumption | omega) | (apply spec_BufferRanges <;> first | assumption | omega) | (apply spec_AddRange <;> first | assumption | omega) | (apply spec_ByteAt <;> first | assumption | omega) | (apply spec_l2Byte <;> first | assumption | omega)) ?_; simp only [go_sem, List.length_map, hI, hRb, hRd])
        | (refine CallK.intro (by first | assumption | (apply spec_IsBuffer <;> first | assumption | omega) | (apply spec_l6Copy <;> first | assumption | omega) | (apply spec_BufferRanges <;> first | assumption | omega) | (apply spec_AddRange <;> first | assumption | omega) | (apply spec_ByteAt <;> first | assumption | omega) | (apply spec_l2Byte <;> first | assumption | omega)) ?_; simp only [go_sem, List.length_map, hI, e1, e2, hw, e3, hw2, hL, e4, hRb, hRd])
        | (with_reducible refine gTrueS ?_; simp only [go_sem, e1, e2, hw, e3, hw2, hL, e4]) | (with_reducible refine gFalseS ?_; simp only [go_sem, List.length_map, hI, e1, e2, hw, e3, hw2, hL, e4, hRb, hRd]) | (with_reducible refine gTrue ?_; simp only [go_sem, List.length_map, hI, e1, e2, hw, e3, hw2, hL, e4, hRb, hRd]) | (with_reducible refine gFalse ?_; simp only [go_sem, List.length_map, hI, e1, e2, hw, e3, hw2, hL, e4, hRb, hRd])
        | (refine gSymS ?_; simp only [go_sem, List.length_map, hI, e1, e2, hw, e3, hw2, hL, e4, hRb, hRd]) | (refine gSym ?_; simp only [go_sem, List.length_map, hI, e1, e2, hw, e3, hw2, hL, e4, hRb, hRd])
        | (refine drawE_intro [[.post, .post, .un, .un, .un, .un, .un, .un, .un, .un, .post, .post, .post], [.pre, .post, .un, .un, .un, .un, .un, .un, .un, .un, .post, .post, .post], [.un, .un, .post, .un, .post, .post, .post, .un, .post, .post, .post, .post, .post], [.un, .un, .un, .post, .post, .post, .post, .un, .post, .post, .post, .post, .post], [.un, .un, .pre, .pre, .post, .post, .post, .un, .post, .post, .post, .post, .post], [.un, .un, .pre, .pre, .pre, .post, .post, .un, .post, .post, .post, .post, .post], [.un, .un, .pre, .pre, .pre, .pre, .post, .un, .post, .post, .post, .post, .post], [.un, .un, .un, .un, .un, .un, .un, .post, .post, .post, .post, .post, .post], [.un, .un, .pre, .pre, .pre, .pre, .pre, .pre, .post, .post, .post, .post, .post], [.un, .un, .pre, .pre, .pre, .pre, .pre, .pre, .pre, .post, .post, .post, .post], [.pre, .pre, .pre, .pre, .pre, .pre, .pre, .pre, .pre, .pre, .post, .post, .post], [.pre, .pre, .pre, .pre, .pre, .pre, .pre, .pre, .pre, .pre, .pre, .post, .post], [.pre, .pre, .pre, .pre, .pre, .pre, .pre, .pre, .pre, .pre, .pre, .pre, .post]] (by kernel_rfl) (by rfl) ?_; simp only [go_sem, List.length_map, hI, e1, e2, hw, e3, hw2, hL, e4, hRb, hRd])
        | (refine cSplit (fun h => ?_) (fun h => ?_) <;> simp only [go_sem, List.length_map, hI, e1, e2, hw, e3, hw2, hL, e4, hRb, hRd])
        | (with_reducible refine And.intro ?_ ?_; (focus (first | omega | (exact ⟨by omega, by omega⟩) | (simp; done) | (simp; omega)))))
      generalize rngS n xs off data = R at hX hRl hRc hRi
      refine LoopK.intro (fun i : Nat => match i with
          | 0 => ⟨[.agg [.d (.int .i64 n), .d (.sl 2 (xs.map TChunk.enc))], .d (.int .i64 off), .d (.str data), .ptr 0 0 0, .junk, .junk, .ptr 1 0 0, .d (.int .i64 low), .d (.int .i64 (off + (data.length : Int))), .ptr 2 0 0, .sl 3 0 R.length, .d (.int .i64 0), .junk, .junk, .junk, .junk, .junk, .junk, .junk, .junk, .junk, .junk, .junk, .junk, .junk, .junk, .junk, .junk, .junk, .junk, .junk, .junk, .junk, .junk, .junk, .junk, .junk, .junk, .junk, .junk, .junk, .junk, .junk, .junk, .junk, .junk, .junk, .junk, .junk, .junk, .junk, .junk, .junk, .junk, .junk, .junk, .junk, .junk, .junk, .junk, .junk, .junk, .junk, .junk, .junk, .junk, .junk, .junk, .junk, .junk, .junk, .junk, .junk, .junk, .junk, .junk, .junk, .junk, .junk, .junk, .junk, .junk, .junk, .junk, .junk, .junk, .junk, .junk, .junk, .junk, .junk, .junk, .junk, .junk, .junk, .junk, .junk, .junk, .junk, .junk, .junk, .junk, .junk, .junk, .junk], [.box [.d (.int .i64 n), .d (.sl 2 (xs.map TChunk.enc))], .box [.d (.int .i64 0), .nils 2], .box [.d (.int .i64 n), .nils 2], .arr 2 (R.map TRange.enc) true]⟩
          | i + 1 => ⟨[.agg [.d (.int .i64 n), .d (.sl 2 (xs.map TChunk.enc))], .d (.int .i64 off), .d (.str data), .ptr 0 0 0, .junk, .junk, .ptr 1 0 0, .d (.int .i64 low), .d (.int .i64 (off + (data.length : Int))), .ptr 2 0 0, .sl 3 0 R.length, .d (.int .i64 ((i + 1 : Nat) : Int)), .junk, .junk, .junk, .junk, .junk, .junk, .junk, .junk, .junk, .junk, .junk, .junk, .junk, .junk, .junk, .junk, .junk, .junk, .junk, .junk, .junk, .junk, .junk, .junk, .junk, .junk, .junk, .junk, .junk, .junk, .junk, .junk, .junk, .junk, .junk, .junk, .junk, .junk, .junk, .junk, .junk, .junk, .junk, .junk, .junk, .junk, .junk, .junk, .junk, .junk, .junk, .junk, .junk, .junk, .junk, .junk, .junk, .junk, .junk, .junk, .junk, .junk, .junk, .junk, .junk, .junk, .junk, .junk, .junk, .junk, .junk, .junk, .junk, .junk, .junk, .junk, .junk, .junk, .junk, .junk, .junk, .junk, .junk, .junk, .junk, .junk, .junk, .junk, .junk, .junk, .junk, .junk, .junk], [.box [.d (.int .i64 n), .d (.sl 2 (xs.map TChunk.enc))], .box [.d (.int .i64 0), .nils 2], .box [.d (.int .i64 n), .sl 4 0 (i + 1)], .arr 2 (R.map TRange.enc) true, .arr 2 (((R.take (i + 1)).map (chS xs off data)).map TChunk.enc) true]⟩)
        (fun i => R.length - i) (fun i => i ≤ R.length) 0 [0, 1, 2, 4] (by omega) ?_ ?_
      · simp only [go_sem]; simp
      · intro i hi
        cases i with
        | zero =>
          simp only [go_sem]
          refine cSplit (fun h1 => ?_) (fun h1 => ?_)
          · have h1' := of_decide_eq_true h1
            have hlt : 0 < R.length := by omega
            have hri := map_at TRange.enc R 0 hlt
            have hrin := hRi R[0] (List.getElem_mem hlt)
            have hrcov := hRc R[0] (List.getElem_mem hlt)
            have hwi := inc (i := 0) (m := R.length) hlt (by simp only [maxLen]; omega)
            obtain ⟨k0, hk0⟩ : ∃ k0, (R[0].high - R[0].low).toNat = k0 := ⟨_, rfl⟩
            have hin := hrin
            simp only [inR] at hin
            simp only [go_sem, List.length_map, Int.toNat_zero, hri, TRange.enc]
            repeat (with_reducible refine And.intro (by omega) ?_)
            try simp only [go_sem]
            refine LoopK.intro (fun k : Nat => ⟨[.agg [.d (.int .i64 n), .d (.sl 2 (xs.map TChunk.enc))], .d (.int .i64 off), .d (.str data), .ptr 0 0 0, .junk, .junk, .ptr 1 0 0, .d (.int .i64 low), .d (.int .i64 (off + (data.length : Int))), .ptr 2 0 0, .sl 3 0 R.length, .d (.int .i64 0), .d (.str (bytS xs off data R[0].low k)), .d (.int .i64 (R[0].low + (k : Nat))), .junk, .junk, .junk, .junk, .junk, .junk, .junk, .junk, .junk, .junk, .junk, .junk, .junk, .junk, .junk, .junk, .junk, .junk, .junk, .junk, .junk, .junk, .junk, .junk, .junk, .junk, .junk, .junk, .junk, .junk, .junk, .junk, .junk, .junk, .junk, .junk, .junk, .junk, .junk, .junk, .junk, .junk, .junk, .junk, .junk, .junk, .junk, .junk, .junk, .junk, .junk, .junk, .junk, .junk, .junk, .junk, .junk, .junk, .junk, .junk, .junk, .junk, .junk, .junk, .junk, .junk, .junk, .junk, .junk, .junk, .junk, .junk, .junk, .junk, .junk, .junk, .junk, .junk, .junk, .junk, .junk, .junk, .junk, .junk, .junk, .junk, .junk, .junk, .junk, .junk, .junk], [.box [.d (.int .i64 n), .d (.sl 2 (xs.map TChunk.enc))], .box [.d (.int .i64 0), .nils 2], .box [.d (.int .i64 n), .nils 2], .arr 2 (R.map TRange.enc) true]⟩)
              (fun k => k0 - k) (fun k => k ≤ k0) 0 [0, 1, 2, 3] (by omega) ?_ ?_
            · simp only [go_sem]; simp [bytS]
            · intro k hk
              simp only [go_sem, List.length_map, Int.toNat_zero, hri, TRange.enc]
              repeat (with_reducible refine And.intro (by omega) ?_)
              try simp only [go_sem]
              have hbl := bytS_len xs off data R[0].low k
              refine cSplit (fun h3 => ?_) (fun h3 => ?_)
              · have h3' := of_decide_eq_true h3
                have hsc := bytS_succ xs off data R[0].low k
                have hws : IntKind.i64.wrap (R[0].low + (k : Int) + 1) = R[0].low + ((k + 1 : Nat) : Int) := by rw [w64] <;> omega
                simp only [go_sem]
                refine CallS.intro (spec_ByteAt n xs (R[0].low + (k : Int)) hb hx1) ?_
                simp only [go_sem]
                refine cSplit (fun h4 => ?_) (fun h4 => ?_)
                · have h4' := of_decide_eq_true h4
                  have hca : low ≤ R[0].low + (k : Int) ∧ R[0].low + (k : Int) < off + (data.length : Int) := by
                    rcases hrcov (R[0].low + (k : Int)) (by omega) (by omega) with ⟨x, hx3, g1, g2⟩ | g
                    · have := byteAt_cov (R[0].low + (k : Int)) xs (fun c hc => by have := chk_mem _ _ hck c hc; omega) x hx3 g1 g2; omega
                    · exact g
                  have hwj : IntKind.i64.wrap (R[0].low + (k : Int) - off) = (((R[0].low + (k : Int) - off).toNat : Nat) : Int) := by rw [w64] <;> omega
                  have hjl : (R[0].low + (k : Int) - off).toNat < data.length := by omega
                  have hdj : data[(R[0].low + (k : Int) - off).toNat]? = some data[(R[0].low + (k : Int) - off).toNat] := List.getElem?_eq_getElem hjl
                  have hv : ((data[(R[0].low + (k : Int) - off).toNat].toNat : Nat) : Int) = valS xs off data (R[0].low + (k : Int)) := by unfold valS byteD; rw [if_pos h4', hdj]; rfl
                  have hbt : IntKind.i64.wrap ((data[(R[0].low + (k : Int) - off).toNat].toNat : Nat) : Int) = valS xs off data (R[0].low + (k : Int)) := by
                    have := data[(R[0].low + (k : Int) - off).toNat].toNat_lt
                    rw [← hv, w64] <;> omega
                  try simp only [go_sem, hwj, hdj, hbt, Int.toNat_natCast, Option.getD_some]
                  repeat' (first
                    | (refine CallS.intro (by first | assumption | (apply spec_IsBuffer <;> first | assumption | omega) | (apply spec_l6Copy <;> first | assumption | omega) | (apply spec_BufferRanges <;> first | assumption | omega) | (apply spec_AddRange <;> first | assumption | omega) | (apply spec_ByteAt <;> first | assumption | omega) | (apply spec_l2Byte <;> first | assumption | omega)) ?_; simp only [go_sem, hwj, hdj, hbt, Int.toNat_natCast, Option.getD_some])
                    | (refine CallK.intro (by first | assumption | (apply spec_IsBuffer <;> first | assumption | omega) | (apply spec_l6Copy <;> first | assumption | omega) | (apply spec_BufferRanges <;> first | assumption | omega) | (apply spec_AddRange <;> first | assumption | omega) | (apply spec_ByteAt <;> first | assumption | omega) | (apply spec_l2Byte <;> first | assumption | omega)) ?_; simp only [go_sem, hwj, hdj, hbt, Int.toNat_natCast, Option.getD_some])
                    | (with_reducible refine gTrueS ?_; simp only [go_sem, hwj, hdj, hbt, Int.toNat_natCast, Option.getD_some]) | (with_reducible refine gFalseS ?_; simp only [go_sem, hwj, hdj, hbt, Int.toNat_natCast, Option.getD_some]) | (with_reducible refine gTrue ?_; simp only [go_sem, hwj, hdj, hbt, Int.toNat_natCast, Option.getD_some]) | (with_reducible refine gFalse ?_; simp only [go_sem, hwj, hdj, hbt, Int.toNat_natCast, Option.getD_some])
                    | (refine gSymS ?_; simp only [go_sem, hwj, hdj, hbt, Int.toNat_natCast, Option.getD_some]) | (refine gSym ?_; simp only [go_sem, hwj, hdj, hbt, Int.toNat_natCast, Option.getD_some])
                    | (refine drawE_intro [[.post, .post, .un, .un, .un, .un, .un, .un, .un, .un, .post, .post, .post], [.pre, .post, .un, .un, .un, .un, .un, .un, .un, .un, .post, .post, .post], [.un, .un, .post, .un, .post, .post, .post, .un, .post, .post, .post, .post, .post], [.un, .un, .un, .post, .post, .post, .post, .un, .post, .post, .post, .post, .post], [.un, .un, .pre, .pre, .post, .post, .post, .un, .post, .post, .post, .post, .post], [.un, .un, .pre, .pre, .pre, .post, .post, .un, .post, .post, .post, .post, .post], [.un, .un, .pre, .pre, .pre, .pre, .post, .un, .post, .post, .post, .post, .post], [.un, .un, .un, .un, .un, .un, .un, .post, .post, .post, .post, .post, .post], [.un, .un, .pre, .pre, .pre, .pre, .pre, .pre, .post, .post, .post, .post, .post], [.un, .un, .pre, .pre, .pre, .pre, .pre, .pre, .pre, .post, .post, .post, .post], [.pre, .pre, .pre, .pre, .pre, .pre, .pre, .pre, .pre, .pre, .post, .post, .post], [.pre, .pre, .pre, .pre, .pre, .pre, .pre, .pre, .pre, .pre, .pre, .post, .post], [.pre, .pre, .pre, .pre, .pre, .pre, .pre, .pre, .pre, .pre, .pre, .pre, .post]] (by kernel_rfl) (by rfl) ?_; simp only [go_sem, hwj, hdj, hbt, Int.toNat_natCast, Option.getD_some])
                    | (refine cSplit (fun h => ?_) (fun h => ?_) <;> simp only [go_sem, hwj, hdj, hbt, Int.toNat_natCast, Option.getD_some])
                    | (with_reducible refine And.intro ?_ ?_; (focus (first | omega | (exact ⟨by omega, by omega⟩) | (simp; done) | (simp; omega)))))
                  refine CallS.intro (spec_l2Byte_one _ (valS_in xs off data _)) ?_
                  try simp only [go_sem, hws, hbl]
                  repeat' (first
                    | (refine CallS.intro (by first | assumption | (apply spec_IsBuffer <;> first | assumption | omega) | (apply spec_l6Copy <;> first | assumption | omega) | (apply spec_BufferRanges <;> first | assumption | omega) | (apply spec_AddRange <;> first | assumption | omega) | (apply spec_ByteAt <;> first | assumption | omega) | (apply spec_l2Byte <;> first | assumption | omega)) ?_; simp only [go_sem, hws, hbl])
                    | (refine CallK.intro (by first | assumption | (apply spec_IsBuffer <;> first | assumption | omega) | (apply spec_l6Copy <;> first | assumption | omega) | (apply spec_BufferRanges <;> first | assumption | omega) | (apply spec_AddRange <;> first | assumption | omega) | (apply spec_ByteAt <;> first | assumption | omega) | (apply spec_l2Byte <;> first | assumption | omega)) ?_; simp only [go_sem, hws, hbl])
                    | (with_reducible refine gTrueS ?_; simp only [go_sem, hws, hbl]) | (with_reducible refine gFalseS ?_; simp only [go_sem, hws, hbl]) | (with_reducible refine gTrue ?_; simp only [go_sem, hws, hbl]) | (with_reducible refine gFalse ?_; simp only [go_sem, hws, hbl])
                    | (refine gSymS ?_; simp only [go_sem, hws, hbl]) | (refine gSym ?_; simp only [go_sem, hws, hbl])
                    | (refine drawE_intro [[.post, .post, .un, .un, .un, .un, .un, .un, .un, .un, .post, .post, .post], [.pre, .post, .un, .un, .un, .un, .un, .un, .un, .un, .post, .post, .post], [.un, .un, .post, .un, .post, .post, .post, .un, .post, .post, .post, .post, .post], [.un, .un, .un, .post, .post, .post, .post, .un, .post, .post, .post, .post, .post], [.un, .un, .pre, .pre, .post, .post, .post, .un, .post, .post, .post, .post, .post], [.un, .un, .pre, .pre, .pre, .post, .post, .un, .post, .post, .post, .post, .post], [.un, .un, .pre, .pre, .pre, .pre, .post, .un, .post, .post, .post, .post, .post], [.un, .un, .un, .un, .un, .un, .un, .post, .post, .post, .post, .post, .post], [.un, .un, .pre, .pre, .pre, .pre, .pre, .pre, .post, .post, .post, .post, .post], [.un, .un, .pre, .pre, .pre, .pre, .pre, .pre, .pre, .post, .post, .post, .post], [.pre, .pre, .pre, .pre, .pre, .pre, .pre, .pre, .pre, .pre, .post, .post, .post], [.pre, .pre, .pre, .pre, .pre, .pre, .pre, .pre, .pre, .pre, .pre, .post, .post], [.pre, .pre, .pre, .pre, .pre, .pre, .pre, .pre, .pre, .pre, .pre, .pre, .post]] (by kernel_rfl) (by rfl) ?_; simp only [go_sem, hws, hbl])
                    | (refine cSplit (fun h => ?_) (fun h => ?_) <;> simp only [go_sem, hws, hbl])
                    | (with_reducible refine And.intro ?_ ?_; (focus (first | omega | (exact ⟨by omega, by omega⟩) | (simp; done) | (simp; omega)))))
                  all_goals (
                    refine ⟨by simp only [maxLen]; omega, ?_⟩
                    refine RoundE.intro (k + 1) [0, 1, 2, 3] (by omega) (by omega) ?_
                    simp only [go_sem, hsc]
                    try simp)
                · have h4' := of_decide_eq_false h4
                  have hv : byteAt xs (R[0].low + (k : Int)) = valS xs off data (R[0].low + (k : Int)) := by unfold valS; rw [if_neg h4']
                  simp only [go_sem, hv]
                  refine CallS.intro (spec_l2Byte_one _ (valS_in xs off data _)) ?_
                  try simp only [go_sem, hws, hbl]
                  repeat' (first
                    | (refine CallS.intro (by first | assumption | (apply spec_IsBuffer <;> first | assumption | omega) | (apply spec_l6Copy <;> first | assumption | omega) | (apply spec_BufferRanges <;> first | assumption | omega) | (apply spec_AddRange <;> first | assumption | omega) | (apply spec_ByteAt <;> first | assumption | omega) | (apply spec_l2Byte <;> first | assumption | omega)) ?_; simp only [go_sem, hws, hbl])
                    | (refine CallK.intro (by first | assumption | (apply spec_IsBuffer <;> first | assumption | omega) | (apply spec_l6Copy <;> first | assumption | omega) | (apply spec_BufferRanges <;> first | assumption | omega) | (apply spec_AddRange <;> first | assumption | omega) | (apply spec_ByteAt <;> first | assumption | omega) | (apply spec_l2Byte <;> first | assumption | omega)) ?_; simp only [go_sem, hws, hbl])
                    | (with_reducible refine gTrueS ?_; simp only [go_sem, hws, hbl]) | (with_reducible refine gFalseS ?_; simp only [go_sem, hws, hbl]) | (with_reducible refine gTrue ?_; simp only [go_sem, hws, hbl]) | (with_reducible refine gFalse ?_; simp only [go_sem, hws, hbl])
                    | (refine gSymS ?_; simp only [go_sem, hws, hbl]) | (refine gSym ?_; simp only [go_sem, hws, hbl])
                    | (refine drawE_intro [[.post, .post, .un, .un, .un, .un, .un, .un, .un, .un, .post, .post, .post], [.pre, .post, .un, .un, .un, .un, .un, .un, .un, .un, .post, .post, .post], [.un, .un, .post, .un, .post, .post, .post, .un, .post, .post, .post, .post, .post], [.un, .un, .un, .post, .post, .post, .post, .un, .post, .post, .post, .post, .post], [.un, .un, .pre, .pre, .post, .post, .post, .un, .post, .post, .post, .post, .post], [.un, .un, .pre, .pre, .pre, .post, .post, .un, .post, .post, .post, .post, .post], [.un, .un, .pre, .pre, .pre, .pre, .post, .un, .post, .post, .post, .post, .post], [.un, .un, .un, .un, .un, .un, .un, .post, .post, .post, .post, .post, .post], [.un, .un, .pre, .pre, .pre, .pre, .pre, .pre, .post, .post, .post, .post, .post], [.un, .un, .pre, .pre, .pre, .pre, .pre, .pre, .pre, .post, .post, .post, .post], [.pre, .pre, .pre, .pre, .pre, .pre, .pre, .pre, .pre, .pre, .post, .post, .post], [.pre, .pre, .pre, .pre, .pre, .pre, .pre, .pre, .pre, .pre, .pre, .post, .post], [.pre, .pre, .pre, .pre, .pre, .pre, .pre, .pre, .pre, .pre, .pre, .pre, .post]] (by kernel_rfl) (by rfl) ?_; simp only [go_sem, hws, hbl])
                    | (refine cSplit (fun h => ?_) (fun h => ?_) <;> simp only [go_sem, hws, hbl])
                    | (with_reducible refine And.intro ?_ ?_; (focus (first | omega | (exact ⟨by omega, by omega⟩) | (simp; done) | (simp; omega)))))
                  all_goals (
                    refine ⟨by simp only [maxLen]; omega, ?_⟩
                    refine RoundE.intro (k + 1) [0, 1, 2, 3] (by omega) (by omega) ?_
                    simp only [go_sem, hsc]
                    try simp)
              · have h3' := of_decide_eq_false h3
                have hke : k = k0 := by omega
                have hch : chS xs off data R[0] = ⟨R[0].low, bytS xs off data R[0].low k⟩ := by unfold chS; rw [hk0, hke]
                have hst : ((R.take (0 + 1)).map (chS xs off data)).map TChunk.enc = ((R.take 0).map (chS xs off data)).map TChunk.enc ++ [[.int .i64 R[0].low, .str (bytS xs off data R[0].low k)]] := by
                  rw [List.take_add_one, List.getElem?_eq_getElem hlt, Option.toList_some, List.map_append, List.map_append, List.map_singleton, List.map_singleton, hch]; rfl
                try simp only [go_sem]
                repeat' (first
                  | (refine CallS.intro (by first | assumption | (apply spec_IsBuffer <;> first | assumption | omega) | (apply spec_l6Copy <;> first | assumption | omega) | (apply spec_BufferRanges <;> first | assumption | omega) | (apply spec_AddRange <;> first | assumption | omega) | (apply spec_ByteAt <;> first | assumption | omega) | (apply spec_l2Byte <;> first | assumption | omega)) ?_; simp only [go_sem, List.length_map, Int.toNat_natCast, Int.toNat_zero, hri, TRange.enc, hwi])
                  | (refine CallK.intro (by first | assumption | (apply spec_IsBuffer <;> first | assumption | omega) | (apply spec_l6Copy <;> first | assumption | omega) | (apply spec_BufferRanges <;> first | assumption | omega) | (apply spec_AddRange <;> first | assumption | omega) | (apply spec_ByteAt <;> first | assumption | omega) | (apply spec_l2Byte <;> first | assumption | omega)) ?_; simp only [go_sem, List.length_map, Int.toNat_natCast, Int.toNat_zero, hri, TRange.enc, hwi])
                  | (with_reducible refine gTrueS ?_; simp only [go_sem, List.length_map, Int.toNat_natCast, Int.toNat_zero, hri, TRange.enc, hwi]) | (with_reducible refine gFalseS ?_; simp only [go_sem, List.length_map, Int.toNat_natCast, Int.toNat_zero, hri, TRange.enc, hwi]) | (with_reducible refine gTrue ?_; simp only [go_sem, List.length_map, Int.toNat_natCast, Int.toNat_zero, hri, TRange.enc, hwi]) | (with_reducible refine gFalse ?_; simp only [go_sem, List.length_map, Int.toNat_natCast, Int.toNat_zero, hri, TRange.enc, hwi])
                  | (refine gSymS ?_; simp only [go_sem, List.length_map, Int.toNat_natCast, Int.toNat_zero, hri, TRange.enc, hwi]) | (refine gSym ?_; simp only [go_sem, List.length_map, Int.toNat_natCast, Int.toNat_zero, hri, TRange.enc, hwi])
                  | (refine drawE_intro [[.post, .post, .un, .un, .un, .un, .un, .un, .un, .un, .post, .post, .post], [.pre, .post, .un, .un, .un, .un, .un, .un, .un, .un, .post, .post, .post], [.un, .un, .post, .un, .post, .post, .post, .un, .post, .post, .post, .post, .post], [.un, .un, .un, .post, .post, .post, .post, .un, .post, .post, .post, .post, .post], [.un, .un, .pre, .pre, .post, .post, .post, .un, .post, .post, .post, .post, .post], [.un, .un, .pre, .pre, .pre, .post, .post, .un, .post, .post, .post, .post, .post], [.un, .un, .pre, .pre, .pre, .pre, .post, .un, .post, .post, .post, .post, .post], [.un, .un, .un, .un, .un, .un, .un, .post, .post, .post, .post, .post, .post], [.un, .un, .pre, .pre, .pre, .pre, .pre, .pre, .post, .post, .post, .post, .post], [.un, .un, .pre, .pre, .pre, .pre, .pre, .pre, .pre, .post, .post, .post, .post], [.pre, .pre, .pre, .pre, .pre, .pre, .pre, .pre, .pre, .pre, .post, .post, .post], [.pre, .pre, .pre, .pre, .pre, .pre, .pre, .pre, .pre, .pre, .pre, .post, .post], [.pre, .pre, .pre, .pre, .pre, .pre, .pre, .pre, .pre, .pre, .pre, .pre, .post]] (by kernel_rfl) (by rfl) ?_; simp only [go_sem, List.length_map, Int.toNat_zero, hri, TRange.enc])
                  | (refine cSplit (fun h => ?_) (fun h => ?_) <;> simp only [go_sem, List.length_map, Int.toNat_natCast, Int.toNat_zero, hri, TRange.enc, hwi])
                  | (with_reducible refine And.intro ?_ ?_; (focus (first | omega | (exact ⟨by omega, by omega⟩) | (simp; done) | (simp; omega)))))
                all_goals (
                  refine RoundE.intro (0 + 1) [0, 1, 2, 3, 5] (by omega) (by omega) ?_
                  simp only [go_sem, hst]
                  simp [List.take_of_length_le]
                  try first | decide | omega)
          · have h1' := of_decide_eq_false h1
            try simp only [go_sem]
            repeat' (first
              | (refine CallS.intro (by first | assumption | (apply spec_IsBuffer <;> first | assumption | omega) | (apply spec_l6Copy <;> first | assumption | omega) | (apply spec_BufferRanges <;> first | assumption | omega) | (apply spec_AddRange <;> first | assumption | omega) | (apply spec_ByteAt <;> first | assumption | omega) | (apply spec_l2Byte <;> first | assumption | omega)) ?_; simp only [go_sem])
              | (refine CallK.intro (by first | assumption | (apply spec_IsBuffer <;> first | assumption | omega) | (apply spec_l6Copy <;> first | assumption | omega) | (apply spec_BufferRanges <;> first | assumption | omega) | (apply spec_AddRange <;> first | assumption | omega) | (apply spec_ByteAt <;> first | assumption | omega) | (apply spec_l2Byte <;> first | assumption | omega)) ?_; simp only [go_sem])
              | (with_reducible refine gTrueS ?_; simp only [go_sem]) | (with_reducible refine gFalseS ?_; simp only [go_sem]) | (with_reducible refine gTrue ?_; simp only [go_sem]) | (with_reducible refine gFalse ?_; simp only [go_sem])
              | (refine gSymS ?_; simp only [go_sem]) | (refine gSym ?_; simp only [go_sem])
              | (refine drawE_intro [[.post, .post, .un, .un, .un, .un, .un, .un, .un, .un, .post, .post, .post], [.pre, .post, .un, .un, .un, .un, .un, .un, .un, .un, .post, .post, .post], [.un, .un, .post, .un, .post, .post, .post, .un, .post, .post, .post, .post, .post], [.un, .un, .un, .post, .post, .post, .post, .un, .post, .post, .post, .post, .post], [.un, .un, .pre, .pre, .post, .post, .post, .un, .post, .post, .post, .post, .post], [.un, .un, .pre, .pre, .pre, .post, .post, .un, .post, .post, .post, .post, .post], [.un, .un, .pre, .pre, .pre, .pre, .post, .un, .post, .post, .post, .post, .post], [.un, .un, .un, .un, .un, .un, .un, .post, .post, .post, .post, .post, .post], [.un, .un, .pre, .pre, .pre, .pre, .pre, .pre, .post, .post, .post, .post, .post], [.un, .un, .pre, .pre, .pre, .pre, .pre, .pre, .pre, .post, .post, .post, .post], [.pre, .pre, .pre, .pre, .pre, .pre, .pre, .pre, .pre, .pre, .post, .post, .post], [.pre, .pre, .pre, .pre, .pre, .pre, .pre, .pre, .pre, .pre, .pre, .post, .post], [.pre, .pre, .pre, .pre, .pre, .pre, .pre, .pre, .pre, .pre, .pre, .pre, .post]] (by kernel_rfl) (by rfl) ?_; simp only [go_sem])
              | (refine cSplit (fun h => ?_) (fun h => ?_) <;> simp only [go_sem])
              | (with_reducible refine And.intro ?_ ?_; (focus (first | omega | (exact ⟨by omega, by omega⟩) | (simp; done) | (simp; omega)))))
            all_goals (have hR0 : R = [] := List.length_eq_zero_iff.1 (by omega); rw [hX, hR0]; try simp)
        | succ i =>
          simp only [go_sem]
          refine cSplit (fun h1 => ?_) (fun h1 => ?_)
          · have h1' := of_decide_eq_true h1
            have hlt : i + 1 < R.length := by omega
            have hri := map_at TRange.enc R (i + 1) hlt
            have hrin := hRi R[i + 1] (List.getElem_mem hlt)
            have hrcov := hRc R[i + 1] (List.getElem_mem hlt)
            have hwi := inc (i := (i + 1)) (m := R.length) hlt (by simp only [maxLen]; omega)
            obtain ⟨k0, hk0⟩ : ∃ k0, (R[i + 1].high - R[i + 1].low).toNat = k0 := ⟨_, rfl⟩
            have hin := hrin
            simp only [inR] at hin
            simp only [go_sem, List.length_map, Int.toNat_natCast, hri, TRange.enc]
            repeat (with_reducible refine And.intro (by omega) ?_)
            try simp only [go_sem]
            refine LoopK.intro (fun k : Nat => ⟨[.agg [.d (.int .i64 n), .d (.sl 2 (xs.map TChunk.enc))], .d (.int .i64 off), .d (.str data), .ptr 0 0 0, .junk, .junk, .ptr 1 0 0, .d (.int .i64 low), .d (.int .i64 (off + (data.length : Int))), .ptr 2 0 0, .sl 3 0 R.length, .d (.int .i64 ((i + 1 : Nat) : Int)), .d (.str (bytS xs off data R[i + 1].low k)), .d (.int .i64 (R[i + 1].low + (k : Nat))), .junk, .junk, .junk, .junk, .junk, .junk, .junk, .junk, .junk, .junk, .junk, .junk, .junk, .junk, .junk, .junk, .junk, .junk, .junk, .junk, .junk, .junk, .junk, .junk, .junk, .junk, .junk, .junk, .junk, .junk, .junk, .junk, .junk, .junk, .junk, .junk, .junk, .junk, .junk, .junk, .junk, .junk, .junk, .junk, .junk, .junk, .junk, .junk, .junk, .junk, .junk, .junk, .junk, .junk, .junk, .junk, .junk, .junk, .junk, .junk, .junk, .junk, .junk, .junk, .junk, .junk, .junk, .junk, .junk, .junk, .junk, .junk, .junk, .junk, .junk, .junk, .junk, .junk, .junk, .junk, .junk, .junk, .junk, .junk, .junk, .junk, .junk, .junk, .junk, .junk, .junk], [.box [.d (.int .i64 n), .d (.sl 2 (xs.map TChunk.enc))], .box [.d (.int .i64 0), .nils 2], .box [.d (.int .i64 n), .sl 4 0 (i + 1)], .arr 2 (R.map TRange.enc) true, .arr 2 (((R.take (i + 1)).map (chS xs off data)).map TChunk.enc) true]⟩)
              (fun k => k0 - k) (fun k => k ≤ k0) 0 [0, 1, 2, 3, 4] (by omega) ?_ ?_
            · simp only [go_sem]; simp [bytS]
            · intro k hk
              simp only [go_sem, List.length_map, Int.toNat_natCast, hri, TRange.enc]
              repeat (with_reducible refine And.intro (by omega) ?_)
              try simp only [go_sem]
              have hbl := bytS_len xs off data R[i + 1].low k
              refine cSplit (fun h3 => ?_) (fun h3 => ?_)
              · have h3' := of_decide_eq_true h3
                have hsc := bytS_succ xs off data R[i + 1].low k
                have hws : IntKind.i64.wrap (R[i + 1].low + (k : Int) + 1) = R[i + 1].low + ((k + 1 : Nat) : Int) := by rw [w64] <;> omega
                simp only [go_sem]
                refine CallS.intro (spec_ByteAt n xs (R[i + 1].low + (k : Int)) hb hx1) ?_
                simp only [go_sem]
                refine cSplit (fun h4 => ?_) (fun h4 => ?_)
                · have h4' := of_decide_eq_true h4
                  have hca : low ≤ R[i + 1].low + (k : Int) ∧ R[i + 1].low + (k : Int) < off + (data.length : Int) := by
                    rcases hrcov (R[i + 1].low + (k : Int)) (by omega) (by omega) with ⟨x, hx3, g1, g2⟩ | g
                    · have := byteAt_cov (R[i + 1].low + (k : Int)) xs (fun c hc => by have := chk_mem _ _ hck c hc; omega) x hx3 g1 g2; omega
                    · exact g
                  have hwj : IntKind.i64.wrap (R[i + 1].low + (k : Int) - off) = (((R[i + 1].low + (k : Int) - off).toNat : Nat) : Int) := by rw [w64] <;> omega
                  have hjl : (R[i + 1].low + (k : Int) - off).toNat < data.length := by omega
                  have hdj : data[(R[i + 1].low + (k : Int) - off).toNat]? = some data[(R[i + 1].low + (k : Int) - off).toNat] := List.getElem?_eq_getElem hjl
                  have hv : ((data[(R[i + 1].low + (k : Int) - off).toNat].toNat : Nat) : Int) = valS xs off data (R[i + 1].low + (k : Int)) := by unfold valS byteD; rw [if_pos h4', hdj]; rfl
                  have hbt : IntKind.i64.wrap ((data[(R[i + 1].low + (k : Int) - off).toNat].toNat : Nat) : Int) = valS xs off data (R[i + 1].low + (k : Int)) := by
                    have := data[(R[i + 1].low + (k : Int) - off).toNat].toNat_lt
                    rw [← hv, w64] <;> omega
                  try simp only [go_sem, hwj, hdj, hbt, Int.toNat_natCast, Option.getD_some]
                  repeat' (first
                    | (refine CallS.intro (by first | assumption | (apply spec_IsBuffer <;> first | assumption | omega) | (apply spec_l6Copy <;> first | assumption | omega) | (apply spec_BufferRanges <;> first | assumption | omega) | (apply spec_AddRange <;> first | assumption | omega) | (apply spec_ByteAt <;> first | assumption | omega) | (apply spec_l2Byte <;> first | assumption | omega)) ?_; simp only [go_sem, hwj, hdj, hbt, Int.toNat_natCast, Option.getD_some])
                    | (refine CallK.intro (by first | assumption | (apply spec_IsBuffer <;> first | assumption | omega) | (apply spec_l6Copy <;> first | assumption | omega) | (apply spec_BufferRanges <;> first | assumption | omega) | (apply spec_AddRange <;> first | assumption | omega) | (apply spec_ByteAt <;> first | assumption | omega) | (apply spec_l2Byte <;> first | assumption | omega)) ?_; simp only [go_sem, hwj, hdj, hbt, Int.toNat_natCast, Option.getD_some])
                    | (with_reducible refine gTrueS ?_; simp only [go_sem, hwj, hdj, hbt, Int.toNat_natCast, Option.getD_some]) | (with_reducible refine gFalseS ?_; simp only [go_sem, hwj, hdj, hbt, Int.toNat_natCast, Option.getD_some]) | (with_reducible refine gTrue ?_; simp only [go_sem, hwj, hdj, hbt, Int.toNat_natCast, Option.getD_some]) | (with_reducible refine gFalse ?_; simp only [go_sem, hwj, hdj, hbt, Int.toNat_natCast, Option.getD_some])
                    | (refine gSymS ?_; simp only [go_sem, hwj, hdj, hbt, Int.toNat_natCast, Option.getD_some]) | (refine gSym ?_; simp only [go_sem, hwj, hdj, hbt, Int.toNat_natCast, Option.getD_some])
                    | (refine drawE_intro [[.post, .post, .un, .un, .un, .un, .un, .un, .un, .un, .post, .post, .post], [.pre, .post, .un, .un, .un, .un, .un, .un, .un, .un, .post, .post, .post], [.un, .un, .post, .un, .post, .post, .post, .un, .post, .post, .post, .post, .post], [.un, .un, .un, .post, .post, .post, .post, .un, .post, .post, .post, .post, .post], [.un, .un, .pre, .pre, .post, .post, .post, .un, .post, .post, .post, .post, .post], [.un, .un, .pre, .pre, .pre, .post, .post, .un, .post, .post, .post, .post, .post], [.un, .un, .pre, .pre, .pre, .pre, .post, .un, .post, .post, .post, .post, .post], [.un, .un, .un, .un, .un, .un, .un, .post, .post, .post, .post, .post, .post], [.un, .un, .pre, .pre, .pre, .pre, .pre, .pre, .post, .post, .post, .post, .post], [.un, .un, .pre, .pre, .pre, .pre, .pre, .pre, .pre, .post, .post, .post, .post], [.pre, .pre, .pre, .pre, .pre, .pre, .pre, .pre, .pre, .pre, .post, .post, .post], [.pre, .pre, .pre, .pre, .pre, .pre, .pre, .pre, .pre, .pre, .pre, .post, .post], [.pre, .pre, .pre, .pre, .pre, .pre, .pre, .pre, .pre, .pre, .pre, .pre, .post]] (by kernel_rfl) (by rfl) ?_; simp only [go_sem, hwj, hdj, hbt, Int.toNat_natCast, Option.getD_some])
                    | (refine cSplit (fun h => ?_) (fun h => ?_) <;> simp only [go_sem, hwj, hdj, hbt, Int.toNat_natCast, Option.getD_some])
                    | (with_reducible refine And.intro ?_ ?_; (focus (first | omega | (exact ⟨by omega, by omega⟩) | (simp; done) | (simp; omega)))))
                  refine CallS.intro (spec_l2Byte_one _ (valS_in xs off data _)) ?_
                  try simp only [go_sem, hws, hbl]
                  repeat' (first
                    | (refine CallS.intro (by first | assumption | (apply spec_IsBuffer <;> first | assumption | omega) | (apply spec_l6Copy <;> first | assumption | omega) | (apply spec_BufferRanges <;> first | assumption | omega) | (apply spec_AddRange <;> first | assumption | omega) | (apply spec_ByteAt <;> first | assumption | omega) | (apply spec_l2Byte <;> first | assumption | omega)) ?_; simp only [go_sem, hws, hbl])
                    | (refine CallK.intro (by first | assumption | (apply spec_IsBuffer <;> first | assumption | omega) | (apply spec_l6Copy <;> first | assumption | omega) | (apply spec_BufferRanges <;> first | assumption | omega) | (apply spec_AddRange <;> first | assumption | omega) | (apply spec_ByteAt <;> first | assumption | omega) | (apply spec_l2Byte <;> first | assumption | omega)) ?_; simp only [go_sem, hws, hbl])
                    | (with_reducible refine gTrueS ?_; simp only [go_sem, hws, hbl]) | (with_reducible refine gFalseS ?_; simp only [go_sem, hws, hbl]) | (with_reducible refine gTrue ?_; simp only [go_sem, hws, hbl]) | (with_reducible refine gFalse ?_; simp only [go_sem, hws, hbl])
                    | (refine gSymS ?_; simp only [go_sem, hws, hbl]) | (refine gSym ?_; simp only [go_sem, hws, hbl])
                    | (refine drawE_intro [[.post, .post, .un, .un, .un, .un, .un, .un, .un, .un, .post, .post, .post], [.pre, .post, .un, .un, .un, .un, .un, .un, .un, .un, .post, .post, .post], [.un, .un, .post, .un, .post, .post, .post, .un, .post, .post, .post, .post, .post], [.un, .un, .un, .post, .post, .post, .post, .un, .post, .post, .post, .post, .post], [.un, .un, .pre, .pre, .post, .post, .post, .un, .post, .post, .post, .post, .post], [.un, .un, .pre, .pre, .pre, .post, .post, .un, .post, .post, .post, .post, .post], [.un, .un, .pre, .pre, .pre, .pre, .post, .un, .post, .post, .post, .post, .post], [.un, .un, .un, .un, .un, .un, .un, .post, .post, .post, .post, .post, .post], [.un, .un, .pre, .pre, .pre, .pre, .pre, .pre, .post, .post, .post, .post, .post], [.un, .un, .pre, .pre, .pre, .pre, .pre, .pre, .pre, .post, .post, .post, .post], [.pre, .pre, .pre, .pre, .pre, .pre, .pre, .pre, .pre, .pre, .post, .post, .post], [.pre, .pre, .pre, .pre, .pre, .pre, .pre, .pre, .pre, .pre, .pre, .post, .post], [.pre, .pre, .pre, .pre, .pre, .pre, .pre, .pre, .pre, .pre, .pre, .pre, .post]] (by kernel_rfl) (by rfl) ?_; simp only [go_sem, hws, hbl])
                    | (refine cSplit (fun h => ?_) (fun h => ?_) <;> simp only [go_sem, hws, hbl])
                    | (with_reducible refine And.intro ?_ ?_; (focus (first | omega | (exact ⟨by omega, by omega⟩) | (simp; done) | (simp; omega)))))
                  all_goals (
                    refine ⟨by simp only [maxLen]; omega, ?_⟩
                    refine RoundE.intro (k + 1) [0, 1, 2, 3, 4] (by omega) (by omega) ?_
                    simp only [go_sem, hsc]
                    try simp)
                · have h4' := of_decide_eq_false h4
                  have hv : byteAt xs (R[i + 1].low + (k : Int)) = valS xs off data (R[i + 1].low + (k : Int)) := by unfold valS; rw [if_neg h4']
                  simp only [go_sem, hv]
                  refine CallS.intro (spec_l2Byte_one _ (valS_in xs off data _)) ?_
                  try simp only [go_sem, hws, hbl]
                  repeat' (first
                    | (refine CallS.intro (by first | assumption | (apply spec_IsBuffer <;> first | assumption | omega) | (apply spec_l6Copy <;> first | assumption | omega) | (apply spec_BufferRanges <;> first | assumption | omega) | (apply spec_AddRange <;> first | assumption | omega) | (apply spec_ByteAt <;> first | assumption | omega) | (apply spec_l2Byte <;> first | assumption | omega)) ?_; simp only [go_sem, hws, hbl])
                    | (refine CallK.intro (by first | assumption | (apply spec_IsBuffer <;> first | assumption | omega) | (apply spec_l6Copy <;> first | assumption | omega) | (apply spec_BufferRanges <;> first | assumption | omega) | (apply spec_AddRange <;> first | assumption | omega) | (apply spec_ByteAt <;> first | assumption | omega) | (apply spec_l2Byte <;> first | assumption | omega)) ?_; simp only [go_sem, hws, hbl])
                    | (with_reducible refine gTrueS ?_; simp only [go_sem, hws, hbl]) | (with_reducible refine gFalseS ?_; simp only [go_sem, hws, hbl]) | (with_reducible refine gTrue ?_; simp only [go_sem, hws, hbl]) | (with_reducible refine gFalse ?_; simp only [go_sem, hws, hbl])
                    | (refine gSymS ?_; simp only [go_sem, hws, hbl]) | (refine gSym ?_; simp only [go_sem, hws, hbl])
                    | (refine drawE_intro [[.post, .post, .un, .un, .un, .un, .un, .un, .un, .un, .post, .post, .post], [.pre, .post, .un, .un, .un, .un, .un, .un, .un, .un, .post, .post, .post], [.un, .un, .post, .un, .post, .post, .post, .un, .post, .post, .post, .post, .post], [.un, .un, .un, .post, .post, .post, .post, .un, .post, .post, .post, .post, .post], [.un, .un, .pre, .pre, .post, .post, .post, .un, .post, .post, .post, .post, .post], [.un, .un, .pre, .pre, .pre, .post, .post, .un, .post, .post, .post, .post, .post], [.un, .un, .pre, .pre, .pre, .pre, .post, .un, .post, .post, .post, .post, .post], [.un, .un, .un, .un, .un, .un, .un, .post, .post, .post, .post, .post, .post], [.un, .un, .pre, .pre, .pre, .pre, .pre, .pre, .post, .post, .post, .post, .post], [.un, .un, .pre, .pre, .pre, .pre, .pre, .pre, .pre, .post, .post, .post, .post], [.pre, .pre, .pre, .pre, .pre, .pre, .pre, .pre, .pre, .pre, .post, .post, .post], [.pre, .pre, .pre, .pre, .pre, .pre, .pre, .pre, .pre, .pre, .pre, .post, .post], [.pre, .pre, .pre, .pre, .pre, .pre, .pre, .pre, .pre, .pre, .pre, .pre, .post]] (by kernel_rfl) (by rfl) ?_; simp only [go_sem, hws, hbl])
                    | (refine cSplit (fun h => ?_) (fun h => ?_) <;> simp only [go_sem, hws, hbl])
                    | (with_reducible refine And.intro ?_ ?_; (focus (first | omega | (exact ⟨by omega, by omega⟩) | (simp; done) | (simp; omega)))))
                  all_goals (
                    refine ⟨by simp only [maxLen]; omega, ?_⟩
                    refine RoundE.intro (k + 1) [0, 1, 2, 3, 4] (by omega) (by omega) ?_
                    simp only [go_sem, hsc]
                    try simp)
              · have h3' := of_decide_eq_false h3
                have hke : k = k0 := by omega
                have hch : chS xs off data R[i + 1] = ⟨R[i + 1].low, bytS xs off data R[i + 1].low k⟩ := by unfold chS; rw [hk0, hke]
                have hst : ((R.take ((i + 1) + 1)).map (chS xs off data)).map TChunk.enc = ((R.take (i + 1)).map (chS xs off data)).map TChunk.enc ++ [[.int .i64 R[i + 1].low, .str (bytS xs off data R[i + 1].low k)]] := by
                  rw [List.take_add_one, List.getElem?_eq_getElem hlt, Option.toList_some, List.map_append, List.map_append, List.map_singleton, List.map_singleton, hch]; rfl
                try simp only [go_sem, List.length_map, hwi]
                repeat' (first
                  | (refine CallS.intro (by first | assumption | (apply spec_IsBuffer <;> first | assumption | omega) | (apply spec_l6Copy <;> first | assumption | omega) | (apply spec_BufferRanges <;> first | assumption | omega) | (apply spec_AddRange <;> first | assumption | omega) | (apply spec_ByteAt <;> first | assumption | omega) | (apply spec_l2Byte <;> first | assumption | omega)) ?_; simp only [go_sem, List.length_map, Int.toNat_natCast, Int.toNat_zero, hri, TRange.enc, hwi])
                  | (refine CallK.intro (by first | assumption | (apply spec_IsBuffer <;> first | assumption | omega) | (apply spec_l6Copy <;> first | assumption | omega) | (apply spec_BufferRanges <;> first | assumption | omega) | (apply spec_AddRange <;> first | assumption | omega) | (apply spec_ByteAt <;> first | assumption | omega) | (apply spec_l2Byte <;> first | assumption | omega)) ?_; simp only [go_sem, List.length_map, Int.toNat_natCast, Int.toNat_zero, hri, TRange.enc, hwi])
                  | (with_reducible refine gTrueS ?_; simp only [go_sem, List.length_map, Int.toNat_natCast, Int.toNat_zero, hri, TRange.enc, hwi]) | (with_reducible refine gFalseS ?_; simp only [go_sem, List.length_map, Int.toNat_natCast, Int.toNat_zero, hri, TRange.enc, hwi]) | (with_reducible refine gTrue ?_; simp only [go_sem, List.length_map, Int.toNat_natCast, Int.toNat_zero, hri, TRange.enc, hwi]) | (with_reducible refine gFalse ?_; simp only [go_sem, List.length_map, Int.toNat_natCast, Int.toNat_zero, hri, TRange.enc, hwi])
                  | (refine gSymS ?_; simp only [go_sem, List.length_map, Int.toNat_natCast, Int.toNat_zero, hri, TRange.enc, hwi]) | (refine gSym ?_; simp only [go_sem, List.length_map, Int.toNat_natCast, Int.toNat_zero, hri, TRange.enc, hwi])
                  | (refine drawE_intro [[.post, .post, .un, .un, .un, .un, .un, .un, .un, .un, .post, .post, .post], [.pre, .post, .un, .un, .un, .un, .un, .un, .un, .un, .post, .post, .post], [.un, .un, .post, .un, .post, .post, .post, .un, .post, .post, .post, .post, .post], [.un, .un, .un, .post, .post, .post, .post, .un, .post, .post, .post, .post, .post], [.un, .un, .pre, .pre, .post, .post, .post, .un, .post, .post, .post, .post, .post], [.un, .un, .pre, .pre, .pre, .post, .post, .un, .post, .post, .post, .post, .post], [.un, .un, .pre, .pre, .pre, .pre, .post, .un, .post, .post, .post, .post, .post], [.un, .un, .un, .un, .un, .un, .un, .post, .post, .post, .post, .post, .post], [.un, .un, .pre, .pre, .pre, .pre, .pre, .pre, .post, .post, .post, .post, .post], [.un, .un, .pre, .pre, .pre, .pre, .pre, .pre, .pre, .post, .post, .post, .post], [.pre, .pre, .pre, .pre, .pre, .pre, .pre, .pre, .pre, .pre, .post, .post, .post], [.pre, .pre, .pre, .pre, .pre, .pre, .pre, .pre, .pre, .pre, .pre, .post, .post], [.pre, .pre, .pre, .pre, .pre, .pre, .pre, .pre, .pre, .pre, .pre, .pre, .post]] (by kernel_rfl) (by rfl) ?_; simp only [go_sem, List.length_map, Int.toNat_natCast, hri, TRange.enc, hwi])
                  | (refine cSplit (fun h => ?_) (fun h => ?_) <;> simp only [go_sem, List.length_map, Int.toNat_natCast, Int.toNat_zero, hri, TRange.enc, hwi])
                  | (with_reducible refine And.intro ?_ ?_; (focus (first | omega | (exact ⟨by omega, by omega⟩) | (simp; done) | (simp; omega)))))
                all_goals (
                  refine RoundE.intro (i + 1 + 1) [0, 1, 2, 3, 6] (by omega) (by omega) ?_
                  simp only [go_sem, hst]
                  simp [List.take_of_length_le]
                  try first | decide | omega)
          · have h1' := of_decide_eq_false h1
            try simp only [go_sem]
            repeat' (first
              | (refine CallS.intro (by first | assumption | (apply spec_IsBuffer <;> first | assumption | omega) | (apply spec_l6Copy <;> first | assumption | omega) | (apply spec_BufferRanges <;> first | assumption | omega) | (apply spec_AddRange <;> first | assumption | omega) | (apply spec_ByteAt <;> first | assumption | omega) | (apply spec_l2Byte <;> first | assumption | omega)) ?_; simp only [go_sem])
              | (refine CallK.intro (by first | assumption | (apply spec_IsBuffer <;> first | assumption | omega) | (apply spec_l6Copy <;> first | assumption | omega) | (apply spec_BufferRanges <;> first | assumption | omega) | (apply spec_AddRange <;> first | assumption | omega) | (apply spec_ByteAt <;> first | assumption | omega) | (apply spec_l2Byte <;> first | assumption | omega)) ?_; simp only [go_sem])
              | (with_reducible refine gTrueS ?_; simp only [go_sem]) | (with_reducible refine gFalseS ?_; simp only [go_sem]) | (with_reducible refine gTrue ?_; simp only [go_sem]) | (with_reducible refine gFalse ?_; simp only [go_sem])
              | (refine gSymS ?_; simp only [go_sem]) | (refine gSym ?_; simp only [go_sem])
              | (refine drawE_intro [[.post, .post, .un, .un, .un, .un, .un, .un, .un, .un, .post, .post, .post], [.pre, .post, .un, .un, .un, .un, .un, .un, .un, .un, .post, .post, .post], [.un, .un, .post, .un, .post, .post, .post, .un, .post, .post, .post, .post, .post], [.un, .un, .un, .post, .post, .post, .post, .un, .post, .post, .post, .post, .post], [.un, .un, .pre, .pre, .post, .post, .post, .un, .post, .post, .post, .post, .post], [.un, .un, .pre, .pre, .pre, .post, .post, .un, .post, .post, .post, .post, .post], [.un, .un, .pre, .pre, .pre, .pre, .post, .un, .post, .post, .post, .post, .post], [.un, .un, .un, .un, .un, .un, .un, .post, .post, .post, .post, .post, .post], [.un, .un, .pre, .pre, .pre, .pre, .pre, .pre, .post, .post, .post, .post, .post], [.un, .un, .pre, .pre, .pre, .pre, .pre, .pre, .pre, .post, .post, .post, .post], [.pre, .pre, .pre, .pre, .pre, .pre, .pre, .pre, .pre, .pre, .post, .post, .post], [.pre, .pre, .pre, .pre, .pre, .pre, .pre, .pre, .pre, .pre, .pre, .post, .post], [.pre, .pre, .pre, .pre, .pre, .pre, .pre, .pre, .pre, .pre, .pre, .pre, .post]] (by kernel_rfl) (by rfl) ?_; simp only [go_sem])
              | (refine cSplit (fun h => ?_) (fun h => ?_) <;> simp only [go_sem])
              | (with_reducible refine And.intro ?_ ?_; (focus (first | omega | (exact ⟨by omega, by omega⟩) | (simp; done) | (simp; omega)))))
            all_goals (have hR0 : R.length = i + 1 := (by omega); rw [List.take_of_length_le (Nat.le_of_eq hR0), hX]; try simp [outOA, hR0, List.take_of_length_le])
end Gv
