/-
  A buffer and its cells: plain laws.
-/
import Derived.Test.YtiaaipckeinbiaaIns
import Derived.Test.YtiaaipckeinbiaaInsS
import Derived.Test.YtiaaipckeinbiaaCellsOf
import Derived.Test.YtiaaipckeinbiaaKnowLaw
import Derived.Test.YtiaaipckeinbiaaBufTake
import Derived.Test.YtiaaipckeinbiaaCurN
namespace Gv
open Go Go.Proofs

structure CI (E n : Int) (xs : List TChunk) (k : Nat) : Prop where
  bf : isBuf ⟨n, xs⟩ = true
  en : ∀ c ∈ xs, c.offset + (c.data.length : Int) ≤ E
  ne : n ≤ E
  le : xs.length ≤ k
theorem insX_law {E n : Int} {xs : List TChunk} {k : Nat} {off : Int} {data : List UInt8} (h : CI E n xs k) (ho : 0 ≤ off) (hoE : off + (data.length : Int) ≤ E) (hE : E ≤ 1048576) :
    CI E n (insX n xs off data) (k + 1) ∧ ∀ o, byteAt (insX n xs off data) o = if byteAt xs o = -1 then (if lowI n off ≤ o ∧ o < off + (data.length : Int) then byteD off data o else -1) else byteAt xs o := by
  obtain ⟨hn0, hn1, hck⟩ := isBuf_n h.bf
  unfold insX
  split
  · rename_i hc
    obtain ⟨p1, p2, p3, p4⟩ := partL_law ho hn0 hck hc.2 h.en hoE
    have hJ := joinL_JP hn0 (by omega) p1
    refine ⟨⟨?_, hJ.en, h.ne, by have := h.le; omega⟩, fun o => by rw [hJ.by' o, p2 o]; rfl⟩
    simp only [isBuf, Bool.and_eq_true, inB, decide_eq_true_eq]
    exact ⟨⟨hn0, hn1⟩, hJ.ck⟩
  · rename_i hc
    refine ⟨⟨h.bf, h.en, h.ne, by have := h.le; omega⟩, fun o => ?_⟩
    by_cases g : byteAt xs o = -1
    · rw [if_pos g, if_neg, g]
      intro g2
      refine hc ⟨fun e => ?_, by omega⟩
      have : off ≤ lowI n off := by unfold lowI; split <;> omega
      rw [e] at g2; simp only [List.length_nil] at g2; omega
    · rw [if_neg g]
theorem cellsOf_get (n : Int) (xs : List TChunk) (j : Nat) (hj : j < 64) : (cellsOf ⟨n, xs⟩).bytes[j]?.getD 0 = byteAt xs (j : Nat) := by
  simp [cellsOf, hj]
theorem cellsOf_is {E n : Int} {xs : List TChunk} {k : Nat} (h : CI E n xs k) (hE : E ≤ 64) : isCells (cellsOf ⟨n, xs⟩).bytes n = true := by
  obtain ⟨hn0, hn1, hck⟩ := isBuf_n h.bf
  refine isCells_of (by simp [cellsOf]) ⟨hn0, by have := h.ne; omega⟩ fun j hj => ?_
  rw [cellsOf_get n xs j hj]
  have h1 := byteAt_ge (j : Nat) xs
  have h2 := byteAt_lt (j : Nat) xs
  by_cases g : (j : Int) < n
  · rw [byteAt_low xs n j hck g]; simp [okB, inB]
  · have g2 : decide ((j : Int) < n) = false := decide_eq_false g
    simp only [okB, inB, g2, Bool.false_and, Bool.not_false, Bool.and_true, Bool.and_eq_true, decide_eq_true_eq]; omega
theorem put_ins {E n : Int} {xs : List TChunk} {k : Nat} {off : Int} {data : List UInt8} (h : CI E n xs k) (ho : 0 ≤ off) (hoE : off + (data.length : Int) ≤ E) (hE : E ≤ 64) :
    putCells (cellsOf ⟨n, xs⟩) off data = cellsOf ⟨n, insX n xs off data⟩ := by
  obtain ⟨hC, hB⟩ := insX_law h ho hoE (by omega)
  have hI := cellsOf_is h hE
  obtain ⟨o, rfl⟩ := Int.eq_ofNat_of_zero_le ho
  have hl : (cellsOf ⟨n, xs⟩).bytes.length = 64 := by simp [cellsOf]
  have hput : putCells (cellsOf ⟨n, xs⟩) o data = ⟨pcS (cellsOf ⟨n, xs⟩).bytes n o data data.length, n⟩ := by
    have hok : putOk (cellsOf ⟨n, xs⟩).bytes n o data = true := by
      simp only [putOk, hI, Bool.true_and, Bool.and_eq_true, decide_eq_true_eq]; omega
    show (⟨putC (cellsOf ⟨n, xs⟩).bytes n o data, n⟩ : TCells) = _
    unfold putC
    rw [if_pos hok]; rfl
  rw [hput]
  have hby : pcS (cellsOf ⟨n, xs⟩).bytes n o data data.length = (cellsOf ⟨n, insX n xs o data⟩).bytes := by
    refine List.ext_getElem (by rw [pcS_len, hl]; simp [cellsOf]) fun j hj hj2 => ?_
    rw [pcS_len, hl] at hj
    have e1 := pcS_get (cellsOf ⟨n, xs⟩).bytes n o data j data.length (Nat.le_refl _) (by omega) (by omega)
    have e2 := cellsOf_get n (insX n xs o data) j hj
    rw [List.getElem?_eq_getElem (by rw [pcS_len]; omega), Option.getD_some] at e1
    rw [List.getElem?_eq_getElem hj2, Option.getD_some] at e2
    rw [e1, e2, hB, cellsOf_get n xs j hj]
    by_cases g : byteAt xs (j : Nat) = -1
    · rw [if_pos g]
      by_cases g2 : lowI n o ≤ (j : Int) ∧ (j : Int) < o + (data.length : Int)
      · have : n ≤ (j : Int) ∧ (o : Int) ≤ j := by unfold lowI at g2; split at g2 <;> omega
        rw [if_pos g2, if_pos ⟨by omega, by omega, this.1, g⟩]
        unfold byteD
        rw [show ((j : Int) - (o : Int)).toNat = j - o from by omega]
      · rw [if_neg g2, if_neg, g]
        intro g3
        refine g2 ⟨?_, by omega⟩
        unfold lowI; split <;> omega
    · rw [if_neg g, if_neg fun g3 => g g3.2.2.2]
  rw [hby]; rfl
theorem endOf_le {E n : Int} {xs : List TChunk} {k : Nat} (h : CI E n xs k) : endOf ⟨n, xs⟩ ≤ E := by
  unfold endOf
  rw [if_pos h.bf]
  split
  · rename_i c hc; exact h.en c (List.mem_of_getLast? hc)
  · exact h.ne
theorem cOf_CI {E n : Int} {xs : List TChunk} {k : Nat} (h : CI E n xs k) (hE : E ≤ 64) : cOfOk ⟨n, xs⟩ = true ∧ cOf ⟨n, xs⟩ = cellsOf ⟨n, xs⟩ := by
  have : cOfOk ⟨n, xs⟩ = true := by
    simp only [cOfOk, Bool.and_eq_true, decide_eq_true_eq]; exact ⟨h.bf, by have := endOf_le h; omega⟩
  exact ⟨this, by unfold cOf; rw [if_pos this]⟩
theorem known_CI {E n : Int} {xs : List TChunk} {k : Nat} (h : CI E n xs k) (hE : E ≤ 64) : knownR (cellsOf ⟨n, xs⟩) = rngsB n xs := by
  obtain ⟨hn0, hn1, hck⟩ := isBuf_n h.bf
  have hI := cellsOf_is h hE
  have hl : (cellsOf ⟨n, xs⟩).bytes.length = 64 := by simp [cellsOf]
  unfold knownR rngsB
  rw [if_pos h.bf, show (cellsOf ⟨n, xs⟩).read = n from rfl, if_pos hI, hl]
  rw [kr_clip xs n hn0 hck _ (fun j hj => cellsOf_get n xs j (by omega)) (by omega) 64 (by omega)]
  exact clip_all xs n 64 hck fun c hc => by have := h.en c hc; omega
end Gv

/-
  Taking from a buffer is reading its cells: plain laws.
-/
namespace Gv
open Go Go.Proofs

theorem rcK_eq (xs : List Int) (r : Nat) (most : Int) (L : Nat) : ∀ f k, k ≤ L → L ≤ k + f → (∀ j, k ≤ j → j < L → rcC xs r most j = true) → (L = k + f ∨ rcC xs r most L = false) → rcK xs r most f k = L
  | 0, k, h1, h2, _, _ => by simp only [rcK]; omega
  | f + 1, k, h1, h2, h3, h4 => by
    by_cases g : k = L
    · subst g
      rcases h4 with h4 | h4
      · omega
      · exact rcK_stop xs r most _ _ h4
    · rw [rcK, if_pos (h3 k (Nat.le_refl _) (by omega))]
      exact rcK_eq xs r most L f (k + 1) (by omega) (by omega) (fun j a b => h3 j (by omega) b) (by rcases h4 with h4 | h4; exact .inl (by omega); exact .inr h4)
theorem rcS_get (xs : List Int) (r j : Nat) (hj : j < xs.length) : ∀ k, (rcS xs r k)[j]?.getD 0 = if r ≤ j ∧ j < r + k then -1 else xs[j]?.getD 0
  | 0 => by rw [rcS, if_neg (by omega)]
  | k + 1 => by
    have ih := rcS_get xs r j hj k
    have hl := rcS_len xs r k
    rw [rcS]
    by_cases g : j = r + k
    · subst g
      rw [List.getElem?_set_self (by omega), if_pos (by omega)]; rfl
    · rw [List.getElem?_set_ne (by omega), ih]
      by_cases g2 : r ≤ j ∧ j < r + k
      · rw [if_pos g2, if_pos (by omega)]
      · rw [if_neg g2, if_neg (by omega)]
theorem byI_toNat (b : UInt8) : byI ((b.toNat : Nat) : Int) = b := by
  unfold byI; simp

/-- What a take leaves: its bytes, and that it is a buffer again. -/
theorem tk_law {E n : Int} {xs : List TChunk} {k : Nat} (h : CI E n xs k) (most : Int) :
    CI E (n + tkN n xs most) (tkX n xs most) k ∧ (∀ o, byteAt (tkX n xs most) o = if n ≤ o ∧ o < n + tkN n xs most then -1 else byteAt xs o) ∧
    (∀ j : Nat, j < tkN n xs most → (tkD xs)[j]? = some ((tkD xs)[j]?.getD 0) ∧ byteAt xs (n + (j : Nat)) = ((((tkD xs)[j]?).getD 0).toNat : Nat)) ∧
    (tkN n xs most = most.toNat ∨ byteAt xs (n + tkN n xs most) = -1) := by
  obtain ⟨hn0, hn1, hck⟩ := isBuf_n h.bf
  cases hL : tkN n xs most with
  | zero =>
    have hX : tkX n xs most = xs := by unfold tkX; rw [if_pos hL]
    rw [hX]
    refine ⟨by simpa using h, fun o => by rw [if_neg (by omega)], fun j hj => by omega, ?_⟩
    by_cases g : most.toNat = 0
    · left; omega
    · right
      have hr : readB n xs = 0 := by unfold tkN at hL; omega
      unfold readB at hr
      rw [if_pos h.bf] at hr
      cases xs with
      | nil => rfl
      | cons c cs =>
        obtain ⟨h1, h2, h3, h4⟩ := chk_cons hck
        have hne : c.offset ≠ n := by
          intro e
          simp only [readyB, e, if_true] at hr
          exact h1 (List.length_eq_zero_iff.1 hr)
        refine byteAt_low _ c.offset _ (by simp only [chk, Bool.and_eq_true, decide_eq_true_eq]; exact ⟨⟨⟨h1, Int.le_refl _⟩, h3⟩, h4⟩) (by omega)
  | succ l =>
    have hr : readB n xs ≠ 0 := by unfold tkN at hL; omega
    obtain ⟨_, hlt, ho, hrl, htd⟩ := readB_pos hr
    have hkl : l + 1 ≤ xs[0].data.length := by unfold tkN at hL; omega
    cases xs with
    | nil => simp at hlt
    | cons c cs =>
      simp only [List.getElem_cons_zero] at ho hrl htd hkl
      obtain ⟨h1, h2, h3, h4⟩ := chk_cons hck
      have hce := h.en c (by simp)
      have hX : tkX n (c :: cs) most = if l + 1 = c.data.length then cs else ⟨n + ((l + 1 : Nat) : Int), c.data.drop (l + 1)⟩ :: cs := by
        unfold tkX; rw [hL, htd, if_neg (by omega)]; rfl
      have hcs : ∀ o, o ≤ c.offset + (c.data.length : Int) → byteAt cs o = -1 := fun o ho2 => byteAt_low cs _ o h4 (by omega)
      refine ⟨?_, fun o => ?_, fun j hj => ?_, ?_⟩
      · rw [hX]
        by_cases g : l + 1 = c.data.length
        · rw [if_pos g]
          refine ⟨?_, fun d hd => h.en d (by simp [hd]), by omega, by have := h.le; simp only [List.length_cons] at this; omega⟩
          simp only [isBuf, Bool.and_eq_true, inB, decide_eq_true_eq]
          exact ⟨⟨by omega, by omega⟩, chk_mono _ _ _ h4 (by omega)⟩
        · rw [if_neg g]
          have hdl : ((c.data.drop (l + 1)).length : Int) = c.data.length - (l + 1 : Nat) := by simp only [List.length_drop]; omega
          refine ⟨?_, fun d hd => ?_, by omega, by have := h.le; simpa using this⟩
          · simp only [isBuf, chk, Bool.and_eq_true, inB, decide_eq_true_eq]
            refine ⟨⟨by omega, by omega⟩, ⟨⟨fun e => by rw [e] at hdl; simp only [List.length_nil] at hdl; omega, Int.le_refl _⟩, by omega⟩, chk_mono _ _ _ h4 (by omega)⟩
          · rcases List.mem_cons.1 hd with rfl | hd
            · show n + ((l + 1 : Nat) : Int) + ((c.data.drop (l + 1)).length : Int) ≤ E; omega
            · exact h.en d (by simp [hd])
      · have hc0 : byteAt (c :: cs) o = if hitB o c = true then ((((c.data[(o - c.offset).toNat]?).getD 0).toNat : Nat) : Int) else byteAt cs o := rfl
        by_cases g0 : n ≤ o ∧ o < n + ((l + 1 : Nat) : Int)
        · rw [if_pos g0, hX]
          split
          · exact hcs o (by omega)
          · rw [byteAt, if_neg (fun g => by have := (hitB_iff _ _).1 g; simp only at this; omega)]
            exact hcs o (by omega)
        · rw [if_neg g0, hX, hc0]
          split
          · rename_i g
            rw [if_neg (fun g2 => by have := (hitB_iff _ _).1 g2; omega)]
          · rename_i g
            rw [byteAt]
            have hdl : ((c.data.drop (l + 1)).length : Int) = c.data.length - (l + 1 : Nat) := by simp only [List.length_drop]; omega
            by_cases g2 : hitB o c = true
            · have k1 := (hitB_iff _ _).1 g2
              rw [if_pos g2, if_pos ((hitB_iff _ _).2 ⟨by omega, by show 0 ≤ n + _; omega, by show n + _ ≤ o; omega, by show o - (n + ((l + 1 : Nat) : Int)) < ((c.data.drop (l + 1)).length : Int); omega⟩)]
              simp only [List.getElem?_drop]
              rw [show l + 1 + (o - (n + ((l + 1 : Nat) : Int))).toNat = (o - c.offset).toNat from by omega]
            · rw [if_neg g2, if_neg]
              intro g3
              have k1 := (hitB_iff _ _).1 g3
              simp only at k1
              exact g2 ((hitB_iff _ _).2 ⟨by omega, by omega, by omega, by omega⟩)
      · rw [htd]
        have hjl : j < c.data.length := by omega
        refine ⟨by rw [List.getElem?_eq_getElem hjl]; rfl, ?_⟩
        rw [byteAt, if_pos ((hitB_iff _ _).2 ⟨by omega, by omega, by omega, by omega⟩), show (n + (j : Int) - c.offset).toNat = j from by omega]
      · by_cases g : l + 1 = most.toNat
        · exact .inl g
        · right
          have hlen : l + 1 = c.data.length := by unfold tkN at hL; omega
          rw [byteAt, if_neg (fun g => by have := (hitB_iff _ _).1 g; omega)]
          exact hcs _ (by omega)
theorem take_read {E n : Int} {xs : List TChunk} {k : Nat} (h : CI E n xs k) (hE : E ≤ 64) (most : Int) :
    readS (cellsOf ⟨n, xs⟩) most = tkS n xs most ∧ readC (cellsOf ⟨n, xs⟩) most = cellsOf ⟨n + tkN n xs most, tkX n xs most⟩ := by
  obtain ⟨hn0, hn1, hck⟩ := isBuf_n h.bf
  obtain ⟨hC, hB, hS, hT⟩ := tk_law h most
  have hI := cellsOf_is h hE
  have hl : (cellsOf ⟨n, xs⟩).bytes.length = 64 := by simp [cellsOf]
  obtain ⟨r, rfl⟩ := Int.eq_ofNat_of_zero_le hn0
  have hne := hC.ne
  have hN : rcN (cellsOf ⟨r, xs⟩).bytes (r : Int) most = tkN r xs most := by
    unfold rcN
    rw [if_pos hI, Int.toNat_natCast]
    refine rcK_eq _ r most _ 64 0 (by omega) (by omega) (fun j _ hj => ?_) (.inr ?_)
    · obtain ⟨s1, s2⟩ := hS j hj
      have hm : (j : Int) < most := by unfold tkN at hj; omega
      have hg := cellsOf_get r xs (r + j) (by omega)
      rw [show (((r + j : Nat)) : Int) = (r : Int) + (j : Nat) from by omega, s2] at hg
      simp only [rcC, Bool.and_eq_true, decide_eq_true_eq]
      exact ⟨⟨by omega, by rw [hg]; omega⟩, hm⟩
    · simp only [rcC, Bool.and_eq_false_iff, decide_eq_false_iff_not]
      rcases hT with hT | hT
      · right; omega
      · by_cases g : r + tkN r xs most < 64
        · left; right
          have hg := cellsOf_get r xs (r + tkN r xs most) g
          rw [show (((r + tkN r xs most : Nat)) : Int) = (r : Int) + (tkN r xs most : Nat) from by omega, hT] at hg
          rw [hg]; simp
        · left; left; exact g
  have hrd : (cellsOf ⟨r, xs⟩).read = (r : Int) := rfl
  constructor
  · unfold readS
    rw [hrd, hN, Int.toNat_natCast]
    unfold rcI tkS
    refine List.ext_getElem? fun j => ?_
    rw [List.getElem?_map, List.getElem?_map, List.getElem?_take]
    by_cases g : j < tkN r xs most
    · obtain ⟨s1, s2⟩ := hS j g
      have hg := cellsOf_get r xs (r + j) (by omega)
      rw [show (((r + j : Nat)) : Int) = (r : Int) + (j : Nat) from by omega, s2] at hg
      rw [if_pos g, s1, List.getElem?_range g]
      simp only [Option.map_some, hg, byI_toNat]
    · rw [if_neg g, List.getElem?_eq_none (by simp; omega)]; rfl
  · unfold readC
    rw [hrd, hN, if_pos hI, Int.toNat_natCast]
    have hby : rcS (cellsOf ⟨r, xs⟩).bytes r (tkN r xs most) = (cellsOf ⟨(r : Int) + tkN r xs most, tkX r xs most⟩).bytes := by
      refine List.ext_getElem (by rw [rcS_len, hl]; simp [cellsOf]) fun j hj hj2 => ?_
      rw [rcS_len, hl] at hj
      have e1 := rcS_get (cellsOf ⟨r, xs⟩).bytes r j (by omega) (tkN r xs most)
      have e2 := cellsOf_get ((r : Int) + tkN r xs most) (tkX r xs most) j hj
      rw [List.getElem?_eq_getElem (by rw [rcS_len]; omega), Option.getD_some] at e1
      rw [List.getElem?_eq_getElem hj2, Option.getD_some] at e2
      rw [e1, e2, hB, cellsOf_get r xs j hj]
      by_cases g : r ≤ j ∧ j < r + tkN r xs most
      · rw [if_pos g, if_pos (by omega)]
      · rw [if_neg g, if_neg (by omega)]
    rw [hby]; rfl
end Gv

/-
  Drawn buffers keep their bounds: plain laws.
-/
namespace Gv
open Go Go.Proofs

def okC (c : TChunk) : Prop := 0 ≤ c.offset ∧ c.offset ≤ 1000 ∧ c.offset + (c.data.length : Int) ≤ 1000
theorem insS_ok {n : Int} {xs : List TChunk} {off : Int} {data : List UInt8} (h : ∀ c ∈ xs, okC c) (ho : 0 ≤ off) (ho2 : off + (data.length : Int) ≤ 1000) : ∀ c ∈ insS n xs off data, okC c := by
  unfold insS
  split
  · rename_i hk
    intro c hc
    obtain ⟨r, hr, rfl⟩ := List.mem_map.1 hc
    simp only [insOk, Bool.and_eq_true, decide_eq_true_eq] at hk
    have hlo : 0 ≤ lowS n off := by unfold lowS; split <;> omega
    have hin := addR_in 1000 (rngB xs) ⟨lowS n off, off + data.length⟩ ⟨hlo, by show lowS n off ≤ 1000; omega, ho2⟩ (fun x hx => by
      obtain ⟨d, hd, rfl⟩ := List.mem_map.1 hx
      exact h d hd) r hr
    simp only [inR] at hin
    refine ⟨hin.1, hin.2.1, ?_⟩
    show r.low + ((bytS xs off data r.low (r.high - r.low).toNat).length : Int) ≤ 1000
    rw [bytS_len]; omega
  · exact h
theorem insS_len (n : Int) (xs : List TChunk) (off : Int) (data : List UInt8) : (insS n xs off data).length ≤ xs.length + 1 := by
  unfold insS
  split
  · rw [List.length_map]
    have := addR_len (rngB xs) ⟨lowS n off, off + data.length⟩
    rw [rngB_len] at this; exact this
  · omega
theorem tkX_ok {n : Int} {xs : List TChunk} {most : Int} (h : ∀ c ∈ xs, okC c) : ∀ c ∈ tkX n xs most, okC c := by
  unfold tkX
  split
  · exact h
  · rename_i h1
    split
    · exact fun c hc => h c (List.mem_of_mem_drop hc)
    · rename_i h2
      have hr : readB n xs ≠ 0 := by unfold tkN at h1; omega
      obtain ⟨_, hlt, ho, hrl, htd⟩ := readB_pos hr
      have hk : tkN n xs most ≤ xs[0].data.length := by unfold tkN; omega
      have hx := h xs[0] (List.getElem_mem hlt)
      intro c hc
      rcases List.mem_cons.1 hc with rfl | hc
      · simp only [okC] at hx ⊢
        rw [htd, List.length_drop]
        omega
      · exact h c (List.mem_of_mem_drop hc)
theorem tkX_len (n : Int) (xs : List TChunk) (most : Int) : (tkX n xs most).length ≤ xs.length := by
  unfold tkX
  split
  · omega
  · rename_i h1
    have hr : readB n xs ≠ 0 := by unfold tkN at h1; omega
    obtain ⟨_, hlt, _⟩ := readB_pos hr
    split
    · simp
    · simp; omega
end Gv

/-
  A number of the code.
-/
namespace Gv
open Go Go.Proofs

def atL (bs : List Int) (k : Nat) : Int := if k < bs.length then IntKind.i64.wrap (bs[k]?.getD 0) else ((k : Int) * 37 + (bs.length : Int) * 11).tmod 256
theorem atL_in {bs : List Int} {k : Nat} (h : ∀ x ∈ bs, 0 ≤ x ∧ x ≤ 255) : 0 ≤ atL bs k ∧ atL bs k ≤ 255 := by
  unfold atL
  split
  · rename_i g
    rw [List.getElem?_eq_getElem g, Option.getD_some]
    have := h bs[k] (List.getElem_mem g)
    rw [w64] <;> omega
  · have h1 := Int.tmod_nonneg 256 (show (0 : Int) ≤ (k : Int) * 37 + (bs.length : Int) * 11 by omega)
    have h2 := Int.tmod_lt_of_pos ((k : Int) * 37 + (bs.length : Int) * 11) (show (0 : Int) < 256 by omega)
    omega
set_option maxRecDepth 100000 in
theorem laws_at (bs : List Int) (k : Nat) (hk : k ≤ 100) (hb : bs.length ≤ 1048576) : PureCall Try.prog 6 [.one (.sl 1 (bs.map eU8)), .one (.int .i64 k)] [.one (.int .i64 (atL bs k))] := by
  refine pure_ev Try.func6 rfl Try.call6 Try.checked.mixed [.d (.sl 1 (bs.map eU8)), .d (.int .i64 k), .junk, .junk, .junk, .junk, .junk, .junk, .junk, .junk, .junk, .junk, .junk, .junk, .junk, .junk, .junk, .junk, .junk, .junk, .junk] rfl [.tmp 4] rfl ?_
  intro ok
  by_cases h : k < bs.length
  · have e1 : decide ((k : Int) < (bs.length : Int)) = true := decide_eq_true (by omega)
    have hxi := map_at eU8 bs k h
    have ha : atL bs k = IntKind.i64.wrap bs[k] := by unfold atL; rw [if_pos h, List.getElem?_eq_getElem h]; rfl
    try simp only [go_sem, List.length_map, e1, hxi, eU8, Int.toNat_natCast]
    repeat' (first
      | (with_reducible refine gTrueS ?_; simp only [go_sem, List.length_map, e1, hxi, eU8, Int.toNat_natCast]) | (with_reducible refine gFalseS ?_; simp only [go_sem, List.length_map, e1, hxi, eU8, Int.toNat_natCast]) | (with_reducible refine gTrue ?_; simp only [go_sem, List.length_map, e1, hxi, eU8, Int.toNat_natCast]) | (with_reducible refine gFalse ?_; simp only [go_sem, List.length_map, e1, hxi, eU8, Int.toNat_natCast])
      | (refine gSymS ?_; simp only [go_sem, List.length_map, e1, hxi, eU8, Int.toNat_natCast]) | (refine gSym ?_; simp only [go_sem, List.length_map, e1, hxi, eU8, Int.toNat_natCast])
      | (refine cSplit (fun h => ?_) (fun h => ?_) <;> simp only [go_sem, List.length_map, e1, hxi, eU8, Int.toNat_natCast])
      | (with_reducible refine And.intro ?_ ?_; (focus (first | omega | (exact ⟨by omega, by omega⟩) | (simp; done) | (simp; omega)))))
    all_goals simp [ha]
  · have e1 : decide ((k : Int) < (bs.length : Int)) = false := decide_eq_false (by omega)
    have w1 : IntKind.i64.wrap ((k : Int) * 37) = (k : Int) * 37 := by rw [w64] <;> omega
    have w2 : IntKind.i64.wrap ((bs.length : Int) * 11) = (bs.length : Int) * 11 := by rw [w64] <;> omega
    have w3 : IntKind.i64.wrap ((k : Int) * 37 + (bs.length : Int) * 11) = (k : Int) * 37 + (bs.length : Int) * 11 := by rw [w64] <;> omega
    have h1 := Int.tmod_nonneg 256 (show (0 : Int) ≤ (k : Int) * 37 + (bs.length : Int) * 11 by omega)
    have h2 := Int.tmod_lt_of_pos ((k : Int) * 37 + (bs.length : Int) * 11) (show (0 : Int) < 256 by omega)
    have w4 : IntKind.i64.wrap (((k : Int) * 37 + (bs.length : Int) * 11).tmod 256) = ((k : Int) * 37 + (bs.length : Int) * 11).tmod 256 := by rw [w64] <;> omega
    have ha : atL bs k = ((k : Int) * 37 + (bs.length : Int) * 11).tmod 256 := by unfold atL; rw [if_neg h]
    try simp only [go_sem, List.length_map, e1, w1, w2, w3]
    repeat' (first
      | (with_reducible refine gTrueS ?_; simp only [go_sem, List.length_map, e1, w1, w2, w3, w4]) | (with_reducible refine gFalseS ?_; simp only [go_sem, List.length_map, e1, w1, w2, w3, w4]) | (with_reducible refine gTrue ?_; simp only [go_sem, List.length_map, e1, w1, w2, w3, w4]) | (with_reducible refine gFalse ?_; simp only [go_sem, List.length_map, e1, w1, w2, w3, w4])
      | (refine gSymS ?_; simp only [go_sem, List.length_map, e1, w1, w2, w3, w4]) | (refine gSym ?_; simp only [go_sem, List.length_map, e1, w1, w2, w3, w4])
      | (refine cSplit (fun h => ?_) (fun h => ?_) <;> simp only [go_sem, List.length_map, e1, w1, w2, w3, w4])
      | (with_reducible refine And.intro ?_ ?_; (focus (first | omega | (exact ⟨by omega, by omega⟩) | (simp; done) | (simp; omega)))))
    all_goals simp [ha]
end Gv
