/-
  Chunks joined: plain laws.
-/
import Derived.Test.YtiaaipckeinbiaaBuf
namespace Gv
open Go Go.Proofs

def byteC (o : Int) (c : TChunk) : Int := if hitB o c = true then ((((c.data[(o - c.offset).toNat]?).getD 0).toNat : Nat) : Int) else -1
theorem byteC_ge (o : Int) (c : TChunk) : -1 ≤ byteC o c := by unfold byteC; split <;> omega
theorem byteAt_ge (o : Int) : ∀ cs, -1 ≤ byteAt cs o
  | [] => by simp [byteAt]
  | c :: cs => by rw [byteAt]; split <;> first | omega | exact byteAt_ge o cs
theorem byteC_hit {o : Int} {c : TChunk} (h : byteC o c ≠ -1) : 0 ≤ o ∧ 0 ≤ c.offset ∧ c.offset ≤ o ∧ o - c.offset < c.data.length := by
  unfold byteC at h
  by_cases g : hitB o c = true
  · exact (hitB_iff _ _).1 g
  · rw [if_neg g] at h; exact absurd rfl h
theorem byteC_no {o : Int} {c : TChunk} (h : ¬ (0 ≤ o ∧ 0 ≤ c.offset ∧ c.offset ≤ o ∧ o - c.offset < c.data.length)) : byteC o c = -1 := by
  unfold byteC; rw [if_neg (fun g => h ((hitB_iff _ _).1 g))]
theorem byteC_in {o : Int} {c : TChunk} (h : 0 ≤ o ∧ 0 ≤ c.offset ∧ c.offset ≤ o ∧ o - c.offset < c.data.length) : byteC o c = ((((c.data[(o - c.offset).toNat]?).getD 0).toNat : Nat) : Int) := by
  unfold byteC; rw [if_pos ((hitB_iff _ _).2 h)]
theorem byteAt_snoc (o : Int) (c : TChunk) : ∀ cs, byteAt (cs ++ [c]) o = if byteAt cs o = -1 then byteC o c else byteAt cs o
  | [] => by simp [byteAt, byteC]
  | d :: cs => by
    rw [List.cons_append, byteAt, byteAt]
    by_cases h : hitB o d = true
    · rw [if_pos h, if_pos h, if_neg (by omega)]
    · rw [if_neg h, if_neg h]; exact byteAt_snoc o c cs
theorem byteAt_above (o : Int) : ∀ cs : List TChunk, (∀ c ∈ cs, c.offset + (c.data.length : Int) ≤ o) → byteAt cs o = -1
  | [], _ => rfl
  | c :: cs, h => by
    have h1 := h c (by simp)
    rw [byteAt, if_neg (fun g => by have := (hitB_iff _ _).1 g; omega)]
    exact byteAt_above o cs fun d hd => h d (by simp [hd])
theorem chk_mono : ∀ (cs : List TChunk) (lo lo' : Int), chk lo cs = true → lo' ≤ lo → chk lo' cs = true
  | [], _, _, _, _ => rfl
  | c :: cs, lo, lo', h, hl => by
    obtain ⟨h1, h2, h3, h4⟩ := chk_cons h
    simp only [chk, Bool.and_eq_true, decide_eq_true_eq]
    exact ⟨⟨⟨h1, by omega⟩, h3⟩, h4⟩
theorem chk_snoc (c : TChunk) : ∀ (cs : List TChunk) (lo : Int), chk lo cs = true → (∀ d ∈ cs, d.offset + (d.data.length : Int) < c.offset) → lo ≤ c.offset → c.data ≠ [] → c.offset ≤ 4611686018427387903 - (c.data.length : Int) → chk lo (cs ++ [c]) = true
  | [], lo, _, _, h1, h2, h3 => by simp only [List.nil_append, chk, Bool.and_eq_true, decide_eq_true_eq, and_true]; exact ⟨⟨h2, h1⟩, h3⟩
  | d :: cs, lo, h, hd, h1, h2, h3 => by
    obtain ⟨k1, k2, k3, k4⟩ := chk_cons h
    have := hd d (by simp)
    simp only [List.cons_append, chk, Bool.and_eq_true, decide_eq_true_eq]
    exact ⟨⟨⟨k1, k2⟩, k3⟩, chk_snoc c cs _ k4 (fun e he => hd e (by simp [he])) (by omega) h2 h3⟩
theorem chk_grow (l : TChunk) (x : List UInt8) : ∀ (cs : List TChunk) (lo : Int), chk lo (cs ++ [l]) = true → l.offset ≤ 4611686018427387903 - ((l.data ++ x).length : Int) → chk lo (cs ++ [⟨l.offset, l.data ++ x⟩]) = true
  | [], lo, h, h1 => by
    obtain ⟨k1, k2, k3, k4⟩ := chk_cons h
    simp only [List.nil_append, chk, Bool.and_eq_true, decide_eq_true_eq, and_true]
    exact ⟨⟨by simp [k1], k2⟩, h1⟩
  | d :: cs, lo, h, h1 => by
    obtain ⟨k1, k2, k3, k4⟩ := chk_cons h
    simp only [List.cons_append, chk, Bool.and_eq_true, decide_eq_true_eq]
    exact ⟨⟨⟨k1, k2⟩, k3⟩, chk_grow l x cs _ k4 h1⟩

/-- One chunk joined to the end. -/
def joinS (out : List TChunk) (c : TChunk) : List TChunk :=
  match out.getLast? with
  | some l => if l.offset + l.data.length = c.offset then out.dropLast ++ [⟨l.offset, l.data ++ c.data⟩] else out ++ [c]
  | none => out ++ [c]
def joinL (xs : List TChunk) : List TChunk := xs.foldl joinS []
theorem joinL_step (xs : List TChunk) (i : Nat) (h : i < xs.length) : joinL (xs.take (i + 1)) = joinS (joinL (xs.take i)) xs[i] := by
  unfold joinL
  rw [List.take_add_one, List.getElem?_eq_getElem h, Option.toList_some, List.foldl_append]; rfl
theorem joinL_snoc (xs : List TChunk) (c : TChunk) : joinL (xs ++ [c]) = joinS (joinL xs) c := by
  unfold joinL; rw [List.foldl_append]; rfl
theorem last_split {out : List TChunk} {l : TChunk} (h : out.getLast? = some l) : out = out.dropLast ++ [l] := by
  obtain ⟨ys, e⟩ := List.getLast?_eq_some_iff.1 h
  rw [e]; simp
theorem joinS_none {out : List TChunk} {c : TChunk} (h : out.length = 0) : joinS out c = out ++ [c] := by
  rw [List.length_eq_zero_iff.1 h]; rfl
theorem joinS_len (out : List TChunk) (c : TChunk) : (joinS out c).length ≤ out.length + 1 := by
  unfold joinS
  split
  · split <;> simp
  · simp
/-- What holds of the joined chunks: canonical, all ends within e, the last end (if any) is e'. -/
structure JP (lo e : Int) (out : List TChunk) (f : Int → Int) : Prop where
  ck : chk lo out = true
  en : ∀ c ∈ out, c.offset + (c.data.length : Int) ≤ e
  by' : ∀ o, byteAt out o = f o
theorem JP.step {lo e : Int} {out : List TChunk} {f : Int → Int} (h : JP lo e out f) (c : TChunk) (h0 : 0 ≤ lo) (hl : lo ≤ c.offset) (he : e ≤ c.offset) (hd : c.data ≠ []) (hm : c.offset ≤ 4611686018427387903 - (c.data.length : Int)) :
    JP lo (c.offset + c.data.length) (joinS out c) (fun o => if f o = -1 then byteC o c else f o) := by
  unfold joinS
  split
  · rename_i l hl'
    have hs := last_split hl'
    have hlm : l ∈ out := List.mem_of_getLast? hl'
    have hle := h.en l hlm
    have hlc := chk_mem _ _ h.ck l hlm
    split
    · rename_i heq
      have hb : ∀ o, byteAt (out.dropLast ++ [⟨l.offset, l.data ++ c.data⟩]) o = byteAt (out ++ [c]) o := by
        intro o
        rw [byteAt_snoc, byteAt_snoc]
        conv => rhs; rw [hs]
        rw [byteAt_snoc]
        by_cases g : byteAt out.dropLast o = -1
        · simp only [if_pos g]
          by_cases g1 : byteC o l = -1
          · rw [if_pos g1]
            by_cases g2 : byteC o c = -1
            · rw [g2]
              refine byteC_no fun k => ?_
              simp only [List.length_append, Int.natCast_add] at k
              by_cases g3 : o - l.offset < l.data.length
              · rw [byteC_in (by omega)] at g1; omega
              · rw [byteC_in (by omega)] at g2; omega
            · have k := byteC_hit g2
              rw [byteC_in k, byteC_in (by simp only [List.length_append, Int.natCast_add]; omega)]
              simp only
              rw [List.getElem?_append_right (by omega)]
              have : (o - l.offset).toNat - l.data.length = (o - c.offset).toNat := by omega
              rw [this]
          · rw [if_neg g1]
            have k := byteC_hit g1
            rw [byteC_in k, byteC_in (by simp only [List.length_append, Int.natCast_add]; omega)]
            simp only
            rw [List.getElem?_append_left (by omega)]
        · simp only [if_neg g]
      refine ⟨?_, ?_, ?_⟩
      · refine chk_grow l c.data _ _ (hs ▸ h.ck) ?_
        simp only [List.length_append, Int.natCast_add]; omega
      · intro d hd2
        rcases List.mem_append.1 hd2 with hd2 | hd2
        · have := h.en d (List.dropLast_subset _ hd2); omega
        · rw [List.mem_singleton.1 hd2]; simp only [List.length_append, Int.natCast_add]; omega
      · intro o; rw [hb o, byteAt_snoc, h.by' o]
    · rename_i hne
      refine ⟨chk_snoc c out lo h.ck (fun d hd2 => ?_) hl hd hm, ?_, fun o => by rw [byteAt_snoc, h.by' o]⟩
      · have := chk_last _ _ _ h.ck hl' d hd2; omega
      · intro d hd2
        rcases List.mem_append.1 hd2 with hd2 | hd2
        · have := h.en d hd2; omega
        · rw [List.mem_singleton.1 hd2]; omega
  · rename_i hn
    have hnil : out = [] := List.getLast?_eq_none_iff.1 hn
    refine ⟨chk_snoc c out lo h.ck (fun d hd2 => by rw [hnil] at hd2; cases hd2) hl hd hm, ?_, fun o => by rw [byteAt_snoc, h.by' o]⟩
    intro d hd2
    rw [hnil] at hd2
    rw [List.mem_singleton.1 hd2]; omega

/-- In order, none empty, none over another; all within e. -/
def asc (e : Int) : Int → List TChunk → Bool
  | lo, [] => decide (lo ≤ e)
  | lo, c :: cs => decide (c.data ≠ []) && decide (lo ≤ c.offset) && asc e (c.offset + c.data.length) cs
theorem asc_cons {e lo : Int} {c : TChunk} {cs : List TChunk} (h : asc e lo (c :: cs) = true) : c.data ≠ [] ∧ lo ≤ c.offset ∧ asc e (c.offset + c.data.length) cs = true := by
  simp only [asc, Bool.and_eq_true, decide_eq_true_eq] at h; exact ⟨h.1.1, h.1.2, h.2⟩
theorem asc_le {e : Int} : ∀ {cs : List TChunk} {lo : Int}, asc e lo cs = true → lo ≤ e
  | [], lo, h => by simpa [asc] using h
  | c :: cs, lo, h => by obtain ⟨h1, h2, h3⟩ := asc_cons h; have := asc_le h3; omega
theorem JP.fold {lo : Int} (h0 : 0 ≤ lo) {e : Int} (he : e ≤ 4611686018427387903) : ∀ (cs : List TChunk) (out : List TChunk) (e0 : Int) (f : Int → Int), lo ≤ e0 → asc e e0 cs = true → JP lo e0 out f →
    JP lo e (cs.foldl joinS out) (fun o => if f o = -1 then byteAt cs o else f o)
  | [], out, e0, f, hl, ha, h => by
    refine ⟨h.ck, fun c hc => ?_, fun o => ?_⟩
    · have := h.en c hc; have := asc_le ha; omega
    · show byteAt out o = _; rw [h.by' o]; split
      · rename_i g; rw [g]; rfl
      · rfl
  | c :: cs, out, e0, f, hl, ha, h => by
    obtain ⟨h1, h2, h3⟩ := asc_cons ha
    have h4 := asc_le h3
    have h5 := JP.fold h0 he cs (joinS out c) _ _ (by omega) h3 (h.step c h0 (by omega) h2 h1 (by omega))
    refine ⟨h5.ck, h5.en, fun o => ?_⟩
    show byteAt (cs.foldl joinS (joinS out c)) o = _
    rw [h5.by' o]
    by_cases g : f o = -1
    · simp only [if_pos g, byteAt]
      by_cases g2 : hitB o c = true
      · rw [if_pos g2]; unfold byteC; rw [if_pos g2, if_neg (by omega)]
      · rw [if_neg g2]; unfold byteC; rw [if_neg g2, if_pos rfl]
    · simp only [if_neg g]
theorem joinL_JP {lo e : Int} {cs : List TChunk} (h0 : 0 ≤ lo) (he : e ≤ 4611686018427387903) (ha : asc e lo cs = true) : JP lo e (joinL cs) (byteAt cs) := by
  have := JP.fold h0 he cs [] lo (fun _ => -1) (Int.le_refl _) ha ⟨rfl, (fun c hc => by cases hc), fun _ => rfl⟩
  exact ⟨this.ck, this.en, fun o => by rw [show joinL cs = cs.foldl joinS [] from rfl, this.by' o, if_pos rfl]⟩
theorem asc_take {e : Int} : ∀ {cs : List TChunk} {lo : Int} (i : Nat), asc e lo cs = true → asc e lo (cs.take i) = true
  | [], lo, i, h => by simpa using h
  | c :: cs, lo, 0, h => by simpa [asc] using asc_le h
  | c :: cs, lo, i + 1, h => by
    obtain ⟨h1, h2, h3⟩ := asc_cons h
    simp only [List.take_succ_cons, asc, Bool.and_eq_true, decide_eq_true_eq]
    exact ⟨⟨h1, h2⟩, asc_take i h3⟩
theorem joinL_len (cs : List TChunk) : (joinL cs).length ≤ cs.length := by
  have : ∀ (cs out : List TChunk), (cs.foldl joinS out).length ≤ out.length + cs.length := by
    intro cs
    induction cs with
    | nil => intro out; simp
    | cons c cs ih => intro out; rw [List.foldl_cons]; have := ih (joinS out c); have := joinS_len out c; simp only [List.length_cons]; omega
  simpa [joinL] using this cs []
end Gv

/-
  The parts of a buffer with new data: plain laws.
-/
namespace Gv
open Go Go.Proofs

def byteD (off : Int) (data : List UInt8) (o : Int) : Int := (((data[(o - off).toNat]?).getD 0).toNat : Nat)
def pcOf (off : Int) (data : List UInt8) (low m : Int) : TChunk := ⟨low, (data.drop (low - off).toNat).take ((m - off).toNat - (low - off).toNat)⟩
def putP (off hi : Int) (data : List UInt8) (low lim : Int) (ps : List TChunk) : List TChunk :=
  if low < (if hi < lim then hi else lim) then ps ++ [pcOf off data low (if hi < lim then hi else lim)] else ps
def pSt (off hi : Int) (data : List UInt8) (s : Int × List TChunk) (c : TChunk) : Int × List TChunk :=
  (if c.offset + (c.data.length : Int) > s.1 then c.offset + (c.data.length : Int) else s.1, putP off hi data s.1 c.offset s.2 ++ [c])
theorem pcOf_len {off : Int} {data : List UInt8} {low m : Int} (h1 : off ≤ low) (h2 : low ≤ m) (h3 : m ≤ off + data.length) : ((pcOf off data low m).data.length : Int) = m - low := by
  simp only [pcOf, List.length_take, List.length_drop]; omega
theorem pcOf_byte {off : Int} {data : List UInt8} {low m : Int} (h0 : 0 ≤ off) (h1 : off ≤ low) (h2 : low ≤ m) (h3 : m ≤ off + data.length) (o : Int) : byteC o (pcOf off data low m) = if low ≤ o ∧ o < m then byteD off data o else -1 := by
  have hl := pcOf_len h1 h2 h3
  have ho : (pcOf off data low m).offset = low := rfl
  by_cases h : low ≤ o ∧ o < m
  · rw [if_pos h, byteC_in (by rw [hl, ho]; omega), ho]
    unfold byteD
    show (((((data.drop (low - off).toNat).take ((m - off).toNat - (low - off).toNat))[(o - low).toNat]?).getD 0).toNat : Int) = _
    rw [List.getElem?_take, if_pos (by omega), List.getElem?_drop]
    rw [show (low - off).toNat + (o - low).toNat = (o - off).toNat from by omega]
  · rw [if_neg h, byteC_no (by rw [hl, ho]; omega)]
theorem asc_snoc {e0 e : Int} (c : TChunk) : ∀ (ps : List TChunk) (lo : Int), asc e0 lo ps = true → e0 ≤ c.offset → c.data ≠ [] → c.offset + (c.data.length : Int) ≤ e → asc e lo (ps ++ [c]) = true
  | [], lo, h, h1, h2, h3 => by
    have := asc_le h
    simp only [List.nil_append, asc, Bool.and_eq_true, decide_eq_true_eq]; exact ⟨⟨h2, by omega⟩, h3⟩
  | d :: ps, lo, h, h1, h2, h3 => by
    obtain ⟨k1, k2, k3⟩ := asc_cons h
    simp only [List.cons_append, asc, Bool.and_eq_true, decide_eq_true_eq]
    exact ⟨⟨k1, k2⟩, asc_snoc c ps _ k3 h1 h2 h3⟩
theorem joinS_last (out : List TChunk) (c : TChunk) : ∃ l, (joinS out c).getLast? = some l ∧ l.offset + (l.data.length : Int) = c.offset + (c.data.length : Int) := by
  unfold joinS
  split
  · split
    · rename_i l hl h; exact ⟨⟨l.offset, l.data ++ c.data⟩, by simp, by simp only [List.length_append, Int.natCast_add]; omega⟩
    · exact ⟨c, by simp, rfl⟩
  · exact ⟨c, by simp, rfl⟩
theorem joinS_same {out : List TChunk} {c l : TChunk} (h : out.getLast? = some l) (h2 : l.offset + (l.data.length : Int) = c.offset) : (joinS out c).length = out.length := by
  unfold joinS; rw [h]; simp only [if_pos h2]
  have := congrArg List.length (last_split h)
  simp only [List.length_append, List.length_singleton] at this ⊢
  omega

theorem asc_up {e e' : Int} : ∀ (cs : List TChunk) (lo : Int), asc e lo cs = true → e ≤ e' → asc e' lo cs = true
  | [], lo, h, h2 => by simp only [asc, decide_eq_true_eq] at h ⊢; omega
  | c :: cs, lo, h, h2 => by
    obtain ⟨k1, k2, k3⟩ := asc_cons h
    simp only [asc, Bool.and_eq_true, decide_eq_true_eq]
    exact ⟨⟨k1, k2⟩, asc_up cs _ k3 h2⟩
structure PI (n off hi lo0 : Int) (data : List UInt8) (ys : List TChunk) (en low : Int) (ps : List TChunk) : Prop where
  as' : asc en n ps = true
  el : en ≤ low
  ll : low = lo0 ∨ lo0 < low ∧ low = en
  by' : ∀ o, byteAt ps o = if byteAt ys o = -1 then (if lo0 ≤ o ∧ o < low ∧ o < hi then byteD off data o else -1) else byteAt ys o
  ct : ((ps.length : Int) - ys.length) * 2 ≤ low - lo0 ∧ ((ps.length : Int) - ys.length) * 2 ≤ hi + 1 - lo0
  jl : low = lo0 → (joinL ps).length ≤ ys.length
  jg : (joinL ps).length ≤ ys.length + 1
  jt : lo0 < low → ∃ l, (joinL ps).getLast? = some l ∧ l.offset + (l.data.length : Int) = low

theorem PI.init {n off hi lo0 : Int} {data : List UInt8} (h : n ≤ lo0) (h2 : lo0 < hi) : PI n off hi lo0 data [] n lo0 [] :=
  ⟨by simp [asc], h, .inl rfl, fun o => by
    simp only [byteAt]; rw [if_pos trivial, if_neg (by omega)], ⟨by simp, by simp; omega⟩, fun _ => by simp [joinL], by simp [joinL], fun h => by omega⟩

/-- One piece put: the list, its bytes, its joined length. -/
theorem PI.piece {n off hi lo0 : Int} {data : List UInt8} {ys : List TChunk} {en low : Int} {ps : List TChunk} (h : PI n off hi lo0 data ys en low ps) (h0 : 0 ≤ off) (hlo : off ≤ lo0) (hhi : hi ≤ off + data.length) {m : Int} (hm : low < m) (hm2 : m ≤ hi) :
    asc m n (ps ++ [pcOf off data low m]) = true ∧ (∀ o, byteAt (ps ++ [pcOf off data low m]) o = if byteAt ys o = -1 then (if lo0 ≤ o ∧ o < m then byteD off data o else -1) else byteAt ys o) ∧
    (joinL (ps ++ [pcOf off data low m])).length ≤ ys.length + 1 ∧ ∃ l, (joinL (ps ++ [pcOf off data low m])).getLast? = some l ∧ l.offset + (l.data.length : Int) = m := by
  have hl0 : lo0 ≤ low := by rcases h.ll with h | h <;> omega
  have hpl : ((pcOf off data low m).data.length : Int) = m - low := pcOf_len (by omega) (by omega) (by omega)
  have hpo : (pcOf off data low m).offset = low := rfl
  refine ⟨asc_snoc _ ps n h.as' (by rw [hpo]; exact h.el) (fun g => by rw [g] at hpl; simp at hpl; omega) (by rw [hpl, hpo]; omega), fun o => ?_, ?_, ?_⟩
  · rw [byteAt_snoc, h.by' o, pcOf_byte h0 (by omega) (by omega) (by omega)]
    by_cases g : byteAt ys o = -1
    · simp only [if_pos g]
      by_cases g1 : lo0 ≤ o ∧ o < low ∧ o < hi
      · have : byteD off data o ≠ -1 := by unfold byteD; omega
        rw [if_pos g1, if_neg this, if_pos ⟨g1.1, by omega⟩]
      · rw [if_neg g1, if_pos rfl]
        by_cases g2 : low ≤ o ∧ o < m
        · rw [if_pos g2, if_pos (by omega)]
        · rw [if_neg g2, if_neg (by omega)]
    · simp only [if_neg g]
  · rw [joinL_snoc]
    rcases h.ll with hq | hq
    · have := h.jl hq; have := joinS_len (joinL ps) (pcOf off data low m); omega
    · obtain ⟨l, e1, e2⟩ := h.jt hq.1
      rw [joinS_same e1 (by rw [e2, hpo])]; exact h.jg
  · obtain ⟨l, e1, e2⟩ := joinS_last (joinL ps) (pcOf off data low m)
    exact ⟨l, by rw [joinL_snoc]; exact e1, by rw [e2, hpl, hpo]; omega⟩

theorem PI.step {n off hi lo0 : Int} {data : List UInt8} {ys : List TChunk} {en low : Int} {ps : List TChunk} (h : PI n off hi lo0 data ys en low ps) (h0 : 0 ≤ off) (hlo : off ≤ lo0) (hhi : hi ≤ off + data.length) (hn : 0 ≤ n)
    (c : TChunk) (hc : en ≤ c.offset) (hd : c.data ≠ []) :
    PI n off hi lo0 data (ys ++ [c]) (c.offset + c.data.length) (pSt off hi data (low, ps) c).1 (pSt off hi data (low, ps) c).2 := by
  have hl0 : lo0 ≤ low := by rcases h.ll with h | h <;> omega
  have hdl : 0 < c.data.length := List.length_pos_iff.2 hd
  have hne : n ≤ en := asc_le h.as'
  unfold pSt putP
  simp only
  generalize hm : (if hi < c.offset then hi else c.offset) = m
  have hmh : m ≤ hi ∧ m ≤ c.offset ∧ (m = hi ∨ m = c.offset) := by rw [← hm]; split <;> omega
  have hlw : (if c.offset + (c.data.length : Int) > low then c.offset + (c.data.length : Int) else low) = max low (c.offset + c.data.length) := by split <;> omega
  rw [hlw]
  by_cases hp : low < m
  · rw [if_pos hp]
    obtain ⟨p1, p2, p3, l, p4, p5⟩ := h.piece h0 hlo hhi hp hmh.1
    have hql : (ps ++ [pcOf off data low m]).length = ps.length + 1 := by simp
    generalize ps ++ [pcOf off data low m] = qs at p1 p2 p3 p4 hql ⊢
    have hmx : max low (c.offset + c.data.length) = c.offset + c.data.length := by omega
    rw [hmx]
    refine ⟨asc_snoc c qs n p1 (by omega) hd (Int.le_refl _), by omega, .inr ⟨by omega, rfl⟩, fun o => ?_, ?_, fun g => by omega, ?_, fun _ => ?_⟩
    · rw [byteAt_snoc, byteAt_snoc, p2 o]
      by_cases g : byteAt ys o = -1
      · simp only [if_pos g]
        by_cases g1 : lo0 ≤ o ∧ o < m
        · have hD : byteD off data o ≠ -1 := by unfold byteD; omega
          rw [if_pos g1, if_neg hD, byteC_no (by omega), if_pos rfl, if_pos (by omega)]
        · rw [if_neg g1, if_pos rfl]
          by_cases g2 : byteC o c = -1
          · rw [if_pos g2, g2, if_neg]
            intro g3
            rw [byteC_in (by omega)] at g2
            omega
          · rw [if_neg g2]
      · simp only [if_neg g]
    · have := h.ct
      simp only [List.length_append, List.length_singleton, hql]
      omega
    · rw [joinL_snoc]
      have := joinS_len (joinL qs) c
      simp only [List.length_append, List.length_singleton]; omega
    · rw [joinL_snoc]; exact joinS_last _ _
  · rw [if_neg hp]
    refine ⟨asc_snoc c ps n h.as' hc hd (Int.le_refl _), by omega, ?_, fun o => ?_, ?_, fun g => ?_, ?_, fun g => ?_⟩
    · by_cases g : low < c.offset + c.data.length
      · right; omega
      · left; rcases h.ll with g2 | g2 <;> omega
    · rw [byteAt_snoc, byteAt_snoc, h.by' o]
      by_cases g : byteAt ys o = -1
      · simp only [if_pos g]
        by_cases g1 : lo0 ≤ o ∧ o < low ∧ o < hi
        · have hD : byteD off data o ≠ -1 := by unfold byteD; omega
          rw [if_pos g1, if_neg hD, byteC_no (by rcases h.ll with g2 | g2 <;> omega), if_pos rfl, if_pos (by omega)]
        · rw [if_neg g1, if_pos rfl]
          by_cases g2 : byteC o c = -1
          · rw [if_pos g2, g2, if_neg]
            intro g3
            rw [byteC_in (by omega)] at g2
            omega
          · rw [if_neg g2]
      · simp only [if_neg g]
    · have := h.ct
      simp only [List.length_append, List.length_singleton]
      omega
    · rw [joinL_snoc]
      have := joinS_len (joinL ps) c
      have := h.jl (by omega)
      simp only [List.length_append, List.length_singleton]; omega
    · rw [joinL_snoc]
      have := joinS_len (joinL ps) c
      have := h.jg
      simp only [List.length_append, List.length_singleton]; omega
    · rw [joinL_snoc]
      obtain ⟨l, e1, e2⟩ := joinS_last (joinL ps) c
      exact ⟨l, e1, by rcases h.ll with g2 | g2 <;> omega⟩

def partI (n off : Int) (data : List UInt8) (xs : List TChunk) (i : Nat) : Int × List TChunk := (xs.take i).foldl (pSt off (off + data.length) data) (if n > off then n else off, [])
theorem partI_step (n off : Int) (data : List UInt8) (xs : List TChunk) (i : Nat) (h : i < xs.length) : partI n off data xs (i + 1) = pSt off (off + data.length) data (partI n off data xs i) xs[i] := by
  unfold partI
  rw [List.take_add_one, List.getElem?_eq_getElem h, Option.toList_some, List.foldl_append]; rfl
def partL (n off : Int) (data : List UInt8) (xs : List TChunk) : List TChunk := putP off (off + data.length) data (partI n off data xs xs.length).1 (off + data.length) (partI n off data xs xs.length).2
theorem PI.fold {n off hi lo0 : Int} {data : List UInt8} (h0 : 0 ≤ off) (hlo : off ≤ lo0) (hhi : hi ≤ off + data.length) (hn : 0 ≤ n) : ∀ (cs ys : List TChunk) (en low lo : Int) (ps : List TChunk), PI n off hi lo0 data ys en low ps → chk lo cs = true → en ≤ lo →
    ∃ en', PI n off hi lo0 data (ys ++ cs) en' (cs.foldl (pSt off hi data) (low, ps)).1 (cs.foldl (pSt off hi data) (low, ps)).2 ∧ (∀ E, en ≤ E → (∀ c ∈ cs, c.offset + (c.data.length : Int) ≤ E) → en' ≤ E)
  | [], ys, en, low, lo, ps, h, _, _ => ⟨en, by simpa using h, fun E h _ => h⟩
  | c :: cs, ys, en, low, lo, ps, h, hc, hl => by
    obtain ⟨h1, h2, h3, h4⟩ := chk_cons hc
    have hs := h.step h0 hlo hhi hn c (by omega) h1
    obtain ⟨en', k1, k2⟩ := PI.fold h0 hlo hhi hn cs (ys ++ [c]) _ _ _ _ hs h4 (by omega)
    refine ⟨en', ?_, fun E g1 g2 => k2 E (g2 c (by simp)) fun d hd => g2 d (by simp [hd])⟩
    rw [List.append_assoc] at k1
    exact k1
theorem partI_law {n off : Int} {data : List UInt8} {xs : List TChunk} (h0 : 0 ≤ off) (hn : 0 ≤ n) (hc : chk n xs = true) (hlt : (if n > off then n else off) < off + data.length) (i : Nat) :
    ∃ en', PI n off (off + data.length) (if n > off then n else off) data (xs.take i) en' (partI n off data xs i).1 (partI n off data xs i).2 ∧ (∀ E, n ≤ E → (∀ c ∈ xs, c.offset + (c.data.length : Int) ≤ E) → en' ≤ E) := by
  have hct : chk n (xs.take i) = true := by
    have : ∀ (cs : List TChunk) (lo : Int) (i : Nat), chk lo cs = true → chk lo (cs.take i) = true := by
      intro cs
      induction cs with
      | nil => intro lo i h; simpa using h
      | cons c cs ih =>
        intro lo i h
        cases i with
        | zero => rfl
        | succ i =>
          obtain ⟨h1, h2, h3, h4⟩ := chk_cons h
          simp only [List.take_succ_cons, chk, Bool.and_eq_true, decide_eq_true_eq]
          exact ⟨⟨⟨h1, h2⟩, h3⟩, ih _ _ h4⟩
    exact this xs n i hc
  obtain ⟨en', k1, k2⟩ := PI.fold (hi := off + data.length) (lo0 := if n > off then n else off) (data := data) h0 (by split <;> omega) (Int.le_refl _) hn (xs.take i) [] n _ n [] (PI.init (by split <;> omega) hlt) hct (Int.le_refl _)
  exact ⟨en', (by rw [List.nil_append] at k1; exact k1), fun E g1 g2 => k2 E g1 fun c hc => g2 c (List.take_subset _ _ hc)⟩
/-- The parts: in order, their bytes, their number, their joined number. -/
theorem partL_law {n off : Int} {data : List UInt8} {xs : List TChunk} (h0 : 0 ≤ off) (hn : 0 ≤ n) (hc : chk n xs = true) (hlt : (if n > off then n else off) < off + data.length) {E : Int} (hE : ∀ c ∈ xs, c.offset + (c.data.length : Int) ≤ E) (hE2 : off + data.length ≤ E) :
    asc E n (partL n off data xs) = true ∧ (∀ o, byteAt (partL n off data xs) o = if byteAt xs o = -1 then (if (if n > off then n else off) ≤ o ∧ o < off + data.length then byteD off data o else -1) else byteAt xs o) ∧
    (joinL (partL n off data xs)).length ≤ xs.length + 1 ∧ ((partL n off data xs).length : Int) * 2 ≤ 2 * xs.length + data.length + 1 := by
  obtain ⟨en', h, hen⟩ := partI_law h0 hn hc hlt xs.length
  rw [List.take_length] at h
  have hnE : n ≤ E := by split at hlt <;> omega
  have he := hen E hnE hE
  have hlo : off ≤ (if n > off then n else off) := by split <;> omega
  unfold partL putP
  generalize (partI n off data xs xs.length).1 = low at h
  generalize (partI n off data xs xs.length).2 = ps at h
  generalize (if n > off then n else off) = lo0 at h hlo hlt
  have hct := h.ct
  have hll : lo0 ≤ low := by rcases h.ll with h | h <;> omega
  simp only [Int.lt_irrefl, if_false]
  by_cases hp : low < off + data.length
  · rw [if_pos hp]
    obtain ⟨p1, p2, p3, _⟩ := h.piece h0 hlo (Int.le_refl _) hp (Int.le_refl _)
    refine ⟨asc_up _ _ p1 hE2, p2, p3, ?_⟩
    simp only [List.length_append, List.length_singleton]; omega
  · rw [if_neg hp]
    refine ⟨asc_up _ _ h.as' he, fun o => ?_, h.jg, by omega⟩
    rw [h.by' o]
    by_cases g : byteAt xs o = -1
    · simp only [if_pos g]
      by_cases g1 : lo0 ≤ o ∧ o < off + data.length
      · rw [if_pos g1, if_pos (by omega)]
      · rw [if_neg g1, if_neg (by omega)]
    · simp only [if_neg g]
end Gv
