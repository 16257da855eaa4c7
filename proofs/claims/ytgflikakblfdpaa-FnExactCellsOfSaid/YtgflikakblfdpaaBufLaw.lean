/-
  Buffers: plain laws. No program is named here.
-/
import Derived.Test.YtgflikakblfdpaaPutCells
namespace Gv
open Go Go.Proofs

def chk : Int → List TChunk → Bool
  | _, [] => true
  | lo, c :: cs => (decide (c.data ≠ []) && decide (lo ≤ c.offset) && decide (c.offset ≤ 4611686018427387903 - (c.data.length : Int))) && chk (c.offset + c.data.length + 1) cs
theorem chk_cons {lo : Int} {c : TChunk} {cs : List TChunk} (h : chk lo (c :: cs) = true) :
    c.data ≠ [] ∧ lo ≤ c.offset ∧ c.offset ≤ 4611686018427387903 - (c.data.length : Int) ∧ chk (c.offset + c.data.length + 1) cs = true := by
  simp only [chk, Bool.and_eq_true, decide_eq_true_eq] at h
  exact ⟨h.1.1.1, h.1.1.2, h.1.2, h.2⟩
def isBuf (b : TBuffer) : Bool := inB b.next 0 4611686018427387903 && chk b.next b.chunks
def endOf (b : TBuffer) : Int := if isBuf b = true then (match b.chunks.getLast? with | some c => c.offset + c.data.length | none => b.next) else b.next
def hitB (o : Int) (c : TChunk) : Bool := decide (0 ≤ o) && decide (0 ≤ c.offset) && decide (c.offset ≤ o) && decide (o - c.offset < c.data.length)
def byteAt : List TChunk → Int → Int
  | [], _ => -1
  | c :: cs, o => if hitB o c = true then ((((c.data[(o - c.offset).toNat]?).getD 0).toNat : Nat) : Int) else byteAt cs o
theorem chk_mem : ∀ (cs : List TChunk) (lo : Int), chk lo cs = true → ∀ c ∈ cs, lo ≤ c.offset ∧ c.offset ≤ 4611686018427387903 - (c.data.length : Int)
  | [], _, _, c, hc => by cases hc
  | d :: cs, lo, h, c, hc => by
    obtain ⟨h1, h2, h3, h4⟩ := chk_cons h
    rcases List.mem_cons.1 hc with rfl | hc
    · exact ⟨h2, h3⟩
    · have := chk_mem cs _ h4 c hc; omega
theorem chk_last : ∀ (cs : List TChunk) (lo : Int) (l : TChunk), chk lo cs = true → cs.getLast? = some l → ∀ c ∈ cs, c.offset + (c.data.length : Int) ≤ l.offset + (l.data.length : Int)
  | [], _, _, _, _, c, hc => by cases hc
  | [d], lo, l, h, hl, c, hc => by
    simp only [List.getLast?_singleton, Option.some.injEq] at hl
    simp only [List.mem_singleton] at hc
    subst hl; subst hc; omega
  | d :: e :: cs, lo, l, h, hl, c, hc => by
    rw [List.getLast?_cons_cons] at hl
    obtain ⟨h1, h2, h3, h4⟩ := chk_cons h
    have hr := chk_last (e :: cs) _ l h4 hl
    rcases List.mem_cons.1 hc with rfl | hc
    · have h5 := chk_mem _ _ h4 l (List.mem_of_getLast? hl)
      omega
    · exact hr c hc
theorem byteAt_low : ∀ (cs : List TChunk) (lo o : Int), chk lo cs = true → o < lo → byteAt cs o = -1
  | [], _, _, _, _ => rfl
  | c :: cs, lo, o, h, ho => by
    obtain ⟨h1, h2, h3, h4⟩ := chk_cons h
    have hh : hitB o c = false := by
      have : decide (c.offset ≤ o) = false := decide_eq_false (by omega)
      simp [hitB, this]
    rw [byteAt, hh]
    simp only [Bool.false_eq_true, if_false]
    exact byteAt_low cs _ o h4 (by omega)
theorem hitB_iff (o : Int) (c : TChunk) : hitB o c = true ↔ 0 ≤ o ∧ 0 ≤ c.offset ∧ c.offset ≤ o ∧ o - c.offset < c.data.length := by
  simp only [hitB, Bool.and_eq_true, decide_eq_true_eq, and_assoc]
theorem pcS_get (xs : List Int) (r : Int) (o : Nat) (data : List UInt8) (j : Nat) : ∀ k, k ≤ data.length → o + data.length ≤ xs.length → j < xs.length →
    (pcS xs r o data k)[j]?.getD 0 = if o ≤ j ∧ j < o + k ∧ r ≤ (j : Int) ∧ xs[j]?.getD 0 = -1 then ((((data[j - o]?).getD 0).toNat : Nat) : Int) else xs[j]?.getD 0
  | 0, _, _, _ => by rw [pcS, if_neg (by omega)]
  | k + 1, hk, hx, hj => by
    have ih := pcS_get xs r o data j k (by omega) hx hj
    have hl := pcS_len xs r o data k
    rw [pcS]
    by_cases h1 : (decide (r ≤ ((o + k : Nat) : Int)) && decide (xs[o + k]?.getD 0 = -1)) = true
    · rw [if_pos h1]
      simp only [Bool.and_eq_true, decide_eq_true_eq] at h1
      by_cases h2 : j = o + k
      · subst h2
        rw [if_pos ⟨by omega, by omega, h1.1, h1.2⟩, List.getElem?_set_self (by omega)]
        simp
      · rw [List.getElem?_set_ne (by omega), ih]
        by_cases h3 : o ≤ j ∧ j < o + k ∧ r ≤ (j : Int) ∧ xs[j]?.getD 0 = -1
        · rw [if_pos h3, if_pos ⟨h3.1, by omega, h3.2.2⟩]
        · rw [if_neg h3, if_neg (fun h4 => h3 ⟨h4.1, by omega, h4.2.2⟩)]
    · rw [if_neg h1, ih]
      simp only [Bool.and_eq_true, decide_eq_true_eq] at h1
      by_cases h3 : o ≤ j ∧ j < o + k ∧ r ≤ (j : Int) ∧ xs[j]?.getD 0 = -1
      · rw [if_pos h3, if_pos ⟨h3.1, by omega, h3.2.2⟩]
      · rw [if_neg h3, if_neg]
        intro h4
        by_cases h5 : j = o + k
        · subst h5; exact h1 ⟨h4.2.2.1, h4.2.2.2⟩
        · exact h3 ⟨h4.1, by omega, h4.2.2⟩
theorem isCells_of {xs : List Int} {r : Int} (h1 : xs.length = 64) (h2 : 0 ≤ r ∧ r ≤ 64) (h3 : ∀ j, j < 64 → okB r j (xs[j]?.getD 0) = true) : isCells xs r = true := by
  simp only [isCells, inB, Bool.and_eq_true, decide_eq_true_eq, allB, List.all_eq_true, List.mem_range]
  exact ⟨⟨by omega, h2⟩, fun j hj => h3 j (by omega)⟩
theorem isCells_at {xs : List Int} {r : Int} (h : isCells xs r = true) (j : Nat) (hj : j < 64) : okB r j (xs[j]?.getD 0) = true := by
  have hl := isCells_len h
  simp only [isCells, Bool.and_eq_true, allB, List.all_eq_true, List.mem_range] at h
  exact h.2 j (by omega)
def putAll (c : TCells) (cs : List TChunk) : TCells := cs.foldl (fun a ch => putCells a ch.offset ch.data) c
theorem putAll_step (c : TCells) (cs : List TChunk) (i : Nat) (h : i < cs.length) : putAll c (cs.take (i + 1)) = putCells (putAll c (cs.take i)) cs[i].offset cs[i].data := by
  unfold putAll
  rw [List.take_add_one, List.getElem?_eq_getElem h, Option.toList_some, List.foldl_append]
  rfl
theorem putAll_len (cs : List TChunk) : ∀ c : TCells, (putAll c cs).bytes.length = c.bytes.length := by
  induction cs with
  | nil => intro c; rfl
  | cons d cs ih => intro c; show (putAll (putCells c d.offset d.data) cs).bytes.length = _; rw [ih, putCells_len]
theorem putAll_read (cs : List TChunk) : ∀ c : TCells, (putAll c cs).read = c.read := by
  induction cs with
  | nil => intro c; rfl
  | cons d cs ih => intro c; show (putAll (putCells c d.offset d.data) cs).read = _; rw [ih]; rfl
theorem putAll_get (r : Int) : ∀ (cs : List TChunk) (lo : Int) (xs : List Int), chk lo cs = true → (∀ c ∈ cs, c.offset + (c.data.length : Int) ≤ 64) → isCells xs r = true → r ≤ lo → (∀ j : Nat, lo ≤ (j : Int) → j < 64 → xs[j]?.getD 0 = -1) →
    ∀ j : Nat, j < 64 → (putAll ⟨xs, r⟩ cs).bytes[j]?.getD 0 = if (j : Int) < lo then xs[j]?.getD 0 else byteAt cs j
  | [], lo, xs, _, _, _, _, hx, j, hj => by
    show xs[j]?.getD 0 = _
    by_cases h : (j : Int) < lo
    · rw [if_pos h]
    · rw [if_neg h, hx j (by omega) hj]; rfl
  | c :: cs, lo, xs, hc, h64, hI, hr, hx, j, hj => by
    obtain ⟨h1, h2, h3, h4⟩ := chk_cons hc
    have hl := isCells_len hI
    have hce := h64 c (by simp)
    have h0 : 0 ≤ c.offset := by omega
    obtain ⟨o, ho⟩ := Int.eq_ofNat_of_zero_le h0
    have hput : putCells ⟨xs, r⟩ c.offset c.data = ⟨pcS xs r o c.data c.data.length, r⟩ := by
      have hok : putOk xs r c.offset c.data = true := by
        simp only [putOk, hI, Bool.true_and, Bool.and_eq_true, decide_eq_true_eq]; omega
      show (⟨putC xs r c.offset c.data, r⟩ : TCells) = _
      unfold putC
      rw [if_pos hok, ho]; rfl
    have hg : ∀ j : Nat, j < 64 → (pcS xs r o c.data c.data.length)[j]?.getD 0 = if (o : Int) ≤ j ∧ (j : Int) < o + c.data.length then ((((c.data[j - o]?).getD 0).toNat : Nat) : Int) else xs[j]?.getD 0 := by
      intro j hj
      rw [pcS_get xs r o c.data j c.data.length (Nat.le_refl _) (by omega) (by omega)]
      by_cases h5 : (o : Int) ≤ j ∧ (j : Int) < o + c.data.length
      · rw [if_pos h5, if_pos ⟨by omega, by omega, by omega, hx j (by omega) hj⟩]
      · rw [if_neg h5, if_neg (by omega)]
    have hI' : isCells (pcS xs r o c.data c.data.length) r = true := by
      refine isCells_of (by rw [pcS_len]; exact hl.1) hl.2 (fun j hj => ?_)
      rw [hg j hj]
      by_cases h5 : (o : Int) ≤ j ∧ (j : Int) < o + c.data.length
      · rw [if_pos h5]
        have h6 : decide ((j : Int) < r) = false := decide_eq_false (by omega)
        have h7 := ((c.data[j - o]?).getD 0).toNat_lt
        have h8 : ((c.data[j - o]?).getD 0).toNat < 256 := by omega
        simp only [okB, inB, h6, Bool.false_and, Bool.not_false, Bool.and_true, Bool.and_eq_true, decide_eq_true_eq]
        omega
      · rw [if_neg h5]; exact isCells_at hI j hj
    show (putAll (putCells ⟨xs, r⟩ c.offset c.data) cs).bytes[j]?.getD 0 = _
    rw [hput, putAll_get r cs (c.offset + c.data.length + 1) _ h4 (fun d hd => h64 d (by simp [hd])) hI' (by omega) (fun k hk hk2 => by rw [hg k hk2, if_neg (by omega)]; exact hx k (by omega) hk2) j hj, hg j hj]
    by_cases h5 : (j : Int) < lo
    · rw [if_pos h5, if_pos (by omega), if_neg (by omega)]
    · rw [if_neg h5, byteAt]
      by_cases h6 : (o : Int) ≤ j ∧ (j : Int) < o + c.data.length
      · rw [if_pos (by omega), if_pos h6, if_pos ((hitB_iff _ _).2 (by omega))]
        rw [show ((j : Int) - c.offset).toNat = j - o from by omega]
      · rw [if_neg (show ¬ hitB (j : Int) c = true from fun h => h6 (by have := (hitB_iff _ _).1 h; omega))]
        by_cases h7 : (j : Int) < c.offset + c.data.length + 1
        · rw [if_pos h7, if_neg h6, byteAt_low cs _ j h4 h7]; exact hx j (by omega) hj
        · rw [if_neg h7]
def newC : List Int := List.replicate 64 (-1)
def cellsOf (b : TBuffer) : TCells := ⟨(List.range 64).map fun j => byteAt b.chunks (j : Nat), b.next⟩
theorem cellsOf_eq (b : TBuffer) (h1 : isBuf b = true) (h2 : endOf b ≤ 64) : putAll ⟨newC, b.next⟩ b.chunks = cellsOf b := by
  have hb := h1
  simp only [isBuf, Bool.and_eq_true, inB, decide_eq_true_eq] at hb
  obtain ⟨⟨h3, h4⟩, h5⟩ := hb
  have h64 : ∀ c ∈ b.chunks, c.offset + (c.data.length : Int) ≤ 64 := by
    intro c hc
    unfold endOf at h2
    rw [if_pos h1] at h2
    cases hl : b.chunks.getLast? with
    | none => rw [List.getLast?_eq_none_iff] at hl; rw [hl] at hc; cases hc
    | some l => rw [hl] at h2; have := chk_last _ _ l h5 hl c hc; simp only at h2; omega
  have hn64 : b.next ≤ 64 := by
    cases hcs : b.chunks with
    | nil => unfold endOf at h2; rw [if_pos h1, hcs] at h2; simpa using h2
    | cons c cs =>
      have hm : c ∈ b.chunks := by simp [hcs]
      have := chk_mem _ _ h5 c hm
      have := h64 c hm
      omega
  have hnew : ∀ j : Nat, j < 64 → newC[j]?.getD 0 = -1 := by
    intro j hj; unfold newC; rw [List.getElem?_replicate, if_pos hj]; rfl
  have hI : isCells newC b.next = true := by
    refine isCells_of (by simp [newC]) ⟨h3, hn64⟩ (fun j hj => ?_)
    rw [hnew j hj]; simp [okB, inB]
  have hg := putAll_get b.next b.chunks b.next newC h5 h64 hI (by omega) (fun j _ hj => hnew j hj)
  have hlen : (putAll ⟨newC, b.next⟩ b.chunks).bytes.length = 64 := by rw [putAll_len]; simp [newC]
  have hrd := putAll_read b.chunks ⟨newC, b.next⟩
  have hby : (putAll ⟨newC, b.next⟩ b.chunks).bytes = (cellsOf b).bytes := by
    refine List.ext_getElem (by rw [hlen]; simp [cellsOf]) (fun j hj hj2 => ?_)
    have := hg j (by omega)
    rw [List.getElem?_eq_getElem hj] at this
    simp only [Option.getD_some] at this
    rw [this]
    by_cases h6 : (j : Int) < b.next
    · rw [if_pos h6, hnew j (by omega)]
      simp [cellsOf, byteAt_low _ _ _ h5 h6]
    · rw [if_neg h6]; simp [cellsOf]
  generalize putAll ⟨newC, b.next⟩ b.chunks = z at hby hrd
  cases z
  simp only at hby hrd
  subst hby; subst hrd
  rfl
end Gv
