/-
  Buffers: plain laws. No program is named here.
-/
import Derived.Test.YtiaaipckeinbiaaPutCells
import Derived.Test.YtiaaipckeinbiaaEqCells
namespace Gv
open Go Go.Proofs

def chk : Int → List TChunk → Bool
  | _, [] => true
  | lo, c :: cs => (decide (c.data ≠ []) && decide (lo ≤ c.offset) && decide (c.offset ≤ 4611686018427387903 - (c.data.length : Int))) && chk (c.offset + c.data.length + 1) cs
theorem chk_cons {lo : Int} {c : TChunk} {cs : List TChunk} (h : chk lo (c :: cs) = true) :
    c.data ≠ [] ∧ lo ≤ c.offset ∧ c.offset ≤ 4611686018427387903 - (c.data.length : Int) ∧ chk (c.offset + c.data.length + 1) cs = true := by
  simp only [chk, Bool.and_eq_true, decide_eq_true_eq] at h
  exact ⟨h.1.1.1, h.1.1.2, h.1.2, h.2⟩
def isBuf (b : TBuffer) : Bool := inB b.next 0 4611686018427387903 && chk b.next b.chunks
def endOf (b : TBuffer) : Int := if isBuf b = true then (match b.chunks.getLast? with | some c => c.offset + c.data.length | none => b.next) else b.next
def hitB (o : Int) (c : TChunk) : Bool := decide (0 ≤ o) && decide (0 ≤ c.offset) && decide (c.offset ≤ o) && decide (o - c.offset < c.data.length)
def byteAt : List TChunk → Int → Int
  | [], _ => -1
  | c :: cs, o => if hitB o c = true then ((((c.data[(o - c.offset).toNat]?).getD 0).toNat : Nat) : Int) else byteAt cs o
theorem chk_mem : ∀ (cs : List TChunk) (lo : Int), chk lo cs = true → ∀ c ∈ cs, lo ≤ c.offset ∧ c.offset ≤ 4611686018427387903 - (c.data.length : Int)
  | [], _, _, c, hc => by cases hc
  | d :: cs, lo, h, c, hc => by
    obtain ⟨h1, h2, h3, h4⟩ := chk_cons h
    rcases List.mem_cons.1 hc with rfl | hc
    · exact ⟨h2, h3⟩
    · have := chk_mem cs _ h4 c hc; omega
theorem chk_last : ∀ (cs : List TChunk) (lo : Int) (l : TChunk), chk lo cs = true → cs.getLast? = some l → ∀ c ∈ cs, c.offset + (c.data.length : Int) ≤ l.offset + (l.data.length : Int)
  | [], _, _, _, _, c, hc => by cases hc
  | [d], lo, l, h, hl, c, hc => by
    simp only [List.getLast?_singleton, Option.some.injEq] at hl
    simp only [List.mem_singleton] at hc
    subst hl; subst hc; omega
  | d :: e :: cs, lo, l, h, hl, c, hc => by
    rw [List.getLast?_cons_cons] at hl
    obtain ⟨h1, h2, h3, h4⟩ := chk_cons h
    have hr := chk_last (e :: cs) _ l h4 hl
    rcases List.mem_cons.1 hc with rfl | hc
    · have h5 := chk_mem _ _ h4 l (List.mem_of_getLast? hl)
      omega
    · exact hr c hc
theorem byteAt_low : ∀ (cs : List TChunk) (lo o : Int), chk lo cs = true → o < lo → byteAt cs o = -1
  | [], _, _, _, _ => rfl
  | c :: cs, lo, o, h, ho => by
    obtain ⟨h1, h2, h3, h4⟩ := chk_cons h
    have hh : hitB o c = false := by
      have : decide (c.offset ≤ o) = false := decide_eq_false (by omega)
      simp [hitB, this]
    rw [byteAt, hh]
    simp only [Bool.false_eq_true, if_false]
    exact byteAt_low cs _ o h4 (by omega)
theorem hitB_iff (o : Int) (c : TChunk) : hitB o c = true ↔ 0 ≤ o ∧ 0 ≤ c.offset ∧ c.offset ≤ o ∧ o - c.offset < c.data.length := by
  simp only [hitB, Bool.and_eq_true, decide_eq_true_eq, and_assoc]
theorem pcS_get (xs : List Int) (r : Int) (o : Nat) (data : List UInt8) (j : Nat) : ∀ k, k ≤ data.length → o + data.length ≤ xs.length → j < xs.length →
    (pcS xs r o data k)[j]?.getD 0 = if o ≤ j ∧ j < o + k ∧ r ≤ (j : Int) ∧ xs[j]?.getD 0 = -1 then ((((data[j - o]?).getD 0).toNat : Nat) : Int) else xs[j]?.getD 0
  | 0, _, _, _ => by rw [pcS, if_neg (by omega)]
  | k + 1, hk, hx, hj => by
    have ih := pcS_get xs r o data j k (by omega) hx hj
    have hl := pcS_len xs r o data k
    rw [pcS]
    by_cases h1 : (decide (r ≤ ((o + k : Nat) : Int)) && decide (xs[o + k]?.getD 0 = -1)) = true
    · rw [if_pos h1]
      simp only [Bool.and_eq_true, decide_eq_true_eq] at h1
      by_cases h2 : j = o + k
      · subst h2
        rw [if_pos ⟨by omega, by omega, h1.1, h1.2⟩, List.getElem?_set_self (by omega)]
        simp
      · rw [List.getElem?_set_ne (by omega), ih]
        by_cases h3 : o ≤ j ∧ j < o + k ∧ r ≤ (j : Int) ∧ xs[j]?.getD 0 = -1
        · rw [if_pos h3, if_pos ⟨h3.1, by omega, h3.2.2⟩]
        · rw [if_neg h3, if_neg (fun h4 => h3 ⟨h4.1, by omega, h4.2.2⟩)]
    · rw [if_neg h1, ih]
      simp only [Bool.and_eq_true, decide_eq_true_eq] at h1
      by_cases h3 : o ≤ j ∧ j < o + k ∧ r ≤ (j : Int) ∧ xs[j]?.getD 0 = -1
      · rw [if_pos h3, if_pos ⟨h3.1, by omega, h3.2.2⟩]
      · rw [if_neg h3, if_neg]
        intro h4
        by_cases h5 : j = o + k
        · subst h5; exact h1 ⟨h4.2.2.1, h4.2.2.2⟩
        · exact h3 ⟨h4.1, by omega, h4.2.2⟩
theorem isCells_of {xs : List Int} {r : Int} (h1 : xs.length = 64) (h2 : 0 ≤ r ∧ r ≤ 64) (h3 : ∀ j, j < 64 → okB r j (xs[j]?.getD 0) = true) : isCells xs r = true := by
  simp only [isCells, inB, Bool.and_eq_true, decide_eq_true_eq, allB, List.all_eq_true, List.mem_range]
  exact ⟨⟨by omega, h2⟩, fun j hj => h3 j (by omega)⟩
theorem isCells_at {xs : List Int} {r : Int} (h : isCells xs r = true) (j : Nat) (hj : j < 64) : okB r j (xs[j]?.getD 0) = true := by
  have hl := isCells_len h
  simp only [isCells, Bool.and_eq_true, allB, List.all_eq_true, List.mem_range] at h
  exact h.2 j (by omega)
def putAll (c : TCells) (cs : List TChunk) : TCells := cs.foldl (fun a ch => putCells a ch.offset ch.data) c
theorem putAll_step (c : TCells) (cs : List TChunk) (i : Nat) (h : i < cs.length) : putAll c (cs.take (i + 1)) = putCells (putAll c (cs.take i)) cs[i].offset cs[i].data := by
  unfold putAll
  rw [List.take_add_one, List.getElem?_eq_getElem h, Option.toList_some, List.foldl_append]
  rfl
theorem putAll_len (cs : List TChunk) : ∀ c : TCells, (putAll c cs).bytes.length = c.bytes.length := by
  induction cs with
  | nil => intro c; rfl
  | cons d cs ih => intro c; show (putAll (putCells c d.offset d.data) cs).bytes.length = _; rw [ih, putCells_len]
theorem putAll_read (cs : List TChunk) : ∀ c : TCells, (putAll c cs).read = c.read := by
  induction cs with
  | nil => intro c; rfl
  | cons d cs ih => intro c; show (putAll (putCells c d.offset d.data) cs).read = _; rw [ih]; rfl
theorem putAll_get (r : Int) : ∀ (cs : List TChunk) (lo : Int) (xs : List Int), chk lo cs = true → (∀ c ∈ cs, c.offset + (c.data.length : Int) ≤ 64) → isCells xs r = true → r ≤ lo → (∀ j : Nat, lo ≤ (j : Int) → j < 64 → xs[j]?.getD 0 = -1) →
    ∀ j : Nat, j < 64 → (putAll ⟨xs, r⟩ cs).bytes[j]?.getD 0 = if (j : Int) < lo then xs[j]?.getD 0 else byteAt cs j
  | [], lo, xs, _, _, _, _, hx, j, hj => by
    show xs[j]?.getD 0 = _
    by_cases h : (j : Int) < lo
    · rw [if_pos h]
    · rw [if_neg h, hx j (by omega) hj]; rfl
  | c :: cs, lo, xs, hc, h64, hI, hr, hx, j, hj => by
    obtain ⟨h1, h2, h3, h4⟩ := chk_cons hc
    have hl := isCells_len hI
    have hce := h64 c (by simp)
    have h0 : 0 ≤ c.offset := by omega
    obtain ⟨o, ho⟩ := Int.eq_ofNat_of_zero_le h0
    have hput : putCells ⟨xs, r⟩ c.offset c.data = ⟨pcS xs r o c.data c.data.length, r⟩ := by
      have hok : putOk xs r c.offset c.data = true := by
        simp only [putOk, hI, Bool.true_and, Bool.and_eq_true, decide_eq_true_eq]; omega
      show (⟨putC xs r c.offset c.data, r⟩ : TCells) = _
      unfold putC
      rw [if_pos hok, ho]; rfl
    have hg : ∀ j : Nat, j < 64 → (pcS xs r o c.data c.data.length)[j]?.getD 0 = if (o : Int) ≤ j ∧ (j : Int) < o + c.data.length then ((((c.data[j - o]?).getD 0).toNat : Nat) : Int) else xs[j]?.getD 0 := by
      intro j hj
      rw [pcS_get xs r o c.data j c.data.length (Nat.le_refl _) (by omega) (by omega)]
      by_cases h5 : (o : Int) ≤ j ∧ (j : Int) < o + c.data.length
      · rw [if_pos h5, if_pos ⟨by omega, by omega, by omega, hx j (by omega) hj⟩]
      · rw [if_neg h5, if_neg (by omega)]
    have hI' : isCells (pcS xs r o c.data c.data.length) r = true := by
      refine isCells_of (by rw [pcS_len]; exact hl.1) hl.2 (fun j hj => ?_)
      rw [hg j hj]
      by_cases h5 : (o : Int) ≤ j ∧ (j : Int) < o + c.data.length
      · rw [if_pos h5]
        have h6 : decide ((j : Int) < r) = false := decide_eq_false (by omega)
        have h7 := ((c.data[j - o]?).getD 0).toNat_lt
        have h8 : ((c.data[j - o]?).getD 0).toNat < 256 := by omega
        simp only [okB, inB, h6, Bool.false_and, Bool.not_false, Bool.and_true, Bool.and_eq_true, decide_eq_true_eq]
        omega
      · rw [if_neg h5]; exact isCells_at hI j hj
    show (putAll (putCells ⟨xs, r⟩ c.offset c.data) cs).bytes[j]?.getD 0 = _
    rw [hput, putAll_get r cs (c.offset + c.data.length + 1) _ h4 (fun d hd => h64 d (by simp [hd])) hI' (by omega) (fun k hk hk2 => by rw [hg k hk2, if_neg (by omega)]; exact hx k (by omega) hk2) j hj, hg j hj]
    by_cases h5 : (j : Int) < lo
    · rw [if_pos h5, if_pos (by omega), if_neg (by omega)]
    · rw [if_neg h5, byteAt]
      by_cases h6 : (o : Int) ≤ j ∧ (j : Int) < o + c.data.length
      · rw [if_pos (by omega), if_pos h6, if_pos ((hitB_iff _ _).2 (by omega))]
        rw [show ((j : Int) - c.offset).toNat = j - o from by omega]
      · rw [if_neg (show ¬ hitB (j : Int) c = true from fun h => h6 (by have := (hitB_iff _ _).1 h; omega))]
        by_cases h7 : (j : Int) < c.offset + c.data.length + 1
        · rw [if_pos h7, if_neg h6, byteAt_low cs _ j h4 h7]; exact hx j (by omega) hj
        · rw [if_neg h7]
def newC : List Int := List.replicate 64 (-1)
def cellsOf (b : TBuffer) : TCells := ⟨(List.range 64).map fun j => byteAt b.chunks (j : Nat), b.next⟩
theorem cellsOf_eq (b : TBuffer) (h1 : isBuf b = true) (h2 : endOf b ≤ 64) : putAll ⟨newC, b.next⟩ b.chunks = cellsOf b := by
  have hb := h1
  simp only [isBuf, Bool.and_eq_true, inB, decide_eq_true_eq] at hb
  obtain ⟨⟨h3, h4⟩, h5⟩ := hb
  have h64 : ∀ c ∈ b.chunks, c.offset + (c.data.length : Int) ≤ 64 := by
    intro c hc
    unfold endOf at h2
    rw [if_pos h1] at h2
    cases hl : b.chunks.getLast? with
    | none => rw [List.getLast?_eq_none_iff] at hl; rw [hl] at hc; cases hc
    | some l => rw [hl] at h2; have := chk_last _ _ l h5 hl c hc; simp only at h2; omega
  have hn64 : b.next ≤ 64 := by
    cases hcs : b.chunks with
    | nil => unfold endOf at h2; rw [if_pos h1, hcs] at h2; simpa using h2
    | cons c cs =>
      have hm : c ∈ b.chunks := by simp [hcs]
      have := chk_mem _ _ h5 c hm
      have := h64 c hm
      omega
  have hnew : ∀ j : Nat, j < 64 → newC[j]?.getD 0 = -1 := by
    intro j hj; unfold newC; rw [List.getElem?_replicate, if_pos hj]; rfl
  have hI : isCells newC b.next = true := by
    refine isCells_of (by simp [newC]) ⟨h3, hn64⟩ (fun j hj => ?_)
    rw [hnew j hj]; simp [okB, inB]
  have hg := putAll_get b.next b.chunks b.next newC h5 h64 hI (by omega) (fun j _ hj => hnew j hj)
  have hlen : (putAll ⟨newC, b.next⟩ b.chunks).bytes.length = 64 := by rw [putAll_len]; simp [newC]
  have hrd := putAll_read b.chunks ⟨newC, b.next⟩
  have hby : (putAll ⟨newC, b.next⟩ b.chunks).bytes = (cellsOf b).bytes := by
    refine List.ext_getElem (by rw [hlen]; simp [cellsOf]) (fun j hj hj2 => ?_)
    have := hg j (by omega)
    rw [List.getElem?_eq_getElem hj] at this
    simp only [Option.getD_some] at this
    rw [this]
    by_cases h6 : (j : Int) < b.next
    · rw [if_pos h6, hnew j (by omega)]
      simp [cellsOf, byteAt_low _ _ _ h5 h6]
    · rw [if_neg h6]; simp [cellsOf]
  generalize putAll ⟨newC, b.next⟩ b.chunks = z at hby hrd
  cases z
  simp only at hby hrd
  subst hby; subst hrd
  rfl
end Gv

/-
  Buffers: the functions.
-/
namespace Gv
open Go Go.Proofs

set_option maxRecDepth 100000 in
theorem impl_isQuic (n : Int) : PureCall Try.prog 53 [.one (.int .i64 n)] [.one (.bool (inB n 0 4611686018427387903))] := by
  refine pure_ev Try.func53 rfl Try.call53 Try.checked.mixed [.d (.int .i64 n), .junk, .junk, .junk, .junk] rfl [.tmp 2] rfl ?_
  intro _
  try simp only [go_sem]
  repeat' (first
    | (refine CallS.intro (by first | assumption | (apply impl_within <;> first | assumption | omega)) ?_; simp only [go_sem])
    | (refine CallK.intro (by first | assumption | (apply impl_within <;> first | assumption | omega)) ?_; simp only [go_sem])
    | (with_reducible refine gTrueS ?_; simp only [go_sem]) | (with_reducible refine gFalseS ?_; simp only [go_sem]) | (with_reducible refine gTrue ?_; simp only [go_sem]) | (with_reducible refine gFalse ?_; simp only [go_sem])
    | (refine gSymS ?_; simp only [go_sem]) | (refine gSym ?_; simp only [go_sem])
    | (refine cSplit (fun h => ?_) (fun h => ?_) <;> simp only [go_sem])
    | (with_reducible refine And.intro ?_ ?_; (focus (first | omega | (exact ⟨by omega, by omega⟩) | (simp; done) | (simp; omega)))))
  all_goals simp [inB]
set_option maxRecDepth 100000 in
theorem spec_l4Quic (n : Int) : PureCall Try.prog 64 [.one (.int .i64 n)] [.one (.bool (inB n 0 4611686018427387903))] := by
  refine pure_ev Try.func64 rfl Try.call64 Try.checked.mixed [.d (.int .i64 n), .junk, .junk, .junk, .junk] rfl [.tmp 2] rfl ?_
  intro _
  try simp only [go_sem]
  repeat' (first
    | (refine CallS.intro (by first | assumption | (apply spec_l1In <;> first | assumption | omega)) ?_; simp only [go_sem])
    | (refine CallK.intro (by first | assumption | (apply spec_l1In <;> first | assumption | omega)) ?_; simp only [go_sem])
    | (with_reducible refine gTrueS ?_; simp only [go_sem]) | (with_reducible refine gFalseS ?_; simp only [go_sem]) | (with_reducible refine gTrue ?_; simp only [go_sem]) | (with_reducible refine gFalse ?_; simp only [go_sem])
    | (refine gSymS ?_; simp only [go_sem]) | (refine gSym ?_; simp only [go_sem])
    | (refine cSplit (fun h => ?_) (fun h => ?_) <;> simp only [go_sem])
    | (with_reducible refine And.intro ?_ ?_; (focus (first | omega | (exact ⟨by omega, by omega⟩) | (simp; done) | (simp; omega)))))
  all_goals simp [inB]
set_option maxRecDepth 100000 in
theorem impl_Chunk_end (o : Int) (d : List UInt8) (h : 0 ≤ o ∧ o ≤ 4611686018427387903 - (d.length : Int)) : PureCall Try.prog 29 [.agg [.int .i64 o, .str d]] [.one (.int .i64 (o + d.length))] := by
  refine pure_ev Try.func29 rfl Try.call29 Try.checked.mixed [.agg [.d (.int .i64 o), .d (.str d)], .junk, .junk, .junk, .junk, .junk, .junk, .junk, .junk] rfl [.tmp 2] rfl ?_
  intro _
  have hw : IntKind.i64.wrap (o + d.length) = o + d.length := by rw [w64] <;> omega
  try simp only [go_sem, hw]
  repeat' (first
    | (with_reducible refine gTrueS ?_; simp only [go_sem, hw]) | (with_reducible refine gFalseS ?_; simp only [go_sem, hw]) | (with_reducible refine gTrue ?_; simp only [go_sem, hw]) | (with_reducible refine gFalse ?_; simp only [go_sem, hw])
    | (refine gSymS ?_; simp only [go_sem, hw]) | (refine gSym ?_; simp only [go_sem, hw])
    | (refine cSplit (fun h => ?_) (fun h => ?_) <;> simp only [go_sem, hw])
    | (with_reducible refine And.intro ?_ ?_; (focus (first | omega | (exact ⟨by omega, by omega⟩) | (simp; done) | (simp; omega)))))
  all_goals simp

def chOk (lo : Int) (c : TChunk) : Bool := decide (c.data ≠ []) && decide (lo ≤ c.offset) && decide (c.offset ≤ 4611686018427387903 - (c.data.length : Int))
theorem chk_drop (lo : Int) (xs : List TChunk) (i : Nat) (h : i < xs.length) : chk lo (xs.drop i) = (chOk lo xs[i] && chk (xs[i].offset + xs[i].data.length + 1) (xs.drop (i + 1))) := by
  rw [List.drop_eq_getElem_cons h]; rfl
theorem byteAt_drop (xs : List TChunk) (o : Int) (i : Nat) (h : i < xs.length) : byteAt (xs.drop i) o = if hitB o xs[i] = true then ((((xs[i].data[(o - xs[i].offset).toNat]?).getD 0).toNat : Nat) : Int) else byteAt (xs.drop (i + 1)) o := by
  rw [List.drop_eq_getElem_cons h]; rfl
theorem isBuf_of {n : Int} {xs : List TChunk} (h : inB n 0 4611686018427387903 = true) : isBuf ⟨n, xs⟩ = chk n xs := by
  show (inB n 0 4611686018427387903 && chk n xs) = _; rw [h]; rfl
theorem isBuf_no {n : Int} {xs : List TChunk} (h : inB n 0 4611686018427387903 = false) : isBuf ⟨n, xs⟩ = false := by
  show (inB n 0 4611686018427387903 && chk n xs) = _; rw [h]; rfl
theorem chOk_iff (lo : Int) (c : TChunk) : chOk lo c = true ↔ c.data ≠ [] ∧ lo ≤ c.offset ∧ c.offset ≤ 4611686018427387903 - (c.data.length : Int) := by
  simp only [chOk, Bool.and_eq_true, decide_eq_true_eq, and_assoc]
theorem dl0 (d : List UInt8) : decide ((d.length : Int) = 0) = decide (d = []) := by cases d <;> simp; omega

set_option maxRecDepth 100000 in
theorem impl_IsBuffer (n : Int) (xs : List TChunk) (hb : ∀ c ∈ xs, c.data.length ≤ 1048576) (hx : xs.length ≤ 1048576) : PureCall Try.prog 26 [.agg [.int .i64 n, .sl 2 (xs.map TChunk.enc)]] [.one (.bool (isBuf ⟨n, xs⟩))] := by
  refine pure_ev Try.func26 rfl Try.call26 Try.checked.mixed [.agg [.d (.int .i64 n), .d (.sl 2 (xs.map TChunk.enc))], .junk, .junk, .junk, .junk, .junk, .junk, .junk, .junk, .junk, .junk, .junk, .junk, .junk, .junk, .junk, .junk, .junk, .junk, .junk, .junk, .junk, .junk, .junk, .junk, .junk, .junk, .junk, .junk, .junk, .junk, .junk, .junk, .junk, .junk, .junk, .junk, .junk, .junk, .junk, .junk, .junk] rfl [.tmp 2] rfl ?_
  intro ok
  simp only [go_sem]
  refine CallS.intro (impl_isQuic n) ?_
  simp only [go_sem]
  refine cSplit (fun h0 => ?_) (fun h0 => ?_)
  · have hq : inB n 0 4611686018427387903 = false := by simpa using h0
    simp only [go_sem]
    rw [isBuf_no hq]
  · have hq : inB n 0 4611686018427387903 = true := by simpa using h0
    have hq2 : 0 ≤ n ∧ n ≤ 4611686018427387903 := by simpa [inB] using hq
    simp only [go_sem, List.length_map]
    refine LoopK.intro (fun p : Nat × Int => ⟨[.junk, .ptr 0 0 0, .d (.bool false), .d (.int .i64 p.2), .junk, .junk, .junk, .junk, .junk, .junk, .junk, .junk, .junk, .d (.sl 2 (xs.map TChunk.enc)), .d (.int .i64 xs.length), .d (.int .i64 p.1), .junk, .junk, .junk, .junk, .junk, .junk, .junk, .junk, .junk, .junk, .junk, .junk, .junk, .junk, .junk, .junk, .junk, .junk, .junk, .junk, .junk, .junk, .junk, .junk, .junk, .junk], [.box [.d (.int .i64 n), .d (.sl 2 (xs.map TChunk.enc))]]⟩)
      (fun p => xs.length - p.1) (fun p => p.1 ≤ xs.length ∧ 0 ≤ p.2 ∧ p.2 ≤ 4611686018427387904 ∧ chk p.2 (xs.drop p.1) = chk n xs) (0, n) [0] ⟨by simp, by omega, by omega, rfl⟩ ?_ ?_
    · simp only [go_sem]; simp
    · rintro ⟨i, lo⟩ ⟨hi, hlo, hlo2, he⟩
      simp only at hi hlo hlo2 he
      simp only [go_sem]
      refine cSplit (fun h1 => ?_) (fun h1 => ?_)
      · have h1' := of_decide_eq_true h1
        have hlt : i < xs.length := by omega
        have hxi := map_at TChunk.enc xs i hlt
        have hw := inc (i := i) (m := xs.length) hlt (by simp only [maxLen]; omega)
        have hdl := hb xs[i] (List.getElem_mem hlt)
        have hws : IntKind.i64.wrap (4611686018427387903 - (xs[i].data.length : Int)) = 4611686018427387903 - (xs[i].data.length : Int) := by rw [w64] <;> omega
        have hcd := chk_drop lo xs i hlt
        by_cases hok : chOk lo xs[i] = true
        · rw [hok, Bool.true_and] at hcd
          obtain ⟨f1, f2, f3⟩ := (chOk_iff _ _).1 hok
          have hne : xs[i].data.length ≠ 0 := by simpa using f1
          have e1 : decide ((xs[i].data.length : Int) = 0) = false := decide_eq_false (by omega)
          have e2 : decide (xs[i].offset < lo) = false := decide_eq_false (by omega)
          have e3 : decide (4611686018427387903 - (xs[i].data.length : Int) < xs[i].offset) = false := decide_eq_false (by omega)
          have hwe : IntKind.i64.wrap (xs[i].offset + (xs[i].data.length : Int) + 1) = xs[i].offset + (xs[i].data.length : Int) + 1 := by rw [w64] <;> omega
          have hend : 0 ≤ xs[i].offset ∧ xs[i].offset ≤ 4611686018427387903 - (xs[i].data.length : Int) := ⟨by omega, by omega⟩
          try simp only [go_sem, List.length_map, Int.toNat_natCast, hxi, TChunk.enc, e1]
          repeat' (first
            | (refine CallS.intro (by first | assumption | (apply impl_isQuic <;> first | assumption | omega) | (apply impl_Chunk_end <;> first | assumption | omega)) ?_; simp only [go_sem])
            | (refine CallK.intro (by first | assumption | (apply impl_isQuic <;> first | assumption | omega) | (apply impl_Chunk_end <;> first | assumption | omega)) ?_; simp only [go_sem, List.length_map, Int.toNat_natCast, hxi, TChunk.enc, hws, e1, e2, e3])
            | (with_reducible refine gTrueS ?_; simp only [go_sem, hws, e2, e3]) | (with_reducible refine gFalseS ?_; simp only [go_sem, List.length_map, Int.toNat_natCast, hxi, TChunk.enc, hws, e1, e2, e3]) | (with_reducible refine gTrue ?_; simp only [go_sem, List.length_map, Int.toNat_natCast, hxi, TChunk.enc, hws, e1, e2, e3]) | (with_reducible refine gFalse ?_; simp only [go_sem, List.length_map, Int.toNat_natCast, hxi, TChunk.enc, hws, e1, e2, e3])
            | (refine gSymS ?_; simp only [go_sem, List.length_map, Int.toNat_natCast, hxi, TChunk.enc, hws, e1, e2, e3]) | (refine gSym ?_; simp only [go_sem, List.length_map, Int.toNat_natCast, hxi, TChunk.enc, hws, e1, e2, e3])
            | (refine cSplit (fun h => ?_) (fun h => ?_) <;> simp only [go_sem, List.length_map, Int.toNat_natCast, hxi, TChunk.enc, hws, e1, e2, e3])
            | (with_reducible refine And.intro ?_ ?_; (focus (first | omega | (exact ⟨by omega, by omega⟩) | (simp; done) | (simp; omega)))))
          all_goals (refine RoundE.intro (i + 1, xs[i].offset + (xs[i].data.length : Int) + 1) [0] ⟨by simp only; omega, by simp only; omega, by simp only; omega, by rw [← he, hcd]⟩ (by simp only; omega) ?_; simp only [go_sem, hw, hwe]; try simp)
        · have hok2 : chOk lo xs[i] = false := by simpa using hok
          rw [hok2, Bool.false_and] at hcd
          have hz : (bif bif decide ((xs[i].data.length : Int) = 0) then true else decide (xs[i].offset < lo) then true else decide (4611686018427387903 - (xs[i].data.length : Int) < xs[i].offset)) = true := by
            rw [dl0]
            by_cases g1 : xs[i].data = []
            · simp [g1]
            · by_cases g2 : xs[i].offset < lo
              · simp [g1, g2]
              · by_cases g3 : 4611686018427387903 - (xs[i].data.length : Int) < xs[i].offset
                · simp [g3]
                · exact absurd ((chOk_iff _ _).2 ⟨g1, by omega, by omega⟩) hok
          try simp only [go_sem, List.length_map, Int.toNat_natCast, hxi, TChunk.enc]
          repeat' (first
            | (refine CallS.intro (by first | assumption | (apply impl_isQuic <;> first | assumption | omega) | (apply impl_Chunk_end <;> first | assumption | omega)) ?_; simp only [go_sem, List.length_map, Int.toNat_natCast, hxi, TChunk.enc, hws, hz])
            | (refine CallK.intro (by first | assumption | (apply impl_isQuic <;> first | assumption | omega) | (apply impl_Chunk_end <;> first | assumption | omega)) ?_; simp only [go_sem, List.length_map, Int.toNat_natCast, hxi, TChunk.enc, hws, hz])
            | (with_reducible refine gTrueS ?_; simp only [go_sem, List.length_map, Int.toNat_natCast, hxi, TChunk.enc, hws, hz]) | (with_reducible refine gFalseS ?_; simp only [go_sem, List.length_map, Int.toNat_natCast, hxi, TChunk.enc, hws, hz]) | (with_reducible refine gTrue ?_; simp only [go_sem, List.length_map, Int.toNat_natCast, hxi, TChunk.enc, hws, hz]) | (with_reducible refine gFalse ?_; simp only [go_sem, List.length_map, Int.toNat_natCast, hxi, TChunk.enc, hws, hz])
            | (refine gSymS ?_; simp only [go_sem, hws, hz]) | (refine gSym ?_; simp only [go_sem, List.length_map, Int.toNat_natCast, hxi, TChunk.enc, hws, hz])
            | (refine cSplit (fun h => ?_) (fun h => ?_) <;> simp only [go_sem, List.length_map, Int.toNat_natCast, hxi, TChunk.enc, hws, hz])
            | (with_reducible refine And.intro ?_ ?_; (focus (first | omega | (exact ⟨by omega, by omega⟩) | (simp; done) | (simp; omega)))))
          all_goals (rw [isBuf_of hq, ← he, hcd])
      · have h1' := of_decide_eq_false h1
        have hi2 : i = xs.length := by omega
        subst hi2
        simp only [go_sem]
        rw [isBuf_of hq, ← he, List.drop_length]; rfl

set_option maxRecDepth 100000 in
theorem spec_IsBuffer (n : Int) (xs : List TChunk) (hb : ∀ c ∈ xs, c.data.length ≤ 1048576) (hx : xs.length ≤ 1048576) : PureCall Try.prog 45 [.agg [.int .i64 n, .sl 2 (xs.map TChunk.enc)]] [.one (.bool (isBuf ⟨n, xs⟩))] := by
  refine pure_ev Try.func45 rfl Try.call45 Try.checked.mixed [.agg [.d (.int .i64 n), .d (.sl 2 (xs.map TChunk.enc))], .junk, .junk, .junk, .junk, .junk, .junk, .junk, .junk, .junk, .junk, .junk, .junk, .junk, .junk, .junk, .junk, .junk, .junk, .junk, .junk, .junk, .junk, .junk, .junk, .junk, .junk, .junk, .junk, .junk, .junk, .junk, .junk, .junk, .junk, .junk, .junk, .junk, .junk, .junk, .junk, .junk, .junk, .junk, .junk, .junk, .junk, .junk] rfl [.tmp 2] rfl ?_
  intro ok
  simp only [go_sem]
  have hn0 : inB n 0 4611686018427387903 = true → 0 ≤ n ∧ n ≤ 4611686018427387903 := fun h => by simpa [inB] using h
  have hini : inB n 0 4611686018427387903 = true → -1 ≤ IntKind.i64.wrap (n - 1) ∧ IntKind.i64.wrap (n - 1) ≤ 4611686018427387903 ∧ chk (IntKind.i64.wrap (n - 1) + 1) (xs.drop 0) = chk n xs := by
    intro hq
    have := hn0 hq
    have hw1 : IntKind.i64.wrap (n - 1) = n - 1 := by rw [w64] <;> omega
    rw [hw1]
    exact ⟨by omega, by omega, by rw [show n - 1 + 1 = n from by omega, List.drop_zero]⟩
  refine LoopK.intro (fun p : Nat × Int => ⟨[.junk, .ptr 0 0 0, .d (.bool false), .d (.int .i64 p.2), .d (.int .i64 p.1), .junk, .junk, .junk, .junk, .junk, .junk, .junk, .junk, .junk, .junk, .junk, .junk, .junk, .junk, .junk, .junk, .junk, .junk, .junk, .junk, .junk, .junk, .junk, .junk, .junk, .junk, .junk, .junk, .junk, .junk, .junk, .junk, .junk, .junk, .junk, .junk, .junk, .junk, .junk, .junk, .junk, .junk, .junk], [.box [.d (.int .i64 n), .d (.sl 2 (xs.map TChunk.enc))]]⟩)
      (fun p => xs.length - p.1) (fun p => p.1 ≤ xs.length ∧ (inB n 0 4611686018427387903 = true → -1 ≤ p.2 ∧ p.2 ≤ 4611686018427387903 ∧ chk (p.2 + 1) (xs.drop p.1) = chk n xs)) (0, IntKind.i64.wrap (n - 1)) [0] ⟨by simp, hini⟩ ?_ ?_
  · simp only [go_sem]; simp
  · rintro ⟨i, e⟩ ⟨hi, hq⟩
    simp only at hi hq
    simp only [go_sem, List.length_map]
    refine cSplit (fun h1 => ?_) (fun h1 => ?_)
    · have h1' := of_decide_eq_true h1
      have hlt : i < xs.length := by omega
      have hxi := map_at TChunk.enc xs i hlt
      have hw := inc (i := i) (m := xs.length) hlt (by simp only [maxLen]; omega)
      have hdl := hb xs[i] (List.getElem_mem hlt)
      have hws : IntKind.i64.wrap (4611686018427387903 - (xs[i].data.length : Int)) = 4611686018427387903 - (xs[i].data.length : Int) := by rw [w64] <;> omega
      have hcd := chk_drop (e + 1) xs i hlt
      have hz : (bif bif decide (xs[i].offset ≤ e) then true else decide (xs[i].data = []) then true else decide (4611686018427387903 - (xs[i].data.length : Int) < xs[i].offset)) = !chOk (e + 1) xs[i] := by
        have hf1 : decide (e + 1 ≤ xs[i].offset) = !decide (xs[i].offset ≤ e) := by by_cases g : xs[i].offset ≤ e <;> simp [g] <;> omega
        have hf2 : decide (xs[i].data ≠ []) = !decide (xs[i].data = []) := by simp
        have hf3 : decide (xs[i].offset ≤ 4611686018427387903 - (xs[i].data.length : Int)) = !decide (4611686018427387903 - (xs[i].data.length : Int) < xs[i].offset) := by by_cases g : 4611686018427387903 - (xs[i].data.length : Int) < xs[i].offset <;> simp [g] <;> omega
        unfold chOk
        rw [hf1, hf2, hf3]
        cases decide (xs[i].offset ≤ e) <;> cases decide (xs[i].data = []) <;> cases decide (4611686018427387903 - (xs[i].data.length : Int) < xs[i].offset) <;> rfl
      cases hok : chOk (e + 1) xs[i] with
      | true =>
        rw [hok] at hz hcd
        simp only [Bool.true_and, Bool.not_true] at hz hcd
        obtain ⟨f1, f2, f3⟩ := (chOk_iff _ _).1 hok
        try simp only [go_sem, List.length_map, Int.toNat_natCast, hxi, TChunk.enc]
        repeat' (first
          | (refine CallS.intro (by first | assumption | (apply spec_l4Quic <;> first | assumption | omega)) ?_; simp only [go_sem, List.length_map, Int.toNat_natCast, hxi, TChunk.enc, hws, hz])
          | (refine CallK.intro (by first | assumption | (apply spec_l4Quic <;> first | assumption | omega)) ?_; simp only [go_sem, List.length_map, Int.toNat_natCast, hxi, TChunk.enc, hws, hz])
          | (with_reducible refine gTrueS ?_; simp only [go_sem, List.length_map, Int.toNat_natCast, hxi, TChunk.enc, hws, hz]) | (with_reducible refine gFalseS ?_; simp only [go_sem, List.length_map, Int.toNat_natCast, hxi, TChunk.enc, hws, hz]) | (with_reducible refine gTrue ?_; simp only [go_sem, List.length_map, Int.toNat_natCast, hxi, TChunk.enc, hws, hz]) | (with_reducible refine gFalse ?_; simp only [go_sem, List.length_map, Int.toNat_natCast, hxi, TChunk.enc, hws, hz])
          | (refine gSymS ?_; simp only [go_sem, hws, hz]) | (refine gSym ?_; simp only [go_sem, List.length_map, Int.toNat_natCast, hxi, TChunk.enc, hws, hz])
          | (refine cSplit (fun h => ?_) (fun h => ?_) <;> simp only [go_sem, List.length_map, Int.toNat_natCast, hxi, TChunk.enc, hws, hz])
          | (with_reducible refine And.intro ?_ ?_; (focus (first | omega | (exact ⟨by omega, by omega⟩) | (simp; done) | (simp; omega)))))
        all_goals (refine RoundE.intro (i + 1, IntKind.i64.wrap (xs[i].offset + (xs[i].data.length : Int))) [0] ⟨by simp only; omega, fun hqq => ?_⟩ (by simp only; omega) ?_)
        all_goals first
          | (simp only [go_sem, hw]; done)
          | (simp only [go_sem, hw]; simp; done)
          | (obtain ⟨he1, he2, he⟩ := hq hqq
             have hw2 : IntKind.i64.wrap (xs[i].offset + (xs[i].data.length : Int)) = xs[i].offset + (xs[i].data.length : Int) := by rw [w64] <;> omega
             simp only [hw2]
             exact ⟨by omega, by omega, by rw [← he, hcd]⟩)
      | false =>
        rw [hok] at hz hcd
        simp only [Bool.false_and, Bool.not_false] at hz hcd
        try simp only [go_sem, List.length_map, Int.toNat_natCast, hxi, TChunk.enc]
        repeat' (first
          | (refine CallS.intro (by first | assumption | (apply spec_l4Quic <;> first | assumption | omega)) ?_; simp only [go_sem, List.length_map, Int.toNat_natCast, hxi, TChunk.enc, hws, hz])
          | (refine CallK.intro (by first | assumption | (apply spec_l4Quic <;> first | assumption | omega)) ?_; simp only [go_sem, List.length_map, Int.toNat_natCast, hxi, TChunk.enc, hws, hz])
          | (with_reducible refine gTrueS ?_; simp only [go_sem, List.length_map, Int.toNat_natCast, hxi, TChunk.enc, hws, hz]) | (with_reducible refine gFalseS ?_; simp only [go_sem, List.length_map, Int.toNat_natCast, hxi, TChunk.enc, hws, hz]) | (with_reducible refine gTrue ?_; simp only [go_sem, List.length_map, Int.toNat_natCast, hxi, TChunk.enc, hws, hz]) | (with_reducible refine gFalse ?_; simp only [go_sem, List.length_map, Int.toNat_natCast, hxi, TChunk.enc, hws, hz])
          | (refine gSymS ?_; simp only [go_sem, hws, hz]) | (refine gSym ?_; simp only [go_sem, List.length_map, Int.toNat_natCast, hxi, TChunk.enc, hws, hz])
          | (refine cSplit (fun h => ?_) (fun h => ?_) <;> simp only [go_sem, List.length_map, Int.toNat_natCast, hxi, TChunk.enc, hws, hz])
          | (with_reducible refine And.intro ?_ ?_; (focus (first | omega | (exact ⟨by omega, by omega⟩) | (simp; done) | (simp; omega)))))
        all_goals (cases hqq : inB n 0 4611686018427387903 with | false => rw [isBuf_no hqq] | true => rw [isBuf_of hqq, ← (hq hqq).2.2, hcd])
    · have h1' := of_decide_eq_false h1
      have hi2 : i = xs.length := by omega
      subst hi2
      simp only [go_sem]
      refine CallS.intro (spec_l4Quic n) ?_
      simp only [go_sem]
      cases hqq : inB n 0 4611686018427387903 with
      | false => rw [isBuf_no hqq]
      | true => rw [isBuf_of hqq, ← (hq hqq).2.2, List.drop_length]; rfl

set_option maxRecDepth 100000 in
theorem impl_EndOf (n : Int) (xs : List TChunk) (hb : ∀ c ∈ xs, c.data.length ≤ 1048576) (hx : xs.length ≤ 1048576) : PureCall Try.prog 35 [.agg [.int .i64 n, .sl 2 (xs.map TChunk.enc)]] [.one (.int .i64 (endOf ⟨n, xs⟩))] := by
  refine pure_ev Try.func35 rfl Try.call35 Try.checked.mixed [.agg [.d (.int .i64 n), .d (.sl 2 (xs.map TChunk.enc))], .junk, .junk, .junk, .junk, .junk, .junk, .junk, .junk, .junk, .junk, .junk, .junk, .junk, .junk, .junk, .junk, .junk, .junk, .junk, .junk, .junk, .junk] rfl [.tmp 2] rfl ?_
  intro ok
  cases hI : isBuf ⟨n, xs⟩ with
  | false =>
    have hbl : ∀ b : Bool, (bif b then true else true) = true := fun b => by cases b <;> rfl
    try simp only [go_sem]
    repeat' (first
      | (refine CallS.intro (by first | assumption | (apply impl_IsBuffer <;> first | assumption | omega) | (apply impl_Chunk_end <;> first | assumption | omega)) ?_; simp only [go_sem, hI])
      | (refine CallK.intro (by first | assumption | (apply impl_IsBuffer <;> first | assumption | omega) | (apply impl_Chunk_end <;> first | assumption | omega)) ?_; simp only [go_sem, List.length_map, hI, hbl])
      | (with_reducible refine gTrueS ?_; simp only [go_sem, List.length_map, hI, hbl]) | (with_reducible refine gFalseS ?_; simp only [go_sem]) | (with_reducible refine gTrue ?_; simp only [go_sem, List.length_map, hI, hbl]) | (with_reducible refine gFalse ?_; simp only [go_sem, List.length_map, hI, hbl])
      | (refine gSymS ?_; simp only [go_sem, List.length_map, hI, hbl]) | (refine gSym ?_; simp only [go_sem, List.length_map, hI, hbl])
      | (refine cSplit (fun h => ?_) (fun h => ?_) <;> simp only [go_sem, List.length_map, hI, hbl])
      | (with_reducible refine And.intro ?_ ?_; (focus (first | omega | (exact ⟨by omega, by omega⟩) | (simp; done) | (simp; omega)))))
    all_goals simp [endOf, hI]
  | true =>
    cases hxs : xs with
    | nil =>
      rw [← hxs]
      have e1 : decide ((xs.length : Int) = 0) = true := by rw [hxs]; rfl
      have hln : xs.getLast? = none := by rw [hxs]; rfl
      try simp only [go_sem]
      repeat' (first
        | (refine CallS.intro (by first | assumption | (apply impl_IsBuffer <;> first | assumption | omega) | (apply impl_Chunk_end <;> first | assumption | omega)) ?_; simp only [go_sem, hI])
        | (refine CallK.intro (by first | assumption | (apply impl_IsBuffer <;> first | assumption | omega) | (apply impl_Chunk_end <;> first | assumption | omega)) ?_; simp only [go_sem, List.length_map, hI, e1])
        | (with_reducible refine gTrueS ?_; simp only [go_sem, List.length_map, e1]) | (with_reducible refine gFalseS ?_; simp only [go_sem, List.length_map, hI, e1]) | (with_reducible refine gTrue ?_; simp only [go_sem, List.length_map, hI, e1]) | (with_reducible refine gFalse ?_; simp only [go_sem, List.length_map, hI, e1])
        | (refine gSymS ?_; simp only [go_sem, List.length_map, hI, e1]) | (refine gSym ?_; simp only [go_sem, List.length_map, hI, e1])
        | (refine cSplit (fun h => ?_) (fun h => ?_) <;> simp only [go_sem, List.length_map, hI, e1])
        | (with_reducible refine And.intro ?_ ?_; (focus (first | omega | (exact ⟨by omega, by omega⟩) | (simp; done) | (simp; omega)))))
      all_goals simp [endOf, hI, hln]
    | cons c0 cs0 =>
      rw [← hxs]
      have hlen : 0 < xs.length := by rw [hxs]; simp
      obtain ⟨m, hm⟩ : ∃ m, xs.length = m + 1 := ⟨xs.length - 1, by omega⟩
      have hlt : m < xs.length := by omega
      have hxi := map_at TChunk.enc xs m hlt
      have hl : xs.getLast? = some xs[m] := by rw [List.getLast?_eq_getElem?, hm, Nat.add_sub_cancel, List.getElem?_eq_getElem]
      have e1 : decide ((xs.length : Int) = 0) = false := decide_eq_false (by omega)
      have hw : IntKind.i64.wrap ((xs.length : Int) - 1) = (m : Int) := by rw [w64] <;> omega
      have hq := hI
      have hnn : 0 ≤ n ∧ chk n xs = true := by
        simp only [isBuf, Bool.and_eq_true, inB, decide_eq_true_eq] at hq; exact ⟨hq.1.1, hq.2⟩
      have hc := chk_mem xs n hnn.2 xs[m] (List.getElem_mem hlt)
      have hend : 0 ≤ xs[m].offset ∧ xs[m].offset ≤ 4611686018427387903 - (xs[m].data.length : Int) := ⟨by omega, hc.2⟩
      have hwe : IntKind.i64.wrap (xs[m].offset + (xs[m].data.length : Int)) = xs[m].offset + (xs[m].data.length : Int) := by rw [w64] <;> omega
      try simp only [go_sem]
      repeat' (first
        | (refine CallS.intro (by first | assumption | (apply impl_IsBuffer <;> first | assumption | omega) | (apply impl_Chunk_end <;> first | assumption | omega)) ?_; simp only [go_sem, hI])
        | (refine CallK.intro (by first | assumption | (apply impl_IsBuffer <;> first | assumption | omega) | (apply impl_Chunk_end <;> first | assumption | omega)) ?_; simp only [go_sem, List.length_map, Int.toNat_natCast, hxi, TChunk.enc, hI, e1, hw, hwe])
        | (with_reducible refine gTrueS ?_; simp only [go_sem, List.length_map, Int.toNat_natCast, hxi, TChunk.enc, e1, hw]) | (with_reducible refine gFalseS ?_; simp only [go_sem, List.length_map, Int.toNat_natCast, hxi, TChunk.enc, hI, e1, hw, hwe]) | (with_reducible refine gTrue ?_; simp only [go_sem, List.length_map, Int.toNat_natCast, hxi, TChunk.enc, hI, e1, hw, hwe]) | (with_reducible refine gFalse ?_; simp only [go_sem, List.length_map, Int.toNat_natCast, hxi, TChunk.enc, hI, e1, hw, hwe])
        | (refine gSymS ?_; simp only [go_sem, List.length_map, Int.toNat_natCast, hxi, TChunk.enc, hI, e1, hw, hwe]) | (refine gSym ?_; simp only [go_sem, List.length_map, Int.toNat_natCast, hxi, TChunk.enc, hI, e1, hw, hwe])
        | (refine cSplit (fun h => ?_) (fun h => ?_) <;> simp only [go_sem, List.length_map, Int.toNat_natCast, hxi, TChunk.enc, hI, e1, hw, hwe])
        | (with_reducible refine And.intro ?_ ?_; (focus (first | omega | (exact ⟨by omega, by omega⟩) | (simp; done) | (simp; omega)))))
      all_goals simp [endOf, hI, hl]

set_option maxRecDepth 100000 in
theorem spec_EndOf (n : Int) (xs : List TChunk) (hb : ∀ c ∈ xs, c.data.length ≤ 1048576) (hx : xs.length ≤ 1048576) : PureCall Try.prog 46 [.agg [.int .i64 n, .sl 2 (xs.map TChunk.enc)]] [.one (.int .i64 (endOf ⟨n, xs⟩))] := by
  refine pure_ev Try.func46 rfl Try.call46 Try.checked.mixed [.agg [.d (.int .i64 n), .d (.sl 2 (xs.map TChunk.enc))], .junk, .junk, .junk, .junk, .junk, .junk, .junk, .junk, .junk, .junk, .junk, .junk, .junk, .junk, .junk, .junk, .junk, .junk, .junk, .junk, .junk, .junk, .junk, .junk, .junk, .junk, .junk, .junk] rfl [.tmp 2] rfl ?_
  intro ok
  cases hI : isBuf ⟨n, xs⟩ with
  | false =>
    have hbl : ∀ b : Bool, (bif b then true else true) = true := fun b => by cases b <;> rfl
    try simp only [go_sem, List.length_map]
    repeat' (first
      | (refine CallS.intro (by first | assumption | (apply spec_IsBuffer <;> first | assumption | omega)) ?_; simp only [go_sem, List.length_map, hI, hbl])
      | (refine CallK.intro (by first | assumption | (apply spec_IsBuffer <;> first | assumption | omega)) ?_; simp only [go_sem, hI])
      | (with_reducible refine gTrueS ?_; simp only [go_sem, List.length_map, hI, hbl]) | (with_reducible refine gFalseS ?_; simp only [go_sem, List.length_map, hI, hbl]) | (with_reducible refine gTrue ?_; simp only [go_sem, List.length_map, hI, hbl]) | (with_reducible refine gFalse ?_; simp only [go_sem, List.length_map, hI, hbl])
      | (refine gSymS ?_; simp only [go_sem, hbl]) | (refine gSym ?_; simp only [go_sem, List.length_map, hI, hbl])
      | (refine cSplit (fun h => ?_) (fun h => ?_) <;> simp only [go_sem, List.length_map, hI, hbl])
      | (with_reducible refine And.intro ?_ ?_; (focus (first | omega | (exact ⟨by omega, by omega⟩) | (simp; done) | (simp; omega)))))
    all_goals simp [endOf, hI]
  | true =>
    cases hxs : xs with
    | nil =>
      rw [← hxs]
      have e1 : decide ((xs.length : Int) = 0) = true := by rw [hxs]; rfl
      have hln : xs.getLast? = none := by rw [hxs]; rfl
      try simp only [go_sem, List.length_map, e1]
      repeat' (first
        | (refine CallS.intro (by first | assumption | (apply spec_IsBuffer <;> first | assumption | omega)) ?_; simp only [go_sem, List.length_map, hI, e1])
        | (refine CallK.intro (by first | assumption | (apply spec_IsBuffer <;> first | assumption | omega)) ?_; simp only [go_sem, List.length_map, hI, e1])
        | (with_reducible refine gTrueS ?_; simp only [go_sem, List.length_map, hI, e1]) | (with_reducible refine gFalseS ?_; simp only [go_sem]) | (with_reducible refine gTrue ?_; simp only [go_sem, List.length_map, hI, e1]) | (with_reducible refine gFalse ?_; simp only [go_sem, List.length_map, hI, e1])
        | (refine gSymS ?_; simp only [go_sem, List.length_map, hI, e1]) | (refine gSym ?_; simp only [go_sem, List.length_map, hI, e1])
        | (refine cSplit (fun h => ?_) (fun h => ?_) <;> simp only [go_sem, List.length_map, hI, e1])
        | (with_reducible refine And.intro ?_ ?_; (focus (first | omega | (exact ⟨by omega, by omega⟩) | (simp; done) | (simp; omega)))))
      all_goals simp [endOf, hI, hln]
    | cons c0 cs0 =>
      rw [← hxs]
      have hlen : 0 < xs.length := by rw [hxs]; simp
      obtain ⟨m, hm⟩ : ∃ m, xs.length = m + 1 := ⟨xs.length - 1, by omega⟩
      have hlt : m < xs.length := by omega
      have hxi := map_at TChunk.enc xs m hlt
      have hl : xs.getLast? = some xs[m] := by rw [List.getLast?_eq_getElem?, hm, Nat.add_sub_cancel, List.getElem?_eq_getElem]
      have e1 : decide ((xs.length : Int) = 0) = false := decide_eq_false (by omega)
      have hw : IntKind.i64.wrap ((xs.length : Int) - 1) = (m : Int) := by rw [w64] <;> omega
      have hq := hI
      have hnn : 0 ≤ n ∧ chk n xs = true := by
        simp only [isBuf, Bool.and_eq_true, inB, decide_eq_true_eq] at hq; exact ⟨hq.1.1, hq.2⟩
      have hc := chk_mem xs n hnn.2 xs[m] (List.getElem_mem hlt)
      have hend : 0 ≤ xs[m].offset ∧ xs[m].offset ≤ 4611686018427387903 - (xs[m].data.length : Int) := ⟨by omega, hc.2⟩
      have hwe : IntKind.i64.wrap (xs[m].offset + (xs[m].data.length : Int)) = xs[m].offset + (xs[m].data.length : Int) := by rw [w64] <;> omega
      try simp only [go_sem, List.length_map, e1]
      repeat' (first
        | (refine CallS.intro (by first | assumption | (apply spec_IsBuffer <;> first | assumption | omega)) ?_; simp only [go_sem, hI])
        | (refine CallK.intro (by first | assumption | (apply spec_IsBuffer <;> first | assumption | omega)) ?_; simp only [go_sem, List.length_map, Int.toNat_natCast, hxi, TChunk.enc, hI, e1, hw, hwe])
        | (with_reducible refine gTrueS ?_; simp only [go_sem, List.length_map, Int.toNat_natCast, hxi, TChunk.enc, hw, hwe]) | (with_reducible refine gFalseS ?_; simp only [go_sem, List.length_map, Int.toNat_natCast, hxi, TChunk.enc, hI, e1, hw, hwe]) | (with_reducible refine gTrue ?_; simp only [go_sem, List.length_map, Int.toNat_natCast, hxi, TChunk.enc, hI, e1, hw, hwe]) | (with_reducible refine gFalse ?_; simp only [go_sem, List.length_map, Int.toNat_natCast, hxi, TChunk.enc, hI, e1, hw, hwe])
        | (refine gSymS ?_; simp only [go_sem, List.length_map, Int.toNat_natCast, hxi, TChunk.enc, hI, e1, hw, hwe]) | (refine gSym ?_; simp only [go_sem, List.length_map, Int.toNat_natCast, hxi, TChunk.enc, hI, e1, hw, hwe])
        | (refine cSplit (fun h => ?_) (fun h => ?_) <;> simp only [go_sem, List.length_map, Int.toNat_natCast, hxi, TChunk.enc, hI, e1, hw, hwe])
        | (with_reducible refine And.intro ?_ ?_; (focus (first | omega | (exact ⟨by omega, by omega⟩) | (simp; done) | (simp; omega)))))
      all_goals simp [endOf, hI, hl]

set_option maxRecDepth 100000 in
theorem spec_ByteAt (n : Int) (xs : List TChunk) (o : Int) (hb : ∀ c ∈ xs, c.data.length ≤ 1048576) (hx : xs.length ≤ 1048576) : PureCall Try.prog 48 [.agg [.int .i64 n, .sl 2 (xs.map TChunk.enc)], .one (.int .i64 o)] [.one (.int .i64 (byteAt xs o))] := by
  refine pure_ev Try.func48 rfl Try.call48 Try.checked.mixed [.agg [.d (.int .i64 n), .d (.sl 2 (xs.map TChunk.enc))], .d (.int .i64 o), .junk, .junk, .junk, .junk, .junk, .junk, .junk, .junk, .junk, .junk, .junk, .junk, .junk, .junk, .junk, .junk, .junk, .junk, .junk, .junk, .junk, .junk, .junk, .junk, .junk, .junk, .junk, .junk, .junk, .junk, .junk, .junk, .junk, .junk, .junk, .junk, .junk, .junk, .junk, .junk, .junk, .junk, .junk, .junk, .junk, .junk, .junk, .junk, .junk, .junk, .junk, .junk, .junk, .junk, .junk] rfl [.tmp 4] rfl ?_
  intro ok
  have ho := i64_of ok.2.1
  simp only [go_sem]
  refine LoopK.intro (fun i : Nat => ⟨[.junk, .d (.int .i64 o), .ptr 0 0 0, .junk, .d (.int .i64 0), .d (.int .i64 i), .junk, .junk, .junk, .junk, .junk, .junk, .junk, .junk, .junk, .junk, .junk, .junk, .junk, .junk, .junk, .junk, .junk, .junk, .junk, .junk, .junk, .junk, .junk, .junk, .junk, .junk, .junk, .junk, .junk, .junk, .junk, .junk, .junk, .junk, .junk, .junk, .junk, .junk, .junk, .junk, .junk, .junk, .junk, .junk, .junk, .junk, .junk, .junk, .junk, .junk, .junk], [.box [.d (.int .i64 n), .d (.sl 2 (xs.map TChunk.enc))]]⟩)
      (fun i => xs.length - i) (fun i => i ≤ xs.length ∧ byteAt (xs.drop i) o = byteAt xs o) 0 [0] ⟨by omega, rfl⟩ ?_ ?_
  · simp only [go_sem]; simp
  · rintro i ⟨hi, he⟩
    simp only [go_sem, List.length_map]
    refine cSplit (fun h1 => ?_) (fun h1 => ?_)
    · have h1' := of_decide_eq_true h1
      have hlt : i < xs.length := by omega
      have hxi := map_at TChunk.enc xs i hlt
      have hw := inc (i := i) (m := xs.length) hlt (by simp only [maxLen]; omega)
      have hdl := hb xs[i] (List.getElem_mem hlt)
      have hbd := byteAt_drop xs o i hlt
      by_cases hh : hitB o xs[i] = true
      · rw [if_pos hh] at hbd
        obtain ⟨f1, f2, f3, f4⟩ := (hitB_iff _ _).1 hh
        obtain ⟨k, hk⟩ := Int.eq_ofNat_of_zero_le (show 0 ≤ o - xs[i].offset by omega)
        have hwk : IntKind.i64.wrap (o - xs[i].offset) = (k : Int) := by rw [w64] <;> omega
        have hkl : k < xs[i].data.length := by omega
        have hdk : xs[i].data[k]? = some xs[i].data[k] := List.getElem?_eq_getElem hkl
        have hbt : IntKind.i64.wrap ((xs[i].data[k].toNat : Nat) : Int) = ((xs[i].data[k].toNat : Nat) : Int) := by have := xs[i].data[k].toNat_lt; rw [w64] <;> omega
        have e1 : decide (0 ≤ o) = true := decide_eq_true f1
        have e2 : decide (0 ≤ xs[i].offset) = true := decide_eq_true f2
        have e3 : decide ((0 : Int) ≤ (k : Int)) = true := decide_eq_true (by omega)
        have e4 : decide ((k : Int) < (xs[i].data.length : Int)) = true := decide_eq_true (by omega)
        rw [hk, Int.toNat_natCast, hdk, Option.getD_some] at hbd
        try simp only [go_sem, List.length_map, Int.toNat_natCast, hxi, TChunk.enc, hwk, e1, Option.getD_some]
        repeat' (first
          | (with_reducible refine gTrueS ?_; simp only [go_sem, List.length_map, Int.toNat_natCast, hxi, TChunk.enc, e2, e3, e4, hdk, hbt, Option.getD_some]) | (with_reducible refine gFalseS ?_; simp only [go_sem, List.length_map, Int.toNat_natCast, hxi, TChunk.enc, hwk, e1, e2, e3, e4, hdk, hbt, Option.getD_some]) | (with_reducible refine gTrue ?_; simp only [go_sem, List.length_map, Int.toNat_natCast, hxi, TChunk.enc, hwk, e1, e2, e3, e4, hdk, hbt, Option.getD_some]) | (with_reducible refine gFalse ?_; simp only [go_sem, List.length_map, Int.toNat_natCast, hxi, TChunk.enc, hwk, e1, e2, e3, e4, hdk, hbt, Option.getD_some])
          | (refine gSymS ?_; simp only [go_sem, List.length_map, Int.toNat_natCast, hxi, TChunk.enc, hwk, e1, e2, e3, e4, hdk, hbt, Option.getD_some]) | (refine gSym ?_; simp only [go_sem, List.length_map, Int.toNat_natCast, hxi, TChunk.enc, hwk, e1, e2, e3, e4, hdk, hbt, Option.getD_some])
          | (refine cSplit (fun h => ?_) (fun h => ?_) <;> simp only [go_sem, List.length_map, Int.toNat_natCast, hxi, TChunk.enc, hwk, e1, e2, e3, e4, hdk, hbt, Option.getD_some])
          | (with_reducible refine And.intro ?_ ?_; (focus (first | omega | (exact ⟨by omega, by omega⟩) | (simp; done) | (simp; omega)))))
        all_goals (rw [← he, hbd])
      · rw [if_neg hh] at hbd
        have hz : (bif bif bif decide (0 ≤ o) then decide (0 ≤ xs[i].offset) else false then decide (0 ≤ IntKind.i64.wrap (o - xs[i].offset)) else false then decide (IntKind.i64.wrap (o - xs[i].offset) < (xs[i].data.length : Int)) else false) = false := by
          by_cases g1 : 0 ≤ o
          · by_cases g2 : 0 ≤ xs[i].offset
            · have hof := i64_of (n := o - xs[i].offset) (by
                have h1 : IntKind.i64.min = -9223372036854775808 := by decide
                have h2 : IntKind.i64.max = 9223372036854775807 := by decide
                have h3 := eOk_at ok.1.2.1.2 _ (List.mem_map.2 ⟨xs[i], List.getElem_mem hlt, rfl⟩)
                have h4 := i64_of h3.1
                simp only [dOk, h1, h2]; omega)
              have hwk : IntKind.i64.wrap (o - xs[i].offset) = o - xs[i].offset := by rw [w64] <;> omega
              rw [hwk]
              by_cases g3 : 0 ≤ o - xs[i].offset
              · have g4 : ¬ o - xs[i].offset < (xs[i].data.length : Int) := fun g4 => hh ((hitB_iff _ _).2 ⟨g1, g2, by omega, g4⟩)
                simp [g4]
              · simp [show ¬ xs[i].offset ≤ o from by omega]
            · simp [g2]
          · simp [g1]
        try simp only [go_sem, List.length_map, Int.toNat_natCast, hxi, TChunk.enc]
        repeat' (first
          | (with_reducible refine gTrueS ?_; simp only [go_sem, List.length_map, Int.toNat_natCast, hxi, TChunk.enc, hz]) | (with_reducible refine gFalseS ?_; simp only [go_sem, List.length_map, Int.toNat_natCast, hxi, TChunk.enc, hz]) | (with_reducible refine gTrue ?_; simp only [go_sem, List.length_map, Int.toNat_natCast, hxi, TChunk.enc, hz]) | (with_reducible refine gFalse ?_; simp only [go_sem, List.length_map, Int.toNat_natCast, hxi, TChunk.enc, hz])
          | (refine gSymS ?_; simp only [go_sem, List.length_map, Int.toNat_natCast, hxi, TChunk.enc, hz]) | (refine gSym ?_; simp only [go_sem, List.length_map, Int.toNat_natCast, hxi, TChunk.enc, hz])
          | (refine cSplit (fun h => ?_) (fun h => ?_) <;> simp only [go_sem, List.length_map, Int.toNat_natCast, hxi, TChunk.enc, hz])
          | (with_reducible refine And.intro ?_ ?_; (focus (first | omega | (exact ⟨by omega, by omega⟩) | (simp; done) | (simp; omega)))))
        all_goals (refine RoundE.intro (i + 1) [0] ⟨by omega, by rw [← he, hbd]⟩ (by omega) ?_; simp only [go_sem, hw]; try simp)
    · have h1' := of_decide_eq_false h1
      have hi2 : i = xs.length := by omega
      subst hi2
      simp only [go_sem]
      rw [← he, List.drop_length]; rfl
end Gv
