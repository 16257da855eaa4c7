/-
  The parts of a line.
-/
import Derived.Test.YthfdnfhpihkihaaDoorParLaw
import Derived.Test.YthfdnfhpihkihaaDoorFmt
namespace Gv
open Go Go.Proofs

theorem scan_step (s : List UInt8) (i : Nat) (h : i < s.length) : scanD (s.take (i + 1)) = stepD (scanD (s.take i)) s[i] := by
  rw [List.take_add_one, List.getElem?_eq_getElem h, Option.toList_some, scanD_append]
theorem scan_cnt (l : List UInt8) : (scanD l).2 ≤ l.length := by
  suffices h : ∀ (l : List UInt8) (p : Nat × Nat), (l.foldl stepD p).2 ≤ p.2 + l.length from by
    have := h l (0, 0)
    simpa [scanD] using this
  intro l
  induction l with
  | nil => intro p; simp
  | cons b r ih =>
    intro p
    have := ih (stepD p b)
    simp only [List.foldl_cons, List.length_cons]
    unfold stepD at this ⊢
    split
    · rename_i h; rw [if_pos h] at this; simp only at this; omega
    · rename_i h; rw [if_neg h] at this; omega
theorem scan_small (s : List UInt8) (i : Nat) (h : i ≤ 11) : (scanD (s.take i)).1 < 100000000000 ∧ (scanD (s.take i)).2 ≤ 11 := by
  have h1 := scanD_lt (s.take i)
  have h2 := scan_cnt (s.take i)
  have h3 : (s.take i).length ≤ 11 := by simp; omega
  have h4 : 10 ^ (scanD (s.take i)).2 ≤ 10 ^ 11 := Nat.pow_le_pow_right (by omega) (by omega)
  exact ⟨by omega, by omega⟩

theorem bif3 (m : Int) (p len : Nat) (s : List UInt8) : (bif bif decide ((9 : Int) < (p : Int)) then true else decide ((10 : Int) < (len : Int)) then true else decide (Lib.itoa m ≠ s)) = decide (9 < p ∨ 10 < len ∨ Lib.itoa m ≠ s) := by
  by_cases h1 : 9 < p
  · rw [decide_eq_true (p := ((9 : Int) < (p : Int))) (by omega), decide_eq_true (p := (9 < p ∨ 10 < len ∨ Lib.itoa m ≠ s)) (.inl h1)]; rfl
  · by_cases h2 : 10 < len
    · rw [decide_eq_false (p := ((9 : Int) < (p : Int))) (by omega), decide_eq_true (p := ((10 : Int) < (len : Int))) (by omega), decide_eq_true (p := (9 < p ∨ 10 < len ∨ Lib.itoa m ≠ s)) (.inr (.inl h2))]; rfl
    · rw [decide_eq_false (p := ((9 : Int) < (p : Int))) (by omega), decide_eq_false (p := ((10 : Int) < (len : Int))) (by omega)]
      simp only [cond_false, h1, h2, false_or]

set_option maxHeartbeats 4000000 in
set_option maxRecDepth 100000 in
theorem spec_ParseInt (s : List UInt8) (hs : s.length ≤ 1048576) : PureCall Tryd.prog 31 [.one (.str s)] [.one (.int .i64 (parseI s).1), .one (.bool (parseI s).2)] := by
  refine pure_ev Tryd.func31 rfl Tryd.call31 Tryd.checked.mixed [.d (.str s), .junk, .junk, .junk, .junk, .junk, .junk, .junk, .junk, .junk, .junk, .junk, .junk, .junk, .junk, .junk, .junk, .junk, .junk, .junk, .junk, .junk, .junk, .junk, .junk, .junk, .junk, .junk, .junk, .junk, .junk, .junk, .junk, .junk, .junk, .junk, .junk, .junk, .junk, .junk, .junk, .junk, .junk, .junk, .junk, .junk, .junk, .junk, .junk, .junk, .junk, .junk, .junk, .junk, .junk, .junk, .junk, .junk, .junk, .junk, .junk] rfl [.tmp 2, .tmp 3] rfl ?_
  intro ok
  rw [← specPI_eq]
  simp only [go_sem]
  refine LoopK.intro (fun i : Nat => ⟨[.d (.str s), .junk, .d (.int .i64 0), .d (.bool false), .d (.int .i64 (scanD (s.take i)).1), .d (.int .i64 (scanD (s.take i)).2), .d (.int .i64 i), .junk, .junk, .junk, .junk, .junk, .junk, .junk, .junk, .junk, .junk, .junk, .junk, .junk, .junk, .junk, .junk, .junk, .junk, .junk, .junk, .junk, .junk, .junk, .junk, .junk, .junk, .junk, .junk, .junk, .junk, .junk, .junk, .junk, .junk, .junk, .junk, .junk, .junk, .junk, .junk, .junk, .junk, .junk, .junk, .junk, .junk, .junk, .junk, .junk, .junk, .junk, .junk, .junk, .junk], []⟩)
      (fun i => s.length - i) (fun i => i ≤ s.length ∧ i ≤ 11) 0 [] ⟨by omega, by omega⟩ ?_ ?_
  · simp only [go_sem]
    simp [scanD]
  · rintro i ⟨h1, h2⟩
    have hsm := scan_small s i h2
    simp only [go_sem]
    try simp only [go_sem]
    repeat' (first
      | (refine CallS.intro (by first | assumption | (apply spec_FormatInt <;> first | assumption | omega)) ?_; simp only [go_sem])
      | (refine CallK.intro (by first | assumption | (apply spec_FormatInt <;> first | assumption | omega)) ?_; simp only [go_sem])
      | (with_reducible refine gTrueS ?_; simp only [go_sem]) | (with_reducible refine gFalseS ?_; simp only [go_sem]) | (with_reducible refine gTrue ?_; simp only [go_sem]) | (with_reducible refine gFalse ?_; simp only [go_sem])
      | (refine gSymS ?_; simp only [go_sem]) | (refine gSym ?_; simp only [go_sem])
      | (with_reducible refine And.intro ?_ ?_; (focus (first | omega | (exact ⟨by omega, by omega⟩) | (simp; done) | (simp; omega)))))
    refine cSplit (fun h => ?_) (fun h => ?_)
    · have hlt : i < s.length := by
        rcases Nat.lt_or_ge i s.length with hlt | hge
        · exact hlt
        · rw [decide_eq_false (by omega)] at h; cases h
      have h11 : i < 11 := by
        rcases Nat.lt_or_ge i 11 with hlt | hge
        · exact hlt
        · rw [decide_eq_true (by omega), decide_eq_false (p := ((i : Int) < 11)) (by omega)] at h; cases h
      have hx : s[i]? = some s[i] := List.getElem?_eq_getElem hlt
      have hb := s[i].toNat_lt
      have hst := scan_step s i hlt
      have hwi := inc hlt (show s.length ≤ maxLen from by simp only [maxLen]; omega)
      simp only [go_sem, Int.toNat_natCast, hx, Option.getD_some]
      refine ⟨⟨by omega, by omega⟩, ?_⟩
      try simp only [go_sem, Int.toNat_natCast, hx, Option.getD_some]
      repeat' (first
        | (refine CallS.intro (by first | assumption | (apply spec_FormatInt <;> first | assumption | omega)) ?_; simp only [go_sem, Int.toNat_natCast, hx, Option.getD_some])
        | (refine CallK.intro (by first | assumption | (apply spec_FormatInt <;> first | assumption | omega)) ?_; simp only [go_sem, Int.toNat_natCast, hx, Option.getD_some])
        | (with_reducible refine gTrueS ?_; simp only [go_sem, Int.toNat_natCast, hx, Option.getD_some]) | (with_reducible refine gFalseS ?_; simp only [go_sem, Int.toNat_natCast, hx, Option.getD_some]) | (with_reducible refine gTrue ?_; simp only [go_sem, Int.toNat_natCast, hx, Option.getD_some]) | (with_reducible refine gFalse ?_; simp only [go_sem, Int.toNat_natCast, hx, Option.getD_some])
        | (refine gSymS ?_; simp only [go_sem, Int.toNat_natCast, hx, Option.getD_some]) | (refine gSym ?_; simp only [go_sem, Int.toNat_natCast, hx, Option.getD_some])
        | (refine cSplit (fun h => ?_) (fun h => ?_) <;> simp only [go_sem, Int.toNat_natCast, hx, Option.getD_some])
        | (with_reducible refine And.intro ?_ ?_; (focus (first | omega | (exact ⟨by omega, by omega⟩) | (simp; done) | (simp; omega)))))
      · have hd : 48 ≤ s[i].toNat ∧ s[i].toNat ≤ 57 := by
          rcases Nat.lt_or_ge s[i].toNat 48 with q | q
          · rw [decide_eq_false (p := ((48 : Int) ≤ (s[i].toNat : Int))) (by omega)] at h; cases h
          · rcases Nat.lt_or_ge 57 s[i].toNat with q2 | q2
            · rw [decide_eq_true (p := ((48 : Int) ≤ (s[i].toNat : Int))) (by omega), decide_eq_false (p := ((s[i].toNat : Int) ≤ 57)) (by omega)] at h; cases h
            · exact ⟨q, q2⟩
        rw [w64 (n := ((scanD (s.take i)).1 : Int) * 10) (by omega) (by omega), w8 (n := (s[i].toNat : Int) - 48) (by omega) (by omega), w64 (n := (s[i].toNat : Int) - 48) (by omega) (by omega), w64 (n := ((scanD (s.take i)).1 : Int) * 10 + ((s[i].toNat : Int) - 48)) (by omega) (by omega), w64 (n := ((scanD (s.take i)).2 : Int) + 1) (by omega) (by omega), hwi]
        refine RoundE.intro (i + 1) [] ⟨by omega, by omega⟩ (by omega) ?_
        have e1 : (scanD (s.take (i + 1))).1 = (scanD (s.take i)).1 * 10 + (s[i].toNat - 48) := by rw [hst, stepD, if_pos hd]
        have e2 : (scanD (s.take (i + 1))).2 = (scanD (s.take i)).2 + 1 := by rw [hst, stepD, if_pos hd]
        have e3 : ((scanD (s.take (i + 1))).1 : Int) = ((scanD (s.take i)).1 : Int) * 10 + ((s[i].toNat : Int) - 48) := by rw [e1]; omega
        have e4 : ((scanD (s.take (i + 1))).2 : Int) = ((scanD (s.take i)).2 : Int) + 1 := by rw [e2]; omega
        have e5 : ((i + 1 : Nat) : Int) = (i : Int) + 1 := by omega
        simp [seeE, vsees, vsee, ren, hsees, voks, vok, allOk, kvOk, e3, e4, e5]
      · have hd : ¬ (48 ≤ s[i].toNat ∧ s[i].toNat ≤ 57) := by
          rintro ⟨q1, q2⟩
          rw [decide_eq_true (p := ((48 : Int) ≤ (s[i].toNat : Int))) (by omega), decide_eq_true (p := ((s[i].toNat : Int) ≤ 57)) (by omega)] at h
          cases h
        rw [hwi]
        refine RoundE.intro (i + 1) [] ⟨by omega, by omega⟩ (by omega) ?_
        have e1 : scanD (s.take (i + 1)) = scanD (s.take i) := by rw [hst, stepD, if_neg hd]
        have e5 : ((i + 1 : Nat) : Int) = (i : Int) + 1 := by omega
        simp [seeE, vsees, vsee, ren, hsees, voks, vok, allOk, kvOk, e1, e5]
    · have hend : s.take i = s.take 11 := by
        rcases Nat.lt_or_ge i 11 with q | q
        · rcases Nat.lt_or_ge i s.length with q2 | q2
          · rw [decide_eq_true (p := ((i : Int) < s.length)) (by omega), decide_eq_true (p := ((i : Int) < 11)) (by omega)] at h
            cases h
          · rw [List.take_of_length_le (by omega), List.take_of_length_le (by omega)]
        · have : i = 11 := by omega
          rw [this]
      rw [hend]
      rw [hend] at hsm
      generalize hsc : scanD (s.take 11) = pr at hsm
      have hfin : ∀ m : Int, (m = if s.head? = some 45 then -(pr.1 : Int) else pr.1) → specPI s = if 9 < pr.2 ∨ 10 < s.length ∨ Lib.itoa m ≠ s then (0, false) else (m, true) := by
        intro m hm
        unfold specPI
        simp only [hsc]
        rw [← hm]
      have hw : IntKind.i64.wrap (0 - (pr.1 : Int)) = -(pr.1 : Int) := by rw [w64] <;> omega
      cases s with
      | nil =>
        have hf := hfin pr.1 (by simp)
        have h0 : decide ((0 : Int) < ((0 : Nat) : Int)) = false := rfl
        simp only [go_sem, List.length_nil, h0]
        try simp only [go_sem, List.length_nil, h0]
        repeat' (first
          | (refine CallS.intro (by first | assumption | (apply spec_FormatInt <;> first | assumption | omega)) ?_; simp only [go_sem, List.length_nil, h0])
          | (refine CallK.intro (by first | assumption | (apply spec_FormatInt <;> first | assumption | omega)) ?_; simp only [go_sem])
          | (with_reducible refine gTrueS ?_; simp only [go_sem, List.length_nil, h0]) | (with_reducible refine gFalseS ?_; simp only [go_sem, List.length_nil]) | (with_reducible refine gTrue ?_; simp only [go_sem, List.length_nil, h0]) | (with_reducible refine gFalse ?_; simp only [go_sem, List.length_nil, h0])
          | (refine gSymS ?_; simp only [go_sem, List.length_nil]) | (refine gSym ?_; simp only [go_sem, List.length_nil, h0])
          | (refine cSplit (fun h => ?_) (fun h => ?_) <;> simp only [go_sem, List.length_nil])
          | (with_reducible refine And.intro ?_ ?_; (focus (first | omega | (exact ⟨by omega, by omega⟩) | (simp; done) | (simp; omega)))))
        · have h3 := (bif3 pr.1 pr.2 0 []).symm.trans h
          rw [hf, List.length_nil, if_pos (of_decide_eq_true h3)]
        · have h3 := (bif3 pr.1 pr.2 0 []).symm.trans h
          rw [hf, List.length_nil, if_neg (of_decide_eq_false h3)]
      | cons b r =>
        have h0 : decide ((0 : Int) < ((r.length + 1 : Nat) : Int)) = true := by
          rw [decide_eq_true_eq]; omega
        have hb45 : ((b :: r).head? = some 45) = ((b.toNat : Int) = 45) := by
          rw [eq_iff_iff, List.head?_cons, Option.some.injEq]
          constructor
          · rintro rfl; rfl
          · intro q
            apply UInt8.toNat_inj.1
            show b.toNat = 45
            omega
        have hn : (b.toNat : Int) = 45 → (-(pr.1 : Int) = if (b :: r).head? = some 45 then -(pr.1 : Int) else pr.1) := fun q => by
          rw [if_pos (by rw [hb45]; exact q)]
        have hp : ¬ (b.toNat : Int) = 45 → ((pr.1 : Int) = if (b :: r).head? = some 45 then -(pr.1 : Int) else pr.1) := fun q => by
          rw [if_neg (by rw [hb45]; exact q)]
        simp only [go_sem, List.length_cons, h0]
        try simp only [go_sem, List.length_cons, h0, hw]
        repeat' (first
          | (refine CallS.intro (by first | assumption | (apply spec_FormatInt <;> first | assumption | omega)) ?_; simp only [go_sem, List.length_cons, h0, hw])
          | (refine CallK.intro (by first | assumption | (apply spec_FormatInt <;> first | assumption | omega)) ?_; simp only [go_sem])
          | (with_reducible refine gTrueS ?_; simp only [go_sem, List.length_cons]) | (with_reducible refine gFalseS ?_; simp only [go_sem, List.length_cons, h0, hw]) | (with_reducible refine gTrue ?_; simp only [go_sem, List.length_cons, h0, hw]) | (with_reducible refine gFalse ?_; simp only [go_sem, List.length_cons, h0, hw])
          | (refine gSymS ?_; simp only [go_sem, List.length_cons]) | (refine gSym ?_; simp only [go_sem, List.length_cons, h0, hw])
          | (refine cSplit (fun h => ?_) (fun h => ?_) <;> simp only [go_sem, hw])
          | (with_reducible refine And.intro ?_ ?_; (focus (first | omega | (exact ⟨by omega, by omega⟩) | (simp; done) | (simp; omega)))))
        · rename_i h7
          have h3 := (bif3 (-(pr.1 : Int)) pr.2 (r.length + 1) (b :: r)).symm.trans h
          rw [hfin _ (hn (of_decide_eq_true h7)), List.length_cons, if_pos (of_decide_eq_true h3)]
        · rename_i h7
          have h3 := (bif3 (-(pr.1 : Int)) pr.2 (r.length + 1) (b :: r)).symm.trans h
          rw [hfin _ (hn (of_decide_eq_true h7)), List.length_cons, if_neg (of_decide_eq_false h3)]
        · rename_i h7
          have h3 := (bif3 pr.1 pr.2 (r.length + 1) (b :: r)).symm.trans h
          rw [hfin _ (hp (of_decide_eq_false h7)), List.length_cons, if_pos (of_decide_eq_true h3)]
        · rename_i h7
          have h3 := (bif3 pr.1 pr.2 (r.length + 1) (b :: r)).symm.trans h
          rw [hfin _ (hp (of_decide_eq_false h7)), List.length_cons, if_neg (of_decide_eq_false h3)]

set_option maxRecDepth 100000 in
theorem spec_l23Num (s : List UInt8) (hs : s.length ≤ 1048576) : PureCall Tryd.prog 20 [.one (.str s)] [.one (.int .i64 (if (parseI s).2 = true then (parseI s).1 else -1))] := by
  refine pure_ev Tryd.func20 rfl Tryd.call20 Tryd.checked.mixed [.d (.str s), .junk, .junk, .junk, .junk, .junk, .junk, .junk, .junk, .junk, .junk, .junk, .junk] rfl [.tmp 2] rfl ?_
  intro ok
  try simp only [go_sem]
  repeat' (first
    | (refine CallS.intro (by first | assumption | (apply spec_ParseInt <;> first | assumption | omega)) ?_; simp only [go_sem])
    | (refine CallK.intro (by first | assumption | (apply spec_ParseInt <;> first | assumption | omega)) ?_; simp only [go_sem])
    | (with_reducible refine gTrueS ?_; simp only [go_sem]) | (with_reducible refine gFalseS ?_; simp only [go_sem]) | (with_reducible refine gTrue ?_; simp only [go_sem]) | (with_reducible refine gFalse ?_; simp only [go_sem])
    | (refine gSymS ?_; simp only [go_sem]) | (refine gSym ?_; simp only [go_sem])
    | (refine cSplit (fun h => ?_) (fun h => ?_) <;> simp only [go_sem])
    | (with_reducible refine And.intro ?_ ?_; (focus (first | omega | (exact ⟨by omega, by omega⟩) | (simp; done) | (simp; omega)))))
  all_goals simp_all

def cutW : List UInt8 → List UInt8 × List UInt8
  | [] => ([], [])
  | b :: r => if b = 32 then ([], r) else (b :: (cutW r).1, (cutW r).2)
theorem cutW_none : ∀ (s : List UInt8), (∀ b ∈ s, b ≠ 32) → cutW s = (s, [])
  | [], _ => rfl
  | b :: r, h => by
    simp only [cutW]
    rw [if_neg (h b (by simp)), cutW_none r fun c hc => h c (by simp [hc])]
theorem cutW_at : ∀ (a r : List UInt8), (∀ b ∈ a, b ≠ 32) → cutW (a ++ 32 :: r) = (a, r)
  | [], r, _ => by simp [cutW]
  | b :: a, r, h => by
    simp only [List.cons_append, cutW]
    rw [if_neg (h b (by simp)), cutW_at a r fun c hc => h c (by simp [hc])]
theorem cutW_len : ∀ (s : List UInt8), (cutW s).1.length ≤ s.length ∧ (cutW s).2.length ≤ s.length
  | [] => by simp [cutW]
  | b :: r => by
    have := cutW_len r
    simp only [cutW]
    split
    · simp
    · simp only [List.length_cons]; omega
theorem cutW_idx (s : List UInt8) (i : Nat) (h : i < s.length) (h1 : ∀ b ∈ s.take i, b ≠ 32) (h2 : s[i] = 32) : cutW s = (s.take i, s.drop (i + 1)) := by
  have e : s = s.take i ++ 32 :: s.drop (i + 1) := by
    conv => lhs; rw [← List.take_append_drop i s, List.drop_eq_getElem_cons h, h2]
  have := cutW_at (s.take i) (s.drop (i + 1)) h1
  rw [← e] at this
  exact this

set_option maxRecDepth 100000 in
theorem spec_l23Word (s : List UInt8) (hs : s.length ≤ 1048576) : PureCall Tryd.prog 19 [.one (.str s)] [.one (.str (cutW s).1), .one (.str (cutW s).2)] := by
  refine pure_ev Tryd.func19 rfl Tryd.call19 Tryd.checked.mixed [.d (.str s), .junk, .junk, .junk, .junk, .junk, .junk, .junk, .junk, .junk, .junk, .junk, .junk, .junk, .junk, .junk, .junk, .junk, .junk, .junk, .junk, .junk, .junk] rfl [.tmp 2, .tmp 3] rfl ?_
  intro ok
  simp only [go_sem]
  refine LoopK.intro (fun i : Nat => ⟨[.d (.str s), .junk, .d (.str []), .d (.str []), .d (.int .i64 i), .junk, .junk, .junk, .junk, .junk, .junk, .junk, .junk, .junk, .junk, .junk, .junk, .junk, .junk, .junk, .junk, .junk, .junk], []⟩)
      (fun i => s.length - i) (fun i => i ≤ s.length ∧ ∀ b ∈ s.take i, b ≠ 32) 0 [] ⟨by omega, by simp⟩ ?_ ?_
  · simp only [go_sem]; simp
  · rintro i ⟨h1, h2⟩
    simp only [go_sem]
    refine cSplit (fun h => ?_) (fun h => ?_)
    · have hlt : i < s.length := by have := of_decide_eq_true h; omega
      have hx : s[i]? = some s[i] := List.getElem?_eq_getElem hlt
      have hwi := inc hlt (show s.length ≤ maxLen from by simp only [maxLen]; omega)
      simp only [go_sem, Int.toNat_natCast, hx, Option.getD_some]
      refine ⟨⟨by omega, by omega⟩, ?_⟩
      refine cSplit (fun h3 => ?_) (fun h3 => ?_)
      · have hb : s[i] = 32 := by
          have := of_decide_eq_true h3
          apply UInt8.toNat_inj.1
          show s[i].toNat = 32
          omega
        have hc := cutW_idx s i hlt h2 hb
        try simp only [go_sem]
        repeat' (first
          | (with_reducible refine gTrueS ?_; simp only [go_sem, Int.toNat_natCast, hwi]) | (with_reducible refine gFalseS ?_; simp only [go_sem, Int.toNat_natCast, hwi]) | (with_reducible refine gTrue ?_; simp only [go_sem, Int.toNat_natCast, hwi]) | (with_reducible refine gFalse ?_; simp only [go_sem, Int.toNat_natCast, hwi])
          | (refine gSymS ?_; simp only [go_sem, Int.toNat_natCast, hwi]) | (refine gSym ?_; simp only [go_sem, Int.toNat_natCast, hwi])
          | (refine drawE_intro [[.post, .un, .post, .un, .un, .un, .un, .post, .post], [.un, .post, .post, .un, .un, .un, .un, .post, .post], [.pre, .pre, .post, .un, .un, .un, .un, .post, .post], [.un, .un, .un, .post, .un, .un, .post, .un, .post], [.un, .un, .un, .un, .post, .post, .post, .un, .post], [.un, .un, .un, .un, .pre, .post, .post, .un, .post], [.un, .un, .un, .pre, .pre, .pre, .post, .un, .post], [.pre, .pre, .pre, .un, .un, .un, .un, .post, .post], [.pre, .pre, .pre, .pre, .pre, .pre, .pre, .pre, .post]] (by kernel_rfl) (by rfl) ?_; simp only [go_sem, Int.toNat_natCast, hwi])
          | (refine cSplit (fun h => ?_) (fun h => ?_) <;> simp only [go_sem, Int.toNat_natCast, hwi])
          | (with_reducible refine And.intro ?_ ?_; (focus (first | omega | (exact ⟨by omega, by omega⟩) | (simp; done) | (simp; omega)))))
        rw [hc, Nat.sub_zero, List.take_of_length_le (i := s.length - (i + 1)) (by simp)]
      · have hb : s[i] ≠ 32 := by
          intro q
          have := of_decide_eq_false h3
          rw [q] at this
          exact this rfl
        simp only [go_sem, hwi]
        refine RoundE.intro (i + 1) [] ⟨by omega, ?_⟩ (by omega) ?_
        · intro b hm
          rw [List.take_add_one, hx] at hm
          simp only [Option.toList_some, List.mem_append, List.mem_singleton] at hm
          rcases hm with hm | rfl
          · exact h2 b hm
          · exact hb
        · simp [seeE, vsees, vsee, ren, hsees, voks, vok, allOk, kvOk]
    · have hge := of_decide_eq_false h
      rw [List.take_of_length_le (by omega)] at h2
      have hc := cutW_none s h2
      simp only [go_sem]
      simp [hc]

theorem idxB_none : ∀ (s : List UInt8) (c : UInt8), Lib.indexByte s c = -1 → ∀ b ∈ s, b ≠ c
  | [], _, _ => by simp
  | b :: r, c, h => by
    simp only [Lib.indexByte] at h
    split at h
    · cases h
    · rename_i hb
      split at h
      · rename_i hr
        have := idxB_none r c (by simpa using hr)
        intro x hx
        rcases List.mem_cons.1 hx with rfl | hx
        · simpa using hb
        · exact this x hx
      · have := Lib.indexByte_ge r c
        rename_i hr
        have : Lib.indexByte r c ≠ -1 := by simpa using hr
        omega
theorem idxB_some : ∀ (s : List UInt8) (c : UInt8) (i : Nat), Lib.indexByte s c = i → ∃ h : i < s.length, s[i] = c ∧ ∀ b ∈ s.take i, b ≠ c
  | [], c, i, h => by simp [Lib.indexByte] at h
  | b :: r, c, i, h => by
    simp only [Lib.indexByte] at h
    split at h
    · rename_i hb
      have : i = 0 := by omega
      subst this
      exact ⟨by simp, by simpa using hb, by simp⟩
    · rename_i hb
      split at h
      · omega
      · rename_i hr
        have h1 := Lib.indexByte_ge r c
        have h2 : Lib.indexByte r c ≠ -1 := by simpa using hr
        obtain ⟨j, hj⟩ := Int.eq_ofNat_of_zero_le (show 0 ≤ Lib.indexByte r c by omega)
        have : i = j + 1 := by omega
        subst this
        obtain ⟨q1, q2, q3⟩ := idxB_some r c j hj
        refine ⟨by simpa using q1, by simpa using q2, ?_⟩
        intro x hx
        rw [List.take_succ_cons] at hx
        rcases List.mem_cons.1 hx with rfl | hx
        · simpa using hb
        · exact q3 x hx

set_option maxRecDepth 100000 in
theorem lite_Index (s : List UInt8) (hs : s.length ≤ 1048576) : PureCall Tryd.prog 38 [.one (.str s), .one (.str [32])] [.one (.int .i64 (Lib.indexByte s 32))] := by
  intro w us F hg ha
  simp only [areps, arep, rep] at ha
  obtain ⟨u, us', F1, F2, rfl, rfl, ⟨rfl, rfl, h0⟩, u2, us2, F3, F4, rfl, rfl, ⟨rfl, rfl, h1⟩, rfl, rfl⟩ := ha
  refine Does.enter (Tryd.call38 _ _) ?_
  refine (Any.stringslite_Index_one Tryd.lays219 ⟨s.toArray⟩ 32 w).mono ?_
  rintro e w' ⟨rfl, rfl⟩
  refine ⟨[], Bel.refl _ _, ?_, List.nodup_nil, by simp⟩
  simp only [trep, arep, rep]
  refine ⟨by simp, trivial, ?_⟩
  have e1 : IntKind.i64.min = -9223372036854775808 := by decide
  have e2 : IntKind.i64.max = 9223372036854775807 := by decide
  rw [e1, e2]
  have h2 := Lib.indexByte_ge s 32
  refine ⟨by omega, ?_⟩
  rcases Int.lt_or_le (Lib.indexByte s 32) 0 with h3 | h3
  · omega
  · obtain ⟨j, hj⟩ := Int.eq_ofNat_of_zero_le h3
    obtain ⟨q, _, _⟩ := idxB_some s 32 j hj
    omega

set_option maxRecDepth 100000 in
theorem internal_stringslite_Cut (s : List UInt8) (hs : s.length ≤ 1048576) : PureCall Tryd.prog 32 [.one (.str s), .one (.str [32])] [.one (.str (cutW s).1), .one (.str (cutW s).2), .one (.bool (decide (0 ≤ Lib.indexByte s 32)))] := by
  refine pure_ev Tryd.func32 rfl Tryd.call32 Tryd.checked.mixed [.d (.str s), .d (.str [32]), .junk, .junk, .junk, .junk, .junk, .junk, .junk, .junk, .junk, .junk, .junk, .junk, .junk, .junk, .junk, .junk, .junk, .junk, .junk, .junk, .junk] rfl [.tmp 4, .tmp 5, .tmp 6] rfl ?_
  intro ok
  simp only [go_sem]
  refine CallS.intro (lite_Index s hs) ?_
  simp only [go_sem]
  refine cSplit (fun h => ?_) (fun h => ?_)
  · have h3 := of_decide_eq_true h
    obtain ⟨j, hj⟩ := Int.eq_ofNat_of_zero_le h3
    obtain ⟨hlt, hb, hall⟩ := idxB_some s 32 j hj
    have hc := cutW_idx s j hlt hall hb
    have hwi := inc hlt (show s.length ≤ maxLen from by simp only [maxLen]; omega)
    have hwi2 : IntKind.i64.wrap ((j : Int) + ((1 : Nat) : Int)) = ((j + 1 : Nat) : Int) := hwi
    rw [hj]
    try simp only [go_sem]
    repeat' (first
      | (refine CallS.intro (by first | assumption | (apply internal_stringslite_Index <;> first | assumption | omega)) ?_; simp only [go_sem, Int.toNat_natCast, hwi2])
      | (refine CallK.intro (by first | assumption | (apply internal_stringslite_Index <;> first | assumption | omega)) ?_; simp only [go_sem, Int.toNat_natCast, hwi2])
      | (with_reducible refine gTrueS ?_; simp only [go_sem, Int.toNat_natCast, hwi2]) | (with_reducible refine gFalseS ?_; simp only [go_sem, Int.toNat_natCast, hwi2]) | (with_reducible refine gTrue ?_; simp only [go_sem, Int.toNat_natCast, hwi2]) | (with_reducible refine gFalse ?_; simp only [go_sem, Int.toNat_natCast, hwi2])
      | (refine gSymS ?_; simp only [go_sem, Int.toNat_natCast, hwi2]) | (refine gSym ?_; simp only [go_sem, Int.toNat_natCast, hwi2])
      | (refine drawE_intro [[.post, .un, .post, .un, .un, .un, .un, .un, .un, .post, .post, .post], [.un, .post, .post, .un, .un, .un, .un, .un, .un, .post, .post, .post], [.pre, .pre, .post, .un, .un, .un, .un, .un, .un, .post, .post, .post], [.un, .un, .un, .post, .un, .un, .un, .un, .post, .un, .post, .post], [.un, .un, .un, .un, .post, .un, .un, .post, .post, .un, .post, .post], [.un, .un, .un, .un, .un, .post, .post, .post, .post, .un, .post, .post], [.un, .un, .un, .un, .un, .pre, .post, .post, .post, .un, .post, .post], [.un, .un, .un, .un, .pre, .pre, .pre, .post, .post, .un, .post, .post], [.un, .un, .un, .pre, .pre, .pre, .pre, .pre, .post, .un, .post, .post], [.pre, .pre, .pre, .un, .un, .un, .un, .un, .un, .post, .post, .post], [.pre, .pre, .pre, .pre, .pre, .pre, .pre, .pre, .pre, .pre, .post, .post], [.pre, .pre, .pre, .pre, .pre, .pre, .pre, .pre, .pre, .pre, .pre, .post]] (by kernel_rfl) (by rfl) ?_; simp only [go_sem, Int.toNat_natCast, hwi2])
      | (refine cSplit (fun h => ?_) (fun h => ?_) <;> simp only [go_sem, Int.toNat_natCast, hwi2])
      | (with_reducible refine And.intro ?_ ?_; (focus (first | omega | (exact ⟨by omega, by omega⟩) | (simp; done) | (simp; omega)))))
    rw [hc, Nat.sub_zero, List.take_of_length_le (i := s.length - (j + 1)) (by simp)]
    have : decide (0 ≤ (j : Int)) = true := by simp
    rw [this]
  · have h3 := of_decide_eq_false h
    have h2 := Lib.indexByte_ge s 32
    have hc := cutW_none s (idxB_none s 32 (by omega))
    simp only [go_sem]
    simp [hc, h3]

set_option maxRecDepth 100000 in
theorem strings_Cut (s : List UInt8) (hs : s.length ≤ 1048576) : PureCall Tryd.prog 21 [.one (.str s), .one (.str [32])] [.one (.str (cutW s).1), .one (.str (cutW s).2), .one (.bool (decide (0 ≤ Lib.indexByte s 32)))] := by
  refine pure_ev Tryd.func21 rfl Tryd.call21 Tryd.checked.mixed [.d (.str s), .d (.str [32]), .junk, .junk, .junk, .junk, .junk, .junk, .junk, .junk, .junk, .junk, .junk] rfl [.tmp 4, .tmp 5, .tmp 6] rfl ?_
  intro ok
  try simp only [go_sem]
  repeat' (first
    | (refine CallS.intro (by first | assumption | (apply internal_stringslite_Cut <;> first | assumption | omega)) ?_; simp only [go_sem])
    | (refine CallK.intro (by first | assumption | (apply internal_stringslite_Cut <;> first | assumption | omega)) ?_; simp only [go_sem])
    | (with_reducible refine gTrueS ?_; simp only [go_sem]) | (with_reducible refine gFalseS ?_; simp only [go_sem]) | (with_reducible refine gTrue ?_; simp only [go_sem]) | (with_reducible refine gFalse ?_; simp only [go_sem])
    | (refine gSymS ?_; simp only [go_sem]) | (refine gSym ?_; simp only [go_sem])
    | (refine cSplit (fun h => ?_) (fun h => ?_) <;> simp only [go_sem])
    | (with_reducible refine And.intro ?_ ?_; (focus (first | omega | (exact ⟨by omega, by omega⟩) | (simp; done) | (simp; omega)))))
end Gv
