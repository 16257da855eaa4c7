/-
  Events: which are valid.
-/
import Derived.Test.YthfdnfhpihkihaaDoorHex
import Derived.Test.YthfdnfhpihkihaaDoorEventWord
namespace Gv
open Go Go.Proofs

def usesI (k : Int) : Bool := decide (k = 2) || decide (k = 7) || decide (k = 3) || decide (k = 4) || decide (k = 5) || decide (k = 6)
def usesT (k : Int) : Bool := decide (k = 1) || decide (k = 11) || decide (k = 2) || decide (k = 7)
def usesN (k : Int) : Bool := !(usesT k || decide (k = 3))
def areB (s : List UInt8) (lo hi : Int) : Bool := (s.all fun b => decide (lo ≤ (b.toNat : Int)) && decide ((b.toNat : Int) ≤ hi)) && inB s.length 1 40
def evText (k : Int) (t : List UInt8) : Bool :=
  if k = 1 then decide (t = [98, 105, 100, 105]) || decide (t = [117, 110, 105])
  else if k = 2 then areB t 97 122
  else if k = 7 then areB t 32 126
  else if k = 11 then (decHex t).2 && inB (decHex t).1.length 1 400
  else decide (t = [])
def isEvent (e : TEvent) : Bool := decide (evWord e.kind ≠ []) && inB e.id 0 999999 && inB e.n 0 999999 && (usesI e.kind || decide (e.id = 0)) && (usesN e.kind || decide (e.n = 0)) && evText e.kind e.text
def evForm (e : TEvent) : TEvent := ⟨e.kind, if usesI e.kind = true then e.id else 0, if usesN e.kind = true then e.n else 0, if usesT e.kind = true then e.text else []⟩
theorem evWord_ne {k : Int} (h : evWord k ≠ []) : k = 1 ∨ k = 2 ∨ k = 3 ∨ k = 4 ∨ k = 5 ∨ k = 6 ∨ k = 7 ∨ k = 8 ∨ k = 9 ∨ k = 10 ∨ k = 11 ∨ k = 12 := by
  unfold evWord at h
  split at h
  · rename_i h1
    simp only [inB, Bool.and_eq_true, decide_eq_true_eq] at h1
    omega
  · exact absurd rfl h

set_option maxRecDepth 100000 in
theorem impl_uses (k : Int) : PureCall Tryd.prog 16 [.one (.int .i64 k)] [.one (.bool (usesI k)), .one (.bool (usesN k)), .one (.bool (usesT k))] := by
  refine pure_ev Tryd.func16 rfl Tryd.call16 Tryd.checked.mixed [.d (.int .i64 k), .junk, .junk, .junk, .junk, .junk, .junk, .junk, .junk, .junk, .junk, .junk, .junk, .junk, .junk, .junk, .junk, .junk] rfl [.tmp 2, .tmp 3, .tmp 4] rfl ?_
  intro _
  try simp only [go_sem]
  repeat' (first
    | (with_reducible refine gTrueS ?_; simp only [go_sem]) | (with_reducible refine gFalseS ?_; simp only [go_sem]) | (with_reducible refine gTrue ?_; simp only [go_sem]) | (with_reducible refine gFalse ?_; simp only [go_sem])
    | (refine gSymS ?_; simp only [go_sem]) | (refine gSym ?_; simp only [go_sem])
    | (refine cSplit (fun h => ?_) (fun h => ?_) <;> simp only [go_sem])
    | (with_reducible refine And.intro ?_ ?_; (focus (first | omega | (exact ⟨by omega, by omega⟩) | (simp; done) | (simp; omega)))))
  all_goals (simp_all [usesI, usesN, usesT])

theorem areB_bad (s : List UInt8) (lo hi : Int) (i : Nat) (h : i < s.length) (h2 : ¬ (lo ≤ (s[i].toNat : Int) ∧ (s[i].toNat : Int) ≤ hi)) : areB s lo hi = false := by
  unfold areB
  have : (s.all fun b => decide (lo ≤ (b.toNat : Int)) && decide ((b.toNat : Int) ≤ hi)) = false := by
    rw [List.all_eq_false]
    exact ⟨s[i], List.getElem_mem h, by simpa using h2⟩
  rw [this]; rfl
theorem all_step {α : Type} (p : α → Bool) (xs : List α) (i : Nat) (h : i < xs.length) (h1 : (xs.take i).all p = true) (h2 : p xs[i] = true) : (xs.take (i + 1)).all p = true := by
  rw [List.take_add_one, List.getElem?_eq_getElem h, List.all_append, h1]; simp [h2]

set_option maxRecDepth 100000 in
theorem impl_areBytes (s : List UInt8) (lo hi : Int) (hs : s.length ≤ 1048576) : PureCall Tryd.prog 35 [.one (.str s), .one (.int .u8 lo), .one (.int .u8 hi)] [.one (.bool (areB s lo hi))] := by
  refine pure_ev Tryd.func35 rfl Tryd.call35 Tryd.checked.mixed [.d (.str s), .d (.int .u8 lo), .d (.int .u8 hi), .junk, .junk, .junk, .junk, .junk, .junk, .junk, .junk, .junk, .junk, .junk, .junk, .junk, .junk, .junk, .junk, .junk, .junk, .junk, .junk, .junk, .junk, .junk, .junk, .junk, .junk] rfl [.tmp 6] rfl ?_
  intro _
  simp only [go_sem]
  refine LoopK.intro (fun i : Nat => ⟨[.d (.str s), .d (.int .u8 lo), .d (.int .u8 hi), .junk, .junk, .junk, .d (.bool false), .d (.int .i64 i), .junk, .junk, .junk, .junk, .junk, .junk, .junk, .junk, .junk, .junk, .junk, .junk, .junk, .junk, .junk, .junk, .junk, .junk, .junk, .junk, .junk], []⟩)
      (fun i => s.length - i) (fun i => i ≤ s.length ∧ (s.take i).all (fun b => decide (lo ≤ (b.toNat : Int)) && decide ((b.toNat : Int) ≤ hi)) = true) 0 [] ⟨by omega, by simp⟩ ?_ ?_
  · simp only [go_sem]; simp
  · rintro i ⟨hi', he⟩
    simp only [go_sem]
    refine cSplit (fun h1 => ?_) (fun h1 => ?_)
    · have h1' := of_decide_eq_true h1
      have hlt : i < s.length := by omega
      have hx : s[i]? = some s[i] := List.getElem?_eq_getElem hlt
      have hw := inc hlt (show s.length ≤ maxLen from by simp only [maxLen]; omega)
      simp only [go_sem, Int.toNat_natCast, hx, Option.getD_some]
      refine ⟨⟨by omega, by omega⟩, ?_⟩
      repeat ((first | refine gSymS ?_ | (with_reducible refine And.intro ?_ ?_; (focus (first | omega | exact ⟨by omega, by omega⟩)))); try simp only [go_sem, Int.toNat_natCast, hx, Option.getD_some])
      refine cSplit (fun h2 => ?_) (fun h2 => ?_)
      · have h3 := areB_bad s lo hi i hlt (by intro h4; simp [show ¬ (s[i].toNat : Int) < lo from by omega, show ¬ hi < (s[i].toNat : Int) from by omega] at h2)
        simp only [go_sem]
        simp [h3]
      · have h3 : (decide (lo ≤ (s[i].toNat : Int)) && decide ((s[i].toNat : Int) ≤ hi)) = true := by
          by_cases ha : (s[i].toNat : Int) < lo
          · simp [ha] at h2
          · by_cases hb : hi < (s[i].toNat : Int)
            · simp [hb] at h2
            · simp; omega
        simp only [go_sem, hw]
        refine RoundE.intro (i + 1) [] ⟨by omega, all_step _ s i hlt he h3⟩ (by omega) ?_
        simp only [go_sem]
    · have h1' := of_decide_eq_false h1
      rw [List.take_of_length_le (by omega)] at he
      simp only [go_sem]
      refine CallS.intro (impl_within s.length 1 40) ?_
      simp only [go_sem]
      simp [areB, he]

set_option maxRecDepth 100000 in
theorem spec_l23Letters (s : List UInt8) (hs : s.length ≤ 1048576) : PureCall Tryd.prog 25 [.one (.str s)] [.one (.bool (areB s 97 122))] := by
  refine pure_ev Tryd.func25 rfl Tryd.call25 Tryd.checked.mixed [.d (.str s), .junk, .junk, .junk, .junk, .junk, .junk, .junk, .junk, .junk, .junk, .junk, .junk, .junk, .junk, .junk, .junk, .junk, .junk, .junk, .junk, .junk, .junk] rfl [.tmp 2] rfl ?_
  intro _
  simp only [go_sem]
  refine LoopK.intro (fun i : Nat => ⟨[.d (.str s), .junk, .d (.bool false), .d (.int .i64 i), .junk, .junk, .junk, .junk, .junk, .junk, .junk, .junk, .junk, .junk, .junk, .junk, .junk, .junk, .junk, .junk, .junk, .junk, .junk], []⟩)
      (fun i => s.length - i) (fun i => i ≤ s.length ∧ (s.take i).all (fun b => decide (97 ≤ (b.toNat : Int)) && decide ((b.toNat : Int) ≤ 122)) = true) 0 [] ⟨by omega, by simp⟩ ?_ ?_
  · simp only [go_sem]; simp
  · rintro i ⟨hi', he⟩
    simp only [go_sem]
    refine cSplit (fun h1 => ?_) (fun h1 => ?_)
    · have h1' := of_decide_eq_true h1
      have hlt : i < s.length := by omega
      have hx : s[i]? = some s[i] := List.getElem?_eq_getElem hlt
      have hw := inc hlt (show s.length ≤ maxLen from by simp only [maxLen]; omega)
      simp only [go_sem, Int.toNat_natCast, hx, Option.getD_some]
      refine ⟨⟨by omega, by omega⟩, ?_⟩
      repeat ((first | refine gSymS ?_ | (with_reducible refine And.intro ?_ ?_; (focus (first | omega | exact ⟨by omega, by omega⟩)))); try simp only [go_sem, Int.toNat_natCast, hx, Option.getD_some])
      refine cSplit (fun h2 => ?_) (fun h2 => ?_)
      · have h3 := areB_bad s 97 122 i hlt (by intro h4; simp [show ¬ (s[i].toNat : Int) < 97 from by omega, show ¬ 122 < (s[i].toNat : Int) from by omega] at h2)
        simp only [go_sem]
        simp [h3]
      · have h3 : (decide (97 ≤ (s[i].toNat : Int)) && decide ((s[i].toNat : Int) ≤ 122)) = true := by
          by_cases ha : (s[i].toNat : Int) < 97
          · simp [ha] at h2
          · by_cases hb : 122 < (s[i].toNat : Int)
            · simp [hb] at h2
            · simp; omega
        simp only [go_sem, hw]
        refine RoundE.intro (i + 1) [] ⟨by omega, all_step _ s i hlt he h3⟩ (by omega) ?_
        simp only [go_sem]
    · have h1' := of_decide_eq_false h1
      rw [List.take_of_length_le (by omega)] at he
      simp only [go_sem]
      refine CallS.intro (spec_l1In s.length 1 40) ?_
      simp only [go_sem]
      simp [areB, he]

set_option maxRecDepth 100000 in
theorem spec_l23Printable (s : List UInt8) (hs : s.length ≤ 1048576) : PureCall Tryd.prog 26 [.one (.str s)] [.one (.bool (areB s 32 126))] := by
  refine pure_ev Tryd.func26 rfl Tryd.call26 Tryd.checked.mixed [.d (.str s), .junk, .junk, .junk, .junk, .junk, .junk, .junk, .junk, .junk, .junk, .junk, .junk, .junk, .junk, .junk, .junk, .junk, .junk, .junk, .junk, .junk, .junk] rfl [.tmp 2] rfl ?_
  intro _
  simp only [go_sem]
  refine LoopK.intro (fun i : Nat => ⟨[.d (.str s), .junk, .d (.bool false), .d (.int .i64 i), .junk, .junk, .junk, .junk, .junk, .junk, .junk, .junk, .junk, .junk, .junk, .junk, .junk, .junk, .junk, .junk, .junk, .junk, .junk], []⟩)
      (fun i => s.length - i) (fun i => i ≤ s.length ∧ (s.take i).all (fun b => decide (32 ≤ (b.toNat : Int)) && decide ((b.toNat : Int) ≤ 126)) = true) 0 [] ⟨by omega, by simp⟩ ?_ ?_
  · simp only [go_sem]; simp
  · rintro i ⟨hi', he⟩
    simp only [go_sem]
    refine cSplit (fun h1 => ?_) (fun h1 => ?_)
    · have h1' := of_decide_eq_true h1
      have hlt : i < s.length := by omega
      have hx : s[i]? = some s[i] := List.getElem?_eq_getElem hlt
      have hw := inc hlt (show s.length ≤ maxLen from by simp only [maxLen]; omega)
      simp only [go_sem, Int.toNat_natCast, hx, Option.getD_some]
      refine ⟨⟨by omega, by omega⟩, ?_⟩
      repeat ((first | refine gSymS ?_ | (with_reducible refine And.intro ?_ ?_; (focus (first | omega | exact ⟨by omega, by omega⟩)))); try simp only [go_sem, Int.toNat_natCast, hx, Option.getD_some])
      refine cSplit (fun h2 => ?_) (fun h2 => ?_)
      · have h3 := areB_bad s 32 126 i hlt (by intro h4; simp [show ¬ (s[i].toNat : Int) < 32 from by omega, show ¬ 126 < (s[i].toNat : Int) from by omega] at h2)
        simp only [go_sem]
        simp [h3]
      · have h3 : (decide (32 ≤ (s[i].toNat : Int)) && decide ((s[i].toNat : Int) ≤ 126)) = true := by
          by_cases ha : (s[i].toNat : Int) < 32
          · simp [ha] at h2
          · by_cases hb : 126 < (s[i].toNat : Int)
            · simp [hb] at h2
            · simp; omega
        simp only [go_sem, hw]
        refine RoundE.intro (i + 1) [] ⟨by omega, all_step _ s i hlt he h3⟩ (by omega) ?_
        simp only [go_sem]
    · have h1' := of_decide_eq_false h1
      rw [List.take_of_length_le (by omega)] at he
      simp only [go_sem]
      refine CallS.intro (spec_l1In s.length 1 40) ?_
      simp only [go_sem]
      simp [areB, he]

set_option maxRecDepth 100000 in
theorem impl_isText (k i n : Int) (s : List UInt8) (hs : s.length ≤ 1048576) : PureCall Tryd.prog 29 [.agg [.int .i64 k, .int .i64 i, .int .i64 n, .str s]] [.one (.bool (evText k s))] := by
  refine pure_ev Tryd.func29 rfl Tryd.call29 Tryd.checked.mixed [.agg [.d (.int .i64 k), .d (.int .i64 i), .d (.int .i64 n), .d (.str s)], .junk, .junk, .junk, .junk, .junk, .junk, .junk, .junk, .junk, .junk, .junk, .junk, .junk, .junk, .junk, .junk, .junk, .junk, .junk, .junk, .junk, .junk, .junk, .junk, .junk, .junk, .junk, .junk, .junk, .junk, .junk, .junk, .junk, .junk, .junk, .junk, .junk, .junk, .junk, .junk, .junk, .junk, .junk] rfl [.tmp 2] rfl ?_
  intro _
  try simp only [go_sem]
  repeat' (first
    | (refine CallS.intro (by first | assumption | (apply impl_areBytes <;> first | assumption | omega) | (apply impl_DecodeHex <;> first | assumption | omega) | (apply impl_within <;> first | assumption | omega)) ?_; simp only [go_sem])
    | (refine CallK.intro (by first | assumption | (apply impl_areBytes <;> first | assumption | omega) | (apply impl_DecodeHex <;> first | assumption | omega) | (apply impl_within <;> first | assumption | omega)) ?_; simp only [go_sem])
    | (with_reducible refine gTrueS ?_; simp only [go_sem]) | (with_reducible refine gFalseS ?_; simp only [go_sem]) | (with_reducible refine gTrue ?_; simp only [go_sem]) | (with_reducible refine gFalse ?_; simp only [go_sem])
    | (refine gSymS ?_; simp only [go_sem]) | (refine gSym ?_; simp only [go_sem])
    | (refine cSplit (fun h => ?_) (fun h => ?_) <;> simp only [go_sem])
    | (with_reducible refine And.intro ?_ ?_; (focus (first | omega | (exact ⟨by omega, by omega⟩) | (simp; done) | (simp; omega)))))
  all_goals simp_all [evText]

set_option maxRecDepth 100000 in
theorem spec_l23Form (k i n : Int) (s : List UInt8) : PureCall Tryd.prog 23 [.agg [.int .i64 k, .int .i64 i, .int .i64 n, .str s]] [.agg [.int .i64 k, .int .i64 (evForm ⟨k, i, n, s⟩).id, .int .i64 (evForm ⟨k, i, n, s⟩).n, .str (evForm ⟨k, i, n, s⟩).text]] := by
  refine pure_ev Tryd.func23 rfl Tryd.call23 Tryd.checked.mixed [.agg [.d (.int .i64 k), .d (.int .i64 i), .d (.int .i64 n), .d (.str s)], .junk, .junk, .junk, .junk, .junk, .junk, .junk, .junk, .junk, .junk, .junk, .junk, .junk, .junk, .junk, .junk, .junk, .junk, .junk, .junk, .junk, .junk, .junk, .junk, .junk, .junk, .junk, .junk, .junk, .junk, .junk, .junk, .junk, .junk, .junk, .junk, .junk, .junk, .junk, .junk, .junk, .junk] rfl [.cell 2 26] rfl ?_
  intro _
  try simp only [go_sem]
  repeat' (first
    | (with_reducible refine gTrueS ?_; simp only [go_sem]) | (with_reducible refine gFalseS ?_; simp only [go_sem]) | (with_reducible refine gTrue ?_; simp only [go_sem]) | (with_reducible refine gFalse ?_; simp only [go_sem])
    | (refine gSymS ?_; simp only [go_sem]) | (refine gSym ?_; simp only [go_sem])
    | (refine cSplit (fun h => ?_) (fun h => ?_) <;> simp only [go_sem])
    | (with_reducible refine And.intro ?_ ?_; (focus (first | omega | (exact ⟨by omega, by omega⟩) | (simp; done) | (simp; omega)))))
  all_goals simp_all [evForm, usesI, usesN, usesT]

theorem ev_law (k i n : Int) (s : List UInt8) : isEvent ⟨k, i, n, s⟩ = (!(bif bif bif decide (evWord k = []) then true else !(decide ((evForm ⟨k, i, n, s⟩).id = i) && (decide ((evForm ⟨k, i, n, s⟩).n = n) && decide ((evForm ⟨k, i, n, s⟩).text = s))) then true else !inB i 0 999999 then true else !inB n 0 999999) && evText k s) := by
  have hA : decide ((evForm ⟨k, i, n, s⟩).id = i) = (usesI k || decide (i = 0)) := by simp only [evForm]; cases usesI k <;> simp [eq_comm]
  have hB : decide ((evForm ⟨k, i, n, s⟩).n = n) = (usesN k || decide (n = 0)) := by simp only [evForm]; cases usesN k <;> simp [eq_comm]
  have hC : decide ((evForm ⟨k, i, n, s⟩).text = s) = (usesT k || decide (s = [])) := by simp only [evForm]; cases usesT k <;> simp [eq_comm]
  have hT : evText k s = (evText k s && (usesT k || decide (s = []))) := by
    by_cases h1 : k = 1
    · simp [usesT, h1]
    · by_cases h2 : k = 2
      · simp [usesT, h2]
      · by_cases h7 : k = 7
        · simp [usesT, h7]
        · by_cases h11 : k = 11
          · simp [usesT, h11]
          · simp [evText, usesT, h1, h2, h7, h11]
  have hW : decide (evWord k ≠ []) = !decide (evWord k = []) := by simp
  rw [hA, hB, hC]
  show (decide (evWord k ≠ []) && inB i 0 999999 && inB n 0 999999 && (usesI k || decide (i = 0)) && (usesN k || decide (n = 0)) && evText k s) = _
  rw [hW, hT]
  generalize decide (evWord k = []) = w
  generalize inB i 0 999999 = a
  generalize inB n 0 999999 = b
  generalize (usesI k || decide (i = 0)) = p
  generalize (usesN k || decide (n = 0)) = q
  generalize (usesT k || decide (s = [])) = c
  generalize evText k s = t
  cases w <;> cases a <;> cases b <;> cases p <;> cases q <;> cases c <;> cases t <;> rfl

set_option maxRecDepth 100000 in
theorem impl_IsEvent (k i n : Int) (s : List UInt8) (hs : s.length ≤ 1048576) : PureCall Tryd.prog 15 [.agg [.int .i64 k, .int .i64 i, .int .i64 n, .str s]] [.one (.bool (isEvent ⟨k, i, n, s⟩))] := by
  refine pure_ev Tryd.func15 rfl Tryd.call15 Tryd.checked.mixed [.agg [.d (.int .i64 k), .d (.int .i64 i), .d (.int .i64 n), .d (.str s)], .junk, .junk, .junk, .junk, .junk, .junk, .junk, .junk, .junk, .junk, .junk, .junk, .junk, .junk, .junk, .junk, .junk, .junk, .junk, .junk, .junk, .junk, .junk, .junk, .junk, .junk, .junk, .junk, .junk, .junk, .junk, .junk, .junk, .junk, .junk, .junk, .junk, .junk, .junk, .junk, .junk, .junk, .junk, .junk, .junk, .junk] rfl [.tmp 2] rfl ?_
  intro _
  try simp only [go_sem]
  repeat' (first
    | (refine CallS.intro (by first | assumption | (apply impl_uses <;> first | assumption | omega) | (apply impl_EventWord <;> first | assumption | omega) | (apply impl_within <;> first | assumption | omega) | (apply impl_isText <;> first | assumption | omega)) ?_; simp only [go_sem])
    | (refine CallK.intro (by first | assumption | (apply impl_uses <;> first | assumption | omega) | (apply impl_EventWord <;> first | assumption | omega) | (apply impl_within <;> first | assumption | omega) | (apply impl_isText <;> first | assumption | omega)) ?_; simp only [go_sem])
    | (with_reducible refine gTrueS ?_; simp only [go_sem]) | (with_reducible refine gFalseS ?_; simp only [go_sem]) | (with_reducible refine gTrue ?_; simp only [go_sem]) | (with_reducible refine gFalse ?_; simp only [go_sem])
    | (refine gSymS ?_; simp only [go_sem]) | (refine gSym ?_; simp only [go_sem])
    | (refine cSplit (fun h => ?_) (fun h => ?_) <;> simp only [go_sem])
    | (with_reducible refine And.intro ?_ ?_; (focus (first | omega | (exact ⟨by omega, by omega⟩) | (simp; done) | (simp; omega)))))
  simp only [bif_and, bif_or]
  rfl

set_option maxRecDepth 100000 in
theorem spec_IsEvent (k i n : Int) (s : List UInt8) (hs : s.length ≤ 1048576) : PureCall Tryd.prog 12 [.agg [.int .i64 k, .int .i64 i, .int .i64 n, .str s]] [.one (.bool (isEvent ⟨k, i, n, s⟩))] := by
  refine pure_ev Tryd.func12 rfl Tryd.call12 Tryd.checked.mixed [.agg [.d (.int .i64 k), .d (.int .i64 i), .d (.int .i64 n), .d (.str s)], .junk, .junk, .junk, .junk, .junk, .junk, .junk, .junk, .junk, .junk, .junk, .junk, .junk, .junk, .junk, .junk, .junk, .junk, .junk, .junk, .junk, .junk, .junk, .junk, .junk, .junk, .junk, .junk, .junk, .junk, .junk, .junk, .junk, .junk, .junk, .junk, .junk, .junk, .junk, .junk, .junk, .junk, .junk, .junk, .junk, .junk, .junk, .junk, .junk, .junk, .junk, .junk, .junk, .junk, .junk, .junk, .junk, .junk, .junk, .junk, .junk, .junk] rfl [.tmp 2] rfl ?_
  intro _
  try simp only [go_sem]
  repeat' (first
    | (refine CallS.intro (by first | assumption | (apply spec_EventWord <;> first | assumption | omega) | (apply spec_l23Form <;> first | assumption | omega) | (apply spec_l1In <;> first | assumption | omega) | (apply spec_l23Letters <;> first | assumption | omega) | (apply spec_l23Printable <;> first | assumption | omega) | (apply spec_DecodeHex <;> first | assumption | omega)) ?_; simp only [go_sem])
    | (refine CallK.intro (by first | assumption | (apply spec_EventWord <;> first | assumption | omega) | (apply spec_l23Form <;> first | assumption | omega) | (apply spec_l1In <;> first | assumption | omega) | (apply spec_l23Letters <;> first | assumption | omega) | (apply spec_l23Printable <;> first | assumption | omega) | (apply spec_DecodeHex <;> first | assumption | omega)) ?_; simp only [go_sem])
    | (with_reducible refine gTrueS ?_; simp only [go_sem]) | (with_reducible refine gFalseS ?_; simp only [go_sem]) | (with_reducible refine gTrue ?_; simp only [go_sem]) | (with_reducible refine gFalse ?_; simp only [go_sem])
    | (refine gSymS ?_; simp only [go_sem]) | (refine gSym ?_; simp only [go_sem])
    | (refine drawE_intro [[.post, .post, .post, .post, .post, .post, .post, .post, .post, .post, .post, .post, .post, .post, .post, .post, .post, .post, .post, .post, .post, .post], [.pre, .post, .post, .post, .post, .post, .post, .post, .post, .post, .post, .post, .post, .post, .post, .post, .post, .post, .post, .post, .post, .post], [.pre, .pre, .post, .post, .post, .post, .post, .post, .post, .post, .post, .post, .post, .post, .post, .post, .post, .post, .post, .post, .post, .post], [.pre, .pre, .pre, .post, .post, .post, .post, .post, .post, .post, .post, .post, .post, .post, .post, .post, .post, .post, .post, .post, .post, .post], [.pre, .pre, .pre, .pre, .post, .post, .post, .post, .post, .post, .post, .post, .post, .post, .post, .post, .post, .post, .post, .post, .post, .post], [.pre, .pre, .pre, .pre, .pre, .post, .post, .un, .post, .post, .post, .post, .post, .post, .post, .post, .post, .post, .post, .post, .post, .post], [.pre, .pre, .pre, .pre, .pre, .pre, .post, .un, .post, .post, .post, .post, .post, .post, .post, .post, .post, .post, .post, .post, .post, .post], [.pre, .pre, .pre, .pre, .pre, .un, .un, .post, .post, .post, .post, .post, .post, .post, .post, .post, .post, .post, .post, .post, .post, .post], [.pre, .pre, .pre, .pre, .pre, .pre, .pre, .pre, .post, .post, .post, .post, .post, .post, .post, .post, .post, .post, .post, .post, .post, .post], [.pre, .pre, .pre, .pre, .pre, .pre, .pre, .pre, .pre, .post, .post, .post, .post, .post, .post, .post, .post, .post, .post, .post, .post, .post], [.pre, .pre, .pre, .pre, .pre, .pre, .pre, .pre, .pre, .pre, .post, .post, .post, .post, .post, .post, .post, .post, .post, .post, .post, .post], [.pre, .pre, .pre, .pre, .pre, .pre, .pre, .pre, .pre, .pre, .pre, .post, .post, .post, .post, .post, .post, .post, .post, .post, .post, .post], [.pre, .pre, .pre, .pre, .pre, .pre, .pre, .pre, .pre, .pre, .pre, .pre, .post, .post, .post, .post, .post, .post, .post, .post, .post, .post], [.pre, .pre, .pre, .pre, .pre, .pre, .pre, .pre, .pre, .pre, .pre, .pre, .pre, .post, .post, .post, .post, .post, .post, .post, .post, .post], [.pre, .pre, .pre, .pre, .pre, .pre, .pre, .pre, .pre, .pre, .pre, .pre, .pre, .pre, .post, .post, .post, .post, .post, .post, .post, .post], [.pre, .pre, .pre, .pre, .pre, .pre, .pre, .pre, .pre, .pre, .pre, .pre, .pre, .pre, .pre, .post, .post, .post, .post, .post, .post, .post], [.pre, .pre, .pre, .pre, .pre, .pre, .pre, .pre, .pre, .pre, .pre, .pre, .pre, .pre, .pre, .pre, .post, .post, .post, .post, .post, .post], [.pre, .pre, .pre, .pre, .pre, .pre, .pre, .pre, .pre, .pre, .pre, .pre, .pre, .pre, .pre, .pre, .pre, .post, .post, .post, .post, .post], [.pre, .pre, .pre, .pre, .pre, .pre, .pre, .pre, .pre, .pre, .pre, .pre, .pre, .pre, .pre, .pre, .pre, .pre, .post, .post, .post, .post], [.pre, .pre, .pre, .pre, .pre, .pre, .pre, .pre, .pre, .pre, .pre, .pre, .pre, .pre, .pre, .pre, .pre, .pre, .pre, .post, .post, .post], [.pre, .pre, .pre, .pre, .pre, .pre, .pre, .pre, .pre, .pre, .pre, .pre, .pre, .pre, .pre, .pre, .pre, .pre, .pre, .pre, .post, .post], [.pre, .pre, .pre, .pre, .pre, .pre, .pre, .pre, .pre, .pre, .pre, .pre, .pre, .pre, .pre, .pre, .pre, .pre, .pre, .pre, .pre, .post]] (by kernel_rfl) (by rfl) ?_; simp only [go_sem])
    | (refine cSplit (fun h => ?_) (fun h => ?_) <;> simp only [go_sem])
    | (with_reducible refine And.intro ?_ ?_; (focus (first | omega | (exact ⟨by omega, by omega⟩) | (simp; done) | (simp; omega)))))
  all_goals first | (rw [ev_law, h]; rfl) | (rw [ev_law]; simp_all [evText]; done) | (rw [ev_law]; simp_all [evText, evForm, usesT]; done)
end Gv
