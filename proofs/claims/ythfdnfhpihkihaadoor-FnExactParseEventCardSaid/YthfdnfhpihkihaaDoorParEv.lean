/-
  Lines read as events.
-/
import Derived.Test.YthfdnfhpihkihaaDoorPar
namespace Gv
open Go Go.Proofs

/-- The kind whose word it is: the last that fits. -/
def kindOf (w : List UInt8) : Nat → Int
  | 0 => 0
  | n + 1 => if evWord ((n + 1 : Nat) : Int) = w then ((n + 1 : Nat) : Int) else kindOf w n
def numI (s : List UInt8) : Int := if (parseI s).2 = true then (parseI s).1 else -1

/-- What the reference reads. -/
def specEv (line : List UInt8) : TEvent :=
  let k := kindOf (cutW line).1 12
  let rest := (cutW line).2
  let a := (cutW rest).1
  let b := (cutW rest).2
  if k = 1 ∨ k = 11 then ⟨k, 0, 0, rest⟩
  else if k = 2 ∨ k = 7 then ⟨k, numI a, 0, b⟩
  else if k = 3 then ⟨k, numI rest, 0, []⟩
  else if k = 4 ∨ k = 5 ∨ k = 6 then ⟨k, numI a, numI b, []⟩
  else ⟨k, 0, numI rest, []⟩
def specPE (line : List UInt8) : TEvent × Bool := if evFmt (specEv line) = line ∧ line ≠ [] then (specEv line, true) else (⟨0, 0, 0, []⟩, false)

theorem kindOf_le (w : List UInt8) : ∀ n, 0 ≤ kindOf w n ∧ kindOf w n ≤ n
  | 0 => by simp [kindOf]
  | n + 1 => by
    have := kindOf_le w n
    simp only [kindOf]
    split <;> omega

theorem pe_bad (s : List UInt8) (X : TEvent) (hX : specEv s = X) (h : (bif decide (evFmt X ≠ s) then true else decide (s = [])) = true) :
    [AD.agg [.int .i64 0, .int .i64 0, .int .i64 0, .str []], AD.one (.bool false)] = [AD.agg [.int .i64 (specPE s).1.kind, .int .i64 (specPE s).1.id, .int .i64 (specPE s).1.n, .str (specPE s).1.text], AD.one (.bool (specPE s).2)] := by
  have e : specPE s = (⟨0, 0, 0, []⟩, false) := by
    unfold specPE
    rw [hX, if_neg]
    rintro ⟨h1, h2⟩
    simp [h1, h2] at h
  rw [e]
theorem pe_ok (s : List UInt8) (X : TEvent) (hX : specEv s = X) (h : (bif decide (evFmt X ≠ s) then true else decide (s = [])) = false) :
    [AD.agg [.int .i64 X.kind, .int .i64 X.id, .int .i64 X.n, .str X.text], AD.one (.bool true)] = [AD.agg [.int .i64 (specPE s).1.kind, .int .i64 (specPE s).1.id, .int .i64 (specPE s).1.n, .str (specPE s).1.text], AD.one (.bool (specPE s).2)] := by
  have e : specPE s = (X, true) := by
    unfold specPE
    rw [hX, if_pos]
    refine ⟨?_, ?_⟩
    · by_cases q : evFmt X = s
      · exact q
      · simp [q] at h
    · intro q
      subst q
      by_cases q : evFmt X = []
      · simp [q] at h
      · simp [q] at h
  rw [e]

set_option maxHeartbeats 4000000 in
set_option maxRecDepth 100000 in
theorem spec_ParseEvent (s : List UInt8) (hs : s.length ≤ 1048576) : PureCall Tryd.prog 9 [.one (.str s)] [.agg [.int .i64 (specPE s).1.kind, .int .i64 (specPE s).1.id, .int .i64 (specPE s).1.n, .str (specPE s).1.text], .one (.bool (specPE s).2)] := by
  refine pure_ev Tryd.func9 rfl Tryd.call9 Tryd.checked.mixed [.d (.str s), .junk, .junk, .junk, .junk, .junk, .junk, .junk, .junk, .junk, .junk, .junk, .junk, .junk, .junk, .junk, .junk, .junk, .junk, .junk, .junk, .junk, .junk, .junk, .junk, .junk, .junk, .junk, .junk, .junk, .junk, .junk, .junk, .junk, .junk, .junk, .junk, .junk, .junk, .junk, .junk, .junk, .junk, .junk, .junk, .junk, .junk, .junk, .junk, .junk, .junk, .junk, .junk, .junk, .junk, .junk, .junk, .junk, .junk, .junk, .junk, .junk, .junk, .junk, .junk, .junk, .junk, .junk, .junk, .junk, .junk, .junk, .junk, .junk] rfl [.cell 2 26, .tmp 3] rfl ?_
  intro ok
  have hc1 := cutW_len s
  have hc2 := cutW_len (cutW s).2
  simp only [go_sem]
  refine CallS.intro (spec_l23Word s hs) ?_
  simp only [go_sem]
  refine LoopK.intro (fun i : Nat => ⟨[.d (.str s), .junk, .ptr 0 0 0, .d (.bool false), .d (.str (cutW s).1), .d (.str (cutW s).2), .ptr 1 0 0, .d (.int .i64 ((i + 1 : Nat) : Int)), .junk, .junk, .junk, .junk, .junk, .junk, .junk, .junk, .junk, .junk, .junk, .junk, .junk, .junk, .junk, .junk, .junk, .junk, .junk, .junk, .junk, .junk, .junk, .junk, .junk, .junk, .junk, .junk, .junk, .junk, .junk, .junk, .junk, .junk, .junk, .junk, .junk, .junk, .junk, .junk, .junk, .junk, .junk, .junk, .junk, .junk, .junk, .junk, .junk, .junk, .junk, .junk, .junk, .junk, .junk, .junk, .junk, .junk, .junk, .junk, .junk, .junk, .junk, .junk, .junk, .junk], [.box [.d (.int .i64 0), .d (.int .i64 0), .d (.int .i64 0), .d (.str [])], .box [.d (.int .i64 (kindOf (cutW s).1 i)), .d (.int .i64 0), .d (.int .i64 0), .d (.str [])]]⟩)
      (fun i => 13 - i) (fun i => i ≤ 12) 0 [0, 1] (by omega) ?_ ?_
  · simp only [go_sem]
    simp [kindOf]
  · intro i hi
    simp only [go_sem]
    refine cSplit (fun h => ?_) (fun h => ?_)
    · have hlt : i < 12 := by have := of_decide_eq_true h; omega
      have hw : IntKind.i64.wrap (((i + 1 : Nat) : Int) + 1) = ((i + 1 + 1 : Nat) : Int) := by rw [w64] <;> omega
      simp only [go_sem]
      refine CallS.intro (spec_EventWord ((i + 1 : Nat) : Int)) ?_
      simp only [go_sem]
      refine cSplit (fun h1 => ?_) (fun h1 => ?_)
      · have hk : kindOf (cutW s).1 (i + 1) = ((i + 1 : Nat) : Int) := by simp only [kindOf]; rw [if_pos (of_decide_eq_true h1)]
        simp only [go_sem, hw]
        refine RoundE.intro (i + 1) [0, 1] (by omega) (by omega) ?_
        simp only [go_sem, hk]
        try simp
      · have hk : kindOf (cutW s).1 (i + 1) = kindOf (cutW s).1 i := by simp only [kindOf]; rw [if_neg (of_decide_eq_false h1)]
        simp only [go_sem, hw]
        refine RoundE.intro (i + 1) [0, 1] (by omega) (by omega) ?_
        simp only [go_sem, hk]
        try simp
    · have hi12 : i = 12 := by have := of_decide_eq_false h; omega
      subst hi12
      have hkl := kindOf_le (cutW s).1 12
      generalize hk : kindOf (cutW s).1 12 = k at hkl
      simp only [go_sem]
      refine CallS.intro (spec_l23Word (cutW s).2 (by omega)) ?_
      have g1 := spec_l23Num (cutW s).2 (by omega)
      have g2 := spec_l23Num (cutW (cutW s).2).1 (by omega)
      have g3 := spec_l23Num (cutW (cutW s).2).2 (by omega)
      have h00 : ([] : List UInt8).length ≤ 1048576 := by simp
      have l1 : (cutW s).2.length ≤ 1048576 := by omega
      have l2 : (cutW (cutW s).2).1.length ≤ 1048576 := by omega
      have l3 : (cutW (cutW s).2).2.length ≤ 1048576 := by omega
      clear hc1 hc2
      try simp only [go_sem]
      repeat' (first
        | (refine CallS.intro (by first | assumption | (apply spec_l23Word <;> first | assumption | omega) | (apply spec_EventWord <;> first | assumption | omega) | (apply spec_l23Num <;> first | assumption | omega) | (apply spec_FormatEvent <;> first | assumption | omega)) ?_; simp only [go_sem])
        | (refine CallK.intro (by first | assumption | (apply spec_l23Word <;> first | assumption | omega) | (apply spec_EventWord <;> first | assumption | omega) | (apply spec_l23Num <;> first | assumption | omega) | (apply spec_FormatEvent <;> first | assumption | omega)) ?_; simp only [go_sem])
        | (with_reducible refine gTrueS ?_; simp only [go_sem]) | (with_reducible refine gFalseS ?_; simp only [go_sem]) | (with_reducible refine gTrue ?_; simp only [go_sem]) | (with_reducible refine gFalse ?_; simp only [go_sem])
        | (refine gSymS ?_; simp only [go_sem]) | (refine gSym ?_; simp only [go_sem])
        | (refine cSplit (fun h => ?_) (fun h => ?_) <;> simp only [go_sem])
        | (with_reducible refine And.intro ?_ ?_; (focus (first | omega | (exact ⟨by omega, by omega⟩) | (simp; done) | (simp; omega)))))
      all_goals first
        | exact pe_bad s _ (by clear ok; simp only [specEv, hk, numI]; simp_all) h
        | exact pe_ok s _ (by clear ok; simp only [specEv, hk, numI]; simp_all) h

/-- What the program reads. -/
def impStep (use : Bool) (rest : List UInt8) : Option (Int × List UInt8) :=
  if use = true then (if (parseI (cutW rest).1).2 = true then some ((parseI (cutW rest).1).1, (cutW rest).2) else none) else some (0, rest)
def impEv (line : List UInt8) : Option TEvent :=
  let k := kindOf (cutW line).1 12
  (impStep (usesI k) (cutW line).2).bind fun a => (impStep (usesN k) a.2).bind fun b => some ⟨k, a.1, b.1, if usesT k = true then b.2 else []⟩
def impPE (line : List UInt8) : TEvent × Bool :=
  match impEv line with
  | some e => if isEvent e = true ∧ evFmt e = line then (e, true) else (⟨0, 0, 0, []⟩, false)
  | none => (⟨0, 0, 0, []⟩, false)
theorem impStep_len {u : Bool} {r : List UInt8} {a : Int × List UInt8} (h : impStep u r = some a) : a.2.length ≤ r.length := by
  unfold impStep at h
  have := cutW_len r
  split at h
  · split at h
    · cases h; exact this.2
    · cases h
  · cases h; exact Nat.le_refl _

theorem ie_none (s : List UInt8) (hX : impEv s = none) :
    [AD.agg [.int .i64 0, .int .i64 0, .int .i64 0, .str []], AD.one (.bool false)] = [AD.agg [.int .i64 (impPE s).1.kind, .int .i64 (impPE s).1.id, .int .i64 (impPE s).1.n, .str (impPE s).1.text], AD.one (.bool (impPE s).2)] := by
  have e : impPE s = (⟨0, 0, 0, []⟩, false) := by unfold impPE; rw [hX]
  rw [e]
theorem ie_bad (s : List UInt8) (X : TEvent) (hX : impEv s = some X) (h : (bif !isEvent X then true else decide (evFmt X ≠ s)) = true) :
    [AD.agg [.int .i64 0, .int .i64 0, .int .i64 0, .str []], AD.one (.bool false)] = [AD.agg [.int .i64 (impPE s).1.kind, .int .i64 (impPE s).1.id, .int .i64 (impPE s).1.n, .str (impPE s).1.text], AD.one (.bool (impPE s).2)] := by
  have e : impPE s = (⟨0, 0, 0, []⟩, false) := by
    unfold impPE
    rw [hX]
    simp only
    rw [if_neg]
    rintro ⟨h1, h2⟩
    simp [h1, h2] at h
  rw [e]
theorem ie_ok (s : List UInt8) (X : TEvent) (hX : impEv s = some X) (h : (bif !isEvent X then true else decide (evFmt X ≠ s)) = false) :
    [AD.agg [.int .i64 X.kind, .int .i64 X.id, .int .i64 X.n, .str X.text], AD.one (.bool true)] = [AD.agg [.int .i64 (impPE s).1.kind, .int .i64 (impPE s).1.id, .int .i64 (impPE s).1.n, .str (impPE s).1.text], AD.one (.bool (impPE s).2)] := by
  have e : impPE s = (X, true) := by
    unfold impPE
    rw [hX]
    simp only
    rw [if_pos]
    cases q : isEvent X with
    | false => rw [q] at h; cases h
    | true =>
      rw [q] at h
      refine ⟨rfl, ?_⟩
      by_cases q2 : evFmt X = s
      · exact q2
      · simp [q2] at h
  rw [e]

set_option maxHeartbeats 4000000 in
set_option maxRecDepth 100000 in
theorem impl_ParseEvent (s : List UInt8) (hs : s.length ≤ 1048576) : PureCall Tryd.prog 10 [.one (.str s)] [.agg [.int .i64 (impPE s).1.kind, .int .i64 (impPE s).1.id, .int .i64 (impPE s).1.n, .str (impPE s).1.text], .one (.bool (impPE s).2)] := by
  refine pure_ev Tryd.func10 rfl Tryd.call10 Tryd.checked.mixed [.d (.str s), .junk, .junk, .junk, .junk, .junk, .junk, .junk, .junk, .junk, .junk, .junk, .junk, .junk, .junk, .junk, .junk, .junk, .junk, .junk, .junk, .junk, .junk, .junk, .junk, .junk, .junk, .junk, .junk, .junk, .junk, .junk, .junk, .junk, .junk, .junk, .junk, .junk, .junk, .junk, .junk, .junk, .junk, .junk, .junk, .junk, .junk, .junk, .junk, .junk, .junk, .junk, .junk, .junk, .junk, .junk, .junk, .junk, .junk, .junk, .junk, .junk, .junk, .junk, .junk, .junk, .junk, .junk, .junk, .junk, .junk, .junk, .junk, .junk, .junk, .junk, .junk, .junk, .junk, .junk, .junk, .junk, .junk, .junk, .junk, .junk, .junk, .junk, .junk, .junk, .junk, .junk, .junk, .junk, .junk, .junk, .junk, .junk, .junk, .junk] rfl [.cell 2 26, .tmp 3] rfl ?_
  intro ok
  have hc1 := cutW_len s
  simp only [go_sem]
  refine CallS.intro (strings_Cut s hs) ?_
  simp only [go_sem]
  refine LoopK.intro (fun i : Nat => ⟨[.d (.str s), .junk, .ptr 0 0 0, .d (.bool false), .d (.str (cutW s).1), .d (.str (cutW s).2), .junk, .ptr 1 0 0, .d (.int .i64 ((i + 1 : Nat) : Int)), .junk, .junk, .junk, .junk, .junk, .junk, .junk, .junk, .junk, .junk, .junk, .junk, .junk, .junk, .junk, .junk, .junk, .junk, .junk, .junk, .junk, .junk, .junk, .junk, .junk, .junk, .junk, .junk, .junk, .junk, .junk, .junk, .junk, .junk, .junk, .junk, .junk, .junk, .junk, .junk, .junk, .junk, .junk, .junk, .junk, .junk, .junk, .junk, .junk, .junk, .junk, .junk, .junk, .junk, .junk, .junk, .junk, .junk, .junk, .junk, .junk, .junk, .junk, .junk, .junk, .junk, .junk, .junk, .junk, .junk, .junk, .junk, .junk, .junk, .junk, .junk, .junk, .junk, .junk, .junk, .junk, .junk, .junk, .junk, .junk, .junk, .junk, .junk, .junk, .junk, .junk], [.box [.d (.int .i64 0), .d (.int .i64 0), .d (.int .i64 0), .d (.str [])], .box [.d (.int .i64 (kindOf (cutW s).1 i)), .d (.int .i64 0), .d (.int .i64 0), .d (.str [])]]⟩)
      (fun i => 13 - i) (fun i => i ≤ 12) 0 [0, 1] (by omega) ?_ ?_
  · simp only [go_sem]
    simp [kindOf]
  · intro i hi
    simp only [go_sem]
    refine cSplit (fun h => ?_) (fun h => ?_)
    · have hlt : i < 12 := by have := of_decide_eq_true h; omega
      have hw : IntKind.i64.wrap (((i + 1 : Nat) : Int) + 1) = ((i + 1 + 1 : Nat) : Int) := by rw [w64] <;> omega
      simp only [go_sem]
      refine CallS.intro (impl_EventWord ((i + 1 : Nat) : Int)) ?_
      simp only [go_sem]
      refine cSplit (fun h1 => ?_) (fun h1 => ?_)
      · have hk : kindOf (cutW s).1 (i + 1) = ((i + 1 : Nat) : Int) := by simp only [kindOf]; rw [if_pos (of_decide_eq_true h1)]
        simp only [go_sem, hw]
        refine RoundE.intro (i + 1) [0, 1] (by omega) (by omega) ?_
        simp only [go_sem, hk]
        try simp
      · have hk : kindOf (cutW s).1 (i + 1) = kindOf (cutW s).1 i := by simp only [kindOf]; rw [if_neg (of_decide_eq_false h1)]
        simp only [go_sem, hw]
        refine RoundE.intro (i + 1) [0, 1] (by omega) (by omega) ?_
        simp only [go_sem, hk]
        try simp
    · have hi12 : i = 12 := by have := of_decide_eq_false h; omega
      subst hi12
      have hkl := kindOf_le (cutW s).1 12
      generalize hk : kindOf (cutW s).1 12 = k at hkl
      simp only [go_sem]
      refine CallS.intro (impl_uses k) ?_
      simp only [go_sem]
      have l0 : (cutW s).2.length ≤ 1048576 := by omega
      have h00 : ([] : List UInt8).length ≤ 1048576 := by simp
      have hie : ∀ a b, impStep (usesI k) (cutW s).2 = some a → impStep (usesN k) a.2 = some b → impEv s = some ⟨k, a.1, b.1, if usesT k = true then b.2 else []⟩ := by
        intro a b h1 h2
        unfold impEv
        simp only [hk, h1, Option.bind_some, h2]
      have hin1 : impStep (usesI k) (cutW s).2 = none → impEv s = none := by
        intro h1
        unfold impEv
        simp only [hk, h1, Option.bind_none]
      have hin2 : ∀ a, impStep (usesI k) (cutW s).2 = some a → impStep (usesN k) a.2 = none → impEv s = none := by
        intro a h1 h2
        unfold impEv
        simp only [hk, h1, Option.bind_some, h2, Option.bind_none]
      refine LoopK.intro (α := Nat × Int × Int × List UInt8) (fun y => ⟨[.d (.str s), .junk, .ptr 0 0 0, .d (.bool false), .d (.str (cutW s).1), .d (.str y.2.2.2), .junk, .ptr 1 0 0, .junk, .d (.bool (usesI k)), .d (.bool (usesN k)), .d (.bool (usesT k)), .junk, .junk, .junk, .junk, .junk, .junk, .junk, .junk, .junk, .junk, .junk, .junk, .junk, .junk, .junk, .junk, .junk, .junk, .junk, .junk, .junk, .junk, .junk, .junk, .junk, .junk, .junk, .junk, .junk, .junk, .junk, .junk, .junk, .sl 2 0 2, .d (.int .i64 ((2 : Nat) : Int)), .d (.int .i64 (y.1 : Int)), .junk, .junk, .junk, .junk, .junk, .junk, .junk, .junk, .junk, .junk, .junk, .junk, .junk, .junk, .junk, .junk, .junk, .junk, .junk, .junk, .junk, .junk, .junk, .junk, .junk, .junk, .junk, .junk, .junk, .junk, .junk, .junk, .junk, .junk, .junk, .junk, .junk, .junk, .junk, .junk, .junk, .junk, .junk, .junk, .junk, .junk, .junk, .junk, .junk, .junk, .junk, .junk], [.box [.d (.int .i64 0), .d (.int .i64 0), .d (.int .i64 0), .d (.str [])], .box [.d (.int .i64 k), .d (.int .i64 y.2.1), .d (.int .i64 y.2.2.1), .d (.str [])], .box [.ptr 1 0 1, .ptr 1 0 2]]⟩)
        (fun y => 2 - y.1) (fun y => (y.1 = 0 ∧ y.2.1 = 0 ∧ y.2.2.1 = 0 ∧ y.2.2.2 = (cutW s).2) ∨ (y.1 = 1 ∧ impStep (usesI k) (cutW s).2 = some (y.2.1, y.2.2.2) ∧ y.2.2.1 = 0) ∨ (y.1 = 2 ∧ ∃ r1, impStep (usesI k) (cutW s).2 = some (y.2.1, r1) ∧ impStep (usesN k) r1 = some (y.2.2.1, y.2.2.2)))
        (0, 0, 0, (cutW s).2) [0, 1, 2] (.inl ⟨rfl, rfl, rfl, rfl⟩) ?_ ?_
      · simp only [go_sem]
        simp
      · have hlt0 : decide (((0 : Nat) : Int) < ((2 : Nat) : Int)) = true := rfl
        have hlt1 : decide (((1 : Nat) : Int) < ((2 : Nat) : Int)) = true := rfl
        have hlt2 : decide (((2 : Nat) : Int) < ((2 : Nat) : Int)) = false := rfl
        have hn0 : ((0 : Nat) : Int).toNat = 0 := rfl
        have hn1 : ((1 : Nat) : Int).toNat = 1 := rfl
        have hw01 : IntKind.i64.wrap (((0 : Nat) : Int) + 1) = ((1 : Nat) : Int) := by rw [w64] <;> omega
        have hw12 : IntKind.i64.wrap (((1 : Nat) : Int) + 1) = ((2 : Nat) : Int) := by rw [w64] <;> omega
        rintro ⟨j, id, n, rest⟩ (⟨q1, q2, q3, q4⟩ | ⟨q1, q2, q3⟩ | ⟨q1, r1, q2, q3⟩)
        · simp only at q1 q2 q3 q4
          subst q1; subst q2; subst q3; subst q4
          have c := cutW_len (cutW s).2
          have g1 := strings_Cut (cutW s).2 l0
          have g2 := impl_ParseInt (cutW (cutW s).2).1 (by omega)
          cases hu : usesI k with
          | false =>
            simp only [go_sem, hlt0, hn0]
            try simp only [go_sem, hu, hlt0, hn0]
            repeat' (first
              | (refine CallS.intro (by first | assumption | (apply strings_Cut <;> first | assumption | omega) | (apply impl_EventWord <;> first | assumption | omega) | (apply impl_uses <;> first | assumption | omega) | (apply impl_ParseInt <;> first | assumption | omega) | (apply impl_IsEvent <;> first | assumption | omega) | (apply impl_FormatEvent <;> first | assumption | omega)) ?_; simp only [go_sem, hu, hlt0, hn0])
              | (refine CallK.intro (by first | assumption | (apply strings_Cut <;> first | assumption | omega) | (apply impl_EventWord <;> first | assumption | omega) | (apply impl_uses <;> first | assumption | omega) | (apply impl_ParseInt <;> first | assumption | omega) | (apply impl_IsEvent <;> first | assumption | omega) | (apply impl_FormatEvent <;> first | assumption | omega)) ?_; simp only [go_sem, hu, hlt0, hn0])
              | (with_reducible refine gTrueS ?_; simp only [go_sem]) | (with_reducible refine gFalseS ?_; simp only [go_sem]) | (with_reducible refine gTrue ?_; simp only [go_sem, hu, hlt0, hn0]) | (with_reducible refine gFalse ?_; simp only [go_sem, hu, hlt0, hn0])
              | (refine gSymS ?_; simp only [go_sem, hu, hlt0, hn0]) | (refine gSym ?_; simp only [go_sem, hu, hlt0, hn0])
              | (refine cSplit (fun h => ?_) (fun h => ?_) <;> simp only [go_sem, hu, hlt0, hn0])
              | (with_reducible refine And.intro ?_ ?_; (focus (first | omega | (exact ⟨by omega, by omega⟩) | (simp; done) | (simp; omega)))))
            refine RoundE.intro (1, 0, 0, (cutW s).2) [0, 1, 2] (.inr (.inl ⟨rfl, by simp [impStep], rfl⟩)) (show 2 - 1 < 2 - 0 by omega) ?_
            simp only [go_sem, hw01]
            try simp
          | true =>
            simp only [go_sem, hlt0, hn0]
            try simp only [go_sem, hu, hlt0, hn0]
            repeat' (first
              | (refine CallS.intro (by first | assumption | (apply strings_Cut <;> first | assumption | omega) | (apply impl_EventWord <;> first | assumption | omega) | (apply impl_uses <;> first | assumption | omega) | (apply impl_ParseInt <;> first | assumption | omega) | (apply impl_IsEvent <;> first | assumption | omega) | (apply impl_FormatEvent <;> first | assumption | omega)) ?_; simp only [go_sem])
              | (refine CallK.intro (by first | assumption | (apply strings_Cut <;> first | assumption | omega) | (apply impl_EventWord <;> first | assumption | omega) | (apply impl_uses <;> first | assumption | omega) | (apply impl_ParseInt <;> first | assumption | omega) | (apply impl_IsEvent <;> first | assumption | omega) | (apply impl_FormatEvent <;> first | assumption | omega)) ?_; simp only [go_sem, hu, hlt0, hn0])
              | (with_reducible refine gTrueS ?_; simp only [go_sem]) | (with_reducible refine gFalseS ?_; simp only [go_sem]) | (with_reducible refine gTrue ?_; simp only [go_sem, hu, hlt0, hn0]) | (with_reducible refine gFalse ?_; simp only [go_sem, hu, hlt0, hn0])
              | (refine gSymS ?_; simp only [go_sem, hu, hlt0, hn0]) | (refine gSym ?_; simp only [go_sem, hu, hlt0, hn0])
              | (refine cSplit (fun h => ?_) (fun h => ?_) <;> simp only [go_sem])
              | (with_reducible refine And.intro ?_ ?_; (focus (first | omega | (exact ⟨by omega, by omega⟩) | (simp; done) | (simp; omega)))))
            · exact ie_none s (hin1 (by unfold impStep; rw [hu]; clear ok g1 g2; simp_all))
            · have hok : (parseI (cutW (cutW s).2).1).2 = true := by simpa using h
              refine RoundE.intro (1, (parseI (cutW (cutW s).2).1).1, 0, (cutW (cutW s).2).2) [0, 1, 2] (.inr (.inl ⟨rfl, by simp [impStep, hok], rfl⟩)) (show 2 - 1 < 2 - 0 by omega) ?_
              simp only [go_sem, hw01]
              try simp
        · simp only at q1 q2 q3
          subst q1; subst q3
          have lr := impStep_len q2
          simp only at lr
          have lr2 : rest.length ≤ 1048576 := by omega
          have c := cutW_len rest
          have g1 := strings_Cut rest lr2
          have g2 := impl_ParseInt (cutW rest).1 (by omega)
          cases hu : usesN k with
          | false =>
            simp only [go_sem, hlt1, hn1]
            try simp only [go_sem, hu, hlt1, hn1]
            repeat' (first
              | (refine CallS.intro (by first | assumption | (apply strings_Cut <;> first | assumption | omega) | (apply impl_EventWord <;> first | assumption | omega) | (apply impl_uses <;> first | assumption | omega) | (apply impl_ParseInt <;> first | assumption | omega) | (apply impl_IsEvent <;> first | assumption | omega) | (apply impl_FormatEvent <;> first | assumption | omega)) ?_; simp only [go_sem, hu, hlt1, hn1])
              | (refine CallK.intro (by first | assumption | (apply strings_Cut <;> first | assumption | omega) | (apply impl_EventWord <;> first | assumption | omega) | (apply impl_uses <;> first | assumption | omega) | (apply impl_ParseInt <;> first | assumption | omega) | (apply impl_IsEvent <;> first | assumption | omega) | (apply impl_FormatEvent <;> first | assumption | omega)) ?_; simp only [go_sem, hu, hlt1, hn1])
              | (with_reducible refine gTrueS ?_; simp only [go_sem]) | (with_reducible refine gFalseS ?_; simp only [go_sem]) | (with_reducible refine gTrue ?_; simp only [go_sem, hu, hlt1, hn1]) | (with_reducible refine gFalse ?_; simp only [go_sem, hu, hlt1, hn1])
              | (refine gSymS ?_; simp only [go_sem, hu, hlt1, hn1]) | (refine gSym ?_; simp only [go_sem, hu, hlt1, hn1])
              | (refine cSplit (fun h => ?_) (fun h => ?_) <;> simp only [go_sem, hu, hlt1, hn1])
              | (with_reducible refine And.intro ?_ ?_; (focus (first | omega | (exact ⟨by omega, by omega⟩) | (simp; done) | (simp; omega)))))
            refine RoundE.intro (2, id, 0, rest) [0, 1, 2] (.inr (.inr ⟨rfl, rest, q2, by simp [impStep]⟩)) (show 2 - 2 < 2 - 1 by omega) ?_
            simp only [go_sem, hw12]
            try simp
          | true =>
            simp only [go_sem, hlt1, hn1]
            try simp only [go_sem, hu, hlt1, hn1]
            repeat' (first
              | (refine CallS.intro (by first | assumption | (apply strings_Cut <;> first | assumption | omega) | (apply impl_EventWord <;> first | assumption | omega) | (apply impl_uses <;> first | assumption | omega) | (apply impl_ParseInt <;> first | assumption | omega) | (apply impl_IsEvent <;> first | assumption | omega) | (apply impl_FormatEvent <;> first | assumption | omega)) ?_; simp only [go_sem])
              | (refine CallK.intro (by first | assumption | (apply strings_Cut <;> first | assumption | omega) | (apply impl_EventWord <;> first | assumption | omega) | (apply impl_uses <;> first | assumption | omega) | (apply impl_ParseInt <;> first | assumption | omega) | (apply impl_IsEvent <;> first | assumption | omega) | (apply impl_FormatEvent <;> first | assumption | omega)) ?_; simp only [go_sem, hu, hlt1, hn1])
              | (with_reducible refine gTrueS ?_; simp only [go_sem]) | (with_reducible refine gFalseS ?_; simp only [go_sem]) | (with_reducible refine gTrue ?_; simp only [go_sem, hu, hlt1, hn1]) | (with_reducible refine gFalse ?_; simp only [go_sem, hu, hlt1, hn1])
              | (refine gSymS ?_; simp only [go_sem, hu, hlt1, hn1]) | (refine gSym ?_; simp only [go_sem, hu, hlt1, hn1])
              | (refine cSplit (fun h => ?_) (fun h => ?_) <;> simp only [go_sem])
              | (with_reducible refine And.intro ?_ ?_; (focus (first | omega | (exact ⟨by omega, by omega⟩) | (simp; done) | (simp; omega)))))
            · exact ie_none s (hin2 _ q2 (by simp only; unfold impStep; rw [hu]; clear ok g1 g2; simp_all))
            · have hok : (parseI (cutW rest).1).2 = true := by simpa using h
              refine RoundE.intro (2, id, (parseI (cutW rest).1).1, (cutW rest).2) [0, 1, 2] (.inr (.inr ⟨rfl, rest, q2, by simp [impStep, hok]⟩)) (show 2 - 2 < 2 - 1 by omega) ?_
              simp only [go_sem, hw12]
              try simp
        · simp only at q1 q2 q3
          subst q1
          have lr := impStep_len q2
          have lr3 := impStep_len q3
          simp only at lr lr3
          have lr2 : rest.length ≤ 1048576 := by omega
          have hx := hie _ _ q2 q3
          simp only at hx
          cases hu : usesT k with
          | false =>
            rw [hu] at hx
            simp only [go_sem, hlt2]
            try simp only [go_sem, hu, hlt2]
            repeat' (first
              | (refine CallS.intro (by first | assumption | (apply strings_Cut <;> first | assumption | omega) | (apply impl_EventWord <;> first | assumption | omega) | (apply impl_uses <;> first | assumption | omega) | (apply impl_ParseInt <;> first | assumption | omega) | (apply impl_IsEvent <;> first | assumption | omega) | (apply impl_FormatEvent <;> first | assumption | omega)) ?_; simp only [go_sem])
              | (refine CallK.intro (by first | assumption | (apply strings_Cut <;> first | assumption | omega) | (apply impl_EventWord <;> first | assumption | omega) | (apply impl_uses <;> first | assumption | omega) | (apply impl_ParseInt <;> first | assumption | omega) | (apply impl_IsEvent <;> first | assumption | omega) | (apply impl_FormatEvent <;> first | assumption | omega)) ?_; simp only [go_sem])
              | (with_reducible refine gTrueS ?_; simp only [go_sem, hu, hlt2]) | (with_reducible refine gFalseS ?_; simp only [go_sem, hu, hlt2]) | (with_reducible refine gTrue ?_; simp only [go_sem, hu, hlt2]) | (with_reducible refine gFalse ?_; simp only [go_sem, hu, hlt2])
              | (refine gSymS ?_; simp only [go_sem]) | (refine gSym ?_; simp only [go_sem, hu, hlt2])
              | (refine cSplit (fun h => ?_) (fun h => ?_) <;> simp only [go_sem])
              | (with_reducible refine And.intro ?_ ?_; (focus (first | omega | (exact ⟨by omega, by omega⟩) | (simp; done) | (simp; omega)))))
            · exact ie_bad s _ hx h
            · exact ie_ok s _ hx h
          | true =>
            rw [hu] at hx
            simp only [go_sem, hlt2]
            try simp only [go_sem, hu, hlt2]
            repeat' (first
              | (refine CallS.intro (by first | assumption | (apply strings_Cut <;> first | assumption | omega) | (apply impl_EventWord <;> first | assumption | omega) | (apply impl_uses <;> first | assumption | omega) | (apply impl_ParseInt <;> first | assumption | omega) | (apply impl_IsEvent <;> first | assumption | omega) | (apply impl_FormatEvent <;> first | assumption | omega)) ?_; simp only [go_sem])
              | (refine CallK.intro (by first | assumption | (apply strings_Cut <;> first | assumption | omega) | (apply impl_EventWord <;> first | assumption | omega) | (apply impl_uses <;> first | assumption | omega) | (apply impl_ParseInt <;> first | assumption | omega) | (apply impl_IsEvent <;> first | assumption | omega) | (apply impl_FormatEvent <;> first | assumption | omega)) ?_; simp only [go_sem])
              | (with_reducible refine gTrueS ?_; simp only [go_sem, hu, hlt2]) | (with_reducible refine gFalseS ?_; simp only [go_sem, hu, hlt2]) | (with_reducible refine gTrue ?_; simp only [go_sem, hu, hlt2]) | (with_reducible refine gFalse ?_; simp only [go_sem, hu, hlt2])
              | (refine gSymS ?_; simp only [go_sem]) | (refine gSym ?_; simp only [go_sem, hu, hlt2])
              | (refine cSplit (fun h => ?_) (fun h => ?_) <;> simp only [go_sem])
              | (with_reducible refine And.intro ?_ ?_; (focus (first | omega | (exact ⟨by omega, by omega⟩) | (simp; done) | (simp; omega)))))
            · exact ie_bad s _ hx h
            · exact ie_ok s _ hx h
end Gv
