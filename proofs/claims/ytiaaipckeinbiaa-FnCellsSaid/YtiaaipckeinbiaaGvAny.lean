/-
  Regions whose operations may come in whatever order their edges leave open: each is computed at the state that holds what must lie ahead of it, and no more; then every order ends alike.
-/
import Derived.Test.YtiaaipckeinbiaaGvCode
namespace Gv
open Go

variable {P : Program}

abbrev It := Oper × Nat × Res

/-- What an operation's result leaves at an entry. -/
def tch (n : Nat) (r : Res) (id : Nat) : Option H :=
  match (r.upd.reverse.find? (·.1 == id)) with
  | some p => some p.2
  | none => if n ≤ id ∧ id < n + r.new.length then some (r.new.getD (id - n) .dead) else none

theorem hget_upds : ∀ (upd : List (Nat × H)) (hs : List H) (id : Nat), hget (hupd hs upd) id = ((upd.reverse.find? (·.1 == id)).map (·.2)).getD (hget hs id)
  | [], hs, id => rfl
  | (i, x) :: r, hs, id => by
    rw [hupd, hget_upds r (hput hs i x) id, hget_hput]
    simp only [List.reverse_cons, List.find?_append]
    cases h : r.reverse.find? (·.1 == id) with
    | some p => simp
    | none =>
      by_cases hi : i = id
      · subst hi; simp
      · have hb : (i == id) = false := by simpa using hi
        have hi' : ¬ id = i := fun e => hi e.symm
        simp [hb, hi']

theorem hget_app (σ : St) (dst : Option Tmp) (n : Nat) (r : Res) (id : Nat) : hget (σ.app dst n r).heap id = (tch n r id).getD (hget σ.heap id) := by
  simp only [St.app]
  rw [hget_upds, hget_hnew]
  unfold tch
  cases h : r.upd.reverse.find? (·.1 == id) with
  | some p => simp
  | none =>
    by_cases hc : n ≤ id ∧ id < n + r.new.length
    · simp [hc]
    · simp [hc]

theorem tmps_app (σ : St) (dst : Option Tmp) (n : Nat) (r : Res) (t : Nat) : (σ.app dst n r).tmps[t]? = if dst = some t then (if t < σ.tmps.length then some r.v else none) else σ.tmps[t]? := by
  cases dst with
  | none => simp [St.app]
  | some d =>
    simp only [St.app, List.getElem?_set, Option.some.injEq]
    by_cases h : d = t
    · subst h; simp
    · simp [h]

theorem len_app (σ : St) (dst : Option Tmp) (n : Nat) (r : Res) : (σ.app dst n r).tmps.length = σ.tmps.length := by
  cases dst <;> simp [St.app]

/-- The chosen ones, in the order of the text. -/
def apS (S : Nat → Bool) : Nat → List It → St → St
  | _, [], σ => σ
  | k, (o, n, r) :: l, σ => apS S (k + 1) l (if S k then σ.app o.dst n r else σ)

theorem apS_len (S : Nat → Bool) : ∀ (l : List It) (k : Nat) (σ : St), (apS S k l σ).tmps.length = σ.tmps.length
  | [], _, _ => rfl
  | (o, n, r) :: l, k, σ => by
    rw [apS, apS_len S l]
    split
    · exact len_app σ o.dst n r
    · rfl

theorem apS_tm (S S' : Nat → Bool) (t : Nat) : ∀ (l : List It) (k : Nat) (σ σ' : St), σ.tmps[t]? = σ'.tmps[t]? → σ.tmps.length = σ'.tmps.length → (∀ (j : Nat) (x : It), l[j]? = some x → x.1.dst = some t → S (k + j) = S' (k + j)) → (apS S k l σ).tmps[t]? = (apS S' k l σ').tmps[t]?
  | [], _, _, _, h, _, _ => h
  | (o, n, r) :: l, k, σ, σ', h, hl, hj => by
    rw [apS, apS]
    have hl' : ∀ b b' : Bool, (if b = true then σ.app o.dst n r else σ).tmps.length = (if b' = true then σ'.app o.dst n r else σ').tmps.length := by
      intro b b'; cases b <;> cases b' <;> simp [len_app, hl]
    refine apS_tm S S' t l (k + 1) _ _ ?_ (hl' _ _) fun j x hx hd => by
      have := hj (j + 1) x (by simpa using hx) hd
      rw [show k + 1 + j = k + (j + 1) from by omega]; exact this
    by_cases hd : o.dst = some t
    · have h0 := hj 0 (o, n, r) rfl hd
      simp only [Nat.add_zero] at h0
      rw [h0]
      split
      · rw [tmps_app, tmps_app, if_pos hd, if_pos hd, hl]
      · exact h
    · have h1 : ∀ (b : Bool) (τ : St), (if b = true then τ.app o.dst n r else τ).tmps[t]? = τ.tmps[t]? := by
        intro b τ; cases b
        · rfl
        · simp only [if_true]; rw [tmps_app, if_neg hd]
      rw [h1, h1, h]

theorem apS_hp (S S' : Nat → Bool) (id : Nat) : ∀ (l : List It) (k : Nat) (σ σ' : St), hget σ.heap id = hget σ'.heap id → (∀ (j : Nat) (x : It), l[j]? = some x → tch x.2.1 x.2.2 id ≠ none → S (k + j) = S' (k + j)) → hget (apS S k l σ).heap id = hget (apS S' k l σ').heap id
  | [], _, _, _, h, _ => h
  | (o, n, r) :: l, k, σ, σ', h, hj => by
    rw [apS, apS]
    refine apS_hp S S' id l (k + 1) _ _ ?_ fun j x hx hd => by
      have := hj (j + 1) x (by simpa using hx) hd
      rw [show k + 1 + j = k + (j + 1) from by omega]; exact this
    by_cases hd : tch n r id = none
    · have h1 : ∀ (b : Bool) (τ : St), hget (if b = true then τ.app o.dst n r else τ).heap id = hget τ.heap id := by
        intro b τ; cases b
        · rfl
        · simp only [if_true]; rw [hget_app, hd]; rfl
      rw [h1, h1, h]
    · have h0 := hj 0 (o, n, r) rfl hd
      simp only [Nat.add_zero] at h0
      rw [h0]
      split
      · rw [hget_app, hget_app, h]
      · exact h

/-- The last that writes it. -/
theorem apS_tm_last (S : Nat → Bool) (t : Nat) : ∀ (l : List It) (k : Nat) (σ : St) (i : Nat) (x : It), l[i]? = some x → x.1.dst = some t → S (k + i) = true → (∀ (j : Nat) (y : It), i < j → l[j]? = some y → y.1.dst = some t → S (k + j) = false) → (apS S k l σ).tmps[t]? = if t < σ.tmps.length then some x.2.2.v else none
  | [], _, _, i, _, hi, _, _, _ => by simp at hi
  | (o, n, r) :: l, k, σ, 0, x, hi, hd, hs, hl => by
    simp at hi; subst hi
    rw [apS]
    simp only [Nat.add_zero] at hs
    rw [hs]
    have := apS_tm S (fun _ => false) t l (k + 1) (σ.app o.dst n r) (σ.app o.dst n r) rfl rfl fun j y hy hd' => by
      have := hl (j + 1) y (by omega) (by simpa using hy) hd'
      rw [show k + 1 + j = k + (j + 1) from by omega]; exact this
    simp only [if_true]
    rw [this]
    have hid : ∀ (l : List It) (k : Nat) (τ : St), apS (fun _ => false) k l τ = τ := by
      intro l
      induction l with
      | nil => intro k τ; rfl
      | cons y l ih => intro k τ; obtain ⟨o, n, r⟩ := y; rw [apS]; simpa using ih (k + 1) τ
    rw [hid, tmps_app, if_pos hd]
  | (o, n, r) :: l, k, σ, i + 1, x, hi, hd, hs, hl => by
    rw [apS, apS_tm_last S t l (k + 1) _ i x (by simpa using hi) hd (by rw [show k + 1 + i = k + (i + 1) from by omega]; exact hs) fun j y hij hy hd' => by
      have := hl (j + 1) y (by omega) (by simpa using hy) hd'
      rw [show k + 1 + j = k + (j + 1) from by omega]; exact this]
    split
    · rw [len_app]
    · rfl

theorem apS_hp_last (S : Nat → Bool) (id : Nat) : ∀ (l : List It) (k : Nat) (σ : St) (i : Nat) (x : It) (y : H), l[i]? = some x → tch x.2.1 x.2.2 id = some y → S (k + i) = true → (∀ (j : Nat) (z : It), i < j → l[j]? = some z → tch z.2.1 z.2.2 id ≠ none → S (k + j) = false) → hget (apS S k l σ).heap id = y
  | [], _, _, i, _, _, hi, _, _, _ => by simp at hi
  | (o, n, r) :: l, k, σ, 0, x, y, hi, hd, hs, hl => by
    simp at hi; subst hi
    rw [apS]
    simp only [Nat.add_zero] at hs
    rw [hs]
    have := apS_hp S (fun _ => false) id l (k + 1) (σ.app o.dst n r) (σ.app o.dst n r) rfl fun j y hy hd' => by
      have := hl (j + 1) y (by omega) (by simpa using hy) hd'
      rw [show k + 1 + j = k + (j + 1) from by omega]; exact this
    simp only [if_true]
    rw [this]
    have hid : ∀ (l : List It) (k : Nat) (τ : St), apS (fun _ => false) k l τ = τ := by
      intro l
      induction l with
      | nil => intro k τ; rfl
      | cons y l ih => intro k τ; obtain ⟨o, n, r⟩ := y; rw [apS]; simpa using ih (k + 1) τ
    rw [hid, hget_app, hd]; rfl
  | (o, n, r) :: l, k, σ, i + 1, x, y, hi, hd, hs, hl => by
    rw [apS]
    exact apS_hp_last S id l (k + 1) _ i x y (by simpa using hi) hd (by rw [show k + 1 + i = k + (i + 1) from by omega]; exact hs) fun j z hij hz hd' => by
      have := hl (j + 1) z (by omega) (by simpa using hz) hd'
      rw [show k + 1 + j = k + (j + 1) from by omega]; exact this

/-- The relation sees the entries only. -/
theorem R_ext {B : Nat → Prop} {w0 : World} {Dm : Nat → Prop} {φ : Phi} {ts ts' : List V} {hs hs' : List H} {kp : List (V × Value)} {a : Act} {w : World} (r : R B w0 Dm φ ⟨ts, hs⟩ kp a w) (ht : ts' = ts) (h : ∀ i, hget hs' i = hget hs i) : R B w0 Dm φ ⟨ts', hs'⟩ kp a w := by
  subst ht
  have e1 : NotTop φ hs' = NotTop φ hs := by funext b; simp only [NotTop, h]
  have e2 : ∀ i b, Owns φ hs' i b = Owns φ hs i b := by intro i b; simp only [Owns, h]
  refine ⟨by simp only [e1]; exact r.tm, by simp only [e1]; exact r.kp, fun i => by simp only [e1, h]; exact r.hp i, fun i j b h1 h2 => ?_, fun i β e hx => r.o2 i β e (by simp only [h] at hx; exact hx), fun i b h1 => r.o3 i b (by rw [← e2]; exact h1), r.dm, r.bel, r.bs, r.de, r.gb⟩
  simp only [e2] at h1 h2
  exact r.o1 i j b h1 h2


/-! ### What must lie ahead, what may, what comes behind -/

inductive Rl where
  | pre
  | un
  | post
  deriving DecidableEq

def rlAt (rows : List (List Rl)) (i j : Nat) : Rl := (rows.getD i []).getD j .post

def edgeB (ops : List Oper) (i j : Nat) : Bool := match ops[i]? with | some o => o.after.toList.any fun e => Region.binds .any e && e.on == j | none => false

def okRow (ops : List Oper) (rows : List (List Rl)) (m i j : Nat) : Bool :=
  (match rlAt rows i j with
    | .pre => decide (j < i) && (edgeB ops i j || (List.range m).any fun k => edgeB ops i k && decide (rlAt rows k j = .pre) && decide (k < i))
    | .post => decide (j = i) || decide (rlAt rows j i = .pre)
    | .un => decide (j ≠ i) && decide (rlAt rows j i = .un)) &&
  (decide (j = i) || match ops[i]?, ops[j]? with | some x, some y => decide (x.dst = none) || decide (x.dst ≠ y.dst) | _, _ => true)

def okRows (ops : List Oper) (rows : List (List Rl)) : Bool :=
  decide (rows.length = ops.length) && (List.range ops.length).all fun i => ((match ops[i]? with | some o => o.after.toList.all fun e => !Region.binds .any e || decide (e.on < i) | none => true)) && (List.range ops.length).all fun j => okRow ops rows ops.length i j

theorem okRows_at {ops : List Oper} {rows : List (List Rl)} (h : okRows ops rows = true) {i j : Nat} (hi : i < ops.length) (hj : j < ops.length) : okRow ops rows ops.length i j = true := by
  simp only [okRows, Bool.and_eq_true, List.all_eq_true, List.mem_range] at h
  exact (h.2 i hi).2 j hj

theorem okRows_edge {ops : List Oper} {rows : List (List Rl)} (h : okRows ops rows = true) {i : Nat} {o : Oper} (hi : ops[i]? = some o) {e : Edge} (he : e ∈ o.after.toList) (hb : Region.binds .any e = true) : e.on < i := by
  have hlt : i < ops.length := (List.getElem?_eq_some_iff.1 hi).1
  simp only [okRows, Bool.and_eq_true, List.all_eq_true, List.mem_range] at h
  have := (h.2 i hlt).1
  rw [hi] at this
  simp only [List.all_eq_true] at this
  have := this e he
  simpa [hb] using this

theorem rl_pre {ops : List Oper} {rows : List (List Rl)} (h : okRows ops rows = true) {i j : Nat} (hi : i < ops.length) (hj : j < ops.length) (hr : rlAt rows i j = .pre) : j < i ∧ (edgeB ops i j = true ∨ ∃ k, edgeB ops i k = true ∧ rlAt rows k j = .pre ∧ k < i) := by
  have := okRows_at h hi hj
  unfold okRow at this
  rw [hr] at this
  simp only [Bool.and_eq_true, Bool.or_eq_true, decide_eq_true_eq, List.any_eq_true, List.mem_range] at this
  refine ⟨this.1.1, this.1.2.imp id ?_⟩
  rintro ⟨k, _, ⟨h1, h2⟩, h3⟩
  exact ⟨k, h1, h2, h3⟩

theorem rl_post {ops : List Oper} {rows : List (List Rl)} (h : okRows ops rows = true) {i j : Nat} (hi : i < ops.length) (hj : j < ops.length) (hr : rlAt rows i j = .post) : j = i ∨ rlAt rows j i = .pre := by
  have := okRows_at h hi hj
  unfold okRow at this
  rw [hr] at this
  simp only [Bool.and_eq_true, Bool.or_eq_true, decide_eq_true_eq] at this
  exact this.1

theorem rl_un {ops : List Oper} {rows : List (List Rl)} (h : okRows ops rows = true) {i j : Nat} (hi : i < ops.length) (hj : j < ops.length) (hr : rlAt rows i j = .un) : rlAt rows j i = .un := by
  have := okRows_at h hi hj
  unfold okRow at this
  rw [hr] at this
  simp only [Bool.and_eq_true, decide_eq_true_eq] at this
  exact this.1.2

theorem rl_dst {ops : List Oper} {rows : List (List Rl)} (h : okRows ops rows = true) {i j : Nat} {x y : Oper} (hx : ops[i]? = some x) (hy : ops[j]? = some y) (hne : j ≠ i) {d : Tmp} (hd : x.dst = some d) : y.dst ≠ some d := by
  have hi : i < ops.length := (List.getElem?_eq_some_iff.1 hx).1
  have hj : j < ops.length := (List.getElem?_eq_some_iff.1 hy).1
  have := okRows_at h hi hj
  unfold okRow at this
  simp only [Bool.and_eq_true, Bool.or_eq_true, decide_eq_true_eq, hne, false_or, hx, hy, hd] at this
  rcases this.2 with h1 | h1
  · cases h1
  · exact fun e => h1 e.symm

def kilT (ts : List V) (d : Option Tmp) : List V := match d with | some t => ts.set t .junk | none => ts
def kilH : List H → List (Nat × H) → List H
  | hs, [] => hs
  | hs, (i, _) :: r => kilH (hput hs i .dead) r

/-- The state that holds what must lie ahead. -/
def mask : List Rl → List It → List Oper → St → St
  | .pre :: row, (o, n, r) :: l, rest, σ => mask row l rest (σ.app o.dst n r)
  | .un :: row, (o, _, r) :: l, rest, σ => mask row l rest ⟨kilT σ.tmps o.dst, kilH σ.heap r.upd⟩
  | .post :: row, _ :: l, rest, σ => mask row l rest σ
  | .un :: row, [], o :: rest, σ => mask row [] rest ⟨kilT σ.tmps o.dst, σ.heap⟩
  | .pre :: row, [], _ :: rest, σ => mask row [] rest σ
  | .post :: row, [], _ :: rest, σ => mask row [] rest σ
  | [], _, _, σ => σ
  | _ :: _, [], [], σ => σ

theorem hget_kilH : ∀ (upd : List (Nat × H)) (hs : List H) (id : Nat), hget (kilH hs upd) id = .dead ∨ (hget (kilH hs upd) id = hget hs id ∧ ∀ x, (id, x) ∉ upd)
  | [], hs, id => .inr ⟨rfl, by simp⟩
  | (i, y) :: r, hs, id => by
    rw [kilH]
    rcases hget_kilH r (hput hs i .dead) id with h | ⟨h1, h2⟩
    · exact .inl h
    · rw [hget_hput] at h1
      by_cases hi : id = i
      · rw [if_pos hi] at h1; exact .inl h1
      · rw [if_neg hi] at h1
        exact .inr ⟨h1, fun x hx => by
          rcases List.mem_cons.1 hx with hx | hx
          · cases hx; exact hi rfl
          · exact h2 x hx⟩

theorem tch_none {n : Nat} {r : Res} {id : Nat} (h1 : ∀ x, (id, x) ∉ r.upd) (h2 : ¬ (n ≤ id ∧ id < n + r.new.length)) : tch n r id = none := by
  unfold tch
  rw [if_neg h2]
  cases h : r.upd.reverse.find? (·.1 == id) with
  | none => rfl
  | some p =>
    exfalso
    have hm := List.mem_of_find?_eq_some h
    have hp := List.find?_some h
    simp only [beq_iff_eq] at hp
    exact h1 p.2 (by rw [← hp]; simpa using hm)

/-- The numbers of new entries go up; what is changed was there. -/
def Asc : Nat → List It → Prop
  | _, [] => True
  | c, (_, n, r) :: l => n = c ∧ (∀ p ∈ r.upd, p.1 < n + r.new.length) ∧ Asc (c + r.new.length) l

structure Lq (σm σs : St) : Prop where
  len : σm.tmps.length = σs.tmps.length
  tm : ∀ (t : Nat) (v : V), σm.tmps[t]? = some v → v = .junk ∨ σs.tmps[t]? = some v
  hp : ∀ i, hget σm.heap i = .dead ∨ hget σs.heap i = hget σm.heap i

theorem Lq.app {σm σs : St} (h : Lq σm σs) (dst : Option Tmp) (n : Nat) (r : Res) : Lq (σm.app dst n r) (σs.app dst n r) := by
  refine ⟨by rw [len_app, len_app, h.len], fun t v e => ?_, fun i => ?_⟩
  · rw [tmps_app] at e ⊢
    by_cases hd : dst = some t
    · rw [if_pos hd] at e ⊢; rw [← h.len]; exact .inr e
    · rw [if_neg hd] at e ⊢; exact h.tm t v e
  · rw [hget_app, hget_app]
    cases tch n r i with
    | none => exact h.hp i
    | some x => exact .inr rfl

theorem kilT_at (ts : List V) (d : Option Tmp) (t : Nat) (v : V) (h : (kilT ts d)[t]? = some v) : v = .junk ∨ (ts[t]? = some v ∧ d ≠ some t) := by
  cases d with
  | none => exact .inr ⟨h, by simp⟩
  | some x =>
    simp only [kilT, List.getElem?_set] at h
    by_cases hx : x = t
    · rw [if_pos hx] at h
      split at h
      · cases h; exact .inl rfl
      · cases h
    · rw [if_neg hx] at h; exact .inr ⟨h, fun e => hx (Option.some.inj e)⟩

theorem kilT_len (ts : List V) (d : Option Tmp) : (kilT ts d).length = ts.length := by cases d <;> simp [kilT]

theorem mask_nil_heap : ∀ (row : List Rl) (rest : List Oper) (σ : St), (mask row [] rest σ).heap = σ.heap
  | [], [], _ => rfl
  | [], _ :: _, _ => rfl
  | .pre :: _, [], _ => rfl
  | .un :: _, [], _ => rfl
  | .post :: _, [], _ => rfl
  | .pre :: row, _ :: rest, σ => mask_nil_heap row rest σ
  | .un :: row, o :: rest, σ => mask_nil_heap row rest ⟨kilT σ.tmps o.dst, σ.heap⟩
  | .post :: row, _ :: rest, σ => mask_nil_heap row rest σ

theorem mask_le (S : Nat → Bool) : ∀ (row : List Rl) (l : List It) (rest : List Oper) (tail : List It) (k c : Nat) (σm σs : St), tail.map (·.1) = rest → row.length = l.length + rest.length → Asc c (l ++ tail) → Lq σm σs → (∀ id, c ≤ id → hget σm.heap id = .dead) →
    (∀ j, row[j]? = some .pre → j < l.length ∧ S (k + j) = true) → (∀ j, row[j]? = some .post → S (k + j) = false) → (∀ (j : Nat) (x : It), row[j]? = some .un → l.length ≤ j → tail[j - l.length]? = some x → S (k + j) = true → ∀ p ∈ x.2.2.upd, hget (mask row l rest σm).heap p.1 = .dead) →
    Lq (mask row l rest σm) (apS S k (l ++ tail) σs)
  | [], l, rest, tail, k, c, σm, σs, ht, hl, _, h, _, _, _, _ => by
    have h1 : l = [] := List.eq_nil_of_length_eq_zero (by simp at hl; omega)
    have h2 : rest = [] := List.eq_nil_of_length_eq_zero (by simp at hl; omega)
    subst h1; subst h2
    have h3 : tail = [] := by simpa using ht
    subst h3
    simpa [mask, apS] using h
  | x :: row, (o, n, r) :: l, rest, tail, k, c, σm, σs, ht, hl, ha, h, hd, hp, hq, hu => by
    simp only [List.cons_append, Asc] at ha
    obtain ⟨rfl, ha1, ha2⟩ := ha
    rw [List.cons_append, apS]
    have hp' : ∀ j, row[j]? = some .pre → j < l.length ∧ S (k + 1 + j) = true := fun j hj => by
      have := hp (j + 1) (by simpa using hj)
      rw [show k + 1 + j = k + (j + 1) from by omega]; exact ⟨by simpa using this.1, this.2⟩
    have hq' : ∀ j, row[j]? = some .post → S (k + 1 + j) = false := fun j hj => by
      have := hq (j + 1) (by simpa using hj)
      rw [show k + 1 + j = k + (j + 1) from by omega]; exact this
    have hu' : ∀ (j : Nat) (x' : It), row[j]? = some .un → l.length ≤ j → tail[j - l.length]? = some x' → S (k + 1 + j) = true → ∀ p ∈ x'.2.2.upd, hget (mask (x :: row) ((o, n, r) :: l) rest σm).heap p.1 = .dead := fun j x h1 h2 h3 h4 => by
      refine hu (j + 1) x (by simpa using h1) (by simp; omega) ?_ (by rw [show k + (j + 1) = k + 1 + j from by omega]; exact h4)
      simpa using h3
    have hdead : ∀ id, n + r.new.length ≤ id → ∀ y, (id, y) ∉ r.upd := fun id hid y hy => by have := ha1 _ hy; simp only at this; omega
    cases x with
    | pre =>
      have h0 := (hp 0 rfl).2
      simp only [Nat.add_zero] at h0
      rw [h0]
      simp only [if_true, mask]
      refine mask_le S row l rest tail (k + 1) _ _ _ ht (by simpa [Nat.add_right_comm] using hl) ha2 (h.app o.dst n r) (fun id hid => ?_) hp' hq' hu'
      rw [hget_app, tch_none (hdead id hid) (by omega)]
      exact hd id (by omega)
    | un =>
      simp only [mask]
      refine mask_le S row l rest tail (k + 1) _ _ _ ht (by simpa [Nat.add_right_comm] using hl) ha2 ?_ (fun id hid => ?_) hp' hq' hu'
      · refine ⟨?_, fun t v e => ?_, fun i => ?_⟩
        · simp only [kilT_len]; rw [h.len]; split
          · rw [len_app]
          · rfl
        · rcases kilT_at _ _ _ _ e with h1 | ⟨h1, h2⟩
          · exact .inl h1
          · split
            · rw [tmps_app, if_neg h2]; exact h.tm t v h1
            · exact h.tm t v h1
        · rcases hget_kilH r.upd σm.heap i with h1 | ⟨h1, h2⟩
          · exact .inl h1
          · rw [h1]
            split
            · by_cases hr : n ≤ i ∧ i < n + r.new.length
              · exact .inl (hd i hr.1)
              · rw [hget_app, tch_none h2 hr]; exact h.hp i
            · exact h.hp i
      · rcases hget_kilH r.upd σm.heap id with h1 | ⟨h1, h2⟩
        · exact h1
        · rw [h1]; exact hd id (by omega)
    | post =>
      have h0 := hq 0 rfl
      simp only [Nat.add_zero] at h0
      rw [h0]
      simp only [Bool.false_eq_true, if_false, mask]
      exact mask_le S row l rest tail (k + 1) _ _ _ ht (by simpa [Nat.add_right_comm] using hl) ha2 h (fun id hid => hd id (by omega)) hp' hq' hu'
  | x :: row, [], [], tail, k, c, σm, σs, ht, hl, _, _, _, _, _, _ => by simp at hl
  | x :: row, [], o :: rest, tail, k, c, σm, σs, ht, hl, ha, h, hd, hp, hq, hu => by
    cases tail with
    | nil => simp at ht
    | cons y tail =>
      obtain ⟨o', n, r⟩ := y
      simp only [List.map_cons, List.cons.injEq] at ht
      obtain ⟨rfl, ht⟩ := ht
      simp only [List.nil_append, Asc] at ha
      obtain ⟨rfl, ha1, ha2⟩ := ha
      simp only [List.nil_append, apS]
      have hp' : ∀ j, row[j]? = some .pre → j < ([] : List It).length ∧ S (k + 1 + j) = true := fun j hj => by
        have := (hp (j + 1) (by simpa using hj)).1
        simp at this
      have hq' : ∀ j, row[j]? = some .post → S (k + 1 + j) = false := fun j hj => by
        have := hq (j + 1) (by simpa using hj)
        rw [show k + 1 + j = k + (j + 1) from by omega]; exact this
      have hu' : ∀ (τ : St), τ.heap = σm.heap → ∀ (j : Nat) (x' : It), row[j]? = some .un → ([] : List It).length ≤ j → tail[j - ([] : List It).length]? = some x' → S (k + 1 + j) = true → ∀ p ∈ x'.2.2.upd, hget (mask row [] rest τ).heap p.1 = .dead := fun τ hτ j x' h1 h2 h3 h4 p hp => by
        have := hu (j + 1) x' (by simpa using h1) (by simp) (by simpa using h3) (by rw [show k + (j + 1) = k + 1 + j from by omega]; exact h4) p hp
        rw [mask_nil_heap] at this ⊢
        rw [hτ]; exact this
      have hl' : row.length = ([] : List It).length + rest.length := by simp at hl ⊢; omega
      have hd' : ∀ id, n + r.new.length ≤ id → hget σm.heap id = .dead := fun id hid => hd id (by omega)
      cases x with
      | pre => have := (hp 0 rfl).1; simp at this
      | un =>
        simp only [mask]
        have := mask_le S row [] rest tail (k + 1) _ ⟨kilT σm.tmps o'.dst, σm.heap⟩ (if S k = true then σs.app o'.dst n r else σs) ht hl' (by simpa using ha2) ?_ hd' hp' hq' (hu' _ rfl)
        · simpa using this
        · refine ⟨?_, fun t v e => ?_, fun i => ?_⟩
          · simp only [kilT_len]; rw [h.len]; split
            · rw [len_app]
            · rfl
          · rcases kilT_at _ _ _ _ e with h1 | ⟨h1, h2⟩
            · exact .inl h1
            · split
              · rw [tmps_app, if_neg h2]; exact h.tm t v h1
              · exact h.tm t v h1
          · split
            · rename_i hs
              have hue := hu 0 (o', n, r) rfl (by simp) (by simp) hs
              by_cases hr : n ≤ i ∧ i < n + r.new.length
              · exact .inl (hd i hr.1)
              · by_cases hx : ∃ z, (i, z) ∈ r.upd
                · obtain ⟨z, hz⟩ := hx
                  have := hue (i, z) hz
                  rw [mask_nil_heap] at this
                  exact .inl this
                · rw [hget_app, tch_none (fun z hz => hx ⟨z, hz⟩) hr]; exact h.hp i
            · exact h.hp i
      | post =>
        have h0 := hq 0 rfl
        simp only [Nat.add_zero] at h0
        rw [h0]
        simp only [Bool.false_eq_true, if_false, mask]
        have := mask_le S row [] rest tail (k + 1) _ σm σs ht hl' (by simpa using ha2) h hd' hp' hq' (hu' _ rfl)
        simpa using this


def anyE (P : Program) (ops : List Oper) (σ0 : St) : List (List Rl) → List Oper → List It → Nat → (List It → Prop) → Prop
  | row :: rows, o :: rest, l, n, K => stepE P ops (mask row l (o :: rest) σ0) n o fun r => anyE P ops σ0 rows rest (l ++ [(o, n, r)]) (n + r.new.length) K
  | _, [], l, _, K => K l
  | [], _ :: _, _, _, _ => False

def Num : Nat → List It → Prop
  | _, [] => True
  | c, (_, n, r) :: l => n = c ∧ Num (c + r.new.length) l

theorem anyE_ok {ops : Array Oper} {σ0 : St} : ∀ (rest : List Oper) (rows : List (List Rl)) (l : List It) (n : Nat) (K : List It → Prop), anyE P ops.toList σ0 rows rest l n K →
    ∃ tail : List It, tail.map (·.1) = rest ∧ K (l ++ tail) ∧ Num n tail ∧ ∀ (j : Nat) (x : It), tail[j]? = some x → ∃ row, rows[j]? = some row ∧ StepOK P ops x.1 (mask row (l ++ tail.take j) (rest.drop j) σ0) x.2.1 x.2.2
  | [], rows, l, n, K, h => by
    have : K l := by cases rows <;> exact h
    exact ⟨[], rfl, by simpa using this, trivial, by simp⟩
  | o :: rest, [], l, n, K, h => h.elim
  | o :: rest, row :: rows, l, n, K, h => by
    simp only [anyE] at h
    obtain ⟨r, h1, h2⟩ := stepE_ok h
    obtain ⟨tail, t1, t2, t3, t4⟩ := anyE_ok rest rows _ _ K h2
    refine ⟨(o, n, r) :: tail, by simp [t1], by simpa using t2, ⟨rfl, t3⟩, fun j x hj => ?_⟩
    cases j with
    | zero => simp at hj; subst hj; exact ⟨row, rfl, by simpa using h1⟩
    | succ j =>
      obtain ⟨row', k1, k2⟩ := t4 j x (by simpa using hj)
      exact ⟨row', by simpa using k1, by simpa using k2⟩

def allPre : List Rl → Bool
  | [] => true
  | .pre :: r => allPre r
  | _ :: _ => false

def ltE (b : Nat) : List (Nat × H) → Prop
  | [] => True
  | (i, _) :: r => i < b ∧ ltE b r

def updE : List (List Rl) → Nat → List It → Prop
  | row :: rows, i, (_, n, r) :: l => (match r.upd with | [] => True | _ :: _ => allPre (row.take i) = true) ∧ ltE (n + r.new.length) r.upd ∧ updE rows (i + 1) l
  | _, _, [] => True
  | [], _, _ :: _ => False

def outB (x : It) (id : Nat) : Bool := !(decide (x.2.1 ≤ id) && decide (id < x.2.1 + x.2.2.new.length)) && !(x.2.2.upd.any fun q => q.1 == id)
def deadB : H → Bool
  | .dead => true
  | _ => false

/-- What one operation consumes is not seen by those that may come before or behind it. -/
def okR (σ0 : St) (ids : List Nat) : List Rl → List (List Rl) → List It → List It → List Oper → Bool
  | r :: row, rk :: rows, pre, x :: l, o :: ops => (match r with | .pre => true | _ => ids.all fun id => deadB (hget (mask rk pre (o :: ops) σ0).heap id) && outB x id) && okR σ0 ids row rows (pre ++ [x]) l ops
  | _, _, _, [], _ => true
  | _, _, _, _ :: _, _ => false

def okI (σ0 : St) (row : List Rl) (rows : List (List Rl)) (pre : List It) (ops : List Oper) : List (Nat × H) → Bool
  | [] => true
  | p :: u => okR σ0 (p.1 :: u.map (·.1)) row rows [] pre ops

def upd2 (σ0 : St) (rowsAll : List (List Rl)) (opsAll : List Oper) : List (List Rl) → List It → List It → Prop
  | row :: rows, pre, (o, n, r) :: l => okI σ0 row rowsAll pre opsAll r.upd = true ∧ ltE (n + r.new.length) r.upd ∧ upd2 σ0 rowsAll opsAll rows (pre ++ [(o, n, r)]) l
  | _, _, [] => True
  | [], _, _ :: _ => False

theorem deadB_ok {x : H} (h : deadB x = true) : x = .dead := by cases x <;> first | rfl | cases h

theorem okR_at {σ0 : St} {ids : List Nat} : ∀ {l : List It} {row : List Rl} {rows : List (List Rl)} {pre : List It} {ops : List Oper}, okR σ0 ids row rows pre l ops = true → ∀ (k : Nat) (y : It) (ρ : Rl), l[k]? = some y → row[k]? = some ρ → ρ ≠ .pre → ∀ id ∈ ids,
    ∃ rk, rows[k]? = some rk ∧ hget (mask rk (pre ++ l.take k) (ops.drop k) σ0).heap id = .dead ∧ outB y id = true
  | [], _, _, _, _, _, k, y, ρ, hy, _, _, _, _ => by simp at hy
  | x :: l, [], _, _, _, h, _, _, _, _, _, _, _, _ => by simp [okR] at h
  | x :: l, _ :: _, [], _, _, h, _, _, _, _, _, _, _, _ => by simp [okR] at h
  | x :: l, _ :: _, _ :: _, _, [], h, _, _, _, _, _, _, _, _ => by simp [okR] at h
  | x :: l, r :: row, rk :: rows, pre, o :: ops, h, k, y, ρ, hy, hr, hne, id, hid => by
    simp only [okR, Bool.and_eq_true] at h
    cases k with
    | zero =>
      simp at hy hr; subst hy; subst hr
      have h1 := h.1
      refine ⟨rk, rfl, ?_⟩
      cases r with
      | pre => exact absurd rfl hne
      | un =>
        simp only [List.all_eq_true, Bool.and_eq_true] at h1
        obtain ⟨h3, h4⟩ := h1 id hid
        exact ⟨by simpa using deadB_ok h3, h4⟩
      | post =>
        simp only [List.all_eq_true, Bool.and_eq_true] at h1
        obtain ⟨h3, h4⟩ := h1 id hid
        exact ⟨by simpa using deadB_ok h3, h4⟩
    | succ k =>
      obtain ⟨rk', k1, k2, k3⟩ := okR_at h.2 k y ρ (by simpa using hy) (by simpa using hr) hne id hid
      exact ⟨rk', by simpa using k1, by simpa using k2, k3⟩

theorem allPre_at : ∀ {row : List Rl}, allPre row = true → ∀ (j : Nat) (x : Rl), row[j]? = some x → x = .pre
  | [], _, j, x, h => by simp at h
  | y :: row, h, j, x, hx => by
    cases y <;> simp only [allPre] at h
    · cases j with
      | zero => simp at hx; exact hx.symm
      | succ j => exact allPre_at h j x (by simpa using hx)
    · cases h
    · cases h

theorem ltE_mem {b : Nat} : ∀ {upd : List (Nat × H)}, ltE b upd → ∀ p ∈ upd, p.1 < b
  | [], _, p, hp => by cases hp
  | (i, x) :: r, h, p, hp => by
    rcases List.mem_cons.1 hp with rfl | hp
    · exact h.1
    · exact ltE_mem h.2 p hp

theorem upd2_at {σ0 : St} {rowsAll : List (List Rl)} {opsAll : List Oper} : ∀ {l : List It} {rows : List (List Rl)} {pre : List It}, upd2 σ0 rowsAll opsAll rows pre l → ∀ (j : Nat) (x : It), l[j]? = some x → ∃ row, rows[j]? = some row ∧ okI σ0 row rowsAll (pre ++ l.take j) opsAll x.2.2.upd = true ∧ ∀ p ∈ x.2.2.upd, p.1 < x.2.1 + x.2.2.new.length
  | [], _, _, _, j, x, h => by simp at h
  | (o, n, r) :: l, [], _, h, j, x, hx => h.elim
  | (o, n, r) :: l, row :: rows, pre, h, j, x, hx => by
    obtain ⟨h1, h2, h3⟩ := h
    cases j with
    | zero => simp at hx; subst hx; exact ⟨row, rfl, by simpa using h1, ltE_mem h2⟩
    | succ j =>
      obtain ⟨row', k1, k2, k3⟩ := upd2_at h3 j x (by simpa using hx)
      exact ⟨row', by simpa using k1, by simpa using k2, k3⟩

theorem updE_at : ∀ {l : List It} {rows : List (List Rl)} {i : Nat}, updE rows i l → ∀ (j : Nat) (x : It), l[j]? = some x → ∃ row, rows[j]? = some row ∧ (x.2.2.upd = [] ∨ ∀ k, k < i + j → k < row.length → row[k]? = some .pre) ∧ ∀ p ∈ x.2.2.upd, p.1 < x.2.1 + x.2.2.new.length
  | [], _, _, _, j, x, h => by simp at h
  | (o, n, r) :: l, [], i, h, j, x, hx => h.elim
  | (o, n, r) :: l, row :: rows, i, h, j, x, hx => by
    obtain ⟨h1, h2, h3⟩ := h
    cases j with
    | zero =>
      simp at hx; subst hx
      refine ⟨row, rfl, ?_, ltE_mem h2⟩
      cases hu : r.upd with
      | nil => exact .inl rfl
      | cons p ps =>
        rw [hu] at h1
        right
        intro k hk hkl
        have hkt : k < (row.take i).length := by simp; omega
        have := allPre_at h1 k _ (List.getElem?_eq_getElem hkt)
        rw [List.getElem?_eq_getElem hkl]
        rw [List.getElem_take] at this
        rw [this]
    | succ j =>
      obtain ⟨row', k1, k2, k3⟩ := updE_at h3 j x (by simpa using hx)
      exact ⟨row', by simpa using k1, k2.imp id fun h k hk => h k (by omega), k3⟩

theorem asc_of {c : Nat} : ∀ {l : List It}, Num c l → (∀ (j : Nat) (x : It), l[j]? = some x → ∀ p ∈ x.2.2.upd, p.1 < x.2.1 + x.2.2.new.length) → Asc c l
  | [], _, _ => trivial
  | (o, n, r) :: l, h, hu => ⟨h.1, hu 0 (o, n, r) rfl, asc_of h.2 fun j x hx => hu (j + 1) x (by simpa using hx)⟩

theorem asc_at {c : Nat} : ∀ {l : List It}, Asc c l → ∀ (j : Nat) (x : It), l[j]? = some x → c ≤ x.2.1 ∧ (∀ p ∈ x.2.2.upd, p.1 < x.2.1 + x.2.2.new.length) ∧ ∀ (k : Nat) (y : It), j < k → l[k]? = some y → x.2.1 + x.2.2.new.length ≤ y.2.1
  | [], _, j, x, h => by simp at h
  | (o, n, r) :: l, h, j, x, hx => by
    obtain ⟨rfl, h1, h2⟩ := h
    cases j with
    | zero =>
      simp at hx; subst hx
      refine ⟨Nat.le_refl _, h1, fun k y hk hy => ?_⟩
      cases k with
      | zero => omega
      | succ k => exact (asc_at h2 k y (by simpa using hy)).1
    | succ j =>
      obtain ⟨k1, k2, k3⟩ := asc_at h2 j x (by simpa using hx)
      refine ⟨by omega, k2, fun k y hk hy => ?_⟩
      cases k with
      | zero => omega
      | succ k => exact k3 k y (by omega) (by simpa using hy)

theorem countP_lt {p q : Nat → Bool} : ∀ (l : List Nat) (x : Nat), x ∈ l → (∀ y, p y = true → q y = true) → q x = true → p x = false → l.countP p < l.countP q
  | [], x, h, _, _, _ => by cases h
  | y :: l, x, h, hpq, hq, hp => by
    have hle : l.countP p ≤ l.countP q := List.countP_mono_left fun z _ => hpq z
    rcases List.mem_cons.1 h with rfl | h
    · rw [List.countP_cons_of_neg (by simp [hp]), List.countP_cons_of_pos hq]; omega
    · have := countP_lt l x h hpq hq hp
      by_cases hy : p y = true
      · rw [List.countP_cons_of_pos hy, List.countP_cons_of_pos (hpq y hy)]; omega
      · rw [List.countP_cons_of_neg hy]
        by_cases hqy : q y = true
        · rw [List.countP_cons_of_pos hqy]; omega
        · rw [List.countP_cons_of_neg hqy]; exact this

/-- What is known of a region whose operations were computed. -/
structure Good (P : Program) (ops : Array Oper) (rows : List (List Rl)) (its : List It) (σ0 : St) : Prop where
  rw_ : okRows ops.toList rows = true
  fst : its.map (·.1) = ops.toList
  asc : Asc σ0.heap.length its
  upd : ∀ (i : Nat) (x : It), its[i]? = some x → ∀ p ∈ x.2.2.upd, ∀ (k : Nat) (y : It), k < i → its[k]? = some y → rlAt rows i k ≠ .pre → ∃ rk, rows[k]? = some rk ∧ hget (mask rk (its.take k) (ops.toList.drop k) σ0).heap p.1 = .dead ∧ outB y p.1 = true
  rl : ∀ (i : Nat) (row : List Rl), rows[i]? = some row → row.length = ops.size
  step : ∀ (i : Nat) (x : It), its[i]? = some x → ∃ row, rows[i]? = some row ∧ StepOK P ops x.1 (mask row (its.take i) (ops.toList.drop i) σ0) x.2.1 x.2.2

def Closed (ops : Array Oper) (S : Nat → Bool) : Prop := ∀ i o, ops[i]? = some o → S i = true → ∀ e ∈ o.after, Region.binds .any e = true → S e.on = true

theorem pre_in {ops : Array Oper} {rows : List (List Rl)} (h : okRows ops.toList rows = true) {S : Nat → Bool} (hc : Closed ops S) : ∀ (i : Nat), (∀ e o, ops[i]? = some o → e ∈ o.after → Region.binds .any e = true → S e.on = true) → ∀ j, i < ops.size → j < ops.size → rlAt rows i j = .pre → S j = true := by
  intro i
  induction i using Nat.strongRecOn with
  | _ i ih =>
    intro he j hi hj hr
    have hed : ∀ k, edgeB ops.toList i k = true → S k = true := by
      intro k hk
      unfold edgeB at hk
      rw [Array.getElem?_toList, Array.getElem?_eq_getElem hi] at hk
      simp only [List.any_eq_true, Bool.and_eq_true, beq_iff_eq] at hk
      obtain ⟨e, h1, h2, h3⟩ := hk
      rw [← h3]
      exact he e _ (Array.getElem?_eq_getElem hi) (by simpa using h1) h2
    obtain ⟨h1, h2 | ⟨k, h2, h3, h4⟩⟩ := rl_pre h (by simpa using hi) (by simpa using hj) hr
    · exact hed j h2
    · have hk := hed k h2
      exact ih k h4 (fun e o ho he' hb => hc k o ho hk e he' hb) j (by omega) hj h3

section
variable {ops : Array Oper} {rows : List (List Rl)} {its : List It} {σ0 : St} {B : Nat → Prop} {w0 : World} {kp : List (V × Value)} {Q : Exit → Act → World → Prop}

theorem any_ok (G : Good P ops rows its σ0) (hQ : ∀ a w, (∃ Dm φ, R B w0 Dm φ (apS (fun _ => true) 0 its σ0) kp a w ∧ ∀ id, Dm id → id < σ0.heap.length ∨ ∃ (j : Nat) (x : It), its[j]? = some x ∧ x.2.1 ≤ id ∧ id < x.2.1 + x.2.2.new.length) → Q .normal a w) :
    ∀ (fuel : Nat) (listed : Array Bool) (a : Act) (w : World), listed.size = ops.size → Closed ops (fun i => listed.getD i false) → (List.range ops.size).countP (fun i => !(listed.getD i false)) ≤ fuel →
      (∃ Dm φ, R B w0 Dm φ (apS (fun i => listed.getD i false) 0 its σ0) kp a w ∧ ∀ id, Dm id → id < σ0.heap.length ∨ ∃ (j : Nat) (x : It), its[j]? = some x ∧ listed.getD j false = true ∧ x.2.1 ≤ id ∧ id < x.2.1 + x.2.2.new.length) →
      wpAny P .any ops Q fuel listed a w := by
  have hlen : its.length = ops.size := by
    have := congrArg List.length G.fst
    simpa using this
  have hfst : ∀ (i : Nat) (x : It), its[i]? = some x → ops[i]? = some x.1 := by
    intro i x hx
    have := congrArg (·[i]?) G.fst
    simp only [List.getElem?_map, hx, Option.map_some, Array.getElem?_toList] at this
    exact this.symm
  -- none is ready: all are listed
  have hall : ∀ (listed : Array Bool), listed.size = ops.size → Region.ready .any ops listed = [] → ∀ i, i < ops.size → listed.getD i false = true := by
    intro listed hs hr i
    induction i using Nat.strongRecOn with
    | _ i ih =>
      intro hi
      by_cases h : listed.getD i false = true
      · exact h
      · exfalso
        have : i ∈ Region.ready .any ops listed := by
          rw [mem_ready]
          refine ⟨?_, ops[i], Array.getElem?_eq_getElem hi, fun e he hb => ?_⟩
          · have : i < listed.size := by omega
            simp only [Array.getD_eq_getD_getElem?, Array.getElem?_eq_getElem this, Option.getD_some] at h ⊢
            simpa using h
          · have := okRows_edge G.rw_ (i := i) (o := ops[i]) (by simp [hi]) (e := e) (by simpa using he) hb
            exact ih e.on this (by omega)
        rw [hr] at this; cases this
  have hdone : ∀ (listed : Array Bool) (a : Act) (w : World), listed.size = ops.size → Region.ready .any ops listed = [] → (∃ Dm φ, R B w0 Dm φ (apS (fun i => listed.getD i false) 0 its σ0) kp a w ∧ ∀ id, Dm id → id < σ0.heap.length ∨ ∃ (j : Nat) (x : It), its[j]? = some x ∧ listed.getD j false = true ∧ x.2.1 ≤ id ∧ id < x.2.1 + x.2.2.new.length) → Q .normal a w := by
    rintro listed a w hs hr ⟨Dm, φ, hR, hD⟩
    refine hQ a w ⟨Dm, φ, R_ext hR ?_ ?_, fun id hid => (hD id hid).imp (fun h => h) fun ⟨j, x, h1, _, h2⟩ => ⟨j, x, h1, h2⟩⟩
    · apply List.ext_getElem?
      intro t
      refine apS_tm _ _ t its 0 σ0 σ0 rfl rfl fun j x hx _ => ?_
      have hj : j < its.length := (List.getElem?_eq_some_iff.1 hx).1
      simp only [Nat.zero_add]
      exact (hall listed hs hr j (by omega)).symm
    · intro id
      refine apS_hp _ _ id its 0 σ0 σ0 rfl fun j x hx _ => ?_
      have hj : j < its.length := (List.getElem?_eq_some_iff.1 hx).1
      simp only [Nat.zero_add]
      exact (hall listed hs hr j (by omega)).symm
  intro fuel
  induction fuel with
  | zero =>
    intro listed a w hs hc hcnt hR
    have hr : Region.ready .any ops listed = [] := by
      apply List.eq_nil_iff_forall_not_mem.2
      intro i hi
      obtain ⟨h1, o, ho, _⟩ := mem_ready.1 hi
      have hlt : i < ops.size := (Array.getElem?_eq_some_iff.1 ho).1
      have h2 : (List.range ops.size).countP (fun i => !(listed.getD i false)) = 0 := by omega
      have := List.countP_eq_zero.1 h2 i (List.mem_range.2 hlt)
      have hl : i < listed.size := by omega
      simp only [Array.getD_eq_getD_getElem?, Array.getElem?_eq_getElem hl, Option.getD_some] at this h1
      rw [h1] at this; simp at this
    exact ⟨hr, hdone listed a w hs hr hR⟩
  | succ fuel ih =>
    intro listed a w hs hc hcnt hR
    refine ⟨fun hr => hdone listed a w hs hr hR, fun i hi => ?_⟩
    obtain ⟨h1, o, ho, hedge⟩ := mem_ready.1 hi
    have hlt : i < ops.size := (Array.getElem?_eq_some_iff.1 ho).1
    have hl : i < listed.size := by omega
    have hif : listed.getD i false = false := by
      simp only [Array.getD_eq_getD_getElem?, Array.getElem?_eq_getElem hl, Option.getD_some] at h1 ⊢
      exact h1
    have hil : i < its.length := by omega
    have hx : its[i]? = some its[i] := List.getElem?_eq_getElem hil
    generalize its[i] = x at hx
    have hox : x.1 = o := by have := hfst i x hx; rw [ho] at this; exact (Option.some.inj this).symm
    obtain ⟨row, hrow, hstep⟩ := G.step i x hx
    have hrl : ∀ j y, row[j]? = some y → rlAt rows i j = y ∧ j < ops.size := by
      intro j y hy
      refine ⟨by unfold rlAt; simp [hrow, hy], ?_⟩
      have := (List.getElem?_eq_some_iff.1 hy).1
      rw [G.rl i row hrow] at this; exact this
    have hpre : ∀ j, row[j]? = some .pre → j < i ∧ listed.getD j false = true := by
      intro j hj
      obtain ⟨h2, h3⟩ := hrl j _ hj
      exact ⟨(rl_pre G.rw_ (by simpa using hlt) (by simpa using h3) h2).1, pre_in G.rw_ hc i (fun e o' ho' he hb => by rw [ho] at ho'; cases ho'; exact hedge e he hb) j hlt h3 h2⟩
    have hpost : ∀ j, row[j]? = some .post → listed.getD j false = false := by
      intro j hj
      obtain ⟨h2, h3⟩ := hrl j _ hj
      rcases rl_post G.rw_ (by simpa using hlt) (by simpa using h3) h2 with h4 | h4
      · rw [h4]; exact hif
      · cases hs' : listed.getD j false with
        | false => rfl
        | true =>
          have := pre_in G.rw_ hc j (fun e o' ho' he hb => hc j o' ho' hs' e he hb) i h3 hlt h4
          rw [hif] at this; cases this
    have hun : ∀ (j : Nat) (y : It), row[j]? = some .un → i < j → its[j]? = some y → ∀ p ∈ y.2.2.upd, hget (mask row (its.take i) (ops.toList.drop i) σ0).heap p.1 = .dead ∧ outB x p.1 = true := by
      intro j y hj hij hy p hp
      obtain ⟨h2, h3⟩ := hrl j _ hj
      obtain ⟨rk, g1, g2, g3⟩ := G.upd j y hy p hp i x hij hx (by
        rw [rl_un G.rw_ (by simpa using hlt) (by simpa using h3) h2]; intro h; cases h)
      rw [hrow] at g1; cases g1
      exact ⟨g2, g3⟩
    have hlater : ∀ (j : Nat) (y : It), i < j → its[j]? = some y → listed.getD j false = true → ∀ p ∈ y.2.2.upd, outB x p.1 = true := by
      intro j y hij hy hs'
      have hj : j < ops.size := by have := (List.getElem?_eq_some_iff.1 hy).1; omega
      have hjr : j < row.length := by rw [G.rl i row hrow]; exact hj
      have h2 : row[j]? = some row[j] := List.getElem?_eq_getElem hjr
      cases hc' : row[j] with
      | pre => rw [hc'] at h2; have := (hpre j h2).1; omega
      | post => rw [hc'] at h2; have := hpost j h2; rw [this] at hs'; cases hs'
      | un => rw [hc'] at h2; exact fun p hp => (hun j y h2 hij hy p hp).2
    have hle : Lq (mask row (its.take i) (ops.toList.drop i) σ0) (apS (fun i => listed.getD i false) 0 its σ0) := by
      have htl : (its.take i).length = i := by simp; omega
      have := mask_le (fun i => listed.getD i false) row (its.take i) (ops.toList.drop i) (its.drop i) 0 σ0.heap.length σ0 σ0 (by rw [List.map_drop, G.fst]) (by rw [G.rl i row hrow]; simp; omega) (by rw [List.take_append_drop]; exact G.asc)
        ⟨rfl, fun t v e => .inr e, fun i => .inr rfl⟩ (fun id hid => by unfold hget; rw [List.getD_eq_getElem?_getD, List.getElem?_eq_none hid]; rfl)
        (fun j hj => by rw [htl, Nat.zero_add]; exact hpre j hj) (fun j hj => by rw [Nat.zero_add]; exact hpost j hj)
        (fun j y hj hij hy hs' => by
          rw [htl] at hij hy
          rw [Nat.zero_add] at hs'
          rw [List.getElem?_drop, show i + (j - i) = j from by omega] at hy
          rcases Nat.lt_or_ge i j with h | h
          · exact fun p hp => (hun j y hj h hy p hp).1
          · have : j = i := by omega
            subst this
            rw [hif] at hs'; cases hs')
      rw [List.take_append_drop] at this
      exact this
    obtain ⟨Dm, φ, hR', hD⟩ := hR
    have hasc := asc_at G.asc i x hx
    have hdisj : ∀ (j : Nat) (y : It) (id : Nat), j ≠ i → its[j]? = some y → listed.getD j false = true → x.2.1 ≤ id → id < x.2.1 + x.2.2.new.length → tch y.2.1 y.2.2 id = none := by
      intro j y id hji hy hs' h2 h3
      have hay := asc_at G.asc j y hy
      rcases Nat.lt_or_gt_of_ne hji with h | h
      · have h4 := hay.2.2 i x h hx
        exact tch_none (fun z hz => by have := hay.2.1 _ hz; simp only at this; omega) (by omega)
      · have h4 := hasc.2.2 j y h hy
        refine tch_none (fun z hz => ?_) (by omega)
        have := hlater j y h hy hs' (id, z) hz
        simp only [outB, Bool.and_eq_true, Bool.not_eq_true', Bool.and_eq_false_iff, decide_eq_false_iff_not] at this
        omega
    have hdead : ∀ id, x.2.1 ≤ id → id < x.2.1 + x.2.2.new.length → hget (apS (fun i => listed.getD i false) 0 its σ0).heap id = .dead := by
      intro id h2 h3
      have := apS_hp (fun i => listed.getD i false) (fun _ => false) id its 0 σ0 σ0 rfl fun j y hy hne => by
        simp only [Nat.zero_add]
        cases hs' : listed.getD j false with
        | false => rfl
        | true =>
          exfalso
          by_cases hji : j = i
          · subst hji; rw [hif] at hs'; cases hs'
          · exact hne (hdisj j y id hji hy hs' h2 h3)
      rw [this]
      have hid : ∀ (l : List It) (k : Nat) (τ : St), apS (fun _ => false) k l τ = τ := by
        intro l
        induction l with
        | nil => intro k τ; rfl
        | cons y l ih => intro k τ; obtain ⟨o, n, r⟩ := y; rw [apS]; simpa using ih (k + 1) τ
      rw [hid]
      have : σ0.heap.length ≤ id := by have := hasc.1; omega
      unfold hget; rw [List.getD_eq_getElem?_getD, List.getElem?_eq_none this]; rfl
    have hDm : ∀ id, x.2.1 ≤ id → id < x.2.1 + x.2.2.new.length → ¬ Dm id := by
      intro id h2 h3 hd
      rcases hD id hd with h4 | ⟨j, y, hy, hs', h4, h5⟩
      · have := hasc.1; omega
      · by_cases hji : j = i
        · subst hji; rw [hif] at hs'; cases hs'
        · rcases Nat.lt_or_gt_of_ne hji with h | h
          · have := (asc_at G.asc j y hy).2.2 i x h hx; omega
          · have := hasc.2.2 j y h hy; omega
    have hset : ∀ j, (listed.setIfInBounds i true).getD j false = if j = i then true else listed.getD j false := by
      intro j
      by_cases hji : j = i
      · subst hji; rw [if_pos rfl]; simp [hl]
      · rw [if_neg hji]; exact getD_set_ne false (Ne.symm hji)
    have hk := hstep (apS (fun i => listed.getD i false) 0 its σ0) ⟨hle.tm, hle.hp⟩ hdead B w0 Dm φ kp a w hDm hR' (wpAny P .any ops Q fuel (listed.setIfInBounds i true)) Q fun u w' φ' hr' => by
      refine ih _ _ w' (by simp [hs]) (fun j oj hj hsj e he hb => ?_) ?_ ⟨_, φ', R_ext hr' ?_ ?_, fun id hid => ?_⟩
      · simp only [hset] at hsj ⊢
        by_cases hje : e.on = i
        · rw [if_pos hje]
        · rw [if_neg hje]
          by_cases hji : j = i
          · subst hji; rw [ho] at hj; cases hj; exact hedge e he hb
          · rw [if_neg hji] at hsj; exact hc j oj hj hsj e he hb
      · have := countP_lt (p := fun j => !((listed.setIfInBounds i true).getD j false)) (q := fun j => !(listed.getD j false)) (List.range ops.size) i (List.mem_range.2 hlt) (fun y hy => by
          rw [hset] at hy
          by_cases hyi : y = i
          · rw [if_pos hyi] at hy; cases hy
          · rw [if_neg hyi] at hy; exact hy) (by rw [hif]; rfl) (by rw [hset, if_pos rfl]; rfl)
        omega
      · apply List.ext_getElem?
        intro t
        have hta := tmps_app (apS (fun i => listed.getD i false) 0 its σ0) x.1.dst x.2.1 x.2.2 t
        refine Eq.trans ?_ hta.symm
        by_cases hd : x.1.dst = some t
        · rw [if_pos hd, apS_len]
          refine apS_tm_last _ t its 0 σ0 i x hx hd (by simp [hset]) fun j y hij hy hdy => ?_
          exfalso
          exact rl_dst G.rw_ (i := i) (j := j) (x := x.1) (y := y.1) (by simp [hfst i x hx]) (by simp [hfst j y hy]) (by omega) hd hdy
        · rw [if_neg hd]
          refine apS_tm _ _ t its 0 σ0 σ0 rfl rfl fun j y hy hdy => ?_
          simp only [Nat.zero_add, hset]
          by_cases hji : j = i
          · subst hji; rw [hx] at hy; cases hy; exact absurd hdy hd
          · rw [if_neg hji]
      · intro id
        refine Eq.trans ?_ (hget_app (apS (fun i => listed.getD i false) 0 its σ0) x.1.dst x.2.1 x.2.2 id).symm
        cases ht : tch x.2.1 x.2.2 id with
        | none =>
          refine apS_hp _ _ id its 0 σ0 σ0 rfl fun j y hy hne => ?_
          simp only [Nat.zero_add, hset]
          by_cases hji : j = i
          · subst hji; rw [hx] at hy; cases hy; exact absurd ht hne
          · rw [if_neg hji]
        | some z =>
          refine apS_hp_last _ id its 0 σ0 i x z hx ht (by simp [hset]) fun j y hij hy hne => ?_
          simp only [Nat.zero_add, hset]
          rw [if_neg (by omega)]
          cases hs' : listed.getD j false with
          | false => rfl
          | true =>
            exfalso
            have hu : ∀ z, (id, z) ∉ y.2.2.upd := fun z' hz' => by
              have h5 := hlater j y hij hy hs' (id, z') hz'
              simp only [outB, Bool.and_eq_true, Bool.not_eq_true', Bool.and_eq_false_iff, decide_eq_false_iff_not] at h5
              rw [tch_none (fun q hq => by
                have h6 := List.any_eq_false.1 h5.2 (id, q) hq
                simp at h6) (by omega)] at ht
              cases ht
            have h4 := hasc.2.2 j y hij hy
            have hidlt : id < x.2.1 + x.2.2.new.length := by
              rcases Nat.lt_or_ge id (x.2.1 + x.2.2.new.length) with h | h
              · exact h
              · rw [tch_none (fun z hz => by have := hasc.2.1 _ hz; simp only at this; omega) (by omega)] at ht; cases ht
            exact hne (tch_none hu (by omega))
      · rcases hid with hid | hid
        · rcases hD id hid with h4 | ⟨j, y, hy, hs', h4⟩
          · exact .inl h4
          · exact .inr ⟨j, y, hy, by rw [hset]; split <;> first | rfl | exact hs', h4⟩
        · exact .inr ⟨i, x, hx, by rw [hset, if_pos rfl], hid⟩
    unfold wpOp
    simp only [ho]
    rw [hox] at hk
    split at hk
    · rename_i hw; rw [if_pos hw]; exact hk
    · rename_i hw; rw [if_neg hw]; exact hk
end


def seqAp : List It → St → St
  | [], σ => σ
  | (o, n, r) :: l, σ => seqAp l (σ.app o.dst n r)

theorem apS_seq : ∀ (l : List It) (k : Nat) (σ : St), apS (fun _ => true) k l σ = seqAp l σ
  | [], _, _ => rfl
  | (o, n, r) :: l, k, σ => by rw [apS, seqAp]; simpa using apS_seq l (k + 1) (σ.app o.dst n r)

theorem seqAp_length : ∀ (l : List It) (c : Nat) (σ : St), Asc c l → c ≤ σ.heap.length → σ.heap.length ≤ (seqAp l σ).heap.length ∧ ∀ (j : Nat) (x : It), l[j]? = some x → x.2.1 + x.2.2.new.length ≤ (seqAp l σ).heap.length
  | [], _, _, _, _ => ⟨Nat.le_refl _, by simp⟩
  | (o, n, r) :: l, c, σ, ha, hc => by
    obtain ⟨rfl, h1, h2⟩ := ha
    have hl1 := hnew_length r.new σ.heap n
    have hl2 := hupd_length r.upd (hnew σ.heap n r.new)
    have happ : σ.heap.length ≤ (σ.app o.dst n r).heap.length ∧ n + r.new.length ≤ (σ.app o.dst n r).heap.length := by
      simp only [St.app]
      refine ⟨by omega, ?_⟩
      rcases hl1.2 with h | h
      · have h3 := hl1.1; rw [h] at hl2 h3 ⊢; simp only [List.length_nil]; omega
      · omega
    obtain ⟨k1, k2⟩ := seqAp_length l _ (σ.app o.dst n r) h2 happ.2
    simp only [seqAp]
    refine ⟨by omega, fun j x hx => ?_⟩
    cases j with
    | zero => simp at hx; subst hx; simp only; omega
    | succ j => exact k2 j x (by simpa using hx)

/-- What a region asks whose order is drawn. -/
def drawE (P : Program) (ops : Array Oper) (σ : St) (K : St → Prop) : Prop :=
  ∃ rows, okRows ops.toList rows = true ∧ rows.all (fun r => r.length == ops.size) = true ∧ anyE P ops.toList σ rows ops.toList [] σ.heap.length fun its => (updE rows 0 its ∨ upd2 σ rows ops.toList rows [] its) ∧ K (seqAp its σ)

theorem drawE_ok {ops : Array Oper} {B : Nat → Prop} {w0 : World} {kp : List (V × Value)} {Q : Exit → Act → World → Prop} {K : St → Prop} (hm : P.follows .mixedOrders = true) {id : Nat} (hQ : ∀ σ a w, K σ → RR B w0 kp σ a w → Q .normal a w) {σ : St} {a : Act} {w : World}
    (h : drawE P ops σ K) (hr : RR B w0 kp σ a w) : (Code.region id ops true).wp P Q a w := by
  obtain ⟨rows, h1, h2, h3⟩ := h
  obtain ⟨its, t1, ⟨t2, t2'⟩, t3, t4⟩ := anyE_ok _ _ _ _ _ h3
  simp only [List.nil_append] at t2 t2' t4
  have hlen : its.length = ops.size := by
    have := congrArg List.length t1
    simpa using this
  have hrl : ∀ (i : Nat) (row : List Rl), rows[i]? = some row → row.length = ops.size := fun i row hi => by
    have := List.all_eq_true.1 h2 row (List.mem_of_getElem? hi)
    simpa using this
  have hasc : Asc σ.heap.length its := asc_of t3 fun j x hx => by
    rcases t2 with t2 | t2
    · obtain ⟨_, _, _, h⟩ := updE_at t2 j x hx
      exact h
    · obtain ⟨_, _, _, h⟩ := upd2_at t2 j x hx
      exact h
  have G : Good P ops rows its σ := ⟨h1, t1, hasc, fun i x hx p hp k y hk hy hne => by
    have hks : k < ops.size := by have := (List.getElem?_eq_some_iff.1 hy).1; omega
    rcases t2 with t2 | t2
    · exfalso
      obtain ⟨row, k1, k2, _⟩ := updE_at t2 i x hx
      rcases k2 with k2 | k2
      · rw [k2] at hp; cases hp
      · have hkl : k < row.length := by rw [hrl i row k1]; exact hks
        have := k2 k (by omega) hkl
        apply hne
        unfold rlAt
        simp [k1, this]
    · obtain ⟨row, k1, k2, _⟩ := upd2_at t2 i x hx
      have hkl : k < row.length := by rw [hrl i row k1]; exact hks
      have hrk : row[k]? = some row[k] := List.getElem?_eq_getElem hkl
      have hne' : row[k] ≠ .pre := fun h => hne (by unfold rlAt; simp [k1, hrk, h])
      cases hu : x.2.2.upd with
      | nil => rw [hu] at hp; cases hp
      | cons q u =>
        rw [hu] at hp k2
        simp only [okI, List.nil_append] at k2
        have hyk : (its.take i)[k]? = some y := by rw [List.getElem?_take, if_pos hk]; exact hy
        obtain ⟨rk, g1, g2, g3⟩ := okR_at k2 k y _ hyk hrk hne' p.1 (by
          rcases List.mem_cons.1 hp with rfl | hp
          · simp
          · exact List.mem_cons_of_mem _ (List.mem_map.2 ⟨p, hp, rfl⟩))
        refine ⟨rk, g1, ?_, g3⟩
        rw [List.nil_append, List.take_take, Nat.min_eq_left (by omega)] at g2
        exact g2, hrl, t4⟩
  obtain ⟨Dm, φ, hR, hD⟩ := hr
  refine wp_region_any hm (any_ok G (B := B) (w0 := w0) (kp := kp) (fun a' w' hA => ?_) ops.size (Array.replicate ops.size false) a { w with drawn := w.drawn + 1 } (by simp) (fun i o ho hs => ?_) ?_ ⟨Dm, φ, ?_, fun i hi => .inl (hD i hi)⟩)
  · obtain ⟨Dm', φ', hR', hD'⟩ := hA
    rw [apS_seq] at hR'
    have hsl := seqAp_length its _ σ hasc (Nat.le_refl _)
    refine hQ (seqAp its σ) a' w' t2' ⟨Dm', φ', hR', fun i hi => ?_⟩
    rcases hD' i hi with h | ⟨j, x, hx, _, h⟩
    · omega
    · have := hsl.2 j x hx; omega
  · exfalso
    have hlt : i < ops.size := (Array.getElem?_eq_some_iff.1 ho).1
    simp [hlt] at hs
  · refine Nat.le_trans (List.countP_le_length) ?_
    simp
  · have hid : ∀ (l : List It) (k : Nat) (τ : St), apS (fun i => (Array.replicate ops.size false).getD i false) k l τ = τ := by
      intro l
      induction l with
      | nil => intro k τ; rfl
      | cons y l ih =>
        intro k τ; obtain ⟨o, n, r⟩ := y; rw [apS, ih]
        have : (Array.replicate ops.size false).getD k false = false := by
          by_cases hk : k < ops.size <;> simp [hk]
        simp only [this]; rfl
    rw [hid]
    exact R_drew hR rfl hR.bel.drew

/-! ### Every order, one after the other -/

/-- The operations that are ready, each with what is done behind it. -/
def rdyE (S : List Bool) : List Oper → List Bool → List Bool → List (Oper × List Bool)
  | o :: os, pre, false :: post => if o.after.toList.all (fun e => !Region.binds .any e || S.getD e.on false) = true then (o, pre ++ true :: post) :: rdyE S os (pre ++ [false]) post else rdyE S os (pre ++ [false]) post
  | _ :: os, pre, true :: post => rdyE S os (pre ++ [true]) post
  | _, _, _ => []

def allE (l : List (Oper × List Bool)) (F : Oper → List Bool → Prop) : Prop :=
  match l with
  | [] => True
  | x :: r => F x.1 x.2 ∧ allE r F

def exE (P : Program) (kv : List V) (ops : List Oper) : Nat → List Bool → St → (St → Prop) → Prop
  | 0, S, σ, K => rdyE S ops [] S = [] ∧ K σ
  | n + 1, S, σ, K => (rdyE S ops [] S = [] → K σ) ∧ allE (rdyE S ops [] S) fun o S' => seqE P kv ops σ o fun σ' => exE P kv ops n S' σ' K

theorem rdyE_at {S : List Bool} : ∀ (os : List Oper) (pre post : List Bool) (i : Nat) (o : Oper), os[i]? = some o → post[i]? = some false → (∀ e ∈ o.after, Region.binds .any e = true → S.getD e.on false = true) → (o, pre ++ post.set i true) ∈ rdyE S os pre post
  | [], _, _, i, o, h, _, _ => by simp at h
  | x :: os, pre, [], i, o, _, h, _ => by simp at h
  | x :: os, pre, p :: post, 0, o, h1, h2, h3 => by
    simp at h1 h2
    subst h1; subst h2
    rw [rdyE]
    have hc : (x.after.toList.all fun e => !Region.binds .any e || S.getD e.on false) = true := by
      rw [List.all_eq_true]
      intro e he
      cases hb : Region.binds .any e with
      | false => rfl
      | true => simpa using h3 e (by simpa using he) hb
    rw [if_pos hc]
    simp
  | x :: os, pre, p :: post, i + 1, o, h1, h2, h3 => by
    have := rdyE_at os (pre ++ [p]) post i o (by simpa using h1) (by simpa using h2) h3
    rw [List.append_assoc, List.singleton_append] at this
    rw [List.set_cons_succ]
    cases p with
    | true => rw [rdyE]; exact this
    | false =>
      rw [rdyE]
      split
      · exact List.mem_cons_of_mem _ this
      · exact this

theorem rdyE_sub {S : List Bool} : ∀ (os : List Oper) (pre post : List Bool) (x : Oper × List Bool), x ∈ rdyE S os pre post → ∃ (i : Nat), os[i]? = some x.1 ∧ post[i]? = some false ∧ x.2 = pre ++ post.set i true ∧ ∀ e ∈ x.1.after, Region.binds .any e = true → S.getD e.on false = true
  | [], _, _, x, h => by simp [rdyE] at h
  | o :: os, pre, [], x, h => by simp [rdyE] at h
  | o :: os, pre, p :: post, x, h => by
    have step : ∀ x, x ∈ rdyE S os (pre ++ [p]) post → ∃ (i : Nat), (o :: os)[i]? = some x.1 ∧ (p :: post)[i]? = some false ∧ x.2 = pre ++ (p :: post).set i true ∧ ∀ e ∈ x.1.after, Region.binds .any e = true → S.getD e.on false = true := by
      intro x hx
      obtain ⟨i, h1, h2, h3, h4⟩ := rdyE_sub os (pre ++ [p]) post x hx
      exact ⟨i + 1, by simpa using h1, by simpa using h2, by rw [h3]; simp, h4⟩
    cases p with
    | true => rw [rdyE] at h; exact step x h
    | false =>
      rw [rdyE] at h
      split at h
      · rename_i hc
        rcases List.mem_cons.1 h with rfl | h
        · refine ⟨0, rfl, rfl, by simp, fun e he hb => ?_⟩
          have := List.all_eq_true.1 hc e (by simpa using he)
          rw [hb] at this
          simpa using this
        · exact step x h
      · exact step x h

theorem allE_mem {F : Oper → List Bool → Prop} : ∀ {l : List (Oper × List Bool)}, allE l F → ∀ x ∈ l, F x.1 x.2
  | [], _, x, hx => by cases hx
  | y :: l, h, x, hx => by
    rcases List.mem_cons.1 hx with rfl | hx
    · exact h.1
    · exact allE_mem h.2 x hx

theorem exE_ok {ops : Array Oper} {B : Nat → Prop} {w0 : World} {kp : List (V × Value)} {kv : List V} (hkv : kp.map (·.1) = kv) {Q : Exit → Act → World → Prop} {K : St → Prop} (hQ : ∀ σ a w, K σ → RR B w0 kp σ a w → Q .normal a w) :
    ∀ (n : Nat) (listed : Array Bool) (σ : St) (a : Act) (w : World), listed.size = ops.size → exE P kv ops.toList n listed.toList σ K → RR B w0 kp σ a w → wpAny P .any ops Q n listed a w := by
  have hrd : ∀ (listed : Array Bool), listed.size = ops.size → Region.ready .any ops listed = [] → rdyE listed.toList ops.toList [] listed.toList = [] := by
    intro listed hs hr
    apply List.eq_nil_iff_forall_not_mem.2
    intro x hx
    obtain ⟨i, h1, h2, _, h4⟩ := rdyE_sub _ _ _ x hx
    have : i ∈ Region.ready .any ops listed := by
      rw [mem_ready]
      refine ⟨?_, x.1, by simpa using h1, fun e he hb => ?_⟩
      · rw [Array.getElem?_toList] at h2
        simp [Array.getD_eq_getD_getElem?, h2]
      · have := h4 e he hb
        rw [List.getD_eq_getElem?_getD, Array.getElem?_toList] at this
        simpa [Array.getD_eq_getD_getElem?] using this
    rw [hr] at this; cases this
  intro n
  induction n with
  | zero =>
    intro listed σ a w hs h hr
    simp only [exE] at h
    refine ⟨?_, hQ σ a w h.2 hr⟩
    apply List.eq_nil_iff_forall_not_mem.2
    intro i hi
    obtain ⟨h1, o, ho, hedge⟩ := mem_ready.1 hi
    have hlt : i < listed.size := by have := (Array.getElem?_eq_some_iff.1 ho).1; omega
    have hm := rdyE_at (S := listed.toList) ops.toList [] listed.toList i o (by simpa using ho) (by
      rw [Array.getElem?_toList]
      simpa [Array.getD_eq_getD_getElem?, hlt] using h1) (fun e he hb => by
      have := hedge e he hb
      rw [List.getD_eq_getElem?_getD, Array.getElem?_toList]
      simpa [Array.getD_eq_getD_getElem?] using this)
    rw [h.1] at hm; cases hm
  | succ n ih =>
    intro listed σ a w hs h hr
    simp only [exE] at h
    refine ⟨fun he => hQ σ a w (h.1 (hrd listed hs he)) hr, fun i hi => ?_⟩
    obtain ⟨h1, o, ho, hedge⟩ := mem_ready.1 hi
    have hlt : i < listed.size := by have := (Array.getElem?_eq_some_iff.1 ho).1; omega
    have hm := rdyE_at (S := listed.toList) ops.toList [] listed.toList i o (by simpa using ho) (by
      rw [Array.getElem?_toList]
      simpa [Array.getD_eq_getD_getElem?, hlt] using h1) (fun e he hb => by
      have := hedge e he hb
      rw [List.getD_eq_getElem?_getD, Array.getElem?_toList]
      simpa [Array.getD_eq_getD_getElem?] using this)
    have hx := allE_mem h.2 _ hm
    simp only [List.nil_append] at hx
    have := seq_in (Q := Q) (N := wpAny P .any ops Q n (listed.setIfInBounds i true)) hkv hx hr fun σ' u w' hk hr' => by
      refine ih (listed.setIfInBounds i true) σ' _ w' (by simpa using hs) ?_ hr'
      simpa using hk
    unfold wpOp
    simp only [ho]
    exact this

/-- A drawn region: by what its operations need of each other, or through every order. -/
def drawX (P : Program) (kv : List V) (ops : Array Oper) (σ : St) (K : St → Prop) : Prop :=
  drawE P ops σ K ∨ ∃ K', (∀ σ', K' σ' → K σ') ∧ exE P kv ops.toList ops.size (List.replicate ops.size false) σ K'

theorem drawX_ok {ops : Array Oper} {B : Nat → Prop} {w0 : World} {kp : List (V × Value)} {kv : List V} (hkv : kp.map (·.1) = kv) {Q : Exit → Act → World → Prop} {K : St → Prop} (hm : P.follows .mixedOrders = true) {id : Nat} (hQ : ∀ σ a w, K σ → RR B w0 kp σ a w → Q .normal a w) {σ : St} {a : Act} {w : World}
    (h : drawX P kv ops σ K) (hr : RR B w0 kp σ a w) : (Code.region id ops true).wp P Q a w := by
  rcases h with h | ⟨K', hkk, h⟩
  · exact drawE_ok hm hQ h hr
  · refine wp_region_any hm (exE_ok hkv (fun σ a w hK' => hQ σ a w (hkk σ hK')) ops.size (Array.replicate ops.size false) σ a _ (by simp) (by simpa using h) ?_)
    obtain ⟨Dm, φ, hR, hD⟩ := hr
    exact ⟨Dm, φ, R_drew hR rfl hR.bel.drew, hD⟩

end Gv
