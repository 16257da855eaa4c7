/-
  The abstract operations, and what it means that one is carried out rightly.
-/
import Derived.Test.YtiaaipckeinbiaaGvMach
namespace Gv
open Go

/-! ### Types, as the operations ask for them -/

def tyI (P : Program) (T : TypeId) : Option (Nat × Bool) :=
  match P.info? T, P.underlying T with
  | some i, some d => some (i.size, match d with | .struct _ | .array _ _ => true | _ => false)
  | _, _ => none
/-- A slice type: its element's type, size, bytes. -/
def elI (P : Program) (T : TypeId) : Option (TypeId × Nat × Nat) :=
  match P.underlying T with
  | some (.slice e) => (P.info? e).map fun i => (e, i.size, i.bytes)
  | _ => none
/-- An array type: its length, its element's size. -/
def arI (P : Program) (T : TypeId) : Option (Nat × Nat) :=
  match P.underlying T with
  | some (.array n e) => (P.info? e).map fun i => (n, i.size)
  | _ => none
/-- A struct's field: its offset. -/
def fdI (P : Program) (S f : Nat) : Option Nat :=
  match P.underlying S with
  | some (.struct fs) =>
    match fs[f]? with
    | some fd =>
      match P.info? fd.type with
      | some i => if i.size = 0 then none else some fd.offset
      | none => none
    | none => none
  | _ => none
def isStrI (P : Program) (T : TypeId) : Bool := match P.underlying T with | some .string => true | _ => false
def intI (P : Program) (T : TypeId) : Option IntKind := match P.underlying T with | some (.int k) => some k | _ => none

/-! ### Constants and operands -/

def litOk (k : IntKind) (n : Int) : Bool := decide (k.min ≤ n) && decide (n ≤ k.max)

def ofVal : Value → V
  | .int k n => if litOk k n then .d (.int k n) else .junk
  | .bool b => .d (.bool b)
  | .string s => if s.data.toList.length ≤ maxLen then .d (.str s.data.toList) else .junk
  | .slice none 0 0 => .nils 0
  | _ => .junk

theorem ofVal_rel {φ : Phi} {T : Nat → Prop} {h : Array Obj} (u : Value) : VRel φ T h (ofVal u) u := by
  unfold ofVal
  split
  · split
    · rename_i k n hk
      simp only [litOk, Bool.and_eq_true, decide_eq_true_eq] at hk
      exact ⟨[], ⟨rfl, rfl, hk.1, hk.2⟩, by simp⟩
    · trivial
  · rename_i b
    exact ⟨[], ⟨rfl, rfl⟩, by simp⟩
  · split
    · rename_i s hs
      exact ⟨[], ⟨rfl, rfl, hs⟩, by simp⟩
    · trivial
  · simp [VRel]
  · trivial

def St.ev (σ : St) : Operand → V
  | .tmp t => σ.tmps.getD t .junk
  | .const v => ofVal v
  | .func f => .fn f []
  | .global g => match globs.find? (fun p => p.1 == g) with | some p => .rp p.2 0 | none => .junk

section
variable {B : Nat → Prop} {w0 : World} {Dm : Nat → Prop} {φ : Phi} {σ : St} {kp : List (V × Value)} {a : Act} {w : World}

theorem ev_rel (r : R B w0 Dm φ σ kp a w) (x : Operand) : VRel φ (NotTop φ σ.heap) w.heap (σ.ev x) (a.eval x) := by
  cases x with
  | tmp t =>
    simp only [St.ev, Act.eval, List.getD_eq_getElem?_getD]
    cases ht : σ.tmps[t]? with
    | none => simp [VRel]
    | some v =>
      obtain ⟨u, h1, h2⟩ := VRels_at _ _ r.tm t v ht
      rw [Array.getElem?_toList] at h1
      simpa [h1] using h2
  | const v => exact ofVal_rel v
  | func f => simp only [St.ev, Act.eval, VRel]; exact ⟨#[], rfl, by simp [VRels]⟩
  | global g =>
    simp only [St.ev]
    split
    · rename_i p hp
      have h1 := List.find?_some hp
      have h2 := List.mem_of_find?_eq_some hp
      have := r.kp (.rp p.2 0, .pointer (some ⟨p.1, 0, none⟩)) (List.mem_append_left _ (List.mem_map.2 ⟨p, h2, rfl⟩))
      have e : p.1 = g := by simpa using h1
      rw [e] at this
      exact this
    · simp [VRel]

theorem R.gok (r : R B w0 Dm φ σ kp a w) : GOk w.heap := ⟨fun p hp => by
  have := r.kp (.rp p.2 0, .pointer (some ⟨p.1, 0, none⟩)) (List.mem_append_left _ (List.mem_map.2 ⟨p, hp, rfl⟩))
  simp only [VRel] at this
  obtain ⟨b, f, G, e, h1, _, h2, _⟩ := this
  cases e
  have hG := repC_flat _ _ _ (globs_flat p hp) h2
  subst hG
  exact ⟨h1, h2⟩, r.gb.2.mono fun p hp => r.bel.block p.1 (r.gb.1 p hp)⟩

/-- The known variables in any relation in which no entry lies there. -/
theorem gPairs_rel {φ : Phi} {T : Nat → Prop} {h : Array Obj} (g : GOk h) (hT : ∀ p ∈ globs, T p.1) : ∀ p ∈ gPairs, VRel φ T h p.1 p.2 := by
  intro p hp
  obtain ⟨q, hq, rfl⟩ := List.mem_map.1 hp
  obtain ⟨h1, h2⟩ := g.1 q hq
  simp only [VRel]
  exact ⟨q.1, 0, [], rfl, h1, hT q hq, h2, by simp⟩
end

/-! ### Results of an operation -/

structure Res where
  v : V
  new : List H
  upd : List (Nat × H)

def hput (hs : List H) (i : Nat) (x : H) : List H :=
  if i < hs.length then hs.set i x else hs ++ List.replicate (i - hs.length) .dead ++ [x]

theorem hget_hput (hs : List H) (i : Nat) (x : H) (j : Nat) : hget (hput hs i x) j = if j = i then x else hget hs j := by
  unfold hput
  split
  · rename_i hi; exact hget_set hs i j x hi
  · rename_i hi
    unfold hget
    simp only [List.getD_eq_getElem?_getD, List.append_assoc, List.getElem?_append]
    by_cases hj : j = i
    · subst hj
      simp [hi]
    · simp only [hj, if_false, List.length_replicate]
      by_cases h1 : j < hs.length
      · simp [h1]
      · simp only [h1, if_false, List.getElem?_eq_none (Nat.le_of_not_lt h1)]
        by_cases h2 : j - hs.length < i - hs.length
        · simp [h2]
        · have : 1 ≤ j - hs.length - (i - hs.length) := by omega
          simp [h2, List.getElem?_eq_none, this]

def hnew : List H → Nat → List H → List H
  | hs, _, [] => hs
  | hs, n, x :: xs => hnew (hput hs n x) (n + 1) xs
def hupd : List H → List (Nat × H) → List H
  | hs, [] => hs
  | hs, (i, x) :: r => hupd (hput hs i x) r

theorem hget_hnew : ∀ (xs : List H) (hs : List H) (n j : Nat), hget (hnew hs n xs) j = if n ≤ j ∧ j < n + xs.length then xs.getD (j - n) .dead else hget hs j
  | [], hs, n, j => by
    have : ¬ (n ≤ j ∧ j < n + ([] : List H).length) := by simp only [List.length_nil]; omega
    rw [if_neg this]; rfl
  | x :: xs, hs, n, j => by
    rw [hnew, hget_hnew xs (hput hs n x) (n + 1) j, hget_hput]
    by_cases h1 : n + 1 ≤ j ∧ j < n + 1 + xs.length
    · rw [if_pos h1, if_pos (by simp only [List.length_cons]; omega)]
      rw [show j - n = (j - (n + 1)) + 1 from by omega]; simp [List.getD]
    · rw [if_neg h1]
      by_cases h2 : j = n
      · subst h2; rw [if_pos rfl, if_pos (by simp)]; simp
      · rw [if_neg h2, if_neg (by simp only [List.length_cons]; omega)]

def St.app (σ : St) (dst : Option Tmp) (n : Nat) (r : Res) : St :=
  ⟨match dst with | some t => σ.tmps.set t r.v | none => σ.tmps, hupd (hnew σ.heap n r.new) r.upd⟩

/-- Less is known in σ. -/
def St.le (σ σ' : St) : Prop :=
  (∀ (t : Nat) (v : V), σ.tmps[t]? = some v → v = V.junk ∨ σ'.tmps[t]? = some v) ∧ ∀ i, hget σ.heap i = .dead ∨ hget σ'.heap i = hget σ.heap i

theorem St.le.refl (σ : St) : σ.le σ := ⟨fun _ _ h => .inr h, fun _ => .inr rfl⟩

theorem St.le.ev {σ σ' : St} (h : σ.le σ') (x : Operand) : σ.ev x = .junk ∨ σ'.ev x = σ.ev x := by
  cases x with
  | tmp t =>
    simp only [St.ev, List.getD_eq_getElem?_getD]
    cases ht : σ.tmps[t]? with
    | none => exact .inl rfl
    | some v =>
      rcases h.1 t v ht with rfl | h2
      · exact .inl rfl
      · exact .inr (by rw [h2])
  | const v => exact .inr rfl
  | func f => exact .inr rfl
  | global g => exact .inr rfl

/-- In whatever richer state, in whatever world: the operation (if its guard holds) ends, with this result. -/
def OpOK (P : Program) (o : Oper) (g : Bool) (σ : St) (n : Nat) (r : Res) : Prop :=
  ∀ σ' : St, σ.le σ' → (∀ i, n ≤ i → i < n + r.new.length → hget σ'.heap i = .dead) →
  ∀ (B : Nat → Prop) (w0 : World) (Dm : Nat → Prop) (φ : Phi) (kp : List (V × Value)) (a : Act) (w : World), (∀ i, n ≤ i → i < n + r.new.length → ¬ Dm i) → R B w0 Dm φ σ' kp a w → g = true →
  ∀ (K : Act → World → Prop) (Q : Exit → Act → World → Prop),
    (∀ u w' φ', R B w0 (fun i => Dm i ∨ (n ≤ i ∧ i < n + r.new.length)) φ' (σ'.app o.dst n r) kp (a.put o.dst u) w' → K (a.put o.dst u) w') → o.wp P a w K Q

/-- What an operand is, under a guard: a value that holds under a condition is taken if the guard gives the condition. -/
def evg (g : Bool) (v : V) (K : V → Prop) : Prop :=
  match v with
  | .gd c v => (g = true → c = true) ∧ K v
  | v => K v

/-- An operation that only computes a value of what its operands are. -/
theorem OpOK_val {P : Program} {o : Oper} {g : Bool} {σ : St} {n : Nat} {v : V}
    (h : ∀ σ' : St, σ.le σ' → ∀ (B : Nat → Prop) (w0 : World) (Dm : Nat → Prop) (φ : Phi) (kp : List (V × Value)) (a : Act) (w : World), R B w0 Dm φ σ' kp a w → g = true →
      ∃ u, (execOp a.eval o).run P w = .ok (.value u) w ∧ VRel φ (NotTop φ σ'.heap) w.heap v u) : OpOK P o g σ n ⟨v, [], []⟩ := by
  intro σ' hle _ B w0 Dm φ kp a w _ hR hg K Q hK
  obtain ⟨u, h1, h2⟩ := h σ' hle B w0 Dm φ kp a w hR hg
  unfold Oper.wp
  rw [h1, Oper.upon_value]
  refine hK u w φ ?_
  have hr := R_put hR o.dst h2
  refine ⟨hr.tm, hr.kp, hr.hp, hr.o1, hr.o2, hr.o3, fun i β e => .inl (hr.dm i β e), hr.bel, hr.bs, hr.de, hr.gb⟩

/-- What evg gives: the operand's own value, in the concrete frame. -/
theorem evg_rel {g : Bool} {v : V} {K : V → Prop} (h : evg g v K) : ∃ v', K v' ∧ ∀ (φ : Phi) (T : Nat → Prop) (hp : Array Obj) (u : Value), g = true → VRel φ T hp v u → VRel φ T hp v' u := by
  unfold evg at h
  split at h
  · rename_i c v'
    exact ⟨v', h.2, fun φ T hp u hg hr => by simp only [VRel] at hr; exact hr.1 (h.1 hg)⟩
  · exact ⟨v, h, fun _ _ _ _ _ hr => hr⟩

/-- The operand in a richer state. -/
theorem ev_le {σ σ' : St} {B : Nat → Prop} {w0 : World} {Dm : Nat → Prop} {φ : Phi} {kp : List (V × Value)} {a : Act} {w : World} (hle : σ.le σ') (r : R B w0 Dm φ σ' kp a w) (x : Operand) :
    VRel φ (NotTop φ σ'.heap) w.heap (σ.ev x) (a.eval x) := by
  rcases hle.ev x with h | h
  · rw [h]; trivial
  · rw [← h]; exact ev_rel r x

/-! ### Values out of values -/

def fixT (P : Program) (T : TypeId) : V → V
  | .nils s => .nils (match elI P T with | some (_, sz, _) => sz | none => s)
  | v => v

theorem fixT_rel {P : Program} {T : TypeId} {φ : Phi} {T' : Nat → Prop} {h : Array Obj} {v : V} {u : Value} (r : VRel φ T' h v u) : VRel φ T' h (fixT P T v) u := by
  cases v <;> first | exact r | (simp only [fixT, VRel] at r ⊢; exact r)

/-- The cells of a value. -/
def V.cells : V → List V
  | .agg vs => vs
  | v => [v]

/-- Values that may lie in a cell. -/
def V.oneB : V → Bool
  | .d _ | .nils _ | .ptr _ _ _ | .rp _ _ | .sl _ _ _ | .fn _ _ => true
  | _ => false

theorem oneB_cells {φ : Phi} {T : Nat → Prop} {h : Array Obj} {v : V} {u : Value} (hb : v.oneB = true) (r : VRel φ T h v u) : u.oneCell' = true ∧ u.cells = #[u] := by
  cases v <;> simp only [V.oneB] at hb <;> simp only [VRel] at r
  case d x =>
    obtain ⟨F, r1, _⟩ := r
    have := oneCell_rep r1
    refine ⟨this, ?_⟩
    cases u <;> first | rfl | (simp [Value.oneCell'] at this)
  case nils s => subst r; exact ⟨rfl, rfl⟩
  case ptr id idx off => obtain ⟨β, b, _, _, r⟩ := r; subst r; exact ⟨rfl, rfl⟩
  case rp cells off => obtain ⟨b, f, G, r, _⟩ := r; subst r; exact ⟨rfl, rfl⟩
  case sl id off len => obtain ⟨β, a, c, _, r, _⟩ := r; subst r; exact ⟨rfl, rfl⟩
  case fn f caps => obtain ⟨us, r, _⟩ := r; subst r; exact ⟨rfl, rfl⟩
  all_goals cases hb

/-- The cells of a value that is an aggregate of such, or one such. -/
def V.cellsOk : V → Bool
  | .agg vs => vs.all V.oneB
  | v => v.oneB

theorem cells_rel {φ : Phi} {T : Nat → Prop} {h : Array Obj} {v : V} {u : Value} (hb : v.cellsOk = true) (r : VRel φ T h v u) : VRels φ T h v.cells u.cells.toList ∧ ∀ x ∈ u.cells.toList, x.oneCell' = true := by
  cases v with
  | agg vs =>
    simp only [VRel] at r
    obtain ⟨us, rfl, r⟩ := r
    simp only [V.cellsOk, List.all_eq_true] at hb
    refine ⟨r, fun x hx => ?_⟩
    obtain ⟨j, hj, rfl⟩ := List.getElem_of_mem hx
    have hl := VRels_len _ _ r
    obtain ⟨x', h1, h2⟩ := VRels_at _ _ r j (vs[j]'(by simp only [Value.cells] at hj; omega)) (List.getElem?_eq_getElem _)
    simp only [Value.cells] at hj ⊢
    rw [List.getElem?_eq_getElem hj] at h1
    cases h1
    exact (oneB_cells (hb _ (List.getElem_mem _)) h2).1
  | d x => exact ⟨by rw [(oneB_cells rfl r).2]; simp only [V.cells, VRels]; exact ⟨_, _, rfl, r, rfl⟩, by rw [(oneB_cells rfl r).2]; simpa using (oneB_cells rfl r).1⟩
  | nils x => exact ⟨by rw [(oneB_cells rfl r).2]; simp only [V.cells, VRels]; exact ⟨_, _, rfl, r, rfl⟩, by rw [(oneB_cells rfl r).2]; simpa using (oneB_cells rfl r).1⟩
  | ptr x y z => exact ⟨by rw [(oneB_cells rfl r).2]; simp only [V.cells, VRels]; exact ⟨_, _, rfl, r, rfl⟩, by rw [(oneB_cells rfl r).2]; simpa using (oneB_cells rfl r).1⟩
  | rp x y => exact ⟨by rw [(oneB_cells rfl r).2]; simp only [V.cells, VRels]; exact ⟨_, _, rfl, r, rfl⟩, by rw [(oneB_cells rfl r).2]; simpa using (oneB_cells rfl r).1⟩
  | sl x y z => exact ⟨by rw [(oneB_cells rfl r).2]; simp only [V.cells, VRels]; exact ⟨_, _, rfl, r, rfl⟩, by rw [(oneB_cells rfl r).2]; simpa using (oneB_cells rfl r).1⟩
  | fn x y => exact ⟨by rw [(oneB_cells rfl r).2]; simp only [V.cells, VRels]; exact ⟨_, _, rfl, r, rfl⟩, by rw [(oneB_cells rfl r).2]; simpa using (oneB_cells rfl r).1⟩
  | junk => cases hb
  | tup x => cases hb
  | gd x y => cases hb

end Gv
