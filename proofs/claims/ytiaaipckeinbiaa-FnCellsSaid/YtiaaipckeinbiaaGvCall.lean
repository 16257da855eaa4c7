/-
  Calls of functions whose law is known: what they take, what they give, as data.
-/
import Derived.Test.YtiaaipckeinbiaaGvMake
namespace Gv
open Go

/-- What is handed over: a cell, or a struct of cells. -/
inductive AD where
  | one (d : D)
  | agg (ds : List D)

def arep (h : Array Obj) (o : Bool) : AD → Value → List Nat → Prop
  | .one d, u, F => rep h o d u F
  | .agg ds, u, F => ∃ us : Array Value, u = .agg us ∧ reps h o ds us.toList F

def areps (h : Array Obj) (o : Bool) : List AD → List Value → List Nat → Prop
  | [], us, F => us = [] ∧ F = []
  | a :: as, us, F => ∃ u us' F1 F2, us = u :: us' ∧ F = F1 ++ F2 ∧ arep h o a u F1 ∧ areps h o as us' F2

def trep (h : Array Obj) (o : Bool) (rs : List AD) (v : Value) (F : List Nat) : Prop :=
  match rs with
  | [r] => arep h o r v F
  | rs => ∃ us : Array Value, v = .tuple us ∧ areps h o rs us.toList F

/-- What calling f leads to. -/
def Does (P : Program) (f : FuncId) (us : Array Value) (w : World) (R : Value → World → Prop) : Prop :=
  match (callFunc f us).run P w with
  | .ok (.enter g as) w' => Calls P g as w' fun e w'' => match e with | .returned v => R v w'' | _ => False
  | .ok (.value v) w' => R v w'
  | .ok (.row row as) w' => Rows P row as w' R
  | _ => False

theorem Does.mono {P : Program} {f : FuncId} {us : Array Value} {w : World} {R R' : Value → World → Prop} (h : Does P f us w R) (hr : ∀ v w', R v w' → R' v w') : Does P f us w R' := by
  unfold Does at *
  split at h
  · exact Calls.mono h fun e w'' he => by cases e <;> first | exact hr _ _ he | exact he.elim
  · exact hr _ _ h
  · exact Rows.mono h hr
  · exact h.elim

/-- A function with a body. -/
theorem Does.enter {P : Program} {f : FuncId} {us : Array Value} {w : World} {R : Value → World → Prop} (hrun : (callFunc f us).run P w = .ok (.enter f us) w)
    (h : Calls P f us w fun e w' => match e with | .returned v => R v w' | _ => False) : Does P f us w R := by
  unfold Does
  rw [hrun]; exact h

/-- THE LAW OF A FUNCTION that reads its arguments, changes nothing that was there, and gives new memory. -/
def PureCall (P : Program) (f : FuncId) (args res : List AD) : Prop :=
  ∀ (w : World) (us : List Value) (F : List Nat), GOk w.heap → areps w.heap false args us F → Does P f us.toArray w fun v w' =>
    ∃ F', Bel (fun b => w.heap.size ≤ b) w w' ∧ trep w'.heap true res v F' ∧ F'.Nodup ∧ ∀ b ∈ F', w.heap.size ≤ b

/-! ### Arguments -/

def clnOf (hs : List H) (id off len : Nat) : Option (Nat × List (List D)) :=
  match hget hs id with
  | .cln sz xs => if off + len ≤ xs.length then some (sz, (xs.drop off).take len) else none
  | _ => elsOf hs (.sl id off len)

def toRD (hs : List H) (v : V) : Option D :=
  match v with
  | .d x => some x
  | .nils s => some (.sl s [])
  | .sl id off len => match clnOf hs id off len with | some (sz, xs) => some (.sl sz xs) | none => none
  | _ => none

def toRDs (hs : List H) : List V → Option (List D)
  | [] => some []
  | v :: vs => match toRD hs v, toRDs hs vs with | some d, some ds => some (d :: ds) | _, _ => none

def toAD (hs : List H) (v : V) : Option AD :=
  match v with
  | .agg vs => (toRDs hs vs).map .agg
  | v => (toRD hs v).map .one

def toADs (hs : List H) : List V → Option (List AD)
  | [] => some []
  | v :: vs => match toAD hs v, toADs hs vs with | some d, some ds => some (d :: ds) | _, _ => none

section
variable {B : Nat → Prop} {w0 : World} {Dm : Nat → Prop} {φ : Phi} {kp : List (V × Value)} {a : Act} {w : World} {σ σ' : St}

theorem toRD_rel (hle : σ.le σ') (r : R B w0 Dm φ σ' kp a w) {v : V} {d : D} (h : toRD σ.heap v = some d) {u : Value} (ru : VRel φ (NotTop φ σ'.heap) w.heap v u) : ∃ F, rep w.heap false d u F := by
  unfold toRD at h
  split at h
  · cases h
    simp only [VRel] at ru
    obtain ⟨F, r1, _⟩ := ru
    exact ⟨F, r1⟩
  · cases h
    simp only [VRel] at ru
    subst ru
    exact ⟨[], none, 0, rfl, by simp, by decide, .inl ⟨rfl, rfl, fun e => by cases e⟩⟩
  · rename_i id off len
    split at h
    · rename_i sz xs hel
      cases h
      unfold clnOf at hel
      split at hel
      · rename_i sz' ys hx
        split at hel
        · rename_i hl
          simp only [Option.some.injEq, Prod.mk.injEq] at hel
          obtain ⟨rfl, rfl⟩ := hel
          have hx' : hget σ'.heap id = .cln sz' ys := by
            rcases hle.2 id with hh | hh
            · rw [hx] at hh; cases hh
            · rw [hh, hx]
          obtain ⟨F, f1, _⟩ := own_rep' r (id := id) (by rw [hx']; rfl) hl ru
          exact ⟨F, rep_false _ _ _ f1⟩
        · cases hel
      obtain ⟨ad, c, e1, e2, e3, e4⟩ := elsOf_rel hle r hel ru
      simp only [rep]
      rcases e4 with e4 | ⟨b, f, G, e4, e5, e6, e7⟩
      · exact ⟨[], ad, c, e1, e2, e3, .inl ⟨e4, rfl, fun e => by cases e⟩⟩
      · exact ⟨b :: G, ad, c, e1, e2, e3, .inr ⟨b, f, G, e4, rfl, e5, e6, fun e => by cases e⟩⟩
    · cases h
  · cases h

theorem toRDs_rel (hle : σ.le σ') (r : R B w0 Dm φ σ' kp a w) : ∀ (vs : List V) (ds : List D) (us : List Value), toRDs σ.heap vs = some ds → VRels φ (NotTop φ σ'.heap) w.heap vs us → ∃ F, reps w.heap false ds us F
  | [], ds, us, h, ru => by
    simp only [toRDs, Option.some.injEq] at h; subst h
    simp only [VRels] at ru; subst ru
    exact ⟨[], rfl, rfl⟩
  | v :: vs, ds, us, h, ru => by
    simp only [VRels] at ru
    obtain ⟨u, us', rfl, r1, r2⟩ := ru
    simp only [toRDs] at h
    split at h
    · rename_i d ds' e1 e2
      cases h
      obtain ⟨F1, f1⟩ := toRD_rel hle r e1 r1
      obtain ⟨F2, f2⟩ := toRDs_rel hle r vs ds' us' e2 r2
      exact ⟨F1 ++ F2, u, us', F1, F2, rfl, rfl, f1, f2⟩
    · cases h

theorem toAD_rel (hle : σ.le σ') (r : R B w0 Dm φ σ' kp a w) {v : V} {d : AD} (h : toAD σ.heap v = some d) {u : Value} (ru : VRel φ (NotTop φ σ'.heap) w.heap v u) : ∃ F, arep w.heap false d u F := by
  unfold toAD at h
  split at h
  · rename_i vs
    cases hd : toRDs σ.heap vs with
    | none => rw [hd] at h; cases h
    | some ds =>
      rw [hd] at h; cases h
      obtain ⟨us, rfl, r1⟩ := rel_agg ru
      obtain ⟨F, f⟩ := toRDs_rel hle r vs ds _ hd r1
      exact ⟨F, us, rfl, f⟩
  · cases hd : toRD σ.heap v with
    | none => rw [hd] at h; cases h
    | some x =>
      rw [hd] at h; cases h
      exact toRD_rel hle r hd ru

theorem toADs_rel (hle : σ.le σ') (r : R B w0 Dm φ σ' kp a w) : ∀ (vs : List V) (ds : List AD) (us : List Value), toADs σ.heap vs = some ds → VRels φ (NotTop φ σ'.heap) w.heap vs us → ∃ F, areps w.heap false ds us F
  | [], ds, us, h, ru => by
    simp only [toADs, Option.some.injEq] at h; subst h
    simp only [VRels] at ru; subst ru
    exact ⟨[], rfl, rfl⟩
  | v :: vs, ds, us, h, ru => by
    simp only [VRels] at ru
    obtain ⟨u, us', rfl, r1, r2⟩ := ru
    simp only [toADs] at h
    split at h
    · rename_i d ds' e1 e2
      cases h
      obtain ⟨F1, f1⟩ := toAD_rel hle r e1 r1
      obtain ⟨F2, f2⟩ := toADs_rel hle r vs ds' us' e2 r2
      exact ⟨F1 ++ F2, u, us', F1, F2, rfl, rfl, f1, f2⟩
    · cases h
end

/-! ### Results -/

def rV (d : D) (n : Nat) : V := match d with | .sl _ xs => .sl n 0 xs.length | d => .d d
def rH (d : D) : List H := match d with | .sl sz xs => [.arr sz xs true] | _ => []
def rVs : List D → Nat → List V
  | [], _ => []
  | d :: ds, n => rV d n :: rVs ds (n + (rH d).length)
def rHs : List D → List H
  | [] => []
  | d :: ds => rH d ++ rHs ds

def aV : AD → Nat → V
  | .one d, n => rV d n
  | .agg ds, n => .agg (rVs ds n)
def aH : AD → List H
  | .one d => rH d
  | .agg ds => rHs ds
def aVs : List AD → Nat → List V
  | [], _ => []
  | d :: ds, n => aV d n :: aVs ds (n + (aH d).length)
def aHs : List AD → List H
  | [] => []
  | d :: ds => aH d ++ aHs ds
def tV (rs : List AD) (n : Nat) : V := match rs with | [r] => aV r n | rs => .tup (aVs rs n)

def foot (β : Blk) : List Nat := β.blk.toList ++ β.nest

/-- Entries that lie so, whatever else is there. -/
def Lies (h : Array Obj) (bl : List Blk) (hs : List H) (F : List Nat) : Prop :=
  bl.length = hs.length ∧ bl.flatMap foot = F ∧ (∀ (i : Nat) (β : Blk) (x : H), bl[i]? = some β → hs[i]? = some x → ∀ φ T, HRel φ T h β x) ∧ ∀ x ∈ hs, ∃ sz xs, x = .arr sz xs true

/-- The places of the new entries. -/
def At (φ : Phi) (n : Nat) (bl : List Blk) : Prop := ∀ (i : Nat) (β : Blk), bl[i]? = some β → φ (n + i) = some β

theorem Lies.append {h : Array Obj} {b1 b2 : List Blk} {h1 h2 : List H} {F1 F2 : List Nat} (l1 : Lies h b1 h1 F1) (l2 : Lies h b2 h2 F2) : Lies h (b1 ++ b2) (h1 ++ h2) (F1 ++ F2) := by
  obtain ⟨a1, a2, a3, a4⟩ := l1
  obtain ⟨c1, c2, c3, c4⟩ := l2
  refine ⟨by simp [a1, c1], by simp [a2, c2], fun i β x e1 e2 => ?_, fun x hx => ?_⟩
  · rw [List.getElem?_append] at e1 e2
    by_cases hi : i < b1.length
    · rw [if_pos hi] at e1; rw [if_pos (a1 ▸ hi)] at e2; exact a3 i β x e1 e2
    · rw [if_neg hi] at e1; rw [if_neg (a1 ▸ hi), ← a1] at e2; exact c3 _ β x e1 e2
  · rcases List.mem_append.1 hx with hx | hx
    · exact a4 x hx
    · exact c4 x hx

theorem At.left {φ : Phi} {n : Nat} {b1 b2 : List Blk} (h : At φ n (b1 ++ b2)) : At φ n b1 := fun i β e => h i β (by
  rw [List.getElem?_append_left (by
    rcases Nat.lt_or_ge i b1.length with h | h
    · exact h
    · rw [List.getElem?_eq_none h] at e; cases e)]; exact e)
theorem At.right {φ : Phi} {n : Nat} {b1 b2 : List Blk} (h : At φ n (b1 ++ b2)) : At φ (n + b1.length) b2 := fun i β e => by
  rw [Nat.add_assoc]
  exact h (b1.length + i) β (by rw [List.getElem?_append_right (by omega), Nat.add_sub_cancel_left]; exact e)

theorem rV_rel {h : Array Obj} {d : D} {u : Value} {F : List Nat} (r : rep h true d u F) : ∃ bl, Lies h bl (rH d) F ∧ ∀ φ n T, At φ n bl → VRel φ T h (rV d n) u := by
  cases d with
  | sl sz xs =>
    simp only [rep] at r
    obtain ⟨ad, c, rfl, h2, h3, h4⟩ := r
    rcases h4 with ⟨rfl, rfl, h4⟩ | ⟨b, f, G, rfl, rfl, h5, h6, h7⟩
    · refine ⟨[⟨none, 0, 0, sz, []⟩], ⟨rfl, rfl, fun i β x e1 e2 φ T => ?_, by simp [rH]⟩, fun φ n T hA => ?_⟩
      · cases i with
        | zero =>
          simp [rH] at e1 e2; subst e1; subst e2
          simp [HRel]
        | succ i => simp at e1
      · simp only [rV, VRel]
        exact ⟨_, ad, c, hA 0 _ rfl, rfl, h3, .inl ⟨h4 trivial, rfl, rfl⟩⟩
    · refine ⟨[⟨some b, f, c, sz, G⟩], ⟨rfl, by simp [foot], fun i β x e1 e2 φ T => ?_, by simp [rH]⟩, fun φ n T hA => ?_⟩
      · cases i with
        | zero =>
          simp [rH] at e1 e2; subst e1; subst e2
          simp only [HRel]
          exact ⟨trivial, .inr ⟨b, G, rfl, h2, (h7 trivial).2, h6, fun _ => rfl, fun h => by cases h⟩⟩
        | succ i => simp at e1
      · simp only [rV, VRel]
        exact ⟨_, _, c, hA 0 _ rfl, rfl, h3, .inr ⟨b, rfl, by simp, h2, by simp⟩⟩
  | _ =>
    have hF := rep_flat rfl r
    subst hF
    refine ⟨[], ⟨rfl, rfl, by simp, by simp [rH]⟩, fun φ n T _ => ?_⟩
    simp only [rV, VRel]
    exact ⟨[], rep_flat_any rfl r, by simp⟩

theorem rVs_rel {h : Array Obj} : ∀ (ds : List D) (us : List Value) (F : List Nat), reps h true ds us F → ∃ bl, Lies h bl (rHs ds) F ∧ ∀ φ n T, At φ n bl → VRels φ T h (rVs ds n) us
  | [], us, F, r => by
    simp only [reps] at r
    obtain ⟨rfl, rfl⟩ := r
    exact ⟨[], ⟨rfl, rfl, by simp, by simp [rHs]⟩, fun _ _ _ _ => by simp [rVs, VRels]⟩
  | d :: ds, us, F, r => by
    simp only [reps] at r
    obtain ⟨u, us', F1, F2, rfl, rfl, r1, r2⟩ := r
    obtain ⟨b1, l1, v1⟩ := rV_rel r1
    obtain ⟨b2, l2, v2⟩ := rVs_rel ds us' F2 r2
    refine ⟨b1 ++ b2, l1.append l2, fun φ n T hA => ?_⟩
    simp only [rVs, VRels]
    refine ⟨u, us', rfl, v1 φ n T hA.left, v2 φ _ T ?_⟩
    rw [← l1.1]; exact hA.right

theorem aV_rel {h : Array Obj} {d : AD} {u : Value} {F : List Nat} (r : arep h true d u F) : ∃ bl, Lies h bl (aH d) F ∧ ∀ φ n T, At φ n bl → VRel φ T h (aV d n) u := by
  cases d with
  | one d => exact rV_rel r
  | agg ds =>
    obtain ⟨us, rfl, r⟩ := r
    obtain ⟨bl, l, v⟩ := rVs_rel ds _ F r
    refine ⟨bl, l, fun φ n T hA => ?_⟩
    simp only [aV, VRel]
    exact ⟨us, rfl, v φ n T hA⟩

theorem aVs_rel {h : Array Obj} : ∀ (ds : List AD) (us : List Value) (F : List Nat), areps h true ds us F → ∃ bl, Lies h bl (aHs ds) F ∧ ∀ φ n T, At φ n bl → VRels φ T h (aVs ds n) us
  | [], us, F, r => by
    simp only [areps] at r
    obtain ⟨rfl, rfl⟩ := r
    exact ⟨[], ⟨rfl, rfl, by simp, by simp [aHs]⟩, fun _ _ _ _ => by simp [aVs, VRels]⟩
  | d :: ds, us, F, r => by
    simp only [areps] at r
    obtain ⟨u, us', F1, F2, rfl, rfl, r1, r2⟩ := r
    obtain ⟨b1, l1, v1⟩ := aV_rel r1
    obtain ⟨b2, l2, v2⟩ := aVs_rel ds us' F2 r2
    refine ⟨b1 ++ b2, l1.append l2, fun φ n T hA => ?_⟩
    simp only [aVs, VRels]
    refine ⟨u, us', rfl, v1 φ n T hA.left, v2 φ _ T ?_⟩
    rw [← l1.1]; exact hA.right

theorem tV_rel {h : Array Obj} {rs : List AD} {u : Value} {F : List Nat} (r : trep h true rs u F) : ∃ bl, Lies h bl (aHs rs) F ∧ ∀ φ n T, At φ n bl → VRel φ T h (tV rs n) u := by
  unfold trep at r
  split at r
  · rename_i x
    obtain ⟨bl, l, v⟩ := aV_rel r
    exact ⟨bl, by simpa [aHs] using l, fun φ n T hA => v φ n T hA⟩
  · rename_i hne
    obtain ⟨us, rfl, r⟩ := r
    obtain ⟨bl, l, v⟩ := aVs_rel _ _ F r
    refine ⟨bl, l, fun φ n T hA => ?_⟩
    have : tV rs n = .tup (aVs rs n) := by unfold tV; split <;> first | rfl | (rename_i y; exact absurd rfl (hne y))
    rw [this]; simp only [VRel]
    exact ⟨us, rfl, v φ n T hA⟩

/-- The same, looked into by nobody. -/
def H.toCln : H → H
  | .arr sz xs true => .cln sz xs
  | x => x

theorem Lies.cln {h : Array Obj} {bl : List Blk} {hs : List H} {F : List Nat} (l : Lies h bl hs F) : bl.length = (hs.map H.toCln).length ∧ bl.flatMap foot = F ∧ (∀ (i : Nat) (β : Blk) (x : H), bl[i]? = some β → (hs.map H.toCln)[i]? = some x → ∀ φ T, HRel φ T h β x) := by
  obtain ⟨l1, l2, l3, _⟩ := l
  refine ⟨by simp [l1], l2, fun i β x e1 e2 φ T => ?_⟩
  rw [List.getElem?_map] at e2
  cases hx : hs[i]? with
  | none => rw [hx] at e2; cases e2
  | some y =>
    rw [hx] at e2
    simp only [Option.map_some, Option.some.injEq] at e2
    subst e2
    have := l3 i β y e1 hx φ T
    unfold H.toCln
    split
    · rename_i sz xs
      have := mine_rel (x := .arr sz xs true) rfl this
      simpa only [HRel] using this
    · exact this

theorem flat_inj {F : List Nat} : ∀ (bl : List Blk), bl.flatMap foot = F → F.Nodup → ∀ (i j : Nat) (β γ : Blk) (b : Nat), bl[i]? = some β → bl[j]? = some γ → b ∈ foot β → b ∈ foot γ → i = j := by
  intro bl
  induction bl generalizing F with
  | nil => intro _ _ i j β γ b e; simp at e
  | cons x xs ih =>
    intro e hn i j β γ b e1 e2 h1 h2
    subst e
    rw [List.flatMap_cons, List.nodup_append] at hn
    have hmem : ∀ (k : Nat) (δ : Blk), xs[k]? = some δ → b ∈ foot δ → b ∈ xs.flatMap foot := fun k δ hk hb => List.mem_flatMap.2 ⟨δ, List.mem_of_getElem? hk, hb⟩
    cases i with
    | zero =>
      cases j with
      | zero => rfl
      | succ j =>
        simp at e1 e2; subst e1
        exact absurd rfl (hn.2.2 b h1 b (hmem j γ e2 h2))
    | succ i =>
      cases j with
      | zero =>
        simp at e1 e2; subst e2
        exact absurd rfl (hn.2.2 b h2 b (hmem i β e1 h1))
      | succ j =>
        simp at e1 e2
        rw [ih rfl hn.2.1 i j β γ b e1 e2 h1 h2]

theorem flat_nodup {F : List Nat} : ∀ (bl : List Blk), bl.flatMap foot = F → F.Nodup → ∀ β ∈ bl, (foot β).Nodup := by
  intro bl
  induction bl generalizing F with
  | nil => simp
  | cons x xs ih =>
    intro e hn β hb
    subst e
    rw [List.flatMap_cons, List.nodup_append] at hn
    rcases List.mem_cons.1 hb with rfl | hb
    · exact hn.1
    · exact ih rfl hn.2.1 β hb

section
variable {B : Nat → Prop} {w0 : World} {Dm : Nat → Prop} {φ : Phi} {kp : List (V × Value)} {a : Act} {w : World} {σ : St}

/-- New entries, of memory that a call gave. -/
theorem R_news (r : R B w0 Dm φ σ kp a w) {n : Nat} {bl : List Blk} {hs : List H} {F : List Nat} {w' : World} (hn : ∀ i, n ≤ i → i < n + hs.length → ¬ Dm i)
    (hb : Bel (fun b => w.heap.size ≤ b) w w') (hl : bl.length = hs.length ∧ bl.flatMap foot = F ∧ (∀ (i : Nat) (β : Blk) (x : H), bl[i]? = some β → hs[i]? = some x → ∀ φ T, HRel φ T w'.heap β x)) (hnd : F.Nodup) (hnew : ∀ b ∈ F, w.heap.size ≤ b) :
    ∃ φ', At φ' n bl ∧ R B w0 (fun i => Dm i ∨ (n ≤ i ∧ i < n + hs.length)) φ' ⟨σ.tmps, Gv.hnew σ.heap n hs⟩ kp a w' := by
  obtain ⟨l1, l2, l3⟩ := hl
  have hφ : ∀ i, n ≤ i → i < n + hs.length → φ i = none := fun i h1 h2 => by
    cases h : φ i with
    | none => rfl
    | some β => exact absurd (r.dm i β h) (hn i h1 h2)
  let φ' : Phi := fun i => if n ≤ i ∧ i < n + hs.length then bl[i - n]? else φ i
  have hin : ∀ i, n ≤ i ∧ i < n + hs.length → φ' i = bl[i - n]? := fun i h => if_pos h
  have hout : ∀ i, ¬ (n ≤ i ∧ i < n + hs.length) → φ' i = φ i := fun i h => if_neg h
  have hgi : ∀ i, n ≤ i ∧ i < n + hs.length → ∃ x, hs[i - n]? = some x ∧ hget (Gv.hnew σ.heap n hs) i = x := by
    intro i h
    have hlt : i - n < hs.length := by omega
    refine ⟨hs[i - n], List.getElem?_eq_getElem hlt, ?_⟩
    rw [hget_hnew, if_pos h, List.getD_eq_getElem?_getD, List.getElem?_eq_getElem hlt]; rfl
  have hgo : ∀ i, ¬ (n ≤ i ∧ i < n + hs.length) → hget (Gv.hnew σ.heap n hs) i = hget σ.heap i := fun i h => by rw [hget_hnew, if_neg h]
  have hown : ∀ i, n ≤ i ∧ i < n + hs.length → ∀ b, Owns φ' (Gv.hnew σ.heap n hs) i b → ∃ β, bl[i - n]? = some β ∧ b ∈ foot β := by
    rintro i h b ⟨β, e1, e2⟩
    rw [hin i h] at e1
    refine ⟨β, e1, ?_⟩
    unfold foot
    rcases e2 with ⟨_, e2⟩ | ⟨_, e2⟩
    · simp [e2]
    · simp [e2]
  have hbF : ∀ (i : Nat) (β : Blk) (b : Nat), bl[i]? = some β → b ∈ foot β → w.heap.size ≤ b := fun i β b h1 h2 => hnew b (by rw [← l2]; exact List.mem_flatMap.2 ⟨β, List.mem_of_getElem? h1, h2⟩)
  refine ⟨φ', fun i β hi => ?_, R_change r (fun i => n ≤ i ∧ i < n + hs.length) _ φ' _ w' (fun i hi => ⟨hgo i hi, hout i hi⟩) (fun i β hi => ?_) hb.size (fun b hb' _ => hb.block b (by omega)) (fun i hi b ho => ?_) (fun i hi β' h1 b h2 => ?_)
    (fun i j b hi hj h1 h2 => ?_) (fun i β hi h1 _ => ?_) (fun i hi => ?_) (fun i β hi => ?_) (r.bel.trans (hb.mono fun k hk => r.bs k hk))⟩
  · have hlt : i < bl.length := by
      rcases Nat.lt_or_ge i bl.length with h | h
      · exact h
      · rw [List.getElem?_eq_none h] at hi; cases hi
    rw [hin (n + i) ⟨by omega, by omega⟩, Nat.add_sub_cancel_left]; exact hi
  · by_cases h : n ≤ i ∧ i < n + hs.length
    · rw [hφ i h.1 h.2] at hi; cases hi
    · exact ⟨β, by rw [hout i h]; exact hi, rfl, rfl, rfl, rfl⟩
  · obtain ⟨β, e1, e2⟩ := hown i hi b ho
    exact .inl (hbF _ β b e1 e2)
  · rw [hin i hi] at h1
    refine .inl (hbF _ β' b h1 ?_)
    unfold foot
    rcases h2 with ⟨_, h2⟩ | ⟨_, h2⟩ <;> simp [h2]
  · obtain ⟨β, e1, e2⟩ := hown i hi b h1
    obtain ⟨γ, f1, f2⟩ := hown j hj b h2
    have := flat_inj bl l2 hnd _ _ β γ b e1 f1 e2 f2
    omega
  · rw [hin i hi] at h1
    have := flat_nodup bl l2 hnd β (List.mem_of_getElem? h1)
    unfold foot at this
    rw [List.nodup_append] at this
    refine ⟨this.2.1, fun b hb' hb2 => this.2.2 b (by simp [hb']) b hb2 rfl⟩
  · right
    obtain ⟨x, h1, h2⟩ := hgi i hi
    have hlt : i - n < bl.length := by omega
    refine ⟨bl[i - n], by rw [hin i hi]; exact List.getElem?_eq_getElem hlt, ?_⟩
    rw [h2]
    exact l3 _ _ _ (List.getElem?_eq_getElem hlt) h1 _ _
  · by_cases h : n ≤ i ∧ i < n + hs.length
    · exact .inr h
    · rw [hout i h] at hi; exact .inl (r.dm i β hi)
end

variable {P : Program} {o : Oper} {g : Bool} {σ : St} {n : Nat} {K : Res → Prop}

/-- A call of a function whose law is known. -/
theorem ok_call' {c : Call} {f : FuncId} {xs : Array Operand} {ts : Array TypeId} (ho : o.op = .call c) {x : Operand} (hc : c = { callee := .value x, args := xs, argTypes := ts }) (hf : ∀ {σ' : St} {B : Nat → Prop} {w0 : World} {Dm : Nat → Prop} {φ : Phi} {kp : List (V × Value)} {a : Act} {w : World}, σ.le σ' → R B w0 Dm φ σ' kp a w → g = true → a.eval x = .func (.func f) #[] #[])
    {vs : List V} (hx : ∀ {σ' : St} {B : Nat → Prop} {w0 : World} {Dm : Nat → Prop} {φ : Phi} {kp : List (V × Value)} {a : Act} {w : World}, σ.le σ' → R B w0 Dm φ σ' kp a w → g = true → VRels φ (NotTop φ σ'.heap) w.heap vs (xs.toList.map a.eval))
    {as rs : List AD} (hE : toADs σ.heap vs = some as) (hpc : PureCall P f as rs) (hK : K ⟨tV rs n, aHs rs, []⟩) : ∃ r, OpOK P o g σ n r ∧ K r := by
  subst hc
  refine ⟨_, ?_, hK⟩
  intro σ' hle _ B w0 Dm φ kp a w hDm hR hg Q1 Q2 hk
  have hv := hx hle hR hg
  obtain ⟨F, hF⟩ := toADs_rel hle hR vs as _ hE hv
  have hcall := hpc w _ F hR.gok hF
  unfold Oper.wp
  have hrun : (execOp a.eval o).run P w = (callFunc f (xs.map a.eval)).run P w := by
    unfold execOp; rw [ho]
    have hfx := hf hle hR hg
    simp [resolve, hfx, Deferred.ofValue, invoke]
  rw [hrun]
  have hxs : (xs.toList.map a.eval).toArray = xs.map a.eval := by rw [← Array.toList_map, Array.toArray_toList]
  rw [hxs] at hcall
  have fin : ∀ v w', (∃ F', Bel (fun b => w.heap.size ≤ b) w w' ∧ trep w'.heap true rs v F' ∧ F'.Nodup ∧ ∀ b ∈ F', w.heap.size ≤ b) → Q1 (a.put o.dst v) w' := by
    rintro v w' ⟨F', e1, e2, e3, e4⟩
    obtain ⟨bl, l1, l2⟩ := tV_rel e2
    obtain ⟨φ', hA, hR'⟩ := R_news hR hDm e1 ⟨l1.1, l1.2.1, l1.2.2.1⟩ e3 e4
    exact hk v w' φ' (R_put hR' o.dst (l2 φ' n _ hA))
  unfold Does at hcall
  split at hcall
  · rename_i h1; rw [h1, Oper.upon_enter]
    refine Calls.mono hcall fun e w' he => ?_
    cases e with
    | returned v => exact fin v w' he
    | panicked c => exact he.elim
    | outgrown => exact he.elim
  · rename_i h1; rw [h1, Oper.upon_value]; exact fin _ _ hcall
  · rename_i h1; rw [h1, Oper.upon_row]; exact Rows.mono hcall fin
  · exact hcall.elim


/-- Such a call, whose results nobody looks into. -/
theorem ok_callc {c : Call} {f : FuncId} {xs : Array Operand} {ts : Array TypeId} (ho : o.op = .call c) {x : Operand} (hc : c = { callee := .value x, args := xs, argTypes := ts }) (hf : ∀ {σ' : St} {B : Nat → Prop} {w0 : World} {Dm : Nat → Prop} {φ : Phi} {kp : List (V × Value)} {a : Act} {w : World}, σ.le σ' → R B w0 Dm φ σ' kp a w → g = true → a.eval x = .func (.func f) #[] #[])
    {vs : List V} (hx : ∀ {σ' : St} {B : Nat → Prop} {w0 : World} {Dm : Nat → Prop} {φ : Phi} {kp : List (V × Value)} {a : Act} {w : World}, σ.le σ' → R B w0 Dm φ σ' kp a w → g = true → VRels φ (NotTop φ σ'.heap) w.heap vs (xs.toList.map a.eval))
    {as rs : List AD} (hE : toADs σ.heap vs = some as) (hpc : PureCall P f as rs) (hK : K ⟨tV rs n, (aHs rs).map H.toCln, []⟩) : ∃ r, OpOK P o g σ n r ∧ K r := by
  subst hc
  refine ⟨_, ?_, hK⟩
  intro σ' hle _ B w0 Dm φ kp a w hDm hR hg Q1 Q2 hk
  have hv := hx hle hR hg
  obtain ⟨F, hF⟩ := toADs_rel hle hR vs as _ hE hv
  have hcall := hpc w _ F hR.gok hF
  unfold Oper.wp
  have hrun : (execOp a.eval o).run P w = (callFunc f (xs.map a.eval)).run P w := by
    unfold execOp; rw [ho]
    have hfx := hf hle hR hg
    simp [resolve, hfx, Deferred.ofValue, invoke]
  rw [hrun]
  have hxs : (xs.toList.map a.eval).toArray = xs.map a.eval := by rw [← Array.toList_map, Array.toArray_toList]
  rw [hxs] at hcall
  have fin : ∀ v w', (∃ F', Bel (fun b => w.heap.size ≤ b) w w' ∧ trep w'.heap true rs v F' ∧ F'.Nodup ∧ ∀ b ∈ F', w.heap.size ≤ b) → Q1 (a.put o.dst v) w' := by
    rintro v w' ⟨F', e1, e2, e3, e4⟩
    obtain ⟨bl, l1, l2⟩ := tV_rel e2
    obtain ⟨φ', hA, hR'⟩ := R_news hR hDm e1 l1.cln e3 e4
    exact hk v w' φ' (R_put hR' o.dst (l2 φ' n _ hA))
  unfold Does at hcall
  split at hcall
  · rename_i h1; rw [h1, Oper.upon_enter]
    refine Calls.mono hcall fun e w' he => ?_
    cases e with
    | returned v => exact fin v w' he
    | panicked c => exact he.elim
    | outgrown => exact he.elim
  · rename_i h1; rw [h1, Oper.upon_value]; exact fin _ _ hcall
  · rename_i h1; rw [h1, Oper.upon_row]; exact Rows.mono hcall fin
  · exact hcall.elim


/-! ### Functions that write their arguments (slices owned whole, looked into by nobody) -/

def MutCall (P : Program) (f : FuncId) (args args' res : List AD) : Prop :=
  ∀ (w : World) (us : List Value) (F : List Nat), GOk w.heap → (∀ p ∈ globs, p.1 ∉ F) → areps w.heap true args us F → F.Nodup → Does P f us.toArray w fun v w' =>
    ∃ F', Bel (fun b => b ∈ F ∨ w.heap.size ≤ b) w w' ∧ areps w'.heap true args' us F' ∧ F'.Nodup ∧ (∀ b ∈ F', b ∈ F ∨ w.heap.size ≤ b) ∧ trep w'.heap true res v []

/-- What is left of a cell that was handed over. -/
def mutC (hs : List H) (v : V) (d' : D) : Option (Prop × List (Nat × H)) :=
  match v, d' with
  | .sl id 0 len, .sl sz' xs' => match hget hs id with
    | .arr sz xs true => some (len = xs.length ∧ flatE xs = true ∧ sz' = sz ∧ flatE xs' = true, [(id, .arr sz xs' true)])
    | .cln sz xs => some (len = xs.length ∧ sz' = sz, [(id, .cln sz xs')])
    | _ => none
  | .d x, _ => some (x.flat = true, [])
  | .nils _, _ => some (True, [])
  | _, _ => none

def mutCs (hs : List H) : List V → List D → Option (Prop × List (Nat × H))
  | [], [] => some (True, [])
  | v :: vs, d :: ds => match mutC hs v d, mutCs hs vs ds with | some (p, u), some (q, us) => some (p ∧ q, u ++ us) | _, _ => none
  | _, _ => none

def mutA (hs : List H) (v : V) (a' : AD) : Option (Prop × List (Nat × H)) :=
  match v, a' with
  | .agg vs, .agg ds => mutCs hs vs ds
  | v, .one d => mutC hs v d
  | _, _ => none

def mutAs (hs : List H) : List V → List AD → Option (Prop × List (Nat × H))
  | [], [] => some (True, [])
  | v :: vs, d :: ds => match mutA hs v d, mutAs hs vs ds with | some (p, u), some (q, us) => some (p ∧ q, u ++ us) | _, _ => none
  | _, _ => none

mutual
/-- What is owned lies in one way only. -/
theorem rep_det {h : Array Obj} : ∀ (d : D) (u : Value) (F G : List Nat), rep h true d u F → rep h true d u G → F = G
  | .int k n, u, F, G, r, s => by simp only [rep] at r s; rw [r.2.1, s.2.1]
  | .bool b, u, F, G, r, s => by simp only [rep] at r s; rw [r.2, s.2]
  | .str x, u, F, G, r, s => by simp only [rep] at r s; rw [r.2.1, s.2.1]
  | .sl sz xs, u, F, G, r, s => by
    simp only [rep] at r s
    obtain ⟨a, c, h1, h2, h3, h4⟩ := r
    obtain ⟨a', c', k1, k2, k3, k4⟩ := s
    rw [h1] at k1; cases k1
    rcases h4 with ⟨p1, p2, p3⟩ | ⟨b, f, G1, p1, p2, p3, p4, p5⟩ <;> rcases k4 with ⟨q1, q2, q3⟩ | ⟨b', f', G2, q1, q2, q3, q4, q5⟩
    · rw [p2, q2]
    · have := p3 trivial; have := (q5 trivial).1; omega
    · have := q3 trivial; have := (p5 trivial).1; omega
    · rw [p1] at q1; cases q1
      rw [p2, q2, repE_det xs b f sz G1 G2 p4 q4]
theorem repC_det {h : Array Obj} : ∀ (ds : List D) (b f : Nat) (F G : List Nat), repC h true b f ds F → repC h true b f ds G → F = G
  | [], b, f, F, G, r, s => by simp only [repC] at r s; rw [r, s]
  | d :: ds, b, f, F, G, r, s => by
    simp only [repC] at r s
    obtain ⟨v, G1, G2, rfl, e2, e3, e4⟩ := r
    obtain ⟨v', H1, H2, rfl, k2, k3, k4⟩ := s
    rw [e2] at k2; cases k2
    rw [rep_det d v G1 H1 e3 k3, repC_det ds b (f + 1) G2 H2 e4 k4]
theorem repE_det {h : Array Obj} : ∀ (cs : List (List D)) (b f sz : Nat) (F G : List Nat), repE h true b f sz cs F → repE h true b f sz cs G → F = G
  | [], b, f, sz, F, G, r, s => by simp only [repE] at r s; rw [r, s]
  | c :: cs, b, f, sz, F, G, r, s => by
    simp only [repE] at r s
    obtain ⟨G1, G2, rfl, e2, e3, e4⟩ := r
    obtain ⟨H1, H2, rfl, k2, k3, k4⟩ := s
    rw [repC_det c b f G1 H1 e3 k3, repE_det cs b (f + sz) sz G2 H2 e4 k4]
end

/-- What is owned, looked into or not. -/
def toX (hs : List H) (v : V) : Option (D × List Nat) :=
  match v with
  | .sl id off len => match hget hs id with | .cln sz xs => if off + len ≤ xs.length then some (.sl sz ((xs.drop off).take len), [id]) else none | _ => toD hs (.sl id off len)
  | v => toD hs v

def toXs (hs : List H) : List V → Option (List D × List Nat)
  | [] => some ([], [])
  | v :: vs => match toX hs v, toXs hs vs with | some (d, i), some (ds, is) => some (d :: ds, i ++ is) | _, _ => none

section
variable {B : Nat → Prop} {w0 : World} {Dm : Nat → Prop} {φ : Phi} {kp : List (V × Value)} {a : Act} {w : World} {σ : St}

theorem toX_rel (r : R B w0 Dm φ σ kp a w) {v : V} {d : D} {ids : List Nat} (h : toX σ.heap v = some (d, ids)) {u : Value} (ru : VRel φ (NotTop φ σ.heap) w.heap v u) :
    ∃ F, rep w.heap true d u F ∧ F.Nodup ∧ (∀ b ∈ F, ∃ id ∈ ids, Owns φ σ.heap id b) ∧ ∀ id ∈ ids, (hget σ.heap id).own = true := by
  unfold toX at h
  split at h
  · rename_i id off len
    split at h
    · rename_i sz xs hx
      split at h
      · rename_i hl
        simp only [Option.some.injEq, Prod.mk.injEq] at h
        obtain ⟨rfl, rfl⟩ := h
        obtain ⟨F, f1, f2, f3⟩ := own_rep' r (id := id) (by rw [hx]; rfl) hl ru
        refine ⟨F, f1, f2, fun b hb => ⟨id, by simp, f3 b hb⟩, fun i hi => ?_⟩
        simp only [List.mem_singleton] at hi; subst hi; rw [hx]; rfl
      · cases h
    · obtain ⟨F, f1, f2, f3, f4⟩ := toD_rel r h ru
      exact ⟨F, f1, f2, f3, fun i hi => by obtain ⟨s, ys, e⟩ := f4 i hi; rw [e]; rfl⟩
  · obtain ⟨F, f1, f2, f3, f4⟩ := toD_rel r h ru
    exact ⟨F, f1, f2, f3, fun i hi => by obtain ⟨s, ys, e⟩ := f4 i hi; rw [e]; rfl⟩

theorem toXs_rel (r : R B w0 Dm φ σ kp a w) : ∀ (vs : List V) (ds : List D) (ids : List Nat) (us : List Value), toXs σ.heap vs = some (ds, ids) → ids.Nodup → VRels φ (NotTop φ σ.heap) w.heap vs us →
    ∃ G, reps w.heap true ds us G ∧ G.Nodup ∧ (∀ b ∈ G, ∃ id ∈ ids, Owns φ σ.heap id b)
  | [], ds, ids, us, e, _, rv => by
    simp only [toXs, Option.some.injEq, Prod.mk.injEq] at e
    obtain ⟨rfl, rfl⟩ := e
    simp only [VRels] at rv; subst rv
    exact ⟨[], by simp [reps], List.nodup_nil, by simp⟩
  | v :: vs, ds, ids, us, e, hnd, rv => by
    simp only [VRels] at rv
    obtain ⟨u, us', rfl, rv1, rv2⟩ := rv
    simp only [toXs] at e
    split at e
    · rename_i d i ds' is e1 e2
      simp only [Option.some.injEq, Prod.mk.injEq] at e
      obtain ⟨rfl, rfl⟩ := e
      rw [List.nodup_append] at hnd
      obtain ⟨F, f1, f2, f3, f4⟩ := toX_rel r e1 rv1
      obtain ⟨G, g1, g2, g3⟩ := toXs_rel r vs ds' is us' e2 hnd.2.1 rv2
      refine ⟨F ++ G, ?_, ?_, ?_⟩
      · simp only [reps]; exact ⟨u, us', F, G, rfl, rfl, f1, g1⟩
      · rw [List.nodup_append]
        refine ⟨f2, g2, fun x hx y hy hxy => ?_⟩
        subst hxy
        obtain ⟨p, p1, p2⟩ := f3 x hx
        obtain ⟨q, q1, q2⟩ := g3 x hy
        have := r.o1 p q x p2 q2
        exact hnd.2.2 p p1 q q1 this
      · intro b hb
        rcases List.mem_append.1 hb with hb | hb
        · obtain ⟨p, p1, p2⟩ := f3 b hb; exact ⟨p, by simp [p1], p2⟩
        · obtain ⟨p, p1, p2⟩ := g3 b hb; exact ⟨p, by simp [p1], p2⟩
    · cases e
end

theorem toX_ids {hs : List H} {id off len : Nat} {d : D} {ids : List Nat} (h : toX hs (.sl id off len) = some (d, ids)) : ids = [id] := by
  simp only [toX] at h
  split at h
  · split at h
    · simp only [Option.some.injEq, Prod.mk.injEq] at h; exact h.2.symm
    · cases h
  · simp only [toD] at h
    split at h
    · split at h
      · simp only [Option.some.injEq, Prod.mk.injEq] at h; exact h.2.symm
      · cases h
    · cases h

theorem toX_le {σ σ' : St} (hle : σ.le σ') {v : V} {r : D × List Nat} (h : toX σ.heap v = some r) : toX σ'.heap v = some r := by
  unfold toX at h ⊢
  split at h
  · rename_i id off len
    have hh := hle.2 id
    split at h
    · rename_i sz xs hx
      rcases hh with hh | hh
      · rw [hx] at hh; cases hh
      · simp only [hh, hx]; exact h
    · rename_i hne
      rcases hh with hh | hh
      · simp only [toD, hh] at h; cases h
      · have h2 := toD_le hle h
        rw [hh]
        split
        · rename_i hx; exact absurd hx (hne _ _)
        · exact h2
  · exact toD_le hle h

theorem toXs_le {σ σ' : St} (hle : σ.le σ') : ∀ (vs : List V) (r : List D × List Nat), toXs σ.heap vs = some r → toXs σ'.heap vs = some r
  | [], _, h => h
  | v :: vs, r, h => by
    simp only [toXs] at h ⊢
    split at h
    · rename_i d i ds' is e1 e2
      rw [toX_le hle e1, toXs_le hle vs _ e2]; exact h
    · cases h

def toOA (hs : List H) (v : V) : Option (AD × List Nat) :=
  match v with
  | .agg vs => (toXs hs vs).map fun (ds, ids) => (.agg ds, ids)
  | v => (toX hs v).map fun (d, ids) => (.one d, ids)

def toOAs (hs : List H) : List V → Option (List AD × List Nat)
  | [] => some ([], [])
  | v :: vs => match toOA hs v, toOAs hs vs with | some (d, i), some (ds, is) => some (d :: ds, i ++ is) | _, _ => none

section
variable {B : Nat → Prop} {w0 : World} {Dm : Nat → Prop} {φ : Phi} {kp : List (V × Value)} {a : Act} {w : World} {σ : St}

theorem toOA_rel (r : R B w0 Dm φ σ kp a w) {v : V} {d : AD} {ids : List Nat} (h : toOA σ.heap v = some (d, ids)) (hn : ids.Nodup) {u : Value} (ru : VRel φ (NotTop φ σ.heap) w.heap v u) :
    ∃ F, arep w.heap true d u F ∧ F.Nodup ∧ ∀ b ∈ F, ∃ id ∈ ids, Owns φ σ.heap id b := by
  unfold toOA at h
  split at h
  · rename_i vs
    cases hd : toXs σ.heap vs with
    | none => rw [hd] at h; cases h
    | some p =>
      obtain ⟨ds, is⟩ := p
      rw [hd] at h
      simp only [Option.map_some, Option.some.injEq, Prod.mk.injEq] at h
      obtain ⟨rfl, rfl⟩ := h
      obtain ⟨us, rfl, r1⟩ := rel_agg ru
      obtain ⟨G, g1, g2, g3⟩ := toXs_rel r vs ds is _ hd hn r1
      exact ⟨G, ⟨us, rfl, g1⟩, g2, g3⟩
  · cases hd : toX σ.heap v with
    | none => rw [hd] at h; cases h
    | some p =>
      obtain ⟨ds, is⟩ := p
      rw [hd] at h
      simp only [Option.map_some, Option.some.injEq, Prod.mk.injEq] at h
      obtain ⟨rfl, rfl⟩ := h
      obtain ⟨G, g1, g2, g3, _⟩ := toX_rel r hd ru
      exact ⟨G, g1, g2, g3⟩

theorem toOAs_rel (r : R B w0 Dm φ σ kp a w) : ∀ (vs : List V) (ds : List AD) (ids : List Nat) (us : List Value), toOAs σ.heap vs = some (ds, ids) → ids.Nodup → VRels φ (NotTop φ σ.heap) w.heap vs us →
    ∃ F, areps w.heap true ds us F ∧ F.Nodup ∧ ∀ b ∈ F, ∃ id ∈ ids, Owns φ σ.heap id b
  | [], ds, ids, us, e, _, rv => by
    simp only [toOAs, Option.some.injEq, Prod.mk.injEq] at e
    obtain ⟨rfl, rfl⟩ := e
    simp only [VRels] at rv; subst rv
    exact ⟨[], ⟨rfl, rfl⟩, List.nodup_nil, by simp⟩
  | v :: vs, ds, ids, us, e, hnd, rv => by
    simp only [VRels] at rv
    obtain ⟨u, us', rfl, rv1, rv2⟩ := rv
    simp only [toOAs] at e
    split at e
    · rename_i d i ds' is e1 e2
      simp only [Option.some.injEq, Prod.mk.injEq] at e
      obtain ⟨rfl, rfl⟩ := e
      rw [List.nodup_append] at hnd
      obtain ⟨F, f1, f2, f3⟩ := toOA_rel r e1 hnd.1 rv1
      obtain ⟨G, g1, g2, g3⟩ := toOAs_rel r vs ds' is us' e2 hnd.2.1 rv2
      refine ⟨F ++ G, ⟨u, us', F, G, rfl, rfl, f1, g1⟩, ?_, ?_⟩
      · rw [List.nodup_append]
        refine ⟨f2, g2, fun x hx y hy hxy => ?_⟩
        subst hxy
        obtain ⟨p, p1, p2⟩ := f3 x hx
        obtain ⟨q, q1, q2⟩ := g3 x hy
        exact hnd.2.2 p p1 q q1 (r.o1 p q x p2 q2)
      · intro b hb
        rcases List.mem_append.1 hb with hb | hb
        · obtain ⟨p, p1, p2⟩ := f3 b hb; exact ⟨p, by simp [p1], p2⟩
        · obtain ⟨p, p1, p2⟩ := g3 b hb; exact ⟨p, by simp [p1], p2⟩
    · cases e

end

theorem toOA_le {σ σ' : St} (hle : σ.le σ') {v : V} {r : AD × List Nat} (h : toOA σ.heap v = some r) : toOA σ'.heap v = some r := by
  unfold toOA at h ⊢
  split at h
  · rename_i vs
    cases hd : toXs σ.heap vs with
    | none => rw [hd] at h; cases h
    | some p => rw [hd] at h; rw [toXs_le hle vs p hd]; exact h
  · cases hd : toX σ.heap v with
    | none => rw [hd] at h; cases h
    | some p => rw [hd] at h; rw [toX_le hle hd]; exact h

theorem toOAs_le {σ σ' : St} (hle : σ.le σ') : ∀ (vs : List V) (r : List AD × List Nat), toOAs σ.heap vs = some r → toOAs σ'.heap vs = some r
  | [], r, h => h
  | v :: vs, r, h => by
    simp only [toOAs] at h ⊢
    split at h
    · rename_i d i ds is e1 e2
      rw [toOA_le hle e1, toOAs_le hle vs _ e2]; exact h
    · cases h

/-- A written entry: what it is now, where it lies now, its footprint before and after. -/
structure It1 where
  q : Nat × H
  β : Blk
  F : List Nat
  F' : List Nat

/-- What is known of a written entry. -/
structure UpdOK (σ' : St) (φ : Phi) (h' : Array Obj) (it : It1) : Prop where
  ow : ∀ b ∈ it.F, Owns φ σ'.heap it.q.1 b
  pl : ∃ β, φ it.q.1 = some β ∧ it.β.blk = β.blk ∧ it.β.off = β.off ∧ it.β.cap = β.cap ∧ it.β.sz = β.sz
  hr : ∀ φ T, HRel φ T h' it.β it.q.2
  fp : (it.F = [] ∧ it.F' = [] ∧ it.β.nest = []) ∨ ∃ b G, it.β.blk = some b ∧ it.F = b :: G ∧ it.F' = b :: it.β.nest
  live : (hget σ'.heap it.q.1).live = true
  kind : (it.q.2.shut = false ∧ it.β.nest = [] ∧ ∀ β, φ it.q.1 = some β → β.nest = []) ∨ (hget σ'.heap it.q.1).shut = true

section
variable {B : Nat → Prop} {w0 : World} {Dm : Nat → Prop} {φ : Phi} {kp : List (V × Value)} {a : Act} {w : World} {σ σ' : St}

/-- The footprints, one after the other. -/
def UpdL (σ' : St) (φ : Phi) (h' : Array Obj) (upd : List (Nat × H)) (F F' : List Nat) : Prop :=
  ∃ its : List It1, its.map It1.q = upd ∧ its.flatMap It1.F = F ∧ its.flatMap It1.F' = F' ∧ ∀ it ∈ its, UpdOK σ' φ h' it

theorem UpdL.nil : UpdL σ' φ w.heap [] [] [] := ⟨[], rfl, rfl, rfl, by simp⟩
theorem UpdL.append {h' : Array Obj} {u1 u2 : List (Nat × H)} {F1 F2 F1' F2' : List Nat} (h1 : UpdL σ' φ h' u1 F1 F1') (h2 : UpdL σ' φ h' u2 F2 F2') : UpdL σ' φ h' (u1 ++ u2) (F1 ++ F2) (F1' ++ F2') := by
  obtain ⟨i1, a1, a2, a3, a4⟩ := h1
  obtain ⟨i2, b1, b2, b3, b4⟩ := h2
  refine ⟨i1 ++ i2, by rw [List.map_append, a1, b1], by rw [List.flatMap_append, a2, b2], by rw [List.flatMap_append, a3, b3], fun it hit => ?_⟩
  rcases List.mem_append.1 hit with hit | hit
  · exact a4 it hit
  · exact b4 it hit

/-- What 'rep' says of a slice that is owned: its footprint begins with its block, or it has none. -/
theorem rep_own {h : Array Obj} {sz : Nat} {xs : List (List D)} {u : Value} {F : List Nat} (r : rep h true (.sl sz xs) u F) : ∃ a c, u = .slice a xs.length c ∧ xs.length ≤ c ∧
    ((c = 0 ∧ F = [] ∧ xs = []) ∨ ∃ b f G, 0 < c ∧ a = some ⟨b, f, none⟩ ∧ F = b :: G ∧ repE h true b f sz xs G) := by
  simp only [rep] at r
  obtain ⟨a, c, h1, h2, h3, h4⟩ := r
  refine ⟨a, c, h1, h2, ?_⟩
  rcases h4 with ⟨k1, k2, k3⟩ | ⟨b, f, G, k1, k2, k3, k4, k5⟩
  · exact .inl ⟨k3 trivial, k2, k1⟩
  · exact .inr ⟨b, f, G, (k5 trivial).1, k1, k2, k4⟩

theorem mutC_rel (hle : σ.le σ') (r : R B w0 Dm φ σ' kp a w) {w' : World} (hroom : ∀ b n, roomy w.heap b n → roomy w'.heap b n) {v : V} {d d' : D} {p : Prop} {upd : List (Nat × H)} {ids : List Nat} (h0 : toX σ'.heap v = some (d, ids)) (h : mutC σ.heap v d' = some (p, upd)) (hp : p) {u : Value} {F F' : List Nat}
    (ru : VRel φ (NotTop φ σ'.heap) w.heap v u) (rd : rep w.heap true d u F) (ru' : rep w'.heap true d' u F') : UpdL σ' φ w'.heap upd F F' := by
  unfold mutC at h
  split at h
  · rename_i id len sz' xs'
    have how : ∀ b ∈ F, Owns φ σ'.heap id b := by
      obtain ⟨F2, f1, f2, f3, _⟩ := toX_rel r h0 ru
      rw [rep_det _ _ _ _ rd f1, toX_ids h0] at *
      intro b hb
      obtain ⟨i, i1, i2⟩ := f3 b hb
      rw [List.mem_singleton.1 i1] at i2; exact i2
    have key : ∀ {sz : Nat} {xs : List (List D)}, (hget σ'.heap id).mine = some (sz, xs) → len = xs.length → sz' = sz → ∃ β β' : Blk, φ id = some β ∧ β'.blk = β.blk ∧ β'.off = β.off ∧ β'.cap = β.cap ∧ β'.sz = β.sz ∧ β.sz = sz ∧
        ((F = [] ∧ F' = [] ∧ β'.nest = []) ∨ ∃ b G, β'.blk = some b ∧ F = b :: G ∧ F' = b :: β'.nest) ∧
        ((β'.blk = none ∧ xs' = [] ∧ β'.cap = 0 ∧ β'.nest = []) ∨ ∃ b, β'.blk = some b ∧ xs'.length ≤ β'.cap ∧ roomy w'.heap b (β'.off + β'.cap * sz) ∧ repE w'.heap true b β'.off sz xs' β'.nest) := by
      intro sz xs hm p1 p2
      subst p2
      obtain ⟨β, ad, c, e1, e2, e3, e4, e5⟩ := rel_sl ru
      rcases r.hp id with hd | ⟨β0, k1, hr⟩
      · rw [hd] at hm; cases hm
      rw [e1] at k1; cases k1
      obtain ⟨hs, hr⟩ := mine_rel hm hr
      obtain ⟨a1, c1, q1, q2, q3⟩ := rep_own ru'
      rw [e2] at q1
      simp only [Value.slice.injEq] at q1
      obtain ⟨rfl, q0, rfl⟩ := q1
      have hF : (c = 0 ∧ F = []) ∨ ∃ b f G, 0 < c ∧ ad = some ⟨b, f, none⟩ ∧ F = b :: G := by
        cases d with
        | sl s ys =>
          obtain ⟨a2, c2, t1, t2, t3⟩ := rep_own rd
          rw [e2] at t1
          simp only [Value.slice.injEq] at t1
          obtain ⟨rfl, _, rfl⟩ := t1
          rcases t3 with t3 | ⟨b, f, G, t3, t4, t5, _⟩
          · exact .inl ⟨t3.1, t3.2.1⟩
          · exact .inr ⟨b, f, G, t3, t4, t5⟩
        | int k n => simp only [rep] at rd; rw [rd.1] at e2; cases e2
        | bool b => simp only [rep] at rd; rw [rd.1] at e2; cases e2
        | str s => simp only [rep] at rd; rw [rd.1] at e2; cases e2
      rcases q3 with ⟨q3, q4, q5⟩ | ⟨b, f, G', q3, q4, q5, q6⟩
      · subst q5
        refine ⟨β, { β with nest := [] }, e1, rfl, rfl, rfl, rfl, hs, .inl ⟨?_, q4, rfl⟩, ?_⟩
        · rcases hF with hF | ⟨b, f, G, hF, _⟩
          · exact hF.2
          · omega
        · rcases hr with hr | ⟨b, r1, r2, r3, r4⟩
          · exact .inl ⟨hr.1, rfl, hr.2.2.1, rfl⟩
          · exact .inr ⟨b, r1, by simp, hroom _ _ r3, by simp [repE]⟩
      · rcases hF with hF | ⟨b2, f2, G, hF1, hF2, hF3⟩
        · omega
        · rw [q4] at hF2; cases hF2
          rcases e5 with e5 | ⟨b3, e5, e6, e7⟩
          · omega
          · rw [q4] at e6
            simp only [Option.some.injEq, Addr.mk.injEq, Nat.zero_mul, Nat.add_zero] at e6
            obtain ⟨rfl, rfl, _⟩ := e6
            refine ⟨β, { β with nest := G' }, e1, rfl, rfl, rfl, rfl, hs, .inr ⟨b, G, e5, hF3, q5⟩, ?_⟩
            rcases hr with hr | ⟨b4, r1, r2, r3, r4⟩
            · rw [e5] at hr; cases hr.1
            · rw [e5] at r1; cases r1
              exact .inr ⟨b, e5, by show xs'.length ≤ β.cap; omega, hroom _ _ r3, q6⟩
    split at h
    · rename_i sz xs hx
      simp only [Option.some.injEq, Prod.mk.injEq] at h
      obtain ⟨rfl, rfl⟩ := h
      obtain ⟨p1, p2, p3, p4⟩ := hp
      have hx' : hget σ'.heap id = .arr sz xs true := by
        rcases hle.2 id with hh | hh
        · rw [hx] at hh; cases hh
        · rw [hh, hx]
      obtain ⟨β, β', k1, k2, k3, k4, k5, k6, k7, k8⟩ := key (by rw [hx']; rfl) p1 p3
      have hnest' : β'.nest = [] := by
        rcases k8 with k8 | ⟨b, _, _, _, k8⟩
        · exact k8.2.2.2
        · exact repE_flat _ _ _ _ p4 k8
      refine ⟨[⟨(id, .arr sz xs' true), β', F, F'⟩], rfl, by simp, by simp, fun it hit => ?_⟩
      simp only [List.mem_singleton] at hit; subst hit
      refine ⟨how, ⟨β, k1, k2, k3, k4, k5⟩, fun φ T => ?_, k7, by simp only [hx']; rfl, .inl ⟨rfl, hnest', fun β2 e => ?_⟩⟩
      · simp only [HRel]
        refine ⟨by rw [k5, k6], k8.imp (fun h => h) ?_⟩
        rintro ⟨b, m1, m2, m3, m4⟩
        exact ⟨b, _, m1, m2, m3, m4, fun _ => rfl, fun h => by cases h⟩
      · simp only at e
        rw [k1] at e; cases e
        rcases r.hp id with hd | ⟨β0, q1, hr⟩
        · rw [hx'] at hd; cases hd
        · rw [k1] at q1; cases q1
          obtain ⟨_, hr⟩ := mine_rel (by rw [hx']; rfl) hr
          rcases hr with hr | ⟨b, _, _, _, hr⟩
          · exact hr.2.2.2
          · exact repE_flat _ _ _ _ p2 hr
    · rename_i sz xs hx
      simp only [Option.some.injEq, Prod.mk.injEq] at h
      obtain ⟨rfl, rfl⟩ := h
      obtain ⟨p1, p3⟩ := hp
      have hx' : hget σ'.heap id = .cln sz xs := by
        rcases hle.2 id with hh | hh
        · rw [hx] at hh; cases hh
        · rw [hh, hx]
      obtain ⟨β, β', k1, k2, k3, k4, k5, k6, k7, k8⟩ := key (by rw [hx']; rfl) p1 p3
      refine ⟨[⟨(id, .cln sz xs'), β', F, F'⟩], rfl, by simp, by simp, fun it hit => ?_⟩
      simp only [List.mem_singleton] at hit; subst hit
      refine ⟨how, ⟨β, k1, k2, k3, k4, k5⟩, fun φ T => ?_, k7, by simp only [hx']; rfl, .inr (by simp only [hx']; rfl)⟩
      simp only [HRel]
      exact ⟨by rw [k5, k6], k8⟩
    · cases h
  · rename_i x
    simp only [Option.some.injEq, Prod.mk.injEq] at h
    obtain ⟨rfl, rfl⟩ := h
    have hne : ∀ s ys, d ≠ .sl s ys ∧ d' ≠ .sl s ys := by
      intro s ys
      simp only [VRel] at ru
      obtain ⟨F0, ru, _⟩ := ru
      constructor
      · rintro rfl
        obtain ⟨a1, c1, q1, _⟩ := rep_own rd
        rw [q1] at ru
        cases x <;> simp only [rep] at ru
        · cases ru.1
        · cases ru.1
        · cases ru.1
        · simp [D.flat] at hp
      · rintro rfl
        obtain ⟨a1, c1, q1, _⟩ := rep_own ru'
        rw [q1] at ru
        cases x <;> simp only [rep] at ru
        · cases ru.1
        · cases ru.1
        · cases ru.1
        · simp [D.flat] at hp
    have e1 : F = [] := by cases d <;> first | exact rep_flat rfl rd | exact absurd rfl (hne _ _).1
    have e2 : F' = [] := by cases d' <;> first | exact rep_flat rfl ru' | exact absurd rfl (hne _ _).2
    subst e1; subst e2
    exact ⟨[], rfl, rfl, rfl, by simp⟩
  · simp only [Option.some.injEq, Prod.mk.injEq] at h
    obtain ⟨rfl, rfl⟩ := h
    simp only [VRel] at ru
    subst ru
    have hz : ∀ {h : Array Obj} {d : D} {F : List Nat}, rep h true d (.slice none 0 0) F → F = [] := by
      intro h d F rd
      cases d with
      | sl s ys =>
        obtain ⟨a1, c1, q1, q2, q3⟩ := rep_own rd
        simp only [Value.slice.injEq] at q1
        rcases q3 with q3 | ⟨b, f, G, q3, _⟩
        · exact q3.2.1
        · omega
      | _ => exact rep_flat rfl rd
    have e1 := hz rd
    have e2 := hz ru'
    subst e1; subst e2
    exact ⟨[], rfl, rfl, rfl, by simp⟩
  · cases h

theorem mutCs_rel (hle : σ.le σ') (r : R B w0 Dm φ σ' kp a w) {w' : World} (hroom : ∀ b n, roomy w.heap b n → roomy w'.heap b n) : ∀ {vs : List V} {es ds : List D} {p : Prop} {upd : List (Nat × H)} {us : List Value} {F F' : List Nat} {ids : List Nat}, toXs σ'.heap vs = some (es, ids) → mutCs σ.heap vs ds = some (p, upd) → p →
    VRels φ (NotTop φ σ'.heap) w.heap vs us → reps w.heap true es us F → reps w'.heap true ds us F' → UpdL σ' φ w'.heap upd F F'
  | [], es, [], p, upd, us, F, F', _, _, h, _, rv, re, rd => by
    simp only [mutCs, Option.some.injEq, Prod.mk.injEq] at h; rw [← h.2]
    simp only [VRels] at rv; subst rv
    simp only [reps] at rd
    have hes : es = [] := by
      cases es with
      | nil => rfl
      | cons _ _ => simp only [reps] at re; obtain ⟨_, _, _, _, e, _⟩ := re; cases e
    subst hes
    simp only [reps] at re
    rw [re.2, rd.2]; exact ⟨[], rfl, rfl, rfl, by simp⟩
  | [], _, _ :: _, p, upd, us, F, F', _, _, h, _, _, _, _ => by simp [mutCs] at h
  | _ :: _, _, [], p, upd, us, F, F', _, _, h, _, _, _, _ => by simp [mutCs] at h
  | v :: vs, es, d :: ds, p, upd, us, F, F', _, h0, h, hp, rv, re, rd => by
    simp only [toXs] at h0
    split at h0
    case h_2 => cases h0
    rename_i d0 i0 ds0 is0 o1 o2
    simp only [Option.some.injEq, Prod.mk.injEq] at h0
    obtain ⟨rfl, _⟩ := h0
    simp only [mutCs] at h
    split at h
    · rename_i p1 u1 q1 us1 e1 e2
      simp only [Option.some.injEq, Prod.mk.injEq] at h
      obtain ⟨rfl, rfl⟩ := h
      simp only [VRels] at rv
      obtain ⟨u, us', rfl, rv1, rv2⟩ := rv
      simp only [reps] at rd
      obtain ⟨u', us2, F1, F2, e, rfl, rd1, rd2⟩ := rd
      cases e
      simp only [reps] at re
      obtain ⟨u', us2, G1, G2, e, rfl, re1, re2⟩ := re
      cases e
      exact (mutC_rel hle r hroom o1 e1 hp.1 rv1 re1 rd1).append (mutCs_rel hle r hroom o2 e2 hp.2 rv2 re2 rd2)
    · cases h

theorem mutA_rel (hle : σ.le σ') (r : R B w0 Dm φ σ' kp a w) {w' : World} (hroom : ∀ b n, roomy w.heap b n → roomy w'.heap b n) {v : V} {d d' : AD} {p : Prop} {upd : List (Nat × H)} {ids : List Nat} (h0 : toOA σ'.heap v = some (d, ids)) (h : mutA σ.heap v d' = some (p, upd)) (hp : p) {u : Value} {F F' : List Nat}
    (ru : VRel φ (NotTop φ σ'.heap) w.heap v u) (rd : arep w.heap true d u F) (ru' : arep w'.heap true d' u F') : UpdL σ' φ w'.heap upd F F' := by
  cases d' with
  | one e =>
    have h : mutC σ.heap v e = some (p, upd) := by cases v <;> exact h
    have h1 : ∃ d1, d = .one d1 ∧ toX σ'.heap v = some (d1, ids) := by
      cases v with
      | agg vs => simp [mutC] at h
      | _ =>
        simp only [toOA] at h0
        simp only [Option.map_eq_some_iff, Prod.mk.injEq] at h0
        obtain ⟨⟨d1, i1⟩, h2, rfl, rfl⟩ := h0
        exact ⟨d1, rfl, h2⟩
    obtain ⟨d1, rfl, h1⟩ := h1
    exact mutC_rel hle r hroom h1 h hp ru rd ru'
  | agg ds =>
    cases v with
    | agg vs =>
      have h : mutCs σ.heap vs ds = some (p, upd) := h
      obtain ⟨us, rfl, r1⟩ := rel_agg ru
      obtain ⟨us', e, r2⟩ := ru'
      cases e
      simp only [toOA] at h0
      simp only [Option.map_eq_some_iff, Prod.mk.injEq] at h0
      obtain ⟨⟨d1, i1⟩, h2, rfl, rfl⟩ := h0
      obtain ⟨us', e, r3⟩ := rd
      cases e
      exact mutCs_rel hle r hroom h2 h hp r1 r3 r2
    | _ => cases h

theorem mutAs_rel' (hle : σ.le σ') (r : R B w0 Dm φ σ' kp a w) {w' : World} (hroom : ∀ b n, roomy w.heap b n → roomy w'.heap b n) : ∀ {vs : List V} {es ds : List AD} {p : Prop} {upd : List (Nat × H)} {us : List Value} {F F' : List Nat} {ids : List Nat}, toOAs σ'.heap vs = some (es, ids) → mutAs σ.heap vs ds = some (p, upd) → p →
    VRels φ (NotTop φ σ'.heap) w.heap vs us → areps w.heap true es us F → areps w'.heap true ds us F' → UpdL σ' φ w'.heap upd F F'
  | [], es, [], p, upd, us, F, F', _, _, h, _, rv, re, rd => by
    simp only [mutAs, Option.some.injEq, Prod.mk.injEq] at h; rw [← h.2]
    simp only [VRels] at rv; subst rv
    simp only [areps] at rd
    have hes : es = [] := by
      cases es with
      | nil => rfl
      | cons _ _ => simp only [areps] at re; obtain ⟨_, _, _, _, e, _⟩ := re; cases e
    subst hes
    simp only [areps] at re
    rw [re.2, rd.2]; exact ⟨[], rfl, rfl, rfl, by simp⟩
  | [], _, _ :: _, p, upd, us, F, F', _, _, h, _, _, _, _ => by simp [mutAs] at h
  | _ :: _, _, [], p, upd, us, F, F', _, _, h, _, _, _, _ => by simp [mutAs] at h
  | v :: vs, es, d :: ds, p, upd, us, F, F', _, h0, h, hp, rv, re, rd => by
    simp only [toOAs] at h0
    split at h0
    case h_2 => cases h0
    rename_i d0 i0 ds0 is0 o1 o2
    simp only [Option.some.injEq, Prod.mk.injEq] at h0
    obtain ⟨rfl, _⟩ := h0
    simp only [mutAs] at h
    split at h
    · rename_i p1 u1 q1 us1 e1 e2
      simp only [Option.some.injEq, Prod.mk.injEq] at h
      obtain ⟨rfl, rfl⟩ := h
      simp only [VRels] at rv
      obtain ⟨u, us', rfl, rv1, rv2⟩ := rv
      simp only [areps] at rd
      obtain ⟨u', us2, F1, F2, e, rfl, rd1, rd2⟩ := rd
      cases e
      simp only [areps] at re
      obtain ⟨u', us2, G1, G2, e, rfl, re1, re2⟩ := re
      cases e
      exact (mutA_rel hle r hroom o1 e1 hp.1 rv1 re1 rd1).append (mutAs_rel' hle r hroom o2 e2 hp.2 rv2 re2 rd2)
    · cases h

theorem mutAs_rel (hle : σ.le σ') (r : R B w0 Dm φ σ' kp a w) {w' : World} (hroom : ∀ b n, roomy w.heap b n → roomy w'.heap b n) {vs : List V} {es ds : List AD} {p : Prop} {upd : List (Nat × H)} {us : List Value} {F F' : List Nat} {ids : List Nat} (h0 : toOAs σ'.heap vs = some (es, ids)) (h : mutAs σ.heap vs ds = some (p, upd)) (hp : p)
    (rv : VRels φ (NotTop φ σ'.heap) w.heap vs us) (re : areps w.heap true es us F) (rd : areps w'.heap true ds us F') : ∃ its : List It1, its.map It1.q = upd ∧ its.flatMap It1.F = F ∧ its.flatMap It1.F' = F' ∧ ∀ it ∈ its, UpdOK σ' φ w'.heap it :=
  mutAs_rel' hle r hroom h0 h hp rv re rd

theorem flatMap_inj {α : Type} (f : α → List Nat) : ∀ (l : List α), (l.flatMap f).Nodup → ∀ x ∈ l, ∀ y ∈ l, ∀ b, b ∈ f x → b ∈ f y → x = y
  | [], _, x, hx, _, _, _, _, _ => by cases hx
  | z :: l, hn, x, hx, y, hy, b, h1, h2 => by
    rw [List.flatMap_cons, List.nodup_append] at hn
    rcases List.mem_cons.1 hx with rfl | hx'
    · rcases List.mem_cons.1 hy with rfl | hy'
      · rfl
      · exact absurd rfl (hn.2.2 b h1 b (List.mem_flatMap.2 ⟨y, hy', h2⟩))
    · rcases List.mem_cons.1 hy with rfl | hy'
      · exact absurd rfl (hn.2.2 b h2 b (List.mem_flatMap.2 ⟨x, hx', h1⟩))
      · exact flatMap_inj f l hn.2.1 x hx' y hy' b h1 h2

theorem flatMap_nodup {α : Type} (f : α → List Nat) : ∀ (l : List α), (l.flatMap f).Nodup → ∀ x ∈ l, (f x).Nodup
  | [], _, x, hx => by cases hx
  | z :: l, hn, x, hx => by
    rw [List.flatMap_cons, List.nodup_append] at hn
    rcases List.mem_cons.1 hx with rfl | hx'
    · exact hn.1
    · exact flatMap_nodup f l hn.2.1 x hx'

theorem map_inj_of_nodup {α : Type} (f : α → Nat) : ∀ (l : List α), (l.map f).Nodup → ∀ x ∈ l, ∀ y ∈ l, f x = f y → x = y
  | [], _, x, hx, _, _, _ => by cases hx
  | z :: l, hn, x, hx, y, hy, e => by
    rw [List.map_cons, List.nodup_cons] at hn
    rcases List.mem_cons.1 hx with rfl | hx'
    · rcases List.mem_cons.1 hy with rfl | hy'
      · rfl
      · exact absurd (List.mem_map.2 ⟨y, hy', e.symm⟩) hn.1
    · rcases List.mem_cons.1 hy with rfl | hy'
      · exact absurd (List.mem_map.2 ⟨x, hx', e⟩) hn.1
      · exact map_inj_of_nodup f l hn.2 x hx' y hy' e

def phiIts (φ : Phi) (its : List It1) : Phi := fun i => match its.find? (fun it => it.q.1 == i) with | some it => some it.β | none => φ i

/-- The entries that a call wrote. -/
theorem R_mut (r : R B w0 Dm φ σ' kp a w) {w' : World} {F F' : List Nat} {its : List It1} (hb : Bel (fun b => b ∈ F ∨ w.heap.size ≤ b) w w') (hfF : its.flatMap It1.F = F) (hfF' : its.flatMap It1.F' = F') (hF : ∀ b ∈ F, ∃ it ∈ its, Owns φ σ'.heap it.q.1 b) (hids : (its.map fun it => it.q.1).Nodup)
    (hn : F'.Nodup) (hsub : ∀ b ∈ F', b ∈ F ∨ w.heap.size ≤ b) (hu : ∀ it ∈ its, UpdOK σ' φ w'.heap it) :
    ∃ φ', R B w0 Dm φ' ⟨σ'.tmps, hupd σ'.heap (its.map It1.q)⟩ kp a w' := by
  have hφin : ∀ it ∈ its, phiIts φ its it.q.1 = some it.β := by
    intro it hit
    unfold phiIts
    cases hf : its.find? (fun jt => jt.q.1 == it.q.1) with
    | none => rw [List.find?_eq_none] at hf; exact absurd (hf it hit) (by simp)
    | some jt =>
      have h1 := List.mem_of_find?_eq_some hf
      have h2 := List.find?_some hf
      have : jt = it := map_inj_of_nodup (fun it : It1 => it.q.1) its hids jt h1 it hit (by simpa using h2)
      rw [this]
  have hφout : ∀ i, (¬ ∃ it ∈ its, it.q.1 = i) → phiIts φ its i = φ i := by
    intro i hi
    unfold phiIts
    cases hf : its.find? (fun jt => jt.q.1 == i) with
    | none => rfl
    | some jt => exact absurd ⟨jt, List.mem_of_find?_eq_some hf, by simpa using List.find?_some hf⟩ hi
  have hin : ∀ it ∈ its, hget (hupd σ'.heap (its.map It1.q)) it.q.1 = it.q.2 := by
    intro it hit
    rcases hget_hupd (its.map It1.q) σ'.heap it.q.1 with ⟨x, h1, h2⟩ | ⟨h1, _⟩
    · obtain ⟨jt, j1, j2⟩ := List.mem_map.1 h1
      have : jt = it := map_inj_of_nodup (fun it : It1 => it.q.1) its hids jt j1 it hit (by simp only [j2])
      subst this
      rw [h2, j2]
    · exact absurd (List.mem_map.2 ⟨it, hit, rfl⟩) (h1 it.q.2)
  have hout : ∀ i, (¬ ∃ it ∈ its, it.q.1 = i) → hget (hupd σ'.heap (its.map It1.q)) i = hget σ'.heap i := by
    intro i hi
    rcases hget_hupd (its.map It1.q) σ'.heap i with ⟨x, h1, h2⟩ | ⟨_, h2⟩
    · obtain ⟨jt, j1, j2⟩ := List.mem_map.1 h1
      exact absurd ⟨jt, j1, by rw [j2]⟩ hi
    · exact h2
  have hFF : ∀ it ∈ its, ∀ b ∈ it.F, b ∈ F := fun it hit b hb' => by rw [← hfF]; exact List.mem_flatMap.2 ⟨it, hit, hb'⟩
  have hFF' : ∀ it ∈ its, ∀ b ∈ it.F', b ∈ F' := fun it hit b hb' => by rw [← hfF']; exact List.mem_flatMap.2 ⟨it, hit, hb'⟩
  have hnest : ∀ it ∈ its, ∀ b ∈ it.β.nest, b ∈ it.F' := by
    intro it hit b hb'
    rcases (hu it hit).fp with h | ⟨c, G, _, _, h⟩
    · rw [h.2.2] at hb'; cases hb'
    · rw [h]; simp [hb']
  -- owners in the new state
  have hown : ∀ it ∈ its, ∀ b, Owns (phiIts φ its) (hupd σ'.heap (its.map It1.q)) it.q.1 b → (it.β.blk = some b ∧ Owns φ σ'.heap it.q.1 b) ∨ b ∈ it.β.nest := by
    rintro it hit b ⟨β, e, h⟩
    rw [hφin it hit] at e; cases e
    rcases h with ⟨_, h⟩ | ⟨_, h⟩
    · obtain ⟨β, e, e1, _⟩ := (hu it hit).pl
      exact .inl ⟨h, β, e, .inl ⟨(hu it hit).live, by rw [← e1]; exact h⟩⟩
    · exact .inr h
  have hTF : ∀ b ∈ F, ∃ it ∈ its, ∃ β, φ it.q.1 = some β ∧ TopOf (hget σ'.heap it.q.1) β b := by
    intro b hb'
    obtain ⟨it, h1, β, e, h2⟩ := hF b hb'
    refine ⟨it, h1, β, e, ?_⟩
    rcases h2 with h2 | ⟨h2, h3⟩
    · exact .inl h2
    · rcases (hu it h1).kind with ⟨_, _, hk⟩ | hk
      · rw [hk β e] at h3; cases h3
      · exact .inr ⟨hk, h3⟩
  refine ⟨phiIts φ its, R_change r (fun i => ∃ it ∈ its, it.q.1 = i) Dm (phiIts φ its) _ w' (fun i hi => ⟨hout i hi, hφout i hi⟩) (fun i β e => ?_) hb.size (fun b hb' hne => hb.block b ?_) (fun i hi b ho => ?_) (fun i hi β' e b ht => ?_)
    (fun i j b hi hj h1 h2 => ?_) (fun i β hi e _ => ?_) (fun i hi => ?_) (fun i β e => ?_) (r.bel.trans (hb.mono fun k hk => ?_))⟩
  · by_cases hi : ∃ it ∈ its, it.q.1 = i
    · obtain ⟨it, h1, rfl⟩ := hi
      obtain ⟨β0, e0, e1, e2, e3, e4⟩ := (hu it h1).pl
      rw [e] at e0; cases e0
      exact ⟨it.β, hφin it h1, e1, e2, e3, e4⟩
    · exact ⟨β, by rw [hφout i hi]; exact e, rfl, rfl, rfl, rfl⟩
  · rintro (h | h)
    · obtain ⟨it, h1, β, e, h2⟩ := hTF b h
      exact hne it.q.1 ⟨it, h1, rfl⟩ β e h2
    · omega
  · obtain ⟨it, h1, rfl⟩ := hi
    rcases hown it h1 b ho with ⟨_, h2⟩ | h2
    · exact .inr ⟨it.q.1, ⟨it, h1, rfl⟩, h2⟩
    · rcases hsub b (hFF' it h1 b (hnest it h1 b h2)) with h3 | h3
      · obtain ⟨jt, j1, j2⟩ := hF b h3
        exact .inr ⟨jt.q.1, ⟨jt, j1, rfl⟩, j2⟩
      · exact .inl h3
  · obtain ⟨it, h1, rfl⟩ := hi
    rw [hφin it h1] at e; cases e
    rcases ht with ⟨_, h2⟩ | ⟨_, h2⟩
    · obtain ⟨β, e, e1, _⟩ := (hu it h1).pl
      exact .inr ⟨it.q.1, β, ⟨it, h1, rfl⟩, e, .inl ⟨(hu it h1).live, by rw [← e1]; exact h2⟩⟩
    · rcases hsub b (hFF' it h1 b (hnest it h1 b h2)) with h3 | h3
      · obtain ⟨jt, j1, β, e, j2⟩ := hTF b h3
        exact .inr ⟨jt.q.1, β, ⟨jt, j1, rfl⟩, e, j2⟩
      · exact .inl h3
  · obtain ⟨it, i1, rfl⟩ := hi
    obtain ⟨jt, j1, rfl⟩ := hj
    have cross : ∀ it ∈ its, ∀ jt ∈ its, it.β.blk = some b → Owns φ σ'.heap it.q.1 b → b ∈ jt.β.nest → it = jt := by
      intro it i1 jt j1 q1 q2 q3
      have hbF : b ∈ F := by
        rcases hsub b (hFF' jt j1 b (hnest jt j1 b q3)) with h3 | h3
        · exact h3
        · have := Owns.lt r q2; omega
      rw [← hfF] at hbF
      obtain ⟨kt, k1, k2⟩ := List.mem_flatMap.1 hbF
      obtain ⟨lt, l1, l2⟩ := hF b (hFF kt k1 b k2)
      have hlt : lt = it := map_inj_of_nodup (fun it : It1 => it.q.1) its hids lt l1 it i1 (r.o1 _ _ b l2 q2)
      subst hlt
      have hk : kt = lt := map_inj_of_nodup (fun it : It1 => it.q.1) its hids kt k1 lt l1 (r.o1 _ _ b ((hu kt k1).ow b k2) l2)
      subst hk
      refine flatMap_inj It1.F' its (by rw [hfF']; exact hn) kt l1 jt j1 b ?_ (hnest jt j1 b q3)
      rcases (hu kt l1).fp with h | ⟨c, G, c1, c2, c3⟩
      · rw [h.1] at k2; cases k2
      · rw [c1] at q1; cases q1; rw [c3]; simp
    rcases hown it i1 b h1 with ⟨a1, a2⟩ | a2
    · rcases hown jt j1 b h2 with ⟨b1, b2⟩ | b2
      · exact r.o1 _ _ b a2 b2
      · rw [cross it i1 jt j1 a1 a2 b2]
    · rcases hown jt j1 b h2 with ⟨b1, b2⟩ | b2
      · rw [cross jt j1 it i1 b1 b2 a2]
      · rw [flatMap_inj It1.F' its (by rw [hfF']; exact hn) it i1 jt j1 b (hnest it i1 b a2) (hnest jt j1 b b2)]
  · obtain ⟨it, i1, rfl⟩ := hi
    rw [hφin it i1] at e; cases e
    have hnd := flatMap_nodup It1.F' its (by rw [hfF']; exact hn) it i1
    rcases (hu it i1).fp with h | ⟨c, G, c1, c2, c3⟩
    · rw [h.2.2]; exact ⟨List.nodup_nil, fun _ _ h => by cases h⟩
    · rw [c3] at hnd
      obtain ⟨n1, n2⟩ := List.nodup_cons.1 hnd
      refine ⟨n2, fun b hb' => ?_⟩
      rw [c1] at hb'; cases hb'; exact n1
  · obtain ⟨it, i1, rfl⟩ := hi
    right
    exact ⟨it.β, hφin it i1, by rw [hin it i1]; exact (hu it i1).hr _ _⟩
  · by_cases hi : ∃ it ∈ its, it.q.1 = i
    · obtain ⟨it, i1, rfl⟩ := hi
      obtain ⟨β0, e0, _⟩ := (hu it i1).pl
      exact r.dm _ β0 e0
    · rw [hφout i hi] at e; exact r.dm i β e
  · rcases hk with hk | hk
    · obtain ⟨it, _, h⟩ := hF k hk
      exact r.o3 _ k h
    · exact r.bs k hk
end

variable {P : Program} {o : Oper} {g : Bool} {σ : St} {n : Nat} {K : Res → Prop}

/-- A call of a function that writes what it is handed. -/
theorem ok_mutcall {c : Call} {f : FuncId} {xs : Array Operand} {ts : Array TypeId} (ho : o.op = .call c) {x : Operand} (hc : c = { callee := .value x, args := xs, argTypes := ts }) (hf : ∀ {σ' : St} {B : Nat → Prop} {w0 : World} {Dm : Nat → Prop} {φ : Phi} {kp : List (V × Value)} {a : Act} {w : World}, σ.le σ' → R B w0 Dm φ σ' kp a w → g = true → a.eval x = .func (.func f) #[] #[]) {vs : List V}
    (hx : ∀ {σ' : St} {B : Nat → Prop} {w0 : World} {Dm : Nat → Prop} {φ : Phi} {kp : List (V × Value)} {a : Act} {w : World}, σ.le σ' → R B w0 Dm φ σ' kp a w → g = true → VRels φ (NotTop φ σ'.heap) w.heap vs (xs.toList.map a.eval))
    {as as' rs : List AD} {ids : List Nat} {p : Prop} {upd : List (Nat × H)} (h1 : toOAs σ.heap vs = some (as, ids)) (h2 : ids.Nodup) (h3 : MutCall P f as as' rs) (h4 : mutAs σ.heap vs as' = some (p, upd)) (hp : p) (h5 : aHs rs = []) (h6 : upd.map (·.1) = ids) : OpOK P o g σ n ⟨tV rs n, [], upd⟩ := by
  subst hc
  intro σ' hle _ B w0 Dm φ kp a w hDm hR hg Q1 Q2 hk
  have hv := hx hle hR hg
  obtain ⟨F, hF, hFn, hFo⟩ := toOAs_rel hR vs as ids _ (toOAs_le hle vs _ h1) h2 hv
  have hcall := h3 w _ F hR.gok (fun p hp hm => by
    obtain ⟨id, _, i2⟩ := hFo _ hm
    exact hR.gb.1 p hp (hR.o3 _ _ i2)) hF hFn
  unfold Oper.wp
  have hrun : (execOp a.eval o).run P w = (callFunc f (xs.map a.eval)).run P w := by
    unfold execOp; rw [ho]
    have hfx := hf hle hR hg
    simp [resolve, hfx, Deferred.ofValue, invoke]
  rw [hrun]
  have hxs : (xs.toList.map a.eval).toArray = xs.map a.eval := by rw [← Array.toList_map, Array.toArray_toList]
  rw [hxs] at hcall
  have fin : ∀ v w', (∃ F', Bel (fun b => b ∈ F ∨ w.heap.size ≤ b) w w' ∧ areps w'.heap true as' (xs.toList.map a.eval) F' ∧ F'.Nodup ∧ (∀ b ∈ F', b ∈ F ∨ w.heap.size ≤ b) ∧ trep w'.heap true rs v []) → Q1 (a.put o.dst v) w' := by
    rintro v w' ⟨F', e1, e2, e4, e5, e3⟩
    obtain ⟨its, t1, t2, t3, t4⟩ := mutAs_rel hle hR e1.room (toOAs_le hle vs _ h1) h4 hp hv hF e2
    have hR' := R_mut hR e1 (its := its) t2 t3 (fun b hb => by
      obtain ⟨id, i1, i2⟩ := hFo b hb
      rw [← h6, ← t1, List.map_map] at i1
      obtain ⟨it, it1, it2⟩ := List.mem_map.1 i1
      exact ⟨it, it1, by rw [← it2] at i2; exact i2⟩) (by rw [← t1, List.map_map] at h6; have : its.map (fun it => it.q.1) = ids := h6; rw [this]; exact h2) e4 e5 t4
    rw [t1] at hR'
    obtain ⟨φ', hR'⟩ := hR'
    obtain ⟨bl, l1, l2⟩ := tV_rel e3
    have hbl : bl = [] := List.eq_nil_of_length_eq_zero (by rw [l1.1, h5]; rfl)
    subst hbl
    have := R_put hR' o.dst (l2 φ' n _ (fun i β e => by simp at e))
    exact hk v w' φ' (R_dm this fun i h => .inl h)
  unfold Does at hcall
  split at hcall
  · rename_i h1; rw [h1, Oper.upon_enter]
    refine Calls.mono hcall fun e w' he => ?_
    cases e with
    | returned v => exact fin v w' he
    | panicked c => exact he.elim
    | outgrown => exact he.elim
  · rename_i h1; rw [h1, Oper.upon_value]; exact fin _ _ hcall
  · rename_i h1; rw [h1, Oper.upon_row]; exact Rows.mono hcall fin
  · exact hcall.elim


/-! ### Functions that consume their arguments: what they hand back may lie in their memory -/

def ConsCall (P : Program) (f : FuncId) (args res : List AD) : Prop :=
  ∀ (w : World) (us : List Value) (F : List Nat), GOk w.heap → (∀ p ∈ globs, p.1 ∉ F) → areps w.heap true args us F → F.Nodup → Does P f us.toArray w fun v w' =>
    ∃ F', Bel (fun b => b ∈ F ∨ w.heap.size ≤ b) w w' ∧ trep w'.heap true res v F' ∧ F'.Nodup ∧ ∀ b ∈ F', b ∈ F ∨ w.heap.size ≤ b

/-- Nothing is owned but the arrays' own blocks; or nobody looks in. -/
def flatIds (hs : List H) : List Nat → Prop
  | [] => True
  | i :: r => (match hget hs i with | .arr _ xs true => flatE xs = true | .cln _ _ => True | _ => False) ∧ flatIds hs r

theorem flatIds_mem {hs : List H} : ∀ {ids : List Nat}, flatIds hs ids → ∀ i ∈ ids, (∃ s xs, hget hs i = .arr s xs true ∧ flatE xs = true) ∨ ∃ s xs, hget hs i = .cln s xs
  | [], _, i, hi => by cases hi
  | j :: r, h, i, hi => by
    simp only [flatIds] at h
    rcases List.mem_cons.1 hi with rfl | hi
    · have h1 := h.1
      split at h1
      · rename_i s xs e; exact .inl ⟨s, xs, e, h1⟩
      · rename_i s xs e; exact .inr ⟨s, xs, e⟩
      · exact h1.elim
    · exact flatIds_mem h.2 i hi

theorem flatIds_le {σ σ' : St} (hle : σ.le σ') : ∀ {ids : List Nat}, flatIds σ.heap ids → flatIds σ'.heap ids
  | [], _ => trivial
  | j :: r, h => by
    simp only [flatIds] at h ⊢
    refine ⟨?_, flatIds_le hle h.2⟩
    rcases hle.2 j with h1 | h1
    · have h2 := h.1; rw [h1] at h2; exact h2.elim
    · rw [h1]; exact h.1

section
variable {B : Nat → Prop} {w0 : World} {Dm : Nat → Prop} {φ : Phi} {kp : List (V × Value)} {a : Act} {w : World} {σ : St}

theorem flatIds_top (r : R B w0 Dm φ σ kp a w) {i : Nat} (h : (∃ s xs, hget σ.heap i = .arr s xs true ∧ flatE xs = true) ∨ ∃ s xs, hget σ.heap i = .cln s xs) {b : Nat} (ho : Owns φ σ.heap i b) : ∃ β, φ i = some β ∧ TopOf (hget σ.heap i) β b := by
  obtain ⟨β, e, ho⟩ := ho
  refine ⟨β, e, ?_⟩
  rcases ho with ho | ⟨ho1, ho2⟩
  · exact .inl ho
  · rcases h with ⟨s, xs, h1, h2⟩ | ⟨s, xs, h1⟩
    · rcases r.hp i with h3 | ⟨β', e', h3⟩
      · rw [h1] at h3; cases h3
      · rw [e] at e'; cases e'
        rw [h1] at h3
        simp only [HRel] at h3
        rcases h3.2 with h4 | ⟨b', G, _, _, _, h4, h5, _⟩
        · rw [h4.2.2.2] at ho2; cases ho2
        · have := repE_flat _ _ _ _ h2 h4
          rw [← h5 trivial, this] at ho2; cases ho2
    · exact .inr ⟨by rw [h1]; rfl, ho2⟩

theorem R_cons (r : R B w0 Dm φ σ kp a w) {n : Nat} {bl : List Blk} {hs : List H} {F F' ids : List Nat} {w' : World} (hn : ∀ i, n ≤ i → i < n + hs.length → ¬ Dm i)
    (hb : Bel (fun b => b ∈ F ∨ w.heap.size ≤ b) w w') (hl : bl.length = hs.length ∧ bl.flatMap foot = F' ∧ (∀ (i : Nat) (β : Blk) (x : H), bl[i]? = some β → hs[i]? = some x → ∀ φ T, HRel φ T w'.heap β x)) (hnd : F'.Nodup) (hnew : ∀ b ∈ F', b ∈ F ∨ w.heap.size ≤ b)
    (hF : ∀ b ∈ F, ∃ id ∈ ids, Owns φ σ.heap id b) (hfl : flatIds σ.heap ids) :
    ∃ φ', At φ' n bl ∧ R B w0 (fun i => Dm i ∨ (n ≤ i ∧ i < n + hs.length)) φ' ⟨σ.tmps, hupd (Gv.hnew σ.heap n hs) (ids.map fun i => (i, H.dead))⟩ kp a w' := by
  obtain ⟨l1, l2, l3⟩ := hl
  have hfl' := flatIds_mem hfl
  have hdm : ∀ i ∈ ids, ¬ (n ≤ i ∧ i < n + hs.length) := by
    intro i hi h
    rcases r.hp i with h3 | ⟨β, e, _⟩
    · rcases hfl' i hi with ⟨s, xs, h1, _⟩ | ⟨s, xs, h1⟩ <;> rw [h1] at h3 <;> cases h3
    · exact hn i h.1 h.2 (r.dm i β e)
  have hφ : ∀ i, n ≤ i → i < n + hs.length → φ i = none := fun i h1 h2 => by
    cases h : φ i with
    | none => rfl
    | some β => exact absurd (r.dm i β h) (hn i h1 h2)
  let φ' : Phi := fun i => if n ≤ i ∧ i < n + hs.length then bl[i - n]? else φ i
  have hin : ∀ i, n ≤ i ∧ i < n + hs.length → φ' i = bl[i - n]? := fun i h => if_pos h
  have hout : ∀ i, ¬ (n ≤ i ∧ i < n + hs.length) → φ' i = φ i := fun i h => if_neg h
  have hdead : ∀ i ∈ ids, hget (hupd (Gv.hnew σ.heap n hs) (ids.map fun i => (i, H.dead))) i = .dead := by
    intro i hi
    rcases hget_hupd (ids.map fun i => (i, H.dead)) (Gv.hnew σ.heap n hs) i with ⟨x, h1, h2⟩ | ⟨h1, _⟩
    · obtain ⟨j, _, j2⟩ := List.mem_map.1 h1
      cases j2; exact h2
    · exact absurd (List.mem_map.2 ⟨i, hi, rfl⟩) (h1 _)
  have hkeep : ∀ i, i ∉ ids → hget (hupd (Gv.hnew σ.heap n hs) (ids.map fun i => (i, H.dead))) i = hget (Gv.hnew σ.heap n hs) i := by
    intro i hi
    rcases hget_hupd (ids.map fun i => (i, H.dead)) (Gv.hnew σ.heap n hs) i with ⟨x, h1, h2⟩ | ⟨_, h2⟩
    · obtain ⟨j, j1, j2⟩ := List.mem_map.1 h1
      cases j2; exact absurd j1 hi
    · exact h2
  have hgi : ∀ i, n ≤ i ∧ i < n + hs.length → ∃ x, hs[i - n]? = some x ∧ hget (hupd (Gv.hnew σ.heap n hs) (ids.map fun i => (i, H.dead))) i = x := by
    intro i h
    have hlt : i - n < hs.length := by omega
    refine ⟨hs[i - n], List.getElem?_eq_getElem hlt, ?_⟩
    rw [hkeep i fun hi => hdm i hi h, hget_hnew, if_pos h, List.getD_eq_getElem?_getD, List.getElem?_eq_getElem hlt]; rfl
  have hgo : ∀ i, ¬ ((n ≤ i ∧ i < n + hs.length) ∨ i ∈ ids) → hget (hupd (Gv.hnew σ.heap n hs) (ids.map fun i => (i, H.dead))) i = hget σ.heap i := fun i h => by
    rw [hkeep i fun hi => h (.inr hi), hget_hnew, if_neg fun hi => h (.inl hi)]
  have hnod : ∀ i ∈ ids, ∀ b, ¬ Owns φ' (hupd (Gv.hnew σ.heap n hs) (ids.map fun i => (i, H.dead))) i b := by
    rintro i hi b ⟨β, _, h⟩
    rw [hdead i hi] at h
    rcases h with ⟨h, _⟩ | ⟨h, _⟩ <;> cases h
  have hown : ∀ i, n ≤ i ∧ i < n + hs.length → ∀ b, Owns φ' (hupd (Gv.hnew σ.heap n hs) (ids.map fun i => (i, H.dead))) i b → ∃ β, bl[i - n]? = some β ∧ b ∈ foot β := by
    rintro i h b ⟨β, e1, e2⟩
    rw [hin i h] at e1
    refine ⟨β, e1, ?_⟩
    unfold foot
    rcases e2 with ⟨_, e2⟩ | ⟨_, e2⟩
    · simp [e2]
    · simp [e2]
  have hbF : ∀ (i : Nat) (β : Blk) (b : Nat), bl[i]? = some β → b ∈ foot β → b ∈ F ∨ w.heap.size ≤ b := fun i β b h1 h2 => hnew b (by rw [← l2]; exact List.mem_flatMap.2 ⟨β, List.mem_of_getElem? h1, h2⟩)
  have hTF : ∀ b ∈ F, ∃ id ∈ ids, ∃ β, φ id = some β ∧ TopOf (hget σ.heap id) β b := by
    intro b hb'
    obtain ⟨id, h1, h2⟩ := hF b hb'
    exact ⟨id, h1, flatIds_top r (hfl' id h1) h2⟩
  refine ⟨φ', fun i β hi => ?_, R_change r (fun i => (n ≤ i ∧ i < n + hs.length) ∨ i ∈ ids) _ φ' _ w' (fun i hi => ⟨hgo i hi, hout i fun h => hi (.inl h)⟩) (fun i β hi => ?_) hb.size (fun b hb' hne => hb.block b ?_) (fun i hi b ho => ?_) (fun i hi β' h1 b h2 => ?_)
    (fun i j b hi hj h1 h2 => ?_) (fun i β hi h1 ho => ?_) (fun i hi => ?_) (fun i β hi => ?_) (r.bel.trans (hb.mono fun k hk => ?_))⟩
  · have hlt : i < bl.length := by
      rcases Nat.lt_or_ge i bl.length with h | h
      · exact h
      · rw [List.getElem?_eq_none h] at hi; cases hi
    rw [hin (n + i) ⟨by omega, by omega⟩, Nat.add_sub_cancel_left]; exact hi
  · by_cases h : n ≤ i ∧ i < n + hs.length
    · rw [hφ i h.1 h.2] at hi; cases hi
    · exact ⟨β, by rw [hout i h]; exact hi, rfl, rfl, rfl, rfl⟩
  · rintro (h | h)
    · obtain ⟨id, h1, β, e, h2⟩ := hTF b h
      exact hne id (.inr h1) β e h2
    · omega
  · rcases hi with hi | hi
    · obtain ⟨β, e1, e2⟩ := hown i hi b ho
      rcases hbF _ β b e1 e2 with h | h
      · obtain ⟨id, i1, i2⟩ := hF b h
        exact .inr ⟨id, .inr i1, i2⟩
      · exact .inl h
    · exact absurd ho (hnod i hi b)
  · rcases hi with hi | hi
    · obtain ⟨β, e1, e2⟩ := hown i hi b (TopOf.owns h1 h2)
      rcases hbF _ β b e1 e2 with h | h
      · obtain ⟨id, i1, β, i2, i3⟩ := hTF b h
        exact .inr ⟨id, β, .inr i1, i2, i3⟩
      · exact .inl h
    · exact absurd (TopOf.owns h1 h2) (hnod i hi b)
  · rcases hi with hi | hi
    · rcases hj with hj | hj
      · obtain ⟨β, e1, e2⟩ := hown i hi b h1
        obtain ⟨γ, f1, f2⟩ := hown j hj b h2
        have := flat_inj bl l2 hnd _ _ β γ b e1 f1 e2 f2
        omega
      · exact absurd h2 (hnod j hj b)
    · exact absurd h1 (hnod i hi b)
  · rcases hi with hi | hi
    · rw [hin i hi] at h1
      have := flat_nodup bl l2 hnd β (List.mem_of_getElem? h1)
      unfold foot at this
      rw [List.nodup_append] at this
      refine ⟨this.2.1, fun b hb' hb2 => this.2.2 b (by simp [hb']) b hb2 rfl⟩
    · rw [hdead i hi] at ho; cases ho
  · rcases hi with hi | hi
    · right
      obtain ⟨x, h1, h2⟩ := hgi i hi
      have hlt : i - n < bl.length := by omega
      refine ⟨bl[i - n], by rw [hin i hi]; exact List.getElem?_eq_getElem hlt, ?_⟩
      rw [h2]
      exact l3 _ _ _ (List.getElem?_eq_getElem hlt) h1 _ _
    · exact .inl (hdead i hi)
  · by_cases h : n ≤ i ∧ i < n + hs.length
    · exact .inr h
    · rw [hout i h] at hi; exact .inl (r.dm i β hi)
  · rcases hk with hk | hk
    · obtain ⟨id, _, h⟩ := hF k hk
      exact r.o3 _ k h
    · exact r.bs k hk
end

section
variable {P : Program} {o : Oper} {g : Bool} {σ : St} {n : Nat} {K : Res → Prop}

theorem ok_conscall {c : Call} {f : FuncId} {xs : Array Operand} {ts : Array TypeId} (ho : o.op = .call c) {x : Operand} (hc : c = { callee := .value x, args := xs, argTypes := ts }) (hf : ∀ {σ' : St} {B : Nat → Prop} {w0 : World} {Dm : Nat → Prop} {φ : Phi} {kp : List (V × Value)} {a : Act} {w : World}, σ.le σ' → R B w0 Dm φ σ' kp a w → g = true → a.eval x = .func (.func f) #[] #[]) {vs : List V}
    (hx : ∀ {σ' : St} {B : Nat → Prop} {w0 : World} {Dm : Nat → Prop} {φ : Phi} {kp : List (V × Value)} {a : Act} {w : World}, σ.le σ' → R B w0 Dm φ σ' kp a w → g = true → VRels φ (NotTop φ σ'.heap) w.heap vs (xs.toList.map a.eval))
    {as rs : List AD} {ids : List Nat} (h1 : toOAs σ.heap vs = some (as, ids)) (h2 : ids.Nodup) (h3 : ConsCall P f as rs) (h4 : flatIds σ.heap ids) : OpOK P o g σ n ⟨tV rs n, aHs rs, ids.map fun i => (i, .dead)⟩ := by
  subst hc
  intro σ' hle _ B w0 Dm φ kp a w hDm hR hg Q1 Q2 hk
  have hv := hx hle hR hg
  obtain ⟨F, hF, hFn, hFo⟩ := toOAs_rel hR vs as ids _ (toOAs_le hle vs _ h1) h2 hv
  have hcall := h3 w _ F hR.gok (fun p hp hm => by
    obtain ⟨id, _, i2⟩ := hFo _ hm
    exact hR.gb.1 p hp (hR.o3 _ _ i2)) hF hFn
  unfold Oper.wp
  have hrun : (execOp a.eval o).run P w = (callFunc f (xs.map a.eval)).run P w := by
    unfold execOp; rw [ho]
    have hfx := hf hle hR hg
    simp [resolve, hfx, Deferred.ofValue, invoke]
  rw [hrun]
  have hxs : (xs.toList.map a.eval).toArray = xs.map a.eval := by rw [← Array.toList_map, Array.toArray_toList]
  rw [hxs] at hcall
  have fin : ∀ v w', (∃ F', Bel (fun b => b ∈ F ∨ w.heap.size ≤ b) w w' ∧ trep w'.heap true rs v F' ∧ F'.Nodup ∧ ∀ b ∈ F', b ∈ F ∨ w.heap.size ≤ b) → Q1 (a.put o.dst v) w' := by
    rintro v w' ⟨F', e1, e2, e3, e4⟩
    obtain ⟨bl, l1, l2⟩ := tV_rel e2
    obtain ⟨φ', hA, hR'⟩ := R_cons hR hDm e1 ⟨l1.1, l1.2.1, l1.2.2.1⟩ e3 e4 hFo (flatIds_le hle h4)
    exact hk v w' φ' (R_put hR' o.dst (l2 φ' n _ hA))
  unfold Does at hcall
  split at hcall
  · rename_i h1; rw [h1, Oper.upon_enter]
    refine Calls.mono hcall fun e w' he => ?_
    cases e with
    | returned v => exact fin v w' he
    | panicked c => exact he.elim
    | outgrown => exact he.elim
  · rename_i h1; rw [h1, Oper.upon_value]; exact fin _ _ hcall
  · rename_i h1; rw [h1, Oper.upon_row]; exact Rows.mono hcall fin
  · exact hcall.elim
end

end Gv
