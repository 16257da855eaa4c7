/-
  Calls of functions whose law is known: what they take, what they give, as data.
-/
import Derived.Test.YtgflikakblfdpaaGvMake
namespace Gv
open Go

/-- What is handed over: a cell, or a struct of cells. -/
inductive AD where
  | one (d : D)
  | agg (ds : List D)

def arep (h : Array Obj) (o : Bool) : AD → Value → List Nat → Prop
  | .one d, u, F => rep h o d u F
  | .agg ds, u, F => ∃ us : Array Value, u = .agg us ∧ reps h o ds us.toList F

def areps (h : Array Obj) (o : Bool) : List AD → List Value → List Nat → Prop
  | [], us, F => us = [] ∧ F = []
  | a :: as, us, F => ∃ u us' F1 F2, us = u :: us' ∧ F = F1 ++ F2 ∧ arep h o a u F1 ∧ areps h o as us' F2

def trep (h : Array Obj) (o : Bool) (rs : List AD) (v : Value) (F : List Nat) : Prop :=
  match rs with
  | [r] => arep h o r v F
  | rs => ∃ us : Array Value, v = .tuple us ∧ areps h o rs us.toList F

/-- What calling f leads to. -/
def Does (P : Program) (f : FuncId) (us : Array Value) (w : World) (R : Value → World → Prop) : Prop :=
  match (callFunc f us).run P w with
  | .ok (.enter g as) w' => Calls P g as w' fun e w'' => match e with | .returned v => R v w'' | _ => False
  | .ok (.value v) w' => R v w'
  | .ok (.row row as) w' => Rows P row as w' R
  | _ => False

theorem Does.mono {P : Program} {f : FuncId} {us : Array Value} {w : World} {R R' : Value → World → Prop} (h : Does P f us w R) (hr : ∀ v w', R v w' → R' v w') : Does P f us w R' := by
  unfold Does at *
  split at h
  · exact Calls.mono h fun e w'' he => by cases e <;> first | exact hr _ _ he | exact he.elim
  · exact hr _ _ h
  · exact Rows.mono h hr
  · exact h.elim

/-- A function with a body. -/
theorem Does.enter {P : Program} {f : FuncId} {us : Array Value} {w : World} {R : Value → World → Prop} (hrun : (callFunc f us).run P w = .ok (.enter f us) w)
    (h : Calls P f us w fun e w' => match e with | .returned v => R v w' | _ => False) : Does P f us w R := by
  unfold Does
  rw [hrun]; exact h

/-- THE LAW OF A FUNCTION that reads its arguments, changes nothing that was there, and gives new memory. -/
def PureCall (P : Program) (f : FuncId) (args res : List AD) : Prop :=
  ∀ (w : World) (us : List Value) (F : List Nat), GOk w.heap → areps w.heap false args us F → Does P f us.toArray w fun v w' =>
    ∃ F', Bel (fun b => w.heap.size ≤ b) w w' ∧ trep w'.heap true res v F' ∧ F'.Nodup ∧ ∀ b ∈ F', w.heap.size ≤ b

/-! ### Arguments -/

def toRD (hs : List H) (v : V) : Option D :=
  match v with
  | .d x => some x
  | .nils s => some (.sl s [])
  | .sl id off len => match elsOf hs (.sl id off len) with | some (sz, xs) => some (.sl sz xs) | none => none
  | _ => none

def toRDs (hs : List H) : List V → Option (List D)
  | [] => some []
  | v :: vs => match toRD hs v, toRDs hs vs with | some d, some ds => some (d :: ds) | _, _ => none

def toAD (hs : List H) (v : V) : Option AD :=
  match v with
  | .agg vs => (toRDs hs vs).map .agg
  | v => (toRD hs v).map .one

def toADs (hs : List H) : List V → Option (List AD)
  | [] => some []
  | v :: vs => match toAD hs v, toADs hs vs with | some d, some ds => some (d :: ds) | _, _ => none

section
variable {B : Nat → Prop} {w0 : World} {Dm : Nat → Prop} {φ : Phi} {kp : List (V × Value)} {a : Act} {w : World} {σ σ' : St}

theorem toRD_rel (hle : σ.le σ') (r : R B w0 Dm φ σ' kp a w) {v : V} {d : D} (h : toRD σ.heap v = some d) {u : Value} (ru : VRel φ (NotTop φ σ'.heap) w.heap v u) : ∃ F, rep w.heap false d u F := by
  unfold toRD at h
  split at h
  · cases h
    simp only [VRel] at ru
    obtain ⟨F, r1, _⟩ := ru
    exact ⟨F, r1⟩
  · cases h
    simp only [VRel] at ru
    subst ru
    exact ⟨[], none, 0, rfl, by simp, by decide, .inl ⟨rfl, rfl, fun e => by cases e⟩⟩
  · rename_i id off len
    split at h
    · rename_i sz xs hel
      cases h
      obtain ⟨ad, c, e1, e2, e3, e4⟩ := elsOf_rel hle r hel ru
      simp only [rep]
      rcases e4 with e4 | ⟨b, f, G, e4, e5, e6, e7⟩
      · exact ⟨[], ad, c, e1, e2, e3, .inl ⟨e4, rfl, fun e => by cases e⟩⟩
      · exact ⟨b :: G, ad, c, e1, e2, e3, .inr ⟨b, f, G, e4, rfl, e5, e6, fun e => by cases e⟩⟩
    · cases h
  · cases h

theorem toRDs_rel (hle : σ.le σ') (r : R B w0 Dm φ σ' kp a w) : ∀ (vs : List V) (ds : List D) (us : List Value), toRDs σ.heap vs = some ds → VRels φ (NotTop φ σ'.heap) w.heap vs us → ∃ F, reps w.heap false ds us F
  | [], ds, us, h, ru => by
    simp only [toRDs, Option.some.injEq] at h; subst h
    simp only [VRels] at ru; subst ru
    exact ⟨[], rfl, rfl⟩
  | v :: vs, ds, us, h, ru => by
    simp only [VRels] at ru
    obtain ⟨u, us', rfl, r1, r2⟩ := ru
    simp only [toRDs] at h
    split at h
    · rename_i d ds' e1 e2
      cases h
      obtain ⟨F1, f1⟩ := toRD_rel hle r e1 r1
      obtain ⟨F2, f2⟩ := toRDs_rel hle r vs ds' us' e2 r2
      exact ⟨F1 ++ F2, u, us', F1, F2, rfl, rfl, f1, f2⟩
    · cases h

theorem toAD_rel (hle : σ.le σ') (r : R B w0 Dm φ σ' kp a w) {v : V} {d : AD} (h : toAD σ.heap v = some d) {u : Value} (ru : VRel φ (NotTop φ σ'.heap) w.heap v u) : ∃ F, arep w.heap false d u F := by
  unfold toAD at h
  split at h
  · rename_i vs
    cases hd : toRDs σ.heap vs with
    | none => rw [hd] at h; cases h
    | some ds =>
      rw [hd] at h; cases h
      obtain ⟨us, rfl, r1⟩ := rel_agg ru
      obtain ⟨F, f⟩ := toRDs_rel hle r vs ds _ hd r1
      exact ⟨F, us, rfl, f⟩
  · cases hd : toRD σ.heap v with
    | none => rw [hd] at h; cases h
    | some x =>
      rw [hd] at h; cases h
      exact toRD_rel hle r hd ru

theorem toADs_rel (hle : σ.le σ') (r : R B w0 Dm φ σ' kp a w) : ∀ (vs : List V) (ds : List AD) (us : List Value), toADs σ.heap vs = some ds → VRels φ (NotTop φ σ'.heap) w.heap vs us → ∃ F, areps w.heap false ds us F
  | [], ds, us, h, ru => by
    simp only [toADs, Option.some.injEq] at h; subst h
    simp only [VRels] at ru; subst ru
    exact ⟨[], rfl, rfl⟩
  | v :: vs, ds, us, h, ru => by
    simp only [VRels] at ru
    obtain ⟨u, us', rfl, r1, r2⟩ := ru
    simp only [toADs] at h
    split at h
    · rename_i d ds' e1 e2
      cases h
      obtain ⟨F1, f1⟩ := toAD_rel hle r e1 r1
      obtain ⟨F2, f2⟩ := toADs_rel hle r vs ds' us' e2 r2
      exact ⟨F1 ++ F2, u, us', F1, F2, rfl, rfl, f1, f2⟩
    · cases h
end

/-! ### Results -/

def rV (d : D) (n : Nat) : V := match d with | .sl _ xs => .sl n 0 xs.length | d => .d d
def rH (d : D) : List H := match d with | .sl sz xs => [.arr sz xs true] | _ => []
def rVs : List D → Nat → List V
  | [], _ => []
  | d :: ds, n => rV d n :: rVs ds (n + (rH d).length)
def rHs : List D → List H
  | [] => []
  | d :: ds => rH d ++ rHs ds

def aV : AD → Nat → V
  | .one d, n => rV d n
  | .agg ds, n => .agg (rVs ds n)
def aH : AD → List H
  | .one d => rH d
  | .agg ds => rHs ds
def aVs : List AD → Nat → List V
  | [], _ => []
  | d :: ds, n => aV d n :: aVs ds (n + (aH d).length)
def aHs : List AD → List H
  | [] => []
  | d :: ds => aH d ++ aHs ds
def tV (rs : List AD) (n : Nat) : V := match rs with | [r] => aV r n | rs => .tup (aVs rs n)

def foot (β : Blk) : List Nat := β.blk.toList ++ β.nest

/-- Entries that lie so, whatever else is there. -/
def Lies (h : Array Obj) (bl : List Blk) (hs : List H) (F : List Nat) : Prop :=
  bl.length = hs.length ∧ bl.flatMap foot = F ∧ (∀ (i : Nat) (β : Blk) (x : H), bl[i]? = some β → hs[i]? = some x → ∀ φ T, HRel φ T h β x) ∧ ∀ x ∈ hs, ∃ sz xs, x = .arr sz xs true

/-- The places of the new entries. -/
def At (φ : Phi) (n : Nat) (bl : List Blk) : Prop := ∀ (i : Nat) (β : Blk), bl[i]? = some β → φ (n + i) = some β

theorem Lies.append {h : Array Obj} {b1 b2 : List Blk} {h1 h2 : List H} {F1 F2 : List Nat} (l1 : Lies h b1 h1 F1) (l2 : Lies h b2 h2 F2) : Lies h (b1 ++ b2) (h1 ++ h2) (F1 ++ F2) := by
  obtain ⟨a1, a2, a3, a4⟩ := l1
  obtain ⟨c1, c2, c3, c4⟩ := l2
  refine ⟨by simp [a1, c1], by simp [a2, c2], fun i β x e1 e2 => ?_, fun x hx => ?_⟩
  · rw [List.getElem?_append] at e1 e2
    by_cases hi : i < b1.length
    · rw [if_pos hi] at e1; rw [if_pos (a1 ▸ hi)] at e2; exact a3 i β x e1 e2
    · rw [if_neg hi] at e1; rw [if_neg (a1 ▸ hi), ← a1] at e2; exact c3 _ β x e1 e2
  · rcases List.mem_append.1 hx with hx | hx
    · exact a4 x hx
    · exact c4 x hx

theorem At.left {φ : Phi} {n : Nat} {b1 b2 : List Blk} (h : At φ n (b1 ++ b2)) : At φ n b1 := fun i β e => h i β (by
  rw [List.getElem?_append_left (by
    rcases Nat.lt_or_ge i b1.length with h | h
    · exact h
    · rw [List.getElem?_eq_none h] at e; cases e)]; exact e)
theorem At.right {φ : Phi} {n : Nat} {b1 b2 : List Blk} (h : At φ n (b1 ++ b2)) : At φ (n + b1.length) b2 := fun i β e => by
  rw [Nat.add_assoc]
  exact h (b1.length + i) β (by rw [List.getElem?_append_right (by omega), Nat.add_sub_cancel_left]; exact e)

theorem rV_rel {h : Array Obj} {d : D} {u : Value} {F : List Nat} (r : rep h true d u F) : ∃ bl, Lies h bl (rH d) F ∧ ∀ φ n T, At φ n bl → VRel φ T h (rV d n) u := by
  cases d with
  | sl sz xs =>
    simp only [rep] at r
    obtain ⟨ad, c, rfl, h2, h3, h4⟩ := r
    rcases h4 with ⟨rfl, rfl, h4⟩ | ⟨b, f, G, rfl, rfl, h5, h6, h7⟩
    · refine ⟨[⟨none, 0, 0, sz, []⟩], ⟨rfl, rfl, fun i β x e1 e2 φ T => ?_, by simp [rH]⟩, fun φ n T hA => ?_⟩
      · cases i with
        | zero =>
          simp [rH] at e1 e2; subst e1; subst e2
          simp [HRel]
        | succ i => simp at e1
      · simp only [rV, VRel]
        exact ⟨_, ad, c, hA 0 _ rfl, rfl, h3, .inl ⟨h4 trivial, rfl⟩⟩
    · refine ⟨[⟨some b, f, c, sz, G⟩], ⟨rfl, by simp [foot], fun i β x e1 e2 φ T => ?_, by simp [rH]⟩, fun φ n T hA => ?_⟩
      · cases i with
        | zero =>
          simp [rH] at e1 e2; subst e1; subst e2
          simp only [HRel]
          exact ⟨trivial, .inr ⟨b, G, rfl, h2, h7 trivial, h6, fun _ => rfl, fun h => by cases h⟩⟩
        | succ i => simp at e1
      · simp only [rV, VRel]
        exact ⟨_, _, c, hA 0 _ rfl, rfl, h3, .inr ⟨b, rfl, by simp, h2, by simp⟩⟩
  | _ =>
    have hF := rep_flat rfl r
    subst hF
    refine ⟨[], ⟨rfl, rfl, by simp, by simp [rH]⟩, fun φ n T _ => ?_⟩
    simp only [rV, VRel]
    exact ⟨[], rep_flat_any rfl r, by simp⟩

theorem rVs_rel {h : Array Obj} : ∀ (ds : List D) (us : List Value) (F : List Nat), reps h true ds us F → ∃ bl, Lies h bl (rHs ds) F ∧ ∀ φ n T, At φ n bl → VRels φ T h (rVs ds n) us
  | [], us, F, r => by
    simp only [reps] at r
    obtain ⟨rfl, rfl⟩ := r
    exact ⟨[], ⟨rfl, rfl, by simp, by simp [rHs]⟩, fun _ _ _ _ => by simp [rVs, VRels]⟩
  | d :: ds, us, F, r => by
    simp only [reps] at r
    obtain ⟨u, us', F1, F2, rfl, rfl, r1, r2⟩ := r
    obtain ⟨b1, l1, v1⟩ := rV_rel r1
    obtain ⟨b2, l2, v2⟩ := rVs_rel ds us' F2 r2
    refine ⟨b1 ++ b2, l1.append l2, fun φ n T hA => ?_⟩
    simp only [rVs, VRels]
    refine ⟨u, us', rfl, v1 φ n T hA.left, v2 φ _ T ?_⟩
    rw [← l1.1]; exact hA.right

theorem aV_rel {h : Array Obj} {d : AD} {u : Value} {F : List Nat} (r : arep h true d u F) : ∃ bl, Lies h bl (aH d) F ∧ ∀ φ n T, At φ n bl → VRel φ T h (aV d n) u := by
  cases d with
  | one d => exact rV_rel r
  | agg ds =>
    obtain ⟨us, rfl, r⟩ := r
    obtain ⟨bl, l, v⟩ := rVs_rel ds _ F r
    refine ⟨bl, l, fun φ n T hA => ?_⟩
    simp only [aV, VRel]
    exact ⟨us, rfl, v φ n T hA⟩

theorem aVs_rel {h : Array Obj} : ∀ (ds : List AD) (us : List Value) (F : List Nat), areps h true ds us F → ∃ bl, Lies h bl (aHs ds) F ∧ ∀ φ n T, At φ n bl → VRels φ T h (aVs ds n) us
  | [], us, F, r => by
    simp only [areps] at r
    obtain ⟨rfl, rfl⟩ := r
    exact ⟨[], ⟨rfl, rfl, by simp, by simp [aHs]⟩, fun _ _ _ _ => by simp [aVs, VRels]⟩
  | d :: ds, us, F, r => by
    simp only [areps] at r
    obtain ⟨u, us', F1, F2, rfl, rfl, r1, r2⟩ := r
    obtain ⟨b1, l1, v1⟩ := aV_rel r1
    obtain ⟨b2, l2, v2⟩ := aVs_rel ds us' F2 r2
    refine ⟨b1 ++ b2, l1.append l2, fun φ n T hA => ?_⟩
    simp only [aVs, VRels]
    refine ⟨u, us', rfl, v1 φ n T hA.left, v2 φ _ T ?_⟩
    rw [← l1.1]; exact hA.right

theorem tV_rel {h : Array Obj} {rs : List AD} {u : Value} {F : List Nat} (r : trep h true rs u F) : ∃ bl, Lies h bl (aHs rs) F ∧ ∀ φ n T, At φ n bl → VRel φ T h (tV rs n) u := by
  unfold trep at r
  split at r
  · rename_i x
    obtain ⟨bl, l, v⟩ := aV_rel r
    exact ⟨bl, by simpa [aHs] using l, fun φ n T hA => v φ n T hA⟩
  · rename_i hne
    obtain ⟨us, rfl, r⟩ := r
    obtain ⟨bl, l, v⟩ := aVs_rel _ _ F r
    refine ⟨bl, l, fun φ n T hA => ?_⟩
    have : tV rs n = .tup (aVs rs n) := by unfold tV; split <;> first | rfl | (rename_i y; exact absurd rfl (hne y))
    rw [this]; simp only [VRel]
    exact ⟨us, rfl, v φ n T hA⟩

theorem flat_inj {F : List Nat} : ∀ (bl : List Blk), bl.flatMap foot = F → F.Nodup → ∀ (i j : Nat) (β γ : Blk) (b : Nat), bl[i]? = some β → bl[j]? = some γ → b ∈ foot β → b ∈ foot γ → i = j := by
  intro bl
  induction bl generalizing F with
  | nil => intro _ _ i j β γ b e; simp at e
  | cons x xs ih =>
    intro e hn i j β γ b e1 e2 h1 h2
    subst e
    rw [List.flatMap_cons, List.nodup_append] at hn
    have hmem : ∀ (k : Nat) (δ : Blk), xs[k]? = some δ → b ∈ foot δ → b ∈ xs.flatMap foot := fun k δ hk hb => List.mem_flatMap.2 ⟨δ, List.mem_of_getElem? hk, hb⟩
    cases i with
    | zero =>
      cases j with
      | zero => rfl
      | succ j =>
        simp at e1 e2; subst e1
        exact absurd rfl (hn.2.2 b h1 b (hmem j γ e2 h2))
    | succ i =>
      cases j with
      | zero =>
        simp at e1 e2; subst e2
        exact absurd rfl (hn.2.2 b h2 b (hmem i β e1 h1))
      | succ j =>
        simp at e1 e2
        rw [ih rfl hn.2.1 i j β γ b e1 e2 h1 h2]

theorem flat_nodup {F : List Nat} : ∀ (bl : List Blk), bl.flatMap foot = F → F.Nodup → ∀ β ∈ bl, (foot β).Nodup := by
  intro bl
  induction bl generalizing F with
  | nil => simp
  | cons x xs ih =>
    intro e hn β hb
    subst e
    rw [List.flatMap_cons, List.nodup_append] at hn
    rcases List.mem_cons.1 hb with rfl | hb
    · exact hn.1
    · exact ih rfl hn.2.1 β hb

section
variable {B : Nat → Prop} {w0 : World} {Dm : Nat → Prop} {φ : Phi} {kp : List (V × Value)} {a : Act} {w : World} {σ : St}

/-- New entries, of memory that a call gave. -/
theorem R_news (r : R B w0 Dm φ σ kp a w) {n : Nat} {bl : List Blk} {hs : List H} {F : List Nat} {w' : World} (hn : ∀ i, n ≤ i → i < n + hs.length → ¬ Dm i)
    (hb : Bel (fun b => w.heap.size ≤ b) w w') (hl : Lies w'.heap bl hs F) (hnd : F.Nodup) (hnew : ∀ b ∈ F, w.heap.size ≤ b) :
    ∃ φ', At φ' n bl ∧ R B w0 (fun i => Dm i ∨ (n ≤ i ∧ i < n + hs.length)) φ' ⟨σ.tmps, Gv.hnew σ.heap n hs⟩ kp a w' := by
  obtain ⟨l1, l2, l3, l4⟩ := hl
  have hφ : ∀ i, n ≤ i → i < n + hs.length → φ i = none := fun i h1 h2 => by
    cases h : φ i with
    | none => rfl
    | some β => exact absurd (r.dm i β h) (hn i h1 h2)
  let φ' : Phi := fun i => if n ≤ i ∧ i < n + hs.length then bl[i - n]? else φ i
  have hin : ∀ i, n ≤ i ∧ i < n + hs.length → φ' i = bl[i - n]? := fun i h => if_pos h
  have hout : ∀ i, ¬ (n ≤ i ∧ i < n + hs.length) → φ' i = φ i := fun i h => if_neg h
  have hgi : ∀ i, n ≤ i ∧ i < n + hs.length → ∃ x, hs[i - n]? = some x ∧ hget (Gv.hnew σ.heap n hs) i = x := by
    intro i h
    have hlt : i - n < hs.length := by omega
    refine ⟨hs[i - n], List.getElem?_eq_getElem hlt, ?_⟩
    rw [hget_hnew, if_pos h, List.getD_eq_getElem?_getD, List.getElem?_eq_getElem hlt]; rfl
  have hgo : ∀ i, ¬ (n ≤ i ∧ i < n + hs.length) → hget (Gv.hnew σ.heap n hs) i = hget σ.heap i := fun i h => by rw [hget_hnew, if_neg h]
  have hown : ∀ i, n ≤ i ∧ i < n + hs.length → ∀ b, Owns φ' (Gv.hnew σ.heap n hs) i b → ∃ β, bl[i - n]? = some β ∧ b ∈ foot β := by
    rintro i h b ⟨β, e1, e2⟩
    rw [hin i h] at e1
    refine ⟨β, e1, ?_⟩
    unfold foot
    rcases e2 with ⟨_, e2⟩ | ⟨_, e2⟩
    · simp [e2]
    · simp [e2]
  have hbF : ∀ (i : Nat) (β : Blk) (b : Nat), bl[i]? = some β → b ∈ foot β → w.heap.size ≤ b := fun i β b h1 h2 => hnew b (by rw [← l2]; exact List.mem_flatMap.2 ⟨β, List.mem_of_getElem? h1, h2⟩)
  refine ⟨φ', fun i β hi => ?_, R_change r (fun i => n ≤ i ∧ i < n + hs.length) _ φ' _ w' (fun i hi => ⟨hgo i hi, hout i hi⟩) (fun i β hi => ?_) hb.size (fun b hb' _ => hb.block b (by omega)) (fun i hi b ho => ?_) (fun i hi β' h1 hlv b h2 => ?_)
    (fun i j b hi hj h1 h2 => ?_) (fun i β hi h1 _ => ?_) (fun i hi => ?_) (fun i β hi => ?_) (r.bel.trans (hb.mono fun k hk => r.bs k hk))⟩
  · have hlt : i < bl.length := by
      rcases Nat.lt_or_ge i bl.length with h | h
      · exact h
      · rw [List.getElem?_eq_none h] at hi; cases hi
    rw [hin (n + i) ⟨by omega, by omega⟩, Nat.add_sub_cancel_left]; exact hi
  · by_cases h : n ≤ i ∧ i < n + hs.length
    · rw [hφ i h.1 h.2] at hi; cases hi
    · exact ⟨β, by rw [hout i h]; exact hi, rfl, rfl, rfl, rfl⟩
  · obtain ⟨β, e1, e2⟩ := hown i hi b ho
    exact .inl (hbF _ β b e1 e2)
  · rw [hin i hi] at h1
    exact .inl (hbF _ β' b h1 (by unfold foot; simp [h2]))
  · obtain ⟨β, e1, e2⟩ := hown i hi b h1
    obtain ⟨γ, f1, f2⟩ := hown j hj b h2
    have := flat_inj bl l2 hnd _ _ β γ b e1 f1 e2 f2
    omega
  · rw [hin i hi] at h1
    have := flat_nodup bl l2 hnd β (List.mem_of_getElem? h1)
    unfold foot at this
    rw [List.nodup_append] at this
    refine ⟨this.2.1, fun b hb' hb2 => this.2.2 b (by simp [hb']) b hb2 rfl⟩
  · right
    obtain ⟨x, h1, h2⟩ := hgi i hi
    have hlt : i - n < bl.length := by omega
    refine ⟨bl[i - n], by rw [hin i hi]; exact List.getElem?_eq_getElem hlt, ?_⟩
    rw [h2]
    exact l3 _ _ _ (List.getElem?_eq_getElem hlt) h1 _ _
  · by_cases h : n ≤ i ∧ i < n + hs.length
    · exact .inr h
    · rw [hout i h] at hi; exact .inl (r.dm i β hi)
end

variable {P : Program} {o : Oper} {g : Bool} {σ : St} {n : Nat} {K : Res → Prop}

/-- A call of a function whose law is known. -/
theorem ok_call' {c : Call} {f : FuncId} {xs : Array Operand} {ts : Array TypeId} (ho : o.op = .call c) {x : Operand} (hc : c = { callee := .value x, args := xs, argTypes := ts }) (hf : ∀ {σ' : St} {B : Nat → Prop} {w0 : World} {Dm : Nat → Prop} {φ : Phi} {kp : List (V × Value)} {a : Act} {w : World}, σ.le σ' → R B w0 Dm φ σ' kp a w → g = true → a.eval x = .func (.func f) #[] #[])
    {vs : List V} (hx : ∀ {σ' : St} {B : Nat → Prop} {w0 : World} {Dm : Nat → Prop} {φ : Phi} {kp : List (V × Value)} {a : Act} {w : World}, σ.le σ' → R B w0 Dm φ σ' kp a w → g = true → VRels φ (NotTop φ σ'.heap) w.heap vs (xs.toList.map a.eval))
    {as rs : List AD} (hE : toADs σ.heap vs = some as) (hpc : PureCall P f as rs) (hK : K ⟨tV rs n, aHs rs, []⟩) : ∃ r, OpOK P o g σ n r ∧ K r := by
  subst hc
  refine ⟨_, ?_, hK⟩
  intro σ' hle _ B w0 Dm φ kp a w hDm hR hg Q1 Q2 hk
  have hv := hx hle hR hg
  obtain ⟨F, hF⟩ := toADs_rel hle hR vs as _ hE hv
  have hcall := hpc w _ F hR.gok hF
  unfold Oper.wp
  have hrun : (execOp a.eval o).run P w = (callFunc f (xs.map a.eval)).run P w := by
    unfold execOp; rw [ho]
    have hfx := hf hle hR hg
    simp [resolve, hfx, Deferred.ofValue, invoke]
  rw [hrun]
  have hxs : (xs.toList.map a.eval).toArray = xs.map a.eval := by rw [← Array.toList_map, Array.toArray_toList]
  rw [hxs] at hcall
  have fin : ∀ v w', (∃ F', Bel (fun b => w.heap.size ≤ b) w w' ∧ trep w'.heap true rs v F' ∧ F'.Nodup ∧ ∀ b ∈ F', w.heap.size ≤ b) → Q1 (a.put o.dst v) w' := by
    rintro v w' ⟨F', e1, e2, e3, e4⟩
    obtain ⟨bl, l1, l2⟩ := tV_rel e2
    obtain ⟨φ', hA, hR'⟩ := R_news hR hDm e1 l1 e3 e4
    exact hk v w' φ' (R_put hR' o.dst (l2 φ' n _ hA))
  unfold Does at hcall
  split at hcall
  · rename_i h1; rw [h1, Oper.upon_enter]
    refine Calls.mono hcall fun e w' he => ?_
    cases e with
    | returned v => exact fin v w' he
    | panicked c => exact he.elim
    | outgrown => exact he.elim
  · rename_i h1; rw [h1, Oper.upon_value]; exact fin _ _ hcall
  · rename_i h1; rw [h1, Oper.upon_row]; exact Rows.mono hcall fin
  · exact hcall.elim


/-! ### Functions that write their arguments (slices of flat elements, owned whole) -/

def MutCall (P : Program) (f : FuncId) (args args' res : List AD) : Prop :=
  ∀ (w : World) (us : List Value) (F : List Nat), GOk w.heap → (∀ p ∈ globs, p.1 ∉ F) → areps w.heap true args us F → F.Nodup → Does P f us.toArray w fun v w' =>
    ∃ F', Bel (fun b => b ∈ F ∨ w.heap.size ≤ b) w w' ∧ areps w'.heap true args' us F' ∧ trep w'.heap true res v []

/-- What is left of a cell that was handed over. -/
def mutC (hs : List H) (v : V) (d' : D) : Option (Prop × List (Nat × H)) :=
  match v, d' with
  | .sl id 0 len, .sl sz' xs' => match hget hs id with | .arr sz xs true => some (len = xs.length ∧ flatE xs = true ∧ sz' = sz ∧ flatE xs' = true, [(id, .arr sz xs' true)]) | _ => none
  | .d x, _ => some (x.flat = true, [])
  | .nils _, _ => some (True, [])
  | _, _ => none

def mutCs (hs : List H) : List V → List D → Option (Prop × List (Nat × H))
  | [], [] => some (True, [])
  | v :: vs, d :: ds => match mutC hs v d, mutCs hs vs ds with | some (p, u), some (q, us) => some (p ∧ q, u ++ us) | _, _ => none
  | _, _ => none

def mutA (hs : List H) (v : V) (a' : AD) : Option (Prop × List (Nat × H)) :=
  match v, a' with
  | .agg vs, .agg ds => mutCs hs vs ds
  | v, .one d => mutC hs v d
  | _, _ => none

def mutAs (hs : List H) : List V → List AD → Option (Prop × List (Nat × H))
  | [], [] => some (True, [])
  | v :: vs, d :: ds => match mutA hs v d, mutAs hs vs ds with | some (p, u), some (q, us) => some (p ∧ q, u ++ us) | _, _ => none
  | _, _ => none

section
variable {B : Nat → Prop} {w0 : World} {Dm : Nat → Prop} {φ : Phi} {kp : List (V × Value)} {a : Act} {w : World} {σ σ' : St}

/-- What is known of an updated entry. -/
def Upd (σ' : St) (φ : Phi) (w' : World) (p : Nat × H) : Prop :=
  ∃ sz xs xs' β, p.2 = .arr sz xs' true ∧ hget σ'.heap p.1 = .arr sz xs true ∧ flatE xs = true ∧ φ p.1 = some β ∧ (∀ T, HRel φ T w'.heap β p.2)

theorem mutC_rel (hle : σ.le σ') (r : R B w0 Dm φ σ' kp a w) {w' : World} (hroom : ∀ b n, roomy w.heap b n → roomy w'.heap b n) {v : V} {d' : D} {p : Prop} {upd : List (Nat × H)} (h : mutC σ.heap v d' = some (p, upd)) (hp : p) {u : Value} {F' : List Nat}
    (ru : VRel φ (NotTop φ σ'.heap) w.heap v u) (ru' : rep w'.heap true d' u F') : ∀ q ∈ upd, Upd σ' φ w' q := by
  unfold mutC at h
  split at h
  · rename_i id len sz' xs'
    split at h
    · rename_i sz xs hx
      simp only [Option.some.injEq, Prod.mk.injEq] at h
      obtain ⟨rfl, rfl⟩ := h
      obtain ⟨p1, p2, rfl, p4⟩ := hp
      intro q hq
      simp only [List.mem_singleton] at hq; subst hq
      have hx' : hget σ'.heap id = .arr sz' xs true := by
        rcases hle.2 id with hh | hh
        · rw [hx] at hh; cases hh
        · rw [hh, hx]
      obtain ⟨β, ad, c, e1, e2, e3, e4, e5⟩ := rel_sl ru
      refine ⟨sz', xs, xs', β, rfl, hx', p2, e1, fun T => ?_⟩
      rcases r.hp id with hd | ⟨β', k1, hr⟩
      · rw [hx'] at hd; cases hd
      · rw [e1] at k1; cases k1
        rw [hx'] at hr
        simp only [HRel] at hr ⊢
        obtain ⟨hsz, hr⟩ := hr
        refine ⟨hsz, ?_⟩
        simp only [rep] at ru'
        obtain ⟨ad', c', m1, m2, m3, m4⟩ := ru'
        rw [e2] at m1
        simp only [Value.slice.injEq] at m1
        obtain ⟨rfl, m1, rfl⟩ := m1
        rcases hr with hr | ⟨b, G, r1, r2, r3, r4, r5, r6⟩
        · left
          have : xs' = [] := List.eq_nil_of_length_eq_zero (by rw [← m1, p1, hr.2.1]; rfl)
          exact ⟨hr.1, this, hr.2.2⟩
        · right
          have hG : β.nest = [] := by rw [← r5 trivial]; exact repE_flat _ _ _ _ p2 r4
          refine ⟨b, [], r1, by omega, hroom _ _ r3, ?_, fun _ => hG.symm, fun h => by cases h⟩
          by_cases hne : xs' = []
          · subst hne; simp [repE]
          · rcases m4 with m4 | ⟨b', f', G', n1, n2, n3, n4, n5⟩
            · exact absurd m4.1 hne
            · rcases e5 with e5 | ⟨b2, e5, e6, e7⟩
              · exact absurd (List.eq_nil_of_length_eq_zero (by omega)) hne
              · rw [r1] at e5; cases e5
                rw [n1] at e6
                simp only [Option.some.injEq, Addr.mk.injEq, Nat.zero_mul, Nat.add_zero] at e6
                obtain ⟨rfl, rfl, _⟩ := e6
                exact repE_flat_true _ _ _ _ p4 n4
    · cases h
  · simp only [Option.some.injEq, Prod.mk.injEq] at h
    obtain ⟨rfl, rfl⟩ := h
    simp
  · simp only [Option.some.injEq, Prod.mk.injEq] at h
    obtain ⟨rfl, rfl⟩ := h
    simp
  · cases h

theorem mutCs_rel (hle : σ.le σ') (r : R B w0 Dm φ σ' kp a w) {w' : World} (hroom : ∀ b n, roomy w.heap b n → roomy w'.heap b n) : ∀ {vs : List V} {ds : List D} {p : Prop} {upd : List (Nat × H)} {us : List Value} {F' : List Nat}, mutCs σ.heap vs ds = some (p, upd) → p →
    VRels φ (NotTop φ σ'.heap) w.heap vs us → reps w'.heap true ds us F' → ∀ q ∈ upd, Upd σ' φ w' q
  | [], [], p, upd, us, F', h, _, _, _ => by simp only [mutCs, Option.some.injEq, Prod.mk.injEq] at h; rw [← h.2]; simp
  | [], _ :: _, p, upd, us, F', h, _, _, _ => by simp [mutCs] at h
  | _ :: _, [], p, upd, us, F', h, _, _, _ => by simp [mutCs] at h
  | v :: vs, d :: ds, p, upd, us, F', h, hp, rv, rd => by
    simp only [mutCs] at h
    split at h
    · rename_i p1 u1 q1 us1 e1 e2
      simp only [Option.some.injEq, Prod.mk.injEq] at h
      obtain ⟨rfl, rfl⟩ := h
      simp only [VRels] at rv
      obtain ⟨u, us', rfl, rv1, rv2⟩ := rv
      simp only [reps] at rd
      obtain ⟨u', us2, F1, F2, e, rfl, rd1, rd2⟩ := rd
      cases e
      intro q hq
      rcases List.mem_append.1 hq with hq | hq
      · exact mutC_rel hle r hroom e1 hp.1 rv1 rd1 q hq
      · exact mutCs_rel hle r hroom e2 hp.2 rv2 rd2 q hq
    · cases h

theorem mutA_rel (hle : σ.le σ') (r : R B w0 Dm φ σ' kp a w) {w' : World} (hroom : ∀ b n, roomy w.heap b n → roomy w'.heap b n) {v : V} {d' : AD} {p : Prop} {upd : List (Nat × H)} (h : mutA σ.heap v d' = some (p, upd)) (hp : p) {u : Value} {F' : List Nat}
    (ru : VRel φ (NotTop φ σ'.heap) w.heap v u) (ru' : arep w'.heap true d' u F') : ∀ q ∈ upd, Upd σ' φ w' q := by
  unfold mutA at h
  split at h
  · obtain ⟨us, rfl, r1⟩ := rel_agg ru
    obtain ⟨us', e, r2⟩ := ru'
    cases e
    exact mutCs_rel hle r hroom h hp r1 r2
  · exact mutC_rel hle r hroom h hp ru ru'
  · cases h

theorem mutAs_rel (hle : σ.le σ') (r : R B w0 Dm φ σ' kp a w) {w' : World} (hroom : ∀ b n, roomy w.heap b n → roomy w'.heap b n) : ∀ {vs : List V} {ds : List AD} {p : Prop} {upd : List (Nat × H)} {us : List Value} {F' : List Nat}, mutAs σ.heap vs ds = some (p, upd) → p →
    VRels φ (NotTop φ σ'.heap) w.heap vs us → areps w'.heap true ds us F' → ∀ q ∈ upd, Upd σ' φ w' q
  | [], [], p, upd, us, F', h, _, _, _ => by simp only [mutAs, Option.some.injEq, Prod.mk.injEq] at h; rw [← h.2]; simp
  | [], _ :: _, p, upd, us, F', h, _, _, _ => by simp [mutAs] at h
  | _ :: _, [], p, upd, us, F', h, _, _, _ => by simp [mutAs] at h
  | v :: vs, d :: ds, p, upd, us, F', h, hp, rv, rd => by
    simp only [mutAs] at h
    split at h
    · rename_i p1 u1 q1 us1 e1 e2
      simp only [Option.some.injEq, Prod.mk.injEq] at h
      obtain ⟨rfl, rfl⟩ := h
      simp only [VRels] at rv
      obtain ⟨u, us', rfl, rv1, rv2⟩ := rv
      simp only [areps] at rd
      obtain ⟨u', us2, F1, F2, e, rfl, rd1, rd2⟩ := rd
      cases e
      intro q hq
      rcases List.mem_append.1 hq with hq | hq
      · exact mutA_rel hle r hroom e1 hp.1 rv1 rd1 q hq
      · exact mutAs_rel hle r hroom e2 hp.2 rv2 rd2 q hq
    · cases h

/-- The entries that a call wrote. -/
theorem R_mut (r : R B w0 Dm φ σ' kp a w) {w' : World} {F : List Nat} {upd : List (Nat × H)} (hb : Bel (fun b => b ∈ F ∨ w.heap.size ≤ b) w w') (hF : ∀ b ∈ F, ∃ p ∈ upd, Owns φ σ'.heap p.1 b) (hu : ∀ q ∈ upd, Upd σ' φ w' q) :
    R B w0 Dm φ ⟨σ'.tmps, hupd σ'.heap upd⟩ kp a w' := by
  have hin : ∀ i, (∃ x, (i, x) ∈ upd) → ∃ x, (i, x) ∈ upd ∧ hget (hupd σ'.heap upd) i = x := by
    rintro i ⟨y, hy⟩
    rcases hget_hupd upd σ'.heap i with ⟨x, h1, h2⟩ | ⟨h1, _⟩
    · exact ⟨x, h1, h2⟩
    · exact absurd hy (h1 y)
  have hout : ∀ i, (¬ ∃ x, (i, x) ∈ upd) → hget (hupd σ'.heap upd) i = hget σ'.heap i := by
    intro i hi
    rcases hget_hupd upd σ'.heap i with ⟨x, h1, _⟩ | ⟨_, h2⟩
    · exact absurd ⟨x, h1⟩ hi
    · exact h2
  have hnest : ∀ i β, (∃ x, (i, x) ∈ upd) → φ i = some β → β.nest = [] ∧ (hget σ'.heap i).live = true := by
    rintro i β ⟨y, hy⟩ e
    obtain ⟨sz, xs, xs', β', h1, h2, h3, h4, _⟩ := hu _ hy
    simp only at h2 h4
    rw [e] at h4; cases h4
    refine ⟨?_, by rw [h2]; rfl⟩
    rcases r.hp i with hd | ⟨β', k1, hr⟩
    · rw [h2] at hd; cases hd
    · rw [e] at k1; cases k1
      rw [h2] at hr
      simp only [HRel] at hr
      rcases hr.2 with hr | ⟨b, G, r1, r2, r3, r4, r5, r6⟩
      · exact hr.2.2.2
      · rw [← r5 trivial]; exact repE_flat _ _ _ _ h3 r4
  have hown : ∀ i b, (∃ x, (i, x) ∈ upd) → Owns φ (hupd σ'.heap upd) i b → Owns φ σ'.heap i b := by
    rintro i b hi ⟨β, e, h⟩
    obtain ⟨h1, h2⟩ := hnest i β hi e
    rcases h with ⟨_, h⟩ | ⟨_, h⟩
    · exact ⟨β, e, .inl ⟨h2, h⟩⟩
    · rw [h1] at h; cases h
  refine R_change r (fun i => ∃ x, (i, x) ∈ upd) Dm φ _ w' (fun i hi => ⟨hout i hi, rfl⟩) (Le.refl φ) hb.size (fun b hb' hne => hb.block b ?_) (fun i hi b ho => .inr ⟨i, hi, hown i b hi ho⟩) (fun i hi β e hl b h2 => .inr ⟨i, β, hi, e, (hnest i β hi e).2, h2⟩)
    (fun i j b hi hj h1 h2 => r.o1 i j b (hown i b hi h1) (hown j b hj h2)) (fun i β hi e _ => by rw [(hnest i β hi e).1]; exact ⟨List.nodup_nil, fun _ _ h => by cases h⟩) (fun i hi => ?_) (fun i β e => r.dm i β e) (r.bel.trans (hb.mono fun k hk => ?_))
  · rintro (h | h)
    · obtain ⟨p, p1, β, e, h1⟩ := hF b h
      obtain ⟨h3, h4⟩ := hnest p.1 β ⟨p.2, p1⟩ e
      rcases h1 with ⟨_, h1⟩ | ⟨_, h1⟩
      · exact hne p.1 ⟨p.2, p1⟩ β e h4 h1
      · rw [h3] at h1; cases h1
    · omega
  · right
    obtain ⟨x, h1, h2⟩ := hin i hi
    obtain ⟨sz, xs, xs', β, k1, k2, k3, k4, k5⟩ := hu _ h1
    rw [h2]
    have k5 := k5 (NotTop φ (hupd σ'.heap upd))
    exact ⟨β, k4, k5⟩
  · rcases hk with hk | hk
    · obtain ⟨p, _, h⟩ := hF k hk
      exact r.o3 _ k h
    · exact r.bs k hk
end

def toOA (hs : List H) (v : V) : Option (AD × List Nat) :=
  match v with
  | .agg vs => (toDs hs vs).map fun (ds, ids) => (.agg ds, ids)
  | v => (toD hs v).map fun (d, ids) => (.one d, ids)

def toOAs (hs : List H) : List V → Option (List AD × List Nat)
  | [] => some ([], [])
  | v :: vs => match toOA hs v, toOAs hs vs with | some (d, i), some (ds, is) => some (d :: ds, i ++ is) | _, _ => none

section
variable {B : Nat → Prop} {w0 : World} {Dm : Nat → Prop} {φ : Phi} {kp : List (V × Value)} {a : Act} {w : World} {σ : St}

theorem toOA_rel (r : R B w0 Dm φ σ kp a w) {v : V} {d : AD} {ids : List Nat} (h : toOA σ.heap v = some (d, ids)) (hn : ids.Nodup) {u : Value} (ru : VRel φ (NotTop φ σ.heap) w.heap v u) :
    ∃ F, arep w.heap true d u F ∧ F.Nodup ∧ ∀ b ∈ F, ∃ id ∈ ids, Owns φ σ.heap id b := by
  unfold toOA at h
  split at h
  · rename_i vs
    cases hd : toDs σ.heap vs with
    | none => rw [hd] at h; cases h
    | some p =>
      obtain ⟨ds, is⟩ := p
      rw [hd] at h
      simp only [Option.map_some, Option.some.injEq, Prod.mk.injEq] at h
      obtain ⟨rfl, rfl⟩ := h
      obtain ⟨us, rfl, r1⟩ := rel_agg ru
      obtain ⟨G, g1, g2, g3, _⟩ := toDs_rel r vs ds is _ hd hn r1
      exact ⟨G, ⟨us, rfl, g1⟩, g2, g3⟩
  · cases hd : toD σ.heap v with
    | none => rw [hd] at h; cases h
    | some p =>
      obtain ⟨ds, is⟩ := p
      rw [hd] at h
      simp only [Option.map_some, Option.some.injEq, Prod.mk.injEq] at h
      obtain ⟨rfl, rfl⟩ := h
      obtain ⟨G, g1, g2, g3, _⟩ := toD_rel r hd ru
      exact ⟨G, g1, g2, g3⟩

theorem toOAs_rel (r : R B w0 Dm φ σ kp a w) : ∀ (vs : List V) (ds : List AD) (ids : List Nat) (us : List Value), toOAs σ.heap vs = some (ds, ids) → ids.Nodup → VRels φ (NotTop φ σ.heap) w.heap vs us →
    ∃ F, areps w.heap true ds us F ∧ F.Nodup ∧ ∀ b ∈ F, ∃ id ∈ ids, Owns φ σ.heap id b
  | [], ds, ids, us, e, _, rv => by
    simp only [toOAs, Option.some.injEq, Prod.mk.injEq] at e
    obtain ⟨rfl, rfl⟩ := e
    simp only [VRels] at rv; subst rv
    exact ⟨[], ⟨rfl, rfl⟩, List.nodup_nil, by simp⟩
  | v :: vs, ds, ids, us, e, hnd, rv => by
    simp only [VRels] at rv
    obtain ⟨u, us', rfl, rv1, rv2⟩ := rv
    simp only [toOAs] at e
    split at e
    · rename_i d i ds' is e1 e2
      simp only [Option.some.injEq, Prod.mk.injEq] at e
      obtain ⟨rfl, rfl⟩ := e
      rw [List.nodup_append] at hnd
      obtain ⟨F, f1, f2, f3⟩ := toOA_rel r e1 hnd.1 rv1
      obtain ⟨G, g1, g2, g3⟩ := toOAs_rel r vs ds' is us' e2 hnd.2.1 rv2
      refine ⟨F ++ G, ⟨u, us', F, G, rfl, rfl, f1, g1⟩, ?_, ?_⟩
      · rw [List.nodup_append]
        refine ⟨f2, g2, fun x hx y hy hxy => ?_⟩
        subst hxy
        obtain ⟨p, p1, p2⟩ := f3 x hx
        obtain ⟨q, q1, q2⟩ := g3 x hy
        exact hnd.2.2 p p1 q q1 (r.o1 p q x p2 q2)
      · intro b hb
        rcases List.mem_append.1 hb with hb | hb
        · obtain ⟨p, p1, p2⟩ := f3 b hb; exact ⟨p, by simp [p1], p2⟩
        · obtain ⟨p, p1, p2⟩ := g3 b hb; exact ⟨p, by simp [p1], p2⟩
    · cases e

end

theorem toOA_le {σ σ' : St} (hle : σ.le σ') {v : V} {r : AD × List Nat} (h : toOA σ.heap v = some r) : toOA σ'.heap v = some r := by
  unfold toOA at h ⊢
  split at h
  · rename_i vs
    cases hd : toDs σ.heap vs with
    | none => rw [hd] at h; cases h
    | some p => rw [hd] at h; rw [toDs_le hle vs p hd]; exact h
  · cases hd : toD σ.heap v with
    | none => rw [hd] at h; cases h
    | some p => rw [hd] at h; rw [toD_le hle hd]; exact h

theorem toOAs_le {σ σ' : St} (hle : σ.le σ') : ∀ (vs : List V) (r : List AD × List Nat), toOAs σ.heap vs = some r → toOAs σ'.heap vs = some r
  | [], r, h => h
  | v :: vs, r, h => by
    simp only [toOAs] at h ⊢
    split at h
    · rename_i d i ds is e1 e2
      rw [toOA_le hle e1, toOAs_le hle vs _ e2]; exact h
    · cases h

variable {P : Program} {o : Oper} {g : Bool} {σ : St} {n : Nat} {K : Res → Prop}

/-- A call of a function that writes what it is handed. -/
theorem ok_mutcall {c : Call} {f : FuncId} {xs : Array Operand} {ts : Array TypeId} (ho : o.op = .call c) {x : Operand} (hc : c = { callee := .value x, args := xs, argTypes := ts }) (hf : ∀ {σ' : St} {B : Nat → Prop} {w0 : World} {Dm : Nat → Prop} {φ : Phi} {kp : List (V × Value)} {a : Act} {w : World}, σ.le σ' → R B w0 Dm φ σ' kp a w → g = true → a.eval x = .func (.func f) #[] #[]) {vs : List V}
    (hx : ∀ {σ' : St} {B : Nat → Prop} {w0 : World} {Dm : Nat → Prop} {φ : Phi} {kp : List (V × Value)} {a : Act} {w : World}, σ.le σ' → R B w0 Dm φ σ' kp a w → g = true → VRels φ (NotTop φ σ'.heap) w.heap vs (xs.toList.map a.eval))
    {as as' rs : List AD} {ids : List Nat} {p : Prop} {upd : List (Nat × H)} (h1 : toOAs σ.heap vs = some (as, ids)) (h2 : ids.Nodup) (h3 : MutCall P f as as' rs) (h4 : mutAs σ.heap vs as' = some (p, upd)) (hp : p) (h5 : aHs rs = []) (h6 : ∀ id ∈ ids, ∃ x, (id, x) ∈ upd) : OpOK P o g σ n ⟨tV rs n, [], upd⟩ := by
  subst hc
  intro σ' hle _ B w0 Dm φ kp a w hDm hR hg Q1 Q2 hk
  have hv := hx hle hR hg
  obtain ⟨F, hF, hFn, hFo⟩ := toOAs_rel hR vs as ids _ (toOAs_le hle vs _ h1) h2 hv
  have hcall := h3 w _ F hR.gok (fun p hp hm => by
    obtain ⟨id, _, i2⟩ := hFo _ hm
    exact hR.gb p hp (hR.o3 _ _ i2)) hF hFn
  unfold Oper.wp
  have hrun : (execOp a.eval o).run P w = (callFunc f (xs.map a.eval)).run P w := by
    unfold execOp; rw [ho]
    have hfx := hf hle hR hg
    simp [resolve, hfx, Deferred.ofValue, invoke]
  rw [hrun]
  have hxs : (xs.toList.map a.eval).toArray = xs.map a.eval := by rw [← Array.toList_map, Array.toArray_toList]
  rw [hxs] at hcall
  have fin : ∀ v w', (∃ F', Bel (fun b => b ∈ F ∨ w.heap.size ≤ b) w w' ∧ areps w'.heap true as' (xs.toList.map a.eval) F' ∧ trep w'.heap true rs v []) → Q1 (a.put o.dst v) w' := by
    rintro v w' ⟨F', e1, e2, e3⟩
    have hu := mutAs_rel hle hR e1.room h4 hp hv e2
    have hR' := R_mut hR e1 (fun b hb => by
      obtain ⟨id, i1, i2⟩ := hFo b hb
      obtain ⟨x, hx⟩ := h6 id i1
      exact ⟨(id, x), hx, i2⟩) hu
    obtain ⟨bl, l1, l2⟩ := tV_rel e3
    have hbl : bl = [] := List.eq_nil_of_length_eq_zero (by rw [l1.1, h5]; rfl)
    subst hbl
    have := R_put hR' o.dst (l2 φ n _ (fun i β e => by simp at e))
    exact hk v w' φ (R_dm this fun i h => .inl h)
  unfold Does at hcall
  split at hcall
  · rename_i h1; rw [h1, Oper.upon_enter]
    refine Calls.mono hcall fun e w' he => ?_
    cases e with
    | returned v => exact fin v w' he
    | panicked c => exact he.elim
    | outgrown => exact he.elim
  · rename_i h1; rw [h1, Oper.upon_value]; exact fin _ _ hcall
  · rename_i h1; rw [h1, Oper.upon_row]; exact Rows.mono hcall fin
  · exact hcall.elim

end Gv
