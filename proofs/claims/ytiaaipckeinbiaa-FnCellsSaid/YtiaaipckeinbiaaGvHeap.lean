/-
  Operations that make or write memory: what becomes of the relation.
-/
import Derived.Test.YtiaaipckeinbiaaGvOpsF
namespace Gv
open Go

variable {P : Program} {o : Oper} {g : Bool} {σ : St} {n : Nat} {K : Res → Prop}

def phiSet (φ : Phi) (n : Nat) (β : Blk) : Phi := fun i => if i = n then some β else φ i

theorem hget_upd_one (hs : List H) (n : Nat) (x : H) (i : Nat) : hget (hput hs n x) i = if i = n then x else hget hs i := hget_hput hs n x i

section
variable {B : Nat → Prop} {w0 : World} {Dm : Nat → Prop} {φ : Phi} {kp : List (V × Value)} {a : Act} {w : World}

/-- A new block that holds a variable. -/
theorem R_boxc (cp sz : Nat) (r : R B w0 Dm φ σ kp a w) {n : Nat} (hd : hget σ.heap n = .dead) (hn : ¬ Dm n) {cells : List V} {cs : Array Value} {e : TypeId} (hc : VRels φ (NotTop φ σ.heap) w.heap cells cs.toList) {w' : World}
    (hh : w'.heap = w.heap.push (.cells cs e)) (hb : Bel B w0 w') :
    R B w0 (fun i => Dm i ∨ (n ≤ i ∧ i < n + 1)) (phiSet φ n ⟨some w.heap.size, 0, cp, sz, []⟩) ⟨σ.tmps, hput σ.heap n (.box cells)⟩ kp a w' := by
  have hφn : φ n = none := by
    cases h : φ n with
    | none => rfl
    | some β => exact absurd (r.dm n β h) hn
  have hnew : w'.heap[w.heap.size]? = some (.cells cs e (0, 0)) := by rw [hh]; simp
  have hle : Le φ (phiSet φ n ⟨some w.heap.size, 0, cp, sz, []⟩) := fun i β hi => by
    have : i ≠ n := fun e => by subst e; rw [hφn] at hi; cases hi
    exact ⟨β, by simp [phiSet, this, hi], rfl, rfl, rfl, rfl⟩
  have hold : ∀ b, b < w.heap.size → w'.heap[b]? = w.heap[b]? := fun b hb => by rw [hh, Array.getElem?_push]; simp [Nat.ne_of_lt hb]
  have hT : ∀ b, b < w.heap.size → NotTop φ σ.heap b → NotTop (phiSet φ n ⟨some w.heap.size, 0, cp, sz, []⟩) (hput σ.heap n (.box cells)) b := by
    intro b hb ht i β hi he
    rw [hget_hput] at he
    by_cases h : i = n
    · subst h; simp only [phiSet, if_true, Option.some.injEq] at hi; subst hi
      rcases he with ⟨_, he⟩ | ⟨_, he⟩
      · simp only [Option.some.injEq] at he; omega
      · cases he
    · simp only [h, if_false] at he
      exact ht i β (by simpa [phiSet, h] using hi) he
  refine R_change r (fun i => i = n) _ _ _ w' (fun i hi => ⟨by rw [hget_hput]; simp [hi], by simp [phiSet, hi]⟩) hle (by rw [hh]; simp) (fun b hb _ => hold b hb) ?_ ?_ (fun i j b hi hj _ _ => hi.trans hj.symm) ?_ ?_ ?_ hb
  · rintro i rfl b ⟨β, h1, h2⟩
    simp only [phiSet, if_true, Option.some.injEq] at h1; subst h1
    rcases h2 with ⟨_, h2⟩ | ⟨_, h2⟩
    · simp only [Option.some.injEq] at h2; exact .inl (by omega)
    · cases h2
  · rintro i rfl β h1 b h2
    simp only [phiSet, if_true, Option.some.injEq] at h1; subst h1
    rcases h2 with ⟨_, h2⟩ | ⟨_, h2⟩
    · simp only [Option.some.injEq] at h2; exact .inl (by omega)
    · cases h2
  · rintro i β rfl _ hx
    rw [hget_hput, if_pos rfl] at hx; cases hx
  · rintro i rfl
    refine .inr ⟨⟨some w.heap.size, 0, cp, sz, []⟩, by simp [phiSet], ?_⟩
    rw [hget_hput, if_pos rfl]
    exact ⟨_, cs, e, rfl, rfl, hnew, VRels_keep ⟨hle, hT, fun b hb _ => hold b hb, by rw [hh]; simp⟩ _ _ hc⟩
  · intro i β hi
    by_cases h : i = n
    · exact .inr ⟨by omega, by omega⟩
    · exact .inl (r.dm i β (by simpa [phiSet, h] using hi))

theorem R_box (r : R B w0 Dm φ σ kp a w) {n : Nat} (hd : hget σ.heap n = .dead) (hn : ¬ Dm n) {cells : List V} {cs : Array Value} {e : TypeId} (hc : VRels φ (NotTop φ σ.heap) w.heap cells cs.toList) {w' : World}
    (hh : w'.heap = w.heap.push (.cells cs e)) (hb : Bel B w0 w') :
    R B w0 (fun i => Dm i ∨ (n ≤ i ∧ i < n + 1)) (phiSet φ n ⟨some w.heap.size, 0, 0, 0, []⟩) ⟨σ.tmps, hput σ.heap n (.box cells)⟩ kp a w' := R_boxc 0 0 r hd hn hc hh hb

/-! ### Elements out of values -/

/-- A value as a datum of an element, with the owned slices that it takes over. -/
def toD (hs : List H) (v : V) : Option (D × List Nat) :=
  match v with
  | .d x => if x.flat then some (x, []) else none
  | .nils s => some (.sl s [], [])
  | .sl id off len => match hget hs id with | .arr sz xs true => if off + len ≤ xs.length then some (.sl sz ((xs.drop off).take len), [id]) else none | _ => none
  | _ => none

def toDs (hs : List H) : List V → Option (List D × List Nat)
  | [] => some ([], [])
  | v :: vs => match toD hs v, toDs hs vs with | some (d, i), some (ds, is) => some (d :: ds, i ++ is) | _, _ => none

/-- The elements of an entry that owns them. -/
def H.mine : H → Option (Nat × List (List D))
  | .arr sz xs true => some (sz, xs)
  | .cln sz xs => some (sz, xs)
  | _ => none

theorem H.mine_own {x : H} {p : Nat × List (List D)} (h : x.mine = some p) : x.own = true ∧ x.live = true := by
  cases x <;> first | exact ⟨rfl, rfl⟩ | (rename_i nf; cases nf <;> first | exact ⟨rfl, rfl⟩ | cases h) | cases h

theorem mine_rel {φ : Phi} {T : Nat → Prop} {h : Array Obj} {β : Blk} {x : H} {sz : Nat} {xs : List (List D)} (he : x.mine = some (sz, xs)) (r : HRel φ T h β x) : β.sz = sz ∧ ((β.blk = none ∧ xs = [] ∧ β.cap = 0 ∧ β.nest = []) ∨
    ∃ b, β.blk = some b ∧ xs.length ≤ β.cap ∧ roomy h b (β.off + β.cap * sz) ∧ repE h true b β.off sz xs β.nest) := by
  cases x with
  | arr sz' xs' nf =>
    cases nf with
    | false => cases he
    | true =>
      simp only [H.mine, Option.some.injEq, Prod.mk.injEq] at he
      obtain ⟨rfl, rfl⟩ := he
      simp only [HRel] at r
      obtain ⟨r0, r⟩ := r
      refine ⟨r0, r.imp id ?_⟩
      rintro ⟨b, G, r1, r2, r3, r4, r5, r6⟩
      exact ⟨b, r1, r2, r3, (r5 trivial) ▸ r4⟩
  | cln sz' xs' =>
    simp only [H.mine, Option.some.injEq, Prod.mk.injEq] at he
    obtain ⟨rfl, rfl⟩ := he
    simpa only [HRel] using r
  | _ => cases he

/-- An owned slice, as owned data. -/
theorem own_rep' (r : R B w0 Dm φ σ kp a w) {id off len : Nat} {sz : Nat} {xs : List (List D)} (hx : (hget σ.heap id).mine = some (sz, xs)) (hl : off + len ≤ xs.length) {u : Value} (ru : VRel φ (NotTop φ σ.heap) w.heap (.sl id off len) u) :
    ∃ F, rep w.heap true (.sl sz ((xs.drop off).take len)) u F ∧ F.Nodup ∧ ∀ b ∈ F, Owns φ σ.heap id b := by
  obtain ⟨β, ad, c, e1, e2, e3, e4, e5⟩ := rel_sl ru
  rcases r.hp id with hd | ⟨β', e1', hr⟩
  · rw [hd] at hx; cases hx
  · rw [e1] at e1'; cases e1'
    obtain ⟨hs, hr⟩ := mine_rel hx hr
    obtain ⟨hown, hlive⟩ := H.mine_own hx
    have hlen : ((xs.drop off).take len).length = len := by simp; omega
    simp only [rep]
    by_cases hne : len = 0
    · have h0 : (xs.drop off).take len = [] := List.eq_nil_of_length_eq_zero (by omega)
      rcases e5 with e5 | ⟨b, e5, e6, e7⟩
      · exact ⟨[], ⟨ad, c, by rw [hlen]; exact e2, by omega, e4, .inl ⟨h0, rfl, fun _ => e5.1⟩⟩, List.nodup_nil, by simp⟩
      · rcases hr with hr | ⟨b', r1, r2, r3, r4⟩
        · rw [e5] at hr; cases hr.1
        · rw [e5] at r1; cases r1
          rcases Nat.eq_zero_or_pos c with hc0 | hc0
          · exact ⟨[], ⟨ad, c, by rw [hlen]; exact e2, by omega, e4, .inl ⟨h0, rfl, fun _ => hc0⟩⟩, List.nodup_nil, by simp⟩
          refine ⟨[b], ⟨ad, c, by rw [hlen]; exact e2, by omega, e4, .inr ⟨b, _, [], e6, rfl, r3.lt, by rw [h0]; simp [repE], fun _ => ⟨hc0, ?_⟩⟩⟩, by simp, ?_⟩
          · obtain ⟨cs, t, c1, c2⟩ := r3
            refine ⟨cs, t, c1, Nat.le_trans ?_ c2⟩
            rw [hs, Nat.add_assoc, ← Nat.add_mul]
            exact Nat.add_le_add_left (Nat.mul_le_mul_right _ (Nat.le_of_eq e7)) _
          · intro x hx'; simp only [List.mem_singleton] at hx'; subst hx'
            exact ⟨β, e1, .inl ⟨hlive, e5⟩⟩
    · rcases e5 with e5 | ⟨b, e5, e6, e7⟩
      · omega
      · rcases hr with hr | ⟨b', r1, r2, r3, r4⟩
        · rw [hr.2.1] at hl; simp at hl; omega
        · rw [e5] at r1; cases r1
          generalize hG : β.nest = G at r4
          have hsplit : xs = xs.take off ++ ((xs.drop off).take len ++ (xs.drop off).drop len) := by rw [List.take_append_drop, List.take_append_drop]
          have htl : (xs.take off).length = off := by simp; omega
          rw [hsplit] at r4
          obtain ⟨G1, G2, rfl, k1, k2⟩ := (repE_append _ _ _ _).1 r4
          obtain ⟨G3, G4, rfl, k3, k4⟩ := (repE_append _ _ _ _).1 k2
          rw [htl] at k3
          have ho2 := r.o2 id β e1 hown
          rw [hG] at ho2
          refine ⟨b :: G3, ⟨ad, c, by rw [hlen]; exact e2, by omega, e4, .inr ⟨b, _, G3, e6, rfl, r3.lt, by rw [hs]; exact k3, fun _ => ⟨by omega, ?_⟩⟩⟩, ?_, ?_⟩
          · obtain ⟨cs, t, c1, c2⟩ := r3
            refine ⟨cs, t, c1, Nat.le_trans ?_ c2⟩
            rw [hs, Nat.add_assoc, ← Nat.add_mul]
            exact Nat.add_le_add_left (Nat.mul_le_mul_right _ (Nat.le_of_eq e7)) _
          · refine List.nodup_cons.2 ⟨fun hb => ho2.2 b e5 (by simp [hb]), ?_⟩
            have := ho2.1
            rw [List.nodup_append] at this
            have := this.2.1
            rw [List.nodup_append] at this
            exact this.1
          · intro x hx'
            rcases List.mem_cons.1 hx' with rfl | hx'
            · exact ⟨β, e1, .inl ⟨hlive, e5⟩⟩
            · exact ⟨β, e1, .inr ⟨hown, by rw [hG]; simp [hx']⟩⟩

theorem own_rep (r : R B w0 Dm φ σ kp a w) {id off len : Nat} {sz : Nat} {xs : List (List D)} (hx : hget σ.heap id = .arr sz xs true) (hl : off + len ≤ xs.length) {u : Value} (ru : VRel φ (NotTop φ σ.heap) w.heap (.sl id off len) u) :
    ∃ F, rep w.heap true (.sl sz ((xs.drop off).take len)) u F ∧ F.Nodup ∧ ∀ b ∈ F, Owns φ σ.heap id b := own_rep' r (by rw [hx]; rfl) hl ru

theorem toD_rel (r : R B w0 Dm φ σ kp a w) {v : V} {d : D} {ids : List Nat} (h : toD σ.heap v = some (d, ids)) {u : Value} (ru : VRel φ (NotTop φ σ.heap) w.heap v u) :
    ∃ F, rep w.heap true d u F ∧ F.Nodup ∧ (∀ b ∈ F, ∃ id ∈ ids, Owns φ σ.heap id b) ∧ ∀ id ∈ ids, ∃ sz xs, hget σ.heap id = .arr sz xs true := by
  unfold toD at h
  split at h
  · split at h
    · rename_i x hf
      simp only [Option.some.injEq, Prod.mk.injEq] at h
      obtain ⟨rfl, rfl⟩ := h
      simp only [VRel] at ru
      obtain ⟨F, r1, _⟩ := ru
      have := rep_flat hf r1; subst this
      exact ⟨[], rep_flat_any hf r1, List.nodup_nil, by simp, by simp⟩
    · cases h
  · simp only [Option.some.injEq, Prod.mk.injEq] at h
    obtain ⟨rfl, rfl⟩ := h
    simp only [VRel] at ru
    subst ru
    exact ⟨[], ⟨none, 0, rfl, by simp, by decide, .inl ⟨rfl, rfl, fun _ => rfl⟩⟩, List.nodup_nil, by simp, by simp⟩
  · rename_i id off len
    split at h
    · rename_i sz xs hx
      split at h
      · rename_i hl
        simp only [Option.some.injEq, Prod.mk.injEq] at h
        obtain ⟨rfl, rfl⟩ := h
        obtain ⟨F, k1, k2, k3⟩ := own_rep r hx hl ru
        exact ⟨F, k1, k2, fun b hb => ⟨id, by simp, k3 b hb⟩, by simp [hx]⟩
      · cases h
    · cases h
  · cases h

/-! ### A new array, made of what is consumed -/

theorem hget_hupd : ∀ (upd : List (Nat × H)) (hs : List H) (i : Nat), (∃ x, (i, x) ∈ upd ∧ hget (hupd hs upd) i = x) ∨ ((∀ x, (i, x) ∉ upd) ∧ hget (hupd hs upd) i = hget hs i)
  | [], hs, i => .inr ⟨by simp, rfl⟩
  | (j, y) :: r, hs, i => by
    rw [hupd]
    rcases hget_hupd r (hput hs j y) i with ⟨x, h1, h2⟩ | ⟨h1, h2⟩
    · exact .inl ⟨x, by simp [h1], h2⟩
    · rw [hget_hput] at h2
      by_cases h : i = j
      · subst h; rw [if_pos rfl] at h2; exact .inl ⟨y, by simp, h2⟩
      · rw [if_neg h] at h2
        exact .inr ⟨fun x hx => by
          rcases List.mem_cons.1 hx with hx | hx
          · cases hx; exact h rfl
          · exact h1 x hx, h2⟩

theorem R_mk (r : R B w0 Dm φ σ kp a w) {n : Nat} (hd : hget σ.heap n = .dead) (hn : ¬ Dm n) {upd : List (Nat × H)} (hnd : (upd.map (·.1)).Nodup)
    (hu : ∀ p ∈ upd, ∃ sz xs, hget σ.heap p.1 = .arr sz xs true ∧ (p.2 = .dead ∨ p.2 = .ro sz xs)) {β : Blk} {sz : Nat} {xs : List (List D)} (hsz : β.sz = sz) {w' : World} (hs : w.heap.size ≤ w'.heap.size) (hb : Bel B w0 w')
    (hkeep : ∀ b, b < w.heap.size → (∀ p ∈ upd, p.2 = .dead → ∀ β', φ p.1 = some β' → β'.blk ≠ some b) → w'.heap[b]? = w.heap[b]?)
    (hrel : (β.blk = none ∧ xs = [] ∧ β.cap = 0 ∧ β.nest = []) ∨ ∃ b, β.blk = some b ∧ xs.length ≤ β.cap ∧ roomy w'.heap b (β.off + β.cap * sz) ∧ repE w'.heap true b β.off sz xs β.nest)
    (htop : ∀ b, β.blk = some b → w.heap.size ≤ b ∨ ∃ p ∈ upd, p.2 = .dead ∧ ∃ β', φ p.1 = some β' ∧ β'.blk = some b)
    (hnest : ∀ b ∈ β.nest, w.heap.size ≤ b ∨ ∃ p ∈ upd, Owns φ σ.heap p.1 b) (hndn : β.nest.Nodup) (hbn : ∀ b, β.blk = some b → b ∉ β.nest) :
    R B w0 (fun i => Dm i ∨ (n ≤ i ∧ i < n + 1)) (phiSet φ n β) ⟨σ.tmps, hupd (hput σ.heap n (.arr sz xs true)) upd⟩ kp a w' := by
  have hφn : φ n = none := by
    cases h : φ n with
    | none => rfl
    | some β => exact absurd (r.dm n β h) hn
  have hnu : ∀ x, (n, x) ∉ upd := fun x hx => by
    obtain ⟨s, ys, h1, _⟩ := hu _ hx
    rw [hd] at h1; cases h1
  have hle : Le φ (phiSet φ n β) := fun i β' hi => by
    have : i ≠ n := fun e => by subst e; rw [hφn] at hi; cases hi
    exact ⟨β', by simp [phiSet, this, hi], rfl, rfl, rfl, rfl⟩
  have hn' : hget (hupd (hput σ.heap n (.arr sz xs true)) upd) n = .arr sz xs true := by
    rcases hget_hupd upd (hput σ.heap n (.arr sz xs true)) n with ⟨x, h1, _⟩ | ⟨_, h2⟩
    · exact absurd h1 (hnu x)
    · rw [h2, hget_hput, if_pos rfl]
  have hin : ∀ i x, (i, x) ∈ upd → hget (hupd (hput σ.heap n (.arr sz xs true)) upd) i = x := by
    intro i x hx
    rcases hget_hupd upd (hput σ.heap n (.arr sz xs true)) i with ⟨y, h1, h2⟩ | ⟨h1, _⟩
    · have : y = x := by
        have hp : List.Pairwise (fun p q => p.1 ≠ q.1) upd := by simpa [List.Nodup, List.pairwise_map] using hnd
        by_cases hxy : y = x
        · exact hxy
        · exfalso
          have := List.Pairwise.forall_of_forall_of_flip (R := fun p q : Nat × H => p = q ∨ p.1 ≠ q.1) (l := upd) (fun p _ => .inl rfl) (hp.imp fun h => .inr h) (hp.imp fun h => .inr (Ne.symm h)) h1 hx
          rcases this with this | this
          · cases this; exact hxy rfl
          · exact this rfl
      rw [h2, this]
    · exact absurd hx (h1 x)
  have hout : ∀ i, i ≠ n → (∀ x, (i, x) ∉ upd) → hget (hupd (hput σ.heap n (.arr sz xs true)) upd) i = hget σ.heap i := by
    intro i hi hx
    rcases hget_hupd upd (hput σ.heap n (.arr sz xs true)) i with ⟨y, h1, h2⟩ | ⟨_, h2⟩
    · exact absurd h1 (hx y)
    · rw [h2, hget_hput, if_neg hi]
  have hphi : ∀ i, i ≠ n → phiSet φ n β i = φ i := fun i hi => by simp [phiSet, hi]
  have hroN : ∀ i x, (i, x) ∈ upd → x.live = false ∧ x.own = false := by
    intro i x hx
    obtain ⟨s, ys, _, h2⟩ := hu _ hx
    rcases h2 with h2 | h2 <;> simp only at h2 <;> subst h2 <;> exact ⟨rfl, rfl⟩
  have hroT : ∀ i x, (i, x) ∈ upd → ∀ β' b, ¬ TopOf x β' b := by
    intro i x hx β' b ht
    rcases ht with ⟨h, _⟩ | ⟨h, _⟩
    · rw [(hroN i x hx).1] at h; cases h
    · have := H.shut_own h; rw [(hroN i x hx).2] at this; cases this
  have hown' : ∀ i, (i = n ∨ ∃ x, (i, x) ∈ upd) → ∀ b, Owns (phiSet φ n β) (hupd (hput σ.heap n (.arr sz xs true)) upd) i b → i = n ∧ (β.blk = some b ∨ b ∈ β.nest) := by
    rintro i (rfl | ⟨x, hx⟩) b ⟨β', h1, h2⟩
    · simp only [phiSet, if_true, Option.some.injEq] at h1; subst h1
      refine ⟨rfl, ?_⟩
      rcases h2 with ⟨_, h2⟩ | ⟨_, h2⟩
      · exact .inl h2
      · exact .inr h2
    · rw [hin i x hx] at h2
      obtain ⟨k1, k2⟩ := hroN i x hx
      rcases h2 with ⟨h2, _⟩ | ⟨h2, _⟩
      · rw [k1] at h2; cases h2
      · rw [k2] at h2; cases h2
  have hOwnTop : ∀ p ∈ upd, ∀ β' b, φ p.1 = some β' → β'.blk = some b → Owns φ σ.heap p.1 b := by
    intro p hp β' b h1 h2
    obtain ⟨s, ys, h3, _⟩ := hu p hp
    exact ⟨β', h1, .inl ⟨by rw [h3]; rfl, h2⟩⟩
  have hTn : ∀ b, b < w.heap.size → NotTop φ σ.heap b → NotTop (phiSet φ n β) (hupd (hput σ.heap n (.arr sz xs true)) upd) b := by
    intro b hb' ht i β' hi he
    by_cases h : i = n
    · subst h; simp only [phiSet, if_true, Option.some.injEq] at hi; subst hi
      rw [hn'] at he
      rcases he with ⟨_, he⟩ | ⟨he, _⟩
      · rcases htop b he with h1 | ⟨p, hp, _, β', h1, h2⟩
        · omega
        · obtain ⟨s, ys, h3, _⟩ := hu p hp
          exact ht p.1 β' h1 (.inl ⟨by rw [h3]; rfl, h2⟩)
      · cases he
    · rw [hphi i h] at hi
      by_cases hx : ∃ x, (i, x) ∈ upd
      · obtain ⟨x, hx⟩ := hx
        rw [hin i x hx] at he; exact hroT i x hx _ _ he
      · rw [hout i h (fun x hx' => hx ⟨x, hx'⟩)] at he
        exact ht i β' hi he
  refine R_change r (fun i => i = n ∨ ∃ x, (i, x) ∈ upd) _ _ _ w' (fun i hi => ?_) hle hs (fun b hb' ht => ?_) (fun i hi b ho => ?_) (fun i hi β' h1 b h2 => ?_) (fun i j b hi hj h1 h2 => ?_) (fun i β' hi h1 hx => ?_) (fun i hi => ?_) (fun i β' hi => ?_) hb
  · exact ⟨hout i (fun e => hi (.inl e)) (fun x hx => hi (.inr ⟨x, hx⟩)), hphi i (fun e => hi (.inl e))⟩
  · refine hkeep b hb' fun p hp _ β' h1 h2 => ?_
    obtain ⟨s, ys, h3, _⟩ := hu p hp
    exact ht p.1 (.inr ⟨p.2, hp⟩) β' h1 (.inl ⟨by rw [h3]; rfl, h2⟩)
  · obtain ⟨rfl, h1⟩ := hown' i hi b ho
    rcases h1 with h1 | h1
    · rcases htop b h1 with h2 | ⟨p, hp, _, β', h2, h3⟩
      · exact .inl h2
      · exact .inr ⟨p.1, .inr ⟨p.2, hp⟩, hOwnTop p hp β' b h2 h3⟩
    · rcases hnest b h1 with h2 | ⟨p, hp, h2⟩
      · exact .inl h2
      · exact .inr ⟨p.1, .inr ⟨p.2, hp⟩, h2⟩
  · have ho : Owns (phiSet φ n β) (hupd (hput σ.heap n (.arr sz xs true)) upd) i b := TopOf.owns h1 h2
    obtain ⟨rfl, _⟩ := hown' i hi b ho
    simp only [phiSet, if_true, Option.some.injEq] at h1; subst h1
    rw [hn'] at h2
    rcases h2 with ⟨_, h2⟩ | ⟨h2, _⟩
    · rcases htop b h2 with h3 | ⟨p, hp, _, β', h3, h4⟩
      · exact .inl h3
      · obtain ⟨s, ys, h5, _⟩ := hu p hp
        exact .inr ⟨p.1, β', .inr ⟨p.2, hp⟩, h3, .inl ⟨by rw [h5]; rfl, h4⟩⟩
    · cases h2
  · rw [(hown' i hi b h1).1, (hown' j hj b h2).1]
  · rcases hi with rfl | ⟨x, hx'⟩
    · simp only [phiSet, if_true, Option.some.injEq] at h1; subst h1
      exact ⟨hndn, hbn⟩
    · rw [hin i x hx', (hroN i x hx').2] at hx; cases hx
  · rcases hi with rfl | ⟨x, hx⟩
    · refine .inr ⟨β, by simp [phiSet], ?_⟩
      rw [hn']
      refine ⟨hsz, ?_⟩
      rcases hrel with h1 | ⟨b, h1, h2, h3, h4⟩
      · exact .inl h1
      · exact .inr ⟨b, β.nest, h1, h2, h3, h4, fun _ => rfl, fun h => by cases h⟩
    · rw [hin i x hx]
      obtain ⟨s, ys, h1, h2⟩ := hu _ hx
      rcases h2 with h2 | h2
      · exact .inl h2
      · simp only at h2 h1; subst h2
        have hin' : i ≠ n := fun e => by subst e; exact hnu _ hx
        rcases r.hp i with hd' | ⟨β', e1, hr⟩
        · rw [h1] at hd'; cases hd'
        · refine .inr ⟨β', by rw [hphi i hin']; exact e1, ?_⟩
          rw [h1] at hr
          obtain ⟨hr1, hr⟩ := hr
          refine ⟨hr1, ?_⟩
          rcases hr with hr | ⟨b, G, r1, r2, r3, r4, r5, r6⟩
          · exact .inl hr.2.1
          · have hG := r5 rfl
            have hob : Owns φ σ.heap i b := ⟨β', e1, .inl ⟨by rw [h1]; rfl, r1⟩⟩
            have hog : ∀ g ∈ G, Owns φ σ.heap i g := fun g hg => ⟨β', e1, .inr ⟨by rw [h1]; rfl, hG ▸ hg⟩⟩
            have hk : ∀ c, Owns φ σ.heap i c → w'.heap[c]? = w.heap[c]? := by
              intro c hc
              refine hkeep c (Owns.lt r hc) fun p hp hpd β2 q1 q2 => ?_
              have := r.o1 i p.1 c hc (hOwnTop p hp β2 c q1 q2)
              have h3 := hin p.1 p.2 hp
              rw [← this, hin i _ hx, hpd] at h3; cases h3
            have hT : ∀ c, Owns φ σ.heap i c → NotTop (phiSet φ n β) (hupd (hput σ.heap n (.arr sz xs true)) upd) c ∨ ∃ b', β.blk = some b' ∧ b' = c := by
              intro c hc
              by_cases hbc : β.blk = some c
              · exact .inr ⟨c, hbc, rfl⟩
              · refine .inl fun j β2 hj he => ?_
                by_cases h : j = n
                · subst h; simp only [phiSet, if_true, Option.some.injEq] at hj; subst hj
                  rw [hn'] at he
                  rcases he with ⟨_, he⟩ | ⟨he, _⟩
                  · exact hbc he
                  · cases he
                · rw [hphi j h] at hj
                  by_cases hxj : ∃ x, (j, x) ∈ upd
                  · obtain ⟨x, hxj⟩ := hxj
                    rw [hin j x hxj] at he; exact hroT j x hxj _ _ he
                  · rw [hout j h (fun x hx' => hxj ⟨x, hx'⟩)] at he
                    have := r.o1 i j c hc (TopOf.owns hj he)
                    exact hxj ⟨_, this ▸ hx⟩
            have hT' : ∀ c, Owns φ σ.heap i c → NotTop (phiSet φ n β) (hupd (hput σ.heap n (.arr sz xs true)) upd) c := by
              intro c hc
              rcases hT c hc with h | ⟨b', q1, rfl⟩
              · exact h
              · exfalso
                rcases htop b' q1 with h3 | ⟨p, hp, hpd, β2, q2, q3⟩
                · have := Owns.lt r hc; omega
                · have := r.o1 i p.1 b' hc (hOwnTop p hp β2 b' q2 q3)
                  have h3 := hin p.1 p.2 hp
                  rw [← this, hin i _ hx, hpd] at h3; cases h3
            exact .inr ⟨b, G, r1, hT' b hob, Nat.lt_of_lt_of_le r3.lt hs, repE_mono hs ys b β'.off s G (hk b hob) (fun g hg => hk g (hog g hg)) (repE_false _ _ _ _ _ r4), fun g hg => hT' g (hog g hg)⟩
  · by_cases h : i = n
    · exact .inr ⟨by omega, by omega⟩
    · exact .inl (r.dm i β' (by rw [← hphi i h]; exact hi))
/-- An array whose elements are written, out of what is consumed. -/
theorem R_set (r : R B w0 Dm φ σ kp a w) {n : Nat} {upd : List (Nat × H)} (hnd : (upd.map (·.1)).Nodup)
    (hu : ∀ p ∈ upd, ∃ sz xs, hget σ.heap p.1 = .arr sz xs true ∧ (p.2 = .dead ∨ p.2 = .ro sz xs)) {β β0 : Blk} {s0 : Nat} {ys0 : List (List D)} (e0 : φ n = some β0) (h0 : hget σ.heap n = .arr s0 ys0 true) (hpl : β.blk = β0.blk ∧ β.off = β0.off ∧ β.cap = β0.cap ∧ β.sz = β0.sz) (hnu : ∀ x, (n, x) ∉ upd) {sz : Nat} {xs : List (List D)} (hsz : β.sz = sz) {w' : World} (hs : w.heap.size ≤ w'.heap.size) (hb : Bel B w0 w')
    (hkeep : ∀ b, b < w.heap.size → β0.blk ≠ some b → (∀ p ∈ upd, p.2 = .dead → ∀ β', φ p.1 = some β' → β'.blk ≠ some b) → w'.heap[b]? = w.heap[b]?)
    (hrel : (β.blk = none ∧ xs = [] ∧ β.cap = 0 ∧ β.nest = []) ∨ ∃ b, β.blk = some b ∧ xs.length ≤ β.cap ∧ roomy w'.heap b (β.off + β.cap * sz) ∧ repE w'.heap true b β.off sz xs β.nest)
    (hnest : ∀ b ∈ β.nest, Owns φ σ.heap n b ∨ ∃ p ∈ upd, Owns φ σ.heap p.1 b) (hndn : β.nest.Nodup) (hbn : ∀ b, β.blk = some b → b ∉ β.nest) :
    R B w0 Dm (phiSet φ n β) ⟨σ.tmps, hupd (hput σ.heap n (.arr sz xs true)) upd⟩ kp a w' := by
  have hle : Le φ (phiSet φ n β) := fun i β' hi => by
    by_cases h : i = n
    · subst h; rw [e0] at hi; cases hi
      exact ⟨β, by simp [phiSet], hpl.1, hpl.2.1, hpl.2.2.1, hpl.2.2.2⟩
    · exact ⟨β', by simp [phiSet, h, hi], rfl, rfl, rfl, rfl⟩
  have hn' : hget (hupd (hput σ.heap n (.arr sz xs true)) upd) n = .arr sz xs true := by
    rcases hget_hupd upd (hput σ.heap n (.arr sz xs true)) n with ⟨x, h1, _⟩ | ⟨_, h2⟩
    · exact absurd h1 (hnu x)
    · rw [h2, hget_hput, if_pos rfl]
  have hin : ∀ i x, (i, x) ∈ upd → hget (hupd (hput σ.heap n (.arr sz xs true)) upd) i = x := by
    intro i x hx
    rcases hget_hupd upd (hput σ.heap n (.arr sz xs true)) i with ⟨y, h1, h2⟩ | ⟨h1, _⟩
    · have : y = x := by
        have hp : List.Pairwise (fun p q => p.1 ≠ q.1) upd := by simpa [List.Nodup, List.pairwise_map] using hnd
        by_cases hxy : y = x
        · exact hxy
        · exfalso
          have := List.Pairwise.forall_of_forall_of_flip (R := fun p q : Nat × H => p = q ∨ p.1 ≠ q.1) (l := upd) (fun p _ => .inl rfl) (hp.imp fun h => .inr h) (hp.imp fun h => .inr (Ne.symm h)) h1 hx
          rcases this with this | this
          · cases this; exact hxy rfl
          · exact this rfl
      rw [h2, this]
    · exact absurd hx (h1 x)
  have hout : ∀ i, i ≠ n → (∀ x, (i, x) ∉ upd) → hget (hupd (hput σ.heap n (.arr sz xs true)) upd) i = hget σ.heap i := by
    intro i hi hx
    rcases hget_hupd upd (hput σ.heap n (.arr sz xs true)) i with ⟨y, h1, h2⟩ | ⟨_, h2⟩
    · exact absurd h1 (hx y)
    · rw [h2, hget_hput, if_neg hi]
  have hphi : ∀ i, i ≠ n → phiSet φ n β i = φ i := fun i hi => by simp [phiSet, hi]
  have hroN : ∀ i x, (i, x) ∈ upd → x.live = false ∧ x.own = false := by
    intro i x hx
    obtain ⟨s, ys, _, h2⟩ := hu _ hx
    rcases h2 with h2 | h2 <;> simp only at h2 <;> subst h2 <;> exact ⟨rfl, rfl⟩
  have hroT : ∀ i x, (i, x) ∈ upd → ∀ β' b, ¬ TopOf x β' b := by
    intro i x hx β' b ht
    rcases ht with ⟨h, _⟩ | ⟨h, _⟩
    · rw [(hroN i x hx).1] at h; cases h
    · have := H.shut_own h; rw [(hroN i x hx).2] at this; cases this
  have hown' : ∀ i, (i = n ∨ ∃ x, (i, x) ∈ upd) → ∀ b, Owns (phiSet φ n β) (hupd (hput σ.heap n (.arr sz xs true)) upd) i b → i = n ∧ (β.blk = some b ∨ b ∈ β.nest) := by
    rintro i (rfl | ⟨x, hx⟩) b ⟨β', h1, h2⟩
    · simp only [phiSet, if_true, Option.some.injEq] at h1; subst h1
      refine ⟨rfl, ?_⟩
      rcases h2 with ⟨_, h2⟩ | ⟨_, h2⟩
      · exact .inl h2
      · exact .inr h2
    · rw [hin i x hx] at h2
      obtain ⟨k1, k2⟩ := hroN i x hx
      rcases h2 with ⟨h2, _⟩ | ⟨h2, _⟩
      · rw [k1] at h2; cases h2
      · rw [k2] at h2; cases h2
  have hOwnTop : ∀ p ∈ upd, ∀ β' b, φ p.1 = some β' → β'.blk = some b → Owns φ σ.heap p.1 b := by
    intro p hp β' b h1 h2
    obtain ⟨s, ys, h3, _⟩ := hu p hp
    exact ⟨β', h1, .inl ⟨by rw [h3]; rfl, h2⟩⟩
  have hTn : ∀ b, b < w.heap.size → NotTop φ σ.heap b → NotTop (phiSet φ n β) (hupd (hput σ.heap n (.arr sz xs true)) upd) b := by
    intro b hb' ht i β' hi he
    by_cases h : i = n
    · subst h; simp only [phiSet, if_true, Option.some.injEq] at hi; subst hi
      rw [hn'] at he
      rcases he with ⟨_, he⟩ | ⟨he, _⟩
      · exact ht i β0 e0 (.inl ⟨by rw [h0]; rfl, hpl.1 ▸ he⟩)
      · cases he
    · rw [hphi i h] at hi
      by_cases hx : ∃ x, (i, x) ∈ upd
      · obtain ⟨x, hx⟩ := hx
        rw [hin i x hx] at he; exact hroT i x hx _ _ he
      · rw [hout i h (fun x hx' => hx ⟨x, hx'⟩)] at he
        exact ht i β' hi he
  refine R_change r (fun i => i = n ∨ ∃ x, (i, x) ∈ upd) _ _ _ w' (fun i hi => ?_) hle hs (fun b hb' ht => ?_) (fun i hi b ho => ?_) (fun i hi β' h1 b h2 => ?_) (fun i j b hi hj h1 h2 => ?_) (fun i β' hi h1 hx => ?_) (fun i hi => ?_) (fun i β' hi => ?_) hb
  · exact ⟨hout i (fun e => hi (.inl e)) (fun x hx => hi (.inr ⟨x, hx⟩)), hphi i (fun e => hi (.inl e))⟩
  · refine hkeep b hb' (fun hbl => ht n (.inl rfl) β0 e0 (.inl ⟨by rw [h0]; rfl, hbl⟩)) fun p hp _ β' h1 h2 => ?_
    obtain ⟨s, ys, h3, _⟩ := hu p hp
    exact ht p.1 (.inr ⟨p.2, hp⟩) β' h1 (.inl ⟨by rw [h3]; rfl, h2⟩)
  · obtain ⟨rfl, h1⟩ := hown' i hi b ho
    rcases h1 with h1 | h1
    · exact .inr ⟨i, .inl rfl, β0, e0, .inl ⟨by rw [h0]; rfl, hpl.1 ▸ h1⟩⟩
    · rcases hnest b h1 with h2 | ⟨p, hp, h2⟩
      · exact .inr ⟨i, .inl rfl, h2⟩
      · exact .inr ⟨p.1, .inr ⟨p.2, hp⟩, h2⟩
  · have ho : Owns (phiSet φ n β) (hupd (hput σ.heap n (.arr sz xs true)) upd) i b := TopOf.owns h1 h2
    obtain ⟨rfl, _⟩ := hown' i hi b ho
    simp only [phiSet, if_true, Option.some.injEq] at h1; subst h1
    rw [hn'] at h2
    rcases h2 with ⟨_, h2⟩ | ⟨h2, _⟩
    · exact .inr ⟨i, β0, .inl rfl, e0, .inl ⟨by rw [h0]; rfl, hpl.1 ▸ h2⟩⟩
    · cases h2
  · rw [(hown' i hi b h1).1, (hown' j hj b h2).1]
  · rcases hi with rfl | ⟨x, hx'⟩
    · simp only [phiSet, if_true, Option.some.injEq] at h1; subst h1
      exact ⟨hndn, hbn⟩
    · rw [hin i x hx', (hroN i x hx').2] at hx; cases hx
  · rcases hi with rfl | ⟨x, hx⟩
    · refine .inr ⟨β, by simp [phiSet], ?_⟩
      rw [hn']
      refine ⟨hsz, ?_⟩
      rcases hrel with h1 | ⟨b, h1, h2, h3, h4⟩
      · exact .inl h1
      · exact .inr ⟨b, β.nest, h1, h2, h3, h4, fun _ => rfl, fun h => by cases h⟩
    · rw [hin i x hx]
      obtain ⟨s, ys, h1, h2⟩ := hu _ hx
      rcases h2 with h2 | h2
      · exact .inl h2
      · simp only at h2 h1; subst h2
        have hin' : i ≠ n := fun e => by subst e; exact hnu _ hx
        rcases r.hp i with hd' | ⟨β', e1, hr⟩
        · rw [h1] at hd'; cases hd'
        · refine .inr ⟨β', by rw [hphi i hin']; exact e1, ?_⟩
          rw [h1] at hr
          obtain ⟨hr1, hr⟩ := hr
          refine ⟨hr1, ?_⟩
          rcases hr with hr | ⟨b, G, r1, r2, r3, r4, r5, r6⟩
          · exact .inl hr.2.1
          · have hG := r5 rfl
            have hob : Owns φ σ.heap i b := ⟨β', e1, .inl ⟨by rw [h1]; rfl, r1⟩⟩
            have hog : ∀ g ∈ G, Owns φ σ.heap i g := fun g hg => ⟨β', e1, .inr ⟨by rw [h1]; rfl, hG ▸ hg⟩⟩
            have hk : ∀ c, Owns φ σ.heap i c → w'.heap[c]? = w.heap[c]? := by
              intro c hc
              refine hkeep c (Owns.lt r hc) (fun hc0 => hin' (r.o1 i n c hc ⟨β0, e0, .inl ⟨by rw [h0]; rfl, hc0⟩⟩)) fun p hp hpd β2 q1 q2 => ?_
              have := r.o1 i p.1 c hc (hOwnTop p hp β2 c q1 q2)
              have h3 := hin p.1 p.2 hp
              rw [← this, hin i _ hx, hpd] at h3; cases h3
            have hT : ∀ c, Owns φ σ.heap i c → NotTop (phiSet φ n β) (hupd (hput σ.heap n (.arr sz xs true)) upd) c ∨ ∃ b', β.blk = some b' ∧ b' = c := by
              intro c hc
              by_cases hbc : β.blk = some c
              · exact .inr ⟨c, hbc, rfl⟩
              · refine .inl fun j β2 hj he => ?_
                by_cases h : j = n
                · subst h; simp only [phiSet, if_true, Option.some.injEq] at hj; subst hj
                  rw [hn'] at he
                  rcases he with ⟨_, he⟩ | ⟨he, _⟩
                  · exact hbc he
                  · cases he
                · rw [hphi j h] at hj
                  by_cases hxj : ∃ x, (j, x) ∈ upd
                  · obtain ⟨x, hxj⟩ := hxj
                    rw [hin j x hxj] at he; exact hroT j x hxj _ _ he
                  · rw [hout j h (fun x hx' => hxj ⟨x, hx'⟩)] at he
                    have := r.o1 i j c hc (TopOf.owns hj he)
                    exact hxj ⟨_, this ▸ hx⟩
            have hT' : ∀ c, Owns φ σ.heap i c → NotTop (phiSet φ n β) (hupd (hput σ.heap n (.arr sz xs true)) upd) c := by
              intro c hc
              rcases hT c hc with h | ⟨b', q1, rfl⟩
              · exact h
              · exfalso
                exact hin' (r.o1 i n b' hc ⟨β0, e0, .inl ⟨by rw [h0]; rfl, hpl.1 ▸ q1⟩⟩)
            exact .inr ⟨b, G, r1, hT' b hob, Nat.lt_of_lt_of_le r3.lt hs, repE_mono hs ys b β'.off s G (hk b hob) (fun g hg => hk g (hog g hg)) (repE_false _ _ _ _ _ r4), fun g hg => hT' g (hog g hg)⟩
  · by_cases h : i = n
    · subst h; exact r.dm i β0 e0
    · exact r.dm i β' (by rw [← hphi i h]; exact hi)
end

end Gv
