/-
  The abstract machine's states and their relation to a frame and a world; the master law of change.
-/
import Derived.Test.YtiaaipckeinbiaaGvCore
namespace Gv
open Go

/-- Abstract values. -/
inductive V where
  | junk
  | d (x : D)
  | nils (sz : Nat)
  | agg (vs : List V)
  | ptr (id idx off : Nat)
  | rp (cells : List D) (off : Nat)
  | sl (id off len : Nat)
  | fn (f : FuncId) (caps : List V)
  | tup (vs : List V)
  | gd (c : Bool) (v : V)

/-- Entries of the abstract heap. -/
inductive H where
  | dead
  | box (cells : List V)
  | arr (sz : Nat) (xs : List (List D)) (nf : Bool)
  | ro (sz : Nat) (xs : List (List D))
  /-- owned whole, and nobody looks into it -/
  | cln (sz : Nat) (xs : List (List D))
  /-- such a one, of which one element is open: its slices are entries of their own -/
  | win (sz : Nat) (pre : List (List D)) (cells : List V) (post : List (List D))

def H.live : H → Bool
  | .box _ => true
  | .arr _ _ _ => true
  | .cln _ _ => true
  | .win _ _ _ _ => true
  | _ => false

/-- It owns its elements' blocks. -/
def H.own : H → Bool
  | .arr _ _ true => true
  | .cln _ _ => true
  | .win _ _ _ _ => true
  | _ => false

/-- Nobody looks into its elements' blocks. -/
def H.shut : H → Bool
  | .cln _ _ => true
  | .win _ _ _ _ => true
  | _ => false

theorem H.own_live {x : H} (h : x.own = true) : x.live = true := by
  cases x <;> first | rfl | (rename_i nf; cases nf <;> first | rfl | cases h) | cases h
theorem H.shut_own {x : H} (h : x.shut = true) : x.own = true := by
  cases x <;> first | rfl | cases h

/-- Where an entry lies. -/
structure Blk where
  blk : Option Nat
  off : Nat
  cap : Nat
  sz : Nat
  nest : List Nat

abbrev Phi := Nat → Option Blk

def hget (hs : List H) (i : Nat) : H := hs.getD i .dead

/-- Block b is the entry's own, or one that nobody looks into. -/
def TopOf (x : H) (β : Blk) (b : Nat) : Prop := (x.live = true ∧ β.blk = some b) ∨ (x.shut = true ∧ b ∈ β.nest)

def NotTop (φ : Phi) (hs : List H) (b : Nat) : Prop := ∀ i β, φ i = some β → ¬ TopOf (hget hs i) β b

mutual
def VRel (φ : Phi) (T : Nat → Prop) (h : Array Obj) : V → Value → Prop
  | .junk, _ => True
  | .d x, u => ∃ F, rep h false x u F ∧ ∀ b ∈ F, T b
  | .nils _, u => u = .slice none 0 0
  | .agg vs, u => ∃ us : Array Value, u = .agg us ∧ VRels φ T h vs us.toList
  | .ptr id idx off, u => ∃ β b, φ id = some β ∧ β.blk = some b ∧ u = .pointer (some ⟨b, β.off + idx * β.sz + off, none⟩)
  | .rp cells off, u => ∃ b f G, u = .pointer (some ⟨b, f + off, none⟩) ∧ b < h.size ∧ T b ∧ repC h false b f cells G ∧ ∀ g ∈ G, T g
  | .sl id off len, u => ∃ β a c, φ id = some β ∧ u = .slice a len c ∧ c ≤ maxLen ∧ ((c = 0 ∧ len = 0 ∧ off = β.cap) ∨ ∃ b, β.blk = some b ∧ a = some ⟨b, β.off + off * β.sz, none⟩ ∧ len ≤ c ∧ off + c = β.cap)
  | .fn f caps, u => ∃ us : Array Value, u = .func (.func f) #[] us ∧ VRels φ T h caps us.toList
  | .tup vs, u => ∃ us : Array Value, u = .tuple us ∧ VRels φ T h vs us.toList
  | .gd c v, u => (c = true → VRel φ T h v u) ∧ (c = false → u = undef)
def VRels (φ : Phi) (T : Nat → Prop) (h : Array Obj) : List V → List Value → Prop
  | [], us => us = []
  | v :: vs, us => ∃ u us', us = u :: us' ∧ VRel φ T h v u ∧ VRels φ T h vs us'
end

def HRel (φ : Phi) (T : Nat → Prop) (h : Array Obj) (β : Blk) : H → Prop
  | .dead => True
  | .box cells => ∃ b cs e, β.blk = some b ∧ β.off = 0 ∧ h[b]? = some (.cells cs e (0, 0)) ∧ VRels φ T h cells cs.toList
  | .arr sz xs nf => β.sz = sz ∧ ((β.blk = none ∧ xs = [] ∧ β.cap = 0 ∧ β.nest = []) ∨
      ∃ b G, β.blk = some b ∧ xs.length ≤ β.cap ∧ roomy h b (β.off + β.cap * sz) ∧ repE h nf b β.off sz xs G ∧ (nf = true → G = β.nest) ∧ (nf = false → ∀ g ∈ G, T g))
  | .ro sz xs => β.sz = sz ∧ (xs = [] ∨ ∃ b G, β.blk = some b ∧ T b ∧ b < h.size ∧ repE h false b β.off sz xs G ∧ ∀ g ∈ G, T g)
  | .cln sz xs => β.sz = sz ∧ ((β.blk = none ∧ xs = [] ∧ β.cap = 0 ∧ β.nest = []) ∨
      ∃ b, β.blk = some b ∧ xs.length ≤ β.cap ∧ roomy h b (β.off + β.cap * sz) ∧ repE h true b β.off sz xs β.nest)
  | .win sz pre cells post => β.sz = sz ∧ cells.length = sz ∧ ∃ b G1 G2 us, β.blk = some b ∧ pre.length + 1 + post.length ≤ β.cap ∧ roomy h b (β.off + β.cap * sz) ∧ β.nest = G1 ++ G2 ∧
      repE h true b β.off sz pre G1 ∧ VRels φ T h cells us ∧ (∀ (j : Nat) (u : Value), us[j]? = some u → cellAt h b (β.off + pre.length * sz + j) = some u) ∧ repE h true b (β.off + (pre.length + 1) * sz) sz post G2

/-- What an entry owns: its block; the blocks of its elements' slices. -/
def Owns (φ : Phi) (hs : List H) (i b : Nat) : Prop :=
  ∃ β, φ i = some β ∧ (((hget hs i).live = true ∧ β.blk = some b) ∨ ((hget hs i).own = true ∧ b ∈ β.nest))

theorem TopOf.owns {φ : Phi} {hs : List H} {i : Nat} {β : Blk} {b : Nat} (e : φ i = some β) (h : TopOf (hget hs i) β b) : Owns φ hs i b :=
  ⟨β, e, h.imp id fun h => ⟨H.shut_own h.1, h.2⟩⟩

/-- Outside of M the world is as it was; no row grows shorter. -/
structure Bel (M : Nat → Prop) (w w' : World) : Prop where
  os : w'.os = w.os
  tape : w'.tape = w.tape
  output : w'.output = w.output
  size : w.heap.size ≤ w'.heap.size
  block : ∀ k, ¬ M k → w'.heap[k]? = w.heap[k]?
  room : ∀ b n, roomy w.heap b n → roomy w'.heap b n

theorem Bel.refl (M : Nat → Prop) (w : World) : Bel M w w := ⟨rfl, rfl, rfl, Nat.le_refl _, fun _ _ => rfl, fun _ _ h => h⟩

theorem Bel.trans {M : Nat → Prop} {a b c : World} (h : Bel M a b) (k : Bel M b c) : Bel M a c :=
  ⟨k.os.trans h.os, k.tape.trans h.tape, k.output.trans h.output, Nat.le_trans h.size k.size, fun i hi => (k.block i hi).trans (h.block i hi), fun b n r => k.room b n (h.room b n r)⟩

theorem Bel.mono {M M' : Nat → Prop} {w w' : World} (h : Bel M w w') (hM : ∀ k, M k → M' k) : Bel M' w w' :=
  ⟨h.os, h.tape, h.output, h.size, fun k hk => h.block k fun e => hk (hM k e), h.room⟩

theorem Bel.drew {M : Nat → Prop} {a w : World} (h : Bel M a w) : Bel M a w.drew := ⟨h.os, h.tape, h.output, h.size, h.block, h.room⟩

structure St where
  tmps : List V
  heap : List H

/-- The known variables, as values that are kept. -/
def gPairs : List (V × Value) := globs.map fun p => (.rp p.2 0, .pointer (some ⟨p.1, 0, none⟩))

structure R (B : Nat → Prop) (w0 : World) (Dm : Nat → Prop) (φ : Phi) (σ : St) (kp : List (V × Value)) (a : Act) (w : World) : Prop where
  tm : VRels φ (NotTop φ σ.heap) w.heap σ.tmps a.tmps.toList
  kp : ∀ p ∈ gPairs ++ kp, VRel φ (NotTop φ σ.heap) w.heap p.1 p.2
  hp : ∀ i, hget σ.heap i = .dead ∨ ∃ β, φ i = some β ∧ HRel φ (NotTop φ σ.heap) w.heap β (hget σ.heap i)
  o1 : ∀ i j b, Owns φ σ.heap i b → Owns φ σ.heap j b → i = j
  o2 : ∀ i β, φ i = some β → (hget σ.heap i).own = true → β.nest.Nodup ∧ ∀ b, β.blk = some b → b ∉ β.nest
  o3 : ∀ i b, Owns φ σ.heap i b → B b
  dm : ∀ i β, φ i = some β → Dm i
  bel : Bel B w0 w
  bs : ∀ k, w.heap.size ≤ k → B k
  de : a.defers = []
  gb : (∀ p ∈ globs, ¬ B p.1) ∧ XOk w0.heap

/-! ### Lists of values -/

section
variable {φ : Phi} {T : Nat → Prop} {h : Array Obj}

theorem VRels_len : ∀ (vs : List V) (us : List Value), VRels φ T h vs us → us.length = vs.length
  | [], us, r => by simp only [VRels] at r; rw [r]; rfl
  | v :: vs, us, r => by
    simp only [VRels] at r
    obtain ⟨u, us', rfl, _, r2⟩ := r
    simp [VRels_len vs us' r2]

theorem VRels_at : ∀ (vs : List V) (us : List Value), VRels φ T h vs us → ∀ (t : Nat) (v : V), vs[t]? = some v → ∃ u, us[t]? = some u ∧ VRel φ T h v u
  | [], _, _, t, v, e => by simp at e
  | v :: vs, us, r, t, v', e => by
    simp only [VRels] at r
    obtain ⟨u, us', rfl, r1, r2⟩ := r
    cases t with
    | zero => simp at e; subst e; exact ⟨u, by simp, r1⟩
    | succ t => exact VRels_at vs us' r2 t v' (by simpa using e)

theorem VRels_mk : ∀ (vs : List V) (us : List Value), us.length = vs.length → (∀ (t : Nat) (v : V) (u : Value), vs[t]? = some v → us[t]? = some u → VRel φ T h v u) → VRels φ T h vs us
  | [], us, e, _ => by simp only [VRels]; exact List.eq_nil_of_length_eq_zero (by simpa using e)
  | v :: vs, us, e, r => by
    cases us with
    | nil => simp at e
    | cons u us =>
      simp only [VRels]
      exact ⟨u, us, rfl, r 0 v u rfl rfl, VRels_mk vs us (by simpa using e) fun t v' u' hv hu => r (t + 1) v' u' (by simpa using hv) (by simpa using hu)⟩

theorem VRels_set {vs : List V} {us : List Value} (r : VRels φ T h vs us) {v : V} {u : Value} (hv : VRel φ T h v u) (t : Nat) : VRels φ T h (vs.set t v) (us.set t u) := by
  refine VRels_mk _ _ (by simp [VRels_len _ _ r]) fun i v' u' e1 e2 => ?_
  rw [List.getElem?_set] at e1 e2
  by_cases hi : t = i
  · subst hi
    simp only [if_true] at e1 e2
    split at e1
    · split at e2
      · cases e1; cases e2; exact hv
      · cases e2
    · cases e1
  · simp only [hi, if_false] at e1 e2
    obtain ⟨u'', k1, k2⟩ := VRels_at _ _ r i v' e1
    rw [k1] at e2; cases e2; exact k2

theorem VRels_append {vs vs' : List V} {us us' : List Value} (r : VRels φ T h vs us) (r' : VRels φ T h vs' us') : VRels φ T h (vs ++ vs') (us ++ us') := by
  induction vs generalizing us with
  | nil => simp only [VRels] at r; subst r; simpa using r'
  | cons v vs ih =>
    simp only [VRels] at r
    obtain ⟨u, us1, rfl, r1, r2⟩ := r
    simp only [List.cons_append, VRels]
    exact ⟨u, us1 ++ us', rfl, r1, ih r2⟩

theorem VRels_take {vs : List V} {us : List Value} (r : VRels φ T h vs us) (n : Nat) : VRels φ T h (vs.take n) (us.take n) := by
  refine VRels_mk _ _ (by simp [VRels_len _ _ r]) fun i v u e1 e2 => ?_
  rw [List.getElem?_take] at e1 e2
  split at e1
  · rename_i hi
    rw [if_pos hi] at e2
    obtain ⟨u', k1, k2⟩ := VRels_at _ _ r i v e1
    rw [k1] at e2; cases e2; exact k2
  · cases e1

theorem VRels_drop {vs : List V} {us : List Value} (r : VRels φ T h vs us) (n : Nat) : VRels φ T h (vs.drop n) (us.drop n) := by
  refine VRels_mk _ _ (by simp [VRels_len _ _ r]) fun i v u e1 e2 => ?_
  rw [List.getElem?_drop] at e1 e2
  obtain ⟨u', k1, k2⟩ := VRels_at _ _ r (n + i) v e1
  rw [k1] at e2; cases e2; exact k2

theorem VRels_replicate {v : V} {u : Value} (r : VRel φ T h v u) (n : Nat) : VRels φ T h (List.replicate n v) (List.replicate n u) := by
  induction n with
  | zero => simp [VRels]
  | succ n ih => simp only [List.replicate_succ, VRels]; exact ⟨u, _, rfl, r, ih⟩
end

/-! ### Keeping -/

/-- The same places. -/
def Le (φ φ' : Phi) : Prop := ∀ i β, φ i = some β → ∃ β', φ' i = some β' ∧ β'.blk = β.blk ∧ β'.off = β.off ∧ β'.cap = β.cap ∧ β'.sz = β.sz

theorem Le.refl (φ : Phi) : Le φ φ := fun _ β e => ⟨β, e, rfl, rfl, rfl, rfl⟩

/-- What must stay for a value to stay what it is. -/
structure Keep (φ φ' : Phi) (T T' : Nat → Prop) (h h' : Array Obj) : Prop where
  hφ : Le φ φ'
  hT : ∀ b, b < h.size → T b → T' b
  hH : ∀ b, b < h.size → T b → h'[b]? = h[b]?
  hs : h.size ≤ h'.size

section
variable {φ φ' : Phi} {T T' : Nat → Prop} {h h' : Array Obj}

mutual
theorem VRel_keep (K : Keep φ φ' T T' h h') : ∀ (v : V) (u : Value), VRel φ T h v u → VRel φ' T' h' v u
  | .junk, _, _ => by simp [VRel]
  | .d x, u, r => by
    simp only [VRel] at r ⊢
    obtain ⟨F, r1, r2⟩ := r
    have hl := rep_lt x u F r1
    exact ⟨F, rep_mono K.hs x u F (fun b hb => K.hH b (hl b hb) (r2 b hb)) r1, fun b hb => K.hT b (hl b hb) (r2 b hb)⟩
  | .nils _, _, r => by simpa [VRel] using r
  | .agg vs, u, r => by
    simp only [VRel] at r ⊢
    obtain ⟨us, r1, r2⟩ := r
    exact ⟨us, r1, VRels_keep K vs us.toList r2⟩
  | .ptr id idx off, u, r => by
    simp only [VRel] at r ⊢
    obtain ⟨β, b, r1, r2, r3⟩ := r
    obtain ⟨β', k1, k2, k3, k4, k5⟩ := K.hφ id β r1
    exact ⟨β', b, k1, by rw [k2]; exact r2, by rw [k3, k5]; exact r3⟩
  | .rp cells off, u, r => by
    simp only [VRel] at r ⊢
    obtain ⟨b, f, G, r1, r2, r3, r4, r5⟩ := r
    have hl := repC_lt cells b f G r4
    exact ⟨b, f, G, r1, Nat.lt_of_lt_of_le r2 K.hs, K.hT b r2 r3, repC_mono K.hs cells b f G (K.hH b r2 r3) (fun g hg => K.hH g (hl g hg) (r5 g hg)) r4, fun g hg => K.hT g (hl g hg) (r5 g hg)⟩
  | .sl id off len, u, r => by
    simp only [VRel] at r ⊢
    obtain ⟨β, a, c, r1, r2, r3, r4⟩ := r
    obtain ⟨β', k1, k2, k3, k4, k5⟩ := K.hφ id β r1
    refine ⟨β', a, c, k1, r2, r3, ?_⟩
    rcases r4 with r4 | ⟨b, r4, r5, r6, r7⟩
    · exact .inl ⟨r4.1, r4.2.1, by rw [k4]; exact r4.2.2⟩
    · exact .inr ⟨b, by rw [k2]; exact r4, by rw [k3, k5]; exact r5, r6, by rw [k4]; exact r7⟩
  | .fn f caps, u, r => by
    simp only [VRel] at r ⊢
    obtain ⟨us, r1, r2⟩ := r
    exact ⟨us, r1, VRels_keep K caps us.toList r2⟩
  | .tup vs, u, r => by
    simp only [VRel] at r ⊢
    obtain ⟨us, r1, r2⟩ := r
    exact ⟨us, r1, VRels_keep K vs us.toList r2⟩
  | .gd c v, u, r => by
    simp only [VRel] at r ⊢
    exact ⟨fun e => VRel_keep K v u (r.1 e), r.2⟩
theorem VRels_keep (K : Keep φ φ' T T' h h') : ∀ (vs : List V) (us : List Value), VRels φ T h vs us → VRels φ' T' h' vs us
  | [], us, r => by simpa [VRels] using r
  | v :: vs, us, r => by
    simp only [VRels] at r ⊢
    obtain ⟨u, us', r1, r2, r3⟩ := r
    exact ⟨u, us', r1, VRel_keep K v u r2, VRels_keep K vs us' r3⟩
end

/-- An entry whose own block (and, where it owns them, whose elements' blocks) stay as they were. -/
theorem HRel_keep (K : Keep φ φ' T T' h h') {β : Blk} {x : H} (r : HRel φ T h β x) (hb : ∀ b, x.live = true → β.blk = some b → h'[b]? = h[b]?) (hn : ∀ b, x.own = true → b ∈ β.nest → h'[b]? = h[b]?) : HRel φ' T' h' β x := by
  cases x with
  | dead => trivial
  | box cells =>
    simp only [HRel] at r ⊢
    obtain ⟨b, cs, e, r1, r2, r3, r4⟩ := r
    exact ⟨b, cs, e, r1, r2, by rw [hb b rfl r1]; exact r3, VRels_keep K cells cs.toList r4⟩
  | arr sz xs nf =>
    simp only [HRel] at r ⊢
    obtain ⟨e, r⟩ := r
    refine ⟨e, ?_⟩
    rcases r with r | ⟨b, G, r1, r2, r3, r4, r5, r6⟩
    · exact .inl r
    · have hl := repE_lt xs b β.off sz G r4
      refine .inr ⟨b, G, r1, r2, r3.mono (hb b rfl r1), ?_, r5, fun k g hg => K.hT g (hl g hg) (r6 k g hg)⟩
      refine repE_mono K.hs xs b β.off sz G (hb b rfl r1) (fun g hg => ?_) r4
      cases nf with
      | true => exact hn g rfl (r5 rfl ▸ hg)
      | false => exact K.hH g (hl g hg) (r6 rfl g hg)
  | ro sz xs =>
    simp only [HRel] at r ⊢
    obtain ⟨e, r⟩ := r
    refine ⟨e, ?_⟩
    rcases r with r | ⟨b, G, r1, r2, r3, r4, r5⟩
    · exact .inl r
    · have hl := repE_lt xs b β.off sz G r4
      exact .inr ⟨b, G, r1, K.hT b r3 r2, Nat.lt_of_lt_of_le r3 K.hs, repE_mono K.hs xs b β.off sz G (K.hH b r3 r2) (fun g hg => K.hH g (hl g hg) (r5 g hg)) r4, fun g hg => K.hT g (hl g hg) (r5 g hg)⟩
  | cln sz xs =>
    simp only [HRel] at r ⊢
    obtain ⟨e, r⟩ := r
    refine ⟨e, ?_⟩
    rcases r with r | ⟨b, r1, r2, r3, r4⟩
    · exact .inl r
    · exact .inr ⟨b, r1, r2, r3.mono (hb b rfl r1), repE_mono K.hs xs b β.off sz _ (hb b rfl r1) (fun g hg => hn g rfl hg) r4⟩
  | win sz pre cells post =>
    simp only [HRel] at r ⊢
    obtain ⟨e, hc, b, G1, G2, us, r1, r2, r3, r4, r5, r6, r7, r8⟩ := r
    refine ⟨e, hc, b, G1, G2, us, r1, r2, r3.mono (hb b rfl r1), r4, ?_, VRels_keep K cells us r6, fun j u hj => ?_, ?_⟩
    · exact repE_mono K.hs pre b β.off sz G1 (hb b rfl r1) (fun g hg => hn g rfl (by rw [r4]; simp [hg])) r5
    · rw [cellAt_congr (hb b rfl r1)]; exact r7 j u hj
    · exact repE_mono K.hs post b _ sz G2 (hb b rfl r1) (fun g hg => hn g rfl (by rw [r4]; simp [hg])) r8
end

theorem Owns.lt {B : Nat → Prop} {w0 : World} {Dm : Nat → Prop} {φ : Phi} {σ : St} {kp : List (V × Value)} {a : Act} {w : World} (r : R B w0 Dm φ σ kp a w) {i b : Nat} (ho : Owns φ σ.heap i b) : b < w.heap.size := by
  obtain ⟨β, e, ho⟩ := ho
  rcases r.hp i with hd | ⟨β', e', hr⟩
  · rw [hd] at ho
    rcases ho with ⟨h1, _⟩ | ⟨h1, _⟩ <;> cases h1
  · rw [e] at e'; cases e'
    rcases ho with ⟨h1, h2⟩ | ⟨h1, h2⟩
    · cases hx : hget σ.heap i with
      | dead => rw [hx] at h1; cases h1
      | ro sz xs => rw [hx] at h1; cases h1
      | box cells =>
        rw [hx] at hr; simp only [HRel] at hr
        obtain ⟨b', cs, t, r1, r2, r3, r4⟩ := hr
        rw [h2] at r1; cases r1
        exact roomy.lt ⟨cs, t, r3, Nat.zero_le _⟩
      | arr sz xs nf =>
        rw [hx] at hr; simp only [HRel] at hr
        rcases hr.2 with hr | ⟨b', G, r1, r2, r3, r4, r5, r6⟩
        · rw [h2] at hr; cases hr.1
        · rw [h2] at r1; cases r1
          exact r3.lt
      | cln sz xs =>
        rw [hx] at hr; simp only [HRel] at hr
        rcases hr.2 with hr | ⟨b', r1, r2, r3, r4⟩
        · rw [h2] at hr; cases hr.1
        · rw [h2] at r1; cases r1
          exact r3.lt
      | win sz pre cells post =>
        rw [hx] at hr; simp only [HRel] at hr
        obtain ⟨_, _, b', G1, G2, us, r1, r2, r3, r4⟩ := hr
        rw [h2] at r1; cases r1
        exact r3.lt
    · cases hx : hget σ.heap i with
      | dead => rw [hx] at h1; cases h1
      | ro sz xs => rw [hx] at h1; cases h1
      | box cells => rw [hx] at h1; cases h1
      | arr sz xs nf =>
        cases nf with
        | false => rw [hx] at h1; cases h1
        | true =>
          rw [hx] at hr; simp only [HRel] at hr
          rcases hr.2 with hr | ⟨b', G, r1, r2, r3, r4, r5, r6⟩
          · rw [hr.2.2.2] at h2; cases h2
          · exact repE_lt xs b' β.off sz G r4 b ((r5 trivial) ▸ h2)
      | cln sz xs =>
        rw [hx] at hr; simp only [HRel] at hr
        rcases hr.2 with hr | ⟨b', r1, r2, r3, r4⟩
        · rw [hr.2.2.2] at h2; cases h2
        · exact repE_lt xs b' β.off sz _ r4 b h2
      | win sz pre cells post =>
        rw [hx] at hr; simp only [HRel] at hr
        obtain ⟨_, _, b', G1, G2, us, r1, r2, r3, r4, r5, r6, r7, r8⟩ := hr
        rw [r4] at h2
        rcases List.mem_append.1 h2 with h2 | h2
        · exact repE_lt pre b' β.off sz _ r5 b h2
        · exact repE_lt post b' _ sz _ r8 b h2

theorem notTop_of_nest {B : Nat → Prop} {w0 : World} {Dm : Nat → Prop} {φ : Phi} {σ : St} {kp : List (V × Value)} {a : Act} {w : World} (r : R B w0 Dm φ σ kp a w) {i : Nat} {β : Blk} (e : φ i = some β)
    (hx : (hget σ.heap i).own = true) (hs : (hget σ.heap i).shut = false) {b : Nat} (hb : b ∈ β.nest) : NotTop φ σ.heap b := by
  intro j β' e' ht
  have := r.o1 i j b ⟨β, e, .inr ⟨hx, hb⟩⟩ (TopOf.owns e' ht)
  subst this
  rw [e] at e'; cases e'
  rcases ht with ⟨_, he⟩ | ⟨hl, _⟩
  · exact (r.o2 i β e hx).2 b he hb
  · rw [hs] at hl; cases hl

/-- THE MASTER LAW OF CHANGE. 'S': the entries that may have turned or are new. -/
theorem R_change {B : Nat → Prop} {w0 : World} {Dm : Nat → Prop} {φ : Phi} {σ : St} {kp : List (V × Value)} {a : Act} {w : World} (r : R B w0 Dm φ σ kp a w)
    (S : Nat → Prop) (Dm' : Nat → Prop) (φ' : Phi) (hs' : List H) (w' : World)
    (k1 : ∀ i, ¬ S i → hget hs' i = hget σ.heap i ∧ φ' i = φ i)
    (k2 : Le φ φ')
    (k3 : w.heap.size ≤ w'.heap.size)
    (k4 : ∀ b, b < w.heap.size → (∀ i, S i → ∀ β, φ i = some β → ¬ TopOf (hget σ.heap i) β b) → w'.heap[b]? = w.heap[b]?)
    (k5 : ∀ i, S i → ∀ b, Owns φ' hs' i b → w.heap.size ≤ b ∨ ∃ j, S j ∧ Owns φ σ.heap j b)
    (k5' : ∀ i, S i → ∀ β', φ' i = some β' → ∀ b, TopOf (hget hs' i) β' b → w.heap.size ≤ b ∨ ∃ j β, S j ∧ φ j = some β ∧ TopOf (hget σ.heap j) β b)
    (k6 : ∀ i j b, S i → S j → Owns φ' hs' i b → Owns φ' hs' j b → i = j)
    (k7 : ∀ i β, S i → φ' i = some β → (hget hs' i).own = true → β.nest.Nodup ∧ ∀ b, β.blk = some b → b ∉ β.nest)
    (k8 : ∀ i, S i → hget hs' i = .dead ∨ ∃ β, φ' i = some β ∧ HRel φ' (NotTop φ' hs') w'.heap β (hget hs' i))
    (k9 : ∀ i β, φ' i = some β → Dm' i)
    (k10 : Bel B w0 w') :
    R B w0 Dm' φ' ⟨σ.tmps, hs'⟩ kp a w' := by
  have hT : ∀ b, b < w.heap.size → NotTop φ σ.heap b → NotTop φ' hs' b := by
    intro b hb ht i β' e' he
    by_cases hi : S i
    · rcases k5' i hi β' e' b he with h1 | ⟨j, β, h1, h2, h3⟩
      · omega
      · exact ht j β h2 h3
    · obtain ⟨e1, e2⟩ := k1 i hi
      exact ht i β' (e2 ▸ e') (e1 ▸ he)
  have hH : ∀ b, b < w.heap.size → NotTop φ σ.heap b → w'.heap[b]? = w.heap[b]? := fun b hb ht => k4 b hb fun i _ β e => ht i β e
  have hown : ∀ i b, ¬ S i → Owns φ' hs' i b → Owns φ σ.heap i b := by
    intro i b hi ho
    obtain ⟨e1, e2⟩ := k1 i hi
    unfold Owns at ho ⊢
    rw [e1, e2] at ho; exact ho
  have K : Keep φ φ' (NotTop φ σ.heap) (NotTop φ' hs') w.heap w'.heap := ⟨k2, hT, hH, k3⟩
  refine ⟨VRels_keep K _ _ r.tm, fun p hp => VRel_keep K _ _ (r.kp p hp), fun i => ?_, fun i j b hi hj => ?_, fun i β e hx => ?_, fun i b ho => ?_, k9, k10, fun k hk => r.bs k (Nat.le_trans k3 hk), r.de, r.gb⟩
  · by_cases hi : S i
    · exact k8 i hi
    · obtain ⟨e1, e2⟩ := k1 i hi
      simp only [e1, e2]
      rcases r.hp i with hd | ⟨β, e, hr⟩
      · exact .inl hd
      · refine .inr ⟨β, e, HRel_keep K hr (fun b hl hb => ?_) (fun b hx hb => ?_)⟩
        · refine k4 b (Owns.lt r ⟨β, e, .inl ⟨hl, hb⟩⟩) fun j hj β' e' ht' => ?_
          have := r.o1 i j b ⟨β, e, .inl ⟨hl, hb⟩⟩ (TopOf.owns e' ht')
          exact hi (this ▸ hj)
        · refine k4 b (Owns.lt r ⟨β, e, .inr ⟨hx, hb⟩⟩) fun j hj β' e' ht' => ?_
          have := r.o1 i j b ⟨β, e, .inr ⟨hx, hb⟩⟩ (TopOf.owns e' ht')
          exact hi (this ▸ hj)
  · by_cases hSi : S i <;> by_cases hSj : S j
    · exact k6 i j b hSi hSj hi hj
    · have h2 := hown j b hSj hj
      rcases k5 i hSi b hi with h1 | ⟨k, h1, h3⟩
      · have := Owns.lt r h2; omega
      · exact absurd (r.o1 k j b h3 h2 ▸ h1) hSj
    · have h2 := hown i b hSi hi
      rcases k5 j hSj b hj with h1 | ⟨k, h1, h3⟩
      · have := Owns.lt r h2; omega
      · exact absurd (r.o1 k i b h3 h2 ▸ h1) hSi
    · exact r.o1 i j b (hown i b hSi hi) (hown j b hSj hj)
  · by_cases hi : S i
    · exact k7 i β hi e hx
    · obtain ⟨e1, e2⟩ := k1 i hi
      simp only [e1, e2] at hx e
      exact r.o2 i β e hx
  · by_cases hi : S i
    · rcases k5 i hi b ho with h1 | ⟨j, h1, h2⟩
      · exact r.bs _ h1
      · exact r.o3 j b h2
    · exact r.o3 i b (hown i b hi ho)

/-- A temporary is written. -/
theorem R_put {B : Nat → Prop} {w0 : World} {Dm : Nat → Prop} {φ : Phi} {σ : St} {kp : List (V × Value)} {a : Act} {w : World} (r : R B w0 Dm φ σ kp a w) (dst : Option Tmp) {v : V} {u : Value}
    (hv : VRel φ (NotTop φ σ.heap) w.heap v u) : R B w0 Dm φ ⟨match dst with | some t => σ.tmps.set t v | none => σ.tmps, σ.heap⟩ kp (a.put dst u) w := by
  cases dst with
  | none => exact r
  | some t =>
    refine ⟨?_, r.kp, r.hp, r.o1, r.o2, r.o3, r.dm, r.bel, r.bs, r.de, r.gb⟩
    have := VRels_set r.tm hv t
    simpa [Act.put] using this

theorem hget_set (hs : List H) (n i : Nat) (x : H) (hn : n < hs.length) : hget (hs.set n x) i = if i = n then x else hget hs i := by
  unfold hget
  simp only [List.getD_eq_getElem?_getD, List.getElem?_set]
  by_cases hi : n = i
  · subst hi; simp [hn]
  · have : ¬ i = n := fun e => hi e.symm
    simp [hi, this]

/-- A draw moves nothing that the relation sees. -/
theorem R_drew {B : Nat → Prop} {w0 : World} {Dm : Nat → Prop} {φ : Phi} {σ : St} {kp : List (V × Value)} {a : Act} {w w' : World} (r : R B w0 Dm φ σ kp a w) (hh : w'.heap = w.heap) (hb : Bel B w0 w') : R B w0 Dm φ σ kp a w' :=
  ⟨by rw [hh]; exact r.tm, by rw [hh]; exact r.kp, by rw [hh]; exact r.hp, r.o1, r.o2, r.o3, r.dm, hb, by rw [hh]; exact r.bs, r.de, r.gb⟩

end Gv
