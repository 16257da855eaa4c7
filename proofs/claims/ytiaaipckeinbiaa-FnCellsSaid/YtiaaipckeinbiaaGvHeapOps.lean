/-
  Variables, stores, slice literals, make, append.
-/
import Derived.Test.YtiaaipckeinbiaaGvHeap
import Derived.Maps.AppendAt
import Derived.Laws.MakeOwn
namespace Gv
open Go

variable {P : Program} {o : Oper} {g : Bool} {σ : St} {n : Nat} {K : Res → Prop}

section
variable {B : Nat → Prop} {w0 : World} {Dm : Nat → Prop} {φ : Phi} {kp : List (V × Value)} {a : Act} {w : World}

/-- A box's cells are written. -/
theorem R_setbox (r : R B w0 Dm φ σ kp a w) {id : Nat} {β : Blk} (e0 : φ id = some β) {cells cells' : List V} (h0 : hget σ.heap id = .box cells) {b : Nat} (hb0 : β.blk = some b) {cs' : Array Value} {e : TypeId} {w' : World}
    (hc : VRels φ (NotTop φ σ.heap) w.heap cells' cs'.toList) (hw : w'.heap[b]? = some (.cells cs' e (0, 0))) (hk : ∀ c, c ≠ b → w'.heap[c]? = w.heap[c]?) (hs : w'.heap.size = w.heap.size) (hb : Bel B w0 w') :
    R B w0 Dm φ ⟨σ.tmps, hput σ.heap id (.box cells')⟩ kp a w' := by
  have hT : ∀ c, NotTop φ σ.heap c → NotTop φ (hput σ.heap id (.box cells')) c := by
    intro c ht i β' hi he
    rw [hget_hput] at he
    by_cases h : i = id
    · subst h; rw [if_pos rfl] at he
      rcases he with ⟨_, he⟩ | ⟨he, _⟩
      · exact ht i β' hi (.inl ⟨by rw [h0]; rfl, he⟩)
      · cases he
    · rw [if_neg h] at he; exact ht i β' hi he
  have hnt : ∀ c, NotTop φ σ.heap c → c ≠ b := fun c ht hcb => by subst hcb; exact ht id β e0 (.inl ⟨by rw [h0]; rfl, hb0⟩)
  refine R_change r (fun i => i = id) _ _ _ w' (fun i hi => ⟨by rw [hget_hput, if_neg hi], rfl⟩) (Le.refl φ) (by omega) (fun c _ ht => hk c fun hcb => ?_) ?_ ?_ (fun i j b hi hj _ _ => hi.trans hj.symm) ?_ ?_ r.dm hb
  · subst hcb; exact ht id rfl β e0 (.inl ⟨by rw [h0]; rfl, hb0⟩)
  · rintro i rfl c ⟨β', h1, h2⟩
    rw [e0] at h1; cases h1
    rw [hget_hput, if_pos rfl] at h2
    rcases h2 with ⟨_, h2⟩ | ⟨h2, _⟩
    · exact .inr ⟨i, rfl, β, e0, .inl ⟨by rw [h0]; rfl, h2⟩⟩
    · cases h2
  · rintro i rfl β' h1 c h2
    rw [e0] at h1; cases h1
    rw [hget_hput, if_pos rfl] at h2
    rcases h2 with ⟨_, h2⟩ | ⟨h2, _⟩
    · exact .inr ⟨i, β, rfl, e0, .inl ⟨by rw [h0]; rfl, h2⟩⟩
    · cases h2
  · rintro i β' rfl _ hx
    rw [hget_hput, if_pos rfl] at hx; cases hx
  · rintro i rfl
    refine .inr ⟨β, e0, ?_⟩
    rw [hget_hput, if_pos rfl]
    have h00 : β.off = 0 := by
      rcases r.hp i with hd | ⟨β', e1, hr⟩
      · rw [h0] at hd; cases hd
      · rw [e0] at e1; cases e1
        rw [h0] at hr; obtain ⟨_, _, _, _, h, _⟩ := hr; exact h
    exact ⟨b, cs', e, hb0, h00, hw, VRels_keep ⟨Le.refl φ, fun c _ ht => hT c ht, fun c _ ht => hk c (hnt c ht), by omega⟩ _ _ hc⟩
end

theorem below_alloc {B : Nat → Prop} {w0 w : World} (h : Bel B w0 w) (hB : ∀ k, w.heap.size ≤ k → B k) (o : Obj) : Bel B w0 (w.alloc o) :=
  h.trans ⟨rfl, rfl, rfl, by simp, fun k hk => RowKit.Below.heap_alloc _ _ _ (by
    rcases Nat.lt_or_ge k w.heap.size with h | h
    · exact h
    · exact absurd (hB k h) hk), fun b n r => r.mono (RowKit.Below.heap_alloc _ _ _ r.lt)⟩

theorem R_dm {B : Nat → Prop} {w0 : World} {Dm Dm' : Nat → Prop} {φ : Phi} {kp : List (V × Value)} {a : Act} {w : World} (r : R B w0 Dm φ σ kp a w) (h : ∀ i, Dm i → Dm' i) : R B w0 Dm' φ σ kp a w :=
  ⟨r.tm, r.kp, r.hp, r.o1, r.o2, r.o3, fun i β e => h i (r.dm i β e), r.bel, r.bs, r.de, r.gb⟩

theorem mk_ptr {φ : Phi} {T : Nat → Prop} {h : Array Obj} {n b : Nat} : VRel (phiSet φ n ⟨some b, 0, 0, 0, []⟩) T h (.ptr n 0 0) (.pointer (some ⟨b, 0, none⟩)) := by
  simp only [VRel]; exact ⟨⟨some b, 0, 0, 0, []⟩, b, by simp [phiSet], rfl, by simp⟩

/-- An operation that makes a variable. -/
theorem OpOK_box {cells : List V} {cs : Act → Array Value} {e : TypeId} (hrun : ∀ (a : Act) (w : World), (execOp a.eval o).run P w = .ok (.value (.pointer (some ⟨w.heap.size, 0, none⟩))) (w.alloc (.cells (cs a) e)))
    (hrel : ∀ {σ' : St} {B : Nat → Prop} {w0 : World} {Dm : Nat → Prop} {φ : Phi} {kp : List (V × Value)} {a : Act} {w : World}, σ.le σ' → R B w0 Dm φ σ' kp a w → g = true → VRels φ (NotTop φ σ'.heap) w.heap cells (cs a).toList) :
    OpOK P o g σ n ⟨.ptr n 0 0, [.box cells], []⟩ := by
  intro σ' hle hd B w0 Dm φ kp a w hDm hR hg K Q hK
  unfold Oper.wp
  rw [hrun, Oper.upon_value]
  have h1 := R_box hR (n := n) (hd n (Nat.le_refl _) (by simp)) (hDm n (Nat.le_refl _) (by simp)) (hrel hle hR hg) (w' := w.alloc (.cells (cs a) e)) rfl (below_alloc hR.bel hR.bs _)
  exact hK _ _ _ (R_put h1 o.dst mk_ptr)

theorem ok_alloc {T : TypeId} (ho : o.op = .alloc T) (h : match zrI P T with | some cells => K ⟨.ptr n 0 0, [.box cells], []⟩ | none => False) : ∃ r, OpOK P o g σ n r ∧ K r := by
  split at h
  · rename_i cells hz
    obtain ⟨i, z, hi, hzv, hr⟩ := zrI_rel hz
    refine ⟨_, OpOK_box (cs := fun _ => z.cells) (e := T) (fun a w => ?_) (fun _ _ _ => hr _ _ _), h⟩
    unfold execOp; rw [ho]
    simp [Instr.alloc, zeroValue, typeInfo, hi, hzv, newVar, newRow]
  · exact h.elim

theorem ok_box {T : TypeId} {x : Operand} (ho : o.op = .box T x) (h : evg g (σ.ev x) fun v => v.cellsOk = true ∧ K ⟨.ptr n 0 0, [.box v.cells], []⟩) : ∃ r, OpOK P o g σ n r ∧ K r := by
  obtain ⟨v, h1, hx⟩ := evg_rel h
  refine ⟨_, OpOK_box (cs := fun a => (a.eval x).cells) (e := T) (fun a w => ?_) (fun hle r hg => (cells_rel h1.1 (hx _ _ _ _ hg (ev_le hle r x))).1), h1.2⟩
  unfold execOp; rw [ho]
  simp [Instr.box, newVar, newRow]

/-! ### Stores -/

/-- What a store leaves: the entry's new content, what is consumed. -/
def storeE (P : Program) (hs : List H) (T : TypeId) (p v : V) : Option (Prop × List (Nat × H)) :=
  match tyI P T, p with
  | some (sz, _), .ptr id idx off =>
    match hget hs id with
    | .box cells => some (idx = 0 ∧ v.cellsOk = true ∧ v.cells.length = sz ∧ off + sz ≤ cells.length, [(id, .box (splice cells off v.cells))])
    | .arr s xs true =>
      match toDs hs v.cells with
      | some (ds, ids) => some (v.cellsOk = true ∧ v.cells.length = sz ∧ idx < xs.length ∧ off + sz ≤ ((xs[idx]?).getD []).length ∧ ids.Nodup ∧ id ∉ ids, (id, .arr s (xs.set idx (splice ((xs[idx]?).getD []) off ds)) true) :: ids.map fun i => (i, match hget hs i with | .arr s ys _ => .ro s ys | x => x))
      | none => none
    | .win s pre cells post => some (idx = pre.length ∧ v.cellsOk = true ∧ v.cells.length = sz ∧ off + sz ≤ cells.length, [(id, .win s pre (splice cells off v.cells) post)])
    | _ => none
  | _, _ => none

/-- Owned data of values, one by one. -/
def reps (h : Array Obj) (o : Bool) : List D → List Value → List Nat → Prop
  | [], us, G => us = [] ∧ G = []
  | d :: ds, us, G => ∃ u us' G1 G2, us = u :: us' ∧ G = G1 ++ G2 ∧ rep h o d u G1 ∧ reps h o ds us' G2

theorem reps_repC {h : Array Obj} {o : Bool} {b : Nat} : ∀ (ds : List D) (us : List Value) (f : Nat) (G : List Nat), reps h o ds us G → (∀ (j : Nat) (u : Value), us[j]? = some u → cellAt h b (f + j) = some u) → repC h o b f ds G
  | [], us, f, G, r, _ => by simp only [reps] at r; simpa [repC] using r.2
  | d :: ds, us, f, G, r, hc => by
    simp only [reps] at r
    obtain ⟨u, us', G1, G2, rfl, rfl, r1, r2⟩ := r
    simp only [repC]
    refine ⟨u, G1, G2, rfl, by simpa using hc 0 u rfl, r1, reps_repC ds us' (f + 1) G2 r2 fun j v hj => ?_⟩
    rw [show f + 1 + j = f + (j + 1) from by omega]; exact hc (j + 1) v (by simpa using hj)

theorem reps_mono {h h' : Array Obj} {o : Bool} (hs : h.size ≤ h'.size) : ∀ (ds : List D) (us : List Value) (G : List Nat), (∀ g ∈ G, h'[g]? = h[g]?) → reps h o ds us G → reps h' o ds us G
  | [], us, G, _, r => by simpa [reps] using r
  | d :: ds, us, G, hG, r => by
    simp only [reps] at r ⊢
    obtain ⟨u, us', G1, G2, rfl, rfl, r1, r2⟩ := r
    exact ⟨u, us', G1, G2, rfl, rfl, rep_mono hs d u G1 (fun g hg => hG g (by simp [hg])) r1, reps_mono hs ds us' G2 (fun g hg => hG g (by simp [hg])) r2⟩

theorem reps_len {h : Array Obj} {o : Bool} : ∀ (ds : List D) (us : List Value) (G : List Nat), reps h o ds us G → us.length = ds.length
  | [], us, G, r => by simp only [reps] at r; rw [r.1]; rfl
  | d :: ds, us, G, r => by
    simp only [reps] at r
    obtain ⟨u, us', G1, G2, rfl, rfl, r1, r2⟩ := r
    simp [reps_len ds us' G2 r2]

section
variable {B : Nat → Prop} {w0 : World} {Dm : Nat → Prop} {φ : Phi} {kp : List (V × Value)} {a : Act} {w : World}

theorem toDs_rel (r : R B w0 Dm φ σ kp a w) : ∀ (vs : List V) (ds : List D) (ids : List Nat) (us : List Value), toDs σ.heap vs = some (ds, ids) → ids.Nodup → VRels φ (NotTop φ σ.heap) w.heap vs us →
    ∃ G, reps w.heap true ds us G ∧ G.Nodup ∧ (∀ b ∈ G, ∃ id ∈ ids, Owns φ σ.heap id b) ∧ ∀ id ∈ ids, ∃ sz xs, hget σ.heap id = .arr sz xs true
  | [], ds, ids, us, e, _, rv => by
    simp only [toDs, Option.some.injEq, Prod.mk.injEq] at e
    obtain ⟨rfl, rfl⟩ := e
    simp only [VRels] at rv; subst rv
    exact ⟨[], by simp [reps], List.nodup_nil, by simp, by simp⟩
  | v :: vs, ds, ids, us, e, hnd, rv => by
    simp only [VRels] at rv
    obtain ⟨u, us', rfl, rv1, rv2⟩ := rv
    simp only [toDs] at e
    split at e
    · rename_i d i ds' is e1 e2
      simp only [Option.some.injEq, Prod.mk.injEq] at e
      obtain ⟨rfl, rfl⟩ := e
      rw [List.nodup_append] at hnd
      obtain ⟨F, f1, f2, f3, f4⟩ := toD_rel r e1 rv1
      obtain ⟨G, g1, g2, g3, g4⟩ := toDs_rel r vs ds' is us' e2 hnd.2.1 rv2
      refine ⟨F ++ G, ?_, ?_, ?_, ?_⟩
      · simp only [reps]; exact ⟨u, us', F, G, rfl, rfl, f1, g1⟩
      · rw [List.nodup_append]
        refine ⟨f2, g2, fun x hx y hy hxy => ?_⟩
        subst hxy
        obtain ⟨p, p1, p2⟩ := f3 x hx
        obtain ⟨q, q1, q2⟩ := g3 x hy
        have := r.o1 p q x p2 q2
        exact hnd.2.2 p p1 q q1 this
      · intro b hb
        rcases List.mem_append.1 hb with hb | hb
        · obtain ⟨p, p1, p2⟩ := f3 b hb; exact ⟨p, by simp [p1], p2⟩
        · obtain ⟨p, p1, p2⟩ := g3 b hb; exact ⟨p, by simp [p1], p2⟩
      · intro p hp
        rcases List.mem_append.1 hp with hp | hp
        · exact f4 p hp
        · exact g4 p hp
    · cases e
end

/-- A struct's cells written into a block at a place. -/
theorem run_store {T : TypeId} {sz : Nat} {ag : Bool} (h : tyI P T = some (sz, ag)) {w : World} {b f : Nat} {cs : Array Value} {e : TypeId} (hb : w.heap[b]? = some (.cells cs e (0, 0))) {u : Value} (hl : u.cells.size = sz) (hf : f + sz ≤ cs.size) (h1 : ∀ x ∈ u.cells.toList, x.oneCell' = true) :
    (storeVar T ⟨b, f, none⟩ u).run P w = .ok () (w.setRow b (splice cs.toList f u.cells.toList).toArray) := by
  obtain ⟨i, hi, hs, _⟩ := tyI_some h
  have := run_storeCells_at P b f e u.cells.toList 0 cs w hb (by simp; omega) h1
  simp only [Nat.add_zero, List.append_assoc] at this
  simp [storeVar, Go.sizeOf, typeInfo, hi, hs, hl, this, splice]

theorem setRow_size (w : World) (b : Nat) (cs : Array Value) : (w.setRow b cs).heap.size = w.heap.size := by simp [World.setRow]

theorem below_row {B : Nat → Prop} {b : Nat} {w0 w : World} (h : Bel B w0 w) (hb : B b) {old cs : Array Value} {e : TypeId} {fr : Nat × Nat} (hg : w.heap[b]? = some (.cells old e fr)) (hl : old.size ≤ cs.size) : Bel B w0 (w.setRow b cs) :=
  h.trans ⟨rfl, rfl, rfl, by simp [World.setRow], fun k hk => setRow_other w b k cs (fun e => hk (e ▸ hb)), fun k n r => by
    by_cases hk : k = b
    · subst hk
      obtain ⟨c, t, h1, h2⟩ := r
      rw [hg] at h1; cases h1
      exact ⟨cs, e, setRow_heap w k old cs e (0, 0) hg, Nat.le_trans h2 hl⟩
    · exact r.mono (setRow_other w b k cs hk)⟩

end Gv
