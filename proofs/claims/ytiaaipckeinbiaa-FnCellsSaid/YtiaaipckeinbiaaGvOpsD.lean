/-
  Addresses of elements, loads, elements and cuts of strings, cuts of slices.
-/
import Derived.Test.YtiaaipckeinbiaaGvOpsC
namespace Gv
open Go

variable {P : Program} {o : Oper} {g : Bool} {σ : St} {n : Nat} {K : Res → Prop}

/-- The elements of an entry, if it is an array. -/
def H.els : H → Option (Nat × List (List D))
  | .arr sz xs _ => some (sz, xs)
  | .ro sz xs => some (sz, xs)
  | _ => none

/-- The size of an array's elements. -/
def H.esz : H → Option Nat
  | .arr sz _ _ => some sz
  | .ro sz _ => some sz
  | .cln sz _ => some sz
  | .win sz _ _ _ => some sz
  | _ => none

/-- The address of an element. -/
def iaE (P : Program) (hs : List H) (T : TypeId) (x : V) (i : Int) : Option (Prop × V) :=
  match x with
  | .sl id off len =>
    match elI P T, (hget hs id).esz with
    | some (_, sz, _), some sz' => if sz = sz' then some (0 ≤ i ∧ i < len, .ptr id (off + i.toNat) 0) else none
    | some (_, sz, _), none => match hget hs id with | .box _ => if sz = 1 ∧ off = 0 then some (0 ≤ i ∧ i < len, .ptr id 0 i.toNat) else none | _ => none
    | _, _ => none
  | .d (.sl sz' xs) =>
    match elI P T with
    | some (_, sz, _) => if sz = sz' then some (0 ≤ i ∧ i.toNat < xs.length, .rp ((xs[i.toNat]?).getD []) 0) else none
    | none => none
  | .ptr id idx off =>
    match arI P T with
    | some (len, sz) => some (0 ≤ i ∧ i < len, .ptr id idx (off + i.toNat * sz))
    | none => none
  | .rp cells off =>
    match arI P T with
    | some (len, sz) => some (0 ≤ i ∧ i < len, .rp cells (off + i.toNat * sz))
    | none => none
  | _ => none

theorem els_sz {φ : Phi} {T : Nat → Prop} {h : Array Obj} {β : Blk} {x : H} {sz : Nat} {xs : List (List D)} (he : x.els = some (sz, xs)) (r : HRel φ T h β x) : β.sz = sz := by
  cases x <;> simp only [H.els, reduceCtorEq, Option.some.injEq, Prod.mk.injEq] at he
  · simp only [HRel] at r; rw [r.1, he.1]
  · simp only [HRel] at r; rw [r.1, he.1]

theorem esz_sz {φ : Phi} {T : Nat → Prop} {h : Array Obj} {β : Blk} {x : H} {sz : Nat} (he : x.esz = some sz) (r : HRel φ T h β x) : β.sz = sz := by
  cases x <;> simp only [H.esz, reduceCtorEq, Option.some.injEq] at he <;> (simp only [HRel] at r; rw [r.1, he])

theorem esz_le {σ σ' : St} (hle : σ.le σ') {id : Nat} {p : Nat} (he : (hget σ.heap id).esz = some p) : (hget σ'.heap id).esz = some p := by
  rcases hle.2 id with h | h
  · rw [h] at he; cases he
  · rw [h]; exact he

theorem heap_rel' {B : Nat → Prop} {w0 : World} {Dm : Nat → Prop} {φ : Phi} {kp : List (V × Value)} {a : Act} {w : World} {σ : St} (r : R B w0 Dm φ σ kp a w) {id : Nat} {p : Nat} (he : (hget σ.heap id).esz = some p) :
    ∃ β, φ id = some β ∧ HRel φ (NotTop φ σ.heap) w.heap β (hget σ.heap id) := by
  rcases r.hp id with h | h
  · rw [h] at he; cases he
  · exact h

theorem els_le {σ σ' : St} (hle : σ.le σ') {id : Nat} {p : Nat × List (List D)} (he : (hget σ.heap id).els = some p) : (hget σ'.heap id).els = some p := by
  rcases hle.2 id with h | h
  · rw [h] at he; cases he
  · rw [h]; exact he

theorem heap_rel {B : Nat → Prop} {w0 : World} {Dm : Nat → Prop} {φ : Phi} {kp : List (V × Value)} {a : Act} {w : World} {σ : St} (r : R B w0 Dm φ σ kp a w) {id : Nat} {p : Nat × List (List D)} (he : (hget σ.heap id).els = some p) :
    ∃ β, φ id = some β ∧ HRel φ (NotTop φ σ.heap) w.heap β (hget σ.heap id) := by
  rcases r.hp id with h | h
  · rw [h] at he; cases he
  · exact h

theorem arI_some {T : TypeId} {l sz : Nat} (h : arI P T = some (l, sz)) : ∃ e i, P.underlying T = some (.array l e) ∧ P.info? e = some i ∧ i.size = sz := by
  unfold arI at h
  split at h
  · rename_i n' e' hu
    cases hi : P.info? e' with
    | none => rw [hi] at h; cases h
    | some i =>
      rw [hi] at h
      simp only [Option.map_some, Option.some.injEq, Prod.mk.injEq] at h
      obtain ⟨rfl, rfl⟩ := h
      exact ⟨e', i, hu, hi, rfl⟩
  · cases h

theorem ok_indexAddr {T : TypeId} {x ix : Operand} (ho : o.op = .indexAddr T x ix)
    (h : evg g (σ.ev x) fun a => evg g (σ.ev ix) fun b => asI b fun _ i => withR (iaE P σ.heap T a i) fun v => K (rv v)) : ∃ r, OpOK P o g σ n r ∧ K r := by
  obtain ⟨va, h, hx⟩ := evg_rel h
  obtain ⟨vb, h, hy⟩ := evg_rel h
  obtain ⟨k, i, rfl, h⟩ := asI_inv h
  obtain ⟨p, v, hE, hp, hK⟩ := withR_inv h
  refine ⟨_, OpOK_val fun σ' hle B w0 Dm φ kp a w r hg => ?_, hK⟩
  have rx := hx _ _ _ _ hg (ev_le hle r x)
  have ry := rel_int (hy _ _ _ _ hg (ev_le hle r ix))
  have slice : ∀ {e sz by_ : Nat} {b f len cp : Nat}, elI P T = some (e, sz, by_) → a.eval x = .slice (some ⟨b, f, none⟩) len cp → 0 ≤ i → i < len →
      (execOp a.eval o).run P w = .ok (.value (.pointer (some ⟨b, f + i.toNat * sz, none⟩))) w := by
    intro e sz by_ b f len cp he hu h0 h1
    obtain ⟨inf, hu', hi, hs, _⟩ := elI_some he
    unfold execOp; rw [ho]
    have hsz : (Go.sizeOf e).run P w = Result.ok sz w := by simp [Go.sizeOf, typeInfo, hi, hs]
    simp [Instr.indexAt, run_underlying hu', hu, ry.1, asIntOf, h0, h1, hsz, add_lit]
  have array : ∀ {l sz b f : Nat}, arI P T = some (l, sz) → a.eval x = .pointer (some ⟨b, f, none⟩) → 0 ≤ i → i < l → (execOp a.eval o).run P w = .ok (.value (.pointer (some ⟨b, f + i.toNat * sz, none⟩))) w := by
    intro l sz b f he hu h0 h1
    obtain ⟨e, inf, hu', hi, hs⟩ := arI_some he
    unfold execOp; rw [ho]
    have hsz : (Go.sizeOf e).run P w = Result.ok sz w := by simp [Go.sizeOf, typeInfo, hi, hs]
    simp [Instr.indexAt, run_underlying hu', hu, ry.1, asIntOf, h0, h1, hsz, add_lit, Instr.sureAddr]
  unfold iaE at hE
  split at hE
  · rename_i id off len
    split at hE
    · rename_i e sz by_ sz' he hel
      split at hE
      · rename_i hsz; subst hsz
        simp only [Option.some.injEq, Prod.mk.injEq] at hE
        obtain ⟨rfl, rfl⟩ := hE
        obtain ⟨β, ad, c, e1, e2, e3, e4, e5⟩ := rel_sl rx
        obtain ⟨β', e1', hr⟩ := heap_rel' r (esz_le hle hel)
        rw [e1] at e1'; cases e1'
        have hs := esz_sz (esz_le hle hel) hr
        rcases e5 with e5 | ⟨b, e5, e6, e7⟩
        · have := hp.2; omega
        · subst e6
          refine ⟨_, slice he e2 hp.1 hp.2, ?_⟩
          simp only [VRel]
          refine ⟨β, b, e1, e5, ?_⟩
          rw [hs, Nat.add_mul]; simp [Nat.add_assoc]
      · cases hE
    · rename_i e sz by_ he hnone
      split at hE
      · rename_i cells hbox
        split at hE
        · rename_i hc
          obtain ⟨rfl, rfl⟩ := hc
          simp only [Option.some.injEq, Prod.mk.injEq] at hE
          obtain ⟨rfl, rfl⟩ := hE
          obtain ⟨β, ad, c, e1, e2, e3, e4, e5⟩ := rel_sl rx
          rcases e5 with e5 | ⟨b, e5, e6, e7⟩
          · have := hp.2; omega
          · subst e6
            refine ⟨_, slice he e2 hp.1 hp.2, ?_⟩
            simp only [VRel]
            exact ⟨β, b, e1, e5, by simp⟩
        · cases hE
      · cases hE
    · cases hE
  · rename_i sz' xs
    split at hE
    · rename_i e sz by_ he
      split at hE
      · rename_i hsz; subst hsz
        simp only [Option.some.injEq, Prod.mk.injEq] at hE
        obtain ⟨rfl, rfl⟩ := hE
        obtain ⟨ad, c, e1, e2, e3, e4⟩ := rel_dsl rx
        rcases e4 with e4 | ⟨b, f, G, e4, e5, e6, e7, e8⟩
        · subst e4; simp at hp
        · subst e4
          have hlt := hp.2
          obtain ⟨G1, Gi, G2, rfl, k1, _, k2, _⟩ := repE_at e7 (List.getElem?_eq_getElem hlt)
          refine ⟨_, slice he e1 hp.1 (by omega), ?_⟩
          simp only [VRel]
          refine ⟨b, f + i.toNat * sz, Gi, by simp, e5, e6, ?_, fun g hg => e8 g (by simp [hg])⟩
          rw [List.getElem?_eq_getElem hlt]; exact k2
      · cases hE
    · cases hE
  · rename_i id idx off
    split at hE
    · rename_i len sz he
      simp only [Option.some.injEq, Prod.mk.injEq] at hE
      obtain ⟨rfl, rfl⟩ := hE
      simp only [VRel] at rx
      obtain ⟨β, b, e1, e2, e3⟩ := rx
      exact ⟨_, array he e3 hp.1 hp.2, by simp only [VRel]; exact ⟨β, b, e1, e2, by simp [Nat.add_assoc]⟩⟩
    · cases hE
  · rename_i cells off
    split at hE
    · rename_i len sz he
      simp only [Option.some.injEq, Prod.mk.injEq] at hE
      obtain ⟨rfl, rfl⟩ := hE
      simp only [VRel] at rx
      obtain ⟨b, f, G, e1, e2⟩ := rx
      exact ⟨_, array he e1 hp.1 hp.2, by simp only [VRel]; exact ⟨b, f, G, by simp [Nat.add_assoc], e2⟩⟩
    · cases hE
  · cases hE

/-! ### Loads -/

def mkV (ag : Bool) (vs : List V) : V := if ag then .agg vs else vs.headD .junk

def loadE (P : Program) (hs : List H) (T : TypeId) (x : V) : Option (Prop × V) :=
  match tyI P T, x with
  | some (sz, ag), .ptr id idx off =>
    match hget hs id with
    | .box cells => some (idx = 0 ∧ off + sz ≤ cells.length ∧ (ag = false → sz = 1), mkV ag ((cells.drop off).take sz))
    | .arr _ xs _ => some (idx < xs.length ∧ off + sz ≤ ((xs[idx]?).getD []).length ∧ (ag = false → sz = 1), mkV ag (((((xs[idx]?).getD []).drop off).take sz).map V.d))
    | .ro _ xs => some (idx < xs.length ∧ off + sz ≤ ((xs[idx]?).getD []).length ∧ (ag = false → sz = 1), mkV ag (((((xs[idx]?).getD []).drop off).take sz).map V.d))
    | .win _ pre cells _ => some (idx = pre.length ∧ off + sz ≤ cells.length ∧ (ag = false → sz = 1), mkV ag ((cells.drop off).take sz))
    | _ => none
  | some (sz, ag), .rp cells off => some (off + sz ≤ cells.length ∧ (ag = false → sz = 1), mkV ag (((cells.drop off).take sz).map V.d))
  | _, _ => none

theorem tyI_some {T : TypeId} {sz : Nat} {ag : Bool} (h : tyI P T = some (sz, ag)) : ∃ i, P.info? T = some i ∧ i.size = sz ∧ ∀ w, (isAgg T).run P w = .ok ag w := by
  unfold tyI at h
  split at h
  · rename_i i d h1 h2
    simp only [Option.some.injEq, Prod.mk.injEq] at h
    obtain ⟨rfl, rfl⟩ := h
    refine ⟨i, h1, rfl, fun w => ?_⟩
    unfold isAgg
    simp only [Sem.run_bind, run_underlying h2, Result.andThen_ok]
    cases d <;> rfl
  · cases h

/-- Cells at a place, loaded as a variable of a type. -/
theorem run_load {T : TypeId} {sz : Nat} {ag : Bool} (h : tyI P T = some (sz, ag)) {w : World} {b f : Nat} {us : List Value} (hl : us.length = sz) (h1 : ag = false → sz = 1) (hc : ∀ (j : Nat) (u : Value), us[j]? = some u → cellAt w.heap b (f + j) = some u) :
    (loadVar T ⟨b, f, none⟩).run P w = .ok (if ag then .agg us.toArray else us.headD undef) w := by
  obtain ⟨i, hi, hs, hag⟩ := tyI_some h
  unfold loadVar
  simp only [Sem.run_bind, hag, Result.andThen_ok]
  cases ag with
  | true =>
    have := run_loadCells_list (P := P) w ⟨b, f, none⟩ us (fun j v hj => by rw [add_lit, cell_eq]; exact hc j v hj)
    simp [Go.sizeOf, typeInfo, hi, hs, ← hl, this]
  | false =>
    have hsz := h1 rfl
    match us, hl, hsz with
    | [u], _, _ =>
      have h0 := hc 0 u rfl
      rw [Nat.add_zero, ← cell_eq] at h0
      simp [h0]

theorem mkV_rel {φ : Phi} {T : Nat → Prop} {h : Array Obj} {ag : Bool} {vs : List V} {us : List Value} {sz : Nat} (hl : us.length = sz) (h1 : ag = false → sz = 1) (r : VRels φ T h vs us) :
    VRel φ T h (mkV ag vs) (if ag then .agg us.toArray else us.headD undef) := by
  cases ag with
  | true => simp only [mkV, if_true, VRel]; exact ⟨us.toArray, rfl, r⟩
  | false =>
    have hsz := h1 rfl
    match us, hl, hsz with
    | [u], _, _ =>
      cases vs with
      | nil => simp only [VRels] at r; cases r
      | cons v vs =>
        simp only [VRels] at r
        obtain ⟨u', us', e, r1, r2⟩ := r
        cases e
        simpa [mkV] using r1

theorem repC_VRels {φ : Phi} {T : Nat → Prop} {h : Array Obj} {b : Nat} : ∀ (ds : List D) (f : Nat) (G : List Nat), repC h false b f ds G → (∀ g ∈ G, T g) → ∃ us : List Value, us.length = ds.length ∧ VRels φ T h (ds.map V.d) us ∧ ∀ (j : Nat) (u : Value), us[j]? = some u → cellAt h b (f + j) = some u
  | [], _, _, _, _ => ⟨[], rfl, by simp [VRels], by simp⟩
  | d :: ds, f, G, r, hT => by
    simp only [repC] at r
    obtain ⟨v, G1, G2, rfl, e2, e3, e4⟩ := r
    obtain ⟨us, k1, k2, k3⟩ := repC_VRels ds (f + 1) G2 e4 (fun g hg => hT g (by simp [hg]))
    refine ⟨v :: us, by simp [k1], ?_, fun j u hj => ?_⟩
    · simp only [List.map_cons, VRels, VRel]
      exact ⟨v, us, rfl, ⟨G1, e3, fun g hg => hT g (by simp [hg])⟩, k2⟩
    · cases j with
      | zero => simp at hj; subst hj; simpa using e2
      | succ j => rw [show f + (j + 1) = f + 1 + j from by omega]; exact k3 j u (by simpa using hj)

theorem cells_window {h : Array Obj} {b f : Nat} {us : List Value} (hc : ∀ (j : Nat) (u : Value), us[j]? = some u → cellAt h b (f + j) = some u) (off sz : Nat) :
    ∀ (j : Nat) (u : Value), ((us.drop off).take sz)[j]? = some u → cellAt h b (f + off + j) = some u := by
  intro j u hj
  rw [List.getElem?_take] at hj
  split at hj
  · rw [List.getElem?_drop] at hj
    rw [Nat.add_assoc]; exact hc _ _ hj
  · cases hj

/-- What an array's entry says of one element (owned or not): readable cells. -/
theorem els_cells {B : Nat → Prop} {w0 : World} {Dm : Nat → Prop} {φ : Phi} {kp : List (V × Value)} {a : Act} {w : World} {σ : St} (r : R B w0 Dm φ σ kp a w) {id : Nat} {sz : Nat} {xs : List (List D)} (he : (hget σ.heap id).els = some (sz, xs))
    {β : Blk} (hb : φ id = some β) {idx : Nat} (hi : idx < xs.length) : ∃ b, β.blk = some b ∧ ∃ us : List Value, us.length = ((xs[idx]?).getD []).length ∧ VRels φ (NotTop φ σ.heap) w.heap (((xs[idx]?).getD []).map V.d) us ∧
      ∀ (j : Nat) (u : Value), us[j]? = some u → cellAt w.heap b (β.off + idx * β.sz + j) = some u := by
  obtain ⟨β', e1, hr⟩ := heap_rel r he
  rw [hb] at e1; cases e1
  have hsz := els_sz he hr
  have hge : xs[idx]? = some xs[idx] := List.getElem?_eq_getElem hi
  rw [hge]
  cases hx : hget σ.heap id with
  | dead => rw [hx] at he; cases he
  | box cells => rw [hx] at he; cases he
  | cln _ _ => rw [hx] at he; cases he
  | win _ _ _ _ => rw [hx] at he; cases he
  | arr sz' xs' nf =>
    rw [hx] at he hr
    simp only [H.els, Option.some.injEq, Prod.mk.injEq] at he
    obtain ⟨rfl, rfl⟩ := he
    simp only [HRel] at hr
    rcases hr.2 with hr | ⟨b, G, r1, r2, r3, r4, r5, r6⟩
    · rw [hr.2.1] at hi; simp at hi
    · obtain ⟨G1, Gi, G2, rfl, k1, _, k2, _⟩ := repE_at r4 hge
      have hT : ∀ g ∈ Gi, NotTop φ σ.heap g := by
        intro g hg
        cases nf with
        | true => exact notTop_of_nest r hb (by rw [hx]; rfl) (by rw [hx]; rfl) (by rw [← r5 rfl]; simp [hg])
        | false => exact r6 rfl g (by simp [hg])
      have k2' : repC w.heap false b (β.off + idx * sz') (xs'[idx]) Gi := by
        cases nf with
        | true => exact repC_false _ _ _ _ k2
        | false => exact k2
      obtain ⟨us, u1, u2, u3⟩ := repC_VRels (φ := φ) _ _ _ k2' hT
      exact ⟨b, r1, us, u1, u2, by rw [hsz]; exact u3⟩
  | ro sz' xs' =>
    rw [hx] at he hr
    simp only [H.els, Option.some.injEq, Prod.mk.injEq] at he
    obtain ⟨rfl, rfl⟩ := he
    simp only [HRel] at hr
    rcases hr.2 with hr | ⟨b, G, r1, r2, r3, r4, r5⟩
    · rw [hr] at hi; simp at hi
    · obtain ⟨G1, Gi, G2, rfl, k1, _, k2, _⟩ := repE_at r4 hge
      obtain ⟨us, u1, u2, u3⟩ := repC_VRels (φ := φ) _ _ _ k2 (fun g hg => r5 g (by simp [hg]))
      exact ⟨b, r1, us, u1, u2, by rw [hsz]; exact u3⟩

theorem load_core {T : TypeId} {B : Nat → Prop} {w0 : World} {Dm : Nat → Prop} {φ : Phi} {kp : List (V × Value)} {a : Act} {w : World} {σ σ' : St} (hle : σ.le σ') (r : R B w0 Dm φ σ' kp a w) {va v : V} {p : Prop} (hE : loadE P σ.heap T va = some (p, v)) (hp : p)
    {ux : Value} (rx : VRel φ (NotTop φ σ'.heap) w.heap va ux) : ∃ b f u, ux = .pointer (some ⟨b, f, none⟩) ∧ (loadVar T ⟨b, f, none⟩).run P w = .ok u w ∧ VRel φ (NotTop φ σ'.heap) w.heap v u := by
  have fin : ∀ {sz : Nat} {ag : Bool} {b f off : Nat} {vs : List V} {us : List Value}, tyI P T = some (sz, ag) → (ag = false → sz = 1) → off + sz ≤ us.length → VRels φ (NotTop φ σ'.heap) w.heap vs us →
      (∀ (j : Nat) (u : Value), us[j]? = some u → cellAt w.heap b (f + j) = some u) → ux = .pointer (some ⟨b, f + off, none⟩) →
      ∃ b f u, ux = .pointer (some ⟨b, f, none⟩) ∧ (loadVar T ⟨b, f, none⟩).run P w = .ok u w ∧ VRel φ (NotTop φ σ'.heap) w.heap (mkV ag ((vs.drop off).take sz)) u := by
    intro sz ag b f off vs us hty h1 hle' hv hc hu
    have hl : ((us.drop off).take sz).length = sz := by simp; omega
    refine ⟨_, _, _, hu, run_load hty hl h1 (cells_window hc off sz), ?_⟩
    exact mkV_rel hl h1 (VRels_take (VRels_drop hv off) sz)
  unfold loadE at hE
  split at hE
  · rename_i sz ag id idx off hty
    simp only [VRel] at rx
    obtain ⟨β, b, e1, e2, e3⟩ := rx
    have hh := hle.2 id
    split at hE
    · rename_i cells hc
      simp only [Option.some.injEq, Prod.mk.injEq] at hE
      obtain ⟨rfl, rfl⟩ := hE
      have hc' : hget σ'.heap id = .box cells := by rcases hh with hh | hh; · rw [hc] at hh; cases hh
                                                    · rw [hh, hc]
      rcases r.hp id with hd | ⟨β', e1', hr⟩
      · rw [hc'] at hd; cases hd
      · rw [e1] at e1'; cases e1'
        rw [hc'] at hr; simp only [HRel] at hr
        obtain ⟨b', cs, t, r1, r2, r3, r4⟩ := hr
        rw [e2] at r1; cases r1
        obtain ⟨p1, p2, p3⟩ := hp
        have hlen := VRels_len _ _ r4
        refine fin (b := b) (f := 0) hty p3 (by rw [hlen]; exact p2) r4 (fun j u hj => ?_) (by rw [e3, p1, r2]; simp)
        unfold cellAt; rw [r3]; simpa using hj
    · rename_i sz' xs nf hc
      simp only [Option.some.injEq, Prod.mk.injEq] at hE
      obtain ⟨rfl, rfl⟩ := hE
      have hc' : (hget σ'.heap id).els = some (sz', xs) := els_le hle (by rw [hc]; rfl)
      obtain ⟨p1, p2, p3⟩ := hp
      obtain ⟨b', k1, us, k2, k3, k4⟩ := els_cells r hc' e1 p1
      rw [e2] at k1; cases k1
      have := fin (b := b) (f := β.off + idx * β.sz) hty p3 (by rw [k2]; exact p2) k3 k4 e3
      rw [List.map_take, List.map_drop]; exact this
    · rename_i sz' xs hc
      simp only [Option.some.injEq, Prod.mk.injEq] at hE
      obtain ⟨rfl, rfl⟩ := hE
      have hc' : (hget σ'.heap id).els = some (sz', xs) := els_le hle (by rw [hc]; rfl)
      obtain ⟨p1, p2, p3⟩ := hp
      obtain ⟨b', k1, us, k2, k3, k4⟩ := els_cells r hc' e1 p1
      rw [e2] at k1; cases k1
      have := fin (b := b) (f := β.off + idx * β.sz) hty p3 (by rw [k2]; exact p2) k3 k4 e3
      rw [List.map_take, List.map_drop]; exact this
    · rename_i sz' pre cells post hc
      simp only [Option.some.injEq, Prod.mk.injEq] at hE
      obtain ⟨rfl, rfl⟩ := hE
      have hc' : hget σ'.heap id = .win sz' pre cells post := by rcases hh with hh | hh; · rw [hc] at hh; cases hh
                                                                 · rw [hh, hc]
      rcases r.hp id with hd | ⟨β', e1', hr⟩
      · rw [hc'] at hd; cases hd
      · rw [e1] at e1'; cases e1'
        rw [hc'] at hr; simp only [HRel] at hr
        obtain ⟨hs, hcl, b', G1, G2, us, r1, r2, r3, r4, r5, r6, r7, r8⟩ := hr
        rw [e2] at r1; cases r1
        obtain ⟨p1, p2, p3⟩ := hp
        have hlen := VRels_len _ _ r6
        exact fin (b := b) (f := β.off + pre.length * sz') hty p3 (by rw [hlen]; exact p2) r6 r7 (by rw [e3, p1, hs])
    · cases hE
  · rename_i sz ag cells off hty
    simp only [Option.some.injEq, Prod.mk.injEq] at hE
    obtain ⟨rfl, rfl⟩ := hE
    simp only [VRel] at rx
    obtain ⟨b, f, G, e1, e2, e3, e4, e5⟩ := rx
    obtain ⟨us, u1, u2, u3⟩ := repC_VRels (φ := φ) _ _ _ e4 e5
    have := fin (b := b) (f := f) hty hp.2 (by rw [u1]; exact hp.1) u2 u3 e1
    rw [List.map_take, List.map_drop]; exact this
  · cases hE

theorem ok_load {T : TypeId} {x : Operand} (ho : o.op = .load T x) (h : evg g (σ.ev x) fun a => withR (loadE P σ.heap T a) fun v => K (rv v)) : ∃ r, OpOK P o g σ n r ∧ K r := by
  obtain ⟨va, h, hx⟩ := evg_rel h
  obtain ⟨p, v, hE, hp, hK⟩ := withR_inv h
  refine ⟨_, OpOK_val fun σ' hle B w0 Dm φ kp a w r hg => ?_, hK⟩
  obtain ⟨b, f, u, hu, hl, hv⟩ := load_core hle r hE hp (hx _ _ _ _ hg (ev_le hle r x))
  refine ⟨u, ?_, hv⟩
  unfold execOp; rw [ho]
  simp [Instr.loadAt, hu, Instr.sureAddr, hl]

end Gv
