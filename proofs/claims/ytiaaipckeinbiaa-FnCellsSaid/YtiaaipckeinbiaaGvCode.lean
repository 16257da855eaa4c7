/-
  Regions, code, functions: what is asked of the abstract states, and that the code then runs so.
-/
import Derived.Test.YtiaaipckeinbiaaGvCall
import Derived.Test.YtiaaipckeinbiaaGvMove
import Derived.Deep.LoopGhost
namespace Gv
open Go

variable {P : Program} {o : Oper} {g : Bool} {σ : St} {n : Nat} {K : Res → Prop}

def withS (r : Option (Prop × Res)) (K : Res → Prop) : Prop := match r with | some (p, r) => p ∧ K r | none => False

def withN (r : Option Nat) (K : Nat → Prop) : Prop := match r with | some m => K m | none => False

/-- A call of a function by its law: one that only reads, or one that writes what it is handed. -/
def CallK (P : Program) (f : FuncId) (as : Option (List AD)) (hs : List H) (vs : List V) (n : Nat) (K : Res → Prop) : Prop :=
  (∃ as' rs, as = some as' ∧ PureCall P f as' rs ∧ K ⟨tV rs n, aHs rs, []⟩) ∨
  (∃ as as' rs ids p upd, toOAs hs vs = some (as, ids) ∧ ids.Nodup ∧ MutCall P f as as' rs ∧ mutAs hs vs as' = some (p, upd) ∧ p ∧ aHs rs = [] ∧ upd.map (·.1) = ids ∧ K ⟨tV rs n, [], upd⟩) ∨
  (∃ as' rs, as = some as' ∧ PureCall P f as' rs ∧ K ⟨tV rs n, (aHs rs).map H.toCln, []⟩) ∨
  ∃ as rs ids, toOAs hs vs = some (as, ids) ∧ ids.Nodup ∧ ConsCall P f as rs ∧ flatIds hs ids ∧ K ⟨tV rs n, aHs rs, ids.map fun i => (i, .dead)⟩

/-- By the law of a function that consumes what it is handed. -/
theorem CallK.cons {f : FuncId} {ao : Option (List AD)} {as rs : List AD} {hs : List H} {vs : List V} {ids : List Nat} (h : ConsCall P f as rs) (h1 : toOAs hs vs = some (as, ids)) (h2 : ids.Nodup) (h4 : flatIds hs ids)
    (hk : K ⟨tV rs n, aHs rs, ids.map fun i => (i, .dead)⟩) : CallK P f ao hs vs n K := .inr (.inr (.inr ⟨as, rs, ids, h1, h2, h, h4, hk⟩))

theorem CallK.intro {f : FuncId} {as rs : List AD} {hs : List H} {vs : List V} (h : PureCall P f as rs) (hk : K ⟨tV rs n, aHs rs, []⟩) : CallK P f (some as) hs vs n K := .inl ⟨as, rs, rfl, h, hk⟩

theorem CallK.mut {f : FuncId} {ao : Option (List AD)} {as as' rs : List AD} {hs : List H} {vs : List V} {ids : List Nat} {p : Prop} {upd : List (Nat × H)} (h : MutCall P f as as' rs) (h1 : toOAs hs vs = some (as, ids)) (h2 : ids.Nodup) (h4 : mutAs hs vs as' = some (p, upd)) (hp : p) (h5 : aHs rs = []) (h6 : upd.map (·.1) = ids)
    (hk : K ⟨tV rs n, [], upd⟩) : CallK P f ao hs vs n K := .inr (.inl ⟨as, as', rs, ids, p, upd, h1, h2, h, h4, hp, h5, h6, hk⟩)

def fnE (v : V) (K : FuncId → List V → Prop) : Prop := match v with | .fn f caps => K f caps | _ => False
theorem fnE_inv {v : V} {K : FuncId → List V → Prop} (h : fnE v K) : ∃ f caps, v = .fn f caps ∧ K f caps := by
  unfold fnE at h; split at h
  · exact ⟨_, _, rfl, h⟩
  · exact h.elim

def callE (P : Program) (g : Bool) (σ : St) (n : Nat) (c : Callee) (xs : List Operand) (ts : List TypeId) (K : Res → Prop) : Prop :=
  match c, xs, ts with
  | .builtin .len, [x], [T] => evg g (σ.ev x) fun a => withN (lenE P T a) fun m => K (rv (dI .i64 m))
  | .builtin .append, [x, y], [T, U] => T = U ∧ evg g (σ.ev x) fun a => evg g (σ.ev y) fun b => withS (apI P σ.heap T a b n) K
  | .builtin .clear, [x], [T] => evg g (σ.ev x) fun a => withS (clrE P σ.heap T a) K
  | .builtin .min, [x, y], [_, _] => evg g (σ.ev x) fun a => evg g (σ.ev y) fun b => asI a fun k i => asI b fun k' j => k = k' ∧ K (rv (dI k (if j < i then j else i)))
  | .builtin .max, [x, y], [_, _] => evg g (σ.ev x) fun a => evg g (σ.ev y) fun b => asI a fun k i => asI b fun k' j => k = k' ∧ K (rv (dI k (if j > i then j else i)))
  | .value (.func f), xs, _ => evs g σ xs fun vs => CallK P f (toADs σ.heap vs) σ.heap vs n K
  | .value x, xs, _ => evg g (σ.ev x) fun fv => fnE fv fun f caps => caps = [] ∧ evs g σ xs fun vs => CallK P f (toADs σ.heap vs) σ.heap vs n K
  | _, _, _ => False

def opE (P : Program) (g : Bool) (σ : St) (n : Nat) (o : Oper) (K : Res → Prop) : Prop :=
  match o.op with
  | .move x => evg g (σ.ev x) fun v => K (rv (fixT P o.type v))
  | .assign x => evg g (σ.ev x) fun v => K (rv (fixT P o.type v))
  | .pick c x y => pickE g (σ.ev c) (σ.ev x) (σ.ev y) fun v => K (rv v)
  | .binOp op T x y _ => evg g (σ.ev x) fun a => evg g (σ.ev y) fun b => withR (binE P op T a b) fun v => K (rv v)
  | .unOp op _ x => evg g (σ.ev x) fun a => withO (unE op a) fun v => K (rv v)
  | .extract x i => evg g (σ.ev x) fun a => withO (extE a i) fun v => K (rv v)
  | .nilCheck x => evg g (σ.ev x) fun a => ptrE a = true ∧ K (rv a)
  | .fieldAddr S x f => evg g (σ.ev x) fun a => withO (faE P S f a) fun v => K (rv v)
  | .indexAddr T x ix => evg g (σ.ev x) fun a => evg g (σ.ev ix) fun b => asI b fun _ i => withR (iaE P σ.heap T a i) fun v => K (rv v)
  | .load T x => evg g (σ.ev x) fun a => withR (loadE P σ.heap T a) fun v => K (rv v)
  | .index T x ix => evg g (σ.ev x) fun a => evg g (σ.ev ix) fun b => asI b fun _ i => withR (ixE P T a i) fun v => K (rv v)
  | .slice T x lo hi none => evg g (σ.ev x) fun a => bndE g σ 0 lo fun l => bndE g σ (lenOfV a) hi fun h => withR (cutE P σ.heap T a l h) fun v => K (rv v)
  | .convert src dst x => evg g (σ.ev x) fun a => withR (cvE P σ.heap src dst a) fun v => K (rv v)
  | .build T parts => evParts g σ parts.toList fun ps => withO (bldE P T ps) fun v => K (rv v)
  | .alloc T => withO ((zrI P T).map V.agg) fun v => K ⟨.ptr n 0 0, [.box v.cells], []⟩
  | .box _ x => evg g (σ.ev x) fun v => v.cellsOk = true ∧ K ⟨.ptr n 0 0, [.box v.cells], []⟩
  | .store T p x => evg g (σ.ev p) fun q => evg g (σ.ev x) fun v => withS ((storeE P σ.heap T q (fixT P T v)).map fun (c, upd) => (c, ⟨.junk, [], upd⟩)) K
  | .buildSlice T len parts => evParts g σ parts.toList fun ps => withS (bsE P σ.heap T len ps n) K
  | .makeSlice T x y => x = y ∧ evg g (σ.ev x) fun v => asI v fun _ i => withS (mkE P T i n) K
  | .makeFunc (.func f) ys caps => ys.toList = [] ∧ evs g σ caps.toList fun vs => K (rv (.fn f vs))
  | .call c => callE P g σ n c.callee c.args.toList c.argTypes.toList K
  | .slice T x (some lo) (some hi) (some mx) => evg g (σ.ev x) fun a => bndE g σ 0 (some lo) fun l => bndE g σ 0 (some hi) fun h => bndE g σ 0 (some mx) fun m => withR (cut3E P T a l h m) fun v => K (rv v)
  | _ => False

theorem evg_mono {g : Bool} {v : V} {K K' : V → Prop} (h : evg g v K) (hk : ∀ v, K v → K' v) : evg g v K' := by
  unfold evg at *
  split at h
  · exact ⟨h.1, hk _ h.2⟩
  · exact hk _ h

theorem list_one {α : Type} {a : Array α} {x : α} (h : a.toList = [x]) : a = #[x] := by rw [← Array.toArray_toList (xs := a), h]
theorem list_two {α : Type} {a : Array α} {x y : α} (h : a.toList = [x, y]) : a = #[x, y] := by rw [← Array.toArray_toList (xs := a), h]

theorem callE_ok {c : Call} (ho : o.op = .call c) (h : callE P g σ n c.callee c.args.toList c.argTypes.toList K) : ∃ r, OpOK P o g σ n r ∧ K r := by
  obtain ⟨ce, xs, ts⟩ := c
  simp only at h
  unfold callE at h
  split at h
  · rename_i x T h1 h2
    refine ok_len ho (x := x) (T := T) (by rw [list_one h1, list_one h2]) h
  · rename_i x y T U h1 h2
    obtain ⟨rfl, h⟩ := h
    exact ok_append2 ho (x := x) (y := y) (T := T) (by rw [list_two h1, list_two h2]) h
  · rename_i x T h1 h2
    exact ok_clear ho (x := x) (T := T) (by rw [list_one h1, list_one h2]) h
  · rename_i x y T U h1 h2
    exact ok_min ho (x := x) (y := y) (T := T) (U := U) (by rw [list_two h1, list_two h2]) h
  · rename_i x y T U h1 h2
    exact ok_max ho (x := x) (y := y) (T := T) (U := U) (by rw [list_two h1, list_two h2]) h
  · obtain ⟨vs, h, hx⟩ := evs_inv _ _ h
    rcases h with ⟨as, rs, h1, h2, h3⟩ | ⟨as, as', rs, ids, p, upd, h1, h2, h3, h4, h5, h6, h7, h8⟩ | ⟨as, rs, h1, h2, h3⟩ | ⟨as, rs, ids, h1, h2, h3, h4, h5⟩
    · exact ok_call' ho rfl (fun _ _ _ => rfl) hx h1 h2 h3
    · exact ⟨_, ok_mutcall ho rfl (fun _ _ _ => rfl) hx h1 h2 h3 h4 h5 h6 h7, h8⟩
    · exact ok_callc ho rfl (fun _ _ _ => rfl) hx h1 h2 h3
    · exact ⟨_, ok_conscall ho rfl (fun _ _ _ => rfl) hx h1 h2 h3 h4, h5⟩
  · rename_i x _
    obtain ⟨fv, h', hf⟩ := evg_rel h
    obtain ⟨f, caps, rfl, h'⟩ := fnE_inv h'
    clear h
    obtain ⟨rfl, h⟩ := h'
    have hfe : ∀ {σ' : St} {B : Nat → Prop} {w0 : World} {Dm : Nat → Prop} {φ : Phi} {kp : List (V × Value)} {a : Act} {w : World}, σ.le σ' → R B w0 Dm φ σ' kp a w → g = true → a.eval x = .func (.func f) #[] #[] := by
      intro σ' B w0 Dm φ kp a w hle hR hg
      have := hf _ _ _ _ hg (ev_le hle hR x)
      simp only [VRel] at this
      obtain ⟨us, e, e2⟩ := this
      simp only [VRels] at e2
      rw [e]; congr 1; exact Array.toList_eq_nil_iff.1 e2
    obtain ⟨vs, h, hx⟩ := evs_inv _ _ h
    rcases h with ⟨as, rs, h1, h2, h3⟩ | ⟨as, as', rs, ids, p, upd, h1, h2, h3, h4, h5, h6, h7, h8⟩ | ⟨as, rs, h1, h2, h3⟩ | ⟨as, rs, ids, h1, h2, h3, h4, h5⟩
    · exact ok_call' ho rfl hfe hx h1 h2 h3
    · exact ⟨_, ok_mutcall ho rfl hfe hx h1 h2 h3 h4 h5 h6 h7, h8⟩
    · exact ok_callc ho rfl hfe hx h1 h2 h3
    · exact ⟨_, ok_conscall ho rfl hfe hx h1 h2 h3 h4, h5⟩
  · exact h.elim

theorem opE_ok (h : opE P g σ n o K) : ∃ r, OpOK P o g σ n r ∧ K r := by
  unfold opE at h
  split at h
  case h_1 x ho => exact ok_move (.inl ho) h
  case h_2 x ho => exact ok_move (.inr ho) h
  case h_3 c x y ho => exact ok_pick ho h
  case h_4 op T x y T' ho => exact ok_bin ho h
  case h_5 op T x ho => exact ok_un ho h
  case h_6 x i ho => exact ok_ext ho h
  case h_7 x ho => exact ok_nilCheck ho h
  case h_8 S x f ho => exact ok_fieldAddr ho h
  case h_9 T x ix ho => exact ok_indexAddr ho h
  case h_10 T x ho => exact ok_load ho h
  case h_11 T x ix ho => exact ok_index ho h
  case h_12 T x lo hi ho => exact ok_slice ho h
  case h_13 src dst x ho => exact ok_convert ho h
  case h_14 T parts ho => exact ok_build ho h
  case h_15 T ho =>
    refine ok_alloc ho ?_
    cases hz : zrI P T with
    | none => rw [hz] at h; exact h
    | some z => rw [hz] at h; exact h
  case h_16 T x ho => exact ok_box ho h
  case h_17 T p x ho =>
    refine ok_store ho ?_
    refine evg_mono h fun q h => evg_mono h fun v h => ?_
    cases hs : storeE P σ.heap T q (fixT P T v) with
    | none => rw [hs] at h; exact h
    | some p => rw [hs] at h; exact h
  case h_18 T len parts ho => exact ok_buildSlice ho h
  case h_19 T x y ho => obtain ⟨rfl, h⟩ := h; exact ok_makeSlice ho h
  case h_20 f ys caps ho =>
    obtain ⟨hy, h⟩ := h
    have : ys = #[] := by rw [← Array.toArray_toList (xs := ys), hy]
    subst this
    exact ok_makeFunc ho h
  case h_21 c ho => exact callE_ok ho h
  case h_22 T x lo hi mx ho => exact ok_slice3 ho h
  case h_23 => exact h.elim

/-! ### Guards -/

/-- Under a guard that is not known: the value holds if the guard does. Or the guard is known. -/
def gStep (P : Program) (g : Bool) (σ : St) (n : Nat) (o : Oper) (K : Res → Prop) : Prop :=
  (g = true ∧ opE P true σ n o K) ∨ (g = false ∧ K (rv (.gd false (.d (.bool false))))) ∨ opE P g σ n o fun r => r.new = [] ∧ r.upd = [] ∧ K (rv (.gd g r.v))

theorem gStep_true (h : opE P true σ n o K) : gStep P true σ n o K := .inl ⟨rfl, h⟩
theorem gStep_false (h : K (rv (.gd false (.d (.bool false))))) : gStep P false σ n o K := .inr (.inl ⟨rfl, h⟩)
theorem gStep_sym (h : opE P g σ n o fun r => r.new = [] ∧ r.upd = [] ∧ K (rv (.gd g r.v))) : gStep P g σ n o K := .inr (.inr h)

def stepE (P : Program) (ops : List Oper) (σ : St) (n : Nat) (o : Oper) (K : Res → Prop) : Prop :=
  match o.guard with
  | none => opE P true σ n o K
  | some (j, want) =>
    match (ops[j]?).bind (·.dst) with
    | some d =>
      match σ.ev (.tmp d) with
      | .d (.bool b) => gStep P (b == want) σ n o K
      | .gd c (.d (.bool b)) => gStep P (c && (b == want)) σ n o K
      | _ => False
    | none => False

def StepOK (P : Program) (ops : Array Oper) (o : Oper) (σ : St) (n : Nat) (r : Res) : Prop :=
  ∀ σ' : St, σ.le σ' → (∀ i, n ≤ i → i < n + r.new.length → hget σ'.heap i = .dead) →
  ∀ (B : Nat → Prop) (w0 : World) (Dm : Nat → Prop) (φ : Phi) (kp : List (V × Value)) (a : Act) (w : World), (∀ i, n ≤ i → i < n + r.new.length → ¬ Dm i) → R B w0 Dm φ σ' kp a w →
  ∀ (K : Act → World → Prop) (Q : Exit → Act → World → Prop),
    (∀ u w' φ', R B w0 (fun i => Dm i ∨ (n ≤ i ∧ i < n + r.new.length)) φ' (σ'.app o.dst n r) kp (a.put o.dst u) w' → K (a.put o.dst u) w') →
    if Region.wanted o (yielded ops a.tmps) then o.wp P a w K Q ∨ (o.asks P a w ∧ LetsOut Q) else K (a.put o.dst undef) w

theorem R_weak {B : Nat → Prop} {w0 : World} {Dm : Nat → Prop} {φ : Phi} {σ : St} {kp : List (V × Value)} {a : Act} {w : World} (r : R B w0 Dm φ σ kp a w) {ts : List V} (hl : ts.length = σ.tmps.length)
    (h : ∀ (t : Nat) (v' v : V) (u : Value), ts[t]? = some v' → σ.tmps[t]? = some v → VRel φ (NotTop φ σ.heap) w.heap v u → VRel φ (NotTop φ σ.heap) w.heap v' u) : R B w0 Dm φ ⟨ts, σ.heap⟩ kp a w := by
  refine ⟨VRels_mk _ _ (by rw [VRels_len _ _ r.tm, hl]) fun t v' u e1 e2 => ?_, r.kp, r.hp, r.o1, r.o2, r.o3, r.dm, r.bel, r.bs, r.de, r.gb⟩
  have hlt : t < σ.tmps.length := by
    rcases Nat.lt_or_ge t ts.length with h | h
    · omega
    · rw [List.getElem?_eq_none h] at e1; cases e1
  obtain ⟨u', k1, k2⟩ := VRels_at _ _ r.tm t _ (List.getElem?_eq_getElem hlt)
  rw [k1] at e2; cases e2
  exact h t v' _ u e1 (List.getElem?_eq_getElem hlt) k2

theorem R_gd {B : Nat → Prop} {w0 : World} {Dm : Nat → Prop} {φ : Phi} {σ : St} {kp : List (V × Value)} {a : Act} {w : World} {dst : Option Tmp} {v : V} {n : Nat} {hs : List H} {upd : List (Nat × H)} (r : R B w0 Dm φ (σ.app dst n ⟨v, hs, upd⟩) kp a w) :
    R B w0 Dm φ (σ.app dst n ⟨.gd true v, hs, upd⟩) kp a w := by
  cases dst with
  | none => exact r
  | some d =>
    refine R_weak r (by simp [St.app]) fun t v' v'' u e1 e2 hr => ?_
    simp only [St.app, List.getElem?_set] at e1 e2
    by_cases h : d = t
    · subst h
      simp only [if_true] at e1 e2
      split at e1
      · cases e1
        rw [if_pos (by assumption)] at e2; cases e2
        simp only [VRel]; exact ⟨fun _ => hr, fun h => by cases h⟩
      · cases e1
    · simp only [h, if_false] at e1 e2
      rw [e1] at e2; cases e2; exact hr

theorem ev_yield {B : Nat → Prop} {w0 : World} {Dm : Nat → Prop} {φ : Phi} {σ σ' : St} {kp : List (V × Value)} {a : Act} {w : World} (hle : σ.le σ') (r : R B w0 Dm φ σ' kp a w) {d : Tmp} {v : V} (hv : σ.ev (.tmp d) = v) (hj : v ≠ .junk) :
    ∃ u, a.tmps[d]? = some u ∧ VRel φ (NotTop φ σ'.heap) w.heap v u := by
  have he := hle.ev (.tmp d)
  rw [hv] at he
  rcases he with h | h
  · exact absurd h hj
  · simp only [St.ev, List.getD_eq_getElem?_getD] at h
    cases ht : σ'.tmps[d]? with
    | none => rw [ht] at h; exact absurd h.symm hj
    | some v' =>
      rw [ht] at h; simp only [Option.getD_some] at h; subst h
      obtain ⟨u, k1, k2⟩ := VRels_at _ _ r.tm d _ ht
      rw [Array.getElem?_toList] at k1
      exact ⟨u, k1, k2⟩

theorem rel_gdf {φ : Phi} {T : Nat → Prop} {h : Array Obj} (v : V) : VRel φ T h (.gd false v) undef := by
  simp only [VRel]; exact ⟨fun h => (Bool.noConfusion h), fun _ => trivial⟩

theorem gStep_ok {ops : Array Oper} (hw : ∀ {σ' : St} {B : Nat → Prop} {w0 : World} {Dm : Nat → Prop} {φ : Phi} {kp : List (V × Value)} {a : Act} {w : World}, σ.le σ' → R B w0 Dm φ σ' kp a w → Region.wanted o (yielded ops a.tmps) = g)
    (h : gStep P g σ n o K) : ∃ r, StepOK P ops o σ n r ∧ K r := by
  rcases h with ⟨rfl, h⟩ | ⟨rfl, h⟩ | h
  · obtain ⟨r, h1, h2⟩ := opE_ok h
    refine ⟨r, fun σ' hle hd B w0 Dm φ kp a w hDm hR Q1 Q2 hk => ?_, h2⟩
    rw [if_pos (hw hle hR)]
    exact .inl (h1 σ' hle hd B w0 Dm φ kp a w hDm hR rfl Q1 Q2 hk)
  · refine ⟨_, fun σ' hle hd B w0 Dm φ kp a w hDm hR Q1 Q2 hk => ?_, h⟩
    rw [if_neg (by rw [hw hle hR]; simp)]
    exact hk undef w φ (R_dm (R_put hR o.dst (rel_gdf _)) fun i h => .inl h)
  · obtain ⟨r, h1, h2, h3, h4⟩ := opE_ok h
    refine ⟨_, fun σ' hle hd B w0 Dm φ kp a w hDm hR Q1 Q2 hk => ?_, h4⟩
    obtain ⟨v, new, upd⟩ := r
    simp only at h2 h3; subst h2; subst h3
    cases g with
    | true =>
      rw [if_pos (hw hle hR)]
      refine .inl (h1 σ' hle hd B w0 Dm φ kp a w hDm hR rfl Q1 Q2 fun u w' φ' hr => hk u w' φ' ?_)
      exact R_gd (σ := σ') (v := v) (dst := o.dst) hr
    | false =>
      rw [if_neg (by rw [hw hle hR]; simp)]
      exact hk undef w φ (R_dm (R_put hR o.dst (rel_gdf v)) fun i h => .inl h)

theorem stepE_ok {ops : Array Oper} (h : stepE P ops.toList σ n o K) : ∃ r, StepOK P ops o σ n r ∧ K r := by
  unfold stepE at h
  split at h
  · rename_i hg
    obtain ⟨r, h1, h2⟩ := opE_ok h
    refine ⟨r, fun σ' hle hd B w0 Dm φ kp a w hDm hR Q1 Q2 hk => ?_, h2⟩
    rw [if_pos (by simp [Region.wanted, hg])]
    exact .inl (h1 σ' hle hd B w0 Dm φ kp a w hDm hR rfl Q1 Q2 hk)
  · rename_i j want hg
    split at h
    · rename_i d hd
      rw [Array.getElem?_toList] at hd
      split at h
      · rename_i b hv
        refine gStep_ok (fun hle hR => ?_) h
        obtain ⟨u, k1, k2⟩ := ev_yield hle hR hv (by simp)
        rw [rel_bool k2] at k1
        simp [Region.wanted, hg, yielded, hd, k1]
      · rename_i c b hv
        refine gStep_ok (fun {σ' B w0 Dm φ kp a w} hle hR => ?_) h
        obtain ⟨u, k1, k2⟩ := ev_yield hle hR hv (by simp)
        simp only [VRel] at k2
        cases c with
        | true =>
          rw [rel_bool (φ := φ) (T := NotTop φ σ'.heap) (h := w.heap) (b := b) (u := u) (by simp only [VRel]; exact k2.1 rfl)] at k1
          simp [Region.wanted, hg, yielded, hd, k1]
        | false =>
          rw [k2.2 rfl] at k1
          simp [Region.wanted, hg, yielded, hd, k1, undef]
      · exact h.elim
    · exact h.elim

/-! ### Regions in the order of the text -/

/-- What guards an operation. -/
def guE (v : V) (want : Bool) (K : Bool → Prop) : Prop :=
  match v with
  | .d (.bool b) => K (b == want)
  | .gd c (.d (.bool b)) => K (c && (b == want))
  | _ => False

def dstOf (ops : List Oper) (j : Nat) (K : Tmp → Prop) : Prop := match (ops[j]?).bind (·.dst) with | some d => K d | none => False

/-- The relation, whatever the places; numbers of entries are used up to the heap's length. -/
def RR (B : Nat → Prop) (w0 : World) (kp : List (V × Value)) (σ : St) (a : Act) (w : World) : Prop := ∃ Dm φ, R B w0 Dm φ σ kp a w ∧ ∀ i, Dm i → i < σ.heap.length

/-- What a call of f comes to, whoever calls: 'kv' stays what it is; K: the result, the entries behind the call. -/
def InlCall (P : Program) (f : FuncId) (kv : List V) (hs : List H) (vs : List V) (K : V → List H → Prop) : Prop :=
  ∀ (B : Nat → Prop) (w0 : World) (kp : List (V × Value)) (us : List Value) (w : World), kp.map (·.1) = kv → RR B w0 kp ⟨vs, hs⟩ ⟨us.toArray, []⟩ w →
    Does P f us.toArray w fun v w' => ∃ x hs', K x hs' ∧ RR B w0 kp ⟨[x], hs'⟩ ⟨#[v], []⟩ w'


def setD (ts : List V) (dst : Option Tmp) (v : V) : List V := match dst with | some d => ts.set d v | none => ts

theorem hput_length (hs : List H) (i : Nat) (x : H) : hs.length ≤ (hput hs i x).length ∧ i < (hput hs i x).length := by
  unfold hput
  split
  · rename_i h; simp [h]
  · rename_i h; simp; omega

theorem hnew_length : ∀ (xs : List H) (hs : List H) (n : Nat), hs.length ≤ (hnew hs n xs).length ∧ (xs = [] ∨ n + xs.length ≤ (hnew hs n xs).length)
  | [], hs, n => ⟨Nat.le_refl _, .inl rfl⟩
  | x :: xs, hs, n => by
    have h1 := hput_length hs n x
    have h2 := hnew_length xs (hput hs n x) (n + 1)
    simp only [hnew, List.length_cons]
    refine ⟨by omega, .inr ?_⟩
    rcases h2.2 with rfl | h
    · simp only [hnew, List.length_nil]; omega
    · omega

theorem hupd_length : ∀ (upd : List (Nat × H)) (hs : List H), hs.length ≤ (hupd hs upd).length
  | [], hs => Nat.le_refl _
  | (i, x) :: r, hs => by
    have h1 := hput_length hs i x
    have h2 := hupd_length r (hput hs i x)
    simp only [hupd]; omega

theorem hget_ge {hs : List H} {i : Nat} (h : hs.length ≤ i) : hget hs i = .dead := by
  unfold hget; rw [List.getD_eq_getElem?_getD, List.getElem?_eq_none h]; rfl

/-! ### Opening one element of an owned array, and closing it -/

theorem repC_reps {h : Array Obj} {o : Bool} {b : Nat} : ∀ (ds : List D) (f : Nat) (G : List Nat), repC h o b f ds G → ∃ us : List Value, reps h o ds us G ∧ ∀ (j : Nat) (u : Value), us[j]? = some u → cellAt h b (f + j) = some u
  | [], f, G, r => by simp only [repC] at r; exact ⟨[], ⟨rfl, r⟩, by simp⟩
  | d :: ds, f, G, r => by
    simp only [repC] at r
    obtain ⟨v, G1, G2, rfl, e2, e3, e4⟩ := r
    obtain ⟨us, k1, k2⟩ := repC_reps ds (f + 1) G2 e4
    refine ⟨v :: us, ⟨v, us, G1, G2, rfl, rfl, e3, k1⟩, fun j u hj => ?_⟩
    cases j with
    | zero => simp at hj; subst hj; simpa using e2
    | succ j => rw [show f + (j + 1) = f + 1 + j from by omega]; exact k2 j u (by simpa using hj)

theorem RR_open {B : Nat → Prop} {w0 : World} {kp : List (V × Value)} {σ : St} {a : Act} {w : World} (r : RR B w0 kp σ a w) {id idx sz : Nat} {xs : List (List D)} {c : List D} (hx : hget σ.heap id = .cln sz xs) (hc : xs[idx]? = some c) :
    RR B w0 kp ⟨σ.tmps, hnew (hput σ.heap id (.win sz (xs.take idx) (rVs c σ.heap.length) (xs.drop (idx + 1)))) σ.heap.length (rHs c)⟩ a w := by
  obtain ⟨Dm, φ, r, hD⟩ := r
  have hidl : id < σ.heap.length := by
    rcases Nat.lt_or_ge id σ.heap.length with h | h
    · exact h
    · rw [hget_ge h] at hx; cases hx
  have hlt : idx < xs.length := (List.getElem?_eq_some_iff.1 hc).1
  rcases r.hp id with hd | ⟨β, e1, hr⟩
  · rw [hx] at hd; cases hd
  rw [hx] at hr
  simp only [HRel] at hr
  obtain ⟨hsz, hr⟩ := hr
  rcases hr with hr | ⟨b, r1, r2, r3, r4⟩
  · rw [hr.2.1] at hlt; simp at hlt
  obtain ⟨G1, Gi, G2, hG, m1, m2, m3, m4⟩ := repE_at r4 hc
  obtain ⟨us, u1, u2⟩ := repC_reps _ _ _ m3
  obtain ⟨bl, ⟨l1, l2, l3, l4⟩, hv⟩ := rVs_rel c us Gi u1
  have ho2 := r.o2 id β e1 (by rw [hx]; rfl)
  rw [hG] at ho2
  have hGi : Gi.Nodup := by
    have := ho2.1
    rw [List.nodup_append] at this
    have := this.2.1
    rw [List.nodup_append] at this
    exact this.1
  have hG12 : (G1 ++ G2).Nodup := by
    have := ho2.1
    simp only [List.nodup_append, List.mem_append] at this ⊢
    grind
  have hdis : ∀ x ∈ Gi, x ∉ G1 ∧ x ∉ G2 := by
    have := ho2.1
    simp only [List.nodup_append, List.mem_append] at this
    grind
  let n := σ.heap.length
  let φ' : Phi := fun i => if i = id then some { β with nest := G1 ++ G2 } else if n ≤ i ∧ i < n + (rHs c).length then bl[i - n]? else φ i
  have hφ : ∀ i, n ≤ i → φ i = none := fun i h => by
    cases h' : φ i with
    | none => rfl
    | some β => have := hD i (r.dm i β h'); omega
  have hpid : φ' id = some { β with nest := G1 ++ G2 } := if_pos rfl
  have hpin : ∀ i, n ≤ i ∧ i < n + (rHs c).length → φ' i = bl[i - n]? := fun i h => by
    show (if i = id then _ else _) = _
    rw [if_neg (by omega), if_pos h]
  have hpout : ∀ i, i ≠ id → ¬ (n ≤ i ∧ i < n + (rHs c).length) → φ' i = φ i := fun i h1 h2 => by
    show (if i = id then _ else _) = _
    rw [if_neg h1, if_neg h2]
  have hhid : hget (hnew (hput σ.heap id (.win sz (xs.take idx) (rVs c σ.heap.length) (xs.drop (idx + 1)))) σ.heap.length (rHs c)) id = .win sz (xs.take idx) (rVs c σ.heap.length) (xs.drop (idx + 1)) := by
    rw [hget_hnew, if_neg (by omega), hget_hput, if_pos rfl]
  have hhin : ∀ i, n ≤ i ∧ i < n + (rHs c).length → ∃ x, (rHs c)[i - n]? = some x ∧ hget (hnew (hput σ.heap id (.win sz (xs.take idx) (rVs c σ.heap.length) (xs.drop (idx + 1)))) σ.heap.length (rHs c)) i = x := by
    intro i h
    have hl : i - n < (rHs c).length := by omega
    refine ⟨(rHs c)[i - n], List.getElem?_eq_getElem hl, ?_⟩
    rw [hget_hnew, if_pos h, List.getD_eq_getElem?_getD, List.getElem?_eq_getElem hl]; rfl
  have hhout : ∀ i, i ≠ id → ¬ (n ≤ i ∧ i < n + (rHs c).length) → hget (hnew (hput σ.heap id (.win sz (xs.take idx) (rVs c σ.heap.length) (xs.drop (idx + 1)))) σ.heap.length (rHs c)) i = hget σ.heap i := by
    intro i h1 h2
    rw [hget_hnew, if_neg h2, hget_hput, if_neg h1]
  have hA : At φ' n bl := fun i β' e => by
    have hl : i < bl.length := by
      rcases Nat.lt_or_ge i bl.length with h | h
      · exact h
      · rw [List.getElem?_eq_none h] at e; cases e
    rw [hpin (n + i) ⟨by omega, by omega⟩, Nat.add_sub_cancel_left]; exact e
  have hfoot : ∀ (i : Nat) (β' : Blk) (g : Nat), bl[i]? = some β' → g ∈ foot β' → g ∈ Gi := fun i β' g h1 h2 => by rw [← l2]; exact List.mem_flatMap.2 ⟨β', List.mem_of_getElem? h1, h2⟩
  generalize hhs : hnew (hput σ.heap id (.win sz (xs.take idx) (rVs c σ.heap.length) (xs.drop (idx + 1)))) σ.heap.length (rHs c) = hs' at hhid hhin hhout ⊢
  -- what the entries own
  have hown : ∀ i, (i = id ∨ (n ≤ i ∧ i < n + (rHs c).length)) → ∀ g, Owns φ' hs' i g → (i = id ∧ (g = b ∨ g ∈ G1 ++ G2)) ∨ (i ≠ id ∧ ∃ β', bl[i - n]? = some β' ∧ g ∈ foot β') := by
    rintro i hi g ⟨β', e2, ho⟩
    by_cases hii : i = id
    · subst hii
      rw [hpid] at e2; cases e2
      refine .inl ⟨rfl, ?_⟩
      rcases ho with ⟨_, ho⟩ | ⟨_, ho⟩
      · simp only [r1, Option.some.injEq] at ho; exact .inl ho.symm
      · exact .inr ho
    · have hi := hi.resolve_left hii
      rw [hpin i hi] at e2
      refine .inr ⟨hii, β', e2, ?_⟩
      unfold foot
      rcases ho with ⟨_, ho⟩ | ⟨_, ho⟩ <;> simp [ho]
  have hidown : ∀ g, (g = b ∨ g ∈ β.nest) → Owns φ σ.heap id g := by
    intro g hg
    rcases hg with rfl | hg
    · exact ⟨β, e1, .inl ⟨by rw [hx]; rfl, r1⟩⟩
    · exact ⟨β, e1, .inr ⟨by rw [hx]; rfl, hg⟩⟩
  have hidtop : ∀ g, (g = b ∨ g ∈ β.nest) → TopOf (hget σ.heap id) β g := by
    intro g hg
    rw [hx]
    rcases hg with rfl | hg
    · exact .inl ⟨rfl, r1⟩
    · exact .inr ⟨rfl, hg⟩
  have hmem : ∀ g, (g ∈ G1 ++ G2 ∨ g ∈ Gi) → g ∈ β.nest := by
    intro g hg
    rw [hG]
    simp only [List.mem_append] at hg ⊢
    grind
  have hle : Le φ φ' := fun i β' hi => by
    by_cases h : i = id
    · subst h; rw [e1] at hi; cases hi
      exact ⟨_, hpid, rfl, rfl, rfl, rfl⟩
    · have : ¬ (n ≤ i ∧ i < n + (rHs c).length) := fun h' => by rw [hφ i h'.1] at hi; cases hi
      exact ⟨β', by rw [hpout i h this]; exact hi, rfl, rfl, rfl, rfl⟩
  refine ⟨fun i => Dm i ∨ (n ≤ i ∧ i < n + (rHs c).length), φ', R_change r (fun i => i = id ∨ (n ≤ i ∧ i < n + (rHs c).length)) _ φ' hs' w (fun i hi => ⟨hhout i (fun h => hi (.inl h)) (fun h => hi (.inr h)), hpout i (fun h => hi (.inl h)) (fun h => hi (.inr h))⟩) hle (Nat.le_refl _) (fun _ _ _ => rfl)
    (fun i hi g ho => ?_) (fun i hi β' e2 g ht => ?_) (fun i j g hi hj h1 h2 => ?_) (fun i β' hi e2 _ => ?_) (fun i hi => ?_) (fun i β' e2 => ?_) r.bel, fun i hi => ?_⟩
  · right
    refine ⟨id, .inl rfl, hidown g ?_⟩
    rcases hown i hi g ho with ⟨_, h | h⟩ | ⟨_, β', h1, h2⟩
    · exact .inl h
    · exact .inr (hmem g (.inl h))
    · exact .inr (hmem g (.inr (hfoot _ β' g h1 h2)))
  · right
    refine ⟨id, β, .inl rfl, e1, hidtop g ?_⟩
    rcases hown i hi g (TopOf.owns e2 ht) with ⟨_, h | h⟩ | ⟨_, β', h1, h2⟩
    · exact .inl h
    · exact .inr (hmem g (.inl h))
    · exact .inr (hmem g (.inr (hfoot _ β' g h1 h2)))
  · have hb2 : b ∉ Gi := fun h => ho2.2 b r1 (by simp [h])
    rcases hown i hi g h1 with ⟨q1, q2⟩ | ⟨q1, β1, q2, q3⟩ <;> rcases hown j hj g h2 with ⟨p1, p2⟩ | ⟨p1, β2, p2, p3⟩
    · rw [q1, p1]
    · exfalso
      have := hfoot _ β2 g p2 p3
      rcases q2 with rfl | q2
      · exact hb2 this
      · have h5 := hdis g this
        rcases List.mem_append.1 q2 with h | h
        · exact h5.1 h
        · exact h5.2 h
    · exfalso
      have := hfoot _ β1 g q2 q3
      rcases p2 with rfl | p2
      · exact hb2 this
      · have h5 := hdis g this
        rcases List.mem_append.1 p2 with h | h
        · exact h5.1 h
        · exact h5.2 h
    · have := flat_inj bl l2 hGi _ _ β1 β2 g q2 p2 q3 p3
      have hi := hi.resolve_left q1
      have hj := hj.resolve_left p1
      omega
  · by_cases hii : i = id
    · subst hii
      rw [hpid] at e2; cases e2
      refine ⟨hG12, fun g hg hg2 => ho2.2 g hg ?_⟩
      simp only [List.mem_append] at hg2 ⊢
      grind
    · have hi := hi.resolve_left hii
      rw [hpin i hi] at e2
      have := flat_nodup bl l2 hGi β' (List.mem_of_getElem? e2)
      unfold foot at this
      rw [List.nodup_append] at this
      exact ⟨this.2.1, fun g hg hg2 => this.2.2 g (by simp [hg]) g hg2 rfl⟩
  · right
    by_cases hii : i = id
    · subst hii
      refine ⟨_, hpid, ?_⟩
      rw [hhid]
      have htl : (xs.take idx).length = idx := by simp; omega
      have hV := hv φ' n (NotTop φ' hs') hA
      refine ⟨hsz, ?_, b, G1, G2, us, r1, by rw [htl, List.length_drop]; show idx + 1 + (xs.length - (idx + 1)) ≤ β.cap; omega, r3, rfl, m2, hV, fun j u hj => ?_, ?_⟩
      · rw [← VRels_len _ _ hV, reps_len _ _ _ u1]; exact m1
      · rw [htl]; exact u2 j u hj
      · rw [htl]; exact m4
    · have hi := hi.resolve_left hii
      obtain ⟨x, h1, h2⟩ := hhin i hi
      have hl : i - n < bl.length := by omega
      refine ⟨bl[i - n], by rw [hpin i hi]; exact List.getElem?_eq_getElem hl, ?_⟩
      rw [h2]
      exact l3 _ _ _ (List.getElem?_eq_getElem hl) h1 _ _
  · by_cases hii : i = id
    · subst hii; exact .inl (r.dm i β e1)
    · by_cases h : n ≤ i ∧ i < n + (rHs c).length
      · exact .inr h
      · rw [hpout i hii h] at e2; exact .inl (r.dm i β' e2)
  · show i < hs'.length
    rw [← hhs]
    have k1 := hnew_length (rHs c) (hput σ.heap id (.win sz (xs.take idx) (rVs c σ.heap.length) (xs.drop (idx + 1)))) σ.heap.length
    have k2 := hput_length σ.heap id (.win sz (xs.take idx) (rVs c σ.heap.length) (xs.drop (idx + 1)))
    rcases hi with hi | hi
    · have := hD i hi; omega
    · rcases k1.2 with h | h
      · rw [h] at hi; simp at hi; omega
      · omega

theorem RR_close {B : Nat → Prop} {w0 : World} {kp : List (V × Value)} {σ : St} {a : Act} {w : World} (r : RR B w0 kp σ a w) {id sz : Nat} {pre post : List (List D)} {cells : List V} {ds : List D} {ids : List Nat} (hx : hget σ.heap id = .win sz pre cells post) (hd : toDs σ.heap cells = some (ds, ids)) (hn : ids.Nodup)
    (hf : ∀ i ∈ ids, ∃ s ys, hget σ.heap i = .arr s ys true ∧ flatE ys = true) : RR B w0 kp ⟨σ.tmps, hupd (hput σ.heap id (.cln sz (pre ++ ds :: post))) (ids.map fun i => (i, H.dead))⟩ a w := by
  obtain ⟨Dm, φ, r, hD⟩ := r
  rcases r.hp id with hd' | ⟨β, e1, hr⟩
  · rw [hx] at hd'; cases hd'
  rw [hx] at hr
  simp only [HRel] at hr
  obtain ⟨hsz, hcl, b, G1, G2, us, r1, r2, r3, r4, r5, r6, r7, r8⟩ := hr
  obtain ⟨Gd, d1, d2, d3, d4⟩ := toDs_rel r _ _ _ _ hd hn r6
  have ho2 := r.o2 id β e1 (by rw [hx]; rfl)
  have hidn : id ∉ ids := fun h => by
    obtain ⟨s, ys, h1, _⟩ := hf id h
    rw [hx] at h1; cases h1
  have hidown : ∀ g, (g = b ∨ g ∈ β.nest) → Owns φ σ.heap id g := by
    intro g hg
    rcases hg with rfl | hg
    · exact ⟨β, e1, .inl ⟨by rw [hx]; rfl, r1⟩⟩
    · exact ⟨β, e1, .inr ⟨by rw [hx]; rfl, hg⟩⟩
  have hnestI : ∀ i ∈ ids, ∀ β', φ i = some β' → β'.nest = [] := by
    intro i hi β' e
    obtain ⟨s, ys, h1, h2⟩ := hf i hi
    rcases r.hp i with hd' | ⟨β2, e2, hr⟩
    · rw [h1] at hd'; cases hd'
    · rw [e] at e2; cases e2
      obtain ⟨_, hr⟩ := mine_rel (by rw [h1]; rfl) hr
      rcases hr with hr | ⟨_, _, _, _, hr⟩
      · exact hr.2.2.2
      · exact repE_flat _ _ _ _ h2 hr
  have hdtop : ∀ g ∈ Gd, ∃ i ∈ ids, ∃ β', φ i = some β' ∧ TopOf (hget σ.heap i) β' g := by
    intro g hg
    obtain ⟨i, i1, β', e2, i2⟩ := d3 g hg
    refine ⟨i, i1, β', e2, ?_⟩
    rcases i2 with i2 | ⟨_, i2⟩
    · exact .inl i2
    · rw [hnestI i i1 β' e2] at i2; cases i2
  have hdn : ∀ g ∈ Gd, g ≠ b ∧ g ∉ β.nest := by
    intro g hg
    obtain ⟨i, i1, i2⟩ := d3 g hg
    constructor
    · intro h
      exact hidn (r.o1 i id g i2 (hidown g (.inl h)) ▸ i1)
    · intro h
      exact hidn (r.o1 i id g i2 (hidown g (.inr h)) ▸ i1)
  have hin : ∀ i ∈ ids, hget (hupd (hput σ.heap id (.cln sz (pre ++ ds :: post))) (ids.map fun i => (i, H.dead))) i = .dead := by
    intro i hi
    rcases hget_hupd (ids.map fun i => (i, H.dead)) (hput σ.heap id (.cln sz (pre ++ ds :: post))) i with ⟨x, h1, h2⟩ | ⟨h1, _⟩
    · obtain ⟨j, _, hj⟩ := List.mem_map.1 h1
      simp only [Prod.mk.injEq] at hj
      rw [h2, ← hj.2]
    · exact absurd (List.mem_map.2 ⟨i, hi, rfl⟩) (h1 .dead)
  have hhid : hget (hupd (hput σ.heap id (.cln sz (pre ++ ds :: post))) (ids.map fun i => (i, H.dead))) id = .cln sz (pre ++ ds :: post) := by
    rcases hget_hupd (ids.map fun i => (i, H.dead)) (hput σ.heap id (.cln sz (pre ++ ds :: post))) id with ⟨x, h1, _⟩ | ⟨_, h2⟩
    · obtain ⟨j, hj1, hj⟩ := List.mem_map.1 h1
      simp only [Prod.mk.injEq] at hj
      exact absurd (hj.1 ▸ hj1) hidn
    · rw [h2, hget_hput, if_pos rfl]
  have hout : ∀ i, i ≠ id → i ∉ ids → hget (hupd (hput σ.heap id (.cln sz (pre ++ ds :: post))) (ids.map fun i => (i, H.dead))) i = hget σ.heap i := by
    intro i h1 h2
    rcases hget_hupd (ids.map fun i => (i, H.dead)) (hput σ.heap id (.cln sz (pre ++ ds :: post))) i with ⟨x, h3, _⟩ | ⟨_, h3⟩
    · obtain ⟨j, hj1, hj⟩ := List.mem_map.1 h3
      simp only [Prod.mk.injEq] at hj
      exact absurd (hj.1 ▸ hj1) h2
    · rw [h3, hget_hput, if_neg h1]
  have hnest : (G1 ++ (Gd ++ G2)).Nodup := by
    have h1 := ho2.1
    rw [r4] at h1 hdn
    simp only [List.nodup_append, List.mem_append] at h1 hdn ⊢
    grind
  have hdl : ds.length = sz := by rw [← reps_len _ _ _ d1, VRels_len _ _ r6]; exact hcl
  have hle : Le φ (phiSet φ id { β with nest := G1 ++ (Gd ++ G2) }) := fun i β' hi => by
    by_cases h : i = id
    · subst h; rw [e1] at hi; cases hi
      exact ⟨{ β with nest := G1 ++ (Gd ++ G2) }, by simp [phiSet], rfl, rfl, rfl, rfl⟩
    · exact ⟨β', by simp [phiSet, h, hi], rfl, rfl, rfl, rfl⟩
  have hpid : phiSet φ id { β with nest := G1 ++ (Gd ++ G2) } id = some { β with nest := G1 ++ (Gd ++ G2) } := by simp [phiSet]
  generalize hhs : hupd (hput σ.heap id (.cln sz (pre ++ ds :: post))) (ids.map fun i => (i, H.dead)) = hs' at hin hhid hout ⊢
  have hown : ∀ i, (i = id ∨ i ∈ ids) → ∀ g, Owns (phiSet φ id { β with nest := G1 ++ (Gd ++ G2) }) hs' i g → i = id ∧ (g = b ∨ g ∈ β.nest ∨ g ∈ Gd) := by
    rintro i hi g ⟨β', e2, ho⟩
    by_cases hii : i = id
    · subst hii
      rw [hpid] at e2; cases e2
      refine ⟨rfl, ?_⟩
      rcases ho with ⟨_, ho⟩ | ⟨_, ho⟩
      · simp only [r1, Option.some.injEq] at ho; exact .inl ho.symm
      · rw [r4]; simp only [List.mem_append] at ho ⊢; grind
    · have hi := hi.resolve_left hii
      rw [hin i hi] at ho
      rcases ho with ⟨ho, _⟩ | ⟨ho, _⟩ <;> cases ho
  refine ⟨Dm, phiSet φ id { β with nest := G1 ++ (Gd ++ G2) }, R_change r (fun i => i = id ∨ i ∈ ids) _ _ hs' w (fun i hi => ⟨hout i (fun h => hi (.inl h)) (fun h => hi (.inr h)), if_neg (fun h => hi (.inl h))⟩) hle (Nat.le_refl _) (fun _ _ _ => rfl)
    (fun i hi g ho => ?_) (fun i hi β' e2 g ht => ?_) (fun i j g hi hj h1 h2 => ?_) (fun i β' hi e2 _ => ?_) (fun i hi => ?_) (fun i β' e2 => ?_) r.bel, fun i hi => ?_⟩
  · right
    obtain ⟨_, h⟩ := hown i hi g ho
    rcases h with h | h | h
    · exact ⟨id, .inl rfl, hidown g (.inl h)⟩
    · exact ⟨id, .inl rfl, hidown g (.inr h)⟩
    · obtain ⟨j, j1, j2⟩ := d3 g h
      exact ⟨j, .inr j1, j2⟩
  · right
    obtain ⟨_, h⟩ := hown i hi g (TopOf.owns e2 ht)
    rcases h with h | h | h
    · exact ⟨id, β, .inl rfl, e1, by rw [hx]; exact .inl ⟨rfl, by rw [r1, h]⟩⟩
    · exact ⟨id, β, .inl rfl, e1, by rw [hx]; exact .inr ⟨rfl, h⟩⟩
    · obtain ⟨j, j1, β2, j2, j3⟩ := hdtop g h
      exact ⟨j, β2, .inr j1, j2, j3⟩
  · rw [(hown i hi g h1).1, (hown j hj g h2).1]
  · rcases hi with rfl | hi
    · rw [hpid] at e2; cases e2
      refine ⟨hnest, fun g hg hg2 => ?_⟩
      have h5 := ho2.2 g hg
      rw [r4] at h5
      simp only [r1, Option.some.injEq] at hg
      have h6 : g ∈ Gd → False := fun h => (hdn g h).1 hg.symm
      simp only [List.mem_append] at hg2 h5
      grind
    · rename_i ho
      rw [hin i hi] at ho; cases ho
  · rcases hi with rfl | hi
    · right
      refine ⟨_, hpid, ?_⟩
      rw [hhid]
      refine ⟨hsz, .inr ⟨b, r1, by simp only [List.length_append, List.length_cons]; show pre.length + (post.length + 1) ≤ β.cap; omega, r3, ?_⟩⟩
      refine (repE_append _ _ _ _).2 ⟨G1, Gd ++ G2, rfl, r5, ?_⟩
      simp only [repE]
      refine ⟨Gd, G2, rfl, hdl, reps_repC _ _ _ _ d1 r7, ?_⟩
      have : β.off + pre.length * sz + sz = β.off + (pre.length + 1) * sz := by rw [Nat.add_mul]; omega
      rw [this]; exact r8
    · exact .inl (hin i hi)
  · by_cases hii : i = id
    · subst hii; exact r.dm i β e1
    · exact r.dm i β' (by simpa [phiSet, hii] using e2)
  · show i < hs'.length
    rw [← hhs]
    have k1 := hupd_length (ids.map fun i => (i, H.dead)) (hput σ.heap id (.cln sz (pre ++ ds :: post)))
    have k2 := hput_length σ.heap id (.cln sz (pre ++ ds :: post))
    have := hD i hi; omega

/-- The same, or one element opened or closed. -/
def Sh (σ σ' : St) : Prop := σ' = σ ∨
  (∃ id idx sz xs c, hget σ.heap id = .cln sz xs ∧ xs[idx]? = some c ∧ σ' = ⟨σ.tmps, hnew (hput σ.heap id (.win sz (xs.take idx) (rVs c σ.heap.length) (xs.drop (idx + 1)))) σ.heap.length (rHs c)⟩) ∨
  ∃ id sz pre cells post ds ids, hget σ.heap id = .win sz pre cells post ∧ toDs σ.heap cells = some (ds, ids) ∧ ids.Nodup ∧ (∀ i ∈ ids, ∃ s ys, hget σ.heap i = .arr s ys true ∧ flatE ys = true) ∧ σ' = ⟨σ.tmps, hupd (hput σ.heap id (.cln sz (pre ++ ds :: post))) (ids.map fun i => (i, H.dead))⟩

theorem Sh.refl (σ : St) : Sh σ σ := .inl rfl

theorem Sh_ok {B : Nat → Prop} {w0 : World} {kp : List (V × Value)} {σ σ' : St} {a : Act} {w : World} (h : Sh σ σ') (r : RR B w0 kp σ a w) : RR B w0 kp σ' a w := by
  rcases h with rfl | ⟨id, idx, sz, xs, c, h1, h2, rfl⟩ | ⟨id, sz, pre, cells, post, ds, ids, h1, h2, h3, h4, rfl⟩
  · exact r
  · exact RR_open r h1 h2
  · exact RR_close r h1 h2 h3 h4

/-- A call in the order of the text: by the function's law, or through its code. -/
def CallS (P : Program) (kv : List V) (σ : St) (dst : Option Tmp) (f : FuncId) (caps : List V) (ao : Option (List AD)) (vs : List V) (K : St → Prop) : Prop :=
  (caps = [] ∧ ((CallK P f ao σ.heap vs σ.heap.length fun r => K (σ.app dst σ.heap.length r)) ∨
    ∃ as rs, ao = some as ∧ PureCall P f as rs ∧ ∃ σ2, Sh (σ.app dst σ.heap.length ⟨tV rs σ.heap.length, (aHs rs).map H.toCln, []⟩) σ2 ∧ K σ2)) ∨
  InlCall P f (σ.tmps ++ kv) σ.heap (vs ++ caps) fun x hs => K ⟨setD σ.tmps dst x, hs⟩

/-- An operation without regard to its guard. -/
def bareE (P : Program) (kv : List V) (σ : St) (o : Oper) (K : St → Prop) : Prop :=
  match o.op with
  | .call ⟨.value x, xs, _⟩ => evg true (σ.ev x) fun fv => fnE fv fun f caps => evs true σ xs.toList fun vs => CallS P kv σ o.dst f caps (toADs σ.heap vs) vs K
  | _ => opE P true σ σ.heap.length o fun r => K (σ.app o.dst σ.heap.length r)

def gStepS (P : Program) (kv : List V) (g : Bool) (σ : St) (o : Oper) (K : St → Prop) : Prop :=
  gStep P g σ σ.heap.length o (fun r => K (σ.app o.dst σ.heap.length r)) ∨ ((g = true → bareE P kv σ o K) ∧ (g = false → K (σ.app o.dst σ.heap.length (rv (.gd false (.d (.bool false)))))))

def seqE (P : Program) (kv : List V) (ops : List Oper) (σ : St) (o : Oper) (K : St → Prop) : Prop :=
  match o.guard with
  | none => bareE P kv σ o K
  | some (j, want) => dstOf ops j fun d => guE (σ.ev (.tmp d)) want fun g => gStepS P kv g σ o K

def opsE (P : Program) (kv : List V) (ops : List Oper) : List Oper → St → (St → Prop) → Prop
  | [], σ, K => K σ
  | o :: rest, σ, K => seqE P kv ops σ o fun σ' => opsE P kv ops rest σ' K

theorem app_length (σ : St) (dst : Option Tmp) (r : Res) : σ.heap.length + r.new.length ≤ (σ.app dst σ.heap.length r).heap.length := by
  have h1 := hnew_length r.new σ.heap σ.heap.length
  have h2 := hupd_length r.upd (hnew σ.heap σ.heap.length r.new)
  simp only [St.app]
  rcases h1.2 with h | h
  · have h3 := h1.1; rw [h] at h2 h3 ⊢; simp only [List.length_nil]; omega
  · omega

theorem app_fresh {Dm : Nat → Prop} {σ : St} {dst : Option Tmp} {r : Res} (hD : ∀ i, Dm i → i < σ.heap.length) (i : Nat) (hi : Dm i ∨ (σ.heap.length ≤ i ∧ i < σ.heap.length + r.new.length)) : i < (σ.app dst σ.heap.length r).heap.length := by
  have := app_length σ dst r
  rcases hi with hi | hi
  · have := hD i hi; omega
  · omega

theorem op_in {B : Nat → Prop} {w0 : World} {kp : List (V × Value)} {σ : St} {o : Oper} {K : St → Prop} {K' : Act → World → Prop} {Q : Exit → Act → World → Prop} {a : Act} {w : World}
    (h : opE P true σ σ.heap.length o fun r => K (σ.app o.dst σ.heap.length r)) (hr : RR B w0 kp σ a w) (hk : ∀ σ' u w', K σ' → RR B w0 kp σ' (a.put o.dst u) w' → K' (a.put o.dst u) w') : o.wp P a w K' Q := by
  obtain ⟨r, h1, h2⟩ := opE_ok h
  obtain ⟨Dm, φ, hR, hD⟩ := hr
  exact h1 σ (St.le.refl σ) (fun i hi _ => hget_ge hi) B w0 Dm φ kp a w (fun i hi _ hd => by have := hD i hd; omega) hR rfl K' Q fun u w' φ' hr' => hk _ u w' h2 ⟨_, φ', hr', app_fresh hD⟩

theorem R_inner {B : Nat → Prop} {w0 : World} {kp : List (V × Value)} {σ : St} {a : Act} {w : World} {vs : List V} {us : List Value} (hr : RR B w0 kp σ a w) (hv : ∀ Dm φ, R B w0 Dm φ σ kp a w → VRels φ (NotTop φ σ.heap) w.heap vs us) :
    RR B w0 (σ.tmps.zip a.tmps.toList ++ kp) ⟨vs, σ.heap⟩ ⟨us.toArray, []⟩ w := by
  obtain ⟨Dm, φ, r, hD⟩ := hr
  refine ⟨Dm, φ, ⟨hv Dm φ r, fun p hp => ?_, r.hp, r.o1, r.o2, r.o3, r.dm, r.bel, r.bs, rfl, r.gb⟩, hD⟩
  rcases List.mem_append.1 hp with hp | hp
  · exact r.kp p (List.mem_append_left _ hp)
  rcases List.mem_append.1 hp with hp | hp
  · obtain ⟨j, hj, rfl⟩ := List.getElem_of_mem hp
    have hl := VRels_len _ _ r.tm
    simp only [List.length_zip] at hj
    obtain ⟨u, k1, k2⟩ := VRels_at _ _ r.tm j _ (List.getElem?_eq_getElem (by omega))
    rw [List.getElem?_eq_getElem (by omega)] at k1
    rw [List.getElem_zip]
    cases k1; exact k2
  · exact r.kp p (List.mem_append_right _ hp)

theorem R_outer {B : Nat → Prop} {w0 : World} {kp : List (V × Value)} {ts : List V} {us : Array Value} {hs : List H} {x : V} {v : Value} {w : World} (hl : us.toList.length = ts.length) (dst : Option Tmp)
    (hr : RR B w0 (ts.zip us.toList ++ kp) ⟨[x], hs⟩ ⟨#[v], []⟩ w) : RR B w0 kp ⟨setD ts dst x, hs⟩ ((Act.mk us []).put dst v) w := by
  obtain ⟨Dm, φ, r, hD⟩ := hr
  have ht : VRels φ (NotTop φ hs) w.heap ts us.toList := by
    refine VRels_mk _ _ hl fun t v' u e1 e2 => ?_
    have hlt : t < ts.length := (List.getElem?_eq_some_iff.1 e1).1
    have : (v', u) ∈ ts.zip us.toList := by
      have h3 : (ts.zip us.toList)[t]? = some (v', u) := by rw [List.getElem?_zip_eq_some]; exact ⟨e1, e2⟩
      exact List.mem_of_getElem? h3
    exact r.kp _ (List.mem_append_right _ (List.mem_append_left _ this))
  have hx : VRel φ (NotTop φ hs) w.heap x v := by
    have := r.tm
    simp only [VRels] at this
    obtain ⟨u, us', e, h1, _⟩ := this
    cases e; exact h1
  have r0 : R B w0 Dm φ ⟨ts, hs⟩ kp ⟨us, []⟩ w := ⟨ht, fun p hp => r.kp p ((List.mem_append.1 hp).elim (List.mem_append_left _) fun h => List.mem_append_right _ (List.mem_append_right _ h)), r.hp, r.o1, r.o2, r.o3, r.dm, r.bel, r.bs, rfl, r.gb⟩
  exact ⟨Dm, φ, by have := R_put r0 dst hx; cases dst <;> exact this, hD⟩

theorem bare_in {B : Nat → Prop} {w0 : World} {kp : List (V × Value)} {kv : List V} (hkv : kp.map (·.1) = kv) {σ : St} {o : Oper} {K : St → Prop} {K' : Act → World → Prop} {Q : Exit → Act → World → Prop} {a : Act} {w : World}
    (h : bareE P kv σ o K) (hr : RR B w0 kp σ a w) (hk : ∀ σ' u w', K σ' → RR B w0 kp σ' (a.put o.dst u) w' → K' (a.put o.dst u) w') : o.wp P a w K' Q := by
  unfold bareE at h
  split at h
  · rename_i x xs ts ho
    obtain ⟨fv, h, hf⟩ := evg_rel h
    obtain ⟨f, caps, rfl, h⟩ := fnE_inv h
    obtain ⟨vs, h5, hx⟩ := evs_inv _ _ h
    clear h
    unfold CallS at h5
    rcases h5 with ⟨rfl, h6⟩ | h6
    · have hfe : ∀ {σ' : St} {B : Nat → Prop} {w0 : World} {Dm : Nat → Prop} {φ : Phi} {kp : List (V × Value)} {a : Act} {w : World}, σ.le σ' → R B w0 Dm φ σ' kp a w → true = true → a.eval x = .func (.func f) #[] #[] := by
        intro σ' B w0 Dm φ kp a w hle hR _
        have := hf _ _ _ _ rfl (ev_le hle hR x)
        simp only [VRel] at this
        obtain ⟨us, e, e2⟩ := this
        simp only [VRels] at e2
        rw [e]; congr 1; exact Array.toList_eq_nil_iff.1 e2
      rcases h6 with h6 | ⟨as, rs, q1, q2, σ2, q3, q4⟩
      rotate_left
      · obtain ⟨r, h1, h2⟩ := ok_callc (K := fun r => r = ⟨tV rs σ.heap.length, (aHs rs).map H.toCln, []⟩) (n := σ.heap.length) (g := true) (σ := σ) ho rfl hfe hx q1 q2 rfl
        subst h2
        obtain ⟨Dm, φ, hR, hD⟩ := hr
        exact h1 σ (St.le.refl σ) (fun i hi _ => hget_ge hi) B w0 Dm φ kp a w (fun i hi _ hd => by have := hD i hd; omega) hR rfl K' Q fun u w' φ' hr' => hk σ2 u w' q4 (Sh_ok q3 ⟨_, φ', hr', app_fresh hD⟩)
      have hop : ∃ r, OpOK P o true σ σ.heap.length r ∧ K (σ.app o.dst σ.heap.length r) := by
        rcases h6 with ⟨as, rs, h1, h2, h3⟩ | ⟨as, as', rs, ids, p, upd, h1, h2, h3, h4, h5, h6, h7, h8⟩ | ⟨as, rs, h1, h2, h3⟩ | ⟨as, rs, ids, h1, h2, h3, h4, h5⟩
        · exact ok_call' (K := fun r => K (σ.app o.dst σ.heap.length r)) ho rfl hfe hx h1 h2 h3
        · exact ⟨_, ok_mutcall ho rfl hfe hx h1 h2 h3 h4 h5 h6 h7, h8⟩
        · exact ok_callc (K := fun r => K (σ.app o.dst σ.heap.length r)) ho rfl hfe hx h1 h2 h3
        · exact ⟨_, ok_conscall ho rfl hfe hx h1 h2 h3 h4, h5⟩
      obtain ⟨r, h1, h2⟩ := hop
      obtain ⟨Dm, φ, hR, hD⟩ := hr
      exact h1 σ (St.le.refl σ) (fun i hi _ => hget_ge hi) B w0 Dm φ kp a w (fun i hi _ hd => by have := hD i hd; omega) hR rfl K' Q fun u w' φ' hr' => hk _ u w' h2 ⟨_, φ', hr', app_fresh hD⟩
    · obtain ⟨Dm, φ, hR, hD⟩ := hr
      have hfv := hf _ _ _ _ rfl (ev_rel hR x)
      simp only [VRel] at hfv
      obtain ⟨cs, hce, _⟩ := hfv
      have hin : RR B w0 (σ.tmps.zip a.tmps.toList ++ kp) ⟨vs ++ caps, σ.heap⟩ ⟨(xs.toList.map a.eval ++ cs.toList).toArray, []⟩ w := by
        refine R_inner ⟨Dm, φ, hR, hD⟩ fun Dm' φ' r' => ?_
        have h1 := hx (St.le.refl σ) r' rfl
        have h2 := hf _ _ _ _ rfl (ev_rel r' x)
        simp only [VRel] at h2
        obtain ⟨cs', hce', h3⟩ := h2
        rw [hce] at hce'
        cases hce'
        exact VRels_append h1 h3
      have hl := VRels_len _ _ hR.tm
      have hdo := h6 B w0 (σ.tmps.zip a.tmps.toList ++ kp) _ w (by rw [List.map_append, hkv, List.map_fst_zip (by omega)]) hin
      have hrun : (execOp a.eval o).run P w = (callFunc f (xs.toList.map a.eval ++ cs.toList).toArray).run P w := by
        unfold execOp; rw [ho]
        have : (xs.toList.map a.eval ++ cs.toList).toArray = xs.map a.eval ++ cs := by
          apply Array.toList_inj.1; simp
        rw [this]
        simp [resolve, hce, Deferred.ofValue, invoke]
      have hde := hR.de
      have fin : ∀ v w', (∃ x hs', K ⟨setD σ.tmps o.dst x, hs'⟩ ∧ RR B w0 (σ.tmps.zip a.tmps.toList ++ kp) ⟨[x], hs'⟩ ⟨#[v], []⟩ w') → K' (a.put o.dst v) w' := by
        rintro v w' ⟨x', hs', h1, h2⟩
        refine hk _ v w' h1 ?_
        have := R_outer hl o.dst h2
        rw [show a = Act.mk a.tmps [] from by cases a; simp only at hde; rw [hde]]
        exact this
      unfold Oper.wp
      rw [hrun]
      unfold Does at hdo
      split at hdo
      · rename_i h1; rw [h1, Oper.upon_enter]
        refine Calls.mono hdo fun e w' he => ?_
        cases e with
        | returned v => exact fin v w' he
        | panicked c => exact he.elim
        | outgrown => exact he.elim
      · rename_i h1; rw [h1, Oper.upon_value]; exact fin _ _ hdo
      · rename_i h1; rw [h1, Oper.upon_row]; exact Rows.mono hdo fin
      · exact hdo.elim
  · exact op_in h hr hk

theorem gStep_b {g : Bool} {σ : St} {n : Nat} {o : Oper} {K : Res → Prop} (h : gStep P g σ n o K) : (g = true → ∃ r, OpOK P o true σ n r ∧ ∃ v, K ⟨v, r.new, r.upd⟩ ∧ (v = r.v ∨ v = .gd true r.v)) ∧ (g = false → ∃ v, K (rv (.gd false v))) := by
  rcases h with ⟨rfl, h⟩ | ⟨rfl, h⟩ | h
  · obtain ⟨r, h1, h2⟩ := opE_ok h
    exact ⟨fun _ => ⟨r, h1, r.v, h2, .inl rfl⟩, fun e => (by cases e)⟩
  · exact ⟨fun e => (by cases e), fun _ => ⟨_, h⟩⟩
  · obtain ⟨r, h1, h2, h3, h4⟩ := opE_ok h
    obtain ⟨v, new, upd⟩ := r
    simp only at h2 h3 h4; subst h2; subst h3
    cases g with
    | true => exact ⟨fun _ => ⟨_, h1, .gd true v, h4, .inr rfl⟩, fun e => (by cases e)⟩
    | false => exact ⟨fun e => (by cases e), fun _ => ⟨_, h4⟩⟩

theorem opsE_ok {ops : Array Oper} {B : Nat → Prop} {w0 : World} {kp : List (V × Value)} {kv : List V} (hkv : kp.map (·.1) = kv) {Q : Exit → Act → World → Prop} {K : St → Prop} (hQ : ∀ σ a w, K σ → RR B w0 kp σ a w → Q .normal a w) :
    ∀ (l : List Oper) (idx : List Nat) (σ : St) (a : Act) (w : World), idx.map (ops[·]?) = l.map some → opsE P kv ops.toList l σ K → RR B w0 kp σ a w → wpOps P ops Q idx a w
  | [], idx, σ, a, w, e, h, hr => by
    have : idx = [] := by simpa using e
    subst this
    exact hQ σ a w h hr
  | o :: l, [], σ, a, w, e, h, hr => by simp at e
  | o :: l, i :: idx, σ, a, w, e, h, hr => by
    simp only [List.map_cons, List.cons.injEq] at e
    simp only [opsE] at h
    simp only [wpOps, e.1]
    have next : ∀ σ' u w', opsE P kv ops.toList l σ' K → RR B w0 kp σ' (a.put o.dst u) w' → wpOps P ops Q idx (a.put o.dst u) w' := fun σ' u w' h' hr' => opsE_ok hkv hQ l idx σ' _ w' e.2 h' hr'
    unfold seqE at h
    split at h
    · rename_i hg
      rw [if_pos (by simp [Region.wanted, hg])]
      exact .inl (bare_in hkv h hr next)
    · rename_i j want hg
      unfold dstOf at h
      split at h
      · rename_i d hd
        rw [Array.getElem?_toList] at hd
        have key : ∀ g, Region.wanted o (yielded ops a.tmps) = g → gStepS P kv g σ o (fun σ' => opsE P kv ops.toList l σ' K) →
            if Region.wanted o (yielded ops a.tmps) then o.wp P a w (wpOps P ops Q idx) Q ∨ (o.asks P a w ∧ LetsOut Q) else wpOps P ops Q idx (a.put o.dst undef) w := by
          intro g hw hs
          rw [hw]
          unfold gStepS at hs
          rcases hs with hs | hs
          · obtain ⟨s1, s2⟩ := gStep_b hs
            cases g with
            | true =>
              simp only [if_true]
              obtain ⟨r, h1, v, h2, h3⟩ := s1 rfl
              obtain ⟨Dm, φ, hR, hD⟩ := hr
              refine .inl (h1 σ (St.le.refl σ) (fun i hi _ => hget_ge hi) B w0 Dm φ kp a w (fun i hi _ hd => by have := hD i hd; omega) hR rfl _ _ fun u w' φ' hr' => next _ u w' h2 ⟨_, φ', ?_, app_fresh (r := ⟨v, r.new, r.upd⟩) hD⟩)
              rcases h3 with rfl | rfl
              · exact hr'
              · exact R_gd (σ := σ) (dst := o.dst) hr'
            | false =>
              simp only [Bool.false_eq_true, if_false]
              obtain ⟨v, h2⟩ := s2 rfl
              obtain ⟨Dm, φ, hR, hD⟩ := hr
              exact next _ undef w h2 ⟨_, φ, R_put hR o.dst (rel_gdf v), fun i hi => by have := hD i hi; simpa [St.app, rv, hnew, hupd] using this⟩
          · cases g with
            | true => simp only [if_true]; exact .inl (bare_in hkv (hs.1 rfl) hr next)
            | false =>
              simp only [Bool.false_eq_true, if_false]
              obtain ⟨Dm, φ, hR, hD⟩ := hr
              exact next _ undef w (hs.2 rfl) ⟨_, φ, R_put hR o.dst (rel_gdf _), fun i hi => by have := hD i hi; simpa [St.app, rv, hnew, hupd] using this⟩
        obtain ⟨Dm, φ, hR, hD⟩ := hr
        unfold guE at h
        split at h
        · rename_i b hv
          obtain ⟨u, k1, k2⟩ := ev_yield (St.le.refl σ) hR hv (by simp)
          rw [rel_bool k2] at k1
          exact key _ (by simp [Region.wanted, hg, yielded, hd, k1]) h
        · rename_i c b hv
          obtain ⟨u, k1, k2⟩ := ev_yield (St.le.refl σ) hR hv (by simp)
          simp only [VRel] at k2
          refine key _ ?_ h
          cases c with
          | true =>
            rw [rel_bool (φ := φ) (T := NotTop φ σ.heap) (h := w.heap) (b := b) (u := u) (by simp only [VRel]; exact k2.1 rfl)] at k1
            simp [Region.wanted, hg, yielded, hd, k1]
          | false =>
            rw [k2.2 rfl] at k1
            simp [Region.wanted, hg, yielded, hd, k1, undef]
        · exact h.elim
      · exact h.elim

/-- One operation, whatever comes behind. -/
theorem seq_in {ops : Array Oper} {B : Nat → Prop} {w0 : World} {kp : List (V × Value)} {kv : List V} (hkv : kp.map (·.1) = kv) {Q : Exit → Act → World → Prop} {K : St → Prop} {N : Act → World → Prop} {σ : St} {o : Oper} {a : Act} {w : World} (h : seqE P kv ops.toList σ o K) (hr : RR B w0 kp σ a w)
    (next : ∀ σ' u w', K σ' → RR B w0 kp σ' (a.put o.dst u) w' → N (a.put o.dst u) w') :
    if Region.wanted o (yielded ops a.tmps) then o.wp P a w N Q ∨ (o.asks P a w ∧ LetsOut Q) else N (a.put o.dst undef) w := by
  unfold seqE at h
  split at h
  · rename_i hg
    rw [if_pos (by simp [Region.wanted, hg])]
    exact .inl (bare_in hkv h hr next)
  · rename_i j want hg
    unfold dstOf at h
    split at h
    · rename_i d hd
      rw [Array.getElem?_toList] at hd
      have key : ∀ g, Region.wanted o (yielded ops a.tmps) = g → gStepS P kv g σ o K →
          if Region.wanted o (yielded ops a.tmps) then o.wp P a w N Q ∨ (o.asks P a w ∧ LetsOut Q) else N (a.put o.dst undef) w := by
        intro g hw hs
        rw [hw]
        unfold gStepS at hs
        rcases hs with hs | hs
        · obtain ⟨s1, s2⟩ := gStep_b hs
          cases g with
          | true =>
            simp only [if_true]
            obtain ⟨r, h1, v, h2, h3⟩ := s1 rfl
            obtain ⟨Dm, φ, hR, hD⟩ := hr
            refine .inl (h1 σ (St.le.refl σ) (fun i hi _ => hget_ge hi) B w0 Dm φ kp a w (fun i hi _ hd => by have := hD i hd; omega) hR rfl _ _ fun u w' φ' hr' => next _ u w' h2 ⟨_, φ', ?_, app_fresh (r := ⟨v, r.new, r.upd⟩) hD⟩)
            rcases h3 with rfl | rfl
            · exact hr'
            · exact R_gd (σ := σ) (dst := o.dst) hr'
          | false =>
            simp only [Bool.false_eq_true, if_false]
            obtain ⟨v, h2⟩ := s2 rfl
            obtain ⟨Dm, φ, hR, hD⟩ := hr
            exact next _ undef w h2 ⟨_, φ, R_put hR o.dst (rel_gdf v), fun i hi => by have := hD i hi; simpa [St.app, rv, hnew, hupd] using this⟩
        · cases g with
          | true => simp only [if_true]; exact .inl (bare_in hkv (hs.1 rfl) hr next)
          | false =>
            simp only [Bool.false_eq_true, if_false]
            obtain ⟨Dm, φ, hR, hD⟩ := hr
            exact next _ undef w (hs.2 rfl) ⟨_, φ, R_put hR o.dst (rel_gdf _), fun i hi => by have := hD i hi; simpa [St.app, rv, hnew, hupd] using this⟩
      obtain ⟨Dm, φ, hR, hD⟩ := hr
      unfold guE at h
      split at h
      · rename_i b hv
        obtain ⟨u, k1, k2⟩ := ev_yield (St.le.refl σ) hR hv (by simp)
        rw [rel_bool k2] at k1
        exact key _ (by simp [Region.wanted, hg, yielded, hd, k1]) h
      · rename_i c b hv
        obtain ⟨u, k1, k2⟩ := ev_yield (St.le.refl σ) hR hv (by simp)
        simp only [VRel] at k2
        refine key _ ?_ h
        cases c with
        | true =>
          rw [rel_bool (φ := φ) (T := NotTop φ σ.heap) (h := w.heap) (b := b) (u := u) (by simp only [VRel]; exact k2.1 rfl)] at k1
          simp [Region.wanted, hg, yielded, hd, k1]
        | false =>
          rw [k2.2 rfl] at k1
          simp [Region.wanted, hg, yielded, hd, k1, undef]
      · exact h.elim
    · exact h.elim


end Gv
