/-
  Regions, code, functions: what is asked of the abstract states, and that the code then runs so.
-/
import Derived.Test.YtnbjfeelokgnlaaGvCall
import Derived.Deep.LoopGhost
namespace Gv
open Go

variable {P : Program} {o : Oper} {g : Bool} {σ : St} {n : Nat} {K : Res → Prop}

def withS (r : Option (Prop × Res)) (K : Res → Prop) : Prop := match r with | some (p, r) => p ∧ K r | none => False

def withN (r : Option Nat) (K : Nat → Prop) : Prop := match r with | some m => K m | none => False

/-- A call of a function by its law: one that only reads, or one that writes what it is handed. -/
def CallK (P : Program) (f : FuncId) (as : Option (List AD)) (hs : List H) (vs : List V) (n : Nat) (K : Res → Prop) : Prop :=
  (∃ as' rs, as = some as' ∧ PureCall P f as' rs ∧ K ⟨tV rs n, aHs rs, []⟩) ∨
  ∃ as as' rs ids p upd, toOAs hs vs = some (as, ids) ∧ ids.Nodup ∧ MutCall P f as as' rs ∧ mutAs hs vs as' = some (p, upd) ∧ p ∧ aHs rs = [] ∧ (∀ id ∈ ids, ∃ x, (id, x) ∈ upd) ∧ K ⟨tV rs n, [], upd⟩

theorem CallK.intro {f : FuncId} {as rs : List AD} {hs : List H} {vs : List V} (h : PureCall P f as rs) (hk : K ⟨tV rs n, aHs rs, []⟩) : CallK P f (some as) hs vs n K := .inl ⟨as, rs, rfl, h, hk⟩

theorem CallK.mut {f : FuncId} {ao : Option (List AD)} {as as' rs : List AD} {hs : List H} {vs : List V} {ids : List Nat} {p : Prop} {upd : List (Nat × H)} (h : MutCall P f as as' rs) (h1 : toOAs hs vs = some (as, ids)) (h2 : ids.Nodup) (h4 : mutAs hs vs as' = some (p, upd)) (hp : p) (h5 : aHs rs = []) (h6 : ∀ id ∈ ids, ∃ x, (id, x) ∈ upd)
    (hk : K ⟨tV rs n, [], upd⟩) : CallK P f ao hs vs n K := .inr ⟨as, as', rs, ids, p, upd, h1, h2, h, h4, hp, h5, h6, hk⟩

def callE (P : Program) (g : Bool) (σ : St) (n : Nat) (c : Callee) (xs : List Operand) (ts : List TypeId) (K : Res → Prop) : Prop :=
  match c, xs, ts with
  | .builtin .len, [x], [T] => evg g (σ.ev x) fun a => withN (lenE P T a) fun m => K (rv (dI .i64 m))
  | .builtin .append, [x, y], [T, U] => T = U ∧ evg g (σ.ev x) fun a => evg g (σ.ev y) fun b => withS (apE P σ.heap T a b n) K
  | .builtin .min, [x, y], [_, _] => evg g (σ.ev x) fun a => evg g (σ.ev y) fun b => asI a fun k i => asI b fun k' j => k = k' ∧ K (rv (dI k (if j < i then j else i)))
  | .builtin .max, [x, y], [_, _] => evg g (σ.ev x) fun a => evg g (σ.ev y) fun b => asI a fun k i => asI b fun k' j => k = k' ∧ K (rv (dI k (if j > i then j else i)))
  | .value (.func f), xs, _ => evs g σ xs fun vs => CallK P f (toADs σ.heap vs) σ.heap vs n K
  | _, _, _ => False

def opE (P : Program) (g : Bool) (σ : St) (n : Nat) (o : Oper) (K : Res → Prop) : Prop :=
  match o.op with
  | .move x => evg g (σ.ev x) fun v => K (rv (fixT P o.type v))
  | .assign x => evg g (σ.ev x) fun v => K (rv (fixT P o.type v))
  | .pick c x y => pickE g (σ.ev c) (σ.ev x) (σ.ev y) fun v => K (rv v)
  | .binOp op T x y _ => evg g (σ.ev x) fun a => evg g (σ.ev y) fun b => withR (binE P op T a b) fun v => K (rv v)
  | .unOp op _ x => evg g (σ.ev x) fun a => withO (unE op a) fun v => K (rv v)
  | .extract x i => evg g (σ.ev x) fun a => withO (extE a i) fun v => K (rv v)
  | .nilCheck x => evg g (σ.ev x) fun a => ptrE a = true ∧ K (rv a)
  | .fieldAddr S x f => evg g (σ.ev x) fun a => withO (faE P S f a) fun v => K (rv v)
  | .indexAddr T x ix => evg g (σ.ev x) fun a => evg g (σ.ev ix) fun b => asI b fun _ i => withR (iaE P σ.heap T a i) fun v => K (rv v)
  | .load T x => evg g (σ.ev x) fun a => withR (loadE P σ.heap T a) fun v => K (rv v)
  | .index T x ix => evg g (σ.ev x) fun a => evg g (σ.ev ix) fun b => asI b fun _ i => withR (ixE P T a i) fun v => K (rv v)
  | .slice T x lo hi none => evg g (σ.ev x) fun a => bndE g σ 0 lo fun l => bndE g σ (lenOfV a) hi fun h => withR (cutE P σ.heap T a l h) fun v => K (rv v)
  | .convert src dst x => evg g (σ.ev x) fun a => withR (cvE P σ.heap src dst a) fun v => K (rv v)
  | .build T parts => evParts g σ parts.toList fun ps => withO (bldE P T ps) fun v => K (rv v)
  | .alloc T => withO ((zrI P T).map V.agg) fun v => K ⟨.ptr n 0 0, [.box v.cells], []⟩
  | .box _ x => evg g (σ.ev x) fun v => v.cellsOk = true ∧ K ⟨.ptr n 0 0, [.box v.cells], []⟩
  | .store T p x => evg g (σ.ev p) fun q => evg g (σ.ev x) fun v => withS ((storeE P σ.heap T q (fixT P T v)).map fun (c, upd) => (c, ⟨.junk, [], upd⟩)) K
  | .buildSlice T len parts => evParts g σ parts.toList fun ps => withS (bsE P σ.heap T len ps n) K
  | .makeSlice T x y => x = y ∧ evg g (σ.ev x) fun v => asI v fun _ i => withS (mkE P T i n) K
  | .makeFunc (.func f) ys caps => ys.toList = [] ∧ evs g σ caps.toList fun vs => K (rv (.fn f vs))
  | .call c => callE P g σ n c.callee c.args.toList c.argTypes.toList K
  | _ => False

theorem evg_mono {g : Bool} {v : V} {K K' : V → Prop} (h : evg g v K) (hk : ∀ v, K v → K' v) : evg g v K' := by
  unfold evg at *
  split at h
  · exact ⟨h.1, hk _ h.2⟩
  · exact hk _ h

theorem list_one {α : Type} {a : Array α} {x : α} (h : a.toList = [x]) : a = #[x] := by rw [← Array.toArray_toList (xs := a), h]
theorem list_two {α : Type} {a : Array α} {x y : α} (h : a.toList = [x, y]) : a = #[x, y] := by rw [← Array.toArray_toList (xs := a), h]

theorem callE_ok {c : Call} (ho : o.op = .call c) (h : callE P g σ n c.callee c.args.toList c.argTypes.toList K) : ∃ r, OpOK P o g σ n r ∧ K r := by
  obtain ⟨ce, xs, ts⟩ := c
  simp only at h
  unfold callE at h
  split at h
  · rename_i x T h1 h2
    refine ok_len ho (x := x) (T := T) (by rw [list_one h1, list_one h2]) h
  · rename_i x y T U h1 h2
    obtain ⟨rfl, h⟩ := h
    exact ok_append ho (x := x) (y := y) (T := T) (by rw [list_two h1, list_two h2]) h
  · rename_i x y T U h1 h2
    exact ok_min ho (x := x) (y := y) (T := T) (U := U) (by rw [list_two h1, list_two h2]) h
  · rename_i x y T U h1 h2
    exact ok_max ho (x := x) (y := y) (T := T) (U := U) (by rw [list_two h1, list_two h2]) h
  · obtain ⟨vs, h, hx⟩ := evs_inv _ _ h
    rcases h with ⟨as, rs, h1, h2, h3⟩ | ⟨as, as', rs, ids, p, upd, h1, h2, h3, h4, h5, h6, h7, h8⟩
    · exact ok_call' ho rfl hx h1 h2 h3
    · exact ⟨_, ok_mutcall ho rfl hx h1 h2 h3 h4 h5 h6 h7, h8⟩
  · exact h.elim

theorem opE_ok (h : opE P g σ n o K) : ∃ r, OpOK P o g σ n r ∧ K r := by
  unfold opE at h
  split at h
  case h_1 x ho => exact ok_move (.inl ho) h
  case h_2 x ho => exact ok_move (.inr ho) h
  case h_3 c x y ho => exact ok_pick ho h
  case h_4 op T x y T' ho => exact ok_bin ho h
  case h_5 op T x ho => exact ok_un ho h
  case h_6 x i ho => exact ok_ext ho h
  case h_7 x ho => exact ok_nilCheck ho h
  case h_8 S x f ho => exact ok_fieldAddr ho h
  case h_9 T x ix ho => exact ok_indexAddr ho h
  case h_10 T x ho => exact ok_load ho h
  case h_11 T x ix ho => exact ok_index ho h
  case h_12 T x lo hi ho => exact ok_slice ho h
  case h_13 src dst x ho => exact ok_convert ho h
  case h_14 T parts ho => exact ok_build ho h
  case h_15 T ho =>
    refine ok_alloc ho ?_
    cases hz : zrI P T with
    | none => rw [hz] at h; exact h
    | some z => rw [hz] at h; exact h
  case h_16 T x ho => exact ok_box ho h
  case h_17 T p x ho =>
    refine ok_store ho ?_
    refine evg_mono h fun q h => evg_mono h fun v h => ?_
    cases hs : storeE P σ.heap T q (fixT P T v) with
    | none => rw [hs] at h; exact h
    | some p => rw [hs] at h; exact h
  case h_18 T len parts ho => exact ok_buildSlice ho h
  case h_19 T x y ho => obtain ⟨rfl, h⟩ := h; exact ok_makeSlice ho h
  case h_20 f ys caps ho =>
    obtain ⟨hy, h⟩ := h
    have : ys = #[] := by rw [← Array.toArray_toList (xs := ys), hy]
    subst this
    exact ok_makeFunc ho h
  case h_21 c ho => exact callE_ok ho h
  case h_22 => exact h.elim

/-! ### Guards -/

/-- Under a guard that is not known: the value holds if the guard does. Or the guard is known. -/
def gStep (P : Program) (g : Bool) (σ : St) (n : Nat) (o : Oper) (K : Res → Prop) : Prop :=
  (g = true ∧ opE P true σ n o K) ∨ (g = false ∧ K (rv (.gd false .junk))) ∨ opE P g σ n o fun r => r.new = [] ∧ r.upd = [] ∧ K (rv (.gd g r.v))

theorem gStep_true (h : opE P true σ n o K) : gStep P true σ n o K := .inl ⟨rfl, h⟩
theorem gStep_false (h : K (rv (.gd false .junk))) : gStep P false σ n o K := .inr (.inl ⟨rfl, h⟩)
theorem gStep_sym (h : opE P g σ n o fun r => r.new = [] ∧ r.upd = [] ∧ K (rv (.gd g r.v))) : gStep P g σ n o K := .inr (.inr h)

def stepE (P : Program) (ops : List Oper) (σ : St) (n : Nat) (o : Oper) (K : Res → Prop) : Prop :=
  match o.guard with
  | none => opE P true σ n o K
  | some (j, want) =>
    match (ops[j]?).bind (·.dst) with
    | some d =>
      match σ.ev (.tmp d) with
      | .d (.bool b) => gStep P (b == want) σ n o K
      | .gd c (.d (.bool b)) => gStep P (c && (b == want)) σ n o K
      | _ => False
    | none => False

def StepOK (P : Program) (ops : Array Oper) (o : Oper) (σ : St) (n : Nat) (r : Res) : Prop :=
  ∀ σ' : St, σ.le σ' → (∀ i, n ≤ i → i < n + r.new.length → hget σ'.heap i = .dead) →
  ∀ (B : Nat → Prop) (w0 : World) (Dm : Nat → Prop) (φ : Phi) (kp : List (V × Value)) (a : Act) (w : World), (∀ i, n ≤ i → i < n + r.new.length → ¬ Dm i) → R B w0 Dm φ σ' kp a w →
  ∀ (K : Act → World → Prop) (Q : Exit → Act → World → Prop),
    (∀ u w' φ', R B w0 (fun i => Dm i ∨ (n ≤ i ∧ i < n + r.new.length)) φ' (σ'.app o.dst n r) kp (a.put o.dst u) w' → K (a.put o.dst u) w') →
    if Region.wanted o (yielded ops a.tmps) then o.wp P a w K Q ∨ (o.asks P a w ∧ LetsOut Q) else K (a.put o.dst undef) w

theorem R_weak {B : Nat → Prop} {w0 : World} {Dm : Nat → Prop} {φ : Phi} {σ : St} {kp : List (V × Value)} {a : Act} {w : World} (r : R B w0 Dm φ σ kp a w) {ts : List V} (hl : ts.length = σ.tmps.length)
    (h : ∀ (t : Nat) (v' v : V) (u : Value), ts[t]? = some v' → σ.tmps[t]? = some v → VRel φ (NotTop φ σ.heap) w.heap v u → VRel φ (NotTop φ σ.heap) w.heap v' u) : R B w0 Dm φ ⟨ts, σ.heap⟩ kp a w := by
  refine ⟨VRels_mk _ _ (by rw [VRels_len _ _ r.tm, hl]) fun t v' u e1 e2 => ?_, r.kp, r.hp, r.o1, r.o2, r.o3, r.dm, r.bel, r.bs, r.de⟩
  have hlt : t < σ.tmps.length := by
    rcases Nat.lt_or_ge t ts.length with h | h
    · omega
    · rw [List.getElem?_eq_none h] at e1; cases e1
  obtain ⟨u', k1, k2⟩ := VRels_at _ _ r.tm t _ (List.getElem?_eq_getElem hlt)
  rw [k1] at e2; cases e2
  exact h t v' _ u e1 (List.getElem?_eq_getElem hlt) k2

theorem R_gd {B : Nat → Prop} {w0 : World} {Dm : Nat → Prop} {φ : Phi} {σ : St} {kp : List (V × Value)} {a : Act} {w : World} {dst : Option Tmp} {v : V} {n : Nat} {hs : List H} {upd : List (Nat × H)} (r : R B w0 Dm φ (σ.app dst n ⟨v, hs, upd⟩) kp a w) :
    R B w0 Dm φ (σ.app dst n ⟨.gd true v, hs, upd⟩) kp a w := by
  cases dst with
  | none => exact r
  | some d =>
    refine R_weak r (by simp [St.app]) fun t v' v'' u e1 e2 hr => ?_
    simp only [St.app, List.getElem?_set] at e1 e2
    by_cases h : d = t
    · subst h
      simp only [if_true] at e1 e2
      split at e1
      · cases e1
        rw [if_pos (by assumption)] at e2; cases e2
        simp only [VRel]; exact ⟨fun _ => hr, fun h => by cases h⟩
      · cases e1
    · simp only [h, if_false] at e1 e2
      rw [e1] at e2; cases e2; exact hr

theorem ev_yield {B : Nat → Prop} {w0 : World} {Dm : Nat → Prop} {φ : Phi} {σ σ' : St} {kp : List (V × Value)} {a : Act} {w : World} (hle : σ.le σ') (r : R B w0 Dm φ σ' kp a w) {d : Tmp} {v : V} (hv : σ.ev (.tmp d) = v) (hj : v ≠ .junk) :
    ∃ u, a.tmps[d]? = some u ∧ VRel φ (NotTop φ σ'.heap) w.heap v u := by
  have he := hle.ev (.tmp d)
  rw [hv] at he
  rcases he with h | h
  · exact absurd h hj
  · simp only [St.ev, List.getD_eq_getElem?_getD] at h
    cases ht : σ'.tmps[d]? with
    | none => rw [ht] at h; exact absurd h.symm hj
    | some v' =>
      rw [ht] at h; simp only [Option.getD_some] at h; subst h
      obtain ⟨u, k1, k2⟩ := VRels_at _ _ r.tm d _ ht
      rw [Array.getElem?_toList] at k1
      exact ⟨u, k1, k2⟩

theorem rel_gdf {φ : Phi} {T : Nat → Prop} {h : Array Obj} (v : V) : VRel φ T h (.gd false v) undef := by
  simp only [VRel]; exact ⟨fun h => (Bool.noConfusion h), fun _ => trivial⟩

theorem gStep_ok {ops : Array Oper} (hw : ∀ {σ' : St} {B : Nat → Prop} {w0 : World} {Dm : Nat → Prop} {φ : Phi} {kp : List (V × Value)} {a : Act} {w : World}, σ.le σ' → R B w0 Dm φ σ' kp a w → Region.wanted o (yielded ops a.tmps) = g)
    (h : gStep P g σ n o K) : ∃ r, StepOK P ops o σ n r ∧ K r := by
  rcases h with ⟨rfl, h⟩ | ⟨rfl, h⟩ | h
  · obtain ⟨r, h1, h2⟩ := opE_ok h
    refine ⟨r, fun σ' hle hd B w0 Dm φ kp a w hDm hR Q1 Q2 hk => ?_, h2⟩
    rw [if_pos (hw hle hR)]
    exact .inl (h1 σ' hle hd B w0 Dm φ kp a w hDm hR rfl Q1 Q2 hk)
  · refine ⟨_, fun σ' hle hd B w0 Dm φ kp a w hDm hR Q1 Q2 hk => ?_, h⟩
    rw [if_neg (by rw [hw hle hR]; simp)]
    exact hk undef w φ (R_dm (R_put hR o.dst (rel_gdf .junk)) fun i h => .inl h)
  · obtain ⟨r, h1, h2, h3, h4⟩ := opE_ok h
    refine ⟨_, fun σ' hle hd B w0 Dm φ kp a w hDm hR Q1 Q2 hk => ?_, h4⟩
    obtain ⟨v, new, upd⟩ := r
    simp only at h2 h3; subst h2; subst h3
    cases g with
    | true =>
      rw [if_pos (hw hle hR)]
      refine .inl (h1 σ' hle hd B w0 Dm φ kp a w hDm hR rfl Q1 Q2 fun u w' φ' hr => hk u w' φ' ?_)
      exact R_gd (σ := σ') (v := v) (dst := o.dst) hr
    | false =>
      rw [if_neg (by rw [hw hle hR]; simp)]
      exact hk undef w φ (R_dm (R_put hR o.dst (rel_gdf v)) fun i h => .inl h)

theorem stepE_ok {ops : Array Oper} (h : stepE P ops.toList σ n o K) : ∃ r, StepOK P ops o σ n r ∧ K r := by
  unfold stepE at h
  split at h
  · rename_i hg
    obtain ⟨r, h1, h2⟩ := opE_ok h
    refine ⟨r, fun σ' hle hd B w0 Dm φ kp a w hDm hR Q1 Q2 hk => ?_, h2⟩
    rw [if_pos (by simp [Region.wanted, hg])]
    exact .inl (h1 σ' hle hd B w0 Dm φ kp a w hDm hR rfl Q1 Q2 hk)
  · rename_i j want hg
    split at h
    · rename_i d hd
      rw [Array.getElem?_toList] at hd
      split at h
      · rename_i b hv
        refine gStep_ok (fun hle hR => ?_) h
        obtain ⟨u, k1, k2⟩ := ev_yield hle hR hv (by simp)
        rw [rel_bool k2] at k1
        simp [Region.wanted, hg, yielded, hd, k1]
      · rename_i c b hv
        refine gStep_ok (fun {σ' B w0 Dm φ kp a w} hle hR => ?_) h
        obtain ⟨u, k1, k2⟩ := ev_yield hle hR hv (by simp)
        simp only [VRel] at k2
        cases c with
        | true =>
          rw [rel_bool (φ := φ) (T := NotTop φ σ'.heap) (h := w.heap) (b := b) (u := u) (by simp only [VRel]; exact k2.1 rfl)] at k1
          simp [Region.wanted, hg, yielded, hd, k1]
        | false =>
          rw [k2.2 rfl] at k1
          simp [Region.wanted, hg, yielded, hd, k1, undef]
      · exact h.elim
    · exact h.elim

/-! ### Regions in the order of the text -/

def opsE (P : Program) (ops : List Oper) : List Oper → St → (St → Prop) → Prop
  | [], σ, K => K σ
  | o :: rest, σ, K => stepE P ops σ σ.heap.length o fun r => opsE P ops rest (σ.app o.dst σ.heap.length r) K

/-- The relation, whatever the places; numbers of entries are used up to the heap's length. -/
def RR (B : Nat → Prop) (w0 : World) (kp : List (V × Value)) (σ : St) (a : Act) (w : World) : Prop := ∃ Dm φ, R B w0 Dm φ σ kp a w ∧ ∀ i, Dm i → i < σ.heap.length

theorem hput_length (hs : List H) (i : Nat) (x : H) : hs.length ≤ (hput hs i x).length ∧ i < (hput hs i x).length := by
  unfold hput
  split
  · rename_i h; simp [h]
  · rename_i h; simp; omega

theorem hnew_length : ∀ (xs : List H) (hs : List H) (n : Nat), hs.length ≤ (hnew hs n xs).length ∧ (xs = [] ∨ n + xs.length ≤ (hnew hs n xs).length)
  | [], hs, n => ⟨Nat.le_refl _, .inl rfl⟩
  | x :: xs, hs, n => by
    have h1 := hput_length hs n x
    have h2 := hnew_length xs (hput hs n x) (n + 1)
    simp only [hnew, List.length_cons]
    refine ⟨by omega, .inr ?_⟩
    rcases h2.2 with rfl | h
    · simp only [hnew, List.length_nil]; omega
    · omega

theorem hupd_length : ∀ (upd : List (Nat × H)) (hs : List H), hs.length ≤ (hupd hs upd).length
  | [], hs => Nat.le_refl _
  | (i, x) :: r, hs => by
    have h1 := hput_length hs i x
    have h2 := hupd_length r (hput hs i x)
    simp only [hupd]; omega

theorem hget_ge {hs : List H} {i : Nat} (h : hs.length ≤ i) : hget hs i = .dead := by
  unfold hget; rw [List.getD_eq_getElem?_getD, List.getElem?_eq_none h]; rfl

theorem app_length (σ : St) (dst : Option Tmp) (r : Res) : σ.heap.length + r.new.length ≤ (σ.app dst σ.heap.length r).heap.length := by
  have h1 := hnew_length r.new σ.heap σ.heap.length
  have h2 := hupd_length r.upd (hnew σ.heap σ.heap.length r.new)
  simp only [St.app]
  rcases h1.2 with h | h
  · have h3 := h1.1; rw [h] at h2 h3 ⊢; simp only [List.length_nil]; omega
  · omega

theorem opsE_ok {ops : Array Oper} {B : Nat → Prop} {w0 : World} {kp : List (V × Value)} {Q : Exit → Act → World → Prop} {K : St → Prop} (hQ : ∀ σ a w, K σ → RR B w0 kp σ a w → Q .normal a w) :
    ∀ (l : List Oper) (idx : List Nat) (σ : St) (a : Act) (w : World), idx.map (ops[·]?) = l.map some → opsE P ops.toList l σ K → RR B w0 kp σ a w → wpOps P ops Q idx a w
  | [], idx, σ, a, w, e, h, hr => by
    have : idx = [] := by simpa using e
    subst this
    exact hQ σ a w h hr
  | o :: l, [], σ, a, w, e, h, hr => by simp at e
  | o :: l, i :: idx, σ, a, w, e, h, hr => by
    simp only [List.map_cons, List.cons.injEq] at e
    simp only [opsE] at h
    obtain ⟨r, h1, h2⟩ := stepE_ok h
    obtain ⟨Dm, φ, hR, hD⟩ := hr
    simp only [wpOps, e.1]
    have hk := h1 σ (St.le.refl σ) (fun i hi _ => hget_ge hi) B w0 Dm φ kp a w (fun i hi _ hd => by have := hD i hd; omega) hR (wpOps P ops Q idx) Q fun u w' φ' hr' =>
      opsE_ok hQ l idx _ _ w' e.2 h2 ⟨_, φ', hr', fun i hi => by
        have := app_length σ o.dst r
        rcases hi with hi | hi
        · have := hD i hi; omega
        · omega⟩
    split at hk
    · rename_i hw; rw [if_pos hw]; exact hk
    · rename_i hw; rw [if_neg hw]; exact hk

end Gv
