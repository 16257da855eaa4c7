/-
  The operations that compute a value: what is asked of the abstract state, and that they are then carried out rightly.
-/
import Derived.Test.YtiaaipckeinbiaaGvVal
import Derived.DeepKeys
import Derived.Laws.StructEq
namespace Gv
open Go

def asB (v : V) (K : Bool → Prop) : Prop := match v with | .d (.bool b) => K b | _ => False
def asI (v : V) (K : IntKind → Int → Prop) : Prop := match v with | .d (.int k n) => K k n | _ => False
def asS (v : V) (K : List UInt8 → Prop) : Prop := match v with | .d (.str s) => K s | _ => False

theorem asB_inv {v : V} {K : Bool → Prop} (h : asB v K) : ∃ b, v = .d (.bool b) ∧ K b := by
  unfold asB at h; split at h
  · exact ⟨_, rfl, h⟩
  · exact h.elim
theorem asI_inv {v : V} {K : IntKind → Int → Prop} (h : asI v K) : ∃ k n, v = .d (.int k n) ∧ K k n := by
  unfold asI at h; split at h
  · exact ⟨_, _, rfl, h⟩
  · exact h.elim
theorem asS_inv {v : V} {K : List UInt8 → Prop} (h : asS v K) : ∃ s, v = .d (.str s) ∧ K s := by
  unfold asS at h; split at h
  · exact ⟨_, rfl, h⟩
  · exact h.elim

variable {P : Program} {o : Oper} {g : Bool} {σ : St} {n : Nat} {K : Res → Prop}

/-- A value, nothing else. -/
def rv (v : V) : Res := ⟨v, [], []⟩

theorem ok_move {x : Operand} (ho : o.op = .move x ∨ o.op = .assign x) (h : evg g (σ.ev x) fun v => K (rv (fixT P o.type v))) : ∃ r, OpOK P o g σ n r ∧ K r := by
  obtain ⟨v, hK, hr⟩ := evg_rel h
  refine ⟨_, OpOK_val fun σ' hle B w0 Dm φ kp a w r hg => ⟨a.eval x, ?_, fixT_rel (hr _ _ _ _ hg (ev_le hle r x))⟩, hK⟩
  rcases ho with ho | ho <;> (unfold execOp; rw [ho]; rfl)

def pickE (g : Bool) (c a b : V) (K : V → Prop) : Prop :=
  evg g c fun c => asB c fun x => evg (g && x) a fun a => asB a fun y => evg (g && !x) b fun b => asB b fun z => K (dB (bif x then y else z))

theorem ok_pick {c x y : Operand} (ho : o.op = .pick c x y) (h : pickE g (σ.ev c) (σ.ev x) (σ.ev y) fun v => K (rv v)) : ∃ r, OpOK P o g σ n r ∧ K r := by
  obtain ⟨c', h, hc⟩ := evg_rel h
  obtain ⟨b, rfl, h⟩ := asB_inv h
  obtain ⟨x', h, hx⟩ := evg_rel h
  obtain ⟨bx, rfl, h⟩ := asB_inv h
  obtain ⟨y', h, hy⟩ := evg_rel h
  obtain ⟨bz, rfl, h⟩ := asB_inv h
  refine ⟨_, OpOK_val fun σ' hle B w0 Dm φ kp a w r hg => ?_, h⟩
  have e1 := rel_bool (hc _ _ _ _ hg (ev_le hle r c))
  cases b with
  | true =>
    have e2 := rel_bool (hx _ _ _ _ (by simp [hg]) (ev_le hle r x))
    exact ⟨.bool bx, by unfold execOp; rw [ho]; simp [e1, e2, asBool], mk_bool _⟩
  | false =>
    have e2 := rel_bool (hy _ _ _ _ (by simp [hg]) (ev_le hle r y))
    exact ⟨.bool bz, by unfold execOp; rw [ho]; simp [e1, e2, asBool], mk_bool _⟩

/-- Two structs (or arrays) of scalars: cell by cell. -/
def eqCells : List V → List V → Option Bool
  | [], [] => some true
  | .d x :: xs, .d y :: ys => match eqD x y, eqCells xs ys with | some a, some b => some (a && b) | _, _ => none
  | _, _ => none

/-- The kinds of cells that are compared. -/
inductive CK where
  | i (k : IntKind)
  | b
  | s

def Fit1 : CK → Value → Prop
  | .i q, .int q' n => q' = q ∧ q.min ≤ n ∧ n ≤ q.max
  | .b, .bool _ => True
  | .s, .string s => s.size ≤ maxLen
  | _, _ => False
def FitL : List CK → List Value → Prop
  | [], us => us = []
  | k :: ks, us => ∃ u us', us = u :: us' ∧ Fit1 k u ∧ FitL ks us'
def litV : Value → Lit
  | .int q n => .int q n
  | .bool b => .bool b
  | .string s => .string s.data.toList
  | _ => .bool false

theorem FitL_len : ∀ {ks : List CK} {us : List Value}, FitL ks us → us.length = ks.length
  | [], us, h => by simp only [FitL] at h; rw [h]; rfl
  | k :: ks, us, h => by
    simp only [FitL] at h
    obtain ⟨u, us', rfl, _, h⟩ := h
    simp [FitL_len h]
theorem FitL_append : ∀ {ks ls : List CK} {us : List Value}, FitL (ks ++ ls) us → FitL ks (us.take ks.length) ∧ FitL ls (us.drop ks.length)
  | [], ls, us, h => by simpa [FitL] using h
  | k :: ks, ls, us, h => by
    simp only [List.cons_append, FitL] at h
    obtain ⟨u, us', rfl, h1, h⟩ := h
    obtain ⟨h2, h3⟩ := FitL_append h
    exact ⟨⟨u, us'.take ks.length, by simp, h1, h2⟩, by simpa using h3⟩

def shpF (P : Program) (g : TypeId → Option (List CK)) : Nat → List Field → Option (List CK)
  | _, [] => some []
  | off, f :: fs =>
    match g f.type with
    | some ks => if f.offset = off ∧ P.cellsOf f.type = ks.length then (shpF P g (off + ks.length) fs).map (ks ++ ·) else none
    | none => none

/-- The cells of a type, where they lie one behind the other. -/
def shp (P : Program) : Nat → TypeId → Option (List CK)
  | 0, _ => none
  | d + 1, t =>
    match P.underlying t with
    | some .bool => some [.b]
    | some (.int q) => some [.i q]
    | some .string => some [.s]
    | some (.struct fs) =>
      match shpF P (shp P d) 0 fs.toList with
      | some ks => if P.cellsOf t = ks.length ∧ fs.all (·.name != "_") = true then some ks else none
      | none => none
    | some (.array n e) =>
      match shp P d e with
      | some ks => if P.cellsOf e = ks.length ∧ P.cellsOf t = n * ks.length then some (List.replicate n ks).flatten else none
      | none => none
    | _ => none

theorem mapM_all {α β : Type} {g : α → Option β} {h : α → β} : ∀ (l : List α), (∀ x ∈ l, g x = some (h x)) → l.mapM g = some (l.map h)
  | [], _ => rfl
  | x :: l, e => by
    rw [List.mapM_cons, e x (by simp), mapM_all l fun y hy => e y (by simp [hy])]; rfl

theorem FitL_rep {ks : List CK} : ∀ (n : Nat) (us : List Value), FitL (List.replicate n ks).flatten us → us.length = n * ks.length ∧ (∀ i, i < n → FitL ks ((us.drop (i * ks.length)).take ks.length)) ∧
    ((List.range n).map fun i => ((us.drop (i * ks.length)).take ks.length).map litV).flatten = us.map litV
  | 0, us, h => by
    have : us = [] := by simpa [FitL] using h
    subst this; simp
  | n + 1, us, h => by
    rw [List.replicate_succ, List.flatten_cons] at h
    obtain ⟨h1, h2⟩ := FitL_append h
    obtain ⟨h3, h4, h5⟩ := FitL_rep n _ h2
    have hl := FitL_len h
    rw [List.length_append] at hl
    have h3' := h3
    rw [List.length_drop] at h3
    have hk : ks.length ≤ us.length := by omega
    refine ⟨by rw [Nat.add_mul]; omega, fun i hi => ?_, ?_⟩
    · cases i with
      | zero => simpa using h1
      | succ i =>
        have := h4 i (by omega)
        rwa [List.drop_drop, show ks.length + i * ks.length = (i + 1) * ks.length from by rw [Nat.add_mul]; omega] at this
    · rw [List.range_succ_eq_map, List.map_cons, List.flatten_cons, List.map_map]
      have : ((fun i => ((us.drop (i * ks.length)).take ks.length).map litV) ∘ Nat.succ) = fun i => (((us.drop ks.length).drop (i * ks.length)).take ks.length).map litV := by
        funext i
        simp only [Function.comp, List.drop_drop, Nat.succ_eq_add_one]
        rw [show ks.length + i * ks.length = (i + 1) * ks.length from by rw [Nat.add_mul]; omega]
      rw [this, h5, Nat.zero_mul, List.drop_zero, ← List.map_append, List.take_append_drop]

theorem shpF_lits {P : Program} {g : TypeId → Option (List CK)} {d : Nat} (hg : ∀ t ks us, g t = some ks → FitL ks us → P.keyLits d t us = some (us.map litV)) (cs : List Value) : ∀ (fs : List Field) (off : Nat) (ks : List CK),
    shpF P g off fs = some ks → FitL ks (cs.drop off) → ∃ ls, fs.mapM (fun f => P.keyLits d f.type ((cs.drop f.offset).take (P.cellsOf f.type))) = some ls ∧ ls.flatten = (cs.drop off).map litV
  | [], off, ks, h, hf => by
    simp only [shpF, Option.some.injEq] at h; subst h
    simp only [FitL] at hf
    exact ⟨[], rfl, by rw [hf]; rfl⟩
  | f :: fs, off, ks, h, hf => by
    simp only [shpF] at h
    split at h
    · rename_i k1 hk1
      split at h
      · rename_i hc
        cases hr : shpF P g (off + k1.length) fs with
        | none => rw [hr] at h; cases h
        | some k2 =>
          rw [hr] at h
          simp only [Option.map_some, Option.some.injEq] at h; subst h
          obtain ⟨h1, h2⟩ := FitL_append hf
          rw [List.drop_drop] at h2
          obtain ⟨ls, h3, h4⟩ := shpF_lits hg cs fs (off + k1.length) k2 hr h2
          refine ⟨((cs.drop off).take k1.length).map litV :: ls, ?_, ?_⟩
          · rw [List.mapM_cons, hc.1, hc.2, hg _ _ _ hk1 h1, h3]; rfl
          · rw [List.flatten_cons, h4, ← List.drop_drop, ← List.map_append, List.take_append_drop]
      · cases h
    · cases h

theorem shp_lits {P : Program} : ∀ (d : Nat) (t : TypeId) (ks : List CK) (us : List Value), shp P d t = some ks → FitL ks us → P.keyLits d t us = some (us.map litV)
  | 0, t, ks, us, h, _ => by simp [shp] at h
  | d + 1, t, ks, us, h, hf => by
    have one : ∀ k, ks = [k] → ∃ u, us = [u] ∧ Fit1 k u := by
      rintro k rfl
      simp only [FitL] at hf
      obtain ⟨u, us', rfl, h1, h2⟩ := hf
      exact ⟨u, by rw [h2], h1⟩
    unfold shp at h
    unfold Program.keyLits
    split at h
    · rename_i hu
      cases h
      obtain ⟨u, rfl, h1⟩ := one _ rfl
      cases u <;> simp only [Fit1] at h1
      simp [hu, litV]
    · rename_i q hu
      cases h
      obtain ⟨u, rfl, h1⟩ := one _ rfl
      cases u <;> simp only [Fit1] at h1
      obtain ⟨rfl, h1, h2⟩ := h1
      simp [hu, litV, Lit.wf, h1, h2]
    · rename_i hu
      cases h
      obtain ⟨u, rfl, h1⟩ := one _ rfl
      cases u <;> simp only [Fit1] at h1
      simp [hu, litV, h1]
    · rename_i fs hu
      split at h
      · rename_i k1 hk1
        split at h
        · rename_i hc
          cases h
          obtain ⟨ls, h3, h4⟩ := shpF_lits (d := d) (fun t ks us => shp_lits d t ks us) us fs.toList 0 _ hk1 (by simpa using hf)
          have hl := FitL_len hf
          simp only [hu]
          rw [if_pos ⟨by omega, hc.2⟩, h3]
          simp [h4]
        · cases h
      · cases h
    · rename_i n e hu
      split at h
      · rename_i k1 hk1
        split at h
        · rename_i hc
          cases h
          obtain ⟨h1, h2, h3⟩ := FitL_rep n us hf
          simp only [hu]
          rw [if_pos (by omega), mapM_all (h := fun i => ((us.drop (i * k1.length)).take k1.length).map litV) _ fun i hi => by
            rw [hc.1]
            exact shp_lits d e k1 _ hk1 (h2 i (by simpa using hi))]
          simp only [Option.map_some, h3]
        · cases h
      · cases h
    · cases h

/-- The type's '==' is cell by cell. -/
def EqOK (P : Program) (T : TypeId) (ks : List CK) : Prop :=
  ∀ (us ws : List Value) (b : Bool) (x y : Operand) (w : World), FitL ks us → FitL ks ws → (b = true ↔ us.map litV = ws.map litV) →
    (do eqGuard .eql T x y (.agg us.toArray) (.agg ws.toArray); binOp .eql T (.agg us.toArray) (.agg ws.toArray)).run P w = .ok (.bool b) w ∧
    (do eqGuard .neq T x y (.agg us.toArray) (.agg ws.toArray); binOp .neq T (.agg us.toArray) (.agg ws.toArray)).run P w = .ok (.bool !b) w

theorem EqOK_of {P : Program} {T : TypeId} {ks : List CK} (h1 : shp P 100 T = some ks) (h2 : P.eqGuardType P.depth T = false) (h3 : P.keyTypeAt 100 T = true) (h4 : (match P.underlying T with | some (.struct _) | some (.array _ _) => true | _ => false) = true) (h5 : P.cellsOf T = ks.length) : EqOK P T ks := by
  intro us ws b x y w hu hw hb
  have hfu : ∀ vs : List Value, FitL ks vs → Value.formed P T (.agg vs.toArray) = true := by
    intro vs hv
    have := FitL_len hv
    unfold Value.formed
    simp only
    split at h4 <;> first | (simp only [*]; simp [this]) | cases h4
  obtain ⟨r, hr, hr2⟩ := run_equalIn_deep (P := P) 9900 100 T h3 w 100 100 (.agg us.toArray) (.agg ws.toArray) _ _ (hfu us hu) (hfu ws hw) (shp_lits 100 T ks _ h1 (by simpa [Value.cells] using hu)) (shp_lits 100 T ks _ h1 (by simpa [Value.cells] using hw))
  have hrb : r = b := by
    simp only [Value.cells] at hr2
    rw [Bool.eq_iff_iff, hr2, hb]
  subst hrb
  constructor
  · simp only [Sem.run_bind, run_eqGuard_agg w _ T x y _ _ h2, Result.andThen_ok, run_eql_struct]
    rw [show (10000 : Nat) = 9900 + 100 from rfl, hr]; rfl
  · simp only [Sem.run_bind, run_eqGuard_agg w _ T x y _ _ h2, Result.andThen_ok, run_neq_struct]
    rw [show (10000 : Nat) = 9900 + 100 from rfl, hr]; rfl

def kindsV : List V → List CK
  | [] => []
  | .d (.int k _) :: xs => .i k :: kindsV xs
  | .d (.str _) :: xs => .s :: kindsV xs
  | _ :: xs => .b :: kindsV xs

def isBoolI (P : Program) (T : TypeId) : Bool := match P.underlying T with | some .bool => true | _ => false

def isPtrI (P : Program) (T : TypeId) : Bool :=
  match P.underlying T with
  | some (.pointer e) => match P.info? e with | some i => i.size != 0 | none => false
  | _ => false

theorem isPtrI_some {T : TypeId} (h : isPtrI P T = true) : ∃ e i, P.underlying T = some (.pointer e) ∧ P.info? e = some i ∧ i.size ≠ 0 := by
  unfold isPtrI at h
  split at h
  · rename_i e hu
    split at h
    · rename_i i hi
      exact ⟨e, i, hu, hi, by simpa using h⟩
    · cases h
  · cases h

theorem run_eql_ptr {T : TypeId} (b f f' : Nat) (w : World) (h : isPtrI P T = true) : (binOp .eql T (.pointer (some ⟨b, f, none⟩)) (.pointer (some ⟨b, f', none⟩))).run P w = .ok (.bool (decide (f = f'))) w := by
  obtain ⟨e, i, hu, hi, hs⟩ := isPtrI_some h
  have h2 : ∀ d : Nat, (Op.equalIn (d + 1) T (.pointer (some ⟨b, f, none⟩)) (.pointer (some ⟨b, f', none⟩))).run P w = .ok (decide (f = f')) w := fun d => by
    have he : ((⟨b, f, none⟩ : Addr) == ⟨b, f', none⟩) = decide (f = f') := by
      rw [Bool.eq_iff_iff]; simp
    have hz : (Go.sizeOf e).run P w = Result.ok i.size w := by simp [Go.sizeOf, typeInfo, hi]
    simp [Op.equalIn, run_underlying hu, hz, hs, sameAddr, he]
  simp only [binOp]
  simp [Op.equal, Op.maxDepth, h2 9999]

def binE (P : Program) (op : BinOp) (T : TypeId) (x y : V) : Option (Prop × V) :=
  match x, y with
  | .d (.int k a), .d (.int k' b) =>
    match op with
    | .shl => shI .shl k a b
    | .shr => shI .shr k a b
    | op => if k = k' then binI op k a b else none
  | .d (.str a), .d (.str b) => binS op a b
  | .d (.bool a), .d (.bool b) =>
    match op with
    | .eql => if isBoolI P T then some (True, dB (a == b)) else none
    | .neq => if isBoolI P T then some (True, dB (a != b)) else none
    | _ => none
  | .agg xs, .agg ys =>
    match op, eqCells xs ys with
    | .eql, some b => some (EqOK P T (kindsV xs), dB b)
    | .neq, some b => some (EqOK P T (kindsV xs), dB !b)
    | _, _ => none
  | .ptr id idx off, .ptr id' idx' off' =>
    match op with
    | .eql => if id = id' ∧ idx = idx' ∧ isPtrI P T = true then some (True, dB (decide (off = off'))) else none
    | _ => none
  | _, _ => none

def withR (r : Option (Prop × V)) (K : V → Prop) : Prop := match r with | some (p, v) => p ∧ K v | none => False

theorem withR_inv {r : Option (Prop × V)} {K : V → Prop} (h : withR r K) : ∃ p v, r = some (p, v) ∧ p ∧ K v := by
  unfold withR at h; split at h
  · exact ⟨_, _, rfl, h.1, h.2⟩
  · exact h.elim

theorem eqCells_vals {φ : Phi} {T : Nat → Prop} {h : Array Obj} : ∀ (xs ys : List V) (b : Bool) (us ws : List Value), eqCells xs ys = some b → VRels φ T h xs us → VRels φ T h ys ws → (b = true ↔ us.map litV = ws.map litV) ∧ FitL (kindsV xs) us ∧ FitL (kindsV xs) ws
  | [], [], b, us, ws, e, r, r' => by
    simp only [VRels] at r r'; subst r; subst r'
    simp only [eqCells, Option.some.injEq] at e; subst e; simp [kindsV, FitL]
  | [], y :: ys, b, us, ws, e, _, _ => by cases e
  | x :: xs, [], b, us, ws, e, _, _ => by cases x <;> cases e
  | x :: xs, y :: ys, b, us, ws, e, r, r' => by
    simp only [VRels] at r r'
    obtain ⟨u, us', rfl, r1, r2⟩ := r
    obtain ⟨v, ws', rfl, r1', r2'⟩ := r'
    cases x with
    | d dx =>
      cases y with
      | d dy =>
        simp only [eqCells] at e
        split at e
        · rename_i a b' e1 e2
          obtain ⟨ih, ihl, ihr⟩ := eqCells_vals xs ys b' us' ws' e2 r2 r2'
          cases e
          cases dx <;> cases dy <;> simp only [eqD] at e1 <;> first | (cases e1; done) | skip
          · split at e1
            · rename_i hk; subst hk
              have k1 := rel_int r1; have k2 := rel_int r1'
              rw [k1.1, k2.1]; cases e1; simp only [kindsV, FitL, List.map_cons, litV]
              exact ⟨by simp [ih], ⟨_, _, rfl, ⟨rfl, k1.2⟩, ihl⟩, ⟨_, _, rfl, ⟨rfl, k2.2⟩, ihr⟩⟩
            · cases e1
          · rw [rel_bool r1, rel_bool r1']; cases e1; simp only [kindsV, FitL, List.map_cons, litV]
            exact ⟨by simp [ih], ⟨_, _, rfl, trivial, ihl⟩, ⟨_, _, rfl, trivial, ihr⟩⟩
          · have k1 := rel_str r1; have k2 := rel_str r1'
            rw [k1.1, k2.1]; cases e1; simp only [kindsV, FitL, List.map_cons, litV]
            exact ⟨by simp [ih], ⟨_, _, rfl, by simpa [Fit1, ByteArray.size] using k1.2, ihl⟩, ⟨_, _, rfl, by simpa [Fit1, ByteArray.size] using k2.2, ihr⟩⟩
        · cases e
      | _ => cases e
    | _ => cases e

theorem rel_agg {φ : Phi} {T : Nat → Prop} {h : Array Obj} {vs : List V} {u : Value} (r : VRel φ T h (.agg vs) u) : ∃ us : Array Value, u = .agg us ∧ VRels φ T h vs us.toList := by
  simpa only [VRel] using r

theorem run_equalIn_bool (d : Nat) {T : TypeId} (a b : Bool) (w : World) (hu : P.underlying T = some .bool) : (Op.equalIn (d + 1) T (.bool a) (.bool b)).run P w = .ok (a == b) w := by
  simp [Op.equalIn, run_underlying hu]
theorem run_eql_bool {T : TypeId} (a b : Bool) (w : World) (hu : P.underlying T = some .bool) : (binOp .eql T (.bool a) (.bool b)).run P w = .ok (.bool (a == b)) w := by
  simp only [binOp]
  simp [Op.equal, Op.maxDepth, run_equalIn_bool 9999 a b w hu]
theorem run_neq_bool {T : TypeId} (a b : Bool) (w : World) (hu : P.underlying T = some .bool) : (binOp .neq T (.bool a) (.bool b)).run P w = .ok (.bool (a != b)) w := by
  simp only [binOp]
  simp [Op.equal, Op.maxDepth, run_equalIn_bool 9999 a b w hu, bne]

theorem binE_run {op : BinOp} {T : TypeId} {x y : V} {p : Prop} {v : V} (hE : binE P op T x y = some (p, v)) (hp : p) {φ : Phi} {T0 : Nat → Prop} {h : Array Obj} {u u' : Value} (rx : VRel φ T0 h x u) (ry : VRel φ T0 h y u')
    (ox oy : Operand) (w : World) : ∃ z, (do eqGuard op T ox oy u u'; binOp op T u u').run P w = .ok z w ∧ VRel φ T0 h v z := by
  have guardI : ∀ (op : BinOp) (a b : Value), (∀ cs ds, ¬ (a = .agg cs ∧ b = .agg ds)) → ¬ (a = .nilIface ∧ b = .nilIface) → (eqGuard op T ox oy a b).run P w = .ok () w := by
    intro op a b h1 h2
    unfold eqGuard
    cases op <;> simp <;> (split <;> first | rfl | (exact absurd ⟨rfl, rfl⟩ h2) | (exact absurd ⟨rfl, rfl⟩ (h1 _ _)))
  unfold binE at hE
  split at hE
  · rename_i k p' k' q
    have e1 := rel_int rx; have e2 := rel_int ry
    rw [e1.1, e2.1]
    have hg := guardI op (.int k p') (.int k' q) (fun _ _ h => by cases h.1) (fun h => by cases h.1)
    simp only [Sem.run_bind, hg, Result.andThen_ok]
    split at hE
    · exact shI_run e1.2 hE hp T
    · exact shI_run e1.2 hE hp T
    · split at hE
      · rename_i hk; subst hk; exact binI_run e1.2 hE hp T
      · cases hE
  · rename_i a b
    have e1 := rel_str rx; have e2 := rel_str ry
    rw [e1.1, e2.1]
    have hg := guardI op (.string ⟨a.toArray⟩) (.string ⟨b.toArray⟩) (fun _ _ h => by cases h.1) (fun h => by cases h.1)
    simp only [Sem.run_bind, hg, Result.andThen_ok]
    exact binS_run hE hp T
  · rename_i a b
    have e1 := rel_bool rx; have e2 := rel_bool ry
    rw [e1, e2]
    have hg := guardI op (.bool a) (.bool b) (fun _ _ h => by cases h.1) (fun h => by cases h.1)
    simp only [Sem.run_bind, hg, Result.andThen_ok]
    split at hE
    · split at hE
      · rename_i hb
        simp only [Option.some.injEq, Prod.mk.injEq] at hE
        obtain ⟨_, rfl⟩ := hE
        have hu : P.underlying T = some .bool := by unfold isBoolI at hb; split at hb <;> first | assumption | cases hb
        exact ⟨.bool (a == b), run_eql_bool a b w hu, mk_bool _⟩
      · cases hE
    · split at hE
      · rename_i hb
        simp only [Option.some.injEq, Prod.mk.injEq] at hE
        obtain ⟨_, rfl⟩ := hE
        have hu : P.underlying T = some .bool := by unfold isBoolI at hb; split at hb <;> first | assumption | cases hb
        exact ⟨.bool (a != b), run_neq_bool a b w hu, mk_bool _⟩
      · cases hE
    · cases hE
  · rename_i xs ys
    obtain ⟨us, rfl, r1⟩ := rel_agg rx
    obtain ⟨ws, rfl, r2⟩ := rel_agg ry
    split at hE
    · rename_i b he
      simp only [Option.some.injEq, Prod.mk.injEq] at hE
      obtain ⟨rfl, rfl⟩ := hE
      obtain ⟨e1, e2, e3⟩ := eqCells_vals _ _ _ _ _ he r1 r2
      have := (hp us.toList ws.toList b ox oy w e2 e3 e1).1
      exact ⟨_, this, mk_bool _⟩
    · rename_i b he
      simp only [Option.some.injEq, Prod.mk.injEq] at hE
      obtain ⟨rfl, rfl⟩ := hE
      obtain ⟨e1, e2, e3⟩ := eqCells_vals _ _ _ _ _ he r1 r2
      have := (hp us.toList ws.toList b ox oy w e2 e3 e1).2
      exact ⟨_, this, mk_bool _⟩
    · cases hE
  · rename_i id idx off id' idx' off'
    split at hE
    · split at hE
      · rename_i hc
        obtain ⟨rfl, rfl, hc⟩ := hc
        simp only [Option.some.injEq, Prod.mk.injEq] at hE
        obtain ⟨_, rfl⟩ := hE
        simp only [VRel] at rx ry
        obtain ⟨β, b, q1, q2, q3⟩ := rx
        obtain ⟨β', b', k1, k2, k3⟩ := ry
        rw [q1] at k1; cases k1
        rw [q2] at k2; cases k2
        rw [q3, k3]
        have hg := guardI .eql (.pointer (some ⟨b, β.off + idx * β.sz + off, none⟩)) (.pointer (some ⟨b, β.off + idx * β.sz + off', none⟩)) (fun _ _ h => by cases h.1) (fun h => by cases h.1)
        simp only [Sem.run_bind, hg, Result.andThen_ok]
        have e : decide (off = off') = decide (β.off + idx * β.sz + off = β.off + idx * β.sz + off') := by
          rw [decide_eq_decide]; omega
        rw [e]
        exact ⟨_, run_eql_ptr b _ _ w hc, mk_bool _⟩
      · cases hE
    · cases hE
  · cases hE

theorem ok_bin {op : BinOp} {T T' : TypeId} {x y : Operand} (ho : o.op = .binOp op T x y T')
    (h : evg g (σ.ev x) fun a => evg g (σ.ev y) fun b => withR (binE P op T a b) fun v => K (rv v)) : ∃ r, OpOK P o g σ n r ∧ K r := by
  obtain ⟨va, h, hx⟩ := evg_rel h
  obtain ⟨vb, h, hy⟩ := evg_rel h
  obtain ⟨p, v, hE, hp, hK⟩ := withR_inv h
  refine ⟨_, OpOK_val fun σ' hle B w0 Dm φ kp a w r hg => ?_, hK⟩
  obtain ⟨z, h1, h2⟩ := binE_run hE hp (hx _ _ _ _ hg (ev_le hle r x)) (hy _ _ _ _ hg (ev_le hle r y)) x y w
  refine ⟨z, ?_, h2⟩
  unfold execOp
  simp only [ho, Sem.run_bind, h1, Result.andThen_ok]
  rfl

end Gv
