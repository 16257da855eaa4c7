/-
  The operations that compute a value: what is asked of the abstract state, and that they are then carried out rightly.
-/
import Derived.Test.YtnbjfeelokgnlaaGvVal
namespace Gv
open Go

def asB (v : V) (K : Bool → Prop) : Prop := match v with | .d (.bool b) => K b | _ => False
def asI (v : V) (K : IntKind → Int → Prop) : Prop := match v with | .d (.int k n) => K k n | _ => False
def asS (v : V) (K : List UInt8 → Prop) : Prop := match v with | .d (.str s) => K s | _ => False

theorem asB_inv {v : V} {K : Bool → Prop} (h : asB v K) : ∃ b, v = .d (.bool b) ∧ K b := by
  unfold asB at h; split at h
  · exact ⟨_, rfl, h⟩
  · exact h.elim
theorem asI_inv {v : V} {K : IntKind → Int → Prop} (h : asI v K) : ∃ k n, v = .d (.int k n) ∧ K k n := by
  unfold asI at h; split at h
  · exact ⟨_, _, rfl, h⟩
  · exact h.elim
theorem asS_inv {v : V} {K : List UInt8 → Prop} (h : asS v K) : ∃ s, v = .d (.str s) ∧ K s := by
  unfold asS at h; split at h
  · exact ⟨_, rfl, h⟩
  · exact h.elim

variable {P : Program} {o : Oper} {g : Bool} {σ : St} {n : Nat} {K : Res → Prop}

/-- A value, nothing else. -/
def rv (v : V) : Res := ⟨v, [], []⟩

theorem ok_move {x : Operand} (ho : o.op = .move x ∨ o.op = .assign x) (h : evg g (σ.ev x) fun v => K (rv (fixT P o.type v))) : ∃ r, OpOK P o g σ n r ∧ K r := by
  obtain ⟨v, hK, hr⟩ := evg_rel h
  refine ⟨_, OpOK_val fun σ' hle B w0 Dm φ kp a w r hg => ⟨a.eval x, ?_, fixT_rel (hr _ _ _ _ hg (ev_le hle r x))⟩, hK⟩
  rcases ho with ho | ho <;> (unfold execOp; rw [ho]; rfl)

def pickE (g : Bool) (c a b : V) (K : V → Prop) : Prop :=
  evg g c fun c => asB c fun x => evg (g && x) a fun a => asB a fun y => evg (g && !x) b fun b => asB b fun z => K (dB (bif x then y else z))

theorem ok_pick {c x y : Operand} (ho : o.op = .pick c x y) (h : pickE g (σ.ev c) (σ.ev x) (σ.ev y) fun v => K (rv v)) : ∃ r, OpOK P o g σ n r ∧ K r := by
  obtain ⟨c', h, hc⟩ := evg_rel h
  obtain ⟨b, rfl, h⟩ := asB_inv h
  obtain ⟨x', h, hx⟩ := evg_rel h
  obtain ⟨bx, rfl, h⟩ := asB_inv h
  obtain ⟨y', h, hy⟩ := evg_rel h
  obtain ⟨bz, rfl, h⟩ := asB_inv h
  refine ⟨_, OpOK_val fun σ' hle B w0 Dm φ kp a w r hg => ?_, h⟩
  have e1 := rel_bool (hc _ _ _ _ hg (ev_le hle r c))
  cases b with
  | true =>
    have e2 := rel_bool (hx _ _ _ _ (by simp [hg]) (ev_le hle r x))
    exact ⟨.bool bx, by unfold execOp; rw [ho]; simp [e1, e2, asBool], mk_bool _⟩
  | false =>
    have e2 := rel_bool (hy _ _ _ _ (by simp [hg]) (ev_le hle r y))
    exact ⟨.bool bz, by unfold execOp; rw [ho]; simp [e1, e2, asBool], mk_bool _⟩

/-- Two structs (or arrays) of scalars: cell by cell. -/
def eqCells : List V → List V → Option Bool
  | [], [] => some true
  | .d x :: xs, .d y :: ys => match eqD x y, eqCells xs ys with | some a, some b => some (a && b) | _, _ => none
  | _, _ => none

def eqVals : List Value → List Value → Option Bool
  | [], [] => some true
  | .int _ x :: xs, .int _ y :: ys => (eqVals xs ys).map ((x == y) && ·)
  | .bool x :: xs, .bool y :: ys => (eqVals xs ys).map ((x == y) && ·)
  | .string x :: xs, .string y :: ys => (eqVals xs ys).map ((x.data.toList == y.data.toList) && ·)
  | _, _ => none

/-- The type's '==' is cell by cell ('n' cells). -/
def EqOK (P : Program) (T : TypeId) (n : Nat) : Prop :=
  ∀ (xs ys : List Value) (b : Bool) (x y : Operand) (w : World), xs.length = n → ys.length = n → eqVals xs ys = some b →
    (do eqGuard .eql T x y (.agg xs.toArray) (.agg ys.toArray); binOp .eql T (.agg xs.toArray) (.agg ys.toArray)).run P w = .ok (.bool b) w ∧
    (do eqGuard .neq T x y (.agg xs.toArray) (.agg ys.toArray); binOp .neq T (.agg xs.toArray) (.agg ys.toArray)).run P w = .ok (.bool !b) w

def isBoolI (P : Program) (T : TypeId) : Bool := match P.underlying T with | some .bool => true | _ => false

def binE (P : Program) (op : BinOp) (T : TypeId) (x y : V) : Option (Prop × V) :=
  match x, y with
  | .d (.int k a), .d (.int k' b) =>
    match op with
    | .shl => shI .shl k a b
    | .shr => shI .shr k a b
    | op => if k = k' then binI op k a b else none
  | .d (.str a), .d (.str b) => binS op a b
  | .d (.bool a), .d (.bool b) =>
    match op with
    | .eql => if isBoolI P T then some (True, dB (a == b)) else none
    | .neq => if isBoolI P T then some (True, dB (a != b)) else none
    | _ => none
  | .agg xs, .agg ys =>
    match op, eqCells xs ys with
    | .eql, some b => some (EqOK P T xs.length, dB b)
    | .neq, some b => some (EqOK P T xs.length, dB !b)
    | _, _ => none
  | _, _ => none

def withR (r : Option (Prop × V)) (K : V → Prop) : Prop := match r with | some (p, v) => p ∧ K v | none => False

theorem withR_inv {r : Option (Prop × V)} {K : V → Prop} (h : withR r K) : ∃ p v, r = some (p, v) ∧ p ∧ K v := by
  unfold withR at h; split at h
  · exact ⟨_, _, rfl, h.1, h.2⟩
  · exact h.elim

theorem eqCells_vals {φ : Phi} {T : Nat → Prop} {h : Array Obj} : ∀ (xs ys : List V) (b : Bool) (us ws : List Value), eqCells xs ys = some b → VRels φ T h xs us → VRels φ T h ys ws → eqVals us ws = some b ∧ xs.length = ys.length
  | [], [], b, us, ws, e, r, r' => by
    simp only [VRels] at r r'; subst r; subst r'
    simp only [eqCells] at e; exact ⟨e, rfl⟩
  | [], y :: ys, b, us, ws, e, _, _ => by cases e
  | x :: xs, [], b, us, ws, e, _, _ => by cases x <;> cases e
  | x :: xs, y :: ys, b, us, ws, e, r, r' => by
    simp only [VRels] at r r'
    obtain ⟨u, us', rfl, r1, r2⟩ := r
    obtain ⟨v, ws', rfl, r1', r2'⟩ := r'
    cases x with
    | d dx =>
      cases y with
      | d dy =>
        simp only [eqCells] at e
        split at e
        · rename_i a b' e1 e2
          obtain ⟨ih, ihl⟩ := eqCells_vals xs ys b' us' ws' e2 r2 r2'
          cases e
          cases dx <;> cases dy <;> simp only [eqD] at e1 <;> first | (cases e1; done) | skip
          · rw [(rel_int r1).1, (rel_int r1').1]; cases e1; simp [eqVals, ih, ihl]
          · rw [rel_bool r1, rel_bool r1']; cases e1; simp [eqVals, ih, ihl]
          · rw [(rel_str r1).1, (rel_str r1').1]; cases e1; simp [eqVals, ih, ihl]
        · cases e
      | _ => cases e
    | _ => cases e

theorem rel_agg {φ : Phi} {T : Nat → Prop} {h : Array Obj} {vs : List V} {u : Value} (r : VRel φ T h (.agg vs) u) : ∃ us : Array Value, u = .agg us ∧ VRels φ T h vs us.toList := by
  simpa only [VRel] using r

theorem run_equalIn_bool (d : Nat) {T : TypeId} (a b : Bool) (w : World) (hu : P.underlying T = some .bool) : (Op.equalIn (d + 1) T (.bool a) (.bool b)).run P w = .ok (a == b) w := by
  simp [Op.equalIn, run_underlying hu]
theorem run_eql_bool {T : TypeId} (a b : Bool) (w : World) (hu : P.underlying T = some .bool) : (binOp .eql T (.bool a) (.bool b)).run P w = .ok (.bool (a == b)) w := by
  simp only [binOp]
  simp [Op.equal, Op.maxDepth, run_equalIn_bool 9999 a b w hu]
theorem run_neq_bool {T : TypeId} (a b : Bool) (w : World) (hu : P.underlying T = some .bool) : (binOp .neq T (.bool a) (.bool b)).run P w = .ok (.bool (a != b)) w := by
  simp only [binOp]
  simp [Op.equal, Op.maxDepth, run_equalIn_bool 9999 a b w hu, bne]

theorem binE_run {op : BinOp} {T : TypeId} {x y : V} {p : Prop} {v : V} (hE : binE P op T x y = some (p, v)) (hp : p) {φ : Phi} {T0 : Nat → Prop} {h : Array Obj} {u u' : Value} (rx : VRel φ T0 h x u) (ry : VRel φ T0 h y u')
    (ox oy : Operand) (w : World) : ∃ z, (do eqGuard op T ox oy u u'; binOp op T u u').run P w = .ok z w ∧ VRel φ T0 h v z := by
  have guardI : ∀ (op : BinOp) (a b : Value), (∀ cs ds, ¬ (a = .agg cs ∧ b = .agg ds)) → ¬ (a = .nilIface ∧ b = .nilIface) → (eqGuard op T ox oy a b).run P w = .ok () w := by
    intro op a b h1 h2
    unfold eqGuard
    cases op <;> simp <;> (split <;> first | rfl | (exact absurd ⟨rfl, rfl⟩ h2) | (exact absurd ⟨rfl, rfl⟩ (h1 _ _)))
  unfold binE at hE
  split at hE
  · rename_i k p' k' q
    have e1 := rel_int rx; have e2 := rel_int ry
    rw [e1.1, e2.1]
    have hg := guardI op (.int k p') (.int k' q) (fun _ _ h => by cases h.1) (fun h => by cases h.1)
    simp only [Sem.run_bind, hg, Result.andThen_ok]
    split at hE
    · exact shI_run e1.2 hE hp T
    · exact shI_run e1.2 hE hp T
    · split at hE
      · rename_i hk; subst hk; exact binI_run e1.2 hE hp T
      · cases hE
  · rename_i a b
    have e1 := rel_str rx; have e2 := rel_str ry
    rw [e1.1, e2.1]
    have hg := guardI op (.string ⟨a.toArray⟩) (.string ⟨b.toArray⟩) (fun _ _ h => by cases h.1) (fun h => by cases h.1)
    simp only [Sem.run_bind, hg, Result.andThen_ok]
    exact binS_run hE hp T
  · rename_i a b
    have e1 := rel_bool rx; have e2 := rel_bool ry
    rw [e1, e2]
    have hg := guardI op (.bool a) (.bool b) (fun _ _ h => by cases h.1) (fun h => by cases h.1)
    simp only [Sem.run_bind, hg, Result.andThen_ok]
    split at hE
    · split at hE
      · rename_i hb
        simp only [Option.some.injEq, Prod.mk.injEq] at hE
        obtain ⟨_, rfl⟩ := hE
        have hu : P.underlying T = some .bool := by unfold isBoolI at hb; split at hb <;> first | assumption | cases hb
        exact ⟨.bool (a == b), run_eql_bool a b w hu, mk_bool _⟩
      · cases hE
    · split at hE
      · rename_i hb
        simp only [Option.some.injEq, Prod.mk.injEq] at hE
        obtain ⟨_, rfl⟩ := hE
        have hu : P.underlying T = some .bool := by unfold isBoolI at hb; split at hb <;> first | assumption | cases hb
        exact ⟨.bool (a != b), run_neq_bool a b w hu, mk_bool _⟩
      · cases hE
    · cases hE
  · rename_i xs ys
    obtain ⟨us, rfl, r1⟩ := rel_agg rx
    obtain ⟨ws, rfl, r2⟩ := rel_agg ry
    split at hE
    · rename_i b he
      simp only [Option.some.injEq, Prod.mk.injEq] at hE
      obtain ⟨rfl, rfl⟩ := hE
      obtain ⟨e1, e2⟩ := eqCells_vals _ _ _ _ _ he r1 r2
      have := (hp us.toList ws.toList b ox oy w (VRels_len _ _ r1) (by rw [VRels_len _ _ r2, e2]) e1).1
      exact ⟨_, this, mk_bool _⟩
    · rename_i b he
      simp only [Option.some.injEq, Prod.mk.injEq] at hE
      obtain ⟨rfl, rfl⟩ := hE
      obtain ⟨e1, e2⟩ := eqCells_vals _ _ _ _ _ he r1 r2
      have := (hp us.toList ws.toList b ox oy w (VRels_len _ _ r1) (by rw [VRels_len _ _ r2, e2]) e1).2
      exact ⟨_, this, mk_bool _⟩
    · cases hE
  · cases hE

theorem ok_bin {op : BinOp} {T T' : TypeId} {x y : Operand} (ho : o.op = .binOp op T x y T')
    (h : evg g (σ.ev x) fun a => evg g (σ.ev y) fun b => withR (binE P op T a b) fun v => K (rv v)) : ∃ r, OpOK P o g σ n r ∧ K r := by
  obtain ⟨va, h, hx⟩ := evg_rel h
  obtain ⟨vb, h, hy⟩ := evg_rel h
  obtain ⟨p, v, hE, hp, hK⟩ := withR_inv h
  refine ⟨_, OpOK_val fun σ' hle B w0 Dm φ kp a w r hg => ?_, hK⟩
  obtain ⟨z, h1, h2⟩ := binE_run hE hp (hx _ _ _ _ hg (ev_le hle r x)) (hy _ _ _ _ hg (ev_le hle r y)) x y w
  refine ⟨z, ?_, h2⟩
  unfold execOp
  simp only [ho, Sem.run_bind, h1, Result.andThen_ok]
  rfl

end Gv
