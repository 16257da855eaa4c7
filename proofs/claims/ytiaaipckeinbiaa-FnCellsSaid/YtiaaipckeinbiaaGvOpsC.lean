/-
  Further operations that compute a value: negation, lengths, parts, addresses, slices of what is there, conversions.
-/
import Derived.Test.YtiaaipckeinbiaaGvOpsB
namespace Gv
open Go

variable {P : Program} {o : Oper} {g : Bool} {σ : St} {n : Nat} {K : Res → Prop}

def unE (op : UnOp) (v : V) : Option V :=
  match op, v with
  | .not, .d (.bool b) => some (dB !b)
  | .neg, .d (.int k x) => some (dI k (k.wrap (0 - x)))
  | _, _ => none

def withO (r : Option V) (K : V → Prop) : Prop := match r with | some v => K v | none => False
theorem withO_inv {r : Option V} {K : V → Prop} (h : withO r K) : ∃ v, r = some v ∧ K v := by
  unfold withO at h; split at h
  · exact ⟨_, rfl, h⟩
  · exact h.elim

theorem ok_un {op : UnOp} {T : TypeId} {x : Operand} (ho : o.op = .unOp op T x) (h : evg g (σ.ev x) fun a => withO (unE op a) fun v => K (rv v)) : ∃ r, OpOK P o g σ n r ∧ K r := by
  obtain ⟨va, h, hx⟩ := evg_rel h
  obtain ⟨v, hE, hK⟩ := withO_inv h
  refine ⟨_, OpOK_val fun σ' hle B w0 Dm φ kp a w r hg => ?_, hK⟩
  have rx := hx _ _ _ _ hg (ev_le hle r x)
  unfold unE at hE
  split at hE
  · cases hE; exact ⟨.bool _, by unfold execOp; rw [ho]; simp [rel_bool rx, Op.unary], mk_bool _⟩
  · cases hE; exact ⟨.int _ _, by unfold execOp; rw [ho]; simp [(rel_int rx).1, Op.unary, Op.intArith], mk_int (wrap_range _ _)⟩
  · cases hE

/-- The length of a value. -/
def lenE (P : Program) (T : TypeId) (v : V) : Option Nat :=
  match v with
  | .d (.str s) => if isStrI P T then some s.length else none
  | .d (.sl _ xs) => if (elI P T).isSome then some xs.length else none
  | .nils _ => if (elI P T).isSome then some 0 else none
  | .sl _ _ len => if (elI P T).isSome then some len else none
  | _ => none

theorem elI_some {T : TypeId} {e sz by_ : Nat} (h : elI P T = some (e, sz, by_)) : ∃ i, P.underlying T = some (.slice e) ∧ P.info? e = some i ∧ i.size = sz ∧ i.bytes = by_ := by
  unfold elI at h
  split at h
  · rename_i e' hu
    cases hi : P.info? e' with
    | none => rw [hi] at h; cases h
    | some i =>
      rw [hi] at h
      simp only [Option.map_some, Option.some.injEq, Prod.mk.injEq] at h
      obtain ⟨rfl, rfl, rfl⟩ := h
      exact ⟨i, hu, hi, rfl, rfl⟩
  · cases h

theorem isStrI_true {T : TypeId} (h : isStrI P T = true) : P.underlying T = some .string := by
  unfold isStrI at h; split at h <;> first | assumption | cases h

theorem intI_some {T : TypeId} {k : IntKind} (h : intI P T = some k) : P.underlying T = some (.int k) := by
  unfold intI at h; split at h
  · cases h; assumption
  · cases h

theorem rel_sl {φ : Phi} {T : Nat → Prop} {h : Array Obj} {id off len : Nat} {u : Value} (r : VRel φ T h (.sl id off len) u) :
    ∃ β a c, φ id = some β ∧ u = .slice a len c ∧ len ≤ c ∧ c ≤ maxLen ∧ ((c = 0 ∧ len = 0 ∧ off = β.cap) ∨ ∃ b, β.blk = some b ∧ a = some ⟨b, β.off + off * β.sz, none⟩ ∧ off + c = β.cap) := by
  simp only [VRel] at r
  obtain ⟨β, a, c, h1, h2, h3, h4⟩ := r
  rcases h4 with h4 | ⟨b, h4, h5, h6, h7⟩
  · exact ⟨β, a, c, h1, h2, by omega, h3, .inl h4⟩
  · exact ⟨β, a, c, h1, h2, h6, h3, .inr ⟨b, h4, h5, h7⟩⟩

theorem rel_dsl {φ : Phi} {T : Nat → Prop} {h : Array Obj} {sz : Nat} {xs : List (List D)} {u : Value} (r : VRel φ T h (.d (.sl sz xs)) u) :
    ∃ a c, u = .slice a xs.length c ∧ xs.length ≤ c ∧ c ≤ maxLen ∧ (xs = [] ∨ ∃ b f G, a = some ⟨b, f, none⟩ ∧ b < h.size ∧ T b ∧ repE h false b f sz xs G ∧ ∀ g ∈ G, T g) := by
  simp only [VRel, rep] at r
  obtain ⟨F, ⟨a, c, h1, h2, h3, h4⟩, hT⟩ := r
  refine ⟨a, c, h1, h2, h3, ?_⟩
  rcases h4 with h4 | ⟨b, f, G, e1, e2, e3, e4, _⟩
  · exact .inl h4.1
  · subst e2
    exact .inr ⟨b, f, G, e1, e3, hT b (by simp), e4, fun g hg => hT g (by simp [hg])⟩

theorem mk_len {φ : Phi} {T : Nat → Prop} {h : Array Obj} {m : Nat} (hm : m ≤ maxLen) : VRel φ T h (dI .i64 m) (goInt m) := by
  refine mk_int ⟨?_, ?_⟩
  · have : IntKind.i64.min = -9223372036854775808 := by decide
    rw [this]; omega
  · have : IntKind.i64.max = 9223372036854775807 := by decide
    rw [this]; simp only [maxLen] at hm; omega

theorem ok_len {c : Call} {x : Operand} {T : TypeId} (ho : o.op = .call c) (hc : c = { callee := .builtin .len, args := #[x], argTypes := #[T] })
    (h : evg g (σ.ev x) fun a => match lenE P T a with | some m => K (rv (dI .i64 m)) | none => False) : ∃ r, OpOK P o g σ n r ∧ K r := by
  subst hc
  obtain ⟨va, h, hx⟩ := evg_rel h
  split at h
  · rename_i m hm
    refine ⟨_, OpOK_val fun σ' hle B w0 Dm φ kp a w r hg => ?_, h⟩
    have rx := hx _ _ _ _ hg (ev_le hle r x)
    have hs : ∀ {e sz by_ : Nat} {ad : Option Addr} {l cp : Nat}, elI P T = some (e, sz, by_) → a.eval x = .slice ad l cp → (execOp a.eval o).run P w = .ok (.value (goInt l)) w := by
      intro e sz by_ ad l cp he hu
      obtain ⟨i, hu', _⟩ := elI_some he
      unfold execOp; rw [ho]
      simp [resolve, invoke, builtin, Builtin.len_, run_underlying hu', hu]
    unfold lenE at hm
    split at hm
    · split at hm
      · rename_i s hs'
        cases hm
        have e1 := rel_str rx
        refine ⟨goInt s.length, ?_, mk_len e1.2⟩
        unfold execOp; rw [ho]
        have : (⟨s.toArray⟩ : ByteArray).size = s.length := by simp [ByteArray.size]
        simp [resolve, invoke, builtin, Builtin.len_, run_underlying (isStrI_true hs'), e1.1, this]
      · cases hm
    · split at hm
      · rename_i sz xs he
        cases hm
        obtain ⟨ad, cp, e1, e2, e3, _⟩ := rel_dsl rx
        obtain ⟨⟨e, s, by_⟩, he⟩ := Option.isSome_iff_exists.1 he
        exact ⟨_, hs he e1, mk_len (by omega)⟩
      · cases hm
    · split at hm
      · rename_i sz he
        cases hm
        obtain ⟨⟨e, s, by_⟩, he⟩ := Option.isSome_iff_exists.1 he
        simp only [VRel] at rx
        exact ⟨_, hs he rx, mk_len (by decide)⟩
      · cases hm
    · split at hm
      · rename_i id off len he
        cases hm
        obtain ⟨β, ad, cp, _, e1, e2, e3, _⟩ := rel_sl rx
        obtain ⟨⟨e, s, by_⟩, he⟩ := Option.isSome_iff_exists.1 he
        exact ⟨_, hs he e1, mk_len (by omega)⟩
      · cases hm
    · cases hm
  · exact h.elim

def extE (v : V) (i : Nat) : Option V := match v with | .tup vs => vs[i]? | _ => none

theorem ok_ext {x : Operand} {i : Nat} (ho : o.op = .extract x i) (h : evg g (σ.ev x) fun a => withO (extE a i) fun v => K (rv v)) : ∃ r, OpOK P o g σ n r ∧ K r := by
  obtain ⟨va, h, hx⟩ := evg_rel h
  obtain ⟨v, hE, hK⟩ := withO_inv h
  refine ⟨_, OpOK_val fun σ' hle B w0 Dm φ kp a w r hg => ?_, hK⟩
  have rx := hx _ _ _ _ hg (ev_le hle r x)
  unfold extE at hE
  split at hE
  · simp only [VRel] at rx
    obtain ⟨us, e1, r1⟩ := rx
    obtain ⟨u, e2, r2⟩ := VRels_at _ _ r1 i v hE
    rw [Array.getElem?_toList] at e2
    exact ⟨u, by unfold execOp; rw [ho]; simp [e1, Instr.extract, e2], r2⟩
  · cases hE

def ptrE (v : V) : Bool := match v with | .ptr _ _ _ | .rp _ _ => true | _ => false

theorem rel_ptrE {φ : Phi} {T : Nat → Prop} {h : Array Obj} {v : V} {u : Value} (hv : ptrE v = true) (r : VRel φ T h v u) : ∃ b f, u = .pointer (some ⟨b, f, none⟩) := by
  unfold ptrE at hv
  split at hv
  · simp only [VRel] at r; obtain ⟨β, b, _, _, r⟩ := r; exact ⟨_, _, r⟩
  · simp only [VRel] at r; obtain ⟨b, f, G, r, _⟩ := r; exact ⟨_, _, r⟩
  · cases hv

theorem ok_nilCheck {x : Operand} (ho : o.op = .nilCheck x) (h : evg g (σ.ev x) fun a => ptrE a = true ∧ K (rv a)) : ∃ r, OpOK P o g σ n r ∧ K r := by
  obtain ⟨va, h, hx⟩ := evg_rel h
  refine ⟨_, OpOK_val fun σ' hle B w0 Dm φ kp a w r hg => ?_, h.2⟩
  have rx := hx _ _ _ _ hg (ev_le hle r x)
  obtain ⟨b, f, e⟩ := rel_ptrE h.1 rx
  exact ⟨a.eval x, by unfold execOp; rw [ho]; simp [e], rx⟩

def faE (P : Program) (S : TypeId) (f : Nat) (v : V) : Option V :=
  match fdI P S f, v with
  | some d, .ptr id idx off => some (.ptr id idx (off + d))
  | some d, .rp cells off => some (.rp cells (off + d))
  | _, _ => none

theorem add_lit (b f m : Nat) : (⟨b, f, none⟩ : Addr).add m = ⟨b, f + m, none⟩ := by
  unfold Addr.add; split <;> simp_all

theorem ok_fieldAddr {S : TypeId} {x : Operand} {f : Nat} (ho : o.op = .fieldAddr S x f) (h : evg g (σ.ev x) fun a => withO (faE P S f a) fun v => K (rv v)) : ∃ r, OpOK P o g σ n r ∧ K r := by
  obtain ⟨va, h, hx⟩ := evg_rel h
  obtain ⟨v, hE, hK⟩ := withO_inv h
  refine ⟨_, OpOK_val fun σ' hle B w0 Dm φ kp a w r hg => ?_, hK⟩
  have rx := hx _ _ _ _ hg (ev_le hle r x)
  unfold faE at hE
  have key : ∀ {d b p : Nat}, fdI P S f = some d → a.eval x = .pointer (some ⟨b, p, none⟩) → (execOp a.eval o).run P w = .ok (.value (.pointer (some ⟨b, p + d, none⟩))) w := by
    intro d b p hd hu
    unfold fdI at hd
    split at hd
    · rename_i fs hS
      split at hd
      · rename_i fd hfd
        split at hd
        · rename_i i hi
          split at hd
          · cases hd
          · rename_i hz
            cases hd
            unfold execOp; rw [ho]
            have h1 : (Go.sizeOf fd.type).run P w = Result.ok i.size w := by simp [Go.sizeOf, typeInfo, hi]
            simp [Instr.fieldAt, run_underlying hS, hfd, hu, Instr.sureAddr, fieldPlace, h1, hz, add_lit]
        · cases hd
      · cases hd
    · cases hd
  split at hE
  · rename_i d id idx off hd
    cases hE
    simp only [VRel] at rx
    obtain ⟨β, b, e1, e2, e3⟩ := rx
    exact ⟨_, key hd e3, by simp only [VRel]; exact ⟨β, b, e1, e2, by simp [Nat.add_assoc]⟩⟩
  · rename_i d cells off hd
    cases hE
    simp only [VRel] at rx
    obtain ⟨b, p, G, e1, e2⟩ := rx
    exact ⟨_, key hd e1, by simp only [VRel]; exact ⟨b, p, G, by simp [Nat.add_assoc], e2⟩⟩
  · cases hE

end Gv
