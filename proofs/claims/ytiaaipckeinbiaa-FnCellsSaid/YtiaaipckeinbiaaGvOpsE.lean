/-
  Bytes of strings, cuts of strings and slices, conversions, aggregates, function values, the smaller and the greater.
-/
import Derived.Test.YtiaaipckeinbiaaGvOpsD
namespace Gv
open Go

variable {P : Program} {o : Oper} {g : Bool} {σ : St} {n : Nat} {K : Res → Prop}

def ixE (P : Program) (T : TypeId) (x : V) (i : Int) : Option (Prop × V) :=
  match x with
  | .d (.str s) => if isStrI P T then some (0 ≤ i ∧ i.toNat < s.length, dI .u8 ((s[i.toNat]?).getD 0).toNat) else none
  | .agg vs =>
    match P.underlying T with
    | some (.array len e) => if tyI P e = some (1, false) then some (0 ≤ i ∧ i < len ∧ i.toNat < vs.length, (vs[i.toNat]?).getD .junk) else none
    | _ => none
  | _ => none

theorem u8_range (b : UInt8) : IntKind.u8.min ≤ (b.toNat : Int) ∧ (b.toNat : Int) ≤ IntKind.u8.max := by
  have h := b.toNat_lt
  have h1 : IntKind.u8.min = 0 := by decide
  have h2 : IntKind.u8.max = 255 := by decide
  rw [h1, h2]; omega

theorem ok_index {T : TypeId} {x ix : Operand} (ho : o.op = .index T x ix)
    (h : evg g (σ.ev x) fun a => evg g (σ.ev ix) fun b => asI b fun _ i => withR (ixE P T a i) fun v => K (rv v)) : ∃ r, OpOK P o g σ n r ∧ K r := by
  obtain ⟨va, h1, hx⟩ := evg_rel h
  obtain ⟨vb, h2, hy⟩ := evg_rel h1
  obtain ⟨k, i, rfl, h3⟩ := asI_inv h2
  obtain ⟨p, v, hE, hp, hK⟩ := withR_inv h3
  clear h h1 h2 h3
  refine ⟨_, OpOK_val fun σ' hle B w0 Dm φ kp a w r hg => ?_, hK⟩
  have rx := hx _ _ _ _ hg (ev_le hle r x)
  have ry := rel_int (hy _ _ _ _ hg (ev_le hle r ix))
  unfold ixE at hE
  split at hE
  · rename_i s
    split at hE
    · rename_i hs
      simp only [Option.some.injEq, Prod.mk.injEq] at hE
      obtain ⟨rfl, rfl⟩ := hE
      have e1 := rel_str rx
      have hlt := hp.2
      refine ⟨.int .u8 (s[i.toNat]'hlt).toNat, ?_, ?_⟩
      · unfold execOp; rw [ho]
        have hb : (⟨s.toArray⟩ : ByteArray)[i.toNat]? = some (s[i.toNat]'hlt) := by
          have hsz : i.toNat < (⟨s.toArray⟩ : ByteArray).size := by simpa [ByteArray.size] using hlt
          rw [getElem?_pos (⟨s.toArray⟩ : ByteArray) i.toNat hsz]; rfl
        simp [Instr.index, run_underlying (isStrI_true hs), e1.1, ry.1, asIntOf, hp.1, hb]
      · rw [List.getElem?_eq_getElem hlt]; exact mk_int (u8_range _)
    · cases hE
  · rename_i vs
    split at hE
    · rename_i len e hu
      split at hE
      · rename_i hty
        simp only [Option.some.injEq, Prod.mk.injEq] at hE
        obtain ⟨rfl, rfl⟩ := hE
        obtain ⟨us, e1, r1⟩ := rel_agg rx
        have hlt := hp.2.2
        obtain ⟨u, u1, u2⟩ := VRels_at _ _ r1 i.toNat _ (List.getElem?_eq_getElem hlt)
        refine ⟨u, ?_, by rw [List.getElem?_eq_getElem hlt]; exact u2⟩
        obtain ⟨inf, hi, hs, hag⟩ := tyI_some hty
        unfold execOp; rw [ho]
        rw [Array.getElem?_toList] at u1
        simp [Instr.index, run_underlying hu, e1, ry.1, asIntOf, hp.1, hp.2.1, part, hag, Go.sizeOf, typeInfo, hi, hs, u1]
      · cases hE
    · cases hE
  · cases hE

/-! ### Cuts -/

theorem run_sliceBounds (isS : Bool) (len cap : Nat) (lo hi : Option Value) (l h : Nat) (w : World) (hl : lo = none ∧ l = 0 ∨ ∃ k, lo = some (.int k l)) (hh : hi = none ∧ h = len ∨ ∃ k, hi = some (.int k h))
    (h1 : l ≤ h) (h2 : h ≤ cap) : (Instr.sliceBounds isS len cap lo hi none).run P w = .ok (l, h, cap) w := by
  have sb : ∀ (k : IntKind) (x y : Nat) (c : BoundsCode), x ≤ y → (Instr.sliceBound (.int k x) y c).run P w = .ok x w := by
    intro k x y c hxy
    simp [Instr.sliceBound, asIntOf, hxy]
  unfold Instr.sliceBounds
  rcases hl with ⟨rfl, rfl⟩ | ⟨k, rfl⟩ <;> rcases hh with ⟨rfl, rfl⟩ | ⟨k', rfl⟩
  · simp
  · simp [sb _ _ _ _ h2]
  · simp [sb _ _ _ _ h1]
  · simp [sb _ _ _ _ h2, sb _ _ _ _ h1]

/-- How far an array reaches beyond a slice's end. -/
def reachE (x : H) (k : Nat) : Prop := match x with | .arr _ xs true => k ≤ xs.length | _ => False

/-- A cut from l up to h. -/
def cutE (P : Program) (hs : List H) (T : TypeId) (x : V) (l h : Nat) : Option (Prop × V) :=
  match x with
  | .d (.str s) => if isStrI P T then some (l ≤ h ∧ h ≤ s.length, dS ((s.drop l).take (h - l))) else none
  | .sl id off len =>
    match elI P T, (hget hs id).els with
    | some (_, sz, _), some (sz', _) => if sz = sz' then some (l ≤ h ∧ (h ≤ len ∨ reachE (hget hs id) (off + h)), .sl id (off + l) (h - l)) else none
    | _, _ => none
  | .d (.sl sz' xs) =>
    match elI P T with
    | some (_, sz, _) => if sz = sz' then some (l ≤ h ∧ h ≤ xs.length, .d (.sl sz' ((xs.drop l).take (h - l)))) else none
    | none => none
  | .nils s => if (elI P T).isSome then some (l = 0 ∧ h = 0, .nils s) else none
  | _ => none

def lenOfV (x : V) : Nat := match x with | .d (.str s) => s.length | .d (.sl _ xs) => xs.length | .sl _ _ len => len | _ => 0

/-- The bounds: written, or left out. -/
def bndE (g : Bool) (σ : St) (d : Nat) (x : Option Operand) (K : Nat → Prop) : Prop :=
  match x with
  | none => K d
  | some x => evg g (σ.ev x) fun v => asI v fun _ i => 0 ≤ i ∧ K i.toNat

theorem bndE_inv {d : Nat} {x : Option Operand} {K : Nat → Prop} (h : bndE g σ d x K) : ∃ l : Nat, K l ∧ ∀ {σ' : St} {B : Nat → Prop} {w0 : World} {Dm : Nat → Prop} {φ : Phi} {kp : List (V × Value)} {a : Act} {w : World}, σ.le σ' → R B w0 Dm φ σ' kp a w → g = true →
    (x = none ∧ l = d ∨ ∃ k y, x = some y ∧ a.eval y = .int k l) := by
  unfold bndE at h
  split at h
  · exact ⟨d, h, fun _ _ _ => .inl ⟨rfl, rfl⟩⟩
  · rename_i y
    obtain ⟨v, h, hy⟩ := evg_rel h
    obtain ⟨k, i, rfl, h0, hK⟩ := asI_inv h
    refine ⟨i.toNat, hK, fun hle r hg => .inr ⟨k, y, rfl, ?_⟩⟩
    have := rel_int (hy _ _ _ _ hg (ev_le hle r y))
    rw [this.1, Int.toNat_of_nonneg h0]

theorem extract_list (s : List UInt8) (l h : Nat) : (⟨s.toArray⟩ : ByteArray).extract l h = ⟨((s.drop l).take (h - l)).toArray⟩ := by
  apply ByteArray.ext
  apply Array.ext'
  simp [ByteArray.data_extract, List.extract]

theorem ok_slice {T : TypeId} {x : Operand} {lo hi : Option Operand} (ho : o.op = .slice T x lo hi none)
    (h : evg g (σ.ev x) fun a => bndE g σ 0 lo fun l => bndE g σ (lenOfV a) hi fun h => withR (cutE P σ.heap T a l h) fun v => K (rv v)) : ∃ r, OpOK P o g σ n r ∧ K r := by
  obtain ⟨va, h1, hx⟩ := evg_rel h
  obtain ⟨l, h2, hl⟩ := bndE_inv h1
  obtain ⟨m, h3, hm⟩ := bndE_inv h2
  obtain ⟨p, v, hE, hp, hK⟩ := withR_inv h3
  clear h h1 h2 h3
  refine ⟨_, OpOK_val fun σ' hle B w0 Dm φ kp a w r hg => ?_, hK⟩
  have rx := hx _ _ _ _ hg (ev_le hle r x)
  have rl := hl hle r hg
  have rm := hm hle r hg
  have bl : (lo.map a.eval) = none ∧ l = 0 ∨ ∃ k, (lo.map a.eval) = some (.int k l) := by
    rcases rl with ⟨rfl, rfl⟩ | ⟨k, y, rfl, e⟩
    · exact .inl ⟨rfl, rfl⟩
    · exact .inr ⟨k, by simp [e]⟩
  have bm : (hi.map a.eval) = none ∧ m = lenOfV va ∨ ∃ k, (hi.map a.eval) = some (.int k m) := by
    rcases rm with ⟨rfl, rfl⟩ | ⟨k, y, rfl, e⟩
    · exact .inl ⟨rfl, rfl⟩
    · exact .inr ⟨k, by simp [e]⟩
  have slc : ∀ {e sz by_ : Nat} {ad : Option Addr} {len cp : Nat}, elI P T = some (e, sz, by_) → a.eval x = .slice ad len cp → lenOfV va = len → l ≤ m → m ≤ cp →
      (execOp a.eval o).run P w = .ok (.value (.slice (if cp = l then ad else ad.map (·.add (l * sz))) (m - l) (cp - l))) w := by
    intro e sz by_ ad len cp he hu hlen h1 h2
    obtain ⟨inf, hu', hi', hs, _⟩ := elI_some he
    have hsz : (Go.sizeOf e).run P w = Result.ok sz w := by simp [Go.sizeOf, typeInfo, hi', hs]
    have hb := run_sliceBounds (P := P) true len cp (lo.map a.eval) (hi.map a.eval) l m w bl (by rw [hlen] at bm; exact bm) h1 h2
    unfold execOp; rw [ho]
    simp [Instr.sliceAt, Instr.slice, run_underlying hu', hu, hb, hsz]
  unfold cutE at hE
  split at hE
  · rename_i s
    split at hE
    · rename_i hs
      simp only [Option.some.injEq, Prod.mk.injEq] at hE
      obtain ⟨rfl, rfl⟩ := hE
      have e1 := rel_str rx
      have hsz : (⟨s.toArray⟩ : ByteArray).size = s.length := by simp [ByteArray.size]
      have hb := run_sliceBounds (P := P) false s.length s.length (lo.map a.eval) (hi.map a.eval) l m w bl bm hp.1 hp.2
      refine ⟨.string ⟨((s.drop l).take (m - l)).toArray⟩, ?_, mk_str (by simp; omega)⟩
      unfold execOp; rw [ho]
      simp [Instr.sliceAt, Instr.slice, run_underlying (isStrI_true hs), e1.1, hsz, hb, extract_list]
    · cases hE
  · rename_i id off len
    split at hE
    · rename_i e sz by_ sz' xs he hel
      split at hE
      · rename_i hsz; subst hsz
        simp only [Option.some.injEq, Prod.mk.injEq] at hE
        obtain ⟨rfl, rfl⟩ := hE
        obtain ⟨β, ad, c, e1, e2, e3, e4, e5⟩ := rel_sl rx
        obtain ⟨β', e1', hr⟩ := heap_rel r (els_le hle hel)
        rw [e1] at e1'; cases e1'
        have hs := els_sz (els_le hle hel) hr
        have hmc : m ≤ c := by
          rcases hp.2 with hp | hp
          · omega
          · unfold reachE at hp
            split at hp
            · rename_i s' xs' hx0
              have hx' : hget σ'.heap id = .arr s' xs' true := by
                rcases hle.2 id with hh | hh
                · rw [hx0] at hh; cases hh
                · rw [hh, hx0]
              rw [hx'] at hr; simp only [HRel] at hr
              have hcap : off + c = β.cap := by
                rcases e5 with e5 | ⟨_, _, _, e5⟩
                · omega
                · exact e5
              rcases hr.2 with hr | ⟨_, _, _, hr, _⟩
              · rw [hr.2.1] at hp; simp at hp; omega
              · omega
            · exact hp.elim
        refine ⟨_, slc he e2 rfl hp.1 hmc, ?_⟩
        simp only [VRel]
        refine ⟨β, _, c - l, e1, rfl, by omega, ?_⟩
        by_cases hcl : c = l
        · exact .inl ⟨by omega, by omega⟩
        · rcases e5 with e5 | ⟨b, e5, e6, e7⟩
          · exfalso; omega
          · subst e6
            refine .inr ⟨b, e5, ?_, by omega, by omega⟩
            rw [if_neg hcl]
            simp only [Option.map_some, add_lit, hs]
            rw [Nat.add_mul, ← Nat.add_assoc]
      · cases hE
    · cases hE
  · rename_i sz' xs
    split at hE
    · rename_i e sz by_ he
      split at hE
      · rename_i hsz; subst hsz
        simp only [Option.some.injEq, Prod.mk.injEq] at hE
        obtain ⟨rfl, rfl⟩ := hE
        obtain ⟨ad, c, e1, e2, e3, e4⟩ := rel_dsl rx
        have hlen : ((xs.drop l).take (m - l)).length = m - l := by simp; omega
        refine ⟨_, slc he e1 rfl hp.1 (by omega), ?_⟩
        simp only [VRel, rep]
        by_cases hne : (xs.drop l).take (m - l) = []
        · have hml : m - l = 0 := by rw [← hlen, hne]; rfl
          exact ⟨[], ⟨_, c - l, by rw [hlen], by omega, by omega, .inl ⟨hne, rfl, fun h => by cases h⟩⟩, by simp⟩
        · rcases e4 with e4 | ⟨b, f, G, e4, e5, e6, e7, e8⟩
          · subst e4; simp at hne
          · subst e4
            have hml : 0 < m - l := by rw [← hlen]; exact List.length_pos_iff.2 hne
            have hsplit : xs = xs.take l ++ ((xs.drop l).take (m - l) ++ (xs.drop l).drop (m - l)) := by rw [List.take_append_drop, List.take_append_drop]
            rw [hsplit] at e7
            obtain ⟨G1, G2, rfl, k1, k2⟩ := (repE_append _ _ _ _).1 e7
            obtain ⟨G3, G4, rfl, k3, k4⟩ := (repE_append _ _ _ _).1 k2
            have htl : (xs.take l).length = l := by simp; omega
            rw [htl] at k3
            refine ⟨b :: G3, ⟨_, c - l, by rw [hlen], by omega, by omega, .inr ⟨b, f + l * sz, G3, ?_, rfl, e5, k3, fun h => by cases h⟩⟩, ?_⟩
            · have hcl : ¬ c = l := by omega
              rw [if_neg hcl]; simp [add_lit]
            · intro y hy
              rcases List.mem_cons.1 hy with rfl | hy
              · exact e6
              · exact e8 y (by simp [hy])
      · cases hE
    · cases hE
  · rename_i s
    split at hE
    · rename_i he
      simp only [Option.some.injEq, Prod.mk.injEq] at hE
      obtain ⟨rfl, rfl⟩ := hE
      obtain ⟨⟨e, sz, by_⟩, he⟩ := Option.isSome_iff_exists.1 he
      simp only [VRel] at rx
      have hh := slc he rx rfl (by omega) (by omega)
      obtain ⟨rfl, rfl⟩ := hp
      refine ⟨_, hh, ?_⟩
      simp [VRel]
    · cases hE
  · cases hE

/-- A cut with a bound on the capacity, that nobody asks for: the bounds hold. -/
def cut3E (P : Program) (T : TypeId) (x : V) (l h m : Nat) : Option (Prop × V) :=
  match x with
  | .sl _ _ len => if (elI P T).isSome then some (l ≤ h ∧ h ≤ m ∧ m ≤ len, .junk) else none
  | _ => none

theorem ok_slice3 {T : TypeId} {x lo hi mx : Operand} (ho : o.op = .slice T x (some lo) (some hi) (some mx))
    (h : evg g (σ.ev x) fun a => bndE g σ 0 (some lo) fun l => bndE g σ 0 (some hi) fun h => bndE g σ 0 (some mx) fun m => withR (cut3E P T a l h m) fun v => K (rv v)) : ∃ r, OpOK P o g σ n r ∧ K r := by
  obtain ⟨va, h1, hx⟩ := evg_rel h
  obtain ⟨l, h2, hl⟩ := bndE_inv h1
  obtain ⟨m, h3, hm⟩ := bndE_inv h2
  obtain ⟨q, h4, hq⟩ := bndE_inv h3
  obtain ⟨p, v, hE, hp, hK⟩ := withR_inv h4
  clear h h1 h2 h3 h4
  refine ⟨_, OpOK_val fun σ' hle B w0 Dm φ kp a w r hg => ?_, hK⟩
  have rx := hx _ _ _ _ hg (ev_le hle r x)
  have some_ : ∀ {z : Operand} {d t : Nat}, ((some z = none ∧ t = d) ∨ ∃ k y, some z = some y ∧ a.eval y = .int k t) → ∃ k, a.eval z = .int k t := by
    rintro z d t (⟨h, _⟩ | ⟨k, y, h, e⟩)
    · cases h
    · cases h; exact ⟨k, e⟩
  obtain ⟨k1, el⟩ := some_ (hl hle r hg)
  obtain ⟨k2, em⟩ := some_ (hm hle r hg)
  obtain ⟨k3, eq⟩ := some_ (hq hle r hg)
  unfold cut3E at hE
  split at hE
  · rename_i id off len
    split at hE
    · rename_i hs
      simp only [Option.some.injEq, Prod.mk.injEq] at hE
      obtain ⟨rfl, rfl⟩ := hE
      obtain ⟨p1, p2, p3⟩ := hp
      obtain ⟨⟨e, sz, by_⟩, he⟩ := Option.isSome_iff_exists.1 hs
      obtain ⟨inf, hu', hi', hs, _⟩ := elI_some he
      have hsz : (Go.sizeOf e).run P w = Result.ok sz w := by simp [Go.sizeOf, typeInfo, hi', hs]
      obtain ⟨β, ad, c, e1, e2, e3, e4, e5⟩ := rel_sl rx
      have sb : ∀ (k : IntKind) (x y : Nat) (c : BoundsCode), x ≤ y → (Instr.sliceBound (.int k x) y c).run P w = .ok x w := by
        intro k x y c hxy
        simp [Instr.sliceBound, asIntOf, hxy]
      have hb : (Instr.sliceBounds true len c (some (.int k1 l)) (some (.int k2 m)) (some (.int k3 q))).run P w = .ok (l, m, q) w := by
        unfold Instr.sliceBounds
        simp [sb _ _ _ _ (show q ≤ c by omega), sb _ _ _ _ p2, sb _ _ _ _ p1]
      refine ⟨.slice (if q = l then ad else ad.map (·.add (l * sz))) (m - l) (q - l), ?_, by simp only [VRel]⟩
      unfold execOp; rw [ho]
      simp [Instr.sliceAt, Instr.slice, run_underlying hu', el, em, eq, e2, hb, hsz]
    · cases hE
  · cases hE

end Gv
