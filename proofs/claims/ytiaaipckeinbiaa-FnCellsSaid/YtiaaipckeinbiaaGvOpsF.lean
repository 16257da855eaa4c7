/-
  Conversions, aggregates, function values, the smaller and the greater.
-/
import Derived.Test.YtiaaipckeinbiaaGvOpsE
import Derived.Laws.BytesString
import Derived.Great.BuildSlice
namespace Gv
open Go

variable {P : Program} {o : Oper} {g : Bool} {σ : St} {n : Nat} {K : Res → Prop}

/-! ### Conversions -/

def byte1 : List D → Option UInt8
  | [.int .u8 n] => some (UInt8.ofNat n.toNat)
  | _ => none
def bytesL : List (List D) → Option (List UInt8)
  | [] => some []
  | c :: cs => match byte1 c, bytesL cs with | some b, some r => some (b :: r) | _, _ => none

/-- The elements that a slice shows. -/
def elsOf (hs : List H) (x : V) : Option (Nat × List (List D)) :=
  match x with
  | .sl id off len => match (hget hs id).els with | some (sz, xs) => if off + len ≤ xs.length then some (sz, (xs.drop off).take len) else none | none => none
  | .d (.sl sz xs) => some (sz, xs)
  | .nils sz => some (sz, [])
  | _ => none

/-- They lie there, readable. -/
theorem elsOf_rel {B : Nat → Prop} {w0 : World} {Dm : Nat → Prop} {φ : Phi} {kp : List (V × Value)} {a : Act} {w : World} {σ σ' : St} (hle : σ.le σ') (r : R B w0 Dm φ σ' kp a w) {x : V} {sz : Nat} {xs : List (List D)} (he : elsOf σ.heap x = some (sz, xs))
    {u : Value} (rx : VRel φ (NotTop φ σ'.heap) w.heap x u) : ∃ ad c, u = .slice ad xs.length c ∧ xs.length ≤ c ∧ c ≤ maxLen ∧
      (xs = [] ∨ ∃ b f G, ad = some ⟨b, f, none⟩ ∧ b < w.heap.size ∧ repE w.heap false b f sz xs G ∧ ∀ g ∈ G, NotTop φ σ'.heap g) := by
  unfold elsOf at he
  split at he
  · rename_i id off len
    split at he
    · rename_i sz' ys hel
      split at he
      · rename_i hb
        simp only [Option.some.injEq, Prod.mk.injEq] at he
        obtain ⟨rfl, rfl⟩ := he
        obtain ⟨β, ad, c, e1, e2, e3, e4, e5⟩ := rel_sl rx
        have hel' := els_le hle hel
        obtain ⟨β', e1', hr⟩ := heap_rel r hel'
        rw [e1] at e1'; cases e1'
        have hs := els_sz hel' hr
        have hlen : ((ys.drop off).take len).length = len := by simp; omega
        refine ⟨ad, c, by rw [hlen]; exact e2, by omega, e4, ?_⟩
        by_cases hne : (ys.drop off).take len = []
        · exact .inl hne
        · have hpos : 0 < len := by rw [← hlen]; exact List.length_pos_iff.2 hne
          rcases e5 with e5 | ⟨b, e5, e6, e7⟩
          · omega
          · subst e6
            have hsplit : ys = ys.take off ++ ((ys.drop off).take len ++ (ys.drop off).drop len) := by rw [List.take_append_drop, List.take_append_drop]
            have htl : (ys.take off).length = off := by simp; omega
            have key : ∀ {bl : Bool} {G : List Nat}, repE w.heap bl b β.off sz' ys G → ∃ G', (∀ g ∈ G', g ∈ G) ∧ repE w.heap bl b (β.off + off * sz') sz' ((ys.drop off).take len) G' := by
              intro bl G hG
              rw [hsplit] at hG
              obtain ⟨G1, G2, rfl, k1, k2⟩ := (repE_append _ _ _ _).1 hG
              obtain ⟨G3, G4, rfl, k3, k4⟩ := (repE_append _ _ _ _).1 k2
              rw [htl] at k3
              exact ⟨G3, fun y hy => by simp [hy], k3⟩
            cases hx : hget σ'.heap id with
            | dead => rw [hx] at hel'; cases hel'
            | box cells => rw [hx] at hel'; cases hel'
            | cln _ _ => rw [hx] at hel'; cases hel'
            | win _ _ _ _ => rw [hx] at hel'; cases hel'
            | arr sz2 ys2 nf =>
              rw [hx] at hel' hr
              simp only [H.els, Option.some.injEq, Prod.mk.injEq] at hel'
              obtain ⟨rfl, rfl⟩ := hel'
              simp only [HRel] at hr
              rcases hr.2 with hr | ⟨b', G, r1, r2, r3, r4, r5, r6⟩
              · rw [hr.2.1] at hb; simp at hb; omega
              · rw [e5] at r1; cases r1
                obtain ⟨G', g1, g2⟩ := key r4
                refine .inr ⟨b, _, G', rfl, r3.lt, ?_, fun g hg => ?_⟩
                · rw [hs]
                  cases nf with
                  | true => exact repE_false _ _ _ _ _ g2
                  | false => exact g2
                · cases nf with
                  | true => exact notTop_of_nest r e1 (by rw [hx]; rfl) (by rw [hx]; rfl) (by rw [← r5 rfl]; exact g1 g hg)
                  | false => exact r6 rfl g (g1 g hg)
            | ro sz2 ys2 =>
              rw [hx] at hel' hr
              simp only [H.els, Option.some.injEq, Prod.mk.injEq] at hel'
              obtain ⟨rfl, rfl⟩ := hel'
              simp only [HRel] at hr
              rcases hr.2 with hr | ⟨b', G, r1, r2, r3, r4, r5⟩
              · rw [hr] at hb; simp at hb; omega
              · rw [e5] at r1; cases r1
                obtain ⟨G', g1, g2⟩ := key r4
                exact .inr ⟨b, _, G', rfl, r3, by rw [hs]; exact g2, fun g hg => r5 g (g1 g hg)⟩
      · cases he
    · cases he
  · simp only [Option.some.injEq, Prod.mk.injEq] at he
    obtain ⟨rfl, rfl⟩ := he
    obtain ⟨ad, c, e1, e2, e3, e4⟩ := rel_dsl rx
    refine ⟨ad, c, e1, e2, e3, ?_⟩
    rcases e4 with e4 | ⟨b, f, G, e4, e5, e6, e7, e8⟩
    · exact .inl e4
    · exact .inr ⟨b, f, G, e4, e5, e7, e8⟩
  · simp only [Option.some.injEq, Prod.mk.injEq] at he
    obtain ⟨rfl, rfl⟩ := he
    simp only [VRel] at rx
    exact ⟨none, 0, rx, by simp, by decide, .inl rfl⟩
  · cases he

theorem bytes_cells {h : Array Obj} {b : Nat} : ∀ (cs : List (List D)) (s : List UInt8) (f : Nat) (G : List Nat), bytesL cs = some s → repE h false b f 1 cs G →
    s.length = cs.length ∧ ∀ (j : Nat) (c : UInt8), s[j]? = some c → ∃ n : Int, cellAt h b (f + j) = some (.int .u8 n) ∧ UInt8.ofNat n.toNat = c
  | [], s, f, G, e, _ => by simp only [bytesL, Option.some.injEq] at e; subst e; simp
  | c :: cs, s, f, G, e, r => by
    simp only [bytesL] at e
    split at e
    · rename_i b' r' e1 e2
      cases e
      simp only [repE] at r
      obtain ⟨G1, G2, rfl, k1, k2, k3⟩ := r
      obtain ⟨ih1, ih2⟩ := bytes_cells cs r' (f + 1) G2 e2 k3
      refine ⟨by simp [ih1], fun j x hj => ?_⟩
      cases j with
      | zero =>
        simp at hj; subst hj
        unfold byte1 at e1
        split at e1
        · rename_i m
          cases e1
          simp only [repC] at k2
          obtain ⟨v, H1, H2, _, c1, c2, _⟩ := k2
          simp only [rep] at c2
          exact ⟨m, by rw [Nat.add_zero, c1, c2.1], rfl⟩
        · cases e1
      | succ j =>
        have := ih2 j x (by simpa using hj)
        rw [show f + (j + 1) = f + 1 + j from by omega]; exact this
    · cases e

theorem push_fold : ∀ (ns : List Int) (s : ByteArray), ns.foldl (fun r n => r.push (UInt8.ofNat n.toNat)) s = ⟨(s.data.toList ++ ns.map fun n => UInt8.ofNat n.toNat).toArray⟩
  | [], s => by simp
  | m :: ns, s => by
    rw [List.foldl_cons, push_fold ns]
    simp [ByteArray.push]

def cvE (P : Program) (hs : List H) (src dst : TypeId) (x : V) : Option (Prop × V) :=
  match x with
  | .d (.int _ n) =>
    match intI P src, intI P dst with
    | some _, some k => some (True, dI k (k.wrap n))
    | _, _ => none
  | .d (.str s) => if isStrI P src && isStrI P dst then some (True, dS s) else none
  | x =>
    match elI P src, elsOf hs x with
    | some (e, 1, _), some (1, xs) => if intI P e = some .u8 && isStrI P dst then some ((bytesL xs).isSome = true, dS ((bytesL xs).getD [])) else none
    | some (e, 1, _), some (_, []) => if intI P e = some .u8 && isStrI P dst then some (True, dS []) else none
    | _, _ => none

theorem bytes_run {w : World} {src dst e : TypeId} {s by_ : Nat} (he : elI P src = some (e, s, by_)) (hk : (intI P e = some .u8 && isStrI P dst) = true) {ad : Option Addr} {c : Nat} {xs : List (List D)} {t : List UInt8} (ht : bytesL xs = some t)
    (h : xs = [] ∨ ∃ b f G, ad = some ⟨b, f, none⟩ ∧ repE w.heap false b f 1 xs G) : (convert src dst (.slice ad xs.length c)).run P w = .ok (.string ⟨t.toArray⟩) w := by
  simp only [Bool.and_eq_true, decide_eq_true_eq] at hk
  obtain ⟨inf, hu, _⟩ := elI_some he
  rw [run_convert_bytes_string w src dst e _ _ _ hu (intI_some hk.1) (isStrI_true hk.2)]
  have nil : ∀ (ad : Option Addr) (c : Nat), (Conv.bytesToString (.slice ad 0 c)).run P w = .ok (.string ⟨#[]⟩) w := by
    intro ad c
    cases ad with
    | none => rfl
    | some ad => exact run_bytesToString w ad 0 c [] (by simp [loadCells, loadCellsFrom])
  rcases h with rfl | ⟨b, f, G, rfl, h⟩
  · simp only [bytesL, Option.some.injEq] at ht; subst ht
    exact nil ad c
  · obtain ⟨h1, h2⟩ := bytes_cells _ _ _ _ ht h
    have hex : ∃ ns : List Int, ns.length = xs.length ∧ (∀ (j : Nat) (n : Int), ns[j]? = some n → cellAt w.heap b (f + j) = some (.int .u8 n)) ∧ ns.map (fun n => UInt8.ofNat n.toNat) = t := by
      clear ht h
      have : ∀ (t : List UInt8) (f : Nat), (∀ (j : Nat) (c : UInt8), t[j]? = some c → ∃ n : Int, cellAt w.heap b (f + j) = some (.int .u8 n) ∧ UInt8.ofNat n.toNat = c) →
          ∃ ns : List Int, ns.length = t.length ∧ (∀ (j : Nat) (n : Int), ns[j]? = some n → cellAt w.heap b (f + j) = some (.int .u8 n)) ∧ ns.map (fun n => UInt8.ofNat n.toNat) = t := by
        intro t
        induction t with
        | nil => exact fun f _ => ⟨[], rfl, by simp, rfl⟩
        | cons c t ih =>
          intro f h
          obtain ⟨m, m1, m2⟩ := h 0 c rfl
          obtain ⟨ns, n1, n2, n3⟩ := ih (f + 1) (fun j c hj => by have := h (j + 1) c (by simpa using hj); rw [show f + 1 + j = f + (j + 1) from by omega]; exact this)
          refine ⟨m :: ns, by simp [n1], fun j n hj => ?_, by simp [m2, n3]⟩
          cases j with
          | zero => simp at hj; subst hj; exact m1
          | succ j => rw [show f + (j + 1) = f + 1 + j from by omega]; exact n2 j n (by simpa using hj)
      obtain ⟨ns, n1, n2, n3⟩ := this t f h2
      exact ⟨ns, by rw [n1, h1], n2, n3⟩
    obtain ⟨ns, n1, n2, n3⟩ := hex
    have hl := run_loadCells_list (P := P) w ⟨b, f, none⟩ (ns.map (Value.int .u8)) (fun j v hj => by
      rw [add_lit, cell_eq]
      rw [List.getElem?_map] at hj
      cases hn : ns[j]? with
      | none => rw [hn] at hj; cases hj
      | some m => rw [hn] at hj; cases hj; exact n2 j m hn)
    rw [List.length_map, n1] at hl
    rw [run_bytesToString w _ _ c ns hl, push_fold, n3]
    rfl

theorem ok_convert {src dst : TypeId} {x : Operand} (ho : o.op = .convert src dst x) (h : evg g (σ.ev x) fun a => withR (cvE P σ.heap src dst a) fun v => K (rv v)) : ∃ r, OpOK P o g σ n r ∧ K r := by
  obtain ⟨va, h1, hx⟩ := evg_rel h
  obtain ⟨p, v, hE, hp, hK⟩ := withR_inv h1
  clear h h1
  refine ⟨_, OpOK_val fun σ' hle B w0 Dm φ kp a w r hg => ?_, hK⟩
  have rx := hx _ _ _ _ hg (ev_le hle r x)
  have hex : ∀ {u : Value}, (convert src dst (a.eval x)).run P w = .ok u w → (execOp a.eval o).run P w = .ok (.value u) w := by
    intro u hu
    unfold execOp; rw [ho]; simp [hu]
  unfold cvE at hE
  split at hE
  · rename_i k m
    split at hE
    · rename_i k1 k2 h1 h2
      simp only [Option.some.injEq, Prod.mk.injEq] at hE
      obtain ⟨_, rfl⟩ := hE
      refine ⟨_, hex (u := .int k2 (k2.wrap m)) ?_, mk_int (wrap_range _ _)⟩
      rw [(rel_int rx).1]
      simp [convert, run_underlying (intI_some h1), run_underlying (intI_some h2), Conv.intToInt]
    · cases hE
  · split at hE
    · rename_i s hs
      simp only [Option.some.injEq, Prod.mk.injEq] at hE
      obtain ⟨_, rfl⟩ := hE
      simp only [Bool.and_eq_true] at hs
      have e1 := rel_str rx
      refine ⟨_, hex (u := .string ⟨s.toArray⟩) ?_, mk_str e1.2⟩
      rw [e1.1]
      simp [convert, run_underlying (isStrI_true hs.1), run_underlying (isStrI_true hs.2)]
    · cases hE
  · split at hE
    · rename_i e by_ xs he hel
      split at hE
      · rename_i hk
        simp only [Option.some.injEq, Prod.mk.injEq] at hE
        obtain ⟨rfl, rfl⟩ := hE
        obtain ⟨t, ht⟩ := Option.isSome_iff_exists.1 hp
        obtain ⟨ad, c, e1, e2, e3, e4⟩ := elsOf_rel hle r hel rx
        have e4' : xs = [] ∨ ∃ b f G, ad = some ⟨b, f, none⟩ ∧ repE w.heap false b f 1 xs G := by
          rcases e4 with e4 | ⟨b, f, G, e4, _, e5, _⟩
          · exact .inl e4
          · exact .inr ⟨b, f, G, e4, e5⟩
        have hrun := bytes_run (w := w) (dst := dst) he hk ht (ad := ad) (c := c) e4'
        refine ⟨_, hex (u := .string ⟨t.toArray⟩) (by rw [e1]; exact hrun), ?_⟩
        have hlen : t.length = xs.length := by
          rcases e4 with rfl | ⟨b, f, G, e4, _, e5, _⟩
          · simp only [bytesL, Option.some.injEq] at ht; subst ht; rfl
          · exact (bytes_cells _ _ _ _ ht e5).1
        rw [ht]; exact mk_str (by simp; omega)
      · cases hE
    · rename_i e by_ s _ he hel
      split at hE
      · rename_i hk
        simp only [Option.some.injEq, Prod.mk.injEq] at hE
        obtain ⟨_, rfl⟩ := hE
        obtain ⟨ad, c, e1, e2, e3, e4⟩ := elsOf_rel hle r hel rx
        have hrun := bytes_run (w := w) (dst := dst) he hk (xs := []) (t := []) rfl (ad := ad) (c := c) (.inl rfl)
        exact ⟨_, hex (by rw [e1]; exact hrun), mk_str (by decide)⟩
      · cases hE
    · cases hE

/-! ### Aggregates -/

def splice {α : Type} (l : List α) (off : Nat) (vs : List α) : List α := l.take off ++ (vs ++ l.drop (off + vs.length))

theorem splice_len {α : Type} {l : List α} {off : Nat} {vs : List α} (h : off + vs.length ≤ l.length) : (splice l off vs).length = l.length := by
  simp [splice]; omega

theorem VRels_splice {φ : Phi} {T : Nat → Prop} {h : Array Obj} {cs vs : List V} {us ws : List Value} (r : VRels φ T h cs us) (r' : VRels φ T h vs ws) (off : Nat) : VRels φ T h (splice cs off vs) (splice us off ws) := by
  unfold splice
  rw [VRels_len _ _ r']
  exact VRels_append (VRels_take r off) (VRels_append r' (VRels_drop r _))

theorem fold_set : ∀ (vs : List Value) (k off : Nat) (cells : Array Value), off + k + vs.length ≤ cells.size →
    (vs.zipIdx k).foldl (fun cs (c, j) => cs.setIfInBounds (off + j) c) cells = (splice cells.toList (off + k) vs).toArray
  | [], k, off, cells, _ => by simp [splice]
  | v :: vs, k, off, cells, h => by
    simp only [List.length_cons] at h
    rw [List.zipIdx_cons, List.foldl_cons, fold_set vs (k + 1) off _ (by simp; omega)]
    have hi : off + k < cells.toList.length := by simp; omega
    have e := list_seg_step cells.toList (off + k) v vs (by simp; omega)
    congr 1
    unfold splice
    simpa [Array.toList_setIfInBounds, Nat.add_assoc] using e

/-- Parts laid into the cells of an aggregate. -/
def vfill (pl : Nat → Option (Nat × Nat)) : List V → List (Nat × V) → Option (List V)
  | cells, [] => some cells
  | cells, (i, v) :: r =>
    match pl i with
    | some (off, sz) => if v.cells.length = sz ∧ off + sz ≤ cells.length ∧ v.cellsOk = true then vfill pl (splice cells off v.cells) r else none
    | none => none

def partsRel (φ : Phi) (T : Nat → Prop) (h : Array Obj) : List (Nat × V) → List (Nat × Value) → Prop
  | [], us => us = []
  | (i, v) :: r, us => ∃ u us', us = (i, u) :: us' ∧ VRel φ T h v u ∧ partsRel φ T h r us'

theorem vfill_rel {φ : Phi} {T : Nat → Prop} {h : Array Obj} (pl : Nat → Option (Nat × Nat)) : ∀ (parts : List (Nat × V)) (cells cells' : List V) (us : List Value) (ps : List (Nat × Value)), vfill pl cells parts = some cells' → VRels φ T h cells us → partsRel φ T h parts ps →
    ∃ us' : List Value, Instr.fill pl us.toArray ps = some us'.toArray ∧ VRels φ T h cells' us'
  | [], cells, cells', us, ps, e, r, rp => by
    simp only [vfill, Option.some.injEq] at e; subst e
    simp only [partsRel] at rp; subst rp
    exact ⟨us, rfl, r⟩
  | (i, v) :: parts, cells, cells', us, ps, e, r, rp => by
    simp only [partsRel] at rp
    obtain ⟨u, ps', rfl, rv, rp⟩ := rp
    simp only [vfill] at e
    split at e
    · rename_i off sz hpl
      split at e
      · rename_i hb
        have hc := (cells_rel hb.2.2 rv).1
        have hl := VRels_len _ _ hc
        have hl' := VRels_len _ _ r
        obtain ⟨us', k1, k2⟩ := vfill_rel pl parts _ cells' _ ps' e (VRels_splice r hc off) rp
        refine ⟨us', ?_, k2⟩
        rw [← k1]
        have hsz : u.cells.size = sz := by rw [← Array.length_toList, hl]; exact hb.1
        have hno : ¬ (u.cells.size ≠ sz ∨ off + u.cells.size > us.toArray.size) := by
          have := hb.2.1
          simp only [List.size_toArray, hsz]; omega
        have hno' : (decide (u.cells.size ≠ sz) || decide (off + u.cells.size > us.toArray.size)) = false := by
          rw [Bool.eq_false_iff]; intro hh; exact hno (by simpa using hh)
        simp only [Instr.fill, hpl, hno', Bool.false_eq_true, if_false]
        congr 1
        have := fold_set u.cells.toList 0 off us.toArray (by
          have := hb.2.1
          simp only [Nat.add_zero, Array.length_toList, List.size_toArray, hsz]; omega)
        simp only [Nat.add_zero] at this
        rw [← this, ← Array.foldl_toList, Array.toList_zipIdx]
      · cases e
    · cases e

/-- The places of a struct's fields, of an array's elements. -/
def plI (P : Program) (T : TypeId) : Option (Nat → Option (Nat × Nat)) :=
  match P.underlying T with
  | some (.array _ e) => (P.info? e).map fun i => fun j => some (j * i.size, i.size)
  | some (.struct fs) => (fs.toList.mapM fun f => (P.info? f.type).map fun i => (f.offset, i.size)).map fun l => fun j => l[j]?
  | _ => none

def szsI (P : Program) : Nat → TypeId → List Nat
  | 0, _ => []
  | f + 1, T =>
    match P.underlying T with
    | some (.array n e) => (List.replicate n (szsI P f e)).flatten
    | some (.struct fs) => (fs.toList.map fun x => szsI P f x.type).flatten
    | some (.slice e) => [P.cellsOf e]
    | _ => [0]

def reSz : V → Nat → V
  | .nils _, s => .nils s
  | v, _ => v

/-- The cells of a type's zero value. -/
def zrI (P : Program) (T : TypeId) : Option (List V) :=
  match P.info? T with
  | some i =>
    match i.zero with
    | some z =>
      let l := List.zipWith reSz (z.cells.toList.map ofVal) (szsI P 8 T)
      if l.length = z.cells.toList.length then some l else none
    | none => none
  | none => none

theorem zrI_rel {T : TypeId} {vs : List V} (h : zrI P T = some vs) : ∃ i z, P.info? T = some i ∧ i.zero = some z ∧ ∀ (φ : Phi) (T' : Nat → Prop) (hp : Array Obj), VRels φ T' hp vs z.cells.toList := by
  unfold zrI at h
  split at h
  · rename_i i hi
    split at h
    · rename_i z hz
      simp only at h
      split at h
      · rename_i hl
        cases h
        refine ⟨i, z, hi, hz, fun φ T' hp => VRels_mk _ _ hl.symm fun t v u e1 e2 => ?_⟩
        rw [List.getElem?_zipWith] at e1
        rw [List.getElem?_map, e2] at e1
        simp only [Option.map_some] at e1
        cases hs : (szsI P 8 T)[t]? with
        | none => rw [hs] at e1; cases e1
        | some s =>
          rw [hs] at e1
          cases e1
          have := ofVal_rel (φ := φ) (T := T') (h := hp) u
          cases hv : ofVal u <;> rw [hv] at this <;> first | exact this | (simp only [reSz, VRel] at this ⊢; exact this)
      · cases h
    · cases h
  · cases h

def evParts (g : Bool) (σ : St) : List (Nat × Operand) → (List (Nat × V) → Prop) → Prop
  | [], K => K []
  | (i, x) :: r, K => evg g (σ.ev x) fun v => evParts g σ r fun vs => K ((i, v) :: vs)

theorem evParts_inv : ∀ (ps : List (Nat × Operand)) (K : List (Nat × V) → Prop), evParts g σ ps K → ∃ vs, K vs ∧ ∀ {σ' : St} {B : Nat → Prop} {w0 : World} {Dm : Nat → Prop} {φ : Phi} {kp : List (V × Value)} {a : Act} {w : World}, σ.le σ' → R B w0 Dm φ σ' kp a w → g = true →
    partsRel φ (NotTop φ σ'.heap) w.heap vs (ps.map fun (i, x) => (i, a.eval x))
  | [], K, h => ⟨[], h, fun _ _ _ => by simp [partsRel]⟩
  | (i, x) :: ps, K, h => by
    simp only [evParts] at h
    obtain ⟨v, h1, hx⟩ := evg_rel h
    obtain ⟨vs, hK, hr⟩ := evParts_inv ps _ h1
    refine ⟨(i, v) :: vs, hK, fun hle r hg => ?_⟩
    simp only [List.map_cons, partsRel]
    exact ⟨_, _, rfl, hx _ _ _ _ hg (ev_le hle r x), hr hle r hg⟩

def bldE (P : Program) (T : TypeId) (parts : List (Nat × V)) : Option V :=
  match plI P T, zrI P T with
  | some pl, some z => (vfill pl z parts).map V.agg
  | _, _ => none

theorem ok_build {T : TypeId} {parts : Array (Nat × Operand)} (ho : o.op = .build T parts) (h : evParts g σ parts.toList fun ps => withO (bldE P T ps) fun v => K (rv v)) : ∃ r, OpOK P o g σ n r ∧ K r := by
  obtain ⟨ps, h1, hx⟩ := evParts_inv _ _ h
  obtain ⟨v, hE, hK⟩ := withO_inv h1
  clear h h1
  refine ⟨_, OpOK_val fun σ' hle B w0 Dm φ kp a w r hg => ?_, hK⟩
  unfold bldE at hE
  split at hE
  · rename_i pl z hpl hz
    cases hf : vfill pl z ps with
    | none => rw [hf] at hE; cases hE
    | some cells =>
      rw [hf] at hE; cases hE
      obtain ⟨i, zv, hi, hzv, hzr⟩ := zrI_rel hz
      obtain ⟨us, k1, k2⟩ := vfill_rel (φ := φ) (T := NotTop φ σ'.heap) (h := w.heap) pl ps z cells _ _ hf (hzr _ _ _) (hx hle r hg)
      have hb : P.built T (parts.map fun (i, x) => (i, a.eval x)).toList = some us.toArray := by
        unfold Program.built
        unfold plI at hpl
        simp only [Array.toArray_toList] at k1
        split at hpl
        · rename_i nn e hu
          cases hie : P.info? e with
          | none => rw [hie] at hpl; cases hpl
          | some ie =>
            rw [hie] at hpl; cases hpl
            simp only [hi, hu, hzv, hie, Array.toList_map]
            exact k1
        · rename_i fs hu
          cases hp : fs.toList.mapM (fun f => (P.info? f.type).map fun i => (f.offset, i.size)) with
          | none => rw [hp] at hpl; cases hpl
          | some places =>
            rw [hp] at hpl; cases hpl
            simp only [hi, hu, hzv, hp, Array.toList_map]
            simpa using k1
        · cases hpl
      refine ⟨.agg us.toArray, ?_, by simp only [VRel]; exact ⟨us.toArray, rfl, by simpa using k2⟩⟩
      unfold execOp; rw [ho]
      have := run_build (P := P) w T (parts.map fun (i, x) => (i, a.eval x)) us.toArray hb
      simp [this]
  · cases hE

end Gv
