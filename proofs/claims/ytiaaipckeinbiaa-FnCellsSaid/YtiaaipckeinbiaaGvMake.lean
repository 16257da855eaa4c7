/-
  New arrays: of parts, of zero elements. Function values. The smaller, the greater.
-/
import Derived.Test.YtiaaipckeinbiaaGvAppend
import Derived.Laws.MakeOwn
namespace Gv
open Go

variable {P : Program} {o : Oper} {g : Bool} {σ : St} {n : Nat} {K : Res → Prop}

def chunk (sz : Nat) : Nat → List D → List (List D)
  | 0, _ => []
  | k + 1, ds => ds.take sz :: chunk sz k (ds.drop sz)

theorem chunk_length (sz : Nat) : ∀ (k : Nat) (ds : List D), (chunk sz k ds).length = k
  | 0, _ => rfl
  | k + 1, ds => by simp [chunk, chunk_length sz k]

theorem repC_chunk {h : Array Obj} {bl : Bool} {b sz : Nat} : ∀ (k f : Nat) (ds : List D) (G : List Nat), ds.length = k * sz → repC h bl b f ds G → repE h bl b f sz (chunk sz k ds) G
  | 0, f, ds, G, hl, r => by
    have : ds = [] := List.eq_nil_of_length_eq_zero (by simpa using hl)
    subst this
    simpa [chunk, repE, repC] using r
  | k + 1, f, ds, G, hl, r => by
    rw [Nat.add_mul, Nat.one_mul] at hl
    have e : ds = ds.take sz ++ ds.drop sz := (List.take_append_drop sz ds).symm
    rw [e] at r
    obtain ⟨G1, G2, rfl, r1, r2⟩ := (repC_append _ _ _ _).1 r
    have hl1 : (ds.take sz).length = sz := by simp; omega
    rw [hl1] at r2
    simp only [chunk, repE]
    exact ⟨G1, G2, rfl, hl1, r1, repC_chunk k (f + sz) _ G2 (by simp; omega) r2⟩

/-- The elements that parts make, all of them given in order. -/
def bsE (P : Program) (hs : List H) (T : TypeId) (len : Nat) (parts : List (Nat × V)) (n : Nat) : Option (Prop × Res) :=
  match elI P T with
  | some (e, sz, _) =>
    match vfill (fun i => some (i * sz, sz)) (List.replicate (len * sz) .junk) parts with
    | some cells =>
      match toDs hs cells with
      | some (ds, ids) => some ((zrI P e).isSome = true ∧ ds.length = len * sz ∧ ids.Nodup ∧ len * sz ≤ 16777216 ∧ len ≤ maxLen, ⟨.sl n 0 len, [.arr sz (chunk sz len ds) true], ids.map fun i => (i, match hget hs i with | .arr s ys _ => .ro s ys | x => x)⟩)
      | none => some (((zrI P e).isSome = true ∧ sz = 1) ∧ len ≤ 16777216 ∧ len ≤ maxLen, ⟨.sl n 0 len, [.box cells], []⟩)
    | none => none
  | none => none

theorem rels_junk {φ : Phi} {T : Nat → Prop} {h : Array Obj} (us : List Value) : VRels φ T h (List.replicate us.length .junk) us := by
  refine VRels_mk _ _ (by simp) fun t v u e1 e2 => ?_
  rw [List.getElem?_replicate] at e1
  split at e1
  · cases e1; simp [VRel]
  · cases e1

theorem run_bs (w : World) {t e : TypeId} (len : Nat) (parts : Array (Nat × Value)) {ie : TypeInfo} {z : Value} (hu : P.underlying t = some (.slice e)) (hie : P.info? e = some ie) (hz : ie.zero = some z)
    (hsmall : len * ie.size ≤ 16777216) : ∃ us : List Value, us.length = len * ie.size ∧ ∀ cells, Instr.fill (fun i => some (i * ie.size, ie.size)) us.toArray parts.toList = some cells →
    (Instr.buildSlice t len parts).run P w = .ok (.slice (some ⟨w.heap.size, 0, none⟩) len len) (w.alloc (.cells cells e)) := by
  by_cases h0 : len * ie.size = 0
  · refine ⟨[], by simp [h0], fun cells h1 => ?_⟩
    have hs : (Go.sizeOf e).run P w = Result.ok ie.size w := by simp [Go.sizeOf, typeInfo, hie]
    simp [Instr.buildSlice, run_underlying hu, hs, h0, Array.range_zero', h1, newRow]
  · refine ⟨((Array.range (len * ie.size)).map (z.cells[· % z.cells.size]!)).toList, by simp, fun cells h => ?_⟩
    exact run_buildSlice w t e len parts cells ie z hu hie hz (by omega) h0 (by rw [← h, Array.toArray_toList])

section
variable {B : Nat → Prop} {w0 : World} {Dm : Nat → Prop} {φ : Phi} {kp : List (V × Value)} {a : Act} {w : World}

/-- A new array in a new block. -/
theorem new_arr {σ' : St} (hR : R B w0 Dm φ σ' kp a w) {n : Nat} (hd : hget σ'.heap n = .dead) (hn : ¬ Dm n) {upd : List (Nat × H)} (hnd : (upd.map (·.1)).Nodup)
    (hu : ∀ p ∈ upd, ∃ sz xs, hget σ'.heap p.1 = .arr sz xs true ∧ p.2 = .ro sz xs) {cs : Array Value} {e : TypeId} {sz : Nat} {xs : List (List D)} {G : List Nat} (hcs : cs.size = xs.length * sz)
    (hrep : repE (w.heap.push (.cells cs e)) true w.heap.size 0 sz xs G) (gnd : G.Nodup) (gown : ∀ b ∈ G, ∃ p ∈ upd, Owns φ σ'.heap p.1 b) (hmx : xs.length ≤ maxLen) :
    ∃ φ', R B w0 (fun i => Dm i ∨ (n ≤ i ∧ i < n + 1)) φ' ⟨σ'.tmps, hupd (hput σ'.heap n (.arr sz xs true)) upd⟩ kp a (w.alloc (.cells cs e)) ∧
      ∀ T' h', VRel φ' T' h' (.sl n 0 xs.length) (.slice (some ⟨w.heap.size, 0, none⟩) xs.length xs.length) := by
  have hheap : (w.alloc (.cells cs e)).heap = w.heap.push (.cells cs e) := rfl
  have hGlt : ∀ b ∈ G, b < w.heap.size := fun b hb => by obtain ⟨p, _, h⟩ := gown b hb; exact Owns.lt hR h
  refine ⟨phiSet φ n ⟨some w.heap.size, 0, xs.length, sz, G⟩, ?_, fun T' h' => ?_⟩
  · refine R_mk hR hd hn hnd (fun p hp => by obtain ⟨s, ys, h1, h2⟩ := hu p hp; exact ⟨s, ys, h1, .inr h2⟩) rfl (by rw [hheap]; simp) (below_alloc hR.bel hR.bs _) (fun b' hb' _ => by rw [hheap, Array.getElem?_push]; simp [Nat.ne_of_lt hb']) (.inr ⟨w.heap.size, rfl, Nat.le_refl _, ?_, ?_⟩) (fun b' hb' => .inl (by cases hb'; exact Nat.le_refl _))
      (fun b hb => .inr (gown b hb)) gnd (fun b' hb' hb2 => ?_)
    · exact ⟨cs, e, by rw [hheap]; simp, by simp [hcs]⟩
    · rw [hheap]; exact hrep
    · simp only at hb' hb2
      cases hb'
      exact Nat.lt_irrefl _ (hGlt _ hb2)
  · simp only [VRel]
    exact ⟨⟨some w.heap.size, 0, xs.length, sz, G⟩, _, xs.length, by simp [phiSet], rfl, hmx, .inr ⟨w.heap.size, rfl, by simp, Nat.le_refl _, by simp⟩⟩
end

theorem vfill_length (pl : Nat → Option (Nat × Nat)) : ∀ (parts : List (Nat × V)) (cells cells' : List V), vfill pl cells parts = some cells' → cells'.length = cells.length
  | [], cells, cells', e => by simp only [vfill, Option.some.injEq] at e; rw [e]
  | (i, v) :: parts, cells, cells', e => by
    simp only [vfill] at e
    split at e
    · split at e
      · rename_i hb
        rw [vfill_length pl parts _ _ e]
        exact splice_len (by have := hb.1; have := hb.2.1; omega)
      · cases e
    · cases e

theorem ok_buildSlice {T : TypeId} {len : Nat} {parts : Array (Nat × Operand)} (ho : o.op = .buildSlice T len parts) (h : evParts g σ parts.toList fun ps => match bsE P σ.heap T len ps n with | some (p, r) => p ∧ K r | none => False) :
    ∃ r, OpOK P o g σ n r ∧ K r := by
  obtain ⟨ps, h1, hx⟩ := evParts_inv _ _ h
  clear h
  split at h1
  · rename_i p r hE
    obtain ⟨hp, hK⟩ := h1
    unfold bsE at hE
    split at hE
    · rename_i e sz by_ hel
      split at hE
      · rename_i cells hf
        split at hE
        · rename_i ds ids hds
          simp only [Option.some.injEq, Prod.mk.injEq] at hE
          obtain ⟨rfl, rfl⟩ := hE
          obtain ⟨p1, p2, p3, p4, p5⟩ := hp
          refine ⟨_, ?_, hK⟩
          intro σ' hle hd B w0 Dm φ kp a w hDm hR hg Q1 Q2 hk
          obtain ⟨i, hu, hi, hsz, _⟩ := elI_some hel
          subst hsz
          obtain ⟨vs, hzr⟩ := Option.isSome_iff_exists.1 p1
          obtain ⟨i', z, hi', hz1, _⟩ := zrI_rel hzr
          rw [hi] at hi'; cases hi'
          have hps := hx hle hR hg
          obtain ⟨us, hus, hrun⟩ := run_bs (P := P) w len (parts.map fun (j, x) => (j, a.eval x)) hu hi hz1 p4
          obtain ⟨us', k1, k2⟩ := vfill_rel _ ps _ _ us _ hf (by rw [← hus]; exact rels_junk us) hps
          have hrun := hrun us'.toArray (by rw [Array.toList_map]; exact k1)
          obtain ⟨G, g1, g2, g3, g4⟩ := toDs_rel hR cells ds ids us' (toDs_le hle _ _ hds) p3 k2
          have hl : us'.length = ds.length := reps_len _ _ _ g1
          have hup : ∀ p ∈ ids.map (fun i => (i, match hget σ.heap i with | .arr s ys _ => H.ro s ys | x => x)), ∃ sz xs, hget σ'.heap p.1 = .arr sz xs true ∧ p.2 = .ro sz xs := by
            intro p hp
            obtain ⟨j, j1, rfl⟩ := List.mem_map.1 hp
            obtain ⟨s, ys, q⟩ := toDs_ids _ _ _ hds j j1
            refine ⟨s, ys, ?_, by simp only [q]⟩
            rcases hle.2 j with hh | hh
            · rw [q] at hh; cases hh
            · rw [hh, q]
          obtain ⟨φ', e1, e2⟩ := new_arr (cs := us'.toArray) (e := e) (sz := i.size) (xs := chunk i.size len ds) (G := G) hR (n := n) (hd n (Nat.le_refl _) (by simp)) (hDm n (Nat.le_refl _) (by simp))
            (upd := ids.map (fun i => (i, match hget σ.heap i with | .arr s ys _ => H.ro s ys | x => x))) (by
              rw [List.map_map]
              have : ((fun x : Nat × H => x.1) ∘ fun i => (i, match hget σ.heap i with | .arr s ys _ => H.ro s ys | x => x)) = (fun i : Nat => i) := rfl
              rw [this, List.map_id']; exact p3) hup (by simp [chunk_length, hl, p2])
            (by
              refine repC_chunk len 0 ds G p2 (reps_repC ds us' 0 G (reps_mono (by simp) ds us' G (fun x hx => ?_) g1) fun j u hj => ?_)
              · obtain ⟨q, q1, q2⟩ := g3 x hx
                rw [Array.getElem?_push]; simp [Nat.ne_of_lt (Owns.lt hR q2)]
              · unfold cellAt; simp [hj]) g2
            (fun x hx => by
              obtain ⟨q, q1, q2⟩ := g3 x hx
              exact ⟨_, List.mem_map.2 ⟨q, q1, rfl⟩, q2⟩) (by rw [chunk_length]; exact p5)
          unfold Oper.wp
          have hex : (execOp a.eval o).run P w = .ok (.value (.slice (some ⟨w.heap.size, 0, none⟩) len len)) (w.alloc (.cells us'.toArray e)) := by
            unfold execOp; rw [ho]; simp [hrun]
          rw [hex, Oper.upon_value]
          rw [chunk_length] at e2
          exact hk _ _ _ (R_put e1 o.dst (e2 _ _))
        · simp only [Option.some.injEq, Prod.mk.injEq] at hE
          obtain ⟨rfl, rfl⟩ := hE
          obtain ⟨⟨p1, p3⟩, p4, p5⟩ := hp
          subst p3
          refine ⟨_, ?_, hK⟩
          intro σ' hle hd B w0 Dm φ kp a w hDm hR hg Q1 Q2 hk
          obtain ⟨i, hu, hi, hsz, _⟩ := elI_some hel
          obtain ⟨vs, hzr⟩ := Option.isSome_iff_exists.1 p1
          obtain ⟨i', z, hi', hz1, _⟩ := zrI_rel hzr
          rw [hi] at hi'; cases hi'
          have hps := hx hle hR hg
          obtain ⟨us, hus, hrun⟩ := run_bs (P := P) w len (parts.map fun (j, x) => (j, a.eval x)) hu hi hz1 (by rw [hsz]; omega)
          rw [hsz] at hus hrun
          obtain ⟨us', k1, k2⟩ := vfill_rel _ ps _ _ us _ hf (by rw [← hus]; exact rels_junk us) hps
          have hrun := hrun us'.toArray (by rw [Array.toList_map]; exact k1)
          have h1 := R_boxc len 1 hR (n := n) (hd n (Nat.le_refl _) (by simp)) (hDm n (Nat.le_refl _) (by simp)) (cells := cells) (cs := us'.toArray) (e := e) k2 (w' := w.alloc (.cells us'.toArray e)) rfl (below_alloc hR.bel hR.bs _)
          unfold Oper.wp
          have hex : (execOp a.eval o).run P w = .ok (.value (.slice (some ⟨w.heap.size, 0, none⟩) len len)) (w.alloc (.cells us'.toArray e)) := by
            unfold execOp; rw [ho]; simp [hrun]
          rw [hex, Oper.upon_value]
          refine hk _ _ _ (R_put h1 o.dst ?_)
          simp only [VRel]
          exact ⟨⟨some w.heap.size, 0, len, 1, []⟩, _, len, by simp [phiSet], rfl, p5, .inr ⟨w.heap.size, rfl, by simp, Nat.le_refl _, by simp⟩⟩
      · cases hE
    · cases hE
  · exact h1.elim

/-! ### make -/

def zD : V → Option D
  | .d x => if x.flat then some x else none
  | .nils s => some (.sl s [])
  | _ => none
def zDs : List V → Option (List D)
  | [] => some []
  | v :: vs => match zD v, zDs vs with | some d, some ds => some (d :: ds) | _, _ => none

theorem zDs_rel {φ : Phi} {T : Nat → Prop} {h h' : Array Obj} {bl : Bool} : ∀ (vs : List V) (ds : List D) (us : List Value), zDs vs = some ds → VRels φ T h vs us → reps h' bl ds us []
  | [], ds, us, e, r => by
    simp only [zDs, Option.some.injEq] at e; subst e
    simp only [VRels] at r; subst r
    simp [reps]
  | v :: vs, ds, us, e, r => by
    simp only [VRels] at r
    obtain ⟨u, us', rfl, r1, r2⟩ := r
    simp only [zDs] at e
    split at e
    · rename_i d ds' e1 e2
      cases e
      simp only [reps]
      refine ⟨u, us', [], [], rfl, rfl, ?_, zDs_rel vs ds' us' e2 r2⟩
      unfold zD at e1
      split at e1
      · split at e1
        · rename_i x hf
          cases e1
          simp only [VRel] at r1
          obtain ⟨F, r1, _⟩ := r1
          have := rep_flat hf r1; subst this
          exact rep_flat_any hf r1
        · cases e1
      · cases e1
        simp only [VRel] at r1
        subst r1
        exact ⟨none, 0, rfl, by simp, by decide, .inl ⟨rfl, rfl, fun _ => rfl⟩⟩
      · cases e1
    · cases e

theorem rep_many {h : Array Obj} {b sz : Nat} {ds : List D} (hl : ds.length = sz) : ∀ (m f : Nat), (∀ i, i < m → repC h true b (f + i * sz) ds []) → repE h true b f sz (List.replicate m ds) []
  | 0, f, _ => by simp [repE]
  | m + 1, f, r => by
    rw [List.replicate_succ]
    simp only [repE]
    refine ⟨[], [], rfl, hl, by simpa using r 0 (by omega), rep_many hl m (f + sz) fun i hi => ?_⟩
    have := r (i + 1) (by omega)
    rw [Nat.add_mul, Nat.one_mul] at this
    rw [show f + sz + i * sz = f + (i * sz + sz) from by omega]; exact this

def mkE (P : Program) (T : TypeId) (i : Int) (n : Nat) : Option (Prop × Res) :=
  match elI P T with
  | some (e, sz, by_) =>
    match zrI P e with
    | some zs =>
      match zDs zs with
      | some ds => some (ds.length = sz ∧ 0 < sz ∧ 0 ≤ i ∧ (by_ : Int) * i ≤ 281474976710656 ∧ i.toNat ≤ maxLen, ⟨.sl n 0 i.toNat, [.arr sz (List.replicate i.toNat ds) true], []⟩)
      | none => none
    | none => none
  | none => none

theorem ok_makeSlice {T : TypeId} {x : Operand} (ho : o.op = .makeSlice T x x) (h : evg g (σ.ev x) fun v => asI v fun _ i => match mkE P T i n with | some (p, r) => p ∧ K r | none => False) : ∃ r, OpOK P o g σ n r ∧ K r := by
  obtain ⟨va, h1, hx⟩ := evg_rel h
  obtain ⟨k, c, rfl, h1⟩ := asI_inv h1
  simp only [asI] at h1
  split at h1
  · rename_i p r hE
    obtain ⟨hp, hK⟩ := h1
    unfold mkE at hE
    split at hE
    · rename_i e sz by_ hel
      split at hE
      · rename_i zs hzr
        split at hE
        · rename_i ds hds
          simp only [Option.some.injEq, Prod.mk.injEq] at hE
          obtain ⟨rfl, rfl⟩ := hE
          obtain ⟨p1, p2, p3, p4, p5⟩ := hp
          refine ⟨_, ?_, hK⟩
          intro σ' hle hd B w0 Dm φ kp a w hDm hR hg Q1 Q2 hk
          obtain ⟨i, hu, hi, hsz, hby⟩ := elI_some hel
          subst hsz; subst hby
          obtain ⟨i', z, hi', hz1, hz2⟩ := zrI_rel hzr
          rw [hi] at hi'; cases hi'
          have hreps := fun h' : Array Obj => zDs_rel (h' := h') (bl := true) _ _ _ hds (hz2 φ (fun _ => True) #[])
          have hzl : z.cells.size = i.size := by rw [← Array.length_toList, reps_len _ _ _ (hreps #[]), p1]
          have rx := (rel_int (hx _ _ _ _ hg (ev_le hle hR x))).1
          have hmk := run_make (P := P) w T e i z hu hi hz1 k k c c p3 (Int.le_refl _) p4 (by simp only [maxLen] at p5; omega)
          obtain ⟨φ', e1, e2⟩ := new_arr (cs := madeCells z.cells (c.toNat * i.size)) (e := e) (sz := i.size) (xs := List.replicate c.toNat ds) (G := []) hR (n := n) (hd n (Nat.le_refl _) (by simp)) (hDm n (Nat.le_refl _) (by simp))
            (upd := []) (by simp) (by simp) (by simp [size_madeCells])
            (by
              refine rep_many p1 c.toNat 0 fun m hm => reps_repC ds z.cells.toList _ [] (hreps _) fun j u hj => ?_
              have hjl : j < i.size := by
                rw [← hzl]
                rcases Nat.lt_or_ge j z.cells.size with h | h
                · exact h
                · rw [List.getElem?_eq_none (by simpa using h)] at hj; cases hj
              have hlt : m * i.size + j < c.toNat * i.size := by
                have : (m + 1) * i.size ≤ c.toNat * i.size := Nat.mul_le_mul_right _ hm
                rw [Nat.add_mul] at this; omega
              have hmod : (m * i.size + j) % z.cells.size = j := by rw [hzl, Nat.mul_comm, Nat.mul_add_mod, Nat.mod_eq_of_lt hjl]
              have hj' : j < z.cells.size := by rw [hzl]; exact hjl
              unfold cellAt
              simp [madeCells, hlt, hmod]
              rw [Array.getElem?_toList] at hj
              rw [Array.getElem?_eq_getElem hj'] at hj
              rw [getElem!_pos z.cells j hj']
              exact Option.some.inj hj) List.nodup_nil (by simp) (by simpa using p5)
          unfold Oper.wp
          have hex : (execOp a.eval o).run P w = .ok (.value (.slice (some ⟨w.heap.size, 0, none⟩) c.toNat c.toNat)) (w.alloc (.cells (madeCells z.cells (c.toNat * i.size)) e)) := by
            unfold execOp; rw [ho]; simp [rx, hmk]
          rw [hex, Oper.upon_value]
          rw [List.length_replicate] at e2
          exact hk _ _ _ (R_put e1 o.dst (e2 _ _))
        · cases hE
      · cases hE
    · cases hE
  · exact h1.elim

/-! ### min, max, functions -/

theorem ok_min {c : Call} {x y : Operand} {T U : TypeId} (ho : o.op = .call c) (hc : c = { callee := .builtin .min, args := #[x, y], argTypes := #[T, U] })
    (h : evg g (σ.ev x) fun a => evg g (σ.ev y) fun b => asI a fun k i => asI b fun k' j => k = k' ∧ K (rv (dI k (if j < i then j else i)))) : ∃ r, OpOK P o g σ n r ∧ K r := by
  subst hc
  obtain ⟨va, h1, hx⟩ := evg_rel h
  obtain ⟨vb, h2, hy⟩ := evg_rel h1
  obtain ⟨k, i, rfl, h2⟩ := asI_inv h2
  simp only [asI] at h2
  obtain ⟨k', j, rfl, h2⟩ := asI_inv h2
  obtain ⟨rfl, hK⟩ := h2
  refine ⟨_, OpOK_val fun σ' hle B w0 Dm φ kp a w r hg => ⟨.int k (if j < i then j else i), ?_, ?_⟩, hK⟩
  · have rx := rel_int (hx _ _ _ _ hg (ev_le hle r x))
    have ry := rel_int (hy _ _ _ _ hg (ev_le hle r y))
    unfold execOp; rw [ho]
    simp [resolve, invoke, builtin, Builtin.min_, Builtin.min2, rx.1, ry.1]
  · have rx := rel_int (hx _ _ _ _ hg (ev_le hle r x))
    have ry := rel_int (hy _ _ _ _ hg (ev_le hle r y))
    exact mk_int (by split <;> omega)

theorem ok_max {c : Call} {x y : Operand} {T U : TypeId} (ho : o.op = .call c) (hc : c = { callee := .builtin .max, args := #[x, y], argTypes := #[T, U] })
    (h : evg g (σ.ev x) fun a => evg g (σ.ev y) fun b => asI a fun k i => asI b fun k' j => k = k' ∧ K (rv (dI k (if j > i then j else i)))) : ∃ r, OpOK P o g σ n r ∧ K r := by
  subst hc
  obtain ⟨va, h1, hx⟩ := evg_rel h
  obtain ⟨vb, h2, hy⟩ := evg_rel h1
  obtain ⟨k, i, rfl, h2⟩ := asI_inv h2
  simp only [asI] at h2
  obtain ⟨k', j, rfl, h2⟩ := asI_inv h2
  obtain ⟨rfl, hK⟩ := h2
  refine ⟨_, OpOK_val fun σ' hle B w0 Dm φ kp a w r hg => ⟨.int k (if j > i then j else i), ?_, ?_⟩, hK⟩
  · have rx := rel_int (hx _ _ _ _ hg (ev_le hle r x))
    have ry := rel_int (hy _ _ _ _ hg (ev_le hle r y))
    unfold execOp; rw [ho]
    simp [resolve, invoke, builtin, Builtin.max_, Builtin.max2, rx.1, ry.1]
  · have rx := rel_int (hx _ _ _ _ hg (ev_le hle r x))
    have ry := rel_int (hy _ _ _ _ hg (ev_le hle r y))
    exact mk_int (by split <;> omega)

def evs (g : Bool) (σ : St) : List Operand → (List V → Prop) → Prop
  | [], K => K []
  | x :: r, K => evg g (σ.ev x) fun v => evs g σ r fun vs => K (v :: vs)

theorem evs_inv : ∀ (xs : List Operand) (K : List V → Prop), evs g σ xs K → ∃ vs, K vs ∧ ∀ {σ' : St} {B : Nat → Prop} {w0 : World} {Dm : Nat → Prop} {φ : Phi} {kp : List (V × Value)} {a : Act} {w : World}, σ.le σ' → R B w0 Dm φ σ' kp a w → g = true →
    VRels φ (NotTop φ σ'.heap) w.heap vs (xs.map a.eval)
  | [], K, h => ⟨[], h, fun _ _ _ => by simp [VRels]⟩
  | x :: xs, K, h => by
    simp only [evs] at h
    obtain ⟨v, h1, hx⟩ := evg_rel h
    obtain ⟨vs, hK, hr⟩ := evs_inv xs _ h1
    refine ⟨v :: vs, hK, fun hle r hg => ?_⟩
    simp only [List.map_cons, VRels]
    exact ⟨_, _, rfl, hx _ _ _ _ hg (ev_le hle r x), hr hle r hg⟩

theorem ok_makeFunc {f : FuncId} {caps : Array Operand} (ho : o.op = .makeFunc (.func f) #[] caps) (h : evs g σ caps.toList fun vs => K (rv (.fn f vs))) : ∃ r, OpOK P o g σ n r ∧ K r := by
  obtain ⟨vs, hK, hx⟩ := evs_inv _ _ h
  refine ⟨_, OpOK_val fun σ' hle B w0 Dm φ kp a w r hg => ?_, hK⟩
  refine ⟨.func (.func f) #[] (caps.map a.eval), by unfold execOp; rw [ho]; simp [Instr.makeFunc], ?_⟩
  simp only [VRel]
  exact ⟨_, rfl, by simpa using hx hle r hg⟩

end Gv
