/-
  Moving rows within an array of the call's own: append in place, clear.
-/
import Derived.Test.YtiaaipckeinbiaaGvMake
namespace Gv
open Go

section
variable {B : Nat → Prop} {w0 : World} {Dm : Nat → Prop} {φ : Phi} {kp : List (V × Value)} {a : Act} {w : World} {σ : St}

/-- Some rows are written anew. -/
theorem R_rows (r : R B w0 Dm φ σ kp a w) {id : Nat} {β : Blk} {b s k : Nat} {xs ys : List (List D)} (e0 : φ id = some β) (h0 : hget σ.heap id = .arr s xs true) (hx : flatE xs = true) (hb : β.blk = some b) (hk : k + ys.length ≤ xs.length) {us : List Value} (hul : us.length = ys.length * s)
    (hrep : ∀ h' : Array Obj, w.heap.size ≤ h'.size → (∀ j, j < us.length → cellAt h' b (β.off + k * s + j) = us[j]?) → repE h' true b (β.off + k * s) s ys []) :
    ∃ cs te, w.heap[b]? = some (.cells cs te (0, 0)) ∧ β.off + k * s + us.length ≤ cs.size ∧
      R B w0 Dm (phiSet φ id { β with nest := [] }) ⟨σ.tmps, hput σ.heap id (.arr s (xs.take k ++ (ys ++ xs.drop (k + ys.length))) true)⟩ kp a (w.setRow b (splice cs.toList (β.off + k * s) us).toArray) := by
  rcases r.hp id with hd | ⟨β', e1, hr⟩
  · rw [h0] at hd; cases hd
  · rw [e0] at e1; cases e1
    rw [h0] at hr; simp only [HRel] at hr
    obtain ⟨hs, hr⟩ := hr
    rcases hr with hr | ⟨b', G, r1, r2, r3, r4, r5, _⟩
    · rw [hb] at hr; cases hr.1
    · rw [hb] at r1; cases r1
      have hG := repE_flat _ _ _ _ hx r4
      subst hG
      obtain ⟨cs, te, q1, q2⟩ := r3
      have hmul : (k + ys.length) * s ≤ β.cap * s := Nat.mul_le_mul_right _ (by omega)
      have hadd : (k + ys.length) * s = k * s + ys.length * s := Nat.add_mul _ _ _
      have hf : β.off + k * s + us.length ≤ cs.size := by rw [hul]; omega
      have hcell := cellAt_row (f := β.off + k * s) q1 hf
      have hsz : (w.setRow b (splice cs.toList (β.off + k * s) us).toArray).heap.size = w.heap.size := setRow_size _ _ _
      have hB : B b := r.o3 id b ⟨β, e0, .inl ⟨by rw [h0]; rfl, hb⟩⟩
      have h1 := r4
      have h2 := r4
      rw [← List.take_append_drop k xs] at h1
      rw [← List.take_append_drop (k + ys.length) xs] at h2
      obtain ⟨Ga, Gb, ga, a1, a2⟩ := (repE_append _ _ _ _).1 h1
      obtain ⟨Gc, Gd, gc, c1, c2⟩ := (repE_append _ _ _ _).1 h2
      obtain ⟨rfl, rfl⟩ := List.append_eq_nil_iff.1 ga.symm
      obtain ⟨rfl, rfl⟩ := List.append_eq_nil_iff.1 gc.symm
      have htk : (xs.take k).length = k := by simp; omega
      have htk2 : (xs.take (k + ys.length)).length = k + ys.length := by simp; omega
      rw [htk2, hadd] at c2
      refine ⟨cs, te, q1, hf, ?_⟩
      have := R_set r (n := id) (β := { β with nest := [] }) (β0 := β) (upd := []) (by simp) (by simp) e0 h0 ⟨rfl, rfl, rfl, rfl⟩ (by simp) (sz := s) (xs := xs.take k ++ (ys ++ xs.drop (k + ys.length))) hs (Nat.le_of_eq hsz.symm) (below_row r.bel hB q1 (splice_size hf))
        (fun c _ hne _ => setRow_other w b c _ fun hcb => hne (hcb ▸ hb))
        (.inr ⟨b, hb, by simp; omega, ⟨_, te, setRow_heap w b cs _ te (0, 0) q1, by
          have := splice_len (l := cs.toList) (off := β.off + k * s) (vs := us) (by simpa using hf)
          simp only [List.size_toArray, this, Array.length_toList]; exact q2⟩, by
          refine (repE_append _ _ _ _).2 ⟨[], [], rfl, ?_, (repE_append _ _ _ _).2 ⟨[], [], rfl, ?_, ?_⟩⟩
          · refine repE_copy _ _ _ _ _ (Nat.le_of_eq hsz.symm) (by simp) (fun j hj => ?_) a1
            rw [htk] at hj
            show cellAt _ b (β.off + j) = _
            rw [hcell, if_neg (by omega)]
          · rw [htk]
            refine hrep _ (Nat.le_of_eq hsz.symm) fun j hj => ?_
            rw [hcell, if_pos (by omega), show β.off + k * s + j - (β.off + k * s) = j from by omega]
          · rw [htk]
            show repE _ true b (β.off + k * s + ys.length * s) s _ []
            refine repE_copy _ _ _ _ _ (Nat.le_of_eq hsz.symm) (by simp) (fun j hj => ?_) c2
            rw [hcell, if_neg (by rw [hul]; omega), Nat.add_assoc β.off]⟩)
        (by simp) List.nodup_nil (by simp)
      exact this
end

variable {P : Program} {o : Oper} {g : Bool} {σ : St} {n : Nat} {K : Res → Prop}

/-- append within one array: what lies from j on moves to i. -/
def inE (P : Program) (hs : List H) (T : TypeId) (x y : V) : Option (Prop × Res) :=
  match x, y with
  | .sl id 0 i, .sl id' j l =>
    if id = id' then
      match elI P T, hget hs id with
      | some (_, sz, _), .arr s xs true => if s = sz then some (flatE xs = true ∧ i + l ≤ xs.length ∧ j + l ≤ xs.length ∧ 0 < xs.length, ⟨.sl id 0 (i + l), [], [(id, .arr s (xs.take i ++ ((xs.drop j).take l ++ xs.drop (i + l))) true)]⟩) else none
      | _, _ => none
    else none
  | _, _ => none

theorem ok_inplace {c : Call} {x y : Operand} {T : TypeId} (ho : o.op = .call c) (hc : c = { callee := .builtin .append, args := #[x, y], argTypes := #[T, T] })
    (h : evg g (σ.ev x) fun a => evg g (σ.ev y) fun b => match inE P σ.heap T a b with | some (p, r) => p ∧ K r | none => False) : ∃ r, OpOK P o g σ n r ∧ K r := by
  subst hc
  obtain ⟨va, h1, hx⟩ := evg_rel h
  obtain ⟨vb, h2, hy⟩ := evg_rel h1
  clear h h1
  split at h2
  · rename_i p r hE
    obtain ⟨hp, hK⟩ := h2
    refine ⟨r, ?_, hK⟩
    intro σ' hle hd B w0 Dm φ kp a w hDm hR hg Q1 Q2 hk
    have rx := hx _ _ _ _ hg (ev_le hle hR x)
    have ry := hy _ _ _ _ hg (ev_le hle hR y)
    unfold inE at hE
    split at hE
    · rename_i id i id' j l
      split at hE
      · rename_i hid; subst hid
        split at hE
        · rename_i e sz by_ s xs hel hx0
          split at hE
          · rename_i hs; subst hs
            simp only [Option.some.injEq, Prod.mk.injEq] at hE
            obtain ⟨rfl, rfl⟩ := hE
            obtain ⟨p1, p2, p3, p4⟩ := hp
            obtain ⟨inf, ht, hi, hsz, hby⟩ := elI_some hel
            have hx' : hget σ'.heap id = .arr s xs true := by
              rcases hle.2 id with hh | hh
              · rw [hx0] at hh; cases hh
              · rw [hh, hx0]
            obtain ⟨β, ad, cc, q1, q2, q3, q4, q5⟩ := rel_sl rx
            obtain ⟨β', ad', cc', t1, t2, t3, t4, t5⟩ := rel_sl ry
            rw [q1] at t1; cases t1
            rcases hR.hp id with hd' | ⟨β', e1, hr⟩
            · rw [hx'] at hd'; cases hd'
            · rw [q1] at e1; cases e1
              rw [hx'] at hr; simp only [HRel] at hr
              obtain ⟨hr1, hr⟩ := hr
              have hne : xs ≠ [] := fun h => by rw [h] at p4; simp at p4
              rcases hr with hr | ⟨b, G, r1, r2, r3, r4, r5, r6⟩
              · exact absurd hr.2.1 hne
              · have hG := repE_flat _ _ _ _ p1 r4
                subst hG
                obtain ⟨b2, u1, u2, u3⟩ : ∃ b, β.blk = some b ∧ ad = some ⟨b, β.off + 0 * β.sz, none⟩ ∧ 0 + cc = β.cap := by
                  rcases q5 with q5 | q5
                  · omega
                  · exact q5
                rw [r1] at u1; cases u1
                rw [Nat.zero_mul, Nat.add_zero] at u2
                subst u2
                have hyl : ((xs.drop j).take l).length = l := by simp; omega
                have hsub : repE w.heap true b (β.off + j * s) s ((xs.drop j).take l) [] := by
                  have h1 := r4
                  rw [← List.take_append_drop j xs] at h1
                  obtain ⟨Ga, Gb, ga, _, a2⟩ := (repE_append _ _ _ _).1 h1
                  obtain ⟨rfl, rfl⟩ := List.append_eq_nil_iff.1 ga.symm
                  rw [← List.take_append_drop l (xs.drop j)] at a2
                  obtain ⟨Ga, Gb, ga, a3, _⟩ := (repE_append _ _ _ _).1 a2
                  obtain ⟨rfl, rfl⟩ := List.append_eq_nil_iff.1 ga.symm
                  have : (xs.take j).length = j := by simp; omega
                  rw [this] at a3; exact a3
                have hsrc : (xs.drop j).take l = [] ∨ ∃ b f G, ad' = some ⟨b, f, none⟩ ∧ repE w.heap true b f s ((xs.drop j).take l) G := by
                  rcases t5 with t5 | ⟨b3, v1, v2, _⟩
                  · exact .inl (List.eq_nil_of_length_eq_zero (by rw [hyl]; exact t5.2.1))
                  · rw [r1] at v1; cases v1
                    exact .inr ⟨b, _, [], v2, by rw [hr1]; exact hsub⟩
                obtain ⟨news, n1, n2, n3, n4⟩ := src_cells (P := P) (c := cc') hsrc
                rw [hyl] at n2
                have hrows := R_rows hR (k := i) (ys := (xs.drop j).take l) (us := news) q1 hx' p1 r1 (by rw [hyl]; exact p2) n1 (fun h' hs' hc => by
                  by_cases hl : (xs.drop j).take l = []
                  · rw [hl]; simp [repE]
                  · obtain ⟨b3, f3, v1, v2⟩ := n4 hl
                    rcases t5 with t5 | ⟨b4, v3, v4, _⟩
                    · exact absurd (List.eq_nil_of_length_eq_zero (by rw [hyl]; exact t5.2.1)) hl
                    · rw [r1] at v3; cases v3
                      rw [v4] at v1; simp only [Option.some.injEq, Addr.mk.injEq] at v1
                      obtain ⟨rfl, rfl, _⟩ := v1
                      refine repE_copy _ _ _ _ _ hs' (by simp) (fun m hm => ?_) hsub
                      have hm' : m < news.length := by rw [n1]; exact hm
                      rw [hc m hm', ← hr1, v2 m news[m] (List.getElem?_eq_getElem hm'), List.getElem?_eq_getElem hm'])
                rw [hyl] at hrows
                obtain ⟨cs, te, z1, z2, z3⟩ := hrows
                have hroom : i + l ≤ cc := by omega
                have hrun := run_append_room' (P := P) (w := w) T o.type e inf ht hi b β.off i cc cs te z1 l (.slice ad' l cc') news rfl (by rw [hsz]; exact n2 w rfl) n3 hroom (by rw [hsz]; exact z2)
                rw [hsz] at hrun
                unfold Oper.wp
                have hex : (execOp a.eval o).run P w = .ok (.value (.slice (some ⟨b, β.off, none⟩) (i + l) cc)) (w.setRow b (splice cs.toList (β.off + i * s) news).toArray) := by
                  unfold execOp; rw [ho]
                  simp [resolve, invoke, builtin, q2, t2, hrun]
                rw [hex, Oper.upon_value]
                have := R_put z3 o.dst (v := .sl id 0 (i + l)) (u := .slice (some ⟨b, β.off, none⟩) (i + l) cc) (by
                  simp only [VRel]
                  exact ⟨{ β with nest := [] }, _, cc, by simp [phiSet], rfl, q4, .inr ⟨b, r1, by simp, hroom, u3⟩⟩)
                exact hk _ _ _ (R_dm this fun i h => .inl h)
          · cases hE
        · cases hE
      · cases hE
    · cases hE
  · exact h2.elim

def clrE (P : Program) (hs : List H) (T : TypeId) (x : V) : Option (Prop × Res) :=
  match x with
  | .sl id off len =>
    match elI P T, hget hs id with
    | some (e, sz, _), .arr s xs true =>
      match zrI P e with
      | some zs =>
        match zDs zs with
        | some ds => if s = sz then some (flatE xs = true ∧ off + len ≤ xs.length ∧ 0 < len ∧ ds.length = sz, ⟨.junk, [], [(id, .arr s (xs.take off ++ (List.replicate len ds ++ xs.drop (off + len))) true)]⟩) else none
        | none => none
      | none => none
    | _, _ => none
  | _ => none

theorem ok_clear {c : Call} {x : Operand} {T : TypeId} (ho : o.op = .call c) (hc : c = { callee := .builtin .clear, args := #[x], argTypes := #[T] })
    (h : evg g (σ.ev x) fun a => match clrE P σ.heap T a with | some (p, r) => p ∧ K r | none => False) : ∃ r, OpOK P o g σ n r ∧ K r := by
  subst hc
  obtain ⟨va, h2, hx⟩ := evg_rel h
  clear h
  split at h2
  · rename_i p r hE
    obtain ⟨hp, hK⟩ := h2
    refine ⟨r, ?_, hK⟩
    intro σ' hle hd B w0 Dm φ kp a w hDm hR hg Q1 Q2 hk
    have rx := hx _ _ _ _ hg (ev_le hle hR x)
    unfold clrE at hE
    split at hE
    · rename_i id off len
      split at hE
      · rename_i e sz by_ s xs hel hx0
        split at hE
        · rename_i zs hzr
          split at hE
          · rename_i ds hds
            split at hE
            · rename_i hs; subst hs
              simp only [Option.some.injEq, Prod.mk.injEq] at hE
              obtain ⟨rfl, rfl⟩ := hE
              obtain ⟨p1, p2, p3, p4⟩ := hp
              obtain ⟨inf, ht, hi, hsz, hby⟩ := elI_some hel
              obtain ⟨i', z, hi', hz1, hz2⟩ := zrI_rel hzr
              rw [hi] at hi'; cases hi'
              have hreps := fun h' : Array Obj => zDs_rel (h' := h') (bl := true) _ _ _ hds (hz2 φ (fun _ => True) #[])
              have hzl : z.cells.size = s := by rw [← Array.length_toList, reps_len _ _ _ (hreps #[]), p4]
              have hx' : hget σ'.heap id = .arr s xs true := by
                rcases hle.2 id with hh | hh
                · rw [hx0] at hh; cases hh
                · rw [hh, hx0]
              obtain ⟨β, ad, cc, q1, q2, q3, q4, q5⟩ := rel_sl rx
              obtain ⟨b, u1, u2, u3⟩ : ∃ b, β.blk = some b ∧ ad = some ⟨b, β.off + off * β.sz, none⟩ ∧ off + cc = β.cap := by
                rcases q5 with q5 | q5
                · omega
                · exact q5
              have hr1 : β.sz = s := by
                rcases hR.hp id with hd' | ⟨β', e1, hr⟩
                · rw [hx'] at hd'; cases hd'
                · rw [q1] at e1; cases e1
                  rw [hx'] at hr; simp only [HRel] at hr
                  exact hr.1
              rw [hr1] at u2
              subst u2
              have hrl : (List.replicate len ds).length = len := List.length_replicate
              have hnl : (Builtin.zeroCells z.cells len).toList.length = len * s := by rw [Array.length_toList, size_zeroCells, hzl]
              have hget : ∀ m j, m < len → j < s → (Builtin.zeroCells z.cells len).toList[m * s + j]? = z.cells[j]? := by
                intro m j hm hj
                have hlt : m * s + j < len * s := by
                  have : (m + 1) * s ≤ len * s := Nat.mul_le_mul_right _ hm
                  rw [Nat.add_mul] at this; omega
                have hmod : (m * s + j) % s = j := by rw [Nat.mul_comm, Nat.mul_add_mod, Nat.mod_eq_of_lt hj]
                have hj' : j < z.cells.size := by rw [hzl]; exact hj
                have hlt' : m * s + j < len * z.cells.size := by rw [hzl]; exact hlt
                unfold Builtin.zeroCells
                rw [Array.getElem?_toList, Array.getElem?_map, Array.getElem?_range, if_pos hlt']
                simp only [Option.map_some, hzl, hmod]
                rw [getElem!_pos z.cells j hj', Array.getElem?_eq_getElem hj']
              have hrows := R_rows hR (k := off) (ys := List.replicate len ds) (us := (Builtin.zeroCells z.cells len).toList) q1 hx' p1 u1 (by rw [hrl]; exact p2) (by rw [hrl]; exact hnl) (fun h' hs' hc => by
                refine rep_many p4 len _ fun m hm => reps_repC ds z.cells.toList _ [] (hreps _) fun j u hj => ?_
                have hjl : j < s := by
                  rw [← hzl]
                  rcases Nat.lt_or_ge j z.cells.size with h | h
                  · exact h
                  · rw [List.getElem?_eq_none (by simpa using h)] at hj; cases hj
                have hlt : m * s + j < (Builtin.zeroCells z.cells len).toList.length := by
                  rw [hnl]
                  have : (m + 1) * s ≤ len * s := Nat.mul_le_mul_right _ hm
                  rw [Nat.add_mul] at this; omega
                have := hc _ hlt
                rw [hget m j hm hjl] at this
                rw [Nat.add_assoc (β.off + off * s), this, ← Array.getElem?_toList]; exact hj)
              rw [hrl] at hrows
              obtain ⟨cs, te, z1, z2, z3⟩ := hrows
              have hone : ∀ v ∈ (Builtin.zeroCells z.cells len).toList, v.oneCell' = true := by
                intro v hv
                obtain ⟨t, ht', rfl⟩ := List.getElem_of_mem hv
                have hs0 : 0 < s := by
                  rcases Nat.eq_zero_or_pos s with h | h
                  · rw [hnl, h, Nat.mul_zero] at ht'; omega
                  · exact h
                have h1 : t = (t / s) * s + t % s := by rw [Nat.mul_comm]; exact (Nat.div_add_mod t s).symm
                have h2 : t / s < len := Nat.div_lt_of_lt_mul (by rw [Nat.mul_comm, ← hnl]; exact ht')
                have h3 := hget (t / s) (t % s) h2 (Nat.mod_lt _ hs0)
                rw [← h1, List.getElem?_eq_getElem ht'] at h3
                have hj' : t % s < z.cells.toList.length := by rw [Array.length_toList, hzl]; exact Nat.mod_lt _ hs0
                rw [← Array.getElem?_toList, List.getElem?_eq_getElem hj'] at h3
                rw [Option.some.inj h3]
                have hrc : repC #[.cells z.cells 0 (0, 0)] true 0 0 ds [] := reps_repC ds z.cells.toList 0 [] (hreps _) fun j u hj => by
                  simp [cellAt]; rw [Array.getElem?_toList] at hj; exact hj
                obtain ⟨us, k1, k2⟩ := repC_vals ds 0 [] hrc
                have hlu : t % s < us.length := by rw [k1, p4]; exact Nat.mod_lt _ hs0
                have := k2.1 (t % s) us[t % s] (List.getElem?_eq_getElem hlu)
                obtain ⟨Gj, _, k3⟩ := k2.2 (t % s) ds[t % s] us[t % s] (List.getElem?_eq_getElem (by rw [p4]; exact Nat.mod_lt _ hs0)) (List.getElem?_eq_getElem hlu)
                have hz : z.cells.toList[t % s] = us[t % s] := by
                  have h4 := this
                  simp [cellAt] at h4
                  have h5 : z.cells.toList[t % s]? = some us[t % s] := by rw [Array.getElem?_toList]; exact h4
                  rw [List.getElem?_eq_getElem hj'] at h5
                  exact Option.some.inj h5
                rw [hz]
                exact oneCell_rep k3
              have hst := run_storeCells_at P b (β.off + off * s) te (Builtin.zeroCells z.cells len).toList 0 cs w z1 (by simpa using z2) hone
              simp only [Nat.add_zero, List.append_assoc] at hst
              unfold Oper.wp
              have hex : (execOp a.eval o).run P w = .ok (.value (.tuple #[])) (w.setRow b (splice cs.toList (β.off + off * s) (Builtin.zeroCells z.cells len).toList).toArray) := by
                unfold execOp; rw [ho]
                obtain ⟨m, rfl⟩ : ∃ m, len = m + 1 := ⟨len - 1, by omega⟩
                simp [resolve, invoke, builtin, q2, Builtin.clear_, run_underlying ht, zeroValue, typeInfo, hi, hz1, hst, splice]
              rw [hex, Oper.upon_value]
              have := R_put z3 o.dst (v := .junk) (u := .tuple #[]) (by simp only [VRel])
              exact hk _ _ _ (R_dm this fun i h => .inl h)
            · cases hE
          · cases hE
        · cases hE
      · cases hE
    · cases hE
  · exact h2.elim

/-- append: within one array; or onto an array of the call's own; or onto nil. -/
def apI (P : Program) (hs : List H) (T : TypeId) (x y : V) (n : Nat) : Option (Prop × Res) :=
  match inE P hs T x y with
  | some r => some r
  | none => apE P hs T x y n

theorem evg_at {g : Bool} {v : V} {K : V → Prop} (h : evg g v K) : ∃ v', K v' ∧ ∀ K' : V → Prop, K' v' → evg g v K' := by
  unfold evg at h ⊢
  split at h
  · exact ⟨_, h.2, fun K' h' => ⟨h.1, h'⟩⟩
  · exact ⟨_, h, fun K' h' => h'⟩

theorem ok_append2 {c : Call} {x y : Operand} {T : TypeId} (ho : o.op = .call c) (hc : c = { callee := .builtin .append, args := #[x, y], argTypes := #[T, T] })
    (h : evg g (σ.ev x) fun a => evg g (σ.ev y) fun b => match apI P σ.heap T a b n with | some (p, r) => p ∧ K r | none => False) : ∃ r, OpOK P o g σ n r ∧ K r := by
  obtain ⟨a, h1, ha⟩ := evg_at h
  obtain ⟨b, h2, hb⟩ := evg_at h1
  cases hi : inE P σ.heap T a b with
  | none =>
    refine ok_append ho hc (ha _ (hb _ ?_))
    unfold apI at h2
    rw [hi] at h2
    exact h2
  | some r =>
    refine ok_inplace ho hc (ha _ (hb _ ?_))
    unfold apI at h2
    rw [hi] at h2
    rw [hi]
    exact h2

end Gv
