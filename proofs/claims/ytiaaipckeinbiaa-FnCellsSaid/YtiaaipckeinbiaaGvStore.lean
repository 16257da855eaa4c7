/-
  A store into a variable, or into an element of an owned array.
-/
import Derived.Test.YtiaaipckeinbiaaGvHeapOps
namespace Gv
open Go

variable {P : Program} {o : Oper} {g : Bool} {σ : St} {n : Nat} {K : Res → Prop}

theorem hget_hupd_one (hs : List H) (id : Nat) (x : H) : hupd hs [(id, x)] = hput hs id x := rfl

theorem splice_split {α : Type} (c : List α) (off m : Nat) : c = c.take off ++ ((c.drop off).take m ++ c.drop (off + m)) := by
  have h1 := (List.take_append_drop off c).symm
  have h2 := (List.take_append_drop m (c.drop off)).symm
  rw [List.drop_drop] at h2
  rw [← h2]; exact h1

/-- An element with some of its cells written anew. -/
theorem repC_splice {h h' : Array Obj} {b f off : Nat} {c ds : List D} {G Gd : List Nat} (r : repC h true b f c G) (hl : off + ds.length ≤ c.length) (hs : h.size ≤ h'.size) (hG : ∀ g ∈ G, h'[g]? = h[g]?)
    (hout : ∀ j, j < off ∨ off + ds.length ≤ j → cellAt h' b (f + j) = cellAt h b (f + j)) (rd : repC h' true b (f + off) ds Gd) :
    ∃ Ga Gm Gb, G = Ga ++ (Gm ++ Gb) ∧ repC h' true b f (splice c off ds) (Ga ++ (Gd ++ Gb)) := by
  rw [splice_split c off ds.length] at r
  obtain ⟨Ga, G2, rfl, r1, r2⟩ := (repC_append _ _ _ _).1 r
  obtain ⟨Gm, Gb, rfl, r3, r4⟩ := (repC_append _ _ _ _).1 r2
  have l1 : (c.take off).length = off := by simp; omega
  have l2 : ((c.drop off).take ds.length).length = ds.length := by simp; omega
  rw [l1] at r3 r4
  rw [l2] at r4
  refine ⟨Ga, Gm, Gb, rfl, (repC_append _ _ _ _).2 ⟨Ga, Gd ++ Gb, rfl, ?_, (repC_append _ _ _ _).2 ⟨Gd, Gb, rfl, by rw [l1]; exact rd, ?_⟩⟩⟩
  · exact repC_copy _ f f Ga hs (fun x hx => hG x (by simp [hx])) (fun j hj => hout j (.inl (by omega))) r1
  · rw [l1]
    refine repC_copy _ _ _ Gb hs (fun x hx => hG x (by simp [hx])) (fun j hj => ?_) r4
    rw [Nat.add_assoc, Nat.add_assoc]
    exact hout _ (.inr (by omega))

theorem take_set_drop {α : Type} (xs : List α) (i : Nat) (c : α) (h : i < xs.length) : xs.set i c = xs.take i ++ (c :: xs.drop (i + 1)) := by
  rw [List.set_eq_take_append_cons_drop, if_pos h]

theorem toD_ids {hs : List H} {v : V} {d : D} {ids : List Nat} (h : toD hs v = some (d, ids)) : ∀ i ∈ ids, ∃ s ys, hget hs i = .arr s ys true := by
  unfold toD at h
  split at h
  · split at h
    · simp only [Option.some.injEq, Prod.mk.injEq] at h; obtain ⟨_, rfl⟩ := h; simp
    · cases h
  · simp only [Option.some.injEq, Prod.mk.injEq] at h; obtain ⟨_, rfl⟩ := h; simp
  · rename_i id off len
    split at h
    · rename_i sz xs hx
      split at h
      · simp only [Option.some.injEq, Prod.mk.injEq] at h; obtain ⟨_, rfl⟩ := h
        intro i hi; simp only [List.mem_singleton] at hi; subst hi; exact ⟨_, _, hx⟩
      · cases h
    · cases h
  · cases h

theorem toDs_ids {hs : List H} : ∀ (vs : List V) (ds : List D) (ids : List Nat), toDs hs vs = some (ds, ids) → ∀ i ∈ ids, ∃ s ys, hget hs i = .arr s ys true
  | [], ds, ids, h => by simp only [toDs, Option.some.injEq, Prod.mk.injEq] at h; obtain ⟨_, rfl⟩ := h; simp
  | v :: vs, ds, ids, h => by
    simp only [toDs] at h
    split at h
    · rename_i d i ds' is e1 e2
      simp only [Option.some.injEq, Prod.mk.injEq] at h
      obtain ⟨_, rfl⟩ := h
      intro j hj
      rcases List.mem_append.1 hj with hj | hj
      · exact toD_ids e1 j hj
      · exact toDs_ids vs ds' is e2 j hj
    · cases h

theorem toD_le {σ σ' : St} (hle : σ.le σ') {v : V} {r : D × List Nat} (h : toD σ.heap v = some r) : toD σ'.heap v = some r := by
  cases v <;> simp only [toD] at h ⊢ <;> try exact h
  rename_i id off len
  split at h
  · rename_i sz xs hx
    rcases hle.2 id with hh | hh
    · rw [hx] at hh; cases hh
    · rw [hh, hx]; exact h
  · cases h

theorem toDs_le {σ σ' : St} (hle : σ.le σ') : ∀ (vs : List V) (r : List D × List Nat), toDs σ.heap vs = some r → toDs σ'.heap vs = some r
  | [], _, h => h
  | v :: vs, r, h => by
    simp only [toDs] at h ⊢
    split at h
    · rename_i d i ds' is e1 e2
      rw [toD_le hle e1, toDs_le hle vs _ e2]; exact h
    · cases h

theorem cellAt_row {w : World} {b f : Nat} {cs : Array Value} {e : TypeId} (hb : w.heap[b]? = some (.cells cs e (0, 0))) {us : List Value} (hl : f + us.length ≤ cs.size) (j : Nat) :
    cellAt (w.setRow b (splice cs.toList f us).toArray).heap b j = if f ≤ j ∧ j < f + us.length then us[j - f]? else cellAt w.heap b j := by
  have hnew := setRow_heap w b cs (splice cs.toList f us).toArray e (0, 0) hb
  unfold cellAt
  rw [hnew, hb]
  simp only [List.getElem?_toArray]
  unfold splice
  have htl : (cs.toList.take f).length = f := by simp; omega
  by_cases h1 : j < f
  · rw [List.getElem?_append_left (by omega), if_neg (by omega), List.getElem?_take, if_pos h1, Array.getElem?_toList]
  · rw [List.getElem?_append_right (by omega), htl]
    by_cases h2 : j < f + us.length
    · rw [if_pos ⟨by omega, h2⟩, List.getElem?_append_left (by omega)]
    · rw [if_neg (by omega), List.getElem?_append_right (by omega), List.getElem?_drop, Array.getElem?_toList]
      congr 1; omega

theorem splice_get {l : List Value} {off : Nat} {vs : List Value} (h : off + vs.length ≤ l.length) (j : Nat) : (splice l off vs)[j]? = if off ≤ j ∧ j < off + vs.length then vs[j - off]? else l[j]? := by
  unfold splice
  have htl : (l.take off).length = off := by simp; omega
  by_cases h1 : j < off
  · rw [List.getElem?_append_left (by omega), if_neg (by omega), List.getElem?_take, if_pos h1]
  · rw [List.getElem?_append_right (by omega), htl]
    by_cases h2 : j < off + vs.length
    · rw [if_pos ⟨by omega, h2⟩, List.getElem?_append_left (by omega)]
    · rw [if_neg (by omega), List.getElem?_append_right (by omega), List.getElem?_drop]
      congr 1; omega

theorem splice_size {cs : Array Value} {f : Nat} {us : List Value} (h : f + us.length ≤ cs.size) : cs.size ≤ (splice cs.toList f us).toArray.size := by
  have := splice_len (l := cs.toList) (off := f) (vs := us) (by simpa using h)
  simp only [List.size_toArray, this, Array.length_toList]; exact Nat.le_refl _

theorem ok_store {T : TypeId} {p x : Operand} (ho : o.op = .store T p x)
    (h : evg g (σ.ev p) fun q => evg g (σ.ev x) fun v => match storeE P σ.heap T q (fixT P T v) with | some (c, upd) => c ∧ K ⟨.junk, [], upd⟩ | none => False) : ∃ r, OpOK P o g σ n r ∧ K r := by
  obtain ⟨q, h1, hp⟩ := evg_rel h
  obtain ⟨v, h2, hx⟩ := evg_rel h1
  clear h h1
  split at h2
  · rename_i c upd hE
    obtain ⟨hc, hK⟩ := h2
    refine ⟨_, ?_, hK⟩
    intro σ' hle _ B w0 Dm φ kp a w _ hR hg K' Q hK'
    have rp := hp _ _ _ _ hg (ev_le hle hR p)
    have rx : VRel φ (NotTop φ σ'.heap) w.heap (fixT P T v) (a.eval x) := fixT_rel (hx _ _ _ _ hg (ev_le hle hR x))
    generalize fixT P T v = v' at hE rx
    clear hp hx
    have fin : ∀ (w' : World) (φ' : Phi), (storeVar T (match a.eval p with | .pointer (some ad) => ad | _ => ⟨0, 0, none⟩) (a.eval x)).run P w = .ok () w' → (∃ ad, a.eval p = .pointer (some ad)) →
        R B w0 Dm φ' ⟨σ'.tmps, hupd σ'.heap upd⟩ kp a w' → o.wp P a w K' Q := by
      rintro w' φ' hrun ⟨ad, had⟩ hR'
      have hex : (execOp a.eval o).run P w = .ok .skip w' := by
        rw [had] at hrun
        unfold execOp; rw [ho]
        simp [Instr.storeAt, had, Instr.sureAddr, hrun]
      unfold Oper.wp
      rw [hex, Oper.upon_skip]
      exact hK' undef w' φ' (R_put (R_dm hR' fun i hi => .inl hi) o.dst (v := .junk) (by simp [VRel]))
    unfold storeE at hE
    split at hE
    · rename_i sz ag id idx off hty
      simp only [VRel] at rp
      obtain ⟨β, b, e1, e2, e3⟩ := rp
      have hh := hle.2 id
      split at hE
      · -- a variable
        rename_i cells hcell
        simp only [Option.some.injEq, Prod.mk.injEq] at hE
        obtain ⟨rfl, rfl⟩ := hE
        obtain ⟨c1, c2, c3, c4⟩ := hc
        have hc' : hget σ'.heap id = .box cells := by
          rcases hh with hh | hh
          · rw [hcell] at hh; cases hh
          · rw [hh, hcell]
        rcases hR.hp id with hd | ⟨β', e1', hr⟩
        · rw [hc'] at hd; cases hd
        · rw [e1] at e1'; cases e1'
          rw [hc'] at hr
          obtain ⟨b', cs, e, r1, r2, r3, r4⟩ := hr
          rw [e2] at r1; cases r1
          obtain ⟨k1, k2⟩ := cells_rel c2 rx
          have hlv := VRels_len _ _ k1
          have hlc := VRels_len _ _ r4
          have hsz : (a.eval x).cells.size = sz := by rw [← Array.length_toList, hlv]; exact c3
          have hoff : β.off + idx * β.sz + off = off := by rw [r2, c1]; simp
          rw [hoff] at e3
          have hrun := run_store hty r3 hsz (f := off) (by rw [← Array.length_toList, hlc]; exact c4) k2
          have hnew := setRow_heap w b cs (splice cs.toList off (a.eval x).cells.toList).toArray e (0, 0) r3
          have hB : B b := hR.o3 id b ⟨β, e1, .inl ⟨by rw [hc']; rfl, e2⟩⟩
          refine fin _ φ (by rw [e3]; exact hrun) ⟨_, e3⟩ ?_
          exact R_setbox hR e1 hc' e2 (cells' := splice cells off v'.cells) (by simpa using VRels_splice r4 k1 off) hnew (fun c hcb => setRow_other w b c _ hcb) (setRow_size _ _ _) (below_row hR.bel hB r3 (splice_size (by rw [Array.length_toList, hsz, ← Array.length_toList (xs := cs), hlc]; exact c4)))
      · -- an element
        rename_i s xs hcell
        split at hE
        · rename_i ds ids hds
          simp only [Option.some.injEq, Prod.mk.injEq] at hE
          obtain ⟨rfl, rfl⟩ := hE
          obtain ⟨c1, c2, c3, c4, c5, c6⟩ := hc
          have hc' : hget σ'.heap id = .arr s xs true := by
            rcases hh with hh | hh
            · rw [hcell] at hh; cases hh
            · rw [hh, hcell]
          rcases hR.hp id with hd | ⟨β', e1', hr⟩
          · rw [hc'] at hd; cases hd
          · rw [e1] at e1'; cases e1'
            rw [hc'] at hr
            obtain ⟨hsz, hr⟩ := hr
            rcases hr with hr | ⟨b', G, r1, r2, r3, r4, r5, r6⟩
            · rw [hr.2.1] at c3; simp at c3
            · rw [e2] at r1; cases r1
              have hG := r5 rfl
              obtain ⟨cs, e, q1, q2⟩ := r3
              obtain ⟨k1, k2⟩ := cells_rel c1 rx
              have hlv := VRels_len _ _ k1
              have hus : (a.eval x).cells.size = sz := by rw [← Array.length_toList, hlv]; exact c2
              obtain ⟨Gd, d1, d2, d3, d4⟩ := toDs_rel hR _ _ _ _ (toDs_le hle _ _ hds) c5 k1
              have hdl : ds.length = sz := by rw [← reps_len _ _ _ d1, hlv]; exact c2
              obtain ⟨c, hci⟩ : ∃ c, xs[idx]? = some c := ⟨_, List.getElem?_eq_getElem c3⟩
              simp only [hci, Option.getD_some] at c4 fin
              obtain ⟨G1, Gi, G2, hGs, m1, m2, m3, m4⟩ := repE_at r4 hci
              have hf : β.off + idx * s + off + sz ≤ cs.size := by
                have h3 : (idx + 1) * s ≤ β.cap * s := Nat.mul_le_mul_right _ (by omega)
                rw [Nat.add_mul] at h3; omega
              rw [hsz] at e3
              have hrun := run_store hty q1 hus (f := β.off + idx * s + off) hf k2
              have hul : (a.eval x).cells.toList.length = sz := by rw [Array.length_toList]; exact hus
              have hcell' := cellAt_row q1 (us := (a.eval x).cells.toList) (f := β.off + idx * s + off) (by rw [hul]; exact hf)
              generalize hw' : w.setRow b (splice cs.toList (β.off + idx * s + off) (a.eval x).cells.toList).toArray = w' at hrun hcell'
              have hsize : w'.heap.size = w.heap.size := by rw [← hw']; exact setRow_size _ _ _
              have hother : ∀ c, c ≠ b → w'.heap[c]? = w.heap[c]? := fun c hcb => by rw [← hw']; exact setRow_other w b c _ hcb
              have hnew : w'.heap[b]? = some (.cells (splice cs.toList (β.off + idx * s + off) (a.eval x).cells.toList).toArray e (0, 0)) := by rw [← hw']; exact setRow_heap w b cs _ e (0, 0) q1
              have hob : Owns φ σ'.heap id b := ⟨β, e1, .inl ⟨by rw [hc']; rfl, e2⟩⟩
              have hB : B b := hR.o3 id b hob
              have hogi : ∀ g ∈ G, Owns φ σ'.heap id g := fun g hg => ⟨β, e1, .inr ⟨by rw [hc']; rfl, hG ▸ hg⟩⟩
              have ho2 := hR.o2 id β e1 (by rw [hc']; rfl)
              rw [← hG] at ho2
              have hgb : ∀ g ∈ G, g ≠ b := fun g hg hgb => ho2.2 b e2 (hgb ▸ hg)
              have hdb : ∀ g ∈ Gd, g ≠ b := fun g hg hgb => by
                obtain ⟨i, i1, i2⟩ := d3 g hg
                have := hR.o1 i id b (hgb ▸ i2) hob
                exact c6 (this ▸ i1)
              have hkG : ∀ g ∈ G, w'.heap[g]? = w.heap[g]? := fun g hg => hother g (hgb g hg)
              have hkD : ∀ g ∈ Gd, w'.heap[g]? = w.heap[g]? := fun g hg => hother g (hdb g hg)
              have hrd : repC w'.heap true b (β.off + idx * s + off) ds Gd := reps_repC _ _ _ _ (reps_mono (by omega) _ _ _ hkD d1) fun j u hj => by
                have hjl : j < (a.eval x).cells.toList.length := (List.getElem?_eq_some_iff.1 hj).1
                rw [hcell', if_pos ⟨by omega, by omega⟩]
                rw [show β.off + idx * s + off + j - (β.off + idx * s + off) = j from by omega]; exact hj
              rw [hGs] at hkG
              obtain ⟨Ga, Gm, Gb, hGi, n1⟩ := repC_splice (h' := w'.heap) (off := off) m3 (by rw [hdl]; exact c4) (by omega) (fun g hg => hkG g (by simp [hg])) (fun j hj => by
                rw [hcell', if_neg (by rw [hul, ← hdl]; omega)]) hrd
              have hset : repE w'.heap true b β.off s (xs.set idx (splice c off ds)) (G1 ++ ((Ga ++ (Gd ++ Gb)) ++ G2)) := by
                rw [take_set_drop xs idx _ c3]
                have htl : (xs.take idx).length = idx := by simp; omega
                refine (repE_append _ _ _ _).2 ⟨G1, _, rfl, ?_, ?_⟩
                · refine repE_copy _ _ _ _ _ (by omega) (fun g hg => hkG g (by simp [hg])) (fun j hj => ?_) m2
                  rw [htl] at hj
                  rw [hcell', if_neg (by omega)]
                · rw [htl]
                  simp only [repE]
                  refine ⟨_, _, rfl, by rw [splice_len (by rw [hdl]; exact c4)]; exact m1, n1, ?_⟩
                  have h4 : β.off + idx * s + s = β.off + (idx + 1) * s := by rw [Nat.add_mul]; omega
                  rw [h4]
                  refine repE_copy _ _ _ _ _ (by omega) (fun g hg => hkG g (by simp [hg])) (fun j hj => ?_) m4
                  rw [hcell', if_neg (by rw [← h4, hul]; omega)]
              have hids := toDs_ids _ _ _ hds
              refine fin w' (phiSet φ id { β with nest := G1 ++ ((Ga ++ (Gd ++ Gb)) ++ G2) }) (by rw [e3]; exact hrun) ⟨_, e3⟩ ?_
              have hnd2 : (G1 ++ ((Ga ++ (Gm ++ Gb)) ++ G2)).Nodup := by rw [← hGi, ← hGs]; exact ho2.1
              have hdisj : ∀ x ∈ Gd, x ∉ G := fun y hy hyG => by
                obtain ⟨i, i1, i2⟩ := d3 y hy
                have := hR.o1 i id y i2 (hogi y hyG)
                exact c6 (this ▸ i1)
              rw [hGs, hGi] at hdisj hogi
              refine R_set hR (n := id) (β := { β with nest := G1 ++ ((Ga ++ (Gd ++ Gb)) ++ G2) }) (β0 := β) (upd := ids.map fun i => (i, match hget σ.heap i with | .arr s ys _ => .ro s ys | x => x)) ?_ ?_ e1 hc' ⟨rfl, rfl, rfl, rfl⟩ ?_ hsz (by omega) ?_ ?_ ?_ ?_ ?_ ?_
              · rw [List.map_map]
                have : ((fun x : Nat × H => x.1) ∘ fun i => (i, match hget σ.heap i with | .arr s ys _ => H.ro s ys | x => x)) = (fun i : Nat => i) := rfl
                rw [this, List.map_id']; exact c5
              · intro p hp
                obtain ⟨i, i1, rfl⟩ := List.mem_map.1 hp
                obtain ⟨s', ys', i2⟩ := hids i i1
                obtain ⟨s2, ys2, i3⟩ := d4 i i1
                refine ⟨s2, ys2, i3, .inr ?_⟩
                rcases hle.2 i with h5 | h5
                · rw [i2] at h5; cases h5
                · rw [← h5, i3]
              · intro y hy
                obtain ⟨i, i1, i2⟩ := List.mem_map.1 hy
                simp only [Prod.mk.injEq] at i2
                exact c6 (i2.1 ▸ i1)
              · rw [← hw']; exact below_row hR.bel hB q1 (splice_size (by rw [hul]; exact hf))
              · intro c' _ hne _
                exact hother c' fun hcb => hne (hcb ▸ e2)
              · exact .inr ⟨b, e2, by simpa using r2, ⟨_, e, hnew, by
                  have : (splice cs.toList (β.off + idx * s + off) (a.eval x).cells.toList).length = cs.toList.length := splice_len (by rw [hul]; simpa using hf)
                  simp only [List.size_toArray, this, Array.length_toList]; exact q2⟩, hset⟩
              · intro g hg
                simp only [List.mem_append] at hg
                rcases hg with hg | (hg | hg | hg) | hg
                · exact .inl (hogi g (by simp [hg]))
                · exact .inl (hogi g (by simp [hg]))
                · obtain ⟨i, i1, i2⟩ := d3 g hg
                  exact .inr ⟨(i, _), List.mem_map.2 ⟨i, i1, rfl⟩, i2⟩
                · exact .inl (hogi g (by simp [hg]))
                · exact .inl (hogi g (by simp [hg]))
              · simp only [List.nodup_append, List.mem_append] at hnd2 hdisj ⊢
                grind
              · intro b' hb'
                simp only at hb'
                rw [e2] at hb'; cases hb'
                intro hb2
                simp only [List.mem_append] at hb2
                rcases hb2 with hg | (hg | hg | hg) | hg
                · exact hgb _ (by rw [hGs, hGi]; simp [hg]) rfl
                · exact hgb _ (by rw [hGs, hGi]; simp [hg]) rfl
                · exact hdb _ hg rfl
                · exact hgb _ (by rw [hGs, hGi]; simp [hg]) rfl
                · exact hgb _ (by rw [hGs, hGi]; simp [hg]) rfl
        · cases hE
      · -- a cell of the open element
        rename_i s pre cells post hcell
        simp only [Option.some.injEq, Prod.mk.injEq] at hE
        obtain ⟨rfl, rfl⟩ := hE
        obtain ⟨c1, c2, c3, c4⟩ := hc
        have hc' : hget σ'.heap id = .win s pre cells post := by
          rcases hh with hh | hh
          · rw [hcell] at hh; cases hh
          · rw [hh, hcell]
        rcases hR.hp id with hd | ⟨β', e1', hr⟩
        · rw [hc'] at hd; cases hd
        · rw [e1] at e1'; cases e1'
          rw [hc'] at hr
          obtain ⟨hs, hcl, b', G1, G2, us, r1, r2, r3, r4, r5, r6, r7, r8⟩ := hr
          rw [e2] at r1; cases r1
          obtain ⟨cs, e, q1, q2⟩ := r3
          obtain ⟨k1, k2⟩ := cells_rel c2 rx
          have hlv := VRels_len _ _ k1
          have hlc := VRels_len _ _ r6
          have hsz : (a.eval x).cells.size = sz := by rw [← Array.length_toList, hlv]; exact c3
          have hf : β.off + pre.length * s + off + sz ≤ cs.size := by
            have h3 : (pre.length + 1) * s ≤ β.cap * s := Nat.mul_le_mul_right _ (by omega)
            rw [Nat.add_mul] at h3; omega
          rw [c1, hs] at e3
          have hrun := run_store hty q1 hsz (f := β.off + pre.length * s + off) hf k2
          have hul : (a.eval x).cells.toList.length = sz := by rw [Array.length_toList]; exact hsz
          have hcell' := cellAt_row q1 (us := (a.eval x).cells.toList) (f := β.off + pre.length * s + off) (by rw [hul]; exact hf)
          generalize hw' : w.setRow b (splice cs.toList (β.off + pre.length * s + off) (a.eval x).cells.toList).toArray = w' at hrun hcell'
          have hsize : w'.heap.size = w.heap.size := by rw [← hw']; exact setRow_size _ _ _
          have hother : ∀ c, c ≠ b → w'.heap[c]? = w.heap[c]? := fun c hcb => by rw [← hw']; exact setRow_other w b c _ hcb
          have hnew : w'.heap[b]? = some (.cells (splice cs.toList (β.off + pre.length * s + off) (a.eval x).cells.toList).toArray e (0, 0)) := by rw [← hw']; exact setRow_heap w b cs _ e (0, 0) q1
          have hB : B b := hR.o3 id b ⟨β, e1, .inl ⟨by rw [hc']; rfl, e2⟩⟩
          have ho2 := hR.o2 id β e1 (by rw [hc']; rfl)
          have hgb : ∀ g ∈ β.nest, w'.heap[g]? = w.heap[g]? := fun g hg => hother g fun hgb => ho2.2 b e2 (hgb ▸ hg)
          rw [r4] at hgb
          have hT : ∀ c, NotTop φ σ'.heap c → NotTop φ (hput σ'.heap id (.win s pre (splice cells off v'.cells) post)) c := by
            intro c ht i β' hi he
            rw [hget_hput] at he
            by_cases h : i = id
            · subst h; rw [if_pos rfl] at he
              exact ht i β' hi (by rw [hc']; exact he)
            · rw [if_neg h] at he; exact ht i β' hi he
          have hnt : ∀ c, NotTop φ σ'.heap c → c ≠ b := fun c ht hcb => by subst hcb; exact ht id β e1 (.inl ⟨by rw [hc']; rfl, e2⟩)
          refine fin _ φ (by rw [e3]; exact hrun) ⟨_, e3⟩ ?_
          refine R_change hR (fun i => i = id) _ _ _ w' (fun i hi => ⟨by show hget (hput σ'.heap id _) i = _; rw [hget_hput, if_neg hi], rfl⟩) (Le.refl φ) (by omega) (fun c _ ht => hother c fun hcb => ?_) ?_ ?_ (fun i j b hi hj _ _ => hi.trans hj.symm) ?_ ?_ hR.dm
            (by rw [← hw']; exact below_row hR.bel hB q1 (splice_size (by rw [hul]; exact hf)))
          · subst hcb; exact ht id rfl β e1 (.inl ⟨by rw [hc']; rfl, e2⟩)
          · rintro i rfl c ⟨β', h1, h2⟩
            rw [e1] at h1; cases h1
            change (((hget (hput σ'.heap i _) i).live = true ∧ _) ∨ ((hget (hput σ'.heap i _) i).own = true ∧ _)) at h2
            rw [hget_hput, if_pos rfl] at h2
            exact .inr ⟨i, rfl, β, e1, by rw [hc']; exact h2⟩
          · rintro i rfl β' h1 c h2
            rw [e1] at h1; cases h1
            change TopOf (hget (hput σ'.heap i _) i) β c at h2
            rw [hget_hput, if_pos rfl] at h2
            exact .inr ⟨i, β, rfl, e1, by rw [hc']; exact h2⟩
          · rintro i β' rfl h1 _
            rw [e1] at h1; cases h1
            exact ho2
          · rintro i rfl
            refine .inr ⟨β, e1, ?_⟩
            show HRel φ (NotTop φ (hput σ'.heap i _)) w'.heap β (hget (hput σ'.heap i _) i)
            rw [hget_hput, if_pos rfl]
            have hvk : ∀ (vs : List V) (us : List Value), VRels φ (NotTop φ σ'.heap) w.heap vs us → VRels φ (NotTop φ (hput σ'.heap i (.win s pre (splice cells off v'.cells) post))) w'.heap vs us :=
              fun vs us hv => VRels_keep ⟨Le.refl φ, fun c _ ht => hT c ht, fun c _ ht => hother c (hnt c ht), by omega⟩ _ _ hv
            refine ⟨hs, ?_, b, G1, G2, splice us off (a.eval x).cells.toList, e2, r2, ⟨_, e, hnew, ?_⟩, r4, ?_, hvk _ _ (VRels_splice r6 k1 off), fun j u hj => ?_, ?_⟩
            · rw [splice_len (by rw [c3]; omega)]; exact hcl
            · have : (splice cs.toList (β.off + pre.length * s + off) (a.eval x).cells.toList).length = cs.toList.length := splice_len (by rw [hul]; simpa using hf)
              simp only [List.size_toArray, this, Array.length_toList]; exact q2
            · refine repE_copy _ _ _ _ _ (by omega) (fun g hg => hgb g (by simp [hg])) (fun j hj => ?_) r5
              rw [hcell', if_neg (by omega)]
            · rw [hcell', hul]
              have hus : off + sz ≤ us.length := by rw [hlc]; exact c4
              have hsp := splice_get (l := us) (off := off) (vs := (a.eval x).cells.toList) (by rw [hul]; exact hus) j
              rw [hsp, hul] at hj
              by_cases hin : off ≤ j ∧ j < off + sz
              · rw [if_pos hin] at hj
                rw [if_pos (by omega), show β.off + pre.length * s + j - (β.off + pre.length * s + off) = j - off from by omega]
                exact hj
              · rw [if_neg hin] at hj
                rw [if_neg (by omega)]
                exact r7 j u hj
            · refine repE_copy _ _ _ _ _ (by omega) (fun g hg => hgb g (by simp [hg])) (fun j hj => ?_) r8
              rw [hcell', if_neg (by rw [hul, Nat.add_mul]; omega)]
      · cases hE
    · cases hE
  · exact h2.elim

end Gv
