/-
  append: onto an array of the call's own, or onto nil.
-/
import Derived.Test.YtiaaipckeinbiaaGvStore
import Derived.Deep.AppendSrc
namespace Gv
open Go

variable {P : Program} {o : Oper} {g : Bool} {σ : St} {n : Nat} {K : Res → Prop}

/-- A row's cells as values. -/
theorem repE_vals {h : Array Obj} {bl : Bool} {b : Nat} : ∀ (cs : List (List D)) (f sz : Nat) (G : List Nat), repE h bl b f sz cs G → ∃ us : List Value, us.length = cs.length * sz ∧ (∀ (j : Nat) (u : Value), us[j]? = some u → cellAt h b (f + j) = some u) ∧ ∀ u ∈ us, u.oneCell' = true
  | [], f, sz, G, _ => ⟨[], by simp, by simp, by simp⟩
  | c :: cs, f, sz, G, r => by
    simp only [repE] at r
    obtain ⟨G1, G2, rfl, e2, e3, e4⟩ := r
    obtain ⟨us, u1, u2, u3⟩ := repC_vals c f G1 e3
    obtain ⟨vs, v1, v2, v3⟩ := repE_vals cs (f + sz) sz G2 e4
    refine ⟨us ++ vs, by rw [List.length_append, u1, v1, e2, List.length_cons, Nat.add_mul]; omega, fun j u hj => ?_, fun u hu => ?_⟩
    · rw [List.getElem?_append] at hj
      split at hj
      · exact u2 j u hj
      · rename_i hge
        have := v2 _ u hj
        rw [show f + sz + (j - us.length) = f + j from by rw [u1, e2] at *; omega] at this
        exact this
    · rcases List.mem_append.1 hu with hu | hu
      · obtain ⟨j, hj, rfl⟩ := List.getElem_of_mem hu
        obtain ⟨Gj, _, k2⟩ := u3 j c[j] us[j] (List.getElem?_eq_getElem (by omega)) (List.getElem?_eq_getElem hj)
        exact oneCell_rep k2
      · exact v3 u hu

theorem run_append_room' {w : World} (t ty e : TypeId) (i : TypeInfo) (ht : P.underlying t = some (.slice e)) (hi : P.info? e = some i) (b f sLen sCap : Nat) (cur : Array Value) (te : TypeId) (hg : w.heap[b]? = some (.cells cur te (0, 0)))
    (m : Nat) (src : Value) (news : List Value) (hl : Builtin.lenOf src = (pure m : Sem Nat)) (hf : (Builtin.firstCells i.size m src).run P w = .ok news.toArray w) (h1 : ∀ u ∈ news, u.oneCell' = true) (hroom : sLen + m ≤ sCap) (hfit : f + sLen * i.size + news.length ≤ cur.size) :
    (Builtin.append_ #[t, t] ty #[.slice (some ⟨b, f, none⟩) sLen sCap, src]).run P w = .ok (.slice (some ⟨b, f, none⟩) (sLen + m) sCap) (w.setRow b (splice cur.toList (f + sLen * i.size) news).toArray) := by
  have hst := run_storeCells_at P b (f + sLen * i.size) te news 0 cur w hg (by simpa using hfit) h1
  simp only [Nat.add_zero, List.append_assoc] at hst
  simp [Builtin.append_, run_underlying ht, Go.sizeOf, typeInfo, hi, hl, hroom, hf, add_lit, hst, splice]

/-- The source's cells. -/
theorem src_cells {w : World} {ad : Option Addr} {c sz : Nat} {ys : List (List D)} {bl : Bool} (h : ys = [] ∨ ∃ b f G, ad = some ⟨b, f, none⟩ ∧ repE w.heap bl b f sz ys G) :
    ∃ news : List Value, news.length = ys.length * sz ∧ (∀ w' : World, w'.heap = w.heap → (Builtin.firstCells sz ys.length (.slice ad ys.length c)).run P w' = .ok news.toArray w') ∧ (∀ u ∈ news, u.oneCell' = true) ∧
      (ys ≠ [] → ∃ b f, ad = some ⟨b, f, none⟩ ∧ ∀ (j : Nat) (u : Value), news[j]? = some u → cellAt w.heap b (f + j) = some u) := by
  by_cases hne : ys = []
  · subst hne
    refine ⟨[], by simp, fun w' _ => ?_, by simp, fun h => absurd rfl h⟩
    cases ad with
    | none => rfl
    | some ad => simp [Builtin.firstCells, loadCells, loadCellsFrom]
  · rcases h with h | ⟨b, f, G, rfl, h⟩
    · exact absurd h hne
    · obtain ⟨us, u1, u2, u3⟩ := repE_vals _ _ _ _ h
      refine ⟨us, u1, fun w' hw' => ?_, u3, fun _ => ⟨b, f, rfl, u2⟩⟩
      have := run_loadCells_list (P := P) w' ⟨b, f, none⟩ us (fun j v hj => by rw [add_lit, cell_eq, hw']; exact u2 j v hj)
      rw [u1] at this
      simpa [Builtin.firstCells] using this

section
variable {B : Nat → Prop} {w0 : World} {Dm : Nat → Prop} {φ : Phi} {kp : List (V × Value)} {a : Act} {w : World}

/-- An array made of what lay elsewhere: a new block, whose first cells are these. -/
theorem grown_rep {w' : World} {cs : Array Value} {e : TypeId} {b f sz : Nat} {zs : List (List D)} {G : List Nat} {off : Nat} (hh : w'.heap = w.heap.push (.cells cs e)) (hz : repE w.heap true b f sz zs G)
    (hc : ∀ j, j < zs.length * sz → cs[off + j]? = cellAt w.heap b (f + j)) (hG : ∀ g ∈ G, g < w.heap.size) : repE w'.heap true w.heap.size off sz zs G := by
  refine repE_copy zs f off sz G (by rw [hh]; simp) (fun g hg => ?_) (fun j hj => ?_) hz
  · rw [hh, Array.getElem?_push]; simp [Nat.ne_of_lt (hG g hg)]
  · rw [← hc j hj]
    unfold cellAt
    rw [hh]; simp

/-- What is consumed by a source: nothing (its elements are flat), or its own array. -/
def srcE (hs : List H) (sz : Nat) (y : V) : Option (List (List D) × List (Nat × H)) :=
  match elsOf hs y with
  | some (sz', ys) =>
    if sz' = sz then
      if flatE ys then some (ys, [])
      else match y with
        | .sl id _ _ => match hget hs id with | .arr s zs true => some (ys, [(id, .ro s zs)]) | _ => none
        | _ => none
    else none
  | none => none

theorem srcE_rel {σ' : St} (hle : σ.le σ') (r : R B w0 Dm φ σ' kp a w) {sz : Nat} {y : V} {ys : List (List D)} {cons : List (Nat × H)} (he : srcE σ.heap sz y = some (ys, cons)) {u : Value} (ru : VRel φ (NotTop φ σ'.heap) w.heap y u) :
    ∃ ad c Gs, u = .slice ad ys.length c ∧ ys.length ≤ c ∧ (ys = [] ∧ Gs = [] ∨ ∃ b f, ad = some ⟨b, f, none⟩ ∧ b < w.heap.size ∧ repE w.heap true b f sz ys Gs ∧ ∀ k β, φ k = some β → β.blk = some b → (hget σ'.heap k).live = true → ∃ off l, y = .sl k off l) ∧ Gs.Nodup ∧
      (∀ g ∈ Gs, ∃ p ∈ cons, Owns φ σ'.heap p.1 g) ∧ (cons.map (·.1)).Nodup ∧ (∀ p ∈ cons, ∃ s zs, hget σ'.heap p.1 = .arr s zs true ∧ p.2 = .ro s zs) ∧ ∀ p ∈ cons, ∃ off l, y = .sl p.1 off l := by
  unfold srcE at he
  split at he
  · rename_i sz' ys' hel
    split at he
    · rename_i hsz; subst hsz
      obtain ⟨ad, c, e1, e2, e3, e4⟩ := elsOf_rel hle r hel ru
      have hother : ∀ {b f : Nat}, ad = some ⟨b, f, none⟩ → ys' ≠ [] → ∀ k β, φ k = some β → β.blk = some b → (hget σ'.heap k).live = true → ∃ off l, y = .sl k off l := by
        intro b f had hne k β hk hb hlive
        cases y with
        | sl id off l =>
          obtain ⟨β', ad', c', q1, q2, q3, q4, q5⟩ := rel_sl ru
          rw [e1] at q2
          simp only [Value.slice.injEq] at q2
          rcases q5 with q5 | ⟨b', q5, q6, q7⟩
          · exfalso
            have : ys'.length = 0 := by omega
            exact hne (List.eq_nil_of_length_eq_zero this)
          · rw [← q2.1, had] at q6
            simp only [Option.some.injEq, Addr.mk.injEq] at q6
            rw [← q6.1] at q5
            have hels : ∃ q, (hget σ.heap id).els = some q := by
              simp only [elsOf] at hel
              split at hel
              · exact ⟨_, by assumption⟩
              · cases hel
            obtain ⟨q, hels⟩ := hels
            have hx := els_le hle hels
            obtain ⟨β2, p1, p2⟩ := heap_rel r hx
            rw [q1] at p1; cases p1
            cases hh : hget σ'.heap id with
            | dead => rw [hh] at hx; cases hx
            | box cells => rw [hh] at hx; cases hx
            | cln _ _ => rw [hh] at hx; cases hx
            | win _ _ _ _ => rw [hh] at hx; cases hx
            | arr s zs nf =>
              have := r.o1 k id b ⟨β, hk, .inl ⟨hlive, hb⟩⟩ ⟨β', q1, .inl ⟨by rw [hh]; rfl, q5⟩⟩
              exact ⟨off, l, by rw [this]⟩
            | ro s zs =>
              rw [hh] at p2
              obtain ⟨_, p2⟩ := p2
              rcases p2 with p2 | ⟨b2, G, t1, t2, t3, t4, t5⟩
              · exfalso
                subst p2
                rw [hh] at hx
                simp only [H.els, Option.some.injEq] at hx
                subst hx
                simp only [elsOf, hels] at hel
                split at hel
                · simp only [Option.some.injEq, Prod.mk.injEq] at hel
                  exact hne (by rw [← hel.2]; simp)
                · cases hel
              · rw [q5] at t1; cases t1
                exact (t2 k β hk (.inl ⟨hlive, hb⟩)).elim
        | d x =>
          cases x with
          | sl s zs =>
            obtain ⟨ad', c', q1, q2, q3, q4⟩ := rel_dsl ru
            rw [e1] at q1
            simp only [Value.slice.injEq] at q1
            rcases q4 with q4 | ⟨b', f', G, q4, q5, q6, q7, q8⟩
            · simp only [elsOf, Option.some.injEq, Prod.mk.injEq] at hel
              exact absurd (hel.2 ▸ q4) hne
            · rw [← q1.1, had] at q4
              simp only [Option.some.injEq, Addr.mk.injEq] at q4
              exact ((q4.1 ▸ q6) k β hk (.inl ⟨hlive, hb⟩)).elim
          | _ => simp [elsOf] at hel
        | nils s =>
          simp only [elsOf, Option.some.injEq, Prod.mk.injEq] at hel
          exact absurd hel.2.symm hne
        | _ => simp [elsOf] at hel
      split at he
      · rename_i hf
        simp only [Option.some.injEq, Prod.mk.injEq] at he
        obtain ⟨rfl, rfl⟩ := he
        refine ⟨ad, c, [], e1, e2, ?_, List.nodup_nil, by simp, by simp, by simp, by simp⟩
        rcases e4 with e4 | ⟨b, f, G, e4, e5, e6, e7⟩
        · exact .inl ⟨e4, rfl⟩
        · by_cases hne : ys' = []
          · exact .inl ⟨hne, rfl⟩
          · exact .inr ⟨b, f, e4, e5, repE_flat_true _ _ _ _ hf e6, hother e4 hne⟩
      · split at he
        · rename_i id off l
          split at he
          · rename_i s zs hx
            simp only [Option.some.injEq, Prod.mk.injEq] at he
            obtain ⟨rfl, rfl⟩ := he
            have hx' : hget σ'.heap id = .arr s zs true := by
              rcases hle.2 id with hh | hh
              · rw [hx] at hh; cases hh
              · rw [hh, hx]
            simp only [elsOf, hx, H.els] at hel
            split at hel
            · rename_i hb
              simp only [Option.some.injEq, Prod.mk.injEq] at hel
              obtain ⟨rfl, rfl⟩ := hel
              obtain ⟨F, f1, f2, f3⟩ := own_rep r hx' hb ru
              simp only [rep] at f1
              obtain ⟨ad', c', g1, g2, g3, g4⟩ := f1
              refine ⟨ad', c', F.tail, g1, g2, ?_, ?_, ?_, by simp, by simp [hx'], by simp⟩
              · rw [e1] at g1
                simp only [Value.slice.injEq, true_and] at g1
                rcases g4 with g4 | ⟨b, f, G, k1, k2, k3, k4, k5⟩
                · exact .inl ⟨g4.1, by rw [g4.2.1]; rfl⟩
                · subst k2
                  by_cases hne : (zs.drop off).take l = []
                  · rw [hne] at k4; simp only [repE] at k4; subst k4
                    exact .inl ⟨hne, rfl⟩
                  · exact .inr ⟨b, f, k1, k3, k4, hother (g1.1.trans k1) hne⟩
              · exact f2.sublist (List.tail_sublist F)
              · intro x hx2
                exact ⟨_, List.mem_singleton.2 rfl, f3 x (List.mem_of_mem_tail hx2)⟩
            · cases hel
          · cases he
        · cases he
    · cases he
  · cases he
end


def srcNot (id : Nat) (y : V) : Bool := match y with | .sl k _ _ => k != id | _ => true

/-- What append makes: the elements, what is consumed. -/
def apE (P : Program) (hs : List H) (T : TypeId) (x y : V) (n : Nat) : Option (Prop × Res) :=
  match elI P T with
  | none => none
  | some (e, sz, by_) =>
    match srcE hs sz y with
    | none => none
    | some (ys, cons) =>
      match x with
      | .nils _ => some ((zrI P e).map List.length = some sz ∧ 0 < by_ ∧ ys.length * by_ ≤ 140737488355328, ⟨.sl n 0 ys.length, [.arr sz ys true], cons⟩)
      | .sl id 0 len =>
        match hget hs id with
        | .arr s xs true => if s = sz then some ((zrI P e).map List.length = some sz ∧ 0 < by_ ∧ len = xs.length ∧ (xs.length + ys.length) * by_ ≤ 140737488355328 ∧ srcNot id y = true, ⟨.sl n 0 (xs.length + ys.length), [.arr sz (xs ++ ys) true], (id, .dead) :: cons⟩) else none
        | _ => none
      | _ => none

section
variable {B : Nat → Prop} {w0 : World} {Dm : Nat → Prop} {φ : Phi} {kp : List (V × Value)} {a : Act} {w : World}

/-- The base: nothing, or an array of the call's own. -/
structure Base (σ' : St) (φ : Phi) (w : World) (sz : Nat) (xs : List (List D)) (upd : List (Nat × H)) (ad : Option Addr) (c : Nat) (G : List Nat) : Prop where
  len : xs.length ≤ c
  mx : c ≤ maxLen
  nd : G.Nodup
  own : ∀ g ∈ G, ∃ p ∈ upd, Owns φ σ'.heap p.1 g
  up : upd = [] ∨ ∃ id s ys, upd = [(id, .dead)] ∧ hget σ'.heap id = .arr s ys true
  at_ : (c = 0 ∧ xs = [] ∧ G = []) ∨ ∃ id β b, upd = [(id, .dead)] ∧ φ id = some β ∧ β.blk = some b ∧ ad = some ⟨b, β.off, none⟩ ∧ c = β.cap ∧ β.sz = sz ∧ roomy w.heap b (β.off + β.cap * sz) ∧ repE w.heap true b β.off sz xs G ∧ b ∉ G

theorem append_nop {t ty e : TypeId} {i : TypeInfo} (ht : P.underlying t = some (.slice e)) (hi : P.info? e = some i) (ad ad' : Option Addr) (c' : Nat) (w : World) :
    (Builtin.append_ #[t, t] ty #[.slice ad 0 0, .slice ad' 0 c']).run P w = .ok (.slice ad 0 0) w := by
  have hf : (Builtin.firstCells i.size 0 (.slice ad' 0 c')).run P w = .ok #[] w := by
    cases ad' with
    | none => rfl
    | some ad => simp [Builtin.firstCells, loadCells, loadCellsFrom]
  have hs : (Go.sizeOf e).run P w = Result.ok i.size w := by simp [Go.sizeOf, typeInfo, hi]
  have hl : (Builtin.lenOf (.slice ad' 0 c')).run P w = .ok 0 w := rfl
  cases ad <;> simp [Builtin.append_, run_underlying ht, hs, hl, hf, storeCells]

theorem append_core {σ' : St} (hR : R B w0 Dm φ σ' kp a w) {n : Nat} (hd : hget σ'.heap n = .dead) (hn : ¬ Dm n) {T ty e : TypeId} {i : TypeInfo} {z : Value} (ht : P.underlying T = some (.slice e)) (hi : P.info? e = some i) (hz : i.zero = some z)
    (hzs : z.cells.size = i.size) (hby : 0 < i.bytes) {xs ys : List (List D)} (hfit : (xs.length + ys.length) * i.bytes ≤ 140737488355328) {upd cons : List (Nat × H)} {ad ad' : Option Addr} {c c' : Nat} {G Gs : List Nat} (bs : Base σ' φ w i.size xs upd ad c G)
    (hsrc : ys = [] ∧ Gs = [] ∨ ∃ b f, ad' = some ⟨b, f, none⟩ ∧ b < w.heap.size ∧ repE w.heap true b f i.size ys Gs) (gnd : Gs.Nodup) (gown : ∀ g ∈ Gs, ∃ p ∈ cons, Owns φ σ'.heap p.1 g) (cnd : (cons.map (·.1)).Nodup)
    (cin : ∀ p ∈ cons, ∃ s zs, hget σ'.heap p.1 = .arr s zs true ∧ p.2 = .ro s zs) (cdis : ∀ p ∈ cons, ∀ q ∈ upd, p.1 ≠ q.1) (hna : ∀ b f, ad' = some ⟨b, f, none⟩ → ys ≠ [] → ∀ q ∈ upd, ∀ β, φ q.1 = some β → β.blk ≠ some b) :
    ∃ w' φ' u, (Builtin.append_ #[T, T] ty #[.slice ad xs.length c, .slice ad' ys.length c']).run P w = .ok u w' ∧
      R B w0 (fun i => Dm i ∨ (n ≤ i ∧ i < n + 1)) φ' ⟨σ'.tmps, hupd (hput σ'.heap n (.arr i.size (xs ++ ys) true)) (upd ++ cons)⟩ kp a w' ∧ ∀ T' h', VRel φ' T' h' (.sl n 0 (xs.length + ys.length)) u := by
  have hlm : xs.length + ys.length ≤ maxLen := by
    have : (xs.length + ys.length) * 1 ≤ (xs.length + ys.length) * i.bytes := Nat.mul_le_mul_left _ hby
    simp only [maxLen]; omega
  have hud : ∀ p ∈ upd, p.2 = .dead ∧ ∃ s ys, hget σ'.heap p.1 = .arr s ys true := by
    intro p hp
    rcases bs.up with h | ⟨id, s, ys', h, h2⟩
    · rw [h] at hp; cases hp
    · rw [h] at hp; simp only [List.mem_singleton] at hp; subst hp; exact ⟨rfl, s, ys', h2⟩
  have hnd : ((upd ++ cons).map (·.1)).Nodup := by
    rw [List.map_append]
    refine List.nodup_append.2 ⟨?_, cnd, ?_⟩
    · rcases bs.up with h | ⟨id, s, ys', h, h2⟩ <;> rw [h] <;> simp
    · intro x hx y hy hxy
      obtain ⟨p, hp, rfl⟩ := List.mem_map.1 hx
      obtain ⟨q, hq, rfl⟩ := List.mem_map.1 hy
      exact cdis q hq p hp hxy.symm
  have hu : ∀ p ∈ upd ++ cons, ∃ sz xs, hget σ'.heap p.1 = .arr sz xs true ∧ (p.2 = .dead ∨ p.2 = .ro sz xs) := by
    intro p hp
    rcases List.mem_append.1 hp with hp | hp
    · obtain ⟨h1, s, ys', h2⟩ := hud p hp; exact ⟨s, ys', h2, .inl h1⟩
    · obtain ⟨s, zs, h1, h2⟩ := cin p hp; exact ⟨s, zs, h1, .inr h2⟩
  have gdis : ∀ x ∈ G, ∀ y ∈ Gs, x ≠ y := by
    rintro x hx y hy rfl
    obtain ⟨p, p1, p2⟩ := bs.own x hx
    obtain ⟨q, q1, q2⟩ := gown x hy
    exact cdis q q1 p p1 (hR.o1 _ _ _ q2 p2)
  have hGlt : ∀ g ∈ G, g < w.heap.size := fun g hg => by obtain ⟨p, _, p2⟩ := bs.own g hg; exact Owns.lt hR p2
  have hGslt : ∀ g ∈ Gs, g < w.heap.size := fun g hg => by obtain ⟨p, _, p2⟩ := gown g hg; exact Owns.lt hR p2
  have hnodup : (G ++ Gs).Nodup := List.nodup_append.2 ⟨bs.nd, gnd, gdis⟩
  have hnest : ∀ b ∈ G ++ Gs, w.heap.size ≤ b ∨ ∃ p ∈ upd ++ cons, Owns φ σ'.heap p.1 b := by
    intro b hb
    rcases List.mem_append.1 hb with hb | hb
    · obtain ⟨p, p1, p2⟩ := bs.own b hb; exact .inr ⟨p, List.mem_append_left _ p1, p2⟩
    · obtain ⟨p, p1, p2⟩ := gown b hb; exact .inr ⟨p, List.mem_append_right _ p1, p2⟩
  have hsrc' : ys = [] ∨ ∃ b f G, ad' = some ⟨b, f, none⟩ ∧ repE w.heap true b f i.size ys G := by
    rcases hsrc with h | ⟨b, f, h1, _, h2⟩
    · exact .inl h.1
    · exact .inr ⟨b, f, Gs, h1, h2⟩
  obtain ⟨news, n1, n2, n3, n4⟩ := src_cells (P := P) (c := c') hsrc'
  by_cases hroom : xs.length + ys.length ≤ c
  · rcases bs.at_ with ⟨h1, h2, h3⟩ | ⟨id, β, b, b1, b2, b3, b4, b5, b6, b7, b8, b9⟩
    · subst h1; subst h2; subst h3
      have h4 : ys = [] := List.eq_nil_of_length_eq_zero (by simp at hroom; simpa using hroom)
      subst h4
      have hGs : Gs = [] := by
        rcases hsrc with h | ⟨b, f, _, _, h⟩
        · exact h.2
        · simpa [repE] using h
      refine ⟨w, phiSet φ n ⟨none, 0, 0, i.size, []⟩, .slice ad 0 0, append_nop ht hi ad ad' c' w, ?_, fun T' h' => ?_⟩
      · exact R_mk hR hd hn hnd hu rfl (Nat.le_refl _) hR.bel (fun _ _ _ => rfl) (.inl ⟨rfl, rfl, rfl, rfl⟩) (fun b hb => by cases hb) (fun b hb => by cases hb) List.nodup_nil (fun b hb => by cases hb)
      · simp only [VRel]
        exact ⟨⟨none, 0, 0, i.size, []⟩, ad, 0, by simp [phiSet], rfl, by decide, .inl ⟨rfl, rfl, rfl⟩⟩
    · subst b4
      obtain ⟨cs, te, r1, r2⟩ := b7
      have hmul : (xs.length + ys.length) * i.size ≤ β.cap * i.size := Nat.mul_le_mul_right _ (Nat.le_trans hroom (Nat.le_of_eq b5))
      have hsplit : (xs.length + ys.length) * i.size = xs.length * i.size + ys.length * i.size := Nat.add_mul _ _ _
      have hfit' : β.off + xs.length * i.size + news.length ≤ cs.size := by rw [n1]; omega
      have hrun := run_append_room' (P := P) (w := w) T ty e i ht hi b β.off xs.length c cs te r1 ys.length (.slice ad' ys.length c') news rfl (n2 w rfl) n3 hroom hfit'
      have hidm : (id, H.dead) ∈ upd := by rw [b1]; simp
      obtain ⟨_, si, yi, hidarr⟩ := hud _ hidm
      have hob : Owns φ σ'.heap id b := ⟨β, b2, .inl ⟨by rw [hidarr]; rfl, b3⟩⟩
      have hoth : ∀ b', b' ≠ b → (w.setRow b (splice cs.toList (β.off + xs.length * i.size) news).toArray).heap[b']? = w.heap[b']? := fun b' hb' => setRow_other w b b' _ hb'
      have hcell := cellAt_row (f := β.off + xs.length * i.size) r1 hfit'
      have hGb : ∀ g ∈ G ++ Gs, g ≠ b := by
        rintro g hg rfl
        rcases List.mem_append.1 hg with hg | hg
        · exact b9 hg
        · obtain ⟨p, p1, p2⟩ := gown g hg
          exact cdis p p1 _ hidm (hR.o1 _ _ _ p2 hob)
      refine ⟨_, phiSet φ n { β with nest := G ++ Gs }, _, hrun, ?_, fun T' h' => ?_⟩
      · refine R_mk hR hd hn hnd hu (β := { β with nest := G ++ Gs }) b6 (by rw [setRow_size]; exact Nat.le_refl _) (below_row hR.bel (hR.o3 _ _ hob) r1 (splice_size hfit')) (fun b' _ hb' => hoth b' fun e => ?_) (.inr ⟨b, b3, ?_, ?_, ?_⟩) (fun b' hb' => .inr ⟨(id, .dead), List.mem_append_left _ hidm, rfl, β, b2, hb'⟩) hnest hnodup (fun b' hb' hb2 => ?_)
        · exact hb' (id, .dead) (List.mem_append_left _ hidm) rfl β b2 (e ▸ b3)
        · simp only [List.length_append]; omega
        · refine ⟨_, te, setRow_heap w b cs _ te (0, 0) r1, ?_⟩
          have := splice_len (l := cs.toList) (off := β.off + xs.length * i.size) (vs := news) (by simpa using hfit')
          simp only [List.size_toArray, this, Array.length_toList]; exact r2
        · refine (repE_append _ _ _ _).2 ⟨G, Gs, rfl, ?_, ?_⟩
          · change repE _ true b β.off i.size xs G
            refine repE_copy xs β.off β.off i.size G (by rw [setRow_size]; exact Nat.le_refl _) (fun g hg => hoth g (hGb g (by simp [hg]))) (fun j hj => ?_) b8
            rw [hcell, if_neg (by omega)]
          · rcases hsrc with ⟨rfl, rfl⟩ | ⟨b', f', s1, s2, s3⟩
            · simp [repE]
            · change repE _ true b (β.off + xs.length * i.size) i.size ys Gs
              refine repE_copy ys f' _ i.size Gs (by rw [setRow_size]; exact Nat.le_refl _) (fun g hg => hoth g (hGb g (by simp [hg]))) (fun j hj => ?_) s3
              rw [hcell, if_pos ⟨by omega, by rw [n1]; omega⟩, show β.off + xs.length * i.size + j - (β.off + xs.length * i.size) = j from by omega]
              have hne : ys ≠ [] := fun h => by rw [h] at hj; simp at hj
              obtain ⟨b2', f2', t1, t2⟩ := n4 hne
              rw [s1] at t1; simp only [Option.some.injEq, Addr.mk.injEq] at t1
              obtain ⟨rfl, rfl, _⟩ := t1
              have hj' : j < news.length := by rw [n1]; exact hj
              rw [t2 j news[j] (List.getElem?_eq_getElem hj'), List.getElem?_eq_getElem hj']
        · simp only at hb' hb2
          rw [b3] at hb'; cases hb'
          exact hGb _ hb2 rfl
      · simp only [VRel]
        refine ⟨{ β with nest := G ++ Gs }, _, c, by simp [phiSet], rfl, bs.mx, .inr ⟨b, b3, by simp, hroom, by simpa using b5⟩⟩
  · have hbase : xs = [] ∨ ∃ b f G, ad = some ⟨b, f, none⟩ ∧ repE w.heap true b f i.size xs G := by
      rcases bs.at_ with ⟨h1, h2, h3⟩ | ⟨id, β, b, b1, b2, b3, b4, b5, b6, b7, b8, b9⟩
      · exact .inl h2
      · exact .inr ⟨b, _, G, b4, b8⟩
    obtain ⟨olds, o1, o2, o3, o4⟩ := src_cells (P := P) (c := c) hbase
    have hkind : ∃ e', P.underlying T = some (.slice e') := ⟨e, ht⟩
    have hS : Src P i.size T (.slice ad' ys.length c') ys.length news w := ⟨.inl hkind, fun _ => rfl, n2 w rfl, n2 w.drew rfl, n1, n3⟩
    have hrun := run_append_grow_src (P := P) w T T ty e i z ht hi hz ad xs.length c olds (o2 w.drew rfl) _ ys.length news hS (by omega) (by simp only [maxLen] at hlm; omega) (growslice_fits (by omega) hfit)
    have hge := grownCap_ge w (xs.length + ys.length) c e
    have hle := grownCap_le_maxLen w (xs.length + ys.length) c e hlm
    generalize grownCap w (xs.length + ys.length) c e = gc at hrun hge hle
    have hheap : (w.drew.alloc (.cells ((olds ++ news).toArray ++ Builtin.zeroCells z.cells (gc - (xs.length + ys.length))) e)).heap = w.heap.push (.cells ((olds ++ news).toArray ++ Builtin.zeroCells z.cells (gc - (xs.length + ys.length))) e) := rfl
    have hcells : ∀ j, j < (olds ++ news).length → ((olds ++ news).toArray ++ Builtin.zeroCells z.cells (gc - (xs.length + ys.length)))[j]? = (olds ++ news)[j]? := by
      intro j hj
      rw [Array.getElem?_append_left (by simpa using hj)]; simp
    refine ⟨_, phiSet φ n ⟨some w.heap.size, 0, gc, i.size, G ++ Gs⟩, _, hrun, ?_, fun T' h' => ?_⟩
    · refine R_mk hR hd hn hnd hu rfl (by rw [hheap]; simp) ((below_alloc (hR.bel.drew) hR.bs _)) (fun b' hb' _ => by rw [hheap, Array.getElem?_push]; simp [Nat.ne_of_lt hb']) (.inr ⟨w.heap.size, rfl, ?_, ?_, ?_⟩) (fun b' hb' => .inl (by cases hb'; exact Nat.le_refl _)) hnest hnodup (fun b' hb' hb2 => ?_)
      · simp only [List.length_append]; exact hge
      · refine ⟨((olds ++ news).toArray ++ Builtin.zeroCells z.cells (gc - (xs.length + ys.length))), e, by rw [hheap]; simp, ?_⟩
        simp only [Array.size_append, List.size_toArray, List.length_append, o1, n1, size_zeroCells, hzs, Nat.zero_add]
        rw [← Nat.add_mul, ← Nat.add_mul]
        exact Nat.mul_le_mul_right _ (show gc ≤ _ from by omega)
      · refine (repE_append _ _ _ _).2 ⟨G, Gs, rfl, ?_, ?_⟩
        · rcases bs.at_ with ⟨h1, rfl, rfl⟩ | ⟨id, β, b, b1, b2, b3, b4, b5, b6, b7, b8, b9⟩
          · simp [repE]
          · refine grown_rep hheap b8 (fun j hj => ?_) hGlt
            have hne : xs ≠ [] := fun h => by rw [h] at hj; simp at hj
            obtain ⟨b2', f2', t1, t2⟩ := o4 hne
            rw [b4] at t1; simp only [Option.some.injEq, Addr.mk.injEq] at t1
            obtain ⟨rfl, rfl, _⟩ := t1
            have hj' : j < olds.length := by rw [o1]; exact hj
            rw [Nat.zero_add, hcells j (by simp; omega), List.getElem?_append_left hj', List.getElem?_eq_getElem hj', t2 j olds[j] (List.getElem?_eq_getElem hj')]
        · rcases hsrc with ⟨rfl, rfl⟩ | ⟨b', f', s1, s2, s3⟩
          · simp [repE]
          · change repE _ true _ (0 + xs.length * i.size) i.size ys Gs
            refine grown_rep hheap s3 (fun j hj => ?_) hGslt
            have hne : ys ≠ [] := fun h => by rw [h] at hj; simp at hj
            obtain ⟨b2', f2', t1, t2⟩ := n4 hne
            rw [s1] at t1; simp only [Option.some.injEq, Addr.mk.injEq] at t1
            obtain ⟨rfl, rfl, _⟩ := t1
            have hj' : j < news.length := by rw [n1]; exact hj
            rw [hcells _ (by simp; omega), List.getElem?_append_right (by omega), show 0 + xs.length * i.size + j - olds.length = j from by omega, List.getElem?_eq_getElem hj', t2 j news[j] (List.getElem?_eq_getElem hj')]
      · simp only at hb' hb2
        cases hb'
        rcases List.mem_append.1 hb2 with h | h
        · exact Nat.lt_irrefl _ (hGlt _ h)
        · exact Nat.lt_irrefl _ (hGslt _ h)
    · simp only [VRel]
      exact ⟨⟨some w.heap.size, 0, gc, i.size, G ++ Gs⟩, _, gc, by simp [phiSet], rfl, hle, .inr ⟨w.heap.size, rfl, by simp, hge, by simp⟩⟩
end

theorem ok_append {c : Call} {x y : Operand} {T : TypeId} (ho : o.op = .call c) (hc : c = { callee := .builtin .append, args := #[x, y], argTypes := #[T, T] })
    (h : evg g (σ.ev x) fun a => evg g (σ.ev y) fun b => match apE P σ.heap T a b n with | some (p, r) => p ∧ K r | none => False) : ∃ r, OpOK P o g σ n r ∧ K r := by
  subst hc
  obtain ⟨va, h1, hx⟩ := evg_rel h
  obtain ⟨vb, h2, hy⟩ := evg_rel h1
  clear h h1
  split at h2
  · rename_i p r hE
    obtain ⟨hp, hK⟩ := h2
    refine ⟨r, ?_, hK⟩
    intro σ' hle hd B w0 Dm φ kp a w hDm hR hg Q1 Q2 hk
    have rx := hx _ _ _ _ hg (ev_le hle hR x)
    have ry := hy _ _ _ _ hg (ev_le hle hR y)
    unfold apE at hE
    split at hE
    · cases hE
    · rename_i e sz by_ hel
      obtain ⟨i, ht, hi, hsz, hby⟩ := elI_some hel
      split at hE
      · cases hE
      · rename_i ys cons hsrc
        obtain ⟨ad', c', Gs, s1, s2, s3, s4, s5, s6, s7, s8⟩ := srcE_rel hle hR hsrc ry
        have key : ∀ {xs : List (List D)} {upd : List (Nat × H)} {ad : Option Addr} {c : Nat} {G : List Nat}, (zrI P e).map List.length = some sz → 0 < by_ → (xs.length + ys.length) * by_ ≤ 140737488355328 → a.eval x = .slice ad xs.length c → Base σ' φ w sz xs upd ad c G →
            (∀ q ∈ upd, ∀ off l, vb ≠ .sl q.1 off l) → (∀ q ∈ upd, (hget σ'.heap q.1).live = true) → r = ⟨.sl n 0 (xs.length + ys.length), [.arr sz (xs ++ ys) true], upd ++ cons⟩ → o.wp P a w Q1 Q2 := by
          intro xs upd ad c G hz hb hf hu hbase hq hql hr
          subst hr
          cases hzr : zrI P e with
          | none => rw [hzr] at hz; cases hz
          | some vs =>
            rw [hzr] at hz
            obtain ⟨i', z, hi', hz1, hz2⟩ := zrI_rel hzr
            rw [hi] at hi'; cases hi'
            have hzl : z.cells.size = i.size := by
              have := VRels_len _ _ (hz2 φ (fun _ => True) #[])
              simp only [Option.map_some, Option.some.injEq] at hz
              rw [hsz, ← hz, ← this]; simp
            subst hsz
            obtain ⟨w', φ', u, e1, e2, e3⟩ := append_core (P := P) (ty := o.type) hR (n := n) (hd n (Nat.le_refl _) (by simp)) (hDm n (Nat.le_refl _) (by simp)) ht hi hz1 hzl (by rw [hby]; exact hb) (by rw [hby]; exact hf) hbase (ad' := ad') (c' := c') (Gs := Gs)
              (by
                rcases s3 with s3 | ⟨b, f, t1, t2, t3, _⟩
                · exact .inl s3
                · exact .inr ⟨b, f, t1, t2, t3⟩) s4 s5 s6 s7
              (fun p hp q hq' he => by
                obtain ⟨off, l, h1⟩ := s8 p hp
                exact hq q hq' off l (by rw [h1, he]))
              (fun b f h1 h2 q hq' β h3 h4 => by
                rcases s3 with s3 | ⟨b', f', t1, t2, t3, t4⟩
                · exact h2 s3.1
                · rw [t1] at h1; simp only [Option.some.injEq, Addr.mk.injEq] at h1
                  obtain ⟨off, l, h5⟩ := t4 q.1 β h3 (by rw [h1.1]; exact h4) (hql q hq')
                  exact hq q hq' off l h5)
            unfold Oper.wp
            have hrun : (execOp a.eval o).run P w = .ok (.value u) w' := by
              unfold execOp; rw [ho]
              simp [resolve, invoke, builtin, hu, s1, e1]
            rw [hrun, Oper.upon_value]
            exact hk _ _ _ (R_put e2 o.dst (e3 _ _))
        split at hE
        · rename_i s
          simp only [Option.some.injEq, Prod.mk.injEq] at hE
          obtain ⟨rfl, rfl⟩ := hE
          simp only [VRel] at rx
          refine key (xs := []) (upd := []) (G := []) hp.1 hp.2.1 (by simpa using hp.2.2) rx ⟨by simp, by decide, List.nodup_nil, by simp, .inl rfl, .inl ⟨rfl, rfl, rfl⟩⟩ (by simp) (by simp) (by simp)
        · rename_i id len
          split at hE
          · rename_i s xs hx0
            split at hE
            · rename_i hs; subst hs
              simp only [Option.some.injEq, Prod.mk.injEq] at hE
              obtain ⟨rfl, rfl⟩ := hE
              obtain ⟨p1, p2, p3, p4, p5⟩ := hp
              have hx' : hget σ'.heap id = .arr s xs true := by
                rcases hle.2 id with hh | hh
                · rw [hx0] at hh; cases hh
                · rw [hh, hx0]
              obtain ⟨β, ad, cc, q1, q2, q3, q4, q5⟩ := rel_sl rx
              have hbase : ∃ G, Base σ' φ w s xs [(id, .dead)] ad cc G := by
                have hup : ([(id, H.dead)] : List (Nat × H)) = [] ∨ ∃ id' s ys, [(id, H.dead)] = [(id', H.dead)] ∧ hget σ'.heap id' = .arr s ys true := .inr ⟨id, s, xs, rfl, hx'⟩
                have hnil : cc = 0 ∧ len = 0 → ∃ G, Base σ' φ w s xs [(id, .dead)] ad cc G := fun h0 =>
                  ⟨[], by omega, q4, List.nodup_nil, by simp, hup, .inl ⟨h0.1, List.eq_nil_of_length_eq_zero (by omega), rfl⟩⟩
                rcases q5 with q5 | ⟨b, q5, q6, q7⟩
                · exact hnil ⟨q5.1, q5.2.1⟩
                · rcases hR.hp id with hd' | ⟨β', e1, hr⟩
                  · rw [hx'] at hd'; cases hd'
                  · rw [q1] at e1; cases e1
                    rw [hx'] at hr; simp only [HRel] at hr
                    obtain ⟨hr1, hr⟩ := hr
                    rcases hr with hr | ⟨b', G, r1, r2, r3, r4, r5, r6⟩
                    · rw [q5] at hr; cases hr.1
                    · rw [q5] at r1; cases r1
                      have ho2 := hR.o2 id β q1 (by rw [hx']; rfl)
                      have hGn := r5 trivial
                      refine ⟨G, by omega, q4, by rw [hGn]; exact ho2.1, fun g hg => ⟨_, List.mem_singleton.2 rfl, β, q1, .inr ⟨by rw [hx']; rfl, by rw [← hGn]; exact hg⟩⟩, hup, .inr ⟨id, β, b, rfl, q1, q5, by rw [q6]; simp, by omega, hr1, r3, r4, by rw [hGn]; exact ho2.2 b q5⟩⟩
              obtain ⟨G, hbase⟩ := hbase
              refine key p1 p2 p4 (by rw [← p3]; exact q2) hbase ?_ ?_ rfl
              · intro q hq off l hv
                simp only [List.mem_singleton] at hq; subst hq
                subst hv
                simp [srcNot] at p5
              · intro q hq
                simp only [List.mem_singleton] at hq; subst hq
                rw [hx']; rfl
            · cases hE
          · cases hE
        · cases hE
  · exact h2.elim

end Gv
