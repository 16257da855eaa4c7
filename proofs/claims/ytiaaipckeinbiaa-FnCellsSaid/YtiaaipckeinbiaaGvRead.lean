/-
  The arguments of a claim, read as data of the machine.
-/
import Derived.Test.YtiaaipckeinbiaaGvRun
import GoSem.ClaimChange
namespace Gv
open Go

variable {P : Program}

def tight (P : Program) : Nat → List Field → Option Nat
  | off, [] => some off
  | off, fd :: fs => if fd.offset = off then tight P (off + P.cellsOf fd.type) fs else none

/-- Types of integers, truth values, strings, slices and structs of such. -/
def Laid (P : Program) : Nat → TypeId → Bool
  | 0, _ => false
  | f + 1, t =>
    match P.underlying t with
    | some .bool => decide (P.cellsOf t = 1)
    | some (.int _) => decide (P.cellsOf t = 1)
    | some .string => decide (P.cellsOf t = 1)
    | some (.slice e) => decide (P.cellsOf t = 1) && decide (0 < P.cellsOf e) && Laid P f e
    | some (.struct fs) => decide (tight P 0 fs.toList = some (P.cellsOf t)) && fs.toList.all fun fd => Laid P f fd.type
    | _ => false

/-- Data of a type. -/
def Fits (P : Program) : Nat → TypeId → List D → Prop
  | 0, _, _ => False
  | f + 1, t, ds =>
    match P.underlying t with
    | some .bool => ∃ b, ds = [.bool b]
    | some (.int k) => ∃ n, ds = [.int k n]
    | some .string => ∃ s, ds = [.str s]
    | some (.slice e) => ∃ xs, ds = [.sl (P.cellsOf e) xs] ∧ ∀ c ∈ xs, Fits P f e c
    | some (.struct fs) => ds.length = P.cellsOf t ∧ ∀ fd ∈ fs.toList, Fits P f fd.type ((ds.drop fd.offset).take (P.cellsOf fd.type))
    | _ => False

theorem mapM_at {α β : Type} (g : α → Option β) : ∀ (l : List α) (r : List β), l.mapM g = some r → r.length = l.length ∧ ∀ (i : Nat) (x : α), l[i]? = some x → ∃ y, g x = some y
  | [], r, h => by simp at h; subst h; simp
  | x :: l, r, h => by
    rw [List.mapM_cons] at h
    cases hx : g x with
    | none => rw [hx] at h; simp at h
    | some y =>
      rw [hx] at h
      cases hl : l.mapM g with
      | none => rw [hl] at h; simp at h
      | some ys =>
        rw [hl] at h
        simp at h; subst h
        obtain ⟨h1, h2⟩ := mapM_at g l ys hl
        refine ⟨by simp [h1], fun i z hz => ?_⟩
        cases i with
        | zero => simp at hz; subst hz; exact ⟨y, hx⟩
        | succ i => exact h2 i z (by simpa using hz)

theorem mapM_get {α β : Type} (g : α → Option β) : ∀ (l : List α) (r : List β), l.mapM g = some r → ∀ (i : Nat) (x : α), l[i]? = some x → g x = r[i]?
  | [], r, h, i, x, hx => by simp at hx
  | y :: l, r, h, i, x, hx => by
    rw [List.mapM_cons] at h
    cases hy : g y with
    | none => rw [hy] at h; simp at h
    | some z =>
      rw [hy] at h
      cases hl : l.mapM g with
      | none => rw [hl] at h; simp at h
      | some zs =>
        rw [hl] at h
        simp at h; subst h
        cases i with
        | zero => simp at hx; subst hx; simpa using hy
        | succ i => simpa using mapM_get g l zs hl i x (by simpa using hx)

theorem repE_build {h : Array Obj} {b f sz : Nat} {Q : List D → Prop} : ∀ (n : Nat), (∀ i, i < n → ∃ c G, repC h false b (f + i * sz) c G ∧ c.length = sz ∧ Q c) → ∃ xs G, xs.length = n ∧ repE h false b f sz xs G ∧ ∀ c ∈ xs, Q c
  | 0, _ => ⟨[], [], rfl, by simp [repE], by simp⟩
  | n + 1, hr => by
    obtain ⟨xs, G, h1, h2, h3⟩ := repE_build n fun i hi => hr i (by omega)
    obtain ⟨c, G', k1, k2, k3⟩ := hr n (by omega)
    refine ⟨xs ++ [c], G ++ G', by simp [h1], (repE_append _ _ _ _).2 ⟨G, G', rfl, h2, ?_⟩, fun d hd => ?_⟩
    · rw [h1]; exact repE_one.2 ⟨k2, k1⟩
    · rcases List.mem_append.1 hd with hd | hd
      · exact h3 d hd
      · rw [List.mem_singleton.1 hd]; exact k3

theorem reps_append {h : Array Obj} {o : Bool} : ∀ (ds es : List D) (us ws : List Value) (F G : List Nat), reps h o ds us F → reps h o es ws G → reps h o (ds ++ es) (us ++ ws) (F ++ G)
  | [], es, us, ws, F, G, r, r' => by simp only [reps] at r; rw [r.1, r.2]; simpa using r'
  | d :: ds, es, us, ws, F, G, r, r' => by
    simp only [reps] at r
    obtain ⟨u, us', F1, F2, rfl, rfl, r1, r2⟩ := r
    simp only [List.cons_append, reps]
    exact ⟨u, us' ++ ws, F1, F2 ++ G, rfl, by simp, r1, reps_append ds es us' ws F2 G r2 r'⟩

theorem reps_one {h : Array Obj} {o : Bool} {d : D} {u : Value} {F : List Nat} (r : rep h o d u F) : reps h o [d] [u] F := by
  simp only [reps]; exact ⟨u, [], F, [], rfl, by simp, r, rfl, rfl⟩

section
variable {H' : Type} {enc : TypeId × Value → H'} {w : World} {sp : Nat → Bool} {held : Bool}

theorem rp_int {h : Array Obj} {o : Bool} {k : IntKind} {n : Int} (e : k.min ≤ n ∧ n ≤ k.max) : rep h o (.int k n) (.int k n) [] := by unfold rep; exact ⟨rfl, rfl, e.1, e.2⟩
theorem rp_bool {h : Array Obj} {o : Bool} {b : Bool} : rep h o (.bool b) (.bool b) [] := by unfold rep; exact ⟨rfl, rfl⟩
theorem rp_str {h : Array Obj} {o : Bool} {s : ByteArray} (e : s.size ≤ maxLen) : rep h o (.str s.data.toList) (.string s) [] := by
  unfold rep
  refine ⟨by simp, rfl, ?_⟩
  rw [Array.length_toList]; exact e

theorem wf_int {k : IntKind} {n : Int} (h : (Lit.int k n).wf = true) : k.min ≤ n ∧ n ≤ k.max := by
  simpa [Lit.wf] using h

theorem trod_reps : ∀ (fuel f : Nat) (t : TypeId) (cs : List Value) (d : DataW H') (ps : List MemPlace), Laid P f t = true → DataW.trod enc P w 0 sp held fuel t cs = some (d, ps) →
    ∃ ds F, reps w.heap false ds cs F ∧ Fits P f t ds ∧ ds.length = P.cellsOf t := by
  intro fuel
  induction fuel with
  | zero => intro f t cs d ps _ h; simp [DataW.trod] at h
  | succ fuel ih =>
    intro f t cs d ps hL h
    cases f with
    | zero => simp [Laid] at hL
    | succ f =>
      cases hu : P.underlying t with
      | none => simp [Laid, hu] at hL
      | some D =>
        cases D with
        | bool =>
          simp only [Laid, hu, decide_eq_true_eq] at hL
          simp only [DataW.trod, hu] at h
          split at h <;> first | (exfalso; simp_all; done) | skip
          rename_i b _
          exact ⟨[.bool b], [], reps_one rp_bool, by simp [Fits, hu], by simp [hL]⟩
        | int k =>
          simp only [Laid, hu, decide_eq_true_eq] at hL
          simp only [DataW.trod, hu] at h
          split at h <;> first | (exfalso; simp_all; done) | skip
          rename_i k1 k' n e
          split at h
          · rename_i hk
            obtain ⟨rfl, hw⟩ := hk
            cases e
            exact ⟨[.int k n], [], reps_one (rp_int (wf_int hw)), by simp [Fits, hu], by simp [hL]⟩
          · cases h
        | string =>
          simp only [Laid, hu, decide_eq_true_eq] at hL
          simp only [DataW.trod, hu] at h
          split at h <;> first | (exfalso; simp_all; done) | skip
          rename_i s e
          split at h
          · rename_i hk
            refine ⟨[.str s.data.toList], [], reps_one (rp_str hk), by simp [Fits, hu], by simp [hL]⟩
          · cases h
        | slice e =>
          simp only [Laid, hu, Bool.and_eq_true, decide_eq_true_eq] at hL
          obtain ⟨⟨hL1, hL2⟩, hL3⟩ := hL
          simp only [DataW.trod, hu] at h
          split at h <;> first | (exfalso; simp_all; done) | skip
          · exact ⟨[.sl (P.cellsOf e) []], [], reps_one (by unfold rep; exact ⟨none, 0, rfl, by simp, by decide, .inl ⟨rfl, rfl, fun h => by cases h⟩⟩), by simp [Fits, hu], by simp [hL1]⟩
          · rename_i e' a len cap he
            cases he
            split at h
            · rename_i hc
              obtain ⟨_, hc1, hc2⟩ := hc
              simp only [Option.bind_eq_some_iff] at h
              obtain ⟨elems, h1, h2⟩ := h
              obtain ⟨h3, h4⟩ := mapM_at _ _ _ h1
              have hel : ∀ i, i < len → ∃ c G, repC w.heap false a.block (a.off + i * P.cellsOf e) c G ∧ c.length = P.cellsOf e ∧ Fits P f e c ∧ (i = 0 → a.spot = none) := by
                intro i hi
                obtain ⟨y, hy⟩ := h4 i i (by simp [hi])
                simp only [Option.bind_eq_some_iff] at hy
                obtain ⟨cs, hcs, hy⟩ := hy
                unfold World.cells? at hcs
                rw [if_pos (Nat.zero_le _)] at hcs
                have hget := mapM_get _ _ _ hcs
                have hlen := (mapM_at _ _ _ hcs).1
                simp only [List.length_range] at hlen
                obtain ⟨ds, F, r1, r2, r3⟩ := ih f e cs y.1 y.2 hL3 hy
                have hcell : ∀ j, j < P.cellsOf e → w.cell? ((a.add (i * P.cellsOf e)).add j) = cs[j]? := fun j hj => hget j j (by simp [hj])
                have hspot : a.spot = none ∨ i * P.cellsOf e ≠ 0 := by
                  by_cases hz : i * P.cellsOf e = 0
                  · left
                    have h0 := hcell 0 hL2
                    rw [hz] at h0
                    simp only [Addr.add, if_true] at h0
                    rw [List.getElem?_eq_getElem (by omega)] at h0
                    unfold World.cell? at h0
                    split at h0
                    · split at h0
                      · cases h0
                      · rename_i hh; simpa using hh
                    · cases h0
                  · exact .inr hz
                have hadd : (a.add (i * P.cellsOf e)) = ⟨a.block, a.off + i * P.cellsOf e, none⟩ := by
                  unfold Addr.add
                  split
                  · rename_i hz
                    rw [hz] at hspot ⊢
                    have := hspot.resolve_right (fun h => h rfl)
                    rw [Nat.add_zero, ← this]
                  · rfl
                refine ⟨ds, F, reps_repC ds cs _ F r1 fun j u hj => ?_, by rw [r3], r2, ?_⟩
                · have hjl : j < P.cellsOf e := by
                    rw [← hlen]; exact (List.getElem?_eq_some_iff.1 hj).1
                  have := hcell j hjl
                  rw [hadd, add_lit, cell_eq, hj] at this
                  exact this
                · intro hi0
                  subst hi0
                  exact hspot.resolve_right (by simp)
              simp only [Option.map_eq_some_iff] at h2
              have hb := repE_build (h := w.heap) (b := a.block) (f := a.off) (sz := P.cellsOf e) (Q := Fits P f e) len fun i hi => by
                obtain ⟨c, G, r1, r2, r3, _⟩ := hel i hi
                exact ⟨c, G, r1, r2, r3⟩
              obtain ⟨xs, G, x1, x2, x3⟩ := hb
              have hblk : xs ≠ [] → a.block < w.heap.size ∧ a = ⟨a.block, a.off, none⟩ := by
                intro hne
                have hpos : 0 < len := by rw [← x1]; exact List.length_pos_iff.2 hne
                obtain ⟨c, G', r1, r2, r3, r4⟩ := hel 0 hpos
                refine ⟨?_, by rw [← r4 rfl]⟩
                cases c with
                | nil => simp at r2; omega
                | cons d ds =>
                  simp only [repC] at r1
                  obtain ⟨v, _, _, _, e2, _⟩ := r1
                  exact cellAt_lt e2
              refine ⟨[.sl (P.cellsOf e) xs], if xs = [] then [] else a.block :: G, reps_one ?_, by simp [Fits, hu]; exact x3, by simp [hL1]⟩
              unfold rep
              refine ⟨some a, cap, by rw [x1], by omega, hc2, ?_⟩
              by_cases hne : xs = []
              · left; exact ⟨hne, by rw [if_pos hne], fun h => by cases h⟩
              · right
                obtain ⟨b1, b2⟩ := hblk hne
                exact ⟨a.block, a.off, G, by rw [← b2], by rw [if_neg hne], b1, x2, fun h => by cases h⟩
            · cases h
        | struct fs =>
          simp only [Laid, hu, Bool.and_eq_true, decide_eq_true_eq, List.all_eq_true] at hL
          obtain ⟨hL1, hL2⟩ := hL
          simp only [DataW.trod, hu] at h
          split at h
          · rename_i hcl
            simp only [Option.map_eq_some_iff] at h
            obtain ⟨xs, h1, h2⟩ := h
            have key : ∀ (l : List Field) (off tot : Nat) (xs : List (DataW H' × List MemPlace)), tight P off l = some tot → tot ≤ cs.length → (∀ fd ∈ l, Laid P f fd.type = true) → (l.mapM fun g => DataW.trod enc P w 0 sp held fuel g.type ((cs.drop g.offset).take (P.cellsOf g.type))) = some xs →
                off ≤ tot ∧ ∃ ds F, reps w.heap false ds ((cs.drop off).take (tot - off)) F ∧ ds.length = tot - off ∧ ∀ fd ∈ l, off ≤ fd.offset ∧ Fits P f fd.type ((ds.drop (fd.offset - off)).take (P.cellsOf fd.type)) := by
              intro l
              induction l with
              | nil =>
                intro off tot xs ht _ _ _
                simp only [tight, Option.some.injEq] at ht
                subst ht
                exact ⟨Nat.le_refl _, [], [], by simp [reps], by simp, by simp⟩
              | cons fd l ihl =>
                intro off tot xs ht htl hla hm
                simp only [tight] at ht
                split at ht
                · rename_i hoff
                  rw [List.mapM_cons] at hm
                  cases hx : DataW.trod enc P w 0 sp held fuel fd.type ((cs.drop fd.offset).take (P.cellsOf fd.type)) with
                  | none => rw [hx] at hm; simp at hm
                  | some y =>
                    rw [hx] at hm
                    cases hl : (l.mapM fun g => DataW.trod enc P w 0 sp held fuel g.type ((cs.drop g.offset).take (P.cellsOf g.type))) with
                    | none => rw [hl] at hm; simp at hm
                    | some ys =>
                      obtain ⟨k1, ds', F', k2, k3, k4⟩ := ihl (off + P.cellsOf fd.type) tot ys ht htl (fun g hg => hla g (by simp [hg])) hl
                      obtain ⟨ds, F, r1, r2, r3⟩ := ih f fd.type _ y.1 y.2 (hla fd (by simp)) hx
                      rw [hoff] at r1
                      refine ⟨by omega, ds ++ ds', F ++ F', ?_, by rw [List.length_append, r3, k3]; omega, fun g hg => ?_⟩
                      · have e : (cs.drop off).take (tot - off) = (cs.drop off).take (P.cellsOf fd.type) ++ (cs.drop (off + P.cellsOf fd.type)).take (tot - (off + P.cellsOf fd.type)) := by
                          rw [← List.drop_drop, show tot - off = P.cellsOf fd.type + (tot - (off + P.cellsOf fd.type)) from by omega, List.take_add]
                        rw [e]
                        exact reps_append _ _ _ _ _ _ r1 k2
                      · rcases List.mem_cons.1 hg with rfl | hg
                        · refine ⟨by omega, ?_⟩
                          rw [hoff, Nat.sub_self, List.drop_zero, List.take_append_of_le_length (by omega), List.take_of_length_le (by omega)]
                          exact r2
                        · obtain ⟨m1, m2⟩ := k4 g hg
                          refine ⟨by omega, ?_⟩
                          rw [List.drop_append, List.drop_eq_nil_of_le (by omega), List.nil_append, show g.offset - off - ds.length = g.offset - (off + P.cellsOf fd.type) from by omega]
                          exact m2
                · cases ht
            obtain ⟨_, ds, F, k1, k2, k3⟩ := key fs.toList 0 (P.cellsOf t) xs hL1 (by omega) hL2 h1
            refine ⟨ds, F, ?_, ?_, by simpa using k2⟩
            · rw [List.drop_zero, Nat.sub_zero, List.take_of_length_le (by omega)] at k1; exact k1
            · simp only [Fits, hu]
              exact ⟨by simpa using k2, fun fd hfd => by have := (k3 fd hfd).2; rw [Nat.sub_zero] at this; exact this⟩
          · cases h
        | _ => simp [Laid, hu] at hL
end


/-- Data of a type, as an argument. -/
def FitsA (P : Program) (f : Nat) (t : TypeId) (a : AD) : Prop :=
  match P.underlying t with
  | some (.struct _) => ∃ ds, a = .agg ds ∧ Fits P f t ds
  | _ => ∃ d, a = .one d ∧ Fits P f t [d]

section
variable {H' : Type} {enc : TypeId × Value → H'} {w : World} {sp : Nat → Bool} {held : Bool}

theorem cells_one {v : Value} (h : ∀ cs, v ≠ .agg cs) : v.cells.toList = [v] := by
  cases v <;> first | rfl | exact absurd rfl (h _)

/-- An argument of a claim, as data of the machine. -/
theorem arg_read {f : Nat} {t : TypeId} {v : Value} {d : DataW H'} {ps : List MemPlace} {r : Reach} {base : Nat} (hL : Laid P f t = true) (hv : Value.okWide P w r base t v) (h : DataW.Trod enc P w 0 sp held t v d ps) :
    ∃ a F, arep w.heap false a v F ∧ FitsA P f t a := by
  obtain ⟨fuel, h⟩ := h
  obtain ⟨ds, F, h1, h2, h3⟩ := trod_reps fuel f t _ d ps hL h
  cases f with
  | zero => simp [Laid] at hL
  | succ f =>
    have one : (∀ cs, v ≠ .agg cs) → (∀ fs, P.underlying t ≠ some (.struct fs)) → ∃ a F, arep w.heap false a v F ∧ FitsA P (f + 1) t a := by
      intro hne hns
      rw [cells_one hne] at h1
      match ds, h1 with
      | [], h1 => simp [reps] at h1
      | [x], h1 =>
        simp only [reps] at h1
        obtain ⟨u, us', F1, F2, e, _, r1, _⟩ := h1
        cases e
        refine ⟨.one x, F1, r1, ?_⟩
        unfold FitsA
        split
        · rename_i fs hu; exact absurd hu (hns fs)
        · exact ⟨x, rfl, h2⟩
      | x :: y :: l, h1 =>
        simp only [reps] at h1
        obtain ⟨u, us', F1, F2, e, _, r1, u2, us2, _, _, e2, _⟩ := h1
        cases e; cases e2
    cases hu : P.underlying t with
    | none => simp [Laid, hu] at hL
    | some D =>
      cases D with
      | struct fs =>
        simp only [Value.okWide, hu] at hv
        obtain ⟨cs, rfl, _, _⟩ := hv
        exact ⟨.agg ds, F, ⟨cs, rfl, h1⟩, by simp only [FitsA, hu]; exact ⟨ds, rfl, h2⟩⟩
      | bool => exact one (fun cs e => by subst e; simp [Value.okWide, hu, Cell.okWide, Cell.ok] at hv) (fun fs e => by rw [hu] at e; cases e)
      | int k => exact one (fun cs e => by subst e; simp [Value.okWide, hu, Cell.okWide, Cell.ok] at hv) (fun fs e => by rw [hu] at e; cases e)
      | string => exact one (fun cs e => by subst e; simp [Value.okWide, hu, Cell.okWide, Cell.ok] at hv) (fun fs e => by rw [hu] at e; cases e)
      | slice e' => exact one (fun cs e => by subst e; simp [Value.okWide, hu, Cell.okWide, Cell.ok] at hv) (fun fs e => by rw [hu] at e; cases e)
      | _ => simp [Laid, hu] at hL
end

end Gv
