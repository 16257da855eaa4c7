/-
  The data that a world holds, as seen by an abstract machine: pure data, their representation in memory with its footprint, and the laws of that relation. No program is named here.
-/
import Derived.Calls
import Derived.Orders
import Derived.Below
import Derived.Laws.Cells
import Derived.Laws.CopyRow
namespace Gv
open Go

/-- Pure data: an element of a slice is the list of its cells. -/
inductive D where
  | int (k : IntKind) (n : Int)
  | bool (b : Bool)
  | str (s : List UInt8)
  | sl (sz : Nat) (xs : List (List D))

def cellAt (h : Array Obj) (b o : Nat) : Option Value :=
  match h[b]? with
  | some (.cells c _ _) => c[o]?
  | _ => none

theorem cell_eq (w : World) (b o : Nat) : w.cell? ⟨b, o, none⟩ = cellAt w.heap b o := by
  unfold World.cell? cellAt
  cases w.heap[b]? with
  | none => rfl
  | some x => cases x <;> rfl

theorem cellAt_congr {h h' : Array Obj} {b : Nat} (e : h'[b]? = h[b]?) (o : Nat) : cellAt h' b o = cellAt h b o := by
  unfold cellAt; rw [e]

theorem cellAt_lt {h : Array Obj} {b o : Nat} {v : Value} (e : cellAt h b o = some v) : b < h.size := by
  rcases Nat.lt_or_ge b h.size with h' | h'
  · exact h'
  · unfold cellAt at e; rw [Array.getElem?_eq_none h'] at e; cases e

/-- Block b is a row of cells that may be written, at least n of them. -/
def roomy (h : Array Obj) (b n : Nat) : Prop := ∃ cs e, h[b]? = some (.cells cs e (0, 0)) ∧ n ≤ cs.size

mutual
/-- The value v is the datum, the slices' blocks are the footprint. 'o': the slices are owned: their capacity may be written too. -/
def rep (h : Array Obj) (o : Bool) : D → Value → List Nat → Prop
  | .int k n, v, F => v = .int k n ∧ F = [] ∧ k.min ≤ n ∧ n ≤ k.max
  | .bool b, v, F => v = .bool b ∧ F = []
  | .str s, v, F => v = .string ⟨s.toArray⟩ ∧ F = [] ∧ s.length ≤ maxLen
  | .sl sz xs, v, F => ∃ a c, v = .slice a xs.length c ∧ xs.length ≤ c ∧ c ≤ maxLen ∧
      ((xs = [] ∧ F = [] ∧ (o = true → c = 0)) ∨
       ∃ b f G, a = some ⟨b, f, none⟩ ∧ F = b :: G ∧ b < h.size ∧ repE h o b f sz xs G ∧ (o = true → 0 < c ∧ roomy h b (f + c * sz)))
def repC (h : Array Obj) (o : Bool) (b : Nat) : Nat → List D → List Nat → Prop
  | _, [], G => G = []
  | f, d :: ds, G => ∃ v G1 G2, G = G1 ++ G2 ∧ cellAt h b f = some v ∧ rep h o d v G1 ∧ repC h o b (f + 1) ds G2
def repE (h : Array Obj) (o : Bool) (b : Nat) : Nat → Nat → List (List D) → List Nat → Prop
  | _, _, [], G => G = []
  | f, sz, c :: cs, G => ∃ G1 G2, G = G1 ++ G2 ∧ c.length = sz ∧ repC h o b f c G1 ∧ repE h o b (f + sz) sz cs G2
end

theorem roomy.mono {h h' : Array Obj} {b n : Nat} (e : h'[b]? = h[b]?) (r : roomy h b n) : roomy h' b n := by
  obtain ⟨cs, t, h1, h2⟩ := r
  exact ⟨cs, t, by rw [e]; exact h1, h2⟩

theorem roomy.lt {h : Array Obj} {b n : Nat} (r : roomy h b n) : b < h.size := by
  obtain ⟨cs, t, h1, _⟩ := r
  rcases Nat.lt_or_ge b h.size with h' | h'
  · exact h'
  · rw [Array.getElem?_eq_none h'] at h1; cases h1

mutual
theorem rep_mono {h h' : Array Obj} {o : Bool} (hs : h.size ≤ h'.size) : ∀ (d : D) (v : Value) (F : List Nat), (∀ b ∈ F, h'[b]? = h[b]?) → rep h o d v F → rep h' o d v F
  | .int k n, v, F, _, r => by simpa [rep] using r
  | .bool b, v, F, _, r => by simpa [rep] using r
  | .str s, v, F, _, r => by simpa [rep] using r
  | .sl sz xs, v, F, hF, r => by
    simp only [rep] at r ⊢
    obtain ⟨a, c, h1, h2, h3, h4⟩ := r
    refine ⟨a, c, h1, h2, h3, ?_⟩
    rcases h4 with h4 | ⟨b, f, G, e1, e2, e3, e4, e5⟩
    · exact .inl h4
    · subst e2
      exact .inr ⟨b, f, G, e1, rfl, by omega, repE_mono hs xs b f sz G (hF b (by simp)) (fun g hg => hF g (by simp [hg])) e4, fun ho => ⟨(e5 ho).1, (e5 ho).2.mono (hF b (by simp))⟩⟩
theorem repC_mono {h h' : Array Obj} {o : Bool} (hs : h.size ≤ h'.size) : ∀ (ds : List D) (b f : Nat) (G : List Nat), h'[b]? = h[b]? → (∀ g ∈ G, h'[g]? = h[g]?) → repC h o b f ds G → repC h' o b f ds G
  | [], _, _, _, _, _, r => by simpa [repC] using r
  | d :: ds, b, f, G, hb, hG, r => by
    simp only [repC] at r ⊢
    obtain ⟨v, G1, G2, e1, e2, e3, e4⟩ := r
    subst e1
    exact ⟨v, G1, G2, rfl, by rw [cellAt_congr hb]; exact e2, rep_mono hs d v G1 (fun g hg => hG g (by simp [hg])) e3, repC_mono hs ds b (f + 1) G2 hb (fun g hg => hG g (by simp [hg])) e4⟩
theorem repE_mono {h h' : Array Obj} {o : Bool} (hs : h.size ≤ h'.size) : ∀ (cs : List (List D)) (b f sz : Nat) (G : List Nat), h'[b]? = h[b]? → (∀ g ∈ G, h'[g]? = h[g]?) → repE h o b f sz cs G → repE h' o b f sz cs G
  | [], _, _, _, _, _, _, r => by simpa [repE] using r
  | c :: cs, b, f, sz, G, hb, hG, r => by
    simp only [repE] at r ⊢
    obtain ⟨G1, G2, e1, e2, e3, e4⟩ := r
    subst e1
    exact ⟨G1, G2, rfl, e2, repC_mono hs c b f G1 hb (fun g hg => hG g (by simp [hg])) e3, repE_mono hs cs b (f + sz) sz G2 hb (fun g hg => hG g (by simp [hg])) e4⟩
end

mutual
theorem rep_lt {h : Array Obj} {o : Bool} : ∀ (d : D) (v : Value) (F : List Nat), rep h o d v F → ∀ b ∈ F, b < h.size
  | .int k n, v, F, r => by simp only [rep] at r; simp [r.2.1]
  | .bool b, v, F, r => by simp only [rep] at r; simp [r.2]
  | .str s, v, F, r => by simp only [rep] at r; simp [r.2.1]
  | .sl sz xs, v, F, r => by
    simp only [rep] at r
    obtain ⟨a, c, h1, h2, h3, h4⟩ := r
    rcases h4 with h4 | ⟨b, f, G, e1, e2, e3, e4, e5⟩
    · simp [h4.2.1]
    · subst e2
      intro g hg
      rcases List.mem_cons.1 hg with rfl | hg
      · exact e3
      · exact repE_lt xs b f sz G e4 g hg
theorem repC_lt {h : Array Obj} {o : Bool} : ∀ (ds : List D) (b f : Nat) (G : List Nat), repC h o b f ds G → ∀ g ∈ G, g < h.size
  | [], _, _, _, r => by simp only [repC] at r; simp [r]
  | d :: ds, b, f, G, r => by
    simp only [repC] at r
    obtain ⟨v, G1, G2, e1, e2, e3, e4⟩ := r
    subst e1
    intro g hg
    rcases List.mem_append.1 hg with hg | hg
    · exact rep_lt d v G1 e3 g hg
    · exact repC_lt ds b (f + 1) G2 e4 g hg
theorem repE_lt {h : Array Obj} {o : Bool} : ∀ (cs : List (List D)) (b f sz : Nat) (G : List Nat), repE h o b f sz cs G → ∀ g ∈ G, g < h.size
  | [], _, _, _, _, r => by simp only [repE] at r; simp [r]
  | c :: cs, b, f, sz, G, r => by
    simp only [repE] at r
    obtain ⟨G1, G2, e1, e2, e3, e4⟩ := r
    subst e1
    intro g hg
    rcases List.mem_append.1 hg with hg | hg
    · exact repC_lt c b f G1 e3 g hg
    · exact repE_lt cs b (f + sz) sz G2 e4 g hg
end

mutual
/-- Owned is more than readable. -/
theorem rep_false {h : Array Obj} : ∀ (d : D) (v : Value) (F : List Nat), rep h true d v F → rep h false d v F
  | .int k n, v, F, r => by simpa [rep] using r
  | .bool b, v, F, r => by simpa [rep] using r
  | .str s, v, F, r => by simpa [rep] using r
  | .sl sz xs, v, F, r => by
    simp only [rep] at r ⊢
    obtain ⟨a, c, h1, h2, h3, h4⟩ := r
    refine ⟨a, c, h1, h2, h3, ?_⟩
    rcases h4 with h4 | ⟨b, f, G, e1, e2, e3, e4, e5⟩
    · exact .inl ⟨h4.1, h4.2.1, fun e => by cases e⟩
    · exact .inr ⟨b, f, G, e1, e2, e3, repE_false xs b f sz G e4, fun e => by cases e⟩
theorem repC_false {h : Array Obj} : ∀ (ds : List D) (b f : Nat) (G : List Nat), repC h true b f ds G → repC h false b f ds G
  | [], _, _, _, r => by simpa [repC] using r
  | d :: ds, b, f, G, r => by
    simp only [repC] at r ⊢
    obtain ⟨v, G1, G2, e1, e2, e3, e4⟩ := r
    exact ⟨v, G1, G2, e1, e2, rep_false d v G1 e3, repC_false ds b (f + 1) G2 e4⟩
theorem repE_false {h : Array Obj} : ∀ (cs : List (List D)) (b f sz : Nat) (G : List Nat), repE h true b f sz cs G → repE h false b f sz cs G
  | [], _, _, _, _, r => by simpa [repE] using r
  | c :: cs, b, f, sz, G, r => by
    simp only [repE] at r ⊢
    obtain ⟨G1, G2, e1, e2, e3, e4⟩ := r
    exact ⟨G1, G2, e1, e2, repC_false c b f G1 e3, repE_false cs b (f + sz) sz G2 e4⟩
end

/-! ### Parts of a row -/

theorem repC_append {h : Array Obj} {o : Bool} {b : Nat} : ∀ (ds es : List D) (f : Nat) (G : List Nat), repC h o b f (ds ++ es) G ↔ ∃ G1 G2, G = G1 ++ G2 ∧ repC h o b f ds G1 ∧ repC h o b (f + ds.length) es G2
  | [], es, f, G => by
    simp only [List.nil_append, repC, List.length_nil, Nat.add_zero]
    exact ⟨fun r => ⟨[], G, rfl, rfl, r⟩, fun ⟨G1, G2, e, e1, r⟩ => by subst e1; rw [e]; exact r⟩
  | d :: ds, es, f, G => by
    simp only [List.cons_append, repC, List.length_cons]
    constructor
    · rintro ⟨v, G1, G2, rfl, e2, e3, e4⟩
      obtain ⟨H1, H2, rfl, k1, k2⟩ := (repC_append ds es (f + 1) G2).1 e4
      exact ⟨G1 ++ H1, H2, by simp, ⟨v, G1, H1, rfl, e2, e3, k1⟩, by rw [show f + (ds.length + 1) = f + 1 + ds.length from by omega]; exact k2⟩
    · rintro ⟨G1, G2, rfl, ⟨v, H1, H2, rfl, e2, e3, e4⟩, k⟩
      refine ⟨v, H1, H2 ++ G2, by simp, e2, e3, (repC_append ds es (f + 1) _).2 ⟨H2, G2, rfl, e4, ?_⟩⟩
      rw [show f + 1 + ds.length = f + (ds.length + 1) from by omega]; exact k

theorem repE_append {h : Array Obj} {o : Bool} {b sz : Nat} : ∀ (cs ds : List (List D)) (f : Nat) (G : List Nat), repE h o b f sz (cs ++ ds) G ↔ ∃ G1 G2, G = G1 ++ G2 ∧ repE h o b f sz cs G1 ∧ repE h o b (f + cs.length * sz) sz ds G2
  | [], ds, f, G => by
    simp only [List.nil_append, repE, List.length_nil, Nat.zero_mul, Nat.add_zero]
    exact ⟨fun r => ⟨[], G, rfl, rfl, r⟩, fun ⟨G1, G2, e, e1, r⟩ => by subst e1; rw [e]; exact r⟩
  | c :: cs, ds, f, G => by
    simp only [List.cons_append, repE, List.length_cons]
    have hf : f + sz + cs.length * sz = f + (cs.length + 1) * sz := by rw [Nat.add_mul]; omega
    constructor
    · rintro ⟨G1, G2, rfl, e2, e3, e4⟩
      obtain ⟨H1, H2, rfl, k1, k2⟩ := (repE_append cs ds (f + sz) G2).1 e4
      exact ⟨G1 ++ H1, H2, by simp, ⟨G1, H1, rfl, e2, e3, k1⟩, by rw [← hf]; exact k2⟩
    · rintro ⟨G1, G2, rfl, ⟨H1, H2, rfl, e2, e3, e4⟩, k⟩
      exact ⟨H1, H2 ++ G2, by simp, e2, e3, (repE_append cs ds (f + sz) _).2 ⟨H2, G2, rfl, e4, by rw [hf]; exact k⟩⟩

theorem repE_one {h : Array Obj} {o : Bool} {b sz : Nat} {c : List D} {f : Nat} {G : List Nat} : repE h o b f sz [c] G ↔ c.length = sz ∧ repC h o b f c G := by
  simp only [repE]
  exact ⟨fun ⟨G1, G2, e, e1, r, e2⟩ => ⟨e1, by subst e2; rw [e, List.append_nil]; exact r⟩, fun ⟨e1, r⟩ => ⟨G, [], by simp, e1, r, rfl⟩⟩

/-- The i-th element of a row. -/
theorem repE_at {h : Array Obj} {o : Bool} {b sz : Nat} {cs : List (List D)} {f : Nat} {G : List Nat} (r : repE h o b f sz cs G) {i : Nat} {c : List D} (hi : cs[i]? = some c) :
    ∃ G1 Gi G2, G = G1 ++ (Gi ++ G2) ∧ c.length = sz ∧ repE h o b f sz (cs.take i) G1 ∧ repC h o b (f + i * sz) c Gi ∧ repE h o b (f + (i + 1) * sz) sz (cs.drop (i + 1)) G2 := by
  have hlt : i < cs.length := (List.getElem?_eq_some_iff.1 hi).1
  have hc : cs[i] = c := (List.getElem?_eq_some_iff.1 hi).2
  have e : cs = cs.take i ++ (c :: cs.drop (i + 1)) := by
    rw [← hc, List.getElem_cons_drop, List.take_append_drop]
  rw [e] at r
  obtain ⟨G1, G2, rfl, r1, r2⟩ := (repE_append _ _ _ _).1 r
  simp only [repE] at r2
  obtain ⟨H1, H2, rfl, e2, e3, e4⟩ := r2
  have hl : (cs.take i).length = i := by simp; omega
  rw [hl] at e3 e4
  refine ⟨G1, H1, H2, rfl, e2, r1, e3, ?_⟩
  rw [Nat.add_mul, Nat.one_mul, ← Nat.add_assoc]; exact e4

/-- The j-th cell of an element. -/
theorem repC_at {h : Array Obj} {o : Bool} {b : Nat} {ds : List D} {f : Nat} {G : List Nat} (r : repC h o b f ds G) {j : Nat} {d : D} (hj : ds[j]? = some d) :
    ∃ v Gj, (∀ g ∈ Gj, g ∈ G) ∧ cellAt h b (f + j) = some v ∧ rep h o d v Gj := by
  have hlt : j < ds.length := (List.getElem?_eq_some_iff.1 hj).1
  have hc : ds[j] = d := (List.getElem?_eq_some_iff.1 hj).2
  have e : ds = ds.take j ++ (d :: ds.drop (j + 1)) := by
    rw [← hc, List.getElem_cons_drop, List.take_append_drop]
  rw [e] at r
  obtain ⟨G1, G2, rfl, r1, r2⟩ := (repC_append _ _ _ _).1 r
  simp only [repC] at r2
  obtain ⟨v, H1, H2, rfl, e2, e3, e4⟩ := r2
  have hl : (ds.take j).length = j := by simp; omega
  rw [hl] at e2
  exact ⟨v, H1, fun g hg => by simp [hg], e2, e3⟩

/-- Cells of one element, all of them, as values. -/
theorem repC_vals {h : Array Obj} {o : Bool} {b : Nat} : ∀ (ds : List D) (f : Nat) (G : List Nat), repC h o b f ds G → ∃ us : List Value, us.length = ds.length ∧ (∀ (j : Nat) (u : Value), us[j]? = some u → cellAt h b (f + j) = some u) ∧
    (∀ (j : Nat) (d : D) (u : Value), ds[j]? = some d → us[j]? = some u → ∃ Gj, (∀ g ∈ Gj, g ∈ G) ∧ rep h o d u Gj)
  | [], f, G, r => ⟨[], rfl, by simp, by simp⟩
  | d :: ds, f, G, r => by
    simp only [repC] at r
    obtain ⟨v, G1, G2, rfl, e2, e3, e4⟩ := r
    obtain ⟨us, h1, h2, h3⟩ := repC_vals ds (f + 1) G2 e4
    refine ⟨v :: us, by simp [h1], ?_, ?_⟩
    · intro j u hj
      cases j with
      | zero => simp at hj; subst hj; simpa using e2
      | succ j =>
        have := h2 j u (by simpa using hj)
        rw [show f + (j + 1) = f + 1 + j from by omega]; exact this
    · intro j d' u hd hu
      cases j with
      | zero => simp at hd hu; subst hd; subst hu; exact ⟨G1, fun g hg => by simp [hg], e3⟩
      | succ j =>
        obtain ⟨Gj, k1, k2⟩ := h3 j d' u (by simpa using hd) (by simpa using hu)
        exact ⟨Gj, fun g hg => by simp [k1 g hg], k2⟩

theorem oneCell_rep {h : Array Obj} {o : Bool} {d : D} {v : Value} {F : List Nat} (r : rep h o d v F) : v.oneCell' = true := by
  cases d <;> simp only [rep] at r
  · rw [r.1]; rfl
  · rw [r.1]; rfl
  · rw [r.1]; rfl
  · obtain ⟨a, c, h1, _⟩ := r; rw [h1]; rfl

/-! ### No slices inside: no footprint -/

def D.flat : D → Bool
  | .sl _ _ => false
  | _ => true
def flatE (xs : List (List D)) : Bool := xs.all fun c => c.all D.flat

theorem rep_flat {h : Array Obj} {o : Bool} {d : D} {v : Value} {F : List Nat} (hf : d.flat = true) (r : rep h o d v F) : F = [] := by
  cases d <;> simp only [rep] at r
  · exact r.2.1
  · exact r.2
  · exact r.2.1
  · simp [D.flat] at hf

theorem rep_flat_any {h h' : Array Obj} {o o' : Bool} {d : D} {v : Value} {F : List Nat} (hf : d.flat = true) (r : rep h o d v F) : rep h' o' d v F := by
  cases d <;> simp only [rep] at r ⊢
  · exact r
  · exact r
  · exact r
  · simp [D.flat] at hf

theorem repC_flat {h : Array Obj} {o : Bool} {b : Nat} : ∀ (ds : List D) (f : Nat) (G : List Nat), ds.all D.flat = true → repC h o b f ds G → G = []
  | [], _, _, _, r => by simpa [repC] using r
  | d :: ds, f, G, hf, r => by
    simp only [repC] at r
    obtain ⟨v, G1, G2, rfl, e2, e3, e4⟩ := r
    simp only [List.all_cons, Bool.and_eq_true] at hf
    rw [rep_flat hf.1 e3, repC_flat ds (f + 1) G2 hf.2 e4]; rfl

theorem repE_flat {h : Array Obj} {o : Bool} {b : Nat} : ∀ (cs : List (List D)) (f sz : Nat) (G : List Nat), flatE cs = true → repE h o b f sz cs G → G = []
  | [], _, _, _, _, r => by simpa [repE] using r
  | c :: cs, f, sz, G, hf, r => by
    simp only [repE] at r
    obtain ⟨G1, G2, rfl, e2, e3, e4⟩ := r
    simp only [flatE, List.all_cons, Bool.and_eq_true] at hf
    rw [repC_flat c f G1 hf.1 e3, repE_flat cs (f + sz) sz G2 hf.2 e4]; rfl

theorem repC_flat_true {h : Array Obj} {o : Bool} {b : Nat} : ∀ (ds : List D) (f : Nat) (G : List Nat), ds.all D.flat = true → repC h o b f ds G → repC h true b f ds []
  | [], _, _, _, r => by simp [repC]
  | d :: ds, f, G, hf, r => by
    simp only [repC] at r ⊢
    obtain ⟨v, G1, G2, rfl, e2, e3, e4⟩ := r
    simp only [List.all_cons, Bool.and_eq_true] at hf
    have h1 := rep_flat hf.1 e3; subst h1
    exact ⟨v, [], [], rfl, e2, rep_flat_any hf.1 e3, repC_flat_true ds (f + 1) G2 hf.2 e4⟩

theorem repE_flat_true {h : Array Obj} {o : Bool} {b : Nat} : ∀ (cs : List (List D)) (f sz : Nat) (G : List Nat), flatE cs = true → repE h o b f sz cs G → repE h true b f sz cs []
  | [], _, _, _, _, r => by simp [repE]
  | c :: cs, f, sz, G, hf, r => by
    simp only [repE] at r ⊢
    obtain ⟨G1, G2, rfl, e2, e3, e4⟩ := r
    simp only [flatE, List.all_cons, Bool.and_eq_true] at hf
    exact ⟨[], [], rfl, e2, repC_flat_true c f G1 hf.1 e3, repE_flat_true cs (f + sz) sz G2 hf.2 e4⟩

theorem repC_len {h : Array Obj} {o : Bool} {b : Nat} : ∀ (cs : List (List D)) (f sz : Nat) (G : List Nat), repE h o b f sz cs G → ∀ c ∈ cs, c.length = sz
  | [], _, _, _, _ => by simp
  | c :: cs, f, sz, G, r => by
    simp only [repE] at r
    obtain ⟨G1, G2, rfl, e2, e3, e4⟩ := r
    intro d hd
    rcases List.mem_cons.1 hd with rfl | hd
    · exact e2
    · exact repC_len cs (f + sz) sz G2 e4 d hd

/-- A row that was copied cell by cell to another place reads as the same data. -/
theorem repC_copy {h h' : Array Obj} {o : Bool} {b b' : Nat} : ∀ (ds : List D) (f f' : Nat) (G : List Nat), h.size ≤ h'.size → (∀ g ∈ G, h'[g]? = h[g]?) → (∀ j, j < ds.length → cellAt h' b' (f' + j) = cellAt h b (f + j)) →
    repC h o b f ds G → repC h' o b' f' ds G
  | [], _, _, _, _, _, _, r => by simpa [repC] using r
  | d :: ds, f, f', G, hs, hG, hc, r => by
    simp only [repC] at r ⊢
    obtain ⟨v, G1, G2, rfl, e2, e3, e4⟩ := r
    refine ⟨v, G1, G2, rfl, ?_, rep_mono hs d v G1 (fun g hg => hG g (by simp [hg])) e3, repC_copy ds (f + 1) (f' + 1) G2 hs (fun g hg => hG g (by simp [hg])) ?_ e4⟩
    · have := hc 0 (by simp); simpa [e2] using this
    · intro j hj
      have := hc (j + 1) (by simp; omega)
      rw [show f' + 1 + j = f' + (j + 1) from by omega, show f + 1 + j = f + (j + 1) from by omega]; exact this

theorem repE_copy {h h' : Array Obj} {o : Bool} {b b' : Nat} : ∀ (cs : List (List D)) (f f' sz : Nat) (G : List Nat), h.size ≤ h'.size → (∀ g ∈ G, h'[g]? = h[g]?) → (∀ j, j < cs.length * sz → cellAt h' b' (f' + j) = cellAt h b (f + j)) →
    repE h o b f sz cs G → repE h' o b' f' sz cs G
  | [], _, _, _, _, _, _, _, r => by simpa [repE] using r
  | c :: cs, f, f', sz, G, hs, hG, hc, r => by
    simp only [repE] at r ⊢
    obtain ⟨G1, G2, rfl, e2, e3, e4⟩ := r
    have hm : (c :: cs).length * sz = sz + cs.length * sz := by rw [List.length_cons, Nat.add_mul]; omega
    refine ⟨G1, G2, rfl, e2, repC_copy c f f' G1 hs (fun g hg => hG g (by simp [hg])) (fun j hj => hc j (by omega)) e3, repE_copy cs (f + sz) (f' + sz) sz G2 hs (fun g hg => hG g (by simp [hg])) ?_ e4⟩
    intro j hj
    have := hc (sz + j) (by omega)
    rw [show f' + sz + j = f' + (sz + j) from by omega, show f + sz + j = f + (sz + j) from by omega]; exact this

/-- Package-level variables whose content is known: arrays of scalars that nobody writes. -/
def globs : List (Nat × List D) := []
theorem globs_flat : ∀ p ∈ globs, p.2.all D.flat = true := by
  have h : globs.all (fun p => p.2.all D.flat) = true := rfl
  exact List.all_eq_true.1 h

/-- Variables of which it is known what their cells are, to the letter. Each stands in 'globs' too (there, it may be, with no cells). -/
def gVars : List (Nat × (Array Value → Prop)) := []
theorem gVars_globs : ∀ q ∈ gVars, ∃ p ∈ globs, p.1 = q.1 := by
  have h : gVars.all (fun q => globs.any (fun p => p.1 == q.1)) = true := rfl
  intro q hq
  have h2 := List.all_eq_true.1 h q hq
  obtain ⟨p, hp, e⟩ := List.any_eq_true.1 h2
  exact ⟨p, hp, by simpa using e⟩
def XOk (h : Array Obj) : Prop := ∀ q ∈ gVars, ∃ cs e fr, h[q.1]? = some (.cells cs e fr) ∧ q.2 cs
theorem XOk.mono {h h' : Array Obj} (g : XOk h) (hb : ∀ p ∈ globs, h'[p.1]? = h[p.1]?) : XOk h' := fun q hq => by
  obtain ⟨p, hp, e⟩ := gVars_globs q hq
  obtain ⟨cs, t, fr, h1, h2⟩ := g q hq
  exact ⟨cs, t, fr, by rw [← e, hb p hp, e]; exact h1, h2⟩

def GOk (h : Array Obj) : Prop := (∀ p ∈ globs, p.1 < h.size ∧ repC h false p.1 0 p.2 []) ∧ XOk h

theorem GOk.mono {h h' : Array Obj} (g : GOk h) (hs : h.size ≤ h'.size) (hb : ∀ p ∈ globs, h'[p.1]? = h[p.1]?) : GOk h' := ⟨fun p hp => by
  obtain ⟨h1, h2⟩ := g.1 p hp
  exact ⟨Nat.lt_of_lt_of_le h1 hs, repC_mono hs p.2 p.1 0 [] (hb p hp) (by simp) h2⟩, g.2.mono hb⟩

end Gv
