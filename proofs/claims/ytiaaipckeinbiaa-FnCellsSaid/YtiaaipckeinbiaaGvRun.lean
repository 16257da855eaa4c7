/-
  Code and functions.
-/
import Derived.Test.YtiaaipckeinbiaaGvAny
namespace Gv
open Go

variable {P : Program}

/-- Two ways, by a truth value. -/
def condE (t : Bool) (A B : Prop) : Prop := (t = true → A) ∧ (t = false → B)
theorem condE_true {A B : Prop} : condE true A B = A := by simp [condE]
theorem condE_false {A B : Prop} : condE false A B = B := by simp [condE]
theorem condE_split {t : Bool} {A B : Prop} (h1 : t = true → A) (h2 : t = false → B) : condE t A B := ⟨h1, h2⟩

def outE : List (Nat × (St → Prop)) → Nat → St → Prop
  | [], _, _ => False
  | (i, K) :: X, id, σ => if id = i then K σ else outE X id σ

/-! ### The same state, seen otherwise -/

mutual
/-- Entries renamed. -/
def ren (ρ : List Nat) : V → V
  | .junk => .junk
  | .d x => .d x
  | .nils s => .nils s
  | .agg vs => .agg (rens ρ vs)
  | .ptr id idx off => .ptr (ρ.getD id 0) idx off
  | .rp cells off => .rp cells off
  | .sl id off len => .sl (ρ.getD id 0) off len
  | .fn f caps => .fn f (rens ρ caps)
  | .tup vs => .tup (rens ρ vs)
  | .gd c v => .gd c (ren ρ v)
def rens (ρ : List Nat) : List V → List V
  | [] => []
  | v :: vs => ren ρ v :: rens ρ vs
end

def vsee (ρ : List Nat) (v' v : V) : Prop := match v' with | .junk => True | v' => ren ρ v' = v
def vsees (ρ : List Nat) : List V → List V → Prop
  | [], [] => True
  | v' :: vs', v :: vs => vsee ρ v' v ∧ vsees ρ vs' vs
  | _, _ => False

def hsee (ρ : List Nat) (x' x : H) : Prop :=
  match x', x with
  | .dead, _ => True
  | .box cs', .box cs => vsees ρ cs' cs
  | .arr s' xs' nf', .arr s xs nf => s' = s ∧ xs' = xs ∧ nf' = nf
  | .ro s' xs', .ro s xs => s' = s ∧ xs' = xs
  | .cln s' xs', .cln s xs => s' = s ∧ xs' = xs
  | _, _ => False

/-- σ' is σ with its entries renamed ('ρ': which entry of σ the i-th of σ' is), or less is known in it. -/
def hsees (ρ : List Nat) (hs : List H) : List Nat → List H → Prop
  | [], [] => True
  | i :: is, x' :: xs' => hsee ρ x' (hget hs i) ∧ hsees ρ hs is xs'
  | _, _ => False

structure See (ρ : List Nat) (σ σ' : St) : Prop where
  nd : ρ.Nodup
  tm : vsees ρ σ'.tmps σ.tmps
  hp : hsees ρ σ.heap ρ σ'.heap

/-- Every entry that a value names is there. -/
theorem hsees_len {ρ : List Nat} {hs : List H} : ∀ {is : List Nat} {xs' : List H}, hsees ρ hs is xs' → xs'.length = is.length ∧ ∀ i, i < is.length → hsee ρ (hget xs' i) (hget hs (is.getD i 0))
  | [], [], _ => ⟨rfl, by simp⟩
  | [], _ :: _, h => by simp [hsees] at h
  | _ :: _, [], h => by simp [hsees] at h
  | i :: is, x' :: xs', h => by
    simp only [hsees] at h
    obtain ⟨h1, h2⟩ := h
    obtain ⟨k1, k2⟩ := hsees_len h2
    refine ⟨by simp [k1], fun j hj => ?_⟩
    cases j with
    | zero => simpa [hget] using h1
    | succ j => simpa [hget] using k2 j (by simpa using hj)

section
variable {φ : Phi} {T T' : Nat → Prop} {h : Array Obj} {ρ : List Nat}

/-- A renamed place. -/
def phiRen (φ : Phi) (ρ : List Nat) : Phi := fun i => if i < ρ.length then φ (ρ.getD i 0) else none

mutual
def vok (m : Nat) : V → Prop
  | .ptr id _ _ => id < m
  | .sl id _ _ => id < m
  | .agg vs => voks m vs
  | .fn _ vs => voks m vs
  | .tup vs => voks m vs
  | .gd _ v => vok m v
  | _ => True
def voks (m : Nat) : List V → Prop
  | [] => True
  | v :: vs => vok m v ∧ voks m vs
end

mutual
theorem VRel_ren (hT : ∀ b, T b → T' b) : ∀ (v : V) (u : Value), vok ρ.length v → VRel φ T h (ren ρ v) u → VRel (phiRen φ ρ) T' h v u
  | .junk, _, _, _ => by simp [VRel]
  | .d x, u, _, r => by
    simp only [ren, VRel] at r ⊢
    obtain ⟨F, r1, r2⟩ := r
    exact ⟨F, r1, fun b hb => hT b (r2 b hb)⟩
  | .nils _, _, _, r => by simpa [ren, VRel] using r
  | .agg vs, u, k, r => by
    simp only [ren, VRel, vok] at r k ⊢
    obtain ⟨us, r1, r2⟩ := r
    exact ⟨us, r1, VRels_ren hT vs us.toList k r2⟩
  | .ptr id idx off, u, k, r => by
    simp only [ren, VRel, vok] at r k ⊢
    obtain ⟨β, b, r1, r2, r3⟩ := r
    exact ⟨β, b, by simp only [phiRen, if_pos k]; exact r1, r2, r3⟩
  | .rp cells off, u, _, r => by
    simp only [ren, VRel] at r ⊢
    obtain ⟨b, f, G, r1, r2, r3, r4, r5⟩ := r
    exact ⟨b, f, G, r1, r2, hT b r3, r4, fun g hg => hT g (r5 g hg)⟩
  | .sl id off len, u, k, r => by
    simp only [ren, VRel, vok] at r k ⊢
    obtain ⟨β, a, c, r1, r2⟩ := r
    exact ⟨β, a, c, by simp only [phiRen, if_pos k]; exact r1, r2⟩
  | .fn f caps, u, k, r => by
    simp only [ren, VRel, vok] at r k ⊢
    obtain ⟨us, r1, r2⟩ := r
    exact ⟨us, r1, VRels_ren hT caps us.toList k r2⟩
  | .tup vs, u, k, r => by
    simp only [ren, VRel, vok] at r k ⊢
    obtain ⟨us, r1, r2⟩ := r
    exact ⟨us, r1, VRels_ren hT vs us.toList k r2⟩
  | .gd c v, u, k, r => by
    simp only [ren, VRel, vok] at r k ⊢
    exact ⟨fun e => VRel_ren hT v u k (r.1 e), r.2⟩
theorem VRels_ren (hT : ∀ b, T b → T' b) : ∀ (vs : List V) (us : List Value), voks ρ.length vs → VRels φ T h (rens ρ vs) us → VRels (phiRen φ ρ) T' h vs us
  | [], us, _, r => by simpa [rens, VRels] using r
  | v :: vs, us, k, r => by
    simp only [rens, VRels, voks] at r k ⊢
    obtain ⟨u, us', r1, r2, r3⟩ := r
    exact ⟨u, us', r1, VRel_ren hT v u k.1 r2, VRels_ren hT vs us' k.2 r3⟩
end

theorem VRel_see (hT : ∀ b, T b → T' b) {v' v : V} {u : Value} (hs : vsee ρ v' v) (k : vok ρ.length v') (r : VRel φ T h v u) : VRel (phiRen φ ρ) T' h v' u := by
  unfold vsee at hs
  split at hs
  · simp [VRel]
  · subst hs; exact VRel_ren hT _ u k r

theorem VRels_see (hT : ∀ b, T b → T' b) : ∀ {vs' vs : List V} {us : List Value}, vsees ρ vs' vs → voks ρ.length vs' → VRels φ T h vs us → VRels (phiRen φ ρ) T' h vs' us
  | [], [], us, _, _, r => by simpa [VRels] using r
  | [], _ :: _, _, hs, _, _ => by simp [vsees] at hs
  | _ :: _, [], _, hs, _, _ => by simp [vsees] at hs
  | v' :: vs', v :: vs, us, hs, k, r => by
    simp only [vsees, voks, VRels] at hs k r ⊢
    obtain ⟨u, us', rfl, r1, r2⟩ := r
    exact ⟨u, us', rfl, VRel_see hT hs.1 k.1 r1, VRels_see hT hs.2 k.2 r2⟩
end

def hok (m : Nat) : H → Prop
  | .box cs => voks m cs
  | _ => True

theorem hsee_flags {ρ : List Nat} {x' x : H} (h : hsee ρ x' x) : (x'.live = true → x.live = true) ∧ (x'.own = true → x.own = true) ∧ (x'.shut = true → x.shut = true) := by
  unfold hsee at h
  split at h
  · exact ⟨fun e => (by cases e), fun e => (by cases e), fun e => (by cases e)⟩
  · exact ⟨fun _ => rfl, fun e => (by cases e), fun e => (by cases e)⟩
  · obtain ⟨rfl, rfl, rfl⟩ := h; exact ⟨id, id, id⟩
  · exact ⟨fun e => (by cases e), fun e => (by cases e), fun e => (by cases e)⟩
  · exact ⟨fun _ => rfl, fun _ => rfl, fun _ => rfl⟩
  · exact h.elim

theorem RR_see {B : Nat → Prop} {w0 : World} {σ σ' : St} {a : Act} {w : World} {ρ : List Nat} (hs : See ρ σ σ') (h1 : voks σ'.heap.length σ'.tmps) (h2 : ∀ x ∈ σ'.heap, hok σ'.heap.length x) {kp : List (V × Value)} (hkp : ∀ p ∈ kp, vsee ρ p.1 p.1 ∧ vok σ'.heap.length p.1) (r : RR B w0 kp σ a w) : RR B w0 kp σ' a w := by
  obtain ⟨Dm, φ, r, _⟩ := r
  obtain ⟨hl, hsee'⟩ := hsees_len hs.hp
  rw [hl] at h1 h2 hkp
  have hfl : ∀ i, (hget σ'.heap i).live = true → i < ρ.length := by
    intro i hi
    rcases Nat.lt_or_ge i σ'.heap.length with h | h
    · omega
    · rw [hget_ge h] at hi; cases hi
  have htop : ∀ i β b, TopOf (hget σ'.heap i) β b → i < ρ.length ∧ TopOf (hget σ.heap (ρ.getD i 0)) β b := by
    intro i β b ht
    have hlt : i < ρ.length := by
      rcases ht with ⟨h, _⟩ | ⟨h, _⟩
      · exact hfl i h
      · exact hfl i (H.own_live (H.shut_own h))
    obtain ⟨f1, f2, f3⟩ := hsee_flags (hsee' i hlt)
    exact ⟨hlt, ht.imp (fun h => ⟨f1 h.1, h.2⟩) (fun h => ⟨f3 h.1, h.2⟩)⟩
  have hT : ∀ b, NotTop φ σ.heap b → NotTop (phiRen φ ρ) σ'.heap b := by
    intro b ht i β e hi
    obtain ⟨hlt, hl'⟩ := htop i β b hi
    simp only [phiRen, if_pos hlt] at e
    exact ht _ β e hl'
  have hgs : ∀ i, i < ρ.length → ∀ x, hget σ'.heap i = x → hok ρ.length x := by
    intro i hi x hx
    have hlt : i < σ'.heap.length := by omega
    have : x ∈ σ'.heap := by
      rw [← hx]; unfold hget; rw [List.getD_eq_getElem?_getD, List.getElem?_eq_getElem hlt]; simp
    exact h2 x this
  have hinj : ∀ i j, i < ρ.length → j < ρ.length → ρ.getD i 0 = ρ.getD j 0 → i = j := by
    intro i j hi hj e
    rw [List.getD_eq_getElem?_getD, List.getD_eq_getElem?_getD, List.getElem?_eq_getElem hi, List.getElem?_eq_getElem hj] at e
    have e : ρ[i] = ρ[j] := by simpa using e
    have hp := List.pairwise_iff_getElem.1 hs.nd
    rcases Nat.lt_trichotomy i j with h | h | h
    · exact absurd e (hp i j hi hj h)
    · exact h
    · exact absurd e.symm (hp j i hj hi h)
  have hown : ∀ i b, Owns (phiRen φ ρ) σ'.heap i b → i < ρ.length ∧ Owns φ σ.heap (ρ.getD i 0) b := by
    rintro i b ⟨β, e, h⟩
    have hlt : i < ρ.length := by
      rcases h with ⟨h, _⟩ | ⟨h, _⟩
      · exact hfl i h
      · exact hfl i (H.own_live h)
    obtain ⟨f1, f2, f3⟩ := hsee_flags (hsee' i hlt)
    simp only [phiRen, if_pos hlt] at e
    exact ⟨hlt, β, e, h.imp (fun h => ⟨f1 h.1, h.2⟩) (fun h => ⟨f2 h.1, h.2⟩)⟩
  refine ⟨fun i => i < ρ.length, phiRen φ ρ, ⟨VRels_see hT hs.tm h1 r.tm, fun p hp => (by
    have h3 := r.kp p hp
    rcases List.mem_append.1 hp with hp | hp
    · obtain ⟨q, _, rfl⟩ := List.mem_map.1 hp
      exact VRel_ren (ρ := ρ) hT (.rp q.2 0) _ trivial h3
    · exact VRel_see hT (hkp p hp).1 (hkp p hp).2 h3), fun i => ?_, fun i j b hi hj => ?_, fun i β e hx => ?_, fun i b ho => ?_, fun i β e => ?_, r.bel, r.bs, r.de, r.gb⟩, fun i hi => by rw [hl]; exact hi⟩
  · by_cases hlt : i < ρ.length
    · have hse := hsee' i hlt
      have hok' := hgs i hlt _ rfl
      rcases r.hp (ρ.getD i 0) with hd | ⟨β, e, hr⟩
      · left
        rw [hd] at hse
        unfold hsee at hse
        split at hse
        · rename_i e1; exact e1
        · rename_i e2; cases e2
        · rename_i e2; cases e2
        · rename_i e2; cases e2
        · rename_i e2; cases e2
        · exact hse.elim
      · by_cases hdd : hget σ'.heap i = .dead
        · exact .inl hdd
        · refine .inr ⟨β, by simp only [phiRen, if_pos hlt]; exact e, ?_⟩
          generalize hget σ'.heap i = x' at hse hok' hdd
          generalize hget σ.heap (ρ.getD i 0) = x at hse hr
          unfold hsee at hse
          split at hse
          · exact absurd rfl hdd
          · simp only [HRel] at hr ⊢
            obtain ⟨b, cs, t, r1, r2, r3, r4⟩ := hr
            exact ⟨b, cs, t, r1, r2, r3, VRels_see hT hse hok' r4⟩
          · obtain ⟨rfl, rfl, rfl⟩ := hse
            simp only [HRel] at hr ⊢
            obtain ⟨h5, hr⟩ := hr
            refine ⟨h5, hr.imp id fun ⟨b, G, r1, r2, r3, r4, r5, r6⟩ => ⟨b, G, r1, r2, r3, r4, r5, fun e g hg => hT g (r6 e g hg)⟩⟩
          · obtain ⟨rfl, rfl⟩ := hse
            simp only [HRel] at hr ⊢
            obtain ⟨h5, hr⟩ := hr
            refine ⟨h5, hr.imp id fun ⟨b, G, r1, r2, r3, r4, r5⟩ => ⟨b, G, r1, hT b r2, r3, r4, fun g hg => hT g (r5 g hg)⟩⟩
          · obtain ⟨rfl, rfl⟩ := hse
            simpa only [HRel] using hr
          · exact hse.elim
    · left; exact hget_ge (by omega)
  · obtain ⟨h3, h4⟩ := hown i b hi
    obtain ⟨h5, h6⟩ := hown j b hj
    exact hinj i j h3 h5 (r.o1 _ _ b h4 h6)
  · have hlt := hfl i (H.own_live hx)
    simp only [phiRen, if_pos hlt] at e
    exact r.o2 _ β e ((hsee_flags (hsee' i hlt)).2.1 hx)
  · exact r.o3 _ b (hown i b ho).2
  · by_cases hlt : i < ρ.length
    · exact hlt
    · simp only [phiRen, if_neg hlt] at e; cases e


def allOk (m : Nat) : List H → Prop
  | [] => True
  | x :: xs => hok m x ∧ allOk m xs

theorem allOk_mem {m : Nat} : ∀ {xs : List H}, allOk m xs → ∀ x ∈ xs, hok m x
  | [], _, x, hx => by cases hx
  | y :: ys, h, x, hx => by
    rcases List.mem_cons.1 hx with rfl | hx
    · exact h.1
    · exact allOk_mem h.2 x hx

def kvOk (ρ : List Nat) (m : Nat) : List V → Prop
  | [] => True
  | v :: vs => (vsee ρ v v ∧ vok m v) ∧ kvOk ρ m vs

theorem kvOk_mem {ρ : List Nat} {m : Nat} : ∀ {kv : List V}, kvOk ρ m kv → ∀ v ∈ kv, vsee ρ v v ∧ vok m v
  | [], _, x, hx => by cases hx
  | y :: ys, h, x, hx => by
    rcases List.mem_cons.1 hx with rfl | hx
    · exact h.1
    · exact kvOk_mem h.2 x hx

def seeE (kv : List V) (ρ : List Nat) (σ σ' : St) : Prop :=
  ρ.Nodup ∧ vsees ρ σ'.tmps σ.tmps ∧ hsees ρ σ.heap ρ σ'.heap ∧ voks σ'.heap.length σ'.tmps ∧ allOk σ'.heap.length σ'.heap ∧ kvOk ρ σ'.heap.length kv

theorem seeE_ok {B : Nat → Prop} {w0 : World} {kv : List V} {kp : List (V × Value)} {σ σ' : St} {a : Act} {w : World} {ρ : List Nat} (hkv : kp.map (·.1) = kv) (h : seeE kv ρ σ σ') (r : RR B w0 kp σ a w) : RR B w0 kp σ' a w := by
  obtain ⟨h1, h2, h3, h4, h5, h6⟩ := h
  exact RR_see ⟨h1, h2, h3⟩ h4 (allOk_mem h5) (fun p hp => kvOk_mem h6 p.1 (by rw [← hkv]; exact List.mem_map.2 ⟨p, hp, rfl⟩)) r

/-! ### Code -/

/-! ### Code -/

/-- What a loop asks: a relation that a round hands on, smaller. -/
def LoopK (kv : List V) (body : St → (St → Prop) → Prop) (σ : St) : Prop :=
  ∃ (α : Type) (I : α → St) (μ : α → Nat) (Pre : α → Prop) (x : α) (ρ : List Nat), Pre x ∧ seeE kv ρ σ (I x) ∧ ∀ x, Pre x → ∃ σ1, Sh (I x) σ1 ∧ body σ1 fun σ' => ∃ σ2, Sh σ' σ2 ∧ ∃ y ρ', Pre y ∧ μ y < μ x ∧ seeE kv ρ' σ2 (I y)

def codeE (P : Program) (kv : List V) : Code → St → (St → Prop) → List (Nat × (St → Prop)) → (St → Prop) → Prop
  | .skip, σ, K, _, _ => K σ
  | .region _ ops false, σ, K, _, _ => opsE P kv ops.toList ops.toList σ K
  | .region _ ops true, σ, K, _, _ => drawX P kv ops σ K
  | .seq a b, σ, K, X, Rt => codeE P kv a σ (fun σ' => codeE P kv b σ' K X Rt) X Rt
  | .cond c a b, σ, K, X, Rt => evg true (σ.ev c) fun v => asB v fun t => condE t (codeE P kv a σ K X Rt) (codeE P kv b σ K X Rt)
  | .block id c, σ, K, X, Rt => codeE P kv c σ K ((id, K) :: X) Rt
  | .exit id, σ, _, X, _ => outE X id σ
  | .ret, σ, _, _, Rt => Rt σ
  | .loop c, σ, _, X, Rt => LoopK kv (fun σ K' => codeE P kv c σ K' X Rt) σ
  | _, _, _, _, _ => False

def Outs (B : Nat → Prop) (w0 : World) (kp : List (V × Value)) (Q : Exit → Act → World → Prop) (X : List (Nat × (St → Prop))) : Prop :=
  ∀ id σ a w, outE X id σ → RR B w0 kp σ a w → Q (.exit id) a w

theorem range_map (ops : Array Oper) : (List.range ops.size).map (ops[·]?) = ops.toList.map some := by
  apply List.ext_getElem?
  intro i
  simp only [List.getElem?_map, Array.getElem?_toList]
  by_cases h : i < ops.size
  · simp [h]
  · simp [h]

theorem codeE_ok {B : Nat → Prop} {w0 : World} {kp : List (V × Value)} {kv : List V} (hkv : kp.map (·.1) = kv) (hm : P.follows .mixedOrders = true) : ∀ (c : Code) (σ : St) (K : St → Prop) (X : List (Nat × (St → Prop))) (Rt : St → Prop) (Q : Exit → Act → World → Prop) (a : Act) (w : World),
    (∀ σ a w, K σ → RR B w0 kp σ a w → Q .normal a w) → Outs B w0 kp Q X → (∀ σ a w, Rt σ → RR B w0 kp σ a w → Q .ret a w) → codeE P kv c σ K X Rt → RR B w0 kp σ a w → c.wp P Q a w := by
  intro c
  induction c with
  | skip => intro σ K X Rt Q a w hK _ _ h r; exact wp_skip (hK σ a w h r)
  | region id ops draw =>
    intro σ K X Rt Q a w hK _ _ h r
    cases draw with
    | false => exact wp_region (opsE_ok hkv hK _ _ σ a w (range_map ops) h r)
    | true => exact drawX_ok hkv hm hK h r
  | seq x y ihx ihy =>
    intro σ K X Rt Q a w hK hX hR h r
    refine wp_seq (ihx σ _ X Rt _ a w (fun σ' a' w' h' r' => ?_) (fun id σ' a' w' h' r' => hX id σ' a' w' h' r') (fun σ' a' w' h' r' => hR σ' a' w' h' r') h r)
    exact ihy σ' K X Rt Q a' w' hK hX hR h' r'
  | cond c x y ihx ihy =>
    intro σ K X Rt Q a w hK hX hR h r
    simp only [codeE] at h
    obtain ⟨v, h, hv⟩ := evg_rel h
    obtain ⟨t, rfl, h⟩ := asB_inv h
    obtain ⟨Dm, φ, r0, hD⟩ := r
    have hc := rel_bool (hv _ _ _ _ rfl (ev_rel r0 c))
    refine wp_cond hc ?_
    cases t with
    | true => exact ihx σ K X Rt Q a w hK hX hR (h.1 rfl) ⟨Dm, φ, r0, hD⟩
    | false => exact ihy σ K X Rt Q a w hK hX hR (h.2 rfl) ⟨Dm, φ, r0, hD⟩
  | block id c ih =>
    intro σ K X Rt Q a w hK hX hR h r
    simp only [codeE] at h
    refine wp_block (ih σ K ((id, K) :: X) Rt _ a w (fun σ' a' w' h' r' => hK σ' a' w' h' r') (fun id' σ' a' w' h' r' => ?_) (fun σ' a' w' h' r' => hR σ' a' w' h' r') h r)
    simp only [outE] at h'
    simp only [Exit.inBlock]
    by_cases hi : id' = id
    · rw [if_pos hi]; rw [if_pos hi] at h'; exact hK σ' a' w' h' r'
    · rw [if_neg hi]; rw [if_neg hi] at h'; exact hX id' σ' a' w' h' r'
  | exit id => intro σ K X Rt Q a w _ hX _ h r; exact wp_exit (hX id σ a w h r)
  | ret => intro σ K X Rt Q a w _ _ hR h r; exact wp_ret (hR σ a w h r)
  | loop c ih =>
    intro σ K X Rt Q a w hK hX hR h r
    simp only [codeE, LoopK] at h
    obtain ⟨α, I, μ, Pre, x, ρ, hp, hs, hround⟩ := h
    refine wp_loop_ghost (fun n a w => ∃ x, Pre x ∧ μ x = n ∧ RR B w0 kp (I x) a w) (μ x) ⟨x, hp, rfl, seeE_ok hkv hs r⟩ ?_
    rintro n a w ⟨x, hp, rfl, r⟩
    obtain ⟨σ1, hsh, hbody⟩ := hround x hp
    refine ih σ1 _ X Rt _ a w (fun σ' a' w' h' r' => ?_) (fun id σ' a' w' h' r' => hX id σ' a' w' h' r') (fun σ' a' w' h' r' => hR σ' a' w' h' r') hbody (Sh_ok hsh r)
    obtain ⟨σ2, hsh2, y, ρ', h1, h2, h3⟩ := h'
    exact ⟨μ y, h2, y, h1, rfl, seeE_ok hkv h3 (Sh_ok hsh2 r')⟩
  | _ => intro σ K X Rt Q a w _ _ _ h; exact h.elim

/-! ### Functions -/

def AD.toV : AD → V
  | .one d => .d d
  | .agg ds => .agg (ds.map V.d)

def rvE (P : Program) (σ : St) (r : ResultVar) (K : V → Prop) : Prop :=
  match r with
  | .tmp t => K (σ.ev (.tmp t))
  | .cell a T => evg true (σ.ev (.tmp a)) fun v => withR (loadE P σ.heap T v) K

def rvsE (P : Program) (σ : St) : List ResultVar → (List V → Prop) → Prop
  | [], K => K []
  | r :: rs, K => rvE P σ r fun v => rvsE P σ rs fun vs => K (v :: vs)

def outOA (r : Option (List AD × List Nat)) (res : List AD) : Prop := match r with | some (as, ids) => ids.Nodup ∧ as = res | none => False

def retE (P : Program) (rs : List ResultVar) (res : List AD) (σ : St) : Prop := rvsE P σ rs fun vs => outOA (toOAs σ.heap vs) res

section
variable {B : Nat → Prop} {w0 : World} {Dm : Nat → Prop} {φ : Phi} {kp : List (V × Value)} {a : Act} {w : World} {σ : St}

def rvRun (tmps : Array Value) (x : ResultVar) : Sem Value :=
  match x with
  | .tmp t => pure (tmps.getD t undef)
  | .cell b t => do loadVar t (← asAddr (tmps.getD b undef))

theorem results_eq (fn : Func) (tmps : Array Value) : results fn tmps = (do
    let vs ← fn.results.mapM (rvRun tmps)
    pure (if h : vs.size = 1 then vs[0] else .tuple vs)) := rfl

theorem rvE_ok (r : R B w0 Dm φ σ kp a w) {x : ResultVar} {K : V → Prop} (h : rvE P σ x K) : ∃ v u, K v ∧ VRel φ (NotTop φ σ.heap) w.heap v u ∧
    (rvRun a.tmps x).run P w = .ok u w := by
  unfold rvE at h
  split at h
  · rename_i t
    exact ⟨_, _, h, ev_rel r (.tmp t), rfl⟩
  · rename_i b T
    obtain ⟨va, h, hx⟩ := evg_rel h
    obtain ⟨p, v, hE, hp, hK⟩ := withR_inv h
    obtain ⟨blk, f, u, hu, hl, hv⟩ := load_core (St.le.refl σ) r hE hp (hx _ _ _ _ rfl (ev_rel r (.tmp b)))
    refine ⟨v, u, hK, hv, ?_⟩
    simp only [Act.eval] at hu
    simp only [rvRun, Sem.run_bind, hu, asAddr]
    simp [hl]

theorem rvsE_ok (r : R B w0 Dm φ σ kp a w) : ∀ (xs : List ResultVar) (K : List V → Prop), rvsE P σ xs K → ∃ vs us, K vs ∧ VRels φ (NotTop φ σ.heap) w.heap vs us ∧
    (xs.mapM (rvRun a.tmps)).run P w = .ok us w
  | [], K, h => ⟨[], [], h, by simp [VRels], by simp⟩
  | x :: xs, K, h => by
    simp only [rvsE] at h
    obtain ⟨v, u, h, hv, hu⟩ := rvE_ok r h
    obtain ⟨vs, us, h, hvs, hus⟩ := rvsE_ok r xs _ h
    refine ⟨v :: vs, u :: us, h, by simp only [VRels]; exact ⟨u, us, rfl, hv, hvs⟩, ?_⟩
    rw [List.mapM_cons]
    simp only [Sem.run_bind, hu, Result.andThen_ok, hus, Sem.run_pure]

theorem retE_ok {fn : Func} (r : R B w0 Dm φ σ kp a w) {res : List AD} (h : retE P fn.results.toList res σ) : ∃ v F, (results fn a.tmps).run P w = .ok v w ∧ trep w.heap true res v F ∧ F.Nodup ∧ ∀ b ∈ F, B b ∧ b < w.heap.size := by
  obtain ⟨vs, us, h, hv, hu⟩ := rvsE_ok r _ _ h
  unfold outOA at h
  split at h
  · rename_i as ids ho
    obtain ⟨hn, rfl⟩ := h
    obtain ⟨F, f1, f2, f3⟩ := toOAs_rel r vs as ids us ho hn hv
    refine ⟨if h : us.length = 1 then us[0] else .tuple us.toArray, F, ?_, ?_, f2, fun b hb => ?_⟩
    · rw [results_eq, Array.mapM_eq_mapM_toList]
      simp only [Sem.run_bind, Sem.run_map, hu]
      simp only [Result.andThen, List.size_toArray, Sem.run_pure]
      split <;> simp_all
    · have hl : us.length = as.length := by
        clear hu hv ho f2 f3 h
        induction as generalizing us F with
        | nil => simp only [areps] at f1; simp [f1.1]
        | cons d ds ih =>
          simp only [areps] at f1
          obtain ⟨u, us', F1, F2, rfl, rfl, r1, r2⟩ := f1
          simp [ih us' F2 r2]
      unfold trep
      split
      · rename_i x
        simp only [areps] at f1
        obtain ⟨u, us', F1, F2, rfl, rfl, r1, r2, rfl⟩ := f1
        subst r2
        simpa using r1
      · rename_i hne
        refine ⟨us.toArray, ?_, f1⟩
        rw [dif_neg]
        intro h1
        rw [hl] at h1
        obtain ⟨x, hx⟩ := List.length_eq_one_iff.1 h1
        exact hne x hx
    · obtain ⟨id, _, ho⟩ := f3 b hb
      exact ⟨r.o3 id b ho, Owns.lt r ho⟩
  · exact h.elim
end

/-! ### What is known of whatever lies in memory -/

mutual
def dOk : D → Prop
  | .int k n => k.min ≤ n ∧ n ≤ k.max
  | .bool _ => True
  | .str s => s.length ≤ maxLen
  | .sl _ xs => xs.length ≤ maxLen ∧ eOk xs
def cOk : List D → Prop
  | [] => True
  | d :: ds => dOk d ∧ cOk ds
def eOk : List (List D) → Prop
  | [] => True
  | c :: cs => cOk c ∧ eOk cs
end

mutual
theorem rep_dOk {h : Array Obj} {o : Bool} : ∀ (d : D) (u : Value) (F : List Nat), rep h o d u F → dOk d
  | .int k n, u, F, r => by simp only [rep] at r; simp only [dOk]; exact r.2.2
  | .bool b, u, F, r => by simp only [dOk]
  | .str s, u, F, r => by simp only [rep] at r; simp only [dOk]; exact r.2.2
  | .sl sz xs, u, F, r => by
    simp only [rep] at r
    obtain ⟨a, c, h1, h2, h3, h4⟩ := r
    simp only [dOk]
    refine ⟨by omega, ?_⟩
    rcases h4 with ⟨rfl, _⟩ | ⟨b, f, G, e1, e2, e3, e4, e5⟩
    · simp [eOk]
    · exact repE_eOk xs b f sz G e4
theorem repC_cOk {h : Array Obj} {o : Bool} : ∀ (ds : List D) (b f : Nat) (G : List Nat), repC h o b f ds G → cOk ds
  | [], _, _, _, _ => by simp [cOk]
  | d :: ds, b, f, G, r => by
    simp only [repC] at r
    obtain ⟨v, G1, G2, _, _, e3, e4⟩ := r
    simp only [cOk]
    exact ⟨rep_dOk d v G1 e3, repC_cOk ds b (f + 1) G2 e4⟩
theorem repE_eOk {h : Array Obj} {o : Bool} : ∀ (cs : List (List D)) (b f sz : Nat) (G : List Nat), repE h o b f sz cs G → eOk cs
  | [], _, _, _, _, _ => by simp [eOk]
  | c :: cs, b, f, sz, G, r => by
    simp only [repE] at r
    obtain ⟨G1, G2, _, _, e3, e4⟩ := r
    simp only [eOk]
    exact ⟨repC_cOk c b f G1 e3, repE_eOk cs b (f + sz) sz G2 e4⟩
end

def adOk : AD → Prop
  | .one d => dOk d
  | .agg ds => cOk ds
def adOks : List AD → Prop
  | [] => True
  | a :: as => adOk a ∧ adOks as

theorem areps_ok {h : Array Obj} {o : Bool} : ∀ (as : List AD) (us : List Value) (F : List Nat), areps h o as us F → adOks as
  | [], _, _, _ => trivial
  | a :: as, us, F, r => by
    simp only [areps] at r
    obtain ⟨u, us', F1, F2, rfl, rfl, r1, r2⟩ := r
    refine ⟨?_, areps_ok as us' F2 r2⟩
    cases a with
    | one d => exact rep_dOk d u F1 r1
    | agg ds =>
      obtain ⟨vs, _, r1⟩ := r1
      have : ∀ (ds : List D) (us : List Value) (F : List Nat), reps h o ds us F → cOk ds := by
        intro ds
        induction ds with
        | nil => intro _ _ _; simp [cOk]
        | cons d ds ih =>
          intro us F r
          simp only [reps] at r
          obtain ⟨u, us', F1, F2, rfl, rfl, r1, r2⟩ := r
          simp only [cOk]
          exact ⟨rep_dOk d u F1 r1, ih us' F2 r2⟩
      exact this ds _ _ r1

theorem cOk_at : ∀ {ds : List D}, cOk ds → ∀ d ∈ ds, dOk d
  | [], _, d, hd => by cases hd
  | x :: xs, h, d, hd => by
    simp only [cOk] at h
    rcases List.mem_cons.1 hd with rfl | hd
    · exact h.1
    · exact cOk_at h.2 d hd
theorem eOk_at : ∀ {ds : List (List D)}, eOk ds → ∀ d ∈ ds, cOk d
  | [], _, d, hd => by cases hd
  | x :: xs, h, d, hd => by
    simp only [eOk] at h
    rcases List.mem_cons.1 hd with rfl | hd
    · exact h.1
    · exact eOk_at h.2 d hd

theorem init_R {w : World} {args : List AD} {us : List Value} {F : List Nat} (hg : GOk w.heap) (h : areps w.heap false args us F) (m : Nat) (kp : List (V × Value)) (hkp : ∀ p ∈ kp, ∀ φ T, VRel φ T w.heap p.1 p.2) :
    RR (fun b => w.heap.size ≤ b) w kp ⟨args.map AD.toV ++ List.replicate m .junk, []⟩ ⟨us.toArray ++ Array.replicate m undef, []⟩ w := by
  have hnt : ∀ b, NotTop (fun _ => none) [] b := fun b i β e => by cases e
  refine ⟨fun _ => False, fun _ => none, ⟨?_, fun p hp => (List.mem_append.1 hp).elim (gPairs_rel hg (fun _ _ => hnt _) p) (fun hp => hkp p hp _ _), fun i => .inl (hget_ge (by simp)), fun i j b hi => ?_, fun i β e => (by cases e), fun i b hi => ?_, fun i β e => (by cases e), Bel.refl _ _, fun k hk => hk, rfl, fun p hp hb => by have := (hg.1 p hp).1; omega, hg.2⟩, fun i hi => hi.elim⟩
  · have reps_V : ∀ (ds : List D) (us : List Value) (F : List Nat), reps w.heap false ds us F → VRels (fun _ => none) (NotTop (fun _ => none) []) w.heap (ds.map V.d) us := by
      intro ds
      induction ds with
      | nil => intro us F r; simp only [reps] at r; simp [VRels, r.1]
      | cons d ds ih =>
        intro us F r
        simp only [reps] at r
        obtain ⟨u, us', F1, F2, rfl, rfl, r1, r2⟩ := r
        simp only [List.map_cons, VRels, VRel]
        exact ⟨u, us', rfl, ⟨F1, r1, fun b _ => hnt b⟩, ih us' F2 r2⟩
    have hargs : ∀ (args : List AD) (us : List Value) (F : List Nat), areps w.heap false args us F → VRels (fun _ => none) (NotTop (fun _ => none) []) w.heap (args.map AD.toV) us := by
      intro args
      induction args with
      | nil => intro us F r; simp only [areps] at r; simp [VRels, r.1]
      | cons d ds ih =>
        intro us F r
        simp only [areps] at r
        obtain ⟨u, us', F1, F2, rfl, rfl, r1, r2⟩ := r
        simp only [List.map_cons, VRels]
        refine ⟨u, us', rfl, ?_, ih us' F2 r2⟩
        cases d with
        | one d => simp only [AD.toV, VRel]; exact ⟨F1, r1, fun b _ => hnt b⟩
        | agg ds =>
          obtain ⟨vs, rfl, r1⟩ := r1
          simp only [AD.toV, VRel]
          exact ⟨vs, rfl, reps_V ds _ _ r1⟩
    have := VRels_append (hargs args us F h) (VRels_replicate (φ := fun _ => none) (T := NotTop (fun _ => none) []) (h := w.heap) (v := .junk) (u := undef) (by simp [VRel]) m)
    simpa using this
  · obtain ⟨β, e, _⟩ := hi; cases e
  · obtain ⟨β, e, _⟩ := hi; cases e

/-- THE LAW OF A FUNCTION, from what its code asks. -/
theorem pure_of' {f : FuncId} {fn : Func} {c : Code} {args res : List AD} (hf : P.funcs[f]? = some fn) (hb : fn.body = some c) (hcall : ∀ (args : Array Value) (w : World), (callFunc f args).run P w = .ok (.enter f args) w) (hm : P.follows .mixedOrders = true) {m : Nat} (hn : fn.ntmps - args.length = m)
    {rs : List ResultVar} (hr : fn.results.toList = rs) (h0 : adOks args → codeE P [] c ⟨args.map AD.toV ++ List.replicate m .junk, []⟩ (retE P rs res) [] (retE P rs res)) : PureCall P f args res := by
  intro w us F hg ha
  have h := h0 (areps_ok _ _ _ ha)
  clear h0
  subst hr
  have hlen : us.length = args.length := by
    clear h hn
    induction args generalizing us F with
    | nil => simp only [areps] at ha; simp [ha.1]
    | cons d ds ih =>
      simp only [areps] at ha
      obtain ⟨u, us', F1, F2, rfl, rfl, r1, r2⟩ := ha
      simp [ih us' F2 r2]
  have fin : ∀ (σ : St) (a : Act) (w' : World), retE P fn.results.toList res σ → RR (fun b => w.heap.size ≤ b) w [] σ a w' → a.defers = [] ∧ ∃ v, (results fn a.tmps).run P w' = .ok v w' ∧
      ∃ F', Bel (fun b => w.heap.size ≤ b) w w' ∧ trep w'.heap true res v F' ∧ F'.Nodup ∧ ∀ b ∈ F', w.heap.size ≤ b := by
    rintro σ a w' hret ⟨Dm, φ, r, _⟩
    obtain ⟨v, F', h1, h2, h3, h4⟩ := retE_ok r hret
    exact ⟨r.de, v, h1, F', r.bel, h2, h3, fun b hb => (h4 b hb).1⟩
  refine Does.enter (hcall _ _) (calls_of_wp hf hb ?_)
  refine codeE_ok (B := fun b => w.heap.size ≤ b) (w0 := w) (kp := []) (kv := []) rfl hm c _ (retE P fn.results.toList res) [] (retE P fn.results.toList res) _ _ w (fun σ a w' h' r' => ?_) (fun id σ a w' h' _ => h'.elim) (fun σ a w' h' r' => ?_) h ?_
  · exact fin σ a w' h' r'
  · exact fin σ a w' h' r'
  · have := init_R hg ha m [] (by simp)
    have hs : us.toArray.size = args.length := by rw [List.size_toArray, hlen]
    rw [hs, hn]; exact this

theorem pure_of {f : FuncId} {fn : Func} {c : Code} {args res : List AD} (hf : P.funcs[f]? = some fn) (hb : fn.body = some c) (hcall : ∀ (args : Array Value) (w : World), (callFunc f args).run P w = .ok (.enter f args) w) (hm : P.follows .mixedOrders = true) {ts : List V}
    (hn : args.map AD.toV ++ List.replicate (fn.ntmps - args.length) .junk = ts) {rs : List ResultVar} (hr : fn.results.toList = rs) (h : adOks args → codeE P [] c ⟨ts, []⟩ (retE P rs res) [] (retE P rs res)) : PureCall P f args res :=
  pure_of' hf hb hcall hm rfl hr (by rw [hn]; exact h)


/-! ### Functions that write their arguments -/

def outM (r : Option (List AD × List Nat)) (res : List AD) : Prop := r = some (res, [])

def mretE (P : Program) (rs : List ResultVar) (kv : List V) (args' res : List AD) (σ : St) : Prop := rvsE P σ rs fun vs => outM (toOAs σ.heap vs) res ∧ outOA (toOAs σ.heap kv) args'

theorem init_own' {w : World} {args : List AD} {us : List Value} {F : List Nat} (hg : GOk w.heap) (hgF : ∀ p ∈ globs, p.1 ∉ F) (hn : F.Nodup) (m : Nat) {bl : List Blk} {hs : List H}
    (hl : bl.length = hs.length ∧ bl.flatMap foot = F ∧ (∀ (i : Nat) (β : Blk) (x : H), bl[i]? = some β → hs[i]? = some x → ∀ φ T, HRel φ T w.heap β x)) (hv : ∀ φ n T, At φ n bl → VRels φ T w.heap (aVs args n) us) :
    RR (fun b => b ∈ F ∨ w.heap.size ≤ b) w ((aVs args 0).zip us) ⟨aVs args 0 ++ List.replicate m .junk, hs⟩ ⟨us.toArray ++ Array.replicate m undef, []⟩ w := by
  obtain ⟨l1, l2, l3⟩ := hl
  let φ : Phi := fun i => bl[i]?
  have hA : At φ 0 bl := fun i β e => by simpa [φ] using e
  have hV := hv φ 0 (NotTop φ hs) hA
  have hown : ∀ i b, Owns φ hs i b → ∃ β, bl[i]? = some β ∧ b ∈ foot β := by
    rintro i b ⟨β, e, h⟩
    refine ⟨β, e, ?_⟩
    unfold foot
    rcases h with ⟨_, h⟩ | ⟨_, h⟩
    · simp [h]
    · simp [h]
  refine ⟨fun i => i < hs.length, φ, ⟨?_, fun p hp => ?_, fun i => ?_, fun i j b hi hj => ?_, fun i β e hx => ?_, fun i b hi => ?_, fun i β e => ?_, Bel.refl _ _, fun k hk => .inr hk, rfl, fun p hp hb => hb.elim (hgF p hp) (fun hb => by have := (hg.1 p hp).1; omega), hg.2⟩, fun i hi => hi⟩
  · have := VRels_append hV (VRels_replicate (φ := φ) (T := NotTop φ hs) (h := w.heap) (v := .junk) (u := undef) (by simp [VRel]) m)
    simpa using this
  · rcases List.mem_append.1 hp with hp | hp
    · refine gPairs_rel hg (fun q hq i β e he => hgF q hq ?_) p hp
      rw [← l2]
      refine List.mem_flatMap.2 ⟨β, List.mem_of_getElem? e, ?_⟩
      unfold foot
      rcases he with ⟨_, he⟩ | ⟨_, he⟩ <;> simp [he]
    obtain ⟨j, hj, rfl⟩ := List.getElem_of_mem hp
    simp only [List.length_zip] at hj
    obtain ⟨u, k1, k2⟩ := VRels_at _ _ hV j _ (List.getElem?_eq_getElem (by omega))
    have hju : j < us.length := by omega
    rw [List.getElem?_eq_getElem hju] at k1
    simp only [List.getElem_zip]
    rw [Option.some.inj k1]; exact k2
  · by_cases hi : i < hs.length
    · right
      have hlt : i < bl.length := by omega
      refine ⟨bl[i], by simp [φ, hlt], ?_⟩
      have : hget hs i = hs[i] := by unfold hget; rw [List.getD_eq_getElem?_getD, List.getElem?_eq_getElem hi]; rfl
      rw [this]
      exact l3 i _ _ (List.getElem?_eq_getElem hlt) (List.getElem?_eq_getElem hi) _ _
    · left; exact hget_ge (show hs.length ≤ i from by omega)
  · obtain ⟨β, e1, e2⟩ := hown i b hi
    obtain ⟨γ, f1, f2⟩ := hown j b hj
    exact flat_inj bl l2 hn i j β γ b e1 f1 e2 f2
  · have := flat_nodup bl l2 hn β (List.mem_of_getElem? e)
    unfold foot at this
    rw [List.nodup_append] at this
    exact ⟨this.2.1, fun b hb' hb2 => this.2.2 b (by simp [hb']) b hb2 rfl⟩
  · obtain ⟨β, e1, e2⟩ := hown i b hi
    left
    rw [← l2]; exact List.mem_flatMap.2 ⟨β, List.mem_of_getElem? e1, e2⟩
  · have e : bl[i]? = some β := e
    have := (List.getElem?_eq_some_iff.1 e).1
    omega

theorem init_own {w : World} {args : List AD} {us : List Value} {F : List Nat} (hg : GOk w.heap) (hgF : ∀ p ∈ globs, p.1 ∉ F) (h : areps w.heap true args us F) (hn : F.Nodup) (m : Nat) :
    RR (fun b => b ∈ F ∨ w.heap.size ≤ b) w ((aVs args 0).zip us) ⟨aVs args 0 ++ List.replicate m .junk, aHs args⟩ ⟨us.toArray ++ Array.replicate m undef, []⟩ w := by
  obtain ⟨bl, ⟨l1, l2, l3, l4⟩, hv⟩ := aVs_rel args us F h
  exact init_own' hg hgF hn m ⟨l1, l2, l3⟩ hv

theorem init_cln {w : World} {args : List AD} {us : List Value} {F : List Nat} (hg : GOk w.heap) (hgF : ∀ p ∈ globs, p.1 ∉ F) (h : areps w.heap true args us F) (hn : F.Nodup) (m : Nat) :
    RR (fun b => b ∈ F ∨ w.heap.size ≤ b) w ((aVs args 0).zip us) ⟨aVs args 0 ++ List.replicate m .junk, (aHs args).map H.toCln⟩ ⟨us.toArray ++ Array.replicate m undef, []⟩ w := by
  obtain ⟨bl, hl, hv⟩ := aVs_rel args us F h
  exact init_own' hg hgF hn m hl.cln hv

theorem aVs_len {h : Array Obj} {o : Bool} : ∀ (args : List AD) (us : List Value) (F : List Nat) (n : Nat), areps h o args us F → us.length = args.length ∧ (aVs args n).length = args.length
  | [], us, F, n, r => by simp only [areps] at r; simp [r.1, aVs]
  | d :: ds, us, F, n, r => by
    simp only [areps] at r
    obtain ⟨u, us', F1, F2, rfl, rfl, r1, r2⟩ := r
    obtain ⟨h1, h2⟩ := aVs_len ds us' F2 (n + (aH d).length) r2
    simp [aVs, h1, h2]

theorem kp_rels {φ : Phi} {T : Nat → Prop} {h : Array Obj} : ∀ (vs : List V) (us : List Value), vs.length = us.length → (∀ p ∈ vs.zip us, VRel φ T h p.1 p.2) → VRels φ T h vs us
  | [], [], _, _ => by simp [VRels]
  | [], _ :: _, hl, _ => by simp at hl
  | _ :: _, [], hl, _ => by simp at hl
  | v :: vs, u :: us, hl, h => by
    simp only [VRels]
    exact ⟨u, us, rfl, h (v, u) (by simp), kp_rels vs us (by simpa using hl) fun p hp => h p (by simp [hp])⟩

theorem mut_of {f : FuncId} {fn : Func} {c : Code} {args args' res : List AD} (hf : P.funcs[f]? = some fn) (hb : fn.body = some c) (hcall : ∀ (args : Array Value) (w : World), (callFunc f args).run P w = .ok (.enter f args) w) (hm : P.follows .mixedOrders = true) {ts : List V} {hs : List H} {kv : List V}
    (hkv : aVs args 0 = kv) (hhs : aHs args = hs) (hn : kv ++ List.replicate (fn.ntmps - args.length) .junk = ts) {rs : List ResultVar} (hr : fn.results.toList = rs) (h0 : adOks args → codeE P kv c ⟨ts, hs⟩ (mretE P rs kv args' res) [] (mretE P rs kv args' res)) : MutCall P f args args' res := by
  intro w us F hg hgF ha hnd
  subst hr; subst hkv; subst hhs; subst hn
  have h := h0 (areps_ok _ _ _ ha)
  clear h0
  obtain ⟨hlen, hlen'⟩ := aVs_len args us F 0 ha
  have hzip : ((aVs args 0).zip us).map (·.1) = aVs args 0 := by
    have : ((aVs args 0).zip us).map Prod.fst = aVs args 0 := List.map_fst_zip (by omega)
    exact this
  have fin : ∀ (σ : St) (a : Act) (w' : World), mretE P fn.results.toList (aVs args 0) args' res σ → RR (fun b => b ∈ F ∨ w.heap.size ≤ b) w ((aVs args 0).zip us) σ a w' → a.defers = [] ∧ ∃ v, (results fn a.tmps).run P w' = .ok v w' ∧
      ∃ F', Bel (fun b => b ∈ F ∨ w.heap.size ≤ b) w w' ∧ areps w'.heap true args' us F' ∧ F'.Nodup ∧ (∀ b ∈ F', b ∈ F ∨ w.heap.size ≤ b) ∧ trep w'.heap true res v [] := by
    rintro σ a w' hret ⟨Dm, φ, r, _⟩
    obtain ⟨vs, ws, ⟨g1, g2⟩, hv, hu⟩ := rvsE_ok r _ _ hret
    unfold outM at g1
    unfold outOA at g2
    split at g2
    · rename_i as ids ho
      obtain ⟨hn, rfl⟩ := g2
      obtain ⟨F', f1, f2, f3⟩ := toOAs_rel r _ as ids us ho hn (kp_rels _ _ (by omega) fun p hp => r.kp p (List.mem_append_right _ hp))
      obtain ⟨G, gg1, gg2, gg3⟩ := toOAs_rel r vs res [] ws g1 List.nodup_nil hv
      have hG : G = [] := List.eq_nil_iff_forall_not_mem.2 fun b hb => by obtain ⟨id, hid, _⟩ := gg3 b hb; cases hid
      subst hG
      refine ⟨r.de, if h : ws.length = 1 then ws[0] else .tuple ws.toArray, ?_, F', r.bel, f1, f2, fun b hb => by obtain ⟨id, _, i2⟩ := f3 b hb; exact r.o3 _ b i2, ?_⟩
      · rw [results_eq, Array.mapM_eq_mapM_toList]
        simp only [Sem.run_bind, Sem.run_map, hu]
        simp only [Result.andThen, List.size_toArray, Sem.run_pure]
        split <;> simp_all
      · have hl := (aVs_len res ws [] 0 gg1).1
        unfold trep
        split
        · rename_i x
          simp only [areps] at gg1
          obtain ⟨u, us', F1, F2, rfl, e, r1, r2, rfl⟩ := gg1
          subst r2
          have : F1 = [] := by simpa using e.symm
          subst this
          simpa using r1
        · rename_i hne
          refine ⟨ws.toArray, ?_, gg1⟩
          rw [dif_neg]
          intro h1
          rw [hl] at h1
          obtain ⟨x, hx⟩ := List.length_eq_one_iff.1 h1
          exact hne x hx
    · exact g2.elim
  refine Does.enter (hcall _ _) (calls_of_wp hf hb ?_)
  refine codeE_ok (B := fun b => b ∈ F ∨ w.heap.size ≤ b) (w0 := w) (kp := (aVs args 0).zip us) (kv := aVs args 0) hzip hm c _ (mretE P fn.results.toList (aVs args 0) args' res) [] (mretE P fn.results.toList (aVs args 0) args' res) _ _ w (fun σ a w' h' r' => ?_) (fun id σ a w' h' _ => h'.elim) (fun σ a w' h' r' => ?_) h ?_
  · exact fin σ a w' h' r'
  · exact fin σ a w' h' r'
  · have := init_own hg hgF ha hnd (fn.ntmps - args.length)
    have hs : us.toArray.size = args.length := by rw [List.size_toArray, hlen]
    rw [hs]; exact this

theorem cons_of {f : FuncId} {fn : Func} {c : Code} {args res : List AD} (hf : P.funcs[f]? = some fn) (hb : fn.body = some c) (hcall : ∀ (args : Array Value) (w : World), (callFunc f args).run P w = .ok (.enter f args) w) (hm : P.follows .mixedOrders = true) {ts : List V} {hs : List H}
    (hhs : aHs args = hs) (hn : aVs args 0 ++ List.replicate (fn.ntmps - args.length) .junk = ts) {rs : List ResultVar} (hr : fn.results.toList = rs) (h0 : adOks args → codeE P [] c ⟨ts, hs⟩ (retE P rs res) [] (retE P rs res)) : ConsCall P f args res := by
  intro w us F hg hgF ha hnd
  subst hr; subst hhs; subst hn
  have h := h0 (areps_ok _ _ _ ha)
  clear h0
  obtain ⟨hlen, hlen'⟩ := aVs_len args us F 0 ha
  have fin : ∀ (σ : St) (a : Act) (w' : World), retE P fn.results.toList res σ → RR (fun b => b ∈ F ∨ w.heap.size ≤ b) w [] σ a w' → a.defers = [] ∧ ∃ v, (results fn a.tmps).run P w' = .ok v w' ∧
      ∃ F', Bel (fun b => b ∈ F ∨ w.heap.size ≤ b) w w' ∧ trep w'.heap true res v F' ∧ F'.Nodup ∧ ∀ b ∈ F', b ∈ F ∨ w.heap.size ≤ b := by
    rintro σ a w' hret ⟨Dm, φ, r, _⟩
    obtain ⟨v, F', e1, e2, e3, e4⟩ := retE_ok r hret
    exact ⟨r.de, v, e1, F', r.bel, e2, e3, fun b hb => (e4 b hb).1⟩
  refine Does.enter (hcall _ _) (calls_of_wp hf hb ?_)
  refine codeE_ok (B := fun b => b ∈ F ∨ w.heap.size ≤ b) (w0 := w) (kp := []) (kv := []) rfl hm c _ (retE P fn.results.toList res) [] (retE P fn.results.toList res) _ _ w (fun σ a w' h' r' => ?_) (fun id σ a w' h' _ => h'.elim) (fun σ a w' h' r' => ?_) h ?_
  · exact fin σ a w' h' r'
  · exact fin σ a w' h' r'
  · have := init_own hg hgF ha hnd (fn.ntmps - args.length)
    have hs : us.toArray.size = args.length := by rw [List.size_toArray, hlen]
    rw [hs]
    obtain ⟨Dm, φ, r, hD⟩ := this
    exact ⟨Dm, φ, { r with kp := fun p hp => r.kp p (by rw [List.append_nil] at hp; exact List.mem_append_left _ hp) }, hD⟩

theorem mut_ofc {f : FuncId} {fn : Func} {c : Code} {args args' res : List AD} (hf : P.funcs[f]? = some fn) (hb : fn.body = some c) (hcall : ∀ (args : Array Value) (w : World), (callFunc f args).run P w = .ok (.enter f args) w) (hm : P.follows .mixedOrders = true) {ts : List V} {hs : List H} {kv : List V}
    (hkv : aVs args 0 = kv) (hhs : (aHs args).map H.toCln = hs) (hn : kv ++ List.replicate (fn.ntmps - args.length) .junk = ts) {rs : List ResultVar} (hr : fn.results.toList = rs) (h0 : adOks args → codeE P kv c ⟨ts, hs⟩ (mretE P rs kv args' res) [] (mretE P rs kv args' res)) : MutCall P f args args' res := by
  intro w us F hg hgF ha hnd
  subst hr; subst hkv; subst hhs; subst hn
  have h := h0 (areps_ok _ _ _ ha)
  clear h0
  obtain ⟨hlen, hlen'⟩ := aVs_len args us F 0 ha
  have hzip : ((aVs args 0).zip us).map (·.1) = aVs args 0 := by
    have : ((aVs args 0).zip us).map Prod.fst = aVs args 0 := List.map_fst_zip (by omega)
    exact this
  have fin : ∀ (σ : St) (a : Act) (w' : World), mretE P fn.results.toList (aVs args 0) args' res σ → RR (fun b => b ∈ F ∨ w.heap.size ≤ b) w ((aVs args 0).zip us) σ a w' → a.defers = [] ∧ ∃ v, (results fn a.tmps).run P w' = .ok v w' ∧
      ∃ F', Bel (fun b => b ∈ F ∨ w.heap.size ≤ b) w w' ∧ areps w'.heap true args' us F' ∧ F'.Nodup ∧ (∀ b ∈ F', b ∈ F ∨ w.heap.size ≤ b) ∧ trep w'.heap true res v [] := by
    rintro σ a w' hret ⟨Dm, φ, r, _⟩
    obtain ⟨vs, ws, ⟨g1, g2⟩, hv, hu⟩ := rvsE_ok r _ _ hret
    unfold outM at g1
    unfold outOA at g2
    split at g2
    · rename_i as ids ho
      obtain ⟨hn, rfl⟩ := g2
      obtain ⟨F', f1, f2, f3⟩ := toOAs_rel r _ as ids us ho hn (kp_rels _ _ (by omega) fun p hp => r.kp p (List.mem_append_right _ hp))
      obtain ⟨G, gg1, gg2, gg3⟩ := toOAs_rel r vs res [] ws g1 List.nodup_nil hv
      have hG : G = [] := List.eq_nil_iff_forall_not_mem.2 fun b hb => by obtain ⟨id, hid, _⟩ := gg3 b hb; cases hid
      subst hG
      refine ⟨r.de, if h : ws.length = 1 then ws[0] else .tuple ws.toArray, ?_, F', r.bel, f1, f2, fun b hb => by obtain ⟨id, _, i2⟩ := f3 b hb; exact r.o3 _ b i2, ?_⟩
      · rw [results_eq, Array.mapM_eq_mapM_toList]
        simp only [Sem.run_bind, Sem.run_map, hu]
        simp only [Result.andThen, List.size_toArray, Sem.run_pure]
        split <;> simp_all
      · have hl := (aVs_len res ws [] 0 gg1).1
        unfold trep
        split
        · rename_i x
          simp only [areps] at gg1
          obtain ⟨u, us', F1, F2, rfl, e, r1, r2, rfl⟩ := gg1
          subst r2
          have : F1 = [] := by simpa using e.symm
          subst this
          simpa using r1
        · rename_i hne
          refine ⟨ws.toArray, ?_, gg1⟩
          rw [dif_neg]
          intro h1
          rw [hl] at h1
          obtain ⟨x, hx⟩ := List.length_eq_one_iff.1 h1
          exact hne x hx
    · exact g2.elim
  refine Does.enter (hcall _ _) (calls_of_wp hf hb ?_)
  refine codeE_ok (B := fun b => b ∈ F ∨ w.heap.size ≤ b) (w0 := w) (kp := (aVs args 0).zip us) (kv := aVs args 0) hzip hm c _ (mretE P fn.results.toList (aVs args 0) args' res) [] (mretE P fn.results.toList (aVs args 0) args' res) _ _ w (fun σ a w' h' r' => ?_) (fun id σ a w' h' _ => h'.elim) (fun σ a w' h' r' => ?_) h ?_
  · exact fin σ a w' h' r'
  · exact fin σ a w' h' r'
  · have := init_cln hg hgF ha hnd (fn.ntmps - args.length)
    have hs : us.toArray.size = args.length := by rw [List.size_toArray, hlen]
    rw [hs]; exact this

/-! ### Calls through the code -/

def tupV (vs : List V) : V := match vs with | [v] => v | vs => .tup vs

def inlRet (P : Program) (rs : List ResultVar) (K : V → List H → Prop) (σ : St) : Prop := rvsE P σ rs fun vs => K (tupV vs) σ.heap

theorem kp_vrels {φ : Phi} {T : Nat → Prop} {h : Array Obj} {vs : List V} {us : List Value} (r : VRels φ T h vs us) : VRel φ T h (tupV vs) (if hl : us.length = 1 then us[0] else .tuple us.toArray) := by
  have hl := VRels_len _ _ r
  unfold tupV
  split
  · rename_i v
    simp only [VRels] at r
    obtain ⟨u, us', rfl, r1, r2⟩ := r
    subst r2; simpa using r1
  · rename_i hne
    rw [dif_neg (fun e => by
      rw [hl] at e
      obtain ⟨x, hx⟩ := List.length_eq_one_iff.1 e
      exact hne x hx)]
    simp only [VRel]
    exact ⟨_, rfl, r⟩

theorem inl_of {f : FuncId} {fn : Func} {c : Code} {kv : List V} {hs : List H} {vs : List V} {K : V → List H → Prop} (hf : P.funcs[f]? = some fn) (hb : fn.body = some c) (hcall : ∀ (args : Array Value) (w : World), (callFunc f args).run P w = .ok (.enter f args) w) (hm : P.follows .mixedOrders = true) {ts : List V}
    (hn : vs ++ List.replicate (fn.ntmps - vs.length) .junk = ts) {rs : List ResultVar} (hr : fn.results.toList = rs) (h : codeE P kv c ⟨ts, hs⟩ (inlRet P rs K) [] (inlRet P rs K)) : InlCall P f kv hs vs K := by
  intro B w0 kp us w hkv hR
  subst hr; subst hn
  have hlen : us.length = vs.length := by
    obtain ⟨Dm, φ, r, _⟩ := hR
    have := VRels_len _ _ r.tm
    simpa using this
  have fin : ∀ (σ : St) (a : Act) (w' : World), inlRet P fn.results.toList K σ → RR B w0 kp σ a w' → a.defers = [] ∧ ∃ v, (results fn a.tmps).run P w' = .ok v w' ∧
      ∃ x hs', K x hs' ∧ RR B w0 kp ⟨[x], hs'⟩ ⟨#[v], []⟩ w' := by
    rintro σ a w' hret ⟨Dm, φ, r, hD⟩
    obtain ⟨xs, ws, g1, hv, hu⟩ := rvsE_ok r _ _ hret
    refine ⟨r.de, if h : ws.length = 1 then ws[0] else .tuple ws.toArray, ?_, _, _, g1, Dm, φ, ⟨?_, r.kp, r.hp, r.o1, r.o2, r.o3, r.dm, r.bel, r.bs, rfl, r.gb⟩, hD⟩
    · rw [results_eq, Array.mapM_eq_mapM_toList]
      simp only [Sem.run_bind, Sem.run_map, hu]
      simp only [Result.andThen, List.size_toArray, Sem.run_pure]
      split <;> simp_all
    · simp only [VRels]
      exact ⟨_, _, rfl, kp_vrels hv, rfl⟩
  refine Does.enter (hcall _ _) (calls_of_wp hf hb ?_)
  refine codeE_ok (B := B) (w0 := w0) (kp := kp) (kv := kv) hkv hm c _ (inlRet P fn.results.toList K) [] (inlRet P fn.results.toList K) _ _ w (fun σ a w' h' r' => ?_) (fun id σ a w' h' _ => h'.elim) (fun σ a w' h' r' => ?_) h ?_
  · exact fin σ a w' h' r'
  · exact fin σ a w' h' r'
  · obtain ⟨Dm, φ, r, hD⟩ := hR
    have hs' : us.toArray.size = vs.length := by rw [List.size_toArray, hlen]
    refine ⟨Dm, φ, ⟨?_, r.kp, r.hp, r.o1, r.o2, r.o3, r.dm, r.bel, r.bs, rfl, r.gb⟩, hD⟩
    have := VRels_append r.tm (VRels_replicate (φ := φ) (T := NotTop φ hs) (h := w.heap) (v := .junk) (u := undef) (by simp [VRel]) (fn.ntmps - vs.length))
    rw [hs']; simpa using this

/-- A call that changes nothing but makes new entries, which are forgotten. -/
theorem InlCall.mono {f : FuncId} {kv : List V} {hs : List H} {vs : List V} {K K' : V → List H → Prop} (h : InlCall P f kv hs vs K) (hk : ∀ x hs', K x hs' → K' x hs') : InlCall P f kv hs vs K' := by
  intro B w0 kp us w hkv hR
  exact (h B w0 kp us w hkv hR).mono fun v w' ⟨x, hs', h1, h2⟩ => ⟨x, hs', hk x hs' h1, h2⟩

end Gv
