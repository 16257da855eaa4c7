/-
  Plain laws about marks, sums and rows: no program is named here.
-/
import Derived.Test.YtiaaipckeinbiaaTypes
namespace Gv
open Go Go.Proofs

theorem map_at {α : Type} (f : α → List D) (xs : List α) (i : Nat) (h : i < xs.length) : (xs.map f)[i]? = some (f xs[i]) := by simp [h]
theorem inc {i m : Nat} (h : i < m) (hm : m ≤ maxLen) : IntKind.i64.wrap ((i : Int) + 1) = ((i + 1 : Nat) : Int) := by
  simp only [maxLen] at hm
  rw [w64] <;> omega
theorem i64_of {n : Int} (h : dOk (.int .i64 n)) : -9223372036854775808 ≤ n ∧ n ≤ 9223372036854775807 := by
  have h1 : IntKind.i64.min = -9223372036854775808 := by decide
  have h2 : IntKind.i64.max = 9223372036854775807 := by decide
  simp only [dOk, h1, h2] at h; exact h
theorem wsub {left : Int} {n : Nat} (hl : 0 ≤ left ∧ left ≤ 1048576) (hn : n ≤ maxLen) : IntKind.i64.wrap (left - n) = left - n := by
  simp only [maxLen] at hn
  rw [w64] <;> omega
theorem take_eq {α : Type} {xs ys : List α} {i : Nat} (he : xs.take i = ys.take i) (hx : i < xs.length) (hy : i < ys.length) (h : xs[i] = ys[i]) : xs.take (i + 1) = ys.take (i + 1) := by
  rw [List.take_add_one, List.take_add_one, he, List.getElem?_eq_getElem hx, List.getElem?_eq_getElem hy, h]
theorem len_of {α : Type} {e : α → List D} {sz : Nat} {xs : List α} {rs : List AD} (h : adOks (.one (.sl sz (xs.map e)) :: rs)) : xs.length ≤ maxLen := by
  have := h.1.1; rwa [List.length_map] at this

def nx (k : Int) : Int := IntKind.i64.wrap (k + 1)
def nxs : Nat → Int → Int
  | 0, k => k
  | n + 1, k => nx (nxs n k)
theorem nxs_shift (k : Int) : ∀ n, nxs (n + 1) k = nxs n (nx k)
  | 0 => rfl
  | n + 1 => by rw [nxs, nxs_shift k n]; rfl
theorem nxs_add (b : Nat) (k : Int) : ∀ a, nxs (a + b) k = nxs a (nxs b k)
  | 0 => by simp [nxs]
  | a + 1 => by rw [Nat.add_right_comm, nxs, nxs_add b k a]; rfl

theorem nxs_small {k : Int} (hk : 0 ≤ k) : ∀ n : Nat, k + n ≤ 4611686018427387904 → nxs n k = k + n
  | 0, _ => by simp [nxs]
  | n + 1, h => by
    rw [nxs, nxs_small hk n (by omega), nx, w64 (by omega) (by omega)]; omega
theorem nxs_nn {n : Nat} (h : n ≤ 1000000000000) : ¬ nxs n 1 < 0 := by rw [nxs_small (by omega) n (by omega)]; omega
section
variable {α : Type} (mk : Int → α) (c : Nat)
def mkL (k : Int) (xs : List α) (i : Nat) : List α := (List.range i).map (fun j => mk (nxs (c * j) k)) ++ xs.drop i
theorem mkL_zero (k : Int) (xs : List α) : mkL mk c k xs 0 = xs := by simp [mkL]
theorem mkL_get (e : α → List D) (k : Int) (xs : List α) (i : Nat) (h : i < xs.length) : ((mkL mk c k xs i).map e)[i]? = some (e xs[i]) := by
  rw [List.getElem?_map]; unfold mkL
  rw [List.getElem?_append_right (by simp)]
  simp [h]
theorem mkL_set (e : α → List D) (k : Int) (xs : List α) (i : Nat) (h : i < xs.length) : ((mkL mk c k xs i).map e).set i (e (mk (nxs (c * i) k))) = (mkL mk c k xs (i + 1)).map e := by
  rw [← List.map_set]
  congr 1
  unfold mkL
  rw [List.set_append_right _ _ (by simp)]
  rw [List.range_succ, List.map_append, List.append_assoc]
  congr 1
  simp only [List.length_map, List.length_range, Nat.sub_self]
  rw [List.drop_eq_getElem_cons h]
  rfl
theorem mkL_len (k : Int) (xs : List α) (i : Nat) (h : i ≤ xs.length) : (mkL mk c k xs i).length = xs.length := by simp [mkL]; omega
@[go_sem] theorem mkL_len_self (k : Int) (xs : List α) : (mkL mk c k xs xs.length).length = xs.length := mkL_len mk c k xs _ (Nat.le_refl _)
@[go_sem] theorem mkL_take_self (e : α → List D) (k : Int) (xs : List α) : ((mkL mk c k xs xs.length).map e).take xs.length = (mkL mk c k xs xs.length).map e := List.take_of_length_le (by simp [mkL_len_self])
def heldL [DecidableEq α] : Int → List α → Int
  | k, [] => k
  | k, x :: xs => if x = mk k then heldL (nxs c k) xs else -1
theorem held_mk [DecidableEq α] : ∀ (n : Nat) (k : Int), heldL mk c k ((List.range n).map fun j => mk (nxs (c * j) k)) = nxs (c * n) k
  | 0, k => by simp [heldL, nxs]
  | n + 1, k => by
    rw [List.range_succ_eq_map, List.map_cons, List.map_map, heldL, if_pos (by simp [nxs])]
    have : ((fun j => mk (nxs (c * j) k)) ∘ Nat.succ) = fun j => mk (nxs (c * j) (nxs c k)) := by
      funext j
      simp only [Function.comp, Nat.succ_eq_add_one, Nat.mul_add, Nat.mul_one, nxs_add]
    rw [this, held_mk n (nxs c k), ← nxs_add, Nat.mul_add, Nat.mul_one]
theorem held_all [DecidableEq α] (k : Int) (xs : List α) : heldL mk c k (mkL mk c k xs xs.length) = nxs (c * xs.length) k := by
  unfold mkL; rw [List.drop_length, List.append_nil]; exact held_mk mk c _ _
attribute [go_sem] held_all
theorem heldL_step [DecidableEq α] (k : Int) (xs : List α) (i : Nat) (h : i < xs.length) : heldL mk c k (xs.drop i) = if xs[i] = mk k then heldL mk c (nxs c k) (xs.drop (i + 1)) else -1 := by
  rw [List.drop_eq_getElem_cons h, heldL]
end

section
variable {α : Type}
def cpL (z : α) (xs : List α) (i : Nat) : List α := xs.take i ++ List.replicate (xs.length - i) z
theorem cpL_len (z : α) (xs : List α) (i : Nat) (h : i ≤ xs.length) : (cpL z xs i).length = xs.length := by simp [cpL]; omega
theorem cpL_get (z : α) (e : α → List D) (xs : List α) (i : Nat) (h : i < xs.length) : ((cpL z xs i).map e)[i]? = some (e z) := by
  rw [List.getElem?_map]; unfold cpL
  rw [List.getElem?_append_right (by simp; omega)]
  simp [List.getElem?_replicate]; omega
theorem cpL_set (z : α) (e : α → List D) (xs : List α) (i : Nat) (h : i < xs.length) : ((cpL z xs i).map e).set i (e xs[i]) = (cpL z xs (i + 1)).map e := by
  rw [← List.map_set]
  congr 1
  unfold cpL
  have hl : (xs.take i).length = i := by simp; omega
  rw [List.set_append_right _ _ (by omega), hl, Nat.sub_self, show xs.length - i = (xs.length - (i + 1)) + 1 from by omega, List.replicate_succ, List.set_cons_zero, List.take_add_one, List.getElem?_eq_getElem h, Option.toList_some, List.append_assoc]
  rfl
theorem cpL_all (z : α) (xs : List α) : cpL z xs xs.length = xs := by simp [cpL]
theorem cpL_zero (z : α) (xs : List α) : cpL z xs 0 = List.replicate xs.length z := by simp [cpL]
end

/-- What is left of a budget. -/
def szB (n : Nat) (left : Int) : Int := if (n : Int) ≤ left then left - n else -1
theorem szB_lt {n : Nat} {left : Int} (h : left < n) : szB n left = -1 := by unfold szB; rw [if_neg (by omega)]
theorem szB_ge {n : Nat} {left : Int} (h : (n : Int) ≤ left) : szB n left = left - n := by unfold szB; rw [if_pos h]
theorem szB_neg {n : Nat} {left : Int} (h : szB n left < 0) : left < n := by unfold szB at h; split at h <;> omega
theorem szB_pos {n : Nat} {left : Int} (h : ¬ szB n left < 0) : szB n left = left - n ∧ (n : Int) ≤ left := by unfold szB at *; split at h <;> simp_all <;> omega

def sumB {α : Type} (f : α → Nat) (xs : List α) : Nat := (xs.map f).sum
theorem sumB_take {α : Type} (f : α → Nat) (xs : List α) (i : Nat) (h : i < xs.length) : sumB f (xs.take (i + 1)) = sumB f (xs.take i) + f xs[i] := by
  unfold sumB
  rw [List.take_add_one, List.getElem?_eq_getElem h]
  simp only [Option.toList_some, List.map_append, List.map_cons, List.map_nil, List.sum_append, List.sum_cons, List.sum_nil, Nat.add_zero]
theorem sumB_take_le {α : Type} (f : α → Nat) (xs : List α) (i : Nat) : sumB f (xs.take i) ≤ sumB f xs := by
  unfold sumB
  conv => rhs; rw [← List.take_append_drop i xs]
  simp only [List.map_append, List.sum_append]; omega
theorem sumB_at {α : Type} (f : α → Nat) (xs : List α) (i : Nat) (h : i < xs.length) : f xs[i] ≤ sumB f xs := by
  have h1 := sumB_take f xs i h
  have h2 := sumB_take_le f xs (i + 1)
  omega
theorem sumB_nil {α : Type} (f : α → Nat) : sumB f ([] : List α) = 0 := rfl

/-! ### Elements that are marked one after the other, each with slices of its own -/
section
variable {α : Type}
def kN (adv : Int → α → Int) (k : Int) (xs : List α) : Int := xs.foldl adv k
def mkN (mk : Int → α → α) (adv : Int → α → Int) : Int → List α → List α
  | _, [] => []
  | k, x :: xs => mk k x :: mkN mk adv (adv k x) xs
def hmap (r : Option Int) (K : Int → Int) : Int := match r with | none => -1 | some k => K k
def heldN (h : Int → α → Option Int) : Int → List α → Int
  | k, [] => k
  | k, x :: xs => hmap (h k x) fun k' => heldN h k' xs
variable (mk : Int → α → α) (adv : Int → α → Int)
theorem mkN_len : ∀ (xs : List α) (k : Int), (mkN mk adv k xs).length = xs.length
  | [], _ => rfl
  | x :: xs, k => by simp [mkN, mkN_len xs]
@[go_sem] theorem mkN_len_self (k : Int) (xs : List α) : (mkN mk adv k xs).length = xs.length := mkN_len mk adv xs k
@[go_sem] theorem mkN_take_self (e : α → List D) (k : Int) (xs : List α) : ((mkN mk adv k xs).map e).take xs.length = (mkN mk adv k xs).map e := List.take_of_length_le (by simp [mkN_len])
theorem mkN_append : ∀ (xs ys : List α) (k : Int), mkN mk adv k (xs ++ ys) = mkN mk adv k xs ++ mkN mk adv (kN adv k xs) ys
  | [], ys, k => by simp [mkN, kN]
  | x :: xs, ys, k => by simp [mkN, kN, mkN_append xs ys]
def mkP (k : Int) (xs : List α) (i : Nat) : List α := mkN mk adv k (xs.take i) ++ xs.drop i
theorem mkP_zero (k : Int) (xs : List α) : mkP mk adv k xs 0 = xs := by simp [mkP, mkN]
theorem mkP_all (k : Int) (xs : List α) : mkP mk adv k xs xs.length = mkN mk adv k xs := by simp [mkP]
theorem mkP_len (k : Int) (xs : List α) (i : Nat) (h : i ≤ xs.length) : (mkP mk adv k xs i).length = xs.length := by simp [mkP, mkN_len]; omega
theorem mkP_get (e : α → List D) (k : Int) (xs : List α) (i : Nat) (h : i < xs.length) : ((mkP mk adv k xs i).map e)[i]? = some (e xs[i]) := by
  rw [List.getElem?_map]; unfold mkP
  rw [List.getElem?_append_right (by simp [mkN_len]; omega)]
  have : (mkN mk adv k (xs.take i)).length = i := by simp [mkN_len]; omega
  simp [this, h]
theorem kN_step (k : Int) (xs : List α) (i : Nat) (h : i < xs.length) : kN adv k (xs.take (i + 1)) = adv (kN adv k (xs.take i)) xs[i] := by
  unfold kN
  rw [List.take_add_one, List.getElem?_eq_getElem h, Option.toList_some, List.foldl_append]; rfl
theorem mkP_step (e : α → List D) (k : Int) (xs : List α) (i : Nat) (h : i < xs.length) : ((mkP mk adv k xs i).map e).take i ++ e (mk (kN adv k (xs.take i)) xs[i]) :: ((mkP mk adv k xs i).map e).drop (i + 1) = (mkP mk adv k xs (i + 1)).map e := by
  have hl : (mkN mk adv k (xs.take i)).length = i := by simp [mkN_len]; omega
  unfold mkP
  rw [List.take_add_one, List.getElem?_eq_getElem h, Option.toList_some, mkN_append, List.map_append, List.take_append_of_le_length (by simp [hl]), List.take_of_length_le (by simp [hl]), List.drop_append, List.drop_eq_nil_of_le (by simp [hl])]
  simp [mkN, hl, List.map_append]
theorem kN_nxs {c : α → Nat} (ha : ∀ k x, adv k x = nxs (c x) k) : ∀ (xs : List α) (k : Int), kN adv k xs = nxs (sumB c xs) k
  | [], k => rfl
  | x :: xs, k => by
    have h1 : kN adv k (x :: xs) = kN adv (adv k x) xs := rfl
    have h2 : sumB c (x :: xs) = sumB c xs + c x := by simp [sumB]; omega
    rw [h1, kN_nxs ha xs, ha, h2, nxs_add]
theorem heldN_step (h : Int → α → Option Int) (k : Int) (xs : List α) (i : Nat) (hi : i < xs.length) : heldN h k (xs.drop i) = hmap (h k xs[i]) fun k' => heldN h k' (xs.drop (i + 1)) := by
  rw [List.drop_eq_getElem_cons hi, heldN]
theorem heldN_mkN {h : Int → α → Option Int} {c : α → Nat} (ha : ∀ k x, adv k x = nxs (c x) k) (hh : ∀ {k : Int} (_ : 0 ≤ k) (x : α), k + c x ≤ 4611686018427387904 → h k (mk k x) = some (adv k x)) : ∀ (xs : List α) (k : Int), 0 ≤ k → k + sumB c xs ≤ 4611686018427387904 → heldN h k (mkN mk adv k xs) = nxs (sumB c xs) k
  | [], k, _, _ => rfl
  | x :: xs, k, h1, h2 => by
    have h3 : sumB c (x :: xs) = sumB c xs + c x := by simp [sumB]; omega
    rw [h3] at h2
    have h4 : adv k x = k + c x := by rw [ha, nxs_small h1 _ (by omega)]
    rw [mkN, heldN, hh h1 x (by omega)]
    show heldN h (adv k x) _ = _
    rw [heldN_mkN ha hh xs (adv k x) (by omega) (by omega), ha, h3, nxs_add]
theorem sumB_le2 {f g : α → Nat} (h : ∀ x, f x ≤ 60 + 60 * g x) : ∀ (xs : List α), sumB f xs ≤ 60 * (xs.length + sumB g xs)
  | [] => by simp [sumB]
  | x :: xs => by
    have h1 := h x
    have h2 := sumB_le2 h xs
    have h3 : ∀ (f : α → Nat), sumB f (x :: xs) = f x + sumB f xs := fun f => by simp [sumB]
    rw [h3, h3, List.length_cons]; omega
end
theorem nxs_congr {a b : Nat} {k : Int} (h : a = b) : nxs a k = nxs b k := by rw [h]
theorem of_bne_t {a b : Bool} (h : (a != b) = true) : ¬ a = b := by cases a <;> cases b <;> simp_all
theorem of_bne_f {a b : Bool} (h : (a != b) = false) : a = b := by cases a <;> cases b <;> simp_all
theorem bif_and (a b : Bool) : (bif a then b else false) = (a && b) := by cases a <;> rfl
theorem bif_or (a b : Bool) : (bif a then true else b) = (a || b) := by cases a <;> rfl
theorem one_bool {a b : Bool} (h : a = true ↔ b = true) : [AD.one (D.bool a)] = [AD.one (D.bool b)] := by
  have : a = b := by cases a <;> cases b <;> simp_all
  rw [this]
@[go_sem] theorem ofVal_ptrnil : ofVal (.pointer none) = .junk := rfl
theorem nx_one (k : Int) : nx k = nxs 1 k := rfl
theorem nxs_pos {k : Int} {n : Nat} (hk : 0 ≤ k) (h : k + n ≤ 4611686018427387904) : ¬ nxs n k < 0 := by rw [nxs_small hk n h]; omega

def dig (k : Int) (acc : List UInt8) : List UInt8 :=
  if h : 0 < k then dig (k.tdiv 10) (UInt8.ofNat (IntKind.u8.wrap (IntKind.i64.wrap (48 + k.tmod 10))).toNat :: acc) else acc
termination_by k.toNat
decreasing_by
  have h1 := Int.tdiv_eq_ediv_of_nonneg (a := k) (b := 10) (by omega)
  rw [h1]; omega
def mtext (k : Int) : List UInt8 := if k ≤ 0 then [109, 48] else 109 :: dig k []
theorem mtext_len {a : Nat} {k k0 : Int} (h0 : k0 ≤ 9223372036854775807) (hk : 0 ≤ k) (h : k * 2 ^ a ≤ k0) (hp : 0 < k ∨ a ≤ 100) : a ≤ 100 := by
  rcases hp with hp | hp
  · rcases Nat.lt_or_ge 100 a with h1 | h1
    · have h2 : (2 : Int) ^ 100 ≤ 2 ^ a := by exact_mod_cast Nat.pow_le_pow_right (by omega) (by omega)
      have h3 : 1 * (2 : Int) ^ a ≤ k * 2 ^ a := Int.mul_le_mul_of_nonneg_right (by omega) (by omega)
      have h4 : (2 : Int) ^ 100 = 1267650600228229401496703205376 := by decide
      omega
    · exact h1
  · exact hp
def mkB (k : Int) : Bool := decide (Int.tmod k 3 = 0)
end Gv
