/-
  Operations that only compute a value: integers, booleans, strings, addresses, slices of what is there.
-/
import Derived.Test.YtiaaipckeinbiaaGvOps
import Derived.Laws.Strings
namespace Gv
open Go

theorem wrap_range (k : IntKind) (n : Int) : k.min ≤ k.wrap n ∧ k.wrap n ≤ k.max := by
  cases k <;> simp only [IntKind.min, IntKind.max, IntKind.wrap, IntKind.bits, IntKind.signed] <;> simp <;> (try split) <;> omega

theorem k_range (k : IntKind) : k.min ≤ 0 ∧ 0 ≤ k.max := by
  cases k <;> simp [IntKind.min, IntKind.max, IntKind.bits, IntKind.signed]

theorem tmod_range {k : IntKind} {x y : Int} (h : k.min ≤ x ∧ x ≤ k.max) : k.min ≤ x.tmod y ∧ x.tmod y ≤ k.max := by
  have hk := k_range k
  rcases Int.le_total 0 x with h0 | h0
  · have h1 := Int.tmod_nonneg y h0
    have h2 : x.tmod y ≤ x := by
      have := Int.natAbs_tmod x y
      have h3 : x.natAbs % y.natAbs ≤ x.natAbs := Nat.mod_le _ _
      omega
    omega
  · have h1 : x.tmod y ≤ 0 := by
      have := Int.tmod_nonneg (a := -x) y (by omega)
      rw [Int.neg_tmod] at this; omega
    have h2 : x ≤ x.tmod y := by
      have := Int.natAbs_tmod x y
      have h3 : x.natAbs % y.natAbs ≤ x.natAbs := Nat.mod_le _ _
      omega
    omega

theorem fdiv_range {k : IntKind} {x : Int} {n : Nat} (h : k.min ≤ x ∧ x ≤ k.max) : k.min ≤ x.fdiv (2 ^ n) ∧ x.fdiv (2 ^ n) ≤ k.max := by
  have hk := k_range k
  have hp : (0 : Int) < 2 ^ n := Int.pow_pos (by omega)
  have he : x.fdiv (2 ^ n) = x / (2 ^ n) := Int.fdiv_eq_ediv_of_nonneg x (by omega)
  rw [he]
  rcases Int.le_total 0 x with h0 | h0
  · have h1 : 0 ≤ x / 2 ^ n := Int.ediv_nonneg h0 (by omega)
    have h2 : x / 2 ^ n ≤ x := Int.ediv_le_self _ h0
    omega
  · have h1 : x / 2 ^ n ≤ 0 := by
      have := Int.ediv_le_ediv hp h0
      simpa using this
    have h2 : x ≤ x / 2 ^ n := by
      rw [Int.le_ediv_iff_mul_le hp]
      have : x * (2 ^ n - 1) ≤ 0 := Int.mul_nonpos_of_nonpos_of_nonneg h0 (by omega)
      rw [Int.mul_sub] at this; omega
    omega

/-- What a bit operation gives. -/
def bitI (op : BinOp) (k : IntKind) (x y : Int) : Int :=
  let a := BitVec.ofInt k.bits x
  let b := BitVec.ofInt k.bits y
  k.wrap (match op with
    | .and => (a &&& b).toNat
    | .or => (a ||| b).toNat
    | .xor => (a ^^^ b).toNat
    | _ => (a &&& ~~~b).toNat)

def dB (b : Bool) : V := .d (.bool b)
def dI (k : IntKind) (n : Int) : V := .d (.int k n)
def dS (s : List UInt8) : V := .d (.str s)

/-- Two integers of one kind: what must hold, and the value. -/
def binI (op : BinOp) (k : IntKind) (x y : Int) : Option (Prop × V) :=
  match op with
  | .add => some (True, .d (.int k (k.wrap (x + y))))
  | .sub => some (True, .d (.int k (k.wrap (x - y))))
  | .mul => some (True, .d (.int k (k.wrap (x * y))))
  | .quo => some (y ≠ 0, .d (.int k (k.wrap (x.tdiv y))))
  | .rem => some (y ≠ 0, .d (.int k (x.tmod y)))
  | .and => some (True, .d (.int k (bitI .and k x y)))
  | .or => some (True, .d (.int k (bitI .or k x y)))
  | .xor => some (True, .d (.int k (bitI .xor k x y)))
  | .eql => some (True, .d (.bool (x == y)))
  | .neq => some (True, .d (.bool (x != y)))
  | .lss => some (True, .d (.bool (decide (x < y))))
  | .leq => some (True, .d (.bool (decide (x ≤ y))))
  | .gtr => some (True, .d (.bool (decide (y < x))))
  | .geq => some (True, .d (.bool (decide (y ≤ x))))
  | _ => none

/-- A shift. -/
def shI (op : BinOp) (k : IntKind) (x y : Int) : Option (Prop × V) :=
  match op with
  | .shl => some (0 ≤ y, .d (.int k (k.wrap (x * 2 ^ min y.toNat k.bits))))
  | .shr => some (0 ≤ y, .d (.int k (x.fdiv (2 ^ min y.toNat k.bits))))
  | _ => none

def binS (op : BinOp) (x y : List UInt8) : Option (Prop × V) :=
  match op with
  | .add => some (x.length + y.length ≤ maxLen, .d (.str (x ++ y)))
  | .eql => some (True, .d (.bool (x == y)))
  | .neq => some (True, .d (.bool (x != y)))
  | _ => none

/-- The comparison of two scalars, as a cell of a struct. -/
def eqD : D → D → Option Bool
  | .int k x, .int k' y => if k = k' then some (decide (x = y)) else none
  | .bool x, .bool y => some (decide (x = y))
  | .str x, .str y => some (decide (x = y))
  | _, _ => none

section
variable {φ : Phi} {T : Nat → Prop} {h : Array Obj}

theorem rel_int {k : IntKind} {n : Int} {u : Value} (r : VRel φ T h (.d (.int k n)) u) : u = .int k n ∧ k.min ≤ n ∧ n ≤ k.max := by
  simp only [VRel, rep] at r
  obtain ⟨F, ⟨r1, _, r2, r3⟩, _⟩ := r
  exact ⟨r1, r2, r3⟩
theorem rel_bool {b : Bool} {u : Value} (r : VRel φ T h (.d (.bool b)) u) : u = .bool b := by
  simp only [VRel, rep] at r
  obtain ⟨F, ⟨r1, _⟩, _⟩ := r
  exact r1
theorem rel_str {s : List UInt8} {u : Value} (r : VRel φ T h (.d (.str s)) u) : u = .string ⟨s.toArray⟩ ∧ s.length ≤ maxLen := by
  simp only [VRel, rep] at r
  obtain ⟨F, ⟨r1, _, r2⟩, _⟩ := r
  exact ⟨r1, r2⟩
theorem mk_int {k : IntKind} {n : Int} (h1 : k.min ≤ n ∧ n ≤ k.max) : VRel φ T h (.d (.int k n)) (.int k n) := by
  simp only [VRel, rep]; exact ⟨[], ⟨trivial, rfl, h1.1, h1.2⟩, by simp⟩
theorem mk_bool (b : Bool) : VRel φ T h (.d (.bool b)) (.bool b) := by
  simp only [VRel, rep]; exact ⟨[], ⟨trivial, rfl⟩, by simp⟩
theorem mk_str {s : List UInt8} (h1 : s.length ≤ maxLen) : VRel φ T h (.d (.str s)) (.string ⟨s.toArray⟩) := by
  simp only [VRel, rep]; exact ⟨[], ⟨trivial, rfl, h1⟩, by simp⟩
end

theorem bytes_append (x y : List UInt8) : (⟨x.toArray⟩ : ByteArray) ++ (⟨y.toArray⟩ : ByteArray) = ⟨(x ++ y).toArray⟩ := by
  apply ByteArray.ext
  simp [ByteArray.data_append]

theorem toList_mk (x : List UInt8) : (⟨x.toArray⟩ : ByteArray).toList = x := by
  rw [Go.ByteArray.toList_eq]

section
variable {P : Program} {w : World} {φ : Phi} {T : Nat → Prop} {h : Array Obj}

theorem binI_run {op : BinOp} {k : IntKind} {x y : Int} {p : Prop} {v : V} (hx : k.min ≤ x ∧ x ≤ k.max) (hE : binI op k x y = some (p, v)) (hp : p) (t : TypeId) :
    ∃ u, (binOp op t (.int k x) (.int k y)).run P w = .ok u w ∧ VRel φ T h v u := by
  cases op <;> simp only [binI, Option.some.injEq, Prod.mk.injEq, reduceCtorEq] at hE <;> obtain ⟨rfl, rfl⟩ := hE
  case add => exact ⟨_, by simp [binOp, Op.intArith], mk_int (wrap_range _ _)⟩
  case sub => exact ⟨_, by simp [binOp, Op.intArith], mk_int (wrap_range _ _)⟩
  case mul => exact ⟨_, by simp [binOp, Op.intArith], mk_int (wrap_range _ _)⟩
  case quo => exact ⟨_, by simp [binOp, Op.intDiv, hp], mk_int (wrap_range _ _)⟩
  case rem => exact ⟨_, by simp [binOp, Op.intDiv, hp], mk_int (tmod_range hx)⟩
  case and => exact ⟨_, by simp [binOp, Op.intBits, bitI], mk_int (wrap_range _ _)⟩
  case or => exact ⟨_, by simp [binOp, Op.intBits, bitI], mk_int (wrap_range _ _)⟩
  case xor => exact ⟨_, by simp [binOp, Op.intBits, bitI], mk_int (wrap_range _ _)⟩
  all_goals exact ⟨_, by simp [binOp, Op.intCmp], mk_bool _⟩

theorem shI_run {op : BinOp} {k k' : IntKind} {x y : Int} {p : Prop} {v : V} (hx : k.min ≤ x ∧ x ≤ k.max) (hE : shI op k x y = some (p, v)) (hp : p) (t : TypeId) :
    ∃ u, (binOp op t (.int k x) (.int k' y)).run P w = .ok u w ∧ VRel φ T h v u := by
  cases op <;> simp only [shI, Option.some.injEq, Prod.mk.injEq, reduceCtorEq] at hE <;> obtain ⟨rfl, rfl⟩ := hE
  case shl => exact ⟨_, by simp [binOp, Op.shift, Int.not_lt.2 hp], mk_int (wrap_range _ _)⟩
  case shr => exact ⟨_, by simp [binOp, Op.shift, Int.not_lt.2 hp], mk_int (fdiv_range hx)⟩

theorem binS_run {op : BinOp} {x y : List UInt8} {p : Prop} {v : V} (hE : binS op x y = some (p, v)) (hp : p) (t : TypeId) :
    ∃ u, (binOp op t (.string ⟨x.toArray⟩) (.string ⟨y.toArray⟩)).run P w = .ok u w ∧ VRel φ T h v u := by
  cases op <;> simp only [binS, Option.some.injEq, Prod.mk.injEq, reduceCtorEq] at hE <;> obtain ⟨rfl, rfl⟩ := hE
  case add =>
    refine ⟨_, ?_, mk_str (by simpa using hp)⟩
    have h1 : ¬ (((⟨x.toArray⟩ : ByteArray).size + (⟨y.toArray⟩ : ByteArray).size : Nat) : Int) > IntKind.i64.max := by
      have h2 : (⟨x.toArray⟩ : ByteArray).size = x.length := by simp [ByteArray.size]
      have h3 : (⟨y.toArray⟩ : ByteArray).size = y.length := by simp [ByteArray.size]
      have h5 : IntKind.i64.max = 9223372036854775807 := by decide
      rw [h2, h3, h5]; simp only [maxLen] at hp; omega
    simp only [binOp, Op.stringOp]
    rw [if_neg h1, bytes_append]; rfl
  case eql => exact ⟨_, by simp only [binOp, Op.stringOp, toList_mk]; rfl, mk_bool _⟩
  case neq => exact ⟨_, by simp only [binOp, Op.stringOp, toList_mk]; rfl, mk_bool _⟩
end

end Gv
