/-
  The rules by which an abstract state is computed: for 'simp only [go_sem]'. What is still to come is never looked into.
-/
import Derived.Test.YtiaaipckeinbiaaGvRun
namespace Gv
open Go

variable {P : Program}

/-! ### What is still to come stays shut: 'simp' does not go into an argument on which another's type depends -/

inductive Shut {α : Type} (a : α) : Type where
  | mk

theorem nr {a b : Prop} (h : a = b) : a = b := h

def hide {α : Type} (K : α → Prop) (_ : Shut K) : α → Prop := K
def hideP (A : Prop) (_ : Shut A) : Prop := A
def hide2 {α β : Type} (K : α → β → Prop) (_ : Shut K) : α → β → Prop := K
@[go_sem] theorem hide_app {α : Type} (K : α → Prop) (s : Shut K) (x : α) : hide K s x = K x := nr rfl
@[go_sem] theorem hide2_app {α β : Type} (K : α → β → Prop) (s : Shut K) (x : α) (y : β) : hide2 K s x y = K x y := nr rfl

section
variable {g : Bool} {K : V → Prop}
@[go_sem] theorem evg_d (x : D) : evg g (.d x) K = K (.d x) := nr rfl
@[go_sem] theorem evg_nils (s : Nat) : evg g (.nils s) K = K (.nils s) := nr rfl
@[go_sem] theorem evg_agg (vs : List V) : evg g (.agg vs) K = K (.agg vs) := nr rfl
@[go_sem] theorem evg_ptr (a b c : Nat) : evg g (.ptr a b c) K = K (.ptr a b c) := nr rfl
@[go_sem] theorem evg_rp (a : List D) (b : Nat) : evg g (.rp a b) K = K (.rp a b) := nr rfl
@[go_sem] theorem evg_sl (a b c : Nat) : evg g (.sl a b c) K = K (.sl a b c) := nr rfl
@[go_sem] theorem evg_fn (a : FuncId) (b : List V) : evg g (.fn a b) K = K (.fn a b) := nr rfl
@[go_sem] theorem evg_tup (a : List V) : evg g (.tup a) K = K (.tup a) := nr rfl
@[go_sem] theorem evg_gd (c : Bool) (v : V) : evg g (.gd c v) K = ((g = true → c = true) ∧ K v) := nr rfl
@[go_sem] theorem evg_junk : evg g .junk K = K .junk := nr rfl
end
@[go_sem] theorem asB_d (b : Bool) (K : Bool → Prop) : asB (.d (.bool b)) K = K b := nr rfl
@[go_sem] theorem asI_d (k : IntKind) (n : Int) (K : IntKind → Int → Prop) : asI (.d (.int k n)) K = K k n := nr rfl
@[go_sem] theorem withR_some (p : Prop) (v : V) (K : V → Prop) : withR (some (p, v)) K = (p ∧ K v) := nr rfl
@[go_sem] theorem withO_some (v : V) (K : V → Prop) : withO (some v) K = K v := nr rfl
@[go_sem] theorem withS_some (p : Prop) (r : Res) (K : Res → Prop) : withS (some (p, r)) K = (p ∧ K r) := nr rfl
@[go_sem] theorem withN_some (n : Nat) (K : Nat → Prop) : withN (some n) K = K n := nr rfl
@[go_sem] theorem condE_true' (A B : Prop) (s : Shut A) : condE true (hideP A s) B = A := by simp [condE, hideP]
@[go_sem] theorem condE_false' (A B : Prop) (s : Shut B) : condE false A (hideP B s) = B := by simp [condE, hideP]

/-! ### States -/

@[go_sem] theorem rep_junk (n : Nat) : List.replicate (n + 1) V.junk = V.junk :: List.replicate n V.junk := rfl

def nth : List V → Nat → V
  | [], _ => .junk
  | v :: _, 0 => v
  | _ :: vs, n + 1 => nth vs n

theorem nth_getD : ∀ (vs : List V) (n : Nat), vs.getD n .junk = nth vs n
  | [], n => by simp [nth]
  | v :: vs, 0 => by simp [nth]
  | v :: vs, n + 1 => by simpa [nth] using nth_getD vs n

@[go_sem] theorem nth_zero (v : V) (vs : List V) : nth (v :: vs) 0 = v := rfl
@[go_sem] theorem nth_succ (v : V) (vs : List V) (n : Nat) : nth (v :: vs) (n + 1) = nth vs n := rfl
@[go_sem] theorem ev_tmp (ts : List V) (hs : List H) (t : Nat) : St.ev ⟨ts, hs⟩ (.tmp t) = nth ts t := nth_getD ts t
@[go_sem] theorem ev_const (σ : St) (v : Value) : σ.ev (.const v) = ofVal v := rfl
@[go_sem] theorem ev_func (σ : St) (f : FuncId) : σ.ev (.func f) = .fn f [] := rfl

theorem ofVal_int_ok {k : IntKind} {n : Int} (h : litOk k n = true) : ofVal (.int k n) = .d (.int k n) := by simp [ofVal, h]
@[go_sem] theorem ofVal_i64 (n : Int) : ofVal (.int .i64 n) = if -9223372036854775808 ≤ n ∧ n ≤ 9223372036854775807 then .d (.int .i64 n) else .junk := by
  have h1 : IntKind.i64.min = -9223372036854775808 := by decide
  have h2 : IntKind.i64.max = 9223372036854775807 := by decide
  simp only [ofVal, litOk, h1, h2, Bool.and_eq_true, decide_eq_true_eq]
@[go_sem] theorem ofVal_u8 (n : Int) : ofVal (.int .u8 n) = if 0 ≤ n ∧ n ≤ 255 then .d (.int .u8 n) else .junk := by
  have h1 : IntKind.u8.min = 0 := by decide
  have h2 : IntKind.u8.max = 255 := by decide
  simp only [ofVal, litOk, h1, h2, Bool.and_eq_true, decide_eq_true_eq]
theorem small_le {n : Nat} (h : n ≤ 1000000) : n ≤ maxLen := by simp only [maxLen]; omega
@[go_sem] theorem ofVal_str (l : List UInt8) (h : l.length ≤ 1000000) : ofVal (.string ⟨l.toArray⟩) = .d (.str l) := by
  have := small_le h
  simp [ofVal, this]
@[go_sem] theorem ofVal_bool (b : Bool) : ofVal (.bool b) = .d (.bool b) := rfl
@[go_sem] theorem ofVal_nil : ofVal (.slice none 0 0) = .nils 0 := rfl

@[go_sem] theorem hget_zero (x : H) (hs : List H) : hget (x :: hs) 0 = x := rfl
@[go_sem] theorem hget_succ (x : H) (hs : List H) (n : Nat) : hget (x :: hs) (n + 1) = hget hs n := by simp [hget]
@[go_sem] theorem hget_nil (n : Nat) : hget [] n = .dead := by simp [hget]

@[go_sem] theorem hput_nil_zero (x : H) : hput [] 0 x = [x] := rfl
@[go_sem] theorem hput_nil_succ (n : Nat) (x : H) : hput [] (n + 1) x = .dead :: hput [] n x := by
  unfold hput; simp [List.replicate_succ]
@[go_sem] theorem hput_zero (y : H) (ys : List H) (x : H) : hput (y :: ys) 0 x = x :: ys := by
  unfold hput; simp
@[go_sem] theorem hput_succ (y : H) (ys : List H) (n : Nat) (x : H) : hput (y :: ys) (n + 1) x = y :: hput ys n x := by
  unfold hput
  by_cases h : n < ys.length
  · simp [h]
  · simp [h]

@[go_sem] theorem hnew_nil (hs : List H) (n : Nat) : hnew hs n [] = hs := rfl
@[go_sem] theorem hnew_cons (hs : List H) (n : Nat) (x : H) (xs : List H) : hnew hs n (x :: xs) = hnew (hput hs n x) (n + 1) xs := rfl
@[go_sem] theorem hupd_nil (hs : List H) : hupd hs [] = hs := rfl
@[go_sem] theorem hupd_cons (hs : List H) (i : Nat) (x : H) (r : List (Nat × H)) : hupd hs ((i, x) :: r) = hupd (hput hs i x) r := rfl

@[go_sem] theorem app_rv (ts : List V) (hs : List H) (d : Tmp) (n : Nat) (v : V) : St.app ⟨ts, hs⟩ (some d) n (rv v) = ⟨ts.set d v, hs⟩ := rfl
@[go_sem] theorem app_rv_none (ts : List V) (hs : List H) (n : Nat) (v : V) : St.app ⟨ts, hs⟩ none n (rv v) = ⟨ts, hs⟩ := rfl
@[go_sem] theorem app_some (ts : List V) (hs : List H) (d : Tmp) (n : Nat) (v : V) (new : List H) (upd : List (Nat × H)) : St.app ⟨ts, hs⟩ (some d) n ⟨v, new, upd⟩ = ⟨ts.set d v, hupd (hnew hs n new) upd⟩ := rfl
@[go_sem] theorem app_none (ts : List V) (hs : List H) (n : Nat) (v : V) (new : List H) (upd : List (Nat × H)) : St.app ⟨ts, hs⟩ none n ⟨v, new, upd⟩ = ⟨ts, hupd (hnew hs n new) upd⟩ := rfl
@[go_sem] theorem set_zero (v w : V) (vs : List V) : (v :: vs).set 0 w = w :: vs := rfl
@[go_sem] theorem set_succ (v w : V) (vs : List V) (n : Nat) : (v :: vs).set (n + 1) w = v :: vs.set n w := rfl

/-! ### Code -/

section
variable {kv : List V} {σ : St} {K : St → Prop} {X : List (Nat × (St → Prop))} {Rt : St → Prop}
@[go_sem] theorem codeE_skip : codeE P kv .skip σ K X Rt = K σ := nr rfl
@[go_sem] theorem codeE_region (id : Nat) (ops : List Oper) : codeE P kv (.region id ops.toArray false) σ K X Rt = opsE P kv ops ops σ K := by simp [codeE]
@[go_sem] theorem codeE_draw (id : Nat) (ops : Array Oper) : codeE P kv (.region id ops true) σ K X Rt = drawX P kv ops σ K := nr rfl
@[go_sem] theorem codeE_seq (a b : Code) : codeE P kv (.seq a b) σ K X Rt = codeE P kv a σ (hide (fun σ' => codeE P kv b σ' K X Rt) .mk) X Rt := nr rfl
@[go_sem] theorem codeE_cond (c : Operand) (a b : Code) : codeE P kv (.cond c a b) σ K X Rt = evg true (σ.ev c) (hide (fun v => asB v (hide (fun t => condE t (hideP (codeE P kv a σ K X Rt) .mk) (hideP (codeE P kv b σ K X Rt) .mk)) .mk)) .mk) := nr rfl
@[go_sem] theorem codeE_block (id : Nat) (c : Code) : codeE P kv (.block id c) σ K X Rt = codeE P kv c σ K ((id, K) :: X) Rt := nr rfl
@[go_sem] theorem codeE_exit (id : Nat) : codeE P kv (.exit id) σ K X Rt = outE X id σ := nr rfl
@[go_sem] theorem codeE_ret : codeE P kv .ret σ K X Rt = Rt σ := nr rfl
@[go_sem] theorem codeE_loop (c : Code) : codeE P kv (.loop c) σ K X Rt = LoopK kv (hide2 (fun σ K' => codeE P kv c σ K' X Rt) .mk) σ := nr rfl
@[go_sem] theorem outE_nil (id : Nat) : outE [] id σ = False := nr rfl
@[go_sem] theorem outE_cons (i : Nat) (id : Nat) : outE ((i, K) :: X) id σ = if id = i then K σ else outE X id σ := nr rfl
end

section
variable {σ : St} {ops : List Oper} {n : Nat} {K : Res → Prop}
@[go_sem] theorem opsE_nil (kv : List V) (K : St → Prop) : opsE P kv ops [] σ K = K σ := nr rfl
@[go_sem] theorem opsE_cons (kv : List V) (o : Oper) (rest : List Oper) (K : St → Prop) : opsE P kv ops (o :: rest) σ K = seqE P kv ops σ o (hide (fun σ' => opsE P kv ops rest σ' K) .mk) := nr rfl
@[go_sem] theorem stepE_none (dst : Option Tmp) (op : Op) (T : TypeId) (pos : String) (after : Array Edge) (K : Res → Prop) : stepE P ops σ n ⟨dst, op, T, pos, after, none⟩ K = opE P true σ n ⟨dst, op, T, pos, after, none⟩ K := nr rfl
end

@[go_sem] theorem guE_b (b want : Bool) (K : Bool → Prop) : guE (.d (.bool b)) want K = K (b == want) := nr rfl
@[go_sem] theorem guE_g (c b want : Bool) (K : Bool → Prop) : guE (.gd c (.d (.bool b))) want K = K (c && (b == want)) := nr rfl

@[go_sem] theorem dstOf_zero (d : Tmp) (op : Op) (T : TypeId) (pos : String) (after : Array Edge) (g : Option (Nat × Bool)) (ops : List Oper) (K : Tmp → Prop) : dstOf (⟨some d, op, T, pos, after, g⟩ :: ops) 0 K = K d := nr rfl
@[go_sem] theorem dstOf_succ (o : Oper) (ops : List Oper) (j : Nat) (K : Tmp → Prop) : dstOf (o :: ops) (j + 1) K = dstOf ops j K := by simp [dstOf]

@[go_sem] theorem stepE_some {σ : St} {ops : List Oper} {n : Nat} (dst : Option Tmp) (op : Op) (T : TypeId) (pos : String) (after : Array Edge) (j : Nat) (want : Bool) (K : Res → Prop) :
    stepE P ops σ n ⟨dst, op, T, pos, after, some (j, want)⟩ K = dstOf ops j (hide (fun d => guE (σ.ev (.tmp d)) want (hide (fun g => gStep P g σ n ⟨dst, op, T, pos, after, some (j, want)⟩ K) .mk)) .mk) := by
  unfold stepE dstOf hide
  simp only
  cases h : (ops[j]?).bind (·.dst) with
  | none => rfl
  | some d =>
    simp only
    generalize σ.ev (.tmp d) = v
    unfold guE
    cases v with
    | d x => cases x <;> rfl
    | gd c v => cases v with
      | d x => cases x <;> rfl
      | _ => rfl
    | _ => rfl

section
variable {kv : List V} {σ : St} {ops : List Oper} {dst : Option Tmp} {T : TypeId} {pos : String} {after : Array Edge} {K : St → Prop}
@[go_sem] theorem seqE_some (op : Op) (j : Nat) (want : Bool) : seqE P kv ops σ ⟨dst, op, T, pos, after, some (j, want)⟩ K = dstOf ops j (hide (fun d => guE (σ.ev (.tmp d)) want (hide (fun g => gStepS P kv g σ ⟨dst, op, T, pos, after, some (j, want)⟩ K) .mk)) .mk) := nr rfl
@[go_sem] theorem seqE_none (op : Op) : seqE P kv ops σ ⟨dst, op, T, pos, after, none⟩ K = bareE P kv σ ⟨dst, op, T, pos, after, none⟩ K := nr rfl
@[go_sem] theorem bareE_move (x : Operand) (gd : Option (Nat × Bool)) : bareE P kv σ ⟨dst, .move x, T, pos, after, gd⟩ K = opE P true σ σ.heap.length ⟨dst, .move x, T, pos, after, gd⟩ (hide (fun r => K (σ.app dst σ.heap.length r)) .mk) := nr rfl
@[go_sem] theorem bareE_assign (x : Operand) (gd : Option (Nat × Bool)) : bareE P kv σ ⟨dst, .assign x, T, pos, after, gd⟩ K = opE P true σ σ.heap.length ⟨dst, .assign x, T, pos, after, gd⟩ (hide (fun r => K (σ.app dst σ.heap.length r)) .mk) := nr rfl
@[go_sem] theorem bareE_pick (c x y : Operand) (gd : Option (Nat × Bool)) : bareE P kv σ ⟨dst, .pick c x y, T, pos, after, gd⟩ K = opE P true σ σ.heap.length ⟨dst, .pick c x y, T, pos, after, gd⟩ (hide (fun r => K (σ.app dst σ.heap.length r)) .mk) := nr rfl
@[go_sem] theorem bareE_bin (op : BinOp) (U U2 : TypeId) (x y : Operand) (gd : Option (Nat × Bool)) : bareE P kv σ ⟨dst, .binOp op U x y U2, T, pos, after, gd⟩ K = opE P true σ σ.heap.length ⟨dst, .binOp op U x y U2, T, pos, after, gd⟩ (hide (fun r => K (σ.app dst σ.heap.length r)) .mk) := nr rfl
@[go_sem] theorem bareE_un (op : UnOp) (U : TypeId) (x : Operand) (gd : Option (Nat × Bool)) : bareE P kv σ ⟨dst, .unOp op U x, T, pos, after, gd⟩ K = opE P true σ σ.heap.length ⟨dst, .unOp op U x, T, pos, after, gd⟩ (hide (fun r => K (σ.app dst σ.heap.length r)) .mk) := nr rfl
@[go_sem] theorem bareE_ext (x : Operand) (i : Nat) (gd : Option (Nat × Bool)) : bareE P kv σ ⟨dst, .extract x i, T, pos, after, gd⟩ K = opE P true σ σ.heap.length ⟨dst, .extract x i, T, pos, after, gd⟩ (hide (fun r => K (σ.app dst σ.heap.length r)) .mk) := nr rfl
@[go_sem] theorem bareE_nilCheck (x : Operand) (gd : Option (Nat × Bool)) : bareE P kv σ ⟨dst, .nilCheck x, T, pos, after, gd⟩ K = opE P true σ σ.heap.length ⟨dst, .nilCheck x, T, pos, after, gd⟩ (hide (fun r => K (σ.app dst σ.heap.length r)) .mk) := nr rfl
@[go_sem] theorem bareE_fieldAddr (S : TypeId) (x : Operand) (f : Nat) (gd : Option (Nat × Bool)) : bareE P kv σ ⟨dst, .fieldAddr S x f, T, pos, after, gd⟩ K = opE P true σ σ.heap.length ⟨dst, .fieldAddr S x f, T, pos, after, gd⟩ (hide (fun r => K (σ.app dst σ.heap.length r)) .mk) := nr rfl
@[go_sem] theorem bareE_indexAddr (U : TypeId) (x ix : Operand) (gd : Option (Nat × Bool)) : bareE P kv σ ⟨dst, .indexAddr U x ix, T, pos, after, gd⟩ K = opE P true σ σ.heap.length ⟨dst, .indexAddr U x ix, T, pos, after, gd⟩ (hide (fun r => K (σ.app dst σ.heap.length r)) .mk) := nr rfl
@[go_sem] theorem bareE_load (U : TypeId) (x : Operand) (gd : Option (Nat × Bool)) : bareE P kv σ ⟨dst, .load U x, T, pos, after, gd⟩ K = opE P true σ σ.heap.length ⟨dst, .load U x, T, pos, after, gd⟩ (hide (fun r => K (σ.app dst σ.heap.length r)) .mk) := nr rfl
@[go_sem] theorem bareE_index (U : TypeId) (x ix : Operand) (gd : Option (Nat × Bool)) : bareE P kv σ ⟨dst, .index U x ix, T, pos, after, gd⟩ K = opE P true σ σ.heap.length ⟨dst, .index U x ix, T, pos, after, gd⟩ (hide (fun r => K (σ.app dst σ.heap.length r)) .mk) := nr rfl
@[go_sem] theorem bareE_slice (U : TypeId) (x : Operand) (lo hi mx : Option Operand) (gd : Option (Nat × Bool)) : bareE P kv σ ⟨dst, .slice U x lo hi mx, T, pos, after, gd⟩ K = opE P true σ σ.heap.length ⟨dst, .slice U x lo hi mx, T, pos, after, gd⟩ (hide (fun r => K (σ.app dst σ.heap.length r)) .mk) := nr rfl
@[go_sem] theorem bareE_convert (S U : TypeId) (x : Operand) (gd : Option (Nat × Bool)) : bareE P kv σ ⟨dst, .convert S U x, T, pos, after, gd⟩ K = opE P true σ σ.heap.length ⟨dst, .convert S U x, T, pos, after, gd⟩ (hide (fun r => K (σ.app dst σ.heap.length r)) .mk) := nr rfl
@[go_sem] theorem bareE_build (U : TypeId) (parts : Array (Nat × Operand)) (gd : Option (Nat × Bool)) : bareE P kv σ ⟨dst, .build U parts, T, pos, after, gd⟩ K = opE P true σ σ.heap.length ⟨dst, .build U parts, T, pos, after, gd⟩ (hide (fun r => K (σ.app dst σ.heap.length r)) .mk) := nr rfl
@[go_sem] theorem bareE_alloc (U : TypeId) (gd : Option (Nat × Bool)) : bareE P kv σ ⟨dst, .alloc U, T, pos, after, gd⟩ K = opE P true σ σ.heap.length ⟨dst, .alloc U, T, pos, after, gd⟩ (hide (fun r => K (σ.app dst σ.heap.length r)) .mk) := nr rfl
@[go_sem] theorem bareE_box (U : TypeId) (x : Operand) (gd : Option (Nat × Bool)) : bareE P kv σ ⟨dst, .box U x, T, pos, after, gd⟩ K = opE P true σ σ.heap.length ⟨dst, .box U x, T, pos, after, gd⟩ (hide (fun r => K (σ.app dst σ.heap.length r)) .mk) := nr rfl
@[go_sem] theorem bareE_store (U : TypeId) (p x : Operand) (gd : Option (Nat × Bool)) : bareE P kv σ ⟨dst, .store U p x, T, pos, after, gd⟩ K = opE P true σ σ.heap.length ⟨dst, .store U p x, T, pos, after, gd⟩ (hide (fun r => K (σ.app dst σ.heap.length r)) .mk) := nr rfl
@[go_sem] theorem bareE_buildSlice (U : TypeId) (len : Nat) (parts : Array (Nat × Operand)) (gd : Option (Nat × Bool)) : bareE P kv σ ⟨dst, .buildSlice U len parts, T, pos, after, gd⟩ K = opE P true σ σ.heap.length ⟨dst, .buildSlice U len parts, T, pos, after, gd⟩ (hide (fun r => K (σ.app dst σ.heap.length r)) .mk) := nr rfl
@[go_sem] theorem bareE_makeSlice (U : TypeId) (x y : Operand) (gd : Option (Nat × Bool)) : bareE P kv σ ⟨dst, .makeSlice U x y, T, pos, after, gd⟩ K = opE P true σ σ.heap.length ⟨dst, .makeSlice U x y, T, pos, after, gd⟩ (hide (fun r => K (σ.app dst σ.heap.length r)) .mk) := nr rfl
@[go_sem] theorem bareE_makeFunc (f : Fn) (ys caps : Array Operand) (gd : Option (Nat × Bool)) : bareE P kv σ ⟨dst, .makeFunc f ys caps, T, pos, after, gd⟩ K = opE P true σ σ.heap.length ⟨dst, .makeFunc f ys caps, T, pos, after, gd⟩ (hide (fun r => K (σ.app dst σ.heap.length r)) .mk) := nr rfl
@[go_sem] theorem bareE_builtin (b : Builtin) (xs : Array Operand) (ts : Array TypeId) (gd : Option (Nat × Bool)) : bareE P kv σ ⟨dst, .call ⟨.builtin b, xs, ts⟩, T, pos, after, gd⟩ K = opE P true σ σ.heap.length ⟨dst, .call ⟨.builtin b, xs, ts⟩, T, pos, after, gd⟩ (hide (fun r => K (σ.app dst σ.heap.length r)) .mk) := nr rfl
@[go_sem] theorem bareE_call (x : Operand) (xs : List Operand) (ts : Array TypeId) (gd : Option (Nat × Bool)) : bareE P kv σ ⟨dst, .call ⟨.value x, xs.toArray, ts⟩, T, pos, after, gd⟩ K = evg true (σ.ev x) (hide (fun fv => fnE fv (hide2 (fun f caps => evs true σ xs (hide (fun vs => CallS P kv σ dst f caps (toADs σ.heap vs) vs K) .mk)) .mk)) .mk) := nr rfl
@[go_sem] theorem fnE_fn (f : FuncId) (caps : List V) (K : FuncId → List V → Prop) : fnE (.fn f caps) K = K f caps := nr rfl
attribute [go_sem] setD
theorem CallS.intro {f : FuncId} {as rs : List AD} {vs : List V} (h : PureCall P f as rs) (hk : K (σ.app dst σ.heap.length ⟨tV rs σ.heap.length, aHs rs, []⟩)) : CallS P kv σ dst f [] (some as) vs K := .inl ⟨rfl, .inl (.inl ⟨as, rs, rfl, h, hk⟩)⟩
theorem CallS.mut {f : FuncId} {vs : List V} {ao : Option (List AD)} {as as' rs : List AD} {ids : List Nat} {p : Prop} {upd : List (Nat × H)} (h : MutCall P f as as' rs) (h1 : toOAs σ.heap vs = some (as, ids)) (h2 : ids.Nodup) (h4 : mutAs σ.heap vs as' = some (p, upd)) (hp : p) (h5 : aHs rs = []) (h6 : upd.map (·.1) = ids)
    (hk : K (σ.app dst σ.heap.length ⟨tV rs σ.heap.length, [], upd⟩)) : CallS P kv σ dst f [] ao vs K := .inl ⟨rfl, .inl (.inr (.inl ⟨as, as', rs, ids, p, upd, h1, h2, h, h4, hp, h5, h6, hk⟩))⟩
/-- The results are memory that nobody looks into. -/
theorem CallS.cln {f : FuncId} {as rs : List AD} {vs : List V} (h : PureCall P f as rs) (hk : K (σ.app dst σ.heap.length ⟨tV rs σ.heap.length, (aHs rs).map H.toCln, []⟩)) : CallS P kv σ dst f [] (some as) vs K := .inl ⟨rfl, .inl (.inr (.inr (.inl ⟨as, rs, rfl, h, hk⟩)))⟩
theorem CallS.inl {f : FuncId} {caps vs : List V} {ao : Option (List AD)} (h : InlCall P f (σ.tmps ++ kv) σ.heap (vs ++ caps) (hide2 (fun x hs => K ⟨setD σ.tmps dst x, hs⟩) .mk)) : CallS P kv σ dst f caps ao vs K := .inr h
theorem gSymS {g : Bool} {o : Oper} (h : opE P g σ σ.heap.length o (hide (fun r => r.new = [] ∧ r.upd = [] ∧ K (σ.app o.dst σ.heap.length (rv (.gd g r.v)))) .mk)) : gStepS P kv g σ o K := .inl (gStep_sym h)
theorem gTrueS {o : Oper} (h : bareE P kv σ o K) : gStepS P kv true σ o K := .inr ⟨fun _ => h, fun e => (by cases e)⟩
theorem gFalseS {o : Oper} (h : K (σ.app o.dst σ.heap.length (rv (.gd false (.d (.bool false)))))) : gStepS P kv false σ o K := .inr ⟨fun e => (by cases e), fun _ => h⟩
theorem gSplitS {g : Bool} {o : Oper} (h1 : g = true → bareE P kv σ o K) (h2 : g = false → K (σ.app o.dst σ.heap.length (rv (.gd false (.d (.bool false)))))) : gStepS P kv g σ o K := .inr ⟨h1, h2⟩
end

section
variable {g : Bool} {σ : St} {n : Nat} {dst : Option Tmp} {T : TypeId} {pos : String} {after : Array Edge} {gd : Option (Nat × Bool)} {K : Res → Prop}
@[go_sem] theorem opE_move (x : Operand) : opE P g σ n ⟨dst, .move x, T, pos, after, gd⟩ K = evg g (σ.ev x) (hide (fun v => K (rv (fixT P T v))) .mk) := nr rfl
@[go_sem] theorem opE_assign (x : Operand) : opE P g σ n ⟨dst, .assign x, T, pos, after, gd⟩ K = evg g (σ.ev x) (hide (fun v => K (rv (fixT P T v))) .mk) := nr rfl
@[go_sem] theorem opE_pick (c x y : Operand) : opE P g σ n ⟨dst, .pick c x y, T, pos, after, gd⟩ K = pickE g (σ.ev c) (σ.ev x) (σ.ev y) (hide (fun v => K (rv v)) .mk) := nr rfl
@[go_sem] theorem opE_bin (op : BinOp) (U U' : TypeId) (x y : Operand) : opE P g σ n ⟨dst, .binOp op U x y U', T, pos, after, gd⟩ K = evg g (σ.ev x) (hide (fun a => evg g (σ.ev y) (hide (fun b => withR (binE P op U a b) (hide (fun v => K (rv v)) .mk)) .mk)) .mk) := nr rfl
@[go_sem] theorem opE_un (op : UnOp) (U : TypeId) (x : Operand) : opE P g σ n ⟨dst, .unOp op U x, T, pos, after, gd⟩ K = evg g (σ.ev x) (hide (fun a => withO (unE op a) (hide (fun v => K (rv v)) .mk)) .mk) := nr rfl
@[go_sem] theorem opE_ext (x : Operand) (i : Nat) : opE P g σ n ⟨dst, .extract x i, T, pos, after, gd⟩ K = evg g (σ.ev x) (hide (fun a => withO (extE a i) (hide (fun v => K (rv v)) .mk)) .mk) := nr rfl
@[go_sem] theorem opE_nilCheck (x : Operand) : opE P g σ n ⟨dst, .nilCheck x, T, pos, after, gd⟩ K = evg g (σ.ev x) (hide (fun a => ptrE a = true ∧ K (rv a)) .mk) := nr rfl
@[go_sem] theorem opE_fieldAddr (S : TypeId) (x : Operand) (f : Nat) : opE P g σ n ⟨dst, .fieldAddr S x f, T, pos, after, gd⟩ K = evg g (σ.ev x) (hide (fun a => withO (faE P S f a) (hide (fun v => K (rv v)) .mk)) .mk) := nr rfl
@[go_sem] theorem opE_indexAddr (U : TypeId) (x ix : Operand) : opE P g σ n ⟨dst, .indexAddr U x ix, T, pos, after, gd⟩ K = evg g (σ.ev x) (hide (fun a => evg g (σ.ev ix) (hide (fun b => asI b (hide2 (fun _ i => withR (iaE P σ.heap U a i) (hide (fun v => K (rv v)) .mk)) .mk)) .mk)) .mk) := nr rfl
@[go_sem] theorem opE_load (U : TypeId) (x : Operand) : opE P g σ n ⟨dst, .load U x, T, pos, after, gd⟩ K = evg g (σ.ev x) (hide (fun a => withR (loadE P σ.heap U a) (hide (fun v => K (rv v)) .mk)) .mk) := nr rfl
@[go_sem] theorem opE_index (U : TypeId) (x ix : Operand) : opE P g σ n ⟨dst, .index U x ix, T, pos, after, gd⟩ K = evg g (σ.ev x) (hide (fun a => evg g (σ.ev ix) (hide (fun b => asI b (hide2 (fun _ i => withR (ixE P U a i) (hide (fun v => K (rv v)) .mk)) .mk)) .mk)) .mk) := nr rfl
@[go_sem] theorem opE_slice (U : TypeId) (x : Operand) (lo hi : Option Operand) : opE P g σ n ⟨dst, .slice U x lo hi none, T, pos, after, gd⟩ K = evg g (σ.ev x) (hide (fun a => bndE g σ 0 lo (hide (fun l => bndE g σ (lenOfV a) hi (hide (fun h => withR (cutE P σ.heap U a l h) (hide (fun v => K (rv v)) .mk)) .mk)) .mk)) .mk) := nr rfl
@[go_sem] theorem opE_convert (S U : TypeId) (x : Operand) : opE P g σ n ⟨dst, .convert S U x, T, pos, after, gd⟩ K = evg g (σ.ev x) (hide (fun a => withR (cvE P σ.heap S U a) (hide (fun v => K (rv v)) .mk)) .mk) := nr rfl
@[go_sem] theorem opE_build (U : TypeId) (parts : List (Nat × Operand)) : opE P g σ n ⟨dst, .build U parts.toArray, T, pos, after, gd⟩ K = evParts g σ parts (hide (fun ps => withO (bldE P U ps) (hide (fun v => K (rv v)) .mk)) .mk) := by simp [opE, hide]
@[go_sem] theorem opE_alloc (U : TypeId) : opE P g σ n ⟨dst, .alloc U, T, pos, after, gd⟩ K = withO ((zrI P U).map V.agg) (hide (fun v => K ⟨.ptr n 0 0, [.box v.cells], []⟩) .mk) := nr rfl
@[go_sem] theorem opE_box (U : TypeId) (x : Operand) : opE P g σ n ⟨dst, .box U x, T, pos, after, gd⟩ K = evg g (σ.ev x) (hide (fun v => v.cellsOk = true ∧ K ⟨.ptr n 0 0, [.box v.cells], []⟩) .mk) := nr rfl
@[go_sem] theorem opE_store (U : TypeId) (p x : Operand) : opE P g σ n ⟨dst, .store U p x, T, pos, after, gd⟩ K = evg g (σ.ev p) (hide (fun q => evg g (σ.ev x) (hide (fun v => withS ((storeE P σ.heap U q (fixT P U v)).map fun (c, upd) => (c, ⟨.junk, [], upd⟩)) K) .mk)) .mk) := nr rfl
@[go_sem] theorem opE_buildSlice (U : TypeId) (len : Nat) (parts : List (Nat × Operand)) : opE P g σ n ⟨dst, .buildSlice U len parts.toArray, T, pos, after, gd⟩ K = evParts g σ parts (hide (fun ps => withS (bsE P σ.heap U len ps n) K) .mk) := by simp [opE, hide]
@[go_sem] theorem opE_slice3 (U : TypeId) (x lo hi mx : Operand) : opE P g σ n ⟨dst, .slice U x (some lo) (some hi) (some mx), T, pos, after, gd⟩ K = evg g (σ.ev x) (hide (fun a => bndE g σ 0 (some lo) (hide (fun l => bndE g σ 0 (some hi) (hide (fun h => bndE g σ 0 (some mx) (hide (fun m => withR (cut3E P U a l h m) (hide (fun v => K (rv v)) .mk)) .mk)) .mk)) .mk)) .mk) := nr rfl
@[go_sem] theorem opE_makeSlice (U : TypeId) (x y : Operand) : opE P g σ n ⟨dst, .makeSlice U x y, T, pos, after, gd⟩ K = (x = y ∧ evg g (σ.ev x) (hide (fun v => asI v (hide2 (fun _ i => withS (mkE P U i n) K) .mk)) .mk)) := nr rfl
@[go_sem] theorem opE_makeFunc (f : FuncId) (caps : List Operand) : opE P g σ n ⟨dst, .makeFunc (.func f) #[] caps.toArray, T, pos, after, gd⟩ K = evs g σ caps (hide (fun vs => K (rv (.fn f vs))) .mk) := by simp [opE, hide]
@[go_sem] theorem opE_call (c : Callee) (xs : List Operand) (ts : List TypeId) : opE P g σ n ⟨dst, .call ⟨c, xs.toArray, ts.toArray⟩, T, pos, after, gd⟩ K = callE P g σ n c xs ts K := by simp only [opE]
@[go_sem] theorem callE_len (x : Operand) (U : TypeId) : callE P g σ n (.builtin .len) [x] [U] K = evg g (σ.ev x) (hide (fun a => withN (lenE P U a) (hide (fun m => K (rv (dI .i64 m))) .mk)) .mk) := nr rfl
@[go_sem] theorem callE_append (x y : Operand) (U U' : TypeId) : callE P g σ n (.builtin .append) [x, y] [U, U'] K = (U = U' ∧ evg g (σ.ev x) (hide (fun a => evg g (σ.ev y) (hide (fun b => withS (apI P σ.heap U a b n) K) .mk)) .mk)) := nr rfl
@[go_sem] theorem callE_clear (x : Operand) (U : TypeId) : callE P g σ n (.builtin .clear) [x] [U] K = evg g (σ.ev x) (hide (fun a => withS (clrE P σ.heap U a) K) .mk) := nr rfl
@[go_sem] theorem callE_min (x y : Operand) (U U' : TypeId) : callE P g σ n (.builtin .min) [x, y] [U, U'] K = evg g (σ.ev x) (hide (fun a => evg g (σ.ev y) (hide (fun b => asI a (hide2 (fun k i => asI b (hide2 (fun k' j => k = k' ∧ K (rv (dI k (if j < i then j else i)))) .mk)) .mk)) .mk)) .mk) := nr rfl
@[go_sem] theorem callE_max (x y : Operand) (U U' : TypeId) : callE P g σ n (.builtin .max) [x, y] [U, U'] K = evg g (σ.ev x) (hide (fun a => evg g (σ.ev y) (hide (fun b => asI a (hide2 (fun k i => asI b (hide2 (fun k' j => k = k' ∧ K (rv (dI k (if j > i then j else i)))) .mk)) .mk)) .mk)) .mk) := nr rfl
@[go_sem] theorem callE_tmp (t : Tmp) (xs : List Operand) (ts : List TypeId) : callE P g σ n (.value (.tmp t)) xs ts K = evg g (σ.ev (.tmp t)) (hide (fun fv => fnE fv (hide2 (fun f caps => caps = [] ∧ evs g σ xs (hide (fun vs => CallK P f (toADs σ.heap vs) σ.heap vs n K) .mk)) .mk)) .mk) := by unfold callE; rfl
@[go_sem] theorem callE_func (f : FuncId) (xs : List Operand) (ts : List TypeId) : callE P g σ n (.value (.func f)) xs ts K = evs g σ xs (hide (fun vs => CallK P f (toADs σ.heap vs) σ.heap vs n K) .mk) := by unfold callE; rfl
end

section
variable {g : Bool} {σ : St}
@[go_sem] theorem evs_nil (K : List V → Prop) : evs g σ [] K = K [] := nr rfl
@[go_sem] theorem evs_cons (x : Operand) (xs : List Operand) (K : List V → Prop) : evs g σ (x :: xs) K = evg g (σ.ev x) (hide (fun v => evs g σ xs (hide (fun vs => K (v :: vs)) .mk)) .mk) := nr rfl
@[go_sem] theorem evParts_nil (K : List (Nat × V) → Prop) : evParts g σ [] K = K [] := nr rfl
@[go_sem] theorem evParts_cons (i : Nat) (x : Operand) (xs : List (Nat × Operand)) (K : List (Nat × V) → Prop) : evParts g σ ((i, x) :: xs) K = evg g (σ.ev x) (hide (fun v => evParts g σ xs (hide (fun vs => K ((i, v) :: vs)) .mk)) .mk) := nr rfl
@[go_sem] theorem bndE_none (d : Nat) (K : Nat → Prop) : bndE g σ d none K = K d := nr rfl
@[go_sem] theorem bndE_some (d : Nat) (x : Operand) (K : Nat → Prop) : bndE g σ d (some x) K = evg g (σ.ev x) (hide (fun v => asI v (hide2 (fun _ i => 0 ≤ i ∧ K i.toNat) .mk)) .mk) := nr rfl
@[go_sem] theorem rvsE_nil (K : List V → Prop) : rvsE P σ [] K = K [] := nr rfl
@[go_sem] theorem rvsE_cons (r : ResultVar) (rs : List ResultVar) (K : List V → Prop) : rvsE P σ (r :: rs) K = rvE P σ r (hide (fun v => rvsE P σ rs (hide (fun vs => K (v :: vs)) .mk)) .mk) := nr rfl
@[go_sem] theorem rvE_tmp (t : Tmp) (K : V → Prop) : rvE P σ (.tmp t) K = K (σ.ev (.tmp t)) := nr rfl
@[go_sem] theorem rvE_cell (t : Tmp) (T : TypeId) (K : V → Prop) : rvE P σ (.cell t T) K = evg true (σ.ev (.tmp t)) (hide (fun v => withR (loadE P σ.heap T v) K) .mk) := nr rfl
@[go_sem] theorem retE_eq (rs : List ResultVar) (res : List AD) : retE P rs res σ = rvsE P σ rs (hide (fun vs => outOA (toOAs σ.heap vs) res) .mk) := nr rfl
@[go_sem] theorem outOA_some (as : List AD) (ids : List Nat) (res : List AD) : outOA (some (as, ids)) res = (ids.Nodup ∧ as = res) := nr rfl
end

/-! ### Values -/

@[go_sem] theorem fixT_d (T : TypeId) (x : D) : fixT P T (.d x) = .d x := rfl
@[go_sem] theorem fixT_agg (T : TypeId) (x : List V) : fixT P T (.agg x) = .agg x := rfl
@[go_sem] theorem fixT_ptr (T : TypeId) (a b c : Nat) : fixT P T (.ptr a b c) = .ptr a b c := rfl
@[go_sem] theorem fixT_rp (T : TypeId) (a : List D) (b : Nat) : fixT P T (.rp a b) = .rp a b := rfl
@[go_sem] theorem fixT_sl (T : TypeId) (a b c : Nat) : fixT P T (.sl a b c) = .sl a b c := rfl
@[go_sem] theorem fixT_fn (T : TypeId) (a : FuncId) (b : List V) : fixT P T (.fn a b) = .fn a b := rfl
@[go_sem] theorem fixT_tup (T : TypeId) (b : List V) : fixT P T (.tup b) = .tup b := rfl
@[go_sem] theorem fixT_gd (T : TypeId) (c : Bool) (v : V) : fixT P T (.gd c v) = .gd c v := rfl
@[go_sem] theorem fixT_junk (T : TypeId) : fixT P T .junk = .junk := rfl
@[go_sem] theorem fixT_nils (T : TypeId) (s : Nat) : fixT P T (.nils s) = .nils (match elI P T with | some (_, sz, _) => sz | none => s) := rfl

@[go_sem] theorem pickE_b (g : Bool) (c a b : Bool) (K : V → Prop) : pickE g (.d (.bool c)) (.d (.bool a)) (.d (.bool b)) K = K (.d (.bool (bif c then a else b))) := nr rfl
@[go_sem] theorem pickE_g2 (g : Bool) (c a : Bool) (cb b : Bool) (K : V → Prop) : pickE g (.d (.bool c)) (.d (.bool a)) (.gd cb (.d (.bool b))) K = (((g && !c) = true → cb = true) ∧ K (.d (.bool (bif c then a else b)))) := nr rfl
@[go_sem] theorem pickE_g1 (g : Bool) (c a : Bool) (ca b : Bool) (K : V → Prop) : pickE g (.d (.bool c)) (.gd ca (.d (.bool a))) (.d (.bool b)) K = (((g && c) = true → ca = true) ∧ K (.d (.bool (bif c then a else b)))) := nr rfl
theorem pickE_eq (g : Bool) (c a b : V) (K : V → Prop) : pickE g c a b K = evg g c fun c => asB c fun x => evg (g && x) a fun a => asB a fun y => evg (g && !x) b fun b => asB b fun z => K (dB (bif x then y else z)) := rfl
@[go_sem] theorem pickE_gg (g : Bool) (cc c : Bool) (a b : V) (K : V → Prop) : pickE g (.gd cc (.d (.bool c))) a b K = ((g = true → cc = true) ∧ evg (g && c) a (hide (fun a => asB a (hide (fun y => evg (g && !c) b (hide (fun b => asB b (hide (fun z => K (.d (.bool (bif c then y else z)))) .mk)) .mk)) .mk)) .mk)) := nr rfl

@[go_sem] theorem binE_add (T : TypeId) (k : IntKind) (a b : Int) : binE P .add T (.d (.int k a)) (.d (.int k b)) = some (True, .d (.int k (k.wrap (a + b)))) := by simp [binE, binI]
@[go_sem] theorem binE_sub (T : TypeId) (k : IntKind) (a b : Int) : binE P .sub T (.d (.int k a)) (.d (.int k b)) = some (True, .d (.int k (k.wrap (a - b)))) := by simp [binE, binI]
@[go_sem] theorem binE_mul (T : TypeId) (k : IntKind) (a b : Int) : binE P .mul T (.d (.int k a)) (.d (.int k b)) = some (True, .d (.int k (k.wrap (a * b)))) := by simp [binE, binI]
@[go_sem] theorem binE_quo (T : TypeId) (k : IntKind) (a b : Int) : binE P .quo T (.d (.int k a)) (.d (.int k b)) = some (b ≠ 0, .d (.int k (k.wrap (a.tdiv b)))) := by simp [binE, binI]
@[go_sem] theorem binE_rem (T : TypeId) (k : IntKind) (a b : Int) : binE P .rem T (.d (.int k a)) (.d (.int k b)) = some (b ≠ 0, .d (.int k (a.tmod b))) := by simp [binE, binI]
@[go_sem] theorem binE_and (T : TypeId) (k : IntKind) (a b : Int) : binE P .and T (.d (.int k a)) (.d (.int k b)) = some (True, .d (.int k (bitI .and k a b))) := by simp [binE, binI]
@[go_sem] theorem binE_or (T : TypeId) (k : IntKind) (a b : Int) : binE P .or T (.d (.int k a)) (.d (.int k b)) = some (True, .d (.int k (bitI .or k a b))) := by simp [binE, binI]
@[go_sem] theorem binE_xor (T : TypeId) (k : IntKind) (a b : Int) : binE P .xor T (.d (.int k a)) (.d (.int k b)) = some (True, .d (.int k (bitI .xor k a b))) := by simp [binE, binI]
@[go_sem] theorem binE_eql (T : TypeId) (k : IntKind) (a b : Int) : binE P .eql T (.d (.int k a)) (.d (.int k b)) = some (True, .d (.bool (decide (a = b)))) := by simp [binE, binI]; rfl
@[go_sem] theorem binE_neq (T : TypeId) (k : IntKind) (a b : Int) : binE P .neq T (.d (.int k a)) (.d (.int k b)) = some (True, .d (.bool (decide (a ≠ b)))) := by simp [binE, binI, bne]; rfl
@[go_sem] theorem binE_lss (T : TypeId) (k : IntKind) (a b : Int) : binE P .lss T (.d (.int k a)) (.d (.int k b)) = some (True, .d (.bool (decide (a < b)))) := by simp [binE, binI]
@[go_sem] theorem binE_leq (T : TypeId) (k : IntKind) (a b : Int) : binE P .leq T (.d (.int k a)) (.d (.int k b)) = some (True, .d (.bool (decide (a ≤ b)))) := by simp [binE, binI]
@[go_sem] theorem binE_gtr (T : TypeId) (k : IntKind) (a b : Int) : binE P .gtr T (.d (.int k a)) (.d (.int k b)) = some (True, .d (.bool (decide (b < a)))) := by simp [binE, binI]
@[go_sem] theorem binE_geq (T : TypeId) (k : IntKind) (a b : Int) : binE P .geq T (.d (.int k a)) (.d (.int k b)) = some (True, .d (.bool (decide (b ≤ a)))) := by simp [binE, binI]
@[go_sem] theorem binE_shl (T : TypeId) (k k' : IntKind) (a b : Int) : binE P .shl T (.d (.int k a)) (.d (.int k' b)) = shI .shl k a b := rfl
@[go_sem] theorem binE_shr (T : TypeId) (k k' : IntKind) (a b : Int) : binE P .shr T (.d (.int k a)) (.d (.int k' b)) = shI .shr k a b := rfl
@[go_sem] theorem binE_sadd (T : TypeId) (a b : List UInt8) : binE P .add T (.d (.str a)) (.d (.str b)) = binS .add a b := rfl
@[go_sem] theorem binE_seql (T : TypeId) (a b : List UInt8) : binE P .eql T (.d (.str a)) (.d (.str b)) = binS .eql a b := rfl
@[go_sem] theorem binE_sneq (T : TypeId) (a b : List UInt8) : binE P .neq T (.d (.str a)) (.d (.str b)) = binS .neq a b := rfl
@[go_sem] theorem binS_add (a b : List UInt8) : binS .add a b = some (a.length + b.length ≤ maxLen, .d (.str (a ++ b))) := rfl
@[go_sem] theorem binS_eql (a b : List UInt8) : binS .eql a b = some (True, .d (.bool (decide (a = b)))) := by
  have : (a == b) = decide (a = b) := by rw [Bool.eq_iff_iff]; simp
  simp only [binS, this]
@[go_sem] theorem binS_neq (a b : List UInt8) : binS .neq a b = some (True, .d (.bool (decide (a ≠ b)))) := by
  have : (a != b) = decide (a ≠ b) := by rw [Bool.eq_iff_iff]; simp
  simp only [binS, this]
@[go_sem] theorem binE_beql (T : TypeId) (a b : Bool) : binE P .eql T (.d (.bool a)) (.d (.bool b)) = if isBoolI P T then some (True, .d (.bool (a == b))) else none := rfl
@[go_sem] theorem binE_bneq (T : TypeId) (a b : Bool) : binE P .neq T (.d (.bool a)) (.d (.bool b)) = if isBoolI P T then some (True, .d (.bool (a != b))) else none := rfl
@[go_sem] theorem binE_aeql (T : TypeId) (xs ys : List V) : binE P .eql T (.agg xs) (.agg ys) = (eqCells xs ys).map fun b => (EqOK P T (kindsV xs), .d (.bool b)) := by simp only [binE]; cases eqCells xs ys <;> rfl
@[go_sem] theorem binE_aneq (T : TypeId) (xs ys : List V) : binE P .neq T (.agg xs) (.agg ys) = (eqCells xs ys).map fun b => (EqOK P T (kindsV xs), .d (.bool !b)) := by simp only [binE]; cases eqCells xs ys <;> rfl
@[go_sem] theorem binE_peql (T : TypeId) (id idx off off' : Nat) : binE P .eql T (.ptr id idx off) (.ptr id idx off') = if isPtrI P T = true then some (True, .d (.bool (decide (off = off')))) else none := by simp [binE, dB]
attribute [go_sem] eqCells eqD kindsV
@[go_sem] theorem unE_not (b : Bool) : unE .not (.d (.bool b)) = some (.d (.bool !b)) := rfl
@[go_sem] theorem unE_neg (k : IntKind) (x : Int) : unE .neg (.d (.int k x)) = some (.d (.int k (k.wrap (0 - x)))) := rfl

attribute [go_sem] dI dB dS lenE extE ptrE faE iaE H.els mkV loadE ixE cutE cut3E reachE clrE apI inE lenOfV cvE bldE V.cells V.cellsOk V.oneB storeE toDs toD apE srcE elsOf bsE vfill mkE splice chunk srcNot D.flat toADs toAD toRDs toRD toOAs toOA tV aV aVs aHs aH rV rVs rH rHs zDs zD AD.toV

attribute [go_sem] false_implies true_implies true_and and_true Option.map_some Option.map_none List.map_cons List.map_nil List.length_cons List.length_nil if_true if_false Option.isSome_some Option.isSome_none Bool.false_eq_true Option.getD_some Option.getD_none List.append_nil List.nil_append List.cons_append List.drop_zero List.drop_succ_cons List.take_zero List.take_succ_cons List.headD_cons List.replicate_zero List.all_nil List.all_cons List.zipIdx_nil Bool.and_true Bool.true_and Bool.and_self Bool.false_and Bool.and_false List.nodup_nil reduceCtorEq Nat.zero_add decide_true decide_false List.length_append List.length_replicate Bool.not_true Bool.not_false
@[go_sem] theorem flatE_nil : flatE [] = true := rfl
@[go_sem] theorem flatE_cons (c : List D) (cs : List (List D)) : flatE (c :: cs) = (c.all D.flat && flatE cs) := rfl
@[go_sem] theorem flatE_app (cs ds : List (List D)) : flatE (cs ++ ds) = (flatE cs && flatE ds) := by simp [flatE]
theorem take_map {α : Type} (f : α → List D) (xs : List α) : (xs.map f).take xs.length = xs.map f := List.take_of_length_le (by simp)
attribute [go_sem] take_map Nat.le_refl imp_self beq_true beq_false Bool.not_not
attribute [go_sem] Int.reduceLE Int.reduceLT Int.reduceNeg Int.reduceToNat Nat.reduceAdd Nat.reduceSub Nat.reduceMul Nat.reduceLT Nat.reduceLeDiff Nat.reduceEqDiff
@[go_sem] theorem rv_v (v : V) : (rv v).v = v := rfl
@[go_sem] theorem rv_new (v : V) : (rv v).new = [] := rfl
@[go_sem] theorem rv_upd (v : V) : (rv v).upd = [] := rfl

@[go_sem] theorem bytesL_nil : bytesL [] = some [] := rfl
@[go_sem] theorem bytesL_one (n : Int) : bytesL [[.int .u8 n]] = some [UInt8.ofNat n.toNat] := rfl
@[go_sem] theorem bytesL_two (n m : Int) : bytesL [[.int .u8 n], [.int .u8 m]] = some [UInt8.ofNat n.toNat, UInt8.ofNat m.toNat] := rfl
@[go_sem] theorem le_maxLen {n : Nat} (h : n ≤ 1000000) : (n ≤ maxLen) = True := eq_true (small_le h)
attribute [go_sem] cond_true cond_false Int.reduceNe List.getElem?_cons_zero List.getElem?_cons_succ

/-- A function's law, as it is computed. -/
theorem pure_ev {f : FuncId} {fn : Func} {c : Code} {args res : List AD} (hf : P.funcs[f]? = some fn) (hb : fn.body = some c) (hcall : ∀ (args : Array Value) (w : World), (callFunc f args).run P w = .ok (.enter f args) w) (hm : P.follows .mixedOrders = true) (ts : List V)
    (hn : args.map AD.toV ++ List.replicate (fn.ntmps - args.length) .junk = ts) (rs : List ResultVar) (hr : fn.results.toList = rs) (h : adOks args → codeE P [] c ⟨ts, []⟩ (hide (retE P rs res) .mk) [] (hide (retE P rs res) .mk)) : PureCall P f args res :=
  pure_of hf hb hcall hm hn hr h

theorem gTrue {σ : St} {n : Nat} {o : Oper} {K : Res → Prop} (h : opE P true σ n o K) : gStep P true σ n o K := gStep_true h
theorem gFalse {σ : St} {n : Nat} {o : Oper} {K : Res → Prop} (h : K (rv (.gd false (.d (.bool false))))) : gStep P false σ n o K := gStep_false h
theorem gSym {g : Bool} {σ : St} {n : Nat} {o : Oper} {K : Res → Prop} (h : opE P g σ n o (hide (fun r => r.new = [] ∧ r.upd = [] ∧ K (rv (.gd g r.v))) .mk)) : gStep P g σ n o K := gStep_sym h
theorem gSplit {g : Bool} {σ : St} {n : Nat} {o : Oper} {K : Res → Prop} (h1 : g = true → opE P true σ n o K) (h2 : g = false → K (rv (.gd false (.d (.bool false))))) : gStep P g σ n o K := by
  cases g with
  | true => exact gStep_true (h1 rfl)
  | false => exact gStep_false (h2 rfl)
theorem cSplit {t : Bool} {A B : Prop} {s : Shut A} {s' : Shut B} (h1 : t = true → A) (h2 : t = false → B) : condE t (hideP A s) (hideP B s') := ⟨h1, h2⟩

theorem CallK.cln {f : FuncId} {as rs : List AD} {hs : List H} {vs : List V} {n : Nat} {K : Res → Prop} (h : PureCall P f as rs) (hk : K ⟨tV rs n, (aHs rs).map H.toCln, []⟩) : CallK P f (some as) hs vs n K := .inr (.inr (.inl ⟨as, rs, rfl, h, hk⟩))

/-- What a round hands on. -/
def RoundE {α : Type} (kv : List V) (I : α → St) (μ : α → Nat) (Pre : α → Prop) (x : α) (σ' : St) : Prop := ∃ σ2, Sh σ' σ2 ∧ ∃ y ρ', Pre y ∧ μ y < μ x ∧ seeE kv ρ' σ2 (I y)

theorem RoundE.intro {α : Type} {kv : List V} {I : α → St} {μ : α → Nat} {Pre : α → Prop} {x : α} {σ' : St} (y : α) (ρ' : List Nat) (h1 : Pre y) (h2 : μ y < μ x) (h3 : seeE kv ρ' σ' (I y)) : RoundE kv I μ Pre x σ' := ⟨σ', Sh.refl σ', y, ρ', h1, h2, h3⟩

theorem LoopK.intro {kv : List V} {body : St → (St → Prop) → Prop} {s : Shut body} {σ : St} {α : Type} (I : α → St) (μ : α → Nat) (Pre : α → Prop) (x : α) (ρ : List Nat) (hp : Pre x) (hs : seeE kv ρ σ (I x))
    (hround : ∀ x, Pre x → body (I x) (hide (RoundE kv I μ Pre x) .mk)) : LoopK kv (hide2 body s) σ := ⟨α, I, μ, Pre, x, ρ, hp, hs, fun x hx => ⟨I x, Sh.refl _, hround x hx⟩⟩

/-- One element is opened. -/
def openE (id idx : Nat) (σ : St) (K : St → Prop) : Prop :=
  match hget σ.heap id with
  | .cln sz xs => match xs[idx]? with
    | some c => K ⟨σ.tmps, hnew (hput σ.heap id (.win sz (xs.take idx) (rVs c σ.heap.length) (xs.drop (idx + 1)))) σ.heap.length (rHs c)⟩
    | none => False
  | _ => False

def closeB (hs : List H) : List Nat → Prop
  | [] => True
  | i :: is => (match hget hs i with | .arr _ ys true => flatE ys = true | _ => False) ∧ closeB hs is

/-- It is closed again. -/
def closeE (id : Nat) (σ : St) (K : St → Prop) : Prop :=
  match hget σ.heap id with
  | .win sz pre cells post => match toDs σ.heap cells with
    | some (ds, ids) => ids.Nodup ∧ closeB σ.heap ids ∧ K ⟨σ.tmps, hupd (hput σ.heap id (.cln sz (pre ++ ds :: post))) (ids.map fun i => (i, H.dead))⟩
    | none => False
  | _ => False

theorem closeB_ok {hs : List H} : ∀ {ids : List Nat}, closeB hs ids → ∀ i ∈ ids, ∃ s ys, hget hs i = .arr s ys true ∧ flatE ys = true
  | [], _, i, h => by cases h
  | j :: is, hc, i, h => by
    simp only [closeB] at hc
    rcases List.mem_cons.1 h with rfl | h
    · have h1 := hc.1
      split at h1
      · rename_i s ys e; exact ⟨s, ys, e, h1⟩
      · exact h1.elim
    · exact closeB_ok hc.2 i h

theorem openE_ok {id idx : Nat} {σ : St} {K : St → Prop} (h : openE id idx σ K) : ∃ σ1, Sh σ σ1 ∧ K σ1 := by
  unfold openE at h
  split at h
  · rename_i sz xs hx
    split at h
    · rename_i c hc
      exact ⟨_, .inr (.inl ⟨id, idx, sz, xs, c, hx, hc, rfl⟩), h⟩
    · exact h.elim
  · exact h.elim

theorem closeE_ok {id : Nat} {σ : St} {K : St → Prop} (h : closeE id σ K) : ∃ σ1, Sh σ σ1 ∧ K σ1 := by
  unfold closeE at h
  split at h
  · rename_i sz pre cells post hx
    split at h
    · rename_i ds ids hd
      obtain ⟨h1, h2, h3⟩ := h
      exact ⟨_, .inr (.inr ⟨id, sz, pre, cells, post, ds, ids, hx, hd, h1, closeB_ok h2, rfl⟩), h3⟩
    · exact h.elim
  · exact h.elim

/-- The result's array (the entry 'id'), one element of it opened. -/
theorem CallS.opn {kv : List V} {σ : St} {dst : Option Tmp} {K : St → Prop} {f : FuncId} {vs : List V} {as rs : List AD} (id idx : Nat) (h : PureCall P f as rs) (hk : openE id idx (σ.app dst σ.heap.length ⟨tV rs σ.heap.length, (aHs rs).map H.toCln, []⟩) (hide K .mk)) : CallS P kv σ dst f [] (some as) vs K := by
  obtain ⟨σ1, h1, h2⟩ := openE_ok hk
  exact Or.inl ⟨rfl, Or.inr ⟨as, rs, rfl, h, σ1, h1, h2⟩⟩

/-- A loop of whose rounds some open an element. -/
theorem LoopK.win {kv : List V} {body : St → (St → Prop) → Prop} {s : Shut body} {σ : St} {α : Type} (I : α → St) (μ : α → Nat) (Pre : α → Prop) (x : α) (ρ : List Nat) (hp : Pre x) (hs : seeE kv ρ σ (I x))
    (hround : ∀ x, Pre x → body (I x) (hide (RoundE kv I μ Pre x) .mk) ∨ ∃ id idx, openE id idx (I x) (hide (fun σ1 => body σ1 (hide (RoundE kv I μ Pre x) .mk)) .mk)) : LoopK kv (hide2 body s) σ :=
  ⟨α, I, μ, Pre, x, ρ, hp, hs, fun x hx => by
    rcases hround x hx with h | ⟨id, idx, h⟩
    · exact ⟨I x, Sh.refl _, h⟩
    · exact openE_ok h⟩

theorem RoundE.close {α : Type} {kv : List V} {I : α → St} {μ : α → Nat} {Pre : α → Prop} {x : α} {σ' : St} (id : Nat) (y : α) (ρ' : List Nat) (h1 : Pre y) (h2 : μ y < μ x) (h3 : closeE id σ' (hide (fun σ2 => seeE kv ρ' σ2 (I y)) .mk)) : RoundE kv I μ Pre x σ' := by
  obtain ⟨σ2, k1, k2⟩ := closeE_ok h3
  exact ⟨σ2, k1, y, ρ', h1, h2, k2⟩
attribute [go_sem] openE closeE closeB H.toCln H.esz toX toXs clnOf

attribute [go_sem] seeE vsees vsee hsees hsee voks vok allOk hok kvOk ren rens
theorem w64 {n : Int} (h1 : -9223372036854775808 ≤ n) (h2 : n ≤ 9223372036854775807) : IntKind.i64.wrap n = n := by
  rw [IntKind.wrap_i64]; omega
theorem w8 {n : Int} (h1 : 0 ≤ n) (h2 : n ≤ 255) : IntKind.u8.wrap n = n := by
  simp only [IntKind.wrap, IntKind.signed, IntKind.bits]; simp; omega

/-! ### Drawn orders -/

theorem drawE_intro {kv : List V} {ops : List Oper} {σ : St} {K : St → Prop} (rows : List (List Rl)) (h1 : okRows ops rows = true) (h2 : rows.all (fun r => r.length == ops.length) = true)
    (h : anyE P ops σ rows ops [] σ.heap.length (hide (fun its => (updE rows 0 its ∨ upd2 σ rows ops rows [] its) ∧ K (seqAp its σ)) .mk)) : drawX P kv ops.toArray σ K := .inl ⟨rows, h1, h2, h⟩

/-- Through every order. -/
theorem drawX_all {kv : List V} {ops : List Oper} {σ : St} {K : St → Prop} (h : exE P kv ops ops.length (List.replicate ops.length false) σ K) : drawX P kv ops.toArray σ K := .inr ⟨K, fun _ h => h, by simpa using h⟩
/-- The same; what is left is said once for all orders. -/
theorem drawX_cut {kv : List V} {ops : List Oper} {σ : St} {K : St → Prop} (K' : St → Prop) (h : exE P kv ops ops.length (List.replicate ops.length false) σ K') (hk : ∀ σ', K' σ' → K σ') : drawX P kv ops.toArray σ K := .inr ⟨K', hk, by simpa using h⟩
theorem exE_end {kv : List V} {ops : List Oper} {n : Nat} {S : List Bool} {σ : St} {K : St → Prop} (h : rdyE S ops [] S = []) (hk : K σ) : exE P kv ops n S σ K := by
  cases n with
  | zero => exact ⟨h, hk⟩
  | succ n => refine ⟨fun _ => hk, ?_⟩; rw [h]; trivial
theorem exE_step {kv : List V} {ops : List Oper} {n : Nat} {S : List Bool} {σ : St} {K : St → Prop} {x : Oper × List Bool} {r : List (Oper × List Bool)} (e : rdyE S ops [] S = x :: r) (h : allE (x :: r) fun o S' => seqE P kv ops σ o (hide (fun σ' => exE P kv ops n S' σ' K) .mk)) : exE P kv ops (n + 1) S σ K :=
  ⟨fun q => (by rw [e] at q; cases q), by rw [e]; exact h⟩
theorem allE_cons {F : Oper → List Bool → Prop} {o : Oper} {S : List Bool} {r : List (Oper × List Bool)} (h : F o S) (hr : allE r F) : allE ((o, S) :: r) F := ⟨h, hr⟩
theorem allE_nil {F : Oper → List Bool → Prop} : allE [] F := trivial

@[go_sem] theorem anyE_nil (ops : List Oper) (σ0 : St) (l : List It) (n : Nat) (K : List It → Prop) : anyE P ops σ0 [] [] l n K = K l := nr rfl
@[go_sem] theorem anyE_cons (ops : List Oper) (σ0 : St) (row : List Rl) (rows : List (List Rl)) (o : Oper) (rest : List Oper) (l : List It) (n : Nat) (K : List It → Prop) :
    anyE P ops σ0 (row :: rows) (o :: rest) l n K = stepE P ops (mask row l (o :: rest) σ0) n o (hide (fun r => anyE P ops σ0 rows rest (l ++ [(o, n, r)]) (n + r.new.length) K) .mk) := nr rfl
@[go_sem] theorem mask_pre (row : List Rl) (o : Oper) (n : Nat) (r : Res) (l : List It) (rest : List Oper) (σ : St) : mask (.pre :: row) ((o, n, r) :: l) rest σ = mask row l rest (σ.app o.dst n r) := rfl
@[go_sem] theorem mask_un (row : List Rl) (o : Oper) (n : Nat) (r : Res) (l : List It) (rest : List Oper) (σ : St) : mask (.un :: row) ((o, n, r) :: l) rest σ = mask row l rest ⟨kilT σ.tmps o.dst, kilH σ.heap r.upd⟩ := rfl
@[go_sem] theorem mask_un' (row : List Rl) (o : Oper) (rest : List Oper) (σ : St) : mask (.un :: row) [] (o :: rest) σ = mask row [] rest ⟨kilT σ.tmps o.dst, σ.heap⟩ := rfl
@[go_sem] theorem mask_post' (row : List Rl) (o : Oper) (rest : List Oper) (σ : St) : mask (.post :: row) [] (o :: rest) σ = mask row [] rest σ := rfl
@[go_sem] theorem mask_nil (l : List It) (rest : List Oper) (σ : St) : mask [] l rest σ = σ := by cases l <;> cases rest <;> rfl
attribute [go_sem] kilT kilH updE allPre ltE seqAp upd2 okI okR outB deadB List.all_cons List.all_nil List.map_cons List.map_nil true_or false_or

/-- The law of a function that writes its arguments, as it is computed. -/
theorem cons_ev {f : FuncId} {fn : Func} {c : Code} {args res : List AD} (hf : P.funcs[f]? = some fn) (hb : fn.body = some c) (hcall : ∀ (args : Array Value) (w : World), (callFunc f args).run P w = .ok (.enter f args) w) (hm : P.follows .mixedOrders = true) (ts : List V) (hs : List H)
    (hhs : aHs args = hs) (hn : aVs args 0 ++ List.replicate (fn.ntmps - args.length) .junk = ts) (rs : List ResultVar) (hr : fn.results.toList = rs) (h : adOks args → codeE P [] c ⟨ts, hs⟩ (hide (retE P rs res) .mk) [] (hide (retE P rs res) .mk)) : ConsCall P f args res :=
  cons_of hf hb hcall hm hhs hn hr h

theorem mut_ev {f : FuncId} {fn : Func} {c : Code} {args args' res : List AD} (hf : P.funcs[f]? = some fn) (hb : fn.body = some c) (hcall : ∀ (args : Array Value) (w : World), (callFunc f args).run P w = .ok (.enter f args) w) (hm : P.follows .mixedOrders = true) (ts : List V) (hs : List H) (kv : List V)
    (hkv : aVs args 0 = kv) (hhs : aHs args = hs) (hn : kv ++ List.replicate (fn.ntmps - args.length) .junk = ts) (rs : List ResultVar) (hr : fn.results.toList = rs) (h : adOks args → codeE P kv c ⟨ts, hs⟩ (hide (mretE P rs kv args' res) .mk) [] (hide (mretE P rs kv args' res) .mk)) : MutCall P f args args' res :=
  mut_of hf hb hcall hm hkv hhs hn hr h

/-- The same, of arguments that nobody looks into. -/
theorem mut_evc {f : FuncId} {fn : Func} {c : Code} {args args' res : List AD} (hf : P.funcs[f]? = some fn) (hb : fn.body = some c) (hcall : ∀ (args : Array Value) (w : World), (callFunc f args).run P w = .ok (.enter f args) w) (hm : P.follows .mixedOrders = true) (ts : List V) (hs : List H) (kv : List V)
    (hkv : aVs args 0 = kv) (hhs : (aHs args).map H.toCln = hs) (hn : kv ++ List.replicate (fn.ntmps - args.length) .junk = ts) (rs : List ResultVar) (hr : fn.results.toList = rs) (h : adOks args → codeE P kv c ⟨ts, hs⟩ (hide (mretE P rs kv args' res) .mk) [] (hide (mretE P rs kv args' res) .mk)) : MutCall P f args args' res :=
  mut_ofc hf hb hcall hm hkv hhs hn hr h

/-- A call through the function's code, as it is computed. -/
theorem inl_ev {f : FuncId} {fn : Func} {c : Code} {kv : List V} {hs : List H} {vs : List V} {K : V → List H → Prop} {n : Nat} (hf : P.funcs[f]? = some fn) (hb : fn.body = some c) (hcall : ∀ (args : Array Value) (w : World), (callFunc f args).run P w = .ok (.enter f args) w) (hm : P.follows .mixedOrders = true)
    (hn : fn.ntmps = n) {rs : List ResultVar} (hr : fn.results.toList = rs) (h : codeE P kv c ⟨vs ++ List.replicate (n - vs.length) .junk, hs⟩ (hide (inlRet P rs (hide2 K .mk)) .mk) [] (hide (inlRet P rs (hide2 K .mk)) .mk)) : InlCall P f kv hs vs K :=
  inl_of hf hb hcall hm (by rw [hn]) hr h

@[go_sem] theorem inlRet_eq (rs : List ResultVar) (K : V → List H → Prop) (σ : St) : inlRet P rs K σ = rvsE P σ rs (hide (fun vs => K (tupV vs) σ.heap) .mk) := nr rfl
attribute [go_sem] tupV

@[go_sem] theorem mretE_eq (rs : List ResultVar) (kv : List V) (args' res : List AD) (σ : St) : mretE P rs kv args' res σ = rvsE P σ rs (hide (fun vs => outM (toOAs σ.heap vs) res ∧ outOA (toOAs σ.heap kv) args') .mk) := nr rfl
@[go_sem] theorem outM_some (as : List AD) (ids : List Nat) (res : List AD) : outM (some (as, ids)) res = (as = res ∧ ids = []) := by simp [outM]
/-- What a call that writes its arguments asks. -/
def withM (x : Option (List AD × List Nat)) (y : Option (Prop × List (Nat × H))) (K : List AD → List Nat → Prop → List (Nat × H) → Prop) : Prop :=
  match x, y with | some (as, ids), some (p, upd) => K as ids p upd | _, _ => False
def coverB : List Nat → List (Nat × H) → Bool
  | [], [] => true
  | i :: is, q :: upd => q.1 == i && coverB is upd
  | _, _ => false
theorem coverB_ok : ∀ (ids : List Nat) (upd : List (Nat × H)), coverB ids upd = true → upd.map (·.1) = ids
  | [], [], _ => rfl
  | [], _ :: _, h => by simp [coverB] at h
  | _ :: _, [], h => by simp [coverB] at h
  | i :: is, q :: upd, h => by
    simp only [coverB, Bool.and_eq_true, beq_iff_eq] at h
    rw [List.map_cons, h.1, coverB_ok is upd h.2]
@[go_sem] theorem withM_some (as : List AD) (ids : List Nat) (p : Prop) (upd : List (Nat × H)) (K : List AD → List Nat → Prop → List (Nat × H) → Prop) : withM (some (as, ids)) (some (p, upd)) K = K as ids p upd := nr rfl
@[go_sem] theorem coverB_nil : coverB [] [] = true := rfl
@[go_sem] theorem coverB_cons (i : Nat) (is : List Nat) (q : Nat × H) (upd : List (Nat × H)) : coverB (i :: is) (q :: upd) = (q.1 == i && coverB is upd) := rfl
attribute [go_sem] List.any_cons List.any_nil Bool.or_true Bool.true_or Bool.or_false Bool.false_or Nat.reduceBEq BEq.rfl beq_self_eq_true
theorem CallS.mu {kv : List V} {σ : St} {dst : Option Tmp} {K : St → Prop} {f : FuncId} {vs : List V} {as as' rs : List AD} (h : MutCall P f as as' rs)
    (hk : withM (toOAs σ.heap vs) (mutAs σ.heap vs as') (fun as2 ids p upd => as2 = as ∧ ids.Nodup ∧ coverB ids upd = true ∧ aHs rs = [] ∧ p ∧ hide (fun _ : Unit => K (σ.app dst σ.heap.length ⟨tV rs σ.heap.length, [], upd⟩)) .mk ())) : CallS P kv σ dst f [] (some as) vs K := by
  unfold withM at hk
  split at hk
  · rename_i as2 ids p upd h1 h2
    obtain ⟨rfl, k1, k2, k3, k4, k5⟩ := hk
    exact CallS.mut h h1 k1 h2 k4 k3 (coverB_ok _ _ k2) k5
  · exact hk.elim
def withC (x : Option (List AD × List Nat)) (K : List AD → List Nat → Prop) : Prop := match x with | some (as, ids) => K as ids | none => False
@[go_sem] theorem withC_some (as : List AD) (ids : List Nat) (K : List AD → List Nat → Prop) : withC (some (as, ids)) K = K as ids := nr rfl
theorem CallK.co {f : FuncId} {as rs : List AD} {hs : List H} {vs : List V} {n : Nat} {K : Res → Prop} (h : ConsCall P f as rs)
    (hk : withC (toOAs hs vs) fun as2 ids => as2 = as ∧ ids.Nodup ∧ flatIds hs ids ∧ hide (fun _ : Unit => K ⟨tV rs n, aHs rs, ids.map fun i => (i, .dead)⟩) .mk ()) : CallK P f (some as) hs vs n K := by
  unfold withC at hk
  split at hk
  · rename_i as2 ids h1
    obtain ⟨rfl, k1, k2, k3⟩ := hk
    exact CallK.cons h h1 k1 k2 k3
  · exact hk.elim
theorem CallS.co {kv : List V} {σ : St} {dst : Option Tmp} {K : St → Prop} {f : FuncId} {vs : List V} {as rs : List AD} (h : ConsCall P f as rs)
    (hk : withC (toOAs σ.heap vs) fun as2 ids => as2 = as ∧ ids.Nodup ∧ flatIds σ.heap ids ∧ hide (fun _ : Unit => K (σ.app dst σ.heap.length ⟨tV rs σ.heap.length, aHs rs, ids.map fun i => (i, .dead)⟩)) .mk ()) : CallS P kv σ dst f [] (some as) vs K := by
  refine Or.inl ⟨rfl, Or.inl ?_⟩
  unfold withC at hk
  split at hk
  · rename_i as2 ids h1
    obtain ⟨rfl, k1, k2, k3⟩ := hk
    exact CallK.cons h h1 k1 k2 k3
  · exact hk.elim
attribute [go_sem] flatIds
attribute [go_sem] mutAs mutA mutCs mutC
/-! Long regions' lists are two lists joined. -/
@[go_sem] theorem lapp_cons {α : Type} (a : α) (l m : List α) : List.append (a :: l) m = a :: List.append l m := rfl
@[go_sem] theorem lapp_nil {α : Type} (m : List α) : List.append [] m = m := rfl

end Gv
