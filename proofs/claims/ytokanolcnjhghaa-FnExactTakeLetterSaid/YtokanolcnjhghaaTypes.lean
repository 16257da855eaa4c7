/-
  The program's structs as Lean structures, and that an argument of such a type is one. Printed by a program of ours.
-/
import Derived.Test.YtokanolcnjhghaaFacts
import Derived.Test.YtokanolcnjhghaaGvRead
namespace Gv
open Go Go.Proofs

theorem cons_of_len {l : List D} {n : Nat} (h : l.length = n + 1) : ∃ d l', l = d :: l' ∧ l'.length = n := by
  cases l with
  | nil => simp at h
  | cons d l => exact ⟨d, l, rfl, by simpa using h⟩
def eI (n : Int) : List D := [.int .i64 n]
def eS (s : List UInt8) : List D := [.str s]
def eB (b : Bool) : List D := [.bool b]
def eU8 (n : Int) : List D := [.int .u8 n]
theorem enc_lift {α : Type} {f : α → List D} : ∀ (xs : List (List D)), (∀ c ∈ xs, ∃ a, c = f a) → ∃ ys : List α, xs = ys.map f
  | [], _ => ⟨[], rfl⟩
  | x :: xs, h => by
    obtain ⟨a, rfl⟩ := h x (by simp)
    obtain ⟨ys, rfl⟩ := enc_lift xs fun c hc => h c (by simp [hc])
    exact ⟨a :: ys, rfl⟩
theorem flat_map {α : Type} {f : α → List D} (h : ∀ a, (f a).all D.flat = true) (xs : List α) : flatE (xs.map f) = true := by simp [flatE, h]
@[go_sem] theorem flat_eI (xs : List Int) : flatE (xs.map eI) = true := flat_map (fun _ => rfl) xs
@[go_sem] theorem flat_eS (xs : List (List UInt8)) : flatE (xs.map eS) = true := flat_map (fun _ => rfl) xs
structure TLetter where
  number : Int
  payload : List UInt8
  deriving DecidableEq
def TLetter.enc (x : TLetter) : List D := [.int .i64 x.number, .str x.payload]
@[go_sem] theorem flat_TLetter (xs : List TLetter) : flatE (xs.map TLetter.enc) = true := flat_map (fun _ => rfl) xs
set_option maxRecDepth 100000 in
theorem fits3 {f : Nat} {ds : List D} (h : Fits Try.prog (f + 1) 3 ds) : ∃ n : Int, ds = [.int .i64 n] := by
  unfold Fits at h; rw [Try.underlying3] at h; exact h
set_option maxRecDepth 100000 in
theorem fits9 {f : Nat} {ds : List D} (h : Fits Try.prog (f + 1) 9 ds) : ∃ n : List UInt8, ds = [.str n] := by
  unfold Fits at h; rw [Try.underlying9] at h; exact h
set_option maxRecDepth 100000 in
theorem fits35 {f : Nat} {ds : List D} (h : Fits Try.prog (f + 2) 35 ds) : ∃ x : TLetter, ds = x.enc := by
  unfold Fits at h; rw [Try.underlying35] at h
  obtain ⟨h2, h3⟩ := h
  have c3 : Try.prog.cellsOf 3 = 1 := by kernel_rfl
  have c9 : Try.prog.cellsOf 9 = 1 := by kernel_rfl
  have c35 : Try.prog.cellsOf 35 = 2 := by kernel_rfl
  rw [c35] at h2
  match ds, h2 with
  | [d0, d1], _ =>
    obtain ⟨x0, e0⟩ := fits3 (f := f + 0) (show Fits Try.prog (f + 0 + 1) 3 [d0] from by have := h3 _ (List.mem_of_getElem? (i := 0) rfl); simpa only [c3, List.drop_zero, List.drop_succ_cons, List.take_succ_cons, List.take_zero] using this)
    obtain ⟨x1, e1⟩ := fits9 (f := f + 0) (show Fits Try.prog (f + 0 + 1) 9 [d1] from by have := h3 _ (List.mem_of_getElem? (i := 1) rfl); simpa only [c9, List.drop_zero, List.drop_succ_cons, List.take_succ_cons, List.take_zero] using this)
    simp only [List.cons.injEq] at e0; obtain ⟨rfl, -⟩ := e0
    simp only [List.cons.injEq] at e1; obtain ⟨rfl, -⟩ := e1
    exact ⟨⟨x0, x1⟩, rfl⟩
set_option maxRecDepth 100000 in
theorem fits22 {f : Nat} {ds : List D} (h : Fits Try.prog (f + 3) 22 ds) : ∃ xs : List TLetter, ds = [.sl 2 (xs.map TLetter.enc)] := by
  unfold Fits at h; rw [Try.underlying22] at h
  obtain ⟨xs, rfl, h2⟩ := h
  obtain ⟨ys, rfl⟩ := enc_lift (f := TLetter.enc) xs fun c hc => fits35 (h2 c hc)
  exact ⟨ys, rfl⟩
theorem eI_fits {f : Nat} {ds : List D} (h : ∃ n : Int, ds = [.int .i64 n]) : ∃ n, ds = eI n := h

end Gv
