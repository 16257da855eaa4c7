/-
  The program's structs as Lean structures, and that an argument of such a type is one. Printed by a program of ours.
-/
import Derived.Test.YthfdnfhpihkihaaDoorFacts
import Derived.Test.YthfdnfhpihkihaaDoorGvRead
namespace Gv
open Go Go.Proofs

theorem cons_of_len {l : List D} {n : Nat} (h : l.length = n + 1) : ∃ d l', l = d :: l' ∧ l'.length = n := by
  cases l with
  | nil => simp at h
  | cons d l => exact ⟨d, l, rfl, by simpa using h⟩
def eI (n : Int) : List D := [.int .i64 n]
def eS (s : List UInt8) : List D := [.str s]
def eB (b : Bool) : List D := [.bool b]
def eU8 (n : Int) : List D := [.int .u8 n]
theorem enc_lift {α : Type} {f : α → List D} : ∀ (xs : List (List D)), (∀ c ∈ xs, ∃ a, c = f a) → ∃ ys : List α, xs = ys.map f
  | [], _ => ⟨[], rfl⟩
  | x :: xs, h => by
    obtain ⟨a, rfl⟩ := h x (by simp)
    obtain ⟨ys, rfl⟩ := enc_lift xs fun c hc => h c (by simp [hc])
    exact ⟨a :: ys, rfl⟩
theorem flat_map {α : Type} {f : α → List D} (h : ∀ a, (f a).all D.flat = true) (xs : List α) : flatE (xs.map f) = true := by simp [flatE, h]
@[go_sem] theorem flat_eI (xs : List Int) : flatE (xs.map eI) = true := flat_map (fun _ => rfl) xs
@[go_sem] theorem flat_eS (xs : List (List UInt8)) : flatE (xs.map eS) = true := flat_map (fun _ => rfl) xs
structure TEvent where
  kind : Int
  id : Int
  n : Int
  text : List UInt8
  deriving DecidableEq
def TEvent.enc (x : TEvent) : List D := [.int .i64 x.kind, .int .i64 x.id, .int .i64 x.n, .str x.text]
@[go_sem] theorem flat_TEvent (xs : List TEvent) : flatE (xs.map TEvent.enc) = true := flat_map (fun _ => rfl) xs
set_option maxRecDepth 100000 in
theorem fits9 {f : Nat} {ds : List D} (h : Fits Tryd.prog (f + 1) 9 ds) : ∃ n : List UInt8, ds = [.str n] := by
  unfold Fits at h; rw [Tryd.underlying9] at h; exact h
theorem eI_fits {f : Nat} {ds : List D} (h : ∃ n : Int, ds = [.int .i64 n]) : ∃ n, ds = eI n := h

end Gv
