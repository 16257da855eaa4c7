/-
  The program's structs as Lean structures, and that an argument of such a type is one. Printed by a program of ours.
-/
import Derived.Test.YtnbjfeelokgnlaaDoorFacts
import Derived.Test.YtnbjfeelokgnlaaDoorGvRead
namespace Gv
open Go Go.Proofs

def eI (n : Int) : List D := [.int .i64 n]
def eS (s : List UInt8) : List D := [.str s]
def eB (b : Bool) : List D := [.bool b]
def eU8 (n : Int) : List D := [.int .u8 n]
theorem enc_lift {α : Type} {f : α → List D} : ∀ (xs : List (List D)), (∀ c ∈ xs, ∃ a, c = f a) → ∃ ys : List α, xs = ys.map f
  | [], _ => ⟨[], rfl⟩
  | x :: xs, h => by
    obtain ⟨a, rfl⟩ := h x (by simp)
    obtain ⟨ys, rfl⟩ := enc_lift xs fun c hc => h c (by simp [hc])
    exact ⟨a :: ys, rfl⟩
theorem flat_map {α : Type} {f : α → List D} (h : ∀ a, (f a).all D.flat = true) (xs : List α) : flatE (xs.map f) = true := by simp [flatE, h]
@[go_sem] theorem flat_eI (xs : List Int) : flatE (xs.map eI) = true := flat_map (fun _ => rfl) xs
@[go_sem] theorem flat_eS (xs : List (List UInt8)) : flatE (xs.map eS) = true := flat_map (fun _ => rfl) xs
set_option maxRecDepth 100000 in
theorem fits3 {f : Nat} {ds : List D} (h : Fits Tryd.prog (f + 1) 3 ds) : ∃ n : Int, ds = [.int .i64 n] := by
  unfold Fits at h; rw [Tryd.underlying3] at h; exact h
theorem eI_fits {f : Nat} {ds : List D} (h : ∃ n : Int, ds = [.int .i64 n]) : ∃ n, ds = eI n := h

end Gv
