/-
  The program's structs as Lean structures, and that an argument of such a type is one. Printed by a program of ours.
-/
import Derived.Test.YtiaaipckeinbiaaFacts
import Derived.Test.YtiaaipckeinbiaaGvRead
namespace Gv
open Go Go.Proofs

theorem cons_of_len {l : List D} {n : Nat} (h : l.length = n + 1) : ∃ d l', l = d :: l' ∧ l'.length = n := by
  cases l with
  | nil => simp at h
  | cons d l => exact ⟨d, l, rfl, by simpa using h⟩
def eI (n : Int) : List D := [.int .i64 n]
def eS (s : List UInt8) : List D := [.str s]
def eB (b : Bool) : List D := [.bool b]
def eU8 (n : Int) : List D := [.int .u8 n]
theorem enc_lift {α : Type} {f : α → List D} : ∀ (xs : List (List D)), (∀ c ∈ xs, ∃ a, c = f a) → ∃ ys : List α, xs = ys.map f
  | [], _ => ⟨[], rfl⟩
  | x :: xs, h => by
    obtain ⟨a, rfl⟩ := h x (by simp)
    obtain ⟨ys, rfl⟩ := enc_lift xs fun c hc => h c (by simp [hc])
    exact ⟨a :: ys, rfl⟩
theorem flat_map {α : Type} {f : α → List D} (h : ∀ a, (f a).all D.flat = true) (xs : List α) : flatE (xs.map f) = true := by simp [flatE, h]
@[go_sem] theorem flat_eI (xs : List Int) : flatE (xs.map eI) = true := flat_map (fun _ => rfl) xs
@[go_sem] theorem flat_eS (xs : List (List UInt8)) : flatE (xs.map eS) = true := flat_map (fun _ => rfl) xs
structure TCells where
  bytes : List Int
  read : Int
  deriving DecidableEq
def TCells.enc (x : TCells) : List D := [.sl 1 (x.bytes.map eI), .int .i64 x.read]
structure TChunk where
  offset : Int
  data : List UInt8
  deriving DecidableEq
def TChunk.enc (x : TChunk) : List D := [.int .i64 x.offset, .str x.data]
@[go_sem] theorem flat_TChunk (xs : List TChunk) : flatE (xs.map TChunk.enc) = true := flat_map (fun _ => rfl) xs
structure TBuffer where
  next : Int
  chunks : List TChunk
  deriving DecidableEq
def TBuffer.enc (x : TBuffer) : List D := [.int .i64 x.next, .sl 2 (x.chunks.map TChunk.enc)]
structure TRange where
  low : Int
  high : Int
  deriving DecidableEq
def TRange.enc (x : TRange) : List D := [.int .i64 x.low, .int .i64 x.high]
@[go_sem] theorem flat_TRange (xs : List TRange) : flatE (xs.map TRange.enc) = true := flat_map (fun _ => rfl) xs
set_option maxRecDepth 100000 in
theorem fits5 {f : Nat} {ds : List D} (h : Fits Try.prog (f + 1) 5 ds) : ∃ n : Int, ds = [.int .u8 n] := by
  unfold Fits at h; rw [Try.underlying5] at h; exact h
set_option maxRecDepth 100000 in
theorem fits22 {f : Nat} {ds : List D} (h : Fits Try.prog (f + 2) 22 ds) : ∃ xs : List Int, ds = [.sl 1 (xs.map eU8)] := by
  unfold Fits at h; rw [Try.underlying22] at h
  obtain ⟨xs, rfl, h2⟩ := h
  obtain ⟨ys, rfl⟩ := enc_lift (f := eU8) xs fun c hc => fits5 (h2 c hc)
  exact ⟨ys, rfl⟩
theorem eI_fits {f : Nat} {ds : List D} (h : ∃ n : Int, ds = [.int .i64 n]) : ∃ n, ds = eI n := h

end Gv
