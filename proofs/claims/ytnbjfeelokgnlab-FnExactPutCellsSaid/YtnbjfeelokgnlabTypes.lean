/-
  The program's structs as Lean structures, and that an argument of such a type is one. Printed by a program of ours.
-/
import Derived.Test.YtnbjfeelokgnlabFacts
import Derived.Test.YtnbjfeelokgnlabGvRead
namespace Gv
open Go Go.Proofs

def eI (n : Int) : List D := [.int .i64 n]
def eS (s : List UInt8) : List D := [.str s]
def eB (b : Bool) : List D := [.bool b]
def eU8 (n : Int) : List D := [.int .u8 n]
theorem enc_lift {α : Type} {f : α → List D} : ∀ (xs : List (List D)), (∀ c ∈ xs, ∃ a, c = f a) → ∃ ys : List α, xs = ys.map f
  | [], _ => ⟨[], rfl⟩
  | x :: xs, h => by
    obtain ⟨a, rfl⟩ := h x (by simp)
    obtain ⟨ys, rfl⟩ := enc_lift xs fun c hc => h c (by simp [hc])
    exact ⟨a :: ys, rfl⟩
theorem flat_map {α : Type} {f : α → List D} (h : ∀ a, (f a).all D.flat = true) (xs : List α) : flatE (xs.map f) = true := by simp [flatE, h]
@[go_sem] theorem flat_eI (xs : List Int) : flatE (xs.map eI) = true := flat_map (fun _ => rfl) xs
@[go_sem] theorem flat_eS (xs : List (List UInt8)) : flatE (xs.map eS) = true := flat_map (fun _ => rfl) xs
structure TLetter where
  number : Int
  payload : List UInt8
  deriving DecidableEq
def TLetter.enc (x : TLetter) : List D := [.int .i64 x.number, .str x.payload]
@[go_sem] theorem flat_TLetter (xs : List TLetter) : flatE (xs.map TLetter.enc) = true := flat_map (fun _ => rfl) xs
structure TCells where
  bytes : List Int
  read : Int
  deriving DecidableEq
def TCells.enc (x : TCells) : List D := [.sl 1 (x.bytes.map eI), .int .i64 x.read]
structure TChunk where
  offset : Int
  data : List UInt8
  deriving DecidableEq
def TChunk.enc (x : TChunk) : List D := [.int .i64 x.offset, .str x.data]
@[go_sem] theorem flat_TChunk (xs : List TChunk) : flatE (xs.map TChunk.enc) = true := flat_map (fun _ => rfl) xs
structure TBuffer where
  next : Int
  chunks : List TChunk
  deriving DecidableEq
def TBuffer.enc (x : TBuffer) : List D := [.int .i64 x.next, .sl 2 (x.chunks.map TChunk.enc)]
structure TRange where
  low : Int
  high : Int
  deriving DecidableEq
def TRange.enc (x : TRange) : List D := [.int .i64 x.low, .int .i64 x.high]
@[go_sem] theorem flat_TRange (xs : List TRange) : flatE (xs.map TRange.enc) = true := flat_map (fun _ => rfl) xs
set_option maxRecDepth 100000 in
theorem fits3 {f : Nat} {ds : List D} (h : Fits Try.prog (f + 1) 3 ds) : ∃ n : Int, ds = [.int .i64 n] := by
  unfold Fits at h; rw [Try.underlying3] at h; exact h
set_option maxRecDepth 100000 in
theorem fits9 {f : Nat} {ds : List D} (h : Fits Try.prog (f + 1) 9 ds) : ∃ n : List UInt8, ds = [.str n] := by
  unfold Fits at h; rw [Try.underlying9] at h; exact h
set_option maxRecDepth 100000 in
theorem fits61 {f : Nat} {ds : List D} (h : Fits Try.prog (f + 2) 61 ds) : ∃ x : TLetter, ds = x.enc := by
  unfold Fits at h; rw [Try.underlying61] at h
  obtain ⟨h2, h3⟩ := h
  have c3 : Try.prog.cellsOf 3 = 1 := by kernel_rfl
  have c9 : Try.prog.cellsOf 9 = 1 := by kernel_rfl
  have c61 : Try.prog.cellsOf 61 = 2 := by kernel_rfl
  rw [c61] at h2
  match ds, h2 with
  | [d0, d1], _ =>
    obtain ⟨x0, e0⟩ := fits3 (f := f + 0) (show Fits Try.prog (f + 0 + 1) 3 [d0] from by have := h3 _ (List.mem_of_getElem? (i := 0) rfl); simpa only [c3, List.drop_zero, List.drop_succ_cons, List.take_succ_cons, List.take_zero] using this)
    obtain ⟨x1, e1⟩ := fits9 (f := f + 0) (show Fits Try.prog (f + 0 + 1) 9 [d1] from by have := h3 _ (List.mem_of_getElem? (i := 1) rfl); simpa only [c9, List.drop_zero, List.drop_succ_cons, List.take_succ_cons, List.take_zero] using this)
    simp only [List.cons.injEq] at e0; obtain ⟨rfl, -⟩ := e0
    simp only [List.cons.injEq] at e1; obtain ⟨rfl, -⟩ := e1
    exact ⟨⟨x0, x1⟩, rfl⟩
set_option maxRecDepth 100000 in
theorem fits22 {f : Nat} {ds : List D} (h : Fits Try.prog (f + 3) 22 ds) : ∃ xs : List TLetter, ds = [.sl 2 (xs.map TLetter.enc)] := by
  unfold Fits at h; rw [Try.underlying22] at h
  obtain ⟨xs, rfl, h2⟩ := h
  obtain ⟨ys, rfl⟩ := enc_lift (f := TLetter.enc) xs fun c hc => fits61 (h2 c hc)
  exact ⟨ys, rfl⟩
set_option maxRecDepth 100000 in
theorem fits5 {f : Nat} {ds : List D} (h : Fits Try.prog (f + 1) 5 ds) : ∃ n : Int, ds = [.int .u8 n] := by
  unfold Fits at h; rw [Try.underlying5] at h; exact h
set_option maxRecDepth 100000 in
theorem fits29 {f : Nat} {ds : List D} (h : Fits Try.prog (f + 2) 29 ds) : ∃ xs : List Int, ds = [.sl 1 (xs.map eU8)] := by
  unfold Fits at h; rw [Try.underlying29] at h
  obtain ⟨xs, rfl, h2⟩ := h
  obtain ⟨ys, rfl⟩ := enc_lift (f := eU8) xs fun c hc => fits5 (h2 c hc)
  exact ⟨ys, rfl⟩
set_option maxRecDepth 100000 in
theorem fits34 {f : Nat} {ds : List D} (h : Fits Try.prog (f + 2) 34 ds) : ∃ xs : List Int, ds = [.sl 1 (xs.map eI)] := by
  unfold Fits at h; rw [Try.underlying34] at h
  obtain ⟨xs, rfl, h2⟩ := h
  obtain ⟨ys, rfl⟩ := enc_lift (f := eI) xs fun c hc => fits3 (h2 c hc)
  exact ⟨ys, rfl⟩
set_option maxRecDepth 100000 in
theorem fits74 {f : Nat} {ds : List D} (h : Fits Try.prog (f + 3) 74 ds) : ∃ x : TCells, ds = x.enc := by
  unfold Fits at h; rw [Try.underlying74] at h
  obtain ⟨h2, h3⟩ := h
  have c3 : Try.prog.cellsOf 3 = 1 := by kernel_rfl
  have c34 : Try.prog.cellsOf 34 = 1 := by kernel_rfl
  have c74 : Try.prog.cellsOf 74 = 2 := by kernel_rfl
  rw [c74] at h2
  match ds, h2 with
  | [d0, d1], _ =>
    obtain ⟨x0, e0⟩ := fits34 (f := f + 0) (show Fits Try.prog (f + 0 + 2) 34 [d0] from by have := h3 _ (List.mem_of_getElem? (i := 0) rfl); simpa only [c34, List.drop_zero, List.drop_succ_cons, List.take_succ_cons, List.take_zero] using this)
    obtain ⟨x1, e1⟩ := fits3 (f := f + 1) (show Fits Try.prog (f + 1 + 1) 3 [d1] from by have := h3 _ (List.mem_of_getElem? (i := 1) rfl); simpa only [c3, List.drop_zero, List.drop_succ_cons, List.take_succ_cons, List.take_zero] using this)
    simp only [List.cons.injEq] at e0; obtain ⟨rfl, -⟩ := e0
    simp only [List.cons.injEq] at e1; obtain ⟨rfl, -⟩ := e1
    exact ⟨⟨x0, x1⟩, rfl⟩
theorem eI_fits {f : Nat} {ds : List D} (h : ∃ n : Int, ds = [.int .i64 n]) : ∃ n, ds = eI n := h

end Gv
