/-
  Numbers out of texts: the program's function.
-/
import Derived.Test.YthfdnfhpihkihaaDoorItoa
import Derived.WalkKit
import Derived.Laws.Strings
import Derived.BigCall
import Derived.Lib.ItoaLen
import Derived.Deep.Draws
import Derived.Lib.AppendIntMem
namespace Gv
open Go Go.Proofs Go.RowKit

def parseI (s : List UInt8) : Int × Bool :=
  match Lib.atoi s with
  | some n => if s.length ≤ 10 ∧ Lib.itoa n = s ∧ -999999999 ≤ n ∧ n ≤ 999999999 then (n, true) else (0, false)
  | none => (0, false)

theorem bel_of_below {w w' : World} (h : RowKit.Below w.heap.size w w') : Bel (fun b => w.heap.size ≤ b) w w' :=
  ⟨h.os, h.tape, h.output, h.size, fun k hk => h.block k (by omega), fun b n hr => by
    obtain ⟨cs, e, h1, h2⟩ := hr
    have hb : b < w.heap.size := by
      rcases Nat.lt_or_ge b w.heap.size with h | h
      · exact h
      · rw [Array.getElem?_eq_none h] at h1; cases h1
    exact ⟨cs, e, (h.block b hb).trans h1, h2⟩⟩

theorem below_grow (w : World) (k : Nat) (os : Array Obj) : RowKit.Below w.heap.size w (Sort.grow (w.drewN k) os) :=
  ⟨rfl, rfl, rfl, by show w.heap.size ≤ (w.heap ++ os).size; simp, fun i hi => by show (w.heap ++ os)[i]? = w.heap[i]?; rw [Array.getElem?_append_left hi]⟩

theorem decFrom_le : ∀ (l : List UInt8) (acc n : Nat), Lib.decFrom acc l = some n → n < (acc + 1) * 10 ^ l.length
  | [], acc, n, h => by simp [Lib.decFrom] at h; subst h; simp
  | b :: r, acc, n, h => by
    simp only [Lib.decFrom] at h
    split at h
    · rename_i d hd
      have h1 := decFrom_le r _ n h
      have h2 : d ≤ 9 := by
        unfold Lib.digitVal at hd
        split at hd
        · simp only [Option.some.injEq] at hd; omega
        · cases hd
      rw [List.length_cons, Nat.pow_succ]
      have h3 : (acc * 10 + d + 1) * 10 ^ r.length ≤ ((acc + 1) * 10) * 10 ^ r.length := Nat.mul_le_mul_right _ (by omega)
      rw [Nat.mul_comm (10 ^ r.length) 10, ← Nat.mul_assoc]
      omega
    · cases h
theorem decNat_le {l : List UInt8} {n : Nat} (h : Lib.decNat l = some n) (hl : l.length ≤ 10) : n < 10000000000 := by
  unfold Lib.decNat at h
  split at h
  · cases h
  · have h1 := decFrom_le l 0 n h
    have h2 : 10 ^ l.length ≤ 10 ^ 10 := Nat.pow_le_pow_right (by omega) hl
    omega
theorem atoi_range {s : List UInt8} {n : Int} (h : Lib.atoi s = some n) (hl : s.length ≤ 10) : -9223372036854775808 ≤ n ∧ n ≤ 9223372036854775807 := by
  cases s with
  | nil => cases h
  | cons b r =>
    simp only [Lib.atoi] at h
    have hr : r.length ≤ 10 := by simp only [List.length_cons] at hl; omega
    split at h
    · obtain ⟨m, h1, rfl⟩ := Option.map_eq_some_iff.1 h
      have := decNat_le h1 hr
      omega
    · split at h
      · obtain ⟨m, h1, rfl⟩ := Option.map_eq_some_iff.1 h
        have := decNat_le h1 hr
        omega
      · obtain ⟨m, h1, rfl⟩ := Option.map_eq_some_iff.1 h
        have := decNat_le h1 hl
        omega
theorem tab_stays {w w' : World} {zs : List Int} (hb : RowKit.Below w.heap.size w w') (h : Lib.TabIs Tryd.prog w "internal/strconv.uint64pow10" .u64 zs) : Lib.TabIs Tryd.prog w' "internal/strconv.uint64pow10" .u64 zs := (Lib.tabBelow_of_tabIs h) w' hb

set_option maxRecDepth 100000 in
set_option maxHeartbeats 4000000 in
theorem ParseInt_walk (s : ByteArray) (w : World) (htab : Lib.TabIs Tryd.prog w "internal/strconv.uint64pow10" .u64 Lib.pow10Tab) (tp : TypeId) (p : Value) (hvar : w.var? Tryd.prog "strconv.ErrSyntax" = some #[.iface tp p]) (hs : s.size ≤ 1048576) :
    Calls Tryd.prog 22 #[.string s] w fun e w' => e = .returned (.tuple #[.int .i64 (parseI s.data.toList).1, .bool (parseI s.data.toList).2]) ∧ RowKit.Below w.heap.size w w' := by
  by_cases hl : s.size ≤ 10
  · cases h : Lib.atoi s.data.toList with
    | none =>
      have hp : parseI s.data.toList = (0, false) := by unfold parseI; rw [h]
      rw [hp]
      go_enter Tryd.func22, Tryd.ntmps22
      go_wp2_with (go_at_call 33; refine (Any.strconv_Atoi_err_var Tryd.lays172 s (by omega) h tp p _ hvar).mono ?_; rintro e W1 ⟨N, rfl, -, -, hb⟩)
      go_ret2
      exact ⟨rfl, hb⟩
    | some n =>
      have hsz : s.data.toList.length = s.size := Array.length_toList
      have hb := atoi_range h (by omega)
      have hp : parseI s.data.toList = if s.data.toList.length ≤ 10 ∧ Lib.itoa n = s.data.toList ∧ -999999999 ≤ n ∧ n ≤ 999999999 then (n, true) else (0, false) := by unfold parseI; rw [h]
      have hd : s.toList = s.data.toList := ByteArray.toList_eq s
      by_cases hc : Lib.itoa n = s.data.toList ∧ -999999999 ≤ n ∧ n ≤ 999999999
      · rw [if_pos ⟨by omega, hc⟩] at hp
        rw [hp]
        obtain ⟨c1, c2, c3⟩ := hc
        go_enter Tryd.func22, Tryd.ntmps22
        go_wp2_with (first
          | (go_at_call 33; refine (Any.strconv_Atoi { Tryd.lays172 with } s n (by omega) h _).mono ?_; rintro e W1 ⟨rfl, t, rfl⟩)
          | (go_at_call 30; refine (Any.strconv_Itoa Tryd.lays171 n hb.1 hb.2 _ (tab_stays (Lib.bytesWorld_below _ _ _) htab)).mono ?_; rintro e W1 ⟨rfl, k, os, rfl⟩)
          | go_in)
        all_goals go_ret2
        all_goals refine ⟨?_, (Lib.bytesWorld_below w _ t).trans ((below_grow _ k os).mono (Lib.bytesWorld_below w _ t).size)⟩
        all_goals first | rfl | (exfalso; first | contradiction | omega | (rename_i h9; simp at h9; omega))
      · rw [if_neg (fun q => hc q.2)] at hp
        rw [hp]
        go_enter Tryd.func22, Tryd.ntmps22
        go_wp2_with (first
          | (go_at_call 33; refine (Any.strconv_Atoi { Tryd.lays172 with } s n (by omega) h _).mono ?_; rintro e W1 ⟨rfl, t, rfl⟩)
          | (go_at_call 30; refine (Any.strconv_Itoa Tryd.lays171 n hb.1 hb.2 _ (tab_stays (Lib.bytesWorld_below _ _ _) htab)).mono ?_; rintro e W1 ⟨rfl, k, os, rfl⟩)
          | go_in)
        all_goals go_ret2
        all_goals refine ⟨?_, (Lib.bytesWorld_below w _ t).trans ((below_grow _ k os).mono (Lib.bytesWorld_below w _ t).size)⟩
        all_goals first | rfl | (exfalso; rename_i h9; exact hc ⟨by assumption, by assumption, by simpa using h9⟩)
  · have hp : parseI s.data.toList = (0, false) := by
      unfold parseI
      split
      · rw [if_neg (fun h => hl h.1)]
      · rfl
    rw [hp]
    go_enter Tryd.func22, Tryd.ntmps22
    go_wp2
    go_ret2
    exact ⟨rfl, RowKit.Below.refl _ _⟩

theorem var_of_cells {w : World} {n : String} {g : Nat} {cs : Array Value} {e : TypeId} {fr : Nat × Nat} (hn : Tryd.prog.globalNamed n = some g) (h : w.heap[g]? = some (.cells cs e fr)) : w.var? Tryd.prog n = some cs := by
  unfold World.var?
  rw [hn]
  simp only [Option.bind_some, h]

set_option maxRecDepth 100000 in
theorem err_of_gok {w : World} (hg : GOk w.heap) : ∃ tp p, w.var? Tryd.prog "strconv.ErrSyntax" = some #[.iface tp p] := by
  have hm : (2, fun cs : Array Value => ∃ tp a, cs = #[.iface tp (.pointer (some a))]) ∈ gVars := by simp [gVars]
  obtain ⟨cs, e, fr, h1, tp, a, rfl⟩ := hg.2 _ hm
  exact ⟨tp, _, var_of_cells (by kernel_rfl) h1⟩

set_option maxRecDepth 100000 in
theorem impl_ParseInt (s : List UInt8) (hs : s.length ≤ 1048576) : PureCall Tryd.prog 22 [.one (.str s)] [.one (.int .i64 (parseI s).1), .one (.bool (parseI s).2)] := by
  intro w us F hg ha
  simp only [areps, arep, rep] at ha
  obtain ⟨u, us', F1, F2, rfl, rfl, ⟨rfl, rfl, h0⟩, rfl, rfl⟩ := ha
  obtain ⟨tp, p, hv⟩ := err_of_gok hg
  refine Does.enter (Tryd.call22 _ _) ?_
  refine (ParseInt_walk ⟨s.toArray⟩ w (tab_of_gok hg) tp p hv (by simpa [ByteArray.size] using hs)).mono ?_
  rintro e w' ⟨rfl, hb⟩
  refine ⟨[], bel_of_below hb, ?_, List.nodup_nil, by simp⟩
  simp only [trep, areps, arep, rep]
  refine ⟨_, rfl, _, _, [], [], rfl, rfl, ⟨rfl, rfl, ?_⟩, _, _, [], [], rfl, rfl, ⟨rfl, rfl⟩, rfl, rfl⟩
  have : -999999999 ≤ (parseI s).1 ∧ (parseI s).1 ≤ 999999999 := by
    unfold parseI
    split
    · split
      · rename_i h; exact h.2.2
      · simp
    · simp
  have e1 : IntKind.i64.min = -9223372036854775808 := by decide
  have e2 : IntKind.i64.max = 9223372036854775807 := by decide
  rw [e1, e2]
  omega
end Gv
