/-
  Numerals.
-/
import Derived.Test.YthfdnfhpihkihaaDoorFns1
import Derived.Test.YthfdnfhpihkihaaDoorShelfFmt
import Derived.Lib.ItoaLen
import Derived.Deep.Draws
namespace Gv
open Go Go.Proofs

theorem Bel.grow {w : World} (k : Nat) (os : Array Obj) : Bel (fun b => w.heap.size ≤ b) w (Sort.grow (w.drewN k) os) := by
  have h : ∀ i, i < w.heap.size → (w.heap ++ os)[i]? = w.heap[i]? := fun i hi => by rw [Array.getElem?_append_left hi]
  refine ⟨rfl, rfl, rfl, ?_, fun i hi => h i (by omega), fun b n hr => ?_⟩
  · show w.heap.size ≤ (w.heap ++ os).size
    simp
  · obtain ⟨cs, e, h1, h2⟩ := hr
    have hb : b < w.heap.size := by
      rcases Nat.lt_or_ge b w.heap.size with h | h
      · exact h
      · rw [Array.getElem?_eq_none h] at h1; cases h1
    exact ⟨cs, e, (h b hb).trans h1, h2⟩

theorem pow_tab : (Lib.pow10Tab.map fun z => Value.int .u64 z).toArray = #[.int .u64 1, .int .u64 10, .int .u64 100, .int .u64 1000, .int .u64 10000, .int .u64 100000, .int .u64 1000000, .int .u64 10000000, .int .u64 100000000, .int .u64 1000000000, .int .u64 10000000000, .int .u64 100000000000, .int .u64 1000000000000, .int .u64 10000000000000, .int .u64 100000000000000, .int .u64 1000000000000000, .int .u64 10000000000000000, .int .u64 100000000000000000, .int .u64 1000000000000000000, .int .u64 10000000000000000000] := by
  simp [Lib.pow10Tab, List.range, List.range.loop]

theorem tab_of_gok {w : World} (hg : GOk w.heap) : Lib.TabIs Tryd.prog w "internal/strconv.uint64pow10" .u64 Lib.pow10Tab := by
  have hn : Tryd.prog.globalNamed "internal/strconv.uint64pow10" = some 4 := by kernel_rfl
  have hm : (4, fun cs : Array Value => cs = #[.int .u64 1, .int .u64 10, .int .u64 100, .int .u64 1000, .int .u64 10000, .int .u64 100000, .int .u64 1000000, .int .u64 10000000, .int .u64 100000000, .int .u64 1000000000, .int .u64 10000000000, .int .u64 100000000000, .int .u64 1000000000000, .int .u64 10000000000000, .int .u64 100000000000000, .int .u64 1000000000000000, .int .u64 10000000000000000, .int .u64 100000000000000000, .int .u64 1000000000000000000, .int .u64 10000000000000000000]) ∈ gVars := by simp [gVars]
  obtain ⟨cs, e, fr, h1, h2⟩ := hg.2 _ hm
  unfold Lib.TabIs World.var?
  rw [hn, pow_tab]
  simp only [Option.bind_some, h1]
  rw [h2]

set_option maxRecDepth 100000 in
theorem strconv_Itoa (n : Int) : PureCall Tryd.prog 30 [.one (.int .i64 n)] [.one (.str (Lib.itoa n))] := by
  intro w us F hg ha
  have hok := areps_ok _ _ _ ha
  simp only [areps, arep, rep] at ha
  obtain ⟨u, us', F1, F2, rfl, rfl, ⟨rfl, rfl, h0, h1⟩, rfl, rfl⟩ := ha
  have e1 : IntKind.i64.min = -9223372036854775808 := by decide
  have e2 : IntKind.i64.max = 9223372036854775807 := by decide
  rw [e1] at h0; rw [e2] at h1
  refine Does.enter (Tryd.call30 _ _) ?_
  refine (Any.strconv_Itoa Tryd.lays171 n h0 h1 w (tab_of_gok hg)).mono ?_
  rintro e w' ⟨rfl, k, os, rfl⟩
  refine ⟨[], Bel.grow k os, ?_, List.nodup_nil, by simp⟩
  simp only [trep, arep, rep]
  refine ⟨by simp, trivial, ?_⟩
  have := Lib.itoa_length_le n h0 h1
  simp only [maxLen]; omega

set_option maxRecDepth 100000 in
theorem impl_FormatInt (n : Int) : PureCall Tryd.prog 18 [.one (.int .i64 n)] [.one (.str (Lib.itoa n))] := by
  refine pure_ev Tryd.func18 rfl Tryd.call18 Tryd.checked.mixed [.d (.int .i64 n), .junk, .junk, .junk, .junk] rfl [.tmp 2] rfl ?_
  intro ok
  try simp only [go_sem]
  repeat' (first
    | (refine CallS.intro (by first | assumption | (apply strconv_Itoa <;> first | assumption | omega)) ?_; simp only [go_sem])
    | (refine CallK.intro (by first | assumption | (apply strconv_Itoa <;> first | assumption | omega)) ?_; simp only [go_sem])
    | (with_reducible refine gTrueS ?_; simp only [go_sem]) | (with_reducible refine gFalseS ?_; simp only [go_sem]) | (with_reducible refine gTrue ?_; simp only [go_sem]) | (with_reducible refine gFalse ?_; simp only [go_sem])
    | (refine gSymS ?_; simp only [go_sem]) | (refine gSym ?_; simp only [go_sem])
    | (refine cSplit (fun h => ?_) (fun h => ?_) <;> simp only [go_sem])
    | (with_reducible refine And.intro ?_ ?_; (focus (first | omega | (exact ⟨by omega, by omega⟩) | (simp; done) | (simp; omega)))))

def digs (u : Nat) : List UInt8 := if u = 0 then [] else Lib.decDigits u
theorem digs_step (u : Nat) (h : 0 < u) : digs u = digs (u / 10) ++ [UInt8.ofNat (48 + u % 10)] := by
  unfold digs
  rw [if_neg (by omega), Lib.decDigits]
  by_cases h1 : u < 10
  · rw [dif_pos h1, if_pos (by omega), Nat.mod_eq_of_lt h1]; rfl
  · rw [dif_neg h1, if_neg (by omega)]
theorem itoa_zero : Lib.itoa 0 = [48] := by
  unfold Lib.itoa
  rw [if_neg (by omega)]
  show Lib.decDigits 0 = [48]
  rw [Lib.decDigits, dif_pos (by omega)]; rfl
theorem natAbs_small {n : Int} (h0 : -9223372036854775808 ≤ n) (h1 : n ≤ 9223372036854775807) : n.natAbs ≤ 9223372036854775808 := by omega

set_option maxHeartbeats 1000000 in
set_option maxRecDepth 100000 in
theorem spec_FormatInt (n : Int) : PureCall Tryd.prog 14 [.one (.int .i64 n)] [.one (.str (Lib.itoa n))] := by
  refine pure_ev Tryd.func14 rfl Tryd.call14 Tryd.checked.mixed [.d (.int .i64 n), .junk, .junk, .junk, .junk, .junk, .junk, .junk, .junk, .junk, .junk, .junk, .junk, .junk, .junk, .junk, .junk, .junk, .junk, .junk, .junk, .junk, .junk, .junk, .junk, .junk, .junk, .junk, .junk, .junk, .junk] rfl [.tmp 2] rfl ?_
  intro ok
  have hb := ok.1
  simp only [adOk, dOk] at hb
  have e1 : IntKind.i64.min = -9223372036854775808 := by decide
  have e2 : IntKind.i64.max = 9223372036854775807 := by decide
  rw [e1, e2] at hb
  have hlen := Lib.itoa_length_le n hb.1 hb.2
  simp only [go_sem]
  refine cSplit (fun h => ?_) (fun h => ?_)
  · simp only [go_sem]
    have := of_decide_eq_true h
    subst this
    simp only [itoa_zero]
  · have hn := of_decide_eq_false h
    have hdl : (digs n.natAbs).length ≤ 21 := by
      unfold Lib.itoa at hlen
      unfold digs
      rw [if_neg (by omega)]
      split at hlen
      · simp only [List.length_cons] at hlen; omega
      · have : n.toNat = n.natAbs := by omega
        rw [this] at hlen; exact hlen
    simp only [go_sem]
    refine LoopK.intro (fun y : Int × List UInt8 => ⟨[.d (.int .i64 y.1), .junk, .d (.str []), .d (.str y.2), .d (.bool (decide (n < 0))), .junk, .junk, .junk, .junk, .junk, .junk, .junk, .junk, .junk, .junk, .junk, .junk, .junk, .junk, .junk, .junk, .junk, .junk, .junk, .junk, .junk, .junk, .junk, .junk, .junk, .junk], []⟩)
      (fun y => y.1.natAbs) (fun y => digs y.1.natAbs ++ y.2 = digs n.natAbs ∧ -9223372036854775808 ≤ y.1 ∧ y.1 ≤ 9223372036854775807) (n, []) [] ⟨by simp, hb⟩ ?_ ?_
    · simp only [go_sem]
    · rintro ⟨m, out⟩ ⟨he, hm0, hm1⟩
      simp only at he hm0 hm1
      simp only [go_sem]
      refine cSplit (fun h1 => ?_) (fun h1 => ?_)
      · have hm : m ≠ 0 := of_decide_eq_true h1
        have hmod : (m.tmod 10).natAbs = m.natAbs % 10 := by rw [Int.natAbs_tmod]; rfl
        have hdiv : (m.tdiv 10).natAbs = m.natAbs / 10 := by rw [Int.natAbs_tdiv]; rfl
        have hst := digs_step m.natAbs (by omega)
        have hol : out.length < 21 := by
          have h5 := congrArg List.length he
          rw [hst] at h5
          simp only [List.length_append, List.length_cons, List.length_nil] at h5
          omega
        have hq : IntKind.i64.wrap (m.tdiv 10) = m.tdiv 10 := by rw [w64] <;> omega
        have hfin : ∀ d : Int, d = (m.natAbs % 10 : Nat) → UInt8.ofNat (IntKind.u8.wrap (IntKind.i64.wrap (48 + d))).toNat = UInt8.ofNat (48 + m.natAbs % 10) := by
          intro d hd
          rw [w64 (by omega) (by omega), w8 (by omega) (by omega)]
          congr 1
          omega
        simp only [go_sem]
        refine cSplit (fun h2 => ?_) (fun h2 => ?_)
        · have hneg := of_decide_eq_true h2
          simp only [go_sem, hq]
          have hw : IntKind.i64.wrap (0 - m.tmod 10) = (m.natAbs % 10 : Nat) := by rw [w64] <;> omega
          rw [hw, hfin _ rfl]
          refine ⟨by simp only [maxLen]; omega, ?_⟩
          refine RoundE.intro (m.tdiv 10, UInt8.ofNat (48 + m.natAbs % 10) :: out) [] ⟨?_, by simp only; omega, by simp only; omega⟩ (show (m.tdiv 10).natAbs < m.natAbs by omega) ?_
          · simp only [hdiv]
            rw [← he, hst]; simp
          · simp [seeE, vsees, vsee, ren, hsees, voks, vok, allOk, kvOk]
        · have hpos := of_decide_eq_false h2
          simp only [go_sem, hq]
          rw [hfin _ (show m.tmod 10 = ((m.natAbs % 10 : Nat) : Int) by omega)]
          refine ⟨by simp only [maxLen]; omega, ?_⟩
          refine RoundE.intro (m.tdiv 10, UInt8.ofNat (48 + m.natAbs % 10) :: out) [] ⟨?_, by simp only; omega, by simp only; omega⟩ (show (m.tdiv 10).natAbs < m.natAbs by omega) ?_
          · simp only [hdiv]
            rw [← he, hst]; simp
          · simp [seeE, vsees, vsee, ren, hsees, voks, vok, allOk, kvOk]
      · have hm : ¬ m ≠ 0 := of_decide_eq_false h1
        have hm : m = 0 := by omega
        subst hm
        have he : out = digs n.natAbs := by simpa [digs] using he
        subst he
        simp only [go_sem]
        refine cSplit (fun h2 => ?_) (fun h2 => ?_)
        · have hneg := of_decide_eq_true h2
          simp only [go_sem]
          have h9 : Lib.itoa n = 45 :: digs n.natAbs := by simp [Lib.itoa, hneg, digs, hn]
          rw [h9]
          refine ⟨by simp only [maxLen]; omega, ?_⟩
          simp [outOA]
        · have hpos := of_decide_eq_false h2
          simp only [go_sem]
          have : n.toNat = n.natAbs := by omega
          simp [Lib.itoa, hpos, digs, hn, this]
end Gv
