/-
  The draws of cells and buffers.
-/
import Derived.Test.YtiaaipckeinbiaaCurN
import Derived.Test.YtiaaipckeinbiaaReadCells
import Derived.Test.YtiaaipckeinbiaaInsS
namespace Gv
open Go Go.Proofs

set_option maxRecDepth 100000 in
set_option maxHeartbeats 4000000 in
theorem l22Cells_inl (bs : List Int) (hm : bs.length ≤ maxLen) (i : Nat) (h : Int) (pre rest : List H) (kv : List V) (n : Nat) (hn : pre.length + (rest.length + 1) = n) (hr : roks n pre ∧ roks n rest) (hkv : voks n kv) (K : V → List H → Prop) (hi : i ≤ bs.length)
    (hk : ∀ (i' : Nat) (h' : Int) (ys : List Int) (off : Nat) (rd : Int), i' ≤ bs.length → off ≤ 1 → ys.length = 64 → K (.agg [.sl n off (64 - off), .d (.int .i64 rd)]) (pre ++ curB bs i' h' :: (rest ++ [.arr 1 (ys.map eI) true]))) : InlCall Try.prog 38 kv (pre ++ curB bs i h :: rest) [.ptr pre.length 0 0] K := by
  have hn' := hn
  have hkv' : ∀ k, n ≤ k → voks k kv := fun k hk => voks_mono hk _ hkv
  have hro3 : ∀ x y z : H, rok (n + 3) x → rok (n + 3) y → rok (n + 3) z → roks (pre.length + ((rest ++ [x, y, z]).length + 1)) pre ∧ roks (pre.length + ((rest ++ [x, y, z]).length + 1)) (rest ++ [x, y, z]) := by
    intro x y z h1 h2 h3
    have e : pre.length + ((rest ++ [x, y, z]).length + 1) = n + 3 := by simp only [List.length_append, List.length_cons, List.length_nil]; omega
    rw [e]
    exact ⟨roks_mono (m := n) (by omega) hr.1, roks_append (roks_mono (m := n) (by omega) hr.2) ⟨h1, h2, h3, trivial⟩⟩
  refine InlCall.see ?_
  refine (inl_ev (n := 44) (rs := [.cell 2 29]) Try.func38 rfl Try.call38 Try.checked.mixed rfl rfl ?_)
  simp only [go_sem, hput_end, hput_endN]
  refine CallS.intro spec_NewCells ?_
  simp only [go_sem, hput_endN, hget_endN]
  refine CallS.inl (l1Below_inl bs hm i h pre (rest ++ [.box [.nils 1, .d (.int .i64 0)], .arr 1 (List.replicate 64 [.int .i64 (-1)]) true, .box [.sl (pre.length + (rest.length + 1 + 1)) 0 64, .d (.int .i64 0)]]) _ 6 (by omega) (by omega) _ hi fun i1 h1 x1 a1 b1 c1 => ?_)
  obtain ⟨k, rfl⟩ := Int.eq_ofNat_of_zero_le b1
  simp only [go_sem]
  refine LoopK.intro (α := Nat × Int × Nat × TCells) (fun y => ⟨[.ptr pre.length 0 0, .junk, .ptr (pre.length + (rest.length + 1)) 0 0, .ptr (pre.length + (rest.length + 2 + 1)) 0 0, .d (.int .i64 y.2.2.1)] ++ List.replicate 39 .junk, pre ++ curB bs y.1 y.2.1 :: (rest ++ [.box [.nils 1, .d (.int .i64 0)], .arr 1 (y.2.2.2.bytes.map eI) true, .box [.sl (pre.length + (rest.length + 1 + 1)) 0 y.2.2.2.bytes.length, .d (.int .i64 y.2.2.2.read)]])⟩)
    (fun y => y.2.2.1) (fun y => y.1 ≤ bs.length ∧ y.2.2.2.bytes.length = 64 ∧ y.2.2.1 ≤ 5) (i1, h1, k, ⟨newC, 0⟩) (List.range n ++ [n, n + 1, n + 2]) ⟨a1, by simp [newC], show k ≤ 5 by omega⟩ ?_ ?_
  · refine see3 (b := 1) (K := 39) (f := fun id => [.sl id 0 newC.length, .d (.int .i64 0)]) hn (by decide) hr hkv rfl rfl rfl ⟨by simp [voks, vok], by simp [vsees, vsee, ren]⟩ ⟨by simp only [voks, vok, and_true]; omega, by simp only [vsees, vsee, ren, (rg3 pre.length rest.length n 1 hn).2.2.1, and_self]⟩ rfl rfl
  · rintro ⟨i2, h2, m, c⟩ ⟨hi2, hs, hm5⟩
    simp only at hs hm5
    simp only [List.replicate, List.cons_append, List.nil_append]
    simp only [go_sem]
    refine cSplit (fun q => ?_) (fun q => ?_)
    · have hn := of_decide_eq_true q
      simp only [go_sem]
      refine CallS.inl (l1Below_inl bs hm i2 h2 pre (rest ++ [.box [.nils 1, .d (.int .i64 0)], .arr 1 (c.bytes.map eI) true, .box [.sl (pre.length + (rest.length + 1 + 1)) 0 c.bytes.length, .d (.int .i64 c.read)]]) _ 14 (by omega) (by omega) _ hi2 fun i3 h3 x3 a3 b3 c3 => ?_)
      simp only [go_sem]
      refine drawX_cut (fun σ' => ∃ (i4 : Nat) (h4 : Int) (c' : TCells) (t15 t16 t17 t18 t19 : V) (z : H), i4 ≤ bs.length ∧ c'.bytes.length = 64 ∧ σ' = ⟨[.ptr pre.length 0 0, .junk, .ptr (pre.length + (rest.length + 1)) 0 0, .ptr (pre.length + (rest.length + 2 + 1)) 0 0, .d (.int .i64 m), .d (.int .i64 x3), .junk, .junk, .junk, .d (.int .i64 m), .d (.bool (decide (0 < (m : Int)))), .junk, .junk, .ptr pre.length 0 0, .d (.int .i64 x3), t15, t16, t17, t18, t19, .junk, .junk, .junk, .junk, .junk, .junk, .junk, .junk, .junk, .junk, .junk, .junk, .junk, .junk, .junk, .junk, .junk, .junk, .junk, .junk, .junk, .junk, .junk, .junk], pre ++ curB bs i4 h4 :: (rest ++ [.box [.nils 1, .d (.int .i64 0)], z, .box [.sl (pre.length + (rest.length + 3 + 1)) 0 c'.bytes.length, .d (.int .i64 c'.read)], .arr 1 (c'.bytes.map eI) true])⟩) ?_ ?_
      · repeat' (first
          | exact allE_nil
          | (refine allE_cons ?_ ?_)
          | (refine exE_step rfl ?_)
          | (refine CallS.inl (l4Data_inl bs hm i3 h3 pre (rest ++ [.box [.nils 1, .d (.int .i64 0)], .arr 1 (c.bytes.map eI) true, .box [.sl (pre.length + (rest.length + 1 + 1)) 0 c.bytes.length, .d (.int .i64 c.read)]]) _ 5 (hro3 _ _ _ (by simp [rok, voks, vok]) (by simp [rok]) (by simp [rok, voks, vok]; omega)) (by
              simp only [List.length_append, List.length_cons, List.length_nil, List.cons_append, List.nil_append, voks, vok, true_and, and_true]
              have hq := hkv' (pre.length + (rest.length + (0 + 1 + 1 + 1) + 1)) (by omega)
              simp only [hq, and_true]
              omega) (by omega) _ a3 fun i4 h4 s a4 b4 => ?_))
          | (refine CallS.intro (spec_PutCells c x3 _ (by omega) (by omega)) ?_)
          | (refine exE_end rfl ?_)
          | (simp only [go_sem, hput_endN, hget_endN, setD, List.length_map]))
        all_goals exact ⟨i4, h4, putCells c x3 s, _, _, _, _, _, _, a4, (putCells_len c x3 s).trans hs, rfl⟩
      · rintro _ ⟨i4, h4, c', t15, t16, t17, t18, t19, z, a4, hl4, rfl⟩
        have hwm : IntKind.i64.wrap ((m : Int) - 1) = ((m - 1 : Nat) : Int) := by rw [w64] <;> omega
        simp only [go_sem]
        refine CallS.inl (l1Once_inl bs hm i4 h4 pre (rest ++ [.box [.nils 1, .d (.int .i64 0)], z, .box [.sl (pre.length + (rest.length + 3 + 1)) 0 c'.bytes.length, .d (.int .i64 c'.read)], .arr 1 (c'.bytes.map eI) true]) _ 4 (by omega) (by omega) _ a4 fun i5 h5 b a5 => ?_)
        simp only [go_sem]
        refine cSplit (fun q => ?_) (fun q => ?_)
        · simp only [go_sem]
          refine drawX_cut (fun σ' => ∃ (i6 : Nat) (h6 : Int) (c6 : TCells) (u15 u16 u17 u18 u19 u20 u21 u22 u23 u24 u25 u26 u27 u28 : V) (z3 : H), i6 ≤ bs.length ∧ c6.bytes.length = 64 ∧ σ' = ⟨[.ptr pre.length 0 0, .junk, .ptr (pre.length + (rest.length + 1)) 0 0, .ptr (pre.length + (rest.length + 2 + 1)) 0 0, .d (.int .i64 m), .d (.int .i64 x3), .junk, .junk, .junk, .d (.int .i64 m), .d (.bool (decide (0 < (m : Int)))), .junk, .junk, .ptr pre.length 0 0, .d (.int .i64 x3), u15, u16, u17, u18, u19, u20, u21, u22, u23, u24, u25, u26, u27, u28, .junk, .junk, .junk, .junk, .junk, .junk, .junk, .junk, .junk, .junk, .junk, .junk, .junk, .junk, .junk], pre ++ curB bs i6 h6 :: (rest ++ [.box [.nils 1, .d (.int .i64 0)], z, .box [.sl (pre.length + (rest.length + 4 + 1)) 0 c6.bytes.length, .d (.int .i64 c6.read)], z3, .arr 1 (c6.bytes.map eI) true])⟩) ?_ ?_
          · repeat' (first
              | exact allE_nil
              | (refine allE_cons ?_ ?_)
              | (refine exE_step rfl ?_)
              | (refine CallS.inl (l1Below_inl bs hm i5 h5 pre (rest ++ [.box [.nils 1, .d (.int .i64 0)], z, .box [.sl (pre.length + (rest.length + 3 + 1)) 0 c'.bytes.length, .d (.int .i64 c'.read)], .arr 1 (c'.bytes.map eI) true]) _ 4 (by omega) (by omega) _ a5 fun i6 h6 x6 a6 b6 c6 => ?_))
              | (refine CallS.intro (spec_ReadCells c' _ (by omega)) ?_)
              | (refine exE_end rfl ?_)
              | (simp only [go_sem, hput_endN, hget_endN, setD, List.length_map]))
            all_goals exact ⟨i6, h6, readC c' x6, _, _, _, _, _, _, _, _, _, _, _, _, _, _, _, a6, (readC_len c' x6).trans hl4, rfl⟩
          · rintro _ ⟨i6, h6, c6, u15, u16, u17, u18, u19, u20, u21, u22, u23, u24, u25, u26, u27, u28, z3, a6, hl6, rfl⟩
            simp only [go_sem, hwm]
            refine RoundE.intro (i6, h6, m - 1, c6) (List.range n ++ [n, n + 4, n + 2]) ⟨a6, hl6, show m - 1 ≤ 5 by omega⟩ (show m - 1 < m by omega) ?_
            refine see3 (b := 4) (K := 39) (f := fun id => [.sl id 0 c6.bytes.length, .d (.int .i64 c6.read)]) hn' (by decide) hr hkv rfl rfl rfl ⟨by simp [voks, vok], by simp [vsees, vsee, ren]⟩ ⟨by simp only [voks, vok, and_true]; omega, by simp only [vsees, vsee, ren, (rg3 pre.length rest.length n 4 hn').2.2.1, and_self]⟩ rfl rfl
        · simp only [go_sem, hwm]
          refine RoundE.intro (i5, h5, m - 1, c') (List.range n ++ [n, n + 3, n + 2]) ⟨a5, hl4, show m - 1 ≤ 5 by omega⟩ (show m - 1 < m by omega) ?_
          refine see3 (b := 3) (K := 39) (f := fun id => [.sl id 0 c'.bytes.length, .d (.int .i64 c'.read)]) hn' (by decide) hr hkv rfl rfl rfl ⟨by simp [voks, vok], by simp [vsees, vsee, ren]⟩ ⟨by simp only [voks, vok, and_true]; omega, by simp only [vsees, vsee, ren, (rg3 pre.length rest.length n 3 hn').2.2.1, and_self]⟩ rfl rfl
    · simp only [go_sem]
      refine CallS.inl (l1Below_inl bs hm i2 h2 pre (rest ++ [.box [.nils 1, .d (.int .i64 0)], .arr 1 (c.bytes.map eI) true, .box [.sl (pre.length + (rest.length + 1 + 1)) 0 c.bytes.length, .d (.int .i64 c.read)]]) _ 14 (by omega) (by omega) _ hi2 fun i3 h3 x3 a3 b3 c3 => ?_)
      simp only [go_sem]
      have fin : ∀ (i' : Nat) (h' : Int) (off : Nat) (rd : Int) (b0 b2 : H) (ex : List H), i' ≤ bs.length → off ≤ 1 → SeeX kv K (.agg [.sl (pre.length + (rest.length + 1 + 1)) off (64 - off), .d (.int .i64 rd)]) (pre ++ curB bs i' h' :: (rest ++ (b0 :: .arr 1 (c.bytes.map eI) true :: b2 :: ex))) := by
        intro i' h' off rd b0 b2 ex hi' ho
        subst hn'
        refine ⟨List.range (pre.length + (rest.length + 1)) ++ [pre.length + (rest.length + 1) + 1], .agg [.sl (pre.length + (rest.length + 1)) off (64 - off), .d (.int .i64 rd)], pre ++ curB bs i' h' :: (rest ++ [.arr 1 (c.bytes.map eI) true]), ?_, hk i' h' c.bytes off rd hi' ho hs⟩
        exact see_cur1 1 rfl trivial hr hkv (by simp only [vsees, vsee, ren, rens, rangeA1, and_true]; congr 3) (by simp [voks, vok])
      refine cSplit (fun q1 => ?_) (fun q1 => ?_)
      · simp only [go_sem, hput_endN, hget_endN]
        refine CallS.inl (l1PickInt_inl bs hm i3 h3 pre (rest ++ [.box [.nils 1, .d (.int .i64 0)], .arr 1 (c.bytes.map eI) true, .box [.sl (pre.length + (rest.length + 1 + 1)) 0 c.bytes.length, .d (.int .i64 c.read)], .arr 1 ([-1, 5, 64, 65].map eI) true]) _ (rest.length + 3) [-1, 5, 64, 65] (by rw [hget_endN]; rfl) (by decide) (by decide) _ a3 fun i4 h4 x4 a4 b4 => ?_)
        simp only [go_sem, hput_endN, hget_endN, hget_end0, hput_end0]
        rw [hs]
        exact fin i4 h4 0 x4 _ _ _ a4 (by omega)
      · simp only [go_sem]
        refine cSplit (fun q2 => ?_) (fun q2 => ?_)
        · simp only [go_sem, hput_endN, hget_endN, hget_end0, hput_end0, List.length_map]
          refine ⟨by omega, ?_⟩
          rw [hs]
          exact fin i3 h3 1 _ _ _ [] a3 (by omega)
        · simp only [go_sem, hput_endN, hget_endN, hget_end0, hput_end0]
          rw [hs]
          exact fin i3 h3 0 _ _ _ [] a3 (by omega)
end Gv
