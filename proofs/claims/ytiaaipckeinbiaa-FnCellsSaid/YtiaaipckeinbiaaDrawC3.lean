/-
  The draws of cells: the functions of the laws.
-/
import Derived.Test.YtiaaipckeinbiaaDrawC
import Derived.Test.YtiaaipckeinbiaaNd
namespace Gv
open Go Go.Proofs

set_option maxRecDepth 100000 in
set_option maxHeartbeats 4000000 in
theorem DrawReadCells_nd (bs : List Int) : NdCall Try.prog 17 [.one (.sl 1 (bs.map eU8))] (fun rs => ∃ (c : TCells) (o : Int), c.bytes.length ≤ 64 ∧ rs = [.agg [.sl 1 (c.bytes.map eI), .int .i64 c.read], .one (.int .i64 o)]) := by
  refine nd_ev Try.func17 rfl Try.call17 Try.checked.mixed ([.d (.sl 1 (bs.map eU8))] ++ List.replicate 13 .junk) rfl [.cell 2 29, .tmp 3] rfl ?_
  intro ok
  have hm := len_of ok
  simp only [List.replicate, List.cons_append, List.nil_append]
  simp only [go_sem]
  refine CallS.inl (l1New_inl bs hm [.box [.nils 1, .d (.int .i64 0)]] _ (by simp [roks, rok, voks, vok]) (by simp [voks, vok]) _ fun h1 => ?_)
  simp only [go_sem]
  refine CallS.inl (l22Cells_inl bs hm 0 h1 [.box [.nils 1, .d (.int .i64 0)]] [] _ 2 rfl (by simp [roks, rok, voks, vok]) (by simp [voks, vok]) _ (by omega) fun i2 h2 ys off rd a2 ho hy => ?_)
  simp only [go_sem]
  refine drawX_cut (fun σ' => ∃ (i3 : Nat) (h3 x3 : Int) (u4 u5 u6 u7 u8 u9 u10 u11 u12 u13 : V) (z1 z2 : H), σ' = ⟨[.d (.sl 1 (bs.map eU8)), .junk, .ptr 0 0 0, .d (.int .i64 x3), u4, u5, u6, u7, u8, u9, u10, u11, u12, u13], [.box [.sl 2 off (64 - off), .d (.int .i64 rd)], z1, .arr 1 (ys.map eI) true, z2]⟩) ?_ ?_
  · repeat' (first
      | exact allE_nil
      | (refine allE_cons ?_ ?_)
      | (refine exE_step rfl ?_)
      | (refine CallS.inl (l1Below_inl bs hm i2 h2 [.box [.nils 1, .d (.int .i64 0)]] [.arr 1 (ys.map eI) true, .box [.sl 2 off (64 - off), .d (.int .i64 rd)]] _ 9 (by omega) (by omega) _ a2 fun i3 h3 x3 a3 b3 c3 => ?_))
      | (refine exE_end rfl ?_)
      | (simp only [go_sem, setD]))
    all_goals exact ⟨i3, h3, IntKind.i64.wrap (x3 - 1), _, _, _, _, _, _, _, _, _, _, _, _, rfl⟩
  · rintro _ ⟨i3, h3, x3, u4, u5, u6, u7, u8, u9, u10, u11, u12, u13, z1, z2, rfl⟩
    simp only [go_sem]
    refine ⟨_, ⟨⟨ys.drop off, rd⟩, x3, by simp only [List.length_drop]; omega, rfl⟩, ?_⟩
    simp only [go_sem]
    have hoo : off + (64 - off) ≤ 64 := by omega
    simp [outOA, List.take_of_length_le, hy, hoo]

set_option maxRecDepth 100000 in
set_option maxHeartbeats 4000000 in
theorem DrawPutCells_nd (bs : List Int) : NdCall Try.prog 16 [.one (.sl 1 (bs.map eU8))] (fun rs => ∃ (c : TCells) (o : Int) (s : List UInt8), c.bytes.length ≤ 64 ∧ s.length ≤ 6 ∧ rs = [.agg [.sl 1 (c.bytes.map eI), .int .i64 c.read], .one (.int .i64 o), .one (.str s)]) := by
  refine nd_ev Try.func16 rfl Try.call16 Try.checked.mixed ([.d (.sl 1 (bs.map eU8))] ++ List.replicate 18 .junk) rfl [.cell 2 29, .tmp 3, .tmp 4] rfl ?_
  intro ok
  have hm := len_of ok
  simp only [List.replicate, List.cons_append, List.nil_append]
  simp only [go_sem]
  refine CallS.inl (l1New_inl bs hm [.box [.nils 1, .d (.int .i64 0)]] _ (by simp [roks, rok, voks, vok]) (by simp [voks, vok]) _ fun h1 => ?_)
  simp only [go_sem]
  refine CallS.inl (l22Cells_inl bs hm 0 h1 [.box [.nils 1, .d (.int .i64 0)]] [] _ 2 rfl (by simp [roks, rok, voks, vok]) (by simp [voks, vok]) _ (by omega) fun i2 h2 ys off rd a2 ho hy => ?_)
  simp only [go_sem]
  refine CallS.inl (l1PickInt_inl bs hm i2 h2 [.box [.nils 1, .d (.int .i64 0)]] [.arr 1 (ys.map eI) true, .box [.sl 2 off (64 - off), .d (.int .i64 rd)], .arr 1 ([-1, 0, 3, 7, 9, 60, 64].map eI) true] _ 2 [-1, 0, 3, 7, 9, 60, 64] rfl (by decide) (by decide) _ a2 fun i3 h3 x3 a3 b3 => ?_)
  simp only [go_sem]
  refine drawX_cut (fun σ' => ∃ (i4 : Nat) (h4 : Int) (s : List UInt8) (u5 u6 u7 u8 u9 u10 u11 u12 u13 u14 u15 u16 u17 u18 : V) (z1 z2 z3 : H), s.length ≤ 6 ∧ σ' = ⟨[.d (.sl 1 (bs.map eU8)), .junk, .ptr 0 0 0, .d (.int .i64 x3), .d (.str s), u5, u6, u7, u8, u9, u10, u11, u12, u13, u14, u15, u16, u17, u18], [.box [.sl 2 off (64 - off), .d (.int .i64 rd)], z1, .arr 1 (ys.map eI) true, z2, z3]⟩) ?_ ?_
  · repeat' (first
      | exact allE_nil
      | (refine allE_cons ?_ ?_)
      | (refine exE_step rfl ?_)
      | (refine CallS.inl (l4Data_inl bs hm i3 h3 [.box [.nils 1, .d (.int .i64 0)]] [.arr 1 (ys.map eI) true, .box [.sl 2 off (64 - off), .d (.int .i64 rd)], .arr 1 ([-1, 0, 3, 7, 9, 60, 64].map eI) true] _ 6 (by simp [roks, rok, voks, vok]) (by simp [voks, vok]) (by omega) _ a3 fun i4 h4 s a4 b4 => ?_))
      | (refine exE_end rfl ?_)
      | (simp only [go_sem, setD]))
    all_goals exact ⟨i4, h4, s, _, _, _, _, _, _, _, _, _, _, _, _, _, _, _, _, _, b4, rfl⟩
  · rintro _ ⟨i4, h4, s, u5, u6, u7, u8, u9, u10, u11, u12, u13, u14, u15, u16, u17, u18, z1, z2, z3, hs, rfl⟩
    simp only [go_sem]
    refine ⟨_, ⟨⟨ys.drop off, rd⟩, x3, s, by simp only [List.length_drop]; omega, hs, rfl⟩, ?_⟩
    simp only [go_sem]
    have hoo : off + (64 - off) ≤ 64 := by omega
    simp [outOA, List.take_of_length_le, hy, hoo]
end Gv

/-
  The draws of two cells.
-/
namespace Gv
open Go Go.Proofs

set_option maxRecDepth 100000 in
set_option maxHeartbeats 4000000 in
theorem DrawEqualCells_nd (bs : List Int) : NdCall Try.prog 21 [.one (.sl 1 (bs.map eU8))] (fun rs => ∃ (c d : TCells), c.bytes.length ≤ 64 ∧ d.bytes.length ≤ 64 ∧ rs = [.agg [.sl 1 (c.bytes.map eI), .int .i64 c.read], .agg [.sl 1 (d.bytes.map eI), .int .i64 d.read]]) := by
  refine nd_ev Try.func21 rfl Try.call21 Try.checked.mixed ([.d (.sl 1 (bs.map eU8))] ++ List.replicate 17 .junk) rfl [.cell 2 29, .cell 3 29] rfl ?_
  intro ok
  have hm := len_of ok
  simp only [List.replicate, List.cons_append, List.nil_append]
  simp only [go_sem]
  refine CallS.inl (l1New_inl bs hm [.box [.nils 1, .d (.int .i64 0)], .box [.nils 1, .d (.int .i64 0)]] _ (by simp [roks, rok, voks, vok]) (by simp [voks, vok]) _ fun h1 => ?_)
  simp only [go_sem]
  refine CallS.inl (l22Cells_inl bs hm 0 h1 [.box [.nils 1, .d (.int .i64 0)], .box [.nils 1, .d (.int .i64 0)]] [] _ 3 rfl (by simp [roks, rok, voks, vok]) (by simp [voks, vok]) _ (by omega) fun i2 h2 ys off rd a2 ho hy => ?_)
  simp only [go_sem]
  have hoo : off + (64 - off) ≤ 64 := by omega
  have htk : List.take (64 - off) (List.drop off (List.map eI ys)) = (ys.drop off).map eI := by
    rw [List.take_of_length_le (by simp; omega), List.map_drop]
  refine CallS.inl (l1Once_inl bs hm i2 h2 [.box [.nils 1, .d (.int .i64 0)], .box [.nils 1, .d (.int .i64 0)]] [.arr 1 (ys.map eI) true, .box [.sl 3 off (64 - off), .d (.int .i64 rd)]] _ 2 (by omega) (by omega) _ a2 fun i3 h3 b a3 => ?_)
  simp only [go_sem]
  refine cSplit (fun q => ?_) (fun q => ?_)
  · simp only [go_sem]
    refine drawX_cut (fun σ' => ∃ (d : TCells) (u4 u5 u6 u7 u8 u9 u10 u11 u12 u13 u14 u15 u16 u17 : V) (z1 z2 : H), d.bytes.length ≤ 64 ∧ σ' = ⟨[.d (.sl 1 (bs.map eU8)), .junk, .ptr 0 0 0, .ptr 1 0 0, u4, u5, u6, u7, u8, u9, u10, u11, u12, u13, u14, u15, u16, u17], [.box [.sl 3 off (64 - off), .d (.int .i64 rd)], .box [.sl 5 0 d.bytes.length, .d (.int .i64 d.read)], z1, .arr 1 (ys.map eI) true, z2, .arr 1 (d.bytes.map eI) true]⟩) ?_ ?_
    · repeat' (first
        | exact allE_nil
        | (refine allE_cons ?_ ?_)
        | (refine exE_step rfl ?_)
        | (refine CallS.intro (spec_l22Copy (ys.drop off) rd (by simp; omega)) ?_)
        | (refine exE_end rfl ?_)
        | (simp only [go_sem, List.length_map, hy, hoo, htk, if_true]))
      all_goals exact ⟨⟨ys.drop off, rd⟩, _, _, _, _, _, _, _, _, _, _, _, _, _, _, _, _, (by simp only [List.length_drop]; omega), rfl⟩
    · rintro _ ⟨d, u4, u5, u6, u7, u8, u9, u10, u11, u12, u13, u14, u15, u16, u17, z1, z2, hd, rfl⟩
      simp only [go_sem]
      refine ⟨_, ⟨⟨ys.drop off, rd⟩, d, by simp only [List.length_drop]; omega, hd, rfl⟩, ?_⟩
      simp only [go_sem]
      simp [outOA, List.take_of_length_le, hy, hoo]
  · simp only [go_sem]
    refine drawX_cut (fun σ' => ∃ (i4 : Nat) (h4 : Int) (zs : List Int) (of2 : Nat) (rd2 : Int) (u4 u5 u6 u7 u8 u9 u10 u11 u12 u13 u14 u15 u16 u17 : V) (z1 z2 : H), of2 ≤ 1 ∧ zs.length = 64 ∧ σ' = ⟨[.d (.sl 1 (bs.map eU8)), .junk, .ptr 0 0 0, .ptr 1 0 0, u4, u5, u6, u7, u8, u9, u10, u11, u12, u13, u14, u15, u16, u17], [.box [.sl 3 off (64 - off), .d (.int .i64 rd)], .box [.sl 5 of2 (64 - of2), .d (.int .i64 rd2)], z1, .arr 1 (ys.map eI) true, z2, .arr 1 (zs.map eI) true]⟩) ?_ ?_
    · repeat' (first
        | exact allE_nil
        | (refine allE_cons ?_ ?_)
        | (refine exE_step rfl ?_)
        | (refine CallS.inl (l22Cells_inl bs hm i3 h3 [.box [.nils 1, .d (.int .i64 0)], .box [.nils 1, .d (.int .i64 0)]] [.arr 1 (ys.map eI) true, .box [.sl 3 off (64 - off), .d (.int .i64 rd)]] _ 5 rfl (by simp [roks, rok, voks, vok]) (by simp [voks, vok]) _ a3 fun i4 h4 zs of2 rd2 a4 ho4 hy4 => ?_))
        | (refine exE_end rfl ?_)
        | (simp only [go_sem, setD]))
      all_goals exact ⟨i4, h4, zs, of2, rd2, _, _, _, _, _, _, _, _, _, _, _, _, _, _, _, _, ho4, hy4, rfl⟩
    · rintro _ ⟨i4, h4, zs, of2, rd2, u4, u5, u6, u7, u8, u9, u10, u11, u12, u13, u14, u15, u16, u17, z1, z2, ho4, hy4, rfl⟩
      simp only [go_sem]
      refine ⟨_, ⟨⟨ys.drop off, rd⟩, ⟨zs.drop of2, rd2⟩, by simp only [List.length_drop]; omega, by simp only [List.length_drop]; omega, rfl⟩, ?_⟩
      simp only [go_sem]
      have hoo2 : of2 + (64 - of2) ≤ 64 := by omega
      simp [outOA, List.take_of_length_le, hy, hy4, hoo, hoo2]
end Gv
