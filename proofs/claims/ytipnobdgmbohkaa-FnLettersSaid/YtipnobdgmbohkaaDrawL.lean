/-
  The draws of letters.
-/
import Derived.Test.YtipnobdgmbohkaaCurFn
import Derived.Test.YtipnobdgmbohkaaLetters2
namespace Gv
open Go Go.Proofs

set_option maxRecDepth 100000 in
theorem l25Letters_inl (bs : List Int) (hm : bs.length ≤ maxLen) (i : Nat) (h : Int) (pre rest : List H) (kv : List V) (hr : roks (pre.length + (rest.length + 1)) pre ∧ roks (pre.length + (rest.length + 1)) rest) (hkv : voks (pre.length + (rest.length + 1)) kv) (K : V → List H → Prop) (hi : i ≤ bs.length)
    (hk : ∀ (i' : Nat) (h' : Int) (xs : List TLetter), i' ≤ bs.length → xs.length ≤ 5 → K (.sl (pre.length + (rest.length + 1)) 0 xs.length) (pre ++ curB bs i' h' :: (rest ++ [.arr 2 (xs.map TLetter.enc) true]))) : InlCall Try.prog 23 kv (pre ++ curB bs i h :: rest) [.ptr pre.length 0 0] K := by
  refine InlCall.see ?_
  refine (inl_ev (n := 33) (rs := [.tmp 2]) Try.func23 rfl Try.call23 Try.checked.mixed rfl rfl ?_)
  simp only [go_sem, hput_end, hput_endN]
  refine CallS.inl (l1Below_inl bs hm i h pre (rest ++ [.arr 2 [] true]) _ 5 (by omega) (by omega) _ hi fun i1 h1 x1 a1 b1 c1 => ?_)
  obtain ⟨k, rfl⟩ := Int.eq_ofNat_of_zero_le b1
  simp only [go_sem]
  refine LoopK.intro (α := Nat × Int × Nat × List TLetter) (fun y => ⟨[.ptr pre.length 0 0, .junk, .nils 2, .sl (pre.length + (rest.length + 1)) 0 y.2.2.2.length, .d (.int .i64 y.2.2.1), .junk, .junk, .junk, .junk, .junk, .junk, .junk, .junk, .junk, .junk, .junk, .junk, .junk, .junk, .junk, .junk, .junk, .junk, .junk, .junk, .junk, .junk, .junk, .junk, .junk, .junk, .junk, .junk], pre ++ curB bs y.1 y.2.1 :: (rest ++ [.arr 2 (y.2.2.2.map TLetter.enc) true])⟩)
    (fun y => y.2.2.1) (fun y => y.1 ≤ bs.length ∧ y.2.2.1 + y.2.2.2.length ≤ 4) (i1, h1, k, []) (List.range (pre.length + (rest.length + 1)) ++ [pre.length + (rest.length + 1) + 0]) ⟨a1, by simp; omega⟩ ?_ ?_
  · exact see_cur1 0 rfl trivial hr hkv (by simp only [vsees, vsee, ren, rangeAP, rangeA1, and_self, Nat.add_zero, List.length_nil]) (by simp [voks, vok]; omega)
  · rintro ⟨i2, h2, n, xs⟩ ⟨hi2, hs⟩
    simp only at hs
    simp only [go_sem]
    refine cSplit (fun q => ?_) (fun q => ?_)
    · have hn := of_decide_eq_true q
      simp only [go_sem]
      refine CallS.inl (l1Below_inl bs hm i2 h2 pre (rest ++ [.arr 2 (xs.map TLetter.enc) true]) _ 6 (by omega) (by omega) _ hi2 fun i3 h3 x3 a3 b3 c3 => ?_)
      simp only [go_sem]
      refine CallS.inl (l4Data_inl bs hm i3 h3 pre (rest ++ [.arr 2 (xs.map TLetter.enc) true]) _ 3 ?_ ?_ (by omega) _ a3 fun i4 h4 s a4 b4 => ?_)
      · simp only [List.length_append, List.length_cons, List.length_nil]
        exact ⟨roks_mono (m := pre.length + (rest.length + 1)) (by omega) hr.1, roks_append (roks_mono (m := pre.length + (rest.length + 1)) (by omega) hr.2) ⟨trivial, trivial⟩⟩
      · simp only [List.length_append, List.length_cons, List.length_nil, List.cons_append, List.nil_append, voks, vok, true_and]
        have hle : pre.length + (rest.length + 1) ≤ pre.length + (rest.length + (0 + 1) + 1) := by omega
        simp only [voks_mono hle _ hkv, and_true]
        omega
      have ne1 : (pre.length + (rest.length + 1) = pre.length + (rest.length + 1 + 1)) = False := by simp
      have ne2 : (pre.length + (rest.length + 1 + 1) != pre.length + (rest.length + 1)) = true := by simp
      simp only [go_sem, hput_endN, hget_endN, hget_end0, hput_end0, ne1, ne2, List.length_map]
      refine ⟨by simp only [maxLen]; omega, by omega, ?_⟩
      rw [w64 (n := (n : Int) - 1) (by omega) (by omega)]
      refine RoundE.intro (i4, h4, n - 1, xs ++ [⟨x3, 97 :: s⟩]) (List.range (pre.length + (rest.length + 1)) ++ [pre.length + (rest.length + 1) + 2]) ⟨a4, by simp only [List.length_append, List.length_cons, List.length_nil]; omega⟩ (show n - 1 < n by omega) ?_
      have e : ((n - 1 : Nat) : Int) = (n : Int) - 1 := by omega
      simp only [e, List.map_append, List.map_cons, List.map_nil, TLetter.enc]
      have e2 : pre.length + (rest.length + 2 + 1) = pre.length + (rest.length + 1) + 2 := by omega
      rw [e2]
      refine see_cur1 2 rfl trivial hr hkv (by simp only [vsees, vsee, ren, rangeAP, rangeA1, and_self, List.length_append, List.length_cons, List.length_nil, Nat.zero_add]) (by simp [voks, vok]; omega)
    · simp only [go_sem]
      refine CallS.inl (l1Once_inl bs hm i2 h2 pre (rest ++ [.arr 2 (xs.map TLetter.enc) true]) _ 14 (by omega) (by omega) _ hi2 fun i3 h3 b a3 => ?_)
      simp only [go_sem]
      refine cSplit (fun q => ?_) (fun q => ?_)
      · simp only [go_sem, hput_endN, hget_endN]
        refine CallS.inl (l1PickInt_inl bs hm i3 h3 pre (rest ++ [.arr 2 (xs.map TLetter.enc) true, .arr 1 ([-1, 1000000].map eI) true]) _ (rest.length + 1) [-1, 1000000] (by rw [hget_endN]; rfl) (by decide) (by decide) _ a3 fun i4 h4 x a4 b4 => ?_)
        have ne1 : (pre.length + (rest.length + 1) = pre.length + (rest.length + 2 + 1)) = False := by simp
        have ne2 : (pre.length + (rest.length + 2 + 1) != pre.length + (rest.length + 1)) = true := by simp
        simp only [go_sem, hput_endN, hget_endN, hget_end0, hput_end0, ne1, ne2, List.length_map]
        refine ⟨by omega, ?_⟩
        have e2 : pre.length + (rest.length + 3 + 1) = pre.length + (rest.length + 1) + 3 := by omega
        rw [e2]
        refine ⟨List.range (pre.length + (rest.length + 1)) ++ [pre.length + (rest.length + 1) + 3], .sl (pre.length + (rest.length + 1)) 0 (xs.length + 1), pre ++ curB bs i4 h4 :: (rest ++ [.arr 2 (xs.map TLetter.enc ++ [[.int .i64 x, .str []]]) true]), ?_, ?_⟩
        · exact see_cur1 3 rfl trivial hr hkv (by simp only [vsees, vsee, ren, rangeA1, and_self]) (by simp [voks, vok])
        have := hk i4 h4 (xs ++ [⟨x, []⟩]) a4 (by simp only [List.length_append, List.length_cons, List.length_nil]; omega)
        simpa [TLetter.enc] using this
      · simp only [go_sem]
        refine ⟨List.range (pre.length + (rest.length + 1)) ++ [pre.length + (rest.length + 1) + 0], .sl (pre.length + (rest.length + 1)) 0 xs.length, pre ++ curB bs i3 h3 :: (rest ++ [.arr 2 (xs.map TLetter.enc) true]), ?_, ?_⟩
        · exact see_cur1 0 rfl trivial hr hkv (by simp only [vsees, vsee, ren, rangeA1, and_self, Nat.add_zero]) (by simp [voks, vok])
        exact hk _ _ _ a3 (by omega)


theorem roks_nil (m : Nat) : roks m [] := trivial
set_option maxRecDepth 100000 in
theorem DrawPutLetter_nd (bs : List Int) : NdCall Try.prog 5 [.one (.sl 1 (bs.map eU8))] (fun rs => ∃ (xs : List TLetter) (x : TLetter), xs.length ≤ 5 ∧ rs = [.one (.sl 2 (xs.map TLetter.enc)), .agg (TLetter.enc x)]) := by
  refine nd_ev Try.func5 rfl Try.call5 Try.checked.mixed [.d (.sl 1 (bs.map eU8)), .junk, .junk, .junk, .junk, .junk, .junk, .junk, .junk, .junk, .junk, .junk, .junk, .junk, .junk, .junk] rfl [.tmp 2, .cell 3 26] rfl ?_
  intro ok
  have hm := len_of ok
  simp only [go_sem]
  refine CallS.inl (l1New_inl bs hm [.box [.d (.int .i64 0), .d (.str [])]] _ (by simp [roks, rok, voks, vok]) (by simp [voks, vok]) _ fun h1 => ?_)
  simp only [go_sem]
  refine CallS.inl (l25Letters_inl bs hm 0 h1 [.box [.d (.int .i64 0), .d (.str [])]] [] _ (by simp [roks, rok, voks, vok]) (by simp [voks, vok]) _ (by omega) fun i2 h2 xs a2 b2 => ?_)
  simp only [go_sem]
  refine CallS.inl (l1Below_inl bs hm i2 h2 [.box [.d (.int .i64 0), .d (.str [])]] [.arr 2 (xs.map TLetter.enc) true] _ 9 (by omega) (by omega) _ a2 fun i3 h3 x3 a3 b3 c3 => ?_)
  simp only [go_sem]
  refine CallS.inl (l4Data_inl bs hm i3 h3 [.box [.d (.int .i64 0), .d (.str [])]] [.arr 2 (xs.map TLetter.enc) true] _ 4 (by simp [roks, rok, voks, vok]) (by simp [voks, vok]) (by omega) _ a3 fun i4 h4 s a4 b4 => ?_)
  simp only [go_sem]
  refine ⟨_, ⟨xs, ⟨x3, s⟩, b2, rfl⟩, ?_⟩
  simp only [go_sem, TLetter.enc]
  simp [outOA]

set_option maxRecDepth 100000 in
theorem DrawTakeLetter_nd (bs : List Int) : NdCall Try.prog 8 [.one (.sl 1 (bs.map eU8))] (fun rs => ∃ (xs : List TLetter) (k : Int), xs.length ≤ 5 ∧ rs = [.one (.sl 2 (xs.map TLetter.enc)), .one (.int .i64 k)]) := by
  refine nd_ev Try.func8 rfl Try.call8 Try.checked.mixed [.d (.sl 1 (bs.map eU8)), .junk, .junk, .junk, .junk, .junk, .junk, .junk, .junk, .junk, .junk, .junk, .junk, .junk] rfl [.tmp 2, .tmp 3] rfl ?_
  intro ok
  have hm := len_of ok
  simp only [go_sem]
  refine CallS.inl (l1New_inl bs hm [] _ (by simp [roks]) (by simp [voks, vok]) _ fun h1 => ?_)
  simp only [go_sem]
  refine CallS.inl (l25Letters_inl bs hm 0 h1 [] [] _ (by simp [roks]) (by simp [voks, vok]) _ (by omega) fun i2 h2 xs a2 b2 => ?_)
  simp only [go_sem]
  refine CallS.inl (l1Below_inl bs hm i2 h2 [] [.arr 2 (xs.map TLetter.enc) true] _ 7 (by omega) (by omega) _ a2 fun i3 h3 x3 a3 b3 c3 => ?_)
  simp only [go_sem]
  refine ⟨_, ⟨xs, IntKind.i64.wrap (x3 - 1), b2, rfl⟩, ?_⟩
  simp only [go_sem]
  simp [outOA]

set_option maxRecDepth 100000 in
theorem DrawAreLetters_nd (bs : List Int) : NdCall Try.prog 16 [.one (.sl 1 (bs.map eU8))] (fun rs => ∃ (xs : List TLetter), xs.length ≤ 5 ∧ rs = [.one (.sl 2 (xs.map TLetter.enc))]) := by
  refine nd_ev Try.func16 rfl Try.call16 Try.checked.mixed [.d (.sl 1 (bs.map eU8)), .junk, .junk, .junk, .junk, .junk] rfl [.tmp 2] rfl ?_
  intro ok
  have hm := len_of ok
  simp only [go_sem]
  refine CallS.inl (l1New_inl bs hm [] _ (by simp [roks]) (by simp [voks, vok]) _ fun h1 => ?_)
  simp only [go_sem]
  refine CallS.inl (l25Letters_inl bs hm 0 h1 [] [] _ (by simp [roks]) (by simp [voks, vok]) _ (by omega) fun i2 h2 xs a2 b2 => ?_)
  simp only [go_sem]
  refine ⟨_, ⟨xs, b2, rfl⟩, ?_⟩
  simp only [go_sem]
  simp [outOA]

set_option maxRecDepth 100000 in
theorem DrawHasLetter_nd (bs : List Int) : NdCall Try.prog 15 [.one (.sl 1 (bs.map eU8))] (fun rs => ∃ (xs : List TLetter) (k : Int), xs.length ≤ 5 ∧ rs = [.one (.sl 2 (xs.map TLetter.enc)), .one (.int .i64 k)]) := by
  refine nd_ev Try.func15 rfl Try.call15 Try.checked.mixed [.d (.sl 1 (bs.map eU8)), .junk, .junk, .junk, .junk, .junk, .junk, .junk, .junk, .junk, .junk, .junk, .junk] rfl [.tmp 2, .tmp 3] rfl ?_
  intro ok
  have hm := len_of ok
  simp only [go_sem]
  refine CallS.nd (DrawTakeLetter_nd bs) rfl ?_
  rintro _ ⟨xs, k, hx, rfl⟩
  simp only [go_sem, setD]
  refine ⟨_, ⟨xs, k, hx, rfl⟩, ?_⟩
  simp only [go_sem]
  simp [List.take_of_length_le]

set_option maxRecDepth 100000 in
theorem DrawSameLetters_nd (bs : List Int) : NdCall Try.prog 17 [.one (.sl 1 (bs.map eU8))] (fun rs => ∃ (xs ys : List TLetter), rs = [.one (.sl 2 (xs.map TLetter.enc)), .one (.sl 2 (ys.map TLetter.enc))]) := by
  refine nd_ev Try.func17 rfl Try.call17 Try.checked.mixed [.d (.sl 1 (bs.map eU8)), .junk, .junk, .junk, .junk, .junk, .junk, .junk, .junk, .junk, .junk, .junk, .junk, .junk, .junk, .junk, .junk, .junk] rfl [.tmp 2, .tmp 3] rfl ?_
  intro ok
  have hm := len_of ok
  simp only [go_sem]
  refine CallS.inl (l1New_inl bs hm [] _ (by simp [roks]) (by simp [voks, vok]) _ fun h1 => ?_)
  simp only [go_sem]
  refine CallS.inl (l25Letters_inl bs hm 0 h1 [] [] _ (by simp [roks]) (by simp [voks, vok]) _ (by omega) fun i2 h2 xs a2 b2 => ?_)
  simp only [go_sem]
  refine CallS.inl (l1Once_inl bs hm i2 h2 [] [.arr 2 (xs.map TLetter.enc) true] _ 2 (by omega) (by omega) _ a2 fun i3 h3 b a3 => ?_)
  simp only [go_sem]
  refine cSplit (fun q => ?_) (fun q => ?_)
  · simp only [go_sem, List.length_map]
    refine CallS.intro (spec_l25Copy xs (by omega)) ?_
    simp only [go_sem]
    refine ⟨_, ⟨xs, xs, rfl⟩, ?_⟩
    simp only [go_sem]
    simp [outOA, List.take_of_length_le]
  · simp only [go_sem]
    refine CallS.inl (l25Letters_inl bs hm i3 h3 [] [.arr 2 (xs.map TLetter.enc) true] _ (by simp [roks, rok]) (by simp [voks, vok]) _ a3 fun i4 h4 ys a4 b4 => ?_)
    simp only [go_sem]
    refine ⟨_, ⟨xs, ys, rfl⟩, ?_⟩
    simp only [go_sem]
    simp [outOA]

end Gv
