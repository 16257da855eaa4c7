/-
  A drawn region, each set of listed operations once.
-/
import Derived.Test.YtiaaipckeinbiaaNd
import Derived.Test.YtiaaipckeinbiaaCurN
import Derived.Test.YtiaaipckeinbiaaAt
namespace Gv
open Go Go.Proofs

theorem exE_dag {P : Program} {kv : List V} {ops : List Oper} {K : St → Prop} (Inv : Nat → List Bool → St → Prop)
    (h0 : ∀ S σ, Inv 0 S σ → rdyE S ops [] S = [] ∧ K σ)
    (h1 : ∀ n S σ (F : List Bool → St → Prop), Inv (n + 1) S σ → (∀ S' σ', Inv n S' σ' → F S' σ') → (rdyE S ops [] S = [] → K σ) ∧ allE (rdyE S ops [] S) fun o S' => seqE P kv ops σ o (hide (fun σ' => F S' σ') .mk)) :
    ∀ n S σ, Inv n S σ → exE P kv ops n S σ K
  | 0, S, σ, h => h0 S σ h
  | n + 1, S, σ, h => h1 n S σ (fun S' σ' => exE P kv ops n S' σ' K) h fun S' σ' h' => exE_dag Inv h0 h1 n S' σ' h'
theorem dag_step {ops : List Oper} {S : List Bool} {Q : Prop} {x : Oper × List Bool} {r : List (Oper × List Bool)} {G : Oper → List Bool → Prop} (e : rdyE S ops [] S = x :: r) (h : allE (x :: r) G) : (rdyE S ops [] S = [] → Q) ∧ allE (rdyE S ops [] S) G := ⟨fun h' => (by rw [e] at h'; cases h'), (by rw [e]; exact h)⟩
end Gv

/-
  The draws of buffers.
-/
namespace Gv
open Go Go.Proofs

def idl13 : List (Nat × List Bool) := [(11, [false, false, false, false, false, false, false, false, false, false, false]), (10, [true, false, false, false, false, false, false, false, false, false, false]), (10, [false, false, true, false, false, false, false, false, false, false, false]), (10, [false, false, false, false, true, false, false, false, false, false, false]), (9, [true, true, false, false, false, false, false, false, false, false, false]), (9, [true, false, true, false, false, false, false, false, false, false, false]), (9, [true, false, false, false, true, false, false, false, false, false, false]), (9, [false, false, true, true, false, false, false, false, false, false, false]), (9, [false, false, true, false, true, false, false, false, false, false, false]), (8, [true, true, true, false, false, false, false, false, false, false, false]), (8, [true, true, false, false, true, false, false, false, false, false, false]), (8, [true, false, true, true, false, false, false, false, false, false, false]), (8, [true, false, true, false, true, false, false, false, false, false, false]), (8, [false, false, true, true, true, false, false, false, false, false, false]), (7, [true, true, true, true, false, false, false, false, false, false, false]), (7, [true, true, true, false, true, false, false, false, false, false, false]), (7, [true, false, true, true, true, false, false, false, false, false, false]), (7, [false, false, true, true, true, true, false, false, false, false, false]), (6, [true, true, true, true, true, false, false, false, false, false, false]), (6, [true, false, true, true, true, true, false, false, false, false, false]), (6, [false, false, true, true, true, true, true, false, false, false, false]), (5, [true, true, true, true, true, true, false, false, false, false, false]), (5, [true, false, true, true, true, true, true, false, false, false, false]), (5, [false, false, true, true, true, true, true, true, false, false, false]), (4, [true, true, true, true, true, true, true, false, false, false, false]), (4, [true, false, true, true, true, true, true, true, false, false, false]), (3, [true, true, true, true, true, true, true, true, false, false, false]), (2, [true, true, true, true, true, true, true, true, true, false, false]), (1, [true, true, true, true, true, true, true, true, true, true, false]), (0, [true, true, true, true, true, true, true, true, true, true, true])]
def st13a (pre rest : List H) (bs : List Int) (m : Nat) (x3 : Int) (i3 : Nat) (h3 : Int) (S : List Bool) (i4 : Nat) (h4 x4 : Int) (i5 : Nat) (h5 : Int) (s : List UInt8) : St := ⟨[.ptr pre.length 0 0, .junk, .ptr (pre.length + (rest.length + 1)) 0 0, .ptr (pre.length + (rest.length + 1 + 1)) 0 0, .d (.int .i64 m), .junk, .junk, .junk, .junk, .d (.int .i64 m), .d (.bool (decide (0 < (m : Int)))), .junk, .junk, .junk, .junk, .junk, .junk, .junk, .junk, .junk, .junk, .junk, .junk, .junk, .junk, .junk, .junk, .junk, .junk, .ptr pre.length 0 0, .d (.int .i64 x3), .d (.bool (decide (x3 = 0))), .d (.bool (decide (x3 = 0))), .junk, .junk, .junk, .junk, .d (.bool (decide (x3 = 1))), .d (.bool (decide (x3 = 1))), (bif S.getD 0 false then .ptr (pre.length + (rest.length + 1 + 1)) 0 1 else .junk), (bif S.getD 1 false then .nils 2 else .junk), (bif S.getD 2 false then .ptr pre.length 0 0 else .junk), (bif S.getD 3 false then .d (.int .i64 x4) else .junk), (bif S.getD 4 false then .ptr pre.length 0 0 else .junk), (bif S.getD 5 false then .d (.str s) else .junk), (bif S.getD 6 false then .agg [.d (.int .i64 x4), .d (.str s)] else .junk), (bif S.getD 7 false then .sl (pre.length + (rest.length + 2 + 1)) 0 1 else .junk), (bif S.getD 8 false then .sl (pre.length + (rest.length + 3 + 1)) 0 1 else .junk), (bif S.getD 9 false then .ptr (pre.length + (rest.length + 1 + 1)) 0 1 else .junk), .junk], pre ++ curB bs (bif S.getD 5 false then i5 else bif S.getD 3 false then i4 else i3) (bif S.getD 5 false then h5 else bif S.getD 3 false then h4 else h3) :: (rest ++ (.box [.d (.int .i64 0), .nils 2] :: .box [.d (.int .i64 0), (bif S.getD 10 false then .sl (pre.length + (rest.length + 3 + 1)) 0 1 else .nils 2)] :: (bif S.getD 7 false then [.arr 2 [[.int .i64 x4, .str s]] true] else []) ++ (bif S.getD 8 false then [.arr 2 [[.int .i64 x4, .str s]] true] else [])))⟩
def st13b (pre rest : List H) (bs : List Int) (m : Nat) (x3 : Int) (i3 : Nat) (h3 : Int) (b : TBuffer) (S : List Bool) (i4 : Nat) (h4 x4 : Int) (i5 : Nat) (h5 : Int) (s : List UInt8) : St := ⟨[.ptr pre.length 0 0, .junk, .ptr (pre.length + (rest.length + 1)) 0 0, .ptr (pre.length + (rest.length + 1 + 1)) 0 0, .d (.int .i64 m), .junk, .junk, .junk, .junk, .d (.int .i64 m), .d (.bool (decide (0 < (m : Int)))), .junk, .junk, .junk, .junk, .junk, .junk, .junk, .junk, .junk, .junk, .junk, .junk, .junk, .junk, .junk, .junk, .junk, .junk, .ptr pre.length 0 0, .d (.int .i64 x3), .d (.bool (decide (x3 = 0))), .d (.bool (decide (x3 = 0))), .junk, .junk, .junk, .junk, .d (.bool (decide (x3 = 1))), .d (.bool (decide (x3 = 1))), (bif S.getD 0 false then .ptr (pre.length + (rest.length + 1 + 1)) 0 1 else .junk), (bif S.getD 1 false then .sl (pre.length + (rest.length + 2 + 1)) 0 b.chunks.length else .junk), (bif S.getD 2 false then .ptr pre.length 0 0 else .junk), (bif S.getD 3 false then .d (.int .i64 x4) else .junk), (bif S.getD 4 false then .ptr pre.length 0 0 else .junk), (bif S.getD 5 false then .d (.str s) else .junk), (bif S.getD 6 false then .agg [.d (.int .i64 x4), .d (.str s)] else .junk), (bif S.getD 7 false then .sl (pre.length + (rest.length + 3 + 1)) 0 1 else .junk), (bif S.getD 8 false then .sl (pre.length + (rest.length + 4 + 1)) 0 (b.chunks.length + 1) else .junk), (bif S.getD 9 false then .ptr (pre.length + (rest.length + 1 + 1)) 0 1 else .junk), .junk], pre ++ curB bs (bif S.getD 5 false then i5 else bif S.getD 3 false then i4 else i3) (bif S.getD 5 false then h5 else bif S.getD 3 false then h4 else h3) :: (rest ++ (.box [.d (.int .i64 0), .nils 2] :: .box [.d (.int .i64 b.next), (bif S.getD 10 false then .sl (pre.length + (rest.length + 4 + 1)) 0 (b.chunks.length + 1) else .sl (pre.length + (rest.length + 2 + 1)) 0 b.chunks.length)] :: (bif S.getD 8 false then .dead else .arr 2 (b.chunks.map TChunk.enc) true) :: (bif S.getD 7 false then [.arr 2 [[.int .i64 x4, .str s]] true] else []) ++ (bif S.getD 8 false then [.arr 2 (b.chunks.map TChunk.enc ++ [[.int .i64 x4, .str s]]) true] else [])))⟩

set_option maxRecDepth 100000 in
set_option maxHeartbeats 4000000 in
theorem l6Buffer_inl (bs : List Int) (hm : bs.length ≤ maxLen) (i : Nat) (h : Int) (pre rest : List H) (kv : List V) (n : Nat) (hn : pre.length + (rest.length + 1) = n) (hr : roks n pre ∧ roks n rest) (hkv : voks n kv) (K : V → List H → Prop) (hi : i ≤ bs.length)
    (hk0 : ∀ (i' : Nat) (h' : Int) (nx : Int), i' ≤ bs.length → K (.agg [.d (.int .i64 nx), .nils 2]) (pre ++ curB bs i' h' :: rest))
    (hk : ∀ (i' : Nat) (h' : Int) (b : TBuffer), i' ≤ bs.length → (∀ c ∈ b.chunks, okC c) → b.chunks.length ≤ 8 → K (.agg [.d (.int .i64 b.next), .sl n 0 b.chunks.length]) (pre ++ curB bs i' h' :: (rest ++ [.arr 2 (b.chunks.map TChunk.enc) true]))) : InlCall Try.prog 44 kv (pre ++ curB bs i h :: rest) [.ptr pre.length 0 0] K := by
  have hn' := hn
  have hkv' : ∀ k, n ≤ k → voks k kv := fun k hk => voks_mono hk _ hkv
  have hro : ∀ l : List H, roks (pre.length + ((rest ++ l).length + 1)) l → roks (pre.length + ((rest ++ l).length + 1)) pre ∧ roks (pre.length + ((rest ++ l).length + 1)) (rest ++ l) := by
    intro l hl
    have e : n ≤ pre.length + ((rest ++ l).length + 1) := by simp only [List.length_append]; omega
    exact ⟨roks_mono e hr.1, roks_append (roks_mono e hr.2) hl⟩
  have fin0 : ∀ (i' : Nat) (h' : Int) (nx : Int) (ex : List H), i' ≤ bs.length → SeeX kv K (.agg [.d (.int .i64 nx), .nils 2]) (pre ++ curB bs i' h' :: (rest ++ ex)) := by
    intro i' h' nx ex hi'
    subst hn'
    exact ⟨List.range (pre.length + (rest.length + 1)), .agg [.d (.int .i64 nx), .nils 2], pre ++ curB bs i' h' :: rest, see_cur hr hkv (by simp only [vsees, vsee, ren, rens, and_true]) (by simp [voks, vok]), hk0 i' h' nx hi'⟩
  have fin : ∀ (i' : Nat) (h' : Int) (nx : Int) (cs : List TChunk) (j : Nat) (ex : List H), i' ≤ bs.length → (∀ c ∈ cs, okC c) → cs.length ≤ 8 → ex[j]? = some (.arr 2 (cs.map TChunk.enc) true) → SeeX kv K (.agg [.d (.int .i64 nx), .sl (pre.length + (rest.length + j + 1)) 0 cs.length]) (pre ++ curB bs i' h' :: (rest ++ ex)) := by
    intro i' h' nx cs j ex hi' hc hl hx
    have e : pre.length + (rest.length + j + 1) = pre.length + (rest.length + 1) + j := by omega
    rw [e]
    subst hn'
    refine ⟨List.range (pre.length + (rest.length + 1)) ++ [pre.length + (rest.length + 1) + j], .agg [.d (.int .i64 nx), .sl (pre.length + (rest.length + 1)) 0 cs.length], pre ++ curB bs i' h' :: (rest ++ [.arr 2 (cs.map TChunk.enc) true]), ?_, hk i' h' ⟨nx, cs⟩ hi' hc hl⟩
    exact see_cur1 j hx trivial hr hkv (by simp only [vsees, vsee, ren, rens, rangeA1, and_true]) (by simp [voks, vok])
  refine InlCall.see ?_
  refine (inl_ev (n := 50) (rs := [.cell 2 26]) Try.func44 rfl Try.call44 Try.checked.mixed rfl rfl ?_)
  simp only [go_sem, hput_end, hput_endN, hget_endN]
  refine CallS.inl (l1Below_inl bs hm i h pre (rest ++ [.box [.d (.int .i64 0), .nils 2], .box [.d (.int .i64 0), .nils 2]]) _ 7 (by omega) (by omega) _ hi fun i1 h1 x1 a1 b1 c1 => ?_)
  obtain ⟨k, rfl⟩ := Int.eq_ofNat_of_zero_le b1
  simp only [go_sem]
  refine LoopK.intro (α := Nat × Int × Nat × Option TBuffer) (fun y => match y.2.2.2 with
      | none => ⟨[.ptr pre.length 0 0, .junk, .ptr (pre.length + (rest.length + 1)) 0 0, .ptr (pre.length + (rest.length + 1 + 1)) 0 0, .d (.int .i64 y.2.2.1)] ++ List.replicate 45 .junk, pre ++ curB bs y.1 y.2.1 :: (rest ++ [.box [.d (.int .i64 0), .nils 2], .box [.d (.int .i64 0), .nils 2]])⟩
      | some b => ⟨[.ptr pre.length 0 0, .junk, .ptr (pre.length + (rest.length + 1)) 0 0, .ptr (pre.length + (rest.length + 1 + 1)) 0 0, .d (.int .i64 y.2.2.1)] ++ List.replicate 45 .junk, pre ++ curB bs y.1 y.2.1 :: (rest ++ [.box [.d (.int .i64 0), .nils 2], .box [.d (.int .i64 b.next), .sl (pre.length + (rest.length + 2 + 1)) 0 b.chunks.length], .arr 2 (b.chunks.map TChunk.enc) true])⟩)
    (fun y => y.2.2.1) (fun y => y.1 ≤ bs.length ∧ y.2.2.1 ≤ 6 ∧ ∀ b, y.2.2.2 = some b → (∀ c ∈ b.chunks, okC c) ∧ b.chunks.length + y.2.2.1 ≤ 6) (i1, h1, k, none) (List.range n ++ [n, n + 1]) ⟨a1, show k ≤ 6 by omega, fun b hb => by cases hb⟩ ?_ ?_
  · refine see2B (K := 45) hn hr hkv rfl rfl ⟨by simp [voks, vok], by simp [vsees, vsee, ren]⟩ ⟨by simp [voks, vok], by simp [vsees, vsee, ren]⟩ rfl rfl
  · rintro ⟨i2, h2, m, ob⟩ ⟨hi2, hm6, hob⟩
    simp only at hm6 hob
    cases ob with
    | none =>
      simp only [List.replicate, List.cons_append, List.nil_append]
      simp only [go_sem]
      refine cSplit (fun q => ?_) (fun q => ?_)
      · have hn := of_decide_eq_true q
        simp only [go_sem]
        refine CallS.inl (l1Below_inl bs hm i2 h2 pre (rest ++ [.box [.d (.int .i64 0), .nils 2], .box [.d (.int .i64 0), .nils 2]]) _ 14 (by omega) (by omega) _ hi2 fun i3 h3 x3 a3 b3 c3 => ?_)
        simp only [go_sem]
        refine drawX_cut (fun σ' => ∃ (i4 : Nat) (h4 : Int) (b' : TBuffer) (t15 t16 t17 t18 t19 : V), i4 ≤ bs.length ∧ (∀ c ∈ b'.chunks, okC c) ∧ b'.chunks.length ≤ ([] : List TChunk).length + 1 ∧ σ' = ⟨[.ptr pre.length 0 0, .junk, .ptr (pre.length + (rest.length + 1)) 0 0, .ptr (pre.length + (rest.length + 1 + 1)) 0 0, .d (.int .i64 m), .d (.int .i64 x3), .junk, .junk, .junk, .d (.int .i64 m), .d (.bool (decide (0 < (m : Int)))), .junk, .junk, .ptr pre.length 0 0, .d (.int .i64 x3), t15, t16, t17, t18, t19, .junk, .junk, .junk, .junk, .junk, .junk, .junk, .junk, .junk, .junk, .junk, .junk, .junk, .junk, .junk, .junk, .junk, .junk, .junk, .junk, .junk, .junk, .junk, .junk, .junk, .junk, .junk, .junk, .junk, .junk], pre ++ curB bs i4 h4 :: (rest ++ [.box [.d (.int .i64 0), .nils 2], .box [.d (.int .i64 b'.next), .sl (pre.length + (rest.length + 2 + 1)) 0 b'.chunks.length], .arr 2 (b'.chunks.map TChunk.enc) true])⟩) ?_ ?_
        · repeat' (first
            | exact allE_nil
            | (refine allE_cons ?_ ?_)
            | (refine exE_step rfl ?_)
            | (refine CallS.inl (l4Data_inl bs hm i3 h3 pre (rest ++ [.box [.d (.int .i64 0), .nils 2], .box [.d (.int .i64 0), .nils 2]]) _ 4 (hro _ (by simp [roks, rok, voks, vok]; try omega)) (by
                simp only [List.length_append, List.length_cons, List.length_nil, List.cons_append, List.nil_append, voks, vok, true_and, and_true]
                have hq := hkv' (pre.length + (rest.length + (0 + 1 + 1) + 1)) (by omega)
                simp only [hq, and_true]
                omega) (by omega) _ a3 fun i4 h4 s a4 b4 => ?_))
            | (refine CallS.intro (spec_InsertData 0 ([] : List TChunk) x3 _ (by simp) (by simp) (by simp) (by omega) (by omega) (by omega)) ?_)
            | (refine exE_end rfl ?_)
            | (simp only [go_sem, hput_endN, hget_endN, setD, List.length_map]))
          all_goals exact ⟨i4, h4, ⟨0, insS 0 ([] : List TChunk) x3 s⟩, _, _, _, _, _, a4, insS_ok (by simp) (by omega) (by omega), insS_len _ _ _ _, rfl⟩
        · rintro _ ⟨i4, h4, b', t15, t16, t17, t18, t19, a4, hok4, hl4, rfl⟩
          have hwm : IntKind.i64.wrap ((m : Int) - 1) = ((m - 1 : Nat) : Int) := by rw [w64] <;> omega
          try simp only [List.length_nil] at hl4
          simp only [go_sem]
          refine CallS.inl (l1Once_inl bs hm i4 h4 pre (rest ++ [.box [.d (.int .i64 0), .nils 2], .box [.d (.int .i64 b'.next), .sl (pre.length + (rest.length + 2 + 1)) 0 b'.chunks.length], .arr 2 (b'.chunks.map TChunk.enc) true]) _ 4 (by omega) (by omega) _ a4 fun i5 h5 b a5 => ?_)
          simp only [go_sem]
          refine cSplit (fun q => ?_) (fun q => ?_)
          · simp only [go_sem]
            refine drawX_cut (fun σ' => ∃ (i6 : Nat) (h6 : Int) (b6 : TBuffer) (u15 u16 u17 u18 u19 u20 u21 u22 u23 u24 u25 u26 u27 u28 : V) (z3 : H), i6 ≤ bs.length ∧ (∀ c ∈ b6.chunks, okC c) ∧ b6.chunks.length ≤ b'.chunks.length ∧ σ' = ⟨[.ptr pre.length 0 0, .junk, .ptr (pre.length + (rest.length + 1)) 0 0, .ptr (pre.length + (rest.length + 1 + 1)) 0 0, .d (.int .i64 m), .d (.int .i64 x3), .junk, .junk, .junk, .d (.int .i64 m), .d (.bool (decide (0 < (m : Int)))), .junk, .junk, .ptr pre.length 0 0, .d (.int .i64 x3), u15, u16, u17, u18, u19, u20, u21, u22, u23, u24, u25, u26, u27, u28, .junk, .junk, .junk, .junk, .junk, .junk, .junk, .junk, .junk, .junk, .junk, .junk, .junk, .junk, .junk, .junk, .junk, .junk, .junk, .junk, .junk], pre ++ curB bs i6 h6 :: (rest ++ [.box [.d (.int .i64 0), .nils 2], .box [.d (.int .i64 b6.next), .sl (pre.length + (rest.length + 3 + 1)) 0 b6.chunks.length], z3, .arr 2 (b6.chunks.map TChunk.enc) true])⟩) ?_ ?_
            · repeat' (first
                | exact allE_nil
                | (refine allE_cons ?_ ?_)
                | (refine exE_step rfl ?_)
                | (refine CallS.inl (l1Below_inl bs hm i5 h5 pre (rest ++ [.box [.d (.int .i64 0), .nils 2], .box [.d (.int .i64 b'.next), .sl (pre.length + (rest.length + 2 + 1)) 0 b'.chunks.length], .arr 2 (b'.chunks.map TChunk.enc) true]) _ 4 (by omega) (by omega) _ a5 fun i6 h6 x6 a6 b6 c6 => ?_))
                | (refine CallS.intro (spec_TakeBytes_raw b'.next b'.chunks x6 (fun c hc => by have := hok4 c hc; simp only [okC] at this; omega) (by omega)) ?_)
                | (refine exE_end rfl ?_)
                | (simp only [go_sem, hput_endN, hget_endN, setD, List.length_map]))
              all_goals exact ⟨i6, h6, ⟨b'.next + tkN b'.next b'.chunks x6, tkX b'.next b'.chunks x6⟩, _, _, _, _, _, _, _, _, _, _, _, _, _, _, _, a6, tkX_ok hok4, tkX_len _ _ _, rfl⟩
            · rintro _ ⟨i6, h6, b6, u15, u16, u17, u18, u19, u20, u21, u22, u23, u24, u25, u26, u27, u28, z3, a6, hok6, hl6, rfl⟩
              simp only [go_sem, hwm]
              refine RoundE.intro (i6, h6, m - 1, some b6) (List.range n ++ [n, n + 1, n + 3]) ⟨a6, show m - 1 ≤ 6 by omega, fun b hb => by cases hb; exact ⟨hok6, show b6.chunks.length + (m - 1) ≤ 6 by omega⟩⟩ (show m - 1 < m by omega) ?_
              refine see3B (b := 3) (K := 45) (f := fun id => [.d (.int .i64 b6.next), .sl id 0 b6.chunks.length]) hn' (by decide) hr hkv rfl rfl rfl (hf0 := ⟨by simp [voks, vok], by simp [vsees, vsee, ren]⟩) (hf := ⟨by simp only [voks, vok, and_true, true_and]; omega, by simp only [vsees, vsee, ren, (rg3B pre.length rest.length n 3 hn').2.2.2, and_self]⟩) rfl rfl
          · simp only [go_sem, hwm]
            refine RoundE.intro (i5, h5, m - 1, some b') (List.range n ++ [n, n + 1, n + 2]) ⟨a5, show m - 1 ≤ 6 by omega, fun b hb => by cases hb; exact ⟨hok4, show b'.chunks.length + (m - 1) ≤ 6 by omega⟩⟩ (show m - 1 < m by omega) ?_
            refine see3B (b := 2) (K := 45) (f := fun id => [.d (.int .i64 b'.next), .sl id 0 b'.chunks.length]) hn' (by decide) hr hkv rfl rfl rfl (hf0 := ⟨by simp [voks, vok], by simp [vsees, vsee, ren]⟩) (hf := ⟨by simp only [voks, vok, and_true, true_and]; omega, by simp only [vsees, vsee, ren, (rg3B pre.length rest.length n 2 hn').2.2.2, and_self]⟩) rfl rfl
      · simp only [go_sem]
        refine CallS.inl (l1Below_inl bs hm i2 h2 pre (rest ++ [.box [.d (.int .i64 0), .nils 2], .box [.d (.int .i64 0), .nils 2]]) _ 16 (by omega) (by omega) _ hi2 fun i3 h3 x3 a3 b3 c3 => ?_)
        simp only [go_sem]
        refine cSplit (fun q1 => ?_) (fun q1 => ?_)
        · simp only [go_sem, hput_endN, hget_endN]
          refine CallS.inl (l1PickInt_inl bs hm i3 h3 pre (rest ++ [.box [.d (.int .i64 0), .nils 2], .box [.d (.int .i64 0), .nils 2], .arr 1 ([-1, 30, 4611686018427387903, 4611686018427387904].map eI) true]) _ (rest.length + 2) [-1, 30, 4611686018427387903, 4611686018427387904] (by rw [hget_endN]; rfl) (by decide) (by decide) _ a3 fun i4 h4 x4 a4 b4 => ?_)
          simp only [go_sem, hput_endN, hget_endN, hget_end0, hput_end0]
          exact fin0 i4 h4 x4 _ a4
        · simp only [go_sem]
          refine cSplit (fun q2 => ?_) (fun q2 => ?_)
          · simp only [go_sem]
            refine drawX_cut (fun σ' => ∃ (i4 : Nat) (h4 x4 : Int) (i5 : Nat) (h5 : Int) (s : List UInt8), 0 ≤ x4 ∧ x4 < 20 ∧ i5 ≤ bs.length ∧ s.length ≤ 3 ∧ σ' = st13a pre rest bs m x3 i3 h3 (List.replicate 11 true) i4 h4 x4 i5 h5 s) ?_ ?_
            · refine exE_dag (fun n S σ => (n, S) ∈ idl13 ∧ ∃ (i4 : Nat) (h4 x4 : Int) (i5 : Nat) (h5 : Int) (s : List UInt8), (S.getD 3 false = true → i4 ≤ bs.length ∧ 0 ≤ x4 ∧ x4 < 20) ∧ (S.getD 5 false = true → i5 ≤ bs.length ∧ s.length ≤ 3) ∧ σ = st13a pre rest bs m x3 i3 h3 S i4 h4 x4 i5 h5 s) ?_ ?_ _ _ _ ⟨by decide, 0, 0, 0, 0, 0, [], (fun h => by cases h), (fun h => by cases h), rfl⟩
              · rintro S σ ⟨hS, i4, h4, x4, i5, h5, s, hg3, hg5, rfl⟩
                simp only [idl13, List.mem_cons, Prod.mk.injEq, List.not_mem_nil, or_false] at hS
                rcases hS with ⟨hn, rfl⟩ | ⟨hn, rfl⟩ | ⟨hn, rfl⟩ | ⟨hn, rfl⟩ | ⟨hn, rfl⟩ | ⟨hn, rfl⟩ | ⟨hn, rfl⟩ | ⟨hn, rfl⟩ | ⟨hn, rfl⟩ | ⟨hn, rfl⟩ | ⟨hn, rfl⟩ | ⟨hn, rfl⟩ | ⟨hn, rfl⟩ | ⟨hn, rfl⟩ | ⟨hn, rfl⟩ | ⟨hn, rfl⟩ | ⟨hn, rfl⟩ | ⟨hn, rfl⟩ | ⟨hn, rfl⟩ | ⟨hn, rfl⟩ | ⟨hn, rfl⟩ | ⟨hn, rfl⟩ | ⟨hn, rfl⟩ | ⟨hn, rfl⟩ | ⟨hn, rfl⟩ | ⟨hn, rfl⟩ | ⟨hn, rfl⟩ | ⟨hn, rfl⟩ | ⟨hn, rfl⟩ | ⟨hn, rfl⟩
                all_goals (first | exact absurd hn (by decide) | skip)
                exact ⟨rfl, i4, h4, x4, i5, h5, s, (hg3 rfl).2.1, (hg3 rfl).2.2, (hg5 rfl).1, (hg5 rfl).2, rfl⟩
              · rintro n S σ F ⟨hS, i4, h4, x4, i5, h5, s, hg3, hg5, rfl⟩ hF
                simp only [idl13, List.mem_cons, Prod.mk.injEq, List.not_mem_nil, or_false] at hS
                rcases hS with ⟨hn, rfl⟩ | ⟨hn, rfl⟩ | ⟨hn, rfl⟩ | ⟨hn, rfl⟩ | ⟨hn, rfl⟩ | ⟨hn, rfl⟩ | ⟨hn, rfl⟩ | ⟨hn, rfl⟩ | ⟨hn, rfl⟩ | ⟨hn, rfl⟩ | ⟨hn, rfl⟩ | ⟨hn, rfl⟩ | ⟨hn, rfl⟩ | ⟨hn, rfl⟩ | ⟨hn, rfl⟩ | ⟨hn, rfl⟩ | ⟨hn, rfl⟩ | ⟨hn, rfl⟩ | ⟨hn, rfl⟩ | ⟨hn, rfl⟩ | ⟨hn, rfl⟩ | ⟨hn, rfl⟩ | ⟨hn, rfl⟩ | ⟨hn, rfl⟩ | ⟨hn, rfl⟩ | ⟨hn, rfl⟩ | ⟨hn, rfl⟩ | ⟨hn, rfl⟩ | ⟨hn, rfl⟩ | ⟨hn, rfl⟩
                rotate_right 1
                · exact absurd hn (by omega)
                all_goals (
                  simp only [Nat.reduceEqDiff] at hn
                  try subst hn
                  simp only [st13a, List.getD_cons_succ, List.getD_cons_zero, cond_true, cond_false, List.append_nil, List.nil_append, List.cons_append]
                  refine dag_step rfl ?_
                  repeat' (first
                    | exact allE_nil
                    | (refine allE_cons ?_ ?_)
                    | exact hF _ _ ⟨by decide, j4, g4, y4, i5, h5, s, fun _ => ⟨a4, b4, c4⟩, hg5, rfl⟩
                    | exact hF _ _ ⟨by decide, i4, h4, x4, j5, g5, s5, hg3, fun _ => ⟨a5, b5⟩, rfl⟩
                    | exact hF _ _ ⟨by decide, i4, h4, x4, i5, h5, s, hg3, hg5, rfl⟩
                    | simp only [go_sem, hput_endN, hget_endN]
                    | (refine CallS.inl (l1Below_inl bs hm i3 h3 pre (rest ++ [.box [.d (.int .i64 0), .nils 2], .box [.d (.int .i64 0), .nils 2]]) _ 20 (by omega) (by omega) _ a3 fun j4 g4 y4 a4 b4 c4 => ?_))
                    | (refine CallS.inl (l4Data_inl bs hm i4 h4 pre (rest ++ [.box [.d (.int .i64 0), .nils 2], .box [.d (.int .i64 0), .nils 2]]) _ 3 (hro _ (by simp [roks, rok, voks, vok]; try omega)) (by
                    simp only [List.length_append, List.length_cons, List.length_nil, List.cons_append, List.nil_append, voks, vok, true_and]
                    have hq := hkv' (pre.length + (rest.length + (0 + 1 + 1) + 1)) (by omega)
                    simp only [hq, and_true]
                    omega) (by omega) _ (hg3 rfl).1 fun j5 g5 s5 a5 b5 => ?_))))
            · rintro _ ⟨i4, h4, x4, i5, h5, s, r1, r2, r3, r4, rfl⟩
              simp only [st13a, List.replicate, List.getD_cons_succ, List.getD_cons_zero, cond_true, List.nil_append, List.cons_append]
              simp only [go_sem, hput_endN, hget_endN, hget_end0, hput_end0]
              exact fin i5 h5 0 [⟨x4, s⟩] 3 _ r3 (fun c hc => by simp only [List.mem_singleton] at hc; subst hc; simp only [okC]; omega) (by simp) rfl
          · simp only [go_sem, hput_endN, hget_endN, hget_end0, hput_end0]
            exact fin0 i3 h3 _ _ a3
    | some b =>
      obtain ⟨hok, hbl⟩ := hob b rfl
      simp only [List.replicate, List.cons_append, List.nil_append]
      simp only [go_sem]
      refine cSplit (fun q => ?_) (fun q => ?_)
      · have hn := of_decide_eq_true q
        simp only [go_sem]
        refine CallS.inl (l1Below_inl bs hm i2 h2 pre (rest ++ [.box [.d (.int .i64 0), .nils 2], .box [.d (.int .i64 b.next), .sl (pre.length + (rest.length + 2 + 1)) 0 b.chunks.length], .arr 2 (b.chunks.map TChunk.enc) true]) _ 14 (by omega) (by omega) _ hi2 fun i3 h3 x3 a3 b3 c3 => ?_)
        simp only [go_sem]
        refine drawX_cut (fun σ' => ∃ (i4 : Nat) (h4 : Int) (b' : TBuffer) (t15 t16 t17 t18 t19 : V) (z : H), i4 ≤ bs.length ∧ (∀ c ∈ b'.chunks, okC c) ∧ b'.chunks.length ≤ b.chunks.length + 1 ∧ σ' = ⟨[.ptr pre.length 0 0, .junk, .ptr (pre.length + (rest.length + 1)) 0 0, .ptr (pre.length + (rest.length + 1 + 1)) 0 0, .d (.int .i64 m), .d (.int .i64 x3), .junk, .junk, .junk, .d (.int .i64 m), .d (.bool (decide (0 < (m : Int)))), .junk, .junk, .ptr pre.length 0 0, .d (.int .i64 x3), t15, t16, t17, t18, t19, .junk, .junk, .junk, .junk, .junk, .junk, .junk, .junk, .junk, .junk, .junk, .junk, .junk, .junk, .junk, .junk, .junk, .junk, .junk, .junk, .junk, .junk, .junk, .junk, .junk, .junk, .junk, .junk, .junk, .junk], pre ++ curB bs i4 h4 :: (rest ++ [.box [.d (.int .i64 0), .nils 2], .box [.d (.int .i64 b'.next), .sl (pre.length + (rest.length + 3 + 1)) 0 b'.chunks.length], z, .arr 2 (b'.chunks.map TChunk.enc) true])⟩) ?_ ?_
        · repeat' (first
            | exact allE_nil
            | (refine allE_cons ?_ ?_)
            | (refine exE_step rfl ?_)
            | (refine CallS.inl (l4Data_inl bs hm i3 h3 pre (rest ++ [.box [.d (.int .i64 0), .nils 2], .box [.d (.int .i64 b.next), .sl (pre.length + (rest.length + 2 + 1)) 0 b.chunks.length], .arr 2 (b.chunks.map TChunk.enc) true]) _ 4 (hro _ (by simp [roks, rok, voks, vok]; try omega)) (by
                simp only [List.length_append, List.length_cons, List.length_nil, List.cons_append, List.nil_append, voks, vok, true_and, and_true]
                have hq := hkv' (pre.length + (rest.length + (0 + 1 + 1 + 1) + 1)) (by omega)
                simp only [hq, and_true]
                omega) (by omega) _ a3 fun i4 h4 s a4 b4 => ?_))
            | (refine CallS.intro (spec_InsertData b.next b.chunks x3 _ (fun c hc => by have := hok c hc; simp only [okC] at this; omega) (by omega) (fun c hc => by have := hok c hc; simp only [okC] at this; omega) (by omega) (by omega) (by omega)) ?_)
            | (refine exE_end rfl ?_)
            | (simp only [go_sem, hput_endN, hget_endN, setD, List.length_map]))
          all_goals exact ⟨i4, h4, ⟨b.next, insS b.next b.chunks x3 s⟩, _, _, _, _, _, _, a4, insS_ok hok (by omega) (by omega), insS_len _ _ _ _, rfl⟩
        · rintro _ ⟨i4, h4, b', t15, t16, t17, t18, t19, z, a4, hok4, hl4, rfl⟩
          have hwm : IntKind.i64.wrap ((m : Int) - 1) = ((m - 1 : Nat) : Int) := by rw [w64] <;> omega
          try simp only [List.length_nil] at hl4
          simp only [go_sem]
          refine CallS.inl (l1Once_inl bs hm i4 h4 pre (rest ++ [.box [.d (.int .i64 0), .nils 2], .box [.d (.int .i64 b'.next), .sl (pre.length + (rest.length + 3 + 1)) 0 b'.chunks.length], z, .arr 2 (b'.chunks.map TChunk.enc) true]) _ 4 (by omega) (by omega) _ a4 fun i5 h5 b a5 => ?_)
          simp only [go_sem]
          refine cSplit (fun q => ?_) (fun q => ?_)
          · simp only [go_sem]
            refine drawX_cut (fun σ' => ∃ (i6 : Nat) (h6 : Int) (b6 : TBuffer) (u15 u16 u17 u18 u19 u20 u21 u22 u23 u24 u25 u26 u27 u28 : V) (z3 : H), i6 ≤ bs.length ∧ (∀ c ∈ b6.chunks, okC c) ∧ b6.chunks.length ≤ b'.chunks.length ∧ σ' = ⟨[.ptr pre.length 0 0, .junk, .ptr (pre.length + (rest.length + 1)) 0 0, .ptr (pre.length + (rest.length + 1 + 1)) 0 0, .d (.int .i64 m), .d (.int .i64 x3), .junk, .junk, .junk, .d (.int .i64 m), .d (.bool (decide (0 < (m : Int)))), .junk, .junk, .ptr pre.length 0 0, .d (.int .i64 x3), u15, u16, u17, u18, u19, u20, u21, u22, u23, u24, u25, u26, u27, u28, .junk, .junk, .junk, .junk, .junk, .junk, .junk, .junk, .junk, .junk, .junk, .junk, .junk, .junk, .junk, .junk, .junk, .junk, .junk, .junk, .junk], pre ++ curB bs i6 h6 :: (rest ++ [.box [.d (.int .i64 0), .nils 2], .box [.d (.int .i64 b6.next), .sl (pre.length + (rest.length + 4 + 1)) 0 b6.chunks.length], z, z3, .arr 2 (b6.chunks.map TChunk.enc) true])⟩) ?_ ?_
            · repeat' (first
                | exact allE_nil
                | (refine allE_cons ?_ ?_)
                | (refine exE_step rfl ?_)
                | (refine CallS.inl (l1Below_inl bs hm i5 h5 pre (rest ++ [.box [.d (.int .i64 0), .nils 2], .box [.d (.int .i64 b'.next), .sl (pre.length + (rest.length + 3 + 1)) 0 b'.chunks.length], z, .arr 2 (b'.chunks.map TChunk.enc) true]) _ 4 (by omega) (by omega) _ a5 fun i6 h6 x6 a6 b6 c6 => ?_))
                | (refine CallS.intro (spec_TakeBytes_raw b'.next b'.chunks x6 (fun c hc => by have := hok4 c hc; simp only [okC] at this; omega) (by omega)) ?_)
                | (refine exE_end rfl ?_)
                | (simp only [go_sem, hput_endN, hget_endN, setD, List.length_map]))
              all_goals exact ⟨i6, h6, ⟨b'.next + tkN b'.next b'.chunks x6, tkX b'.next b'.chunks x6⟩, _, _, _, _, _, _, _, _, _, _, _, _, _, _, _, a6, tkX_ok hok4, tkX_len _ _ _, rfl⟩
            · rintro _ ⟨i6, h6, b6, u15, u16, u17, u18, u19, u20, u21, u22, u23, u24, u25, u26, u27, u28, z3, a6, hok6, hl6, rfl⟩
              simp only [go_sem, hwm]
              refine RoundE.intro (i6, h6, m - 1, some b6) (List.range n ++ [n, n + 1, n + 4]) ⟨a6, show m - 1 ≤ 6 by omega, fun b hb => by cases hb; exact ⟨hok6, show b6.chunks.length + (m - 1) ≤ 6 by omega⟩⟩ (show m - 1 < m by omega) ?_
              refine see3B (b := 4) (K := 45) (f := fun id => [.d (.int .i64 b6.next), .sl id 0 b6.chunks.length]) hn' (by decide) hr hkv rfl rfl rfl (hf0 := ⟨by simp [voks, vok], by simp [vsees, vsee, ren]⟩) (hf := ⟨by simp only [voks, vok, and_true, true_and]; omega, by simp only [vsees, vsee, ren, (rg3B pre.length rest.length n 4 hn').2.2.2, and_self]⟩) rfl rfl
          · simp only [go_sem, hwm]
            refine RoundE.intro (i5, h5, m - 1, some b') (List.range n ++ [n, n + 1, n + 3]) ⟨a5, show m - 1 ≤ 6 by omega, fun b hb => by cases hb; exact ⟨hok4, show b'.chunks.length + (m - 1) ≤ 6 by omega⟩⟩ (show m - 1 < m by omega) ?_
            refine see3B (b := 3) (K := 45) (f := fun id => [.d (.int .i64 b'.next), .sl id 0 b'.chunks.length]) hn' (by decide) hr hkv rfl rfl rfl (hf0 := ⟨by simp [voks, vok], by simp [vsees, vsee, ren]⟩) (hf := ⟨by simp only [voks, vok, and_true, true_and]; omega, by simp only [vsees, vsee, ren, (rg3B pre.length rest.length n 3 hn').2.2.2, and_self]⟩) rfl rfl
      · simp only [go_sem]
        refine CallS.inl (l1Below_inl bs hm i2 h2 pre (rest ++ [.box [.d (.int .i64 0), .nils 2], .box [.d (.int .i64 b.next), .sl (pre.length + (rest.length + 2 + 1)) 0 b.chunks.length], .arr 2 (b.chunks.map TChunk.enc) true]) _ 16 (by omega) (by omega) _ hi2 fun i3 h3 x3 a3 b3 c3 => ?_)
        simp only [go_sem]
        refine cSplit (fun q1 => ?_) (fun q1 => ?_)
        · simp only [go_sem, hput_endN, hget_endN]
          refine CallS.inl (l1PickInt_inl bs hm i3 h3 pre (rest ++ [.box [.d (.int .i64 0), .nils 2], .box [.d (.int .i64 b.next), .sl (pre.length + (rest.length + 2 + 1)) 0 b.chunks.length], .arr 2 (b.chunks.map TChunk.enc) true, .arr 1 ([-1, 30, 4611686018427387903, 4611686018427387904].map eI) true]) _ (rest.length + 3) [-1, 30, 4611686018427387903, 4611686018427387904] (by rw [hget_endN]; rfl) (by decide) (by decide) _ a3 fun i4 h4 x4 a4 b4 => ?_)
          simp only [go_sem, hput_endN, hget_endN, hget_end0, hput_end0]
          exact fin i4 h4 x4 b.chunks 2 _ a4 hok (by omega) rfl
        · simp only [go_sem]
          refine cSplit (fun q2 => ?_) (fun q2 => ?_)
          · have hne1 : ((pre.length + (rest.length + 2 + 1)) = (pre.length + (rest.length + 3 + 1))) = False := eq_false (by omega)
            have hne2 : ((pre.length + (rest.length + 3 + 1)) != (pre.length + (rest.length + 2 + 1))) = true := bne_iff_ne.2 (by omega)
            simp only [go_sem]
            refine drawX_cut (fun σ' => ∃ (i4 : Nat) (h4 x4 : Int) (i5 : Nat) (h5 : Int) (s : List UInt8), 0 ≤ x4 ∧ x4 < 20 ∧ i5 ≤ bs.length ∧ s.length ≤ 3 ∧ σ' = st13b pre rest bs m x3 i3 h3 b (List.replicate 11 true) i4 h4 x4 i5 h5 s) ?_ ?_
            · refine exE_dag (fun n S σ => (n, S) ∈ idl13 ∧ ∃ (i4 : Nat) (h4 x4 : Int) (i5 : Nat) (h5 : Int) (s : List UInt8), (S.getD 3 false = true → i4 ≤ bs.length ∧ 0 ≤ x4 ∧ x4 < 20) ∧ (S.getD 5 false = true → i5 ≤ bs.length ∧ s.length ≤ 3) ∧ σ = st13b pre rest bs m x3 i3 h3 b S i4 h4 x4 i5 h5 s) ?_ ?_ _ _ _ ⟨by decide, 0, 0, 0, 0, 0, [], (fun h => by cases h), (fun h => by cases h), rfl⟩
              · rintro S σ ⟨hS, i4, h4, x4, i5, h5, s, hg3, hg5, rfl⟩
                simp only [idl13, List.mem_cons, Prod.mk.injEq, List.not_mem_nil, or_false] at hS
                rcases hS with ⟨hn, rfl⟩ | ⟨hn, rfl⟩ | ⟨hn, rfl⟩ | ⟨hn, rfl⟩ | ⟨hn, rfl⟩ | ⟨hn, rfl⟩ | ⟨hn, rfl⟩ | ⟨hn, rfl⟩ | ⟨hn, rfl⟩ | ⟨hn, rfl⟩ | ⟨hn, rfl⟩ | ⟨hn, rfl⟩ | ⟨hn, rfl⟩ | ⟨hn, rfl⟩ | ⟨hn, rfl⟩ | ⟨hn, rfl⟩ | ⟨hn, rfl⟩ | ⟨hn, rfl⟩ | ⟨hn, rfl⟩ | ⟨hn, rfl⟩ | ⟨hn, rfl⟩ | ⟨hn, rfl⟩ | ⟨hn, rfl⟩ | ⟨hn, rfl⟩ | ⟨hn, rfl⟩ | ⟨hn, rfl⟩ | ⟨hn, rfl⟩ | ⟨hn, rfl⟩ | ⟨hn, rfl⟩ | ⟨hn, rfl⟩
                all_goals (first | exact absurd hn (by decide) | skip)
                exact ⟨rfl, i4, h4, x4, i5, h5, s, (hg3 rfl).2.1, (hg3 rfl).2.2, (hg5 rfl).1, (hg5 rfl).2, rfl⟩
              · rintro n S σ F ⟨hS, i4, h4, x4, i5, h5, s, hg3, hg5, rfl⟩ hF
                simp only [idl13, List.mem_cons, Prod.mk.injEq, List.not_mem_nil, or_false] at hS
                rcases hS with ⟨hn, rfl⟩ | ⟨hn, rfl⟩ | ⟨hn, rfl⟩ | ⟨hn, rfl⟩ | ⟨hn, rfl⟩ | ⟨hn, rfl⟩ | ⟨hn, rfl⟩ | ⟨hn, rfl⟩ | ⟨hn, rfl⟩ | ⟨hn, rfl⟩ | ⟨hn, rfl⟩ | ⟨hn, rfl⟩ | ⟨hn, rfl⟩ | ⟨hn, rfl⟩ | ⟨hn, rfl⟩ | ⟨hn, rfl⟩ | ⟨hn, rfl⟩ | ⟨hn, rfl⟩ | ⟨hn, rfl⟩ | ⟨hn, rfl⟩ | ⟨hn, rfl⟩ | ⟨hn, rfl⟩ | ⟨hn, rfl⟩ | ⟨hn, rfl⟩ | ⟨hn, rfl⟩ | ⟨hn, rfl⟩ | ⟨hn, rfl⟩ | ⟨hn, rfl⟩ | ⟨hn, rfl⟩ | ⟨hn, rfl⟩
                rotate_right 1
                · exact absurd hn (by omega)
                all_goals (
                  simp only [Nat.reduceEqDiff] at hn
                  try subst hn
                  simp only [st13b, List.getD_cons_succ, List.getD_cons_zero, cond_true, cond_false, List.append_nil, List.nil_append, List.cons_append]
                  refine dag_step rfl ?_
                  repeat' (first
                    | exact allE_nil
                    | (refine allE_cons ?_ ?_)
                    | exact hF _ _ ⟨by decide, j4, g4, y4, i5, h5, s, fun _ => ⟨a4, b4, c4⟩, hg5, rfl⟩
                    | exact hF _ _ ⟨by decide, i4, h4, x4, j5, g5, s5, hg3, fun _ => ⟨a5, b5⟩, rfl⟩
                    | exact hF _ _ ⟨by decide, i4, h4, x4, i5, h5, s, hg3, hg5, rfl⟩
                    | simp only [go_sem, hput_endN, hget_endN, List.length_map, hne1, hne2, if_false]
                    | (refine CallS.inl (l1Below_inl bs hm i3 h3 pre (rest ++ [.box [.d (.int .i64 0), .nils 2], .box [.d (.int .i64 b.next), .sl (pre.length + (rest.length + 2 + 1)) 0 b.chunks.length], .arr 2 (b.chunks.map TChunk.enc) true]) _ 20 (by omega) (by omega) _ a3 fun j4 g4 y4 a4 b4 c4 => ?_))
                    | (refine CallS.inl (l4Data_inl bs hm i4 h4 pre (rest ++ [.box [.d (.int .i64 0), .nils 2], .box [.d (.int .i64 b.next), .sl (pre.length + (rest.length + 2 + 1)) 0 b.chunks.length], .arr 2 (b.chunks.map TChunk.enc) true]) _ 3 (hro _ (by simp [roks, rok, voks, vok]; try omega)) (by
                    simp only [List.length_append, List.length_cons, List.length_nil, List.cons_append, List.nil_append, voks, vok, true_and]
                    have hq := hkv' (pre.length + (rest.length + (0 + 1 + 1 + 1) + 1)) (by omega)
                    simp only [hq, and_true]
                    omega) (by omega) _ (hg3 rfl).1 fun j5 g5 s5 a5 b5 => ?_))
                    | (refine And.intro (show (b.chunks.length + 1) * 24 ≤ 140737488355328 by omega) ?_)))
            · rintro _ ⟨i4, h4, x4, i5, h5, s, r1, r2, r3, r4, rfl⟩
              simp only [st13b, List.replicate, List.getD_cons_succ, List.getD_cons_zero, cond_true, List.nil_append, List.cons_append]
              simp only [go_sem, hput_endN, hget_endN, hget_end0, hput_end0]
              have hcs : ∀ c ∈ b.chunks ++ [⟨x4, s⟩], okC c := by
                intro c hc
                rcases List.mem_append.1 hc with hc | hc
                · exact hok c hc
                · simp only [List.mem_singleton] at hc; subst hc; simp only [okC]; omega
              have hl : (b.chunks ++ [(⟨x4, s⟩ : TChunk)]).length = b.chunks.length + 1 := by simp
              rw [← hl]
              refine fin i5 h5 b.next (b.chunks ++ [⟨x4, s⟩]) 4 _ r3 hcs (by rw [hl]; omega) ?_
              rw [List.map_append]; rfl
          · simp only [go_sem, hput_endN, hget_endN, hget_end0, hput_end0]
            exact fin i3 h3 b.next b.chunks 2 _ a3 hok (by omega) rfl
end Gv

/-
  The draw of a buffer: the function of the law.
-/
namespace Gv
open Go Go.Proofs

set_option maxRecDepth 100000 in
set_option maxHeartbeats 4000000 in
theorem DrawCellsOf_nd (bs : List Int) : NdCall Try.prog 19 [.one (.sl 1 (bs.map eU8))] (fun rs => ∃ (n : Int) (xs : List TChunk), (∀ c ∈ xs, okC c) ∧ xs.length ≤ 8 ∧ rs = [.agg [.int .i64 n, .sl 2 (xs.map TChunk.enc)]]) := by
  refine nd_ev Try.func19 rfl Try.call19 Try.checked.mixed ([.d (.sl 1 (bs.map eU8))] ++ List.replicate 5 .junk) rfl [.cell 2 26] rfl ?_
  intro ok
  have hm := len_of ok
  simp only [List.replicate, List.cons_append, List.nil_append]
  simp only [go_sem]
  refine CallS.inl (l1New_inl bs hm [.box [.d (.int .i64 0), .nils 2]] _ (by simp [roks, rok, voks, vok]) (by simp [voks, vok]) _ fun h1 => ?_)
  simp only [go_sem]
  refine CallS.inl (l6Buffer_inl bs hm 0 h1 [.box [.d (.int .i64 0), .nils 2]] [] _ 2 rfl (by simp [roks, rok, voks, vok]) (by simp [voks, vok]) _ (by omega) (fun i2 h2 nx a2 => ?_) (fun i2 h2 b a2 hok hl => ?_))
  · simp only [go_sem]
    refine ⟨_, ⟨nx, [], by simp, by simp, rfl⟩, ?_⟩
    simp only [go_sem]
  · simp only [go_sem]
    refine ⟨_, ⟨b.next, b.chunks, hok, hl, rfl⟩, ?_⟩
    simp only [go_sem]
    simp [outOA]
end Gv
