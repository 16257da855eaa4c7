/-
  The draws of numbers and texts.
-/
import Derived.Test.YtipnobdgmbohkaaCur
namespace Gv
open Go Go.Proofs

set_option maxRecDepth 100000 in
theorem l1Byte_inl (bs : List Int) (hm : bs.length ≤ maxLen) (i : Nat) (h : Int) (pre rest : List H) (kv : List V) (K : V → List H → Prop) (hi : i ≤ bs.length)
    (hk : ∀ (i' : Nat) (h' x : Int), i' ≤ bs.length → 0 ≤ x → x ≤ 255 → K (.d (.int .i64 x)) (pre ++ curB bs i' h' :: rest)) : InlCall Try.prog 37 kv (pre ++ curB bs i h :: rest) [.ptr pre.length 0 0] K := by
  refine (inl_ev (n := 58) (rs := [.tmp 2]) Try.func37 rfl Try.call37 Try.checked.mixed rfl rfl ?_)
  simp only [curB] at hk ⊢
  simp only [go_sem, hget_end0, hput_end0]
  try simp only [go_sem, hget_end0, hput_end0, List.length_map, ofv33, ofv45, shr_eq]
  repeat' (first
    | (with_reducible refine gTrueS ?_; simp only [go_sem, hget_end0, hput_end0, List.length_map, ofv33, ofv45, shr_eq]) | (with_reducible refine gFalseS ?_; simp only [go_sem, hget_end0, hput_end0, List.length_map, ofv33, ofv45, shr_eq]) | (with_reducible refine gTrue ?_; simp only [go_sem, hget_end0, hput_end0, List.length_map, ofv33, ofv45, shr_eq]) | (with_reducible refine gFalse ?_; simp only [go_sem, hget_end0, hput_end0, List.length_map, ofv33, ofv45, shr_eq])
    | (refine gSymS ?_; simp only [go_sem, hget_end0, hput_end0, List.length_map, ofv33, ofv45, shr_eq]) | (refine gSym ?_; simp only [go_sem, hget_end0, hput_end0, List.length_map, ofv33, ofv45, shr_eq])
    | (refine drawE_intro [[.post, .post, .post, .post, .post, .un, .un, .un, .un, .un, .post, .post, .post], [.pre, .post, .post, .post, .post, .un, .un, .un, .un, .un, .post, .post, .post], [.pre, .pre, .post, .post, .post, .un, .un, .un, .un, .un, .post, .post, .post], [.pre, .pre, .pre, .post, .post, .un, .un, .un, .un, .un, .post, .post, .post], [.pre, .pre, .pre, .pre, .post, .un, .un, .un, .un, .un, .post, .post, .post], [.un, .un, .un, .un, .un, .post, .post, .post, .post, .post, .post, .post, .post], [.un, .un, .un, .un, .un, .pre, .post, .post, .post, .post, .post, .post, .post], [.un, .un, .un, .un, .un, .pre, .pre, .post, .post, .post, .post, .post, .post], [.un, .un, .un, .un, .un, .pre, .pre, .pre, .post, .post, .post, .post, .post], [.un, .un, .un, .un, .un, .pre, .pre, .pre, .pre, .post, .post, .post, .post], [.pre, .pre, .pre, .pre, .pre, .pre, .pre, .pre, .pre, .pre, .post, .post, .post], [.pre, .pre, .pre, .pre, .pre, .pre, .pre, .pre, .pre, .pre, .pre, .post, .post], [.pre, .pre, .pre, .pre, .pre, .pre, .pre, .pre, .pre, .pre, .pre, .pre, .post]] (by kernel_rfl) (by rfl) ?_; simp only [go_sem, hget_end0, ofv33, ofv45, shr_eq])
    | (refine drawE_intro [[.post, .post, .post, .post, .un, .un, .un, .un, .un, .post], [.pre, .post, .post, .post, .un, .un, .un, .un, .un, .post], [.pre, .pre, .post, .post, .un, .un, .un, .un, .un, .post], [.pre, .pre, .pre, .post, .un, .un, .un, .un, .un, .post], [.un, .un, .un, .un, .post, .post, .post, .post, .post, .post], [.un, .un, .un, .un, .pre, .post, .post, .post, .post, .post], [.un, .un, .un, .un, .pre, .pre, .post, .post, .post, .post], [.un, .un, .un, .un, .pre, .pre, .pre, .post, .post, .post], [.un, .un, .un, .un, .pre, .pre, .pre, .pre, .post, .post], [.pre, .pre, .pre, .pre, .pre, .pre, .pre, .pre, .pre, .post]] (by kernel_rfl) (by rfl) ?_; simp only [go_sem, hget_end0, List.length_map])
    | (refine drawE_intro [[.post, .un, .un, .un, .un, .un, .un, .un, .un, .un, .un, .un, .post, .post, .post], [.un, .post, .post, .post, .post, .un, .un, .un, .un, .post, .post, .post, .post, .post, .post], [.un, .pre, .post, .post, .post, .un, .un, .un, .un, .post, .post, .post, .post, .post, .post], [.un, .pre, .pre, .post, .post, .un, .un, .un, .un, .post, .post, .post, .post, .post, .post], [.un, .pre, .pre, .pre, .post, .un, .un, .un, .un, .post, .post, .post, .post, .post, .post], [.un, .un, .un, .un, .un, .post, .post, .post, .post, .post, .post, .post, .post, .post, .post], [.un, .un, .un, .un, .un, .pre, .post, .post, .post, .post, .post, .post, .post, .post, .post], [.un, .un, .un, .un, .un, .pre, .pre, .post, .post, .post, .post, .post, .post, .post, .post], [.un, .un, .un, .un, .un, .pre, .pre, .pre, .post, .post, .post, .post, .post, .post, .post], [.un, .pre, .pre, .pre, .pre, .pre, .pre, .pre, .pre, .post, .post, .post, .post, .post, .post], [.un, .pre, .pre, .pre, .pre, .pre, .pre, .pre, .pre, .pre, .post, .post, .post, .post, .post], [.un, .pre, .pre, .pre, .pre, .pre, .pre, .pre, .pre, .pre, .pre, .post, .post, .post, .post], [.pre, .pre, .pre, .pre, .pre, .pre, .pre, .pre, .pre, .pre, .pre, .pre, .post, .post, .post], [.pre, .pre, .pre, .pre, .pre, .pre, .pre, .pre, .pre, .pre, .pre, .pre, .pre, .post, .post], [.pre, .pre, .pre, .pre, .pre, .pre, .pre, .pre, .pre, .pre, .pre, .pre, .pre, .pre, .post]] (by kernel_rfl) (by rfl) ?_; simp only [go_sem, hget_end0, List.length_map])
    | (refine cSplit (fun h => ?_) (fun h => ?_) <;> simp only [go_sem])
    | (with_reducible refine And.intro ?_ ?_; (focus (first | omega | (exact ⟨by omega, by omega⟩) | (simp; done) | (simp; omega)))))
  · have hlt : i < bs.length := by
      have := of_decide_eq_true h
      omega
    have hxi := map_at eU8 bs i hlt
    try simp only [go_sem, hget_end0, hput_end0, Int.toNat_natCast, hxi, eU8]
    repeat' (first
      | (with_reducible refine gTrueS ?_; simp only [go_sem, hget_end0, hput_end0, List.length_map, ofv33, ofv45, shr_eq, Int.toNat_natCast, hxi, eU8]) | (with_reducible refine gFalseS ?_; simp only [go_sem, hget_end0, hput_end0, List.length_map, ofv33, ofv45, shr_eq, Int.toNat_natCast, hxi, eU8]) | (with_reducible refine gTrue ?_; simp only [go_sem, hget_end0, hput_end0, List.length_map, ofv33, ofv45, shr_eq, Int.toNat_natCast, hxi, eU8]) | (with_reducible refine gFalse ?_; simp only [go_sem, hget_end0, hput_end0, List.length_map, ofv33, ofv45, shr_eq, Int.toNat_natCast, hxi, eU8])
      | (refine gSymS ?_; simp only [go_sem, hget_end0, hput_end0, List.length_map, ofv33, ofv45, shr_eq, Int.toNat_natCast, hxi, eU8]) | (refine gSym ?_; simp only [go_sem, hget_end0, hput_end0, List.length_map, ofv33, ofv45, shr_eq, Int.toNat_natCast, hxi, eU8])
      | (refine drawE_intro [[.post, .post, .post, .post, .post, .un, .un, .un, .un, .un, .post, .post, .post], [.pre, .post, .post, .post, .post, .un, .un, .un, .un, .un, .post, .post, .post], [.pre, .pre, .post, .post, .post, .un, .un, .un, .un, .un, .post, .post, .post], [.pre, .pre, .pre, .post, .post, .un, .un, .un, .un, .un, .post, .post, .post], [.pre, .pre, .pre, .pre, .post, .un, .un, .un, .un, .un, .post, .post, .post], [.un, .un, .un, .un, .un, .post, .post, .post, .post, .post, .post, .post, .post], [.un, .un, .un, .un, .un, .pre, .post, .post, .post, .post, .post, .post, .post], [.un, .un, .un, .un, .un, .pre, .pre, .post, .post, .post, .post, .post, .post], [.un, .un, .un, .un, .un, .pre, .pre, .pre, .post, .post, .post, .post, .post], [.un, .un, .un, .un, .un, .pre, .pre, .pre, .pre, .post, .post, .post, .post], [.pre, .pre, .pre, .pre, .pre, .pre, .pre, .pre, .pre, .pre, .post, .post, .post], [.pre, .pre, .pre, .pre, .pre, .pre, .pre, .pre, .pre, .pre, .pre, .post, .post], [.pre, .pre, .pre, .pre, .pre, .pre, .pre, .pre, .pre, .pre, .pre, .pre, .post]] (by kernel_rfl) (by rfl) ?_; simp only [go_sem, hget_end0, hput_end0, List.length_map, ofv33, ofv45, shr_eq, Int.toNat_natCast, hxi, eU8])
      | (refine drawE_intro [[.post, .post, .post, .post, .un, .un, .un, .un, .un, .post], [.pre, .post, .post, .post, .un, .un, .un, .un, .un, .post], [.pre, .pre, .post, .post, .un, .un, .un, .un, .un, .post], [.pre, .pre, .pre, .post, .un, .un, .un, .un, .un, .post], [.un, .un, .un, .un, .post, .post, .post, .post, .post, .post], [.un, .un, .un, .un, .pre, .post, .post, .post, .post, .post], [.un, .un, .un, .un, .pre, .pre, .post, .post, .post, .post], [.un, .un, .un, .un, .pre, .pre, .pre, .post, .post, .post], [.un, .un, .un, .un, .pre, .pre, .pre, .pre, .post, .post], [.pre, .pre, .pre, .pre, .pre, .pre, .pre, .pre, .pre, .post]] (by kernel_rfl) (by rfl) ?_; simp only [go_sem, hget_end0, hput_end0, List.length_map, ofv33, ofv45, shr_eq, Int.toNat_natCast, hxi, eU8])
      | (refine drawE_intro [[.post, .un, .un, .un, .un, .un, .un, .un, .un, .un, .un, .un, .post, .post, .post], [.un, .post, .post, .post, .post, .un, .un, .un, .un, .post, .post, .post, .post, .post, .post], [.un, .pre, .post, .post, .post, .un, .un, .un, .un, .post, .post, .post, .post, .post, .post], [.un, .pre, .pre, .post, .post, .un, .un, .un, .un, .post, .post, .post, .post, .post, .post], [.un, .pre, .pre, .pre, .post, .un, .un, .un, .un, .post, .post, .post, .post, .post, .post], [.un, .un, .un, .un, .un, .post, .post, .post, .post, .post, .post, .post, .post, .post, .post], [.un, .un, .un, .un, .un, .pre, .post, .post, .post, .post, .post, .post, .post, .post, .post], [.un, .un, .un, .un, .un, .pre, .pre, .post, .post, .post, .post, .post, .post, .post, .post], [.un, .un, .un, .un, .un, .pre, .pre, .pre, .post, .post, .post, .post, .post, .post, .post], [.un, .pre, .pre, .pre, .pre, .pre, .pre, .pre, .pre, .post, .post, .post, .post, .post, .post], [.un, .pre, .pre, .pre, .pre, .pre, .pre, .pre, .pre, .pre, .post, .post, .post, .post, .post], [.un, .pre, .pre, .pre, .pre, .pre, .pre, .pre, .pre, .pre, .pre, .post, .post, .post, .post], [.pre, .pre, .pre, .pre, .pre, .pre, .pre, .pre, .pre, .pre, .pre, .pre, .post, .post, .post], [.pre, .pre, .pre, .pre, .pre, .pre, .pre, .pre, .pre, .pre, .pre, .pre, .pre, .post, .post], [.pre, .pre, .pre, .pre, .pre, .pre, .pre, .pre, .pre, .pre, .pre, .pre, .pre, .pre, .post]] (by kernel_rfl) (by rfl) ?_; simp only [go_sem, hget_end0, hput_end0, List.length_map, ofv33, ofv45, shr_eq, Int.toNat_natCast, hxi, eU8])
      | (refine cSplit (fun h => ?_) (fun h => ?_) <;> simp only [go_sem, hget_end0, hput_end0, List.length_map, ofv33, ofv45, shr_eq, Int.toNat_natCast, hxi, eU8])
      | (with_reducible refine And.intro ?_ ?_; (focus (first | omega | (exact ⟨by omega, by omega⟩) | (simp; done) | (simp; omega)))))
    rw [inc hlt hm]
    exact hk _ _ _ (by omega) (and255 _).1 (and255 _).2
  · exact hk _ _ _ hi (and255 _).1 (and255 _).2

theorem tmod_in {x n : Int} (hx : 0 ≤ x) (hn : 0 < n) : 0 ≤ x.tmod n ∧ x.tmod n < n := ⟨Int.tmod_nonneg _ hx, Int.tmod_lt_of_pos _ hn⟩

set_option maxRecDepth 100000 in
theorem l1Below_inl (bs : List Int) (hm : bs.length ≤ maxLen) (i : Nat) (h : Int) (pre rest : List H) (kv : List V) (n : Int) (hn : 0 < n) (hn2 : n ≤ 4294967296) (K : V → List H → Prop) (hi : i ≤ bs.length)
    (hk : ∀ (i' : Nat) (h' x : Int), i' ≤ bs.length → 0 ≤ x → x < n → K (.d (.int .i64 x)) (pre ++ curB bs i' h' :: rest)) : InlCall Try.prog 24 kv (pre ++ curB bs i h :: rest) [.ptr pre.length 0 0, .d (.int .i64 n)] K := by
  refine (inl_ev (n := 37) (rs := [.tmp 4]) Try.func24 rfl Try.call24 Try.checked.mixed rfl rfl ?_)
  simp only [go_sem]
  refine cSplit (fun h1 => ?_) (fun _ => ?_)
  · have := of_decide_eq_true h1; omega
  simp only [go_sem]
  refine cSplit (fun _ => ?_) (fun h1 => ?_)
  · simp only [go_sem]
    refine CallS.inl (l1Byte_inl bs hm i h pre rest _ _ hi fun i1 h1 x1 a1 b1 c1 => ?_)
    simp only [go_sem]
    refine ⟨by omega, ?_⟩
    have := tmod_in b1 hn
    exact hk _ _ _ a1 this.1 this.2
  · have hb := of_decide_eq_false h1
    simp only [go_sem]
    refine CallS.inl (l1Byte_inl bs hm i h pre rest _ _ hi fun i1 h1 x1 a1 b1 c1 => ?_)
    simp only [go_sem]
    refine CallS.inl (l1Byte_inl bs hm i1 h1 pre rest _ _ a1 fun i2 h2 x2 a2 b2 c2 => ?_)
    simp only [go_sem]
    refine CallS.inl (l1Byte_inl bs hm i2 h2 pre rest _ _ a2 fun i3 h3 x3 a3 b3 c3 => ?_)
    simp only [go_sem]
    refine CallS.inl (l1Byte_inl bs hm i3 h3 pre rest _ _ a3 fun i4 h4 x4 a4 b4 c4 => ?_)
    simp only [go_sem]
    refine ⟨by omega, ?_⟩
    rw [w64 (n := x1 * 16777216) (by omega) (by omega), w64 (n := x2 * 65536) (by omega) (by omega), w64 (n := x3 * 256) (by omega) (by omega), w64 (n := x1 * 16777216 + x2 * 65536) (by omega) (by omega), w64 (n := x1 * 16777216 + x2 * 65536 + x3 * 256) (by omega) (by omega), w64 (n := x1 * 16777216 + x2 * 65536 + x3 * 256 + x4) (by omega) (by omega)]
    have := tmod_in (x := x1 * 16777216 + x2 * 65536 + x3 * 256 + x4) (by omega) hn
    exact hk _ _ _ a4 this.1 this.2

set_option maxRecDepth 100000 in
theorem l1Once_inl (bs : List Int) (hm : bs.length ≤ maxLen) (i : Nat) (h : Int) (pre rest : List H) (kv : List V) (n : Int) (hn : 0 < n) (hn2 : n ≤ 4294967296) (K : V → List H → Prop) (hi : i ≤ bs.length)
    (hk : ∀ (i' : Nat) (h' : Int) (b : Bool), i' ≤ bs.length → K (.d (.bool b)) (pre ++ curB bs i' h' :: rest)) : InlCall Try.prog 33 kv (pre ++ curB bs i h :: rest) [.ptr pre.length 0 0, .d (.int .i64 n)] K := by
  refine (inl_ev (n := 9) (rs := [.tmp 4]) Try.func33 rfl Try.call33 Try.checked.mixed rfl rfl ?_)
  simp only [go_sem]
  refine CallS.inl (l1Below_inl bs hm i h pre rest _ n hn hn2 _ hi fun i1 h1 x1 a1 b1 c1 => ?_)
  simp only [go_sem]
  exact hk _ _ _ a1

set_option maxRecDepth 100000 in
theorem l1PickInt_inl (bs : List Int) (hm : bs.length ≤ maxLen) (i : Nat) (h : Int) (pre rest : List H) (kv : List V) (id : Nat) (xs : List Int) (he : hget rest id = .arr 1 (xs.map eI) true) (hn : 0 < xs.length) (hn2 : xs.length ≤ 1000) (K : V → List H → Prop) (hi : i ≤ bs.length)
    (hk : ∀ (i' : Nat) (h' x : Int), i' ≤ bs.length → x ∈ xs → K (.d (.int .i64 x)) (pre ++ curB bs i' h' :: rest)) : InlCall Try.prog 36 kv (pre ++ curB bs i h :: rest) [.ptr pre.length 0 0, .sl (pre.length + (id + 1)) 0 xs.length] K := by
  refine (inl_ev (n := 12) (rs := [.tmp 4]) Try.func36 rfl Try.call36 Try.checked.mixed rfl rfl ?_)
  simp only [go_sem]
  refine CallS.inl (l1Below_inl bs hm i h pre rest _ xs.length (by omega) (by omega) _ hi fun i1 h1 x1 a1 b1 c1 => ?_)
  obtain ⟨k, rfl⟩ := Int.eq_ofNat_of_zero_le b1
  have hlt : k < xs.length := by omega
  have hxi := map_at eI xs k hlt
  simp only [go_sem, hget_endN, he, hxi, Int.toNat_natCast, List.length_map, eI]
  refine ⟨⟨by omega, by omega⟩, ?_⟩
  exact ⟨hlt, hk _ _ _ a1 (List.getElem_mem hlt)⟩

set_option maxRecDepth 100000 in
theorem l1Pick_inl (bs : List Int) (hm : bs.length ≤ maxLen) (i : Nat) (h : Int) (pre rest : List H) (kv : List V) (id : Nat) (xs : List (List UInt8)) (he : hget rest id = .arr 1 (xs.map eS) true) (hn : 0 < xs.length) (hn2 : xs.length ≤ 1000) (K : V → List H → Prop) (hi : i ≤ bs.length)
    (hk : ∀ (i' : Nat) (h' : Int) (x : List UInt8), i' ≤ bs.length → x ∈ xs → K (.d (.str x)) (pre ++ curB bs i' h' :: rest)) : InlCall Try.prog 38 kv (pre ++ curB bs i h :: rest) [.ptr pre.length 0 0, .sl (pre.length + (id + 1)) 0 xs.length] K := by
  refine (inl_ev (n := 12) (rs := [.tmp 4]) Try.func38 rfl Try.call38 Try.checked.mixed rfl rfl ?_)
  simp only [go_sem]
  refine CallS.inl (l1Below_inl bs hm i h pre rest _ xs.length (by omega) (by omega) _ hi fun i1 h1 x1 a1 b1 c1 => ?_)
  obtain ⟨k, rfl⟩ := Int.eq_ofNat_of_zero_le b1
  have hlt : k < xs.length := by omega
  have hxi := map_at eS xs k hlt
  simp only [go_sem, hget_endN, he, hxi, Int.toNat_natCast, List.length_map, eS]
  refine ⟨⟨by omega, by omega⟩, ?_⟩
  exact ⟨hlt, hk _ _ _ a1 (List.getElem_mem hlt)⟩


theorem len_le_of_mem {x : List UInt8} (h : x ∈ [[97], [98], [99], [100]]) : x.length = 1 := by
  simp only [List.mem_cons, List.not_mem_nil, or_false] at h
  rcases h with rfl | rfl | rfl | rfl <;> rfl

theorem voks_tail {m : Nat} {v : V} {vs : List V} (h : vok m v) (k : voks m vs) : voks m (v :: vs) := by simp only [voks]; exact ⟨h, k⟩
set_option maxRecDepth 100000 in
theorem l4Data_inl (bs : List Int) (hm : bs.length ≤ maxLen) (i : Nat) (h : Int) (pre rest : List H) (kv : List V) (most : Nat) (hr : roks (pre.length + (rest.length + 1)) pre ∧ roks (pre.length + (rest.length + 1)) rest) (hkv : voks (pre.length + (rest.length + 1)) kv) (hb : most ≤ 1000) (K : V → List H → Prop) (hi : i ≤ bs.length)
    (hk : ∀ (i' : Nat) (h' : Int) (s : List UInt8), i' ≤ bs.length → s.length ≤ most → K (.d (.str s)) (pre ++ curB bs i' h' :: rest)) : InlCall Try.prog 25 kv (pre ++ curB bs i h :: rest) [.ptr pre.length 0 0, .d (.int .i64 most)] K := by
  refine (inl_ev (n := 21) (rs := [.tmp 4]) Try.func25 rfl Try.call25 Try.checked.mixed rfl rfl ?_)
  simp only [go_sem]
  rw [w64 (n := (most : Int) + 1) (by omega) (by omega)]
  refine CallS.inl (l1Below_inl bs hm i h pre rest _ ((most : Int) + 1) (by omega) (by omega) _ hi fun i1 h1 x1 a1 b1 c1 => ?_)
  obtain ⟨k, rfl⟩ := Int.eq_ofNat_of_zero_le b1
  simp only [go_sem]
  refine LoopK.intro (α := Nat × Int × Nat × List UInt8) (fun y => ⟨[.ptr pre.length 0 0, .d (.int .i64 most), .junk, .junk, .d (.str []), .d (.str y.2.2.2), .d (.int .i64 y.2.2.1), .junk, .junk, .junk, .junk, .junk, .junk, .junk, .junk, .junk, .junk, .junk, .junk, .junk, .junk], pre ++ curB bs y.1 y.2.1 :: rest⟩)
    (fun y => y.2.2.1) (fun y => y.1 ≤ bs.length ∧ y.2.2.1 + y.2.2.2.length ≤ most) (i1, h1, k, []) (List.range (pre.length + (rest.length + 1))) ⟨a1, by simp; omega⟩ ?_ ?_
  · exact see_cur0 hr hkv (by simp [vsees, vsee, ren]) (by simp [voks, vok])
  · rintro ⟨i2, h2, n, s⟩ ⟨hi2, hs⟩
    simp only at hs
    simp only [go_sem]
    refine cSplit (fun q => ?_) (fun q => ?_)
    · have hn := of_decide_eq_true q
      simp only [go_sem, hput_end, hput_endN]
      refine CallS.inl (l1Pick_inl bs hm i2 h2 pre (rest ++ [.arr 1 ([[97], [98], [99], [100]].map eS) true]) _ rest.length [[97], [98], [99], [100]] (by rw [hget_end0]; rfl) (by decide) (by decide) _ hi2 fun i3 h3 x a3 b3 => ?_)
      have hl := len_le_of_mem b3
      simp only [go_sem]
      refine ⟨by simp only [maxLen]; omega, ?_⟩
      rw [w64 (n := (n : Int) - 1) (by omega) (by omega)]
      refine RoundE.intro (i3, h3, n - 1, s ++ x) (List.range (pre.length + (rest.length + 1))) ⟨a3, by simp only [List.length_append]; omega⟩ (show n - 1 < n by omega) ?_
      have e : ((n - 1 : Nat) : Int) = (n : Int) - 1 := by omega
      simp only [e]
      exact see_cur hr hkv (by simp [vsees, vsee, ren]) (by simp [voks, vok])
    · simp only [go_sem]
      exact hk _ _ _ hi2 (by omega)

set_option maxRecDepth 100000 in
theorem l1New_inl (bs : List Int) (hm : bs.length ≤ maxLen) (pre : List H) (kv : List V) (hr : roks pre.length pre) (hkv : voks pre.length kv) (K : V → List H → Prop)
    (hk : ∀ (h' : Int), K (.ptr pre.length 0 0) (pre ++ [curB bs 0 h'])) : InlCall Try.prog 22 kv pre [.d (.sl 1 (bs.map eU8))] K := by
  refine (inl_ev (n := 32) (rs := [.tmp 2]) Try.func22 rfl Try.call22 Try.checked.mixed rfl rfl ?_)
  simp only [go_sem, List.length_map]
  refine LoopK.intro (α := Nat × Int) (fun y => ⟨[.d (.sl 1 (bs.map eU8)), .junk, .junk, .d (.int .i64 y.2), .d (.int .i64 y.1), .junk, .junk, .junk, .junk, .junk, .junk, .junk, .junk, .junk, .junk, .junk, .junk, .junk, .junk, .junk, .junk, .junk, .junk, .junk, .junk, .junk, .junk, .junk, .junk, .junk, .junk, .junk], pre⟩)
    (fun y => bs.length - y.1) (fun y => y.1 ≤ bs.length) (0, IntKind.i64.wrap (10101 + (bs.length : Int))) (List.range pre.length) (by simp) ?_ ?_
  · exact see_keep0 hr hkv (by simp [vsees, vsee, ren]) (by simp [voks, vok])
  · rintro ⟨i, g⟩ hi
    simp only at hi
    simp only [go_sem, List.length_map]
    try simp only [go_sem, List.length_map]
    repeat' (first
      | (with_reducible refine gTrueS ?_; simp only [go_sem, List.length_map]) | (with_reducible refine gFalseS ?_; simp only [go_sem, List.length_map]) | (with_reducible refine gTrue ?_; simp only [go_sem, List.length_map]) | (with_reducible refine gFalse ?_; simp only [go_sem, List.length_map])
      | (refine gSymS ?_; simp only [go_sem]) | (refine gSym ?_; simp only [go_sem, List.length_map])
      | (refine cSplit (fun h => ?_) (fun h => ?_) <;> simp only [go_sem, List.length_map])
      | (with_reducible refine And.intro ?_ ?_; (focus (first | omega | (exact ⟨by omega, by omega⟩) | (simp; done) | (simp; omega)))))
    · have hlt : i < bs.length := by
        rcases Nat.lt_or_ge i bs.length with hlt | hge
        · exact hlt
        · rw [decide_eq_false (by omega)] at h; cases h
      have hxi := map_at eU8 bs i hlt
      try simp only [go_sem, hxi, Int.toNat_natCast, eU8]
      repeat' (first
        | (with_reducible refine gTrueS ?_; simp only [go_sem, List.length_map, hxi, Int.toNat_natCast, eU8]) | (with_reducible refine gFalseS ?_; simp only [go_sem, List.length_map, hxi, Int.toNat_natCast, eU8]) | (with_reducible refine gTrue ?_; simp only [go_sem, List.length_map, hxi, Int.toNat_natCast, eU8]) | (with_reducible refine gFalse ?_; simp only [go_sem, List.length_map, hxi, Int.toNat_natCast, eU8])
        | (refine gSymS ?_; simp only [go_sem, List.length_map, hxi, Int.toNat_natCast, eU8]) | (refine gSym ?_; simp only [go_sem, List.length_map, hxi, Int.toNat_natCast, eU8])
        | (refine cSplit (fun h => ?_) (fun h => ?_) <;> simp only [go_sem, List.length_map, hxi, Int.toNat_natCast, eU8])
        | (with_reducible refine And.intro ?_ ?_; (focus (first | omega | (exact ⟨by omega, by omega⟩) | (simp; done) | (simp; omega)))))
      rw [inc hlt hm]
      refine RoundE.intro (i + 1, bitI .and .i64 (IntKind.i64.wrap (IntKind.i64.wrap (IntKind.i64.wrap (g * 131) + IntKind.i64.wrap bs[i]) + 7)) 1073741823) (List.range pre.length) (show i + 1 ≤ bs.length by omega) (show bs.length - (i + 1) < bs.length - i by omega) ?_
      exact see_keep0 hr hkv (by simp [vsees, vsee, ren]) (by simp [voks, vok])
    · rw [hput_end]; exact hk _
end Gv
