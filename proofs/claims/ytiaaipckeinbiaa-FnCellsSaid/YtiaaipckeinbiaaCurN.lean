/-
  The cursor of the draws: whatever a draw gives lies within its bounds.
-/
import Derived.Test.YtiaaipckeinbiaaNd
namespace Gv
open Go Go.Proofs

theorem ofv33 : ofVal (.int .u64 33) = .d (.int .u64 33) := rfl
theorem ofv45 : ofVal (.int .u64 45) = .d (.int .u64 45) := rfl
theorem shr_eq (k : IntKind) (x y : Int) : shI .shr k x y = some (0 ≤ y, .d (.int k (x.fdiv (2 ^ min y.toNat k.bits)))) := rfl
theorem and255 (x : Int) : 0 ≤ bitI .and .i64 x 255 ∧ bitI .and .i64 x 255 ≤ 255 := by
  have h : ((BitVec.ofInt IntKind.i64.bits x &&& BitVec.ofInt IntKind.i64.bits 255).toNat : Int) ≤ 255 := by
    have : (BitVec.ofInt IntKind.i64.bits x &&& BitVec.ofInt IntKind.i64.bits 255).toNat ≤ 255 := by
      rw [BitVec.toNat_and]
      exact Nat.le_trans Nat.and_le_right (by decide)
    omega
  have e : bitI .and .i64 x 255 = ((BitVec.ofInt IntKind.i64.bits x &&& BitVec.ofInt IntKind.i64.bits 255).toNat : Int) := by
    unfold bitI
    simp only
    rw [w64] <;> omega
  rw [e]
  omega

/-- A cursor: its bytes, its place, its number. -/
def curB (bs : List Int) (i : Nat) (h : Int) : H := .box [.d (.sl 1 (bs.map eU8)), .d (.int .i64 i), .d (.int .i64 h)]

theorem hput_end (hs : List H) (x : H) : hput hs hs.length x = hs ++ [x] := by unfold hput; simp
theorem hput_endN (hs ys : List H) (n : Nat) (x : H) : hput (hs ++ ys) (hs.length + n) x = hs ++ hput ys n x := by
  unfold hput
  by_cases h : n < ys.length
  · simp [h]
  · simp [h, Nat.add_sub_add_left]
theorem hput_end0 (hs ys : List H) (x : H) : hput (hs ++ ys) hs.length x = hs ++ hput ys 0 x := hput_endN hs ys 0 x
theorem hget_endN (hs ys : List H) (n : Nat) : hget (hs ++ ys) (hs.length + n) = hget ys n := by
  unfold hget
  rw [List.getD_eq_getElem?_getD, List.getD_eq_getElem?_getD, List.getElem?_append_right (by omega), Nat.add_sub_cancel_left]
theorem hget_end0 (hs ys : List H) : hget (hs ++ ys) hs.length = hget ys 0 := hget_endN hs ys 0

/-- A renaming that leaves the first m entries where they are. -/
def Fix (ρ : List Nat) (m : Nat) : Prop := ∀ i, i < m → ρ.getD i 0 = i
theorem fix_range {m n : Nat} (h : m ≤ n) : Fix (List.range n) m := fun i hi => by
  have : i < n := by omega
  simp [this]
theorem fix_range_app {m n : Nat} (h : m ≤ n) (r : List Nat) : Fix (List.range n ++ r) m := fun i hi => by
  have : i < n := by omega
  rw [List.getD_eq_getElem?_getD, List.getElem?_append_left (by simpa using this)]
  simp [this]

mutual
theorem ren_fix {ρ : List Nat} {m : Nat} (hf : Fix ρ m) : ∀ (v : V), vok m v → ren ρ v = v
  | .junk, _ => rfl
  | .d _, _ => rfl
  | .nils _, _ => rfl
  | .agg vs, h => by simp only [vok] at h; simp only [ren, rens_fix hf vs h]
  | .ptr id _ _, h => by simp only [vok] at h; simp only [ren, hf id h]
  | .rp _ _, _ => rfl
  | .sl id _ _, h => by simp only [vok] at h; simp only [ren, hf id h]
  | .fn _ vs, h => by simp only [vok] at h; simp only [ren, rens_fix hf vs h]
  | .tup vs, h => by simp only [vok] at h; simp only [ren, rens_fix hf vs h]
  | .gd _ v, h => by simp only [vok] at h; simp only [ren, ren_fix hf v h]
theorem rens_fix {ρ : List Nat} {m : Nat} (hf : Fix ρ m) : ∀ (vs : List V), voks m vs → rens ρ vs = vs
  | [], _ => rfl
  | v :: vs, h => by simp only [voks] at h; simp only [rens, ren_fix hf v h.1, rens_fix hf vs h.2]
end

mutual
theorem vok_mono {m n : Nat} (h : m ≤ n) : ∀ (v : V), vok m v → vok n v
  | .junk, _ => by simp [vok]
  | .d _, _ => by simp [vok]
  | .nils _, _ => by simp [vok]
  | .agg vs, k => by simp only [vok] at k ⊢; exact voks_mono h vs k
  | .ptr id _ _, k => by simp only [vok] at k ⊢; omega
  | .rp _ _, _ => by simp [vok]
  | .sl id _ _, k => by simp only [vok] at k ⊢; omega
  | .fn _ vs, k => by simp only [vok] at k ⊢; exact voks_mono h vs k
  | .tup vs, k => by simp only [vok] at k ⊢; exact voks_mono h vs k
  | .gd _ v, k => by simp only [vok] at k ⊢; exact vok_mono h v k
theorem voks_mono {m n : Nat} (h : m ≤ n) : ∀ (vs : List V), voks m vs → voks n vs
  | [], _ => by simp [voks]
  | v :: vs, k => by simp only [voks] at k ⊢; exact ⟨vok_mono h v k.1, voks_mono h vs k.2⟩
end
theorem voks_append {m : Nat} : ∀ {xs ys : List V}, voks m xs → voks m ys → voks m (xs ++ ys)
  | [], _, _, h => h
  | x :: xs, ys, h, k => by simp only [voks] at h; simp only [List.cons_append, voks]; exact ⟨h.1, voks_append h.2 k⟩
/-- Entries that may be handed on as they are. -/
def rok (m : Nat) : H → Prop
  | .box cs => voks m cs
  | .win _ _ _ _ => False
  | _ => True
def roks (m : Nat) : List H → Prop
  | [] => True
  | x :: xs => rok m x ∧ roks m xs
theorem rok_mono {m n : Nat} (h : m ≤ n) (x : H) (k : rok m x) : rok n x := by
  unfold rok at *
  split at k
  · exact voks_mono h _ k
  · exact k.elim
  · trivial
theorem roks_mono {m n : Nat} (h : m ≤ n) : ∀ {xs : List H}, roks m xs → roks n xs
  | [], _ => trivial
  | x :: xs, k => ⟨rok_mono h x k.1, roks_mono h k.2⟩
theorem roks_append {m : Nat} : ∀ {xs ys : List H}, roks m xs → roks m ys → roks m (xs ++ ys)
  | [], _, _, h => h
  | x :: xs, ys, h, k => ⟨h.1, roks_append h.2 k⟩
theorem roks_allOk {m : Nat} : ∀ {xs : List H}, roks m xs → allOk m xs
  | [], _ => trivial
  | x :: xs, k => ⟨by cases x <;> first | exact k.1 | trivial, roks_allOk k.2⟩
theorem vsee_fix {ρ : List Nat} {m : Nat} (hf : Fix ρ m) {v : V} (h : vok m v) : vsee ρ v v := by
  unfold vsee
  split
  · trivial
  · exact ren_fix hf _ h
theorem kvOk_fix {ρ : List Nat} {m n : Nat} (hf : Fix ρ m) (hn : m ≤ n) : ∀ {kv : List V}, voks m kv → kvOk ρ n kv
  | [], _ => trivial
  | v :: vs, h => by
    simp only [voks] at h
    exact ⟨⟨vsee_fix hf h.1, vok_mono hn v h.1⟩, kvOk_fix hf hn h.2⟩
theorem vsees_fix {ρ : List Nat} {m : Nat} (hf : Fix ρ m) : ∀ {vs : List V}, voks m vs → vsees ρ vs vs
  | [], _ => trivial
  | v :: vs, h => by simp only [voks] at h; exact ⟨vsee_fix hf h.1, vsees_fix hf h.2⟩
theorem hsee_fix {ρ : List Nat} {m : Nat} (hf : Fix ρ m) : ∀ {x : H}, rok m x → hsee ρ x x
  | .dead, _ => trivial
  | .box cs, h => by simp only [hsee]; exact vsees_fix hf h
  | .arr _ _ _, _ => ⟨rfl, rfl, rfl⟩
  | .ro _ _, _ => ⟨rfl, rfl⟩
  | .cln _ _, _ => ⟨rfl, rfl⟩
theorem hsees_fix {ρ : List Nat} {m : Nat} (hf : Fix ρ m) (hs : List H) : ∀ (is : List Nat) (xs : List H), is.length = xs.length → (∀ k, k < xs.length → ∃ x, xs[k]? = some x ∧ hget hs (is.getD k 0) = x ∧ rok m x) → hsees ρ hs is xs
  | [], [], _, _ => trivial
  | i :: is, x :: xs, hl, h => by
    refine ⟨?_, hsees_fix hf hs is xs (by simpa using hl) fun k hk => ?_⟩
    · obtain ⟨y, h1, h2, h3⟩ := h 0 (by simp)
      simp only [List.getElem?_cons_zero, Option.some.injEq] at h1
      subst h1
      simp only [List.getD_cons_zero] at h2
      rw [h2]; exact hsee_fix hf h3
    · obtain ⟨y, h1, h2, h3⟩ := h (k + 1) (by simpa using hk)
      exact ⟨y, by simpa using h1, by simpa using h2, h3⟩
theorem roks_at {m : Nat} : ∀ {xs : List H} {k : Nat} {x : H}, roks m xs → xs[k]? = some x → rok m x
  | [], _, _, _, h => by simp at h
  | y :: ys, 0, x, k, h => by simp at h; subst h; exact k.1
  | y :: ys, n + 1, x, k, h => roks_at (xs := ys) k.2 (by simpa using h)
theorem hget_some {hs : List H} {i : Nat} {x : H} (h : hs[i]? = some x) : hget hs i = x := by unfold hget; rw [List.getD_eq_getElem?_getD, h]; rfl

/-- What came behind is forgotten. -/
theorem see_keep {kv ts ts' : List V} {hs ex : List H} (hr : roks hs.length hs) (hkv : voks hs.length kv) (ht : vsees (List.range hs.length) ts' ts) (ht' : voks hs.length ts') : seeE kv (List.range hs.length) ⟨ts, hs ++ ex⟩ ⟨ts', hs⟩ := by
  have hf : Fix (List.range hs.length) hs.length := fix_range (Nat.le_refl _)
  refine ⟨List.nodup_range, ht, hsees_fix hf _ _ _ (by simp) fun k hk => ?_, ht', roks_allOk hr, kvOk_fix hf (Nat.le_refl _) hkv⟩
  refine ⟨hs[k], List.getElem?_eq_getElem hk, ?_, roks_at hr (List.getElem?_eq_getElem hk)⟩
  have : (List.range hs.length).getD k 0 = k := hf k hk
  rw [this]
  exact hget_some (by rw [List.getElem?_append_left hk]; exact List.getElem?_eq_getElem hk)
theorem see_keep0 {kv ts ts' : List V} {hs : List H} (hr : roks hs.length hs) (hkv : voks hs.length kv) (ht : vsees (List.range hs.length) ts' ts) (ht' : voks hs.length ts') : seeE kv (List.range hs.length) ⟨ts, hs⟩ ⟨ts', hs⟩ := by
  have := see_keep (ex := []) hr hkv ht ht'
  rwa [List.append_nil] at this
/-- What came behind is forgotten but one entry. -/
theorem see_keep1 {kv ts ts' : List V} {hs ex : List H} {x : H} (k : Nat) (hx : ex[k]? = some x) (hr : roks hs.length hs) (hrx : rok hs.length x) (hkv : voks hs.length kv) (ht : vsees (List.range hs.length ++ [hs.length + k]) ts' ts) (ht' : voks (hs.length + 1) ts') :
    seeE kv (List.range hs.length ++ [hs.length + k]) ⟨ts, hs ++ ex⟩ ⟨ts', hs ++ [x]⟩ := by
  have hf : Fix (List.range hs.length ++ [hs.length + k]) hs.length := fix_range_app (Nat.le_refl _) _
  have hl : (hs ++ [x]).length = hs.length + 1 := by simp
  refine ⟨?_, ht, hsees_fix hf _ _ _ (by simp) fun j hj => ?_, by rw [hl]; exact ht', ?_, by rw [hl]; exact kvOk_fix hf (by omega) hkv⟩
  · rw [List.nodup_append]
    refine ⟨List.nodup_range, by simp, fun a ha b hb => ?_⟩
    simp at ha hb; omega
  · rw [hl] at hj
    by_cases h : j < hs.length
    · refine ⟨hs[j], by rw [List.getElem?_append_left h]; exact List.getElem?_eq_getElem h, ?_, roks_at hr (List.getElem?_eq_getElem h)⟩
      rw [hf j h]
      exact hget_some (by rw [List.getElem?_append_left h]; exact List.getElem?_eq_getElem h)
    · have : j = hs.length := by omega
      subst this
      refine ⟨x, by simp, ?_, hrx⟩
      have e : (List.range hs.length ++ [hs.length + k]).getD hs.length 0 = hs.length + k := by
        rw [List.getD_eq_getElem?_getD, List.getElem?_append_right (by simp)]; simp
      rw [e]
      exact hget_some (by rw [List.getElem?_append_right (by omega), Nat.add_sub_cancel_left]; exact hx)
  · rw [hl]
    exact roks_allOk (roks_append (roks_mono (by omega) hr) ⟨rok_mono (by omega) x hrx, trivial⟩)

theorem rok_cur (m : Nat) (bs : List Int) (i : Nat) (h : Int) : rok m (curB bs i h) := by simp [curB, rok, voks, vok]
theorem see_cur {bs : List Int} {i : Nat} {h : Int} {pre rest ex : List H} {kv ts ts' : List V} (hr : roks (pre.length + (rest.length + 1)) pre ∧ roks (pre.length + (rest.length + 1)) rest) (hkv : voks (pre.length + (rest.length + 1)) kv) (ht : vsees (List.range (pre.length + (rest.length + 1))) ts' ts) (ht' : voks (pre.length + (rest.length + 1)) ts') : seeE kv (List.range (pre.length + (rest.length + 1))) ⟨ts, pre ++ curB bs i h :: (rest ++ ex)⟩ ⟨ts', pre ++ curB bs i h :: rest⟩ := by
  have e : (pre ++ curB bs i h :: rest).length = pre.length + (rest.length + 1) := by simp
  have := see_keep (hs := pre ++ curB bs i h :: rest) (ex := ex) (ts := ts) (ts' := ts') (kv := kv) (by rw [e]; exact roks_append hr.1 ⟨rok_cur _ _ _ _, hr.2⟩) (by rw [e]; exact hkv) (by rw [e]; exact ht) (by rw [e]; exact ht')
  rw [e, List.append_assoc] at this
  exact this
theorem see_cur0 {bs : List Int} {i : Nat} {h : Int} {pre rest : List H} {kv ts ts' : List V} (hr : roks (pre.length + (rest.length + 1)) pre ∧ roks (pre.length + (rest.length + 1)) rest) (hkv : voks (pre.length + (rest.length + 1)) kv) (ht : vsees (List.range (pre.length + (rest.length + 1))) ts' ts) (ht' : voks (pre.length + (rest.length + 1)) ts') : seeE kv (List.range (pre.length + (rest.length + 1))) ⟨ts, pre ++ curB bs i h :: rest⟩ ⟨ts', pre ++ curB bs i h :: rest⟩ := by
  have := see_cur (bs := bs) (i := i) (h := h) (ex := []) hr hkv ht ht'
  rwa [List.append_nil] at this
theorem see_cur1 {bs : List Int} {i : Nat} {h : Int} {pre rest ex : List H} {x : H} (k : Nat) {kv ts ts' : List V} (hx : ex[k]? = some x) (hrx : rok (pre.length + (rest.length + 1)) x) (hr : roks (pre.length + (rest.length + 1)) pre ∧ roks (pre.length + (rest.length + 1)) rest) (hkv : voks (pre.length + (rest.length + 1)) kv) (ht : vsees (List.range (pre.length + (rest.length + 1)) ++ [pre.length + (rest.length + 1) + k]) ts' ts) (ht' : voks (pre.length + (rest.length + 1) + 1) ts') : seeE kv (List.range (pre.length + (rest.length + 1)) ++ [pre.length + (rest.length + 1) + k]) ⟨ts, pre ++ curB bs i h :: (rest ++ ex)⟩ ⟨ts', pre ++ curB bs i h :: (rest ++ [x])⟩ := by
  have e : (pre ++ curB bs i h :: rest).length = pre.length + (rest.length + 1) := by simp
  have := see_keep1 (hs := pre ++ curB bs i h :: rest) (ex := ex) (ts := ts) (ts' := ts') (kv := kv) k hx (by rw [e]; exact roks_append hr.1 ⟨rok_cur _ _ _ _, hr.2⟩) (by rw [e]; exact hrx) (by rw [e]; exact hkv) (by rw [e]; exact ht) (by rw [e]; exact ht')
  rw [e, List.append_assoc, List.append_assoc] at this
  exact this
theorem rangeP (p r : Nat) : (List.range (p + (r + 1))).getD p 0 = p := fix_range (Nat.le_refl _) p (by omega)
theorem rangeAP (p r : Nat) (l : List Nat) : (List.range (p + (r + 1)) ++ l).getD p 0 = p := fix_range_app (Nat.le_refl _) l p (by omega)
theorem rangeA1 (n k : Nat) (l : List Nat) : (List.range n ++ k :: l).getD n 0 = k := by
  rw [List.getD_eq_getElem?_getD, List.getElem?_append_right (by simp)]; simp

def SeeX (kv : List V) (K : V → List H → Prop) (x : V) (hs' : List H) : Prop := ∃ ρ x2 hs2, seeE kv ρ ⟨[x], hs'⟩ ⟨[x2], hs2⟩ ∧ K x2 hs2
/-- What a call leaves may be seen otherwise. -/
theorem InlCall.see {P : Program} {f : FuncId} {kv : List V} {hs : List H} {vs : List V} {K : V → List H → Prop} (h : InlCall P f kv hs vs (SeeX kv K)) : InlCall P f kv hs vs K := by
  intro B w0 kp us w hkv hR
  exact (h B w0 kp us w hkv hR).mono fun v w' ⟨x, hs', ⟨ρ, x2, hs2, h1, h2⟩, h3⟩ => ⟨x2, hs2, h2, seeE_ok hkv h1 h3⟩
end Gv

/-
  The draws of numbers and texts.
-/
namespace Gv
open Go Go.Proofs

set_option maxRecDepth 100000 in
theorem l1Byte_inl (bs : List Int) (hm : bs.length ≤ maxLen) (i : Nat) (h : Int) (pre rest : List H) (kv : List V) (K : V → List H → Prop) (hi : i ≤ bs.length)
    (hk : ∀ (i' : Nat) (h' x : Int), i' ≤ bs.length → 0 ≤ x → x ≤ 255 → K (.d (.int .i64 x)) (pre ++ curB bs i' h' :: rest)) : InlCall Try.prog 60 kv (pre ++ curB bs i h :: rest) [.ptr pre.length 0 0] K := by
  refine (inl_ev (n := 58) (rs := [.tmp 2]) Try.func60 rfl Try.call60 Try.checked.mixed rfl rfl ?_)
  simp only [curB] at hk ⊢
  simp only [go_sem, hget_end0, hput_end0]
  try simp only [go_sem, hget_end0, hput_end0, List.length_map, ofv33, ofv45, shr_eq]
  repeat' (first
    | (with_reducible refine gTrueS ?_; simp only [go_sem, hget_end0, hput_end0, List.length_map, ofv33, ofv45, shr_eq]) | (with_reducible refine gFalseS ?_; simp only [go_sem, hget_end0, hput_end0, List.length_map, ofv33, ofv45, shr_eq]) | (with_reducible refine gTrue ?_; simp only [go_sem, hget_end0, hput_end0, List.length_map, ofv33, ofv45, shr_eq]) | (with_reducible refine gFalse ?_; simp only [go_sem, hget_end0, hput_end0, List.length_map, ofv33, ofv45, shr_eq])
    | (refine gSymS ?_; simp only [go_sem, hget_end0, hput_end0, List.length_map, ofv33, ofv45, shr_eq]) | (refine gSym ?_; simp only [go_sem, hget_end0, hput_end0, List.length_map, ofv33, ofv45, shr_eq])
    | (refine drawE_intro [[.post, .post, .post, .post, .post, .un, .un, .un, .un, .un, .post, .post, .post], [.pre, .post, .post, .post, .post, .un, .un, .un, .un, .un, .post, .post, .post], [.pre, .pre, .post, .post, .post, .un, .un, .un, .un, .un, .post, .post, .post], [.pre, .pre, .pre, .post, .post, .un, .un, .un, .un, .un, .post, .post, .post], [.pre, .pre, .pre, .pre, .post, .un, .un, .un, .un, .un, .post, .post, .post], [.un, .un, .un, .un, .un, .post, .post, .post, .post, .post, .post, .post, .post], [.un, .un, .un, .un, .un, .pre, .post, .post, .post, .post, .post, .post, .post], [.un, .un, .un, .un, .un, .pre, .pre, .post, .post, .post, .post, .post, .post], [.un, .un, .un, .un, .un, .pre, .pre, .pre, .post, .post, .post, .post, .post], [.un, .un, .un, .un, .un, .pre, .pre, .pre, .pre, .post, .post, .post, .post], [.pre, .pre, .pre, .pre, .pre, .pre, .pre, .pre, .pre, .pre, .post, .post, .post], [.pre, .pre, .pre, .pre, .pre, .pre, .pre, .pre, .pre, .pre, .pre, .post, .post], [.pre, .pre, .pre, .pre, .pre, .pre, .pre, .pre, .pre, .pre, .pre, .pre, .post]] (by kernel_rfl) (by rfl) ?_; simp only [go_sem, hget_end0, ofv33, ofv45, shr_eq])
    | (refine drawE_intro [[.post, .post, .post, .post, .un, .un, .un, .un, .un, .post], [.pre, .post, .post, .post, .un, .un, .un, .un, .un, .post], [.pre, .pre, .post, .post, .un, .un, .un, .un, .un, .post], [.pre, .pre, .pre, .post, .un, .un, .un, .un, .un, .post], [.un, .un, .un, .un, .post, .post, .post, .post, .post, .post], [.un, .un, .un, .un, .pre, .post, .post, .post, .post, .post], [.un, .un, .un, .un, .pre, .pre, .post, .post, .post, .post], [.un, .un, .un, .un, .pre, .pre, .pre, .post, .post, .post], [.un, .un, .un, .un, .pre, .pre, .pre, .pre, .post, .post], [.pre, .pre, .pre, .pre, .pre, .pre, .pre, .pre, .pre, .post]] (by kernel_rfl) (by rfl) ?_; simp only [go_sem, hget_end0, List.length_map])
    | (refine drawE_intro [[.post, .un, .un, .un, .un, .un, .un, .un, .un, .un, .un, .un, .post, .post, .post], [.un, .post, .post, .post, .post, .un, .un, .un, .un, .post, .post, .post, .post, .post, .post], [.un, .pre, .post, .post, .post, .un, .un, .un, .un, .post, .post, .post, .post, .post, .post], [.un, .pre, .pre, .post, .post, .un, .un, .un, .un, .post, .post, .post, .post, .post, .post], [.un, .pre, .pre, .pre, .post, .un, .un, .un, .un, .post, .post, .post, .post, .post, .post], [.un, .un, .un, .un, .un, .post, .post, .post, .post, .post, .post, .post, .post, .post, .post], [.un, .un, .un, .un, .un, .pre, .post, .post, .post, .post, .post, .post, .post, .post, .post], [.un, .un, .un, .un, .un, .pre, .pre, .post, .post, .post, .post, .post, .post, .post, .post], [.un, .un, .un, .un, .un, .pre, .pre, .pre, .post, .post, .post, .post, .post, .post, .post], [.un, .pre, .pre, .pre, .pre, .pre, .pre, .pre, .pre, .post, .post, .post, .post, .post, .post], [.un, .pre, .pre, .pre, .pre, .pre, .pre, .pre, .pre, .pre, .post, .post, .post, .post, .post], [.un, .pre, .pre, .pre, .pre, .pre, .pre, .pre, .pre, .pre, .pre, .post, .post, .post, .post], [.pre, .pre, .pre, .pre, .pre, .pre, .pre, .pre, .pre, .pre, .pre, .pre, .post, .post, .post], [.pre, .pre, .pre, .pre, .pre, .pre, .pre, .pre, .pre, .pre, .pre, .pre, .pre, .post, .post], [.pre, .pre, .pre, .pre, .pre, .pre, .pre, .pre, .pre, .pre, .pre, .pre, .pre, .pre, .post]] (by kernel_rfl) (by rfl) ?_; simp only [go_sem, hget_end0, List.length_map])
    | (refine cSplit (fun h => ?_) (fun h => ?_) <;> simp only [go_sem])
    | (with_reducible refine And.intro ?_ ?_; (focus (first | omega | (exact ⟨by omega, by omega⟩) | (simp; done) | (simp; omega)))))
  · have hlt : i < bs.length := by
      have := of_decide_eq_true h
      omega
    have hxi := map_at eU8 bs i hlt
    try simp only [go_sem, hget_end0, hput_end0, Int.toNat_natCast, hxi, eU8]
    repeat' (first
      | (with_reducible refine gTrueS ?_; simp only [go_sem, hget_end0, hput_end0, List.length_map, ofv33, ofv45, shr_eq, Int.toNat_natCast, hxi, eU8]) | (with_reducible refine gFalseS ?_; simp only [go_sem, hget_end0, hput_end0, List.length_map, ofv33, ofv45, shr_eq, Int.toNat_natCast, hxi, eU8]) | (with_reducible refine gTrue ?_; simp only [go_sem, hget_end0, hput_end0, List.length_map, ofv33, ofv45, shr_eq, Int.toNat_natCast, hxi, eU8]) | (with_reducible refine gFalse ?_; simp only [go_sem, hget_end0, hput_end0, List.length_map, ofv33, ofv45, shr_eq, Int.toNat_natCast, hxi, eU8])
      | (refine gSymS ?_; simp only [go_sem, hget_end0, hput_end0, List.length_map, ofv33, ofv45, shr_eq, Int.toNat_natCast, hxi, eU8]) | (refine gSym ?_; simp only [go_sem, hget_end0, hput_end0, List.length_map, ofv33, ofv45, shr_eq, Int.toNat_natCast, hxi, eU8])
      | (refine drawE_intro [[.post, .post, .post, .post, .post, .un, .un, .un, .un, .un, .post, .post, .post], [.pre, .post, .post, .post, .post, .un, .un, .un, .un, .un, .post, .post, .post], [.pre, .pre, .post, .post, .post, .un, .un, .un, .un, .un, .post, .post, .post], [.pre, .pre, .pre, .post, .post, .un, .un, .un, .un, .un, .post, .post, .post], [.pre, .pre, .pre, .pre, .post, .un, .un, .un, .un, .un, .post, .post, .post], [.un, .un, .un, .un, .un, .post, .post, .post, .post, .post, .post, .post, .post], [.un, .un, .un, .un, .un, .pre, .post, .post, .post, .post, .post, .post, .post], [.un, .un, .un, .un, .un, .pre, .pre, .post, .post, .post, .post, .post, .post], [.un, .un, .un, .un, .un, .pre, .pre, .pre, .post, .post, .post, .post, .post], [.un, .un, .un, .un, .un, .pre, .pre, .pre, .pre, .post, .post, .post, .post], [.pre, .pre, .pre, .pre, .pre, .pre, .pre, .pre, .pre, .pre, .post, .post, .post], [.pre, .pre, .pre, .pre, .pre, .pre, .pre, .pre, .pre, .pre, .pre, .post, .post], [.pre, .pre, .pre, .pre, .pre, .pre, .pre, .pre, .pre, .pre, .pre, .pre, .post]] (by kernel_rfl) (by rfl) ?_; simp only [go_sem, hget_end0, hput_end0, List.length_map, ofv33, ofv45, shr_eq, Int.toNat_natCast, hxi, eU8])
      | (refine drawE_intro [[.post, .post, .post, .post, .un, .un, .un, .un, .un, .post], [.pre, .post, .post, .post, .un, .un, .un, .un, .un, .post], [.pre, .pre, .post, .post, .un, .un, .un, .un, .un, .post], [.pre, .pre, .pre, .post, .un, .un, .un, .un, .un, .post], [.un, .un, .un, .un, .post, .post, .post, .post, .post, .post], [.un, .un, .un, .un, .pre, .post, .post, .post, .post, .post], [.un, .un, .un, .un, .pre, .pre, .post, .post, .post, .post], [.un, .un, .un, .un, .pre, .pre, .pre, .post, .post, .post], [.un, .un, .un, .un, .pre, .pre, .pre, .pre, .post, .post], [.pre, .pre, .pre, .pre, .pre, .pre, .pre, .pre, .pre, .post]] (by kernel_rfl) (by rfl) ?_; simp only [go_sem, hget_end0, hput_end0, List.length_map, ofv33, ofv45, shr_eq, Int.toNat_natCast, hxi, eU8])
      | (refine drawE_intro [[.post, .un, .un, .un, .un, .un, .un, .un, .un, .un, .un, .un, .post, .post, .post], [.un, .post, .post, .post, .post, .un, .un, .un, .un, .post, .post, .post, .post, .post, .post], [.un, .pre, .post, .post, .post, .un, .un, .un, .un, .post, .post, .post, .post, .post, .post], [.un, .pre, .pre, .post, .post, .un, .un, .un, .un, .post, .post, .post, .post, .post, .post], [.un, .pre, .pre, .pre, .post, .un, .un, .un, .un, .post, .post, .post, .post, .post, .post], [.un, .un, .un, .un, .un, .post, .post, .post, .post, .post, .post, .post, .post, .post, .post], [.un, .un, .un, .un, .un, .pre, .post, .post, .post, .post, .post, .post, .post, .post, .post], [.un, .un, .un, .un, .un, .pre, .pre, .post, .post, .post, .post, .post, .post, .post, .post], [.un, .un, .un, .un, .un, .pre, .pre, .pre, .post, .post, .post, .post, .post, .post, .post], [.un, .pre, .pre, .pre, .pre, .pre, .pre, .pre, .pre, .post, .post, .post, .post, .post, .post], [.un, .pre, .pre, .pre, .pre, .pre, .pre, .pre, .pre, .pre, .post, .post, .post, .post, .post], [.un, .pre, .pre, .pre, .pre, .pre, .pre, .pre, .pre, .pre, .pre, .post, .post, .post, .post], [.pre, .pre, .pre, .pre, .pre, .pre, .pre, .pre, .pre, .pre, .pre, .pre, .post, .post, .post], [.pre, .pre, .pre, .pre, .pre, .pre, .pre, .pre, .pre, .pre, .pre, .pre, .pre, .post, .post], [.pre, .pre, .pre, .pre, .pre, .pre, .pre, .pre, .pre, .pre, .pre, .pre, .pre, .pre, .post]] (by kernel_rfl) (by rfl) ?_; simp only [go_sem, hget_end0, hput_end0, List.length_map, ofv33, ofv45, shr_eq, Int.toNat_natCast, hxi, eU8])
      | (refine cSplit (fun h => ?_) (fun h => ?_) <;> simp only [go_sem, hget_end0, hput_end0, List.length_map, ofv33, ofv45, shr_eq, Int.toNat_natCast, hxi, eU8])
      | (with_reducible refine And.intro ?_ ?_; (focus (first | omega | (exact ⟨by omega, by omega⟩) | (simp; done) | (simp; omega)))))
    rw [inc hlt hm]
    exact hk _ _ _ (by omega) (and255 _).1 (and255 _).2
  · exact hk _ _ _ hi (and255 _).1 (and255 _).2

theorem tmod_in {x n : Int} (hx : 0 ≤ x) (hn : 0 < n) : 0 ≤ x.tmod n ∧ x.tmod n < n := ⟨Int.tmod_nonneg _ hx, Int.tmod_lt_of_pos _ hn⟩

set_option maxRecDepth 100000 in
theorem l1Below_inl (bs : List Int) (hm : bs.length ≤ maxLen) (i : Nat) (h : Int) (pre rest : List H) (kv : List V) (n : Int) (hn : 0 < n) (hn2 : n ≤ 4294967296) (K : V → List H → Prop) (hi : i ≤ bs.length)
    (hk : ∀ (i' : Nat) (h' x : Int), i' ≤ bs.length → 0 ≤ x → x < n → K (.d (.int .i64 x)) (pre ++ curB bs i' h' :: rest)) : InlCall Try.prog 41 kv (pre ++ curB bs i h :: rest) [.ptr pre.length 0 0, .d (.int .i64 n)] K := by
  refine (inl_ev (n := 37) (rs := [.tmp 4]) Try.func41 rfl Try.call41 Try.checked.mixed rfl rfl ?_)
  simp only [go_sem]
  refine cSplit (fun h1 => ?_) (fun _ => ?_)
  · have := of_decide_eq_true h1; omega
  simp only [go_sem]
  refine cSplit (fun _ => ?_) (fun h1 => ?_)
  · simp only [go_sem]
    refine CallS.inl (l1Byte_inl bs hm i h pre rest _ _ hi fun i1 h1 x1 a1 b1 c1 => ?_)
    simp only [go_sem]
    refine ⟨by omega, ?_⟩
    have := tmod_in b1 hn
    exact hk _ _ _ a1 this.1 this.2
  · have hb := of_decide_eq_false h1
    simp only [go_sem]
    refine CallS.inl (l1Byte_inl bs hm i h pre rest _ _ hi fun i1 h1 x1 a1 b1 c1 => ?_)
    simp only [go_sem]
    refine CallS.inl (l1Byte_inl bs hm i1 h1 pre rest _ _ a1 fun i2 h2 x2 a2 b2 c2 => ?_)
    simp only [go_sem]
    refine CallS.inl (l1Byte_inl bs hm i2 h2 pre rest _ _ a2 fun i3 h3 x3 a3 b3 c3 => ?_)
    simp only [go_sem]
    refine CallS.inl (l1Byte_inl bs hm i3 h3 pre rest _ _ a3 fun i4 h4 x4 a4 b4 c4 => ?_)
    simp only [go_sem]
    refine ⟨by omega, ?_⟩
    rw [w64 (n := x1 * 16777216) (by omega) (by omega), w64 (n := x2 * 65536) (by omega) (by omega), w64 (n := x3 * 256) (by omega) (by omega), w64 (n := x1 * 16777216 + x2 * 65536) (by omega) (by omega), w64 (n := x1 * 16777216 + x2 * 65536 + x3 * 256) (by omega) (by omega), w64 (n := x1 * 16777216 + x2 * 65536 + x3 * 256 + x4) (by omega) (by omega)]
    have := tmod_in (x := x1 * 16777216 + x2 * 65536 + x3 * 256 + x4) (by omega) hn
    exact hk _ _ _ a4 this.1 this.2

set_option maxRecDepth 100000 in
theorem l1Once_inl (bs : List Int) (hm : bs.length ≤ maxLen) (i : Nat) (h : Int) (pre rest : List H) (kv : List V) (n : Int) (hn : 0 < n) (hn2 : n ≤ 4294967296) (K : V → List H → Prop) (hi : i ≤ bs.length)
    (hk : ∀ (i' : Nat) (h' : Int) (b : Bool), i' ≤ bs.length → K (.d (.bool b)) (pre ++ curB bs i' h' :: rest)) : InlCall Try.prog 49 kv (pre ++ curB bs i h :: rest) [.ptr pre.length 0 0, .d (.int .i64 n)] K := by
  refine (inl_ev (n := 9) (rs := [.tmp 4]) Try.func49 rfl Try.call49 Try.checked.mixed rfl rfl ?_)
  simp only [go_sem]
  refine CallS.inl (l1Below_inl bs hm i h pre rest _ n hn hn2 _ hi fun i1 h1 x1 a1 b1 c1 => ?_)
  simp only [go_sem]
  exact hk _ _ _ a1

set_option maxRecDepth 100000 in
theorem l1PickInt_inl (bs : List Int) (hm : bs.length ≤ maxLen) (i : Nat) (h : Int) (pre rest : List H) (kv : List V) (id : Nat) (xs : List Int) (he : hget rest id = .arr 1 (xs.map eI) true) (hn : 0 < xs.length) (hn2 : xs.length ≤ 1000) (K : V → List H → Prop) (hi : i ≤ bs.length)
    (hk : ∀ (i' : Nat) (h' x : Int), i' ≤ bs.length → x ∈ xs → K (.d (.int .i64 x)) (pre ++ curB bs i' h' :: rest)) : InlCall Try.prog 39 kv (pre ++ curB bs i h :: rest) [.ptr pre.length 0 0, .sl (pre.length + (id + 1)) 0 xs.length] K := by
  refine (inl_ev (n := 12) (rs := [.tmp 4]) Try.func39 rfl Try.call39 Try.checked.mixed rfl rfl ?_)
  simp only [go_sem]
  refine CallS.inl (l1Below_inl bs hm i h pre rest _ xs.length (by omega) (by omega) _ hi fun i1 h1 x1 a1 b1 c1 => ?_)
  obtain ⟨k, rfl⟩ := Int.eq_ofNat_of_zero_le b1
  have hlt : k < xs.length := by omega
  have hxi := map_at eI xs k hlt
  simp only [go_sem, hget_endN, he, hxi, Int.toNat_natCast, List.length_map, eI]
  refine ⟨⟨by omega, by omega⟩, ?_⟩
  exact ⟨hlt, hk _ _ _ a1 (List.getElem_mem hlt)⟩

set_option maxRecDepth 100000 in
theorem l1Pick_inl (bs : List Int) (hm : bs.length ≤ maxLen) (i : Nat) (h : Int) (pre rest : List H) (kv : List V) (id : Nat) (xs : List (List UInt8)) (he : hget rest id = .arr 1 (xs.map eS) true) (hn : 0 < xs.length) (hn2 : xs.length ≤ 1000) (K : V → List H → Prop) (hi : i ≤ bs.length)
    (hk : ∀ (i' : Nat) (h' : Int) (x : List UInt8), i' ≤ bs.length → x ∈ xs → K (.d (.str x)) (pre ++ curB bs i' h' :: rest)) : InlCall Try.prog 59 kv (pre ++ curB bs i h :: rest) [.ptr pre.length 0 0, .sl (pre.length + (id + 1)) 0 xs.length] K := by
  refine (inl_ev (n := 12) (rs := [.tmp 4]) Try.func59 rfl Try.call59 Try.checked.mixed rfl rfl ?_)
  simp only [go_sem]
  refine CallS.inl (l1Below_inl bs hm i h pre rest _ xs.length (by omega) (by omega) _ hi fun i1 h1 x1 a1 b1 c1 => ?_)
  obtain ⟨k, rfl⟩ := Int.eq_ofNat_of_zero_le b1
  have hlt : k < xs.length := by omega
  have hxi := map_at eS xs k hlt
  simp only [go_sem, hget_endN, he, hxi, Int.toNat_natCast, List.length_map, eS]
  refine ⟨⟨by omega, by omega⟩, ?_⟩
  exact ⟨hlt, hk _ _ _ a1 (List.getElem_mem hlt)⟩


theorem len_le_of_mem {x : List UInt8} (h : x ∈ [[97], [98], [99], [100]]) : x.length = 1 := by
  simp only [List.mem_cons, List.not_mem_nil, or_false] at h
  rcases h with rfl | rfl | rfl | rfl <;> rfl

theorem voks_tail {m : Nat} {v : V} {vs : List V} (h : vok m v) (k : voks m vs) : voks m (v :: vs) := by simp only [voks]; exact ⟨h, k⟩
set_option maxRecDepth 100000 in
theorem l4Data_inl (bs : List Int) (hm : bs.length ≤ maxLen) (i : Nat) (h : Int) (pre rest : List H) (kv : List V) (most : Nat) (hr : roks (pre.length + (rest.length + 1)) pre ∧ roks (pre.length + (rest.length + 1)) rest) (hkv : voks (pre.length + (rest.length + 1)) kv) (hb : most ≤ 1000) (K : V → List H → Prop) (hi : i ≤ bs.length)
    (hk : ∀ (i' : Nat) (h' : Int) (s : List UInt8), i' ≤ bs.length → s.length ≤ most → K (.d (.str s)) (pre ++ curB bs i' h' :: rest)) : InlCall Try.prog 40 kv (pre ++ curB bs i h :: rest) [.ptr pre.length 0 0, .d (.int .i64 most)] K := by
  refine (inl_ev (n := 21) (rs := [.tmp 4]) Try.func40 rfl Try.call40 Try.checked.mixed rfl rfl ?_)
  simp only [go_sem]
  rw [w64 (n := (most : Int) + 1) (by omega) (by omega)]
  refine CallS.inl (l1Below_inl bs hm i h pre rest _ ((most : Int) + 1) (by omega) (by omega) _ hi fun i1 h1 x1 a1 b1 c1 => ?_)
  obtain ⟨k, rfl⟩ := Int.eq_ofNat_of_zero_le b1
  simp only [go_sem]
  refine LoopK.intro (α := Nat × Int × Nat × List UInt8) (fun y => ⟨[.ptr pre.length 0 0, .d (.int .i64 most), .junk, .junk, .d (.str []), .d (.str y.2.2.2), .d (.int .i64 y.2.2.1), .junk, .junk, .junk, .junk, .junk, .junk, .junk, .junk, .junk, .junk, .junk, .junk, .junk, .junk], pre ++ curB bs y.1 y.2.1 :: rest⟩)
    (fun y => y.2.2.1) (fun y => y.1 ≤ bs.length ∧ y.2.2.1 + y.2.2.2.length ≤ most) (i1, h1, k, []) (List.range (pre.length + (rest.length + 1))) ⟨a1, by simp; omega⟩ ?_ ?_
  · exact see_cur0 hr hkv (by simp [vsees, vsee, ren]) (by simp [voks, vok])
  · rintro ⟨i2, h2, n, s⟩ ⟨hi2, hs⟩
    simp only at hs
    simp only [go_sem]
    refine cSplit (fun q => ?_) (fun q => ?_)
    · have hn := of_decide_eq_true q
      simp only [go_sem, hput_end, hput_endN]
      refine CallS.inl (l1Pick_inl bs hm i2 h2 pre (rest ++ [.arr 1 ([[97], [98], [99], [100]].map eS) true]) _ rest.length [[97], [98], [99], [100]] (by rw [hget_end0]; rfl) (by decide) (by decide) _ hi2 fun i3 h3 x a3 b3 => ?_)
      have hl := len_le_of_mem b3
      simp only [go_sem]
      refine ⟨by simp only [maxLen]; omega, ?_⟩
      rw [w64 (n := (n : Int) - 1) (by omega) (by omega)]
      refine RoundE.intro (i3, h3, n - 1, s ++ x) (List.range (pre.length + (rest.length + 1))) ⟨a3, by simp only [List.length_append]; omega⟩ (show n - 1 < n by omega) ?_
      have e : ((n - 1 : Nat) : Int) = (n : Int) - 1 := by omega
      simp only [e]
      exact see_cur hr hkv (by simp [vsees, vsee, ren]) (by simp [voks, vok])
    · simp only [go_sem]
      exact hk _ _ _ hi2 (by omega)

set_option maxRecDepth 100000 in
theorem l1New_inl (bs : List Int) (hm : bs.length ≤ maxLen) (pre : List H) (kv : List V) (hr : roks pre.length pre) (hkv : voks pre.length kv) (K : V → List H → Prop)
    (hk : ∀ (h' : Int), K (.ptr pre.length 0 0) (pre ++ [curB bs 0 h'])) : InlCall Try.prog 37 kv pre [.d (.sl 1 (bs.map eU8))] K := by
  refine (inl_ev (n := 32) (rs := [.tmp 2]) Try.func37 rfl Try.call37 Try.checked.mixed rfl rfl ?_)
  simp only [go_sem, List.length_map]
  refine LoopK.intro (α := Nat × Int) (fun y => ⟨[.d (.sl 1 (bs.map eU8)), .junk, .junk, .d (.int .i64 y.2), .d (.int .i64 y.1), .junk, .junk, .junk, .junk, .junk, .junk, .junk, .junk, .junk, .junk, .junk, .junk, .junk, .junk, .junk, .junk, .junk, .junk, .junk, .junk, .junk, .junk, .junk, .junk, .junk, .junk, .junk], pre⟩)
    (fun y => bs.length - y.1) (fun y => y.1 ≤ bs.length) (0, IntKind.i64.wrap (10101 + (bs.length : Int))) (List.range pre.length) (by simp) ?_ ?_
  · exact see_keep0 hr hkv (by simp [vsees, vsee, ren]) (by simp [voks, vok])
  · rintro ⟨i, g⟩ hi
    simp only at hi
    simp only [go_sem, List.length_map]
    try simp only [go_sem, List.length_map]
    repeat' (first
      | (with_reducible refine gTrueS ?_; simp only [go_sem, List.length_map]) | (with_reducible refine gFalseS ?_; simp only [go_sem, List.length_map]) | (with_reducible refine gTrue ?_; simp only [go_sem, List.length_map]) | (with_reducible refine gFalse ?_; simp only [go_sem, List.length_map])
      | (refine gSymS ?_; simp only [go_sem]) | (refine gSym ?_; simp only [go_sem, List.length_map])
      | (refine cSplit (fun h => ?_) (fun h => ?_) <;> simp only [go_sem, List.length_map])
      | (with_reducible refine And.intro ?_ ?_; (focus (first | omega | (exact ⟨by omega, by omega⟩) | (simp; done) | (simp; omega)))))
    · have hlt : i < bs.length := by
        rcases Nat.lt_or_ge i bs.length with hlt | hge
        · exact hlt
        · rw [decide_eq_false (by omega)] at h; cases h
      have hxi := map_at eU8 bs i hlt
      try simp only [go_sem, hxi, Int.toNat_natCast, eU8]
      repeat' (first
        | (with_reducible refine gTrueS ?_; simp only [go_sem, List.length_map, hxi, Int.toNat_natCast, eU8]) | (with_reducible refine gFalseS ?_; simp only [go_sem, List.length_map, hxi, Int.toNat_natCast, eU8]) | (with_reducible refine gTrue ?_; simp only [go_sem, List.length_map, hxi, Int.toNat_natCast, eU8]) | (with_reducible refine gFalse ?_; simp only [go_sem, List.length_map, hxi, Int.toNat_natCast, eU8])
        | (refine gSymS ?_; simp only [go_sem, List.length_map, hxi, Int.toNat_natCast, eU8]) | (refine gSym ?_; simp only [go_sem, List.length_map, hxi, Int.toNat_natCast, eU8])
        | (refine cSplit (fun h => ?_) (fun h => ?_) <;> simp only [go_sem, List.length_map, hxi, Int.toNat_natCast, eU8])
        | (with_reducible refine And.intro ?_ ?_; (focus (first | omega | (exact ⟨by omega, by omega⟩) | (simp; done) | (simp; omega)))))
      rw [inc hlt hm]
      refine RoundE.intro (i + 1, bitI .and .i64 (IntKind.i64.wrap (IntKind.i64.wrap (IntKind.i64.wrap (g * 131) + IntKind.i64.wrap bs[i]) + 7)) 1073741823) (List.range pre.length) (show i + 1 ≤ bs.length by omega) (show bs.length - (i + 1) < bs.length - i by omega) ?_
      exact see_keep0 hr hkv (by simp [vsees, vsee, ren]) (by simp [voks, vok])
    · rw [hput_end]; exact hk _
end Gv

/-
  A heap with the cursor, several entries kept.
-/
namespace Gv
open Go Go.Proofs

theorem hsees_append {ρ : List Nat} {hs : List H} : ∀ {is js : List Nat} {xs ys : List H}, hsees ρ hs is xs → hsees ρ hs js ys → hsees ρ hs (is ++ js) (xs ++ ys)
  | [], js, [], ys, _, h => h
  | [], _, _ :: _, _, h, _ => by simp [hsees] at h
  | _ :: _, _, [], _, h, _ => by simp [hsees] at h
  | i :: is, js, x :: xs, ys, h, k => by
    simp only [hsees] at h
    exact ⟨h.1, hsees_append h.2 k⟩
theorem allOk_append {m : Nat} : ∀ {xs ys : List H}, allOk m xs → allOk m ys → allOk m (xs ++ ys)
  | [], _, _, h => h
  | x :: xs, ys, h, k => ⟨h.1, allOk_append h.2 k⟩
theorem rangeAN (n j : Nat) (l : List Nat) : (List.range n ++ l).getD (n + j) 0 = l.getD j 0 := by
  rw [List.getD_eq_getElem?_getD, List.getElem?_append_right (by simp), List.getD_eq_getElem?_getD]; simp
theorem see_keepN {kv ts ts' : List V} {hs ex ex' : List H} (ρ2 : List Nat) (hnd : ρ2.Nodup) (hge : ∀ k ∈ ρ2, hs.length ≤ k) (hr : roks hs.length hs) (hx : hsees (List.range hs.length ++ ρ2) (hs ++ ex) ρ2 ex') (hro : allOk (hs.length + ex'.length) ex') (hkv : voks hs.length kv) (ht : vsees (List.range hs.length ++ ρ2) ts' ts) (ht' : voks (hs.length + ex'.length) ts') :
    seeE kv (List.range hs.length ++ ρ2) ⟨ts, hs ++ ex⟩ ⟨ts', hs ++ ex'⟩ := by
  have hf : Fix (List.range hs.length ++ ρ2) hs.length := fix_range_app (Nat.le_refl _) _
  have hl : (hs ++ ex').length = hs.length + ex'.length := by simp
  refine ⟨?_, ht, hsees_append (hsees_fix hf _ _ _ (by simp) fun j hj => ?_) hx, by rw [hl]; exact ht', ?_, by rw [hl]; exact kvOk_fix hf (by omega) hkv⟩
  · rw [List.nodup_append]
    refine ⟨List.nodup_range, hnd, fun a ha b hb => ?_⟩
    have := hge b hb
    simp at ha; omega
  · refine ⟨hs[j], List.getElem?_eq_getElem hj, ?_, roks_at hr (List.getElem?_eq_getElem hj)⟩
    have : (List.range hs.length).getD j 0 = j := fix_range (Nat.le_refl _) j hj
    rw [this]
    exact hget_some (by rw [List.getElem?_append_left hj]; exact List.getElem?_eq_getElem hj)
  · rw [hl]
    exact allOk_append (roks_allOk (roks_mono (by omega) hr)) hro
theorem see_curN {bs : List Int} {i : Nat} {h : Int} {pre rest ex ex' : List H} {n : Nat} {kv ts ts' : List V} (hn : pre.length + (rest.length + 1) = n) (ρ2 : List Nat) (hnd : ρ2.Nodup) (hge : ∀ k ∈ ρ2, n ≤ k) (hr : roks n pre ∧ roks n rest) (hx : hsees (List.range n ++ ρ2) (pre ++ curB bs i h :: (rest ++ ex)) ρ2 ex') (hro : allOk (n + ex'.length) ex') (hkv : voks n kv) (ht : vsees (List.range n ++ ρ2) ts' ts) (ht' : voks (n + ex'.length) ts') :
    seeE kv (List.range n ++ ρ2) ⟨ts, pre ++ curB bs i h :: (rest ++ ex)⟩ ⟨ts', pre ++ curB bs i h :: (rest ++ ex')⟩ := by
  have e : (pre ++ curB bs i h :: rest).length = n := by simp; omega
  have := see_keepN (hs := pre ++ curB bs i h :: rest) (ex := ex) (ex' := ex') (ts := ts) (ts' := ts') (kv := kv) ρ2 hnd (by rw [e]; exact hge) (by rw [e]; exact roks_append hr.1 ⟨rok_cur _ _ _ _, hr.2⟩) (by rw [e, List.append_assoc]; exact hx) (by rw [e]; exact hro) (by rw [e]; exact hkv) (by rw [e]; exact ht) (by rw [e]; exact ht')
  rw [e, List.append_assoc, List.append_assoc] at this
  exact this
theorem vsees_junk (ρ : List Nat) : ∀ tl : List V, vsees ρ (List.replicate tl.length .junk) tl
  | [] => trivial
  | v :: tl => ⟨trivial, vsees_junk ρ tl⟩
theorem voks_junk (m : Nat) : ∀ k, voks m (List.replicate k .junk)
  | 0 => trivial
  | k + 1 => ⟨trivial, voks_junk m k⟩
theorem rg3 (p r n b : Nat) (hn : p + (r + 1) = n) : (List.range n ++ [n, n + b, n + 2]).getD p 0 = p ∧ (List.range n ++ [n, n + b, n + 2]).getD (p + (r + 1)) 0 = p + (r + 1) ∧
    (List.range n ++ [n, n + b, n + 2]).getD (p + (r + 1 + 1)) 0 = p + (r + b + 1) ∧ (List.range n ++ [n, n + b, n + 2]).getD (p + (r + 2 + 1)) 0 = p + (r + 2 + 1) := by
  refine ⟨fix_range_app (Nat.le_refl _) _ p (by omega), ?_, ?_, ?_⟩
  · rw [show p + (r + 1) = n + 0 from by omega, rangeAN]; simp
  · rw [show p + (r + 1 + 1) = n + 1 from by omega, rangeAN]; simp; omega
  · rw [show p + (r + 2 + 1) = n + 2 from by omega, rangeAN]; simp
/-- The state of a drawing loop: a result's box, an array, and a box that holds it. -/
theorem see3 {bs : List Int} {i : Nat} {h : Int} {pre rest ex : List H} {n : Nat} {kv ts tl : List V} {t1 : V} {d4 : D} {K b sz : Nat} {xs : List (List D)} {r0 : List V} {f : Nat → List V} (hn : pre.length + (rest.length + 1) = n) (hb : b ≠ 0 ∧ b ≠ 2) (hr : roks n pre ∧ roks n rest) (hkv : voks n kv)
    (he0 : ex[0]? = some (.box r0)) (heb : ex[b]? = some (.arr sz xs true)) (he2 : ex[2]? = some (.box (f (pre.length + (rest.length + b + 1)))))
    (hf0 : voks (n + 3) r0 ∧ vsees (List.range n ++ [n, n + b, n + 2]) r0 r0) (hf : voks (n + 3) (f (pre.length + (rest.length + 1 + 1))) ∧ vsees (List.range n ++ [n, n + b, n + 2]) (f (pre.length + (rest.length + 1 + 1))) (f (pre.length + (rest.length + b + 1))))
    (ht : ts = .ptr pre.length 0 0 :: t1 :: .ptr (pre.length + (rest.length + 1)) 0 0 :: .ptr (pre.length + (rest.length + 2 + 1)) 0 0 :: .d d4 :: tl) (hK : tl.length = K) :
    seeE kv (List.range n ++ [n, n + b, n + 2]) ⟨ts, pre ++ curB bs i h :: (rest ++ ex)⟩ ⟨[.ptr pre.length 0 0, .junk, .ptr (pre.length + (rest.length + 1)) 0 0, .ptr (pre.length + (rest.length + 2 + 1)) 0 0, .d d4] ++ List.replicate K .junk, pre ++ curB bs i h :: (rest ++ [.box r0, .arr sz xs true, .box (f (pre.length + (rest.length + 1 + 1)))])⟩ := by
  obtain ⟨g0, g1, g2, g3⟩ := rg3 pre.length rest.length n b hn
  have hget' : ∀ k x, ex[k]? = some x → hget (pre ++ curB bs i h :: (rest ++ ex)) (n + k) = x := by
    intro k x hx
    refine hget_some ?_
    rw [List.getElem?_append_right (by omega), show n + k - pre.length = rest.length + k + 1 from by omega, List.getElem?_cons_succ, List.getElem?_append_right (by omega), Nat.add_sub_cancel_left]
    exact hx
  subst ht
  subst hK
  refine see_curN hn [n, n + b, n + 2] (by simp; omega) (by simp) hr ?_ ?_ hkv ?_ ?_
  · have h0 := hget' 0 _ he0
    rw [Nat.add_zero] at h0
    simp only [hsees, h0, hget' b _ heb, hget' 2 _ he2, hsee, and_true]
    exact ⟨hf0.2, trivial, hf.2⟩
  · exact ⟨hf0.1, trivial, hf.1, trivial⟩
  · simp only [List.cons_append, List.nil_append, vsees, vsee, ren, g0, g1, g3, true_and]
    exact vsees_junk _ _
  · simp only [List.cons_append, List.nil_append, voks, vok, List.length_cons, List.length_nil, true_and]
    exact ⟨by omega, by omega, by omega, voks_junk _ _⟩
theorem rg3B (p r n b : Nat) (hn : p + (r + 1) = n) : (List.range n ++ [n, n + 1, n + b]).getD p 0 = p ∧ (List.range n ++ [n, n + 1, n + b]).getD (p + (r + 1)) 0 = p + (r + 1) ∧
    (List.range n ++ [n, n + 1, n + b]).getD (p + (r + 1 + 1)) 0 = p + (r + 1 + 1) ∧ (List.range n ++ [n, n + 1, n + b]).getD (p + (r + 2 + 1)) 0 = p + (r + b + 1) := by
  refine ⟨fix_range_app (Nat.le_refl _) _ p (by omega), ?_, ?_, ?_⟩
  · rw [show p + (r + 1) = n + 0 from by omega, rangeAN]; simp
  · rw [show p + (r + 1 + 1) = n + 1 from by omega, rangeAN]; simp
  · rw [show p + (r + 2 + 1) = n + 2 from by omega, rangeAN]; simp; omega
/-- The same; the array is the last (its box came first). -/
theorem see3B {bs : List Int} {i : Nat} {h : Int} {pre rest ex : List H} {n : Nat} {kv ts tl : List V} {t1 : V} {d4 : D} {K b sz : Nat} {xs : List (List D)} {r0 : List V} {f : Nat → List V} (hn : pre.length + (rest.length + 1) = n) (hb : 2 ≤ b) (hr : roks n pre ∧ roks n rest) (hkv : voks n kv)
    (he0 : ex[0]? = some (.box r0)) (he1 : ex[1]? = some (.box (f (pre.length + (rest.length + b + 1))))) (heb : ex[b]? = some (.arr sz xs true))
    (hf0 : voks (n + 3) r0 ∧ vsees (List.range n ++ [n, n + 1, n + b]) r0 r0) (hf : voks (n + 3) (f (pre.length + (rest.length + 2 + 1))) ∧ vsees (List.range n ++ [n, n + 1, n + b]) (f (pre.length + (rest.length + 2 + 1))) (f (pre.length + (rest.length + b + 1))))
    (ht : ts = .ptr pre.length 0 0 :: t1 :: .ptr (pre.length + (rest.length + 1)) 0 0 :: .ptr (pre.length + (rest.length + 1 + 1)) 0 0 :: .d d4 :: tl) (hK : tl.length = K) :
    seeE kv (List.range n ++ [n, n + 1, n + b]) ⟨ts, pre ++ curB bs i h :: (rest ++ ex)⟩ ⟨[.ptr pre.length 0 0, .junk, .ptr (pre.length + (rest.length + 1)) 0 0, .ptr (pre.length + (rest.length + 1 + 1)) 0 0, .d d4] ++ List.replicate K .junk, pre ++ curB bs i h :: (rest ++ [.box r0, .box (f (pre.length + (rest.length + 2 + 1))), .arr sz xs true])⟩ := by
  obtain ⟨g0, g1, g2, g3⟩ := rg3B pre.length rest.length n b hn
  have hget' : ∀ k x, ex[k]? = some x → hget (pre ++ curB bs i h :: (rest ++ ex)) (n + k) = x := by
    intro k x hx
    refine hget_some ?_
    rw [List.getElem?_append_right (by omega), show n + k - pre.length = rest.length + k + 1 from by omega, List.getElem?_cons_succ, List.getElem?_append_right (by omega), Nat.add_sub_cancel_left]
    exact hx
  subst ht
  subst hK
  refine see_curN hn [n, n + 1, n + b] (by simp; omega) (by simp) hr ?_ ?_ hkv ?_ ?_
  · have h0 := hget' 0 _ he0
    rw [Nat.add_zero] at h0
    simp only [hsees, h0, hget' b _ heb, hget' 1 _ he1, hsee, and_true]
    exact ⟨hf0.2, hf.2⟩
  · exact ⟨hf0.1, hf.1, trivial, trivial⟩
  · simp only [List.cons_append, List.nil_append, vsees, vsee, ren, g0, g1, g2, true_and]
    exact vsees_junk _ _
  · simp only [List.cons_append, List.nil_append, voks, vok, List.length_cons, List.length_nil, true_and]
    exact ⟨by omega, by omega, by omega, voks_junk _ _⟩
/-- Two boxes alone. -/
theorem see2B {bs : List Int} {i : Nat} {h : Int} {pre rest ex : List H} {n : Nat} {kv ts tl : List V} {t1 : V} {d4 : D} {K : Nat} {r0 r1 : List V} (hn : pre.length + (rest.length + 1) = n) (hr : roks n pre ∧ roks n rest) (hkv : voks n kv)
    (he0 : ex[0]? = some (.box r0)) (he1 : ex[1]? = some (.box r1)) (hf0 : voks (n + 2) r0 ∧ vsees (List.range n ++ [n, n + 1]) r0 r0) (hf1 : voks (n + 2) r1 ∧ vsees (List.range n ++ [n, n + 1]) r1 r1)
    (ht : ts = .ptr pre.length 0 0 :: t1 :: .ptr (pre.length + (rest.length + 1)) 0 0 :: .ptr (pre.length + (rest.length + 1 + 1)) 0 0 :: .d d4 :: tl) (hK : tl.length = K) :
    seeE kv (List.range n ++ [n, n + 1]) ⟨ts, pre ++ curB bs i h :: (rest ++ ex)⟩ ⟨[.ptr pre.length 0 0, .junk, .ptr (pre.length + (rest.length + 1)) 0 0, .ptr (pre.length + (rest.length + 1 + 1)) 0 0, .d d4] ++ List.replicate K .junk, pre ++ curB bs i h :: (rest ++ [.box r0, .box r1])⟩ := by
  have g0 : (List.range n ++ [n, n + 1]).getD pre.length 0 = pre.length := fix_range_app (Nat.le_refl _) _ _ (by omega)
  have g1 : (List.range n ++ [n, n + 1]).getD (pre.length + (rest.length + 1)) 0 = pre.length + (rest.length + 1) := by rw [show pre.length + (rest.length + 1) = n + 0 from by omega, rangeAN]; simp
  have g2 : (List.range n ++ [n, n + 1]).getD (pre.length + (rest.length + 1 + 1)) 0 = pre.length + (rest.length + 1 + 1) := by rw [show pre.length + (rest.length + 1 + 1) = n + 1 from by omega, rangeAN]; simp
  have hget' : ∀ k x, ex[k]? = some x → hget (pre ++ curB bs i h :: (rest ++ ex)) (n + k) = x := by
    intro k x hx
    refine hget_some ?_
    rw [List.getElem?_append_right (by omega), show n + k - pre.length = rest.length + k + 1 from by omega, List.getElem?_cons_succ, List.getElem?_append_right (by omega), Nat.add_sub_cancel_left]
    exact hx
  subst ht
  subst hK
  refine see_curN hn [n, n + 1] (by simp) (by simp) hr ?_ ?_ hkv ?_ ?_
  · have h0 := hget' 0 _ he0
    rw [Nat.add_zero] at h0
    simp only [hsees, h0, hget' 1 _ he1, hsee, and_true]
    exact ⟨hf0.2, hf1.2⟩
  · exact ⟨hf0.1, hf1.1, trivial⟩
  · simp only [List.cons_append, List.nil_append, vsees, vsee, ren, g0, g1, g2, true_and]
    exact vsees_junk _ _
  · simp only [List.cons_append, List.nil_append, voks, vok, List.length_cons, List.length_nil, true_and]
    exact ⟨by omega, by omega, by omega, voks_junk _ _⟩
end Gv
