/-
  The cursor of the draws: whatever a draw gives lies within its bounds.
-/
import Derived.Test.YtipnobdgmbohkaaNd
namespace Gv
open Go Go.Proofs

theorem ofv33 : ofVal (.int .u64 33) = .d (.int .u64 33) := rfl
theorem ofv45 : ofVal (.int .u64 45) = .d (.int .u64 45) := rfl
theorem shr_eq (k : IntKind) (x y : Int) : shI .shr k x y = some (0 ≤ y, .d (.int k (x.fdiv (2 ^ min y.toNat k.bits)))) := rfl
theorem and255 (x : Int) : 0 ≤ bitI .and .i64 x 255 ∧ bitI .and .i64 x 255 ≤ 255 := by
  have h : ((BitVec.ofInt IntKind.i64.bits x &&& BitVec.ofInt IntKind.i64.bits 255).toNat : Int) ≤ 255 := by
    have : (BitVec.ofInt IntKind.i64.bits x &&& BitVec.ofInt IntKind.i64.bits 255).toNat ≤ 255 := by
      rw [BitVec.toNat_and]
      exact Nat.le_trans Nat.and_le_right (by decide)
    omega
  have e : bitI .and .i64 x 255 = ((BitVec.ofInt IntKind.i64.bits x &&& BitVec.ofInt IntKind.i64.bits 255).toNat : Int) := by
    unfold bitI
    simp only
    rw [w64] <;> omega
  rw [e]
  omega

/-- A cursor: its bytes, its place, its number. -/
def curB (bs : List Int) (i : Nat) (h : Int) : H := .box [.d (.sl 1 (bs.map eU8)), .d (.int .i64 i), .d (.int .i64 h)]

theorem hput_end (hs : List H) (x : H) : hput hs hs.length x = hs ++ [x] := by unfold hput; simp
theorem hput_endN (hs ys : List H) (n : Nat) (x : H) : hput (hs ++ ys) (hs.length + n) x = hs ++ hput ys n x := by
  unfold hput
  by_cases h : n < ys.length
  · simp [h]
  · simp [h, Nat.add_sub_add_left]
theorem hput_end0 (hs ys : List H) (x : H) : hput (hs ++ ys) hs.length x = hs ++ hput ys 0 x := hput_endN hs ys 0 x
theorem hget_endN (hs ys : List H) (n : Nat) : hget (hs ++ ys) (hs.length + n) = hget ys n := by
  unfold hget
  rw [List.getD_eq_getElem?_getD, List.getD_eq_getElem?_getD, List.getElem?_append_right (by omega), Nat.add_sub_cancel_left]
theorem hget_end0 (hs ys : List H) : hget (hs ++ ys) hs.length = hget ys 0 := hget_endN hs ys 0

/-- A renaming that leaves the first m entries where they are. -/
def Fix (ρ : List Nat) (m : Nat) : Prop := ∀ i, i < m → ρ.getD i 0 = i
theorem fix_range {m n : Nat} (h : m ≤ n) : Fix (List.range n) m := fun i hi => by
  have : i < n := by omega
  simp [this]
theorem fix_range_app {m n : Nat} (h : m ≤ n) (r : List Nat) : Fix (List.range n ++ r) m := fun i hi => by
  have : i < n := by omega
  rw [List.getD_eq_getElem?_getD, List.getElem?_append_left (by simpa using this)]
  simp [this]

mutual
theorem ren_fix {ρ : List Nat} {m : Nat} (hf : Fix ρ m) : ∀ (v : V), vok m v → ren ρ v = v
  | .junk, _ => rfl
  | .d _, _ => rfl
  | .nils _, _ => rfl
  | .agg vs, h => by simp only [vok] at h; simp only [ren, rens_fix hf vs h]
  | .ptr id _ _, h => by simp only [vok] at h; simp only [ren, hf id h]
  | .rp _ _, _ => rfl
  | .sl id _ _, h => by simp only [vok] at h; simp only [ren, hf id h]
  | .fn _ vs, h => by simp only [vok] at h; simp only [ren, rens_fix hf vs h]
  | .tup vs, h => by simp only [vok] at h; simp only [ren, rens_fix hf vs h]
  | .gd _ v, h => by simp only [vok] at h; simp only [ren, ren_fix hf v h]
theorem rens_fix {ρ : List Nat} {m : Nat} (hf : Fix ρ m) : ∀ (vs : List V), voks m vs → rens ρ vs = vs
  | [], _ => rfl
  | v :: vs, h => by simp only [voks] at h; simp only [rens, ren_fix hf v h.1, rens_fix hf vs h.2]
end

mutual
theorem vok_mono {m n : Nat} (h : m ≤ n) : ∀ (v : V), vok m v → vok n v
  | .junk, _ => by simp [vok]
  | .d _, _ => by simp [vok]
  | .nils _, _ => by simp [vok]
  | .agg vs, k => by simp only [vok] at k ⊢; exact voks_mono h vs k
  | .ptr id _ _, k => by simp only [vok] at k ⊢; omega
  | .rp _ _, _ => by simp [vok]
  | .sl id _ _, k => by simp only [vok] at k ⊢; omega
  | .fn _ vs, k => by simp only [vok] at k ⊢; exact voks_mono h vs k
  | .tup vs, k => by simp only [vok] at k ⊢; exact voks_mono h vs k
  | .gd _ v, k => by simp only [vok] at k ⊢; exact vok_mono h v k
theorem voks_mono {m n : Nat} (h : m ≤ n) : ∀ (vs : List V), voks m vs → voks n vs
  | [], _ => by simp [voks]
  | v :: vs, k => by simp only [voks] at k ⊢; exact ⟨vok_mono h v k.1, voks_mono h vs k.2⟩
end
theorem voks_append {m : Nat} : ∀ {xs ys : List V}, voks m xs → voks m ys → voks m (xs ++ ys)
  | [], _, _, h => h
  | x :: xs, ys, h, k => by simp only [voks] at h; simp only [List.cons_append, voks]; exact ⟨h.1, voks_append h.2 k⟩
/-- Entries that may be handed on as they are. -/
def rok (m : Nat) : H → Prop
  | .box cs => voks m cs
  | .win _ _ _ _ => False
  | _ => True
def roks (m : Nat) : List H → Prop
  | [] => True
  | x :: xs => rok m x ∧ roks m xs
theorem rok_mono {m n : Nat} (h : m ≤ n) (x : H) (k : rok m x) : rok n x := by
  unfold rok at *
  split at k
  · exact voks_mono h _ k
  · exact k.elim
  · trivial
theorem roks_mono {m n : Nat} (h : m ≤ n) : ∀ {xs : List H}, roks m xs → roks n xs
  | [], _ => trivial
  | x :: xs, k => ⟨rok_mono h x k.1, roks_mono h k.2⟩
theorem roks_append {m : Nat} : ∀ {xs ys : List H}, roks m xs → roks m ys → roks m (xs ++ ys)
  | [], _, _, h => h
  | x :: xs, ys, h, k => ⟨h.1, roks_append h.2 k⟩
theorem roks_allOk {m : Nat} : ∀ {xs : List H}, roks m xs → allOk m xs
  | [], _ => trivial
  | x :: xs, k => ⟨by cases x <;> first | exact k.1 | trivial, roks_allOk k.2⟩
theorem vsee_fix {ρ : List Nat} {m : Nat} (hf : Fix ρ m) {v : V} (h : vok m v) : vsee ρ v v := by
  unfold vsee
  split
  · trivial
  · exact ren_fix hf _ h
theorem kvOk_fix {ρ : List Nat} {m n : Nat} (hf : Fix ρ m) (hn : m ≤ n) : ∀ {kv : List V}, voks m kv → kvOk ρ n kv
  | [], _ => trivial
  | v :: vs, h => by
    simp only [voks] at h
    exact ⟨⟨vsee_fix hf h.1, vok_mono hn v h.1⟩, kvOk_fix hf hn h.2⟩
theorem vsees_fix {ρ : List Nat} {m : Nat} (hf : Fix ρ m) : ∀ {vs : List V}, voks m vs → vsees ρ vs vs
  | [], _ => trivial
  | v :: vs, h => by simp only [voks] at h; exact ⟨vsee_fix hf h.1, vsees_fix hf h.2⟩
theorem hsee_fix {ρ : List Nat} {m : Nat} (hf : Fix ρ m) : ∀ {x : H}, rok m x → hsee ρ x x
  | .dead, _ => trivial
  | .box cs, h => by simp only [hsee]; exact vsees_fix hf h
  | .arr _ _ _, _ => ⟨rfl, rfl, rfl⟩
  | .ro _ _, _ => ⟨rfl, rfl⟩
  | .cln _ _, _ => ⟨rfl, rfl⟩
theorem hsees_fix {ρ : List Nat} {m : Nat} (hf : Fix ρ m) (hs : List H) : ∀ (is : List Nat) (xs : List H), is.length = xs.length → (∀ k, k < xs.length → ∃ x, xs[k]? = some x ∧ hget hs (is.getD k 0) = x ∧ rok m x) → hsees ρ hs is xs
  | [], [], _, _ => trivial
  | i :: is, x :: xs, hl, h => by
    refine ⟨?_, hsees_fix hf hs is xs (by simpa using hl) fun k hk => ?_⟩
    · obtain ⟨y, h1, h2, h3⟩ := h 0 (by simp)
      simp only [List.getElem?_cons_zero, Option.some.injEq] at h1
      subst h1
      simp only [List.getD_cons_zero] at h2
      rw [h2]; exact hsee_fix hf h3
    · obtain ⟨y, h1, h2, h3⟩ := h (k + 1) (by simpa using hk)
      exact ⟨y, by simpa using h1, by simpa using h2, h3⟩
theorem roks_at {m : Nat} : ∀ {xs : List H} {k : Nat} {x : H}, roks m xs → xs[k]? = some x → rok m x
  | [], _, _, _, h => by simp at h
  | y :: ys, 0, x, k, h => by simp at h; subst h; exact k.1
  | y :: ys, n + 1, x, k, h => roks_at (xs := ys) k.2 (by simpa using h)
theorem hget_some {hs : List H} {i : Nat} {x : H} (h : hs[i]? = some x) : hget hs i = x := by unfold hget; rw [List.getD_eq_getElem?_getD, h]; rfl

/-- What came behind is forgotten. -/
theorem see_keep {kv ts ts' : List V} {hs ex : List H} (hr : roks hs.length hs) (hkv : voks hs.length kv) (ht : vsees (List.range hs.length) ts' ts) (ht' : voks hs.length ts') : seeE kv (List.range hs.length) ⟨ts, hs ++ ex⟩ ⟨ts', hs⟩ := by
  have hf : Fix (List.range hs.length) hs.length := fix_range (Nat.le_refl _)
  refine ⟨List.nodup_range, ht, hsees_fix hf _ _ _ (by simp) fun k hk => ?_, ht', roks_allOk hr, kvOk_fix hf (Nat.le_refl _) hkv⟩
  refine ⟨hs[k], List.getElem?_eq_getElem hk, ?_, roks_at hr (List.getElem?_eq_getElem hk)⟩
  have : (List.range hs.length).getD k 0 = k := hf k hk
  rw [this]
  exact hget_some (by rw [List.getElem?_append_left hk]; exact List.getElem?_eq_getElem hk)
theorem see_keep0 {kv ts ts' : List V} {hs : List H} (hr : roks hs.length hs) (hkv : voks hs.length kv) (ht : vsees (List.range hs.length) ts' ts) (ht' : voks hs.length ts') : seeE kv (List.range hs.length) ⟨ts, hs⟩ ⟨ts', hs⟩ := by
  have := see_keep (ex := []) hr hkv ht ht'
  rwa [List.append_nil] at this
/-- What came behind is forgotten but one entry. -/
theorem see_keep1 {kv ts ts' : List V} {hs ex : List H} {x : H} (k : Nat) (hx : ex[k]? = some x) (hr : roks hs.length hs) (hrx : rok hs.length x) (hkv : voks hs.length kv) (ht : vsees (List.range hs.length ++ [hs.length + k]) ts' ts) (ht' : voks (hs.length + 1) ts') :
    seeE kv (List.range hs.length ++ [hs.length + k]) ⟨ts, hs ++ ex⟩ ⟨ts', hs ++ [x]⟩ := by
  have hf : Fix (List.range hs.length ++ [hs.length + k]) hs.length := fix_range_app (Nat.le_refl _) _
  have hl : (hs ++ [x]).length = hs.length + 1 := by simp
  refine ⟨?_, ht, hsees_fix hf _ _ _ (by simp) fun j hj => ?_, by rw [hl]; exact ht', ?_, by rw [hl]; exact kvOk_fix hf (by omega) hkv⟩
  · rw [List.nodup_append]
    refine ⟨List.nodup_range, by simp, fun a ha b hb => ?_⟩
    simp at ha hb; omega
  · rw [hl] at hj
    by_cases h : j < hs.length
    · refine ⟨hs[j], by rw [List.getElem?_append_left h]; exact List.getElem?_eq_getElem h, ?_, roks_at hr (List.getElem?_eq_getElem h)⟩
      rw [hf j h]
      exact hget_some (by rw [List.getElem?_append_left h]; exact List.getElem?_eq_getElem h)
    · have : j = hs.length := by omega
      subst this
      refine ⟨x, by simp, ?_, hrx⟩
      have e : (List.range hs.length ++ [hs.length + k]).getD hs.length 0 = hs.length + k := by
        rw [List.getD_eq_getElem?_getD, List.getElem?_append_right (by simp)]; simp
      rw [e]
      exact hget_some (by rw [List.getElem?_append_right (by omega), Nat.add_sub_cancel_left]; exact hx)
  · rw [hl]
    exact roks_allOk (roks_append (roks_mono (by omega) hr) ⟨rok_mono (by omega) x hrx, trivial⟩)

theorem rok_cur (m : Nat) (bs : List Int) (i : Nat) (h : Int) : rok m (curB bs i h) := by simp [curB, rok, voks, vok]
theorem see_cur {bs : List Int} {i : Nat} {h : Int} {pre rest ex : List H} {kv ts ts' : List V} (hr : roks (pre.length + (rest.length + 1)) pre ∧ roks (pre.length + (rest.length + 1)) rest) (hkv : voks (pre.length + (rest.length + 1)) kv) (ht : vsees (List.range (pre.length + (rest.length + 1))) ts' ts) (ht' : voks (pre.length + (rest.length + 1)) ts') : seeE kv (List.range (pre.length + (rest.length + 1))) ⟨ts, pre ++ curB bs i h :: (rest ++ ex)⟩ ⟨ts', pre ++ curB bs i h :: rest⟩ := by
  have e : (pre ++ curB bs i h :: rest).length = pre.length + (rest.length + 1) := by simp
  have := see_keep (hs := pre ++ curB bs i h :: rest) (ex := ex) (ts := ts) (ts' := ts') (kv := kv) (by rw [e]; exact roks_append hr.1 ⟨rok_cur _ _ _ _, hr.2⟩) (by rw [e]; exact hkv) (by rw [e]; exact ht) (by rw [e]; exact ht')
  rw [e, List.append_assoc] at this
  exact this
theorem see_cur0 {bs : List Int} {i : Nat} {h : Int} {pre rest : List H} {kv ts ts' : List V} (hr : roks (pre.length + (rest.length + 1)) pre ∧ roks (pre.length + (rest.length + 1)) rest) (hkv : voks (pre.length + (rest.length + 1)) kv) (ht : vsees (List.range (pre.length + (rest.length + 1))) ts' ts) (ht' : voks (pre.length + (rest.length + 1)) ts') : seeE kv (List.range (pre.length + (rest.length + 1))) ⟨ts, pre ++ curB bs i h :: rest⟩ ⟨ts', pre ++ curB bs i h :: rest⟩ := by
  have := see_cur (bs := bs) (i := i) (h := h) (ex := []) hr hkv ht ht'
  rwa [List.append_nil] at this
theorem see_cur1 {bs : List Int} {i : Nat} {h : Int} {pre rest ex : List H} {x : H} (k : Nat) {kv ts ts' : List V} (hx : ex[k]? = some x) (hrx : rok (pre.length + (rest.length + 1)) x) (hr : roks (pre.length + (rest.length + 1)) pre ∧ roks (pre.length + (rest.length + 1)) rest) (hkv : voks (pre.length + (rest.length + 1)) kv) (ht : vsees (List.range (pre.length + (rest.length + 1)) ++ [pre.length + (rest.length + 1) + k]) ts' ts) (ht' : voks (pre.length + (rest.length + 1) + 1) ts') : seeE kv (List.range (pre.length + (rest.length + 1)) ++ [pre.length + (rest.length + 1) + k]) ⟨ts, pre ++ curB bs i h :: (rest ++ ex)⟩ ⟨ts', pre ++ curB bs i h :: (rest ++ [x])⟩ := by
  have e : (pre ++ curB bs i h :: rest).length = pre.length + (rest.length + 1) := by simp
  have := see_keep1 (hs := pre ++ curB bs i h :: rest) (ex := ex) (ts := ts) (ts' := ts') (kv := kv) k hx (by rw [e]; exact roks_append hr.1 ⟨rok_cur _ _ _ _, hr.2⟩) (by rw [e]; exact hrx) (by rw [e]; exact hkv) (by rw [e]; exact ht) (by rw [e]; exact ht')
  rw [e, List.append_assoc, List.append_assoc] at this
  exact this
theorem rangeP (p r : Nat) : (List.range (p + (r + 1))).getD p 0 = p := fix_range (Nat.le_refl _) p (by omega)
theorem rangeAP (p r : Nat) (l : List Nat) : (List.range (p + (r + 1)) ++ l).getD p 0 = p := fix_range_app (Nat.le_refl _) l p (by omega)
theorem rangeA1 (n k : Nat) (l : List Nat) : (List.range n ++ k :: l).getD n 0 = k := by
  rw [List.getD_eq_getElem?_getD, List.getElem?_append_right (by simp)]; simp

def SeeX (kv : List V) (K : V → List H → Prop) (x : V) (hs' : List H) : Prop := ∃ ρ x2 hs2, seeE kv ρ ⟨[x], hs'⟩ ⟨[x2], hs2⟩ ∧ K x2 hs2
/-- What a call leaves may be seen otherwise. -/
theorem InlCall.see {P : Program} {f : FuncId} {kv : List V} {hs : List H} {vs : List V} {K : V → List H → Prop} (h : InlCall P f kv hs vs (SeeX kv K)) : InlCall P f kv hs vs K := by
  intro B w0 kp us w hkv hR
  exact (h B w0 kp us w hkv hR).mono fun v w' ⟨x, hs', ⟨ρ, x2, hs2, h1, h2⟩, h3⟩ => ⟨x2, hs2, h2, seeE_ok hkv h1 h3⟩
end Gv
