/-
  'laws.FnExactNewCells' returns true, for every input (it takes none), and changes nothing that was there. Conditions: none beyond the statement's own.
-/
import Derived.Test.YtnbjfeelokgnlaaFnsB
import Derived.Test.YtnbjfeelokgnlaaRows
import Derived.ProofKit
import Derived.Below
import Derived.ChangeSame
import Derived.Test.YtnbjfeelokgnlaaGvRead
namespace Go.Proofs.Ytnbjfeelokgnlaa
open Go.ChangeShapes Go.WideShapes Go.ChangeAt Go.RowKit

section
variable {H : Type} {enc : TypeId × Value → H} {P : Program}
theorem post_of_below {f : Func} {s : ChangeSpec} {apart fresh handsOn again : Bool} {W W' : World} {args : Array Value} {v : Value} {ds gs : List (DataW H)} {before pa pv : List MemPlace}
    (hW : DataW.Whole enc P f.params.toList s.vars apart W args.toList ds gs before)
    (hres : ∀ (b : Nat) (sp : Nat → Bool) (hd : Bool), DataW.TrodAll enc P W' b sp hd f.resultTypes.toList (v.resultList f.resultTypes.size) (s.fn H (ds ++ gs)).results [])
    (hargs : ∀ sp : Nat → Bool, (∀ p ∈ before, sp p.block = true) → DataW.TrodAll enc P W' 0 sp true f.params.toList args.toList (s.fn H (ds ++ gs)).args pa)
    (hvars : ∀ sp : Nat → Bool, (∀ p ∈ before, sp p.block = true) → DataW.TrodVars enc P W' sp s.vars (s.fn H (ds ++ gs)).vars pv)
    (hps : before = pa ++ pv) (hb : Below W.heap.size W W')
    (hok : ∀ (j : Nat) (t : TypeId) (r : Value), f.resultTypes[j]? = some t → (v.resultList f.resultTypes.size)[j]? = some r → Value.okWide P W' .any 0 t r) :
    s.post enc P f apart fresh handsOn again W args v W' := by
  have hlt : ∀ p ∈ before, p.block < W.heap.size := fun p hp => hW.lt p hp
  have hold : ∀ p ∈ before, (fun b => decide (b < W.heap.size)) p.block = true := fun p hp => by simpa using hlt p hp
  refine ⟨ds, gs, before, [], pa, pv, hW, hres _ _ _, hargs _ hold, hvars _ hold, World.keptBut_mono (fun p hp => ⟨hp, ?_⟩) (hb.frame (· ∈ before)), fun _ => ?_⟩
  · rw [hps, List.mem_append] at hp
    exact Or.inr hp
  · obtain ⟨_, _, _, _, _, hz, hn⟩ := hW
    refine ⟨hok, _, _, ([] ++ pa) ++ pv, ⟨[] ++ pa, pv, trodAll_append (hargs _ (fun _ _ => rfl)) (hres _ _ _), hvars _ (fun _ _ => rfl), rfl, ?_, ?_⟩, ?_⟩
    · intro b off hp
      have hin : MemPlace.cell b off ∈ before := by rw [hps]; simpa using hp
      rw [hb.frozen (hlt _ hin)]
      exact hz b off hin
    · intro ha
      have := hn ha
      rw [hps] at this
      simpa using this
    · intro p hp _
      rw [hps]
      simpa using hp

end

theorem Try.own : ownKnob Try.prog.godebug = none := by kernel_rfl
theorem Try.laidOut : laidOutB Try.prog = true := by kernel_rfl

theorem calls_of_pure {P : Program} {f : FuncId} {args res : List Gv.AD} (h : Gv.PureCall P f args res) (hcall : ∀ (args : Array Value) (w : World), (callFunc f args).run P w = .ok (.enter f args) w) {w : World} {us : List Value} {F : List Nat} (ha : Gv.areps w.heap false args us F) :
    Calls P f us.toArray w fun e w' => match e with | .returned v => ∃ F', Gv.Bel (fun b => w.heap.size ≤ b) w w' ∧ Gv.trep w'.heap true res v F' | _ => False := by
  have := h w us F ha
  unfold Gv.Does at this
  rw [hcall] at this
  refine this.mono fun e w' he => ?_
  cases e with
  | returned v => obtain ⟨F', h1, h2, _⟩ := he; exact ⟨F', h1, h2⟩
  | panicked c => exact he
  | outgrown => exact he

theorem lift {α : Type} {f : α → List Gv.D} : ∀ (xs : List (List Gv.D)), (∀ c ∈ xs, ∃ a, c = f a) → ∃ ys : List α, xs = ys.map f
  | [], _ => ⟨[], rfl⟩
  | x :: xs, h => by
    obtain ⟨a, rfl⟩ := h x (by simp)
    obtain ⟨ys, rfl⟩ := lift xs fun c hc => h c (by simp [hc])
    exact ⟨a :: ys, rfl⟩

theorem fits_ints {f : Nat} {d : Gv.D} (h : Gv.Fits Try.prog (f + 2) 22 [d]) : ∃ xs : List Int, d = .sl 1 (xs.map Gv.eI) := by
  unfold Gv.Fits at h
  rw [Try.underlying22] at h
  obtain ⟨xs, h1, h2⟩ := h
  have hc : Try.prog.cellsOf 3 = 1 := by kernel_rfl
  have : ∀ c ∈ xs, ∃ n : Int, c = Gv.eI n := fun c hcx => by
    have := h2 c hcx
    unfold Gv.Fits at this
    rw [Try.underlying3] at this
    exact this
  obtain ⟨ns, rfl⟩ := lift xs this
  rw [hc] at h1
  exact ⟨ns, List.head_eq_of_cons_eq h1⟩

theorem fits_cells {a : Gv.AD} (h : Gv.FitsA Try.prog 8 29 a) : ∃ (xs : List Int) (r : Int), a = .agg [.sl 1 (xs.map Gv.eI), .int .i64 r] := by
  unfold Gv.FitsA at h
  rw [Try.underlying29] at h
  obtain ⟨ds, rfl, h1⟩ := h
  unfold Gv.Fits at h1
  rw [Try.underlying29] at h1
  obtain ⟨h2, h3⟩ := h1
  have hc : Try.prog.cellsOf 29 = 2 := by kernel_rfl
  have hc2 : Try.prog.cellsOf 22 = 1 := by kernel_rfl
  have hc3 : Try.prog.cellsOf 3 = 1 := by kernel_rfl
  rw [hc] at h2
  match ds, h2 with
  | [x, y], _ =>
    have f0 := h3 _ (List.mem_cons_self ..)
    have f1 := h3 _ (List.mem_cons_of_mem _ (List.mem_cons_self ..))
    simp only [hc2, hc3, List.drop_zero, List.drop_succ_cons, List.take_succ_cons, List.take_zero] at f0 f1
    obtain ⟨xs, rfl⟩ := fits_ints (f := 5) f0
    unfold Gv.Fits at f1
    rw [Try.underlying3] at f1
    obtain ⟨n, f1⟩ := f1
    exact ⟨xs, n, by rw [List.head_eq_of_cons_eq f1]⟩

set_option maxRecDepth 100000 in
theorem isCells_lifted (os : Os) (started : os.Started) (H : Type) (enc : TypeId × Value → H) :
    ReturnsInHanded {} Try.checked os 4 .any (Rows.fnExactIsCellsSpec.pre6 enc Try.prog Try.f4 Rows.fnExactIsCellsRow.domain false) (Rows.fnExactIsCellsSpec.post enc Try.prog Try.f4 false true false false) := by
  refine returnsInHanded_of_change (C := Try.checked) Try.own started (by kernel_rfl) Try.func4
    (ChangeSpec.witness6 (enc := enc) (C := Try.checked) false ⟨#[], #[.agg #[.slice none 0 0, .int .i64 0]], []⟩ 8 (by kernel_rfl) (by kernel_rfl) (by kernel_rfl) (by kernel_rfl)) ?_
  intro W base args ds gs before hval0 hW hcnd _
  have hval : ∀ (j : Nat) t v, Try.f4.params[j]? = some t → args[j]? = some v → Value.okWide Try.prog W .any base t v := hval0
  have hW' := hW
  obtain ⟨p, q, hA0, hV, rfl, hfz, hnd⟩ := hW
  have hA : DataW.TrodAll enc Try.prog W 0 (fun _ => true) true Try.f4.params.toList args.toList ds p := hA0
  rw [Try.params4] at hA hval
  obtain ⟨v0, d0, rfl, rfl, h0⟩ := trodAll_one hA
  obtain ⟨rfl, rfl⟩ := trodVars_none hV
  obtain ⟨a0, F0, r0, t0⟩ := Gv.arg_read (f := 8) (by kernel_rfl) (hval 0 29 v0 rfl rfl) h0
  obtain ⟨xs, r, rfl⟩ := fits_cells t0
  have hlt : ∀ x ∈ p ++ [], x.block < W.heap.size := fun x hx => hW'.lt x hx
  refine (calls_of_pure (Gv.fn4 xs r) Try.call4 (us := [v0]) (F := F0 ++ []) ⟨v0, [], F0, [], rfl, rfl, r0, rfl, rfl⟩).mono fun e W' he => ?_
  cases e with
  | panicked c => exact he.elim
  | outgrown => exact he.elim
  | returned v =>
    obtain ⟨F', hb, hv⟩ := he
    have hv1 : Gv.rep W'.heap true (.bool true) v F' := hv
    unfold Gv.rep at hv1
    obtain ⟨rfl, _⟩ := hv1
    have hB : Below W.heap.size W W' := ⟨hb.os, hb.tape, hb.output, hb.size, fun k hk => hb.block k (by omega)⟩
    exact ⟨_, rfl, post_of_below (pa := p) (pv := []) hW' (fun _ _ _ => trodAll_mk1 (shut_bool Try.underlying4 true))
      (fun sp hsp => trodAll_mk1 (WideElems.Trod_stays Try.laidOut (by kernel_rfl) (of_decide_eq_true (by kernel_rfl)) h0 (fun x hx => hB.same (hlt x (by simp [hx]))) (fun x hx => hsp x (by simp [hx])))) (fun _ _ => rfl) rfl hB
      (ok_one (by kernel_rfl) rfl (okWide_bool_mk Try.underlying4 true))⟩

theorem isCells_holds : Rows.FnExactIsCellsSaid :=
  OpenClaim.holds_of_wide 4 Try.f4 rfl rfl rfl rfl rfl rfl rfl ⟨rfl, rfl, rfl, rfl, rfl⟩ rfl rfl rfl rfl rfl (by kernel_rfl) Try.func4 (by kernel_rfl)
    (of_decide_eq_true (by kernel_rfl)) (by unfold Func.isWrapper; first | (rw [if_pos (by decide +kernel)]; kernel_rfl) | (rw [if_neg (by decide +kernel)]; exact ⟨rfl, rfl⟩))
    (fun os started H enc _ => isCells_lifted os started H enc)
#print axioms isCells_holds
end Go.Proofs.Ytnbjfeelokgnlaa
