/-
  'laws.FnAudits' returns true, for every input, and leaves what it was handed as it was. Conditions: none beyond the statement's own.
-/
import Derived.Test.YtgkcbnkpgaieaaaGreatM05
import Derived.Test.YtgkcbnkpgaieaaaGreatRows
import Derived.ProofKit
import Derived.Below
import Derived.ChangeSame
namespace Go.Proofs.YtgkcbnkpgaieaaaGreat
open Go.ChangeShapes Go.WideShapes Go.ChangeAt Go.RowKit

section
variable {H : Type} {enc : TypeId × Value → H} {P : Program}
theorem post_of_below {f : Func} {s : ChangeSpec} {apart fresh handsOn again : Bool} {W W' : World} {args : Array Value} {v : Value} {ds gs : List (DataW H)} {before pa pv : List MemPlace}
    (hW : DataW.Whole enc P f.params.toList s.vars apart W args.toList ds gs before)
    (hres : ∀ (b : Nat) (sp : Nat → Bool) (hd : Bool), DataW.TrodAll enc P W' b sp hd f.resultTypes.toList (v.resultList f.resultTypes.size) (s.fn H (ds ++ gs)).results [])
    (hargs : ∀ sp : Nat → Bool, (∀ p ∈ before, sp p.block = true) → DataW.TrodAll enc P W' 0 sp true f.params.toList args.toList (s.fn H (ds ++ gs)).args pa)
    (hvars : ∀ sp : Nat → Bool, (∀ p ∈ before, sp p.block = true) → DataW.TrodVars enc P W' sp s.vars (s.fn H (ds ++ gs)).vars pv)
    (hps : before = pa ++ pv) (hb : Below W.heap.size W W')
    (hok : ∀ (j : Nat) (t : TypeId) (r : Value), f.resultTypes[j]? = some t → (v.resultList f.resultTypes.size)[j]? = some r → Value.okWide P W' .any 0 t r) :
    s.post enc P f apart fresh handsOn again W args v W' := by
  have hlt : ∀ p ∈ before, p.block < W.heap.size := fun p hp => hW.lt p hp
  have hold : ∀ p ∈ before, (fun b => decide (b < W.heap.size)) p.block = true := fun p hp => by simpa using hlt p hp
  refine ⟨ds, gs, before, [], pa, pv, hW, hres _ _ _, hargs _ hold, hvars _ hold, World.keptBut_mono (fun p hp => ⟨hp, ?_⟩) (hb.frame (· ∈ before)), fun _ => ?_⟩
  · rw [hps, List.mem_append] at hp
    exact Or.inr hp
  · obtain ⟨_, _, _, _, _, hz, hn⟩ := hW
    refine ⟨hok, _, _, ([] ++ pa) ++ pv, ⟨[] ++ pa, pv, trodAll_append (hargs _ (fun _ _ => rfl)) (hres _ _ _), hvars _ (fun _ _ => rfl), rfl, ?_, ?_⟩, ?_⟩
    · intro b off hp
      have hin : MemPlace.cell b off ∈ before := by rw [hps]; simpa using hp
      rw [hb.frozen (hlt _ hin)]
      exact hz b off hin
    · intro ha
      have := hn ha
      rw [hps] at this
      simpa using this
    · intro p hp _
      rw [hps]
      simpa using hp

end

theorem Tryz.own : ownKnob Tryz.prog.godebug = none := by kernel_rfl
theorem Tryz.laidOut : laidOutB Tryz.prog = true := by kernel_rfl

theorem calls_of_pure {P : Program} {f : FuncId} {args res : List Gv.AD} (h : Gv.PureCall P f args res) (hcall : ∀ (args : Array Value) (w : World), (callFunc f args).run P w = .ok (.enter f args) w) {w : World} {us : List Value} {F : List Nat} (hg : Gv.GOk w.heap) (ha : Gv.areps w.heap false args us F) :
    Calls P f us.toArray w fun e w' => match e with | .returned v => ∃ F', Gv.Bel (fun b => w.heap.size ≤ b) w w' ∧ Gv.trep w'.heap true res v F' | _ => False := by
  have := h w us F hg ha
  unfold Gv.Does at this
  rw [hcall] at this
  refine this.mono fun e w' he => ?_
  cases e with
  | returned v => obtain ⟨F', h1, h2, _⟩ := he; exact ⟨F', h1, h2⟩
  | panicked c => exact he
  | outgrown => exact he


set_option maxRecDepth 100000 in
theorem fnAudits_lifted (os : Os) (started : os.Started) (H : Type) (enc : TypeId × Value → H) :
    ReturnsInHanded {} Tryz.checked os 3 .any (Rows.fnAuditsSpec.pre6 enc Tryz.prog Tryz.f3 Rows.fnAuditsRow.domain false) (Rows.fnAuditsSpec.post enc Tryz.prog Tryz.f3 false true false false) := by
  refine returnsInHanded_of_change (C := Tryz.checked) Tryz.own started (by kernel_rfl) Tryz.func3
    (ChangeSpec.witness6 (enc := enc) (C := Tryz.checked) false ⟨#[], #[.slice none 0 0], []⟩ 12 (by kernel_rfl) (by kernel_rfl) (by kernel_rfl) (by kernel_rfl)) ?_
  intro W base args ds gs before hval0 hW hcnd _
  have hval : ∀ (j : Nat) t v, Tryz.f3.params[j]? = some t → args[j]? = some v → Value.okWide Tryz.prog W .any base t v := hval0
  have hW' := hW
  obtain ⟨p, q, hA0, hV, rfl, hfz, hnd⟩ := hW
  have hA : DataW.TrodAll enc Tryz.prog W 0 (fun _ => true) true Tryz.f3.params.toList args.toList ds p := hA0
  rw [Tryz.params3] at hA hval
  obtain ⟨rfl, rfl⟩ := trodVars_none hV
  obtain ⟨v0, d0, rfl, rfl, h0⟩ := trodAll_one hA
  obtain ⟨a0, F0, r0, t0⟩ := Gv.arg_read (f := 12) (by kernel_rfl) (hval 0 22 v0 rfl rfl) h0
  unfold Gv.FitsA at t0; rw [Tryz.underlying22] at t0
  obtain ⟨b0, rfl, t0⟩ := t0
  obtain ⟨x0, t0⟩ := Gv.fits22 (f := 10) t0
  simp only [List.cons.injEq, and_true] at t0; subst t0
  have hlt : ∀ x ∈ (p) ++ [], x.block < W.heap.size := fun x hx => hW'.lt x hx
  have hlaw : Gv.PureCall Tryz.prog 3 [.one (.sl 1 (x0.map Gv.eU8))] [.one (.bool true)] := by apply Gv.laws_FnAudits
  refine (calls_of_pure hlaw Tryz.call3 ⟨fun p hp => (by cases hp), fun q hq => (by cases hq)⟩ (us := [v0]) (F := (F0 ++ [])) ⟨v0, [], F0, [], rfl, rfl, r0, ⟨rfl, rfl⟩⟩).mono fun e W' he => ?_
  cases e with
  | panicked c => exact he.elim
  | outgrown => exact he.elim
  | returned v =>
    obtain ⟨F', hb, hv⟩ := he
    have hv1 : Gv.rep W'.heap true (.bool true) v F' := hv
    unfold Gv.rep at hv1
    obtain ⟨rfl, _⟩ := hv1
    have hB : Below W.heap.size W W' := ⟨hb.os, hb.tape, hb.output, hb.size, fun k hk => hb.block k (by omega)⟩
    exact ⟨_, rfl, post_of_below (pa := p) (pv := []) hW' (fun _ _ _ => trodAll_mk1 (shut_bool Tryz.underlying4 true))
      (fun sp hsp => trodAll_mk1 (WideElems.Trod_stays Tryz.laidOut (by kernel_rfl) (of_decide_eq_true (by kernel_rfl)) h0 (fun x hx => hB.same (hlt x (by simp [hx]))) (fun x hx => hsp x (by simp [hx])))) (fun _ _ => rfl) rfl hB
      (ok_one (by kernel_rfl) rfl (okWide_bool_mk Tryz.underlying4 true))⟩

theorem audits_holds : Rows.FnAuditsSaid :=
  OpenClaim.holds_of_wide 3 Tryz.f3 rfl rfl rfl rfl rfl rfl rfl ⟨rfl, rfl, rfl, rfl, rfl⟩ rfl rfl rfl rfl rfl (by kernel_rfl) Tryz.func3 (by kernel_rfl)
    (of_decide_eq_true (by kernel_rfl)) (by unfold Func.isWrapper; first | (rw [if_pos (by decide +kernel)]; kernel_rfl) | (rw [if_neg (by decide +kernel)]; exact ⟨rfl, rfl⟩))
    (fun os started H enc _ => fnAudits_lifted os started H enc)
end Go.Proofs.YtgkcbnkpgaieaaaGreat
