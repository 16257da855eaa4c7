/-
  'laws.FnReports' (its row) returns true, for every input, and leaves what it was handed as it was. Conditions: none beyond the statement's own.
-/
import Derived.Test.YteehpcbpnlkfhaaGreatM06
import Derived.Test.YteehpcbpnlkfhaaGreatRows
import Derived.ProofKit
import Derived.Below
import Derived.ChangeSame
import GoSem.ClaimChange
namespace Gv
open Go Go.Proofs
theorem byte_cells {h : Array Obj} {b f : Nat} : ∀ n : Nat, (∀ i, i < n → ∃ m : Int, cellAt h b (f + i) = some (.int .u8 m) ∧ IntKind.u8.min ≤ m ∧ m ≤ IntKind.u8.max) → ∃ xs : List Int, xs.length = n ∧ repE h false b f 1 (xs.map eU8) []
  | 0, _ => ⟨[], rfl, by simp [repE]⟩
  | n + 1, hr => by
    obtain ⟨xs, h1, h2⟩ := byte_cells n fun i hi => hr i (by omega)
    obtain ⟨m, k1, k2⟩ := hr n (by omega)
    refine ⟨xs ++ [m], by simp [h1], ?_⟩
    rw [List.map_append]
    refine (repE_append _ _ _ _).2 ⟨[], [], rfl, h2, ?_⟩
    simp only [List.length_map, h1, Nat.mul_one, List.map_cons, List.map_nil, repE, repC, eU8, rep]
    exact ⟨[], [], rfl, rfl, ⟨_, [], [], rfl, k1, ⟨rfl, rfl, k2⟩, rfl⟩, rfl⟩
theorem trod_byte {H : Type} {enc : TypeId × Value → H} {P : Program} {w : World} {sp : Nat → Bool} {held : Bool} {fuel : Nat} {t : TypeId} {cs : List Value} {y : DataW H × List MemPlace} (hu : P.underlying t = some (.int .u8)) (h : DataW.trod enc P w 0 sp held fuel t cs = some y) : ∃ n : Int, cs = [.int .u8 n] ∧ IntKind.u8.min ≤ n ∧ n ≤ IntKind.u8.max := by
  cases fuel with
  | zero => simp [DataW.trod] at h
  | succ fuel =>
    simp only [DataW.trod, hu] at h
    split at h <;> first | (exfalso; simp_all; done) | skip
    rename_i k1 k n e
    split at h
    · rename_i hk
      obtain ⟨rfl, hw⟩ := hk
      cases e
      exact ⟨n, rfl, by simpa [Lit.wf] using hw⟩
    · cases h
theorem mapM_getB {α β : Type} (g : α → Option β) : ∀ (l : List α) (r : List β), l.mapM g = some r → ∀ (i : Nat) (x : α), l[i]? = some x → g x = r[i]? ∧ i < r.length
  | [], r, h, i, x, hx => by simp at hx
  | y :: l, r, h, i, x, hx => by
    rw [List.mapM_cons] at h
    cases hy : g y with
    | none => rw [hy] at h; simp at h
    | some z =>
      rw [hy] at h
      cases hl : l.mapM g with
      | none => rw [hl] at h; simp at h
      | some zs =>
        rw [hl] at h
        simp at h; subst h
        cases i with
        | zero => simp at hx; subst hx; simpa using hy
        | succ i => simpa using mapM_getB g l zs hl i x (by simpa using hx)
/-- An argument of bytes, as data of the machine. -/
theorem bytes_read {H : Type} {enc : TypeId × Value → H} {P : Program} {w : World} {sp : Nat → Bool} {held : Bool} {t e : TypeId} {v : Value} {d : DataW H} {ps : List MemPlace} {r : Reach} {base : Nat} (ht : P.underlying t = some (.slice e)) (he : P.underlying e = some (.int .u8)) (hc : P.cellsOf e = 1) (hv : Value.okWide P w r base t v) (h : DataW.Trod enc P w 0 sp held t v d ps) :
    ∃ (xs : List Int) (F : List Nat), rep w.heap false (.sl 1 (xs.map eU8)) v F := by
  obtain ⟨fuel, h⟩ := h
  have hcl : v.cells.toList = [v] := by
    cases v <;> first | rfl | (exfalso; simp [Value.okWide, ht, Cell.okWide, Cell.ok] at hv)
  generalize v.cells.toList = cs at h hcl
  cases fuel with
  | zero => simp [DataW.trod] at h
  | succ fuel =>
    simp only [DataW.trod, ht] at h
    split at h <;> first | (exfalso; simp_all; done) | skip
    · rename_i q; cases q; cases hcl
      exact ⟨[], [], by unfold rep; exact ⟨none, 0, rfl, by simp, by decide, .inl ⟨rfl, rfl, fun h => by cases h⟩⟩⟩
    · rename_i e' a len cap q
      cases q
      cases hcl
      split at h
      · rename_i hcc
        obtain ⟨_, hc1, hc2⟩ := hcc
        simp only [Option.bind_eq_some_iff, hc, Nat.mul_one] at h
        obtain ⟨elems, h1, h2⟩ := h
        have hel : ∀ i, i < len → ∃ m : Int, w.cell? (a.add i) = some (.int .u8 m) ∧ IntKind.u8.min ≤ m ∧ m ≤ IntKind.u8.max := by
          intro i hi
          have hy := mapM_getB _ _ _ h1 i i (by simp [hi])
          obtain ⟨y, hy⟩ : ∃ y, _ = some y := ⟨_, hy.1.trans (List.getElem?_eq_getElem hy.2)⟩
          simp only [Option.bind_eq_some_iff] at hy
          obtain ⟨cs, hcs, hy⟩ := hy
          obtain ⟨n, rfl, hn⟩ := trod_byte he hy
          unfold World.cells? at hcs
          rw [if_pos (Nat.zero_le _)] at hcs
          have := (mapM_getB _ _ _ hcs 0 0 (by simp)).1
          exact ⟨n, by simpa [Addr.add] using this, hn⟩
        have hsp : 0 < len → a.spot = none ∧ a.block < w.heap.size := by
          intro hp
          obtain ⟨m, h0, _⟩ := hel 0 hp
          simp only [Addr.add, if_true] at h0
          unfold World.cell? at h0
          split at h0
          · rename_i hb
            have hlt := (Array.getElem?_eq_some_iff.1 hb).1
            split at h0
            · cases h0
            · rename_i hh; exact ⟨by simpa using hh, hlt⟩
          · cases h0
        have hb : ∃ xs : List Int, xs.length = len ∧ repE w.heap false a.block a.off 1 (xs.map eU8) [] := byte_cells len fun i hi => by
          obtain ⟨m, h0, hm⟩ := hel i hi
          have hs := (hsp (by omega)).1
          have ea : a = ⟨a.block, a.off, none⟩ := by rw [← hs]
          rw [ea, add_lit, cell_eq] at h0
          exact ⟨m, h0, hm⟩
        obtain ⟨xs, x1, x2⟩ := hb
        refine ⟨xs, if xs = [] then [] else [a.block], ?_⟩
        unfold rep
        refine ⟨some a, cap, by simp [x1], by simp [x1]; omega, hc2, ?_⟩
        by_cases hne : xs = []
        · left; exact ⟨by simp [hne], by rw [if_pos hne], fun h => by cases h⟩
        · right
          have hp : 0 < len := by rw [← x1]; exact List.length_pos_iff.2 hne
          exact ⟨a.block, a.off, [], by rw [← (hsp hp).1], by rw [if_neg hne], (hsp hp).2, x2, fun h => by cases h⟩
      · cases h
end Gv
namespace Go.Proofs.YteehpcbpnlkfhaaGreat
open Go.ChangeShapes Go.WideShapes Go.ChangeAt Go.RowKit

section
variable {H : Type} {enc : TypeId × Value → H} {P : Program}
theorem post_of_below {f : Func} {s : ChangeSpec} {apart fresh handsOn again : Bool} {W W' : World} {args : Array Value} {v : Value} {ds gs : List (DataW H)} {before pa pv : List MemPlace}
    (hW : DataW.Whole enc P f.params.toList s.vars apart W args.toList ds gs before)
    (hres : ∀ (b : Nat) (sp : Nat → Bool) (hd : Bool), DataW.TrodAll enc P W' b sp hd f.resultTypes.toList (v.resultList f.resultTypes.size) (s.fn H (ds ++ gs)).results [])
    (hargs : ∀ sp : Nat → Bool, (∀ p ∈ before, sp p.block = true) → DataW.TrodAll enc P W' 0 sp true f.params.toList args.toList (s.fn H (ds ++ gs)).args pa)
    (hvars : ∀ sp : Nat → Bool, (∀ p ∈ before, sp p.block = true) → DataW.TrodVars enc P W' sp s.vars (s.fn H (ds ++ gs)).vars pv)
    (hps : before = pa ++ pv) (hb : Below W.heap.size W W')
    (hok : ∀ (j : Nat) (t : TypeId) (r : Value), f.resultTypes[j]? = some t → (v.resultList f.resultTypes.size)[j]? = some r → Value.okWide P W' .any 0 t r) :
    s.post enc P f apart fresh handsOn again W args v W' := by
  have hlt : ∀ p ∈ before, p.block < W.heap.size := fun p hp => hW.lt p hp
  have hold : ∀ p ∈ before, (fun b => decide (b < W.heap.size)) p.block = true := fun p hp => by simpa using hlt p hp
  refine ⟨ds, gs, before, [], pa, pv, hW, hres _ _ _, hargs _ hold, hvars _ hold, World.keptBut_mono (fun p hp => ⟨hp, ?_⟩) (hb.frame (· ∈ before)), fun _ => ?_⟩
  · rw [hps, List.mem_append] at hp
    exact Or.inr hp
  · obtain ⟨_, _, _, _, _, hz, hn⟩ := hW
    refine ⟨hok, _, _, ([] ++ pa) ++ pv, ⟨[] ++ pa, pv, trodAll_append (hargs _ (fun _ _ => rfl)) (hres _ _ _), hvars _ (fun _ _ => rfl), rfl, ?_, ?_⟩, ?_⟩
    · intro b off hp
      have hin : MemPlace.cell b off ∈ before := by rw [hps]; simpa using hp
      rw [hb.frozen (hlt _ hin)]
      exact hz b off hin
    · intro ha
      have := hn ha
      rw [hps] at this
      simpa using this
    · intro p hp _
      rw [hps]
      simpa using hp

end

theorem Tryz.own : ownKnob Tryz.prog.godebug = none := by kernel_rfl
theorem Tryz.laidOut : laidOutB Tryz.prog = true := by kernel_rfl

theorem calls_of_pure {P : Program} {f : FuncId} {args res : List Gv.AD} (h : Gv.PureCall P f args res) (hcall : ∀ (args : Array Value) (w : World), (callFunc f args).run P w = .ok (.enter f args) w) {w : World} {us : List Value} {F : List Nat} (hg : Gv.GOk w.heap) (ha : Gv.areps w.heap false args us F) :
    Calls P f us.toArray w fun e w' => match e with | .returned v => ∃ F', Gv.Bel (fun b => w.heap.size ≤ b) w w' ∧ Gv.trep w'.heap true res v F' | _ => False := by
  have := h w us F hg ha
  unfold Gv.Does at this
  rw [hcall] at this
  refine this.mono fun e w' he => ?_
  cases e with
  | returned v => obtain ⟨F', h1, h2, _⟩ := he; exact ⟨F', h1, h2⟩
  | panicked c => exact he
  | outgrown => exact he


set_option maxRecDepth 100000 in
theorem fnReports_lifted (os : Os) (started : os.Started) (H : Type) (enc : TypeId × Value → H) :
    ReturnsInHanded {} Tryz.checked os 3 .any (Rows.fnReportsSpec.pre6 enc Tryz.prog Tryz.f3 Rows.fnReportsRow.domain false) (Rows.fnReportsSpec.post enc Tryz.prog Tryz.f3 false true false false) := by
  refine returnsInHanded_of_change (C := Tryz.checked) Tryz.own started (by kernel_rfl) Tryz.func3
    (ChangeSpec.witness6 (enc := enc) (C := Tryz.checked) false ⟨#[], #[.slice none 0 0], []⟩ 12 (by kernel_rfl) (by kernel_rfl) (by kernel_rfl) (by kernel_rfl)) ?_
  intro W base args ds gs before hval0 hW hcnd _
  have hval : ∀ (j : Nat) t v, Tryz.f3.params[j]? = some t → args[j]? = some v → Value.okWide Tryz.prog W .any base t v := hval0
  have hW' := hW
  obtain ⟨p, q, hA0, hV, rfl, hfz, hnd⟩ := hW
  have hA : DataW.TrodAll enc Tryz.prog W 0 (fun _ => true) true Tryz.f3.params.toList args.toList ds p := hA0
  rw [Tryz.params3] at hA hval
  obtain ⟨rfl, rfl⟩ := trodVars_none hV
  obtain ⟨v0, d0, rfl, rfl, h0⟩ := trodAll_one hA
  obtain ⟨x0, F0, r0⟩ := Gv.bytes_read Tryz.underlying22 Tryz.underlying5 (by kernel_rfl) (hval 0 22 v0 rfl rfl) h0
  have hlt : ∀ x ∈ (p) ++ [], x.block < W.heap.size := fun x hx => hW'.lt x hx
  have hlaw : Gv.PureCall Tryz.prog 3 [.one (.sl 1 (x0.map Gv.eU8))] [.one (.bool true)] := by apply Gv.laws_FnReports
  refine (calls_of_pure hlaw Tryz.call3 ⟨fun p hp => (by cases hp), fun q hq => (by cases hq)⟩ (us := [v0]) (F := (F0 ++ [])) ⟨v0, [], F0, [], rfl, rfl, r0, ⟨rfl, rfl⟩⟩).mono fun e W' he => ?_
  cases e with
  | panicked c => exact he.elim
  | outgrown => exact he.elim
  | returned v =>
    obtain ⟨F', hb, hv⟩ := he
    have hv1 : Gv.rep W'.heap true (.bool true) v F' := hv
    unfold Gv.rep at hv1
    obtain ⟨rfl, _⟩ := hv1
    have hB : Below W.heap.size W W' := ⟨hb.os, hb.tape, hb.output, hb.size, fun k hk => hb.block k (by omega)⟩
    exact ⟨_, rfl, post_of_below (pa := p) (pv := []) hW' (fun _ _ _ => trodAll_mk1 (shut_bool Tryz.underlying4 true))
      (fun sp hsp => trodAll_mk1 (WideElems.Trod_stays Tryz.laidOut (by kernel_rfl) (of_decide_eq_true (by kernel_rfl)) h0 (fun x hx => hB.same (hlt x (by simp [hx]))) (fun x hx => hsp x (by simp [hx])))) (fun _ _ => rfl) rfl hB
      (ok_one (by kernel_rfl) rfl (okWide_bool_mk Tryz.underlying4 true))⟩

end Go.Proofs.YteehpcbpnlkfhaaGreat
