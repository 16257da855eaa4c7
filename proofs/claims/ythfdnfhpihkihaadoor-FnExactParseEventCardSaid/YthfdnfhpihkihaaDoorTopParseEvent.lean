/-
  'laws.FnExactParseEvent' returns true, for every input, and leaves what it was handed as it was. Conditions: none beyond the statement's own.
-/
import Derived.Test.YthfdnfhpihkihaaDoorLawParseEvent
import Derived.Test.YthfdnfhpihkihaaDoorRows
import Derived.ProofKit
import Derived.Below
import Derived.ChangeSame
import Derived.Test.YthfdnfhpihkihaaDoorTypes
import Derived.Test.YthfdnfhpihkihaaDoorCards
import Derived.Test.YthfdnfhpihkihaaDoorTie
import Derived.LaidMore
import Derived.OpenShut
import Derived.ChangeArms
import Derived.Stop.Joined
import Derived.Lib.LaidTab
import Derived.Stop.LaidErr
import Derived.SevenTiedAt
namespace Go.Proofs.YthfdnfhpihkihaaDoor
open Go.ChangeShapes Go.WideShapes Go.ChangeAt Go.RowKit

section
variable {H : Type} {enc : TypeId × Value → H} {P : Program}
theorem post_of_below {f : Func} {s : ChangeSpec} {apart fresh handsOn again : Bool} {W W' : World} {args : Array Value} {v : Value} {ds gs : List (DataW H)} {before pa pv : List MemPlace}
    (hW : DataW.Whole enc P f.params.toList s.vars apart W args.toList ds gs before)
    (hres : ∀ (b : Nat) (sp : Nat → Bool) (hd : Bool), DataW.TrodAll enc P W' b sp hd f.resultTypes.toList (v.resultList f.resultTypes.size) (s.fn H (ds ++ gs)).results [])
    (hargs : ∀ sp : Nat → Bool, (∀ p ∈ before, sp p.block = true) → DataW.TrodAll enc P W' 0 sp true f.params.toList args.toList (s.fn H (ds ++ gs)).args pa)
    (hvars : ∀ sp : Nat → Bool, (∀ p ∈ before, sp p.block = true) → DataW.TrodVars enc P W' sp s.vars (s.fn H (ds ++ gs)).vars pv)
    (hps : before = pa ++ pv) (hb : Below W.heap.size W W')
    (hok : ∀ (j : Nat) (t : TypeId) (r : Value), f.resultTypes[j]? = some t → (v.resultList f.resultTypes.size)[j]? = some r → Value.okWide P W' .any 0 t r) :
    s.post enc P f apart fresh handsOn again W args v W' := by
  have hlt : ∀ p ∈ before, p.block < W.heap.size := fun p hp => hW.lt p hp
  have hold : ∀ p ∈ before, (fun b => decide (b < W.heap.size)) p.block = true := fun p hp => by simpa using hlt p hp
  refine ⟨ds, gs, before, [], pa, pv, hW, hres _ _ _, hargs _ hold, hvars _ hold, World.keptBut_mono (fun p hp => ⟨hp, ?_⟩) (hb.frame (· ∈ before)), fun _ => ?_⟩
  · rw [hps, List.mem_append] at hp
    exact Or.inr hp
  · obtain ⟨_, _, _, _, _, hz, hn⟩ := hW
    refine ⟨hok, _, _, ([] ++ pa) ++ pv, ⟨[] ++ pa, pv, trodAll_append (hargs _ (fun _ _ => rfl)) (hres _ _ _), hvars _ (fun _ _ => rfl), rfl, ?_, ?_⟩, ?_⟩
    · intro b off hp
      have hin : MemPlace.cell b off ∈ before := by rw [hps]; simpa using hp
      rw [hb.frozen (hlt _ hin)]
      exact hz b off hin
    · intro ha
      have := hn ha
      rw [hps] at this
      simpa using this
    · intro p hp _
      rw [hps]
      simpa using hp

end

theorem Tryd.own : ownKnob Tryd.prog.godebug = none := by kernel_rfl
theorem Tryd.laidOut : laidOutB Tryd.prog = true := by kernel_rfl

theorem calls_of_pure {P : Program} {f : FuncId} {args res : List Gv.AD} (h : Gv.PureCall P f args res) (hcall : ∀ (args : Array Value) (w : World), (callFunc f args).run P w = .ok (.enter f args) w) {w : World} {us : List Value} {F : List Nat} (hg : Gv.GOk w.heap) (ha : Gv.areps w.heap false args us F) :
    Calls P f us.toArray w fun e w' => match e with | .returned v => ∃ F', Gv.Bel (fun b => w.heap.size ≤ b) w w' ∧ Gv.trep w'.heap true res v F' | _ => False := by
  have := h w us F hg ha
  unfold Gv.Does at this
  rw [hcall] at this
  refine this.mono fun e w' he => ?_
  cases e with
  | returned v => obtain ⟨F', h1, h2, _⟩ := he; exact ⟨F', h1, h2⟩
  | panicked c => exact he
  | outgrown => exact he


def wordsS : List (List UInt8) := [[], [111, 112, 101, 110], [119, 114, 105, 116, 101], [102, 105, 110, 105, 115, 104], [114, 101, 97, 100], [114, 101, 115, 101, 116], [115, 116, 111, 112], [112, 114, 105, 111, 114, 105, 116, 121], [101, 109, 105, 116], [97, 99, 107], [108, 111, 115, 101], [112, 97, 121, 108, 111, 97, 100], [116, 105, 109, 101]]
def words : List Gv.D := wordsS.map Gv.D.str
theorem wordsS_small : ∀ s ∈ wordsS, s.length ≤ 1000000 := by
  have h : wordsS.all (fun s => decide (s.length ≤ 1000000)) = true := rfl
  exact fun s hs => of_decide_eq_true (List.all_eq_true.1 h s hs)
theorem gW : Tryd.prog.globalNamed "loop.example/g01633/impl.eventWords" = some 0 := by kernel_rfl
theorem tW : (Tryd.prog.globals[0]?).map (·.type) = some 52 := by kernel_rfl
theorem vars_one {H : Type} {enc : TypeId × Value → H} {P : Program} {w : World} {sp : Nat → Bool} {n : String} {ds : List (DataW H)} {ps : List MemPlace} (h : DataW.TrodVars enc P w sp [n] ds ps) :
    ∃ g t cs fuel p q, P.globalNamed n = some g ∧ (P.globals[g]?).map (·.type) = some t ∧ w.var? P n = some cs ∧ (∃ d, ds = [d] ∧ DataW.trod enc P w 0 sp true fuel t cs.toList = some (d, p)) ∧ q = [] ∧ ps = MemPlace.row ⟨g, 0, none⟩ cs.size ++ p ++ q := by
  match ds, h with
  | [d], h =>
    obtain ⟨g, t, cs, fuel, p, q, h1, h2, h3, h4, h5, h6⟩ := h
    exact ⟨g, t, cs, fuel, p, q, h1, h2, h3, ⟨d, rfl, h4⟩, h5, h6⟩
  | [], h => exact h.elim
  | _ :: _ :: _, h =>
    obtain ⟨g, t, cs, fuel, p, q, h1, h2, h3, h4, h5, h6⟩ := h
    exact h5.elim
theorem door_met (os : Os) (args : Array Value) : laidMetH Tryd.prog Rows.fnExactParseEventRow.laid ((World.doorLaid Tryd.prog 4000 os).forCall (fun _ _ => 0) ⟨#[], args, []⟩).memory :=
  laidMetH_of_parts3 (fuel := 20) (laidMet_of_run' 20 (by kernel_rfl) (by kernel_rfl)) (by kernel_rfl) (by kernel_rfl)
theorem repC_strs {h : Array Obj} {b : Nat} : ∀ (ss : List (List UInt8)) (f : Nat), (∀ i s, ss[i]? = some s → Gv.cellAt h b (f + i) = some (.string ⟨s.toArray⟩)) → (∀ s ∈ ss, s.length ≤ maxLen) → Gv.repC h false b f (ss.map Gv.D.str) []
  | [], _, _, _ => by simp [Gv.repC]
  | s :: ss, f, hc, hl => by
    simp only [List.map_cons, Gv.repC, Gv.rep]
    refine ⟨_, [], [], rfl, by simpa using hc 0 s rfl, ⟨rfl, rfl, hl s (by simp)⟩, repC_strs ss (f + 1) (fun i t ht => ?_) (fun t ht => hl t (by simp [ht]))⟩
    rw [show f + 1 + i = f + (i + 1) from by omega]; exact hc (i + 1) t (by simpa using ht)
theorem vars_stay {H : Type} {enc : TypeId × Value → H} {W W' : World} {g t : Nat} {cs : Array Value} {fuel : Nat} {p q : List MemPlace} (hB : Below W.heap.size W W') (h1 : Tryd.prog.globalNamed "loop.example/g01633/impl.eventWords" = some g) (h2 : (Tryd.prog.globals[g]?).map (·.type) = some t) (h3 : W.var? Tryd.prog "loop.example/g01633/impl.eventWords" = some cs)
    (d : DataW H) (h4 : DataW.trod enc Tryd.prog W 0 (fun _ => true) true fuel t cs.toList = some (d, p)) (h6 : q = MemPlace.row ⟨g, 0, none⟩ cs.size ++ p) (hq : ∀ x ∈ q, x.block < W.heap.size) {sp : Nat → Bool} (hsp : ∀ x ∈ q, sp x.block = true) :
    DataW.TrodVars enc Tryd.prog W' sp ["loop.example/g01633/impl.eventWords"] [d] q := by
  obtain rfl := Option.some.inj (gW.symm.trans h1)
  obtain rfl := Option.some.inj (tW.symm.trans h2)
  have hlt : 0 < W.heap.size := by
    rcases Nat.lt_or_ge 0 W.heap.size with h | h
    · exact h
    · exfalso
      unfold World.var? at h3
      rw [gW] at h3
      simp only [Option.bind_some, Array.getElem?_eq_none h] at h3
      cases h3
  have hv : W'.var? Tryd.prog "loop.example/g01633/impl.eventWords" = some cs := by
    unfold World.var? at h3 ⊢
    rw [gW] at h3 ⊢
    simp only [Option.bind_some] at h3 ⊢
    rw [hB.block 0 hlt]; exact h3
  have ht : DataW.Trod enc Tryd.prog W 0 (fun _ => true) true 52 (.agg cs) d p := ⟨fuel, h4⟩
  obtain ⟨fuel', h5⟩ := WideElems.Trod_stays Tryd.laidOut (by kernel_rfl) (of_decide_eq_true (by kernel_rfl)) (sp' := sp) ht (fun x hx => hB.same (hq x (by rw [h6]; simp [hx]))) (fun x hx => hsp x (by rw [h6]; simp [hx]))
  exact ⟨0, 52, cs, fuel', p, [], h1, h2, hv, h5, rfl, by simpa using h6⟩
theorem starES : "*" ++ "errors.errorString" = "*errors.errorString" := by decide
theorem rowES (u : TypeId) (h : Tryd.prog.typeName? 3 u = some "*errors.errorString") : u = 94 :=
  typeName_ptr_named (nm := "errors.errorString") (by rw [starES]; kernel_rfl) (by kernel_rfl) (by decide) u (by rw [starES]; exact h)
theorem var_cells {P : Program} {W : World} {n : String} {g : Nat} {cs : Array Value} (hg : P.globalNamed n = some g) (h : W.var? P n = some cs) : ∃ e fr, W.heap[g]? = some (.cells cs e fr) := by
  unfold World.var? at h
  rw [hg] at h
  simp only [Option.bind_some] at h
  split at h
  · rename_i c e fr hc
    cases h
    exact ⟨e, fr, hc⟩
  · cases h
theorem lt_cells {h : Array Obj} {g : Nat} {o : Obj} (e : h[g]? = some o) : g < h.size := (Array.getElem?_eq_some_iff.1 e).1
set_option maxRecDepth 100000 in
theorem gok_of_laid {W : World} (h0 : laidMetH Tryd.prog Rows.fnExactParseEventRow.laid W) : Gv.GOk W.heap := by
  rw [MakeChecks.laidMetH_plain _ _ _ (by kernel_rfl)] at h0
  have h1 := h0.tail
  have h2 := h1.tail
  have x4 : ∃ cs e fr, W.heap[4]? = some (.cells cs e fr) ∧ cs = #[.int .u64 1, .int .u64 10, .int .u64 100, .int .u64 1000, .int .u64 10000, .int .u64 100000, .int .u64 1000000, .int .u64 10000000, .int .u64 100000000, .int .u64 1000000000, .int .u64 10000000000, .int .u64 100000000000, .int .u64 1000000000000, .int .u64 10000000000000, .int .u64 100000000000000, .int .u64 1000000000000000, .int .u64 10000000000000000, .int .u64 100000000000000000, .int .u64 1000000000000000000, .int .u64 10000000000000000000] := by
    have t := Lib.tabIs_of_head (k := .u64) (zs := [1, 10, 100, 1000, 10000, 100000, 1000000, 10000000, 100000000, 1000000000, 10000000000, 100000000000, 1000000000000, 10000000000000, 100000000000000, 1000000000000000, 10000000000000000, 100000000000000000, 1000000000000000000, 10000000000000000000]) (g := 4) (t := 88) (e := 73) (n := 20) (by kernel_rfl) (by kernel_rfl) Tryd.underlying88 Tryd.underlying73 (by kernel_rfl) (by kernel_rfl) h2
    obtain ⟨e, fr, q⟩ := var_cells (by kernel_rfl) t
    exact ⟨_, e, fr, q, rfl⟩
  have h3 := h2.tail
  have x3 : ∃ cs e fr, W.heap[3]? = some (.cells cs e fr) ∧ ∃ tp a, cs = #[.iface tp (.pointer (some a))] := by
    obtain ⟨a, s, hv, _, _, _⟩ := laid_sentinel (ti := 54) (tp := 94) (te := 96) (ts := 9) (text := [118, 97, 108, 117, 101, 32, 111, 117, 116, 32, 111, 102, 32, 114, 97, 110, 103, 101]) h3 (g := 3) (by kernel_rfl) (by kernel_rfl) Tryd.underlying54 rowES Tryd.underlying94 Tryd.underlying96 rfl rfl Tryd.underlying9 (by kernel_rfl) (by kernel_rfl)
    obtain ⟨e, fr, q⟩ := var_cells (g := 3) (by kernel_rfl) hv
    exact ⟨_, e, fr, q, _, _, rfl⟩
  have h4 := h3.tail
  have x2 : ∃ cs e fr, W.heap[2]? = some (.cells cs e fr) ∧ ∃ tp a, cs = #[.iface tp (.pointer (some a))] := by
    obtain ⟨a, s, hv, _, _, _⟩ := laid_sentinel (ti := 54) (tp := 94) (te := 96) (ts := 9) (text := [105, 110, 118, 97, 108, 105, 100, 32, 115, 121, 110, 116, 97, 120]) h4 (g := 2) (by kernel_rfl) (by kernel_rfl) Tryd.underlying54 rowES Tryd.underlying94 Tryd.underlying96 rfl rfl Tryd.underlying9 (by kernel_rfl) (by kernel_rfl)
    obtain ⟨e, fr, q⟩ := var_cells (g := 2) (by kernel_rfl) hv
    exact ⟨_, e, fr, q, _, _, rfl⟩
  have h5 := h4.tail
  obtain ⟨ps, ⟨g0, t0, cs0, f0, p0, q0, hg0, ht0, hv0, hd0, _⟩, _, _⟩ := h5
  obtain rfl := Option.some.inj (gW.symm.trans hg0)
  obtain rfl := Option.some.inj (tW.symm.trans ht0)
  have c9 : Tryd.prog.cellsOf 9 = 1 := by kernel_rfl
  obtain ⟨xs, m1, rfl, hx1, hlen, hn3, hel⟩ := DataW.trod_array Tryd.underlying52 hd0
  have hcell := fun i => World.var?_cell hg0 hv0 i
  have hlt : 0 < W.heap.size := by
    have := hcell 0
    rcases Nat.lt_or_ge 0 W.heap.size with h | h
    · exact h
    · exfalso
      unfold World.var? at hv0
      rw [gW] at hv0
      simp only [Option.bind_some, Array.getElem?_eq_none h] at hv0
      cases hv0
  have hwords : 0 < W.heap.size ∧ Gv.repC W.heap false 0 0 words [] := by
    refine ⟨hlt, ?_⟩
    refine repC_strs wordsS 0 (fun i s hs => ?_) (fun s hs => Gv.small_le (wordsS_small s hs))
    have hi : i < 13 := (List.getElem?_eq_some_iff.1 hs).1
    have h1 := hel i hi
    rw [c9, Nat.mul_one] at h1
    have hxi : xs[i]? = some (xs[i]'(by omega)) := List.getElem?_eq_getElem _
    rw [hxi] at h1
    obtain ⟨b, e1, e2, _⟩ := DataW.trod_string Tryd.underlying9 h1
    have hb : xs[i].1 = .lit (.string s) := by
      have h2 : Rows.laid_loop_example_g01633_impl_eventWords = DataW.agg (xs.map (·.1)) := congrArg Prod.fst hx1
      have h3 : (wordsS.map fun s => (DataW.lit (.string s) : DataW Unit)) = xs.map (·.1) := by
        have : (Rows.laid_loop_example_g01633_impl_eventWords : DataW Unit) = .agg (wordsS.map fun s => .lit (.string s)) := rfl
        rw [this] at h2
        exact DataW.agg.inj h2
      have h4 := congrArg (·[i]?) h3
      simp only [List.getElem?_map, hs, hxi, Option.map_some, Option.some.injEq] at h4
      exact h4.symm
    rw [e2] at hb
    have hbs : b.data.toList = s := by simpa using hb
    have hcs : cs0[i]? = some (.string b) := by
      have := congrArg (·[0]?) e1
      simpa [List.getElem?_take, List.getElem?_drop] using this
    rw [Nat.zero_add, ← Gv.cell_eq, hcell i, hcs]
    subst hbs
    simp
  refine ⟨fun p hp => ?_, fun q hq => ?_⟩
  · have hg : Gv.globs = [(4, []), (3, []), (2, []), (0, words)] := rfl
    rw [hg] at hp
    simp only [List.mem_cons, List.not_mem_nil, or_false] at hp
    rcases hp with rfl | rfl | rfl | rfl
    · obtain ⟨_, _, _, e, _⟩ := x4
      exact ⟨lt_cells e, rfl⟩
    · obtain ⟨_, _, _, e, _⟩ := x3
      exact ⟨lt_cells e, rfl⟩
    · obtain ⟨_, _, _, e, _⟩ := x2
      exact ⟨lt_cells e, rfl⟩
    · exact hwords
  · simp only [Gv.gVars, List.mem_cons, List.not_mem_nil, or_false] at hq
    rcases hq with rfl | rfl | rfl
    · exact x4
    · exact x3
    · exact x2

set_option maxRecDepth 100000 in
theorem fnExactParseEvent_lifted (os : Os) (started : os.Started) (H : Type) (enc : TypeId × Value → H) :
    ReturnsInHanded {} Tryd.checked os 4 .any (fun w args => (Rows.fnExactParseEventSpec.pre enc Tryd.prog Tryd.f4 [] false w args ∧ laidMetH Tryd.prog Rows.fnExactParseEventRow.laid w) ∧ sizedMet enc Tryd.prog Tryd.f4 (OpenSpec.ofChange Rows.fnExactParseEventSpec) false w args)
      (Rows.fnExactParseEventSpec.post enc Tryd.prog Tryd.f4 false true false false) := by
  refine returnsInHanded_of_change_and (C := Tryd.checked) (X := fun w _ => laidMetH Tryd.prog Rows.fnExactParseEventRow.laid w) (fun _ _ _ hh h => h.of_heap hh) Tryd.own started (by kernel_rfl) Tryd.func4
    (ChangeSpec.witness_shaped (enc := enc) (C := Tryd.checked) (os := os) (X := fun w _ => laidMetH Tryd.prog Rows.fnExactParseEventRow.laid w) false (World.doorLaid Tryd.prog 4000 os) #[.string ⟨#[]⟩] 20 rfl (World.shaped_of_RefB (by kernel_rfl) (by kernel_rfl)) (by kernel_rfl) (by kernel_rfl) (by kernel_rfl) (door_met os _)) ?_
  intro W base args ds gs before hval0 hW _ _ hL _
  have hval : ∀ (j : Nat) t v, Tryd.f4.params[j]? = some t → args[j]? = some v → Value.okWide Tryd.prog W .any base t v := hval0
  have hW' := hW
  obtain ⟨p, q, hA0, hV, rfl, hfz, hnd⟩ := hW
  have hA : DataW.TrodAll enc Tryd.prog W 0 (fun _ => true) true Tryd.f4.params.toList args.toList ds p := hA0
  rw [Tryd.params4] at hA hval
  obtain ⟨gI, gT, gcs, gfu, gp, gq, hg1, hg2, hg3, ⟨gd, rfl, hg4⟩, hg5, hg6⟩ := vars_one hV
  subst hg5
  simp only [List.append_nil] at hg6
  have hqs : ∀ x ∈ q, x.block < W.heap.size := fun x hx => hW'.lt x (by simp [hx])
  obtain ⟨v0, d0, rfl, rfl, h0⟩ := trodAll_one hA
  obtain ⟨a0, F0, r0, t0⟩ := Gv.arg_read (f := 12) (by kernel_rfl) (hval 0 9 v0 rfl rfl) h0
  unfold Gv.FitsA at t0; rw [Tryd.underlying9] at t0
  obtain ⟨b0, rfl, t0⟩ := t0
  obtain ⟨x0, t0⟩ := Gv.fits9 (f := 11) t0
  simp only [List.cons.injEq, and_true] at t0; subst t0
  have hlt : ∀ x ∈ (p) ++ q, x.block < W.heap.size := fun x hx => hW'.lt x hx
  have hlaw : Gv.PureCall Tryd.prog 4 [.one (.str x0)] [.one (.bool true)] := by apply Gv.laws_FnExactParseEvent
  refine (calls_of_pure hlaw Tryd.call4 (gok_of_laid hL) (us := [v0]) (F := (F0 ++ [])) ⟨v0, [], F0, [], rfl, rfl, r0, ⟨rfl, rfl⟩⟩).mono fun e W' he => ?_
  cases e with
  | panicked c => exact he.elim
  | outgrown => exact he.elim
  | returned v =>
    obtain ⟨F', hb, hv⟩ := he
    have hv1 : Gv.rep W'.heap true (.bool true) v F' := hv
    unfold Gv.rep at hv1
    obtain ⟨rfl, _⟩ := hv1
    have hB : Below W.heap.size W W' := ⟨hb.os, hb.tape, hb.output, hb.size, fun k hk => hb.block k (by omega)⟩
    exact ⟨_, rfl, post_of_below (pa := p) (pv := q) hW' (fun _ _ _ => trodAll_mk1 (shut_bool Tryd.underlying4 true))
      (fun sp hsp => trodAll_mk1 (WideElems.Trod_stays Tryd.laidOut (by kernel_rfl) (of_decide_eq_true (by kernel_rfl)) h0 (fun x hx => hB.same (hlt x (by simp [hx]))) (fun x hx => hsp x (by simp [hx])))) (fun sp hsp => vars_stay hB hg1 hg2 hg3 gd hg4 hg6 hqs (fun x hx => hsp x (by simp [hx]))) rfl hB
      (ok_one (by kernel_rfl) rfl (okWide_bool_mk Tryd.underlying4 true))⟩

theorem parseEvent_row : Rows.FnExactParseEventSaid :=
  OpenClaim.holds_of_wide 4 Tryd.f4 rfl rfl rfl rfl rfl rfl rfl ⟨rfl, rfl, rfl, rfl, rfl⟩ rfl rfl rfl rfl rfl (by kernel_rfl) Tryd.func4 (by kernel_rfl)
    (of_decide_eq_true (by kernel_rfl)) (by unfold Func.isWrapper; first | (rw [if_pos (by decide +kernel)]; kernel_rfl) | (rw [if_neg (by decide +kernel)]; exact ⟨rfl, rfl⟩))
    (fun os started H enc _ => fnExactParseEvent_lifted os started H enc)
theorem parseEvent_holds : Rows.FnExactParseEventCardSaid :=
  Claim7.holds_tied_plain_at .later [] [.data, .data, .data, .sentinel, .sentinel, .data] true (true, "390245b07da8cf2596e1a98a3066efe19a961502be3ad227c6392bc4dd7c9e71") true
    parseEvent_row (fun _ h => by cases h) (by kernel_rfl) (fun _ h => by cases h) fnExactParseEvent_row_tie rfl ⟨rfl, rfl⟩ (by kernel_rfl) rfl
    (fun f fn hf hfn => by
      obtain rfl : f = 4 := Option.some.inj ((show Tryd.prog.funcNamed "loop.example/g01633/laws.FnExactParseEvent" = some 4 by kernel_rfl).symm.trans hf) |>.symm
      obtain rfl : fn = Tryd.f4 := (Option.some.inj (Tryd.func4.symm.trans hfn)).symm
      exact ⟨by kernel_rfl, fun j t ht => by
        rw [Tryd.params4] at ht
        have hm : t ∈ [9] := by simpa using Array.mem_of_getElem? ht
        have hall : ([9].all fun u => !Tryd.prog.wantsStandIn u) = true := by kernel_rfl
        exact (show Tryd.prog.wantsStandIn t = false by simpa using List.all_eq_true.1 hall t hm)⟩)
    (by kernel_rfl)
end Go.Proofs.YthfdnfhpihkihaaDoor
