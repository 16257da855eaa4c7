/-
  Functions whose result is known to be one of several: what a draw gives.
-/
import Derived.Test.YtiaaipckeinbiaaFns1
namespace Gv
open Go Go.Proofs

section
variable {P : Program}

/-- A function that reads its arguments, changes nothing that was there, and gives new memory: one of the results that Q allows. -/
def NdCall (P : Program) (f : FuncId) (args : List AD) (Q : List AD → Prop) : Prop :=
  ∀ (w : World) (us : List Value) (F : List Nat), GOk w.heap → areps w.heap false args us F → Does P f us.toArray w fun v w' =>
    ∃ res, Q res ∧ ∃ F', Bel (fun b => w.heap.size ≤ b) w w' ∧ trep w'.heap true res v F' ∧ F'.Nodup ∧ ∀ b ∈ F', w.heap.size ≤ b

def retX (P : Program) (rs : List ResultVar) (Q : List AD → Prop) (σ : St) : Prop := ∃ res, Q res ∧ retE P rs res σ

theorem nd_ev {f : FuncId} {fn : Func} {c : Code} {args : List AD} {Q : List AD → Prop} (hf : P.funcs[f]? = some fn) (hb : fn.body = some c) (hcall : ∀ (args : Array Value) (w : World), (callFunc f args).run P w = .ok (.enter f args) w) (hm : P.follows .mixedOrders = true) (ts : List V)
    (hn : args.map AD.toV ++ List.replicate (fn.ntmps - args.length) .junk = ts) (rs : List ResultVar) (hr : fn.results.toList = rs) (h0 : adOks args → codeE P [] c ⟨ts, []⟩ (hide (retX P rs Q) .mk) [] (hide (retX P rs Q) .mk)) : NdCall P f args Q := by
  intro w us F hg ha
  have h := h0 (areps_ok _ _ _ ha)
  clear h0
  subst hr; subst hn
  have hlen : us.length = args.length := (aVs_len args us F 0 ha).1
  have fin : ∀ (σ : St) (a : Act) (w' : World), retX P fn.results.toList Q σ → RR (fun b => w.heap.size ≤ b) w [] σ a w' → a.defers = [] ∧ ∃ v, (results fn a.tmps).run P w' = .ok v w' ∧
      ∃ res, Q res ∧ ∃ F', Bel (fun b => w.heap.size ≤ b) w w' ∧ trep w'.heap true res v F' ∧ F'.Nodup ∧ ∀ b ∈ F', w.heap.size ≤ b := by
    rintro σ a w' ⟨res, hq, hret⟩ ⟨Dm, φ, r, _⟩
    obtain ⟨v, F', h1, h2, h3, h4⟩ := retE_ok r hret
    exact ⟨r.de, v, h1, res, hq, F', r.bel, h2, h3, fun b hb => (h4 b hb).1⟩
  refine Does.enter (hcall _ _) (calls_of_wp hf hb ?_)
  refine codeE_ok (B := fun b => w.heap.size ≤ b) (w0 := w) (kp := []) (kv := []) rfl hm c _ (retX P fn.results.toList Q) [] (retX P fn.results.toList Q) _ _ w (fun σ a w' h' r' => ?_) (fun id σ a w' h' _ => h'.elim) (fun σ a w' h' r' => ?_) h ?_
  · exact fin σ a w' h' r'
  · exact fin σ a w' h' r'
  · have := init_R hg ha (fn.ntmps - args.length) [] (by simp)
    have hs : us.toArray.size = args.length := by rw [List.size_toArray, hlen]
    rw [hs]; exact this

theorem NdCall.inl {f : FuncId} {ads : List AD} {Q : List AD → Prop} {kv : List V} {hs : List H} {vs : List V} {K : V → List H → Prop} (h : NdCall P f ads Q) (hE : toADs hs vs = some ads) (hk : ∀ rs, Q rs → K (tV rs hs.length) (hnew hs hs.length (aHs rs))) : InlCall P f kv hs vs K := by
  intro B w0 kp us w hkv hR
  obtain ⟨Dm, φ, r, hD⟩ := hR
  obtain ⟨F, hF⟩ := toADs_rel (St.le.refl ⟨vs, hs⟩) r vs ads us hE (by simpa using r.tm)
  refine (h w us F r.gok hF).mono ?_
  rintro v w' ⟨res, hq, F', e1, e2, e3, e4⟩
  obtain ⟨bl, l1, l2⟩ := tV_rel e2
  have hDm : ∀ i, hs.length ≤ i → i < hs.length + (aHs res).length → ¬ Dm i := fun i hi _ hd => by have := hD i hd; simp at this; omega
  obtain ⟨φ', hA, hR'⟩ := R_news (n := hs.length) r (fun i hi h2 => hDm i hi h2) e1 ⟨l1.1, l1.2.1, l1.2.2.1⟩ e3 e4
  refine ⟨_, _, hk res hq, _, φ', ⟨?_, hR'.kp, hR'.hp, hR'.o1, hR'.o2, hR'.o3, hR'.dm, hR'.bel, hR'.bs, rfl, hR'.gb⟩, ?_⟩
  · simp only [VRels]
    exact ⟨v, [], rfl, l2 φ' hs.length _ hA, rfl⟩
  · intro i hi
    have h1 := hnew_length (aHs res) hs hs.length
    rcases hi with hi | hi
    · have := hD i hi; simp at this ⊢; omega
    · rcases h1.2 with h2 | h2
      · rw [h2] at hi; simp at hi; omega
      · simp at hi ⊢; omega

theorem CallS.nd {kv : List V} {σ : St} {dst : Option Tmp} {K : St → Prop} {f : FuncId} {vs : List V} {ao : Option (List AD)} {ads : List AD} {Q : List AD → Prop} (h : NdCall P f ads Q) (hE : toADs σ.heap vs = some ads)
    (hk : ∀ rs, Q rs → K ⟨setD σ.tmps dst (tV rs σ.heap.length), hnew σ.heap σ.heap.length (aHs rs)⟩) : CallS P kv σ dst f [] ao vs K :=
  CallS.inl (by rw [List.append_nil]; exact NdCall.inl h hE hk)

end
end Gv
