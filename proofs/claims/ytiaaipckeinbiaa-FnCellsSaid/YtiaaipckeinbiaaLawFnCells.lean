/-
  The law 'laws.FnCells', as a function.
-/
import Derived.Test.YtiaaipckeinbiaaDrawB2
import Derived.Test.YtiaaipckeinbiaaDrawC3
import Derived.Test.YtiaaipckeinbiaaAt
import Derived.Test.YtiaaipckeinbiaaBufRng
import Derived.Test.YtiaaipckeinbiaaEqCells
namespace Gv
open Go Go.Proofs

set_option maxRecDepth 100000 in
theorem laws_big (bs : List Int) : PureCall Try.prog 4 [.one (.sl 1 (bs.map eU8))] [.one (.bool (decide (1048576 < (bs.length : Int))))] := by
  refine pure_ev Try.func4 rfl Try.call4 Try.checked.mixed [.d (.sl 1 (bs.map eU8)), .junk, .junk, .junk, .junk, .junk] rfl [.tmp 2] rfl ?_
  intro ok
  try simp only [go_sem, List.length_map]
  repeat' (first
    | (with_reducible refine gTrueS ?_; simp only [go_sem, List.length_map]) | (with_reducible refine gFalseS ?_; simp only [go_sem, List.length_map]) | (with_reducible refine gTrue ?_; simp only [go_sem, List.length_map]) | (with_reducible refine gFalse ?_; simp only [go_sem, List.length_map])
    | (refine gSymS ?_; simp only [go_sem, List.length_map]) | (refine gSym ?_; simp only [go_sem, List.length_map])
    | (refine cSplit (fun h => ?_) (fun h => ?_) <;> simp only [go_sem, List.length_map])
    | (with_reducible refine And.intro ?_ ?_; (focus (first | omega | (exact ⟨by omega, by omega⟩) | (simp; done) | (simp; omega)))))

theorem u8s_of {xs : List Int} (h : eOk (xs.map eU8)) : ∀ x ∈ xs, 0 ≤ x ∧ x ≤ 255 := by
  induction xs with
  | nil => intro x hx; cases hx
  | cons y ys ih =>
    intro x hx
    simp only [List.map_cons, eOk, eU8, cOk, dOk] at h
    rcases List.mem_cons.1 hx with rfl | hx
    · have h1 := h.1.1
      simp only [IntKind.min, IntKind.max] at h1
      constructor
      · have := h1.1; exact this
      · have := h1.2; exact this
    · exact ih h.2 x hx
theorem tmod_nat (x m : Int) (hx : 0 ≤ x) (hm : 0 < m) : ∃ o : Nat, x.tmod m = o ∧ (o : Int) < m := by
  have h1 := Int.tmod_nonneg m hx
  have h2 := Int.tmod_lt_of_pos x hm
  exact ⟨(x.tmod m).toNat, by omega, by omega⟩

theorem chk_off {E n : Int} {xs : List TChunk} {k : Nat} (h : CI E n xs k) : ∀ c ∈ xs, 0 ≤ c.offset := fun c hc => by
  obtain ⟨hn0, hn1, hck⟩ := isBuf_n h.bf
  have := (chk_mem xs n hck c hc).1
  omega
theorem eqCB_self (xs : List Int) (r : Int) : eqCB xs xs r r = true := by simp [eqCB]

set_option maxHeartbeats 4000000 in
set_option maxRecDepth 100000 in
theorem laws_FnCells (bs : List Int) : PureCall Try.prog 3 [.one (.sl 1 (bs.map eU8))] [.one (.bool true)] := by
  refine pure_ev Try.func3 rfl Try.call3 Try.checked.mixed [.d (.sl 1 (bs.map eU8)), .junk, .junk, .junk, .junk, .junk, .junk, .junk, .junk, .junk, .junk, .junk, .junk, .junk, .junk, .junk, .junk, .junk, .junk, .junk, .junk, .junk, .junk, .junk, .junk, .junk, .junk, .junk, .junk, .junk, .junk, .junk, .junk, .junk, .junk, .junk, .junk, .junk, .junk, .junk, .junk, .junk, .junk, .junk, .junk, .junk, .junk, .junk, .junk, .junk, .junk, .junk, .junk, .junk, .junk, .junk, .junk, .junk, .junk, .junk, .junk, .junk, .junk, .junk, .junk, .junk, .junk, .junk, .junk, .junk, .junk, .junk, .junk, .junk, .junk, .junk, .junk, .junk, .junk, .junk, .junk, .junk, .junk, .junk, .junk, .junk, .junk, .junk, .junk, .junk, .junk, .junk, .junk, .junk, .junk, .junk, .junk, .junk, .junk, .junk, .junk, .junk, .junk, .junk, .junk, .junk, .junk, .junk, .junk, .junk, .junk, .junk, .junk, .junk, .junk, .junk, .junk, .junk, .junk, .junk, .junk, .junk, .junk, .junk, .junk, .junk, .junk, .junk, .junk, .junk, .junk, .junk, .junk, .junk, .junk, .junk, .junk, .junk, .junk, .junk, .junk, .junk, .junk, .junk, .junk, .junk, .junk, .junk, .junk, .junk, .junk, .junk, .junk, .junk, .junk, .junk, .junk, .junk, .junk, .junk, .junk, .junk, .junk, .junk, .junk, .junk, .junk, .junk, .junk, .junk, .junk, .junk, .junk, .junk, .junk, .junk, .junk, .junk, .junk, .junk, .junk, .junk, .junk, .junk, .junk, .junk, .junk, .junk, .junk, .junk, .junk, .junk, .junk, .junk, .junk, .junk, .junk, .junk, .junk, .junk, .junk, .junk, .junk, .junk, .junk, .junk, .junk, .junk] rfl [.tmp 2] rfl ?_
  intro ok
  have hm := len_of ok
  have hu := u8s_of ok.1.2
  simp only [go_sem]
  refine CallS.intro (laws_big bs) ?_
  simp only [go_sem]
  refine cSplit (fun h => ?_) (fun h => ?_)
  · simp only [go_sem]
  have hb : bs.length ≤ 1048576 := by have := of_decide_eq_false h; omega
  simp only [go_sem]
  refine CallS.intro impl_NewCells ?_
  simp only [go_sem]
  refine LoopK.intro (α := Nat × Option (Int × List TChunk)) (fun y => match y.2 with
      | none => ⟨[.d (.sl 1 (bs.map eU8)), .junk, .junk, .ptr 0 0 0, .ptr 2 0 0, .d (.int .i64 y.1), .junk, .junk, .junk, .junk, .junk, .junk, .junk, .junk, .junk, .junk, .junk, .junk, .junk, .junk, .junk, .junk, .junk, .junk, .junk, .junk, .junk, .junk, .junk, .junk, .junk, .junk, .junk, .junk, .junk, .junk, .junk, .junk, .junk, .junk, .junk, .junk, .junk, .junk, .junk, .junk, .junk, .junk, .junk, .junk, .junk, .junk, .junk, .junk, .junk, .junk, .junk, .junk, .junk, .junk, .junk, .junk, .junk, .junk, .junk, .junk, .junk, .junk, .junk, .junk, .junk, .junk, .junk, .junk, .junk, .junk, .junk, .junk, .junk, .junk, .junk, .junk, .junk, .junk, .junk, .junk, .junk, .junk, .junk, .junk, .junk, .junk, .junk, .junk, .junk, .junk, .junk, .junk, .junk, .junk, .junk, .junk, .junk, .junk, .junk, .junk, .junk, .junk, .junk, .junk, .junk, .junk, .junk, .junk, .junk, .junk, .junk, .junk, .junk, .junk, .junk, .junk, .junk, .junk, .junk, .junk, .junk, .junk, .junk, .junk, .junk, .junk, .junk, .junk, .junk, .junk, .junk, .junk, .junk, .junk, .junk, .junk, .junk, .junk, .junk, .junk, .junk, .junk, .junk, .junk, .junk, .junk, .junk, .junk, .junk, .junk, .junk, .junk, .junk, .junk, .junk, .junk, .junk, .junk, .junk, .junk, .junk, .junk, .junk, .junk, .junk, .junk, .junk, .junk, .junk, .junk, .junk, .junk, .junk, .junk, .junk, .junk, .junk, .junk, .junk, .junk, .junk, .junk, .junk, .junk, .junk, .junk, .junk, .junk, .junk, .junk, .junk, .junk, .junk, .junk, .junk, .junk, .junk, .junk, .junk, .junk, .junk, .junk], [.box [.d (.int .i64 0), .nils 2], .arr 1 ((cellsOf ⟨0, []⟩).bytes.map eI) true, .box [.sl 1 0 64, .d (.int .i64 0)]]⟩
      | some b => ⟨[.d (.sl 1 (bs.map eU8)), .junk, .junk, .ptr 0 0 0, .ptr 2 0 0, .d (.int .i64 y.1), .junk, .junk, .junk, .junk, .junk, .junk, .junk, .junk, .junk, .junk, .junk, .junk, .junk, .junk, .junk, .junk, .junk, .junk, .junk, .junk, .junk, .junk, .junk, .junk, .junk, .junk, .junk, .junk, .junk, .junk, .junk, .junk, .junk, .junk, .junk, .junk, .junk, .junk, .junk, .junk, .junk, .junk, .junk, .junk, .junk, .junk, .junk, .junk, .junk, .junk, .junk, .junk, .junk, .junk, .junk, .junk, .junk, .junk, .junk, .junk, .junk, .junk, .junk, .junk, .junk, .junk, .junk, .junk, .junk, .junk, .junk, .junk, .junk, .junk, .junk, .junk, .junk, .junk, .junk, .junk, .junk, .junk, .junk, .junk, .junk, .junk, .junk, .junk, .junk, .junk, .junk, .junk, .junk, .junk, .junk, .junk, .junk, .junk, .junk, .junk, .junk, .junk, .junk, .junk, .junk, .junk, .junk, .junk, .junk, .junk, .junk, .junk, .junk, .junk, .junk, .junk, .junk, .junk, .junk, .junk, .junk, .junk, .junk, .junk, .junk, .junk, .junk, .junk, .junk, .junk, .junk, .junk, .junk, .junk, .junk, .junk, .junk, .junk, .junk, .junk, .junk, .junk, .junk, .junk, .junk, .junk, .junk, .junk, .junk, .junk, .junk, .junk, .junk, .junk, .junk, .junk, .junk, .junk, .junk, .junk, .junk, .junk, .junk, .junk, .junk, .junk, .junk, .junk, .junk, .junk, .junk, .junk, .junk, .junk, .junk, .junk, .junk, .junk, .junk, .junk, .junk, .junk, .junk, .junk, .junk, .junk, .junk, .junk, .junk, .junk, .junk, .junk, .junk, .junk, .junk, .junk, .junk, .junk, .junk, .junk, .junk, .junk], [.box [.d (.int .i64 b.1), .sl 3 0 b.2.length], .arr 1 ((cellsOf ⟨b.1, b.2⟩).bytes.map eI) true, .box [.sl 1 0 64, .d (.int .i64 b.1)], .arr 2 (b.2.map TChunk.enc) true]⟩)
    (fun y => 8 - y.1) (fun y => y.1 ≤ 8 ∧ (y.2 = none → y.1 = 0) ∧ ∀ b, y.2 = some b → CI 27 b.1 b.2 y.1) (0, none) [0, 1, 2] ⟨by omega, fun _ => rfl, fun b hb => by cases hb⟩ ?_ ?_
  · simp only [go_sem]
    exact ⟨by decide, ⟨rfl, rfl, rfl⟩, rfl, rfl⟩
  · rintro ⟨i, ob⟩ ⟨hi8, hn0, hci⟩
    simp only at hi8 hn0 hci
    cases ob with
    | none =>
      have hi0 := hn0 rfl
      have hC : CI 27 0 ([] : List TChunk) i := ⟨by decide, (fun c hc => by cases hc), by decide, by simp⟩
      simp only [go_sem]
      refine cSplit (fun hg => ?_) (fun hg => ?_)
      · have hi : i < 8 := by omega
        have w1 : IntKind.i64.wrap (3 * (i : Int)) = ((3 * i : Nat) : Int) := by rw [w64] <;> omega
        have w2 : IntKind.i64.wrap (((3 * i : Nat) : Int) + 1) = ((3 * i + 1 : Nat) : Int) := by rw [w64] <;> omega
        have w3 : IntKind.i64.wrap (((3 * i : Nat) : Int) + 2) = ((3 * i + 2 : Nat) : Int) := by rw [w64] <;> omega
        have w4 : IntKind.i64.wrap ((i : Int) + 1) = ((i + 1 : Nat) : Int) := by rw [w64] <;> omega
        obtain ⟨o, ho, ho2⟩ := tmod_nat (atL bs (3 * i)) 20 (atL_in hu).1 (by decide)
        obtain ⟨q, hq, hq2⟩ := tmod_nat (atL bs (3 * i + 1)) 9 (atL_in hu).1 (by decide)
        obtain ⟨r, hr, hr2⟩ := tmod_nat (atL bs (3 * i + 2)) 7 (atL_in hu).1 (by decide)
        simp only [go_sem, w1]
        refine CallS.intro (laws_at bs (3 * i) (by omega) hb) ?_
        simp only [go_sem, w1, w2, ho]
        refine CallS.intro (laws_at bs (3 * i + 1) (by omega) hb) ?_
        simp only [go_sem, hq]
        refine ⟨by omega, ⟨by omega, by omega⟩, ?_⟩
        refine cSplit (fun hp => ?_) (fun hp => ?_)
        · simp only [go_sem, w1, w2]
          refine CallS.intro (laws_at bs (3 * i + 1) (by omega) hb) ?_
          simp only [go_sem, hq]
          refine ⟨by omega, ⟨by omega, by omega⟩, ?_⟩
          generalize hdt : List.take ((q : Int).toNat - 0) ([115, 116, 117, 118, 119, 120, 121, 122] : List UInt8) = data
          have hdl : data.length ≤ 8 := by subst hdt; simp only [List.length_take, List.length_cons, List.length_nil]; omega
          have hI := insX_law (off := o) (data := data) hC (by omega) (by omega) (by decide)
          have fI := impl_InsertData 0 ([] : List TChunk) o data hC.bf (fun c hc => by have := hC.en c hc; omega) (by have := hC.le; omega) hdl (by omega) (by omega)
          have fP : PureCall Try.prog 8 [.agg [.sl 1 ((cellsOf ⟨0, ([] : List TChunk)⟩).bytes.map eI), .int .i64 (0)], .one (.int .i64 o), .one (.str data)] [.agg [.sl 1 ((cellsOf ⟨0, insX 0 ([] : List TChunk) o data⟩).bytes.map eI), .int .i64 (0)]] := by
            have := impl_PutCells (cellsOf ⟨0, ([] : List TChunk)⟩) o data (by simp [cellsOf]) (by omega)
            rw [put_ins hC (by omega) (by omega) (by decide)] at this
            exact this
          have hY := hI.1
          generalize hys : insX 0 ([] : List TChunk) o data = ys at hY fI fP
          refine CallS.intro fI ?_
          simp only [go_sem, List.length_map]
          refine CallS.intro fP ?_
          simp only [go_sem, w1, w3, List.length_map]
          refine CallS.intro (laws_at bs (3 * i + 2) (by omega) hb) ?_
          simp only [go_sem]
          refine cSplit (fun ht => ?_) (fun ht => ?_)
          · have hT := take_read hY (by decide) r
            have hZ := (tk_law hY r).1
            have hx1 : ∀ c ∈ ys, c.data.length ≤ 1048576 := fun c hc => by have h1 := hY.en c hc; have h2 := chk_off hY c hc; omega
            have hx2 : ys.length ≤ 1048576 := by have := hY.le; omega
            have fT := impl_TakeBytes_raw 0 ys r hx1 hx2
            have fD : PureCall Try.prog 10 [.agg [.sl 1 ((cellsOf ⟨0, ys⟩).bytes.map eI), .int .i64 (0)], .one (.int .i64 r)] [.one (.str (tkS 0 ys r)), .agg [.sl 1 ((cellsOf ⟨0 + tkN 0 ys r, tkX 0 ys r⟩).bytes.map eI), .int .i64 (0 + tkN 0 ys r)]] := by
              have := impl_ReadCells (cellsOf ⟨0, ys⟩) r (by simp [cellsOf])
              rw [hT.1, hT.2] at this
              exact this
            generalize htn : 0 + (tkN 0 ys r : Int) = n2 at hZ fT fD
            generalize htx : tkX 0 ys r = zs at hZ fT fD
            generalize hts : tkS 0 ys r = ts at fT fD
            have hts2 : decide (ts ≠ ts) = false := decide_eq_false (fun h => h rfl)
            have hx3 : ∀ c ∈ zs, c.data.length ≤ 1048576 := fun c hc => by have h1 := hZ.en c hc; have h2 := chk_off hZ c hc; omega
            have hx4 : zs.length ≤ 1048576 := by have := hZ.le; omega
            have fC : PureCall Try.prog 11 [.agg [.int .i64 (n2), .sl 2 (zs.map TChunk.enc)]] [.agg [.sl 1 ((cellsOf ⟨n2, zs⟩).bytes.map eI), .int .i64 (n2)], .one (.bool true)] := by
              have := impl_CellsOf ⟨n2, zs⟩ hx3 hx4
              rw [(cOf_CI hZ (by decide)).1, (cOf_CI hZ (by decide)).2] at this
              exact this
            have fE : PureCall Try.prog 12 [.agg [.sl 1 ((cellsOf ⟨n2, zs⟩).bytes.map eI), .int .i64 (n2)], .agg [.sl 1 ((cellsOf ⟨n2, zs⟩).bytes.map eI), .int .i64 (n2)]] [.one (.bool true)] := by
              have := spec_EqualCells (cellsOf ⟨n2, zs⟩).bytes (cellsOf ⟨n2, zs⟩).bytes n2 n2
              rw [show eqCB (cellsOf ⟨n2, zs⟩).bytes (cellsOf ⟨n2, zs⟩).bytes n2 n2 = true from eqCB_self _ _] at this
              exact this
            have fK : PureCall Try.prog 14 [.agg [.sl 1 ((cellsOf ⟨n2, zs⟩).bytes.map eI), .int .i64 (n2)]] [.one (.sl 2 ((rngsB n2 zs).map TRange.enc))] := by
              have := impl_KnownRanges (cellsOf ⟨n2, zs⟩)
              rw [known_CI hZ (by decide)] at this
              exact this
            have fB : PureCall Try.prog 15 [.agg [.int .i64 (n2), .sl 2 (zs.map TChunk.enc)]] [.one (.sl 2 ((rngsB n2 zs).map TRange.enc))] := impl_BufferRanges n2 zs hx3 hx4
            have fR : PureCall Try.prog 13 [.one (.sl 2 ((rngsB n2 zs).map TRange.enc)), .one (.sl 2 ((rngsB n2 zs).map TRange.enc))] [.one (.bool true)] := by
              have := spec_EqualRanges (rngsB n2 zs) (rngsB n2 zs)
              rw [decide_eq_true rfl] at this
              exact this
            have hcl : (cellsOf ⟨n2, zs⟩).bytes.length = 64 := by simp [cellsOf]
            try simp only [go_sem]
            repeat' (first
              | (refine CallS.intro (by first | assumption | (apply laws_at <;> first | assumption | omega)) ?_; simp only [go_sem, List.length_map])
              | (refine CallK.intro (by first | assumption | (apply laws_at <;> first | assumption | omega)) ?_; simp only [go_sem, hr, hts2, List.length_map])
              | (with_reducible refine gTrueS ?_; simp only [go_sem, w1, w2, w3, w4, hr, hts2, List.length_map]) | (with_reducible refine gFalseS ?_; simp only [go_sem, w1, w2, w3, w4, hr, hts2, List.length_map]) | (with_reducible refine gTrue ?_; simp only [go_sem, w4, List.length_map]) | (with_reducible refine gFalse ?_; simp only [go_sem, w1, w2, w3, w4, hr, hts2, List.length_map])
              | (refine gSymS ?_; simp only [go_sem, w1, w2, w3, w4, hr, hts2, List.length_map]) | (refine gSym ?_; simp only [go_sem, w1, w2, w3, w4, hr, hts2, List.length_map])
              | (refine drawE_intro [[.post, .un, .un, .un, .un, .un, .un, .post, .post, .post, .post, .un, .post, .post], [.un, .post, .un, .un, .un, .post, .post, .post, .post, .post, .post, .un, .post, .post], [.un, .un, .post, .post, .post, .post, .post, .post, .post, .post, .post, .un, .post, .post], [.un, .un, .pre, .post, .post, .post, .post, .post, .post, .post, .post, .un, .post, .post], [.un, .un, .pre, .pre, .post, .post, .post, .post, .post, .post, .post, .un, .post, .post], [.un, .pre, .pre, .pre, .pre, .post, .post, .post, .post, .post, .post, .un, .post, .post], [.un, .pre, .pre, .pre, .pre, .pre, .post, .post, .post, .post, .post, .un, .post, .post], [.pre, .pre, .pre, .pre, .pre, .pre, .pre, .post, .post, .post, .post, .un, .post, .post], [.pre, .pre, .pre, .pre, .pre, .pre, .pre, .pre, .post, .post, .post, .un, .post, .post], [.pre, .pre, .pre, .pre, .pre, .pre, .pre, .pre, .pre, .post, .un, .un, .post, .post], [.pre, .pre, .pre, .pre, .pre, .pre, .pre, .pre, .pre, .un, .post, .un, .un, .post], [.un, .un, .un, .un, .un, .un, .un, .un, .un, .un, .un, .post, .post, .post], [.pre, .pre, .pre, .pre, .pre, .pre, .pre, .pre, .pre, .pre, .un, .pre, .post, .post], [.pre, .pre, .pre, .pre, .pre, .pre, .pre, .pre, .pre, .pre, .pre, .pre, .pre, .post]] (by kernel_rfl) (by rfl) ?_; simp only [go_sem, w1, w3])
              | (refine drawE_intro [[.post, .post, .post, .post, .post, .post, .post, .post, .post, .post, .post, .post, .post, .post, .post, .post], [.pre, .post, .post, .post, .post, .post, .post, .post, .post, .post, .post, .post, .post, .post, .post, .post], [.pre, .pre, .post, .post, .post, .post, .post, .post, .post, .post, .post, .post, .post, .post, .post, .post], [.pre, .pre, .pre, .post, .un, .post, .post, .post, .post, .post, .post, .post, .post, .post, .post, .post], [.pre, .pre, .pre, .un, .post, .post, .post, .post, .post, .post, .post, .post, .post, .post, .post, .post], [.pre, .pre, .pre, .pre, .pre, .post, .post, .post, .post, .post, .post, .post, .post, .post, .post, .post], [.pre, .pre, .pre, .pre, .pre, .pre, .post, .post, .post, .post, .post, .post, .post, .post, .post, .post], [.pre, .pre, .pre, .pre, .pre, .pre, .pre, .post, .post, .post, .post, .post, .post, .post, .post, .post], [.pre, .pre, .pre, .pre, .pre, .pre, .pre, .pre, .post, .post, .post, .post, .post, .post, .post, .post], [.pre, .pre, .pre, .pre, .pre, .pre, .pre, .pre, .pre, .post, .post, .un, .post, .post, .post, .post], [.pre, .pre, .pre, .pre, .pre, .pre, .pre, .pre, .pre, .pre, .post, .un, .post, .post, .post, .post], [.pre, .pre, .pre, .pre, .pre, .pre, .pre, .pre, .pre, .un, .un, .post, .post, .post, .post, .post], [.pre, .pre, .pre, .pre, .pre, .pre, .pre, .pre, .pre, .pre, .pre, .pre, .post, .post, .post, .post], [.pre, .pre, .pre, .pre, .pre, .pre, .pre, .pre, .pre, .pre, .pre, .pre, .pre, .post, .post, .post], [.pre, .pre, .pre, .pre, .pre, .pre, .pre, .pre, .pre, .pre, .pre, .pre, .pre, .pre, .post, .post], [.pre, .pre, .pre, .pre, .pre, .pre, .pre, .pre, .pre, .pre, .pre, .pre, .pre, .pre, .pre, .post]] (by kernel_rfl) (by rfl) ?_; simp only [go_sem])
              | (with_reducible refine And.intro ?_ ?_; (focus (first | omega | (exact ⟨by omega, by omega⟩) | (simp; done) | (simp; omega)))))
            refine RoundE.intro (i + 1, some (n2, zs)) [0, 7, 2, 5] ⟨by omega, (fun h => by cases h), (fun b hb => by cases hb; exact hZ)⟩ (show 8 - (i + 1) < 8 - i by omega) ?_
            simp only [go_sem, hcl]
            exact ⟨by decide, ⟨rfl, rfl⟩, rfl, rfl⟩
          · simp only [go_sem, List.length_map]
            have hx1 : ∀ c ∈ ys, c.data.length ≤ 1048576 := fun c hc => by have h1 := hY.en c hc; have h2 := chk_off hY c hc; omega
            have hx2 : ys.length ≤ 1048576 := by have := hY.le; omega
            have fC : PureCall Try.prog 11 [.agg [.int .i64 (0), .sl 2 (ys.map TChunk.enc)]] [.agg [.sl 1 ((cellsOf ⟨0, ys⟩).bytes.map eI), .int .i64 (0)], .one (.bool true)] := by
              have := impl_CellsOf ⟨0, ys⟩ hx1 hx2
              rw [(cOf_CI hY (by decide)).1, (cOf_CI hY (by decide)).2] at this
              exact this
            have fE : PureCall Try.prog 12 [.agg [.sl 1 ((cellsOf ⟨0, ys⟩).bytes.map eI), .int .i64 (0)], .agg [.sl 1 ((cellsOf ⟨0, ys⟩).bytes.map eI), .int .i64 (0)]] [.one (.bool true)] := by
              have := spec_EqualCells (cellsOf ⟨0, ys⟩).bytes (cellsOf ⟨0, ys⟩).bytes 0 0
              rw [show eqCB (cellsOf ⟨0, ys⟩).bytes (cellsOf ⟨0, ys⟩).bytes 0 0 = true from eqCB_self _ _] at this
              exact this
            have fK : PureCall Try.prog 14 [.agg [.sl 1 ((cellsOf ⟨0, ys⟩).bytes.map eI), .int .i64 (0)]] [.one (.sl 2 ((rngsB 0 ys).map TRange.enc))] := by
              have := impl_KnownRanges (cellsOf ⟨0, ys⟩)
              rw [known_CI hY (by decide)] at this
              exact this
            have fB : PureCall Try.prog 15 [.agg [.int .i64 (0), .sl 2 (ys.map TChunk.enc)]] [.one (.sl 2 ((rngsB 0 ys).map TRange.enc))] := impl_BufferRanges 0 ys hx1 hx2
            have fR : PureCall Try.prog 13 [.one (.sl 2 ((rngsB 0 ys).map TRange.enc)), .one (.sl 2 ((rngsB 0 ys).map TRange.enc))] [.one (.bool true)] := by
              have := spec_EqualRanges (rngsB 0 ys) (rngsB 0 ys)
              rw [decide_eq_true rfl] at this
              exact this
            have hcl : (cellsOf ⟨0, ys⟩).bytes.length = 64 := by simp [cellsOf]
            try simp only [go_sem, w4, List.length_map]
            repeat' (first
              | (refine CallS.intro (by first | assumption | (apply laws_at <;> first | assumption | omega)) ?_; simp only [go_sem, List.length_map])
              | (refine CallK.intro (by first | assumption | (apply laws_at <;> first | assumption | omega)) ?_; simp only [go_sem, List.length_map])
              | (with_reducible refine gTrueS ?_; simp only [go_sem, w4, List.length_map]) | (with_reducible refine gFalseS ?_; simp only [go_sem, w4, List.length_map]) | (with_reducible refine gTrue ?_; simp only [go_sem, w4, List.length_map]) | (with_reducible refine gFalse ?_; simp only [go_sem, w4, List.length_map])
              | (refine gSymS ?_; simp only [go_sem, w4, List.length_map]) | (refine gSym ?_; simp only [go_sem, w4, List.length_map])
              | (refine drawE_intro [[.post, .post, .post, .post, .post, .post, .post, .post, .post, .post, .post, .post, .post, .post, .post, .post], [.pre, .post, .post, .post, .post, .post, .post, .post, .post, .post, .post, .post, .post, .post, .post, .post], [.pre, .pre, .post, .post, .post, .post, .post, .post, .post, .post, .post, .post, .post, .post, .post, .post], [.pre, .pre, .pre, .post, .un, .post, .post, .post, .post, .post, .post, .post, .post, .post, .post, .post], [.pre, .pre, .pre, .un, .post, .post, .post, .post, .post, .post, .post, .post, .post, .post, .post, .post], [.pre, .pre, .pre, .pre, .pre, .post, .post, .post, .post, .post, .post, .post, .post, .post, .post, .post], [.pre, .pre, .pre, .pre, .pre, .pre, .post, .post, .post, .post, .post, .post, .post, .post, .post, .post], [.pre, .pre, .pre, .pre, .pre, .pre, .pre, .post, .post, .post, .post, .post, .post, .post, .post, .post], [.pre, .pre, .pre, .pre, .pre, .pre, .pre, .pre, .post, .post, .post, .post, .post, .post, .post, .post], [.pre, .pre, .pre, .pre, .pre, .pre, .pre, .pre, .pre, .post, .post, .un, .post, .post, .post, .post], [.pre, .pre, .pre, .pre, .pre, .pre, .pre, .pre, .pre, .pre, .post, .un, .post, .post, .post, .post], [.pre, .pre, .pre, .pre, .pre, .pre, .pre, .pre, .pre, .un, .un, .post, .post, .post, .post, .post], [.pre, .pre, .pre, .pre, .pre, .pre, .pre, .pre, .pre, .pre, .pre, .pre, .post, .post, .post, .post], [.pre, .pre, .pre, .pre, .pre, .pre, .pre, .pre, .pre, .pre, .pre, .pre, .pre, .post, .post, .post], [.pre, .pre, .pre, .pre, .pre, .pre, .pre, .pre, .pre, .pre, .pre, .pre, .pre, .pre, .post, .post], [.pre, .pre, .pre, .pre, .pre, .pre, .pre, .pre, .pre, .pre, .pre, .pre, .pre, .pre, .pre, .post]] (by kernel_rfl) (by rfl) ?_; simp only [go_sem])
              | (with_reducible refine And.intro ?_ ?_; (focus (first | omega | (exact ⟨by omega, by omega⟩) | (simp; done) | (simp; omega)))))
            refine RoundE.intro (i + 1, some (0, ys)) [0, 4, 2, 3] ⟨by omega, (fun h => by cases h), (fun b hb => by cases hb; exact hY)⟩ (show 8 - (i + 1) < 8 - i by omega) ?_
            simp only [go_sem, hcl]
            exact ⟨by decide, ⟨rfl, rfl⟩, rfl, rfl⟩
        · simp only [go_sem]
          generalize hdt : List.take ((q : Int).toNat - 0) ([97, 98, 99, 100, 101, 102, 103, 104] : List UInt8) = data
          have hdl : data.length ≤ 8 := by subst hdt; simp only [List.length_take, List.length_cons, List.length_nil]; omega
          have hI := insX_law (off := o) (data := data) hC (by omega) (by omega) (by decide)
          have fI := impl_InsertData 0 ([] : List TChunk) o data hC.bf (fun c hc => by have := hC.en c hc; omega) (by have := hC.le; omega) hdl (by omega) (by omega)
          have fP : PureCall Try.prog 8 [.agg [.sl 1 ((cellsOf ⟨0, ([] : List TChunk)⟩).bytes.map eI), .int .i64 (0)], .one (.int .i64 o), .one (.str data)] [.agg [.sl 1 ((cellsOf ⟨0, insX 0 ([] : List TChunk) o data⟩).bytes.map eI), .int .i64 (0)]] := by
            have := impl_PutCells (cellsOf ⟨0, ([] : List TChunk)⟩) o data (by simp [cellsOf]) (by omega)
            rw [put_ins hC (by omega) (by omega) (by decide)] at this
            exact this
          have hY := hI.1
          generalize hys : insX 0 ([] : List TChunk) o data = ys at hY fI fP
          refine CallS.intro fI ?_
          simp only [go_sem, List.length_map]
          refine CallS.intro fP ?_
          simp only [go_sem, w1, w3, List.length_map]
          refine CallS.intro (laws_at bs (3 * i + 2) (by omega) hb) ?_
          simp only [go_sem]
          refine cSplit (fun ht => ?_) (fun ht => ?_)
          · have hT := take_read hY (by decide) r
            have hZ := (tk_law hY r).1
            have hx1 : ∀ c ∈ ys, c.data.length ≤ 1048576 := fun c hc => by have h1 := hY.en c hc; have h2 := chk_off hY c hc; omega
            have hx2 : ys.length ≤ 1048576 := by have := hY.le; omega
            have fT := impl_TakeBytes_raw 0 ys r hx1 hx2
            have fD : PureCall Try.prog 10 [.agg [.sl 1 ((cellsOf ⟨0, ys⟩).bytes.map eI), .int .i64 (0)], .one (.int .i64 r)] [.one (.str (tkS 0 ys r)), .agg [.sl 1 ((cellsOf ⟨0 + tkN 0 ys r, tkX 0 ys r⟩).bytes.map eI), .int .i64 (0 + tkN 0 ys r)]] := by
              have := impl_ReadCells (cellsOf ⟨0, ys⟩) r (by simp [cellsOf])
              rw [hT.1, hT.2] at this
              exact this
            generalize htn : 0 + (tkN 0 ys r : Int) = n2 at hZ fT fD
            generalize htx : tkX 0 ys r = zs at hZ fT fD
            generalize hts : tkS 0 ys r = ts at fT fD
            have hts2 : decide (ts ≠ ts) = false := decide_eq_false (fun h => h rfl)
            have hx3 : ∀ c ∈ zs, c.data.length ≤ 1048576 := fun c hc => by have h1 := hZ.en c hc; have h2 := chk_off hZ c hc; omega
            have hx4 : zs.length ≤ 1048576 := by have := hZ.le; omega
            have fC : PureCall Try.prog 11 [.agg [.int .i64 (n2), .sl 2 (zs.map TChunk.enc)]] [.agg [.sl 1 ((cellsOf ⟨n2, zs⟩).bytes.map eI), .int .i64 (n2)], .one (.bool true)] := by
              have := impl_CellsOf ⟨n2, zs⟩ hx3 hx4
              rw [(cOf_CI hZ (by decide)).1, (cOf_CI hZ (by decide)).2] at this
              exact this
            have fE : PureCall Try.prog 12 [.agg [.sl 1 ((cellsOf ⟨n2, zs⟩).bytes.map eI), .int .i64 (n2)], .agg [.sl 1 ((cellsOf ⟨n2, zs⟩).bytes.map eI), .int .i64 (n2)]] [.one (.bool true)] := by
              have := spec_EqualCells (cellsOf ⟨n2, zs⟩).bytes (cellsOf ⟨n2, zs⟩).bytes n2 n2
              rw [show eqCB (cellsOf ⟨n2, zs⟩).bytes (cellsOf ⟨n2, zs⟩).bytes n2 n2 = true from eqCB_self _ _] at this
              exact this
            have fK : PureCall Try.prog 14 [.agg [.sl 1 ((cellsOf ⟨n2, zs⟩).bytes.map eI), .int .i64 (n2)]] [.one (.sl 2 ((rngsB n2 zs).map TRange.enc))] := by
              have := impl_KnownRanges (cellsOf ⟨n2, zs⟩)
              rw [known_CI hZ (by decide)] at this
              exact this
            have fB : PureCall Try.prog 15 [.agg [.int .i64 (n2), .sl 2 (zs.map TChunk.enc)]] [.one (.sl 2 ((rngsB n2 zs).map TRange.enc))] := impl_BufferRanges n2 zs hx3 hx4
            have fR : PureCall Try.prog 13 [.one (.sl 2 ((rngsB n2 zs).map TRange.enc)), .one (.sl 2 ((rngsB n2 zs).map TRange.enc))] [.one (.bool true)] := by
              have := spec_EqualRanges (rngsB n2 zs) (rngsB n2 zs)
              rw [decide_eq_true rfl] at this
              exact this
            have hcl : (cellsOf ⟨n2, zs⟩).bytes.length = 64 := by simp [cellsOf]
            try simp only [go_sem]
            repeat' (first
              | (refine CallS.intro (by first | assumption | (apply laws_at <;> first | assumption | omega)) ?_; simp only [go_sem, List.length_map])
              | (refine CallK.intro (by first | assumption | (apply laws_at <;> first | assumption | omega)) ?_; simp only [go_sem, hr, hts2, List.length_map])
              | (with_reducible refine gTrueS ?_; simp only [go_sem, w1, w2, w3, w4, hr, hts2, List.length_map]) | (with_reducible refine gFalseS ?_; simp only [go_sem, w1, w2, w3, w4, hr, hts2, List.length_map]) | (with_reducible refine gTrue ?_; simp only [go_sem, w4, List.length_map]) | (with_reducible refine gFalse ?_; simp only [go_sem, w1, w2, w3, w4, hr, hts2, List.length_map])
              | (refine gSymS ?_; simp only [go_sem, w1, w2, w3, w4, hr, hts2, List.length_map]) | (refine gSym ?_; simp only [go_sem, w1, w2, w3, w4, hr, hts2, List.length_map])
              | (refine drawE_intro [[.post, .un, .un, .un, .un, .un, .un, .post, .post, .post, .post, .un, .post, .post], [.un, .post, .un, .un, .un, .post, .post, .post, .post, .post, .post, .un, .post, .post], [.un, .un, .post, .post, .post, .post, .post, .post, .post, .post, .post, .un, .post, .post], [.un, .un, .pre, .post, .post, .post, .post, .post, .post, .post, .post, .un, .post, .post], [.un, .un, .pre, .pre, .post, .post, .post, .post, .post, .post, .post, .un, .post, .post], [.un, .pre, .pre, .pre, .pre, .post, .post, .post, .post, .post, .post, .un, .post, .post], [.un, .pre, .pre, .pre, .pre, .pre, .post, .post, .post, .post, .post, .un, .post, .post], [.pre, .pre, .pre, .pre, .pre, .pre, .pre, .post, .post, .post, .post, .un, .post, .post], [.pre, .pre, .pre, .pre, .pre, .pre, .pre, .pre, .post, .post, .post, .un, .post, .post], [.pre, .pre, .pre, .pre, .pre, .pre, .pre, .pre, .pre, .post, .un, .un, .post, .post], [.pre, .pre, .pre, .pre, .pre, .pre, .pre, .pre, .pre, .un, .post, .un, .un, .post], [.un, .un, .un, .un, .un, .un, .un, .un, .un, .un, .un, .post, .post, .post], [.pre, .pre, .pre, .pre, .pre, .pre, .pre, .pre, .pre, .pre, .un, .pre, .post, .post], [.pre, .pre, .pre, .pre, .pre, .pre, .pre, .pre, .pre, .pre, .pre, .pre, .pre, .post]] (by kernel_rfl) (by rfl) ?_; simp only [go_sem, w1, w3])
              | (refine drawE_intro [[.post, .post, .post, .post, .post, .post, .post, .post, .post, .post, .post, .post, .post, .post, .post, .post], [.pre, .post, .post, .post, .post, .post, .post, .post, .post, .post, .post, .post, .post, .post, .post, .post], [.pre, .pre, .post, .post, .post, .post, .post, .post, .post, .post, .post, .post, .post, .post, .post, .post], [.pre, .pre, .pre, .post, .un, .post, .post, .post, .post, .post, .post, .post, .post, .post, .post, .post], [.pre, .pre, .pre, .un, .post, .post, .post, .post, .post, .post, .post, .post, .post, .post, .post, .post], [.pre, .pre, .pre, .pre, .pre, .post, .post, .post, .post, .post, .post, .post, .post, .post, .post, .post], [.pre, .pre, .pre, .pre, .pre, .pre, .post, .post, .post, .post, .post, .post, .post, .post, .post, .post], [.pre, .pre, .pre, .pre, .pre, .pre, .pre, .post, .post, .post, .post, .post, .post, .post, .post, .post], [.pre, .pre, .pre, .pre, .pre, .pre, .pre, .pre, .post, .post, .post, .post, .post, .post, .post, .post], [.pre, .pre, .pre, .pre, .pre, .pre, .pre, .pre, .pre, .post, .post, .un, .post, .post, .post, .post], [.pre, .pre, .pre, .pre, .pre, .pre, .pre, .pre, .pre, .pre, .post, .un, .post, .post, .post, .post], [.pre, .pre, .pre, .pre, .pre, .pre, .pre, .pre, .pre, .un, .un, .post, .post, .post, .post, .post], [.pre, .pre, .pre, .pre, .pre, .pre, .pre, .pre, .pre, .pre, .pre, .pre, .post, .post, .post, .post], [.pre, .pre, .pre, .pre, .pre, .pre, .pre, .pre, .pre, .pre, .pre, .pre, .pre, .post, .post, .post], [.pre, .pre, .pre, .pre, .pre, .pre, .pre, .pre, .pre, .pre, .pre, .pre, .pre, .pre, .post, .post], [.pre, .pre, .pre, .pre, .pre, .pre, .pre, .pre, .pre, .pre, .pre, .pre, .pre, .pre, .pre, .post]] (by kernel_rfl) (by rfl) ?_; simp only [go_sem])
              | (with_reducible refine And.intro ?_ ?_; (focus (first | omega | (exact ⟨by omega, by omega⟩) | (simp; done) | (simp; omega)))))
            refine RoundE.intro (i + 1, some (n2, zs)) [0, 7, 2, 5] ⟨by omega, (fun h => by cases h), (fun b hb => by cases hb; exact hZ)⟩ (show 8 - (i + 1) < 8 - i by omega) ?_
            simp only [go_sem, hcl]
            exact ⟨by decide, ⟨rfl, rfl⟩, rfl, rfl⟩
          · simp only [go_sem, List.length_map]
            have hx1 : ∀ c ∈ ys, c.data.length ≤ 1048576 := fun c hc => by have h1 := hY.en c hc; have h2 := chk_off hY c hc; omega
            have hx2 : ys.length ≤ 1048576 := by have := hY.le; omega
            have fC : PureCall Try.prog 11 [.agg [.int .i64 (0), .sl 2 (ys.map TChunk.enc)]] [.agg [.sl 1 ((cellsOf ⟨0, ys⟩).bytes.map eI), .int .i64 (0)], .one (.bool true)] := by
              have := impl_CellsOf ⟨0, ys⟩ hx1 hx2
              rw [(cOf_CI hY (by decide)).1, (cOf_CI hY (by decide)).2] at this
              exact this
            have fE : PureCall Try.prog 12 [.agg [.sl 1 ((cellsOf ⟨0, ys⟩).bytes.map eI), .int .i64 (0)], .agg [.sl 1 ((cellsOf ⟨0, ys⟩).bytes.map eI), .int .i64 (0)]] [.one (.bool true)] := by
              have := spec_EqualCells (cellsOf ⟨0, ys⟩).bytes (cellsOf ⟨0, ys⟩).bytes 0 0
              rw [show eqCB (cellsOf ⟨0, ys⟩).bytes (cellsOf ⟨0, ys⟩).bytes 0 0 = true from eqCB_self _ _] at this
              exact this
            have fK : PureCall Try.prog 14 [.agg [.sl 1 ((cellsOf ⟨0, ys⟩).bytes.map eI), .int .i64 (0)]] [.one (.sl 2 ((rngsB 0 ys).map TRange.enc))] := by
              have := impl_KnownRanges (cellsOf ⟨0, ys⟩)
              rw [known_CI hY (by decide)] at this
              exact this
            have fB : PureCall Try.prog 15 [.agg [.int .i64 (0), .sl 2 (ys.map TChunk.enc)]] [.one (.sl 2 ((rngsB 0 ys).map TRange.enc))] := impl_BufferRanges 0 ys hx1 hx2
            have fR : PureCall Try.prog 13 [.one (.sl 2 ((rngsB 0 ys).map TRange.enc)), .one (.sl 2 ((rngsB 0 ys).map TRange.enc))] [.one (.bool true)] := by
              have := spec_EqualRanges (rngsB 0 ys) (rngsB 0 ys)
              rw [decide_eq_true rfl] at this
              exact this
            have hcl : (cellsOf ⟨0, ys⟩).bytes.length = 64 := by simp [cellsOf]
            try simp only [go_sem, w4, List.length_map]
            repeat' (first
              | (refine CallS.intro (by first | assumption | (apply laws_at <;> first | assumption | omega)) ?_; simp only [go_sem, List.length_map])
              | (refine CallK.intro (by first | assumption | (apply laws_at <;> first | assumption | omega)) ?_; simp only [go_sem, List.length_map])
              | (with_reducible refine gTrueS ?_; simp only [go_sem, w4, List.length_map]) | (with_reducible refine gFalseS ?_; simp only [go_sem, w4, List.length_map]) | (with_reducible refine gTrue ?_; simp only [go_sem, w4, List.length_map]) | (with_reducible refine gFalse ?_; simp only [go_sem, w4, List.length_map])
              | (refine gSymS ?_; simp only [go_sem, w4, List.length_map]) | (refine gSym ?_; simp only [go_sem, w4, List.length_map])
              | (refine drawE_intro [[.post, .post, .post, .post, .post, .post, .post, .post, .post, .post, .post, .post, .post, .post, .post, .post], [.pre, .post, .post, .post, .post, .post, .post, .post, .post, .post, .post, .post, .post, .post, .post, .post], [.pre, .pre, .post, .post, .post, .post, .post, .post, .post, .post, .post, .post, .post, .post, .post, .post], [.pre, .pre, .pre, .post, .un, .post, .post, .post, .post, .post, .post, .post, .post, .post, .post, .post], [.pre, .pre, .pre, .un, .post, .post, .post, .post, .post, .post, .post, .post, .post, .post, .post, .post], [.pre, .pre, .pre, .pre, .pre, .post, .post, .post, .post, .post, .post, .post, .post, .post, .post, .post], [.pre, .pre, .pre, .pre, .pre, .pre, .post, .post, .post, .post, .post, .post, .post, .post, .post, .post], [.pre, .pre, .pre, .pre, .pre, .pre, .pre, .post, .post, .post, .post, .post, .post, .post, .post, .post], [.pre, .pre, .pre, .pre, .pre, .pre, .pre, .pre, .post, .post, .post, .post, .post, .post, .post, .post], [.pre, .pre, .pre, .pre, .pre, .pre, .pre, .pre, .pre, .post, .post, .un, .post, .post, .post, .post], [.pre, .pre, .pre, .pre, .pre, .pre, .pre, .pre, .pre, .pre, .post, .un, .post, .post, .post, .post], [.pre, .pre, .pre, .pre, .pre, .pre, .pre, .pre, .pre, .un, .un, .post, .post, .post, .post, .post], [.pre, .pre, .pre, .pre, .pre, .pre, .pre, .pre, .pre, .pre, .pre, .pre, .post, .post, .post, .post], [.pre, .pre, .pre, .pre, .pre, .pre, .pre, .pre, .pre, .pre, .pre, .pre, .pre, .post, .post, .post], [.pre, .pre, .pre, .pre, .pre, .pre, .pre, .pre, .pre, .pre, .pre, .pre, .pre, .pre, .post, .post], [.pre, .pre, .pre, .pre, .pre, .pre, .pre, .pre, .pre, .pre, .pre, .pre, .pre, .pre, .pre, .post]] (by kernel_rfl) (by rfl) ?_; simp only [go_sem])
              | (with_reducible refine And.intro ?_ ?_; (focus (first | omega | (exact ⟨by omega, by omega⟩) | (simp; done) | (simp; omega)))))
            refine RoundE.intro (i + 1, some (0, ys)) [0, 4, 2, 3] ⟨by omega, (fun h => by cases h), (fun b hb => by cases hb; exact hY)⟩ (show 8 - (i + 1) < 8 - i by omega) ?_
            simp only [go_sem, hcl]
            exact ⟨by decide, ⟨rfl, rfl⟩, rfl, rfl⟩
      · have := of_decide_eq_false hg; omega
    | some b =>
      obtain ⟨n, xs⟩ := b
      have hC := hci _ rfl
      simp only at hC
      simp only [go_sem]
      refine cSplit (fun hg => ?_) (fun hg => ?_)
      · have hi : i < 8 := by have := of_decide_eq_true hg; omega
        have w1 : IntKind.i64.wrap (3 * (i : Int)) = ((3 * i : Nat) : Int) := by rw [w64] <;> omega
        have w2 : IntKind.i64.wrap (((3 * i : Nat) : Int) + 1) = ((3 * i + 1 : Nat) : Int) := by rw [w64] <;> omega
        have w3 : IntKind.i64.wrap (((3 * i : Nat) : Int) + 2) = ((3 * i + 2 : Nat) : Int) := by rw [w64] <;> omega
        have w4 : IntKind.i64.wrap ((i : Int) + 1) = ((i + 1 : Nat) : Int) := by rw [w64] <;> omega
        obtain ⟨o, ho, ho2⟩ := tmod_nat (atL bs (3 * i)) 20 (atL_in hu).1 (by decide)
        obtain ⟨q, hq, hq2⟩ := tmod_nat (atL bs (3 * i + 1)) 9 (atL_in hu).1 (by decide)
        obtain ⟨r, hr, hr2⟩ := tmod_nat (atL bs (3 * i + 2)) 7 (atL_in hu).1 (by decide)
        simp only [go_sem, w1]
        refine CallS.intro (laws_at bs (3 * i) (by omega) hb) ?_
        simp only [go_sem, w1, w2, ho]
        refine CallS.intro (laws_at bs (3 * i + 1) (by omega) hb) ?_
        simp only [go_sem, hq]
        refine ⟨by omega, ⟨by omega, by omega⟩, ?_⟩
        refine cSplit (fun hp => ?_) (fun hp => ?_)
        · simp only [go_sem, w1, w2]
          refine CallS.intro (laws_at bs (3 * i + 1) (by omega) hb) ?_
          simp only [go_sem, hq, List.length_map]
          refine ⟨by omega, ⟨by omega, by omega⟩, ?_⟩
          generalize hdt : List.take ((q : Int).toNat - 0) ([115, 116, 117, 118, 119, 120, 121, 122] : List UInt8) = data
          have hdl : data.length ≤ 8 := by subst hdt; simp only [List.length_take, List.length_cons, List.length_nil]; omega
          have hI := insX_law (off := o) (data := data) hC (by omega) (by omega) (by decide)
          have fI := impl_InsertData n xs o data hC.bf (fun c hc => by have := hC.en c hc; omega) (by have := hC.le; omega) hdl (by omega) (by omega)
          have fP : PureCall Try.prog 8 [.agg [.sl 1 ((cellsOf ⟨n, xs⟩).bytes.map eI), .int .i64 (n)], .one (.int .i64 o), .one (.str data)] [.agg [.sl 1 ((cellsOf ⟨n, insX n xs o data⟩).bytes.map eI), .int .i64 (n)]] := by
            have := impl_PutCells (cellsOf ⟨n, xs⟩) o data (by simp [cellsOf]) (by omega)
            rw [put_ins hC (by omega) (by omega) (by decide)] at this
            exact this
          have hY := hI.1
          generalize hys : insX n xs o data = ys at hY fI fP
          refine CallS.intro fI ?_
          simp only [go_sem, List.length_map]
          refine CallS.intro fP ?_
          simp only [go_sem, w1, w3, List.length_map]
          refine CallS.intro (laws_at bs (3 * i + 2) (by omega) hb) ?_
          simp only [go_sem]
          refine cSplit (fun ht => ?_) (fun ht => ?_)
          · have hT := take_read hY (by decide) r
            have hZ := (tk_law hY r).1
            have hx1 : ∀ c ∈ ys, c.data.length ≤ 1048576 := fun c hc => by have h1 := hY.en c hc; have h2 := chk_off hY c hc; omega
            have hx2 : ys.length ≤ 1048576 := by have := hY.le; omega
            have fT := impl_TakeBytes_raw n ys r hx1 hx2
            have fD : PureCall Try.prog 10 [.agg [.sl 1 ((cellsOf ⟨n, ys⟩).bytes.map eI), .int .i64 (n)], .one (.int .i64 r)] [.one (.str (tkS n ys r)), .agg [.sl 1 ((cellsOf ⟨n + tkN n ys r, tkX n ys r⟩).bytes.map eI), .int .i64 (n + tkN n ys r)]] := by
              have := impl_ReadCells (cellsOf ⟨n, ys⟩) r (by simp [cellsOf])
              rw [hT.1, hT.2] at this
              exact this
            generalize htn : n + (tkN n ys r : Int) = n2 at hZ fT fD
            generalize htx : tkX n ys r = zs at hZ fT fD
            generalize hts : tkS n ys r = ts at fT fD
            have hts2 : decide (ts ≠ ts) = false := decide_eq_false (fun h => h rfl)
            have hx3 : ∀ c ∈ zs, c.data.length ≤ 1048576 := fun c hc => by have h1 := hZ.en c hc; have h2 := chk_off hZ c hc; omega
            have hx4 : zs.length ≤ 1048576 := by have := hZ.le; omega
            have fC : PureCall Try.prog 11 [.agg [.int .i64 (n2), .sl 2 (zs.map TChunk.enc)]] [.agg [.sl 1 ((cellsOf ⟨n2, zs⟩).bytes.map eI), .int .i64 (n2)], .one (.bool true)] := by
              have := impl_CellsOf ⟨n2, zs⟩ hx3 hx4
              rw [(cOf_CI hZ (by decide)).1, (cOf_CI hZ (by decide)).2] at this
              exact this
            have fE : PureCall Try.prog 12 [.agg [.sl 1 ((cellsOf ⟨n2, zs⟩).bytes.map eI), .int .i64 (n2)], .agg [.sl 1 ((cellsOf ⟨n2, zs⟩).bytes.map eI), .int .i64 (n2)]] [.one (.bool true)] := by
              have := spec_EqualCells (cellsOf ⟨n2, zs⟩).bytes (cellsOf ⟨n2, zs⟩).bytes n2 n2
              rw [show eqCB (cellsOf ⟨n2, zs⟩).bytes (cellsOf ⟨n2, zs⟩).bytes n2 n2 = true from eqCB_self _ _] at this
              exact this
            have fK : PureCall Try.prog 14 [.agg [.sl 1 ((cellsOf ⟨n2, zs⟩).bytes.map eI), .int .i64 (n2)]] [.one (.sl 2 ((rngsB n2 zs).map TRange.enc))] := by
              have := impl_KnownRanges (cellsOf ⟨n2, zs⟩)
              rw [known_CI hZ (by decide)] at this
              exact this
            have fB : PureCall Try.prog 15 [.agg [.int .i64 (n2), .sl 2 (zs.map TChunk.enc)]] [.one (.sl 2 ((rngsB n2 zs).map TRange.enc))] := impl_BufferRanges n2 zs hx3 hx4
            have fR : PureCall Try.prog 13 [.one (.sl 2 ((rngsB n2 zs).map TRange.enc)), .one (.sl 2 ((rngsB n2 zs).map TRange.enc))] [.one (.bool true)] := by
              have := spec_EqualRanges (rngsB n2 zs) (rngsB n2 zs)
              rw [decide_eq_true rfl] at this
              exact this
            have hcl : (cellsOf ⟨n2, zs⟩).bytes.length = 64 := by simp [cellsOf]
            try simp only [go_sem]
            repeat' (first
              | (refine CallS.intro (by first | assumption | (apply laws_at <;> first | assumption | omega)) ?_; simp only [go_sem, List.length_map])
              | (refine CallK.intro (by first | assumption | (apply laws_at <;> first | assumption | omega)) ?_; simp only [go_sem, hr, hts2, List.length_map])
              | (with_reducible refine gTrueS ?_; simp only [go_sem, w1, w2, w3, w4, hr, hts2, List.length_map]) | (with_reducible refine gFalseS ?_; simp only [go_sem, w1, w2, w3, w4, hr, hts2, List.length_map]) | (with_reducible refine gTrue ?_; simp only [go_sem, w4, List.length_map]) | (with_reducible refine gFalse ?_; simp only [go_sem, w1, w2, w3, w4, hr, hts2, List.length_map])
              | (refine gSymS ?_; simp only [go_sem, w1, w2, w3, w4, hr, hts2, List.length_map]) | (refine gSym ?_; simp only [go_sem, w1, w2, w3, w4, hr, hts2, List.length_map])
              | (refine drawE_intro [[.post, .un, .un, .un, .un, .un, .un, .post, .post, .post, .post, .un, .post, .post], [.un, .post, .un, .un, .un, .post, .post, .post, .post, .post, .post, .un, .post, .post], [.un, .un, .post, .post, .post, .post, .post, .post, .post, .post, .post, .un, .post, .post], [.un, .un, .pre, .post, .post, .post, .post, .post, .post, .post, .post, .un, .post, .post], [.un, .un, .pre, .pre, .post, .post, .post, .post, .post, .post, .post, .un, .post, .post], [.un, .pre, .pre, .pre, .pre, .post, .post, .post, .post, .post, .post, .un, .post, .post], [.un, .pre, .pre, .pre, .pre, .pre, .post, .post, .post, .post, .post, .un, .post, .post], [.pre, .pre, .pre, .pre, .pre, .pre, .pre, .post, .post, .post, .post, .un, .post, .post], [.pre, .pre, .pre, .pre, .pre, .pre, .pre, .pre, .post, .post, .post, .un, .post, .post], [.pre, .pre, .pre, .pre, .pre, .pre, .pre, .pre, .pre, .post, .un, .un, .post, .post], [.pre, .pre, .pre, .pre, .pre, .pre, .pre, .pre, .pre, .un, .post, .un, .un, .post], [.un, .un, .un, .un, .un, .un, .un, .un, .un, .un, .un, .post, .post, .post], [.pre, .pre, .pre, .pre, .pre, .pre, .pre, .pre, .pre, .pre, .un, .pre, .post, .post], [.pre, .pre, .pre, .pre, .pre, .pre, .pre, .pre, .pre, .pre, .pre, .pre, .pre, .post]] (by kernel_rfl) (by rfl) ?_; simp only [go_sem, w1, w3])
              | (refine drawE_intro [[.post, .post, .post, .post, .post, .post, .post, .post, .post, .post, .post, .post, .post, .post, .post, .post], [.pre, .post, .post, .post, .post, .post, .post, .post, .post, .post, .post, .post, .post, .post, .post, .post], [.pre, .pre, .post, .post, .post, .post, .post, .post, .post, .post, .post, .post, .post, .post, .post, .post], [.pre, .pre, .pre, .post, .un, .post, .post, .post, .post, .post, .post, .post, .post, .post, .post, .post], [.pre, .pre, .pre, .un, .post, .post, .post, .post, .post, .post, .post, .post, .post, .post, .post, .post], [.pre, .pre, .pre, .pre, .pre, .post, .post, .post, .post, .post, .post, .post, .post, .post, .post, .post], [.pre, .pre, .pre, .pre, .pre, .pre, .post, .post, .post, .post, .post, .post, .post, .post, .post, .post], [.pre, .pre, .pre, .pre, .pre, .pre, .pre, .post, .post, .post, .post, .post, .post, .post, .post, .post], [.pre, .pre, .pre, .pre, .pre, .pre, .pre, .pre, .post, .post, .post, .post, .post, .post, .post, .post], [.pre, .pre, .pre, .pre, .pre, .pre, .pre, .pre, .pre, .post, .post, .un, .post, .post, .post, .post], [.pre, .pre, .pre, .pre, .pre, .pre, .pre, .pre, .pre, .pre, .post, .un, .post, .post, .post, .post], [.pre, .pre, .pre, .pre, .pre, .pre, .pre, .pre, .pre, .un, .un, .post, .post, .post, .post, .post], [.pre, .pre, .pre, .pre, .pre, .pre, .pre, .pre, .pre, .pre, .pre, .pre, .post, .post, .post, .post], [.pre, .pre, .pre, .pre, .pre, .pre, .pre, .pre, .pre, .pre, .pre, .pre, .pre, .post, .post, .post], [.pre, .pre, .pre, .pre, .pre, .pre, .pre, .pre, .pre, .pre, .pre, .pre, .pre, .pre, .post, .post], [.pre, .pre, .pre, .pre, .pre, .pre, .pre, .pre, .pre, .pre, .pre, .pre, .pre, .pre, .pre, .post]] (by kernel_rfl) (by rfl) ?_; simp only [go_sem])
              | (with_reducible refine And.intro ?_ ?_; (focus (first | omega | (exact ⟨by omega, by omega⟩) | (simp; done) | (simp; omega)))))
            refine RoundE.intro (i + 1, some (n2, zs)) [0, 8, 2, 6] ⟨by omega, (fun h => by cases h), (fun b hb => by cases hb; exact hZ)⟩ (show 8 - (i + 1) < 8 - i by omega) ?_
            simp only [go_sem, hcl]
            exact ⟨by decide, ⟨rfl, rfl⟩, rfl, rfl⟩
          · simp only [go_sem, List.length_map]
            have hx1 : ∀ c ∈ ys, c.data.length ≤ 1048576 := fun c hc => by have h1 := hY.en c hc; have h2 := chk_off hY c hc; omega
            have hx2 : ys.length ≤ 1048576 := by have := hY.le; omega
            have fC : PureCall Try.prog 11 [.agg [.int .i64 (n), .sl 2 (ys.map TChunk.enc)]] [.agg [.sl 1 ((cellsOf ⟨n, ys⟩).bytes.map eI), .int .i64 (n)], .one (.bool true)] := by
              have := impl_CellsOf ⟨n, ys⟩ hx1 hx2
              rw [(cOf_CI hY (by decide)).1, (cOf_CI hY (by decide)).2] at this
              exact this
            have fE : PureCall Try.prog 12 [.agg [.sl 1 ((cellsOf ⟨n, ys⟩).bytes.map eI), .int .i64 (n)], .agg [.sl 1 ((cellsOf ⟨n, ys⟩).bytes.map eI), .int .i64 (n)]] [.one (.bool true)] := by
              have := spec_EqualCells (cellsOf ⟨n, ys⟩).bytes (cellsOf ⟨n, ys⟩).bytes n n
              rw [show eqCB (cellsOf ⟨n, ys⟩).bytes (cellsOf ⟨n, ys⟩).bytes n n = true from eqCB_self _ _] at this
              exact this
            have fK : PureCall Try.prog 14 [.agg [.sl 1 ((cellsOf ⟨n, ys⟩).bytes.map eI), .int .i64 (n)]] [.one (.sl 2 ((rngsB n ys).map TRange.enc))] := by
              have := impl_KnownRanges (cellsOf ⟨n, ys⟩)
              rw [known_CI hY (by decide)] at this
              exact this
            have fB : PureCall Try.prog 15 [.agg [.int .i64 (n), .sl 2 (ys.map TChunk.enc)]] [.one (.sl 2 ((rngsB n ys).map TRange.enc))] := impl_BufferRanges n ys hx1 hx2
            have fR : PureCall Try.prog 13 [.one (.sl 2 ((rngsB n ys).map TRange.enc)), .one (.sl 2 ((rngsB n ys).map TRange.enc))] [.one (.bool true)] := by
              have := spec_EqualRanges (rngsB n ys) (rngsB n ys)
              rw [decide_eq_true rfl] at this
              exact this
            have hcl : (cellsOf ⟨n, ys⟩).bytes.length = 64 := by simp [cellsOf]
            try simp only [go_sem, w4, List.length_map]
            repeat' (first
              | (refine CallS.intro (by first | assumption | (apply laws_at <;> first | assumption | omega)) ?_; simp only [go_sem, List.length_map])
              | (refine CallK.intro (by first | assumption | (apply laws_at <;> first | assumption | omega)) ?_; simp only [go_sem, List.length_map])
              | (with_reducible refine gTrueS ?_; simp only [go_sem, w4, List.length_map]) | (with_reducible refine gFalseS ?_; simp only [go_sem, w4, List.length_map]) | (with_reducible refine gTrue ?_; simp only [go_sem, w4, List.length_map]) | (with_reducible refine gFalse ?_; simp only [go_sem, w4, List.length_map])
              | (refine gSymS ?_; simp only [go_sem, w4, List.length_map]) | (refine gSym ?_; simp only [go_sem, w4, List.length_map])
              | (refine drawE_intro [[.post, .post, .post, .post, .post, .post, .post, .post, .post, .post, .post, .post, .post, .post, .post, .post], [.pre, .post, .post, .post, .post, .post, .post, .post, .post, .post, .post, .post, .post, .post, .post, .post], [.pre, .pre, .post, .post, .post, .post, .post, .post, .post, .post, .post, .post, .post, .post, .post, .post], [.pre, .pre, .pre, .post, .un, .post, .post, .post, .post, .post, .post, .post, .post, .post, .post, .post], [.pre, .pre, .pre, .un, .post, .post, .post, .post, .post, .post, .post, .post, .post, .post, .post, .post], [.pre, .pre, .pre, .pre, .pre, .post, .post, .post, .post, .post, .post, .post, .post, .post, .post, .post], [.pre, .pre, .pre, .pre, .pre, .pre, .post, .post, .post, .post, .post, .post, .post, .post, .post, .post], [.pre, .pre, .pre, .pre, .pre, .pre, .pre, .post, .post, .post, .post, .post, .post, .post, .post, .post], [.pre, .pre, .pre, .pre, .pre, .pre, .pre, .pre, .post, .post, .post, .post, .post, .post, .post, .post], [.pre, .pre, .pre, .pre, .pre, .pre, .pre, .pre, .pre, .post, .post, .un, .post, .post, .post, .post], [.pre, .pre, .pre, .pre, .pre, .pre, .pre, .pre, .pre, .pre, .post, .un, .post, .post, .post, .post], [.pre, .pre, .pre, .pre, .pre, .pre, .pre, .pre, .pre, .un, .un, .post, .post, .post, .post, .post], [.pre, .pre, .pre, .pre, .pre, .pre, .pre, .pre, .pre, .pre, .pre, .pre, .post, .post, .post, .post], [.pre, .pre, .pre, .pre, .pre, .pre, .pre, .pre, .pre, .pre, .pre, .pre, .pre, .post, .post, .post], [.pre, .pre, .pre, .pre, .pre, .pre, .pre, .pre, .pre, .pre, .pre, .pre, .pre, .pre, .post, .post], [.pre, .pre, .pre, .pre, .pre, .pre, .pre, .pre, .pre, .pre, .pre, .pre, .pre, .pre, .pre, .post]] (by kernel_rfl) (by rfl) ?_; simp only [go_sem])
              | (with_reducible refine And.intro ?_ ?_; (focus (first | omega | (exact ⟨by omega, by omega⟩) | (simp; done) | (simp; omega)))))
            refine RoundE.intro (i + 1, some (n, ys)) [0, 5, 2, 4] ⟨by omega, (fun h => by cases h), (fun b hb => by cases hb; exact hY)⟩ (show 8 - (i + 1) < 8 - i by omega) ?_
            simp only [go_sem, hcl]
            exact ⟨by decide, ⟨rfl, rfl⟩, rfl, rfl⟩
        · simp only [go_sem, List.length_map]
          generalize hdt : List.take ((q : Int).toNat - 0) ([97, 98, 99, 100, 101, 102, 103, 104] : List UInt8) = data
          have hdl : data.length ≤ 8 := by subst hdt; simp only [List.length_take, List.length_cons, List.length_nil]; omega
          have hI := insX_law (off := o) (data := data) hC (by omega) (by omega) (by decide)
          have fI := impl_InsertData n xs o data hC.bf (fun c hc => by have := hC.en c hc; omega) (by have := hC.le; omega) hdl (by omega) (by omega)
          have fP : PureCall Try.prog 8 [.agg [.sl 1 ((cellsOf ⟨n, xs⟩).bytes.map eI), .int .i64 (n)], .one (.int .i64 o), .one (.str data)] [.agg [.sl 1 ((cellsOf ⟨n, insX n xs o data⟩).bytes.map eI), .int .i64 (n)]] := by
            have := impl_PutCells (cellsOf ⟨n, xs⟩) o data (by simp [cellsOf]) (by omega)
            rw [put_ins hC (by omega) (by omega) (by decide)] at this
            exact this
          have hY := hI.1
          generalize hys : insX n xs o data = ys at hY fI fP
          refine CallS.intro fI ?_
          simp only [go_sem, List.length_map]
          refine CallS.intro fP ?_
          simp only [go_sem, w1, w3, List.length_map]
          refine CallS.intro (laws_at bs (3 * i + 2) (by omega) hb) ?_
          simp only [go_sem]
          refine cSplit (fun ht => ?_) (fun ht => ?_)
          · have hT := take_read hY (by decide) r
            have hZ := (tk_law hY r).1
            have hx1 : ∀ c ∈ ys, c.data.length ≤ 1048576 := fun c hc => by have h1 := hY.en c hc; have h2 := chk_off hY c hc; omega
            have hx2 : ys.length ≤ 1048576 := by have := hY.le; omega
            have fT := impl_TakeBytes_raw n ys r hx1 hx2
            have fD : PureCall Try.prog 10 [.agg [.sl 1 ((cellsOf ⟨n, ys⟩).bytes.map eI), .int .i64 (n)], .one (.int .i64 r)] [.one (.str (tkS n ys r)), .agg [.sl 1 ((cellsOf ⟨n + tkN n ys r, tkX n ys r⟩).bytes.map eI), .int .i64 (n + tkN n ys r)]] := by
              have := impl_ReadCells (cellsOf ⟨n, ys⟩) r (by simp [cellsOf])
              rw [hT.1, hT.2] at this
              exact this
            generalize htn : n + (tkN n ys r : Int) = n2 at hZ fT fD
            generalize htx : tkX n ys r = zs at hZ fT fD
            generalize hts : tkS n ys r = ts at fT fD
            have hts2 : decide (ts ≠ ts) = false := decide_eq_false (fun h => h rfl)
            have hx3 : ∀ c ∈ zs, c.data.length ≤ 1048576 := fun c hc => by have h1 := hZ.en c hc; have h2 := chk_off hZ c hc; omega
            have hx4 : zs.length ≤ 1048576 := by have := hZ.le; omega
            have fC : PureCall Try.prog 11 [.agg [.int .i64 (n2), .sl 2 (zs.map TChunk.enc)]] [.agg [.sl 1 ((cellsOf ⟨n2, zs⟩).bytes.map eI), .int .i64 (n2)], .one (.bool true)] := by
              have := impl_CellsOf ⟨n2, zs⟩ hx3 hx4
              rw [(cOf_CI hZ (by decide)).1, (cOf_CI hZ (by decide)).2] at this
              exact this
            have fE : PureCall Try.prog 12 [.agg [.sl 1 ((cellsOf ⟨n2, zs⟩).bytes.map eI), .int .i64 (n2)], .agg [.sl 1 ((cellsOf ⟨n2, zs⟩).bytes.map eI), .int .i64 (n2)]] [.one (.bool true)] := by
              have := spec_EqualCells (cellsOf ⟨n2, zs⟩).bytes (cellsOf ⟨n2, zs⟩).bytes n2 n2
              rw [show eqCB (cellsOf ⟨n2, zs⟩).bytes (cellsOf ⟨n2, zs⟩).bytes n2 n2 = true from eqCB_self _ _] at this
              exact this
            have fK : PureCall Try.prog 14 [.agg [.sl 1 ((cellsOf ⟨n2, zs⟩).bytes.map eI), .int .i64 (n2)]] [.one (.sl 2 ((rngsB n2 zs).map TRange.enc))] := by
              have := impl_KnownRanges (cellsOf ⟨n2, zs⟩)
              rw [known_CI hZ (by decide)] at this
              exact this
            have fB : PureCall Try.prog 15 [.agg [.int .i64 (n2), .sl 2 (zs.map TChunk.enc)]] [.one (.sl 2 ((rngsB n2 zs).map TRange.enc))] := impl_BufferRanges n2 zs hx3 hx4
            have fR : PureCall Try.prog 13 [.one (.sl 2 ((rngsB n2 zs).map TRange.enc)), .one (.sl 2 ((rngsB n2 zs).map TRange.enc))] [.one (.bool true)] := by
              have := spec_EqualRanges (rngsB n2 zs) (rngsB n2 zs)
              rw [decide_eq_true rfl] at this
              exact this
            have hcl : (cellsOf ⟨n2, zs⟩).bytes.length = 64 := by simp [cellsOf]
            try simp only [go_sem]
            repeat' (first
              | (refine CallS.intro (by first | assumption | (apply laws_at <;> first | assumption | omega)) ?_; simp only [go_sem, List.length_map])
              | (refine CallK.intro (by first | assumption | (apply laws_at <;> first | assumption | omega)) ?_; simp only [go_sem, hr, hts2, List.length_map])
              | (with_reducible refine gTrueS ?_; simp only [go_sem, w1, w2, w3, w4, hr, hts2, List.length_map]) | (with_reducible refine gFalseS ?_; simp only [go_sem, w1, w2, w3, w4, hr, hts2, List.length_map]) | (with_reducible refine gTrue ?_; simp only [go_sem, w4, List.length_map]) | (with_reducible refine gFalse ?_; simp only [go_sem, w1, w2, w3, w4, hr, hts2, List.length_map])
              | (refine gSymS ?_; simp only [go_sem, w1, w2, w3, w4, hr, hts2, List.length_map]) | (refine gSym ?_; simp only [go_sem, w1, w2, w3, w4, hr, hts2, List.length_map])
              | (refine drawE_intro [[.post, .un, .un, .un, .un, .un, .un, .post, .post, .post, .post, .un, .post, .post], [.un, .post, .un, .un, .un, .post, .post, .post, .post, .post, .post, .un, .post, .post], [.un, .un, .post, .post, .post, .post, .post, .post, .post, .post, .post, .un, .post, .post], [.un, .un, .pre, .post, .post, .post, .post, .post, .post, .post, .post, .un, .post, .post], [.un, .un, .pre, .pre, .post, .post, .post, .post, .post, .post, .post, .un, .post, .post], [.un, .pre, .pre, .pre, .pre, .post, .post, .post, .post, .post, .post, .un, .post, .post], [.un, .pre, .pre, .pre, .pre, .pre, .post, .post, .post, .post, .post, .un, .post, .post], [.pre, .pre, .pre, .pre, .pre, .pre, .pre, .post, .post, .post, .post, .un, .post, .post], [.pre, .pre, .pre, .pre, .pre, .pre, .pre, .pre, .post, .post, .post, .un, .post, .post], [.pre, .pre, .pre, .pre, .pre, .pre, .pre, .pre, .pre, .post, .un, .un, .post, .post], [.pre, .pre, .pre, .pre, .pre, .pre, .pre, .pre, .pre, .un, .post, .un, .un, .post], [.un, .un, .un, .un, .un, .un, .un, .un, .un, .un, .un, .post, .post, .post], [.pre, .pre, .pre, .pre, .pre, .pre, .pre, .pre, .pre, .pre, .un, .pre, .post, .post], [.pre, .pre, .pre, .pre, .pre, .pre, .pre, .pre, .pre, .pre, .pre, .pre, .pre, .post]] (by kernel_rfl) (by rfl) ?_; simp only [go_sem, w1, w3])
              | (refine drawE_intro [[.post, .post, .post, .post, .post, .post, .post, .post, .post, .post, .post, .post, .post, .post, .post, .post], [.pre, .post, .post, .post, .post, .post, .post, .post, .post, .post, .post, .post, .post, .post, .post, .post], [.pre, .pre, .post, .post, .post, .post, .post, .post, .post, .post, .post, .post, .post, .post, .post, .post], [.pre, .pre, .pre, .post, .un, .post, .post, .post, .post, .post, .post, .post, .post, .post, .post, .post], [.pre, .pre, .pre, .un, .post, .post, .post, .post, .post, .post, .post, .post, .post, .post, .post, .post], [.pre, .pre, .pre, .pre, .pre, .post, .post, .post, .post, .post, .post, .post, .post, .post, .post, .post], [.pre, .pre, .pre, .pre, .pre, .pre, .post, .post, .post, .post, .post, .post, .post, .post, .post, .post], [.pre, .pre, .pre, .pre, .pre, .pre, .pre, .post, .post, .post, .post, .post, .post, .post, .post, .post], [.pre, .pre, .pre, .pre, .pre, .pre, .pre, .pre, .post, .post, .post, .post, .post, .post, .post, .post], [.pre, .pre, .pre, .pre, .pre, .pre, .pre, .pre, .pre, .post, .post, .un, .post, .post, .post, .post], [.pre, .pre, .pre, .pre, .pre, .pre, .pre, .pre, .pre, .pre, .post, .un, .post, .post, .post, .post], [.pre, .pre, .pre, .pre, .pre, .pre, .pre, .pre, .pre, .un, .un, .post, .post, .post, .post, .post], [.pre, .pre, .pre, .pre, .pre, .pre, .pre, .pre, .pre, .pre, .pre, .pre, .post, .post, .post, .post], [.pre, .pre, .pre, .pre, .pre, .pre, .pre, .pre, .pre, .pre, .pre, .pre, .pre, .post, .post, .post], [.pre, .pre, .pre, .pre, .pre, .pre, .pre, .pre, .pre, .pre, .pre, .pre, .pre, .pre, .post, .post], [.pre, .pre, .pre, .pre, .pre, .pre, .pre, .pre, .pre, .pre, .pre, .pre, .pre, .pre, .pre, .post]] (by kernel_rfl) (by rfl) ?_; simp only [go_sem])
              | (with_reducible refine And.intro ?_ ?_; (focus (first | omega | (exact ⟨by omega, by omega⟩) | (simp; done) | (simp; omega)))))
            refine RoundE.intro (i + 1, some (n2, zs)) [0, 8, 2, 6] ⟨by omega, (fun h => by cases h), (fun b hb => by cases hb; exact hZ)⟩ (show 8 - (i + 1) < 8 - i by omega) ?_
            simp only [go_sem, hcl]
            exact ⟨by decide, ⟨rfl, rfl⟩, rfl, rfl⟩
          · simp only [go_sem, List.length_map]
            have hx1 : ∀ c ∈ ys, c.data.length ≤ 1048576 := fun c hc => by have h1 := hY.en c hc; have h2 := chk_off hY c hc; omega
            have hx2 : ys.length ≤ 1048576 := by have := hY.le; omega
            have fC : PureCall Try.prog 11 [.agg [.int .i64 (n), .sl 2 (ys.map TChunk.enc)]] [.agg [.sl 1 ((cellsOf ⟨n, ys⟩).bytes.map eI), .int .i64 (n)], .one (.bool true)] := by
              have := impl_CellsOf ⟨n, ys⟩ hx1 hx2
              rw [(cOf_CI hY (by decide)).1, (cOf_CI hY (by decide)).2] at this
              exact this
            have fE : PureCall Try.prog 12 [.agg [.sl 1 ((cellsOf ⟨n, ys⟩).bytes.map eI), .int .i64 (n)], .agg [.sl 1 ((cellsOf ⟨n, ys⟩).bytes.map eI), .int .i64 (n)]] [.one (.bool true)] := by
              have := spec_EqualCells (cellsOf ⟨n, ys⟩).bytes (cellsOf ⟨n, ys⟩).bytes n n
              rw [show eqCB (cellsOf ⟨n, ys⟩).bytes (cellsOf ⟨n, ys⟩).bytes n n = true from eqCB_self _ _] at this
              exact this
            have fK : PureCall Try.prog 14 [.agg [.sl 1 ((cellsOf ⟨n, ys⟩).bytes.map eI), .int .i64 (n)]] [.one (.sl 2 ((rngsB n ys).map TRange.enc))] := by
              have := impl_KnownRanges (cellsOf ⟨n, ys⟩)
              rw [known_CI hY (by decide)] at this
              exact this
            have fB : PureCall Try.prog 15 [.agg [.int .i64 (n), .sl 2 (ys.map TChunk.enc)]] [.one (.sl 2 ((rngsB n ys).map TRange.enc))] := impl_BufferRanges n ys hx1 hx2
            have fR : PureCall Try.prog 13 [.one (.sl 2 ((rngsB n ys).map TRange.enc)), .one (.sl 2 ((rngsB n ys).map TRange.enc))] [.one (.bool true)] := by
              have := spec_EqualRanges (rngsB n ys) (rngsB n ys)
              rw [decide_eq_true rfl] at this
              exact this
            have hcl : (cellsOf ⟨n, ys⟩).bytes.length = 64 := by simp [cellsOf]
            try simp only [go_sem, w4, List.length_map]
            repeat' (first
              | (refine CallS.intro (by first | assumption | (apply laws_at <;> first | assumption | omega)) ?_; simp only [go_sem, List.length_map])
              | (refine CallK.intro (by first | assumption | (apply laws_at <;> first | assumption | omega)) ?_; simp only [go_sem, List.length_map])
              | (with_reducible refine gTrueS ?_; simp only [go_sem, w4, List.length_map]) | (with_reducible refine gFalseS ?_; simp only [go_sem, w4, List.length_map]) | (with_reducible refine gTrue ?_; simp only [go_sem, w4, List.length_map]) | (with_reducible refine gFalse ?_; simp only [go_sem, w4, List.length_map])
              | (refine gSymS ?_; simp only [go_sem, w4, List.length_map]) | (refine gSym ?_; simp only [go_sem, w4, List.length_map])
              | (refine drawE_intro [[.post, .post, .post, .post, .post, .post, .post, .post, .post, .post, .post, .post, .post, .post, .post, .post], [.pre, .post, .post, .post, .post, .post, .post, .post, .post, .post, .post, .post, .post, .post, .post, .post], [.pre, .pre, .post, .post, .post, .post, .post, .post, .post, .post, .post, .post, .post, .post, .post, .post], [.pre, .pre, .pre, .post, .un, .post, .post, .post, .post, .post, .post, .post, .post, .post, .post, .post], [.pre, .pre, .pre, .un, .post, .post, .post, .post, .post, .post, .post, .post, .post, .post, .post, .post], [.pre, .pre, .pre, .pre, .pre, .post, .post, .post, .post, .post, .post, .post, .post, .post, .post, .post], [.pre, .pre, .pre, .pre, .pre, .pre, .post, .post, .post, .post, .post, .post, .post, .post, .post, .post], [.pre, .pre, .pre, .pre, .pre, .pre, .pre, .post, .post, .post, .post, .post, .post, .post, .post, .post], [.pre, .pre, .pre, .pre, .pre, .pre, .pre, .pre, .post, .post, .post, .post, .post, .post, .post, .post], [.pre, .pre, .pre, .pre, .pre, .pre, .pre, .pre, .pre, .post, .post, .un, .post, .post, .post, .post], [.pre, .pre, .pre, .pre, .pre, .pre, .pre, .pre, .pre, .pre, .post, .un, .post, .post, .post, .post], [.pre, .pre, .pre, .pre, .pre, .pre, .pre, .pre, .pre, .un, .un, .post, .post, .post, .post, .post], [.pre, .pre, .pre, .pre, .pre, .pre, .pre, .pre, .pre, .pre, .pre, .pre, .post, .post, .post, .post], [.pre, .pre, .pre, .pre, .pre, .pre, .pre, .pre, .pre, .pre, .pre, .pre, .pre, .post, .post, .post], [.pre, .pre, .pre, .pre, .pre, .pre, .pre, .pre, .pre, .pre, .pre, .pre, .pre, .pre, .post, .post], [.pre, .pre, .pre, .pre, .pre, .pre, .pre, .pre, .pre, .pre, .pre, .pre, .pre, .pre, .pre, .post]] (by kernel_rfl) (by rfl) ?_; simp only [go_sem])
              | (with_reducible refine And.intro ?_ ?_; (focus (first | omega | (exact ⟨by omega, by omega⟩) | (simp; done) | (simp; omega)))))
            refine RoundE.intro (i + 1, some (n, ys)) [0, 5, 2, 4] ⟨by omega, (fun h => by cases h), (fun b hb => by cases hb; exact hY)⟩ (show 8 - (i + 1) < 8 - i by omega) ?_
            simp only [go_sem, hcl]
            exact ⟨by decide, ⟨rfl, rfl⟩, rfl, rfl⟩
      · simp only [go_sem]
        refine CallS.nd (DrawPutCells_nd bs) rfl ?_
        rintro _ ⟨p, o, s, hp, hs, rfl⟩
        simp only [go_sem, setD, List.length_map]
        refine CallS.nd (DrawReadCells_nd bs) rfl ?_
        rintro _ ⟨c, m, hc, rfl⟩
        simp only [go_sem, setD, List.length_map]
        refine CallS.intro (impl_ReadCells c m (by omega)) ?_
        simp only [go_sem, List.length_map]
        refine CallS.intro (spec_ReadCells c m (by omega)) ?_
        simp only [go_sem, List.length_map]
        refine CallS.nd (DrawCellsOf_nd bs) rfl ?_
        rintro _ ⟨n2, ys, hy, hy8, rfl⟩
        simp only [go_sem, setD, List.length_map]
        have hx1 : ∀ c ∈ ys, c.data.length ≤ 1048576 := fun c hc => by have := hy c hc; simp only [okC] at this; omega
        refine CallS.intro (impl_CellsOf_raw n2 ys hx1 (by omega)) ?_
        simp only [go_sem, List.length_map]
        refine CallS.intro (spec_CellsOf_raw n2 ys hx1 (by omega)) ?_
        simp only [go_sem, List.length_map]
        refine CallS.nd (DrawEqualCells_nd bs) rfl ?_
        rintro _ ⟨a, e, ha, he, rfl⟩
        simp only [go_sem, setD, List.length_map]
        have f1 := impl_PutCells p o s (by omega) (by omega)
        have f2 := spec_PutCells p o s (by omega) (by omega)
        try simp only [go_sem, List.length_map]
        repeat' (first
          | (refine CallS.intro (by first | assumption | (apply laws_big <;> first | assumption | omega) | (apply impl_NewCells <;> first | assumption | omega) | (apply laws_at <;> first | assumption | omega) | (apply impl_InsertData <;> first | assumption | omega) | (apply impl_PutCells <;> first | assumption | omega) | (apply impl_TakeBytes <;> first | assumption | omega) | (apply impl_ReadCells <;> first | assumption | omega) | (apply impl_CellsOf <;> first | assumption | omega) | (apply spec_EqualCells <;> first | assumption | omega) | (apply impl_KnownRanges <;> first | assumption | omega) | (apply impl_BufferRanges <;> first | assumption | omega) | (apply spec_EqualRanges <;> first | assumption | omega) | (apply spec_DrawPutCells <;> first | assumption | omega) | (apply spec_DrawReadCells <;> first | assumption | omega) | (apply spec_ReadCells <;> first | assumption | omega) | (apply spec_DrawCellsOf <;> first | assumption | omega) | (apply spec_CellsOf <;> first | assumption | omega) | (apply spec_DrawEqualCells <;> first | assumption | omega) | (apply spec_PutCells <;> first | assumption | omega) | (apply impl_EqualCells <;> first | assumption | omega) | (apply impl_IsCells <;> first | assumption | omega) | (apply spec_IsCells <;> first | assumption | omega)) ?_; simp only [go_sem, List.length_map])
          | (refine CallK.intro (by first | assumption | (apply laws_big <;> first | assumption | omega) | (apply impl_NewCells <;> first | assumption | omega) | (apply laws_at <;> first | assumption | omega) | (apply impl_InsertData <;> first | assumption | omega) | (apply impl_PutCells <;> first | assumption | omega) | (apply impl_TakeBytes <;> first | assumption | omega) | (apply impl_ReadCells <;> first | assumption | omega) | (apply impl_CellsOf <;> first | assumption | omega) | (apply spec_EqualCells <;> first | assumption | omega) | (apply impl_KnownRanges <;> first | assumption | omega) | (apply impl_BufferRanges <;> first | assumption | omega) | (apply spec_EqualRanges <;> first | assumption | omega) | (apply spec_DrawPutCells <;> first | assumption | omega) | (apply spec_DrawReadCells <;> first | assumption | omega) | (apply spec_ReadCells <;> first | assumption | omega) | (apply spec_DrawCellsOf <;> first | assumption | omega) | (apply spec_CellsOf <;> first | assumption | omega) | (apply spec_DrawEqualCells <;> first | assumption | omega) | (apply spec_PutCells <;> first | assumption | omega) | (apply impl_EqualCells <;> first | assumption | omega) | (apply impl_IsCells <;> first | assumption | omega) | (apply spec_IsCells <;> first | assumption | omega)) ?_; simp only [go_sem, List.length_map])
          | (with_reducible refine gTrueS ?_; simp only [go_sem, List.length_map]) | (with_reducible refine gFalseS ?_; simp only [go_sem, List.length_map]) | (with_reducible refine gTrue ?_; simp only [go_sem, List.length_map]) | (with_reducible refine gFalse ?_; simp only [go_sem, List.length_map])
          | (refine gSymS ?_; simp only [go_sem, List.length_map]) | (refine gSym ?_; simp only [go_sem, List.length_map])
          | (refine drawE_intro [[.post, .un, .un, .post, .un, .un, .un, .post, .post, .post, .post, .post, .post, .post, .post, .post, .post, .post, .post, .post, .post, .post, .post, .post, .post, .post, .post, .post, .post, .post, .post, .post, .post, .post, .post, .post, .post, .post, .post, .post, .post, .post, .post, .post, .post, .post], [.un, .post, .un, .post, .un, .un, .un, .post, .post, .post, .post, .post, .post, .post, .post, .post, .post, .post, .post, .post, .post, .post, .post, .post, .post, .post, .post, .post, .post, .post, .post, .post, .post, .post, .post, .post, .post, .post, .post, .post, .post, .post, .post, .post, .post, .post], [.un, .un, .post, .post, .un, .un, .un, .post, .post, .post, .post, .post, .post, .post, .post, .post, .post, .post, .post, .post, .post, .post, .post, .post, .post, .post, .post, .post, .post, .post, .post, .post, .post, .post, .post, .post, .post, .post, .post, .post, .post, .post, .post, .post, .post, .post], [.pre, .pre, .pre, .post, .un, .un, .un, .post, .post, .post, .post, .post, .post, .post, .post, .post, .post, .post, .post, .post, .post, .post, .post, .post, .post, .post, .post, .post, .post, .post, .post, .post, .post, .post, .post, .post, .post, .post, .post, .post, .post, .post, .post, .post, .post, .post], [.un, .un, .un, .un, .post, .un, .un, .post, .post, .post, .post, .post, .post, .post, .post, .post, .post, .post, .post, .post, .post, .post, .post, .post, .post, .post, .post, .post, .post, .post, .post, .post, .post, .post, .post, .post, .post, .post, .post, .post, .post, .post, .post, .post, .post, .post], [.un, .un, .un, .un, .un, .post, .un, .post, .post, .post, .post, .post, .post, .post, .post, .post, .post, .post, .post, .post, .post, .post, .post, .post, .post, .post, .post, .post, .post, .post, .post, .post, .post, .post, .post, .post, .post, .post, .post, .post, .post, .post, .post, .post, .post, .post], [.un, .un, .un, .un, .un, .un, .post, .post, .post, .post, .post, .post, .post, .post, .post, .post, .post, .post, .post, .post, .post, .post, .post, .post, .post, .post, .post, .post, .post, .post, .post, .post, .post, .post, .post, .post, .post, .post, .post, .post, .post, .post, .post, .post, .post, .post], [.pre, .pre, .pre, .pre, .pre, .pre, .pre, .post, .post, .post, .post, .post, .post, .post, .post, .post, .post, .post, .post, .post, .post, .post, .post, .post, .post, .post, .post, .post, .post, .post, .post, .post, .post, .post, .post, .post, .post, .post, .post, .post, .post, .post, .post, .post, .post, .post], [.pre, .pre, .pre, .pre, .pre, .pre, .pre, .pre, .post, .post, .post, .post, .post, .post, .post, .post, .post, .post, .post, .post, .post, .post, .post, .post, .post, .post, .post, .post, .post, .post, .post, .post, .post, .post, .post, .post, .post, .post, .post, .post, .post, .post, .post, .post, .post, .post], [.pre, .pre, .pre, .pre, .pre, .pre, .pre, .pre, .pre, .post, .post, .post, .post, .post, .post, .post, .post, .post, .post, .post, .post, .post, .post, .post, .post, .post, .post, .post, .post, .post, .post, .post, .post, .post, .post, .post, .post, .post, .post, .post, .post, .post, .post, .post, .post, .post], [.pre, .pre, .pre, .pre, .pre, .pre, .pre, .pre, .pre, .pre, .post, .un, .post, .post, .post, .post, .post, .post, .post, .post, .post, .post, .post, .post, .post, .post, .post, .post, .post, .post, .post, .post, .post, .post, .post, .post, .post, .post, .post, .post, .post, .post, .post, .post, .post, .post], [.pre, .pre, .pre, .pre, .pre, .pre, .pre, .pre, .pre, .pre, .un, .post, .post, .post, .post, .post, .post, .post, .post, .post, .post, .post, .post, .post, .post, .post, .post, .post, .post, .post, .post, .post, .post, .post, .post, .post, .post, .post, .post, .post, .post, .post, .post, .post, .post, .post], [.pre, .pre, .pre, .pre, .pre, .pre, .pre, .pre, .pre, .pre, .pre, .pre, .post, .post, .post, .post, .post, .post, .post, .post, .post, .post, .post, .post, .post, .post, .post, .post, .post, .post, .post, .post, .post, .post, .post, .post, .post, .post, .post, .post, .post, .post, .post, .post, .post, .post], [.pre, .pre, .pre, .pre, .pre, .pre, .pre, .pre, .pre, .pre, .pre, .pre, .pre, .post, .post, .post, .post, .post, .post, .post, .post, .post, .post, .post, .post, .post, .post, .post, .post, .post, .post, .post, .post, .post, .post, .post, .post, .post, .post, .post, .post, .post, .post, .post, .post, .post], [.pre, .pre, .pre, .pre, .pre, .pre, .pre, .pre, .pre, .pre, .pre, .pre, .pre, .pre, .post, .post, .post, .post, .post, .post, .post, .post, .post, .post, .post, .post, .post, .post, .post, .post, .post, .post, .post, .post, .post, .post, .post, .post, .post, .post, .post, .post, .post, .post, .post, .post], [.pre, .pre, .pre, .pre, .pre, .pre, .pre, .pre, .pre, .pre, .pre, .pre, .pre, .pre, .pre, .post, .un, .post, .post, .post, .post, .post, .post, .post, .post, .post, .post, .post, .post, .post, .post, .post, .post, .post, .post, .post, .post, .post, .post, .post, .post, .post, .post, .post, .post, .post], [.pre, .pre, .pre, .pre, .pre, .pre, .pre, .pre, .pre, .pre, .pre, .pre, .pre, .pre, .pre, .un, .post, .post, .post, .post, .post, .post, .post, .post, .post, .post, .post, .post, .post, .post, .post, .post, .post, .post, .post, .post, .post, .post, .post, .post, .post, .post, .post, .post, .post, .post], [.pre, .pre, .pre, .pre, .pre, .pre, .pre, .pre, .pre, .pre, .pre, .pre, .pre, .pre, .pre, .pre, .pre, .post, .post, .post, .post, .post, .post, .post, .post, .post, .post, .post, .post, .post, .post, .post, .post, .post, .post, .post, .post, .post, .post, .post, .post, .post, .post, .post, .post, .post], [.pre, .pre, .pre, .pre, .pre, .pre, .pre, .pre, .pre, .pre, .pre, .pre, .pre, .pre, .pre, .pre, .pre, .pre, .post, .post, .post, .post, .post, .post, .post, .post, .post, .post, .post, .post, .post, .post, .post, .post, .post, .post, .post, .post, .post, .post, .post, .post, .post, .post, .post, .post], [.pre, .pre, .pre, .pre, .pre, .pre, .pre, .pre, .pre, .pre, .pre, .pre, .pre, .pre, .pre, .pre, .pre, .pre, .pre, .post, .post, .post, .post, .post, .post, .post, .post, .post, .post, .post, .post, .post, .post, .post, .post, .post, .post, .post, .post, .post, .post, .post, .post, .post, .post, .post], [.pre, .pre, .pre, .pre, .pre, .pre, .pre, .pre, .pre, .pre, .pre, .pre, .pre, .pre, .pre, .pre, .pre, .pre, .pre, .pre, .post, .un, .post, .post, .post, .post, .post, .post, .post, .post, .post, .post, .post, .post, .post, .post, .post, .post, .post, .post, .post, .post, .post, .post, .post, .post], [.pre, .pre, .pre, .pre, .pre, .pre, .pre, .pre, .pre, .pre, .pre, .pre, .pre, .pre, .pre, .pre, .pre, .pre, .pre, .pre, .un, .post, .post, .post, .post, .post, .post, .post, .post, .post, .post, .post, .post, .post, .post, .post, .post, .post, .post, .post, .post, .post, .post, .post, .post, .post], [.pre, .pre, .pre, .pre, .pre, .pre, .pre, .pre, .pre, .pre, .pre, .pre, .pre, .pre, .pre, .pre, .pre, .pre, .pre, .pre, .pre, .pre, .post, .post, .post, .post, .post, .post, .post, .post, .post, .post, .post, .post, .post, .post, .post, .post, .post, .post, .post, .post, .post, .post, .post, .post], [.pre, .pre, .pre, .pre, .pre, .pre, .pre, .pre, .pre, .pre, .pre, .pre, .pre, .pre, .pre, .pre, .pre, .pre, .pre, .pre, .pre, .pre, .pre, .post, .post, .post, .post, .post, .post, .post, .post, .post, .post, .post, .post, .post, .post, .post, .post, .post, .post, .post, .post, .post, .post, .post], [.pre, .pre, .pre, .pre, .pre, .pre, .pre, .pre, .pre, .pre, .pre, .pre, .pre, .pre, .pre, .pre, .pre, .pre, .pre, .pre, .pre, .pre, .pre, .pre, .post, .post, .post, .post, .post, .post, .post, .post, .post, .post, .post, .post, .post, .post, .post, .post, .post, .post, .post, .post, .post, .post], [.pre, .pre, .pre, .pre, .pre, .pre, .pre, .pre, .pre, .pre, .pre, .pre, .pre, .pre, .pre, .pre, .pre, .pre, .pre, .pre, .pre, .pre, .pre, .pre, .pre, .post, .un, .post, .post, .post, .post, .post, .post, .post, .post, .post, .post, .post, .post, .post, .post, .post, .post, .post, .post, .post], [.pre, .pre, .pre, .pre, .pre, .pre, .pre, .pre, .pre, .pre, .pre, .pre, .pre, .pre, .pre, .pre, .pre, .pre, .pre, .pre, .pre, .pre, .pre, .pre, .pre, .un, .post, .post, .post, .post, .post, .post, .post, .post, .post, .post, .post, .post, .post, .post, .post, .post, .post, .post, .post, .post], [.pre, .pre, .pre, .pre, .pre, .pre, .pre, .pre, .pre, .pre, .pre, .pre, .pre, .pre, .pre, .pre, .pre, .pre, .pre, .pre, .pre, .pre, .pre, .pre, .pre, .pre, .pre, .post, .post, .post, .post, .post, .post, .post, .post, .post, .post, .post, .post, .post, .post, .post, .post, .post, .post, .post], [.pre, .pre, .pre, .pre, .pre, .pre, .pre, .pre, .pre, .pre, .pre, .pre, .pre, .pre, .pre, .pre, .pre, .pre, .pre, .pre, .pre, .pre, .pre, .pre, .pre, .pre, .pre, .pre, .post, .post, .post, .post, .post, .post, .post, .post, .post, .post, .post, .post, .post, .post, .post, .post, .post, .post], [.pre, .pre, .pre, .pre, .pre, .pre, .pre, .pre, .pre, .pre, .pre, .pre, .pre, .pre, .pre, .pre, .pre, .pre, .pre, .pre, .pre, .pre, .pre, .pre, .pre, .pre, .pre, .pre, .pre, .post, .post, .post, .post, .post, .post, .post, .post, .post, .post, .post, .post, .post, .post, .post, .post, .post], [.pre, .pre, .pre, .pre, .pre, .pre, .pre, .pre, .pre, .pre, .pre, .pre, .pre, .pre, .pre, .pre, .pre, .pre, .pre, .pre, .pre, .pre, .pre, .pre, .pre, .pre, .pre, .pre, .pre, .pre, .post, .un, .post, .un, .un, .post, .post, .post, .post, .post, .post, .post, .post, .post, .post, .post], [.pre, .pre, .pre, .pre, .pre, .pre, .pre, .pre, .pre, .pre, .pre, .pre, .pre, .pre, .pre, .pre, .pre, .pre, .pre, .pre, .pre, .pre, .pre, .pre, .pre, .pre, .pre, .pre, .pre, .pre, .un, .post, .post, .un, .un, .post, .post, .post, .post, .post, .post, .post, .post, .post, .post, .post], [.pre, .pre, .pre, .pre, .pre, .pre, .pre, .pre, .pre, .pre, .pre, .pre, .pre, .pre, .pre, .pre, .pre, .pre, .pre, .pre, .pre, .pre, .pre, .pre, .pre, .pre, .pre, .pre, .pre, .pre, .pre, .pre, .post, .un, .un, .post, .post, .post, .post, .post, .post, .post, .post, .post, .post, .post], [.pre, .pre, .pre, .pre, .pre, .pre, .pre, .pre, .pre, .pre, .pre, .pre, .pre, .pre, .pre, .pre, .pre, .pre, .pre, .pre, .pre, .pre, .pre, .pre, .pre, .pre, .pre, .pre, .pre, .pre, .un, .un, .un, .post, .un, .post, .post, .post, .post, .post, .post, .post, .post, .post, .post, .post], [.pre, .pre, .pre, .pre, .pre, .pre, .pre, .pre, .pre, .pre, .pre, .pre, .pre, .pre, .pre, .pre, .pre, .pre, .pre, .pre, .pre, .pre, .pre, .pre, .pre, .pre, .pre, .pre, .pre, .pre, .un, .un, .un, .un, .post, .post, .post, .post, .post, .post, .post, .post, .post, .post, .post, .post], [.pre, .pre, .pre, .pre, .pre, .pre, .pre, .pre, .pre, .pre, .pre, .pre, .pre, .pre, .pre, .pre, .pre, .pre, .pre, .pre, .pre, .pre, .pre, .pre, .pre, .pre, .pre, .pre, .pre, .pre, .pre, .pre, .pre, .pre, .pre, .post, .post, .post, .post, .post, .post, .post, .post, .post, .post, .post], [.pre, .pre, .pre, .pre, .pre, .pre, .pre, .pre, .pre, .pre, .pre, .pre, .pre, .pre, .pre, .pre, .pre, .pre, .pre, .pre, .pre, .pre, .pre, .pre, .pre, .pre, .pre, .pre, .pre, .pre, .pre, .pre, .pre, .pre, .pre, .pre, .post, .post, .post, .post, .post, .post, .post, .post, .post, .post], [.pre, .pre, .pre, .pre, .pre, .pre, .pre, .pre, .pre, .pre, .pre, .pre, .pre, .pre, .pre, .pre, .pre, .pre, .pre, .pre, .pre, .pre, .pre, .pre, .pre, .pre, .pre, .pre, .pre, .pre, .pre, .pre, .pre, .pre, .pre, .pre, .pre, .post, .post, .post, .post, .post, .post, .post, .post, .post], [.pre, .pre, .pre, .pre, .pre, .pre, .pre, .pre, .pre, .pre, .pre, .pre, .pre, .pre, .pre, .pre, .pre, .pre, .pre, .pre, .pre, .pre, .pre, .pre, .pre, .pre, .pre, .pre, .pre, .pre, .pre, .pre, .pre, .pre, .pre, .pre, .pre, .pre, .post, .post, .post, .post, .post, .post, .post, .post], [.pre, .pre, .pre, .pre, .pre, .pre, .pre, .pre, .pre, .pre, .pre, .pre, .pre, .pre, .pre, .pre, .pre, .pre, .pre, .pre, .pre, .pre, .pre, .pre, .pre, .pre, .pre, .pre, .pre, .pre, .pre, .pre, .pre, .pre, .pre, .pre, .pre, .pre, .pre, .post, .post, .un, .post, .post, .post, .post], [.pre, .pre, .pre, .pre, .pre, .pre, .pre, .pre, .pre, .pre, .pre, .pre, .pre, .pre, .pre, .pre, .pre, .pre, .pre, .pre, .pre, .pre, .pre, .pre, .pre, .pre, .pre, .pre, .pre, .pre, .pre, .pre, .pre, .pre, .pre, .pre, .pre, .pre, .pre, .pre, .post, .un, .post, .post, .post, .post], [.pre, .pre, .pre, .pre, .pre, .pre, .pre, .pre, .pre, .pre, .pre, .pre, .pre, .pre, .pre, .pre, .pre, .pre, .pre, .pre, .pre, .pre, .pre, .pre, .pre, .pre, .pre, .pre, .pre, .pre, .pre, .pre, .pre, .pre, .pre, .pre, .pre, .pre, .pre, .un, .un, .post, .post, .post, .post, .post], [.pre, .pre, .pre, .pre, .pre, .pre, .pre, .pre, .pre, .pre, .pre, .pre, .pre, .pre, .pre, .pre, .pre, .pre, .pre, .pre, .pre, .pre, .pre, .pre, .pre, .pre, .pre, .pre, .pre, .pre, .pre, .pre, .pre, .pre, .pre, .pre, .pre, .pre, .pre, .pre, .pre, .pre, .post, .post, .post, .post], [.pre, .pre, .pre, .pre, .pre, .pre, .pre, .pre, .pre, .pre, .pre, .pre, .pre, .pre, .pre, .pre, .pre, .pre, .pre, .pre, .pre, .pre, .pre, .pre, .pre, .pre, .pre, .pre, .pre, .pre, .pre, .pre, .pre, .pre, .pre, .pre, .pre, .pre, .pre, .pre, .pre, .pre, .pre, .post, .post, .post], [.pre, .pre, .pre, .pre, .pre, .pre, .pre, .pre, .pre, .pre, .pre, .pre, .pre, .pre, .pre, .pre, .pre, .pre, .pre, .pre, .pre, .pre, .pre, .pre, .pre, .pre, .pre, .pre, .pre, .pre, .pre, .pre, .pre, .pre, .pre, .pre, .pre, .pre, .pre, .pre, .pre, .pre, .pre, .pre, .post, .post], [.pre, .pre, .pre, .pre, .pre, .pre, .pre, .pre, .pre, .pre, .pre, .pre, .pre, .pre, .pre, .pre, .pre, .pre, .pre, .pre, .pre, .pre, .pre, .pre, .pre, .pre, .pre, .pre, .pre, .pre, .pre, .pre, .pre, .pre, .pre, .pre, .pre, .pre, .pre, .pre, .pre, .pre, .pre, .pre, .pre, .post]] (by kernel_rfl) (by rfl) ?_; simp only [go_sem, List.length_map])
          | (with_reducible refine And.intro ?_ ?_; (focus (first | omega | (exact ⟨by omega, by omega⟩) | (simp; done) | (simp; omega)))))
        simp [eqCB_self]
end Gv
