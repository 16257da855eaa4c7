/-
  Small functions of numbers, credits, windows, counts and configurations.
-/
import Derived.Test.YtgflikakblfdpaaFns1
namespace Gv
open Go Go.Proofs

def isQ (n : Int) : Bool := inB n 0 4611686018427387903
set_option maxRecDepth 100000 in
theorem impl_isQuic (n : Int) : PureCall Try.prog 154 [.one (.int .i64 n)] [.one (.bool (isQ n))] := by
  refine pure_ev Try.func154 rfl Try.call154 Try.checked.mixed [.d (.int .i64 n), .junk, .junk, .junk, .junk] rfl [.tmp 2] rfl ?_
  intro _
  try simp only [go_sem]
  repeat' (first
    | (refine CallS.intro (by first | assumption | (apply impl_within <;> first | assumption | omega)) ?_; simp only [go_sem])
    | (refine CallK.intro (by first | assumption | (apply impl_within <;> first | assumption | omega)) ?_; simp only [go_sem])
    | (with_reducible refine gTrueS ?_; simp only [go_sem]) | (with_reducible refine gFalseS ?_; simp only [go_sem]) | (with_reducible refine gTrue ?_; simp only [go_sem]) | (with_reducible refine gFalse ?_; simp only [go_sem])
    | (refine gSymS ?_; simp only [go_sem]) | (refine gSym ?_; simp only [go_sem])
    | (refine cSplit (fun h => ?_) (fun h => ?_) <;> simp only [go_sem])
    | (with_reducible refine And.intro ?_ ?_; (focus (first | omega | (exact ⟨by omega, by omega⟩) | (simp; done) | (simp; omega)))))
  all_goals simp [isQ]
set_option maxRecDepth 100000 in
theorem spec_l4Quic (n : Int) : PureCall Try.prog 152 [.one (.int .i64 n)] [.one (.bool (isQ n))] := by
  refine pure_ev Try.func152 rfl Try.call152 Try.checked.mixed [.d (.int .i64 n), .junk, .junk, .junk, .junk] rfl [.tmp 2] rfl ?_
  intro _
  try simp only [go_sem]
  repeat' (first
    | (refine CallS.intro (by first | assumption | (apply spec_l1In <;> first | assumption | omega)) ?_; simp only [go_sem])
    | (refine CallK.intro (by first | assumption | (apply spec_l1In <;> first | assumption | omega)) ?_; simp only [go_sem])
    | (with_reducible refine gTrueS ?_; simp only [go_sem]) | (with_reducible refine gFalseS ?_; simp only [go_sem]) | (with_reducible refine gTrue ?_; simp only [go_sem]) | (with_reducible refine gFalse ?_; simp only [go_sem])
    | (refine gSymS ?_; simp only [go_sem]) | (refine gSym ?_; simp only [go_sem])
    | (refine cSplit (fun h => ?_) (fun h => ?_) <;> simp only [go_sem])
    | (with_reducible refine And.intro ?_ ?_; (focus (first | omega | (exact ⟨by omega, by omega⟩) | (simp; done) | (simp; omega)))))
  all_goals simp [isQ]
def isRS (n : Int) : Bool := inB n 1 64 && decide (bitI .and .i64 n (IntKind.i64.wrap (n - 1)) = 0)
set_option maxRecDepth 100000 in
theorem impl_isRingSize (n : Int) : PureCall Try.prog 195 [.one (.int .i64 n)] [.one (.bool (isRS n))] := by
  refine pure_ev Try.func195 rfl Try.call195 Try.checked.mixed [.d (.int .i64 n), .junk, .junk, .junk, .junk, .junk, .junk, .junk, .junk, .junk, .junk, .junk] rfl [.tmp 2] rfl ?_
  intro _
  try simp only [go_sem]
  repeat' (first
    | (refine CallS.intro (by first | assumption | (apply impl_within <;> first | assumption | omega)) ?_; simp only [go_sem])
    | (refine CallK.intro (by first | assumption | (apply impl_within <;> first | assumption | omega)) ?_; simp only [go_sem])
    | (with_reducible refine gTrueS ?_; simp only [go_sem]) | (with_reducible refine gFalseS ?_; simp only [go_sem]) | (with_reducible refine gTrue ?_; simp only [go_sem]) | (with_reducible refine gFalse ?_; simp only [go_sem])
    | (refine gSymS ?_; simp only [go_sem]) | (refine gSym ?_; simp only [go_sem])
    | (refine cSplit (fun h => ?_) (fun h => ?_) <;> simp only [go_sem])
    | (with_reducible refine And.intro ?_ ?_; (focus (first | omega | (exact ⟨by omega, by omega⟩) | (simp; done) | (simp; omega)))))
  all_goals (refine one_bool ?_; simp [isRS, inB])
set_option maxRecDepth 100000 in
theorem spec_l8Power (n : Int) : PureCall Try.prog 194 [.one (.int .i64 n)] [.one (.bool (isRS n))] := by
  refine pure_ev Try.func194 rfl Try.call194 Try.checked.mixed [.d (.int .i64 n), .junk, .junk, .junk, .junk, .junk, .junk, .junk, .junk, .junk, .junk, .junk, .junk, .junk, .junk, .junk] rfl [.tmp 2] rfl ?_
  intro _
  try simp only [go_sem]
  repeat' (first
    | (with_reducible refine gTrueS ?_; simp only [go_sem]) | (with_reducible refine gFalseS ?_; simp only [go_sem]) | (with_reducible refine gTrue ?_; simp only [go_sem]) | (with_reducible refine gFalse ?_; simp only [go_sem])
    | (refine gSymS ?_; simp only [go_sem]) | (refine gSym ?_; simp only [go_sem])
    | (refine cSplit (fun h => ?_) (fun h => ?_) <;> simp only [go_sem])
    | (with_reducible refine And.intro ?_ ?_; (focus (first | omega | (exact ⟨by omega, by omega⟩) | (simp; done) | (simp; omega)))))
  all_goals (refine one_bool ?_; simp [isRS, inB]; try omega)
def isConf (c : TConf) : Bool := isRS c.ring && inB c.windowMost 1 4096 && inB c.totalMost 1 4096 && inB c.window 1 c.windowMost && inB c.total 1 c.totalMost && inB c.bidi 0 1000 && inB c.uni 0 1000 && inB c.trip 1 1000
set_option maxRecDepth 100000 in
theorem impl_IsConf (c_ring : Int) (c_window : Int) (c_windowMost : Int) (c_total : Int) (c_totalMost : Int) (c_bidi : Int) (c_uni : Int) (c_trip : Int) : PureCall Try.prog 177 [.agg [.int .i64 c_ring, .int .i64 c_window, .int .i64 c_windowMost, .int .i64 c_total, .int .i64 c_totalMost, .int .i64 c_bidi, .int .i64 c_uni, .int .i64 c_trip]] [.one (.bool (isConf (⟨c_ring, c_window, c_windowMost, c_total, c_totalMost, c_bidi, c_uni, c_trip⟩ : TConf)))] := by
  refine pure_ev Try.func177 rfl Try.call177 Try.checked.mixed [.agg [.d (.int .i64 c_ring), .d (.int .i64 c_window), .d (.int .i64 c_windowMost), .d (.int .i64 c_total), .d (.int .i64 c_totalMost), .d (.int .i64 c_bidi), .d (.int .i64 c_uni), .d (.int .i64 c_trip)], .junk, .junk, .junk, .junk, .junk, .junk, .junk, .junk, .junk, .junk, .junk, .junk, .junk, .junk, .junk, .junk, .junk, .junk, .junk, .junk, .junk, .junk, .junk, .junk, .junk, .junk, .junk, .junk, .junk, .junk, .junk, .junk, .junk, .junk, .junk, .junk, .junk, .junk, .junk, .junk, .junk, .junk, .junk, .junk] rfl [.tmp 2] rfl ?_
  intro _
  try simp only [go_sem]
  repeat' (first
    | (refine CallS.intro (by first | assumption | (apply impl_isRingSize <;> first | assumption | omega) | (apply impl_within <;> first | assumption | omega)) ?_; simp only [go_sem])
    | (refine CallK.intro (by first | assumption | (apply impl_isRingSize <;> first | assumption | omega) | (apply impl_within <;> first | assumption | omega)) ?_; simp only [go_sem])
    | (with_reducible refine gTrueS ?_; simp only [go_sem]) | (with_reducible refine gFalseS ?_; simp only [go_sem]) | (with_reducible refine gTrue ?_; simp only [go_sem]) | (with_reducible refine gFalse ?_; simp only [go_sem])
    | (refine gSymS ?_; simp only [go_sem]) | (refine gSym ?_; simp only [go_sem])
    | (refine cSplit (fun h => ?_) (fun h => ?_) <;> simp only [go_sem])
    | (with_reducible refine And.intro ?_ ?_; (focus (first | omega | (exact ⟨by omega, by omega⟩) | (simp; done) | (simp; omega)))))
  all_goals (refine one_bool ?_; simp [isConf, and_assoc, and_comm, and_left_comm])
set_option maxRecDepth 100000 in
theorem spec_IsConf (c_ring : Int) (c_window : Int) (c_windowMost : Int) (c_total : Int) (c_totalMost : Int) (c_bidi : Int) (c_uni : Int) (c_trip : Int) : PureCall Try.prog 172 [.agg [.int .i64 c_ring, .int .i64 c_window, .int .i64 c_windowMost, .int .i64 c_total, .int .i64 c_totalMost, .int .i64 c_bidi, .int .i64 c_uni, .int .i64 c_trip]] [.one (.bool (isConf (⟨c_ring, c_window, c_windowMost, c_total, c_totalMost, c_bidi, c_uni, c_trip⟩ : TConf)))] := by
  refine pure_ev Try.func172 rfl Try.call172 Try.checked.mixed [.agg [.d (.int .i64 c_ring), .d (.int .i64 c_window), .d (.int .i64 c_windowMost), .d (.int .i64 c_total), .d (.int .i64 c_totalMost), .d (.int .i64 c_bidi), .d (.int .i64 c_uni), .d (.int .i64 c_trip)], .junk, .junk, .junk, .junk, .junk, .junk, .junk, .junk, .junk, .junk, .junk, .junk, .junk, .junk, .junk, .junk, .junk, .junk, .junk, .junk, .junk, .junk, .junk, .junk, .junk, .junk, .junk, .junk, .junk, .junk, .junk, .junk, .junk, .junk, .junk, .junk, .junk, .junk, .junk, .junk, .junk, .junk, .junk, .junk] rfl [.tmp 2] rfl ?_
  intro _
  try simp only [go_sem]
  repeat' (first
    | (refine CallS.intro (by first | assumption | (apply spec_l8Power <;> first | assumption | omega) | (apply spec_l1In <;> first | assumption | omega)) ?_; simp only [go_sem])
    | (refine CallK.intro (by first | assumption | (apply spec_l8Power <;> first | assumption | omega) | (apply spec_l1In <;> first | assumption | omega)) ?_; simp only [go_sem])
    | (with_reducible refine gTrueS ?_; simp only [go_sem]) | (with_reducible refine gFalseS ?_; simp only [go_sem]) | (with_reducible refine gTrue ?_; simp only [go_sem]) | (with_reducible refine gFalse ?_; simp only [go_sem])
    | (refine gSymS ?_; simp only [go_sem]) | (refine gSym ?_; simp only [go_sem])
    | (refine cSplit (fun h => ?_) (fun h => ?_) <;> simp only [go_sem])
    | (with_reducible refine And.intro ?_ ?_; (focus (first | omega | (exact ⟨by omega, by omega⟩) | (simp; done) | (simp; omega)))))
  all_goals (refine one_bool ?_; simp [isConf, and_assoc, and_comm, and_left_comm])
def newCredit (l : Int) : TCredit := if isQ l then ⟨l, 0, -1, -1⟩ else ⟨0, 0, 0, 0⟩
set_option maxRecDepth 100000 in
theorem impl_NewCredit (l : Int) : PureCall Try.prog 178 [.one (.int .i64 l)] [.agg [.int .i64 (newCredit l).limit, .int .i64 (newCredit l).used, .int .i64 (newCredit l).blocked, .int .i64 (newCredit l).told], .one (.bool (isQ l))] := by
  refine pure_ev Try.func178 rfl Try.call178 Try.checked.mixed [.d (.int .i64 l), .junk, .junk, .junk, .junk, .junk, .junk, .junk, .junk, .junk] rfl [.cell 2 93, .tmp 3] rfl ?_
  intro _
  try simp only [go_sem]
  repeat' (first
    | (refine CallS.intro (by first | assumption | (apply impl_isQuic <;> first | assumption | omega)) ?_; simp only [go_sem])
    | (refine CallK.intro (by first | assumption | (apply impl_isQuic <;> first | assumption | omega)) ?_; simp only [go_sem])
    | (with_reducible refine gTrueS ?_; simp only [go_sem]) | (with_reducible refine gFalseS ?_; simp only [go_sem]) | (with_reducible refine gTrue ?_; simp only [go_sem]) | (with_reducible refine gFalse ?_; simp only [go_sem])
    | (refine gSymS ?_; simp only [go_sem]) | (refine gSym ?_; simp only [go_sem])
    | (refine cSplit (fun h => ?_) (fun h => ?_) <;> simp only [go_sem])
    | (with_reducible refine And.intro ?_ ?_; (focus (first | omega | (exact ⟨by omega, by omega⟩) | (simp; done) | (simp; omega)))))
  all_goals simp_all [newCredit]
set_option maxRecDepth 100000 in
theorem spec_NewCredit (l : Int) : PureCall Try.prog 173 [.one (.int .i64 l)] [.agg [.int .i64 (newCredit l).limit, .int .i64 (newCredit l).used, .int .i64 (newCredit l).blocked, .int .i64 (newCredit l).told], .one (.bool (isQ l))] := by
  refine pure_ev Try.func173 rfl Try.call173 Try.checked.mixed [.d (.int .i64 l), .junk, .junk, .junk, .junk, .junk, .junk, .junk, .junk, .junk] rfl [.cell 2 93, .tmp 3] rfl ?_
  intro _
  try simp only [go_sem]
  repeat' (first
    | (refine CallS.intro (by first | assumption | (apply spec_l4Quic <;> first | assumption | omega)) ?_; simp only [go_sem])
    | (refine CallK.intro (by first | assumption | (apply spec_l4Quic <;> first | assumption | omega)) ?_; simp only [go_sem])
    | (with_reducible refine gTrueS ?_; simp only [go_sem]) | (with_reducible refine gFalseS ?_; simp only [go_sem]) | (with_reducible refine gTrue ?_; simp only [go_sem]) | (with_reducible refine gFalse ?_; simp only [go_sem])
    | (refine gSymS ?_; simp only [go_sem]) | (refine gSym ?_; simp only [go_sem])
    | (refine cSplit (fun h => ?_) (fun h => ?_) <;> simp only [go_sem])
    | (with_reducible refine And.intro ?_ ?_; (focus (first | omega | (exact ⟨by omega, by omega⟩) | (simp; done) | (simp; omega)))))
  all_goals simp_all [newCredit]
def okWin (size most : Int) : Bool := inB most 1 4096 && inB size 1 most
def newWindow (size most : Int) : TWindow := if okWin size most then ⟨size, most, size, 0, 0, 0⟩ else ⟨0, 0, 0, 0, 0, 0⟩
set_option maxRecDepth 100000 in
theorem impl_NewWindow (s : Int) (m : Int) : PureCall Try.prog 179 [.one (.int .i64 s), .one (.int .i64 m)] [.agg [.int .i64 (newWindow s m).size, .int .i64 (newWindow s m).most, .int .i64 (newWindow s m).limit, .int .i64 (newWindow s m).seen, .int .i64 (newWindow s m).read, .int .i64 (newWindow s m).since], .one (.bool (okWin s m))] := by
  refine pure_ev Try.func179 rfl Try.call179 Try.checked.mixed [.d (.int .i64 s), .d (.int .i64 m), .junk, .junk, .junk, .junk, .junk, .junk, .junk, .junk, .junk, .junk, .junk, .junk, .junk, .junk, .junk, .junk, .junk, .junk] rfl [.cell 4 94, .tmp 5] rfl ?_
  intro _
  try simp only [go_sem]
  repeat' (first
    | (refine CallS.intro (by first | assumption | (apply impl_within <;> first | assumption | omega)) ?_; simp only [go_sem])
    | (refine CallK.intro (by first | assumption | (apply impl_within <;> first | assumption | omega)) ?_; simp only [go_sem])
    | (with_reducible refine gTrueS ?_; simp only [go_sem]) | (with_reducible refine gFalseS ?_; simp only [go_sem]) | (with_reducible refine gTrue ?_; simp only [go_sem]) | (with_reducible refine gFalse ?_; simp only [go_sem])
    | (refine gSymS ?_; simp only [go_sem]) | (refine gSym ?_; simp only [go_sem])
    | (refine cSplit (fun h => ?_) (fun h => ?_) <;> simp only [go_sem])
    | (with_reducible refine And.intro ?_ ?_; (focus (first | omega | (exact ⟨by omega, by omega⟩) | (simp; done) | (simp; omega)))))
  all_goals (cases h1 : inB m 1 4096 <;> cases h2 : inB s 1 m <;> simp_all [newWindow, okWin])
set_option maxRecDepth 100000 in
theorem spec_NewWindow (s : Int) (m : Int) : PureCall Try.prog 174 [.one (.int .i64 s), .one (.int .i64 m)] [.agg [.int .i64 (newWindow s m).size, .int .i64 (newWindow s m).most, .int .i64 (newWindow s m).limit, .int .i64 (newWindow s m).seen, .int .i64 (newWindow s m).read, .int .i64 (newWindow s m).since], .one (.bool (okWin s m))] := by
  refine pure_ev Try.func174 rfl Try.call174 Try.checked.mixed [.d (.int .i64 s), .d (.int .i64 m), .junk, .junk, .junk, .junk, .junk, .junk, .junk, .junk, .junk, .junk, .junk, .junk, .junk, .junk, .junk, .junk, .junk, .junk] rfl [.cell 4 94, .tmp 5] rfl ?_
  intro _
  try simp only [go_sem]
  repeat' (first
    | (refine CallS.intro (by first | assumption | (apply spec_l1In <;> first | assumption | omega)) ?_; simp only [go_sem])
    | (refine CallK.intro (by first | assumption | (apply spec_l1In <;> first | assumption | omega)) ?_; simp only [go_sem])
    | (with_reducible refine gTrueS ?_; simp only [go_sem]) | (with_reducible refine gFalseS ?_; simp only [go_sem]) | (with_reducible refine gTrue ?_; simp only [go_sem]) | (with_reducible refine gFalse ?_; simp only [go_sem])
    | (refine gSymS ?_; simp only [go_sem]) | (refine gSym ?_; simp only [go_sem])
    | (refine cSplit (fun h => ?_) (fun h => ?_) <;> simp only [go_sem])
    | (with_reducible refine And.intro ?_ ?_; (focus (first | omega | (exact ⟨by omega, by omega⟩) | (simp; done) | (simp; omega)))))
  all_goals (cases h1 : inB m 1 4096 <;> cases h2 : inB s 1 m <;> simp_all [newWindow, okWin])
def newCount (l : Int) : TCount := if inB l 0 1152921504606846976 then ⟨l, 0, -1⟩ else ⟨0, 0, 0⟩
set_option maxRecDepth 100000 in
theorem impl_NewCount (l : Int) : PureCall Try.prog 180 [.one (.int .i64 l)] [.agg [.int .i64 (newCount l).limit, .int .i64 (newCount l).opened, .int .i64 (newCount l).blocked], .one (.bool (inB l 0 1152921504606846976))] := by
  refine pure_ev Try.func180 rfl Try.call180 Try.checked.mixed [.d (.int .i64 l), .junk, .junk, .junk, .junk, .junk, .junk, .junk, .junk, .junk] rfl [.cell 2 95, .tmp 3] rfl ?_
  intro _
  try simp only [go_sem]
  repeat' (first
    | (refine CallS.intro (by first | assumption | (apply impl_within <;> first | assumption | omega)) ?_; simp only [go_sem])
    | (refine CallK.intro (by first | assumption | (apply impl_within <;> first | assumption | omega)) ?_; simp only [go_sem])
    | (with_reducible refine gTrueS ?_; simp only [go_sem]) | (with_reducible refine gFalseS ?_; simp only [go_sem]) | (with_reducible refine gTrue ?_; simp only [go_sem]) | (with_reducible refine gFalse ?_; simp only [go_sem])
    | (refine gSymS ?_; simp only [go_sem]) | (refine gSym ?_; simp only [go_sem])
    | (refine cSplit (fun h => ?_) (fun h => ?_) <;> simp only [go_sem])
    | (with_reducible refine And.intro ?_ ?_; (focus (first | omega | (exact ⟨by omega, by omega⟩) | (simp; done) | (simp; omega)))))
  all_goals simp_all [newCount]
set_option maxRecDepth 100000 in
theorem spec_NewCount (l : Int) : PureCall Try.prog 175 [.one (.int .i64 l)] [.agg [.int .i64 (newCount l).limit, .int .i64 (newCount l).opened, .int .i64 (newCount l).blocked], .one (.bool (inB l 0 1152921504606846976))] := by
  refine pure_ev Try.func175 rfl Try.call175 Try.checked.mixed [.d (.int .i64 l), .junk, .junk, .junk, .junk, .junk, .junk, .junk, .junk, .junk] rfl [.cell 2 95, .tmp 3] rfl ?_
  intro _
  try simp only [go_sem]
  repeat' (first
    | (refine CallS.intro (by first | assumption | (apply spec_l1In <;> first | assumption | omega)) ?_; simp only [go_sem])
    | (refine CallK.intro (by first | assumption | (apply spec_l1In <;> first | assumption | omega)) ?_; simp only [go_sem])
    | (with_reducible refine gTrueS ?_; simp only [go_sem]) | (with_reducible refine gFalseS ?_; simp only [go_sem]) | (with_reducible refine gTrue ?_; simp only [go_sem]) | (with_reducible refine gFalse ?_; simp only [go_sem])
    | (refine gSymS ?_; simp only [go_sem]) | (refine gSym ?_; simp only [go_sem])
    | (refine cSplit (fun h => ?_) (fun h => ?_) <;> simp only [go_sem])
    | (with_reducible refine And.intro ?_ ?_; (focus (first | omega | (exact ⟨by omega, by omega⟩) | (simp; done) | (simp; omega)))))
  all_goals simp_all [newCount]
def newAllow (m : Int) : TAllow := if inB m 0 1000 then ⟨m, m, 0, 0⟩ else ⟨0, 0, 0, 0⟩
set_option maxRecDepth 100000 in
theorem impl_NewAllow (m : Int) : PureCall Try.prog 181 [.one (.int .i64 m)] [.agg [.int .i64 (newAllow m).most, .int .i64 (newAllow m).limit, .int .i64 (newAllow m).seen, .int .i64 (newAllow m).closed], .one (.bool (inB m 0 1000))] := by
  refine pure_ev Try.func181 rfl Try.call181 Try.checked.mixed [.d (.int .i64 m), .junk, .junk, .junk, .junk, .junk, .junk, .junk, .junk, .junk, .junk] rfl [.cell 2 96, .tmp 3] rfl ?_
  intro _
  try simp only [go_sem]
  repeat' (first
    | (refine CallS.intro (by first | assumption | (apply impl_within <;> first | assumption | omega)) ?_; simp only [go_sem])
    | (refine CallK.intro (by first | assumption | (apply impl_within <;> first | assumption | omega)) ?_; simp only [go_sem])
    | (with_reducible refine gTrueS ?_; simp only [go_sem]) | (with_reducible refine gFalseS ?_; simp only [go_sem]) | (with_reducible refine gTrue ?_; simp only [go_sem]) | (with_reducible refine gFalse ?_; simp only [go_sem])
    | (refine gSymS ?_; simp only [go_sem]) | (refine gSym ?_; simp only [go_sem])
    | (refine cSplit (fun h => ?_) (fun h => ?_) <;> simp only [go_sem])
    | (with_reducible refine And.intro ?_ ?_; (focus (first | omega | (exact ⟨by omega, by omega⟩) | (simp; done) | (simp; omega)))))
  all_goals simp_all [newAllow]
set_option maxRecDepth 100000 in
theorem spec_NewAllow (m : Int) : PureCall Try.prog 176 [.one (.int .i64 m)] [.agg [.int .i64 (newAllow m).most, .int .i64 (newAllow m).limit, .int .i64 (newAllow m).seen, .int .i64 (newAllow m).closed], .one (.bool (inB m 0 1000))] := by
  refine pure_ev Try.func176 rfl Try.call176 Try.checked.mixed [.d (.int .i64 m), .junk, .junk, .junk, .junk, .junk, .junk, .junk, .junk, .junk, .junk] rfl [.cell 2 96, .tmp 3] rfl ?_
  intro _
  try simp only [go_sem]
  repeat' (first
    | (refine CallS.intro (by first | assumption | (apply spec_l1In <;> first | assumption | omega)) ?_; simp only [go_sem])
    | (refine CallK.intro (by first | assumption | (apply spec_l1In <;> first | assumption | omega)) ?_; simp only [go_sem])
    | (with_reducible refine gTrueS ?_; simp only [go_sem]) | (with_reducible refine gFalseS ?_; simp only [go_sem]) | (with_reducible refine gTrue ?_; simp only [go_sem]) | (with_reducible refine gFalse ?_; simp only [go_sem])
    | (refine gSymS ?_; simp only [go_sem]) | (refine gSym ?_; simp only [go_sem])
    | (refine cSplit (fun h => ?_) (fun h => ?_) <;> simp only [go_sem])
    | (with_reducible refine And.intro ?_ ?_; (focus (first | omega | (exact ⟨by omega, by omega⟩) | (simp; done) | (simp; omega)))))
  all_goals simp_all [newAllow]
end Gv
