/-
  A part of the proof of YtelddmmkaofiaaaGreatDoor: for every input the law answers true (a machine over names of blocks, its soundness, and the run of the law). No condition beyond the given statement's.
-/
import Derived.Test.YtelddmmkaofiaaaGreatDoorX18
import Derived.Test.YtelddmmkaofiaaaGreatDoorX13
set_option linter.unusedVariables false
set_option linter.unusedSimpArgs false
set_option linter.unusedSectionVars false
open Go Go.Abm
set_option maxRecDepth 100000
namespace Go.Abm.Seat
noncomputable section
/-- Memory as the law begins: errors.errorType, header's errNone, and its text. -/
def M0 : AM := ⟨((Tr.leaf.set 0 (some (.cells [.ifc 245 (.agg [.ptr 6 118])] true false))).set 1 (some (.cells [.ifc 471 (.ptr 11 0)] true false))).set 11 (some (.cells [.str [110, 111, 32, 105, 109, 97, 103, 101]] true false)), 100⟩
def opAV (k i t : Int) (n o x : List Nat) (a b c d e f g h m : Int) : AV := .agg [.int .i64 k, .int .i64 i, .int .i64 t, .str n, .str o, .str x, .int .i64 a, .int .i64 b, .int .i64 c, .int .i64 d, .int .i64 e, .int .i64 f, .int .i64 g, .int .i64 h, .int .i64 m]
def runLog (k i t : Int) (n o x : List Nat) (a b c d e f g h m : Int) : Log := [
  (.int .i64 i, .int .i64 i),
  (.agg [.int .i64 a, .int .i64 b, .int .i64 c, .int .i64 d, .int .i64 e, .int .i64 f, .int .i64 g], .agg [.int .i64 a, .int .i64 b, .int .i64 c, .int .i64 d, .int .i64 e, .int .i64 f, .int .i64 g]),
  (.int .i64 m, .int .i64 m),
  (.int .i64 i, .int .i64 i),
  (.str n, .str n),
  (.int .i64 t, .int .i64 t),
  (.int .i64 i, .int .i64 i),
  (.int .i64 i, .int .i64 i),
  (.agg [.int .i64 a, .int .i64 b, .int .i64 c, .int .i64 d, .int .i64 e, .int .i64 f, .int .i64 g], .agg [.int .i64 a, .int .i64 b, .int .i64 c, .int .i64 d, .int .i64 e, .int .i64 f, .int .i64 g]),
  (.int .i64 m, .int .i64 m),
  (.int .i64 i, .int .i64 i),
  (.int .i64 i, .int .i64 i),
  (.agg [.int .i64 a, .int .i64 b, .int .i64 c, .int .i64 d, .int .i64 e, .int .i64 f, .int .i64 g], .agg [.int .i64 a, .int .i64 b, .int .i64 c, .int .i64 d, .int .i64 e, .int .i64 f, .int .i64 g]),
  (.int .i64 i, .int .i64 i),
  (.int .i64 i, .int .i64 i),
  (.agg [.int .i64 a, .int .i64 b, .int .i64 c, .int .i64 d, .int .i64 e, .int .i64 f, .int .i64 g], .agg [.int .i64 a, .int .i64 b, .int .i64 c, .int .i64 d, .int .i64 e, .int .i64 f, .int .i64 g]),
  (.int .i64 m, .int .i64 m),
  (.int .i64 i, .int .i64 i),
  (.str n, .str n),
  (.int .i64 t, .int .i64 t),
  (.int .i64 i, .int .i64 i),
  (.int .i64 i, .int .i64 i),
  (.agg [.int .i64 a, .int .i64 b, .int .i64 c, .int .i64 d, .int .i64 e, .int .i64 f, .int .i64 g], .agg [.int .i64 a, .int .i64 b, .int .i64 c, .int .i64 d, .int .i64 e, .int .i64 f, .int .i64 g]),
  (.int .i64 m, .int .i64 m),
  (.int .i64 i, .int .i64 i),
  (.int .i64 i, .int .i64 i),
  (.agg [.int .i64 a, .int .i64 b, .int .i64 c, .int .i64 d, .int .i64 e, .int .i64 f, .int .i64 g], .agg [.int .i64 a, .int .i64 b, .int .i64 c, .int .i64 d, .int .i64 e, .int .i64 f, .int .i64 g]),
  (.int .i64 i, .int .i64 i)]
theorem run_eq (k i t : Int) (n o x : List Nat) (a b c d e f g h m : Int) : callL E3 100000 100 3 [opAV k i t n o x a b c d e f g h m] M0 = some (.bool true, runLog k i t n o x a b c d e f g h m) := by kernel_rfl
theorem ieqSelf (k : Int) : ieqF k k = true := by rw [ieqF_eq]; exact beq_self_eq_true k
theorem natsSelf : ∀ l : List Nat, natsBeq l l = true
  | [] => rfl
  | a :: l => by
    unfold natsBeq
    rw [natsSelf l, Nat.beq_refl]
    rfl
theorem intSelf (k : Int) : avBeq 8 (.int .i64 k) (.int .i64 k) = true := by
  show (kindBeq .i64 .i64 && ieqF k k) = true
  rw [ieqSelf]; rfl
theorem strSelf (l : List Nat) : avBeq 8 (.str l) (.str l) = true := natsSelf l
theorem aggSelf (a b c d e f g : Int) : avBeq 8 (.agg [.int .i64 a, .int .i64 b, .int .i64 c, .int .i64 d, .int .i64 e, .int .i64 f, .int .i64 g]) (.agg [.int .i64 a, .int .i64 b, .int .i64 c, .int .i64 d, .int .i64 e, .int .i64 f, .int .i64 g]) = true := by
  have h (k : Int) : avBeq 7 (.int .i64 k) (.int .i64 k) = true := by
    show (kindBeq .i64 .i64 && ieqF k k) = true
    rw [ieqSelf]; rfl
  show listBeq (avBeq 7) _ _ = true
  simp only [listBeq, h, Bool.and_true, Bool.true_and, cond_true]
theorem LogOk.nil : LogOk [] := fun _ h => by cases h
theorem LogOk.cons {a b : AV} {l : Log} (h : avBeq 8 a b = true) (hl : LogOk l) : LogOk ((a, b) :: l) := fun p hp => by
  rcases List.mem_cons.1 hp with rfl | hp
  · exact h
  · exact hl p hp
theorem log_ok (k i t : Int) (n o x : List Nat) (a b c d e f g h m : Int) : LogOk (runLog k i t n o x a b c d e f g h m) := by
  unfold runLog
  repeat (first | exact LogOk.nil | refine LogOk.cons (intSelf _) ?_ | refine LogOk.cons (strSelf _) ?_ | refine LogOk.cons (aggSelf _ _ _ _ _ _ _) ?_)
theorem law_run (k i t : Int) (n o x : List Nat) (a b c d e f g h m : Int) : ∃ z M', evalCall E3 (recN E3 z) 3 [opAV k i t n o x a b c d e f g h m] M0 = some (.ret (.bool true), M') :=
  callL_ok (run_eq k i t n o x a b c d e f g h m) (log_ok k i t n o x a b c d e f g h m)
end
end Go.Abm.Seat
