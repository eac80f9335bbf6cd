/-
  A part of the proof that pumicelaw17.StoreOpens returns true for every geometry, key, number and group (a machine over names of blocks, its soundness, the calls of the store for any geometry, the chapter's example as a run). Condition: the listed package variables hold what the program's text lays; the card ties that.
-/
import Derived.Test.YtcfpoldckjmbdaaGreatDoorX33
import Derived.Test.YtcfpoldckjmbdaaGreatDoorX34
import Derived.Test.YtcfpoldckjmbdaaGreatDoorX35
set_option linter.unusedVariables false
set_option linter.unusedSimpArgs false
set_option linter.unusedSectionVars false
open Go Go.Abm
set_option maxRecDepth 100000
namespace Go.Abm.Seat
noncomputable section
def sOr (f : Nat) (s : Sum) : Sum := fun args M => match s args M with
  | some r => some r
  | none => match evalCall (mkL l2) (recN (mkL l2) 100000) f args M with
    | some (.ret v, M') => some (v, M')
    | _ => none
theorem at_or {f : Nat} {s : Sum} (h : BAt f s) : BAt f (sOr f s) := by
  obtain ⟨fn, c, h1, h2, h3⟩ := h
  refine ⟨fn, c, h1, h2, fun B args M v M' hr => ?_⟩
  unfold sOr at hr
  split at hr
  · rename_i r hs
    cases hr
    exact h3 B args M v M' hs
  · split at hr
    · rename_i v0 M0 he
      cases hr
      exact (eval_ok (envL l2) (sumsXL good2) (sumsFL good2) he B).env rfl
    · cases hr
theorem at1 : BAt 8 qs1 := ⟨_, _, Go.Proofs.Tryz.func8, rfl, fun B _ _ _ _ h => sLoc_run rfl (litRun_run (envL l2) (sumsXL good2) (sumsFL good2) run1) qok1 h B⟩
theorem at2 : BAt 10 qs2 := ⟨_, _, Go.Proofs.Tryz.func10, rfl, fun B _ _ _ _ h => sLoc_run rfl (litRun_run (envL l2) (sumsXL good2) (sumsFL good2) run2) qok2 h B⟩
theorem at3 : BAt 37 qs3 := ⟨_, _, Go.Proofs.Tryz.func37, rfl, fun B _ _ _ _ h => sLoc_run rfl (litRun_run (envL l2) (sumsXL good2) (sumsFL good2) run3) qok3 h B⟩
theorem at4 : BAt 119 qs4 := ⟨_, _, Go.Proofs.Tryz.func119, rfl, fun B _ _ _ _ h => sLoc_run rfl (litRunN_run (envL l2) (sumsXL good2) (sumsFL good2) run4) qok4 h B⟩
theorem at5 : BAt 25 qs5 := ⟨_, _, Go.Proofs.Tryz.func25, rfl, fun B _ _ _ _ h => sLoc_run rfl (litRunN_run (envL l2) (sumsXL good2) (sumsFL good2) run5) qok5 h B⟩
def l3 : List (Nat × Sum) := (8, qs1) :: (10, sOr 10 qs2) :: (37, qs3) :: (119, qs4) :: (25, sOr 25 qs5) :: l2
theorem good3 : ∀ x ∈ l3, Good x := good_cons (Or.inr at1) (good_cons (Or.inr (at_or at2)) (good_cons (Or.inr at3) (good_cons (Or.inr at4) (good_cons (Or.inr (at_or at5)) good2))))
def LQ : List Qe := [(1, .cells [.ifc 480 (.ptr 11 0)] true false), (11, .cells [.str [110, 111, 32, 105, 109, 97, 103, 101]] true false)]
theorem runA : litRun (mkL l3) 100000 17 [] LQ 100 (.bool true) [] 8250 = true := by kernel_rfl
end
end Go.Abm.Seat
