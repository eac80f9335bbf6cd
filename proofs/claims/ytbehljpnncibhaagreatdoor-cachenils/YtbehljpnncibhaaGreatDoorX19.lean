/-
  A part of the proof of YtbehljpnncibhaaGreatDoor: for every input the law answers true (a machine over names of blocks, its soundness, and the run of the law). No condition beyond the given statement's.
-/
import Derived.Test.YtbehljpnncibhaaGreatDoorRows
import Derived.ProofKit
import Derived.Stop.Joined
import GoSem.ClaimSeven
set_option linter.unusedVariables false
set_option linter.unusedSimpArgs false
set_option linter.unusedSectionVars false
open Go
namespace Go.Proofs.YtbehljpnncibhaaGreatDoor
set_option maxRecDepth 100000
theorem fnamed : Tryz.pinned.checked.prog.funcNamed Rows.cacheNilsRow.func = some 3 := by kernel_rfl

theorem j0 : (Rows.cacheNilsRow.wf (OpenSpec.ofChange Rows.cacheNilsSpec)) = true := by kernel_rfl
theorem j1 : (laidOutB Tryz.pinned.checked.prog) = true := by kernel_rfl
theorem j2 : (mapsRowed Tryz.pinned.checked.prog) = true := by kernel_rfl
theorem j3 : (Go.Proofs.Tryz.f3.params.all (Tryz.pinned.checked.prog.readableRec ·)) = true := by kernel_rfl
theorem j4 : (namedTie Tryz.pinned.checked.prog Rows.cacheNilsRow.named Rows.cacheNilsSpec.vars) = true := by kernel_rfl
theorem j5 : ((Rows.cacheNilsRow.stops == [])) = true := by kernel_rfl
theorem j6 : ((Tryz.pinned.checked.prog.stops == [])) = true := by kernel_rfl
theorem j7 : ((Rows.cacheNilsRow.knobs == [])) = true := by kernel_rfl
theorem j8 : ((Tryz.pinned.checked.prog.stopKnobs == [])) = true := by kernel_rfl
theorem j9 : ((Rows.cacheNilsRow.inPlace == Tryz.pinned.checked.prog.inPlace 3)) = true := by kernel_rfl
theorem j10 : ((Rows.cacheNilsRow.unfollowed == Tryz.pinned.checked.prog.unfollowed 3)) = true := by kernel_rfl
theorem j11 : ((Rows.cacheNilsRow.recurses == Tryz.pinned.checked.prog.recurses 3)) = true := by kernel_rfl
theorem j12 : ((Rows.cacheNilsRow.named == Tryz.pinned.checked.prog.varsNamed 3)) = true := by kernel_rfl
theorem j13 : ((Rows.cacheNilsRow.maps == (Go.Proofs.Tryz.f3.params.toList ++ Rows.cacheNilsSpec.plain.varTypes Tryz.pinned.checked.prog).any (Tryz.pinned.checked.prog.mapsRec ·))) = true := by kernel_rfl
theorem j14 : ((Rows.cacheNilsRow.ifaces == (Go.Proofs.Tryz.f3.params.toList ++ Rows.cacheNilsSpec.plain.varTypes Tryz.pinned.checked.prog).any (Tryz.pinned.checked.prog.ifacesRec ·))) = true := by kernel_rfl
theorem j15 : ((Rows.cacheNilsRow.mapsOut == Tryz.pinned.checked.prog.mapsAmong Go.Proofs.Tryz.f3.resultTypes.toList)) = true := by kernel_rfl
theorem j16 : ((Rows.cacheNilsRow.loops == (Go.Proofs.Tryz.f3.params.toList ++ Rows.cacheNilsSpec.plain.varTypes Tryz.pinned.checked.prog).any (Tryz.pinned.checked.prog.loopsFrom ·))) = true := by kernel_rfl
theorem j17 : ((Rows.cacheNilsRow.wideKeys == (Go.Proofs.Tryz.f3.params.toList ++ Rows.cacheNilsSpec.plain.varTypes Tryz.pinned.checked.prog ++ Go.Proofs.Tryz.f3.resultTypes.toList).any (Tryz.pinned.checked.prog.wideKeysFrom ·))) = true := by kernel_rfl
theorem j18 : (Rows.cacheNilsSpec.vars.all (Tryz.pinned.checked.prog.varReadable ·)) = true := by kernel_rfl
theorem j19 : (Go.Proofs.Tryz.f3.resultTypes.all (fun t => Tryz.pinned.checked.prog.readableRec t && decide (t < Tryz.pinned.checked.prog.types.size))) = true := by kernel_rfl
theorem j20 : ((Rows.cacheNilsRow.ifacesOut == Go.Proofs.Tryz.f3.resultTypes.toList.any (Tryz.pinned.checked.prog.ifacesRec ·))) = true := by kernel_rfl
theorem j21 : ((Rows.cacheNilsRow.loopsOut == Go.Proofs.Tryz.f3.resultTypes.toList.any (Tryz.pinned.checked.prog.loopsFrom ·))) = true := by kernel_rfl
theorem j22 : ((Rows.cacheNilsRow.plainKeys == Tryz.pinned.checked.prog.plainKeys)) = true := by kernel_rfl
theorem j23 : (Rows.cacheNilsRow.shortTexts.isNone) = true := by kernel_rfl
theorem j24 : (Tryz.pinned.checked.prog.stopsHeard) = true := by kernel_rfl
theorem j25 : (Tryz.pinned.checked.prog.mayEnter) = true := by kernel_rfl
theorem j26 : ((Rows.cacheNilsRow.lifted == Tryz.pinned.checked.prog.liftsFinal)) = true := by kernel_rfl
theorem j27 : ((Tryz.pinned.checked.prog.make == some Rows.cacheNilsRow.make)) = true := by kernel_rfl
theorem j28 : ((Rows.cacheNilsRow.kinds == (if Rows.cacheNilsRow.domain.isEmpty then [] else Go.Proofs.Tryz.f3.params.toList.map fun t => match Tryz.pinned.checked.prog.underlying t with | some (.int k) => some k | _ => none))) = true := by kernel_rfl
theorem j29 : ((Rows.cacheNilsRow.pinned == Rows.cacheNilsRow.pinnedBy)) = true := by kernel_rfl
theorem j30 : ((Rows.cacheNilsRow.veiled == (Go.Proofs.Tryz.f3.params.toList ++ Rows.cacheNilsSpec.plain.varTypes Tryz.pinned.checked.prog ++ Go.Proofs.Tryz.f3.resultTypes.toList).any (Tryz.pinned.checked.prog.veiledRec ·))) = true := by kernel_rfl
theorem j31 : (Rows.cacheNilsRow.veiledFits Tryz.pinned.checked.prog Go.Proofs.Tryz.f3.params.toList (Go.Proofs.Tryz.f3.params.toList ++ Rows.cacheNilsSpec.plain.varTypes Tryz.pinned.checked.prog ++ Go.Proofs.Tryz.f3.resultTypes.toList)) = true := by kernel_rfl
theorem andT {a b : Bool} (h : a = true) (h2 : b = true) : (a && b) = true := by rw [h, h2]; rfl
theorem jfacts : joinedFacts Tryz.pinned.checked.prog 3 Go.Proofs.Tryz.f3 Rows.cacheNilsSpec Rows.cacheNilsRow = true := (andT (andT (andT (andT (andT (andT (andT (andT (andT (andT (andT (andT (andT (andT (andT (andT (andT (andT (andT (andT (andT (andT (andT (andT (andT (andT (andT (andT (andT (andT (andT j0 j1) j2) j3) j4) j5) j6) j7) j8) j9) j10) j11) j12) j13) j14) j15) j16) j17) j18) j19) j20) j21) j22) j23) j24) j25) j26) j27) j28) j29) j30) j31)
theorem finst : Go.Proofs.Tryz.f3.isInstance Tryz.pinned.checked.prog Rows.cacheNilsRow.origin Rows.cacheNilsRow.targs := of_decide_eq_true (by kernel_rfl)
theorem fwrap : Go.Proofs.Tryz.f3.isWrapper Tryz.pinned.checked.prog Rows.cacheNilsRow.wrapper Rows.cacheNilsRow.mainSum := by unfold Func.isWrapper; rw [if_neg (of_decide_eq_false (by kernel_rfl))]; exact ⟨rfl, rfl⟩
theorem cwf : Rows.cacheNilsRow.wfByText (OpenSpec.ofChange Rows.cacheNilsSpec) = true := by kernel_rfl
theorem cmain : Tryz.pinned.checked.prog.mainIs = some (true, "feadfa72ab2e2b12f132485ba07561bd9c582d41e3551e501bc1a55cff14105a".toList) := by kernel_rfl
theorem clooks : true = Tryz.pinned.checked.prog.looks [] := by kernel_rfl
theorem noGo : Tryz.pinned.checked.prog.funcs.any Func.goes = false := by kernel_rfl
theorem cgoes : false = Rows.cacheNilsRow.goesBy Tryz.pinned.checked.prog := by
  have hs : Rows.cacheNilsRow.start = .entering := rfl
  have hn := noGo
  unfold OpenClaim.goesBy Program.goesAt Program.goesFrom
  rw [hs]
  generalize Tryz.pinned.checked.prog = P at hn ⊢
  have h1 : ∀ g : Nat, (P.funcs[g]?).any Func.goes = false := fun g => by
    cases hg : P.funcs[g]? with
    | none => rfl
    | some fn =>
      have := Array.any_eq_false.1 hn
      obtain ⟨hl, rfl⟩ := Array.getElem?_eq_some_iff.1 hg
      exact Bool.eq_false_iff.2 (this g hl)
  have h2 : ∀ f, P.goes f = false := fun f => by
    unfold Program.goes
    rw [hn, Bool.and_false, Bool.or_false]
    apply Bool.eq_false_iff.2
    intro h
    simp [h1] at h
  cases P.funcNamed Rows.cacheNilsRow.func with
  | none => rfl
  | some f => simp [h2]
theorem cfn : Tryz.prog.funcNamed "pumice/pumicelaw19.CacheNils" = some 3 := by kernel_rfl
theorem st9 : Tryz.pinned.checked.prog.wantsStandIn 9 = false := by kernel_rfl
theorem st22 : Tryz.pinned.checked.prog.wantsStandIn 22 = false := by kernel_rfl
theorem st3 : Tryz.pinned.checked.prog.wantsStandIn 3 = false := by kernel_rfl
end Go.Proofs.YtbehljpnncibhaaGreatDoor
