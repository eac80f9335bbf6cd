/-
  A part of the proof that pumicelaw17.StoreOpens returns true for every geometry, key, number and group (a machine over names of blocks, its soundness, the calls of the store for any geometry, the chapter's example as a run). Condition: the listed package variables hold what the program's text lays; the card ties that.
-/
import Derived.Test.YtcfpoldckjmbdaaGreatDoorX36
import Derived.Test.YtcfpoldckjmbdaaGreatDoorX30
set_option linter.unusedVariables false
set_option linter.unusedSimpArgs false
set_option linter.unusedSectionVars false
open Go Go.Abm
set_option maxRecDepth 100000
namespace Go.Abm.Seat
noncomputable section
def o1 : AObj := .cells [.ifc 480 (.ptr 11 0)] true false
def o11 : AObj := .cells [.str [110, 111, 32, 105, 109, 97, 103, 101]] true false
def sAlive : Sum := fun args M => match args with
  | [] => bif agreeL M LQ && Nat.blt 11 M.nx then some (.bool true, M) else none
  | _ => none
theorem alive_at (hr : ∀ B, RunF P (mkL []) B 17 [] (litM LQ 100) (.ret (.bool true)) (litM [] 8250)) {M : AM} (hM : agreeL M LQ = true) (hn : 11 < M.nx) (B : Bd) : RunF P (mkL []) B 17 [] M (.ret (.bool true)) M := by
  intro ι w args' hR hG hv cs
  have h1 : M.get 1 = some o1 := agreeL_mem LQ hM _ (List.mem_cons_self)
  have h11 : M.get 11 = some o11 := agreeL_mem LQ hM _ (List.mem_cons_of_mem _ List.mem_cons_self)
  let ι0 : Ren := fun j => if j ≤ 11 then ι j else none
  have i0 : ∀ j, j ≤ 11 → ι0 j = ι j := fun j hj => if_pos hj
  have hget : ∀ id o, (litM LQ 100).get id = some o → (id = 1 ∧ o = o1) ∨ (id = 11 ∧ o = o11) := by
    intro id o h
    rcases litT_get LQ .leaf id o h with h | h
    · rcases List.mem_cons.1 h with h | h
      · cases h; exact Or.inl ⟨rfl, rfl⟩
      · rcases List.mem_cons.1 h with h | h
        · cases h; exact Or.inr ⟨rfl, rfl⟩
        · cases h
    · cases h
  have hR0 : Rel ⟨fun b => b < w.heap.size, fun _ => False⟩ ι0 (litM LQ 100) w := by
    refine ⟨?_, ?_, ?_, fun _ h => h, fun _ h => h.elim⟩
    · intro id o cb base room hg hi
      rcases hget id o hg with ⟨rfl, rfl⟩ | ⟨rfl, rfl⟩
      · rw [i0 1 (by omega)] at hi
        obtain ⟨⟨c, e, fr, k1, k2, k3, k4, k5⟩, _⟩ := hR.obj 1 o1 cb base room h1 hi
        refine ⟨⟨c, e, fr, k1, k2, k3, fun i v hiv => ?_, k5⟩, fun h => by cases h⟩
        obtain ⟨v', e1, e2⟩ := k4 i v hiv
        refine ⟨v', e1, ?_⟩
        rcases i with _ | i
        · simp only [List.getElem?_cons_zero, Option.some.injEq] at hiv
          subst hiv
          cases e2 with
          | ifc e3 =>
            cases e3 with
            | ptr hb => exact .ifc (.ptr ((i0 11 (by omega)).trans hb))
        · simp at hiv
      · rw [i0 11 (by omega)] at hi
        obtain ⟨⟨c, e, fr, k1, k2, k3, k4, k5⟩, _⟩ := hR.obj 11 o11 cb base room h11 hi
        refine ⟨⟨c, e, fr, k1, k2, k3, fun i v hiv => ?_, k5⟩, fun h => by cases h⟩
        obtain ⟨v', e1, e2⟩ := k4 i v hiv
        refine ⟨v', e1, ?_⟩
        rcases i with _ | i
        · simp only [List.getElem?_cons_zero, Option.some.injEq] at hiv
          subst hiv
          generalize hq : AV.str [110, 111, 32, 105, 109, 97, 103, 101] = q at e2
          cases e2 <;> first | cases hq | skip
          rename_i s
          exact .str s
        · simp at hiv
    · intro i j o o' p p' hne g1 g2 i1 i2
      have up : ∀ id o, (litM LQ 100).get id = some o → id ≤ 11 ∧ M.get id = some o := by
        intro id o hg
        rcases hget id o hg with ⟨rfl, rfl⟩ | ⟨rfl, rfl⟩
        · exact ⟨by omega, h1⟩
        · exact ⟨by omega, h11⟩
      obtain ⟨a1, a2⟩ := up _ _ g1
      obtain ⟨b1, b2⟩ := up _ _ g2
      rw [i0 _ a1] at i1
      rw [i0 _ b1] at i2
      exact hR.inj i j o o' p p' hne a2 b2 i1 i2
    · intro id hid
      have hid : 100 ≤ id := hid
      refine ⟨?_, if_neg (by omega)⟩
      cases hg : (litM LQ 100).get id with
      | none => rfl
      | some o => rcases hget id o hg with ⟨rfl, _⟩ | ⟨rfl, _⟩ <;> omega
  have hG0 : Glob (mkL []) ι0 := fun g hg => by
    have hg' : g ≤ 10 := hg
    rw [i0 g (by omega)]
    exact hG g hg
  obtain ⟨ι', w', fr, hpo, hfn, v', hv', hs, hl⟩ := hr ⟨fun b => b < w.heap.size, fun _ => False⟩ ι0 w args' hR0 hG0 (by
    have : args'.toList = [] := by
      have h := hv.1
      simpa using h.symm
    rw [this]; exact VRs.nil) cs
  cases hv'
  refine ⟨ι, w', fr, ⟨Ren.le_refl _, ⟨?_, hR.inj, hR.fresh, fun b hb => Nat.lt_of_lt_of_le (hR.below b hb) hpo.fr.size, hR.ghost⟩, ⟨fun b hb => hpo.fr.heap b (hR.below b hb), hpo.fr.size, hpo.fr.os, hpo.fr.out, hpo.fr.tape⟩⟩, hfn, _, .bool true, hs, hl⟩
  intro id o cb base room hg hi
  have h := hR.obj id o cb base room hg hi
  exact ⟨h.1.mono (Ren.le_refl _) (hpo.fr.heap cb h.1.lt), h.2⟩
theorem at_alive : BAt 17 sAlive := ⟨_, _, Go.Proofs.Tryz.func17, rfl, fun B args M v M' h => by
  unfold sAlive at h
  split at h
  · obtain ⟨h1, h2⟩ := cond_some_inv h
    obtain ⟨h1, h3⟩ := and_inv h1
    cases h2
    exact alive_at (fun B => (litRun_run (envL l3) (sumsXL good3) (sumsFL good3) runA B).env rfl) h1 (blt_of h3) B
  · cases h⟩
def l4 : List (Nat × Sum) := (17, sAlive) :: l1
theorem good4 : ∀ x ∈ l4, Good x := good_cons (Or.inr at_alive) good1
theorem ns4 : NS (mkL l4) := fun f hf => get_fold_none l4 .leaf f (fun x hx e => by
  have h : (l4.all fun x => !symB x.1) = true := by decide
  have := List.all_eq_true.1 h x hx
  rw [← e, hf] at this
  cases this) rfl
theorem rs4 : RS (mkL l4) := ⟨rfl, rfl, rfl⟩
theorem mC4 : amethod (mkL l4) tR (hdS (mkL l4)) "Comparable" = some (393, hdS (mkL l4)) := by kernel_rfl
theorem mU4 (k : Nat) : amethod (mkL l4) tK (.ptr k 0) "Unwrap" = some (403, .ptr k 0) := by kernel_rfl
theorem taI4 (k : Nat) : atypeAssert (mkL l4) (.ifc tK (.ptr k 0)) 392 true = some (.tup [.nili, .bool false]) := by kernel_rfl
theorem taU4 (k : Nat) : atypeAssert (mkL l4) (.ifc tK (.ptr k 0)) 364 true = some (.tup [.ifc tK (.ptr k 0), .bool true]) := by kernel_rfl
theorem ne4 (M : AM) (x y : AV) : aeq (mkL l4) M 8 63 (.ifc tK x) (.ifc tS y) = some false := by kernel_rfl
theorem eq4' (M : AM) (b : Nat) : aeq (mkL l4) M 8 63 (.ifc tS (.ptr b 0)) (.ifc tS (.ptr b 0)) = (bif Nat.beq b b then some true else bif M.plainCells b && M.plainCells b then some false else none) := by kernel_rfl
theorem fx4 : FX (mkL l4) := ⟨⟨xT, rfl, fun _ _ => rfl⟩, ⟨xC, rfl, fun _ => rfl⟩, mC4, mU4, taI4, taU4, ne4, fun M b => by rw [eq4', nbeq_true rfl]; rfl, rfl⟩
theorem agreeQ {M : AM} (h1 : M.get 1 = some o1) (h11 : M.get 11 = some o11) : agreeL M LQ = true := by
  have e1 : objBeq o1 o1 = true := by decide +kernel
  have e2 : objBeq o11 o11 = true := by decide +kernel
  show (match M.get 1 with | some o => bif objBeq o o1 then agreeL M [(11, o11)] else false | none => false) = true
  rw [h1]
  show (bif objBeq o1 o1 then agreeL M [(11, o11)] else false) = true
  rw [e1]
  show (match M.get 11 with | some o => bif objBeq o o11 then true else false | none => false) = true
  rw [h11]
  show (bif objBeq o11 o11 then true else false) = true
  rw [e2]; rfl
def M0 : AM := litM LQ 100
theorem law_run (a b c d n : Int) (k : List Nat) (v : AV) : ∃ z M', evalCall (mkL l4) (recN (mkL l4) z) 3 [.agg [.int .i64 a, .int .i64 b, .int .i64 c, .int .i64 d], .str k, .int .i64 n, v] M0 = some (.ret (.bool true), M') := by
  have h : CallsTo (mkL l4) 3 [.agg [.int .i64 a, .int .i64 b, .int .i64 c, .int .i64 d], .str k, .int .i64 n, v] M0 (fun e _ => e = .ret (.bool true)) :=
    law_ok (factsL l4) ns4 fx4 rs4 (e := 11) (ro := true) (fz0 := false) (oe := o11) (fun M Q h1 h11 hn hQ => call_sum (mkE_func Go.Proofs.Tryz.func17) rfl (show (mkL l4).sums 17 = some sAlive from rfl) (by
      show (bif agreeL M LQ && Nat.blt 11 M.nx then some (AV.bool true, M) else none) = some (.bool true, M)
      rw [agreeQ h1 h11, blt_t hn]; rfl) (hQ M (Same.refl M))) rfl rfl (by decide) (by decide) (by decide) a b c d n k v _ (fun _ => rfl)
  obtain ⟨m, e, M', h1, rfl⟩ := h
  exact ⟨m, M', h1⟩
end
end Go.Abm.Seat
