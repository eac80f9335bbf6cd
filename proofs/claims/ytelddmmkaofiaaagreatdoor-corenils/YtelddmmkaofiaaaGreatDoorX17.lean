/-
  A part of the proof of YtelddmmkaofiaaaGreatDoor: for every input the law answers true (a machine over names of blocks, its soundness, and the run of the law). No condition beyond the given statement's.
-/
import Derived.Test.YtelddmmkaofiaaaGreatDoorX15
import Derived.Test.YtelddmmkaofiaaaGreatDoorX16
set_option linter.unusedVariables false
set_option linter.unusedSimpArgs false
set_option linter.unusedSectionVars false
open Go Go.Abm
set_option maxRecDepth 100000
namespace Go.Abm.Seat
noncomputable section
def tabL : List (Nat × Sum) := [(127, xT), (360, xC), (361, xEl), (362, xIm), (359, xAs), (341, xKi), (89, xVal), (90, xVT), (91, xNil), (128, xVE), (129, xSet), (268, xIB)]
def tab0 : Tr Sum := tabL.foldl (fun t x => t.set x.1 (some x.2)) .leaf
def tab1 : Tr Sum := ((tab0.set 242 (some sSum)).set 158 (some sRead)).set 285 (some sFill)
def E0 : Env := mkE P 6 (fun _ => false) fun f => tab0.get f
def E1 : Env := mkE P 6 (fun _ => false) fun f => tab1.get f
theorem names_ok : P.funcs.toList.all nameOk = true := by kernel_rfl
theorem zeros_ok : P.types.toList.all zOk = true := by kernel_rfl
theorem env0 : EnvOk P E0 := envOk names_ok (by kernel_rfl) zeros_ok
theorem env1 : EnvOk P E1 := envOk names_ok (by kernel_rfl) zeros_ok
def XAt (f : Nat) (s : Sum) : Prop := ∃ fn e, P.funcs[f]? = some fn ∧ fn.body = none ∧ (∀ (args : Array Value) (w : World), (callFunc f args).run P w = ((e args).run P w).andThen fun v w' => .ok (.value v) w') ∧ XOk s e
theorem at_xT : XAt 127 xT := ⟨_, eT, Go.Proofs.Tryz.func127, rfl, @run_callFunc_extern P 127 _ eT Go.Proofs.Tryz.func127 (by kernel_rfl) (by kernel_rfl) (by kernel_rfl) (by kernel_rfl), xT_ok⟩
theorem at_xC : XAt 360 xC := ⟨_, eC, Go.Proofs.Tryz.func360, rfl, @run_callFunc_extern P 360 _ eC Go.Proofs.Tryz.func360 (by kernel_rfl) (by kernel_rfl) (by kernel_rfl) (by kernel_rfl), xC_ok⟩
theorem at_xEl : XAt 361 xEl := ⟨_, eEl, Go.Proofs.Tryz.func361, rfl, @run_callFunc_extern P 361 _ eEl Go.Proofs.Tryz.func361 (by kernel_rfl) (by kernel_rfl) (by kernel_rfl) (by kernel_rfl), xEl_ok⟩
theorem at_xIm : XAt 362 xIm := ⟨_, eIm, Go.Proofs.Tryz.func362, rfl, @run_callFunc_extern P 362 _ eIm Go.Proofs.Tryz.func362 (by kernel_rfl) (by kernel_rfl) (by kernel_rfl) (by kernel_rfl), xIm_ok⟩
theorem at_xAs : XAt 359 xAs := ⟨_, eAs, Go.Proofs.Tryz.func359, rfl, @run_callFunc_extern P 359 _ eAs Go.Proofs.Tryz.func359 (by kernel_rfl) (by kernel_rfl) (by kernel_rfl) (by kernel_rfl), xAs_ok⟩
theorem at_xKi : XAt 341 xKi := ⟨_, eKi, Go.Proofs.Tryz.func341, rfl, @run_callFunc_extern P 341 _ eKi Go.Proofs.Tryz.func341 (by kernel_rfl) (by kernel_rfl) (by kernel_rfl) (by kernel_rfl), xKi_ok⟩
theorem at_xVal : XAt 89 xVal := ⟨_, eVal, Go.Proofs.Tryz.func89, rfl, @run_callFunc_extern P 89 _ eVal Go.Proofs.Tryz.func89 (by kernel_rfl) (by kernel_rfl) (by kernel_rfl) (by kernel_rfl), xVal_ok⟩
theorem at_xVT : XAt 90 xVT := ⟨_, eVT, Go.Proofs.Tryz.func90, rfl, @run_callFunc_extern P 90 _ eVT Go.Proofs.Tryz.func90 (by kernel_rfl) (by kernel_rfl) (by kernel_rfl) (by kernel_rfl), xVT_ok⟩
theorem at_xNil : XAt 91 xNil := ⟨_, eNil, Go.Proofs.Tryz.func91, rfl, @run_callFunc_extern P 91 _ eNil Go.Proofs.Tryz.func91 (by kernel_rfl) (by kernel_rfl) (by kernel_rfl) (by kernel_rfl), xNil_ok⟩
theorem at_xVE : XAt 128 xVE := ⟨_, eVE, Go.Proofs.Tryz.func128, rfl, @run_callFunc_extern P 128 _ eVE Go.Proofs.Tryz.func128 (by kernel_rfl) (by kernel_rfl) (by kernel_rfl) (by kernel_rfl), xVE_ok⟩
theorem at_xSet : XAt 129 xSet := ⟨_, eSet, Go.Proofs.Tryz.func129, rfl, @run_callFunc_extern P 129 _ eSet Go.Proofs.Tryz.func129 (by kernel_rfl) (by kernel_rfl) (by kernel_rfl) (by kernel_rfl), xSet_ok⟩
theorem at_xIB : XAt 268 xIB := ⟨_, eIB, Go.Proofs.Tryz.func268, rfl, @run_callFunc_extern P 268 _ eIB Go.Proofs.Tryz.func268 (by kernel_rfl) (by kernel_rfl) (by kernel_rfl) (by kernel_rfl), xIB_ok⟩
theorem get_fold : ∀ (l : List (Nat × Sum)) (t : Tr Sum) (f : Nat) (s : Sum), (l.foldl (fun t x => t.set x.1 (some x.2)) t).get f = some s → (f, s) ∈ l ∨ t.get f = some s
  | [], _, _, _, h => Or.inr h
  | x :: l, t, f, s, h => by
    rcases get_fold l (t.set x.1 (some x.2)) f s h with h1 | h1
    · exact Or.inl (List.mem_cons_of_mem _ h1)
    · rw [Tr.get_set] at h1
      split at h1
      · rename_i e
        cases h1
        exact Or.inl (by rw [e]; exact List.mem_cons_self)
      · exact Or.inr h1
theorem get_fold_none : ∀ (l : List (Nat × Sum)) (t : Tr Sum) (f : Nat), (∀ x ∈ l, f ≠ x.1) → t.get f = none → (l.foldl (fun t x => t.set x.1 (some x.2)) t).get f = none
  | [], _, _, _, h => h
  | x :: l, t, f, hn, h => get_fold_none l _ f (fun y hy => hn y (List.mem_cons_of_mem _ hy)) (by rw [Tr.get_set, if_neg (hn x List.mem_cons_self)]; exact h)
theorem tabL_at : ∀ x ∈ tabL, XAt x.1 x.2 := by
  intro x hx
  unfold tabL at hx
  simp only [List.mem_cons, List.not_mem_nil, or_false] at hx
  rcases hx with rfl | rfl | rfl | rfl | rfl | rfl | rfl | rfl | rfl | rfl | rfl | rfl
  · exact at_xT
  · exact at_xC
  · exact at_xEl
  · exact at_xIm
  · exact at_xAs
  · exact at_xKi
  · exact at_xVal
  · exact at_xVT
  · exact at_xNil
  · exact at_xVE
  · exact at_xSet
  · exact at_xIB
theorem tab0_at {f : Nat} {s : Sum} (h : tab0.get f = some s) : XAt f s := by
  rcases get_fold _ _ _ _ h with h | h
  · exact tabL_at _ h
  · cases h
theorem tab1_inv {f : Nat} {s : Sum} (h : tab1.get f = some s) : tab0.get f = some s ∨ f = 242 ∧ s = sSum ∨ f = 158 ∧ s = sRead ∨ f = 285 ∧ s = sFill := by
  unfold tab1 at h
  rw [Tr.get_set, Tr.get_set, Tr.get_set] at h
  split at h
  · rename_i e; cases h; exact Or.inr (Or.inr (Or.inr ⟨e, rfl⟩))
  · split at h
    · rename_i e; cases h; exact Or.inr (Or.inr (Or.inl ⟨e, rfl⟩))
    · split at h
      · rename_i e; cases h; exact Or.inr (Or.inl ⟨e, rfl⟩)
      · exact Or.inl h
theorem tab0_nobody {f : Nat} {s : Sum} {fn : Func} {c : Code} (h : tab0.get f = some s) (hf : P.funcs[f]? = some fn) (hb : fn.body = some c) : False := by
  obtain ⟨fn', e, h1, h2, _⟩ := tab0_at h
  rw [h1] at hf; cases hf; rw [h2] at hb; cases hb
theorem sumsF0 : SumsF P E0 := by
  intro f s fn c h hf hb
  exact (tab0_nobody h (env0.funcs _ _ hf).1 hb).elim
theorem sumsX_of {E : Env} (hG : E.G = 6) (hs : ∀ f s, E.sums f = some s → tab0.get f = some s ∨ ∃ fn c, P.funcs[f]? = some fn ∧ fn.body = some c) (hf : ∀ f fn, E.funcs.get f = some fn → P.funcs[f]? = some fn) : SumsX P E := by
  intro f s fn h hf' hb B ι M w args args' v M' hR hGl hargs hrun
  have hg := hGl 6 (by rw [hG]; exact Nat.le_refl _)
  rcases hs f s h with h0 | ⟨fn', c, h1, h2⟩
  · obtain ⟨_, e, _, _, h3, h4⟩ := tab0_at h0
    obtain ⟨ι', v', w', k1, k2, k3⟩ := h4 B ι M w args args' v M' hR hg hargs hrun
    exact ⟨ι', v', w', by rw [h3, k1]; rfl, k2, k3⟩
  · rw [hf f fn hf'] at h1
    cases h1
    rw [hb] at h2; cases h2
theorem sumsX0 : SumsX P E0 := sumsX_of rfl (fun f s h => Or.inl h) (fun f fn h => (env0.funcs f fn h).1)
theorem sumsX1 : SumsX P E1 := by
  refine sumsX_of rfl (fun f s h => ?_) (fun f fn h => (env1.funcs f fn h).1)
  rcases tab1_inv h with h | ⟨rfl, _⟩ | ⟨rfl, _⟩ | ⟨rfl, _⟩
  · exact Or.inl h
  · exact Or.inr ⟨_, _, Go.Proofs.Tryz.func242, rfl⟩
  · exact Or.inr ⟨_, _, Go.Proofs.Tryz.func158, rfl⟩
  · exact Or.inr ⟨_, _, Go.Proofs.Tryz.func285, rfl⟩
theorem tab0_none {f : Nat} (h : ([127, 360, 361, 362, 359, 341, 89, 90, 91, 128, 129, 268].all fun g => !(Nat.beq f g)) = true) : E0.sums f = none := by
  refine get_fold_none tabL .leaf f (fun x hx e => ?_) rfl
  have hm : x.1 ∈ [127, 360, 361, 362, 359, 341, 89, 90, 91, 128, 129, 268] := List.mem_map_of_mem (f := Prod.fst) hx
  have := List.all_eq_true.1 h _ hm
  rw [nbeq_true e] at this
  cases this
theorem sumsF1 : SumsF P E1 := by
  intro f s fn c h hf hb B args M v M' hrun
  rcases tab1_inv h with h | ⟨rfl, rfl⟩ | ⟨rfl, rfl⟩ | ⟨rfl, rfl⟩
  · exact (tab0_nobody h (env1.funcs _ _ hf).1 hb).elim
  · exact sSum_run env0 sumsX0 sumsF0 rfl facts_ok B (tab0_none (by decide)) hrun
  · exact sRead_run env0 sumsX0 sumsF0 rfl facts_ok B (tab0_none (by decide)) (tab0_none (by decide)) (tab0_none (by decide)) hrun
  · exact sFill_run env0 sumsX0 sumsF0 rfl facts_ok B (tab0_none (by decide)) hrun
end
end Go.Abm.Seat
