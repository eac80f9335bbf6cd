/-
  A part of the proof that pumicelaw17.StoreOpens returns true for every geometry, key, number and group (a machine over names of blocks, its soundness, the calls of the store for any geometry, the chapter's example as a run). Condition: the listed package variables hold what the program's text lays; the card ties that.
-/
import Derived.Test.YtcfpoldckjmbdaaGreatDoorX09
import Derived.RangeFuncIn
import Derived.RangeFuncRecord
set_option linter.unusedVariables false
set_option linter.unusedSimpArgs false
set_option linter.unusedSectionVars false
namespace Go.Abm
theorem loop_get {B : Bd} {ι : Ren} {M : AM} {w : World} (hR : Rel B ι M w) {l cl r : Nat} (hi : ι l = some (cl, 0, r)) {st : LoopState} {p : Option Code} {n : Nat} {T : Tr AV} {ps : List Tmp} {x y : Code}
    (hg : M.get l = some (.loop st p n T ps x y)) : ∃ fn tmps d, w.heap[cl]? = some (.loop ⟨st, p, fn, tmps, ps.toArray, x, y, d⟩) ∧ TR ι n T tmps := by
  obtain ⟨⟨_, fn, tmps, d, h1, h2⟩, _⟩ := hR.obj l _ _ _ _ hg hi
  exact ⟨fn, tmps, d, h1, h2⟩
theorem heap_lt {w : World} {cl : Nat} {o : Obj} (h : w.heap[cl]? = some o) : cl < w.heap.size := by
  rcases Nat.lt_or_ge cl w.heap.size with h' | h'
  · exact h'
  · rw [Array.getElem?_eq_none h'] at h; cases h
theorem loop_set {B : Bd} {ι : Ren} {M : AM} {w : World} (hR : Rel B ι M w) {l cl r : Nat} (hi : ι l = some (cl, 0, r)) {st st2 : LoopState} {p p2 : Option Code} {n : Nat} {T : Tr AV} {ps : List Tmp} {x y : Code}
    (hg : M.get l = some (.loop st p n T ps x y)) {fn : FuncId} {tmps : Array Value} {d : Nat} (h1 : w.heap[cl]? = some (.loop ⟨st, p, fn, tmps, ps.toArray, x, y, d⟩)) (h2 : TR ι n T tmps) :
    Post B ι w ι (M.set l (some (.loop st2 p2 n T ps x y))) { w with heap := w.heap.setIfInBounds cl (.loop ⟨st2, p2, fn, tmps, ps.toArray, x, y, d⟩) } :=
  Post.set hR hg hi rfl (fun b hb => by simp only [Array.getElem?_setIfInBounds]; rw [if_neg (fun e => hb e.symm)]) (by simp) rfl rfl rfl
    ⟨rfl, fn, tmps, d, by simp [heap_lt h1], h2⟩
section
variable {P : Program} {E : Env} (hE : EnvOk P E) (hX : SumsX P E) {R : Rec} (hRec : ∀ B, RecOk P E B R)
include hE hX hRec
omit hE hX hRec in
theorem exitTo_cons {id : Nat} {x : Item} {k : List Item} (h : ∀ i, x ≠ .inBlock i) : exitTo id (x :: k) = exitTo id k := by
  cases x <;> first | rfl | exact absurd rfl (h _)
theorem rangeFunc_ok {top : Bool} {f : Operand} {ps : Array Tmp} {asg body : Code} {s : St} {M : AM} {out : Out} (h : evalC E R top (.rangeFunc f ps asg body) s M = some out) {B : Bd} {ι : Ren} {w : World} {a : Act}
    (hR : Rel B ι M w) (hG : Glob E ι) (hA : ActR ι s a) (b : Frame) (k : List Item) (cs : List Frame) (htop : top = true → b.roundOf = none) :
    ∃ ι' w' a', Post B ι w ι' out.M w' ∧ ActR ι' out.s a' ∧ Arr P (lone (mk b a (.code (.rangeFunc f ps asg body) :: k)) cs w) b k cs ι' w' a' out.e := by
  unfold evalC at h
  split at h
  case h_2 => cases h
  rename_i fv hf
  have hro := htop rfl
  -- the two blocks
  have hp1 : Post B ι w (ι.add M.nx (w.heap.size, 0, 0)) (M.new (.dfr (some []))) { w with heap := w.heap.push (.deferred (some [])) } :=
    Post.new (room := 0) hR ⟨rfl, [], by simp, .nil⟩
  have hp2 : Post B (ι.add M.nx (w.heap.size, 0, 0)) { w with heap := w.heap.push (.deferred (some [])) } ((ι.add M.nx (w.heap.size, 0, 0)).add (M.nx + 1) (w.heap.size + 1, 0, 0))
      ((M.new (.dfr (some []))).new (.loop .ready none s.n s.T ps.toList asg body))
      { w with heap := (w.heap.push (.deferred (some []))).push (.loop ⟨.ready, none, b.fn, a.tmps, ps, asg, body, w.heap.size⟩) } := by
    have := Post.new (room := 0) hp1.rel (o := .loop .ready none s.n s.T ps.toList asg body) (o' := .loop ⟨.ready, none, b.fn, a.tmps, ps, asg, body, w.heap.size⟩) (by
      refine ⟨rfl, b.fn, a.tmps, w.heap.size, by simp only [Array.getElem?_push_size, Array.toArray_toList], ?_⟩
      exact hA.1.mono (Ren.le_trans hp1.le (Ren.add_le (hp1.rel.fresh _ (Nat.le_refl _)).2)))
    simpa [AM.nx_new] using this
  have hp := hp1.trans hp2
  generalize hι2 : (ι.add M.nx (w.heap.size, 0, 0)).add (M.nx + 1) (w.heap.size + 1, 0, 0) = ι2 at hp hp2
  have hl2 : ι2 (M.nx + 1) = some (w.heap.size + 1, 0, 0) := by rw [← hι2]; exact Ren.add_self _ _ _
  have hr2 : ι2 M.nx = some (w.heap.size, 0, 0) := hp2.le _ _ (Ren.add_self _ _ _)
  have hG2 := hG.mono hp.le
  have hA2 := hA.mono hp.le
  simp only [AM.nx_new] at h
  split at h
  case h_2 => cases h
  rename_i g args hcall
  have hfv := rho_ok hG hA.1 f fv hf
  obtain ⟨d, e1, e2⟩ := callV_run hE hX hp.rel hG2 (args' := #[.func (.yield (w.heap.size + 1)) #[] #[]]) hcall (hfv.mono hp.le) (VRs.cons (.fn (.yield hl2) rfl rfl (fun i v v' e => by simp at e) (fun i v v' e => by simp at e)) VRs.nil)
  obtain ⟨args', hrun, hargs⟩ := e2
  -- the step into the call
  have hstep : step P (lone (mk b a (.code (.rangeFunc f ps asg body) :: k)) cs w) =
      .next (lone (Frame.enter P g args' .normal) (mk b ⟨a.tmps, ⟨.collected w.heap.size, #[]⟩ :: a.defers⟩ (.inRangeFunc (w.heap.size + 1) :: k) :: cs)
        { w with heap := (w.heap.push (.deferred (some []))).push (.loop ⟨.ready, none, b.fn, a.tmps, ps, asg, body, w.heap.size⟩) }) := by
    have h0 := run_enterLoop_outer (P := P) (w := w) b.fn a.tmps ps asg body
    rw [← hro] at h0
    have hres : resolve a.eval (rangeCall f (w.heap.size + 1)) 0 = pure d := by
      simp only [resolve, List.map_toArray, List.map]
      exact e1
    exact stepR_rangeFunc (b := b) (a := a) (k := k) (cs := cs) (g := f) h0 (by rw [hres]; rfl) hrun
  split at h
  · -- it returns
    rename_i v M3 hret
    obtain ⟨ι3, w3, fr, hpo, hfn, v', hv', hs, hl⟩ := (hRec B).call _ _ _ _ _ hret ι2 _ args' hp.rel hG2 hargs (mk b ⟨a.tmps, ⟨.collected w.heap.size, #[]⟩ :: a.defers⟩ (.inRangeFunc (w.heap.size + 1) :: k) :: cs)
    split at h
    case h_2 => cases h
    rename_i st p n T ps' x y hg3
    obtain ⟨fn, tmps, d', hw3, hT⟩ := loop_get hpo.rel (hpo.le _ _ hl2) hg3
    split at h
    · cases h
    rename_i hnb
    have hend := run_endLoop (P := P) hw3 hnb
    have hset := loop_set hpo.rel (hpo.le _ _ hl2) hg3 (st2 := .exhausted) (p2 := p) hw3 hT
    have hall := (hp.trans hpo).trans hset
    have hA3 : ActR ι3 ⟨s.n, s.T, .coll M.nx :: s.D⟩ ⟨a.tmps, ⟨.collected w.heap.size, #[]⟩ :: a.defers⟩ :=
      ⟨hA.1.mono hall.le, .cons (.coll (hpo.le _ _ hr2)) (hA.2.mono hall.le)⟩
    have hfin : (mk b ⟨a.tmps, ⟨.collected w.heap.size, #[]⟩ :: a.defers⟩ (.inRangeFunc (w.heap.size + 1) :: k)).finish v' = mk b ⟨a.tmps, ⟨.collected w.heap.size, #[]⟩ :: a.defers⟩ (.endRangeFunc (w.heap.size + 1) :: k) :=
      finish_atR_inRangeFunc (b := b) _ _
    have h2 := step_leave_returned (c := mk b ⟨a.tmps, ⟨.collected w.heap.size, #[]⟩ :: a.defers⟩ (.inRangeFunc (w.heap.size + 1) :: k)) (cs := cs) hl
    rw [hfin] at h2
    have h3 : step P (lone (mk b ⟨a.tmps, ⟨.collected w.heap.size, #[]⟩ :: a.defers⟩ (.endRangeFunc (w.heap.size + 1) :: k)) cs w3) =
        .next (lone (mk b ⟨a.tmps, ⟨.collected w.heap.size, #[]⟩ :: a.defers⟩ ((p.map Item.code).toList ++ k)) cs (w3.putObj (w.heap.size + 1) (.loop ⟨.exhausted, p, fn, tmps, ps'.toArray, x, y, d'⟩))) :=
      stepR_endRangeFunc (b := b) hend
    have hw4 : w3.putObj (w.heap.size + 1) (.loop ⟨.exhausted, p, fn, tmps, ps'.toArray, x, y, d'⟩) = { w3 with heap := w3.heap.setIfInBounds (w.heap.size + 1) (.loop ⟨.exhausted, p, fn, tmps, ps'.toArray, x, y, d'⟩) } := rfl
    rw [hw4] at h3
    have hst := Steps.trans (.one hstep) (hs.trans (Steps.trans (.one h2) (.one h3)))
    clear h2 h3 hstep hs hl hend
    generalize ({ w3 with heap := w3.heap.setIfInBounds (w.heap.size + 1) (.loop ⟨.exhausted, p, fn, tmps, ps'.toArray, x, y, d'⟩) } : World) = w4 at hst hset hall hA3
    split at h
    · cases h; exact ⟨ι3, _, _, hall, hA3, hst⟩
    · cases h; exact ⟨ι3, _, _, hall, hA3, k, rfl, hst⟩
    · cases h; exact ⟨ι3, _, _, hall, hA3, k, hst⟩
    · cases h
  · rename_i v M3 hret
    cases h
    obtain ⟨ι3, w3, fr, hpo, hfn, v', hv', hs, hl⟩ := (hRec B).call _ _ _ _ _ hret ι2 _ args' hp.rel hG2 hargs (mk b ⟨a.tmps, ⟨.collected w.heap.size, #[]⟩ :: a.defers⟩ (.inRangeFunc (w.heap.size + 1) :: k) :: cs)
    have hall := hp.trans hpo
    exact ⟨ι3, w3, ⟨a.tmps, ⟨.collected w.heap.size, #[]⟩ :: a.defers⟩, hall, ⟨hA.1.mono hall.le, .cons (.coll (hpo.le _ _ hr2)) (hA.2.mono hall.le)⟩, v', .inRangeFunc (w.heap.size + 1) :: k, hv',
      Steps.trans (.one hstep) (hs.trans (.one (step_leave_panicked hl)))⟩
  · cases h
end
end Go.Abm

namespace Go.Abm
section
variable {P : Program} {E : Env} (hE : EnvOk P E) (hX : SumsX P E) {R : Rec} (hRec : ∀ B, RecOk P E B R)
include hE hX hRec
theorem evalC_ok : ∀ (code : Code) (top : Bool) (s : St) (M : AM) (out : Out), evalC E R top code s M = some out → ∀ B, RunC P E B (.code code) top s M out
  | .skip, top, s, M, out, h, B, ι, w, a, hR, hG, hA, b, k, cs, htop => by
    cases h
    exact ⟨ι, w, a, Post.refl hR, hA, .one mv_skip⟩
  | .region id ops false, top, s, M, out, h, B, ι, w, a, hR, hG, hA, b, k, cs, htop => by
    obtain ⟨ι', w', a', h1, h2, h3⟩ := evalOps_ok hE hX (hRec B) htop (k := k) (cs := cs) ops.toList 0 rfl s M out h ι w a hR hG hA
    refine ⟨ι', w', a', h1, h2, .of_steps (.one mv_region) ?_⟩
    rw [← List.range_eq_range'] at h3
    simpa using h3
  | .region id ops true, top, s, M, out, h, B, ι, w, a, hR, hG, hA, b, k, cs, htop => draw_ok hE hX hRec h hR hG hA b k cs
  | .seq x y, top, s, M, out, h, B, ι, w, a, hR, hG, hA, b, k, cs, htop => by
    unfold evalC at h
    split at h
    · rename_i s1 M1 hx
      obtain ⟨ι1, w1, a1, h1, h2, h3⟩ := evalC_ok x top s M _ hx B ι w a hR hG hA b (.code y :: k) cs htop
      obtain ⟨ι2, w2, a2, g1, g2, g3⟩ := evalC_ok y top s1 M1 _ h B ι1 w1 a1 h1.rel (hG.mono h1.le) h2 b k cs htop
      exact ⟨ι2, w2, a2, h1.trans g1, g2, .of_steps (Steps.trans (.one mv_seq) h3) g3⟩
    · rename_i hne
      obtain ⟨ι1, w1, a1, h1, h2, h3⟩ := evalC_ok x top s M _ h B ι w a hR hG hA b (.code y :: k) cs htop
      refine ⟨ι1, w1, a1, h1, h2, .of_steps (.one mv_seq) ?_⟩
      obtain ⟨e, s1, M1⟩ := out
      cases e with
      | normal => exact absurd h (hne s1 M1)
      | exit id => obtain ⟨k1, e1, e2⟩ := h3; exact ⟨k1, e1.trans (exitTo_cons (by simp)), e2⟩
      | ret => exact h3
      | panic v => exact h3
  | .cond c x y, top, s, M, out, h, B, ι, w, a, hR, hG, hA, b, k, cs, htop => by
    unfold evalC at h
    split at h
    · rename_i hc
      have hv := rho_ok hG hA.1 _ _ hc
      generalize hcv : a.eval c = cv at hv
      cases hv
      obtain ⟨ι1, w1, a1, h1, h2, h3⟩ := evalC_ok x top s M _ h B ι w a hR hG hA b k cs htop
      exact ⟨ι1, w1, a1, h1, h2, .of_steps (.one (mv_cond hcv)) h3⟩
    · rename_i hc
      have hv := rho_ok hG hA.1 _ _ hc
      generalize hcv : a.eval c = cv at hv
      cases hv
      obtain ⟨ι1, w1, a1, h1, h2, h3⟩ := evalC_ok y top s M _ h B ι w a hR hG hA b k cs htop
      exact ⟨ι1, w1, a1, h1, h2, .of_steps (.one (mv_cond hcv)) h3⟩
    · cases h
  | .block id x, top, s, M, out, h, B, ι, w, a, hR, hG, hA, b, k, cs, htop => by
    unfold evalC at h
    split at h
    · rename_i i s1 M1 hx
      obtain ⟨ι1, w1, a1, h1, h2, h3⟩ := evalC_ok x top s M _ hx B ι w a hR hG hA b (.inBlock id :: k) cs htop
      obtain ⟨k1, e1, e2⟩ := h3
      cases hi : Nat.beq i id with
      | true =>
        rw [hi] at h
        cases h
        have hid := Nat.eq_of_beq_eq_true hi
        subst hid
        refine ⟨ι1, w1, a1, h1, h2, Steps.trans (.one mv_block) (e2.trans (.one (mv_exit ?_)))⟩
        rw [e1]; simp [exitTo]
      | false =>
        rw [hi] at h
        cases h
        refine ⟨ι1, w1, a1, h1, h2, k1, e1.trans ?_, Steps.trans (.one mv_block) e2⟩
        have hne : ¬ id = i := fun e => beq_not hi e.symm
        simp [exitTo, hne]
    · rename_i hne
      obtain ⟨ι1, w1, a1, h1, h2, h3⟩ := evalC_ok x top s M _ h B ι w a hR hG hA b (.inBlock id :: k) cs htop
      refine ⟨ι1, w1, a1, h1, h2, .of_steps (.one mv_block) ?_⟩
      obtain ⟨e, s1, M1⟩ := out
      cases e with
      | normal => exact Steps.trans h3 (.one mv_inBlock)
      | exit i => exact absurd h (hne i s1 M1)
      | ret => exact h3
      | panic v => exact h3
  | .loop x, top, s, M, out, h, B, ι, w, a, hR, hG, hA, b, k, cs, htop => by
    unfold evalC at h
    split at h
    · rename_i s1 M1 hx
      obtain ⟨ι1, w1, a1, h1, h2, h3⟩ := evalC_ok x top s M _ hx B ι w a hR hG hA b (.inLoop x :: k) cs htop
      obtain ⟨ι2, w2, a2, g1, g2, g3⟩ := (hRec B).loop _ _ _ _ _ h ι1 w1 a1 h1.rel (hG.mono h1.le) h2 b k cs htop
      exact ⟨ι2, w2, a2, h1.trans g1, g2, .of_steps (Steps.trans (.one mv_loop) h3) g3⟩
    · rename_i hne
      obtain ⟨ι1, w1, a1, h1, h2, h3⟩ := evalC_ok x top s M _ h B ι w a hR hG hA b (.inLoop x :: k) cs htop
      refine ⟨ι1, w1, a1, h1, h2, .of_steps (.one mv_loop) ?_⟩
      obtain ⟨e, s1, M1⟩ := out
      cases e with
      | normal => exact absurd h (hne s1 M1)
      | exit id => obtain ⟨k1, e1, e2⟩ := h3; exact ⟨k1, e1.trans (exitTo_cons (by simp)), e2⟩
      | ret => exact h3
      | panic v => exact h3
  | .rangeFunc f ps asg body, top, s, M, out, h, B, ι, w, a, hR, hG, hA, b, k, cs, htop => rangeFunc_ok hE hX hRec h hR hG hA b k cs htop
  | .exit id, top, s, M, out, h, B, ι, w, a, hR, hG, hA, b, k, cs, htop => by
    cases h
    exact ⟨ι, w, a, Post.refl hR, hA, k, rfl, .refl _ _⟩
  | .ret, top, s, M, out, h, B, ι, w, a, hR, hG, hA, b, k, cs, htop => by
    cases h
    exact ⟨ι, w, a, Post.refl hR, hA, k, .refl _ _⟩
  | .scope _, top, s, M, out, h, B, _, _, _, _, _, _, _, _, _, _ => by cases h
  | .label _, top, s, M, out, h, B, _, _, _, _, _, _, _, _, _, _ => by cases h
  | .goto _, top, s, M, out, h, B, _, _, _, _, _, _, _, _, _, _ => by cases h
  | .refuse _, top, s, M, out, h, B, _, _, _, _, _, _, _, _, _, _ => by cases h
end
theorem setParams_ok {ι : Ren} : ∀ (ps : List Tmp) (as : List AV) (as' : List Value) (s s' : St) (a : Act), setParams ps as s = some s' → VRs ι as as' → ActR ι s a →
    ps.length = as'.length ∧ s'.D = s.D ∧ ActR ι s' ⟨(ps.zip as').foldl (fun tmps (t, v) => tmps.setIfInBounds t v) a.tmps, a.defers⟩
  | [], [], as', s, s', a, h, hv, hA => by
    cases h
    have : as' = [] := List.length_eq_zero_iff.1 hv.1.symm
    subst this
    exact ⟨rfl, rfl, hA⟩
  | [], _ :: _, _, _, _, _, h, _, _ => by cases h
  | _ :: _, [], _, _, _, _, h, _, _ => by cases h
  | p :: ps, x :: as, as', s, s', a, h, hv, hA => by
    unfold setParams at h
    split at h
    · rename_i s1 hs1
      cases as' with
      | nil => exact absurd hv.1 (by simp)
      | cons x' as' =>
        obtain ⟨h1, h2, h3⟩ := setParams_ok ps as as' s1 s' (a.put (some p) x') h hv.tail (hA.put hs1 hv.head)
        refine ⟨by simp [h1], h2.trans (put_some hs1).2.1, ?_⟩
        exact h3
    · cases h
end Go.Abm

namespace Go.Abm
theorem initT_get : ∀ (l : List AV) (n : Nat) (T : Tr AV) (t : Nat), (initT l n T).get t = if n ≤ t ∧ t < n + l.length then l[t - n]? else T.get t
  | [], n, T, t => by simp [initT]; intro h1 h2; omega
  | v :: vs, n, T, t => by
    rw [initT, initT_get vs (n + 1) _ t, Tr.get_set]
    by_cases h : t = n
    · subst h
      rw [if_neg (by omega), if_pos rfl, if_pos (by simp)]
      simp
    · rw [if_neg h]
      by_cases h2 : n + 1 ≤ t ∧ t < n + 1 + vs.length
      · rw [if_pos h2, if_pos (by simp; omega), show t - n = (t - (n + 1)) + 1 by omega]
        simp
      · rw [if_neg h2, if_neg (by simp; omega)]
theorem start_ok {ι : Ren} {fn : Func} {args : List AV} {args' : Array Value} (h : VRs ι args args'.toList) :
    ActR ι (start fn args) ⟨args' ++ Array.replicate (fn.ntmps - args'.size) undef, []⟩ := by
  have hl : args.length = args'.size := by simpa using h.1
  refine ⟨⟨by simp [start]; omega, fun t v e => ?_⟩, .nil⟩
  simp only [start] at e
  rw [initT_get] at e
  split at e
  · rename_i ht
    obtain ⟨v', e1, e2⟩ := h.get e
    refine ⟨v', ?_, e2⟩
    simp only [Nat.sub_zero] at e1
    rw [Array.getElem?_append, if_pos (by omega)]
    simpa using e1
  · rw [get_leaf'] at e; cases e
theorem enter_mk {P : Program} {f : FuncId} {fn : Func} {c : Code} (hf : P.funcs[f]? = some fn) (hb : fn.body = some c) (args : Array Value) (kind : CallKind) :
    Frame.enter P f args kind = mk (Frame.enter P f args kind) ⟨args ++ Array.replicate (fn.ntmps - args.size) undef, []⟩ [.code c] := by
  simp [Frame.enter, mk, hf, hb]
def resv (tmps : Array Value) : ResultVar → Sem Value
  | .tmp t => pure (tmps.getD t undef)
  | .cell a t => do loadVar t (← asAddr (tmps.getD a undef))
theorem results_resv (fn : Func) (tmps : Array Value) : results fn tmps = (do let vs ← fn.results.mapM (resv tmps); pure (if h : vs.size = 1 then vs[0] else .tuple vs)) := by
  unfold results
  congr 2
section
variable {P : Program} {E : Env} (hE : EnvOk P E) {B : Bd}
include hE
theorem resultsL_ok {ι : Ren} {M : AM} {w : World} (hR : Rel B ι M w) {n : Nat} {T : Tr AV} {tmps : Array Value} (hT : TR ι n T tmps) : ∀ (rs : List ResultVar) (vs : List AV), aresults E rs T M = some vs →
    ∃ vs', (rs.mapM (resv tmps)).run P w = .ok vs' w ∧ VRs ι vs vs'
  | [], vs, h => by cases h; exact ⟨[], rfl, VRs.nil⟩
  | .tmp t :: rs, vs, h => by
    unfold aresults at h
    split at h
    · rename_i v hv
      obtain ⟨l, hl, rfl⟩ := map_some_inv h
      obtain ⟨vs', e1, e2⟩ := resultsL_ok hR hT rs l hl
      obtain ⟨v', e3, e4⟩ := hT.2 t v hv
      refine ⟨v' :: vs', ?_, VRs.cons e4 e2⟩
      have h0 : (resv tmps (.tmp t)).run P w = .ok v' w := by
        simp only [resv, Sem.run_pure]
        rw [Array.getD_eq_getD_getElem?, e3]
        rfl
      simp only [List.mapM_cons, Sem.run_bind, Sem.run_pure, Result.andThen_ok, e1, h0]
    · cases h
  | .cell a t :: rs, vs, h => by
    unfold aresults at h
    split at h
    · rename_i b off ha
      split at h
      · rename_i v hv
        obtain ⟨l, hl, rfl⟩ := map_some_inv h
        obtain ⟨vs', e1, e2⟩ := resultsL_ok hR hT rs l hl
        obtain ⟨p', e3, e4⟩ := hT.2 a _ ha
        cases e4 with
        | ptr hp =>
        obtain ⟨v', e5, e6⟩ := aload_ok hE hR hp hv
        refine ⟨v' :: vs', ?_, VRs.cons e6 e2⟩
        have h0 : (resv tmps (.cell a t)).run P w = .ok v' w := by
          simp only [resv]
          rw [Array.getD_eq_getD_getElem?, e3]
          simp [asAddr, e5]
        simp only [List.mapM_cons, Sem.run_bind, Sem.run_pure, Result.andThen_ok, e1, h0]
      · cases h
    · cases h
theorem results_ok {ι : Ren} {M : AM} {w : World} (hR : Rel B ι M w) {n : Nat} {T : Tr AV} {tmps : Array Value} (hT : TR ι n T tmps) {fn : Func} {vs : List AV} (h : aresults E fn.results.toList T M = some vs) :
    ∃ v', (results fn tmps).run P w = .ok v' w ∧ VR ι (tupleOf vs) v' := by
  obtain ⟨vs', e1, e2⟩ := resultsL_ok hE hR hT _ _ h
  have hm : (fn.results.mapM (resv tmps)).run P w = .ok vs'.toArray w := by
    rw [Array.mapM_eq_mapM_toList, Sem.run_map, e1]
    rfl
  rw [results_resv]
  simp only [Sem.run_bind]
  refine ⟨if h : vs'.toArray.size = 1 then vs'.toArray[0] else .tuple vs'.toArray, ?_, ?_⟩
  · exact (congrArg (fun r => Result.andThen r _) hm).trans (by simp)
  · have hl := e2.1
    unfold tupleOf
    split
    · rename_i v
      match vs', e2 with
      | [v'], e2 => simpa using e2.head
      | [], e2 => exact absurd e2.1 (by simp)
      | _ :: _ :: _, e2 => exact absurd e2.1 (by simp)
    · rename_i hne
      have : vs'.toArray.size ≠ 1 := fun hs => by
        match vs, hl, hne with
        | [v], _, hne => exact hne v rfl
        | [], hl, _ => simp at hs; rw [hs] at hl; simp at hl
        | _ :: _ :: _, hl, _ => simp at hs; rw [hs] at hl; simp at hl
      rw [dif_neg this]
      exact .tup' (by simpa using e2)
end
end Go.Abm
