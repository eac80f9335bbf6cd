/-
  A part of the proof that pumicelaw17.StoreOpens returns true for every geometry, key, number and group (a machine over names of blocks, its soundness, the calls of the store for any geometry, the chapter's example as a run). Condition: the listed package variables hold what the program's text lays; the card ties that.
-/
import Derived.Test.YtcfpoldckjmbdaaGreatDoorX10
set_option linter.unusedVariables false
set_option linter.unusedSimpArgs false
set_option linter.unusedSectionVars false
namespace Go.Abm
theorem DRs.nil_inv {ι : Ren} {l : List Deferred} (h : DRs ι [] l) : l = [] := by cases h; rfl
def outMode : AExit → AMode
  | .panic v => .pan v false
  | _ => .ret
def ModeR (ι : Ren) : AMode → FrameMode → Prop
  | .ret, m => m = .returning
  | .pan v rec, m => ∃ v', VR ι v v' ∧ m = .panicking [{ v := v', recovered := rec }]
theorem ModeR.mono {ι ι' : Ren} (h : ι.le ι') {u : AMode} {m : FrameMode} (hm : ModeR ι u m) : ModeR ι' u m := by
  cases u with
  | ret => exact hm
  | pan v rec => obtain ⟨v', a, b⟩ := hm; exact ⟨v', a.mono h, b⟩
theorem ModeR.settle {ι : Ren} {u : AMode} {m : FrameMode} (hm : ModeR ι u m) : ModeR ι u.settle (Go.settle m) := by
  cases u with
  | ret => cases hm; rfl
  | pan v rec =>
    obtain ⟨v', a, rfl⟩ := hm
    cases rec with
    | true => rfl
    | false => exact ⟨v', a, rfl⟩
theorem ModeR.ne_run {ι : Ren} {u : AMode} {m : FrameMode} (hm : ModeR ι u m) : m ≠ .run := by
  cases u with
  | ret => cases hm; simp
  | pan v rec => obtain ⟨v', a, rfl⟩ := hm; simp
section
variable {P : Program} {E : Env} (hE : EnvOk P E) (hX : SumsX P E) {R : Rec} (hRec : ∀ B, RecOk P E B R)
include hE hX hRec
omit hE hX hRec in
theorem step_coll {fr : Frame} {cs : List Frame} {w w' : World} {cb : Nat} {a : Array Value} {ds calls : List Deferred} (hm : fr.mode ≠ .run) (hd : fr.defers = ⟨.collected cb, a⟩ :: ds)
    (hr : (Instr.takeDeferred cb).run P w = .ok calls w') : step P (lone fr cs w) = .next (lone { fr with defers := calls ++ ds } cs w') := by
  refine step_lone_go ?_
  cases hmode : fr.mode with
  | run => exact absurd hmode hm
  | returning => simp [stepG, unwind, hmode, hd, Sem.runT_eq, hr]
  | panicking chain => simp [stepG, unwind, hmode, hd, Sem.runT_eq, hr]
omit hE hX hRec in
theorem mv_out {b : Frame} (hro : b.roundOf = none) (a : Act) (cs : List Frame) (w : World) : step P (lone (mk b a []) cs w) = .next (lone { mk b a [] with mode := .returning } cs w) :=
  step_lone_go (by simp [stepG, stepG.exec, mk, hro])
omit hE hX hRec in
theorem mv_ret {b : Frame} (hro : b.roundOf = none) (a : Act) (k : List Item) (cs : List Frame) (w : World) : step P (lone (mk b a (.code .ret :: k)) cs w) = .next (lone { mk b a (.code .ret :: k) with mode := .returning } cs w) :=
  step_lone_go (by simp [stepG, stepG.exec, mk, hro])
theorem body_ok {c : Code} {s : St} {M : AM} {out : Out} (h : evalC E R true c s M = some out) {B : Bd} {ι : Ren} {w : World} {a : Act} (hR : Rel B ι M w) (hG : Glob E ι) (hA : ActR ι s a) (b : Frame) (hro : b.roundOf = none) (cs : List Frame)
    (hne : ∀ id, out.e ≠ .exit id) :
    ∃ ι' w' a' todo m', Post B ι w ι' out.M w' ∧ ActR ι' out.s a' ∧ ModeR ι' (outMode out.e) m' ∧
      Steps P (lone (mk b a [.code c]) cs w) (lone { mk b a' todo with mode := m' } cs w') := by
  obtain ⟨ι', w', a', h1, h2, h3⟩ := evalC_ok hE hX hRec c true s M out h B ι w a hR hG hA b [] cs (fun _ => hro)
  obtain ⟨e, s1, M1⟩ := out
  cases e with
  | normal => exact ⟨ι', w', a', [], .returning, h1, h2, rfl, Steps.trans h3 (.one (mv_out hro _ _ _))⟩
  | exit id => exact absurd rfl (hne id)
  | ret =>
    obtain ⟨k1, e2⟩ := h3
    exact ⟨ι', w', a', _, .returning, h1, h2, rfl, Steps.trans e2 (.one (mv_ret hro _ _ _ _))⟩
  | panic v =>
    obtain ⟨v', todo, e1, e2⟩ := h3
    exact ⟨ι', w', a', todo, _, h1, h2, ⟨v', e1, rfl⟩, e2⟩
theorem fin_run {fn : Func} {c : Code} {s : St} {M M' : AM} (h : fin E fn (evalC E R true c s M) = some M') {f : FuncId} (hf : P.funcs[f]? = some fn) {B : Bd} {ι : Ren} {w : World} {a : Act} (hR : Rel B ι M w) (hG : Glob E ι) (hA : ActR ι s a)
    {b : Frame} (hro : b.roundOf = none) (hk : b.kind = .deferred) (hbf : b.fn = f) (cl : Frame) (cs : List Frame) :
    ∃ ι' w', Post B ι w ι' M' w' ∧ Steps P (lone (mk b a [.code c]) (cl :: cs) w) (lone { cl with mode := settle cl.mode } cs w') := by
  have key : ∀ {e : AExit} {n : Nat} {T : Tr AV} {M1 : AM}, evalC E R true c s M = some ⟨e, ⟨n, T, []⟩, M1⟩ → (e = .normal ∨ e = .ret) → (aresults E fn.results.toList T M1).map (fun _ => M1) = some M' →
      ∃ ι' w', Post B ι w ι' M' w' ∧ Steps P (lone (mk b a [.code c]) (cl :: cs) w) (lone { cl with mode := settle cl.mode } cs w') := by
    intro e n T M1 hev he hres
    obtain ⟨vs, hvs, rfl⟩ := map_some_inv hres
    obtain ⟨ι', w', a', todo, m', h1, h2, h3, h4⟩ := body_ok hE hX hRec hev hR hG hA b hro (cl :: cs) (fun id hid => by rcases he with rfl | rfl <;> cases hid)
    have hm : m' = .returning := by rcases he with rfl | rfl <;> exact h3
    subst hm
    obtain ⟨v', r1, r2⟩ := results_ok hE h1.rel h2.1 hvs
    have hd := DRs.nil_inv h2.2
    exact ⟨ι', w', h1, h4.trans (.one (step_going_returned (fr := { mk b a' todo with mode := .returning }) hk ⟨rfl, hd, fn, by simpa [mk, hbf] using hf, r1⟩))⟩
  unfold fin at h
  split at h
  · rename_i hev; exact key hev (.inl rfl) h
  · rename_i hev; exact key hev (.inr rfl) h
  · cases h
omit hE hX hRec in
theorem recoverHead_inv {c : Code} {o : Oper} {rest : Code} (h : recoverHead c = some (o, rest)) :
    ∃ id ops cc, c = .seq (.region id ops false) rest ∧ ops.toList = [o] ∧ o.op = .call cc ∧ cc.callee = .builtin .recover ∧ o.guard = none := by
  unfold recoverHead at h
  split at h
  · rename_i id ops rest'
    split at h
    · rename_i o' ho
      split at h
      · rename_i cc hcc
        split at h
        · rename_i hcal
          split at h
          · rename_i hg
            cases h
            exact ⟨id, ops, cc, rfl, ho, hcc, hcal, hg⟩
          · cases h
        · cases h
      · cases h
    · cases h
  · cases h
theorem defer_ok {f : FuncId} {args : List AV} {u u' : AMode} {M M' : AM} (h : evalDefer E R f args u M = some (u', M')) {B : Bd} {ι : Ren} {w : World} {args' : Array Value} (hR : Rel B ι M w) (hG : Glob E ι) (hargs : VRs ι args args'.toList)
    (cl : Frame) (cs : List Frame) (hm : ModeR ι u cl.mode) :
    (∀ (as : Array Value) (w : World), (callFunc f as).run P w = .ok (.enter f as) w) ∧ ∃ ι' w' m', Post B ι w ι' M' w' ∧ ModeR ι' u' m' ∧ Steps P (lone (Frame.enter P f args' .deferred) (cl :: cs) w) (lone { cl with mode := m' } cs w') := by
  unfold evalDefer at h
  split at h
  · cases h
  rename_i fn hf
  obtain ⟨hf, hnum⟩ := hE.funcs _ _ hf
  split at h
  · cases h
  rename_i c hb
  have h3 : ¬ fn.name = "runtime.NumGoroutine" := by simpa using hnum
  refine ⟨fun as w => by simp [callFunc, hf, h3, hb], ?_⟩
  rw [enter_mk hf hb]
  have hA := start_ok (fn := fn) hargs
  have hro : (Frame.enter P f args' .deferred).roundOf = none := rfl
  have hk : (Frame.enter P f args' .deferred).kind = .deferred := rfl
  have hbf : (Frame.enter P f args' .deferred).fn = f := rfl
  generalize (Frame.enter P f args' .deferred) = b at hro hk hbf
  generalize (⟨args' ++ Array.replicate (fn.ntmps - args'.size) undef, []⟩ : Act) = a at hA
  split at h
  · -- it recovers
    rename_i o rest hrh
    obtain ⟨id, ops, cc, rfl, hops, hop, hcal, hg⟩ := recoverHead_inv hrh
    have hops' : ops = #[o] := by rw [← Array.toArray_toList (xs := ops), hops]
    subst hops'
    have htr := tryRecover_deferred (fr := mk b a (.inRegion #[o] [0] :: [.code rest])) hk (cl :: cs)
    have main : ∀ (vu : AV × AMode) (v' : Value) (m2 : FrameMode), (match tryRecover (mk b a (.inRegion #[o] [0] :: [.code rest])) (cl :: cs) with
          | some (v, callers) => (v, callers)
          | none => (.nilIface, cl :: cs)) = (v', { cl with mode := m2 } :: cs) → VR ι vu.1 v' → ModeR ι vu.2 m2 →
        (match put (start fn args) o.dst vu.1 with
          | some s => (fin E fn (evalC E R true rest s M)).map fun M' => (vu.2.settle, M')
          | none => none) = some (u', M') →
        ∃ ι' w' m', Post B ι w ι' M' w' ∧ ModeR ι' u' m' ∧ Steps P (lone (mk b a [.code (.seq (.region id #[o] false) rest)]) (cl :: cs) w) (lone { cl with mode := m' } cs w') := by
      intro vu v' m2 ht hvr hmr h
      split at h
      case h_2 => cases h
      rename_i s hs
      obtain ⟨M1, hfin, e⟩ := map_some_inv h
      cases e
      obtain ⟨ι', w', g1, g2⟩ := fin_run hE hX hRec hfin hf hR hG (hA.put hs hvr) hro hk hbf { cl with mode := m2 } cs
      refine ⟨ι', w', _, g1, (hmr.mono g1.le).settle, ?_⟩
      refine Steps.trans (.one mv_seq) (Steps.trans (.one mv_region) (Steps.trans (.one (m₁ := lone (mk b (a.put o.dst v') (.inRegion #[o] [] :: [.code rest])) ({ cl with mode := m2 } :: cs) w) (step_lone_go ?_)) (Steps.trans (.one mv_region_end) g2)))
      have hgo := stepG_op' (P := P) (b := b) (a := a) (k := [.code rest]) (cs := cl :: cs) (w := w) (ops := #[o]) (i := 0) (rest := []) (o := o) rfl (by simp [Region.wanted, hg]) (.inl hro)
      have hrun : (execOp a.eval o).run P w = .ok .recover w := by
        obtain ⟨dst, op, ty, pos, after, guard⟩ := o
        simp only at hop
        subst hop
        simp [execOp, resolve, hcal, invoke, builtin]
      rw [show List.range (#[o] : Array Oper).size = [0] from rfl, hgo]
      have hfm := finish_mk (b := b) (a := a) (k := [.code rest]) #[o] 0 [] v'
      simp only [List.getElem?_toArray, List.getElem?_cons_zero, Option.bind_some] at hfm
      rw [← hfm]
      have hro2 : (mk b a (.inRegion #[o] [0] :: [.code rest])).roundOf = none := hro
      cases htry : tryRecover (mk b a (.inRegion #[o] [0] :: [.code rest])) (cl :: cs) with
      | none =>
        rw [htry] at ht
        simp only [Prod.mk.injEq] at ht
        obtain ⟨e1, e2⟩ := ht
        subst e1
        rw [← e2]
        simp [stepG.apply, hrun, hro2, htry]
      | some x =>
        obtain ⟨v1, cs1⟩ := x
        rw [htry] at ht
        simp only [Prod.mk.injEq] at ht
        obtain ⟨e1, e2⟩ := ht
        subst e1
        rw [← e2]
        simp [stepG.apply, hrun, hro2, htry]
    cases u with
    | ret =>
      refine main (.nili, .ret) .nilIface cl.mode ?_ .nili hm h
      rw [htr]
      simp only [recoverD]
      rw [show cl.mode = .returning from hm]
      simp
      cases cl
      simp_all [ModeR]
    | pan v rec =>
      obtain ⟨v', hv, hmode⟩ := hm
      cases rec with
      | true =>
        refine main (.nili, .pan v true) .nilIface cl.mode ?_ .nili ⟨v', hv, hmode⟩ h
        rw [htr]
        simp only [recoverD]
        rw [hmode]
        simp
        cases cl
        simp_all
      | false =>
        refine main (v, .pan v true) v' (.panicking [{ v := v', recovered := true }]) ?_ hv ⟨v', hv, rfl⟩ h
        rw [htr]
        simp only [recoverD]
        rw [hmode]
  · obtain ⟨M1, hfin, e⟩ := map_some_inv h
    cases e
    obtain ⟨ι', w', g1, g2⟩ := fin_run hE hX hRec hfin hf hR hG hA hro hk hbf cl cs
    exact ⟨ι', w', _, g1, (hm.mono g1.le).settle, g2⟩
theorem defers_ok : ∀ (n : Nat) (D : List ADef) (u u' : AMode) (M M' : AM), evalDefers E R n D u M = some (u', M') → ∀ {B : Bd} {ι : Ren} {w : World} (fr : Frame) (cs : List Frame), Rel B ι M w → Glob E ι → DRs ι D fr.defers → ModeR ι u fr.mode →
    ∃ ι' w' m', Post B ι w ι' M' w' ∧ ModeR ι' u' m' ∧ Steps P (lone fr cs w) (lone { fr with defers := [], mode := m' } cs w')
  | n, [], u, u', M, M', h, B, ι, w, fr, cs, hR, hG, hD, hm => by
    have : evalDefers E R n [] u M = some (u, M) := by cases n <;> rfl
    rw [this] at h
    cases h
    refine ⟨ι, w, fr.mode, Post.refl hR, hm, ?_⟩
    have hd := hD.nil_inv
    rw [← hd]
    exact .refl _ _
  | 0, d :: ds, u, u', M, M', h, B, ι, w, fr, cs, hR, hG, hD, hm => by cases h
  | n + 1, .coll b :: ds, u, u', M, M', h, B, ι, w, fr, cs, hR, hG, hD, hm => by
    simp only [evalDefers] at h
    split at h
    case h_2 => cases h
    rename_i calls hg
    cases hfd : fr.defers with
    | nil => rw [hfd] at hD; cases hD
    | cons d' ds' =>
    rw [hfd] at hD
    cases hD with
    | cons hd hds =>
    cases hd with
    | coll hp =>
    rename_i cb r
    obtain ⟨⟨_, calls', h1, h2⟩, _⟩ := hR.obj b _ _ _ _ hg hp
    have hpost : Post B ι w ι (M.set b (some (.dfr none))) (w.putObj cb (.deferred none)) :=
      Post.set hR hg hp rfl (fun x hx => by simp only [World.putObj, Array.getElem?_setIfInBounds]; rw [if_neg (fun e => hx e.symm)]) (by simp) rfl rfl rfl ⟨rfl, by simp [World.putObj, heap_lt h1]⟩
    obtain ⟨ι', w', m', g1, g2, g3⟩ := defers_ok n (calls ++ ds) u u' _ M' h { fr with defers := calls' ++ ds' } cs hpost.rel hG (h2.append hds) hm
    exact ⟨ι', w', m', hpost.trans g1, g2, Steps.trans (.one (step_coll hm.ne_run hfd (run_takeDeferred h1))) g3⟩
  | n + 1, .call k cap args :: ds, u, u', M, M', h, B, ι, w, fr, cs, hR, hG, hD, hm => by
    cases k <;> first | (cases h; done) | skip
    rename_i f
    simp only [evalDefers] at h
    split at h
    case h_2 => cases h
    rename_i u1 M1 hdf
    cases hfd : fr.defers with
    | nil => rw [hfd] at hD; cases hD
    | cons d' ds' =>
    rw [hfd] at hD
    cases hD with
    | cons hd hds =>
    cases hd with
    | call hk hc ha =>
    rename_i c' a'
    have hargs : VRs ι (args ++ cap) (a' ++ c').toList := by rw [Array.toList_append]; exact ha.append hc
    obtain ⟨hcf, ι1, w1, m1, g1, g2, g3⟩ := defer_ok hE hX hRec hdf hR hG hargs { fr with defers := ds' } cs hm
    obtain ⟨ι', w', m', k1, k2, k3⟩ := defers_ok n ds u1 u' M1 M' h { fr with defers := ds', mode := m1 } cs g1.rel (hG.mono g1.le) (hds.mono g1.le) g2
    have hinv : (invoke (.fn (.func f) c') a').run P w = .ok (.enter f (a' ++ c')) w := by
      simp only [invoke]
      exact hcf _ _
    exact ⟨ι', w', m', g1.trans k1, k2, Steps.trans (.one (step_defer hm.ne_run hfd rfl hinv)) (g3.trans k3)⟩
end
end Go.Abm

namespace Go.Abm
def SumsF (P : Program) (E : Env) : Prop :=
  ∀ f s fn c, E.sums f = some s → E.funcs.get f = some fn → fn.body = some c → ∀ B args M v M', s args M = some (v, M') → RunF P E B f args M (.ret v) M'
section
variable {P : Program} {E : Env} (hE : EnvOk P E) (hX : SumsX P E) (hS : SumsF P E) {R : Rec} (hRec : ∀ B, RecOk P E B R)
include hE hX hRec
include hS in
theorem call_ok {f : FuncId} {args : List AV} {M M' : AM} {e : AEnd} (h : evalCall E R f args M = some (e, M')) (B : Bd) : RunF P E B f args M e M' := by
  unfold evalCall at h
  split at h
  · cases h
  rename_i fn hf
  split at h
  · cases h
  rename_i c hb
  split at h
  · rename_i s hs
    obtain ⟨⟨v, M2⟩, h1, h2⟩ := map_some_inv h
    cases h2
    exact hS f s fn c hs hf hb B args M _ _ h1
  intro ι w args' hR hG hargs cs
  obtain ⟨hf', _⟩ := hE.funcs _ _ hf
  rw [enter_mk hf' hb]
  have hA := start_ok (fn := fn) hargs
  have hro : (Frame.enter P f args' .normal).roundOf = none := rfl
  have hk : (Frame.enter P f args' .normal).kind = .normal := rfl
  have hbf : (Frame.enter P f args' .normal).fn = f := rfl
  generalize (Frame.enter P f args' .normal) = b at hro hk hbf
  generalize (⟨args' ++ Array.replicate (fn.ntmps - args'.size) undef, []⟩ : Act) = a at hA
  have key : ∀ {ex : AExit} {n : Nat} {T : Tr AV} {D : List ADef} {M1 : AM} {u0 : AMode}, evalC E R true c (start fn args) M = some ⟨ex, ⟨n, T, D⟩, M1⟩ → (∀ id, ex ≠ .exit id) → outMode ex = u0 →
      endF E fn ((evalDefers E R 100 D u0 M1).map fun (u, M) => (u, T, M)) = some (e, M') →
      ∃ ι' w' fr, Post B ι w ι' M' w' ∧ fr.fn = f ∧ EndsF P ι' (lone (mk b a [.code c]) cs w) fr cs w' e := by
    intro ex n T D M1 u0 hev hne hu h
    cases hd : evalDefers E R 100 D u0 M1 with
    | none => rw [hd] at h; cases h
    | some x =>
      obtain ⟨u1, M2⟩ := x
      rw [hd] at h
      simp only [Option.map_some] at h
      obtain ⟨ι1, w1, a1, todo, m1, g1, g2, g3, g4⟩ := body_ok hE hX hRec hev hR hG hA b hro cs hne
      simp only at g1 g2 g3
      rw [hu] at g3
      obtain ⟨ι2, w2, m2, k1, k2, k3⟩ := defers_ok hE hX hRec 100 D u0 u1 M1 M2 hd { mk b a1 todo with mode := m1 } cs g1.rel (hG.mono g1.le) g2.2 g3
      have hst := g4.trans k3
      cases u1 with
      | ret =>
        simp only [endF] at h
        obtain ⟨vs, hvs, h2⟩ := map_some_inv h
        cases h2
        obtain ⟨v', r1, r2⟩ := results_ok hE k1.rel (g2.1.mono k1.le) hvs
        refine ⟨ι2, w2, _, g1.trans k1, ?_, v', r2, hst, ?_⟩
        · simpa [mk] using hbf
        · exact ⟨k2, rfl, hk, fn, by simpa [mk, hbf] using hf', r1⟩
      | pan v rec =>
        cases rec with
        | true => simp only [endF] at h; cases h
        | false =>
          simp only [endF] at h
          cases h
          obtain ⟨v', r1, r2⟩ := k2
          refine ⟨ι2, w2, _, g1.trans k1, ?_, v', r1, hst, ?_⟩
          · simpa [mk] using hbf
          · exact ⟨r2, rfl, fn, by simpa [mk, hbf] using hf'⟩
  generalize hev : evalC E R true c (start fn args) M = o at h
  unfold leaveF at h
  split at h
  · exact key hev (fun id e => by cases e) rfl h
  · exact key hev (fun id e => by cases e) rfl h
  · exact key hev (fun id e => by cases e) rfl h
  · cases h
omit hE hX hRec in
theorem zip_foldl (ps : List Tmp) (args' : Array Value) (t : Array Value) :
    ((ps.toArray.zip args').foldl (fun tmps (t, a) => tmps.setIfInBounds t a) t) = (ps.zip args'.toList).foldl (fun tmps (t, v) => tmps.setIfInBounds t v) t := by
  rw [← Array.foldl_toList]
  simp
theorem round_ok {l : Nat} {args : List AV} {M M' : AM} {e : AEnd} (h : evalRound E R l args M = some (e, M')) (B : Bd) : RunR P E B l args M e M' := by
  intro ι w cl r args' hR hG hl hargs
  unfold evalRound at h
  split at h
  case h_2 => cases h
  rename_i pend n T ps asg body hg
  split at h
  · cases h
  rename_i s0 hs0
  obtain ⟨fn, tmps, d, hw, hT⟩ := loop_get hR hl hg
  obtain ⟨p1, p2, p3⟩ := setParams_ok ps args args'.toList ⟨n, T, []⟩ s0 ⟨tmps, []⟩ hs0 hargs ⟨hT, .nil⟩
  have hy := run_yield (P := P) (args := args') hw (by simpa using p1.symm)
  simp only at hy
  rw [zip_foldl] at hy
  refine ⟨_, _, _, _, hy, fun c cs => ?_⟩
  generalize hb0 : Frame.round cl fn ((ps.zip args'.toList).foldl (fun tmps (t, v) => tmps.setIfInBounds t v) tmps) asg body .normal = b0
  have hmk : b0 = mk b0 ⟨(ps.zip args'.toList).foldl (fun tmps (t, v) => tmps.setIfInBounds t v) tmps, []⟩ [.code asg, .beginRound, .code body] := by rw [← hb0]; rfl
  have hro : b0.roundOf = some cl := by rw [← hb0]; rfl
  have hk : b0.kind = .normal := by rw [← hb0]; rfl
  generalize (⟨(ps.zip args'.toList).foldl (fun tmps (t, v) => tmps.setIfInBounds t v) tmps, []⟩ : Act) = a0 at p3 hmk
  rw [hmk]
  split at h
  case h_2 => cases h
  rename_i n1 T1 M1 hasg
  obtain ⟨ι1, w1, a1, g1, g2, g3⟩ := evalC_ok hE hX hRec asg false s0 M _ hasg B ι w a0 hR hG p3 b0 [.beginRound, .code body] (c :: cs) (fun e => by cases e)
  simp only at g1 g2
  split at h
  case h_2 => cases h
  rename_i pend1 n' T' ps' asg' body' hg1
  obtain ⟨fn1, tmps1, d1, hw1, hT1⟩ := loop_get g1.rel (g1.le _ _ hl) hg1
  have hset := loop_set g1.rel (g1.le _ _ hl) hg1 (st2 := .busy) (p2 := pend1) hw1 hT1
  have hbeg : step P (lone (mk b0 a1 [.beginRound, .code body]) (c :: cs) w1) = .next (lone (mk b0 a1 [.code body]) (c :: cs) (w1.putObj cl (.loop ⟨.busy, pend1, fn1, tmps1, ps'.toArray, asg', body', d1⟩))) :=
    stepR_beginRound (b := b0) hro (run_beginRound hw1 rfl)
  have hw1' : w1.putObj cl (.loop ⟨.busy, pend1, fn1, tmps1, ps'.toArray, asg', body', d1⟩) = { w1 with heap := w1.heap.setIfInBounds cl (.loop ⟨.busy, pend1, fn1, tmps1, ps'.toArray, asg', body', d1⟩) } := rfl
  rw [hw1'] at hbeg
  generalize ({ w1 with heap := w1.heap.setIfInBounds cl (.loop ⟨.busy, pend1, fn1, tmps1, ps'.toArray, asg', body', d1⟩) } : World) = w1b at hset hbeg
  have hpre := Steps.trans (show Steps P _ _ from g3) (.one hbeg)
  have fini : ∀ {ex : AExit} {n2 : Nat} {T2 : Tr AV} {M2 : AM} {st : LoopState} {jump : Option Code}, evalC E R false body ⟨n1, T1, []⟩ (M1.set l (some (.loop .busy pend1 n' T' ps' asg' body'))) = some ⟨ex, ⟨n2, T2, []⟩, M2⟩ →
      (setLoop M2 l st jump).map (fun M3 => (AEnd.ret (.bool jump.isNone), M3)) = some (e, M') → st = (if jump.isNone then .ready else .done) →
      (match ex with | .normal => jump = none | .exit id => jump = some (.exit id) | .ret => jump = some .ret | .panic _ => False) →
      ∃ ι' w', Post B ι w ι' M' w' ∧ EndsR P ι' (lone (mk b0 a0 [.code asg, .beginRound, .code body]) (c :: cs) w) c cs w' e := by
    intro ex n2 T2 M2 st jump hev hsl hst hj
    obtain ⟨M3, hsl, e2⟩ := map_some_inv hsl
    cases e2
    obtain ⟨ι2, w2, a2, k1, k2, k3⟩ := evalC_ok hE hX hRec body false ⟨n1, T1, []⟩ _ _ hev B ι1 w1b a1 hset.rel (hG.mono g1.le) g2 b0 [] (c :: cs) (fun e => by cases e)
    simp only at k1 k2
    unfold setLoop at hsl
    split at hsl
    case h_2 => cases hsl
    rename_i st2 pend2 n3 T3 ps3 x3 y3 hg2
    cases hsl
    have hl2 : ι2 l = some (cl, 0, r) := k1.le _ _ (g1.le _ _ hl)
    obtain ⟨fn2, tmps2, d2, hw2, hT2⟩ := loop_get k1.rel hl2 hg2
    have hset2 := loop_set k1.rel hl2 hg2 (st2 := st) (p2 := jump) hw2 hT2
    have hend := run_endRound (P := P) jump hw2
    simp only at hend
    rw [← hst] at hend
    refine ⟨ι2, _, ((g1.trans hset).trans k1).trans hset2, .bool jump.isNone, .bool _, ?_⟩
    refine Steps.trans hpre ?_
    cases ex with
    | normal =>
      subst hj
      exact Steps.trans k3 (.one (stepR_round_end (b := b0) hro hk hend))
    | exit id =>
      subst hj
      obtain ⟨k4, e1, e2⟩ := k3
      exact Steps.trans e2 (.one (stepR_round_exit (b := b0) hro hk (by rw [e1]; rfl) hend))
    | ret =>
      subst hj
      obtain ⟨k4, e2⟩ := k3
      exact Steps.trans e2 (.one (stepR_round_ret (b := b0) hro hk hend))
    | panic v => exact hj.elim
  split at h
  · rename_i hev; exact fini hev h rfl rfl
  · rename_i hev; exact fini hev h rfl rfl
  · rename_i hev; exact fini hev h rfl rfl
  · cases h
end
theorem recN_ok {P : Program} {E : Env} (hE : EnvOk P E) (hX : SumsX P E) (hS : SumsF P E) : ∀ (n : Nat) (B : Bd), RecOk P E B (recN E n)
  | 0, B => ⟨(fun _ _ _ _ _ h => by cases h), (fun _ _ _ _ _ h => by cases h), (fun _ _ _ _ _ h => by cases h)⟩
  | n + 1, B => by
    have ih := recN_ok hE hX hS n
    refine ⟨fun top c s M o h => ?_, fun f args M e M' h => call_ok hE hX hS ih h B, fun l args M e M' h => round_ok hE hX ih h B⟩
    have h1 := evalC_ok hE hX ih (.loop c) top s M o h B
    intro ι w a hR hG hA b k cs htop
    obtain ⟨ι', w', a', g1, g2, g3⟩ := h1 ι w a hR hG hA b k cs htop
    exact ⟨ι', w', a', g1, g2, g3.from_head⟩
theorem eval_ok {P : Program} {E : Env} (hE : EnvOk P E) (hX : SumsX P E) (hS : SumsF P E) {n : Nat} {f : FuncId} {args : List AV} {M M' : AM} {e : AEnd} (h : evalCall E (recN E n) f args M = some (e, M')) (B : Bd) : RunF P E B f args M e M' :=
  call_ok hE hX hS (recN_ok hE hX hS n) h B
end Go.Abm
