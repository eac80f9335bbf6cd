/-
  A part of the proof that pumicelaw17.StoreOpens returns true for every geometry, key, number and group (a machine over names of blocks, its soundness, the calls of the store for any geometry, the chapter's example as a run). Condition: the listed package variables hold what the program's text lays; the card ties that.
-/
import Derived.Test.YtcfpoldckjmbdaaGreatDoorX15
import Derived.Test.YtcfpoldckjmbdaaGreatDoorX16
set_option linter.unusedVariables false
set_option linter.unusedSimpArgs false
set_option linter.unusedSectionVars false
namespace Go.Abm
def BuildT (E : Env) (t : TypeId) (z : AV) (pl : List (Nat × Nat)) : Prop := E.zero t = some z ∧ ∃ fs : Array Field, E.under t = some (.struct fs) ∧ sizesOf E fs.toList = some pl
theorem sizesOf_nil {E : Env} : sizesOf E [] = some [] := rfl
theorem sizesOf_cons {E : Env} {f : Field} {fs : List Field} {n : Nat} {l : List (Nat × Nat)} (h : E.size f.type = some n) (h2 : sizesOf E fs = some l) : sizesOf E (f :: fs) = some ((f.offset, n) :: l) := by
  simp only [sizesOf, h, h2]
theorem mkE_BuildT {P : Program} {G : Nat} {cmp : Nat → Bool} {s : Nat → Option (List AV → AM → Option (AV × AM))} {t : TypeId} {z : AV} {pl : List (Nat × Nat)} {fs : Array Field} (hz : (mkE P G cmp s).zero t = some z)
    (hu : (mkE P G cmp s).under t = some (.struct fs)) (hs : sizesOf (mkE P G cmp s) fs.toList = some pl) : BuildT (mkE P G cmp s) t z pl := ⟨hz, fs, hu, hs⟩
section
variable {E : Env} {ρ : Reg} {M : AM}
theorem e_build {t : TypeId} {ps : Array (Nat × Operand)} {l : List (Nat × AV)} {z : AV} {pl : List (Nat × Nat)} {cs : List AV} (hp : rhoP (rhoR E ρ) ps.toList = some l) (hb : BuildT E t z pl)
    (hf : afill (fun i => pl[i]?) z.cells l = some cs) : evalOp E (rhoR E ρ) (.build t ps) M = some (.val (.agg cs) M) := by
  obtain ⟨h1, fs, h2, h3⟩ := hb
  simp only [evalOp, hp, abuild, h1, h2, h3, hf, Option.map_some]
theorem inc64 {n : Nat} (h : n + 1 ≤ 9223372036854775807) : wrapFast .i64 (addF (.ofNat n) 1) = .ofNat (n + 1) := by
  show (bif Nat.ble (n + 1) 9223372036854775807 then Int.ofNat (n + 1) else _) = _
  rw [Nat.ble_eq_true_of_le h]; rfl
theorem inc64v {n : Nat} (h : n + 1 ≤ 9223372036854775807) : some (AV.int .i64 (wrapFast .i64 (addF (.ofNat n) 1))) = some (AV.int .i64 (.ofNat (n + 1))) := by rw [inc64 h]
theorem repeatL_succ (z : List AV) : ∀ n, repeatL z (n + 1) = repeatL z n ++ z
  | 0 => by simp [repeatL]
  | n + 1 => by
    show z ++ repeatL z (n + 1) = (z ++ repeatL z n) ++ z
    rw [repeatL_succ z n, List.append_assoc]
theorem splice_rec (z l : List AV) (i np : Nat) (hl : l.length = np * z.length) (hi : i < np) :
    spliceL (repeatL z i ++ l.drop (i * z.length)) (0 + i * z.length) z = repeatL z (i + 1) ++ l.drop ((i + 1) * z.length) := by
  have h1 : (repeatL z i).length = i * z.length := repeatL_length z i
  have h2 := spliceL_append (repeatL z i) (l.drop (i * z.length)) z
  rw [h1] at h2
  rw [Nat.zero_add, h2, spliceL_zero, List.drop_drop, repeatL_succ, List.append_assoc, Nat.succ_mul]
theorem w_callk {n : Nat} {top : Bool} {ops : Array Oper} {rest : List Oper} {D : List ADef} {Q : KE} {o : Oper} {d : Tmp} {f : FuncId} {args : List AV} (hg : o.guard = none) (hd : o.dst = some d) (hn : Nat.blt d n = true) (he : evalOp E (rhoR E ρ) o.op M = some (.enter f args))
    (hc : CallsTo E f args M fun e M' => match e with | .ret v => wOps E n top ops rest (upd ρ d v) D M' Q | .pan v => Q (.panic v) ρ D M') : wOps E n top ops (o :: rest) ρ D M Q :=
  w_call hg hd hn he hc (fun e M' h => h)
theorem e_eqlsn {t p e : TypeId} {x y : Operand} {b o l c : Nat} {g : Option Nat} (hx : rhoR E ρ x = some (.sl b o l c g)) (hy : rhoR E ρ y = some .nils) (hu : E.under t = some (.slice e)) : evalOp E (rhoR E ρ) (.binOp .eql t x y p) M = some (.val (.bool false) M) := by
  simp [evalOp, hx, hy, abinOp, eqRes, aeq, hu]
theorem res_nil : resultsR E [] ρ M = some [] := rfl
theorem res_tmp {t : Tmp} {rest : List ResultVar} {v : AV} {l : List AV} (h : ρ t = some v) (k : resultsR E rest ρ M = some l) : resultsR E (.tmp t :: rest) ρ M = some (v :: l) := by
  simp only [resultsR, h, k, Option.map_some]
theorem res_cella {a : Tmp} {t : TypeId} {rest : List ResultVar} {l cs : List AV} {b off sz : Nat} {ro fz : Bool} (h : ρ a = some (.ptr b off)) (hd : AggT E t) (hs : E.size t = some sz) (hm : M.get b = some (.cells cs ro fz)) (hv : off + sz ≤ cs.length)
    (k : resultsR E rest ρ M = some l) : resultsR E (.cell a t :: rest) ρ M = some (.agg ((cs.drop off).take sz) :: l) := by
  obtain ⟨d, h1, h2⟩ := hd
  have : aload E M t b off = some (.agg ((cs.drop off).take sz)) := by simp [aload, h1, h2, hs, AM.cells, hm, hv, ble_t]
  simp only [resultsR, h, this, k, Option.map_some]
end
end Go.Abm

namespace Go.Abm
noncomputable section
section
variable {E : Env} {n : Nat} {ρ : Reg} {D : List ADef} {M : AM} {Q : KE}
def rfEnd (n : Nat) (T : Tr AV) (D : List ADef) (M : AM) (p : Option Code) : Option Out :=
  match p with
  | none => some ⟨.normal, ⟨n, T, D⟩, M⟩
  | some (.exit id) => some ⟨.exit id, ⟨n, T, D⟩, M⟩
  | some .ret => some ⟨.ret, ⟨n, T, D⟩, M⟩
  | _ => none
theorem w_rangef {f : Operand} {ps : Array Tmp} {asg b : Code} {fv : AV} {g : FuncId} {args : List AV} (hf : rhoR E ρ f = some fv)
    (ha : ∀ M2, acallV E fv [.fn (.yield (M.nx + 1)) [] []] M2 = some (.enter g args))
    (hc : ∀ T : Tr AV, T.get = ρ → CallsTo E g args ((M.new (.dfr (some []))).new (.loop .ready none n T ps.toList asg b)) fun e M3 => ∃ v, e = .ret v ∧ ∃ st p n' T' ps' a' b', M3.get (M.nx + 1) = some (.loop st p n' T' ps' a' b') ∧ st ≠ .busy ∧
      (match p with
      | none => Q .normal ρ (.coll M.nx :: D) (M3.set (M.nx + 1) (some (.loop .exhausted p n' T' ps' a' b')))
      | some (.exit id) => Q (.exit id) ρ (.coll M.nx :: D) (M3.set (M.nx + 1) (some (.loop .exhausted p n' T' ps' a' b')))
      | some .ret => Q .ret ρ (.coll M.nx :: D) (M3.set (M.nx + 1) (some (.loop .exhausted p n' T' ps' a' b')))
      | _ => False)) : wC E n true (.rangeFunc f ps asg b) ρ D M Q := by
  show CodeTo E n true (.rangeFunc f ps asg b) ρ D M Q
  intro T hT
  obtain ⟨m, e, M3, h1, v, rfl, st, p, n', T', ps', a', b', hl, hst, hq⟩ := hc T hT
  have hr : rho E T f = some fv := by rw [rho_eq, hT]; exact hf
  have hcall : (recN E (m + 1)).call g args ((M.new (.dfr (some []))).new (.loop .ready none n T ps.toList asg b)) = some (.ret v, M3) := h1
  have ha' := ha ((M.new (.dfr (some []))).new (.loop .ready none n T ps.toList asg b))
  have base : evalC E (recN E (m + 1)) true (.rangeFunc f ps asg b) ⟨n, T, D⟩ M = rfEnd n T (.coll M.nx :: D) (M3.set (M.nx + 1) (some (.loop .exhausted p n' T' ps' a' b'))) p := by
    clear hq
    unfold evalC
    rw [hr]
    dsimp only
    rw [show (M.new (.dfr (some []))).nx = M.nx + 1 from rfl, ha']
    dsimp only
    rw [hcall]
    dsimp only
    rw [hl]
    dsimp only
    cases st <;> first | exact absurd rfl hst | skip
    all_goals (unfold rfEnd; cases p with | none => rfl | some c => cases c <;> rfl)
  split at hq
  · exact ⟨m + 1, _, base, rfl, by subst hT; exact hq⟩
  · exact ⟨m + 1, _, base, rfl, by subst hT; exact hq⟩
  · exact ⟨m + 1, _, base, rfl, by subst hT; exact hq⟩
  · exact hq.elim
def wPar (n : Nat) : List Tmp → List AV → Reg → (Reg → Prop) → Prop
  | [], [], ρ, K => K ρ
  | p :: ps, a :: as, ρ, K => p < n ∧ wPar n ps as (upd ρ p a) K
  | _, _, _, _ => False
theorem wPar_ok {n : Nat} {K : Reg → Prop} : ∀ (ps : List Tmp) (as : List AV) (T : Tr AV), wPar n ps as T.get K → ∃ T', setParams ps as ⟨n, T, []⟩ = some ⟨n, T', []⟩ ∧ K T'.get
  | [], [], T, h => ⟨T, rfl, h⟩
  | p :: ps, a :: as, T, h => by
    obtain ⟨h1, h2⟩ := h
    rw [← upd_get] at h2
    obtain ⟨T', h3, h4⟩ := wPar_ok ps as _ h2
    refine ⟨T', ?_, h4⟩
    have : put ⟨n, T, []⟩ (some p) a = some ⟨n, T.set p (some a), []⟩ := by
      have : Nat.blt p n = true := Nat.ble_eq_true_of_le h1
      simp [put, this]
    unfold setParams
    rw [this]
    exact h3
  | [], _ :: _, _, h => h.elim
  | _ :: _, [], _, h => h.elim
theorem par_nil {K : Reg → Prop} (h : K ρ) : wPar n [] [] ρ K := h
theorem par_cons {p : Tmp} {ps : List Tmp} {a : AV} {as : List AV} {K : Reg → Prop} (h : Nat.blt p n = true) (k : wPar n ps as (upd ρ p a) K) : wPar n (p :: ps) (a :: as) ρ K := ⟨Nat.le_of_ble_eq_true h, k⟩
theorem round_rule {l : Nat} {T : Tr AV} {ps : List Tmp} {asg body : Code} {p : Option Code} {args : List AV} {K : KC} (hl : M.get l = some (.loop .ready p n T ps asg body))
    (h : wPar n ps args T.get fun ρ => wC E n false asg ρ [] M fun e ρ1 D1 M1 => e = .normal ∧ D1 = [] ∧ ∃ p1 n1 T1 ps1 a1 b1, M1.get l = some (.loop .ready p1 n1 T1 ps1 a1 b1) ∧
      wC E n false body ρ1 [] (M1.set l (some (.loop .busy p1 n1 T1 ps1 a1 b1))) fun e2 _ D2 M2 => D2 = [] ∧ ∃ st p2 n2 T2 ps2 a2 b2, M2.get l = some (.loop st p2 n2 T2 ps2 a2 b2) ∧ match e2 with
        | .normal => K (.ret (.bool true)) (M2.set l (some (.loop .ready none n2 T2 ps2 a2 b2)))
        | .exit id => K (.ret (.bool false)) (M2.set l (some (.loop .done (some (.exit id)) n2 T2 ps2 a2 b2)))
        | .ret => K (.ret (.bool false)) (M2.set l (some (.loop .done (some .ret) n2 T2 ps2 a2 b2)))
        | .panic _ => False) : RoundTo E l args M K := by
  obtain ⟨T0, hp, h⟩ := wPar_ok ps args T h
  obtain ⟨m1, ⟨e1, ⟨k1, T1, D1⟩, M1⟩, g1, g2, rfl, rfl, p1, n1, T1', ps1, a1, b1, hl1, h⟩ := wC_ok asg _ _ _ _ h T0 rfl
  have g2 : k1 = n := g2
  subst g2
  dsimp only at hl1 h
  obtain ⟨m2, ⟨e2, ⟨k2, T2, D2⟩, M2⟩, g3, g4, rfl, st, p2, n2, T2', ps2, a2, b2, hl2, h⟩ := wC_ok body _ _ _ _ h T1 rfl
  have g4 : k2 = k1 := g4
  subst g4
  dsimp only at hl2 h
  have q1 := evalC_mono (recN_mono E (Nat.le_max_left m1 m2)) _ _ _ _ _ g1
  have q2 := evalC_mono (recN_mono E (Nat.le_max_right m1 m2)) _ _ _ _ _ g3
  have sl : ∀ st' p', setLoop M2 l st' p' = some (M2.set l (some (.loop st' p' n2 T2' ps2 a2 b2))) := fun st' p' => by unfold setLoop; rw [hl2]
  cases e2 with
  | normal => exact ⟨max m1 m2, _, _, by unfold evalRound; rw [hl]; dsimp only; rw [hp]; dsimp only; rw [q1]; dsimp only; rw [hl1]; dsimp only; rw [q2]; dsimp only; rw [sl]; rfl, h⟩
  | exit id => exact ⟨max m1 m2, _, _, by unfold evalRound; rw [hl]; dsimp only; rw [hp]; dsimp only; rw [q1]; dsimp only; rw [hl1]; dsimp only; rw [q2]; dsimp only; rw [sl]; rfl, h⟩
  | ret => exact ⟨max m1 m2, _, _, by unfold evalRound; rw [hl]; dsimp only; rw [hp]; dsimp only; rw [q1]; dsimp only; rw [hl1]; dsimp only; rw [q2]; dsimp only; rw [sl]; rfl, h⟩
  | panic v => exact h.elim
theorem e_callv {c : Call} {x : Operand} {f : FuncId} {first cap args : List AV} {fn : Func} {b : Code} (hc : c.callee = .value x) (hx : rhoR E ρ x = some (.fn (.func f) first cap)) (ha : rhoL (rhoR E ρ) c.args.toList = some args) (hf : E.funcs.get f = some fn) (hb : fn.body = some b) :
    evalOp E (rhoR E ρ) (.call c) M = some (.enter f (first ++ args ++ cap)) := by
  simp only [evalOp, ha, hc, hx, acallV, acallF, hf, hb]
  cases E.sums f <;> rfl
theorem a_callv {f : FuncId} {first cap args : List AV} {fn : Func} {b : Code} (hf : E.funcs.get f = some fn) (hb : fn.body = some b) : acallV E (.fn (.func f) first cap) args M = some (.enter f (first ++ args ++ cap)) := by
  simp only [acallV, acallF, hf, hb]
  cases E.sums f <;> rfl
theorem e_yield {c : Call} {x : Operand} {l : Nat} {args : List AV} (hc : c.callee = .value x) (hx : rhoR E ρ x = some (.fn (.yield l) [] [])) (ha : rhoL (rhoR E ρ) c.args.toList = some args) :
    evalOp E (rhoR E ρ) (.call c) M = some (.round l args) := by
  simp only [evalOp, ha, hc, hx, acallV]
theorem def_coll {b : Nat} {u : AMode} {K : AMode → AM → Prop} (h : M.get b = some (.dfr (some []))) (k : K u (M.set b (some (.dfr none)))) : wDef E [.coll b] u M K :=
  ⟨0, u, _, by unfold evalDefers; rw [h]; rfl, k⟩
theorem def_coll2 {b c : Nat} {u : AMode} {K : AMode → AM → Prop} (h : M.get b = some (.dfr (some []))) (h2 : M.get c = some (.dfr (some []))) (hne : c ≠ b) (k : K u ((M.set b (some (.dfr none))).set c (some (.dfr none)))) : wDef E [.coll b, .coll c] u M K := by
  refine ⟨0, u, _, ?_, k⟩
  have h2' : (M.set b (some (.dfr none))).get c = some (.dfr (some [])) := by rw [AM.get_set_ne hne]; exact h2
  unfold evalDefers; rw [h]; dsimp only
  show evalDefers E (recN E 0) 99 [.coll c] u _ = _
  unfold evalDefers; rw [h2']; rfl
end
section
variable {E : Env} {ρ : Reg} {M : AM}
theorem e_appendnil {c : Call} {t u e : TypeId} {x y : Operand} {z : AV} {new : List AV} {sz by' k : Nat} {v : AV}
    (hc : c.callee = .builtin .append) (ha : c.args = #[x, y]) (ht : c.argTypes = #[t, u]) (hx : rhoR E ρ x = some .nils) (hy : rhoR E ρ y = some v)
    (hu : E.under t = some (.slice e)) (hu2 : E.under u = some (.slice e)) (he : ElemT E e sz by' z) (hs : 1 ≤ sz)
    (hk : alenOf v = some k) (hf : afirst M sz k v = some new) (hv : isStr v = false) (hnew : new.all AV.one = true) (hk1 : 1 ≤ k) (hbd : 2 * k * by' ≤ 281474976710656) (hbd2 : k ≤ maxI) :
    evalOp E (rhoR E ρ) (.call c) M = some (.val (.sl M.nx 0 k k (some sz)) (M.new (.cells new false false))) := by
  obtain ⟨i, hi, hsz, rfl, hz, hzz⟩ := he
  have base : aappend E M #[t, u] .nils v = some (.sl M.nx 0 k k (some sz), M.new (.cells new false false)) := by
    unfold aappend
    simp only [List.getElem?_toArray, List.getElem?_cons_zero, List.getElem?_cons_succ, asliceElem, hu, hu2, hi, hk, hsz, hf, isIntD, hzz, hnew, hv, nbeq_false (show sz ≠ 0 by omega), nbeq_false (show k ≠ 0 by omega), ble_t hbd, ble_t hbd2, Bool.and_true, Bool.false_and, Bool.not_true, Bool.or_false, Bool.false_or, cond_false, cond_true]
  simp only [evalOp, ha, hc, ht, rhoL, hx, hy, Option.map_some, abuiltin, base]
theorem e_appendg {c : Call} {t u e : TypeId} {x y : Operand} {b len : Nat} {z : AV} {cs new : List AV} {sz by' k : Nat} {fz : Bool} {v : AV}
    (hc : c.callee = .builtin .append) (ha : c.args = #[x, y]) (ht : c.argTypes = #[t, u]) (hx : rhoR E ρ x = some (.sl b 0 len len (some sz))) (hy : rhoR E ρ y = some v)
    (hu : E.under t = some (.slice e)) (hu2 : E.under u = some (.slice e)) (he : ElemT E e sz by' z) (hs : 1 ≤ sz) (hb : M.get b = some (.cells cs false fz)) (hcs : cs.length = len * sz)
    (hk : alenOf v = some k) (hf : afirst M sz k v = some new) (hv : isStr v = false) (hnew : new.all AV.one = true) (hk1 : 1 ≤ k) (hbd : 2 * (len + k) * by' ≤ 281474976710656) (hbd2 : len + k ≤ maxI) :
    evalOp E (rhoR E ρ) (.call c) M = some (.val (.sl M.nx 0 (len + k) (len + k) (some sz)) ((M.set b none).new (.cells (cs ++ new) false fz))) := by
  obtain ⟨i, hi, hsz, rfl, hz, hzz⟩ := he
  have h1 : afirst M sz len (.sl b 0 len len (some sz)) = some cs := by
    unfold afirst
    by_cases h0 : len = 0
    · rw [nbeq_true h0]; subst h0
      rw [show cs = [] from List.length_eq_zero_iff.1 (by rw [hcs]; omega)]; rfl
    · rw [nbeq_false h0]
      simp only [cond_false, ble_t (Nat.le_refl len), cond_true, AM.cells, hb, Nat.zero_add, hcs, List.drop_zero, ble_t (Nat.le_refl _)]
      rw [← hcs, List.take_length]
  have hlt : Nat.ble (len + k) len = false := ble_f (by omega)
  have base : aappend E M #[t, u] (.sl b 0 len len (some sz)) v = some (.sl M.nx 0 (len + k) (len + k) (some sz), (M.set b none).new (.cells (cs ++ new) false fz)) := by
    unfold aappend
    simp only [List.getElem?_toArray, List.getElem?_cons_zero, List.getElem?_cons_succ, asliceElem, hu, hu2, hi, hk, hsz, hf, isIntD, hzz, hnew, hv, hlt, h1, hb, nbeq_false (show sz ≠ 0 by omega), nbeq_true (rfl : sz = sz), ble_t hbd, ble_t hbd2, Bool.and_true, Bool.false_and, Bool.not_true, Bool.or_false, Bool.false_or, cond_false, cond_true, Bool.and_self]
  simp only [evalOp, ha, hc, ht, rhoL, hx, hy, Option.map_some, abuiltin, base]
end
end
end Go.Abm

namespace Go.Abm
noncomputable section
inductive PS where
  | run (i m : Nat) | chk | eff (i m : Nat)
def early : Op → Bool
  | .move _ | .pick .. | .nilCheck _ | .indexAddr .. | .index .. | .fieldAddr .. | .field .. | .extract .. | .unOp .. | .build .. | .makeInterface .. | .makeFunc .. | .slice .. | .binOp .. | .load .. | .lookup .. | .convert .. | .alloc _ | .box .. | .buildSlice .. | .makeSlice .. => true
  | .call c => match c.callee with
    | .builtin b => match b with
      | .len | .cap | .min | .max => true
      | _ => false
    | _ => false
  | _ => false
theorem late {E : Env} {o : Op} (h : early o = false) : okind E o = .eff := by
  cases o with
  | call c =>
    unfold early at h
    unfold okind
    dsimp only at h ⊢
    cases hc : c.callee with
    | builtin b => rw [hc] at h; cases b <;> first | rfl | cases h
    | value f => rfl
    | invoke r nm => rfl
  | _ => first | rfl | cases h
def looked2 : Op → Bool
  | .alloc _ | .box .. | .store .. | .makeSlice .. | .buildSlice .. | .mapUpdate .. | .assign _ => true
  | .makeMap _ none => true
  | .call c => match c.callee with
    | .builtin _ => true
    | .value _ => true
    | _ => false
  | o => looked o
def usesOf2 : Op → List Operand
  | .alloc _ => []
  | .box _ x => [x]
  | .assign x => [x]
  | .store _ a x => [a, x]
  | .makeSlice _ a b => [a, b]
  | .buildSlice _ _ ps => ps.toList.map (·.2)
  | .mapUpdate _ m k v => [m, k, v]
  | .call c => (match c.callee with | .value f => [f] | _ => []) ++ c.args.toList
  | o => usesOf o
section
variable {ρ ρ' : Rho}
theorem evalOp_congr2 {E : Env} {M : AM} (o : Op) (hl : looked2 o = true) (h : ∀ x ∈ usesOf2 o, ρ x = ρ' x) : evalOp E ρ o M = evalOp E ρ' o M := by
  cases o with
  | alloc t => rfl
  | box t x => simp only [evalOp, h x (by simp [usesOf2])]
  | assign x => simp only [evalOp, h x (by simp [usesOf2])]
  | store t a x => simp only [evalOp, h a (by simp [usesOf2]), h x (by simp [usesOf2])]
  | makeSlice t a b => simp only [evalOp, h a (by simp [usesOf2]), h b (by simp [usesOf2])]
  | buildSlice t n ps => simp only [evalOp, rhoP_congr ps.toList (fun x hx => h x (by simpa [usesOf2] using hx))]
  | mapUpdate t m k v => simp only [evalOp, h m (by simp [usesOf2]), h k (by simp [usesOf2]), h v (by simp [usesOf2])]
  | makeMap t x =>
    cases x with
    | none => rfl
    | some x => cases hl
  | call c =>
    have h1 : rhoL ρ c.args.toList = rhoL ρ' c.args.toList := rhoL_congr _ fun x hx => h x (by unfold usesOf2; exact List.mem_append_right _ hx)
    cases hc : c.callee with
    | builtin b => simp only [evalOp, h1, hc]
    | value f =>
      have h2 : ρ f = ρ' f := h f (by unfold usesOf2; dsimp only; rw [hc]; exact List.mem_append_left _ (List.mem_cons_self))
      simp only [evalOp, h1, hc, h2]
    | invoke r nm => simp [looked2, hc] at hl
  | _ => exact evalOp_congr _ hl h
end
def opn2 (W MS : Tr Nat) (ops : Array Oper) (i m : Nat) : Operand → Bool
  | .tmp t => match W.get t with
    | none => true
    | some l => bif bit m l then dstIs ops l t else bif Nat.beq l i then true else match MS.get l with
      | some ml => bit ml i
      | none => false
  | _ => true
def item2 (W MS : Tr Nat) (ops : Array Oper) (x : DItem) : Bool :=
  looked2 x.o.op && (usesOf2 x.o.op).all (opn2 W MS ops x.i x.m) && sameDst ops x.i x.o.dst &&
  (match x.o.dst with
    | none => true
    | some d => match W.get d with
      | some l => Nat.beq l x.i
      | none => false) &&
  (match x.o.guard with
    | none => true
    | some (j, _) => bit x.m j && (match ops[j]? with | some oj => oj.dst.isSome | none => false)) &&
  (match MS.get x.i with
    | some m => Nat.beq m x.m
    | none => false)
def ppass : List DItem → Nat → List DItem × Nat × List PS
  | [], dn => ([], dn, [])
  | x :: r, dn => bif sub x.m dn && !bit dn x.i && early x.o.op then ((ppass r (bitOn dn x.i)).1, (ppass r (bitOn dn x.i)).2.1, .run x.i x.m :: (ppass r (bitOn dn x.i)).2.2)
    else (x :: (ppass r dn).1, (ppass r dn).2.1, (ppass r dn).2.2)
def dplan : Nat → List DItem → Nat → Option (List PS)
  | 0, _, _ => none
  | n + 1, its, dn => match ppass its dn with
    | ([], _, st) => some (st ++ [.chk])
    | (x :: rest, dn', st) => bif sub x.m dn' && !bit dn' x.i && !early x.o.op && rest.all (fun y => !sub y.m dn') then (dplan n rest (bitOn dn' x.i)).map fun p => st ++ (.chk :: .eff x.i x.m :: p) else none
abbrev Pnd := Nat × (AM → Prop)
def wSteps (E : Env) (n : Nat) (ops : Array Oper) : List PS → Reg → AM → List Pnd → (Reg → AM → Prop) → Prop
  | [], ρ, M, _, K => K ρ M
  | .chk :: r, ρ, M, pd, K => (∀ p ∈ pd, p.2 M) ∧ wSteps E n ops r ρ M pd K
  | .run i _ :: r, ρ, M, pd, K => ∃ o, ops[i]? = some o ∧ ∃ b, wantedR ops o ρ = some b ∧ match b with
    | false => okind E o.op ≠ .eff ∧ wPut n ρ o.dst .undef fun ρ' => wSteps E n ops r ρ' M pd K
    | true => ∃ v M', evalOp E (rhoR E ρ) o.op M = some (.val v M') ∧
      (okind E o.op = .pure ∧ (wPut n ρ o.dst v fun ρ' => wSteps E n ops r ρ' M pd K) ∨
       okind E o.op = .read ∧ (wPut n ρ o.dst v fun ρ' => wSteps E n ops r ρ' M ((i, fun M2 => ∃ v' M3, evalOp E (rhoR E ρ) o.op M2 = some (.val v' M3) ∧ avBeq 8 v' v = true) :: pd) K) ∨
       okind E o.op = .alloc ∧ ∃ l, M'.get M.nx = some (.cells l false false) ∧ (wPut n ρ o.dst v fun ρ' => wSteps E n ops r ρ' M' ((i, fun M2 => ∃ l', M2.get M.nx = some (.cells l' false false) ∧ listBeq (avBeq 8) l' l = true) :: pd) K))
  | .eff i m :: r, ρ, M, pd, K => ∃ o, ops[i]? = some o ∧ ∃ b, wantedR ops o ρ = some b ∧ match b with
    | false => wPut n ρ o.dst .undef fun ρ' => wSteps E n ops r ρ' M (pd.filter fun p => !bit m p.1) K
    | true => ∃ a, evalOp E (rhoR E ρ) o.op M = some a ∧ match a with
      | .val v M' => M.nx ≤ M'.nx ∧ wPut n ρ o.dst v fun ρ' => wSteps E n ops r ρ' M' (pd.filter fun p => !bit m p.1) K
      | .skip M' => M.nx ≤ M'.nx ∧ wPut n ρ o.dst .undef fun ρ' => wSteps E n ops r ρ' M' (pd.filter fun p => !bit m p.1) K
      | .enter f args => CallsTo E f args M fun e M' => ∃ v, e = .ret v ∧ M.nx ≤ M'.nx ∧ wPut n ρ o.dst v fun ρ' => wSteps E n ops r ρ' M' (pd.filter fun p => !bit m p.1) K
      | .round l args => RoundTo E l args M fun e M' => ∃ v, e = .ret v ∧ M.nx ≤ M'.nx ∧ wPut n ρ o.dst v fun ρ' => wSteps E n ops r ρ' M' (pd.filter fun p => !bit m p.1) K
      | _ => False
structure DI (all : List DItem) (n : Nat) (ρ0 : Reg) (MS : Tr Nat) (V : Tr AV) (ρ : Reg) (dn : Nat) : Prop where
  a : ∀ x ∈ all, bit dn x.i = true → ∀ d, x.o.dst = some d → ∃ v, V.get x.i = some v ∧ ρ d = some v ∧ d < n
  b : ∀ t, (∀ x ∈ all, x.o.dst = some t → bit dn x.i = false) → ρ t = ρ0 t
  c : ∀ j, (V.get j).isSome = bit dn j
  e : ∀ l ml, bit dn l = true → MS.get l = some ml → sub ml dn = true
theorem item2_inv {W MS : Tr Nat} {ops : Array Oper} {x : DItem} (h : item2 W MS ops x = true) : looked2 x.o.op = true ∧ (∀ u ∈ usesOf2 x.o.op, opn2 W MS ops x.i x.m u = true) ∧ sameDst ops x.i x.o.dst = true ∧ (∀ d, x.o.dst = some d → W.get d = some x.i) ∧
    (match x.o.guard with
    | none => true
    | some (j, _) => bit x.m j && (match ops[j]? with | some oj => oj.dst.isSome | none => false)) = true ∧ MS.get x.i = some x.m := by
  unfold item2 at h
  simp only [Bool.and_eq_true] at h
  obtain ⟨⟨⟨⟨⟨h1, h2⟩, h3⟩, h4⟩, h5⟩, h6⟩ := h
  refine ⟨h1, fun u hu => List.all_eq_true.1 h2 u hu, h3, fun d hd => ?_, h5, ?_⟩
  · rw [hd] at h4
    dsimp only at h4
    split at h4
    · rename_i l hl; rw [hl, beq_eq h4]
    · cases h4
  · split at h6
    · rename_i m hm; rw [hm, beq_eq h6]
    · cases h6
structure Fix (all : List DItem) (W MS : Tr Nat) (ops : Array Oper) : Prop where
  it : ∀ x ∈ all, item2 W MS ops x = true
  cov : ∀ j d, dstIs ops j d = true → ∃ x ∈ all, x.i = j ∧ x.o.dst = some d
  get : ∀ x ∈ all, ops[x.i]? = some x.o
theorem dreg_eq {all : List DItem} {W MS : Tr Nat} {ops : Array Oper} {n : Nat} {ρ0 ρ : Reg} {V V' : Tr AV} {dn : Nat} (F : Fix all W MS ops) (I : DI all n ρ0 MS V ρ dn) (hV : ∀ j v, V.get j = some v → V'.get j = some v) {x : DItem} (hx : x ∈ all) (hs : sub x.m dn = true) (hn : bit dn x.i = false)
    {u : Operand} (hu : opn2 W MS ops x.i x.m u = true) {E : Env} : rhoR E (dreg ρ0 W MS V' x.i x.m) u = rhoR E ρ u := by
  cases u with
  | tmp t =>
    show dreg ρ0 W MS V' x.i x.m t = ρ t
    have one : ∀ y ∈ all, ∀ l, W.get t = some l → y.o.dst = some t → y.i = l := fun y hy l hl hd => by
      have := (item2_inv (F.it y hy)).2.2.2.1 t hd
      rw [hl] at this; cases this; rfl
    unfold opn2 at hu
    dsimp only at hu
    unfold dreg
    split at hu
    · rename_i hw
      rw [hw]
      refine (I.b t fun y hy hd => ?_).symm
      have := (item2_inv (F.it y hy)).2.2.2.1 t hd
      rw [hw] at this; cases this
    · rename_i l hw
      rw [hw]; dsimp only
      cases hb : bit x.m l with
      | true =>
        rw [hb, cond_true] at hu
        obtain ⟨y, hy, rfl, hd⟩ := F.cov l t hu
        obtain ⟨v, h1, h2, _⟩ := I.a y hy (sub_bit hs hb) t hd
        rw [cond_true, hV _ _ h1, h2]
      | false =>
        rw [hb, cond_false] at hu
        rw [cond_false]
        cases hl : Nat.beq l x.i with
        | true =>
          rw [cond_true]
          refine (I.b t fun y hy hd => ?_).symm
          rw [one y hy l hw hd, beq_eq hl]; exact hn
        | false =>
          rw [hl, cond_false] at hu
          rw [cond_false]
          split at hu
          · rename_i ml hml
            rw [hml]; dsimp only; rw [hu, cond_true]
            refine (I.b t fun y hy hd => ?_).symm
            rw [one y hy l hw hd]
            cases hbl : bit dn l with
            | false => rfl
            | true =>
              have := sub_bit (I.e l ml hbl hml) hu
              rw [hn] at this; cases this
          · cases hu
  | _ => rfl
theorem want2 {all : List DItem} {W MS : Tr Nat} {ops : Array Oper} {n : Nat} {ρ0 ρ : Reg} {V : Tr AV} {dn : Nat} (F : Fix all W MS ops) (I : DI all n ρ0 MS V ρ dn) {x : DItem} (hx : x ∈ all) (hs : sub x.m dn = true) : dwantR ops x.o x.m V = wantedR ops x.o ρ := by
  have hg := (item2_inv (F.it x hx)).2.2.2.2.1
  unfold dwantR wantedR
  cases hgo : x.o.guard with
  | none => rfl
  | some g =>
    obtain ⟨j, want⟩ := g
    rw [hgo] at hg
    dsimp only at hg ⊢
    rw [Bool.and_eq_true] at hg
    obtain ⟨h1, h3⟩ := hg
    split at h3
    · rename_i oj hoj
      rw [h1, hoj]; dsimp only
      cases hd : oj.dst with
      | none => rw [hd] at h3; cases h3
      | some d =>
        obtain ⟨y, hy, rfl, hyd⟩ := F.cov j d (dstIs_mk hoj hd)
        obtain ⟨v, h4, h5, _⟩ := I.a y hy (sub_bit hs h1) d hyd
        rw [h4]; dsimp only; rw [h5]
        cases v <;> rfl
    · cases h3
theorem sub_on {a b i : Nat} (h : sub a b = true) : sub a (bitOn b i) = true := sub_of fun j hj => by rw [bitOn_bit, sub_bit h hj]; rfl
theorem DI.put {all : List DItem} {W MS : Tr Nat} {ops : Array Oper} {n : Nat} {ρ0 ρ : Reg} {V : Tr AV} {dn : Nat} (F : Fix all W MS ops) (I : DI all n ρ0 MS V ρ dn) {x : DItem} (hx : x ∈ all) (hs : sub x.m dn = true) (hn : bit dn x.i = false) {v : AV} (hd : ∀ d, x.o.dst = some d → d < n) :
    DI all n ρ0 MS (V.set x.i (some v)) (putR ρ x.o.dst v) (bitOn dn x.i) := by
  have ix := item2_inv (F.it x hx)
  have keep : ∀ t, x.o.dst ≠ some t → putR ρ x.o.dst v t = ρ t := fun t ht => by
    unfold putR
    cases hdd : x.o.dst with
    | none => rfl
    | some d0 => exact upd_ne fun e => ht (by rw [hdd, e])
  refine ⟨fun y hy hb d hyd => ?_, fun t ht => ?_, fun j => ?_, fun l ml hb hml => ?_⟩
  · have hw := (item2_inv (F.it y hy)).2.2.2.1 d hyd
    by_cases he : y.i = x.i
    · have hxd : x.o.dst = some d := by
        have h1 := F.get y hy
        have h2 := F.get x hx
        rw [he, h2] at h1
        rw [Option.some.inj h1]
        exact hyd
      refine ⟨v, by rw [Tr.get_set, if_pos he], ?_, hd d hxd⟩
      rw [hxd]; exact upd_eq ρ d v
    · rw [bitOn_bit, decide_eq_false (fun e => he e.symm), Bool.or_false] at hb
      obtain ⟨v', h1, h2, h3⟩ := I.a y hy hb d hyd
      refine ⟨v', by rw [Tr.get_set, if_neg he]; exact h1, ?_, h3⟩
      rw [keep d fun e => ?_]; exact h2
      have := ix.2.2.2.1 d e
      rw [hw] at this; exact he (Option.some.inj this)
  · rw [keep t fun e => ?_]
    · refine I.b t fun y hy hyd => ?_
      have := ht y hy hyd
      rw [bitOn_bit] at this
      exact (Bool.or_eq_false_iff.1 this).1
    · have := ht x hx e
      rw [bitOn_bit, decide_eq_true rfl, Bool.or_true] at this; cases this
  · rw [Tr.get_set, bitOn_bit]
    by_cases he : j = x.i
    · rw [if_pos he, decide_eq_true he.symm, Bool.or_true]; rfl
    · rw [if_neg he, decide_eq_false (fun e => he e.symm), Bool.or_false]; exact I.c j
  · rw [bitOn_bit] at hb
    by_cases he : x.i = l
    · rw [← he, ix.2.2.2.2.2] at hml
      rw [← Option.some.inj hml]
      exact sub_on hs
    · rw [decide_eq_false he, Bool.or_false] at hb
      exact sub_on (I.e l ml hb hml)
def MindOk (E : Env) (ρ0 : Reg) (W MS : Tr Nat) (ops : Array Oper) (V : Tr AV) (pend : List Pend) (pd : List Pnd) : Prop :=
  ∀ p ∈ pend, (p.k = .skip ∨ p.k = .pure) ∨ ∃ q ∈ pd, q.1 = p.i ∧ ∀ V' M (T : Tr AV), T.get = ρ0 → (∀ j v, V.get j = some v → V'.get j = some v) → q.2 M → dcheck E ⟨T, W, MS, ops⟩ V' M p = true
theorem MindOk.more {E : Env} {ρ0 : Reg} {W MS : Tr Nat} {ops : Array Oper} {V V2 : Tr AV} {pend : List Pend} {pd pd2 : List Pnd} (h : MindOk E ρ0 W MS ops V pend pd) (hV : ∀ j v, V.get j = some v → V2.get j = some v) (hp : ∀ q ∈ pd, q ∈ pd2) : MindOk E ρ0 W MS ops V2 pend pd2 := by
  intro p hpp
  rcases h p hpp with h1 | ⟨q, h1, h2, h3⟩
  · exact Or.inl h1
  · exact Or.inr ⟨q, hp q h1, h2, fun V' M T hT hv hq => h3 V' M T hT (fun j v hj => hv j v (hV j v hj)) hq⟩
theorem set_mono {V : Tr AV} {i : Nat} {v : AV} (h : V.get i = none) : ∀ j w, V.get j = some w → (V.set i (some v)).get j = some w := fun j w hj => by
  rw [Tr.get_set]
  by_cases he : j = i
  · subst he; rw [h] at hj; cases hj
  · rw [if_neg he]; exact hj
theorem fresh_eq {all : List DItem} {MS : Tr Nat} {n : Nat} {ρ0 ρ : Reg} {V : Tr AV} {dn : Nat} (I : DI all n ρ0 MS V ρ dn) (i : Nat) : fresh V i = !bit dn i := by
  have := I.c i
  unfold fresh
  cases hv : V.get i with
  | none => rw [hv] at this; rw [← this]; rfl
  | some v => rw [hv] at this; rw [← this]; rfl
theorem none_of {all : List DItem} {MS : Tr Nat} {n : Nat} {ρ0 ρ : Reg} {V : Tr AV} {dn : Nat} (I : DI all n ρ0 MS V ρ dn) {i : Nat} (h : bit dn i = false) : V.get i = none := by
  have := I.c i
  rw [h] at this
  cases hv : V.get i with
  | none => rfl
  | some v => rw [hv] at this; cases this
theorem wPut_lt {n : Nat} {ρ : Reg} {d : Option Tmp} {v : AV} {K : Reg → Prop} (h : wPut n ρ d v K) : ∀ t, d = some t → t < n := by
  intro t ht
  subst ht
  exact h.1
theorem pass_ok {E : Env} {all : List DItem} {W MS : Tr Nat} {ops : Array Oper} {n : Nat} {ρ0 : Reg} (F : Fix all W MS ops) {R : List PS} {K : Reg → AM → Prop} : ∀ (its : List DItem) (s : DS) (acc : List DItem) (ρ : Reg) (pd : List Pnd), (∀ x ∈ its, x ∈ all) →
    DI all n ρ0 MS s.V ρ s.dn → MindOk E ρ0 W MS ops s.V s.pend pd → wSteps E n ops ((ppass its s.dn).2.2 ++ R) ρ s.M pd K →
    ∃ s' ρ' pd', (∀ T : Tr AV, T.get = ρ0 → dpass E ⟨T, W, MS, ops⟩ its s acc = some (acc.reverse ++ (ppass its s.dn).1, s')) ∧ s'.dn = (ppass its s.dn).2.1 ∧ DI all n ρ0 MS s'.V ρ' s'.dn ∧ MindOk E ρ0 W MS ops s'.V s'.pend pd' ∧ wSteps E n ops R ρ' s'.M pd' K
  | [], s, acc, ρ, pd, _, I, P, h => ⟨s, ρ, pd, fun T _ => by show some (acc.reverse, s) = _; rw [show (ppass [] s.dn).1 = [] from rfl, List.append_nil], rfl, I, P, h⟩
  | ⟨i, o, m⟩ :: r, s, acc, ρ, pd, hall, I, P, h => by
    have hx := hall _ List.mem_cons_self
    have hr := fun y hy => hall y (List.mem_cons_of_mem _ hy)
    have hfr := fresh_eq I i
    cases hc : (sub m s.dn && !bit s.dn i && early o.op) with
    | false =>
      have pp : ppass (⟨i, o, m⟩ :: r) s.dn = (⟨i, o, m⟩ :: (ppass r s.dn).1, (ppass r s.dn).2.1, (ppass r s.dn).2.2) := by
        show (bif sub m s.dn && !bit s.dn i && early o.op then _ else _) = _
        rw [hc]; rfl
      rw [pp] at h
      obtain ⟨s', ρ', pd', h1, h2, h3⟩ := pass_ok F r s (⟨i, o, m⟩ :: acc) ρ pd hr I P h
      refine ⟨s', ρ', pd', fun T hT => ?_, by rw [pp]; exact h2, h3⟩
      have h1 := h1 T hT
      rw [pp]
      rw [List.reverse_cons, List.append_assoc, List.singleton_append] at h1
      rw [← h1]
      cases hb : (sub m s.dn && fresh s.V i) with
      | false => conv => lhs; unfold dpass
                 rw [hb, cond_false]
      | true =>
        have he : early o.op = false := by
          rw [hfr] at hb
          rw [hb, Bool.true_and] at hc; exact hc
        conv => lhs; unfold dpass
        rw [hb, late he, cond_true]
    | true =>
      have pp : ppass (⟨i, o, m⟩ :: r) s.dn = ((ppass r (bitOn s.dn i)).1, (ppass r (bitOn s.dn i)).2.1, .run i m :: (ppass r (bitOn s.dn i)).2.2) := by
        show (bif sub m s.dn && !bit s.dn i && early o.op then _ else _) = _
        rw [hc]; rfl
      rw [Bool.and_eq_true, Bool.and_eq_true] at hc
      obtain ⟨⟨hs, hn⟩, _⟩ := hc
      have hn : bit s.dn i = false := by simpa using hn
      have hb : (sub m s.dn && fresh s.V i) = true := by rw [hfr, hs, hn]; rfl
      rw [pp] at h ⊢
      obtain ⟨o', ho, b, hw, h⟩ := h
      have ho2 := F.get _ hx
      rw [ho] at ho2; cases ho2
      have hwant := (want2 F I hx hs).trans hw
      have ix := item2_inv (F.it _ hx)
      have look : ∀ {V' : Tr AV} {M : AM} {T : Tr AV}, T.get = ρ0 → (∀ j v, s.V.get j = some v → V'.get j = some v) → evalOp E (drho E ⟨T, W, MS, ops⟩ V' i m) o.op M = evalOp E (rhoR E ρ) o.op M := fun hT hV => by
        rw [drho_eq hT]
        exact evalOp_congr2 o.op ix.1 fun u hu => dreg_eq F I hV hx hs hn (ix.2.1 u hu)
      have hnone := none_of I hn
      cases b with
      | false =>
        obtain ⟨hk, hp⟩ := h
        obtain ⟨hp1, _⟩ := wPut_inv hp
        obtain ⟨s', ρ', pd', h1, h2, h3⟩ := pass_ok F r (s.did i m o .undef s.M .skip) acc _ pd hr (I.put F hx hs hn (wPut_lt hp)) (by
          intro p hpp
          rcases List.mem_cons.1 hpp with rfl | hpp
          · exact Or.inl (Or.inl rfl)
          · exact (P.more (set_mono hnone) (fun _ h => h)) p hpp) hp1
        refine ⟨s', ρ', pd', fun T hT => ?_, h2, h3⟩
        refine Eq.trans ?_ (h1 T hT)
        conv => lhs; unfold dpass
        rw [hb, dwant_eq, hwant]
        cases hkk : okind E o.op with
        | eff => exact absurd hkk hk
        | _ => rfl
      | true =>
        obtain ⟨v, M', he, h⟩ := h
        rcases h with ⟨hk, hp⟩ | ⟨hk, hp⟩ | ⟨hk, l, hl, hp⟩
        · obtain ⟨hp1, _⟩ := wPut_inv hp
          obtain ⟨s', ρ', pd', h1, h2, h3⟩ := pass_ok F r (s.did i m o v s.M .pure) acc _ pd hr (I.put F hx hs hn (wPut_lt hp)) (by
            intro p hpp
            rcases List.mem_cons.1 hpp with rfl | hpp
            · exact Or.inl (Or.inr rfl)
            · exact (P.more (set_mono hnone) (fun _ h => h)) p hpp) hp1
          refine ⟨s', ρ', pd', fun T hT => ?_, h2, h3⟩
          refine Eq.trans ?_ (h1 T hT)
          conv => lhs; unfold dpass
          rw [hb, dwant_eq, hwant, hk, look hT (fun _ _ h => h), he]; rfl
        · obtain ⟨hp1, _⟩ := wPut_inv hp
          obtain ⟨s', ρ', pd', h1, h2, h3⟩ := pass_ok F r (s.did i m o v s.M .read) acc _ _ hr (I.put F hx hs hn (wPut_lt hp)) (by
            intro p hpp
            rcases List.mem_cons.1 hpp with rfl | hpp
            · refine Or.inr ⟨_, List.mem_cons_self, rfl, fun V' M T hT hV hq => ?_⟩
              obtain ⟨v', M3, g1, g2⟩ := hq
              have e1 := look (M := M) hT fun j w hj => hV j w (set_mono hnone j w hj)
              have e2 : V'.get i = some v := hV i v (by show (s.V.set i _).get i = _; rw [Tr.get_set, if_pos rfl])
              unfold dcheck
              dsimp only
              rw [e1, g1, e2]; exact g2
            · exact (P.more (set_mono hnone) (fun _ h => List.mem_cons_of_mem _ h)) p hpp) hp1
          refine ⟨s', ρ', pd', fun T hT => ?_, h2, h3⟩
          refine Eq.trans ?_ (h1 T hT)
          conv => lhs; unfold dpass
          rw [hb, dwant_eq, hwant, hk, look hT (fun _ _ h => h), he]; rfl
        · obtain ⟨hp1, _⟩ := wPut_inv hp
          obtain ⟨s', ρ', pd', h1, h2, h3⟩ := pass_ok F r (s.did i m o v M' (.alloc s.M.nx l)) acc _ _ hr (I.put F hx hs hn (wPut_lt hp)) (by
            intro p hpp
            rcases List.mem_cons.1 hpp with rfl | hpp
            · refine Or.inr ⟨_, List.mem_cons_self, rfl, fun V' M T hT hV hq => ?_⟩
              obtain ⟨l', g1, g2⟩ := hq
              unfold dcheck
              dsimp only
              rw [g1]; exact g2
            · exact (P.more (set_mono hnone) (fun _ h => List.mem_cons_of_mem _ h)) p hpp) hp1
          refine ⟨s', ρ', pd', fun T hT => ?_, h2, h3⟩
          refine Eq.trans ?_ (h1 T hT)
          conv => lhs; unfold dpass
          rw [hb, dwant_eq, hwant, hk, look hT (fun _ _ h => h), he]; dsimp only [cond_true]; rw [hl]
theorem ppass_mono : ∀ (its : List DItem) (dn j : Nat), bit dn j = true → bit (ppass its dn).2.1 j = true
  | [], dn, j, h => h
  | x :: r, dn, j, h => by
    unfold ppass
    cases hc : (sub x.m dn && !bit dn x.i && early x.o.op) with
    | false => exact ppass_mono r dn j h
    | true => exact ppass_mono r _ j (by rw [bitOn_bit, h]; rfl)
theorem ppass_cov : ∀ (its : List DItem) (dn : Nat), ∀ x ∈ its, x ∈ (ppass its dn).1 ∨ bit (ppass its dn).2.1 x.i = true
  | [], dn, x, h => by cases h
  | y :: r, dn, x, h => by
    unfold ppass
    cases hc : (sub y.m dn && !bit dn y.i && early y.o.op) with
    | false =>
      rcases List.mem_cons.1 h with rfl | h
      · exact Or.inl List.mem_cons_self
      · rcases ppass_cov r dn x h with h | h
        · exact Or.inl (List.mem_cons_of_mem _ h)
        · exact Or.inr h
    | true =>
      rcases List.mem_cons.1 h with rfl | h
      · exact Or.inr (ppass_mono r _ _ (by rw [bitOn_bit, decide_eq_true rfl, Bool.or_true]))
      · exact ppass_cov r _ x h
theorem ppass_sub : ∀ (its : List DItem) (dn : Nat), ∀ x ∈ (ppass its dn).1, x ∈ its
  | [], dn, x, h => h
  | y :: r, dn, x, h => by
    unfold ppass at h
    cases hc : (sub y.m dn && !bit dn y.i && early y.o.op) with
    | false =>
      rw [hc] at h
      rcases List.mem_cons.1 h with rfl | h
      · exact List.mem_cons_self
      · exact List.mem_cons_of_mem _ (ppass_sub r dn x h)
    | true => rw [hc] at h; exact List.mem_cons_of_mem _ (ppass_sub r _ x h)
theorem chk_all {E : Env} {ρ0 : Reg} {W MS : Tr Nat} {ops : Array Oper} {V : Tr AV} {M : AM} {pend : List Pend} {pd : List Pnd} (P : MindOk E ρ0 W MS ops V pend pd) (h : ∀ p ∈ pd, p.2 M) : DChk E ρ0 W MS ops V M pend := fun T hT => by
  rw [List.all_eq_true]
  intro p hp
  rcases P p hp with (h1 | h1) | ⟨q, h1, _, h3⟩
  · unfold dcheck; rw [h1]
  · unfold dcheck; rw [h1]
  · exact h3 V M T hT (fun _ _ h => h) (h q h1)
theorem MindOk.filt {E : Env} {ρ0 : Reg} {W MS : Tr Nat} {ops : Array Oper} {V : Tr AV} {pend : List Pend} {pd : List Pnd} (P : MindOk E ρ0 W MS ops V pend pd) (m : Nat) : MindOk E ρ0 W MS ops V (pend.filter fun p => !bit m p.i) (pd.filter fun p => !bit m p.1) := by
  intro p hp
  rw [List.mem_filter] at hp
  rcases P p hp.1 with h1 | ⟨q, h1, h2, h3⟩
  · exact Or.inl h1
  · exact Or.inr ⟨q, List.mem_filter.2 ⟨h1, by rw [h2]; exact hp.2⟩, h2, h3⟩
theorem stage_ok {E : Env} {all : List DItem} {W MS : Tr Nat} {ops : Array Oper} {n : Nat} {ρ0 : Reg} (F : Fix all W MS ops) {K : Reg → AM → Prop} : ∀ (k : Nat) (its : List DItem) (s : DS) (ρ : Reg) (pd : List Pnd) (plan : List PS), dplan k its s.dn = some plan → (∀ x ∈ its, x ∈ all) →
    DI all n ρ0 MS s.V ρ s.dn → MindOk E ρ0 W MS ops s.V s.pend pd → wSteps E n ops plan ρ s.M pd K →
    DStage E ρ0 W MS ops k its s fun d => ∃ ρ', DI all n ρ0 MS d.V ρ' d.dn ∧ (∀ x ∈ its, bit d.dn x.i = true) ∧ (∀ j, bit s.dn j = true → bit d.dn j = true) ∧ K ρ' d.M
  | 0, _, _, _, _, _, h, _, _, _, _ => by cases h
  | k + 1, its, s, ρ, pd, plan, hp, hall, I, P, h => by
    unfold dplan at hp
    split at hp
    · rename_i w dn' st hpp
      cases hp
      have e1 : (ppass its s.dn).2.2 = st := by rw [hpp]
      rw [← e1] at h
      obtain ⟨s', ρ', pd', h1, h2, h3, h4, h5⟩ := pass_ok F its s [] ρ pd hall I P h
      refine ds_pass fun T hT => ⟨_, _, h1 T hT, chk_all h4 h5.1, ?_⟩
      rw [List.reverse_nil, List.nil_append, hpp]
      refine dn_nil ⟨ρ', h3, fun x hx => ?_, fun j hj => ?_, h5.2⟩
      · rcases ppass_cov its s.dn x hx with hh | hh
        · rw [hpp] at hh; cases hh
        · rw [h2]; exact hh
      · rw [h2]; exact ppass_mono its s.dn j hj
    · rename_i w x rest dn' st hpp
      cases hc : (sub x.m dn' && !bit dn' x.i && !early x.o.op && rest.all (fun y => !sub y.m dn')) with
      | false => rw [hc] at hp; cases hp
      | true =>
        rw [hc, cond_true] at hp
        cases hp2 : dplan k rest (bitOn dn' x.i) with
        | none => rw [hp2] at hp; cases hp
        | some p =>
          rw [hp2] at hp
          cases hp
          have e1 : (ppass its s.dn).2.2 = st := by rw [hpp]
          have e2 : (ppass its s.dn).2.1 = dn' := by rw [hpp]
          have e3 : (ppass its s.dn).1 = x :: rest := by rw [hpp]
          rw [← e1] at h
          obtain ⟨s', ρ', pd', h1, h2, h3, h4, hck, h5⟩ := pass_ok F its s [] ρ pd hall I P h
          rw [e2] at h2
          subst h2
          simp only [Bool.and_eq_true] at hc
          obtain ⟨⟨⟨hs, hn⟩, hl⟩, ha⟩ := hc
          have hn : bit s'.dn x.i = false := by simpa using hn
          have hl : early x.o.op = false := by simpa using hl
          have hin : ∀ y ∈ x :: rest, y ∈ its := fun y hy => ppass_sub its s.dn y (by rw [e3]; exact hy)
          have hx : x ∈ all := hall x (hin x List.mem_cons_self)
          have hrest : ∀ y ∈ rest, y ∈ all := fun y hy => hall y (hin y (List.mem_cons_of_mem _ hy))
          obtain ⟨i, o, m⟩ := x
          have ix := item2_inv (F.it _ hx)
          have hnone := none_of h3 hn
          have hfr : (sub m s'.dn && fresh s'.V i && rest.all (fun y => !sub y.m s'.dn)) = true := by
            rw [fresh_eq h3 i, hn, hs, ha]; rfl
          have look : evalOp E (rhoR E (dreg ρ0 W MS s'.V i m)) o.op s'.M = evalOp E (rhoR E ρ') o.op s'.M :=
            evalOp_congr2 o.op ix.1 fun u hu => dreg_eq F h3 (fun _ _ h => h) hx hs hn (ix.2.1 u hu)
          obtain ⟨o', ho, b, hw, h5⟩ := h5
          have ho2 := F.get _ hx
          rw [ho] at ho2; cases ho2
          have hwant := (want2 F h3 hx hs).trans hw
          have fin : ∀ {v : AV} {M' : AM}, (wPut n ρ' o.dst v fun ρ2 => wSteps E n ops p ρ2 M' (pd'.filter fun p => !bit m p.1) K) →
              DStage E ρ0 W MS ops k rest ⟨s'.V.set i (some v), M', bitOn s'.dn i, s'.pend.filter fun p => !bit m p.i⟩ fun d => ∃ ρ', DI all n ρ0 MS d.V ρ' d.dn ∧ (∀ x ∈ its, bit d.dn x.i = true) ∧ (∀ j, bit s.dn j = true → bit d.dn j = true) ∧ K ρ' d.M := by
            intro v M' hp
            obtain ⟨hp1, _⟩ := wPut_inv hp
            have := stage_ok F k rest ⟨s'.V.set i (some v), M', bitOn s'.dn i, s'.pend.filter fun p => !bit m p.i⟩ _ _ p hp2 hrest (h3.put F hx hs hn (wPut_lt hp)) ((h4.filt m).more (set_mono hnone) (fun _ h => h)) hp1
            intro T hT
            obtain ⟨kk, d, g1, ρ2, g2, g3, g4, g5⟩ := this T hT
            have up : ∀ j, bit s'.dn j = true → bit d.dn j = true := fun j hj => g4 j (by rw [bitOn_bit, hj]; rfl)
            refine ⟨kk, d, g1, ρ2, g2, fun x hx => ?_, fun j hj => up j (by rw [← e2]; exact ppass_mono its s.dn j hj), g5⟩
            rcases ppass_cov its s.dn x hx with hh | hh
            · rw [e3] at hh
              rcases List.mem_cons.1 hh with rfl | hh
              · exact g4 _ (by rw [bitOn_bit, decide_eq_true rfl, Bool.or_true])
              · exact g3 x hh
            · rw [e2] at hh; exact up _ hh
          refine ds_pass fun T hT => ⟨_, _, h1 T hT, chk_all h4 hck, ?_⟩
          rw [List.reverse_nil, List.nil_append, e3]
          cases b with
          | false => exact dn_not hfr (late hl) hwant (fin h5)
          | true =>
            obtain ⟨a, ha, h5⟩ := h5
            rw [← look] at ha
            cases a with
            | val v M' => exact dn_val hfr (late hl) hwant ha h5.1 (fin h5.2)
            | skip M' => exact dn_do hfr (late hl) hwant ha h5.1 (fin h5.2)
            | enter f args =>
              refine dn_call hfr (late hl) hwant ha h5 fun e M' hh => ?_
              obtain ⟨v, g1, g2, g3⟩ := hh
              exact ⟨v, g1, g2, fin g3⟩
            | round l args =>
              obtain ⟨z, e, M', g1, v, rfl, g2, g3⟩ := h5
              refine ⟨hfr, late hl, ?_⟩
              rw [hwant]
              refine ⟨_, ha, z + 1, v, M', ?_, g2, fin g3⟩
              show (match (recN E (z + 1)).round l args s'.M with | some (.ret v, M') => some (v, M') | _ => none) = _
              rw [show (recN E (z + 1)).round l args s'.M = evalRound E (recN E z) l args s'.M from rfl, g1]
            | defer d => exact h5.elim
            | recover => exact h5.elim
            | panic v M' => exact h5.elim
def finR (V : Tr AV) : List DItem → Reg → Reg
  | [], ρ => ρ
  | x :: r, ρ => finR V r (putR ρ x.o.dst ((V.get x.i).getD .undef))
theorem fin_dfin {all : List DItem} {MS : Tr Nat} {n : Nat} {ρ0 ρf : Reg} {V : Tr AV} {dn : Nat} (I : DI all n ρ0 MS V ρf dn) {K : Reg → Prop} : ∀ (its : List DItem) (ρ : Reg), (∀ x ∈ its, x ∈ all) → (∀ x ∈ its, bit dn x.i = true) → K (finR V its ρ) → DFin n its V ρ K
  | [], ρ, _, _, h => h
  | ⟨i, o, m⟩ :: r, ρ, hall, hb, h => by
    have hx := hall _ List.mem_cons_self
    have hbx := hb _ List.mem_cons_self
    have hc := I.c i
    rw [hbx] at hc
    cases hv : V.get i with
    | none => rw [hv] at hc; cases hc
    | some v =>
      unfold finR at h
      rw [hv] at h
      refine ⟨v, hv, ?_⟩
      have hk := fin_dfin I r _ (fun y hy => hall y (List.mem_cons_of_mem _ hy)) (fun y hy => hb y (List.mem_cons_of_mem _ hy)) h
      cases hd : o.dst with
      | none => rw [hd] at hk; exact hk
      | some d =>
        obtain ⟨_, _, _, hlt⟩ := I.a _ hx hbx d hd
        rw [hd] at hk
        exact ⟨hlt, hk⟩
theorem finR_A {V : Tr AV} {t : Nat} {w : Option AV} : ∀ (its : List DItem) (ρ : Reg), (∀ x ∈ its, x.o.dst = some t → some ((V.get x.i).getD .undef) = w) → ρ t = w → finR V its ρ t = w
  | [], _, _, h => h
  | x :: r, ρ, hw, h => by
    unfold finR
    refine finR_A r _ (fun y hy => hw y (List.mem_cons_of_mem _ hy)) ?_
    unfold putR
    cases hd : x.o.dst with
    | none => exact h
    | some d =>
      by_cases he : t = d
      · subst he; rw [← hw x List.mem_cons_self hd]; exact upd_eq ρ t _
      · exact (upd_ne he).trans h
theorem finR_B {V : Tr AV} {t : Nat} {w : Option AV} : ∀ (its : List DItem) (ρ : Reg), (∀ x ∈ its, x.o.dst = some t → some ((V.get x.i).getD .undef) = w) → (∃ x ∈ its, x.o.dst = some t) → finR V its ρ t = w
  | [], _, _, h => by obtain ⟨x, hx, _⟩ := h; cases hx
  | x :: r, ρ, hw, h => by
    unfold finR
    have hw' := fun y hy => hw y (List.mem_cons_of_mem x hy)
    by_cases hd : x.o.dst = some t
    · refine finR_A r _ hw' ?_
      rw [hd, ← hw x List.mem_cons_self hd]; exact upd_eq ρ t _
    · obtain ⟨y, hy, hyd⟩ := h
      rcases List.mem_cons.1 hy with rfl | hy
      · exact absurd hyd hd
      · exact finR_B r _ hw' ⟨y, hy, hyd⟩
theorem finR_eq {all : List DItem} {W MS : Tr Nat} {ops : Array Oper} {n : Nat} {ρ0 ρf : Reg} {V : Tr AV} {dn : Nat} (I : DI all n ρ0 MS V ρf dn) (hb : ∀ x ∈ all, bit dn x.i = true) : finR V all ρ0 = ρf := by
  funext t
  have hw : ∀ x ∈ all, x.o.dst = some t → some ((V.get x.i).getD .undef) = ρf t := fun x hx hd => by
    obtain ⟨v, h1, h2, _⟩ := I.a x hx (hb x hx) t hd
    rw [h1, h2]; rfl
  by_cases he : ∃ x ∈ all, x.o.dst = some t
  · exact finR_B all ρ0 hw he
  · refine finR_A all ρ0 hw (I.b t fun x hx hd => absurd ⟨x, hx, hd⟩ he).symm
theorem ditems_in : ∀ (l : List Oper) (i0 : Nat) (MS W : Tr Nat) (its : List DItem) (MS' W' : Tr Nat), ditems l i0 MS W = some (its, MS', W') → (∀ x ∈ its, i0 ≤ x.i ∧ l[x.i - i0]? = some x.o) ∧ ∀ k o, l[k]? = some o → ∃ x ∈ its, x.i = i0 + k ∧ x.o = o
  | [], _, _, _, _, _, _, h => by
    cases h
    exact ⟨fun x hx => (by cases hx), fun k o hk => (by cases hk)⟩
  | o :: r, i0, MS, W, its, MS', W', h => by
    unfold ditems at h
    split at h
    · split at h
      · rename_i l MS2 W2 h2
        cases h
        obtain ⟨g1, g2⟩ := ditems_in r _ _ _ _ _ _ h2
        refine ⟨fun x hx => ?_, fun k o' hk => ?_⟩
        · rcases List.mem_cons.1 hx with rfl | hx
          · exact ⟨Nat.le_refl _, by show (o :: r)[i0 - i0]? = some o; rw [Nat.sub_self]; rfl⟩
          · obtain ⟨h1, h2⟩ := g1 x hx
            refine ⟨by omega, ?_⟩
            rw [show x.i - i0 = (x.i - (i0 + 1)) + 1 by omega]; exact h2
        · cases k with
          | zero => cases hk; exact ⟨_, List.mem_cons_self, rfl, rfl⟩
          | succ k =>
            obtain ⟨x, hx, h1, h2⟩ := g2 k o' hk
            exact ⟨x, List.mem_cons_of_mem _ hx, by rw [h1]; omega, h2⟩
      · cases h
    · cases h
def psBeq : PS → PS → Bool
  | .run i m, .run j k => Nat.beq i j && Nat.beq m k
  | .eff i m, .eff j k => Nat.beq i j && Nat.beq m k
  | .chk, .chk => true
  | _, _ => false
theorem psBeq_eq (a b : PS) (h : psBeq a b = true) : a = b := by
  cases a <;> cases b <;> simp only [psBeq, Bool.and_eq_true] at h <;> first | (cases h; done) | rfl | (rw [beq_eq h.1, beq_eq h.2])
def planOk (ops : Array Oper) (plan : List PS) : Bool :=
  (bif depL ops.toList then modeOk .text ops && modeOk .gc ops else true) && match ditems ops.toList 0 .leaf .leaf with
  | some (its, MS, W) => its.all (item2 W MS ops) && match dplan (its.length + 1) its 0 with
    | some p => listBeq psBeq p plan
    | none => false
  | none => false
theorem w_order {E : Env} {n : Nat} {top : Bool} {id : Nat} {ops : Array Oper} {ρ : Reg} {D : List ADef} {M : AM} {Q : KE} (plan : List PS) (hs : planOk ops plan = true) (h : wSteps E n ops plan ρ M [] fun ρ' M' => Q .normal ρ' D M') : wC E n top (.region id ops true) ρ D M Q := by
  unfold planOk at hs
  rw [Bool.and_eq_true] at hs
  obtain ⟨h1, h2⟩ := hs
  split at h2
  · rename_i its MS W hi
    rw [Bool.and_eq_true] at h2
    obtain ⟨h2, h3⟩ := h2
    split at h3
    · rename_i p hp
      have := listBeq_eq psBeq_eq h3
      subst this
      obtain ⟨d1, d2⟩ := ditems_in _ _ _ _ _ _ _ hi
      have F : Fix its W MS ops := by
        refine ⟨fun x hx => List.all_eq_true.1 h2 x hx, fun j d hj => ?_, fun x hx => ?_⟩
        · obtain ⟨o, ho, hd⟩ := dstIs_inv hj
          obtain ⟨x, hx, g1, g2⟩ := d2 j o (by simpa using ho)
          exact ⟨x, hx, by omega, by rw [g2]; exact hd⟩
        · have := (d1 x hx).2
          simpa using this
      have I : DI its n ρ MS (.leaf : Tr AV) ρ 0 := ⟨fun x _ hb => (by rw [zero_bit] at hb; cases hb), fun _ _ => rfl, fun j => (by rw [zero_bit]; rfl), fun l ml hb => (by rw [zero_bit] at hb; cases hb)⟩
      have st := stage_ok F (its.length + 1) its ⟨.leaf, M, 0, []⟩ ρ [] p hp (fun _ h => h) I (fun p hp => by cases hp) h
      refine w_draw hi h1 fun T hT => ?_
      obtain ⟨k, d, g1, ρ', g2, g3, _, g4⟩ := st T hT
      refine ⟨k, d, g1, fin_dfin g2 its ρ (fun _ h => h) g3 ?_⟩
      rw [finR_eq (W := W) (ops := ops) g2 g3]
      exact g4
    · cases h3
  · cases h2
section
variable {E : Env} {n : Nat} {ops : Array Oper} {r : List PS} {o : Oper} {ρ : Reg} {M M' : AM} {K : Reg → AM → Prop} {d : Tmp} {v : AV} {i m : Nat} {pd : List Pnd}
theorem st_nil (k : K ρ M) : wSteps E n ops [] ρ M pd K := k
theorem st_pure (ho : ops[i]? = some o) (hg : wantedR ops o ρ = some true) (hd : o.dst = some d) (hn : Nat.blt d n = true) (hk : okind E o.op = .pure) (he : evalOp E (rhoR E ρ) o.op M = some (.val v M')) (k : wSteps E n ops r (upd ρ d v) M pd K) : wSteps E n ops (.run i m :: r) ρ M pd K :=
  ⟨o, ho, true, hg, v, M', he, Or.inl ⟨hk, by rw [hd]; exact ⟨Nat.le_of_ble_eq_true hn, k⟩⟩⟩
theorem st_read (ho : ops[i]? = some o) (hg : wantedR ops o ρ = some true) (hd : o.dst = some d) (hn : Nat.blt d n = true) (hk : okind E o.op = .read) (he : evalOp E (rhoR E ρ) o.op M = some (.val v M'))
    (k : wSteps E n ops r (upd ρ d v) M ((i, fun M2 => ∃ v' M3, evalOp E (rhoR E ρ) o.op M2 = some (.val v' M3) ∧ avBeq 8 v' v = true) :: pd) K) : wSteps E n ops (.run i m :: r) ρ M pd K :=
  ⟨o, ho, true, hg, v, M', he, Or.inr (Or.inl ⟨hk, by rw [hd]; exact ⟨Nat.le_of_ble_eq_true hn, k⟩⟩)⟩
theorem st_alloc {l : List AV} (ho : ops[i]? = some o) (hg : wantedR ops o ρ = some true) (hd : o.dst = some d) (hn : Nat.blt d n = true) (hk : okind E o.op = .alloc) (he : evalOp E (rhoR E ρ) o.op M = some (.val v M')) (hl : M'.get M.nx = some (.cells l false false))
    (k : wSteps E n ops r (upd ρ d v) M' ((i, fun M2 => ∃ l', M2.get M.nx = some (.cells l' false false) ∧ listBeq (avBeq 8) l' l = true) :: pd) K) : wSteps E n ops (.run i m :: r) ρ M pd K :=
  ⟨o, ho, true, hg, v, M', he, Or.inr (Or.inr ⟨hk, l, hl, by rw [hd]; exact ⟨Nat.le_of_ble_eq_true hn, k⟩⟩)⟩
theorem st_not (ho : ops[i]? = some o) (hg : wantedR ops o ρ = some false) (hd : o.dst = some d) (hn : Nat.blt d n = true) (hk : okind E o.op ≠ .eff) (k : wSteps E n ops r (upd ρ d .undef) M pd K) : wSteps E n ops (.run i m :: r) ρ M pd K :=
  ⟨o, ho, false, hg, hk, by rw [hd]; exact ⟨Nat.le_of_ble_eq_true hn, k⟩⟩
theorem st_chk (h : ∀ p ∈ pd, p.2 M) (k : wSteps E n ops r ρ M pd K) : wSteps E n ops (.chk :: r) ρ M pd K := ⟨h, k⟩
theorem ck_nil : ∀ p ∈ ([] : List Pnd), p.2 M := fun _ h => by cases h
theorem ck_cons {i : Nat} {P : AM → Prop} (h : P M) (k : ∀ p ∈ pd, p.2 M) : ∀ p ∈ ((i, P) :: pd : List Pnd), p.2 M := fun p hp => by
  rcases List.mem_cons.1 hp with rfl | hp
  · exact h
  · exact k p hp
theorem pf_nil : (([] : List Pnd).filter fun p => !bit m p.1) = [] := rfl
theorem pf_keep {i : Nat} {P : AM → Prop} {pd' : List Pnd} (hb : bit m i = false) (k : (pd.filter fun p => !bit m p.1) = pd') : (((i, P) :: pd : List Pnd).filter fun p => !bit m p.1) = (i, P) :: pd' := by rw [List.filter_cons, hb, k]; rfl
theorem pf_drop {i : Nat} {P : AM → Prop} {pd' : List Pnd} (hb : bit m i = true) (k : (pd.filter fun p => !bit m p.1) = pd') : (((i, P) :: pd : List Pnd).filter fun p => !bit m p.1) = pd' := by rw [List.filter_cons, hb, k]; rfl
theorem st_effnot {pd' : List Pnd} (hf : (pd.filter fun p => !bit m p.1) = pd') (ho : ops[i]? = some o) (hg : wantedR ops o ρ = some false) (hd : o.dst = some d) (hn : Nat.blt d n = true) (k : wSteps E n ops r (upd ρ d .undef) M pd' K) : wSteps E n ops (.eff i m :: r) ρ M pd K := by
  subst hf
  exact ⟨o, ho, false, hg, by rw [hd]; exact ⟨Nat.le_of_ble_eq_true hn, k⟩⟩
theorem st_effval {pd' : List Pnd} (hf : (pd.filter fun p => !bit m p.1) = pd') (ho : ops[i]? = some o) (hg : wantedR ops o ρ = some true) (hd : o.dst = some d) (hn : Nat.blt d n = true) (he : evalOp E (rhoR E ρ) o.op M = some (.val v M')) (hx : M.nx ≤ M'.nx) (k : wSteps E n ops r (upd ρ d v) M' pd' K) : wSteps E n ops (.eff i m :: r) ρ M pd K := by
  subst hf
  exact ⟨o, ho, true, hg, _, he, hx, by rw [hd]; exact ⟨Nat.le_of_ble_eq_true hn, k⟩⟩
theorem st_effdo {pd' : List Pnd} (hf : (pd.filter fun p => !bit m p.1) = pd') (ho : ops[i]? = some o) (hg : wantedR ops o ρ = some true) (hd : o.dst = none) (he : evalOp E (rhoR E ρ) o.op M = some (.skip M')) (hx : M.nx ≤ M'.nx) (k : wSteps E n ops r ρ M' pd' K) : wSteps E n ops (.eff i m :: r) ρ M pd K := by
  subst hf
  exact ⟨o, ho, true, hg, _, he, hx, by rw [hd]; exact k⟩
theorem st_call {f : FuncId} {args : List AV} {pd' : List Pnd} (hf : (pd.filter fun p => !bit m p.1) = pd') (ho : ops[i]? = some o) (hg : wantedR ops o ρ = some true) (hd : o.dst = some d) (hn : Nat.blt d n = true) (he : evalOp E (rhoR E ρ) o.op M = some (.enter f args))
    (hc : CallsTo E f args M fun e M' => match e with | .ret v => M.nx ≤ M'.nx ∧ wSteps E n ops r (upd ρ d v) M' pd' K | .pan _ => False) : wSteps E n ops (.eff i m :: r) ρ M pd K := by
  subst hf
  exact ⟨o, ho, true, hg, _, he, hc.mono fun e M' h => by
    cases e with
    | ret v => exact ⟨v, rfl, h.1, by rw [hd]; exact ⟨Nat.le_of_ble_eq_true hn, h.2⟩⟩
    | pan v => exact h.elim⟩
end
end
end Go.Abm
