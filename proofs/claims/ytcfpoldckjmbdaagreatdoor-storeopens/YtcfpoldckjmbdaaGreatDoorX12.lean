/-
  A part of the proof that pumicelaw17.StoreOpens returns true for every geometry, key, number and group (a machine over names of blocks, its soundness, the calls of the store for any geometry, the chapter's example as a run). Condition: the listed package variables hold what the program's text lays; the card ties that.
-/
import Derived.Test.YtcfpoldckjmbdaaGreatDoorX11
set_option linter.unusedVariables false
set_option linter.unusedSimpArgs false
set_option linter.unusedSectionVars false
namespace Go.Abm
structure Rec.le (R R' : Rec) : Prop where
  loop : ∀ {t c s M o}, R.loop t c s M = some o → R'.loop t c s M = some o
  call : ∀ {f a M o}, R.call f a M = some o → R'.call f a M = some o
  round : ∀ {l a M o}, R.round l a M = some o → R'.round l a M = some o
section
variable {E : Env} {R R' : Rec} (hle : R.le R')
include hle
theorem finOp_mono {top : Bool} {s : St} {dst : Option Tmp} {r : Option ARes} {M : AM} {next next' : St → AM → Option Out} (hn : ∀ s M o, next s M = some o → next' s M = some o) {o : Out}
    (h : finOp R top s dst r M next = some o) : finOp R' top s dst r M next' = some o := by
  unfold finOp at h ⊢
  cases r with
  | none => exact h
  | some r =>
    cases r with
    | val v M' => dsimp only at h ⊢; split at h <;> first | exact hn _ _ _ h | exact h
    | skip M' => dsimp only at h ⊢; split at h <;> first | exact hn _ _ _ h | exact h
    | enter f args =>
      dsimp only at h ⊢
      split at h
      · cases h
      · rename_i v M' hc; rw [hle.call hc]; dsimp only; split at h <;> first | exact hn _ _ _ h | exact h
      · rename_i v M' hc; rw [hle.call hc]; exact h
    | round l args =>
      dsimp only at h ⊢
      split at h
      · cases h
      · rename_i v M' hc; rw [hle.round hc]; dsimp only; split at h <;> first | exact hn _ _ _ h | exact h
      · rename_i v M' hc; rw [hle.round hc]; exact h
    | defer d => dsimp only at h ⊢; split at h <;> first | exact hn _ _ _ h | exact h
    | recover => exact h
    | panic v M' => exact h
theorem evalOps_mono {top : Bool} {ops : Array Oper} : ∀ (l : List Oper) (s : St) (M : AM) (o : Out), evalOps E R top ops l s M = some o → evalOps E R' top ops l s M = some o
  | [], s, M, o, h => h
  | x :: rest, s, M, o, h => by
    unfold evalOps at h ⊢
    split at h
    · cases h
    · try dsimp only
      split at h <;> first | exact evalOps_mono rest _ _ _ h | exact h
    · try dsimp only
      exact finOp_mono hle (fun s M o => evalOps_mono rest s M o) h
theorem effRes_mono {r : ARes} {M : AM} {o : AV × AM} (h : effRes R r M = some o) : effRes R' r M = some o := by
  cases r with
  | enter f args =>
    simp only [effRes] at h ⊢
    split at h
    · rename_i v M' hc; rw [hle.call hc]; exact h
    · cases h
  | round l args =>
    simp only [effRes] at h ⊢
    split at h
    · rename_i v M' hc; rw [hle.round hc]; exact h
    · cases h
  | _ => exact h
theorem dstage_mono {c : DC} : ∀ (n : Nat) (its : List DItem) (s : DS) (o : DS), dstage E R c n its s = some o → dstage E R' c n its s = some o
  | 0, _, _, _, h => h
  | n + 1, its, s, o, h => by
    unfold dstage at h ⊢
    split at h
    · cases h
    rename_i its1 s1 hp
    cases hc : s1.pend.all (dcheck E c s1.V s1.M) with
    | false => rw [hc] at h; cases h
    | true =>
      rw [hc] at h
      dsimp only [cond] at h ⊢
      try rw [hc]
      try dsimp only [cond]
      split at h
      · exact h
      rename_i j x m rest
      cases hc2 : (sub m s1.dn && fresh s1.V j && rest.all (fun y => !sub y.m s1.dn)) with
      | false => rw [hc2] at h; cases h
      | true =>
        rw [hc2] at h
        dsimp only [cond] at h ⊢
        try rw [hc2]
        try dsimp only [cond]
        split at h
        · rename_i hk hw
          try rw [hk, hw]
          try dsimp only
          split at h
          · rename_i r hr
            split at h
            · rename_i v M' he
              try rw [hr]
              rw [effRes_mono hle he]
              dsimp only at h ⊢
              cases hb : Nat.ble s1.M.nx M'.nx with
              | false => rw [hb] at h; cases h
              | true => rw [hb] at h; dsimp only [cond] at h ⊢; try rw [hb]
                        exact dstage_mono n _ _ _ h
            · cases h
          · cases h
        · rename_i hk hw
          try rw [hk, hw]
          try dsimp only
          exact dstage_mono n _ _ _ h
        · cases h
theorem evalDraw_mono {ops : Array Oper} {s : St} {M : AM} {o : Out} (h : evalDraw E R ops s M = some o) : evalDraw E R' ops s M = some o := by
  unfold evalDraw at h ⊢
  split at h
  · cases h
  · cases h
  · rename_i its MS W h1 h2
    try dsimp only
    split at h
    · rename_i d hd
      rw [dstage_mono hle _ _ _ _ hd]
      exact h
    · cases h
theorem evalC_mono : ∀ (c : Code) (top : Bool) (s : St) (M : AM) (o : Out), evalC E R top c s M = some o → evalC E R' top c s M = some o
  | .skip, top, s, M, o, h => h
  | .region _ ops false, top, s, M, o, h => evalOps_mono hle _ _ _ _ h
  | .region _ ops true, top, s, M, o, h => evalDraw_mono hle h
  | .seq a b, top, s, M, o, h => by
    unfold evalC at h ⊢
    split at h
    · rename_i s' M' ha
      rw [evalC_mono a _ _ _ _ ha]
      exact evalC_mono b _ _ _ _ h
    · rename_i r hne
      rw [evalC_mono a _ _ _ _ h]
      obtain ⟨e, s1, M1⟩ := o
      cases e with
      | normal => exact absurd h (hne s1 M1)
      | _ => rfl
  | .cond c a b, top, s, M, o, h => by
    unfold evalC at h ⊢
    split at h
    · exact evalC_mono a _ _ _ _ h
    · exact evalC_mono b _ _ _ _ h
    · cases h
  | .block id b, top, s, M, o, h => by
    unfold evalC at h ⊢
    split at h
    · rename_i i s' M' ha
      rw [evalC_mono b _ _ _ _ ha]
      exact h
    · rename_i r hne
      rw [evalC_mono b _ _ _ _ h]
      obtain ⟨e, s1, M1⟩ := o
      cases e with
      | exit i => exact absurd h (hne i s1 M1)
      | _ => rfl
  | .loop b, top, s, M, o, h => by
    unfold evalC at h ⊢
    split at h
    · rename_i s' M' ha
      rw [evalC_mono b _ _ _ _ ha]
      exact hle.loop h
    · rename_i r hne
      rw [evalC_mono b _ _ _ _ h]
      obtain ⟨e, s1, M1⟩ := o
      cases e with
      | normal => exact absurd h (hne s1 M1)
      | _ => rfl
  | .rangeFunc f ps asg b, top, s, M, o, h => by
    unfold evalC at h ⊢
    split at h
    · rename_i fv
      dsimp only at h ⊢
      split at h
      · rename_i g args hg
        split at h
        · rename_i v M3 hc
          rw [hle.call hc]
          exact h
        · rename_i v M3 hc
          rw [hle.call hc]
          exact h
        · cases h
      · cases h
    · cases h
  | .exit id, top, s, M, o, h => h
  | .ret, top, s, M, o, h => h
  | .scope _, top, s, M, o, h => h
  | .label _, top, s, M, o, h => h
  | .goto _, top, s, M, o, h => h
  | .refuse _, top, s, M, o, h => h
omit hle in
theorem fin_mono {fn : Func} {a b : Option Out} (hab : ∀ o, a = some o → b = some o) {M : AM} (h : fin E fn a = some M) : fin E fn b = some M := by
  cases a with
  | none => cases h
  | some o => rw [hab o rfl]; exact h
theorem evalDefer_mono {f : FuncId} {args : List AV} {u : AMode} {M : AM} {o : AMode × AM} (h : evalDefer E R f args u M = some o) : evalDefer E R' f args u M = some o := by
  unfold evalDefer at h ⊢
  split at h
  · cases h
  rename_i fn hf
  try rw [hf]
  try dsimp only
  split at h
  · cases h
  rename_i c hb
  try rw [hb]
  try dsimp only
  split at h
  · rename_i x rest hr
    dsimp only at h ⊢
    split at h
    · rename_i s hs
      obtain ⟨M1, h1, h2⟩ := map_some_inv h
      rw [fin_mono (fun o h => evalC_mono hle _ _ _ _ _ h) h1]
      exact congrArg some h2
    · cases h
  · obtain ⟨M1, h1, h2⟩ := map_some_inv h
    rw [fin_mono (fun o h => evalC_mono hle _ _ _ _ _ h) h1]
    exact congrArg some h2
theorem evalDefers_mono : ∀ (n : Nat) (D : List ADef) (u : AMode) (M : AM) (o : AMode × AM), evalDefers E R n D u M = some o → evalDefers E R' n D u M = some o
  | n, [], u, M, o, h => by
    have e1 : evalDefers E R n [] u M = some (u, M) := by cases n <;> rfl
    have e2 : evalDefers E R' n [] u M = some (u, M) := by cases n <;> rfl
    rw [e2]; rw [e1] at h; exact h
  | 0, d :: ds, u, M, o, h => by cases h
  | n + 1, .coll b :: ds, u, M, o, h => by
    simp only [evalDefers] at h ⊢
    split at h
    · exact evalDefers_mono n _ _ _ _ h
    · cases h
  | n + 1, .call k cap args :: ds, u, M, o, h => by
    cases k with
    | func f =>
      simp only [evalDefers] at h ⊢
      split at h
      · rename_i u' M' hd
        rw [evalDefer_mono hle hd]
        exact evalDefers_mono n _ _ _ _ h
      · cases h
    | _ => cases h
theorem leaveF_mono {a b : Option Out} (hab : ∀ o, a = some o → b = some o) {o : AMode × Tr AV × AM} (h : leaveF E R a = some o) : leaveF E R' b = some o := by
  cases a with
  | none => cases h
  | some x =>
    rw [hab x rfl]
    obtain ⟨e, ⟨n, T, D⟩, M⟩ := x
    cases e with
    | normal =>
      simp only [leaveF] at h ⊢
      obtain ⟨y, h1, h2⟩ := map_some_inv h
      rw [evalDefers_mono hle _ _ _ _ _ h1]; exact congrArg some h2
    | ret =>
      simp only [leaveF] at h ⊢
      obtain ⟨y, h1, h2⟩ := map_some_inv h
      rw [evalDefers_mono hle _ _ _ _ _ h1]; exact congrArg some h2
    | panic v =>
      simp only [leaveF] at h ⊢
      obtain ⟨y, h1, h2⟩ := map_some_inv h
      rw [evalDefers_mono hle _ _ _ _ _ h1]; exact congrArg some h2
    | exit i => cases h
theorem evalCall_mono {f : FuncId} {args : List AV} {M : AM} {o : AEnd × AM} (h : evalCall E R f args M = some o) : evalCall E R' f args M = some o := by
  unfold evalCall at h ⊢
  split at h
  · cases h
  rename_i fn hf
  try rw [hf]
  try dsimp only
  split at h
  · cases h
  rename_i c hb
  try rw [hb]
  try dsimp only
  split at h
  · exact h
  · rename_i hs
    cases hl : leaveF E R (evalC E R true c (start fn args) M) with
    | none => rw [hl] at h; cases h
    | some x =>
      rw [hl] at h
      rw [leaveF_mono hle (fun o h => evalC_mono hle _ _ _ _ _ h) hl]
      exact h
theorem evalRound_mono {l : Nat} {args : List AV} {M : AM} {o : AEnd × AM} (h : evalRound E R l args M = some o) : evalRound E R' l args M = some o := by
  unfold evalRound at h ⊢
  split at h
  case h_2 => cases h
  try dsimp only
  split at h
  · cases h
  rename_i s0 hs
  try rw [hs]
  try dsimp only
  split at h
  case h_2 => cases h
  rename_i ha
  rw [evalC_mono hle _ _ _ _ _ ha]
  dsimp only
  split at h
  case h_2 => cases h
  rename_i hg
  try rw [hg]
  try dsimp only
  split at h
  case h_4 => cases h
  all_goals (rename_i hb; rw [evalC_mono hle _ _ _ _ _ hb]; exact h)
end
theorem recN_le (E : Env) : ∀ (n : Nat), (recN E n).le (recN E (n + 1))
  | 0 => Rec.le.mk (fun {t c s M o} (h : none = some o) => nomatch h) (fun {f a M o} (h : none = some o) => nomatch h) (fun {l a M o} (h : none = some o) => nomatch h)
  | n + 1 => Rec.le.mk (fun {t c s M o} h => evalC_mono (recN_le E n) (.loop c) t s M o h) (fun {f a M o} h => evalCall_mono (recN_le E n) h) (fun {l a M o} h => evalRound_mono (recN_le E n) h)
theorem Rec.le.refl (R : Rec) : R.le R := ⟨id, id, id⟩
theorem Rec.le.trans {A B C : Rec} (h : A.le B) (h' : B.le C) : A.le C := Rec.le.mk (fun e => h'.loop (h.loop e)) (fun e => h'.call (h.call e)) (fun e => h'.round (h.round e))
theorem recN_mono (E : Env) {n m : Nat} (h : n ≤ m) : (recN E n).le (recN E m) := by
  induction h with
  | refl => exact .refl _
  | step _ ih => exact ih.trans (recN_le E _)
end Go.Abm

namespace Go.Abm
abbrev Reg := Nat → Option AV
def upd (ρ : Reg) (d : Nat) (v : AV) : Reg := fun i => bif Nat.beq i d then some v else ρ i
theorem upd_eq (ρ : Reg) (d : Nat) (v : AV) : upd ρ d v d = some v := by simp only [upd, nbeq_true rfl, cond_true]
theorem upd_ne {ρ : Reg} {d i : Nat} {v : AV} (h : i ≠ d) : upd ρ d v i = ρ i := by simp only [upd, nbeq_false h, cond_false]
theorem upd_get (T : Tr AV) (d : Nat) (v : AV) : (T.set d (some v)).get = upd T.get d v := by
  funext i; rw [Tr.get_set]
  by_cases h : i = d
  · subst h; rw [if_pos rfl, upd_eq]
  · rw [if_neg h, upd_ne h]
noncomputable section
def rhoR (E : Env) (ρ : Reg) : Rho
  | .tmp t => ρ t
  | .const v => ofV 4 v
  | .global g => bif Nat.blt g E.G then some (.ptr g 0) else none
  | .func f => some (.fn (.func f) [] [])
theorem rho_eq (E : Env) (T : Tr AV) : rho E T = rhoR E T.get := by
  funext x; cases x <;> rfl
abbrev KO := Reg → List ADef → AM → Prop
abbrev KE := AExit → Reg → List ADef → AM → Prop
abbrev KC := AEnd → AM → Prop
def CallsTo (E : Env) (f : FuncId) (args : List AV) (M : AM) (Q : KC) : Prop := ∃ m e M', evalCall E (recN E m) f args M = some (e, M') ∧ Q e M'
def RoundTo (E : Env) (l : Nat) (args : List AV) (M : AM) (Q : KC) : Prop := ∃ m e M', evalRound E (recN E m) l args M = some (e, M') ∧ Q e M'
def CodeTo (E : Env) (n : Nat) (top : Bool) (c : Code) (ρ : Reg) (D : List ADef) (M : AM) (Q : KE) : Prop :=
  ∀ T : Tr AV, T.get = ρ → ∃ m o, evalC E (recN E m) top c ⟨n, T, D⟩ M = some o ∧ o.s.n = n ∧ Q o.e o.s.T.get o.s.D o.M
def wPut (n : Nat) (ρ : Reg) (dst : Option Tmp) (v : AV) (K : Reg → Prop) : Prop :=
  match dst with
  | some d => d < n ∧ K (upd ρ d v)
  | none => K ρ
def wRes (E : Env) (n : Nat) (top : Bool) (ρ : Reg) (D : List ADef) (dst : Option Tmp) (r : ARes) (M : AM) (K : KO) (Q : KE) : Prop :=
  match r with
  | .val v M' => wPut n ρ dst v fun ρ' => K ρ' D M'
  | .skip M' => wPut n ρ dst .undef fun ρ' => K ρ' D M'
  | .enter f args => CallsTo E f args M fun e M' => match e with
    | .ret v => wPut n ρ dst v fun ρ' => K ρ' D M'
    | .pan v => Q (.panic v) ρ D M'
  | .round l args => RoundTo E l args M fun e M' => match e with
    | .ret v => wPut n ρ dst v fun ρ' => K ρ' D M'
    | .pan v => Q (.panic v) ρ D M'
  | .defer d => top = true ∧ wPut n ρ dst .undef fun ρ' => K ρ' (d :: D) M
  | .recover => False
  | .panic v M' => Q (.panic v) ρ D M'
def wantedR (ops : Array Oper) (o : Oper) (ρ : Reg) : Option Bool :=
  match o.guard with
  | none => some true
  | some (j, want) => match ops[j]? with
    | some oj => match oj.dst with
      | some d => match ρ d with
        | some (.bool b) => some (b == want)
        | some _ => some false
        | none => none
      | none => some false
    | none => some false
def wOps (E : Env) (n : Nat) (top : Bool) (ops : Array Oper) : List Oper → Reg → List ADef → AM → KE → Prop
  | [], ρ, D, M, Q => Q .normal ρ D M
  | o :: rest, ρ, D, M, Q =>
    ∃ b, wantedR ops o ρ = some b ∧ match b with
      | false => wPut n ρ o.dst .undef fun ρ' => wOps E n top ops rest ρ' D M Q
      | true => ∃ r, evalOp E (rhoR E ρ) o.op M = some r ∧ wRes E n top ρ D o.dst r M (fun ρ' D' M' => wOps E n top ops rest ρ' D' M' Q) Q
def seqK (e : AExit) (K : Prop) (Q : Prop) : Prop :=
  match e with
  | .normal => K
  | _ => Q
def blockK (id : Nat) (e : AExit) (ρ : Reg) (D : List ADef) (M : AM) (Q : KE) : Prop :=
  match e with
  | .exit i => if i = id then Q .normal ρ D M else Q (.exit i) ρ D M
  | e => Q e ρ D M
def wC (E : Env) (n : Nat) (top : Bool) : Code → Reg → List ADef → AM → KE → Prop
  | .skip, ρ, D, M, Q => Q .normal ρ D M
  | .region _ ops false, ρ, D, M, Q => wOps E n top ops ops.toList ρ D M Q
  | .seq a b, ρ, D, M, Q => wC E n top a ρ D M fun e ρ' D' M' => seqK e (wC E n top b ρ' D' M' Q) (Q e ρ' D' M')
  | .cond c a b, ρ, D, M, Q => ∃ x, rhoR E ρ c = some (.bool x) ∧ if x = true then wC E n top a ρ D M Q else wC E n top b ρ D M Q
  | .block id b, ρ, D, M, Q => wC E n top b ρ D M fun e ρ' D' M' => blockK id e ρ' D' M' Q
  | .exit id, ρ, D, M, Q => Q (.exit id) ρ D M
  | .ret, ρ, D, M, Q => Q .ret ρ D M
  | c, ρ, D, M, Q => CodeTo E n top c ρ D M Q
theorem put_ok {n : Nat} {T : Tr AV} {D : List ADef} {dst : Option Tmp} {v : AV} {K : Reg → Prop} (h : wPut n T.get dst v K) : ∃ T', put ⟨n, T, D⟩ dst v = some ⟨n, T', D⟩ ∧ K T'.get := by
  cases dst with
  | none => exact ⟨T, rfl, h⟩
  | some d =>
    obtain ⟨h1, h2⟩ := h
    refine ⟨T.set d (some v), ?_, by rw [upd_get]; exact h2⟩
    have : Nat.blt d n = true := Nat.ble_eq_true_of_le h1
    simp [put, this]
theorem wOps_ok {E : Env} {n : Nat} {top : Bool} {ops : Array Oper} : ∀ (l : List Oper) (ρ : Reg) (D : List ADef) (M : AM) (Q : KE), wOps E n top ops l ρ D M Q → ∀ T : Tr AV, T.get = ρ →
    ∃ m o, evalOps E (recN E m) top ops l ⟨n, T, D⟩ M = some o ∧ o.s.n = n ∧ Q o.e o.s.T.get o.s.D o.M
  | [], ρ, D, M, Q, h, T, hT => ⟨0, ⟨.normal, ⟨n, T, D⟩, M⟩, rfl, rfl, by rw [← hT] at h; exact h⟩
  | x :: rest, ρ, D, M, Q, h, T, hT => by
    subst hT
    obtain ⟨b, hw, h⟩ := h
    have hw' : wantedA ops x T = some b := hw
    cases b with
    | false =>
      obtain ⟨T', h1, h2⟩ := put_ok (D := D) h
      obtain ⟨m, o, h3, h4⟩ := wOps_ok rest _ D M Q h2 T' rfl
      refine ⟨m, o, ?_, h4⟩
      simp only [evalOps, hw', h1]
      exact h3
    | true =>
      obtain ⟨r, hr, h⟩ := h
      rw [← rho_eq] at hr
      have go : ∀ {R : Rec}, evalOps E R top ops (x :: rest) ⟨n, T, D⟩ M = finOp R top ⟨n, T, D⟩ x.dst (some r) M (evalOps E R top ops rest) := by
        intro R
        simp only [evalOps, hw', hr]
      have fin : ∀ {v : AV} {D' : List ADef} {M' : AM}, (wPut n T.get x.dst v fun ρ' => wOps E n top ops rest ρ' D' M' Q) →
          ∃ m o s', put ⟨n, T, D'⟩ x.dst v = some s' ∧ evalOps E (recN E m) top ops rest s' M' = some o ∧ o.s.n = n ∧ Q o.e o.s.T.get o.s.D o.M := by
        intro v D' M' h
        obtain ⟨T', h1, h2⟩ := put_ok (D := D') h
        obtain ⟨m, o, h3, h4⟩ := wOps_ok rest _ D' M' Q h2 T' rfl
        exact ⟨m, o, _, h1, h3, h4⟩
      cases r with
      | val v M' =>
        obtain ⟨m, o, s', h1, h2, h3⟩ := fin h
        exact ⟨m, o, by rw [go]; simp only [finOp, h1]; exact h2, h3⟩
      | skip M' =>
        obtain ⟨m, o, s', h1, h2, h3⟩ := fin h
        exact ⟨m, o, by rw [go]; simp only [finOp, h1]; exact h2, h3⟩
      | enter f args =>
        obtain ⟨m, e, M', hc, h⟩ := h
        cases e with
        | ret v =>
          obtain ⟨m2, o, s', h1, h2, h3⟩ := fin h
          refine ⟨max m m2 + 1, o, ?_, h3⟩
          have hc' := evalCall_mono (recN_mono E (Nat.le_max_left m m2)) hc
          have h2' := evalOps_mono (recN_mono E (Nat.le_trans (Nat.le_max_right m m2) (Nat.le_succ _))) _ _ _ _ h2
          rw [go]
          simp only [finOp]
          rw [show (recN E (max m m2 + 1)).call f args M = evalCall E (recN E (max m m2)) f args M from rfl, hc']
          simp only [h1]
          exact h2'
        | pan v =>
          refine ⟨m + 1, ⟨.panic v, ⟨n, T, D⟩, M'⟩, ?_, rfl, h⟩
          rw [go]
          simp only [finOp]
          rw [show (recN E (m + 1)).call f args M = evalCall E (recN E m) f args M from rfl, hc]
      | round f args =>
        obtain ⟨m, e, M', hc, h⟩ := h
        cases e with
        | ret v =>
          obtain ⟨m2, o, s', h1, h2, h3⟩ := fin h
          refine ⟨max m m2 + 1, o, ?_, h3⟩
          have hc' := evalRound_mono (recN_mono E (Nat.le_max_left m m2)) hc
          have h2' := evalOps_mono (recN_mono E (Nat.le_trans (Nat.le_max_right m m2) (Nat.le_succ _))) _ _ _ _ h2
          rw [go]
          simp only [finOp]
          rw [show (recN E (max m m2 + 1)).round f args M = evalRound E (recN E (max m m2)) f args M from rfl, hc']
          simp only [h1]
          exact h2'
        | pan v =>
          refine ⟨m + 1, ⟨.panic v, ⟨n, T, D⟩, M'⟩, ?_, rfl, h⟩
          rw [go]
          simp only [finOp]
          rw [show (recN E (m + 1)).round f args M = evalRound E (recN E m) f args M from rfl, hc]
      | defer d =>
        obtain ⟨ht, h⟩ := h
        subst ht
        obtain ⟨m, o, s', h1, h2, h3⟩ := fin h
        exact ⟨m, o, by rw [go]; simp only [finOp, h1]; exact h2, h3⟩
      | recover => exact h.elim
      | panic v M' => exact ⟨0, ⟨.panic v, ⟨n, T, D⟩, M'⟩, by rw [go]; rfl, rfl, h⟩
theorem wC_ok {E : Env} {n : Nat} {top : Bool} : ∀ (c : Code) (ρ : Reg) (D : List ADef) (M : AM) (Q : KE), wC E n top c ρ D M Q → CodeTo E n top c ρ D M Q
  | .skip, ρ, D, M, Q, h, T, hT => ⟨0, ⟨.normal, ⟨n, T, D⟩, M⟩, rfl, rfl, by subst hT; exact h⟩
  | .exit id, ρ, D, M, Q, h, T, hT => ⟨0, ⟨.exit id, ⟨n, T, D⟩, M⟩, rfl, rfl, by subst hT; exact h⟩
  | .ret, ρ, D, M, Q, h, T, hT => ⟨0, ⟨.ret, ⟨n, T, D⟩, M⟩, rfl, rfl, by subst hT; exact h⟩
  | .region id ops false, ρ, D, M, Q, h, T, hT => by
    obtain ⟨m, o, h1, h2⟩ := wOps_ok ops.toList ρ D M Q h T hT
    exact ⟨m, o, h1, h2⟩
  | .seq a b, ρ, D, M, Q, h, T, hT => by
    obtain ⟨m, ⟨e, ⟨n1, T1, D1⟩, M1⟩, h1, h2, h3⟩ := wC_ok a ρ D M _ h T hT
    have h2 : n1 = n := h2
    subst h2
    dsimp only at h3
    cases e with
    | normal =>
      obtain ⟨m2, o, h4, h5⟩ := wC_ok b _ D1 M1 Q h3 T1 rfl
      refine ⟨max m m2, o, ?_, h5⟩
      have a1 := evalC_mono (recN_mono E (Nat.le_max_left m m2)) _ _ _ _ _ h1
      have a2 := evalC_mono (recN_mono E (Nat.le_max_right m m2)) _ _ _ _ _ h4
      simp only [evalC, a1]
      exact a2
    | exit i => exact ⟨m, ⟨.exit i, ⟨n1, T1, D1⟩, M1⟩, by simp only [evalC, h1], rfl, h3⟩
    | ret => exact ⟨m, ⟨.ret, ⟨n1, T1, D1⟩, M1⟩, by simp only [evalC, h1], rfl, h3⟩
    | panic v => exact ⟨m, ⟨.panic v, ⟨n1, T1, D1⟩, M1⟩, by simp only [evalC, h1], rfl, h3⟩
  | .cond c a b, ρ, D, M, Q, h, T, hT => by
    subst hT
    obtain ⟨x, hx, h⟩ := h
    rw [← rho_eq] at hx
    cases x with
    | true =>
      rw [if_pos rfl] at h
      obtain ⟨m, o, h1, h2⟩ := wC_ok a _ D M Q h T rfl
      exact ⟨m, o, by simp only [evalC, hx]; exact h1, h2⟩
    | false =>
      rw [if_neg (by simp)] at h
      obtain ⟨m, o, h1, h2⟩ := wC_ok b _ D M Q h T rfl
      exact ⟨m, o, by simp only [evalC, hx]; exact h1, h2⟩
  | .block id b, ρ, D, M, Q, h, T, hT => by
    obtain ⟨m, ⟨e, ⟨n1, T1, D1⟩, M1⟩, h1, h2, h3⟩ := wC_ok b ρ D M _ h T hT
    have h2 : n1 = n := h2
    subst h2
    dsimp only at h3
    cases e with
    | exit i =>
      simp only [blockK] at h3
      by_cases hi : i = id
      · rw [if_pos hi] at h3
        exact ⟨m, ⟨.normal, ⟨n1, T1, D1⟩, M1⟩, by simp only [evalC, h1]; rw [nbeq_true hi]; rfl, rfl, h3⟩
      · rw [if_neg hi] at h3
        exact ⟨m, ⟨.exit i, ⟨n1, T1, D1⟩, M1⟩, by simp only [evalC, h1]; rw [nbeq_false hi]; rfl, rfl, h3⟩
    | normal => exact ⟨m, ⟨.normal, ⟨n1, T1, D1⟩, M1⟩, by simp only [evalC, h1], rfl, h3⟩
    | ret => exact ⟨m, ⟨.ret, ⟨n1, T1, D1⟩, M1⟩, by simp only [evalC, h1], rfl, h3⟩
    | panic v => exact ⟨m, ⟨.panic v, ⟨n1, T1, D1⟩, M1⟩, by simp only [evalC, h1], rfl, h3⟩
  | .region id ops true, ρ, D, M, Q, h, T, hT => h T hT
  | .loop b, ρ, D, M, Q, h, T, hT => h T hT
  | .rangeFunc f ps asg b, ρ, D, M, Q, h, T, hT => h T hT
  | .scope _, ρ, D, M, Q, h, T, hT => h T hT
  | .label _, ρ, D, M, Q, h, T, hT => h T hT
  | .goto _, ρ, D, M, Q, h, T, hT => h T hT
  | .refuse _, ρ, D, M, Q, h, T, hT => h T hT
theorem CodeTo.mono {E : Env} {n : Nat} {top : Bool} {c : Code} {ρ : Reg} {D : List ADef} {M : AM} {Q Q' : KE} (h : CodeTo E n top c ρ D M Q) (hq : ∀ e ρ D M, Q e ρ D M → Q' e ρ D M) : CodeTo E n top c ρ D M Q' := by
  intro T hT
  obtain ⟨m, o, h1, h2, h3⟩ := h T hT
  exact ⟨m, o, h1, h2, hq _ _ _ _ h3⟩
theorem CallsTo.mono {E : Env} {f : FuncId} {args : List AV} {M : AM} {Q Q' : KC} (h : CallsTo E f args M Q) (hq : ∀ e M, Q e M → Q' e M) : CallsTo E f args M Q' := by
  obtain ⟨m, e, M', h1, h2⟩ := h
  exact ⟨m, e, M', h1, hq _ _ h2⟩
theorem RoundTo.mono {E : Env} {f : Nat} {args : List AV} {M : AM} {Q Q' : KC} (h : RoundTo E f args M Q) (hq : ∀ e M, Q e M → Q' e M) : RoundTo E f args M Q' := by
  obtain ⟨m, e, M', h1, h2⟩ := h
  exact ⟨m, e, M', h1, hq _ _ h2⟩
theorem loop_inv {E : Env} {n : Nat} {top : Bool} {b : Code} {Q : KE} (I : Nat → Reg → List ADef → AM → Prop)
    (hb : ∀ k ρ D M, I k ρ D M → wC E n top b ρ D M fun e ρ' D' M' => seqK e (∃ k', k' < k ∧ I k' ρ' D' M') (Q e ρ' D' M')) :
    ∀ (k : Nat) (ρ : Reg) (D : List ADef) (M : AM), I k ρ D M → CodeTo E n top (.loop b) ρ D M Q := by
  intro k
  induction k using Nat.strongRecOn with
  | ind k ih =>
    intro ρ D M hI T hT
    obtain ⟨m, ⟨e, ⟨n1, T1, D1⟩, M1⟩, h1, h2, h3⟩ := wC_ok b ρ D M _ (hb k ρ D M hI) T hT
    have h2 : n1 = n := h2
    subst h2
    dsimp only at h3
    cases e with
    | normal =>
      obtain ⟨k', hk, hI'⟩ := h3
      obtain ⟨m2, o, h4, h5⟩ := ih k' hk _ D1 M1 hI' T1 rfl
      refine ⟨max m m2 + 1, o, ?_, h5⟩
      have a1 := evalC_mono (recN_mono E (Nat.le_trans (Nat.le_max_left m m2) (Nat.le_succ _))) _ _ _ _ _ h1
      have a2 := evalC_mono (recN_mono E (Nat.le_max_right m m2)) _ _ _ _ _ h4
      simp only [evalC, a1]
      exact a2
    | exit i => exact ⟨m, ⟨.exit i, ⟨n1, T1, D1⟩, M1⟩, by simp only [evalC, h1], rfl, h3⟩
    | ret => exact ⟨m, ⟨.ret, ⟨n1, T1, D1⟩, M1⟩, by simp only [evalC, h1], rfl, h3⟩
    | panic v => exact ⟨m, ⟨.panic v, ⟨n1, T1, D1⟩, M1⟩, by simp only [evalC, h1], rfl, h3⟩
def DefersTo (E : Env) (D : List ADef) (u : AMode) (M : AM) (K : AMode → AM → Prop) : Prop := ∃ m u' M', evalDefers E (recN E m) 100 D u M = some (u', M') ∧ K u' M'
def resultsR (E : Env) (rs : List ResultVar) (ρ : Reg) (M : AM) : Option (List AV) :=
  match rs with
  | [] => some []
  | .tmp t :: rest => match ρ t with
    | some v => (resultsR E rest ρ M).map (v :: ·)
    | none => none
  | .cell a t :: rest => match ρ a with
    | some (.ptr b off) => match aload E M t b off with
      | some v => (resultsR E rest ρ M).map (v :: ·)
      | none => none
    | _ => none
theorem resultsR_eq {E : Env} {T : Tr AV} {M : AM} : ∀ rs, aresults E rs T M = resultsR E rs T.get M
  | [] => rfl
  | .tmp t :: rest => by
    simp only [aresults, resultsR, resultsR_eq rest]
    rfl
  | .cell a t :: rest => by
    simp only [aresults, resultsR, resultsR_eq rest]
    rfl
def wEnd (E : Env) (fn : Func) (ρ : Reg) (Q : KC) (u : AMode) (M : AM) : Prop :=
  match u with
  | .ret => ∃ vs, resultsR E fn.results.toList ρ M = some vs ∧ Q (.ret (tupleOf vs)) M
  | .pan v false => Q (.pan v) M
  | .pan _ true => False
def wDef (E : Env) (D : List ADef) (u : AMode) (M : AM) (K : AMode → AM → Prop) : Prop :=
  match D with
  | [] => K u M
  | d :: ds => DefersTo E (d :: ds) u M K
theorem wDef_to {E : Env} {D : List ADef} {u : AMode} {M : AM} {K : AMode → AM → Prop} (h : wDef E D u M K) : DefersTo E D u M K := by
  cases D with
  | nil => exact ⟨0, u, M, rfl, h⟩
  | cons d ds => exact h
def wLeave (E : Env) (fn : Func) (e : AExit) (ρ : Reg) (D : List ADef) (M : AM) (Q : KC) : Prop :=
  match e with
  | .exit _ => False
  | .panic v => wDef E D (.pan v false) M (wEnd E fn ρ Q)
  | _ => wDef E D .ret M (wEnd E fn ρ Q)
def initR (args : List AV) : Reg := fun i => args[i]?
theorem initR_eq (args : List AV) : (initT args 0 .leaf).get = initR args := by
  funext i
  rw [initT_get]
  simp only [initR, Nat.zero_le, true_and, Nat.zero_add, Nat.sub_zero]
  split
  · rfl
  · rename_i h; rw [List.getElem?_eq_none (by omega)]; rfl
theorem call_rule {E : Env} {f : FuncId} {fn : Func} {c : Code} {args : List AV} {M : AM} {Q : KC} (hf : E.funcs.get f = some fn) (hb : fn.body = some c) (hs : E.sums f = none)
    (h : wC E (max fn.ntmps args.length) true c (initR args) [] M fun e ρ D M' => wLeave E fn e ρ D M' Q) : CallsTo E f args M Q := by
  obtain ⟨m, ⟨e, ⟨n1, T1, D1⟩, M1⟩, h1, h2, h3⟩ := wC_ok c _ _ _ _ h (initT args 0 .leaf) (initR_eq args)
  dsimp only at h3
  have fini : ∀ (u : AMode) (m2 : Nat) (u' : AMode) (M' : AM), leaveF E (recN E (max m m2)) (some ⟨e, ⟨n1, T1, D1⟩, M1⟩) = (evalDefers E (recN E (max m m2)) 100 D1 u M1).map (fun (u, M) => (u, T1, M)) →
      evalDefers E (recN E m2) 100 D1 u M1 = some (u', M') → wEnd E fn T1.get Q u' M' → CallsTo E f args M Q := by
    intro u m2 u' M' hl hd hw
    have a1 := evalC_mono (recN_mono E (Nat.le_max_left m m2)) _ _ _ _ _ h1
    have a2 := evalDefers_mono (recN_mono E (Nat.le_max_right m m2)) _ _ _ _ _ hd
    rw [a2] at hl
    have base : evalCall E (recN E (max m m2)) f args M = endF E fn (some (u', T1, M')) := by
      unfold evalCall
      rw [hf]
      dsimp only
      rw [hb]
      dsimp only
      rw [hs]
      dsimp only
      rw [show (start fn args) = ⟨max fn.ntmps args.length, initT args 0 .leaf, []⟩ from rfl, a1, hl]
      rfl
    cases u' with
    | ret =>
      obtain ⟨vs, r1, r2⟩ := hw
      refine ⟨max m m2, .ret (tupleOf vs), M', ?_, r2⟩
      rw [base]
      simp only [endF, resultsR_eq, r1, Option.map_some]
    | pan v r =>
      cases r with
      | true => exact hw.elim
      | false => exact ⟨max m m2, .pan v, M', base.trans rfl, hw⟩
  cases e with
  | exit i => exact h3.elim
  | normal =>
    obtain ⟨m2, u', M', g1, g2⟩ := wDef_to h3
    exact fini .ret m2 u' M' rfl g1 g2
  | ret =>
    obtain ⟨m2, u', M', g1, g2⟩ := wDef_to h3
    exact fini .ret m2 u' M' rfl g1 g2
  | panic v =>
    obtain ⟨m2, u', M', g1, g2⟩ := wDef_to h3
    exact fini (.pan v false) m2 u' M' rfl g1 g2
theorem call_sum {E : Env} {f : FuncId} {fn : Func} {c : Code} {s : List AV → AM → Option (AV × AM)} {args : List AV} {M M' : AM} {v : AV} {Q : KC} (hf : E.funcs.get f = some fn) (hb : fn.body = some c) (hs : E.sums f = some s)
    (h : s args M = some (v, M')) (hq : Q (.ret v) M') : CallsTo E f args M Q :=
  ⟨0, .ret v, M', by unfold evalCall; rw [hf]; dsimp only; rw [hb]; dsimp only; rw [hs]; dsimp only; rw [h]; rfl, hq⟩
end
end Go.Abm
