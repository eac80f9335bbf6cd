/-
  A part of the proof that pumicelaw17.StoreOpens returns true for every geometry, key, number and group (a machine over names of blocks, its soundness, the calls of the store for any geometry, the chapter's example as a run). Condition: the listed package variables hold what the program's text lays; the card ties that.
-/
import Derived.Test.YtcfpoldckjmbdaaGreatDoorX13
set_option linter.unusedVariables false
set_option linter.unusedSimpArgs false
set_option linter.unusedSectionVars false
namespace Go.Abm
noncomputable section
abbrev Log := List (AV × AV)
def LogOk (l : Log) : Prop := ∀ p ∈ l, avBeq 8 p.1 p.2 = true
theorem LogOk.left {a b : Log} (h : LogOk (a ++ b)) : LogOk a := fun p hp => h p (List.mem_append_left _ hp)
theorem LogOk.right {a b : Log} (h : LogOk (a ++ b)) : LogOk b := fun p hp => h p (List.mem_append_right _ hp)
def CodeIs (E : Env) (c : Code) (s : St) (M : AM) (o : Out) : Prop := ∃ m, evalC E (recN E m) true c s M = some o
theorem CodeIs.seq {E : Env} {a b : Code} {s s' : St} {M M' : AM} {o : Out} (h : CodeIs E a s M ⟨.normal, s', M'⟩) (h2 : CodeIs E b s' M' o) : CodeIs E (.seq a b) s M o := by
  obtain ⟨m, h⟩ := h
  obtain ⟨m2, h2⟩ := h2
  refine ⟨max m m2, ?_⟩
  simp only [evalC, evalC_mono (recN_mono E (Nat.le_max_left m m2)) _ _ _ _ _ h]
  exact evalC_mono (recN_mono E (Nat.le_max_right m m2)) _ _ _ _ _ h2
end
end Go.Abm

namespace Go.Abm
noncomputable section
def dreg (ρ : Reg) (W MS : Tr Nat) (V : Tr AV) (i m : Nat) : Reg := fun t =>
  match W.get t with
  | none => ρ t
  | some l => bif bit m l then V.get l else bif Nat.beq l i then ρ t else match MS.get l with
    | some ml => bif bit ml i then ρ t else none
    | none => none
theorem drho_eq {E : Env} {ρ : Reg} {T : Tr AV} {W MS : Tr Nat} {ops : Array Oper} {V : Tr AV} {i m : Nat} (hT : T.get = ρ) : drho E ⟨T, W, MS, ops⟩ V i m = rhoR E (dreg ρ W MS V i m) := by
  funext x
  cases x with
  | tmp t => subst hT; rfl
  | _ => rfl
def dwantR (ops : Array Oper) (o : Oper) (m : Nat) (V : Tr AV) : Option Bool :=
  match o.guard with
  | none => some true
  | some (j, want) => match bit m j, ops[j]? with
    | true, some oj => match oj.dst, V.get j with
      | some _, some (.bool b) => some (b == want)
      | some _, some _ => some false
      | _, _ => none
    | _, _ => none
theorem dwant_eq {T : Tr AV} {W MS : Tr Nat} {ops : Array Oper} {o : Oper} {m : Nat} {V : Tr AV} : dwant ⟨T, W, MS, ops⟩ o m V = dwantR ops o m V := rfl
def DPass (E : Env) (ρ : Reg) (W MS : Tr Nat) (ops : Array Oper) (its : List DItem) (s : DS) (acc : List DItem) (K : List DItem → DS → Prop) : Prop :=
  ∀ T : Tr AV, T.get = ρ → ∃ its' s', dpass E ⟨T, W, MS, ops⟩ its s acc = some (its', s') ∧ K its' s'
def DChk (E : Env) (ρ : Reg) (W MS : Tr Nat) (ops : Array Oper) (V : Tr AV) (M : AM) (ps : List Pend) : Prop :=
  ∀ T : Tr AV, T.get = ρ → ps.all (dcheck E ⟨T, W, MS, ops⟩ V M) = true
def DStage (E : Env) (ρ : Reg) (W MS : Tr Nat) (ops : Array Oper) (n : Nat) (its : List DItem) (s : DS) (K : DS → Prop) : Prop :=
  ∀ T : Tr AV, T.get = ρ → ∃ k d, dstage E (recN E k) ⟨T, W, MS, ops⟩ n its s = some d ∧ K d
def DNext (E : Env) (ρ : Reg) (W MS : Tr Nat) (ops : Array Oper) (n : Nat) (its : List DItem) (s : DS) (K : DS → Prop) : Prop :=
  match its with
  | [] => K s
  | ⟨j, o, m⟩ :: rest => (sub m s.dn && fresh s.V j && rest.all (fun x => !sub x.m s.dn)) = true ∧ okind E o.op = .eff ∧ match dwantR ops o m s.V with
    | none => False
    | some false => DStage E ρ W MS ops n rest ⟨s.V.set j (some .undef), s.M, bitOn s.dn j, s.pend.filter fun p => !bit m p.i⟩ K
    | some true => ∃ r, evalOp E (rhoR E (dreg ρ W MS s.V j m)) o.op s.M = some r ∧ ∃ k v M', effRes (recN E k) r s.M = some (v, M') ∧ s.M.nx ≤ M'.nx ∧
        DStage E ρ W MS ops n rest ⟨s.V.set j (some v), M', bitOn s.dn j, s.pend.filter fun p => !bit m p.i⟩ K
def DFin (n : Nat) : List DItem → Tr AV → Reg → (Reg → Prop) → Prop
  | [], _, ρ, K => K ρ
  | ⟨i, o, _⟩ :: r, V, ρ, K => ∃ v, V.get i = some v ∧ wPut n ρ o.dst v fun ρ' => DFin n r V ρ' K
section
variable {E : Env} {ρ : Reg} {W MS : Tr Nat} {ops : Array Oper} {n : Nat} {its : List DItem} {s : DS} {K : DS → Prop}
theorem ds_pass (h : DPass E ρ W MS ops its s [] fun its' s' => DChk E ρ W MS ops s'.V s'.M s'.pend ∧ DNext E ρ W MS ops n its' s' K) : DStage E ρ W MS ops (n + 1) its s K := fun T hT => by
  obtain ⟨its', s', h1, hc, hn⟩ := h T hT
  cases its' with
  | nil =>
    refine ⟨0, s', ?_, hn⟩
    unfold dstage; rw [h1]; dsimp only; rw [hc T hT]; rfl
  | cons x rest =>
    obtain ⟨j, o, m⟩ := x
    obtain ⟨g1, g2, g3⟩ := hn
    split at g3
    · exact g3.elim
    · rename_i hw
      obtain ⟨k, d, g4, g5⟩ := g3 T hT
      refine ⟨k, d, ?_, g5⟩
      unfold dstage; rw [h1]; dsimp only; rw [hc T hT, g1, g2, dwant_eq, hw]; exact g4
    · rename_i hw
      obtain ⟨r, hr, k1, v, M', he, hx, hk⟩ := g3
      obtain ⟨k, d, g4, g5⟩ := hk T hT
      refine ⟨max k1 k, d, ?_, g5⟩
      have he' := effRes_mono (recN_mono E (Nat.le_max_left k1 k)) he
      have g4' := dstage_mono (recN_mono E (Nat.le_max_right k1 k)) _ _ _ _ g4
      unfold dstage; rw [h1]; dsimp only; rw [hc T hT, g1, g2, dwant_eq, hw, drho_eq hT, hr]; dsimp only [cond_true]
      rw [he']; dsimp only
      rw [Nat.ble_eq_true_of_le hx]; exact g4'
theorem dn_nil (k : K s) : DNext E ρ W MS ops n [] s K := k
section
variable {j m : Nat} {o : Oper} {rest : List DItem}
theorem dn_not (h : (sub m s.dn && fresh s.V j && rest.all (fun x => !sub x.m s.dn)) = true) (ho : okind E o.op = .eff) (hw : dwantR ops o m s.V = some false) (k : DStage E ρ W MS ops n rest ⟨s.V.set j (some .undef), s.M, bitOn s.dn j, s.pend.filter fun p => !bit m p.i⟩ K) :
    DNext E ρ W MS ops n (⟨j, o, m⟩ :: rest) s K := ⟨h, ho, by rw [hw]; exact k⟩
theorem dn_val {v : AV} {M' : AM} (h : (sub m s.dn && fresh s.V j && rest.all (fun x => !sub x.m s.dn)) = true) (ho : okind E o.op = .eff) (hw : dwantR ops o m s.V = some true)
    (he : evalOp E (rhoR E (dreg ρ W MS s.V j m)) o.op s.M = some (.val v M')) (hx : s.M.nx ≤ M'.nx) (k : DStage E ρ W MS ops n rest ⟨s.V.set j (some v), M', bitOn s.dn j, s.pend.filter fun p => !bit m p.i⟩ K) :
    DNext E ρ W MS ops n (⟨j, o, m⟩ :: rest) s K := ⟨h, ho, by rw [hw]; exact ⟨_, he, 0, v, M', rfl, hx, k⟩⟩
theorem dn_do {M' : AM} (h : (sub m s.dn && fresh s.V j && rest.all (fun x => !sub x.m s.dn)) = true) (ho : okind E o.op = .eff) (hw : dwantR ops o m s.V = some true)
    (he : evalOp E (rhoR E (dreg ρ W MS s.V j m)) o.op s.M = some (.skip M')) (hx : s.M.nx ≤ M'.nx) (k : DStage E ρ W MS ops n rest ⟨s.V.set j (some .undef), M', bitOn s.dn j, s.pend.filter fun p => !bit m p.i⟩ K) :
    DNext E ρ W MS ops n (⟨j, o, m⟩ :: rest) s K := ⟨h, ho, by rw [hw]; exact ⟨_, he, 0, .undef, M', rfl, hx, k⟩⟩
theorem dn_call {f : FuncId} {args : List AV} {C : KC} (h : (sub m s.dn && fresh s.V j && rest.all (fun x => !sub x.m s.dn)) = true) (ho : okind E o.op = .eff) (hw : dwantR ops o m s.V = some true)
    (he : evalOp E (rhoR E (dreg ρ W MS s.V j m)) o.op s.M = some (.enter f args)) (hc : CallsTo E f args s.M C)
    (k : ∀ e M', C e M' → ∃ v, e = .ret v ∧ s.M.nx ≤ M'.nx ∧ DStage E ρ W MS ops n rest ⟨s.V.set j (some v), M', bitOn s.dn j, s.pend.filter fun p => !bit m p.i⟩ K) :
    DNext E ρ W MS ops n (⟨j, o, m⟩ :: rest) s K := by
  obtain ⟨z, e, M', h1, h2⟩ := hc
  obtain ⟨v, rfl, hx, hk⟩ := k e M' h2
  refine ⟨h, ho, ?_⟩
  rw [hw]
  refine ⟨_, he, z + 1, v, M', ?_, hx, hk⟩
  show (match (recN E (z + 1)).call f args s.M with | some (.ret v, M') => some (v, M') | _ => none) = _
  rw [show (recN E (z + 1)).call f args s.M = evalCall E (recN E z) f args s.M from rfl, h1]
end
end
theorem dfin_ok {n : Nat} {D : List ADef} : ∀ (its : List DItem) (V : Tr AV) (T : Tr AV) (K : Reg → Prop), DFin n its V T.get K → ∃ T', dfinal its V ⟨n, T, D⟩ = some ⟨n, T', D⟩ ∧ K T'.get
  | [], _, T, K, h => ⟨T, rfl, h⟩
  | ⟨i, o, m⟩ :: r, V, T, K, h => by
    obtain ⟨v, hv, hp⟩ := h
    obtain ⟨T1, h1, h2⟩ := put_ok (D := D) hp
    obtain ⟨T2, h3, h4⟩ := dfin_ok r V T1 K h2
    refine ⟨T2, ?_, h4⟩
    unfold dfinal; rw [hv]; dsimp only; rw [h1]; exact h3
theorem w_draw {E : Env} {n : Nat} {top : Bool} {id : Nat} {ops : Array Oper} {ρ : Reg} {D : List ADef} {M : AM} {Q : KE} {its : List DItem} {MS W : Tr Nat} (hi : ditems ops.toList 0 .leaf .leaf = some (its, MS, W))
    (hm : (bif depL ops.toList then modeOk .text ops && modeOk .gc ops else true) = true) (h : DStage E ρ W MS ops (its.length + 1) its ⟨.leaf, M, 0, []⟩ fun d => DFin n its d.V ρ fun ρ' => Q .normal ρ' D d.M) :
    wC E n top (.region id ops true) ρ D M Q := fun T hT => by
  obtain ⟨k, d, h1, h2⟩ := h T hT
  rw [← hT] at h2
  obtain ⟨T', h3, h4⟩ := dfin_ok (D := D) its d.V T _ h2
  refine ⟨k, ⟨.normal, ⟨n, T', D⟩, d.M⟩, ?_, rfl, h4⟩
  show evalDraw E (recN E k) ops ⟨n, T, D⟩ M = _
  unfold evalDraw
  rw [hi, hm]; dsimp only
  rw [h1]; dsimp only
  rw [h3]
end
end Go.Abm

namespace Go.Abm
def NA (E : Env) (t : TypeId) : Prop := ∃ d, E.under t = some d ∧ isAggD d = false
theorem mkE_NA {P : Program} {G : Nat} {cmp : Nat → Bool} {s : Nat → Option (List AV → AM → Option (AV × AM))} {t : TypeId} {d : TypeDesc} (h : (mkE P G cmp s).under t = some d) (hd : isAggD d = false) : NA (mkE P G cmp s) t := ⟨d, h, hd⟩
section
variable {E : Env} {ρ : Reg} {M : AM}
theorem e_loadn {t : TypeId} {a : Operand} {b off : Nat} {l : List AV} {ro fz : Bool} {v : AV} (ha : rhoR E ρ a = some (.ptr b off)) (hu : NA E t) (hm : M.get b = some (.cells l ro fz)) (hv : l[off]? = some v) :
    evalOp E (rhoR E ρ) (.load t a) M = some (.val v M) := by
  obtain ⟨d, h1, h2⟩ := hu
  exact e_load ha h1 h2 hm hv
theorem e_len_str {c : Call} {t : TypeId} {x : Operand} {s : List Nat} (hc : c.callee = .builtin .len) (ha : c.args = #[x]) (ht : c.argTypes = #[t]) (hx : rhoR E ρ x = some (.str s)) (hu : E.under t = some .string) :
    evalOp E (rhoR E ρ) (.call c) M = some (.val (.int .i64 (.ofNat s.length)) M) := by
  simp [evalOp, ha, hc, ht, rhoL, hx, abuiltin, hu, alenD]
end
theorem reg1 {ρ : Reg} {t : Nat} {v : AV} (h : ρ t = some v) : ρ = upd ρ t v := by
  funext i
  by_cases e : i = t
  · subst e; rw [upd_eq, h]
  · rw [upd_ne e]
theorem ilt_lt {a b : Nat} (h : iltF (.ofNat a) (.ofNat b) = true) : a < b := blt_of h
theorem ilt_ge {a b : Nat} (h : iltF (.ofNat a) (.ofNat b) = false) : b ≤ a := by
  rcases Nat.lt_or_ge a b with g | g
  · exact absurd (blt_t g) (by intro e; rw [show Nat.blt a b = iltF (.ofNat a) (.ofNat b) from rfl, h] at e; cases e)
  · exact g
theorem avB_bool (b : Bool) : avBeq 8 (.bool b) (.bool b) = true := by cases b <;> rfl
theorem kindBeq_self (k : IntKind) : kindBeq k k = true := by cases k <;> rfl
theorem ieqF_self (n : Int) : ieqF n n = true := by rw [ieqF_eq]; exact beq_self_eq_true n
theorem natsBeq_self : ∀ l : List Nat, natsBeq l l = true
  | [] => rfl
  | a :: l => by unfold natsBeq; rw [natsBeq_self l, Nat.beq_refl]; rfl
theorem avB_int (k : IntKind) (n : Int) : avBeq 8 (.int k n) (.int k n) = true := by
  show (kindBeq k k && ieqF n n) = true
  rw [kindBeq_self, ieqF_self]; rfl
theorem avB_str (l : List Nat) : avBeq 8 (.str l) (.str l) = true := natsBeq_self l
theorem avB_ptr (b o : Nat) : avBeq 8 (.ptr b o) (.ptr b o) = true := by
  show (Nat.beq b b && Nat.beq o o) = true
  rw [Nat.beq_refl, Nat.beq_refl]; rfl
theorem optBeq_self (g : Option Nat) : optBeq g g = true := by
  cases g with
  | none => rfl
  | some n => exact Nat.beq_refl n
theorem avB_sl (b o l c : Nat) (g : Option Nat) : avBeq 8 (.sl b o l c g) (.sl b o l c g) = true := by
  show (Nat.beq b b && Nat.beq o o && Nat.beq l l && Nat.beq c c && optBeq g g) = true
  rw [Nat.beq_refl, Nat.beq_refl, Nat.beq_refl, Nat.beq_refl, optBeq_self]; rfl
end Go.Abm
