/-
  A part of the proof that pumicelaw17.StoreOpens returns true for every geometry, key, number and group (a machine over names of blocks, its soundness, the calls of the store for any geometry, the chapter's example as a run). Condition: the listed package variables hold what the program's text lays; the card ties that.
-/
import Derived.Test.YtcfpoldckjmbdaaGreatDoorX17
set_option linter.unusedVariables false
set_option linter.unusedSimpArgs false
set_option linter.unusedSectionVars false
namespace Go.Abm
noncomputable section
def isIfaceD : TypeDesc → Bool
  | .interface _ => true
  | _ => false
def NotI (E : Env) (t : TypeId) : Prop := ∃ d, E.under t = some d ∧ isIfaceD d = false
def IsI (E : Env) (t : TypeId) : Prop := ∃ l, E.under t = some (.interface l)
theorem mkE_NotI {P : Program} {G : Nat} {cmp : Nat → Bool} {s : Nat → Option (List AV → AM → Option (AV × AM))} {t : TypeId} {d : TypeDesc} (h : (mkE P G cmp s).under t = some d) (hd : isIfaceD d = false) : NotI (mkE P G cmp s) t := ⟨d, h, hd⟩
theorem mkE_IsI {P : Program} {G : Nat} {cmp : Nat → Bool} {s : Nat → Option (List AV → AM → Option (AV × AM))} {t : TypeId} {d : TypeDesc} (h : (mkE P G cmp s).under t = some d) (hd : isIfaceD d = true) : IsI (mkE P G cmp s) t := by
  cases d with
  | interface l => exact ⟨l, h⟩
  | _ => cases hd
section
variable {E : Env} {ρ : Reg} {M : AM}
theorem e_eqlpn {t p e : TypeId} {x y : Operand} (hx : rhoR E ρ x = some .nilp) (hy : rhoR E ρ y = some .nilp) (hu : E.under t = some (.pointer e)) : evalOp E (rhoR E ρ) (.binOp .eql t x y p) M = some (.val (.bool true) M) := by
  simp [evalOp, hx, hy, abinOp, eqRes, aeq, hu]
theorem e_neqpn {t p e : TypeId} {x y : Operand} (hx : rhoR E ρ x = some .nilp) (hy : rhoR E ρ y = some .nilp) (hu : E.under t = some (.pointer e)) : evalOp E (rhoR E ρ) (.binOp .neq t x y p) M = some (.val (.bool false) M) := by
  simp [evalOp, hx, hy, abinOp, eqRes, aeq, hu]
theorem e_eqlsnn {t p e : TypeId} {x y : Operand} (hx : rhoR E ρ x = some .nils) (hy : rhoR E ρ y = some .nils) (hu : E.under t = some (.slice e)) : evalOp E (rhoR E ρ) (.binOp .eql t x y p) M = some (.val (.bool true) M) := by
  simp [evalOp, hx, hy, abinOp, eqRes, aeq, hu]
theorem e_neqsn {t p e : TypeId} {x y : Operand} {b o l c : Nat} {g : Option Nat} (hx : rhoR E ρ x = some (.sl b o l c g)) (hy : rhoR E ρ y = some .nils) (hu : E.under t = some (.slice e)) : evalOp E (rhoR E ρ) (.binOp .neq t x y p) M = some (.val (.bool true) M) := by
  simp [evalOp, hx, hy, abinOp, eqRes, aeq, hu]
theorem e_neqsnn {t p e : TypeId} {x y : Operand} (hx : rhoR E ρ x = some .nils) (hy : rhoR E ρ y = some .nils) (hu : E.under t = some (.slice e)) : evalOp E (rhoR E ρ) (.binOp .neq t x y p) M = some (.val (.bool false) M) := by
  simp [evalOp, hx, hy, abinOp, eqRes, aeq, hu]
theorem e_eqlin {t p : TypeId} {x y : Operand} (hx : rhoR E ρ x = some .nili) (hy : rhoR E ρ y = some .nili) (hc : (isConstO x || isConstO y) = true) (hu : IsI E t) : evalOp E (rhoR E ρ) (.binOp .eql t x y p) M = some (.val (.bool true) M) := by
  obtain ⟨l, hu⟩ := hu
  simp only [evalOp, hx, hy, abinOp, hc, cond_true, eqRes, aeq, hu, Option.map_some]
theorem e_neqin {t p : TypeId} {x y : Operand} (hx : rhoR E ρ x = some .nili) (hy : rhoR E ρ y = some .nili) (hc : (isConstO x || isConstO y) = true) (hu : IsI E t) : evalOp E (rhoR E ρ) (.binOp .neq t x y p) M = some (.val (.bool false) M) := by
  obtain ⟨l, hu⟩ := hu
  simp only [evalOp, hx, hy, abinOp, hc, cond_true, eqRes, aeq, hu, Option.map_some]; rfl
theorem e_eqlix {t p a : TypeId} {x y : Operand} {v : AV} (hx : rhoR E ρ x = some (.ifc a v)) (hy : rhoR E ρ y = some .nili) (hu : IsI E t) : evalOp E (rhoR E ρ) (.binOp .eql t x y p) M = some (.val (.bool false) M) := by
  obtain ⟨l, hu⟩ := hu
  simp only [evalOp, hx, hy, abinOp, eqRes, aeq, hu, Option.map_some]
theorem e_mkif {t : TypeId} {x : Operand} {v : AV} (hx : rhoR E ρ x = some v) (hu : NotI E t) : evalOp E (rhoR E ρ) (.makeInterface t x) M = some (.val (.ifc t v) M) := by
  obtain ⟨d, hu, hd⟩ := hu
  simp only [evalOp, hx, hu]
  cases d <;> first | rfl | cases hd
end
theorem lb_nil : listBeq (avBeq 8) [] [] = true := rfl
theorem lb_cons {x : AV} {l : List AV} (h : avBeq 8 x x = true) (k : listBeq (avBeq 8) l l = true) : listBeq (avBeq 8) (x :: l) (x :: l) = true := by
  unfold listBeq; rw [h, k]; rfl
theorem lb_app : ∀ {a b : List AV}, listBeq (avBeq 8) a a = true → listBeq (avBeq 8) b b = true → listBeq (avBeq 8) (a ++ b) (a ++ b) = true
  | [], _, _, k => k
  | x :: a, b, h, k => by
    unfold listBeq at h
    rw [Bool.and_eq_true] at h
    exact lb_cons h.1 (lb_app h.2 k)
theorem lb_rep {z : List AV} (h : listBeq (avBeq 8) z z = true) : ∀ n, listBeq (avBeq 8) (repeatL z n) (repeatL z n) = true
  | 0 => rfl
  | n + 1 => lb_app h (lb_rep h n)
theorem avB_agg7 {l : List AV} (h : listBeq (avBeq 7) l l = true) : avBeq 8 (.agg l) (.agg l) = true := h
theorem avB7_int (k : IntKind) (n : Int) : avBeq 7 (.int k n) (.int k n) = true := avB_int k n
theorem avB7_bool (b : Bool) : avBeq 7 (.bool b) (.bool b) = true := avB_bool b
theorem avB7_sl (b o l c : Nat) (g : Option Nat) : avBeq 7 (.sl b o l c g) (.sl b o l c g) = true := avB_sl b o l c g
theorem avB7_ptr (b o : Nat) : avBeq 7 (.ptr b o) (.ptr b o) = true := avB_ptr b o
theorem avB7_str (l : List Nat) : avBeq 7 (.str l) (.str l) = true := avB_str l
theorem lb7_cons {x : AV} {l : List AV} (h : avBeq 7 x x = true) (k : listBeq (avBeq 7) l l = true) : listBeq (avBeq 7) (x :: l) (x :: l) = true := by
  unfold listBeq; rw [h, k]; rfl
def Same (M M' : AM) : Prop := M.nx ≤ M'.nx ∧ ∀ x, x < M.nx → M'.get x = M.get x
theorem Same.refl (M : AM) : Same M M := ⟨Nat.le_refl _, fun _ _ => rfl⟩
theorem Same.trans {A B C : AM} (h : Same A B) (k : Same B C) : Same A C := ⟨Nat.le_trans h.1 k.1, fun x hx => by rw [k.2 x (Nat.lt_of_lt_of_le hx h.1), h.2 x hx]⟩
theorem Same.new {A B : AM} {o : AObj} (h : Same A B) : Same A (B.new o) := ⟨Nat.le_succ_of_le h.1, fun x hx => by rw [AM.get_new_lt (Nat.lt_of_lt_of_le hx h.1), h.2 x hx]⟩
theorem Same.set {A B : AM} {o : Option AObj} {b : Nat} (h : Same A B) (hb : A.nx ≤ b) : Same A (B.set b o) := ⟨by rw [AM.nx_set]; exact h.1, fun x hx => by rw [AM.get_set_ne (by omega), h.2 x hx]⟩
def Ex (S : Nat → Prop) (M M' : AM) : Prop := M.nx ≤ M'.nx ∧ ∀ x, x < M.nx → ¬S x → M'.get x = M.get x
theorem Ex.refl (S : Nat → Prop) (M : AM) : Ex S M M := ⟨Nat.le_refl _, fun _ _ _ => rfl⟩
theorem Ex.trans {S : Nat → Prop} {A B C : AM} (h : Ex S A B) (k : Ex S B C) : Ex S A C := ⟨Nat.le_trans h.1 k.1, fun x hx hs => by rw [k.2 x (Nat.lt_of_lt_of_le hx h.1) hs, h.2 x hx hs]⟩
theorem Ex.of {S : Nat → Prop} {A B : AM} (h : Same A B) : Ex S A B := ⟨h.1, fun x hx _ => h.2 x hx⟩
theorem Ex.mono {S R : Nat → Prop} {A B : AM} (h : Ex S A B) (hs : ∀ x, S x → R x) : Ex R A B := ⟨h.1, fun x hx hr => h.2 x hx fun e => hr (hs x e)⟩
theorem Ex.new {S : Nat → Prop} {A B : AM} {o : AObj} (h : Ex S A B) : Ex S A (B.new o) := ⟨Nat.le_succ_of_le h.1, fun x hx hs => by rw [AM.get_new_lt (Nat.lt_of_lt_of_le hx h.1), h.2 x hx hs]⟩
theorem Ex.set {S : Nat → Prop} {A B : AM} {o : Option AObj} {b : Nat} (h : Ex S A B) (hb : A.nx ≤ b ∨ S b) : Ex S A (B.set b o) := ⟨by rw [AM.nx_set]; exact h.1, fun x hx hs => by
  rw [AM.get_set_ne (fun e => by subst e; rcases hb with hb | hb; omega; exact hs hb), h.2 x hx hs]⟩
theorem w_callkg {E : Env} {n : Nat} {top : Bool} {ops : Array Oper} {rest : List Oper} {ρ : Reg} {M : AM} {D : List ADef} {Q : KE} {o : Oper} {d : Tmp} {f : FuncId} {args : List AV} (hw : wantedR ops o ρ = some true) (hd : o.dst = some d) (hn : Nat.blt d n = true) (he : evalOp E (rhoR E ρ) o.op M = some (.enter f args))
    (hc : CallsTo E f args M fun e M' => match e with | .ret v => wOps E n top ops rest (upd ρ d v) D M' Q | .pan v => Q (.panic v) ρ D M') : wOps E n top ops (o :: rest) ρ D M Q := by
  refine ⟨true, hw, _, he, hc.mono fun e M' h => ?_⟩
  cases e with
  | ret v => simp only [wPut, hd]; exact ⟨Nat.le_of_ble_eq_true hn, h⟩
  | pan v => exact h
end
end Go.Abm

namespace Go.Abm
def opAt : List Oper → Nat → Option Oper
  | [], _ => none
  | o :: _, 0 => some o
  | _ :: l, n + 1 => opAt l n
theorem opAt_get : ∀ (l : List Oper) (i : Nat), opAt l i = l[i]?
  | [], _ => by simp [opAt]
  | o :: _, 0 => rfl
  | _ :: l, n + 1 => by rw [opAt, opAt_get l n]; simp
theorem opAt_eq {ops : Array Oper} {i : Nat} {o : Oper} (h : opAt ops.toList i = some o) : ops[i]? = some o := by rw [opAt_get] at h; simpa using h
section
variable {E : Env} {n : Nat} {top : Bool} {ops : Array Oper} {rest : List Oper} {ρ : Reg} {D : List ADef} {M M' : AM} {Q : KE} {o : Oper} {d : Tmp} {v : AV}
theorem vv (he : evalOp E (rhoR E ρ) o.op M = some (.val v M')) (k : wOps E n top ops rest (upd ρ d v) D M' Q) (hg : o.guard = none := by rfl) (hd : o.dst = some d := by rfl) (hn : Nat.blt d n = true := by rfl) : wOps E n top ops (o :: rest) ρ D M Q := w_val hg hd hn he k
theorem vg (he : evalOp E (rhoR E ρ) o.op M = some (.val v M')) (k : wOps E n top ops rest (upd ρ d v) D M' Q) (hg : wantedR ops o ρ = some true := by rfl) (hd : o.dst = some d := by rfl) (hn : Nat.blt d n = true := by rfl) : wOps E n top ops (o :: rest) ρ D M Q := w_valg hg hd hn he k
theorem vn (k : wOps E n top ops rest (upd ρ d .undef) D M Q) (hg : wantedR ops o ρ = some false := by rfl) (hd : o.dst = some d := by rfl) (hn : Nat.blt d n = true := by rfl) : wOps E n top ops (o :: rest) ρ D M Q := w_not hg hd hn k
theorem vd (he : evalOp E (rhoR E ρ) o.op M = some (.skip M')) (k : wOps E n top ops rest ρ D M' Q) (hg : o.guard = none := by rfl) (hd : o.dst = none := by rfl) : wOps E n top ops (o :: rest) ρ D M Q := w_do hg hd he k
theorem vc {f : FuncId} {args : List AV} (he : evalOp E (rhoR E ρ) o.op M = some (.enter f args))
    (hc : CallsTo E f args M fun e M' => match e with | .ret v => wOps E n top ops rest (upd ρ d v) D M' Q | .pan v => Q (.panic v) ρ D M') (hg : wantedR ops o ρ = some true := by rfl) (hd : o.dst = some d := by rfl) (hn : Nat.blt d n = true := by rfl) : wOps E n top ops (o :: rest) ρ D M Q := w_callkg hg hd hn he hc
theorem vt {c : Operand} {a b : Code} (k : wC E n top a ρ D M Q) (h : rhoR E ρ c = some (.bool true) := by rfl) : wC E n top (.cond c a b) ρ D M Q := w_true h k
theorem vf {c : Operand} {a b : Code} (k : wC E n top b ρ D M Q) (h : rhoR E ρ c = some (.bool false) := by rfl) : wC E n top (.cond c a b) ρ D M Q := w_false h k
end
section
variable {E : Env} {n : Nat} {ops : Array Oper} {r : List Oper} {o : Oper} {ρ : Reg} {M M' : AM} {K : Reg → Prop} {d : Tmp} {v : AV}
theorem lp (he : evalOp E (rhoR E ρ) o.op M = some (.val v M')) (k : wLs E n ops r (upd ρ d v) M K) (hg : wantedR ops o ρ = some true := by rfl) (hd : o.dst = some d := by rfl) (hn : Nat.blt d n = true := by rfl) (ho : okind E o.op = .pure := by rfl) : wLs E n ops (o :: r) ρ M K := ws_pure hg hd hn ho he k
theorem lr (he : evalOp E (rhoR E ρ) o.op M = some (.val v M')) (hb : avBeq 8 v v = true) (k : wLs E n ops r (upd ρ d v) M K) (hg : wantedR ops o ρ = some true := by rfl) (hd : o.dst = some d := by rfl) (hn : Nat.blt d n = true := by rfl) (ho : okind E o.op = .read := by rfl) : wLs E n ops (o :: r) ρ M K := ws_read hg hd hn ho he hb k
theorem ln (k : wLs E n ops r (upd ρ d .undef) M K) (hg : wantedR ops o ρ = some false := by rfl) (hd : o.dst = some d := by rfl) (hn : Nat.blt d n = true := by rfl) (ho : okind E o.op ≠ .eff := by intro h; cases h) : wLs E n ops (o :: r) ρ M K := ws_not hg hd hn ho k
end
section
variable {E : Env} {n : Nat} {ops : Array Oper} {r : List PS} {o : Oper} {ρ : Reg} {M M' : AM} {K : Reg → AM → Prop} {d : Tmp} {v : AV} {i m : Nat} {pd pd' : List Pnd}
theorem sp (ho : opAt ops.toList i = some o) (he : evalOp E (rhoR E ρ) o.op M = some (.val v M')) (k : wSteps E n ops r (upd ρ d v) M pd K) (hg : wantedR ops o ρ = some true := by rfl) (hd : o.dst = some d := by rfl) (hn : Nat.blt d n = true := by rfl) (hk : okind E o.op = .pure := by rfl) : wSteps E n ops (.run i m :: r) ρ M pd K := st_pure (opAt_eq ho) hg hd hn hk he k
theorem sr (ho : opAt ops.toList i = some o) (he : evalOp E (rhoR E ρ) o.op M = some (.val v M')) (k : wSteps E n ops r (upd ρ d v) M ((i, fun M2 => ∃ v' M3, evalOp E (rhoR E ρ) o.op M2 = some (.val v' M3) ∧ avBeq 8 v' v = true) :: pd) K) (hg : wantedR ops o ρ = some true := by rfl) (hd : o.dst = some d := by rfl) (hn : Nat.blt d n = true := by rfl) (hk : okind E o.op = .read := by rfl) : wSteps E n ops (.run i m :: r) ρ M pd K := st_read (opAt_eq ho) hg hd hn hk he k
theorem sa {l : List AV} (ho : opAt ops.toList i = some o) (he : evalOp E (rhoR E ρ) o.op M = some (.val v (M.new (.cells l false false)))) (k : wSteps E n ops r (upd ρ d v) (M.new (.cells l false false)) ((i, fun M2 => ∃ l', M2.get M.nx = some (.cells l' false false) ∧ listBeq (avBeq 8) l' l = true) :: pd) K) (hg : wantedR ops o ρ = some true := by rfl) (hd : o.dst = some d := by rfl) (hn : Nat.blt d n = true := by rfl) (hk : okind E o.op = .alloc := by rfl) : wSteps E n ops (.run i m :: r) ρ M pd K := st_alloc (opAt_eq ho) hg hd hn hk he AM.get_new_self k
theorem sn (ho : opAt ops.toList i = some o) (k : wSteps E n ops r (upd ρ d .undef) M pd K) (hg : wantedR ops o ρ = some false := by rfl) (hd : o.dst = some d := by rfl) (hn : Nat.blt d n = true := by rfl) (hk : okind E o.op ≠ .eff := by intro h; cases h) : wSteps E n ops (.run i m :: r) ρ M pd K := st_not (opAt_eq ho) hg hd hn hk k
theorem fp (ho : opAt ops.toList i = some o) (hf : (pd.filter fun p => !bit m p.1) = pd') (he : evalOp E (rhoR E ρ) o.op M = some (.val v M')) (k : wSteps E n ops r (upd ρ d v) M' pd' K) (hx : M.nx ≤ M'.nx := by exact Nat.le_refl _) (hg : wantedR ops o ρ = some true := by rfl) (hd : o.dst = some d := by rfl) (hn : Nat.blt d n = true := by rfl) : wSteps E n ops (.eff i m :: r) ρ M pd K := st_effval hf (opAt_eq ho) hg hd hn he hx k
theorem fd (ho : opAt ops.toList i = some o) (hf : (pd.filter fun p => !bit m p.1) = pd') (he : evalOp E (rhoR E ρ) o.op M = some (.skip M')) (k : wSteps E n ops r ρ M' pd' K) (hx : M.nx ≤ M'.nx := by exact Nat.le_refl _) (hg : wantedR ops o ρ = some true := by rfl) (hd : o.dst = none := by rfl) : wSteps E n ops (.eff i m :: r) ρ M pd K := st_effdo hf (opAt_eq ho) hg hd he hx k
theorem fz (ho : opAt ops.toList i = some o) (hf : (pd.filter fun p => !bit m p.1) = pd') (k : wSteps E n ops r (upd ρ d .undef) M pd' K) (hg : wantedR ops o ρ = some false := by rfl) (hd : o.dst = some d := by rfl) (hn : Nat.blt d n = true := by rfl) : wSteps E n ops (.eff i m :: r) ρ M pd K := st_effnot hf (opAt_eq ho) hg hd hn k
theorem fc {f : FuncId} {args : List AV} (ho : opAt ops.toList i = some o) (hf : (pd.filter fun p => !bit m p.1) = pd') (he : evalOp E (rhoR E ρ) o.op M = some (.enter f args))
    (hc : CallsTo E f args M fun e M' => match e with | .ret v => M.nx ≤ M'.nx ∧ wSteps E n ops r (upd ρ d v) M' pd' K | .pan _ => False) (hg : wantedR ops o ρ = some true := by rfl) (hd : o.dst = some d := by rfl) (hn : Nat.blt d n = true := by rfl) : wSteps E n ops (.eff i m :: r) ρ M pd K := st_call hf (opAt_eq ho) hg hd hn he hc
end
section
variable {M : AM} {o : AObj} {b c : Nat} {x y : Option AObj}
theorem gn (h : b < M.nx) (k : M.get b = x) : (M.new o).get b = x := (AM.get_new_lt h).trans k
theorem g0 : (M.new o).get M.nx = some o := AM.get_new_self
theorem gs (h : b ≠ c) (k : M.get b = x) : (M.set c y).get b = x := (AM.get_set_ne h).trans k
theorem s0 : (M.set b y).get b = y := AM.get_set_self
end
theorem zA {p : Prop} (h : p := by first | rfl | exact avB_bool _ | exact avB_int _ _ | exact avB_str _ | exact avB_sl _ _ _ _ _ | exact avB_ptr _ _ | exact avB_agg7 (by repeat first | rfl | refine lb7_cons (by first | rfl | exact avB7_int _ _ | exact avB7_bool _ | exact avB7_sl _ _ _ _ _ | exact avB7_ptr _ _ | exact avB7_str _) ?_)) : p := h
theorem zB {p : Prop} (h : p := by first | rfl | exact lb_rep rfl _ | (repeat first | exact lb_nil | refine lb_cons (by first | rfl | exact avB_int _ _ | exact avB_bool _ | exact avB_sl _ _ _ _ _ | exact avB_ptr _ _ | exact avB_str _) ?_)) : p := h
theorem zL {p : Prop} (h : p := by first | assumption | omega | (simp only [AM.nx_new, AM.nx_set]; omega)) : p := h
theorem zN {p : Prop} (h : p := by first | exact Nat.le_refl _ | exact Nat.le_of_ble_eq_true rfl | omega | (simp only [List.length_cons, List.length_nil]; omega) | (simp only [AV.cells, List.length_cons, List.length_nil]; omega)) : p := h
theorem zO {p : Prop} (h : p := by first | exact Nat.le_refl _ | omega | (simp only [List.length_cons, List.length_nil]; omega) | (simp only [AV.cells, List.length_cons, List.length_nil]; omega)) : p := h
theorem zC {p : Prop} (h : p := by first | rfl | assumption) : p := h
theorem zP {p : Prop} (h : p := by repeat first | exact pf_nil | (apply pf_keep; rfl) | (apply pf_drop; rfl)) : p := h
theorem zD {p : Prop} (h : p := by first | assumption | omega | decide) : p := h
theorem zE {p : Prop} (h : p := by first | assumption | omega) : p := h
theorem zS {p : Prop} (h : p := by assumption) : p := h
theorem zM {p : Prop} (h : p := by first | assumption | exact AM.get_new_self | exact AM.get_set_self | ((repeat first | rw [AM.get_new_lt zL] | rw [AM.get_set_ne zL]); first | assumption | exact AM.get_new_self | exact AM.get_set_self)) : p := h
end Go.Abm

namespace Go.Abm
noncomputable section
def GS (M : AM) (sz : Nat) (v : AV) (n : Nat) (cs : List AV) : Prop := (v = .nils ∧ n = 0 ∧ cs = []) ∨ ∃ L, v = .sl L 0 n n (some sz) ∧ M.get L = some (.cells cs false false) ∧ cs.length = n * sz
def blkOf (v : AV) (b : Nat) : Prop := ∃ o l c g, v = .sl b o l c g
theorem GS.len {M : AM} {sz n : Nat} {v : AV} {cs : List AV} (h : GS M sz v n cs) : cs.length = n * sz := by
  rcases h with ⟨_, rfl, rfl⟩ | ⟨_, _, _, h⟩
  · simp
  · exact h
theorem GS.same {M M' : AM} {sz n : Nat} {v : AV} {cs : List AV} (h : GS M sz v n cs) (hs : ∀ b, blkOf v b → M'.get b = M.get b) : GS M' sz v n cs := by
  rcases h with h | ⟨L, rfl, h1, h2⟩
  · exact Or.inl h
  · exact Or.inr ⟨L, rfl, by rw [hs L ⟨_, _, _, _, rfl⟩]; exact h1, h2⟩
section
variable {E : Env} {ρ : Reg} {M : AM}
theorem e_appU {c : Call} {t u e : TypeId} {x y : Operand} {n sz by' : Nat} {z : AV} {cs new : List AV} {v w : AV}
    (hc : c.callee = .builtin .append) (ha : c.args = #[x, y]) (ht : c.argTypes = #[t, u]) (hx : rhoR E ρ x = some v) (hy : rhoR E ρ y = some w)
    (hu : E.under t = some (.slice e)) (hu2 : E.under u = some (.slice e)) (he : ElemT E e sz by' z) (hs : 1 ≤ sz) (hg : GS M sz v n cs)
    (hk : alenOf w = some 1) (hf : afirst M sz 1 w = some new) (hv : isStr w = false) (hnew : new.all AV.one = true) (hbd : 2 * (n + 1) * by' ≤ 281474976710656) (hbd2 : n + 1 ≤ maxI) :
    ∃ v' M', evalOp E (rhoR E ρ) (.call c) M = some (.val v' M') ∧ v' = .sl M.nx 0 (n + 1) (n + 1) (some sz) ∧ M'.nx = M.nx + 1 ∧ (∀ b, b ≠ M.nx → ¬blkOf v b → M'.get b = M.get b) ∧ M'.get M.nx = some (.cells (cs ++ new) false false) := by
  rcases hg with ⟨rfl, rfl, rfl⟩ | ⟨L, rfl, h1, h2⟩
  · refine ⟨_, _, e_appendnil hc ha ht hx hy hu hu2 he hs hk hf hv hnew (Nat.le_refl 1) (by simpa using hbd) hbd2, by rw [Nat.zero_add], rfl, fun b hb _ => ?_, ?_⟩
    · rw [AM.get_new, if_neg hb]
    · rw [List.nil_append]; exact AM.get_new_self
  · refine ⟨_, _, e_appendg hc ha ht hx hy hu hu2 he hs h1 h2 hk hf hv hnew (Nat.le_refl 1) hbd hbd2, rfl, rfl, fun b hb hne => ?_, AM.get_new_self (M := M.set L none)⟩
    rw [AM.get_new, AM.nx_set, if_neg hb, AM.get_set, if_neg fun e => hne (by subst e; exact ⟨_, _, _, _, rfl⟩)]
theorem afirst1 {sz b : Nat} {g : Option Nat} {cs : List AV} {r f : Bool} (h : M.get b = some (.cells cs r f)) (hl : cs.length = sz) : afirst M sz 1 (.sl b 0 1 1 g) = some cs := by
  unfold afirst
  rw [nbeq_false (by decide)]
  simp only [cond_false, ble_t (Nat.le_refl 1), cond_true, AM.cells, h, Nat.one_mul, Nat.zero_add, hl, ble_t (Nat.le_refl sz), List.drop_zero]
  rw [← hl, List.take_length]
end
section
variable {E : Env} {ρ : Reg} {M : AM}
theorem res_celln {a : Tmp} {t : TypeId} {rest : List ResultVar} {l cs : List AV} {b off : Nat} {v : AV} {ro fz : Bool} (h : ρ a = some (.ptr b off)) (hd : NA E t) (hm : M.get b = some (.cells cs ro fz)) (hv : cs[off]? = some v)
    (k : resultsR E rest ρ M = some l) : resultsR E (.cell a t :: rest) ρ M = some (v :: l) := by
  obtain ⟨d, h1, h2⟩ := hd
  have : aload E M t b off = some v := by simp [aload, h1, h2, AM.cells, hm, hv]
  simp only [resultsR, h, this, k, Option.map_some]
end
section
variable {E : Env} {n : Nat} {ρ : Reg} {D : List ADef} {M : AM} {Q : KE}
theorem w_rangeN {f : Operand} {ps : Array Tmp} {asg b : Code} {fv : AV} {g : FuncId} {args : List AV} (hf : rhoR E ρ f = some fv)
    (ha : ∀ M2, acallV E fv [.fn (.yield (M.nx + 1)) [] []] M2 = some (.enter g args))
    (hc : ∀ M2, Same M M2 → M2.nx = M.nx + 2 → CallsTo E g args M2 fun e M3 => ∃ v, e = .ret v ∧ Same M2 M3)
    (k : ∀ M4, Same M M4 → M4.get M.nx = some (.dfr (some [])) → M.nx + 2 ≤ M4.nx → Q .normal ρ (.coll M.nx :: D) M4) : wC E n true (.rangeFunc f ps asg b) ρ D M Q :=
  w_rangef hf ha fun T _ => (hc _ (Same.refl M).new.new rfl).mono fun e M3 h => by
    obtain ⟨v, rfl, hs⟩ := h
    have hs2 : Same M M3 := ((Same.refl M).new.new).trans hs
    refine ⟨v, rfl, .ready, none, _, _, _, _, _, (hs.2 (M.nx + 1) (Nat.lt_succ_self _)).trans g0, (by intro e; cases e), k _ (hs2.set (by omega)) ?_ (by have := hs.1; simp only [AM.nx_new] at this; rw [AM.nx_set]; omega)⟩
    exact gs (by omega) ((hs.2 M.nx (by simp only [AM.nx_new]; omega)).trans (gn (by simp only [AM.nx_new]; omega) g0))
end
section
variable {E : Env} {ρ : Reg} {M : AM}
theorem e_eqlxi {t p a : TypeId} {x y : Operand} {v : AV} (hx : rhoR E ρ x = some .nili) (hy : rhoR E ρ y = some (.ifc a v)) (hu : IsI E t) : evalOp E (rhoR E ρ) (.binOp .eql t x y p) M = some (.val (.bool false) M) := by
  obtain ⟨l, hu⟩ := hu
  simp only [evalOp, hx, hy, abinOp, eqRes, aeq, hu, Option.map_some]
end
section
variable {E : Env} {ρ : Reg} {M : AM}
theorem e_rem64 {t p : TypeId} {x y : Operand} {a b : Nat} (hx : rhoR E ρ x = some (.int .i64 (.ofNat a))) (hy : rhoR E ρ y = some (.int .i64 (.ofNat b))) (h : b ≠ 0) :
    evalOp E (rhoR E ρ) (.binOp .rem t x y p) M = some (.val (.int .i64 (.ofNat (a % b))) M) := by
  have hz : ieqF (.ofNat b) 0 = false := by rw [ieqF_eq]; simpa using h
  simp only [evalOp, hx, hy, abinOp, isShift, kindBeq, intBin, hz, remF, cond_true, cond_false, Option.map_some]
theorem wrap64 {n : Nat} (h : n ≤ 9223372036854775807) : wrapFast .i64 (.ofNat n) = .ofNat n := by show (bif Nat.ble n 9223372036854775807 then Int.ofNat n else _) = _; rw [ble_t h]; rfl
theorem sub64 {a b : Nat} (h : b ≤ a) (ha : a ≤ 9223372036854775807) : wrapFast .i64 (subF (.ofNat a) (.ofNat b)) = .ofNat (a - b) := by
  have : subF (.ofNat a) (.ofNat b) = .ofNat (a - b) := by show (bif Nat.ble b a then _ else _) = _; rw [ble_t h]; rfl
  rw [this, wrap64 (by omega)]
theorem add64 {a b : Nat} (h : a + b ≤ 9223372036854775807) : wrapFast .i64 (addF (.ofNat a) (.ofNat b)) = .ofNat (a + b) := wrap64 h
theorem mul64 {a b : Nat} (h : a * b ≤ 9223372036854775807) : wrapFast .i64 (mulF (.ofNat a) (.ofNat b)) = .ofNat (a * b) := wrap64 h
end
section
variable {E : Env} {n : Nat} {ρ : Reg} {D : List ADef} {M : AM} {Q : KE}
theorem w_rangeR (R : AM → Prop) {f : Operand} {ps : Array Tmp} {asg b : Code} {fv : AV} {g : FuncId} {args : List AV} (hf : rhoR E ρ f = some fv)
    (ha : ∀ M2, acallV E fv [.fn (.yield (M.nx + 1)) [] []] M2 = some (.enter g args))
    (hc : ∀ M2 T, Same M M2 → M2.nx = M.nx + 2 → T.get = ρ → M2.get M.nx = some (.dfr (some [])) → M2.get (M.nx + 1) = some (.loop .ready none n T ps.toList asg b) → CallsTo E g args M2 fun e M3 => ∃ v, e = .ret v ∧ M2.nx ≤ M3.nx ∧ M3.get M.nx = some (.dfr (some [])) ∧ (∃ n' T' ps' a' b', M3.get (M.nx + 1) = some (.loop .ready none n' T' ps' a' b')) ∧ R M3)
    (k : ∀ M3 o, R M3 → M.nx + 2 ≤ M3.nx → M3.get M.nx = some (.dfr (some [])) → Q .normal ρ (.coll M.nx :: D) (M3.set (M.nx + 1) o)) : wC E n true (.rangeFunc f ps asg b) ρ D M Q :=
  w_rangef hf ha fun T hT => (hc _ T (Same.refl M).new.new rfl hT (gn (by simp only [AM.nx_new]; omega) g0) g0).mono fun e M3 h => by
    obtain ⟨v, rfl, hn, hd, ⟨n', T', ps', a', b', hl⟩, hR⟩ := h
    exact ⟨v, rfl, .ready, none, _, _, _, _, _, hl, (by intro e; cases e), k M3 _ hR hn hd⟩
end
section
variable {E : Env} {s d : TypeId} {x : Operand} {k : IntKind}
theorem okc_s (hu : E.under d = some .string) : okind E (.convert s d x) = .read := by unfold okind; dsimp only; rw [hu]
theorem okc_i (hu : E.under d = some (.int k)) : okind E (.convert s d x) = .read := by unfold okind; dsimp only; rw [hu]
theorem okn_s (hu : E.under d = some .string) : okind E (.convert s d x) ≠ .eff := by rw [okc_s hu]; intro h; cases h
end
section
variable {E : Env} {ρ : Reg} {M M' : AM}
theorem e_ext {c : Call} {f : FuncId} {args : List AV} {fn : Func} {s : List AV → AM → Option (AV × AM)} {v : AV} (hc : c.callee = .value (.func f)) (ha : rhoL (rhoR E ρ) c.args.toList = some args) (hf : E.funcs.get f = some fn) (hb : fn.body = none) (hs : E.sums f = some s) (h : s args M = some (v, M')) :
    evalOp E (rhoR E ρ) (.call c) M = some (.val v M') := by
  have hv : rhoR E ρ (.func f) = some (.fn (.func f) [] []) := rfl
  simp only [evalOp, ha, hc, hv, acallV, acallF, hf, hb, hs, h, List.nil_append, List.append_nil, Option.map_some]
theorem e_invx {c : Call} {r : Operand} {nm : String} {t : TypeId} {f : FuncId} {args : List AV} {fn : Func} {s : List AV → AM → Option (AV × AM)} {v rv w : AV} (hc : c.callee = .invoke r nm) (ha : rhoL (rhoR E ρ) c.args.toList = some args) (hr : rhoR E ρ r = some (.ifc t w)) (hm : amethod E t w nm = some (f, rv)) (hf : E.funcs.get f = some fn) (hb : fn.body = none) (hs : E.sums f = some s) (h : s (rv :: args) M = some (v, M')) :
    evalOp E (rhoR E ρ) (.call c) M = some (.val v M') := by
  simp only [evalOp, ha, hc, hr, hm, acallF, hf, hb, hs, h, Option.map_some]
theorem e_invk {c : Call} {r : Operand} {nm : String} {t : TypeId} {f : FuncId} {args : List AV} {fn : Func} {b : Code} {rv w : AV} (hc : c.callee = .invoke r nm) (ha : rhoL (rhoR E ρ) c.args.toList = some args) (hr : rhoR E ρ r = some (.ifc t w)) (hm : amethod E t w nm = some (f, rv)) (hf : E.funcs.get f = some fn) (hb : fn.body = some b) :
    evalOp E (rhoR E ρ) (.call c) M = some (.enter f (rv :: args)) := by
  simp only [evalOp, ha, hc, hr, hm, acallF, hf, hb]
  cases E.sums f <;> rfl
theorem e_ta {x : Operand} {a t : TypeId} {ok : Bool} {v r : AV} (hx : rhoR E ρ x = some v) (h : atypeAssert E v t ok = some r) : evalOp E (rhoR E ρ) (.typeAssert x a t ok) M = some (.val r M) := by
  simp only [evalOp, hx, h, Option.map_some]
theorem e_eqif {t p a b : TypeId} {x y : Operand} {v w : AV} {q : Bool} (hx : rhoR E ρ x = some (.ifc a v)) (hy : rhoR E ρ y = some (.ifc b w)) (h : aeq E M 8 t (.ifc a v) (.ifc b w) = some q) : evalOp E (rhoR E ρ) (.binOp .eql t x y p) M = some (.val (.bool q) M) := by
  simp only [evalOp, hx, hy, abinOp, eqRes, h, Option.map_some]
end
end
section
variable {E : Env} {n : Nat} {ops : Array Oper} {r : List PS} {o : Oper} {ρ : Reg} {M : AM} {K : Reg → AM → Prop} {d : Tmp} {i m : Nat} {pd pd' : List Pnd}
theorem fpx {P : AV → AM → Prop} (ho : opAt ops.toList i = some o) (hf : (pd.filter fun p => !bit m p.1) = pd') (he : ∃ v M', evalOp E (rhoR E ρ) o.op M = some (.val v M') ∧ P v M') (k : ∀ v M', P v M' → M.nx ≤ M'.nx ∧ wSteps E n ops r (upd ρ d v) M' pd' K)
    (hg : wantedR ops o ρ = some true := by rfl) (hd : o.dst = some d := by rfl) (hn : Nat.blt d n = true := by rfl) : wSteps E n ops (.eff i m :: r) ρ M pd K := by
  obtain ⟨v, M', h1, h2⟩ := he
  exact fp ho hf h1 (k v M' h2).2 (k v M' h2).1 hg hd hn
end
section
variable {E : Env} {ρ : Reg} {M : AM}
theorem e_appendxs {c : Call} {t u e : TypeId} {x y : Operand} {b len : Nat} {gr : Option Nat} {z : AV} {cs new : List AV} {by' k : Nat} {fz : Bool} {v : AV}
    (hc : c.callee = .builtin .append) (ha : c.args = #[x, y]) (ht : c.argTypes = #[t, u]) (hx : rhoR E ρ x = some (.sl b 0 len len gr)) (hy : rhoR E ρ y = some v)
    (hu : E.under t = some (.slice e)) (hu2 : E.under u = some .string) (he : ElemT E e 1 by' z) (hb : M.get b = some (.cells cs false fz)) (hcs : cs.length = len)
    (hgr : gr = none ∧ fz = false ∨ gr = some 1) (hk : alenOf v = some k) (hf : afirst M 1 k v = some new) (hnew : new.all AV.one = true) (hl : new.length = k) (hk1 : 1 ≤ k) (hbd : 2 * (len + k) * by' ≤ 281474976710656) (hbd2 : len + k ≤ maxI) :
    ∃ v M', evalOp E (rhoR E ρ) (.call c) M = some (.val v M') ∧ v = .sl M.nx 0 (len + k) (len + k) (some 1) ∧ M'.nx = M.nx + 1 ∧ (∀ x, x ≠ b → x ≠ M.nx → M'.get x = M.get x) ∧ M'.get M.nx = some (.cells (cs ++ new) false fz) := by
  obtain ⟨i, hi, hsz, rfl, hz, hzz⟩ := he
  have h1 : afirst M 1 len (.sl b 0 len len gr) = some cs := by
    unfold afirst
    by_cases h0 : len = 0
    · rw [nbeq_true h0]; subst h0
      rw [List.length_eq_zero_iff.1 hcs]; rfl
    · rw [nbeq_false h0]
      simp only [cond_false, ble_t (Nat.le_refl len), cond_true, AM.cells, hb, Nat.mul_one, Nat.zero_add, hcs, List.drop_zero]
      rw [← hcs, List.take_length]
  have hlt : Nat.ble (len + k) len = false := ble_f (by omega)
  have key : ∃ M', aappend E M #[t, u] (.sl b 0 len len gr) v = some (.sl M.nx 0 (len + k) (len + k) (some 1), M') ∧ M'.nx = M.nx + 1 ∧ (∀ x, x ≠ b → x ≠ M.nx → M'.get x = M.get x) ∧ M'.get M.nx = some (.cells (cs ++ new) false fz) := by
    have base : aappend E M #[t, u] (.sl b 0 len len gr) v = (match gr with
        | none => some (.sl M.nx 0 (len + k) (len + k) (some 1), M.new (.cells (cs ++ new) false false))
        | some g => match M.get b with
          | some (.cells _ false fz) => bif Nat.beq g 1 then some (.sl M.nx 0 (len + k) (len + k) (some 1), (M.set b none).new (.cells (cs ++ new) false fz)) else none
          | _ => none) := by
      unfold aappend
      simp only [List.getElem?_toArray, List.getElem?_cons_zero, List.getElem?_cons_succ, asliceElem, hu, hu2, hi, hk, hsz, hf, isIntD, hzz, hnew, hlt, h1, ble_t hbd, ble_t hbd2, Bool.and_true, Bool.not_true, Bool.or_false, Bool.false_or, cond_false, cond_true]
      have : isStr v = false ∨ Nat.beq 1 1 = true := Or.inr rfl
      rw [show Nat.beq 1 0 = false from rfl, show Nat.beq 1 1 = true from rfl]
      simp only [Bool.not_true, Bool.and_false, Bool.or_false, cond_false]
      cases gr with
      | none => rfl
      | some g =>
        dsimp only
        rw [hb]
    rw [base]
    rcases hgr with ⟨rfl, rfl⟩ | rfl
    · exact ⟨_, rfl, rfl, fun x _ h2 => by rw [AM.get_new, if_neg h2], AM.get_new_self⟩
    · rw [hb]
      refine ⟨_, rfl, rfl, fun x h1 h2 => ?_, AM.get_new_self (M := M.set b none)⟩
      rw [AM.get_new, AM.nx_set, if_neg h2, AM.get_set, if_neg h1]
  obtain ⟨M', h2, h3⟩ := key
  refine ⟨_, M', ?_, rfl, h3⟩
  simp only [evalOp, ha, hc, ht, rhoL, hx, hy, Option.map_some, abuiltin, h2]
end
section
variable {E : Env} {n : Nat} {top : Bool} {ops : Array Oper} {rest : List Oper} {ρ : Reg} {D : List ADef} {M : AM} {Q : KE} {o : Oper} {d : Tmp}
theorem vr {l : Nat} {args : List AV} (he : evalOp E (rhoR E ρ) o.op M = some (.round l args))
    (hc : RoundTo E l args M fun e M' => ∃ v, e = .ret v ∧ wOps E n top ops rest (upd ρ d v) D M' Q) (hg : wantedR ops o ρ = some true := by rfl) (hd : o.dst = some d := by rfl) (hn : Nat.blt d n = true := by rfl) : wOps E n top ops (o :: rest) ρ D M Q := by
  refine ⟨true, hg, _, he, hc.mono fun e M' h => ?_⟩
  obtain ⟨v, rfl, h⟩ := h
  simp only [wPut, hd]; exact ⟨Nat.le_of_ble_eq_true hn, h⟩
end
section
variable {E : Env} {n : Nat} {ops : Array Oper} {r : List PS} {o : Oper} {ρ : Reg} {M : AM} {K : Reg → AM → Prop} {d : Tmp} {i m : Nat} {pd : List Pnd}
theorem spx {P : AV → AM → Prop} (ho : opAt ops.toList i = some o) (he : ∃ v M', evalOp E (rhoR E ρ) o.op M = some (.val v M') ∧ P v M') (k : ∀ v M', P v M' → wSteps E n ops r (upd ρ d v) M pd K)
    (hg : wantedR ops o ρ = some true := by rfl) (hd : o.dst = some d := by rfl) (hn : Nat.blt d n = true := by rfl) (hk : okind E o.op = .pure := by rfl) : wSteps E n ops (.run i m :: r) ρ M pd K := by
  obtain ⟨v, M', h1, h2⟩ := he
  exact sp ho h1 (k v M' h2) hg hd hn hk
end
theorem wRes_mono {E : Env} {n : Nat} {top : Bool} {ρ : Reg} {D : List ADef} {dst : Option Tmp} {r : ARes} {M : AM} {K K' : KO} {Q Q' : KE} (hq : ∀ e ρ D M, Q e ρ D M → Q' e ρ D M) (hk : ∀ ρ D M, K ρ D M → K' ρ D M) (h : wRes E n top ρ D dst r M K Q) : wRes E n top ρ D dst r M K' Q' := by
  have pm : ∀ {v : AV} {D : List ADef} {M : AM}, (wPut n ρ dst v fun ρ' => K ρ' D M) → wPut n ρ dst v fun ρ' => K' ρ' D M := by
    intro v D M h
    unfold wPut at *
    cases dst with
    | none => exact hk _ _ _ h
    | some d => exact ⟨h.1, hk _ _ _ h.2⟩
  cases r with
  | val v M' => exact pm h
  | skip M' => exact pm h
  | enter f args =>
    refine CallsTo.mono h ?_
    intro e M' h
    cases e with
    | ret v => exact pm h
    | pan v => exact hq _ _ _ _ h
  | round l args =>
    refine RoundTo.mono h ?_
    intro e M' h
    cases e with
    | ret v => exact pm h
    | pan v => exact hq _ _ _ _ h
  | defer d => exact ⟨h.1, pm h.2⟩
  | recover => exact h.elim
  | panic v M' => exact hq _ _ _ _ h
theorem wOps_mono {E : Env} {n : Nat} {top : Bool} {ops : Array Oper} {Q Q' : KE} (hq : ∀ e ρ D M, Q e ρ D M → Q' e ρ D M) : ∀ (l : List Oper) (ρ : Reg) (D : List ADef) (M : AM), wOps E n top ops l ρ D M Q → wOps E n top ops l ρ D M Q'
  | [], ρ, D, M, h => hq _ _ _ _ h
  | o :: rest, ρ, D, M, h => by
    obtain ⟨b, hb, h⟩ := h
    refine ⟨b, hb, ?_⟩
    cases b with
    | false =>
      revert h
      unfold wPut
      cases o.dst with
      | none => exact fun h => wOps_mono hq rest _ D M h
      | some d => exact fun h => ⟨h.1, wOps_mono hq rest _ D M h.2⟩
    | true =>
      obtain ⟨r, hr, h⟩ := h
      exact ⟨r, hr, wRes_mono hq (fun ρ' D' M' h => wOps_mono hq rest ρ' D' M' h) h⟩
theorem w_mid {E : Env} {n : Nat} {top : Bool} {ops : Array Oper} {l : List Oper} {ρ : Reg} {D : List ADef} {M : AM} {Q : KE} (P : Reg → Prop) (h : wOps E n top ops l ρ D M fun e ρ' D' M' => e = .normal ∧ D' = D ∧ M' = M ∧ P ρ') (k : ∀ ρ', P ρ' → Q .normal ρ' D M) : wOps E n top ops l ρ D M Q :=
  wOps_mono (fun e ρ' D' M' h => by obtain ⟨h1, h2, h3, h4⟩ := h; subst h1 h2 h3; exact k ρ' h4) l ρ D M h
section
variable {E : Env} {ρ : Reg} {M : AM}
theorem e_appendn {c : Call} {t u e : TypeId} {x y : Operand} {b len : Nat} {gr : Option Nat} {z : AV} {cs new : List AV} {by' k : Nat} {fz : Bool} {v : AV}
    (hc : c.callee = .builtin .append) (ha : c.args = #[x, y]) (ht : c.argTypes = #[t, u]) (hx : rhoR E ρ x = some (.sl b 0 len len gr)) (hy : rhoR E ρ y = some v)
    (hu : E.under t = some (.slice e)) (hu2 : E.under u = some (.slice e)) (he : ElemT E e 1 by' z) (hb : M.get b = some (.cells cs false fz)) (hcs : cs.length = len)
    (hgr : gr = none) (hk : alenOf v = some k) (hf : afirst M 1 k v = some new) (hnew : new.all AV.one = true) (hl : new.length = k) (hk1 : 1 ≤ k) (hbd : 2 * (len + k) * by' ≤ 281474976710656) (hbd2 : len + k ≤ maxI) :
    ∃ v M', evalOp E (rhoR E ρ) (.call c) M = some (.val v M') ∧ v = .sl M.nx 0 (len + k) (len + k) (some 1) ∧ M'.nx = M.nx + 1 ∧ (∀ x, x ≠ b → x ≠ M.nx → M'.get x = M.get x) ∧ M'.get M.nx = some (.cells (cs ++ new) false false) := by
  obtain ⟨i, hi, hsz, rfl, hz, hzz⟩ := he
  have h1 : afirst M 1 len (.sl b 0 len len gr) = some cs := by
    unfold afirst
    by_cases h0 : len = 0
    · rw [nbeq_true h0]; subst h0
      rw [List.length_eq_zero_iff.1 hcs]; rfl
    · rw [nbeq_false h0]
      simp only [cond_false, ble_t (Nat.le_refl len), cond_true, AM.cells, hb, Nat.mul_one, Nat.zero_add, hcs, List.drop_zero]
      rw [← hcs, List.take_length]
  have hlt : Nat.ble (len + k) len = false := ble_f (by omega)
  have key : ∃ M', aappend E M #[t, u] (.sl b 0 len len gr) v = some (.sl M.nx 0 (len + k) (len + k) (some 1), M') ∧ M'.nx = M.nx + 1 ∧ (∀ x, x ≠ b → x ≠ M.nx → M'.get x = M.get x) ∧ M'.get M.nx = some (.cells (cs ++ new) false false) := by
    have base : aappend E M #[t, u] (.sl b 0 len len gr) v = (match gr with
        | none => some (.sl M.nx 0 (len + k) (len + k) (some 1), M.new (.cells (cs ++ new) false false))
        | some g => match M.get b with
          | some (.cells _ false fz) => bif Nat.beq g 1 then some (.sl M.nx 0 (len + k) (len + k) (some 1), (M.set b none).new (.cells (cs ++ new) false fz)) else none
          | _ => none) := by
      unfold aappend
      simp only [List.getElem?_toArray, List.getElem?_cons_zero, List.getElem?_cons_succ, asliceElem, hu, hu2, hi, hk, hsz, hf, isIntD, hzz, hnew, hlt, h1, ble_t hbd, ble_t hbd2, Bool.and_true, Bool.not_true, Bool.or_false, Bool.false_or, cond_false, cond_true]
      have : isStr v = false ∨ Nat.beq 1 1 = true := Or.inr rfl
      rw [show Nat.beq 1 0 = false from rfl, show Nat.beq 1 1 = true from rfl]
      simp only [Bool.not_true, Bool.and_false, Bool.or_false, cond_false]
      cases gr with
      | none => rfl
      | some g =>
        dsimp only
        rw [hb]
    rw [base]
    subst hgr
    exact ⟨_, rfl, rfl, fun x _ h2 => by rw [AM.get_new, if_neg h2], AM.get_new_self⟩
  obtain ⟨M', h2, h3⟩ := key
  refine ⟨_, M', ?_, rfl, h3⟩
  simp only [evalOp, ha, hc, ht, rhoL, hx, hy, Option.map_some, abuiltin, h2]
end
section
variable {E : Env} {ρ : Reg} {M : AM}
theorem e_appendns {c : Call} {t u e : TypeId} {x y : Operand} {b len : Nat} {gr : Option Nat} {z : AV} {cs new : List AV} {by' k : Nat} {fz : Bool} {v : AV}
    (hc : c.callee = .builtin .append) (ha : c.args = #[x, y]) (ht : c.argTypes = #[t, u]) (hx : rhoR E ρ x = some (.sl b 0 len len gr)) (hy : rhoR E ρ y = some v)
    (hu : E.under t = some (.slice e)) (hu2 : E.under u = some .string) (he : ElemT E e 1 by' z) (hb : M.get b = some (.cells cs false fz)) (hcs : cs.length = len)
    (hgr : gr = none) (hk : alenOf v = some k) (hf : afirst M 1 k v = some new) (hnew : new.all AV.one = true) (hl : new.length = k) (hk1 : 1 ≤ k) (hbd : 2 * (len + k) * by' ≤ 281474976710656) (hbd2 : len + k ≤ maxI) :
    ∃ v M', evalOp E (rhoR E ρ) (.call c) M = some (.val v M') ∧ v = .sl M.nx 0 (len + k) (len + k) (some 1) ∧ M'.nx = M.nx + 1 ∧ (∀ x, x ≠ b → x ≠ M.nx → M'.get x = M.get x) ∧ M'.get M.nx = some (.cells (cs ++ new) false false) := by
  obtain ⟨i, hi, hsz, rfl, hz, hzz⟩ := he
  have h1 : afirst M 1 len (.sl b 0 len len gr) = some cs := by
    unfold afirst
    by_cases h0 : len = 0
    · rw [nbeq_true h0]; subst h0
      rw [List.length_eq_zero_iff.1 hcs]; rfl
    · rw [nbeq_false h0]
      simp only [cond_false, ble_t (Nat.le_refl len), cond_true, AM.cells, hb, Nat.mul_one, Nat.zero_add, hcs, List.drop_zero]
      rw [← hcs, List.take_length]
  have hlt : Nat.ble (len + k) len = false := ble_f (by omega)
  have key : ∃ M', aappend E M #[t, u] (.sl b 0 len len gr) v = some (.sl M.nx 0 (len + k) (len + k) (some 1), M') ∧ M'.nx = M.nx + 1 ∧ (∀ x, x ≠ b → x ≠ M.nx → M'.get x = M.get x) ∧ M'.get M.nx = some (.cells (cs ++ new) false false) := by
    have base : aappend E M #[t, u] (.sl b 0 len len gr) v = (match gr with
        | none => some (.sl M.nx 0 (len + k) (len + k) (some 1), M.new (.cells (cs ++ new) false false))
        | some g => match M.get b with
          | some (.cells _ false fz) => bif Nat.beq g 1 then some (.sl M.nx 0 (len + k) (len + k) (some 1), (M.set b none).new (.cells (cs ++ new) false fz)) else none
          | _ => none) := by
      unfold aappend
      simp only [List.getElem?_toArray, List.getElem?_cons_zero, List.getElem?_cons_succ, asliceElem, hu, hu2, hi, hk, hsz, hf, isIntD, hzz, hnew, hlt, h1, ble_t hbd, ble_t hbd2, Bool.and_true, Bool.not_true, Bool.or_false, Bool.false_or, cond_false, cond_true]
      have : isStr v = false ∨ Nat.beq 1 1 = true := Or.inr rfl
      rw [show Nat.beq 1 0 = false from rfl, show Nat.beq 1 1 = true from rfl]
      simp only [Bool.not_true, Bool.and_false, Bool.or_false, cond_false]
      cases gr with
      | none => rfl
      | some g =>
        dsimp only
        rw [hb]
    rw [base]
    subst hgr
    exact ⟨_, rfl, rfl, fun x _ h2 => by rw [AM.get_new, if_neg h2], AM.get_new_self⟩
  obtain ⟨M', h2, h3⟩ := key
  refine ⟨_, M', ?_, rfl, h3⟩
  simp only [evalOp, ha, hc, ht, rhoL, hx, hy, Option.map_some, abuiltin, h2]
end
section
variable {E : Env} {ρ : Reg} {M : AM}
theorem e_convB {s e : TypeId} {x : Operand} {b off n c : Nat} {g : Option Nat} {l : List AV} {fz : Bool} (hx : rhoR E ρ x = some (.sl b off n c g)) (hs : E.under s = some (.slice e)) (he : E.under e = some (.int .u8)) (hb : M.get b = some (.cells l false fz)) :
    evalOp E (rhoR E ρ) (.convert s s x) M = some (.val (.sl b off n c g) (M.set b (some (.cells l false true)))) := by
  simp only [evalOp, hx, aconvert, hs, he, nbeq_true (rfl : s = s), cond_true, hb, Option.map_some]
end
end Go.Abm
