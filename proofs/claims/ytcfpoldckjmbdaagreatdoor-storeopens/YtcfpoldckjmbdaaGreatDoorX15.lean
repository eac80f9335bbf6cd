/-
  A part of the proof that pumicelaw17.StoreOpens returns true for every geometry, key, number and group (a machine over names of blocks, its soundness, the calls of the store for any geometry, the chapter's example as a run). Condition: the listed package variables hold what the program's text lays; the card ties that.
-/
import Derived.Test.YtcfpoldckjmbdaaGreatDoorX14
set_option linter.unusedVariables false
set_option linter.unusedSimpArgs false
set_option linter.unusedSectionVars false
namespace Go.Abm
noncomputable section
def usesOf : Op → List Operand
  | .move x | .nilCheck x | .load _ x | .unOp _ _ x | .convert _ _ x | .makeInterface _ x | .field _ x _ | .fieldAddr _ x _ | .extract x _ => [x]
  | .binOp _ _ x y _ | .indexAddr _ x y | .index _ x y | .lookup _ x y _ => [x, y]
  | .pick c a b => [c, a, b]
  | .build _ ps => ps.toList.map (·.2)
  | .makeFunc _ a b => a.toList ++ b.toList
  | .slice _ x l h m => x :: (l.toList ++ h.toList ++ m.toList)
  | .call c => c.args.toList
  | _ => []
def looked : Op → Bool
  | .move _ | .nilCheck _ | .load .. | .unOp .. | .convert .. | .makeInterface .. | .field .. | .fieldAddr .. | .extract .. | .binOp .. | .indexAddr .. | .index .. | .lookup .. | .pick .. | .build .. | .makeFunc .. | .slice .. => true
  | .call c => match c.callee with
    | .builtin _ => true
    | _ => false
  | _ => false
section
variable {ρ ρ' : Rho}
theorem rhoL_congr : ∀ l : List Operand, (∀ x ∈ l, ρ x = ρ' x) → rhoL ρ l = rhoL ρ' l
  | [], _ => rfl
  | x :: l, h => by
    unfold rhoL
    rw [h x (List.mem_cons_self), rhoL_congr l fun y hy => h y (List.mem_cons_of_mem _ hy)]
theorem rhoP_congr : ∀ l : List (Nat × Operand), (∀ x ∈ l.map (·.2), ρ x = ρ' x) → rhoP ρ l = rhoP ρ' l
  | [], _ => rfl
  | (i, x) :: l, h => by
    unfold rhoP
    rw [h x (by simp), rhoP_congr l fun y hy => h y (by simp at hy ⊢; exact Or.inr hy)]
theorem rhoO_congr {x : Option Operand} (h : ∀ y ∈ x.toList, ρ y = ρ' y) : rhoO ρ x = rhoO ρ' x := by
  cases x with
  | none => rfl
  | some x => simp only [rhoO, h x (by simp)]
theorem evalOp_congr {E : Env} {M : AM} (o : Op) (hl : looked o = true) (h : ∀ x ∈ usesOf o, ρ x = ρ' x) : evalOp E ρ o M = evalOp E ρ' o M := by
  cases o with
  | move x => simp only [evalOp, h x (by simp [usesOf])]
  | nilCheck x => simp only [evalOp, h x (by simp [usesOf])]
  | load t x => simp only [evalOp, h x (by simp [usesOf])]
  | unOp u t x => simp only [evalOp, h x (by simp [usesOf])]
  | convert s d x => simp only [evalOp, h x (by simp [usesOf])]
  | makeInterface t x => simp only [evalOp, h x (by simp [usesOf])]
  | field t x f => simp only [evalOp, h x (by simp [usesOf])]
  | fieldAddr t x f => simp only [evalOp, h x (by simp [usesOf])]
  | extract x i => simp only [evalOp, h x (by simp [usesOf])]
  | binOp op t x y p => simp only [evalOp, h x (by simp [usesOf]), h y (by simp [usesOf])]
  | indexAddr t x y => simp only [evalOp, h x (by simp [usesOf]), h y (by simp [usesOf])]
  | index t x y => simp only [evalOp, h x (by simp [usesOf]), h y (by simp [usesOf])]
  | lookup t x y k => simp only [evalOp, h x (by simp [usesOf]), h y (by simp [usesOf])]
  | pick c a b => simp only [evalOp, h c (by simp [usesOf]), h a (by simp [usesOf]), h b (by simp [usesOf])]
  | build t ps => simp only [evalOp, rhoP_congr ps.toList (fun x hx => h x (by simpa [usesOf] using hx))]
  | makeFunc f a b =>
    simp only [evalOp, rhoL_congr a.toList (fun x hx => h x (by unfold usesOf; exact List.mem_append_left _ hx)), rhoL_congr b.toList (fun x hx => h x (by unfold usesOf; exact List.mem_append_right _ hx))]
  | slice t x l hh m =>
    have h1 : ρ x = ρ' x := h x (by simp [usesOf])
    have h2 : rhoO ρ l = rhoO ρ' l := rhoO_congr fun y hy => h y (by unfold usesOf; exact List.mem_cons_of_mem _ (List.mem_append_left _ (List.mem_append_left _ hy)))
    have h3 : rhoO ρ hh = rhoO ρ' hh := rhoO_congr fun y hy => h y (by unfold usesOf; exact List.mem_cons_of_mem _ (List.mem_append_left _ (List.mem_append_right _ hy)))
    have h4 : rhoO ρ m = rhoO ρ' m := rhoO_congr fun y hy => h y (by unfold usesOf; exact List.mem_cons_of_mem _ (List.mem_append_right _ hy))
    simp only [evalOp, h1, h2, h3, h4]
  | call c =>
    have h1 : rhoL ρ c.args.toList = rhoL ρ' c.args.toList := rhoL_congr _ fun x hx => h x (by simpa [usesOf] using hx)
    cases hc : c.callee with
    | builtin b => simp only [evalOp, h1, hc]
    | value f => simp [looked, hc] at hl
    | invoke r nm => simp [looked, hc] at hl
  | _ => cases hl
end
def dstIs (ops : Array Oper) (l t : Nat) : Bool :=
  match ops[l]? with
  | some o => match o.dst with
    | some d => Nat.beq d t
    | none => false
  | none => false
def opnOk (W MS : Tr Nat) (ops : Array Oper) (i m : Nat) : Operand → Bool
  | .tmp t => match W.get t with
    | none => true
    | some l => bif bit m l then Nat.blt l i && dstIs ops l t else bif Nat.beq l i then true else match MS.get l with
      | some ml => bit ml i && Nat.blt i l
      | none => false
  | _ => true
def sameDst (ops : Array Oper) (i : Nat) (d : Option Tmp) : Bool :=
  match d with
  | some d => dstIs ops i d
  | none => match ops[i]? with
    | some o => o.dst.isNone
    | none => true
def itemOk (W MS : Tr Nat) (ops : Array Oper) (p dn : Nat) (x : DItem) : Bool :=
  Nat.beq x.i p && sub x.m dn && looked x.o.op && (usesOf x.o.op).all (opnOk W MS ops x.i x.m) && sameDst ops x.i x.o.dst &&
  (match x.o.dst with
    | none => true
    | some d => match W.get d with
      | some l => Nat.beq l x.i
      | none => false) &&
  (match x.o.guard with
    | none => true
    | some (j, _) => bit x.m j && Nat.blt j x.i && (match ops[j]? with | some oj => oj.dst.isSome | none => false))
def itemsOk (W MS : Tr Nat) (ops : Array Oper) : List DItem → Nat → Nat → Bool
  | [], _, _ => true
  | x :: r, p, dn => itemOk W MS ops p dn x && itemsOk W MS ops r (p + 1) (bitOn dn p)
def wDS (E : Env) (n : Nat) (ops : Array Oper) : List DItem → Reg → AM → (Reg → Prop) → Prop
  | [], ρ, _, K => K ρ
  | ⟨_, o, _⟩ :: r, ρ, M, K => ∃ b, wantedR ops o ρ = some b ∧ match b with
    | false => okind E o.op ≠ .eff ∧ wPut n ρ o.dst .undef fun ρ' => wDS E n ops r ρ' M K
    | true => ∃ v M', evalOp E (rhoR E ρ) o.op M = some (.val v M') ∧ (okind E o.op = .pure ∨ okind E o.op = .read ∧ avBeq 8 v v = true) ∧ wPut n ρ o.dst v fun ρ' => wDS E n ops r ρ' M K
theorem beq_eq {a b : Nat} (h : Nat.beq a b = true) : a = b := Nat.eq_of_beq_eq_true h
def putR (ρ : Reg) (d : Option Tmp) (v : AV) : Reg :=
  match d with
  | some t => upd ρ t v
  | none => ρ
structure DInv (W : Tr Nat) (ops : Array Oper) (ρ0 : Reg) (p : Nat) (V : Tr AV) (ρ : Reg) : Prop where
  a : ∀ j d, j < p → dstIs ops j d = true → ∃ v, V.get j = some v ∧ ρ d = some v
  b : ∀ t, (∀ l, W.get t = some l → p ≤ l) → ρ t = ρ0 t
  c : ∀ j, p ≤ j → V.get j = none
  d : ∀ j d, j < p → dstIs ops j d = true → W.get d = some j
theorem dstIs_inv {ops : Array Oper} {l t : Nat} (h : dstIs ops l t = true) : ∃ o, ops[l]? = some o ∧ o.dst = some t := by
  unfold dstIs at h
  split at h
  · rename_i o ho
    split at h
    · rename_i d hd; exact ⟨o, ho, by rw [hd, beq_eq h]⟩
    · cases h
  · cases h
theorem dstIs_mk {ops : Array Oper} {l t : Nat} {o : Oper} (h : ops[l]? = some o) (hd : o.dst = some t) : dstIs ops l t = true := by
  unfold dstIs; rw [h]; dsimp only; rw [hd]; exact Nat.beq_refl t
theorem dagree {E : Env} {W MS : Tr Nat} {ops : Array Oper} {ρ0 ρ : Reg} {p m : Nat} {V V' : Tr AV} (hI : DInv W ops ρ0 p V ρ) (hV : ∀ j, j < p → V'.get j = V.get j) {x : Operand} (hx : opnOk W MS ops p m x = true) :
    rhoR E (dreg ρ0 W MS V' p m) x = rhoR E ρ x := by
  cases x with
  | tmp t =>
    show dreg ρ0 W MS V' p m t = ρ t
    unfold opnOk at hx
    dsimp only at hx
    unfold dreg
    split at hx
    · rename_i hw; rw [hw]; exact (hI.b t fun l hl => by rw [hw] at hl; cases hl).symm
    · rename_i l hw
      rw [hw]; dsimp only
      cases hb : bit m l with
      | true =>
        rw [hb, cond_true, Bool.and_eq_true] at hx
        obtain ⟨v, h1, h2⟩ := hI.a l t (blt_of hx.1) hx.2
        rw [cond_true, hV l (blt_of hx.1), h1, h2]
      | false =>
        rw [hb, cond_false] at hx
        rw [cond_false]
        cases hl : Nat.beq l p with
        | true =>
          rw [cond_true]
          exact (hI.b t fun l' hl' => by rw [hw] at hl'; cases hl'; exact Nat.le_of_eq (beq_eq hl).symm).symm
        | false =>
          rw [hl, cond_false] at hx
          rw [cond_false]
          split at hx
          · rename_i ml hml
            rw [Bool.and_eq_true] at hx
            rw [hml]; dsimp only; rw [hx.1, cond_true]
            exact (hI.b t fun l' hl' => by rw [hw] at hl'; cases hl'; exact Nat.le_of_lt (blt_of hx.2)).symm
          · cases hx
  | _ => rfl
theorem DInv.put {W : Tr Nat} {ops : Array Oper} {ρ0 ρ ρ2 : Reg} {p : Nat} {V : Tr AV} (hI : DInv W ops ρ0 p V ρ) {d : Option Tmp} {v : AV} (hs : sameDst ops p d = true)
    (hw : ∀ t, d = some t → W.get t = some p) (hρ : ρ2 = putR ρ d v) : DInv W ops ρ0 (p + 1) (V.set p (some v)) ρ2 := by
  have one : ∀ t, dstIs ops p t = true → d = some t := fun t ht => by
    obtain ⟨o, h1, h2⟩ := dstIs_inv ht
    cases d with
    | none => unfold sameDst at hs; dsimp only at hs; rw [h1] at hs; dsimp only at hs; rw [h2] at hs; cases hs
    | some d0 =>
      obtain ⟨o', h3, h4⟩ := dstIs_inv (show dstIs ops p d0 = true from hs)
      rw [h1] at h3; cases h3
      rw [← h4, h2]
  have keep : ∀ t, d ≠ some t → ρ2 t = ρ t := fun t ht => by
    subst hρ
    cases d with
    | none => rfl
    | some d0 => exact upd_ne fun e => ht (by rw [e])
  refine ⟨fun j t hj ht => ?_, fun t ht => ?_, fun j hj => ?_, fun j t hj ht => ?_⟩
  · rcases Nat.lt_or_eq_of_le (Nat.le_of_lt_succ hj) with h | h
    · obtain ⟨v', h1, h2⟩ := hI.a j t h ht
      refine ⟨v', by rw [Tr.get_set, if_neg (by omega)]; exact h1, ?_⟩
      rw [keep t fun e => ?_]; exact h2
      have := hw t e
      rw [hI.d j t h ht] at this
      cases this; omega
    · subst h
      have e := one t ht
      refine ⟨v, by rw [Tr.get_set, if_pos rfl], ?_⟩
      rw [hρ, e]; exact upd_eq ρ t v
  · rw [keep t fun e => ?_]
    · exact hI.b t fun l hl => Nat.le_of_succ_le (ht l hl)
    · have := ht p (hw t e); omega
  · rw [Tr.get_set, if_neg (by omega)]; exact hI.c j (by omega)
  · rcases Nat.lt_or_eq_of_le (Nat.le_of_lt_succ hj) with h | h
    · exact hI.d j t h ht
    · subst h; exact hw t (one t ht)
theorem want_eq {W : Tr Nat} {ops : Array Oper} {ρ0 ρ : Reg} {p m : Nat} {V : Tr AV} {o : Oper} (hI : DInv W ops ρ0 p V ρ)
    (hg : (match o.guard with
    | none => true
    | some (j, _) => bit m j && Nat.blt j p && (match ops[j]? with | some oj => oj.dst.isSome | none => false)) = true) : dwantR ops o m V = wantedR ops o ρ := by
  unfold dwantR wantedR
  cases hgo : o.guard with
  | none => rfl
  | some g =>
    obtain ⟨j, want⟩ := g
    rw [hgo] at hg
    dsimp only at hg ⊢
    rw [Bool.and_eq_true, Bool.and_eq_true] at hg
    obtain ⟨⟨h1, h2⟩, h3⟩ := hg
    split at h3
    · rename_i oj hoj
      rw [h1, hoj]; dsimp only
      cases hd : oj.dst with
      | none => rw [hd] at h3; cases h3
      | some d =>
        obtain ⟨v, h4, h5⟩ := hI.a j d (blt_of h2) (dstIs_mk hoj hd)
        rw [h4]; dsimp only; rw [h5]
        cases v <;> rfl
    · cases h3
theorem wPut_inv {n : Nat} {ρ : Reg} {d : Option Tmp} {v : AV} {K : Reg → Prop} (h : wPut n ρ d v K) : K (putR ρ d v) ∧ ∀ K' : Reg → Prop, K' (putR ρ d v) → wPut n ρ d v K' := by
  cases d with
  | none => exact ⟨h, fun K' h' => h'⟩
  | some d => exact ⟨h.2, fun K' h' => ⟨h.1, h'⟩⟩
theorem wDS_pass {E : Env} {n : Nat} {W MS : Tr Nat} {ops : Array Oper} {ρ0 : Reg} {T : Tr AV} (hT : T.get = ρ0) {M : AM} {K : Reg → Prop} : ∀ (r : List DItem) (p : Nat) (s : DS) (ρ : Reg), DInv W ops ρ0 p s.V ρ → itemsOk W MS ops r p s.dn = true → wDS E n ops r ρ M K → s.M = M →
    ∃ s' new, dpass E ⟨T, W, MS, ops⟩ r s [] = some ([], s') ∧ s'.M = M ∧ s'.pend = new ++ s.pend ∧ (∀ j, j < p → s'.V.get j = s.V.get j) ∧
      (∀ V' : Tr AV, (∀ j, j < p + r.length → V'.get j = s'.V.get j) → new.all (dcheck E ⟨T, W, MS, ops⟩ V' M) = true) ∧ DFin n r s'.V ρ K
  | [], p, s, ρ, hI, hok, h, hM => ⟨s, [], rfl, hM, rfl, fun _ _ => rfl, fun _ _ => rfl, h⟩
  | ⟨i, o, m⟩ :: r, p, s, ρ, hI, hok, h, hM => by
    subst hM
    unfold itemsOk at hok
    rw [Bool.and_eq_true] at hok
    obtain ⟨hx, hr⟩ := hok
    unfold itemOk at hx
    simp only [Bool.and_eq_true] at hx
    obtain ⟨⟨⟨⟨⟨⟨x1, x2⟩, x3⟩, x4⟩, x5⟩, x6⟩, x7⟩ := hx
    have x1 : i = p := beq_eq x1
    subst x1
    have hfresh : (sub m s.dn && fresh s.V i) = true := by
      rw [x2, Bool.true_and]; unfold fresh; rw [hI.c i (Nat.le_refl _)]
    have hw : ∀ t, o.dst = some t → W.get t = some i := fun t ht => by
      rw [ht] at x6
      dsimp only at x6
      split at x6
      · rename_i l hl; rw [hl, beq_eq x6]
      · cases x6
    have hwant := want_eq (o := o) (m := m) hI x7
    obtain ⟨b, hb, h⟩ := h
    have look : ∀ {V' : Tr AV}, (∀ j, j < i → V'.get j = s.V.get j) → evalOp E (drho E ⟨T, W, MS, ops⟩ V' i m) o.op s.M = evalOp E (rhoR E ρ) o.op s.M := fun hV => by
      rw [drho_eq hT]
      exact evalOp_congr o.op x3 fun x hx => dagree hI hV (List.all_eq_true.1 x4 x hx)
    cases b with
    | false =>
      obtain ⟨hk, hp⟩ := h
      obtain ⟨hp1, hp2⟩ := wPut_inv hp
      obtain ⟨s', new, g1, g2, g3, g4, g5, g6⟩ := wDS_pass hT r (i + 1) (s.did i m o .undef s.M .skip) _ (hI.put x5 hw rfl) hr hp1 rfl
      refine ⟨s', new ++ [⟨i, m, o, .skip⟩], ?_, g2, by rw [g3, List.append_assoc]; rfl, fun j hj => ?_, fun V' hV' => ?_, ?_⟩
      · unfold dpass; rw [hfresh, dwant_eq, hwant, hb, cond_true]
        cases hkk : okind E o.op with
        | eff => exact absurd hkk hk
        | _ => exact g1
      · rw [g4 j (by omega)]; show (s.V.set i _).get j = _; rw [Tr.get_set, if_neg (by omega)]
      · rw [List.all_append, g5 V' fun j hj => hV' j (by rw [List.length_cons]; omega)]; rfl
      · refine ⟨.undef, ?_, hp2 _ g6⟩
        rw [g4 i (Nat.lt_succ_self _)]; show (s.V.set i _).get i = _; rw [Tr.get_set, if_pos rfl]
    | true =>
      obtain ⟨v, M', he, hkd, hp⟩ := h
      obtain ⟨hp1, hp2⟩ := wPut_inv hp
      have he0 := (look fun _ _ => rfl).trans he
      rcases hkd with hk | ⟨hk, hbb⟩
      · obtain ⟨s', new, g1, g2, g3, g4, g5, g6⟩ := wDS_pass hT r (i + 1) (s.did i m o v s.M .pure) _ (hI.put x5 hw rfl) hr hp1 rfl
        refine ⟨s', new ++ [⟨i, m, o, .pure⟩], ?_, g2, by rw [g3, List.append_assoc]; rfl, fun j hj => ?_, fun V' hV' => ?_, ?_⟩
        · unfold dpass; rw [hfresh, dwant_eq, hwant, hb, hk, cond_true, he0]; exact g1
        · rw [g4 j (by omega)]; show (s.V.set i _).get j = _; rw [Tr.get_set, if_neg (by omega)]
        · rw [List.all_append, g5 V' fun j hj => hV' j (by rw [List.length_cons]; omega)]; rfl
        · refine ⟨v, ?_, hp2 _ g6⟩
          rw [g4 i (Nat.lt_succ_self _)]; show (s.V.set i _).get i = _; rw [Tr.get_set, if_pos rfl]
      · obtain ⟨s', new, g1, g2, g3, g4, g5, g6⟩ := wDS_pass hT r (i + 1) (s.did i m o v s.M .read) _ (hI.put x5 hw rfl) hr hp1 rfl
        have gi : s'.V.get i = some v := by rw [g4 i (Nat.lt_succ_self _)]; show (s.V.set i _).get i = _; rw [Tr.get_set, if_pos rfl]
        refine ⟨s', new ++ [⟨i, m, o, .read⟩], ?_, g2, by rw [g3, List.append_assoc]; rfl, fun j hj => ?_, fun V' hV' => ?_, ?_⟩
        · unfold dpass; rw [hfresh, dwant_eq, hwant, hb, hk, cond_true, he0]; exact g1
        · rw [g4 j (by omega)]; show (s.V.set i _).get j = _; rw [Tr.get_set, if_neg (by omega)]
        · rw [List.all_append, g5 V' fun j hj => hV' j (by rw [List.length_cons]; omega), List.all_cons, List.all_nil, Bool.and_true, Bool.true_and]
          have hVi : V'.get i = some v := by rw [hV' i (by rw [List.length_cons]; omega), gi]
          have hl := look (V' := V') fun j hj => by
            rw [hV' j (by omega), g4 j (by omega)]; show (s.V.set i _).get j = _; rw [Tr.get_set, if_neg (by omega)]
          unfold dcheck
          dsimp only
          rw [hl, he, hVi]
          exact hbb
        · exact ⟨v, gi, hp2 _ g6⟩
theorem w_look {E : Env} {n : Nat} {top : Bool} {id : Nat} {ops : Array Oper} {ρ : Reg} {D : List ADef} {M : AM} {Q : KE} {its : List DItem} {MS W : Tr Nat} (hi : ditems ops.toList 0 .leaf .leaf = some (its, MS, W))
    (hm : (bif depL ops.toList then modeOk .text ops && modeOk .gc ops else true) = true) (hs : itemsOk W MS ops its 0 0 = true) (h : wDS E n ops its ρ M fun ρ' => Q .normal ρ' D M) : wC E n top (.region id ops true) ρ D M Q := by
  refine w_draw hi hm fun T hT => ?_
  have hI : DInv W ops ρ 0 (⟨.leaf, M, 0, []⟩ : DS).V ρ := ⟨fun j d hj => absurd hj (Nat.not_lt_zero _), fun _ _ => rfl, fun j _ => rfl, fun j d hj => absurd hj (Nat.not_lt_zero _)⟩
  obtain ⟨s', new, g1, g2, g3, g4, g5, g6⟩ := wDS_pass hT its 0 ⟨.leaf, M, 0, []⟩ ρ hI hs h rfl
  refine ⟨0, s', ?_, by show DFin n its s'.V ρ fun ρ' => Q .normal ρ' D s'.M; rw [g2]; exact g6⟩
  unfold dstage
  rw [g1]; dsimp only
  rw [g3, g2, List.append_nil, g5 s'.V fun _ _ => rfl]; rfl
def wLs (E : Env) (n : Nat) (ops : Array Oper) : List Oper → Reg → AM → (Reg → Prop) → Prop
  | [], ρ, _, K => K ρ
  | o :: r, ρ, M, K => ∃ b, wantedR ops o ρ = some b ∧ match b with
    | false => okind E o.op ≠ .eff ∧ wPut n ρ o.dst .undef fun ρ' => wLs E n ops r ρ' M K
    | true => ∃ v M', evalOp E (rhoR E ρ) o.op M = some (.val v M') ∧ (okind E o.op = .pure ∨ okind E o.op = .read ∧ avBeq 8 v v = true) ∧ wPut n ρ o.dst v fun ρ' => wLs E n ops r ρ' M K
theorem wPut_mono {n : Nat} {ρ : Reg} {d : Option Tmp} {v : AV} {K K' : Reg → Prop} (h : wPut n ρ d v K) (hk : ∀ ρ, K ρ → K' ρ) : wPut n ρ d v K' := by
  cases d with
  | none => exact hk _ h
  | some d => exact ⟨h.1, hk _ h.2⟩
theorem wLs_wDS {E : Env} {n : Nat} {ops : Array Oper} {M : AM} {K : Reg → Prop} : ∀ (its : List DItem) (ρ : Reg), wLs E n ops (its.map (·.o)) ρ M K → wDS E n ops its ρ M K
  | [], _, h => h
  | ⟨i, o, m⟩ :: r, ρ, h => by
    obtain ⟨b, hb, h⟩ := h
    refine ⟨b, hb, ?_⟩
    cases b with
    | false => exact ⟨h.1, wPut_mono h.2 fun ρ' => wLs_wDS r ρ'⟩
    | true =>
      obtain ⟨v, M', h1, h2, h3⟩ := h
      exact ⟨v, M', h1, h2, wPut_mono h3 fun ρ' => wLs_wDS r ρ'⟩
theorem ditems_ops : ∀ (l : List Oper) (i : Nat) (MS W : Tr Nat) (its : List DItem) (MS' W' : Tr Nat), ditems l i MS W = some (its, MS', W') → its.map (·.o) = l
  | [], _, _, _, _, _, _, h => by cases h; rfl
  | o :: r, i, MS, W, its, MS', W', h => by
    unfold ditems at h
    split at h
    · split at h
      · rename_i l MS2 W2 h2
        cases h
        rw [List.map_cons, ditems_ops r _ _ _ _ _ _ h2]
      · cases h
    · cases h
def lookOk (ops : Array Oper) : Bool :=
  (bif depL ops.toList then modeOk .text ops && modeOk .gc ops else true) && match ditems ops.toList 0 .leaf .leaf with
  | some (its, MS, W) => itemsOk W MS ops its 0 0
  | none => false
theorem w_see {E : Env} {n : Nat} {top : Bool} {id : Nat} {ops : Array Oper} {ρ : Reg} {D : List ADef} {M : AM} {Q : KE} (hs : lookOk ops = true) (h : wLs E n ops ops.toList ρ M fun ρ' => Q .normal ρ' D M) : wC E n top (.region id ops true) ρ D M Q := by
  unfold lookOk at hs
  rw [Bool.and_eq_true] at hs
  obtain ⟨h1, h2⟩ := hs
  split at h2
  · rename_i its MS W hi
    refine w_look hi h1 h2 (wLs_wDS its ρ ?_)
    rw [ditems_ops _ _ _ _ _ _ _ hi]
    exact h
  · cases h2
section
variable {E : Env} {n : Nat} {ops : Array Oper} {r : List Oper} {o : Oper} {ρ : Reg} {M M' : AM} {K : Reg → Prop} {d : Tmp} {v : AV}
theorem ws_nil (k : K ρ) : wLs E n ops [] ρ M K := k
theorem ws_pure (hg : wantedR ops o ρ = some true) (hd : o.dst = some d) (hn : Nat.blt d n = true) (ho : okind E o.op = .pure) (he : evalOp E (rhoR E ρ) o.op M = some (.val v M')) (k : wLs E n ops r (upd ρ d v) M K) : wLs E n ops (o :: r) ρ M K :=
  ⟨true, hg, v, M', he, Or.inl ho, by rw [hd]; exact ⟨Nat.le_of_ble_eq_true hn, k⟩⟩
theorem ws_read (hg : wantedR ops o ρ = some true) (hd : o.dst = some d) (hn : Nat.blt d n = true) (ho : okind E o.op = .read) (he : evalOp E (rhoR E ρ) o.op M = some (.val v M')) (hb : avBeq 8 v v = true) (k : wLs E n ops r (upd ρ d v) M K) : wLs E n ops (o :: r) ρ M K :=
  ⟨true, hg, v, M', he, Or.inr ⟨ho, hb⟩, by rw [hd]; exact ⟨Nat.le_of_ble_eq_true hn, k⟩⟩
theorem ws_not (hg : wantedR ops o ρ = some false) (hd : o.dst = some d) (hn : Nat.blt d n = true) (ho : okind E o.op ≠ .eff) (k : wLs E n ops r (upd ρ d .undef) M K) : wLs E n ops (o :: r) ρ M K :=
  ⟨false, hg, ho, by rw [hd]; exact ⟨Nat.le_of_ble_eq_true hn, k⟩⟩
end
end
end Go.Abm
