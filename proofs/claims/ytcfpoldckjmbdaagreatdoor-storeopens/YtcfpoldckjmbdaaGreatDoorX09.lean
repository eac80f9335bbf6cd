/-
  A part of the proof that pumicelaw17.StoreOpens returns true for every geometry, key, number and group (a machine over names of blocks, its soundness, the calls of the store for any geometry, the chapter's example as a run). Condition: the listed package variables hold what the program's text lays; the card ties that.
-/
import Derived.Test.YtcfpoldckjmbdaaGreatDoorX08
set_option linter.unusedVariables false
set_option linter.unusedSimpArgs false
set_option linter.unusedSectionVars false
namespace Go.Abm
def VLe (V V' : Tr AV) : Prop := ∀ i v, V.get i = some v → V'.get i = some v
theorem VLe.refl (V : Tr AV) : VLe V V := fun _ _ h => h
theorem VLe.trans {a b c : Tr AV} (h : VLe a b) (h' : VLe b c) : VLe a c := fun i v e => h' i v (h i v e)
theorem fresh_none {V : Tr AV} {i : Nat} (h : fresh V i = true) : V.get i = none := by
  unfold fresh at h
  split at h
  · assumption
  · cases h
theorem VLe.set {V : Tr AV} {i : Nat} (h : fresh V i = true) (v : AV) : VLe V (V.set i (some v)) := fun j x e => by
  rw [Tr.get_set]
  by_cases hj : j = i
  · subst hj; rw [fresh_none h] at e; cases e
  · rw [if_neg hj]; exact e
def PendK (E : Env) (c : DC) (p : Pend) (v : AV) (Vc : Tr AV) : PK → Prop
  | .skip => v = .undef ∧ dwant c p.o p.m Vc = some false
  | .pure => dwant c p.o p.m Vc = some true ∧ okind E p.o.op = .pure ∧ ∃ Mc M', evalOp E (drho E c Vc p.i p.m) p.o.op Mc = some (.val v M')
  | .read => dwant c p.o p.m Vc = some true ∧ okind E p.o.op = .read
  | .alloc id l => dwant c p.o p.m Vc = some true ∧ okind E p.o.op = .alloc ∧ ∃ Mc M', evalOp E (drho E c Vc p.i p.m) p.o.op Mc = some (.val v M') ∧ Mc.nx = id ∧ M'.get id = some (.cells l false false)
structure PendOk (E : Env) (c : DC) (V : Tr AV) (n0 nx : Nat) (p : Pend) : Prop where
  o : c.ops[p.i]? = some p.o
  m : c.MS.get p.i = some p.m
  v : ∃ v, V.get p.i = some v ∧ ∃ Vc, VLe Vc V ∧ PendK E c p v Vc p.k
  id : ∀ id l, p.k = .alloc id l → n0 ≤ id ∧ id < nx
theorem PendOk.mono {E : Env} {c : DC} {V V' : Tr AV} {n0 nx nx' : Nat} {p : Pend} (h : PendOk E c V n0 nx p) (hV : VLe V V') (hn : nx ≤ nx') : PendOk E c V' n0 nx' p :=
  ⟨h.o, h.m, let ⟨v, a, Vc, b, d⟩ := h.v; ⟨v, hV _ _ a, Vc, b.trans hV, d⟩, fun id l e => ⟨(h.id id l e).1, Nat.lt_of_lt_of_le (h.id id l e).2 hn⟩⟩
structure AInv (E : Env) (c : DC) (n0 : Nat) (st : DS) : Prop where
  nx : n0 ≤ st.M.nx
  pend : ∀ p ∈ st.pend, PendOk E c st.V n0 st.M.nx p
  uniq : ∀ p q id l l', p ∈ st.pend → q ∈ st.pend → p.k = .alloc id l → q.k = .alloc id l' → p.i = q.i
def ItOk (c : DC) (x : DItem) : Prop := c.ops[x.i]? = some x.o ∧ c.MS.get x.i = some x.m
def gh (B : Bd) (st : DS) (D : Nat → Prop) : Bd := ⟨B.pr, fun id => B.gh id ∨ ∃ p ∈ st.pend, ¬ D p.i ∧ ∃ l, p.k = .alloc id l⟩
structure Inv (E : Env) (B : Bd) (s : St) (c : DC) (D : Nat → Prop) (st : DS) (its : List DItem) (ι : Ren) (w : World) (a : Act) : Prop where
  rel : Rel (gh B st D) ι st.M w
  glob : Glob E ι
  size : a.tmps.size = s.n
  defs : DRs ι s.D a.defers
  clo : ∀ i, D i → ∀ m, c.MS.get i = some m → ∀ b, bit m b = true → D b
  dn : ∀ i, D i → bit st.dn i = true
  pnd : ∀ i, bit st.dn i = true → ¬ D i → ∃ p ∈ st.pend, p.i = i
  todo : ∀ i, i < c.ops.size → bit st.dn i = true ∨ ∃ x ∈ its, x.i = i
  done : ∀ i o, D i → c.ops[i]? = some o → ∃ v, st.V.get i = some v ∧ ∀ d, o.dst = some d → ∃ v', a.tmps[d]? = some v' ∧ VR ι v v'
  rest : ∀ t v, (∀ i o, D i → c.ops[i]? = some o → o.dst ≠ some t) → c.T0.get t = some v → ∃ v', a.tmps[t]? = some v' ∧ VR ι v v'
theorem Fr.gh {B B' : Bd} {w w' : World} (h : Fr B w w') (hn : B'.pr = B.pr) : Fr B' w w' := ⟨fun b hb => h.heap b (hn ▸ hb), h.size, h.os, h.out, h.tape⟩
section
variable {P : Program} {E : Env} {B : Bd} {s : St} {c : DC} {its0 : List DItem} (hD : DOk c.ops its0 c.MS c.W)
include hD
theorem ready_sub {D : Nat → Prop} (clo : ∀ i, D i → ∀ m, c.MS.get i = some m → ∀ b, bit m b = true → D b) {i : Nat} {o : Oper} (ho : c.ops[i]? = some o)
    (hr : ∀ e ∈ o.after.toList, Region.binds .any e = true → D e.on) (m : Nat) (hm : c.MS.get i = some m) (b : Nat) (hb : bit m b = true) : D b := by
  obtain ⟨e, he, hbe, h⟩ := hD.mask i o m ho hm b hb
  rcases h with h | ⟨m', h1, h2⟩
  · rw [h]; exact hr e he hbe
  · exact clo _ (hr e he hbe) m' h1 b h2
omit hD in
theorem want_ok {D : Nat → Prop} {st : DS} {its : List DItem} {ι : Ren} {w : World} {a : Act} (I : Inv E B s c D st its ι w a) {Vc : Tr AV} (hV : VLe Vc st.V) {o : Oper} {m : Nat}
    (hm : ∀ b, bit m b = true → D b) {x : Bool} (h : dwant c o m Vc = some x) : Region.wanted o (yielded c.ops a.tmps) = x := by
  unfold dwant at h
  unfold Region.wanted
  split at h
  · rename_i hg; cases h; rw [hg]
  · rename_i j want hg
    rw [hg]
    simp only
    unfold yielded
    split at h
    · rename_i oj hb hj
      have hDj := hm j hb
      rw [hj]
      simp only [Option.bind_some]
      split at h
      · rename_i d bb hd hv
        cases h
        obtain ⟨v, e1, e2⟩ := I.done j oj hDj hj
        rw [hV _ _ hv] at e1
        cases e1
        obtain ⟨v', e3, e4⟩ := e2 d hd
        cases e4
        rw [hd]
        simp only [Option.bind_some, e3]
        cases bb <;> cases want <;> rfl
      · rename_i d v hnb hd hv
        cases h
        obtain ⟨v2, e1, e2⟩ := I.done j oj hDj hj
        rw [hV _ _ hv] at e1
        cases e1
        obtain ⟨v', e3, e4⟩ := e2 d hd
        rw [hd]
        simp only [Option.bind_some, e3]
        cases e4 <;> first | (exact absurd rfl (hnb _)) | rfl
      · cases h
    · cases h
theorem drho_ok {D : Nat → Prop} {st : DS} {its : List DItem} {ι : Ren} {w : World} {a : Act} (I : Inv E B s c D st its ι w a) {Vc : Tr AV} (hV : VLe Vc st.V) {i m : Nat} {o : Oper} (ho : c.ops[i]? = some o)
    (hn : ¬ D i) (hm : ∀ b, bit m b = true → D b) (x : Operand) (v : AV) (h : drho E c Vc i m x = some v) : VR ι v (a.eval x) := by
  have got : ∀ {t : Nat} {v' : Value}, a.tmps[t]? = some v' → a.eval (.tmp t) = v' := fun e => by
    simp only [Act.eval]
    rw [Array.getD_eq_getD_getElem?, e]
    rfl
  cases x with
  | tmp t =>
    simp only [drho] at h
    split at h
    · rename_i hw
      obtain ⟨v', e1, e2⟩ := I.rest t v (fun j oj hj hoj hd => by rw [hD.wr' j oj t hoj hd] at hw; cases hw) h
      rw [got e1]; exact e2
    · rename_i l hw
      obtain ⟨ol, hol, hdl⟩ := hD.wr t l hw
      have hnot : ¬ D l → ∀ j oj, D j → c.ops[j]? = some oj → oj.dst ≠ some t := fun hl j oj hj hoj hd => by
        have := hD.wr' j oj t hoj hd
        rw [hw] at this
        cases this
        exact hl hj
      cases hb : bit m l with
      | true =>
        rw [hb] at h
        obtain ⟨v2, e1, e2⟩ := I.done l ol (hm l hb) hol
        rw [hV _ _ h] at e1
        cases e1
        obtain ⟨v', e3, e4⟩ := e2 t hdl
        rw [got e3]; exact e4
      | false =>
        rw [hb] at h
        simp only [cond_false] at h
        have fin : ¬ D l → c.T0.get t = some v → VR ι v (a.eval (.tmp t)) := fun hl ht => by
          obtain ⟨v', e1, e2⟩ := I.rest t v (hnot hl) ht
          rw [got e1]; exact e2
        cases hli : Nat.beq l i with
        | true =>
          rw [hli] at h
          have := Nat.eq_of_beq_eq_true hli
          subst this
          exact fin hn h
        | false =>
          rw [hli] at h
          simp only [cond_false] at h
          split at h
          · rename_i ml hml
            obtain ⟨hbl, h⟩ := cond_some_inv h
            exact fin (fun hl => hn (I.clo l hl ml hml i hbl)) h
          · cases h
  | const k => exact ofV_rel _ _ _ h
  | global g => exact rho_ok I.glob (a := a) (T := .leaf) (n := s.n) ⟨I.size, fun t v e => by rw [get_leaf'] at e; cases e⟩ _ _ h
  | func f => exact rho_ok I.glob (a := a) (T := .leaf) (n := s.n) ⟨I.size, fun t v e => by rw [get_leaf'] at e; cases e⟩ _ _ h
theorem put_inv (hput : ∀ (i : Nat) (o : Oper) (d : Tmp), c.ops[i]? = some o → o.dst = some d → d < s.n) {D : Nat → Prop} {st st' : DS} {its its' : List DItem} {ι ι1 : Ren} {w w1 : World} {a : Act} (I : Inv E B s c D st its ι w a) {i : Nat} {o : Oper} (ho : c.ops[i]? = some o)
    (hn : ¬ D i) (hsub : ∀ m, c.MS.get i = some m → ∀ b, bit m b = true → D b) {v : AV} {v' : Value} (hv : st'.V.get i = some v) (hle : ι.le ι1) (hvv : VR ι1 v v') (hVV : VLe st.V st'.V)
    (hrel : Rel (gh B st' (fun j => D j ∨ j = i)) ι1 st'.M w1) (hdn : ∀ j, (bit st.dn j = true ∨ j = i) → bit st'.dn j = true)
    (hpnd : ∀ j, bit st'.dn j = true → ¬ D j → j ≠ i → ∃ p ∈ st'.pend, p.i = j) (htodo : ∀ j, j < c.ops.size → bit st'.dn j = true ∨ ∃ x ∈ its', x.i = j) :
    Inv E B s c (fun j => D j ∨ j = i) st' its' ι1 w1 (a.put o.dst v') := by
  have hget : ∀ t, (∀ d, o.dst = some d → t ≠ d) → (a.put o.dst v').tmps[t]? = a.tmps[t]? := fun t ht => by
    unfold Act.put
    split
    · rename_i d hd
      simp only
      rw [Array.getElem?_setIfInBounds, if_neg (fun e => ht d hd e.symm)]
    · rfl
  have hput' : ∀ d, o.dst = some d → (a.put o.dst v').tmps[d]? = some v' := fun d hd => by
    unfold Act.put
    rw [hd]
    simp only
    rw [Array.getElem?_setIfInBounds, if_pos rfl, if_pos (by rw [I.size]; exact hput i o d ho hd)]
  refine ⟨hrel, I.glob.mono hle, ?_, ?_, ?_, ?_, ?_, htodo, ?_, ?_⟩
  · unfold Act.put; split <;> simp [I.size]
  · have : (a.put o.dst v').defers = a.defers := by unfold Act.put; split <;> rfl
    rw [this]
    exact I.defs.mono hle
  · intro j hj m hm b hb
    rcases hj with hj | hj
    · exact .inl (I.clo j hj m hm b hb)
    · subst hj; exact .inl (hsub m hm b hb)
  · intro j hj
    rcases hj with hj | hj
    · exact hdn j (.inl (I.dn j hj))
    · exact hdn j (.inr hj)
  · intro j hj hnj
    exact hpnd j hj (fun h => hnj (.inl h)) (fun h => hnj (.inr h))
  · intro j oj hj hoj
    rcases hj with hj | hj
    · obtain ⟨v0, e1, e2⟩ := I.done j oj hj hoj
      refine ⟨v0, hVV _ _ e1, fun d hd => ?_⟩
      obtain ⟨v1, e3, e4⟩ := e2 d hd
      refine ⟨v1, ?_, e4.mono hle⟩
      rw [hget d (fun d' hd' he => by
        subst he
        have h1 := hD.wr' j oj d hoj hd
        have h2 := hD.wr' i o d ho hd'
        rw [h1] at h2
        cases h2
        exact hn hj)]
      exact e3
    · subst hj
      rw [ho] at hoj; cases hoj
      exact ⟨v, hv, fun d hd => ⟨v', hput' d hd, hvv⟩⟩
  · intro t x hno hx
    obtain ⟨v1, e1, e2⟩ := I.rest t x (fun j oj hj => hno j oj (.inl hj)) hx
    refine ⟨v1, ?_, e2.mono hle⟩
    rw [hget t (fun d hd he => by subst he; exact hno i o (.inr rfl) ho hd)]
    exact e1
end
end Go.Abm

namespace Go.Abm
section
variable {P : Program} {E : Env} (hE : EnvOk P E) (hX : SumsX P E) {R : Rec} (hRec : ∀ B, RecOk P E B R) {B : Bd} {s : St} {c : DC} {its0 : List DItem} (hD : DOk c.ops its0 c.MS c.W)
  (hput : ∀ (i : Nat) (o : Oper) (d : Tmp), c.ops[i]? = some o → o.dst = some d → d < s.n)
include hE hX hRec hD hput
theorem exec_pend {st : DS} {its : List DItem} {n0 : Nat} (A : AInv E c n0 st) (hB : ∀ id, B.gh id → id < n0) (hchk : ∀ p ∈ st.pend, dcheck E c st.V st.M p = true) {D : Nat → Prop} {ι : Ren} {w : World} {a : Act} (I : Inv E B s c D st its ι w a)
    {i : Nat} {o : Oper} (ho : c.ops[i]? = some o) (hn : ¬ D i) (hi : bit st.dn i = true) (hr : ∀ e ∈ o.after.toList, Region.binds .any e = true → D e.on) {b : Frame} {r : List Nat} {k : List Item} {cs : List Frame} :
    ∃ ι1 w1 a1, Inv E B s c (fun j => D j ∨ j = i) st its ι1 w1 a1 ∧ ι.le ι1 ∧ Fr B w w1 ∧
      Steps P (lone (mk b a (.inRegion c.ops (i :: r) :: k)) cs w) (lone (mk b a1 (.inRegion c.ops r :: k)) cs w1) := by
  obtain ⟨p, hp, hpi⟩ := I.pnd i hi hn
  have hpo := A.pend p hp
  obtain ⟨v, hv, Vc, hVc, hk⟩ := hpo.v
  subst hpi
  have ho' := hpo.o
  rw [ho] at ho'
  cases ho'
  have hsub := ready_sub hD I.clo hpo.o hr
  have hsub' := hsub p.m hpo.m
  have hgh : ∀ id, (gh B st (fun j => D j ∨ j = p.i)).gh id → (gh B st D).gh id := fun id h => by
    rcases h with h | ⟨q, hq, hnq, h⟩
    · exact .inl h
    · exact .inr ⟨q, hq, fun h => hnq (.inl h), h⟩
  have hdn : ∀ j, (bit st.dn j = true ∨ j = p.i) → bit st.dn j = true := fun j h => h.elim id (fun e => e ▸ hi)
  have val : (∃ ι1 w1 v', VR ι1 v v' ∧ Post (gh B st D) ι w ι1 st.M w1 ∧ Steps P (lone (mk b a (.inRegion c.ops (p.i :: r) :: k)) cs w) (lone (mk b (a.put p.o.dst v') (.inRegion c.ops r :: k)) cs w1)) →
      ∃ ι1 w1 a1, Inv E B s c (fun j => D j ∨ j = p.i) st its ι1 w1 a1 ∧ ι.le ι1 ∧ Fr B w w1 ∧
      Steps P (lone (mk b a (.inRegion c.ops (p.i :: r) :: k)) cs w) (lone (mk b a1 (.inRegion c.ops r :: k)) cs w1) := by
    rintro ⟨ι1, w1, v', h1, h2, h3⟩
    exact ⟨ι1, w1, _, put_inv hD hput I ho hn hsub hv h2.le h1 (VLe.refl _) (h2.rel.ghosts hgh) hdn (fun j hj hnj _ => I.pnd j hj hnj) I.todo, h2.le, h2.fr.gh rfl, h3⟩
  cases hpk : p.k with
  | skip =>
    rw [hpk] at hk
    obtain ⟨rfl, hw⟩ := hk
    have hw' := want_ok I hVc hsub' hw
    refine val ⟨ι, w, _, VR.undef, Post.refl I.rel, .one ?_⟩
    have := mv_op_skip (P := P) (b := b) (a := a) (k := k) (cs := cs) (w := w) (ops := c.ops) (i := p.i) (rest := r) (by simp [ho, hw'])
    rw [ho] at this
    exact this
  | pure =>
    rw [hpk] at hk
    obtain ⟨hw, hkd, Mc, M', he⟩ := hk
    have hw' := want_ok I hVc hsub' hw
    have he' := evalOp_pure (M2 := st.M) hkd he
    have hpost := evalOp_ok hE hX I.rel I.glob (drho_ok hD I hVc ho hn hsub') he'
    exact val (eff_ok (hRec _) I.rel I.glob (r := .val v st.M) rfl ho hw' (.inr fun c hc => by rw [hc] at hkd; cases hkd) hpost)
  | read =>
    rw [hpk] at hk
    obtain ⟨hw, hkd⟩ := hk
    have hw' := want_ok I hVc hsub' hw
    have hc := hchk p hp
    unfold dcheck at hc
    rw [hpk] at hc
    simp only at hc
    split at hc
    · rename_i v1 M1 v0 he hv0
      rw [hv] at hv0
      cases hv0
      have := avBeq_eq _ _ _ hc
      subst this
      have hM := evalOp_read hkd he
      subst hM
      have hpost := evalOp_ok hE hX I.rel I.glob (drho_ok hD I (VLe.refl _) ho hn hsub') he
      exact val (eff_ok (hRec _) I.rel I.glob (r := .val v1 st.M) rfl ho hw' (.inr fun c hc => by rw [hc] at hkd; cases hkd) hpost)
    · cases hc
  | alloc id l =>
    rw [hpk] at hk
    obtain ⟨hw, hkd, Mc, M', he, hnx, hcell⟩ := hk
    have hw' := want_ok I hVc hsub' hw
    have hc := hchk p hp
    unfold dcheck at hc
    rw [hpk] at hc
    simp only at hc
    split at hc
    case h_2 => cases hc
    rename_i l' hl'
    have hll : l' = l := listBeq_eq (avBeq_eq 8) hc
    subst hll
    obtain ⟨l2, f, e1, e2, v', cc, et, hrun, hcs, hval⟩ := evalOp_alloc hE (w := w) (drho_ok hD I hVc ho hn hsub') hkd he
    rw [e2, AM.get_new, hnx, if_pos rfl] at hcell
    cases hcell
    have hidp := hpo.id id _ hpk
    obtain ⟨m1, m2, m3⟩ := Rel.mat I.rel (id := id) (.inr ⟨p, hp, hn, _, hpk⟩) (gh := (gh B st (fun j => D j ∨ j = p.i)).gh) (fun id' h => ⟨hgh id' h, fun e => by
      subst e
      rcases h with h | ⟨q, hq, hnq, lq, hqk⟩
      · have := hB id' h; omega
      · exact hnq (.inr (A.uniq q p id' _ _ hq hp hqk hpk))⟩) (o' := .cells cc et) (room := cc.size) hl' (by
      have hle : ι.le (ι.add id (w.heap.size, 0, cc.size)) := Ren.add_le (I.rel.ghost id (.inr ⟨p, hp, hn, _, hpk⟩)).2
      refine ⟨cc, et, _, by simp; rfl, by omega, by have := hcs.1; simp at this; omega, fun i v hi => ?_, .inl rfl, fun _ => rfl⟩
      obtain ⟨v', a1, a2⟩ := hcs.get_arr i v hi
      exact ⟨v', by simpa using a1, a2.mono hle⟩)
    have hv' := hval (ι.add id (w.heap.size, 0, cc.size)) id (Ren.add_self _ _ _)
    rw [← hnx, ← e1] at hv'
    refine ⟨_, _, _, put_inv hD hput I ho hn hsub hv m1 (hnx ▸ hv') (VLe.refl _) m2 hdn (fun j hj hnj _ => I.pnd j hj hnj) I.todo, m1, m3.gh rfl, .one (step_lone_go ?_)⟩
    rw [stepG_op' ho hw' (.inr fun c hc => by rw [hc] at hkd; cases hkd)]
    have hfin := finish_mk (b := b) (a := a) (k := k) c.ops p.i r v'
    rw [ho] at hfin
    simp only [Option.bind_some] at hfin
    rw [← hfin]
    simp [stepG.apply, hrun]
theorem exec_eff {st : DS} {j : Nat} {o : Oper} {m : Nat} {rest : List DItem} {D : Nat → Prop} {ι : Ren} {w : World} {a : Act} (I : Inv E B s c D st (⟨j, o, m⟩ :: rest) ι w a)
    (ho : c.ops[j]? = some o) (hmj : c.MS.get j = some m) (hn : ¬ D j) (hfr : fresh st.V j = true) (hr : ∀ e ∈ o.after.toList, Region.binds .any e = true → D e.on) {v : AV} {M' : AM} {b : Frame} {r : List Nat} {k : List Item} {cs : List Frame}
    (hx : (∃ ι1 w1 v', VR ι1 v v' ∧ Post (gh B st D) ι w ι1 M' w1 ∧ Steps P (lone (mk b a (.inRegion c.ops (j :: r) :: k)) cs w) (lone (mk b (a.put o.dst v') (.inRegion c.ops r :: k)) cs w1))) :
    ∃ ι1 w1 a1, Inv E B s c (fun i => D i ∨ i = j) ⟨st.V.set j (some v), M', bitOn st.dn j, st.pend.filter fun p => !bit m p.i⟩ rest ι1 w1 a1 ∧ ι.le ι1 ∧ Fr B w w1 ∧
      Steps P (lone (mk b a (.inRegion c.ops (j :: r) :: k)) cs w) (lone (mk b a1 (.inRegion c.ops r :: k)) cs w1) := by
  obtain ⟨ι1, w1, v', h1, h2, h3⟩ := hx
  have hsub := ready_sub hD I.clo ho hr
  refine ⟨ι1, w1, _, put_inv hD hput I ho hn hsub (v := v) (by simp only; rw [Tr.get_set, if_pos rfl]) h2.le h1 (VLe.set hfr v) (h2.rel.ghosts fun id h => ?_) (fun i hi => ?_) (fun i hi hni hne => ?_) (fun i hi => ?_), h2.le, h2.fr.gh rfl, h3⟩
  · rcases h with h | ⟨q, hq, hnq, h⟩
    · exact .inl h
    · exact .inr ⟨q, (List.mem_filter.1 hq).1, fun h => hnq (.inl h), h⟩
  · simp only
    rw [bitOn_bit, Bool.or_eq_true]
    rcases hi with hi | hi
    · exact .inl hi
    · exact .inr (by simp [hi])
  · simp only at hi
    rw [bitOn_bit, Bool.or_eq_true] at hi
    rcases hi with hi | hi
    · obtain ⟨p, hp, e⟩ := I.pnd i hi hni
      refine ⟨p, List.mem_filter.2 ⟨hp, ?_⟩, e⟩
      rw [e]
      cases hb : bit m i with
      | true => exact absurd (hsub m hmj i hb) hni
      | false => rfl
    · simp at hi; exact absurd hi.symm hne
  · simp only
    rw [bitOn_bit]
    rcases I.todo i hi with h | ⟨x, hx, e⟩
    · exact .inl (by rw [h]; rfl)
    · rcases List.mem_cons.1 hx with hx | hx
      · subst hx; simp only at e; exact .inl (by simp [e])
      · exact .inr ⟨x, hx, e⟩
end
end Go.Abm

namespace Go.Abm
theorem evalOp_new {E : Env} {ρ : Rho} {op : Op} {M M' : AM} {v : AV} (hk : okind E op = .alloc) (h : evalOp E ρ op M = some (.val v M')) : ∃ l, M' = M.new (.cells l false false) := by
  cases op <;> simp only [okind] at hk <;> first | (cases hk; done) | skip
  case alloc t =>
    simp only [evalOp] at h
    obtain ⟨z, hz, h1⟩ := map_some_inv h
    cases h1
    exact ⟨_, rfl⟩
  case box t x =>
    simp only [evalOp] at h
    obtain ⟨z, hz, h1⟩ := map_some_inv h
    cases h1
    exact ⟨_, rfl⟩
  case buildSlice t n ps =>
    simp only [evalOp] at h
    split at h
    · obtain ⟨⟨v1, M1⟩, h1, h2⟩ := map_some_inv h
      cases h2
      unfold abuildSlice at h1
      split at h1
      · cases h1
      · split at h1
        · obtain ⟨_, h1⟩ := cond_some_inv h1
          obtain ⟨_, _, h1⟩ := map_some_inv h1
          cases h1
          exact ⟨_, rfl⟩
        · cases h1
    · cases h
  case makeSlice t a c =>
    simp only [evalOp] at h
    split at h
    · obtain ⟨⟨v1, M1⟩, h1, h2⟩ := map_some_inv h
      cases h2
      unfold amakeSlice at h1
      split at h1
      · cases h1
      · split at h1
        · split at h1
          · obtain ⟨_, h1⟩ := cond_some_inv h1
            cases h1
            exact ⟨_, rfl⟩
          · cases h1
        · cases h1
    · cases h
  case binOp op t x y u => split at hk <;> cases hk
  case convert s d x => split at hk <;> cases hk
  case call c =>
    split at hk
    · split at hk <;> cases hk
    · cases hk
theorem did_ainv {E : Env} {c : DC} {n0 : Nat} {st : DS} (A : AInv E c n0 st) {i m : Nat} {o : Oper} {v : AV} {M' : AM} {k : PK} (hfr : fresh st.V i = true) (hit : c.ops[i]? = some o ∧ c.MS.get i = some m)
    (hk : PendK E c ⟨i, m, o, k⟩ v st.V k) (hnx : st.M.nx ≤ M'.nx) (hid : ∀ id l, k = .alloc id l → id = st.M.nx ∧ id < M'.nx) : AInv E c n0 (st.did i m o v M' k) := by
  have hV := VLe.set hfr v
  refine ⟨Nat.le_trans A.nx hnx, fun p hp => ?_, fun p q id l l' hp hq hpk hqk => ?_⟩
  · rcases List.mem_cons.1 hp with hp | hp
    · subst hp
      refine ⟨hit.1, hit.2, ⟨v, ?_, st.V, hV, hk⟩, fun id l e => ?_⟩
      · simp only [DS.did]; rw [Tr.get_set, if_pos rfl]
      · obtain ⟨h1, h2⟩ := hid id l e
        have := A.nx
        exact ⟨by omega, h2⟩
    · exact (A.pend p hp).mono hV hnx
  · rcases List.mem_cons.1 hp with hp | hp
    · rcases List.mem_cons.1 hq with hq | hq
      · rw [hp, hq]
      · subst hp
        have h1 := (hid id l hpk).1
        have h2 := ((A.pend q hq).id id l' hqk).2
        omega
    · rcases List.mem_cons.1 hq with hq | hq
      · subst hq
        have h1 := (hid id l' hqk).1
        have h2 := ((A.pend p hp).id id l hpk).2
        omega
      · exact A.uniq p q id l l' hp hq hpk hqk
theorem did_inv {E : Env} {B : Bd} {s : St} {c : DC} {D : Nat → Prop} {st : DS} {its its' : List DItem} {ι : Ren} {w : World} {a : Act} (I : Inv E B s c D st its ι w a) {i m : Nat} {o : Oper} {v : AV} {M' : AM} {k : PK}
    (hfr : fresh st.V i = true) (hrel : Rel (gh B (st.did i m o v M' k) D) ι M' w) (hits : ∀ x ∈ its, x.i = i ∨ x ∈ its') : Inv E B s c D (st.did i m o v M' k) its' ι w a := by
  refine ⟨hrel, I.glob, I.size, I.defs, I.clo, fun j hj => ?_, fun j hj hnj => ?_, fun j hj => ?_, fun j oj hj hoj => ?_, I.rest⟩
  · simp only [DS.did]; rw [bitOn_bit, I.dn j hj]; rfl
  · simp only [DS.did] at hj ⊢
    rw [bitOn_bit, Bool.or_eq_true] at hj
    rcases hj with hj | hj
    · obtain ⟨p, hp, e⟩ := I.pnd j hj hnj
      exact ⟨p, List.mem_cons_of_mem _ hp, e⟩
    · simp at hj; exact ⟨_, List.mem_cons_self .., hj⟩
  · simp only [DS.did]
    rw [bitOn_bit]
    rcases I.todo j hj with h | ⟨x, hx, e⟩
    · exact .inl (by rw [h]; rfl)
    · rcases hits x hx with h | h
      · exact .inl (by rw [Bool.or_eq_true]; exact .inr (by rw [decide_eq_true_eq]; omega))
      · exact .inr ⟨x, h, e⟩
  · obtain ⟨v0, e1, e2⟩ := I.done j oj hj hoj
    exact ⟨v0, VLe.set hfr v _ _ e1, e2⟩
theorem gh_did {B : Bd} {D : Nat → Prop} {st : DS} {i m : Nat} {o : Oper} {v : AV} {M' : AM} {k : PK} (id : Nat) (h : (gh B (st.did i m o v M' k) D).gh id) :
    (gh B st D).gh id ∨ ∃ l, k = .alloc id l := by
  rcases h with h | ⟨q, hq, hnq, l, hl⟩
  · exact .inl (.inl h)
  · rcases List.mem_cons.1 hq with hq | hq
    · subst hq; exact .inr ⟨l, hl⟩
    · exact .inl (.inr ⟨q, hq, hnq, l, hl⟩)
theorem Inv.its_mono {E : Env} {B : Bd} {s : St} {c : DC} {D : Nat → Prop} {st : DS} {its its' : List DItem} {ι : Ren} {w : World} {a : Act} (I : Inv E B s c D st its ι w a) (h : ∀ x ∈ its, x ∈ its') : Inv E B s c D st its' ι w a :=
  ⟨I.rel, I.glob, I.size, I.defs, I.clo, I.dn, I.pnd, fun i hi => (I.todo i hi).imp id (fun ⟨x, hx, e⟩ => ⟨x, h x hx, e⟩), I.done, I.rest⟩
theorem dpass_ok {E : Env} {c : DC} {n0 : Nat} : ∀ (l : List DItem) (st : DS) (acc its' : List DItem) (st' : DS), dpass E c l st acc = some (its', st') → AInv E c n0 st → (∀ x ∈ l, ItOk c x) → (∀ x ∈ acc, ItOk c x) →
    AInv E c n0 st' ∧ (∀ x ∈ its', ItOk c x) ∧ ∀ B s D ι w a, Inv E B s c D st (l ++ acc) ι w a → Inv E B s c D st' its' ι w a
  | [], st, acc, its', st', h, A, hl, ha => by
    simp only [dpass, Option.some.injEq, Prod.mk.injEq] at h
    obtain ⟨rfl, rfl⟩ := h
    exact ⟨A, fun x hx => ha x (by simpa using hx), fun B s D ι w a I => I.its_mono (fun x hx => by simpa using hx)⟩
  | ⟨i, o, m⟩ :: l, st, acc, its', st', h, A, hl, ha => by
    have hit : c.ops[i]? = some o ∧ c.MS.get i = some m := hl ⟨i, o, m⟩ (List.mem_cons_self ..)
    have hl' : ∀ x ∈ l, ItOk c x := fun x hx => hl x (List.mem_cons_of_mem _ hx)
    have keep : dpass E c l st (⟨i, o, m⟩ :: acc) = some (its', st') → AInv E c n0 st' ∧ (∀ x ∈ its', ItOk c x) ∧ ∀ B s D ι w a, Inv E B s c D st (⟨i, o, m⟩ :: l ++ acc) ι w a → Inv E B s c D st' its' ι w a := fun h => by
      obtain ⟨h1, h2, h3⟩ := dpass_ok l st _ its' st' h A hl' (fun x hx => by
        rcases List.mem_cons.1 hx with hx | hx
        · subst hx; exact hit
        · exact ha x hx)
      refine ⟨h1, h2, fun B s D ι w a I => h3 B s D ι w a (I.its_mono fun x hx => ?_)⟩
      simp at hx ⊢
      rcases hx with hx | hx | hx
      · exact .inr (.inl hx)
      · exact .inl hx
      · exact .inr (.inr hx)
    unfold dpass at h
    cases hc : (sub m st.dn && fresh st.V i) with
    | false => rw [hc] at h; exact keep h
    | true =>
      rw [hc] at h
      simp only [cond_true] at h
      rw [Bool.and_eq_true] at hc
      have hfr := hc.2
      have did : ∀ {v : AV} {M' : AM} {k : PK}, dpass E c l (st.did i m o v M' k) acc = some (its', st') → PendK E c ⟨i, m, o, k⟩ v st.V k → st.M.nx ≤ M'.nx → (∀ id l, k = .alloc id l → id = st.M.nx ∧ id < M'.nx) →
          (∀ B D ι w, Rel (gh B st D) ι st.M w → Rel (gh B (st.did i m o v M' k) D) ι M' w) →
          AInv E c n0 st' ∧ (∀ x ∈ its', ItOk c x) ∧ ∀ B s D ι w a, Inv E B s c D st (⟨i, o, m⟩ :: l ++ acc) ι w a → Inv E B s c D st' its' ι w a := fun h hk hnx hid hrel => by
        obtain ⟨h1, h2, h3⟩ := dpass_ok l _ acc its' st' h (did_ainv A hfr hit hk hnx hid) hl' ha
        refine ⟨h1, h2, fun B s D ι w a I => h3 B s D ι w a (did_inv I hfr (hrel B D ι w I.rel) fun x hx => ?_)⟩
        rcases List.mem_cons.1 hx with hx | hx
        · subst hx; exact .inl rfl
        · exact .inr hx
      have same : ∀ {v : AV} {k : PK}, (∀ id l, k ≠ .alloc id l) → ∀ B D ι w, Rel (gh B st D) ι st.M w → Rel (gh B (st.did i m o v st.M k) D) ι st.M w := fun hk B D ι w hR =>
        hR.ghosts fun id h => by
          rcases gh_did id h with h | ⟨l, h⟩
          · exact h
          · exact absurd h (hk _ _)
      split at h
      · exact keep h
      · cases h
      · rename_i hw hne
        exact did h ⟨rfl, hw⟩ (Nat.le_refl _) (fun id l e => by cases e) (same (fun id l e => by cases e))
      · rename_i hw hne
        split at h
        case h_2 => cases h
        rename_i v M' he
        split at h
        · rename_i hkd
          split at h
          case h_2 => cases h
          rename_i l' hcell
          obtain ⟨l2, hM⟩ := evalOp_new hkd he
          refine did h ⟨hw, hkd, st.M, M', he, rfl, hcell⟩ (by rw [hM, AM.nx_new]; omega) (fun id l e => by cases e; exact ⟨rfl, by rw [hM, AM.nx_new]; omega⟩) fun B D ι w hR => ?_
          subst hM
          refine Rel.grow hR _ fun id h => ?_
          rcases gh_did id h with h | ⟨l, h⟩
          · exact .inl h
          · cases h; exact .inr rfl
        · rename_i hkd
          exact did h ⟨hw, hkd⟩ (Nat.le_refl _) (fun id l e => by cases e) (same (fun id l e => by cases e))
        · rename_i hn1 hn2
          refine did h ⟨hw, ?_, st.M, M', he⟩ (Nat.le_refl _) (fun id l e => by cases e) (same (fun id l e => by cases e))
          cases hkd : okind E o.op with
          | pure => rfl
          | read => exact absurd hkd hn2
          | alloc => exact absurd hkd hn1
          | eff => exact absurd hkd hne
end Go.Abm

namespace Go.Abm
theorem eff_ainv {E : Env} {c : DC} {n0 : Nat} {st : DS} (A : AInv E c n0 st) {j : Nat} {v : AV} {M' : AM} {f : Pend → Bool} {dn : Nat} (hfr : fresh st.V j = true) (hnx : st.M.nx ≤ M'.nx) :
    AInv E c n0 ⟨st.V.set j (some v), M', dn, st.pend.filter f⟩ :=
  ⟨Nat.le_trans A.nx hnx, fun p hp => (A.pend p (List.mem_filter.1 hp).1).mono (VLe.set hfr v) hnx, fun p q id l l' hp hq => A.uniq p q id l l' (List.mem_filter.1 hp).1 (List.mem_filter.1 hq).1⟩
section
variable {P : Program} {E : Env} (hE : EnvOk P E) (hX : SumsX P E) {R : Rec} (hRec : ∀ B, RecOk P E B R) {B : Bd} {s : St} {c : DC} {its0 : List DItem} (hD : DOk c.ops its0 c.MS c.W)
  (hput : ∀ (i : Nat) (o : Oper) (d : Tmp), c.ops[i]? = some o → o.dst = some d → d < s.n)
include hE hX hRec hD hput
theorem dstage_ok {n0 : Nat} (hB : ∀ id, B.gh id → id < n0) {b : Frame} {k : List Item} {cs : List Frame} : ∀ (n : Nat) (its : List DItem) (st fin : DS), dstage E R c n its st = some fin → AInv E c n0 st → (∀ x ∈ its, ItOk c x) →
    ∀ σ D ι w a, Sched c.ops D σ → Inv E B s c D st its ι w a →
    ∃ D' ι' w' a', Inv E B s c D' fin [] ι' w' a' ∧ (∀ i, i < c.ops.size → D' i) ∧ ι.le ι' ∧ Fr B w w' ∧
      Steps P (lone (mk b a (.inRegion c.ops σ :: k)) cs w) (lone (mk b a' (.inRegion c.ops [] :: k)) cs w')
  | n + 1, its, st, fin, h, A, hits, σ, D, ι, w, a, hσ, I => by
    unfold dstage at h
    split at h
    · cases h
    rename_i its1 st1 hp
    obtain ⟨A1, hits1, hI1⟩ := dpass_ok its st [] its1 st1 hp A hits (fun x hx => by cases hx)
    have I1 := hI1 B s D ι w a (I.its_mono fun x hx => by simpa using hx)
    obtain ⟨hchk, h⟩ := cond_some_inv h
    have hchk : ∀ p ∈ st1.pend, dcheck E c st1.V st1.M p = true := fun p hp => List.all_eq_true.1 hchk p hp
    clear hI1 I
    induction hσ generalizing ι w a with
    | @done D hall =>
      cases its1 with
      | nil =>
        cases h
        exact ⟨D, ι, w, a, I1, hall, Ren.le_refl _, Fr.refl _ _, .refl _ _⟩
      | cons hd rest =>
        obtain ⟨j, o, m⟩ := hd
        obtain ⟨hc, _⟩ := cond_some_inv h
        simp only [Bool.and_eq_true] at hc
        have hj := hits1 ⟨j, o, m⟩ (List.mem_cons_self ..)
        have hlt : j < c.ops.size := by
          rcases Nat.lt_or_ge j c.ops.size with h | h
          · exact h
          · have := hj.1; simp only at this; rw [Array.getElem?_eq_none h] at this; cases this
        obtain ⟨v, e, _⟩ := I1.done j o (hall j hlt) hj.1
        rw [fresh_none hc.1.2] at e
        cases e
    | @step D i o r ho hn hr hs ih =>
      by_cases hb : bit st1.dn i = true
      · obtain ⟨ι1, w1, a1, I2, h1, h2, h3⟩ := exec_pend hE hX hRec hD hput A1 hB hchk I1 ho hn hb hr (b := b) (r := r) (k := k) (cs := cs)
        obtain ⟨D', ι', w', a', g1, g2, g3, g4, g5⟩ := ih ι1 w1 a1 I2
        exact ⟨D', ι', w', a', g1, g2, Ren.le_trans h1 g3, h2.trans g4, h3.trans g5⟩
      · have hlt : i < c.ops.size := by
          rcases Nat.lt_or_ge i c.ops.size with h | h
          · exact h
          · rw [Array.getElem?_eq_none h] at ho; cases ho
        rcases I1.todo i hlt with hb' | ⟨x, hx, hxi⟩
        · exact absurd hb' hb
        cases its1 with
        | nil => cases hx
        | cons hd rest =>
        obtain ⟨j, oj, m⟩ := hd
        obtain ⟨hc, h⟩ := cond_some_inv h
        simp only [Bool.and_eq_true] at hc
        obtain ⟨⟨hc1, hfr⟩, hc3⟩ := hc
        have hxo := hits1 x hx
        have hrdy := ready_sub hD I1.clo ho hr
        rcases List.mem_cons.1 hx with hx | hx
        case inr =>
          have := List.all_eq_true.1 hc3 x hx
          have hs2 : sub x.m st1.dn = true := sub_of fun b hb => I1.dn b (hrdy x.m (by rw [← hxi]; exact hxo.2) b hb)
          rw [hs2] at this
          cases this
        subst hx
        simp only at hxi
        subst hxi
        have hoj := hxo.1
        have hmj := hxo.2
        simp only at hoj hmj
        rw [ho] at hoj
        cases hoj
        have hrest : ∀ x ∈ rest, ItOk c x := fun x hx => hits1 x (List.mem_cons_of_mem _ hx)
        have go : ∀ {v : AV} {M' : AM}, dstage E R c n rest ⟨st1.V.set j (some v), M', bitOn st1.dn j, st1.pend.filter fun p => !bit m p.i⟩ = some fin → st1.M.nx ≤ M'.nx →
            (∃ ι1 w1 v', VR ι1 v v' ∧ Post (gh B st1 D) ι w ι1 M' w1 ∧ Steps P (lone (mk b a (.inRegion c.ops (j :: r) :: k)) cs w) (lone (mk b (a.put o.dst v') (.inRegion c.ops r :: k)) cs w1)) →
            ∃ D' ι' w' a', Inv E B s c D' fin [] ι' w' a' ∧ (∀ i, i < c.ops.size → D' i) ∧ ι.le ι' ∧ Fr B w w' ∧
              Steps P (lone (mk b a (.inRegion c.ops (j :: r) :: k)) cs w) (lone (mk b a' (.inRegion c.ops [] :: k)) cs w') := fun h hnx hx => by
          obtain ⟨ι1, w1, a1, I2, h1, h2, h3⟩ := exec_eff hE hX hRec hD hput I1 ho hmj hn hfr hr hx
          obtain ⟨D', ι', w', a', g1, g2, g3, g4, g5⟩ := dstage_ok hB n rest _ fin h (eff_ainv A1 hfr hnx) hrest r _ ι1 w1 a1 hs I2
          exact ⟨D', ι', w', a', g1, g2, Ren.le_trans h1 g3, h2.trans g4, h3.trans g5⟩
        split at h
        · rename_i hkd hw
          have hw' := want_ok I1 (VLe.refl _) (hrdy m hmj) hw
          split at h
          case h_2 => cases h
          rename_i res he
          split at h
          case h_2 => cases h
          rename_i v M' heff
          obtain ⟨hnx, h⟩ := cond_some_inv h
          have hpost := evalOp_ok hE hX I1.rel I1.glob (drho_ok hD I1 (VLe.refl _) ho hn (hrdy m hmj)) he
          refine go h (ble_of hnx) (eff_ok (hRec _) I1.rel I1.glob heff ho hw' (.inr fun cc hcc => ?_) hpost)
          obtain ⟨d, hd⟩ := evalOp_defer (hcc ▸ he)
          rw [hd] at heff
          cases heff
        · rename_i hkd hw
          have hw' := want_ok I1 (VLe.refl _) (hrdy m hmj) hw
          refine go h (Nat.le_refl _) ⟨ι, w, _, VR.undef, Post.refl I1.rel, .one ?_⟩
          have := mv_op_skip (P := P) (b := b) (a := a) (k := k) (cs := cs) (w := w) (ops := c.ops) (i := j) (rest := r) (by simp [ho, hw'])
          rw [ho] at this
          exact this
        · cases h
end
theorem put_some {s s' : St} {dst : Option Tmp} {v : AV} (h : put s dst v = some s') : s'.n = s.n ∧ s'.D = s.D ∧ (∀ d, dst = some d → d < s.n) ∧
    ∀ t, s'.T.get t = if dst = some t then some v else s.T.get t := by
  unfold put at h
  cases dst with
  | none => cases h; exact ⟨rfl, rfl, (fun d e => by cases e), fun t => by simp⟩
  | some d =>
    simp only at h
    obtain ⟨hd, h⟩ := cond_some_inv h
    cases h
    refine ⟨rfl, rfl, fun e he => by cases he; exact blt_of hd, fun t => ?_⟩
    simp only
    rw [Tr.get_set]
    by_cases e : t = d
    · subst e; simp
    · rw [if_neg e, if_neg (by simp; exact fun h => e h.symm)]
theorem dfinal_ok : ∀ (its : List DItem) (V : Tr AV) (s s' : St), dfinal its V s = some s' → s'.n = s.n ∧ s'.D = s.D ∧ (∀ x ∈ its, ∀ d, x.o.dst = some d → d < s.n) ∧
    ∀ t v, s'.T.get t = some v → (∃ x ∈ its, x.o.dst = some t ∧ V.get x.i = some v) ∨ ((∀ x ∈ its, x.o.dst ≠ some t) ∧ s.T.get t = some v)
  | [], V, s, s', h => by cases h; exact ⟨rfl, rfl, (fun x hx => by cases hx), fun t v e => .inr ⟨(fun x hx => by cases hx), e⟩⟩
  | ⟨i, o, m⟩ :: l, V, s, s', h => by
    unfold dfinal at h
    split at h
    case h_2 => cases h
    rename_i v hv
    split at h
    case h_2 => cases h
    rename_i s1 hs1
    obtain ⟨p1, p2, p3, p4⟩ := put_some hs1
    obtain ⟨q1, q2, q3, q4⟩ := dfinal_ok l V s1 s' h
    refine ⟨q1.trans p1, q2.trans p2, fun x hx d hd => ?_, fun t x e => ?_⟩
    · rcases List.mem_cons.1 hx with hx | hx
      · subst hx; exact p3 d hd
      · rw [← p1]; exact q3 x hx d hd
    · rcases q4 t x e with ⟨y, hy, h1, h2⟩ | ⟨h1, h2⟩
      · exact .inl ⟨y, List.mem_cons_of_mem _ hy, h1, h2⟩
      · rw [p4] at h2
        by_cases hd : o.dst = some t
        · rw [if_pos hd] at h2
          cases h2
          exact .inl ⟨_, List.mem_cons_self .., hd, hv⟩
        · rw [if_neg hd] at h2
          refine .inr ⟨fun y hy => ?_, h2⟩
          rcases List.mem_cons.1 hy with hy | hy
          · subst hy; exact hd
          · exact h1 y hy
theorem draw_ok {P : Program} {E : Env} (hE : EnvOk P E) (hX : SumsX P E) {R : Rec} (hRec : ∀ B, RecOk P E B R) {B : Bd} {id : Nat} {ops : Array Oper} {s : St} {M : AM} {out : Out} (h : evalDraw E R ops s M = some out)
    {ι : Ren} {w : World} {a : Act} (hR : Rel B ι M w) (hG : Glob E ι) (hA : ActR ι s a) (b : Frame) (k : List Item) (cs : List Frame) :
    ∃ ι' w' a', Post B ι w ι' out.M w' ∧ ActR ι' out.s a' ∧ Arr P (lone (mk b a (.code (.region id ops true) :: k)) cs w) b k cs ι' w' a' out.e := by
  unfold evalDraw at h
  split at h
  · cases h
  · cases h
  rename_i its MS W hit hmode
  split at h
  case h_2 => cases h
  rename_i d hd
  split at h
  case h_2 => cases h
  rename_i s' hs'
  cases h
  have hDk := ditems_dok hit
  obtain ⟨f1, f2, f3, f4⟩ := dfinal_ok _ _ _ _ hs'
  have hsch := schedule_sched (ops := ops) hDk.reach hmode (P.follows .mixedOrders) (w.tape w.drawn (.order b.fn id))
  have hput : ∀ (i : Nat) (o : Oper) (d : Tmp), ops[i]? = some o → o.dst = some d → d < s.n := fun i o d ho hd => by
    have hlt : i < ops.size := by
      rcases Nat.lt_or_ge i ops.size with h | h
      · exact h
      · rw [Array.getElem?_eq_none h] at ho; cases ho
    obtain ⟨x, hx, e⟩ := hDk.all i hlt
    have := (hDk.it x hx).1
    rw [e, ho] at this
    cases this
    exact f3 x hx d hd
  have A0 : AInv E ⟨s.T, W, MS, ops⟩ M.nx ⟨.leaf, M, 0, []⟩ := ⟨Nat.le_refl _, (fun p hp => by cases hp), (fun p q id l l' hp => by cases hp)⟩
  have hR1 := hR.drew (w.drawn + 1)
  have I0 : Inv E B s ⟨s.T, W, MS, ops⟩ (fun _ => False) ⟨.leaf, M, 0, []⟩ its ι { w with drawn := w.drawn + 1 } a := by
    refine ⟨hR1.ghosts fun id h => ?_, hG, hA.1.1, hA.2, (fun _ h => h.elim), (fun _ h => h.elim), fun i hi => ?_, fun i hi => .inr (hDk.all i hi), (fun _ _ h => h.elim), fun t v _ ht => hA.1.2 t v ht⟩
    · rcases h with h | ⟨p, hp, _⟩
      · exact h
      · cases hp
    · rw [zero_bit] at hi; cases hi
  obtain ⟨D', ι', w', a', g1, g2, g3, g4, g5⟩ := dstage_ok hE hX hRec (c := ⟨s.T, W, MS, ops⟩) hDk hput (n0 := M.nx) (fun id h => (hR.ghost id h).1) (b := b) (k := k) (cs := cs) _ its _ d hd A0
    (fun x hx => hDk.it x hx) _ _ ι _ a hsch I0
  refine ⟨ι', w', a', ⟨g3, g1.rel.ghosts (fun id h => .inl h), ?_⟩, ⟨⟨by rw [f1]; exact g1.size, fun t v e => ?_⟩, by rw [f2]; exact g1.defs⟩, ?_⟩
  · have h0 : Fr B w { w with drawn := w.drawn + 1 } := ⟨fun _ _ => rfl, Nat.le_refl _, rfl, rfl, rfl⟩
    exact h0.trans g4
  · rcases f4 t v e with ⟨x, hx, h1, h2⟩ | ⟨h1, h2⟩
    · have hxo := (hDk.it x hx).1
      have hlt : x.i < ops.size := by
        rcases Nat.lt_or_ge x.i ops.size with h | h
        · exact h
        · rw [Array.getElem?_eq_none h] at hxo; cases hxo
      obtain ⟨v0, e1, e2⟩ := g1.done x.i x.o (g2 _ hlt) hxo
      rw [h2] at e1
      cases e1
      exact e2 t h1
    · refine g1.rest t v (fun i o hi ho hdst => ?_) h2
      have hlt : i < ops.size := by
        rcases Nat.lt_or_ge i ops.size with h | h
        · exact h
        · simp only at ho; rw [Array.getElem?_eq_none h] at ho; cases ho
      obtain ⟨x, hx, e⟩ := hDk.all i hlt
      have := (hDk.it x hx).1
      simp only at ho
      rw [e, ho] at this
      cases this
      exact h1 x hx hdst
  · exact Steps.trans (.one mv_region_draw) (g5.trans (.one mv_region_end))
end Go.Abm
