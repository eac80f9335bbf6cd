/-
  A part of the proof that pumicelaw17.StoreOpens returns true for every geometry, key, number and group (a machine over names of blocks, its soundness, the calls of the store for any geometry, the chapter's example as a run). Condition: the listed package variables hold what the program's text lays; the card ties that.
-/
import Derived.Test.YtcfpoldckjmbdaaGreatDoorX13
set_option linter.unusedVariables false
set_option linter.unusedSimpArgs false
set_option linter.unusedSectionVars false
namespace Go.Abm
noncomputable section
def nextM (M : AM) (x : AV) : Option (List (AV × AM)) :=
  match x with
  | .ptr r 0 => match M.get r with
    | some (.iter (some m) since seen last) => match amapOf M m with
      | some (es, c) =>
        bif !seen.isEmpty && !es.isEmpty && es.all (fun e => Nat.ble last e.born) then none else
        let left := es.filter fun e => !natMem e.born seen
        bif Nat.ble 2 left.length && left.all (fun e => Nat.blt e.born since) then
          some (left.map fun e => (.tup [.bool true, e.key, e.val], M.set r (some (.iter (some m) since (seen ++ [e.born]) c))))
        else none
      | none => none
    | _ => none
  | _ => none
theorem choose_next (P : Program) (w : World) (n : Nat) (h : 2 ≤ n) : ∃ c, c < n ∧ (choose (.mapNext n)).run P w = .ok c { w with drawn := w.drawn + 1 } := by
  refine ⟨w.tape w.drawn (.mapNext n) % n, Nat.mod_lt _ (by omega), ?_⟩
  rw [run_choose]
  have : ¬ n ≤ 1 := by omega
  simp [Question.forced, Question.cut, this]
section
variable {P : Program} {E : Env} (hE : EnvOk P E) {B : Bd} {ι : Ren} {M : AM} {w : World} (hR : Rel B ι M w)
include hR
theorem nextM_run {x : AV} {x' : Value} {ty : TypeId} {l : List (AV × AM)} (h : nextM M x = some l) (hx : VR ι x x') : ∃ r, r ∈ l ∧ OpV P B ι w (Instr.next x' false ty) r.1 r.2 := by
  unfold nextM at h
  split at h
  case h_2 => cases h
  rename_i rr
  split at h
  case h_2 => cases h
  rename_i m since seen last hg
  obtain ⟨cb, base, room, hp, rfl, hb, cm, rm, hm, h1⟩ := ptr_inv hR hx hg
  subst hb
  split at h
  case h_2 => cases h
  rename_i es c hme
  obtain ⟨es', h2, hent, hgm⟩ := mapOf_ok hR hm hme
  have hw : cb < w.heap.size := by
    rcases Nat.lt_or_ge cb w.heap.size with h' | h'
    · exact h'
    · rw [Array.getElem?_eq_none h'] at h1; cases h1
  cases hbad : (!seen.isEmpty && !es.isEmpty && es.all (fun e => Nat.ble last e.born)) with
  | true => rw [hbad] at h; cases h
  | false =>
  rw [hbad] at h
  simp only [cond_false] at h
  obtain ⟨hc, h'⟩ := cond_some_inv h
  clear h
  rw [Bool.and_eq_true] at hc
  have hlen2 := ble_of hc.1
  have hold := List.all_eq_true.1 hc.2
  cases h'
  have hlen : es.length = es'.toList.length := by simpa using hent.1
  have hent2 : ∀ (j : Nat) (e : AEnt) (e' : MapEntry), es[j]? = some e → es'.toList[j]? = some e' → VR ι e.key e'.key ∧ VR ι e.val e'.val ∧ e.born = e'.born := fun j a a' p q => hent.2 j a a' p (by simpa using q)
  have hall : es'.all (fun e => decide (e.born ≥ last)) = es.all (fun e => Nat.ble last e.born) := by
    rw [← Array.all_toList]
    clear hbad hgm h2 hme hent hlen2 hold hc
    generalize es'.toList = l at hlen hent2
    induction l generalizing es with
    | nil => cases es with
      | nil => rfl
      | cons e es => simp at hlen
    | cons e' l ih => cases es with
      | nil => simp at hlen
      | cons e es =>
        simp only [List.all_cons]
        rw [ih es (by simpa using hlen) (fun j a a' p q => hent2 (j + 1) a a' (by simpa using p) (by simpa using q)), (hent2 0 e e' rfl rfl).2.2]
        congr 1
        cases hq : Nat.ble last e'.born with
        | true => have := ble_of hq; simpa using this
        | false => have := ble_not hq; simpa using this
  have hbad' : (!seen.toArray.isEmpty && !es'.isEmpty && es'.all (fun e => decide (e.born ≥ last))) = false := by
    rw [hall, ← hbad]
    congr 2
    · simp
    · congr 1
      rw [Bool.eq_iff_iff]
      simp only [Array.isEmpty_iff_size_eq_zero, List.isEmpty_iff_length_eq_zero]
      have := hent.1
      omega
  have hfl := filter_rel (ι := ι) (fun n => !natMem n seen) es es'.toList hlen hent2
  have hleft : (es'.filter fun e => !seen.toArray.contains e.born).toList = es'.toList.filter fun e => !natMem e.born seen := by
    rw [Array.toList_filter]
    congr 1
    funext e
    rw [natMem_eq]
    simp
  generalize hL : (es.filter fun e => !natMem e.born seen) = L at *
  generalize hA : (es'.filter fun e => !seen.toArray.contains e.born) = A at *
  rw [← hleft] at hfl
  have hsz : A.size = L.length := by have := hfl.1; simp at this; omega
  have hborn : ∀ (i : Nat) (e' : MapEntry), A[i]? = some e' → e'.born < since := by
    intro i e' he'
    have hi : i < L.length := by
      rcases Nat.lt_or_ge i A.size with h' | h'
      · omega
      · rw [Array.getElem?_eq_none h'] at he'; cases he'
    have h3 := hfl.2 i L[i] e' (List.getElem?_eq_getElem hi) (by simpa using he')
    have h4 := blt_of (hold L[i] (List.getElem_mem hi))
    rw [← h3.2.2]; exact h4
  have hmem : ∀ e' ∈ A, e'.born < since := by
    intro e' he'
    obtain ⟨i, hi⟩ := Array.getElem?_of_mem he'
    exact hborn i e' hi
  have ho : A.filter (fun e => decide (e.born < since)) = A := Array.filter_eq_self.2 (fun e he => by simpa using hmem e he)
  have hn : A.filter (fun e => decide (e.born ≥ since)) = #[] := by
    rw [Array.filter_eq_empty_iff]
    intro e he
    have := hmem e he
    simp; omega
  have hne : A.isEmpty = false := by
    rw [Bool.eq_false_iff]
    intro he
    have := Array.isEmpty_iff_size_eq_zero.1 he
    omega
  obtain ⟨i, hi, hch⟩ := choose_next P w A.size (by omega)
  obtain ⟨e', he'⟩ : ∃ e', A[i]? = some e' := ⟨A[i], Array.getElem?_eq_getElem hi⟩
  have hiL : i < L.length := by omega
  have h4 := hfl.2 i L[i] e' (List.getElem?_eq_getElem hiL) (by simpa using he')
  refine ⟨(.tup [.bool true, L[i].key, L[i].val], M.set rr (some (.iter (some m) since (seen ++ [L[i].born]) c))), List.mem_map.2 ⟨L[i], List.getElem_mem hiL, rfl⟩, ?_⟩
  have hR1 := hR.drew (w.drawn + 1)
  refine ⟨ι, .tuple #[.bool true, e'.key, e'.val], { w with drawn := w.drawn + 1, heap := w.heap.setIfInBounds cb (.mapIter (some cm) since (seen.toArray.push e'.born) c) }, ?_, ?_, ?_⟩
  · have hcand : ((if A.isEmpty = true then (#[none] : Array (Option MapEntry)) else #[]) ++ (A ++ #[]).map some) = A.map some := by
      rw [hne]; simp
    have h1' : ({ w with drawn := w.drawn + 1 } : World).heap[cb]? = some (.mapIter (some cm) since seen.toArray last) := h1
    simp only [Nat.zero_add, Instr.next, Sem.run_bind, getObj_of h1 (by simp), getObj_of h2 (by simp), Result.andThen_ok]
    rw [if_neg (by rw [hbad']; simp), hA, ho, hn, hcand]
    simp only [Sem.run_bind, Array.size_map, hch, Result.andThen_ok, Array.getElem?_map, he', Option.map_some, Sem.run_pure]
    rw [setObj_of (w := { w with drawn := w.drawn + 1 }) (o2 := .mapIter (some cm) since (seen.toArray.push e'.born) c) h1' (by simp)]
    rfl
  · exact .tup' (by simpa using VRs.cons (.bool true) (VRs.cons h4.1 (VRs.cons h4.2.1 VRs.nil)))
  · exact (Post.drew hR _).trans (Post.set hR1 hg hp rfl (fun x hx => by simp only [Array.getElem?_setIfInBounds]; rw [if_neg (fun e => hx e.symm)]) (by simp) rfl rfl rfl ⟨rfl, cm, rm, hm, by simp [hw, h4.2.2]⟩)
end
def allN {α β : Type} (f : α → Option (List β)) : List α → Option (List β)
  | [] => some []
  | x :: xs => match f x, allN f xs with
    | some a, some b => some (a ++ b)
    | _, _ => none
theorem allN_mem {α β : Type} {f : α → Option (List β)} : ∀ {l : List α} {r : List β}, allN f l = some r → ∀ x, x ∈ l → ∃ a, f x = some a ∧ ∀ y, y ∈ a → y ∈ r
  | [], _, _, x, hx => by cases hx
  | x :: xs, r, h, y, hy => by
    unfold allN at h
    split at h
    · rename_i a b ha hb
      cases h
      rcases List.mem_cons.1 hy with rfl | hy
      · exact ⟨a, ha, fun z hz => List.mem_append_left _ hz⟩
      · obtain ⟨c, hc, hs⟩ := allN_mem hb y hy
        exact ⟨c, hc, fun z hz => List.mem_append_right _ (hs z hz)⟩
    · cases h
def evalOpN (E : Env) (ρ : Rho) (o : Op) (M : AM) : Option (List ARes) :=
  match o with
  | .next x false => match ρ x with
    | some v => match nextM M v with
      | some l => some (l.map fun r => .val r.1 r.2)
      | none => (evalOp E ρ o M).map fun r => [r]
    | none => none
  | o => (evalOp E ρ o M).map fun r => [r]
abbrev CallN := FuncId → List AV → AM → Option (List (AV × AM))
def effResN (R : Rec) (C : CallN) (r : ARes) (M : AM) : Option (List (AV × AM)) :=
  match r with
  | .enter f args => match C f args M with
    | some l => some l
    | none => (effRes R (.enter f args) M).map fun x => [x]
  | r => (effRes R r M).map fun x => [x]
def evalOpsN (E : Env) (R : Rec) (C : CallN) (ops : Array Oper) : List Oper → St → AM → Option (List Out)
  | [], s, M => some [⟨.normal, s, M⟩]
  | o :: rest, s, M => match wantedA ops o s.T with
    | none => none
    | some false => match put s o.dst .undef with
      | some s' => evalOpsN E R C ops rest s' M
      | none => none
    | some true => match evalOpN E (rho E s.T) o.op M with
      | none => none
      | some rs => allN (fun r => match effResN R C r M with
        | some l => allN (fun x => match put s o.dst x.1 with
          | some s' => evalOpsN E R C ops rest s' x.2
          | none => none) l
        | none => none) rs
def endLoopN (l r : Nat) (s : St) (M : AM) : Option (List Out) :=
  match M.get l with
  | some (.loop .exhausted none n T ps x y) => some [⟨.normal, ⟨s.n, s.T, .coll r :: s.D⟩, M.set l (some (.loop .exhausted none n T ps x y))⟩]
  | some (.loop .ready none n T ps x y) => some [⟨.normal, ⟨s.n, s.T, .coll r :: s.D⟩, M.set l (some (.loop .exhausted none n T ps x y))⟩]
  | _ => none
def evalCN (E : Env) (R : Rec) (C : CallN) : Nat → Code → St → AM → Option (List Out)
  | 0, _, _, _ => none
  | n + 1, c, s, M => match c with
    | .skip => some [⟨.normal, s, M⟩]
    | .region _ ops false => evalOpsN E R C ops ops.toList s M
    | .region i ops true => (evalC E R true (.region i ops true) s M).map fun o => [o]
    | .seq a b => match evalCN E R C n a s M with
      | some l => allN (fun o => match o with
        | ⟨.normal, s', M'⟩ => evalCN E R C n b s' M'
        | o => some [o]) l
      | none => none
    | .cond c a b => match rho E s.T c with
      | some (.bool true) => evalCN E R C n a s M
      | some (.bool false) => evalCN E R C n b s M
      | _ => none
    | .block id b => match evalCN E R C n b s M with
      | some l => some (l.map fun o => match o with
        | ⟨.exit i, s', M'⟩ => bif Nat.beq i id then ⟨.normal, s', M'⟩ else ⟨.exit i, s', M'⟩
        | o => o)
      | none => none
    | .loop b => match evalCN E R C n b s M with
      | some l => allN (fun o => match o with
        | ⟨.normal, s', M'⟩ => evalCN E R C n (.loop b) s' M'
        | o => some [o]) l
      | none => none
    | .rangeFunc f ps asg body => match rho E s.T f with
      | some fv => match acallV E fv [.fn (.yield (M.nx + 1)) [] []] ((M.new (.dfr (some []))).new (.loop .ready none s.n s.T ps.toList asg body)) with
        | some (.enter g args) => match C g args ((M.new (.dfr (some []))).new (.loop .ready none s.n s.T ps.toList asg body)) with
          | some l => allN (fun x => endLoopN (M.nx + 1) M.nx s x.2) l
          | none => none
        | _ => none
      | none => none
    | .exit id => some [⟨.exit id, s, M⟩]
    | .ret => some [⟨.ret, s, M⟩]
    | _ => none
def RunFN (P : Program) (E : Env) (B : Bd) (f : FuncId) (args : List AV) (M : AM) (L : List (AV × AM)) : Prop :=
  ∀ ι w args', Rel B ι M w → Glob E ι → VRs ι args args'.toList → ∀ cs, ∃ o, o ∈ L ∧ ∃ ι' w' fr, Post B ι w ι' o.2 w' ∧ fr.fn = f ∧ EndsF P ι' (lone (Frame.enter P f args' .normal) cs w) fr cs w' (.ret o.1)
def CallNOk (P : Program) (E : Env) (C : CallN) : Prop := ∀ f args M L, C f args M = some L → ∀ B, RunFN P E B f args M L
def RunCN (P : Program) (E : Env) (B : Bd) (it : Item) (s : St) (M : AM) (L : List Out) : Prop :=
  ∀ ι w a, Rel B ι M w → Glob E ι → ActR ι s a → ∀ (b : Frame) (k : List Item) (cs : List Frame), b.roundOf = none →
    ∃ o, o ∈ L ∧ ∃ ι' w' a', Post B ι w ι' o.M w' ∧ ActR ι' o.s a' ∧ Arr P (lone (mk b a (it :: k)) cs w) b k cs ι' w' a' o.e
section
variable {P : Program} {E : Env} (hE : EnvOk P E) (hX : SumsX P E) {R : Rec} (hRec : ∀ B, RecOk P E B R) {C : CallN} (hC : CallNOk P E C)
include hE hX hRec hC
omit hRec hC in
theorem evalOpN_ok {B : Bd} {ι : Ren} {M : AM} {w : World} (hR : Rel B ι M w) (hG : Glob E ι) {ρ : Rho} {a : Act} (hρ : ∀ x v, ρ x = some v → VR ι v (a.eval x)) {o : Oper} {l : List ARes} (h : evalOpN E ρ o.op M = some l) :
    ∃ r, r ∈ l ∧ OpPost P B ι w ((execOp a.eval o).run P w) r M := by
  unfold evalOpN at h
  split at h
  · rename_i x hop
    split at h
    case h_2 => cases h
    rename_i v hv
    split at h
    · rename_i l' hl
      cases h
      obtain ⟨r, hr, hp⟩ := nextM_run (P := P) (ty := o.type) hR hl (hρ _ _ hv)
      refine ⟨_, List.mem_map.2 ⟨r, hr, rfl⟩, ?_⟩
      simp only [execOp, hop]
      exact OpPost.of_val hp
    · obtain ⟨r, hr, rfl⟩ := map_some_inv h
      exact ⟨r, List.mem_singleton.2 rfl, evalOp_ok hE hX hR hG hρ hr⟩
  · obtain ⟨r, hr, rfl⟩ := map_some_inv h
    exact ⟨r, List.mem_singleton.2 rfl, evalOp_ok hE hX hR hG hρ hr⟩
omit hE hX in
theorem effN_ok {B : Bd} {ι : Ren} {w : World} {M : AM} (hR : Rel B ι M w) (hG : Glob E ι) {r : ARes} {l : List (AV × AM)} (h : effResN R C r M = some l) {a : Act} {b : Frame} {ops : Array Oper} {i : Nat} {rest : List Nat}
    {k : List Item} {cs : List Frame} {o : Oper} (ho : ops[i]? = some o) (hw : Region.wanted o (yielded ops a.tmps) = true) (hd : b.roundOf = none ∨ ∀ c, o.op ≠ .defer c)
    (hp : OpPost P B ι w ((execOp a.eval o).run P w) r M) :
    ∃ x, x ∈ l ∧ ∃ ι1 w1 v', VR ι1 x.1 v' ∧ Post B ι w ι1 x.2 w1 ∧ Steps P (lone (mk b a (.inRegion ops (i :: rest) :: k)) cs w) (lone (mk b (a.put o.dst v') (.inRegion ops rest :: k)) cs w1) := by
  have one : ∀ {r : ARes}, (effRes R r M).map (fun x => [x]) = some l → OpPost P B ι w ((execOp a.eval o).run P w) r M → ∃ x, x ∈ l ∧ ∃ ι1 w1 v', VR ι1 x.1 v' ∧ Post B ι w ι1 x.2 w1 ∧ Steps P (lone (mk b a (.inRegion ops (i :: rest) :: k)) cs w) (lone (mk b (a.put o.dst v') (.inRegion ops rest :: k)) cs w1) := by
    intro r h hp
    obtain ⟨⟨v, M1⟩, he, rfl⟩ := map_some_inv h
    exact ⟨_, List.mem_singleton.2 rfl, eff_ok (hRec B) hR hG he ho hw hd hp⟩
  unfold effResN at h
  split at h
  · rename_i f args
    split at h
    · rename_i l' hl
      cases h
      obtain ⟨args', hr, ha⟩ := hp
      obtain ⟨x, hx, ι', w', fr, hpo, hfn, v', hv, hs, hlv⟩ := hC _ _ _ _ hl B ι w args' hR hG ha (mk b a (.inRegion ops (i :: rest) :: k) :: cs)
      have hfin : ∀ v', (mk b a (.inRegion ops (i :: rest) :: k)).finish v' = mk b (a.put o.dst v') (.inRegion ops rest :: k) := fun v' => by
        rw [finish_mk, ho]; rfl
      have hgo := stepG_op' (P := P) (cs := cs) (w := w) (k := k) (rest := rest) ho hw hd
      refine ⟨x, hx, ι', w', v', hv, hpo, Steps.trans (.one (step_lone_go ?_)) (hs.trans (by rw [← hfin]; exact .one (step_leave_returned hlv)))⟩
      rw [hgo]; simp [stepG.apply, hr, mk]
    · exact one h hp
  · exact one h hp
theorem evalOpsN_ok {B : Bd} {ops : Array Oper} {b : Frame} (htop : b.roundOf = none) {k : List Item} {cs : List Frame} : ∀ (l : List Oper) (n : Nat), ops.toList.drop n = l →
    ∀ (s : St) (M : AM) (L : List Out), evalOpsN E R C ops l s M = some L → ∀ ι w a, Rel B ι M w → Glob E ι → ActR ι s a →
    ∃ o, o ∈ L ∧ ∃ ι' w' a', Post B ι w ι' o.M w' ∧ ActR ι' o.s a' ∧ Arr P (lone (mk b a (.inRegion ops (List.range' n l.length) :: k)) cs w) b k cs ι' w' a' o.e
  | [], n, hl, s, M, L, h, ι, w, a, hR, hG, hA => by
    cases h
    exact ⟨_, List.mem_singleton.2 rfl, ι, w, a, Post.refl hR, hA, .one mv_region_end⟩
  | o :: l, n, hl, s, M, L, h, ι, w, a, hR, hG, hA => by
    have ho : ops[n]? = some o := by
      have := congrArg (fun l => l[0]?) hl
      simpa using this
    have hl' : ops.toList.drop (n + 1) = l := by rw [← List.drop_drop, hl]; rfl
    simp only [List.length_cons, List.range'_succ]
    unfold evalOpsN at h
    split at h
    · cases h
    · rename_i hw
      split at h
      · rename_i s' hs'
        have hw' := wanted_ok hA.1 hw
        obtain ⟨o2, m, ι', w', a', h1, h2, h3⟩ := evalOpsN_ok htop l (n + 1) hl' s' M L h ι w _ hR hG (hA.put hs' VR.undef)
        refine ⟨o2, m, ι', w', a', h1, h2, .of_steps (.one (mv_op_skip ?_)) ?_⟩
        · simp [ho, hw']
        · rw [ho]; exact h3
      · cases h
    · rename_i hw
      have hw' := wanted_ok hA.1 hw
      split at h
      · cases h
      rename_i rs hrs
      obtain ⟨r, hr, hp⟩ := evalOpN_ok hE hX hR hG (rho_ok hG hA.1) hrs
      obtain ⟨L1, hL1, hsub⟩ := allN_mem h r hr
      split at hL1
      case h_2 => cases hL1
      rename_i lx he
      obtain ⟨x, hx, ι1, w1, v', hv, hpo, hst⟩ := effN_ok hRec hC hR hG he ho hw' (.inl htop) hp (k := k) (cs := cs) (rest := List.range' (n + 1) l.length)
      obtain ⟨L2, hL2, hsub2⟩ := allN_mem hL1 x hx
      split at hL2
      case h_2 => cases hL2
      rename_i s' hs'
      obtain ⟨o2, m, ι', w', a', h1, h2, h3⟩ := evalOpsN_ok htop l (n + 1) hl' s' x.2 L2 hL2 ι1 w1 _ hpo.rel (hG.mono hpo.le) ((hA.mono hpo.le).put hs' hv)
      exact ⟨o2, hsub _ (hsub2 _ m), ι', w', a', hpo.trans h1, h2, .of_steps hst h3⟩
omit hRec in
theorem rangeN_ok {f : Operand} {ps : Array Tmp} {asg body : Code} {s : St} {M : AM} {L : List Out} {n : Nat} (h : evalCN E R C (n + 1) (.rangeFunc f ps asg body) s M = some L) {B : Bd} {ι : Ren} {w : World} {a : Act}
    (hR : Rel B ι M w) (hG : Glob E ι) (hA : ActR ι s a) (b : Frame) (k : List Item) (cs : List Frame) (hro : b.roundOf = none) :
    ∃ o, o ∈ L ∧ ∃ ι' w' a', Post B ι w ι' o.M w' ∧ ActR ι' o.s a' ∧ Arr P (lone (mk b a (.code (.rangeFunc f ps asg body) :: k)) cs w) b k cs ι' w' a' o.e := by
  unfold evalCN at h
  simp only at h
  split at h
  case h_2 => cases h
  rename_i fv hf
  have hp1 : Post B ι w (ι.add M.nx (w.heap.size, 0, 0)) (M.new (.dfr (some []))) { w with heap := w.heap.push (.deferred (some [])) } :=
    Post.new (room := 0) hR ⟨rfl, [], by simp, .nil⟩
  have hp2 : Post B (ι.add M.nx (w.heap.size, 0, 0)) { w with heap := w.heap.push (.deferred (some [])) } ((ι.add M.nx (w.heap.size, 0, 0)).add (M.nx + 1) (w.heap.size + 1, 0, 0))
      ((M.new (.dfr (some []))).new (.loop .ready none s.n s.T ps.toList asg body))
      { w with heap := (w.heap.push (.deferred (some []))).push (.loop ⟨.ready, none, b.fn, a.tmps, ps, asg, body, w.heap.size⟩) } := by
    have := Post.new (room := 0) hp1.rel (o := .loop .ready none s.n s.T ps.toList asg body) (o' := .loop ⟨.ready, none, b.fn, a.tmps, ps, asg, body, w.heap.size⟩) (by
      refine ⟨rfl, b.fn, a.tmps, w.heap.size, by simp only [Array.getElem?_push_size, Array.toArray_toList], ?_⟩
      exact hA.1.mono (Ren.le_trans hp1.le (Ren.add_le (hp1.rel.fresh _ (Nat.le_refl _)).2)))
    simpa [AM.nx_new] using this
  have hp := hp1.trans hp2
  generalize hι2 : (ι.add M.nx (w.heap.size, 0, 0)).add (M.nx + 1) (w.heap.size + 1, 0, 0) = ι2 at hp hp2
  have hl2 : ι2 (M.nx + 1) = some (w.heap.size + 1, 0, 0) := by rw [← hι2]; exact Ren.add_self _ _ _
  have hr2 : ι2 M.nx = some (w.heap.size, 0, 0) := hp2.le _ _ (Ren.add_self _ _ _)
  have hG2 := hG.mono hp.le
  have hA2 := hA.mono hp.le
  split at h
  case h_2 => cases h
  rename_i g args hcall
  have hfv := rho_ok hG hA.1 f fv hf
  obtain ⟨d, e1, e2⟩ := callV_run hE hX hp.rel hG2 (args' := #[.func (.yield (w.heap.size + 1)) #[] #[]]) hcall (hfv.mono hp.le) (VRs.cons (.fn (.yield hl2) rfl rfl (fun i v v' e => by simp at e) (fun i v v' e => by simp at e)) VRs.nil)
  obtain ⟨args', hrun, hargs⟩ := e2
  have hstep : step P (lone (mk b a (.code (.rangeFunc f ps asg body) :: k)) cs w) =
      .next (lone (Frame.enter P g args' .normal) (mk b ⟨a.tmps, ⟨.collected w.heap.size, #[]⟩ :: a.defers⟩ (.inRangeFunc (w.heap.size + 1) :: k) :: cs)
        { w with heap := (w.heap.push (.deferred (some []))).push (.loop ⟨.ready, none, b.fn, a.tmps, ps, asg, body, w.heap.size⟩) }) := by
    have h0 := run_enterLoop_outer (P := P) (w := w) b.fn a.tmps ps asg body
    rw [← hro] at h0
    have hres : resolve a.eval (rangeCall f (w.heap.size + 1)) 0 = pure d := by
      simp only [resolve, List.map_toArray, List.map]
      exact e1
    exact stepR_rangeFunc (b := b) (a := a) (k := k) (cs := cs) (g := f) h0 (by rw [hres]; rfl) hrun
  split at h
  case h_2 => cases h
  rename_i l hl
  obtain ⟨x, hx, ι3, w3, fr, hpo, hfn, v', hv', hs, hlv⟩ := hC _ _ _ _ hl B ι2 _ args' hp.rel hG2 hargs (mk b ⟨a.tmps, ⟨.collected w.heap.size, #[]⟩ :: a.defers⟩ (.inRangeFunc (w.heap.size + 1) :: k) :: cs)
  obtain ⟨L1, hL1, hsub⟩ := allN_mem h x hx
  have fin : ∀ (st : LoopState) (n : Nat) (T : Tr AV) (ps' : List Tmp) (y z : Code), st ≠ .busy → x.2.get (M.nx + 1) = some (.loop st none n T ps' y z) → L1 = [⟨.normal, ⟨s.n, s.T, .coll M.nx :: s.D⟩, x.2.set (M.nx + 1) (some (.loop .exhausted none n T ps' y z))⟩] →
      ∃ o, o ∈ L ∧ ∃ ι' w' a', Post B ι w ι' o.M w' ∧ ActR ι' o.s a' ∧ Arr P (lone (mk b a (.code (.rangeFunc f ps asg body) :: k)) cs w) b k cs ι' w' a' o.e := by
    intro st n T ps' y z hnb hg3 hL
    subst hL
    obtain ⟨fn, tmps, d', hw3, hT⟩ := loop_get hpo.rel (hpo.le _ _ hl2) hg3
    have hend := run_endLoop (P := P) hw3 hnb
    have hset := loop_set hpo.rel (hpo.le _ _ hl2) hg3 (st2 := .exhausted) (p2 := none) hw3 hT
    have hall := (hp.trans hpo).trans hset
    have hA3 : ActR ι3 ⟨s.n, s.T, .coll M.nx :: s.D⟩ ⟨a.tmps, ⟨.collected w.heap.size, #[]⟩ :: a.defers⟩ :=
      ⟨hA.1.mono hall.le, .cons (.coll (hpo.le _ _ hr2)) (hA.2.mono hall.le)⟩
    have hfin : (mk b ⟨a.tmps, ⟨.collected w.heap.size, #[]⟩ :: a.defers⟩ (.inRangeFunc (w.heap.size + 1) :: k)).finish v' = mk b ⟨a.tmps, ⟨.collected w.heap.size, #[]⟩ :: a.defers⟩ (.endRangeFunc (w.heap.size + 1) :: k) :=
      finish_atR_inRangeFunc (b := b) _ _
    have h2 := step_leave_returned (c := mk b ⟨a.tmps, ⟨.collected w.heap.size, #[]⟩ :: a.defers⟩ (.inRangeFunc (w.heap.size + 1) :: k)) (cs := cs) hlv
    rw [hfin] at h2
    have h3 : step P (lone (mk b ⟨a.tmps, ⟨.collected w.heap.size, #[]⟩ :: a.defers⟩ (.endRangeFunc (w.heap.size + 1) :: k)) cs w3) =
        .next (lone (mk b ⟨a.tmps, ⟨.collected w.heap.size, #[]⟩ :: a.defers⟩ (((none : Option Code).map Item.code).toList ++ k)) cs (w3.putObj (w.heap.size + 1) (.loop ⟨.exhausted, none, fn, tmps, ps'.toArray, y, z, d'⟩))) :=
      stepR_endRangeFunc (b := b) hend
    have hw4 : w3.putObj (w.heap.size + 1) (.loop ⟨.exhausted, none, fn, tmps, ps'.toArray, y, z, d'⟩) = { w3 with heap := w3.heap.setIfInBounds (w.heap.size + 1) (.loop ⟨.exhausted, none, fn, tmps, ps'.toArray, y, z, d'⟩) } := rfl
    rw [hw4] at h3
    have hst := Steps.trans (.one hstep) (hs.trans (Steps.trans (.one h2) (.one h3)))
    exact ⟨_, hsub _ (List.mem_singleton.2 rfl), ι3, _, _, hall, hA3, hst⟩
  unfold endLoopN at hL1
  split at hL1
  · rename_i hg3; cases hL1; exact fin _ _ _ _ _ _ (by simp) hg3 rfl
  · rename_i hg3; cases hL1; exact fin _ _ _ _ _ _ (by simp) hg3 rfl
  · cases hL1
theorem evalCN_ok : ∀ (n : Nat) (code : Code) (s : St) (M : AM) (L : List Out), evalCN E R C n code s M = some L → ∀ B, RunCN P E B (.code code) s M L
  | 0, _, _, _, _, h, _ => by cases h
  | n + 1, code, s, M, L, h, B => by
    intro ι w a hR hG hA b k cs htop
    have h0 := h
    unfold evalCN at h
    split at h
    · cases h
      exact ⟨_, List.mem_singleton.2 rfl, ι, w, a, Post.refl hR, hA, .one mv_skip⟩
    · rename_i id ops
      obtain ⟨o, m, ι', w', a', h1, h2, h3⟩ := evalOpsN_ok hE hX hRec hC htop (k := k) (cs := cs) ops.toList 0 rfl s M L h ι w a hR hG hA
      refine ⟨o, m, ι', w', a', h1, h2, .of_steps (.one mv_region) ?_⟩
      rw [← List.range_eq_range'] at h3
      simpa using h3
    · rename_i id ops
      obtain ⟨o, ho, rfl⟩ := map_some_inv h
      exact ⟨o, List.mem_singleton.2 rfl, evalC_ok hE hX hRec _ true s M o ho B ι w a hR hG hA b k cs (fun _ => htop)⟩
    · rename_i x y
      split at h
      case h_2 => cases h
      rename_i l hl
      obtain ⟨o, m, ι1, w1, a1, h1, h2, h3⟩ := evalCN_ok n x s M l hl B ι w a hR hG hA b (.code y :: k) cs htop
      obtain ⟨L1, hL1, hsub⟩ := allN_mem h o m
      obtain ⟨e, s1, M1⟩ := o
      cases e with
      | normal =>
        obtain ⟨o2, m2, ι2, w2, a2, g1, g2, g3⟩ := evalCN_ok n y s1 M1 L1 hL1 B ι1 w1 a1 h1.rel (hG.mono h1.le) h2 b k cs htop
        exact ⟨o2, hsub _ m2, ι2, w2, a2, h1.trans g1, g2, .of_steps (Steps.trans (.one mv_seq) h3) g3⟩
      | exit id =>
        cases hL1
        obtain ⟨k1, e1, e2⟩ := h3
        exact ⟨_, hsub _ (List.mem_singleton.2 rfl), ι1, w1, a1, h1, h2, .of_steps (.one mv_seq) ⟨k1, e1.trans (exitTo_cons (by simp)), e2⟩⟩
      | ret => cases hL1; exact ⟨_, hsub _ (List.mem_singleton.2 rfl), ι1, w1, a1, h1, h2, .of_steps (.one mv_seq) h3⟩
      | panic v => cases hL1; exact ⟨_, hsub _ (List.mem_singleton.2 rfl), ι1, w1, a1, h1, h2, .of_steps (.one mv_seq) h3⟩
    · rename_i c x y
      split at h
      · rename_i hc
        have hv := rho_ok hG hA.1 _ _ hc
        generalize hcv : a.eval c = cv at hv
        cases hv
        obtain ⟨o, m, ι1, w1, a1, h1, h2, h3⟩ := evalCN_ok n x s M L h B ι w a hR hG hA b k cs htop
        exact ⟨o, m, ι1, w1, a1, h1, h2, .of_steps (.one (mv_cond hcv)) h3⟩
      · rename_i hc
        have hv := rho_ok hG hA.1 _ _ hc
        generalize hcv : a.eval c = cv at hv
        cases hv
        obtain ⟨o, m, ι1, w1, a1, h1, h2, h3⟩ := evalCN_ok n y s M L h B ι w a hR hG hA b k cs htop
        exact ⟨o, m, ι1, w1, a1, h1, h2, .of_steps (.one (mv_cond hcv)) h3⟩
      · cases h
    · rename_i id x
      split at h
      case h_2 => cases h
      rename_i l hl
      cases h
      obtain ⟨o, m, ι1, w1, a1, h1, h2, h3⟩ := evalCN_ok n x s M l hl B ι w a hR hG hA b (.inBlock id :: k) cs htop
      refine ⟨_, List.mem_map.2 ⟨o, m, rfl⟩, ?_⟩
      obtain ⟨e, s1, M1⟩ := o
      cases e with
      | normal => exact ⟨ι1, w1, a1, h1, h2, .of_steps (.one mv_block) (Steps.trans h3 (.one mv_inBlock))⟩
      | exit i =>
        obtain ⟨k1, e1, e2⟩ := h3
        dsimp only
        cases hi : Nat.beq i id with
        | true =>
          have hid := Nat.eq_of_beq_eq_true hi
          subst hid
          refine ⟨ι1, w1, a1, h1, h2, Steps.trans (.one mv_block) (e2.trans (.one (mv_exit ?_)))⟩
          rw [e1]; simp [exitTo]
        | false =>
          refine ⟨ι1, w1, a1, h1, h2, k1, e1.trans ?_, Steps.trans (.one mv_block) e2⟩
          have hne : ¬ id = i := fun e => beq_not hi e.symm
          simp [exitTo, hne]
      | ret => exact ⟨ι1, w1, a1, h1, h2, .of_steps (.one mv_block) h3⟩
      | panic v => exact ⟨ι1, w1, a1, h1, h2, .of_steps (.one mv_block) h3⟩
    · rename_i x
      split at h
      case h_2 => cases h
      rename_i l hl
      obtain ⟨o, m, ι1, w1, a1, h1, h2, h3⟩ := evalCN_ok n x s M l hl B ι w a hR hG hA b (.inLoop x :: k) cs htop
      obtain ⟨L1, hL1, hsub⟩ := allN_mem h o m
      obtain ⟨e, s1, M1⟩ := o
      cases e with
      | normal =>
        obtain ⟨o2, m2, ι2, w2, a2, g1, g2, g3⟩ := evalCN_ok n (.loop x) s1 M1 L1 hL1 B ι1 w1 a1 h1.rel (hG.mono h1.le) h2 b k cs htop
        exact ⟨o2, hsub _ m2, ι2, w2, a2, h1.trans g1, g2, .of_steps (Steps.trans (.one mv_loop) h3) g3.from_head⟩
      | exit id =>
        cases hL1
        obtain ⟨k1, e1, e2⟩ := h3
        exact ⟨_, hsub _ (List.mem_singleton.2 rfl), ι1, w1, a1, h1, h2, .of_steps (.one mv_loop) ⟨k1, e1.trans (exitTo_cons (by simp)), e2⟩⟩
      | ret => cases hL1; exact ⟨_, hsub _ (List.mem_singleton.2 rfl), ι1, w1, a1, h1, h2, .of_steps (.one mv_loop) h3⟩
      | panic v => cases hL1; exact ⟨_, hsub _ (List.mem_singleton.2 rfl), ι1, w1, a1, h1, h2, .of_steps (.one mv_loop) h3⟩
    · exact rangeN_ok hE hX hC h0 hR hG hA b k cs htop
    · cases h
      exact ⟨_, List.mem_singleton.2 rfl, ι, w, a, Post.refl hR, hA, k, rfl, .refl _ _⟩
    · cases h
      exact ⟨_, List.mem_singleton.2 rfl, ι, w, a, Post.refl hR, hA, k, .refl _ _⟩
    · cases h
end
def endN (E : Env) (R : Rec) (rs : List ResultVar) (o : Out) : Option (List (AV × AM)) :=
  match o.e with
  | .normal => match evalDefers E R 100 o.s.D .ret o.M with
    | some (.ret, M2) => (aresults E rs o.s.T M2).map fun vs => [(tupleOf vs, M2)]
    | _ => none
  | .ret => match evalDefers E R 100 o.s.D .ret o.M with
    | some (.ret, M2) => (aresults E rs o.s.T M2).map fun vs => [(tupleOf vs, M2)]
    | _ => none
  | _ => none
def evalCallN (E : Env) (R : Rec) (k : Nat) (S : FuncId → Bool) : Nat → CallN
  | 0, _, _, _ => none
  | n + 1, f, args, M => bif S f then
      match E.funcs.get f with
      | some fn => match fn.body with
        | some c => match evalCN E R (evalCallN E R k S n) k c (start fn args) M with
          | some l => allN (endN E R fn.results.toList) l
          | none => none
        | none => none
      | none => none
    else none
section
variable {P : Program} {E : Env} (hE : EnvOk P E) (hX : SumsX P E) {R : Rec} (hRec : ∀ B, RecOk P E B R)
include hE hX hRec
theorem evalCallN_ok (k : Nat) (S : FuncId → Bool) : ∀ n, CallNOk P E (evalCallN E R k S n)
  | 0, _, _, _, _, h, _ => by cases h
  | n + 1, f, args, M, L, h, B => by
    unfold evalCallN at h
    cases hS : S f with
    | false => rw [hS] at h; cases h
    | true =>
    rw [hS] at h
    simp only [cond_true] at h
    split at h
    case h_2 => cases h
    rename_i fn hf0
    split at h
    case h_2 => cases h
    rename_i c hb
    split at h
    case h_2 => cases h
    rename_i l hl
    intro ι w args' hR hG hargs cs
    obtain ⟨hf', _⟩ := hE.funcs _ _ hf0
    rw [enter_mk hf' hb]
    have hA := start_ok (fn := fn) hargs
    have hro : (Frame.enter P f args' .normal).roundOf = none := rfl
    have hk : (Frame.enter P f args' .normal).kind = .normal := rfl
    have hbf : (Frame.enter P f args' .normal).fn = f := rfl
    generalize (Frame.enter P f args' .normal) = b at hro hk hbf
    generalize (⟨args' ++ Array.replicate (fn.ntmps - args'.size) undef, []⟩ : Act) = a at hA
    obtain ⟨o, ho, ι', w', a', h1, h2, h3⟩ := evalCN_ok hE hX hRec (evalCallN_ok k S n) k c _ M l hl B ι w a hR hG hA b [] cs hro
    obtain ⟨L1, hL1, hsub⟩ := allN_mem h o ho
    have main : ∀ todo, Steps P (lone (mk b a [.code c]) cs w) (lone { mk b a' todo with mode := .returning } cs w') →
        (match evalDefers E R 100 o.s.D .ret o.M with | some (.ret, M2) => (aresults E fn.results.toList o.s.T M2).map fun vs => [(tupleOf vs, M2)] | _ => none) = some L1 →
        ∃ x, x ∈ L ∧ ∃ ι' w' fr, Post B ι w ι' x.2 w' ∧ fr.fn = f ∧ EndsF P ι' (lone (mk b a [.code c]) cs w) fr cs w' (.ret x.1) := by
      intro todo g4 hr
      split at hr
      case h_2 => cases hr
      rename_i M2 hdf
      obtain ⟨vs, hvs, rfl⟩ := map_some_inv hr
      obtain ⟨ι2, w2, m2, k1, k2, k3⟩ := defers_ok hE hX hRec 100 o.s.D .ret .ret o.M M2 hdf { mk b a' todo with mode := .returning } cs h1.rel (hG.mono h1.le) h2.2 rfl
      obtain ⟨v', r1, r2⟩ := results_ok hE k1.rel (h2.1.mono k1.le) hvs
      refine ⟨_, hsub _ (List.mem_singleton.2 rfl), ι2, w2, _, h1.trans k1, ?_, v', r2, g4.trans k3, ?_⟩
      · simpa [mk] using hbf
      · exact ⟨k2, rfl, hk, fn, by simpa [mk, hbf] using hf', r1⟩
    unfold endN at hL1
    split at hL1
    · rename_i he
      rw [he] at h3
      exact main [] (Steps.trans h3 (.one (mv_out hro _ _ _))) hL1
    · rename_i he
      rw [he] at h3
      obtain ⟨k1, e2⟩ := h3
      exact main _ (Steps.trans e2 (.one (mv_ret hro _ _ _ _))) hL1
    · cases hL1
end
def sLoc (args0 : List AV) (L : List (Nat × AObj)) (nx : Nat) (v : AV) (L' : List (Nat × AObj)) (nx' : Nat) : Sum := fun args M =>
  bif listBeq (avBeq 8) args args0 && agree L nx M then some (v, ⟨litT L' M.m, nx'⟩) else none
def rwB : AObj → Bool
  | .cells _ ro _ => !ro
  | _ => true
def hasKey (i : Nat) (L : List (Nat × AObj)) : Bool := L.any fun x => Nat.beq x.1 i
def locOk (L : List (Nat × AObj)) (nx : Nat) (L' : List (Nat × AObj)) (nx' : Nat) : Bool :=
  Nat.ble nx nx' && L'.all (fun x => rwB x.2) && L.all fun x => !rwB x.2 || hasKey x.1 L'
theorem rwB_eq (o : AObj) : rwB o = o.rw := by cases o <;> rfl
theorem litT_get2 : ∀ (L : List (Nat × AObj)) (t : Tr AObj) (i : Nat) (o : AObj), (litT L t).get i = some o → ((i, o) ∈ L ∧ (litT L .leaf).get i = some o) ∨ ((∀ x ∈ L, x.1 ≠ i) ∧ t.get i = some o) := by
  have key : ∀ (L : List (Nat × AObj)) (t u : Tr AObj) (i : Nat), (∃ x ∈ L, x.1 = i) → (litT L t).get i = (litT L u).get i := by
    intro L
    induction L with
    | nil => intro t u i ⟨x, hx, _⟩; cases hx
    | cons y l ih =>
      intro t u i h
      show (litT l _).get i = (litT l _).get i
      by_cases hi : ∃ x ∈ l, x.1 = i
      · exact ih _ _ _ hi
      · obtain ⟨x, hx, e⟩ := h
        have hy : y.1 = i := by
          rcases List.mem_cons.1 hx with rfl | hx
          · exact e
          · exact absurd ⟨x, hx, e⟩ hi
        have no : ∀ (t : Tr AObj), (litT l t).get i = t.get i := by
          intro t
          have : ∀ (l : List (Nat × AObj)) (t : Tr AObj), (∀ x ∈ l, x.1 ≠ i) → (litT l t).get i = t.get i := by
            intro l
            induction l with
            | nil => intro t _; rfl
            | cons z l ih2 =>
              intro t h
              show (litT l _).get i = _
              rw [ih2 _ (fun x hx => h x (List.mem_cons_of_mem _ hx)), Tr.get_set, if_neg (fun e => h z List.mem_cons_self e.symm)]
          exact this l t (fun x hx e => hi ⟨x, hx, e⟩)
        rw [no, no, Tr.get_set, Tr.get_set, if_pos hy.symm, if_pos hy.symm]
  intro L t i o h
  by_cases hi : ∃ x ∈ L, x.1 = i
  · left
    have h2 := h
    rw [key L t .leaf i hi] at h2
    refine ⟨?_, h2⟩
    rcases litT_get L .leaf i o h2 with h3 | h3
    · exact h3
    · cases h3
  · right
    refine ⟨fun x hx e => hi ⟨x, hx, e⟩, ?_⟩
    have : ∀ (l : List (Nat × AObj)) (t : Tr AObj), (∀ x ∈ l, x.1 ≠ i) → (litT l t).get i = t.get i := by
      intro l
      induction l with
      | nil => intro t _; rfl
      | cons z l ih2 =>
        intro t h
        show (litT l _).get i = _
        rw [ih2 _ (fun x hx => h x (List.mem_cons_of_mem _ hx)), Tr.get_set, if_neg (fun e => h z List.mem_cons_self e.symm)]
    rw [this L t (fun x hx e => hi ⟨x, hx, e⟩)] at h
    exact h
theorem RunF.loc {P : Program} {E : Env} {f : FuncId} {args : List AV} {L L' : List (Nat × AObj)} {nx nx' : Nat} {M : AM} {v : AV} (h : ∀ B, RunF P E B f args (litM L nx) (.ret v) (litM L' nx'))
    (hag : agree L nx M = true) (hok : locOk L nx L' nx' = true) (B : Bd) : RunF P E B f args M (.ret v) ⟨litT L' M.m, nx'⟩ := by
  intro ι w args' hR hG hv cs
  obtain ⟨hnx, hsub⟩ := agree_sub hag
  unfold locOk at hok
  simp only [Bool.and_eq_true] at hok
  obtain ⟨⟨hle, hrw⟩, hcov⟩ := hok
  have hle := ble_of hle
  rw [List.all_eq_true] at hrw hcov
  have hM : M.nx = nx := hnx.symm
  have hcov' : ∀ x o, (litM L nx).get x = some o → o.rw = true → ∃ y ∈ L', y.1 = x := by
    intro x o hx ho
    rcases litT_get L .leaf x o hx with h1 | h1
    · have h2 := hcov _ h1
      rw [rwB_eq, ho] at h2
      simp only [Bool.not_true, Bool.false_or] at h2
      unfold hasKey at h2
      obtain ⟨y, hy, e⟩ := List.any_eq_true.1 h2
      exact ⟨y, hy, beq_of e⟩
    · cases h1
  -- the blocks that stay
  let pr : Nat → Prop := fun b => B.pr b ∨ ∃ id o p, M.get id = some o ∧ ι id = some p ∧ p.1 = b ∧ ∀ o', (litM L nx).get id = some o' → o'.rw = false
  let gh : Nat → Prop := fun id => B.gh id ∨ (id < M.nx ∧ ι id = none)
  have hR0 : Rel ⟨pr, gh⟩ ι (litM L nx) w := by
    refine ⟨?_, ?_, ?_, ?_, ?_⟩
    · intro id o cb base room hg hi
      have h1 := hR.obj id o cb base room (hsub _ _ hg) hi
      refine ⟨h1.1, fun ho hp => ?_⟩
      rcases hp with hp | ⟨id2, o2, p2, g2, i2, e2, hn⟩
      · exact h1.2 ho hp
      · by_cases e : id2 = id
        · subst e
          have := hn _ hg
          rw [ho] at this; cases this
        · exact hR.inj id2 id o2 o p2 _ e g2 (hsub _ _ hg) i2 hi e2
    · intro i j o o' p p' hne g1 g2 i1 i2
      exact hR.inj i j o o' p p' hne (hsub _ _ g1) (hsub _ _ g2) i1 i2
    · intro id hid
      have hid' : M.nx ≤ id := by rw [hM]; exact hid
      have h1 := hR.fresh id hid'
      refine ⟨?_, h1.2⟩
      cases hg : (litM L nx).get id with
      | none => rfl
      | some o => have := hsub _ _ hg; rw [h1.1] at this; cases this
    · rintro b (hb | ⟨id, o, p, g, i, rfl, _⟩)
      · exact hR.below b hb
      · exact (hR.obj id o p.1 p.2.1 p.2.2 g i).1.lt
    · rintro id (hid | ⟨h1, h2⟩)
      · have := hR.ghost id hid
        exact ⟨by rw [hnx]; exact this.1, this.2⟩
      · exact ⟨by rw [hnx]; exact h1, h2⟩
  obtain ⟨ι', w', fr, hpo, hfn, hend⟩ := h ⟨pr, gh⟩ ι w args' hR0 hG hv cs
  -- an old thing that is not among what was told
  have old : ∀ id o p, M.get id = some o → (∀ x ∈ L', x.1 ≠ id) → ι' id = some p → ι id = some p ∧ pr p.1 := by
    intro id o p hg hno hi
    have hlt : id < M.nx := by
      rcases Nat.lt_or_ge id M.nx with h1 | h1
      · exact h1
      · rw [(hR.fresh id h1).1] at hg; cases hg
    cases hi0 : ι id with
    | none =>
      have := (hpo.rel.ghost id (Or.inr ⟨hlt, hi0⟩)).2
      rw [this] at hi; cases hi
    | some q =>
      have := hpo.le _ _ hi0
      rw [this] at hi
      cases hi
      refine ⟨rfl, Or.inr ⟨id, o, _, hg, hi0, rfl, fun o' ho' => ?_⟩⟩
      cases hb : o'.rw with
      | false => rfl
      | true =>
        obtain ⟨y, hy, e⟩ := hcov' id o' ho' hb
        exact absurd e (hno y hy)
  have split2 : ∀ id o, (⟨litT L' M.m, nx'⟩ : AM).get id = some o → ((litM L' nx').get id = some o ∧ o.rw = true) ∨ ((∀ x ∈ L', x.1 ≠ id) ∧ M.get id = some o) := by
    intro id o hg
    rcases litT_get2 L' M.m id o hg with ⟨h1, h2⟩ | h1
    · have := hrw _ h1
      rw [rwB_eq] at this
      exact Or.inl ⟨h2, this⟩
    · exact Or.inr h1
  refine ⟨ι', w', fr, ⟨hpo.le, ⟨?_, ?_, ?_, ?_, ?_⟩, ⟨fun b hb => hpo.fr.heap b (Or.inl hb), hpo.fr.size, hpo.fr.os, hpo.fr.out, hpo.fr.tape⟩⟩, hfn, hend⟩
  · intro id o cb base room hg hi
    rcases split2 id o hg with ⟨h1, h2⟩ | ⟨h1, h2⟩
    · have h3 := hpo.rel.obj id o cb base room h1 hi
      exact ⟨h3.1, fun ho hp => h3.2 ho (Or.inl hp)⟩
    · obtain ⟨h3, h4⟩ := old id o _ h2 h1 hi
      have h5 := hR.obj id o cb base room h2 h3
      exact ⟨h5.1.mono hpo.le (hpo.fr.heap cb h4), h5.2⟩
  · intro i j o o' p p' hne g1 g2 i1 i2
    rcases split2 i o g1 with ⟨h1, h2⟩ | ⟨h1, h2⟩ <;> rcases split2 j o' g2 with ⟨h3, h4⟩ | ⟨h3, h4⟩
    · exact hpo.rel.inj i j o o' p p' hne h1 h3 i1 i2
    · obtain ⟨_, h5⟩ := old j o' _ h4 h3 i2
      intro e
      exact (hpo.rel.obj i o p.1 p.2.1 p.2.2 h1 i1).2 h2 (e ▸ h5)
    · obtain ⟨_, h5⟩ := old i o _ h2 h1 i1
      intro e
      exact (hpo.rel.obj j o' p'.1 p'.2.1 p'.2.2 h3 i2).2 h4 (e ▸ h5)
    · obtain ⟨h5, _⟩ := old i o _ h2 h1 i1
      obtain ⟨h6, _⟩ := old j o' _ h4 h3 i2
      exact hR.inj i j o o' p p' hne h2 h4 h5 h6
  · intro id hid
    have hid' : nx' ≤ id := hid
    have h1 := hpo.rel.fresh id hid
    refine ⟨?_, h1.2⟩
    cases hg : (⟨litT L' M.m, nx'⟩ : AM).get id with
    | none => rfl
    | some o =>
      rcases split2 id o hg with ⟨h2, _⟩ | ⟨_, h2⟩
      · rw [h1.1] at h2; cases h2
      · rw [(hR.fresh id (by omega)).1] at h2; cases h2
  · intro b hb
    exact hpo.rel.below b (Or.inl hb)
  · intro id hid
    exact hpo.rel.ghost id (Or.inl hid)
def litRunN (E : Env) (n k d : Nat) (S : FuncId → Bool) (f : FuncId) (args0 : List AV) (L : List (Nat × AObj)) (nx : Nat) (v : AV) (L' : List (Nat × AObj)) (nx' : Nat) : Bool :=
  match evalCallN E (recN E n) k S d f args0 (litM L nx) with
  | some l => l.all fun o => avBeq 8 o.1 v && agree L' nx' o.2
  | none => false
theorem litRun_run {P : Program} {E : Env} (hE : EnvOk P E) (hX : SumsX P E) (hS : SumsF P E) {n : Nat} {f : FuncId} {args0 : List AV} {L L' : List (Nat × AObj)} {nx nx' : Nat} {v : AV}
    (hr : litRun E n f args0 L nx v L' nx' = true) (B : Bd) : RunF P E B f args0 (litM L nx) (.ret v) (litM L' nx') := by
  unfold litRun at hr
  split at hr
  · rename_i v1 M1 he
    rw [Bool.and_eq_true] at hr
    have hv := avBeq_eq 8 _ _ hr.1
    subst hv
    obtain ⟨k1, k2⟩ := agree_sub hr.2
    exact (eval_ok hE hX hS he B).weaken k1 (fun _ => k2)
  · cases hr
theorem litRunN_run {P : Program} {E : Env} (hE : EnvOk P E) (hX : SumsX P E) (hS : SumsF P E) {n k d : Nat} {S : FuncId → Bool} {f : FuncId} {args0 : List AV} {L L' : List (Nat × AObj)} {nx nx' : Nat} {v : AV}
    (hr : litRunN E n k d S f args0 L nx v L' nx' = true) (B : Bd) : RunF P E B f args0 (litM L nx) (.ret v) (litM L' nx') := by
  unfold litRunN at hr
  split at hr
  case h_2 => cases hr
  rename_i l hl
  intro ι w args' hR hG hv cs
  obtain ⟨o, ho, ι', w', fr, h1, h2, h3⟩ := evalCallN_ok hE hX (recN_ok hE hX hS n) k S d f args0 _ l hl B ι w args' hR hG hv cs
  have := List.all_eq_true.1 hr o ho
  rw [Bool.and_eq_true] at this
  have e := avBeq_eq 8 _ _ this.1
  obtain ⟨k1, k2⟩ := agree_sub this.2
  rw [e] at h3
  exact ⟨ι', w', fr, ⟨h1.le, h1.rel.weaken k1 k2, h1.fr⟩, h2, h3⟩
theorem sLoc_run {P : Program} {E E' : Env} (hg : E'.G = E.G) {f : FuncId} {args0 : List AV} {L L' : List (Nat × AObj)} {nx nx' : Nat} {v : AV} (hr : ∀ B, RunF P E B f args0 (litM L nx) (.ret v) (litM L' nx')) (hok : locOk L nx L' nx' = true)
    {args : List AV} {M M' : AM} {v' : AV} (h : sLoc args0 L nx v L' nx' args M = some (v', M')) (B : Bd) : RunF P E' B f args M (.ret v') M' := by
  unfold sLoc at h
  obtain ⟨h1, h2⟩ := cond_some_inv h
  cases h2
  rw [Bool.and_eq_true] at h1
  have ha := listBeq_eq (avBeq_eq 8) h1.1
  subst ha
  exact (RunF.loc hr h1.2 hok B).env hg
end
end Go.Abm
