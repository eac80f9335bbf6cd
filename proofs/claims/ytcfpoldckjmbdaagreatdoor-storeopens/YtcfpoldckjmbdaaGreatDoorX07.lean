/-
  A part of the proof that pumicelaw17.StoreOpens returns true for every geometry, key, number and group (a machine over names of blocks, its soundness, the calls of the store for any geometry, the chapter's example as a run). Condition: the listed package variables hold what the program's text lays; the card ties that.
-/
import Derived.Test.YtcfpoldckjmbdaaGreatDoorX06
set_option linter.unusedVariables false
set_option linter.unusedSimpArgs false
set_option linter.unusedSectionVars false
namespace Go.Abm
theorem arr_map_list {α β : Type} (f : α → β) (a : Array α) : (a.map f).toList = a.toList.map f := Array.toList_map
section
variable {P : Program} {E : Env} (hE : EnvOk P E) (hX : SumsX P E) {B : Bd} {ι : Ren} {M : AM} {w : World} (hR : Rel B ι M w) (hG : Glob E ι)
include hE hX hR hG
theorem evalOp_ok {ρ : Rho} {ρ' : Operand → Value} (hρ : ∀ x v, ρ x = some v → VR ι v (ρ' x)) {o : Oper} {r : ARes} (h : evalOp E ρ o.op M = some r) :
    OpPost P B ι w ((execOp ρ' o).run P w) r M := by
  obtain ⟨dst, op, ty, pos, after, guard⟩ := o
  simp only at h
  have pv : ∀ {s : Sem Value} {v : AV}, (∃ v', s.run P w = .ok v' w ∧ VR ι v v') → OpPost P B ι w ((do pure (.value (← s)) : Sem Next).run P w) (.val v M) M := fun ⟨v', h1, h2⟩ => OpPost.of_val (OpV.pure hR h1 h2)
  unfold evalOp at h
  split at h
  · -- move
    rename_i x
    split at h
    · rename_i v hv; cases h; exact ⟨ι, _, w, rfl, hρ _ _ hv, Post.refl hR⟩
    · cases h
  · rename_i x
    split at h
    · rename_i v hv; cases h; exact ⟨ι, _, w, rfl, hρ _ _ hv, Post.refl hR⟩
    · cases h
  · -- load
    rename_i t a
    split at h
    case h_2 => cases h
    rename_i b off ha
    obtain ⟨v, hv, rfl⟩ := map_some_inv h
    have hp := hρ _ _ ha
    simp only [execOp]
    refine pv ?_
    generalize hra : ρ' a = a' at hp
    cases hp with
    | ptr hp =>
    obtain ⟨v', h1, h2⟩ := aload_ok hE hR hp hv
    exact ⟨v', by simp [Instr.loadAt, Instr.sureAddr, h1], h2⟩
  · -- binOp
    rename_i op t x y yt
    split at h
    case h_2 => cases h
    rename_i a b ha hb
    obtain ⟨v, hv, rfl⟩ := map_some_inv h
    simp only [execOp]
    exact pv (binOp_run hE hR hv (hρ _ _ ha) (hρ _ _ hb))
  · -- indexAddr
    rename_i t x i
    split at h
    case h_2 => cases h
    rename_i a b ha hb
    obtain ⟨v, hv, rfl⟩ := map_some_inv h
    simp only [execOp]
    exact pv (indexAddr_run hE hv (hρ _ _ ha) (hρ _ _ hb))
  · -- store
    rename_i t a x
    split at h
    case h_2 => cases h
    rename_i b off v ha hb
    split at h
    case h_2 => cases h
    rename_i n hn
    obtain ⟨hl, h⟩ := cond_some_inv h
    have hl := beq_of hl
    obtain ⟨M', hM, rfl⟩ := map_some_inv h
    have hp := hρ _ _ ha
    have hv := hρ _ _ hb
    simp only [execOp]
    generalize hra : ρ' a = a' at hp
    cases hp with
    | ptr hp =>
    obtain ⟨w', h1, h2⟩ := astore_ok (P := P) hR hp hv.cells hM
    refine OpPost.of_unit ⟨w', ?_, h2⟩
    have hsz : (ρ' x).cells.size = n := by have := hv.cells.1; simp at this; omega
    simp only [Instr.storeAt, Instr.sureAddr, Sem.run_bind, Sem.run_pure, Result.andThen_ok, storeVar, run_sizeOf hE hn, Sem.run_ite]
    rw [if_neg (by simpa using hsz), h1]
  · -- fieldAddr
    rename_i s x f
    split at h
    case h_2 => cases h
    rename_i b off fd hx hf
    split at h
    case h_2 => cases h
    rename_i n hn
    cases h
    have hp := hρ _ _ hx
    simp only [execOp]
    refine pv ?_
    generalize hra : ρ' x = x' at hp
    cases hp with
    | ptr hp => exact ⟨_, fieldAddr_run hE hf hn, by rw [Nat.add_assoc]; exact .ptr hp⟩
  · -- pick
    rename_i c a b
    split at h
    · rename_i hc
      obtain ⟨v, hv, rfl⟩ := map_some_inv h
      have h1 := hρ _ _ hc
      simp only [execOp]
      generalize hrc : ρ' c = c' at h1
      cases h1
      exact ⟨ι, ρ' a, w, by simp [asBool], hρ _ _ hv, Post.refl hR⟩
    · rename_i hc
      obtain ⟨v, hv, rfl⟩ := map_some_inv h
      have h1 := hρ _ _ hc
      simp only [execOp]
      generalize hrc : ρ' c = c' at h1
      cases h1
      exact ⟨ι, ρ' b, w, by simp [asBool], hρ _ _ hv, Post.refl hR⟩
    · cases h
  · -- nilCheck
    rename_i x
    simp only [execOp]
    split at h
    · rename_i b off hx
      cases h
      have h1 := hρ _ _ hx
      generalize hrx : ρ' x = x' at h1
      cases h1 with
      | ptr hp => exact ⟨ι, _, w, rfl, .ptr hp, Post.refl hR⟩
    · rename_i t v hx
      cases h
      have h1 := hρ _ _ hx
      generalize hrx : ρ' x = x' at h1
      cases h1 with
      | ifc hp => exact ⟨ι, _, w, rfl, .ifc hp, Post.refl hR⟩
    · rename_i f a b hx
      cases h
      have h1 := hρ _ _ hx
      generalize hrx : ρ' x = x' at h1
      have h2 := h1
      cases h1 with
      | fn hk la lb p q =>
      cases hk with
      | same k hk => exact ⟨ι, _, w, rfl, h2, Post.refl hR⟩
    · rename_i f a b hx
      cases h
      have h1 := hρ _ _ hx
      generalize hrx : ρ' x = x' at h1
      have h2 := h1
      cases h1 with
      | fn hk la lb p q =>
      cases hk with
      | same k hk => exact absurd rfl (hk _)
      | yield hp => exact ⟨ι, _, w, rfl, h2, Post.refl hR⟩
    · cases h
  · -- alloc
    obtain ⟨z, hz, rfl⟩ := map_some_inv h
    simp only [execOp]
    exact OpPost.of_val (alloc_ok hE hR hz)
  · -- box
    obtain ⟨v, hv, rfl⟩ := map_some_inv h
    simp only [execOp]
    exact OpPost.of_val (box_ok hR (hρ _ _ hv))
  · -- build
    rename_i t ps
    split at h
    case h_2 => cases h
    rename_i l hl
    obtain ⟨v, hv, rfl⟩ := map_some_inv h
    simp only [execOp]
    refine OpPost.of_val (build_ok hE hR hv ?_)
    rw [arr_map_list]
    exact rhoP_ok hρ _ _ hl
  · rename_i t n ps
    split at h
    case h_2 => cases h
    rename_i l hl
    obtain ⟨⟨v, M'⟩, hv, rfl⟩ := map_some_inv h
    simp only [execOp]
    refine OpPost.of_val (buildSlice_ok hE hR hv ?_)
    rw [arr_map_list]
    exact rhoP_ok hρ _ _ hl
  · -- unOp
    rename_i op t x
    split at h
    case h_2 => cases h
    rename_i v hv
    obtain ⟨r, hr, rfl⟩ := map_some_inv h
    simp only [execOp]
    exact pv (unary_run hr (hρ _ _ hv))
  · rename_i s d x
    split at h
    case h_2 => cases h
    rename_i v hv
    obtain ⟨⟨v2, M'⟩, hr, rfl⟩ := map_some_inv h
    simp only [execOp]
    exact OpPost.of_val (convert_run hE hR hr (hρ _ _ hv))
  · -- makeInterface
    rename_i t x
    split at h
    case h_2 => cases h
    rename_i v d hv hd
    split at h
    · cases h
    · rename_i hni
      cases h
      simp only [execOp]
      refine pv ⟨.iface t (ρ' x), ?_, .ifc (hρ _ _ hv)⟩
      cases d <;> first | (exact absurd rfl (hni _)) | simp only [Instr.makeInterface, Sem.run_bind, run_underlying hE hd, Result.andThen_ok, Sem.run_pure]
  · -- makeFunc
    rename_i fn first cap
    split at h
    case h_2 => cases h
    rename_i a b ha hb
    split at h
    · cases h
    · rename_i fn2 hny
      cases h
      simp only [execOp]
      have h1 := rhoL_ok hρ _ _ ha
      have h2 := rhoL_ok hρ _ _ hb
      refine pv ⟨.func _ (first.map ρ') (cap.map ρ'), rfl, .fn (.same _ (fun l e => hny l e)) (by simpa using h1.1) (by simpa using h2.1) (fun i v v' p q => h1.2 i v v' p ?_) (fun i v v' p q => h2.2 i v v' p ?_)⟩
      · rw [← arr_map_list, Array.getElem?_toList]; exact q
      · rw [← arr_map_list, Array.getElem?_toList]; exact q
  · -- makeMap
    cases h
    simp only [execOp]
    refine OpPost.of_val ⟨_, .map (some w.heap.size), _, by simp [Instr.makeMap]; rfl, .mp (r := 0) (Ren.add_self _ _ _), Post.new (room := 0) hR ⟨rfl, #[], by simp, rfl, fun i e e' p => by simp at p⟩⟩
  · -- makeSlice
    rename_i t l c
    split at h
    case h_2 => cases h
    rename_i a b ha hb
    obtain ⟨⟨v2, M'⟩, hr, rfl⟩ := map_some_inv h
    simp only [execOp]
    exact OpPost.of_val (makeSlice_ok hE hR hr (hρ _ _ ha) (hρ _ _ hb))
  · -- slice
    rename_i t x l hh m
    split at h
    case h_2 => cases h
    rename_i v l1 h1 m1 hv hl1 hh1 hm1
    obtain ⟨r, hr, rfl⟩ := map_some_inv h
    simp only [execOp]
    exact OpPost.of_val (slice_ok hE hR hr (hρ _ _ hv) (rhoO_ok hρ hl1) (rhoO_ok hρ hh1) (rhoO_ok hρ hm1))
  · -- field
    rename_i t x f
    split at h
    case h_2 => cases h
    rename_i cs fd hx hf
    obtain ⟨r, hr, rfl⟩ := map_some_inv h
    simp only [execOp]
    obtain ⟨cs', e1, e2⟩ := (hρ _ _ hx).agg_inv
    rw [e1]
    exact pv (field_run hE hf hr e2)
  · rename_i t x i
    split at h
    case h_2 => cases h
    rename_i a b ha hb
    obtain ⟨v, hv, rfl⟩ := map_some_inv h
    simp only [execOp]
    exact pv (index_run hE hv (hρ _ _ ha) (hρ _ _ hb))
  · rename_i t x k ok
    split at h
    case h_2 => cases h
    rename_i a b ha hb
    obtain ⟨v, hv, rfl⟩ := map_some_inv h
    simp only [execOp]
    exact pv (lookup_run hE hR hv (hρ _ _ ha) (hρ _ _ hb))
  · rename_i t m k x
    split at h
    case h_2 => cases h
    rename_i a b c ha hb hc
    obtain ⟨M', hM, rfl⟩ := map_some_inv h
    simp only [execOp]
    exact OpPost.of_unit (mapUpdate_run hE hR hM (hρ _ _ ha) (hρ _ _ hb) (hρ _ _ hc))
  · rename_i t m k x
    split at h
    case h_2 => cases h
    rename_i a b c ha hb hc
    obtain ⟨M', hM, rfl⟩ := map_some_inv h
    simp only [execOp]
    exact OpPost.of_unit (mapUpdate_run hE hR hM (hρ _ _ ha) (hρ _ _ hb) (hρ _ _ hc))
  · rename_i t x
    split at h
    case h_2 => cases h
    rename_i v hv
    obtain ⟨⟨v2, M'⟩, hr, rfl⟩ := map_some_inv h
    simp only [execOp]
    exact OpPost.of_val (range_run hE hR hr (hρ _ _ hv))
  · rename_i x
    split at h
    case h_2 => cases h
    rename_i v hv
    obtain ⟨⟨v2, M'⟩, hr, rfl⟩ := map_some_inv h
    simp only [execOp]
    exact OpPost.of_val (next_run hR hr (hρ _ _ hv))
  · rename_i x
    split at h
    case h_2 => cases h
    rename_i v hv
    obtain ⟨⟨v2, M'⟩, hr, rfl⟩ := map_some_inv h
    simp only [execOp]
    exact OpPost.of_val (nextS_run hR hr (hρ _ _ hv))
  · rename_i x
    split at h
    case h_2 => cases h
    rename_i v hv
    obtain ⟨v2, hr, rfl⟩ := map_some_inv h
    simp only [execOp]
    exact pv (entry_run hR hr (hρ _ _ hv))
  · rename_i x xt t ok
    split at h
    case h_2 => cases h
    rename_i v hv
    obtain ⟨v2, hr, rfl⟩ := map_some_inv h
    simp only [execOp]
    exact pv (typeAssert_run hE hr (hρ _ _ hv))
  · -- extract
    rename_i x i
    split at h
    case h_2 => cases h
    rename_i l hx
    obtain ⟨v, hv, rfl⟩ := map_some_inv h
    obtain ⟨l', e1, e2⟩ := (hρ _ _ hx).tup_inv
    simp only [execOp]
    rw [e1]
    obtain ⟨v', q1, q2⟩ := e2.get_arr _ _ hv
    exact pv ⟨v', by simp [Instr.extract, q1], q2⟩
  · -- call
    rename_i c
    split at h
    case h_2 => cases h
    rename_i args ha
    have hargs : VRs ι args (c.args.map ρ').toList := by rw [arr_map_list]; exact rhoL_ok hρ _ _ ha
    simp only [execOp, resolve]
    split at h
    · rename_i f hc
      split at h
      case h_2 => cases h
      rename_i v hv
      obtain ⟨d, e1, e2⟩ := callV_run hE hX hR hG h (hρ _ _ hv) hargs
      simp only [hc, e1, pure_bind]
      exact e2
    · rename_i rr name hc
      split at h
      case h_2 => cases h
      rename_i t v hv
      split at h
      case h_2 => cases h
      rename_i f r0 hm
      have h1 := hρ _ _ hv
      simp only [hc, pure_bind]
      generalize hrr : ρ' rr = r' at h1
      cases h1 with
      | ifc hv' =>
      rename_i v1
      obtain ⟨r1, e1, e2⟩ := method_run hE (w := w) hm hv' (P.types.size + 99)
      have e3 := callF_run hE hX hR hG (args' := #[r1] ++ c.args.map ρ') h (by simpa using VRs.cons e2 hargs)
      have hx : (#[Value.iface t v1] ++ c.args.map ρ')[0]? = some (Value.iface t v1) := by
        rw [Array.getElem?_append_left (show 0 < 1 by omega)]
        rfl
      have hext : (#[Value.iface t v1] ++ c.args.map ρ').extract 1 (#[Value.iface t v1] ++ c.args.map ρ').size = c.args.map ρ' := by
        apply Array.ext'
        simp [Array.toList_extract, List.extract]
        exact List.take_of_length_le (by simp)
      have hinv : invoke (.fn (.method name) #[]) (#[Value.iface t v1] ++ c.args.map ρ') = callMethod (.iface t v1) name (c.args.map ρ') := by
        simp only [invoke]
        rw [hext, hx]
      show OpPost P B ι w ((invoke (.fn (.method name) #[]) (#[Value.iface t v1] ++ c.args.map ρ')).run P w) r M
      rw [hinv]
      simp only [callMethod, Sem.run_bind, run_program, Result.andThen_ok]
      have hfuel : P.types.size + Made.depth = P.types.size + 99 + 1 := rfl
      rw [hfuel, e1]
      exact e3
    · rename_i b hc
      simp only [hc, pure_bind, invoke]
      exact builtin_run hE hR h hargs
  · -- defer
    rename_i c
    split at h
    case h_2 => cases h
    rename_i args ha
    have hargs : VRs ι args (c.args.map ρ').toList := by rw [arr_map_list]; exact rhoL_ok hρ _ _ ha
    split at h
    case h_2 => cases h
    rename_i f hc
    split at h
    case h_2 => cases h
    rename_i g first cap hv
    cases h
    have h1 := hρ _ _ hv
    simp only [execOp, resolve, hc]
    generalize hrf : ρ' f = f' at h1
    cases h1 with
    | fn hk la lb hfa hfb =>
    rename_i k' a' b'
    cases hk with
    | same k hk =>
    have q1 : VRs ι first a'.toList := ⟨by simpa using la, fun i v v' p q => hfa i v v' p (by simpa using q)⟩
    have q2 : VRs ι cap b'.toList := ⟨by simpa using lb, fun i v v' p q => hfb i v v' p (by simpa using q)⟩
    exact ⟨_, rfl, .call hk q2 (by rw [Array.toList_append]; exact q1.append hargs)⟩
  · -- panic
    rename_i x
    split at h
    case h_2 => cases h
    rename_i t v hx
    cases h
    have h1 := hρ _ _ hx
    simp only [execOp]
    generalize hrx : ρ' x = x' at h1
    cases h1 with
    | ifc hv => exact ⟨ι, _, w, by simp [Instr.panic], .ifc hv, Post.refl hR⟩
  · cases h
end
end Go.Abm

namespace Go.Abm
def mk (b : Frame) (a : Act) (todo : List Item) : Frame :=
  { fn := b.fn, tmps := a.tmps, todo, defers := a.defers, mode := .run, kind := b.kind, roundOf := b.roundOf }
theorem mk_eval (b : Frame) (a : Act) (todo : List Item) : (mk b a todo).eval = a.eval := by
  funext x; cases x <;> rfl
section moves
variable {P : Program} {b : Frame} {a : Act} {k : List Item} {cs : List Frame} {w : World}
theorem mv_skip : step P (lone (mk b a (.code .skip :: k)) cs w) = .next (lone (mk b a k) cs w) := step_lone_go (by simp [stepG, stepG.exec, mk])
theorem mv_inBlock {id : Nat} : step P (lone (mk b a (.inBlock id :: k)) cs w) = .next (lone (mk b a k) cs w) := step_lone_go (by simp [stepG, stepG.exec, mk])
theorem mv_seq {x y : Code} : step P (lone (mk b a (.code (.seq x y) :: k)) cs w) = .next (lone (mk b a (.code x :: .code y :: k)) cs w) := step_lone_go (by simp [stepG, stepG.exec, mk])
theorem mv_cond {c : Operand} {x y : Code} {t : Bool} (h : a.eval c = .bool t) :
    step P (lone (mk b a (.code (.cond c x y) :: k)) cs w) = .next (lone (mk b a (.code (if t then x else y) :: k)) cs w) :=
  step_lone_go (by
    have := mk_eval b a (.code (.cond c x y) :: k)
    simp only [mk] at this
    simp [stepG, stepG.exec, mk, this, h])
theorem mv_block {id : Nat} {c : Code} : step P (lone (mk b a (.code (.block id c) :: k)) cs w) = .next (lone (mk b a (.code c :: .inBlock id :: k)) cs w) := step_lone_go (by simp [stepG, stepG.exec, mk])
theorem mv_loop {c : Code} : step P (lone (mk b a (.code (.loop c) :: k)) cs w) = .next (lone (mk b a (.code c :: .inLoop c :: k)) cs w) := step_lone_go (by simp [stepG, stepG.exec, mk])
theorem mv_inLoop {c : Code} : step P (lone (mk b a (.inLoop c :: k)) cs w) = .next (lone (mk b a (.code c :: .inLoop c :: k)) cs w) := step_lone_go (by simp [stepG, stepG.exec, mk])
theorem mv_exit {id : Nat} {k' : List Item} (h : exitTo id k = some k') : step P (lone (mk b a (.code (.exit id) :: k)) cs w) = .next (lone (mk b a k') cs w) :=
  step_lone_go (by simp [stepG, stepG.exec, mk, h])
theorem mv_region {id : Nat} {ops : Array Oper} : step P (lone (mk b a (.code (.region id ops false) :: k)) cs w) = .next (lone (mk b a (.inRegion ops (List.range ops.size) :: k)) cs w) :=
  step_lone_go (by simp [stepG, stepG.exec, mk])
theorem mv_region_draw {id : Nat} {ops : Array Oper} : step P (lone (mk b a (.code (.region id ops true) :: k)) cs w) =
    .next (lone (mk b a (.inRegion ops (Region.schedule (P.follows .mixedOrders) ops (w.tape w.drawn (.order b.fn id))) :: k)) cs { w with drawn := w.drawn + 1 }) :=
  step_lone_go (by simp [stepG, stepG.exec, mk, choose, Sem.run, Question.forced, Question.cut])
theorem mv_region_end {ops : Array Oper} : step P (lone (mk b a (.inRegion ops [] :: k)) cs w) = .next (lone (mk b a k) cs w) :=
  step_lone_go (by simp [stepG, stepG.exec, mk])
theorem finish_mk (ops : Array Oper) (i : Nat) (rest : List Nat) (v : Value) :
    (mk b a (.inRegion ops (i :: rest) :: k)).finish v = mk b (a.put ((ops[i]?).bind (·.dst)) v) (.inRegion ops rest :: k) := by
  cases h : (ops[i]?).bind (·.dst) <;> simp [Frame.finish, mk, Act.put, h]
theorem mv_op_skip {ops : Array Oper} {i : Nat} {rest : List Nat} (h : ((ops[i]?).map (Region.wanted · (yielded ops a.tmps))).getD false = false) :
    step P (lone (mk b a (.inRegion ops (i :: rest) :: k)) cs w) = .next (lone (mk b (a.put ((ops[i]?).bind (·.dst)) undef) (.inRegion ops rest :: k)) cs w) := by
  rw [← finish_mk]
  exact step_lone_go (by
    have h' := h
    simp only [mk] at *
    simp [stepG, stepG.exec, h'])
theorem stepG_op' {ops : Array Oper} {i : Nat} {rest : List Nat} {o : Oper} (ho : ops[i]? = some o) (hw : Region.wanted o (yielded ops a.tmps) = true)
    (hd : b.roundOf = none ∨ ∀ c, o.op ≠ .defer c) :
    stepG P true { frame := mk b a (.inRegion ops (i :: rest) :: k), callers := cs, status := .running, dying := none } w =
      stepG.apply P true (mk b a (.inRegion ops (i :: rest) :: k)) cs none (execOp a.eval o) w := by
  have he := mk_eval b a (.inRegion ops (i :: rest) :: k)
  simp only [mk] at he
  have h1 : stepG P true { frame := mk b a (.inRegion ops (i :: rest) :: k), callers := cs, status := .running, dying := none } w =
      stepG.oper P true (mk b a (.inRegion ops (i :: rest) :: k)) cs none w := by
    simp [stepG, stepG.exec, mk, ho, hw]
  rw [h1]
  unfold stepG.oper
  have h2 : (mk b a (.inRegion ops (i :: rest) :: k)).oper? = some o := by simp [Frame.oper?, mk, ho]
  rw [h2]
  simp only [mk]
  rw [he]
  rcases hd with hd | hd
  · rw [hd]
  · split
    · rename_i l c e1 e2; exact absurd e2 (hd c)
    · rfl
end moves
def Arr (P : Program) (m : Machine) (b : Frame) (k : List Item) (cs : List Frame) (ι : Ren) (w' : World) (a' : Act) : AExit → Prop
  | .normal => Steps P m (lone (mk b a' k) cs w')
  | .exit id => ∃ k1, exitTo id k1 = exitTo id k ∧ Steps P m (lone (mk b a' (.code (.exit id) :: k1)) cs w')
  | .ret => ∃ k1, Steps P m (lone (mk b a' (.code .ret :: k1)) cs w')
  | .panic v => ∃ v' todo, VR ι v v' ∧ Steps P m (lone { mk b a' todo with mode := .panicking [{ v := v', recovered := false }] } cs w')
theorem Arr.of_steps {P : Program} {m m1 : Machine} {b : Frame} {k : List Item} {cs : List Frame} {ι : Ren} {w' : World} {a' : Act} {e : AExit} (h : Steps P m m1) (h' : Arr P m1 b k cs ι w' a' e) :
    Arr P m b k cs ι w' a' e := by
  cases e with
  | normal => exact h.trans h'
  | exit id => obtain ⟨k1, e1, e2⟩ := h'; exact ⟨k1, e1, h.trans e2⟩
  | ret => obtain ⟨k1, e2⟩ := h'; exact ⟨k1, h.trans e2⟩
  | panic v => obtain ⟨v', todo, e1, e2⟩ := h'; exact ⟨v', todo, e1, h.trans e2⟩
theorem Steps.tail {P : Program} {m x t : Machine} (h : Steps P m t) (hs : step P m = .next x) (hne : m ≠ t) : Steps P x t := by
  obtain ⟨n, hn⟩ := h
  cases n with
  | zero => simp [runN] at hn; exact absurd hn hne
  | succ n => simp only [runN, hs] at hn; exact ⟨n, hn⟩
theorem lone_frame {fr fr' : Frame} {cs cs' : List Frame} {w w' : World} (h : lone fr cs w = lone fr' cs' w') : fr = fr' := by
  have := congrArg (fun m : Machine => (m.gs[0]?).map (·.frame)) h
  simpa [lone] using this
theorem Arr.from_head {P : Program} {b : Frame} {a : Act} {c : Code} {k : List Item} {cs : List Frame} {w : World} {ι : Ren} {w' : World} {a' : Act} {e : AExit}
    (h : Arr P (lone (mk b a (.code (.loop c) :: k)) cs w) b k cs ι w' a' e) : Arr P (lone (mk b a (.inLoop c :: k)) cs w) b k cs ι w' a' e := by
  refine .of_steps (.one mv_inLoop) ?_
  have hne : ∀ t, t ≠ Item.code (.loop c) :: k → lone (mk b a (.code (.loop c) :: k)) cs w ≠ lone (mk b a' t) cs w' := fun t ht e => by
    have := congrArg Frame.todo (lone_frame e)
    exact ht this.symm
  cases e with
  | normal => exact Steps.tail h mv_loop (hne k (fun e => by have := congrArg List.length e; simp at this))
  | exit id => obtain ⟨k1, e1, e2⟩ := h; exact ⟨k1, e1, Steps.tail e2 mv_loop (hne _ (fun e => by cases e))⟩
  | ret => obtain ⟨k1, e2⟩ := h; exact ⟨k1, Steps.tail e2 mv_loop (hne _ (fun e => by cases e))⟩
  | panic v =>
    obtain ⟨v', todo, e1, e2⟩ := h
    refine ⟨v', todo, e1, Steps.tail e2 mv_loop (fun e => ?_)⟩
    have := congrArg Frame.mode (lone_frame e)
    cases this
def ActR (ι : Ren) (s : St) (a : Act) : Prop := TR ι s.n s.T a.tmps ∧ DRs ι s.D a.defers
theorem ActR.mono {ι ι' : Ren} (h : ι.le ι') {s : St} {a : Act} (ha : ActR ι s a) : ActR ι' s a := ⟨ha.1.mono h, ha.2.mono h⟩
def RunC (P : Program) (E : Env) (B : Bd) (it : Item) (top : Bool) (s : St) (M : AM) (o : Out) : Prop :=
  ∀ ι w a, Rel B ι M w → Glob E ι → ActR ι s a → ∀ (b : Frame) (k : List Item) (cs : List Frame), (top = true → b.roundOf = none) →
    ∃ ι' w' a', Post B ι w ι' o.M w' ∧ ActR ι' o.s a' ∧ Arr P (lone (mk b a (it :: k)) cs w) b k cs ι' w' a' o.e
def EndsF (P : Program) (ι : Ren) (m : Machine) (fr : Frame) (cs : List Frame) (w : World) : AEnd → Prop
  | .ret v => ∃ v', VR ι v v' ∧ Steps P m (lone fr cs w) ∧ fr.leaving P w (.returned v')
  | .pan v => ∃ v', VR ι v v' ∧ Steps P m (lone fr cs w) ∧ fr.leaving P w (.panicked [{ v := v', recovered := false }])
def EndsR (P : Program) (ι : Ren) (m : Machine) (c : Frame) (cs : List Frame) (w : World) : AEnd → Prop
  | .ret v => ∃ v', VR ι v v' ∧ Steps P m (lone (c.finish v') cs w)
  | .pan v => ∃ v', VR ι v v' ∧ Steps P m (lone (c.raise [{ v := v', recovered := false }]) cs w)
def RunF (P : Program) (E : Env) (B : Bd) (f : FuncId) (args : List AV) (M : AM) (e : AEnd) (M' : AM) : Prop :=
  ∀ ι w args', Rel B ι M w → Glob E ι → VRs ι args args'.toList → ∀ cs, ∃ ι' w' fr, Post B ι w ι' M' w' ∧ fr.fn = f ∧ EndsF P ι' (lone (Frame.enter P f args' .normal) cs w) fr cs w' e
def RunR (P : Program) (E : Env) (B : Bd) (l : Nat) (args : List AV) (M : AM) (e : AEnd) (M' : AM) : Prop :=
  ∀ ι w cl r args', Rel B ι M w → Glob E ι → ι l = some (cl, 0, r) → VRs ι args args'.toList → ∃ f tmps asg body, (Instr.yield cl args').run P w = .ok (.round cl f tmps asg body) w ∧
    ∀ (c : Frame) (cs : List Frame), ∃ ι' w', Post B ι w ι' M' w' ∧ EndsR P ι' (lone (Frame.round cl f tmps asg body .normal) (c :: cs) w) c cs w' e
structure RecOk (P : Program) (E : Env) (B : Bd) (R : Rec) : Prop where
  loop : ∀ top c s M o, R.loop top c s M = some o → RunC P E B (.inLoop c) top s M o
  call : ∀ f args M e M', R.call f args M = some (e, M') → RunF P E B f args M e M'
  round : ∀ l args M e M', R.round l args M = some (e, M') → RunR P E B l args M e M'
end Go.Abm

namespace Go.Abm
theorem ActR.put {ι : Ren} {s s' : St} {a : Act} {dst : Option Tmp} {v : AV} {v' : Value} (h : ActR ι s a) (hp : Abm.put s dst v = some s') (hv : VR ι v v') : ActR ι s' (a.put dst v') := by
  unfold Abm.put at hp
  cases dst with
  | none => cases hp; exact h
  | some d =>
    simp only at hp
    obtain ⟨hd, hp⟩ := cond_some_inv hp
    cases hp
    have hd := blt_of hd
    refine ⟨⟨by simp [Act.put, h.1.1], fun t x e => ?_⟩, h.2⟩
    rw [Tr.get_set] at e
    simp only [Act.put]
    rw [Array.getElem?_setIfInBounds]
    split at e
    · rename_i ht
      subst ht
      cases e
      rw [if_pos rfl, if_pos (by rw [h.1.1]; exact hd)]
      exact ⟨v', rfl, hv⟩
    · rename_i ht
      rw [if_neg (fun e => ht e.symm)]
      exact h.1.2 t x e
theorem rho_ok {E : Env} {ι : Ren} (hG : Glob E ι) {n : Nat} {T : Tr AV} {a : Act} (hT : TR ι n T a.tmps) (x : Operand) (v : AV) (h : rho E T x = some v) : VR ι v (a.eval x) := by
  cases x with
  | tmp t =>
    obtain ⟨v', e, hv⟩ := hT.2 t v h
    simp only [Act.eval]
    rw [Array.getD_eq_getD_getElem?, e]
    exact hv
  | const c => exact ofV_rel _ _ _ h
  | global g =>
    obtain ⟨hg, h⟩ := cond_some_inv h
    cases h
    obtain ⟨r, e⟩ := hG g (Nat.le_of_lt (blt_of hg))
    exact .ptr (base := 0) e
  | func f => cases h; exact .fn (.same _ (fun l => by simp)) rfl rfl (fun i v v' e => by simp at e) (fun i v v' e => by simp at e)
theorem wanted_ok {ι : Ren} {n : Nat} {T : Tr AV} {tmps : Array Value} (hT : TR ι n T tmps) {ops : Array Oper} {o : Oper} {x : Bool} (h : wantedA ops o T = some x) :
    Region.wanted o (yielded ops tmps) = x := by
  unfold wantedA at h
  unfold Region.wanted
  split at h
  · rename_i hg; cases h; rw [hg]
  · rename_i j want hg
    rw [hg]
    simp only
    unfold yielded
    split at h
    · rename_i oj hj
      rw [hj]
      simp only [Option.bind_some]
      split at h
      · rename_i d hd
        rw [hd]
        simp only [Option.bind_some]
        split at h
        · rename_i c hc
          cases h
          obtain ⟨v', e, hv⟩ := hT.2 _ _ hc
          cases hv
          rw [e]
          cases c <;> cases want <;> rfl
        · rename_i v hnb hv0
          cases h
          obtain ⟨v', e, hv⟩ := hT.2 _ _ hv0
          rw [e]
          cases hv <;> first | (exact absurd rfl (hnb _)) | rfl
        · cases h
      · rename_i hd; cases h; rw [hd]; rfl
    · rename_i hj; cases h; rw [hj]; rfl
section
variable {P : Program} {E : Env} {B : Bd} {R : Rec} (hRec : RecOk P E B R)
include hRec
theorem eff_ok {ι : Ren} {w : World} {M M1 : AM} (hR : Rel B ι M w) (hG : Glob E ι) {r : ARes} {v : AV} (h : effRes R r M = some (v, M1)) {a : Act} {b : Frame} {ops : Array Oper} {i : Nat} {rest : List Nat}
    {k : List Item} {cs : List Frame} {o : Oper} (ho : ops[i]? = some o) (hw : Region.wanted o (yielded ops a.tmps) = true) (hd : b.roundOf = none ∨ ∀ c, o.op ≠ .defer c)
    (hp : OpPost P B ι w ((execOp a.eval o).run P w) r M) :
    ∃ ι1 w1 v', VR ι1 v v' ∧ Post B ι w ι1 M1 w1 ∧ Steps P (lone (mk b a (.inRegion ops (i :: rest) :: k)) cs w) (lone (mk b (a.put o.dst v') (.inRegion ops rest :: k)) cs w1) := by
  have hfin : ∀ v', (mk b a (.inRegion ops (i :: rest) :: k)).finish v' = mk b (a.put o.dst v') (.inRegion ops rest :: k) := fun v' => by
    rw [finish_mk, ho]; rfl
  have hgo := stepG_op' (P := P) (cs := cs) (w := w) (k := k) (rest := rest) ho hw hd
  cases r with
  | val x M' =>
    cases h
    obtain ⟨ι', v', w', hr, hv, hpo⟩ := hp
    refine ⟨ι', w', v', hv, hpo, .one (step_lone_go ?_)⟩
    rw [hgo, ← hfin]; simp [stepG.apply, hr]
  | skip M' =>
    cases h
    obtain ⟨ι', w', hr, hpo⟩ := hp
    refine ⟨ι', w', _, VR.undef, hpo, .one (step_lone_go ?_)⟩
    rw [hgo, ← hfin]; simp [stepG.apply, hr]
  | enter f args =>
    simp only [effRes] at h
    split at h
    · rename_i v0 M' hc
      cases h
      obtain ⟨args', hr, ha⟩ := hp
      obtain ⟨ι', w', fr, hpo, hfn, hm⟩ := hRec.call _ _ _ _ _ hc ι w args' hR hG ha (mk b a (.inRegion ops (i :: rest) :: k) :: cs)
      obtain ⟨v', hv, hs, hl⟩ := hm
      refine ⟨ι', w', v', hv, hpo, Steps.trans (.one (step_lone_go ?_)) (hs.trans (by rw [← hfin]; exact .one (step_leave_returned hl)))⟩
      rw [hgo]; simp [stepG.apply, hr, mk]
    · cases h
  | round l args =>
    simp only [effRes] at h
    split at h
    · rename_i v0 M' hc
      cases h
      obtain ⟨cl, r, args', hl, ha, hr⟩ := hp
      obtain ⟨f, tmps, asg, body, hy, hm⟩ := hRec.round _ _ _ _ _ hc ι w cl r args' hR hG hl ha
      obtain ⟨ι', w', hpo, v', hv, hs⟩ := hm (mk b a (.inRegion ops (i :: rest) :: k)) cs
      rw [hy] at hr
      refine ⟨ι', w', v', hv, hpo, Steps.trans (.one (step_lone_go ?_)) (by rw [← hfin]; exact hs)⟩
      rw [hgo]; simp [stepG.apply, hr, mk]
    · cases h
  | _ => cases h
theorem fin_ok {ι : Ren} {w : World} {M : AM} (hR : Rel B ι M w) (hG : Glob E ι) {r : ARes} {a : Act} {b : Frame} {ops : Array Oper} {i : Nat} {rest : List Nat}
    {k : List Item} {cs : List Frame} {o : Oper} (ho : ops[i]? = some o) (hw : Region.wanted o (yielded ops a.tmps) = true)
    (hp : OpPost P B ι w ((execOp a.eval o).run P w) r M) {top : Bool} (htop : top = true → b.roundOf = none) (hdf : ∀ c, o.op = .defer c → ∃ d, r = .defer d) {s : St} (hA : ActR ι s a)
    {next : St → AM → Option Out} {out : Out} (h : finOp R top s o.dst (some r) M next = some out)
    (hn : ∀ ι1 w1 a1 s1 M1, Rel B ι1 M1 w1 → Glob E ι1 → ActR ι1 s1 a1 → next s1 M1 = some out →
      ∃ ι' w' a', Post B ι1 w1 ι' out.M w' ∧ ActR ι' out.s a' ∧ Arr P (lone (mk b a1 (.inRegion ops rest :: k)) cs w1) b k cs ι' w' a' out.e) :
    ∃ ι' w' a', Post B ι w ι' out.M w' ∧ ActR ι' out.s a' ∧ Arr P (lone (mk b a (.inRegion ops (i :: rest) :: k)) cs w) b k cs ι' w' a' out.e := by
  have hd : b.roundOf = none ∨ ∀ c, o.op ≠ .defer c := by
    cases top with
    | true => exact .inl (htop rfl)
    | false => exact .inr (fun c hc => by
        obtain ⟨d, rfl⟩ := hdf c hc
        simp only [finOp] at h
        cases h)
  have hgo := stepG_op' (P := P) (cs := cs) (w := w) (k := k) (rest := rest) ho hw hd
  have val : ∀ {v : AV} {M1 : AM}, effRes R r M = some (v, M1) → (match Abm.put s o.dst v with | some s' => next s' M1 | none => none) = some out →
      ∃ ι' w' a', Post B ι w ι' out.M w' ∧ ActR ι' out.s a' ∧ Arr P (lone (mk b a (.inRegion ops (i :: rest) :: k)) cs w) b k cs ι' w' a' out.e := by
    intro v M1 he h
    split at h
    · rename_i s' hs'
      obtain ⟨ι1, w1, v', hv, hpo, hst⟩ := eff_ok hRec hR hG he ho hw hd hp (k := k) (cs := cs) (rest := rest)
      obtain ⟨ι', w', a', h1, h2, h3⟩ := hn ι1 w1 _ s' M1 hpo.rel (hG.mono hpo.le) ((hA.mono hpo.le).put hs' hv) h
      exact ⟨ι', w', a', hpo.trans h1, h2, .of_steps hst h3⟩
    · cases h
  cases r with
  | val v M' => exact val rfl h
  | skip M' => exact val rfl h
  | enter f args =>
    simp only [finOp] at h
    split at h
    · cases h
    · rename_i v M' hc
      exact val (by simp [effRes, hc]) h
    · rename_i v M' hc
      cases h
      obtain ⟨args', hr, ha⟩ := hp
      obtain ⟨ι', w', fr, hpo, hfn, hm⟩ := hRec.call _ _ _ _ _ hc ι w args' hR hG ha (mk b a (.inRegion ops (i :: rest) :: k) :: cs)
      obtain ⟨v', hv, hs, hl⟩ := hm
      refine ⟨ι', w', a, hpo, hA.mono hpo.le, v', _, hv, Steps.trans (.one (step_lone_go ?_)) (hs.trans (.one (step_leave_panicked hl)))⟩
      rw [hgo]; simp [stepG.apply, hr, mk]
  | round l args =>
    simp only [finOp] at h
    split at h
    · cases h
    · rename_i v M' hc
      exact val (by simp [effRes, hc]) h
    · rename_i v M' hc
      cases h
      obtain ⟨cl, r, args', hl, ha, hr⟩ := hp
      obtain ⟨f, tmps, asg, body, hy, hm⟩ := hRec.round _ _ _ _ _ hc ι w cl r args' hR hG hl ha
      obtain ⟨ι', w', hpo, v', hv, hs⟩ := hm (mk b a (.inRegion ops (i :: rest) :: k)) cs
      rw [hy] at hr
      refine ⟨ι', w', a, hpo, hA.mono hpo.le, v', _, hv, Steps.trans (.one (step_lone_go ?_)) hs⟩
      rw [hgo]; simp [stepG.apply, hr, mk]
  | defer d =>
    simp only [finOp] at h
    split at h
    · rename_i htt s' hs'
      obtain ⟨d', hr, hdr⟩ := hp
      have hA' : ActR ι ⟨s.n, s.T, d :: s.D⟩ { a with defers := d' :: a.defers } := ⟨hA.1, .cons hdr hA.2⟩
      obtain ⟨ι', w', a', h1, h2, h3⟩ := hn ι w _ s' M hR hG (hA'.put hs' VR.undef) h
      refine ⟨ι', w', a', h1, h2, .of_steps (.one (step_lone_go ?_)) h3⟩
      rw [hgo]
      have hf2 := finish_mk (b := b) (a := { a with defers := d' :: a.defers }) (k := k) ops i rest undef
      rw [ho] at hf2
      simp only [Option.bind_some] at hf2
      rw [← hf2]
      simp [stepG.apply, hr, mk]
    · cases h
  | recover => cases h
  | panic v M' =>
    cases h
    obtain ⟨ι', v', w', hr, hv, hpo⟩ := hp
    refine ⟨ι', w', a, hpo, hA.mono hpo.le, v', .inRegion ops (i :: rest) :: k, hv, .one (step_lone_go ?_)⟩
    rw [hgo]; simp [stepG.apply, hr, Frame.raise, mk]
end
theorem evalOp_defer {E : Env} {ρ : Rho} {M : AM} {c : Call} {r : ARes} (h : evalOp E ρ (.defer c) M = some r) : ∃ d, r = .defer d := by
  simp only [evalOp] at h
  split at h
  · split at h
    · split at h
      · cases h; exact ⟨_, rfl⟩
      · cases h
    · cases h
  · cases h
section
variable {P : Program} {E : Env} (hE : EnvOk P E) (hX : SumsX P E) {B : Bd} {R : Rec} (hRec : RecOk P E B R)
include hE hX hRec
theorem evalOps_ok {ops : Array Oper} {top : Bool} {b : Frame} (htop : top = true → b.roundOf = none) {k : List Item} {cs : List Frame} : ∀ (l : List Oper) (n : Nat), ops.toList.drop n = l →
    ∀ (s : St) (M : AM) (out : Out), evalOps E R top ops l s M = some out → ∀ ι w a, Rel B ι M w → Glob E ι → ActR ι s a →
    ∃ ι' w' a', Post B ι w ι' out.M w' ∧ ActR ι' out.s a' ∧ Arr P (lone (mk b a (.inRegion ops (List.range' n l.length) :: k)) cs w) b k cs ι' w' a' out.e
  | [], n, hl, s, M, out, h, ι, w, a, hR, hG, hA => by
    cases h
    exact ⟨ι, w, a, Post.refl hR, hA, .one mv_region_end⟩
  | o :: l, n, hl, s, M, out, h, ι, w, a, hR, hG, hA => by
    have ho : ops[n]? = some o := by
      have := congrArg (fun l => l[0]?) hl
      simpa using this
    have hl' : ops.toList.drop (n + 1) = l := by rw [← List.drop_drop, hl]; rfl
    simp only [List.length_cons, List.range'_succ]
    unfold evalOps at h
    split at h
    · cases h
    · rename_i hw
      split at h
      · rename_i s' hs'
        have hw' := wanted_ok hA.1 hw
        obtain ⟨ι', w', a', h1, h2, h3⟩ := evalOps_ok htop l (n + 1) hl' s' M out h ι w _ hR hG (hA.put hs' VR.undef)
        refine ⟨ι', w', a', h1, h2, .of_steps (.one (mv_op_skip ?_)) ?_⟩
        · simp [ho, hw']
        · rw [ho]; exact h3
      · cases h
    · rename_i hw
      have hw' := wanted_ok hA.1 hw
      cases he : evalOp E (rho E s.T) o.op M with
      | none => rw [he] at h; cases h
      | some r =>
      rw [he] at h
      have hp := evalOp_ok hE hX hR hG (rho_ok hG hA.1) he
      exact fin_ok hRec hR hG ho hw' hp htop (fun c hc => evalOp_defer (hc ▸ he)) hA h (fun ι1 w1 a1 s1 M1 hR1 hG1 hA1 hn => evalOps_ok htop l (n + 1) hl' s1 M1 out hn ι1 w1 a1 hR1 hG1 hA1)
end
end Go.Abm
