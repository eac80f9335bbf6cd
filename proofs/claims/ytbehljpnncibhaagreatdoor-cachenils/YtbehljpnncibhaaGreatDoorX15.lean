/-
  A part of the proof of YtbehljpnncibhaaGreatDoor: for every input the law answers true (a machine over names of blocks, its soundness, and the run of the law). No condition beyond the given statement's.
-/
import Derived.Test.YtbehljpnncibhaaGreatDoorX14
import Derived.Test.YtbehljpnncibhaaGreatDoorX13
set_option linter.unusedVariables false
set_option linter.unusedSimpArgs false
set_option linter.unusedSectionVars false
open Go Go.Abm
set_option maxRecDepth 100000
namespace Go.Abm.Seat
theorem read_erased {E : Env} (F : Facts E) (hs : E.sums 244 = none) (hs2 : E.sums 191 = none) (hs3 : E.sums 145 = none) (M : AM) (c o n p bb bo bl bc pb po pl pc pg : Nat) (bg pgr : Option Nat) (cl bcl pcl : List AV) (ro fz r1 f1 r2 f2 : Bool) (dt : AV)
    (hm : M.get c = some (.cells cl ro fz)) (hb : cl[o + 4]? = some (.sl bb bo bl bc bg)) (hoff : cl[o + 7]? = some (.bool false)) (hn : n < bl)
    (hpg : cl[o + 0 + 2]? = some (.int .i64 (.ofNat pg))) (hpgl : pg ≤ 65536) (hmb : M.get bb = some (.cells bcl r1 f1)) (hp : bcl[bo + n * 4 + 2]? = some (.sl pb po pl pc pgr)) (hpl : p < pl)
    (hmp : M.get pb = some (.cells pcl r2 f2)) (hst : (pcl.drop (po + p * 2)).take 2 = [.int .i64 (.ofNat 0), dt]) (hone : dt.one = true) (lc : c < M.nx) (lbb : bb < M.nx) (lpb : pb < M.nx) :
    CallsTo E 145 [.ptr c o, .int .i64 (.ofNat n), .int .i64 (.ofNat p)] M fun e M' => e = .ret (.tup [.sl M.nx 0 pg pg none, .int .i64 0]) ∧ M'.nx = M.nx + 2 ∧ (∀ x, x < M.nx → M'.get x = M.get x) ∧ M'.get M.nx = some (.cells (List.replicate pg (.int .u8 255)) false false) := by
  have hne : ∀ {x : Nat}, x < M.nx → x ≠ M.nx := fun h => by omega
  refine call_rule F.f145 rfl hs3 ?_
  repeat first | refine w_seq ?_ | refine w_region ?_ | refine w_val rfl rfl rfl rfl ?_ | refine w_valg rfl rfl rfl rfl ?_ | refine w_nil ?_ | refine k_seq ?_ | refine w_skip ?_ | refine w_block ?_ | refine w_exit ?_ | refine k_exit ?_ | refine b_here ?_ | refine b_normal ?_ | refine w_ret ?_ | refine k_ret ?_ | refine b_ret ?_
  refine w_callr rfl rfl rfl (e_call rfl rfl F.f191 rfl) (ready_ok F hs hs2 M c o n bb bo bl bc bg cl ro fz hm hb hoff hn _ ⟨rfl, rfl⟩) ?_
  repeat first | refine w_seq ?_ | refine w_region ?_ | refine w_val rfl rfl rfl rfl ?_ | refine w_valg rfl rfl rfl rfl ?_ | refine w_nil ?_ | refine k_seq ?_ | refine w_skip ?_ | refine w_block ?_ | refine w_exit ?_ | refine k_exit ?_ | refine b_here ?_ | refine b_normal ?_ | refine w_ret ?_ | refine k_ret ?_ | refine b_ret ?_
  refine w_false rfl ?_
  repeat first | refine w_seq ?_ | refine w_region ?_ | refine w_val rfl rfl rfl rfl ?_ | refine w_valg rfl rfl rfl rfl ?_ | refine w_nil ?_ | refine k_seq ?_ | refine w_skip ?_ | refine w_block ?_ | refine w_exit ?_ | refine k_exit ?_ | refine b_here ?_ | refine b_normal ?_ | refine w_ret ?_ | refine k_ret ?_ | refine b_ret ?_
  refine w_valg rfl rfl rfl (e_fa rfl F.fa149_1) ?_
  refine w_valg rfl rfl rfl (e_load rfl F.u145 rfl hmb hp) ?_
  refine w_valg rfl rfl rfl (e_len_sl rfl rfl rfl rfl F.u145) ?_
  repeat first | refine w_seq ?_ | refine w_region ?_ | refine w_val rfl rfl rfl rfl ?_ | refine w_valg rfl rfl rfl rfl ?_ | refine w_nil ?_ | refine k_seq ?_ | refine w_skip ?_ | refine w_block ?_ | refine w_exit ?_ | refine k_exit ?_ | refine b_here ?_ | refine b_normal ?_ | refine w_ret ?_ | refine k_ret ?_ | refine b_ret ?_
  refine w_false (bool_nilt_f hpl) ?_
  repeat first | refine w_seq ?_ | refine w_region ?_ | refine w_val rfl rfl rfl rfl ?_ | refine w_valg rfl rfl rfl rfl ?_ | refine w_nil ?_ | refine k_seq ?_ | refine w_skip ?_ | refine w_block ?_ | refine w_exit ?_ | refine k_exit ?_ | refine b_here ?_ | refine b_normal ?_ | refine w_ret ?_ | refine k_ret ?_ | refine b_ret ?_
  refine w_val rfl rfl rfl (e_fa rfl F.fa112_0) ?_
  refine w_val rfl rfl rfl (e_fa rfl F.fa58_2) ?_
  refine w_val rfl rfl rfl (e_load rfl F.u3 rfl hm hpg) ?_
  refine w_val rfl rfl rfl (e_makeSlice rfl rfl F.u102 F.el5 (by decide) (Nat.le_refl _) (by omega) (by unfold maxI; omega) rfl) ?_
  have hmb1 : (M.new (.cells (repeatL [AV.int .u8 0] pg) false false)).get bb = some (.cells bcl r1 f1) := by rw [AM.get_new_lt lbb]; exact hmb
  have hmp1 : (M.new (.cells (repeatL [AV.int .u8 0] pg) false false)).get pb = some (.cells pcl r2 f2) := by rw [AM.get_new_lt lpb]; exact hmp
  repeat first | refine w_seq ?_ | refine w_region ?_ | refine w_val rfl rfl rfl rfl ?_ | refine w_valg rfl rfl rfl rfl ?_ | refine w_nil ?_ | refine k_seq ?_ | refine w_skip ?_ | refine w_block ?_ | refine w_exit ?_ | refine k_exit ?_ | refine b_here ?_ | refine b_normal ?_ | refine w_ret ?_ | refine k_ret ?_ | refine b_ret ?_
  refine w_val rfl rfl rfl (e_fa rfl F.fa149_1) ?_
  refine w_val rfl rfl rfl (e_load rfl F.u145 rfl hmb1 hp) ?_
  refine w_val rfl rfl rfl rfl ?_
  refine w_val rfl rfl rfl (e_indexAddr rfl rfl F.u145 F.sz308 hpl) ?_
  refine w_val rfl rfl rfl (e_loadv rfl F.ag308 F.sz308 hmp1 hst) ?_
  refine w_val rfl rfl rfl (e_alloc F.z308) ?_
  refine w_do rfl rfl (e_store rfl rfl F.sz308 AM.get_new_self (Nat.le_refl _) (by simp only [AV.cells, List.all_cons, List.all_nil, hone]; rfl)) ?_
  repeat first | refine w_seq ?_ | refine w_region ?_ | refine w_val rfl rfl rfl rfl ?_ | refine w_valg rfl rfl rfl rfl ?_ | refine w_nil ?_ | refine k_seq ?_ | refine w_skip ?_ | refine w_block ?_ | refine w_exit ?_ | refine k_exit ?_ | refine b_here ?_ | refine b_normal ?_ | refine w_ret ?_ | refine k_ret ?_ | refine b_ret ?_
  refine w_val rfl rfl rfl (e_fa rfl F.fa308_0) ?_
  refine w_val rfl rfl rfl (e_load rfl F.u3 rfl AM.get_set_self rfl) ?_
  repeat first | refine w_seq ?_ | refine w_region ?_ | refine w_val rfl rfl rfl rfl ?_ | refine w_valg rfl rfl rfl rfl ?_ | refine w_nil ?_ | refine k_seq ?_ | refine w_skip ?_ | refine w_block ?_ | refine w_exit ?_ | refine k_exit ?_ | refine b_here ?_ | refine b_normal ?_ | refine w_ret ?_ | refine k_ret ?_ | refine b_ret ?_
  refine w_false rfl ?_
  repeat first | refine w_seq ?_ | refine w_region ?_ | refine w_val rfl rfl rfl rfl ?_ | refine w_valg rfl rfl rfl rfl ?_ | refine w_nil ?_ | refine k_seq ?_ | refine w_skip ?_ | refine w_block ?_ | refine w_exit ?_ | refine k_exit ?_ | refine b_here ?_ | refine b_normal ?_ | refine w_ret ?_ | refine k_ret ?_ | refine b_ret ?_
  refine w_false rfl ?_
  repeat first | refine w_seq ?_ | refine w_region ?_ | refine w_val rfl rfl rfl rfl ?_ | refine w_valg rfl rfl rfl rfl ?_ | refine w_nil ?_ | refine k_seq ?_ | refine w_skip ?_ | refine w_block ?_ | refine w_exit ?_ | refine k_exit ?_ | refine b_here ?_ | refine b_normal ?_ | refine w_ret ?_ | refine k_ret ?_ | refine b_ret ?_
  refine w_val rfl rfl rfl (e_len_sl rfl rfl rfl rfl F.u102) ?_
  repeat first | refine w_seq ?_ | refine w_region ?_ | refine w_val rfl rfl rfl rfl ?_ | refine w_valg rfl rfl rfl rfl ?_ | refine w_nil ?_ | refine k_seq ?_ | refine w_skip ?_ | refine w_block ?_ | refine w_exit ?_ | refine k_exit ?_ | refine b_here ?_ | refine b_normal ?_ | refine w_ret ?_ | refine k_ret ?_ | refine b_ret ?_
  refine w_loop ?_
  refine loop_inv (fun k ρ D M' => D = [] ∧ M'.nx = M.nx + 2 ∧ (∀ x, x < M.nx → M'.get x = M.get x) ∧ ∃ i, k = pg - i ∧ i ≤ pg ∧ ρ 10 = some (.sl M.nx 0 pg pg none) ∧ ρ 50 = some (.int .i64 (.ofNat pg)) ∧ ρ 51 = some (.int .i64 (.ofNat i)) ∧
    M'.get M.nx = some (.cells (List.replicate i (AV.int .u8 255) ++ List.replicate (pg - i) (AV.int .u8 0)) false false)) ?_ pg _ _ _ ⟨rfl, rfl, ?_, 0, rfl, Nat.zero_le _, rfl, rfl, rfl, ?_⟩
  rotate_left
  · intro x hx
    simp only [AM.get_set, AM.get_new, AM.nx_new]
    rw [if_neg (by omega), if_neg (by omega), if_neg (by omega)]
  · simp only [AM.get_set, AM.get_new, AM.nx_new]
    rw [if_neg (by omega), if_neg (by omega), if_pos trivial]
    show some (AObj.cells (repeatL [AV.int .u8 0] pg) false false) = _
    rw [repeatL_one]
    rfl
  rintro k ρ D M' ⟨rfl, hnx, hold, i, rfl, hi, h10, h50, h51, hcur⟩
  repeat first | refine w_seq ?_ | refine w_region ?_ | refine w_val rfl rfl rfl rfl ?_ | refine w_valg rfl rfl rfl rfl ?_ | refine w_nil ?_ | refine k_seq ?_ | refine w_skip ?_ | refine w_block ?_ | refine w_exit ?_ | refine k_exit ?_ | refine b_here ?_ | refine b_normal ?_ | refine w_ret ?_ | refine k_ret ?_ | refine b_ret ?_
  refine w_val rfl rfl rfl (e_lss64 h51 h50) ?_
  repeat first | refine w_seq ?_ | refine w_region ?_ | refine w_val rfl rfl rfl rfl ?_ | refine w_valg rfl rfl rfl rfl ?_ | refine w_nil ?_ | refine k_seq ?_ | refine w_skip ?_ | refine w_block ?_ | refine w_exit ?_ | refine k_exit ?_ | refine b_here ?_ | refine b_normal ?_ | refine w_ret ?_ | refine k_ret ?_ | refine b_ret ?_
  refine w_cond rfl (fun h => ?_) (fun h => ?_)
  case refine_2 =>
    have he : i = pg := by have := of_decide_eq_false h; omega
    subst he
    repeat first | refine w_seq ?_ | refine w_region ?_ | refine w_val rfl rfl rfl rfl ?_ | refine w_valg rfl rfl rfl rfl ?_ | refine w_nil ?_ | refine k_seq ?_ | refine w_skip ?_ | refine w_block ?_ | refine w_exit ?_ | refine k_exit ?_ | refine b_here ?_ | refine b_normal ?_ | refine w_ret ?_ | refine k_ret ?_ | refine b_ret ?_
    refine w_val rfl rfl rfl (e_move h10) ?_
    repeat first | refine w_seq ?_ | refine w_region ?_ | refine w_val rfl rfl rfl rfl ?_ | refine w_valg rfl rfl rfl rfl ?_ | refine w_nil ?_ | refine k_seq ?_ | refine w_skip ?_ | refine w_block ?_ | refine w_exit ?_ | refine k_exit ?_ | refine b_here ?_ | refine b_normal ?_ | refine w_ret ?_ | refine k_ret ?_ | refine b_ret ?_
    refine ⟨_, rfl, rfl, hnx, hold, ?_⟩
    rw [hcur, Nat.sub_self, List.replicate_zero, List.append_nil]
  have hlt : i < pg := of_decide_eq_true h
  repeat first | refine w_seq ?_ | refine w_region ?_ | refine w_val rfl rfl rfl rfl ?_ | refine w_valg rfl rfl rfl rfl ?_ | refine w_nil ?_ | refine k_seq ?_ | refine w_skip ?_ | refine w_block ?_ | refine w_exit ?_ | refine k_exit ?_ | refine b_here ?_ | refine b_normal ?_ | refine w_ret ?_ | refine k_ret ?_ | refine b_ret ?_
  refine w_val rfl rfl rfl (e_move h51) ?_
  repeat first | refine w_seq ?_ | refine w_region ?_ | refine w_val rfl rfl rfl rfl ?_ | refine w_valg rfl rfl rfl rfl ?_ | refine w_nil ?_ | refine k_seq ?_ | refine w_skip ?_ | refine w_block ?_ | refine w_exit ?_ | refine k_exit ?_ | refine b_here ?_ | refine b_normal ?_ | refine w_ret ?_ | refine k_ret ?_ | refine b_ret ?_
  refine w_val rfl rfl rfl (e_move h10) ?_
  repeat first | refine w_seq ?_ | refine w_region ?_ | refine w_val rfl rfl rfl rfl ?_ | refine w_valg rfl rfl rfl rfl ?_ | refine w_nil ?_ | refine k_seq ?_ | refine w_skip ?_ | refine w_block ?_ | refine w_exit ?_ | refine k_exit ?_ | refine b_here ?_ | refine b_normal ?_ | refine w_ret ?_ | refine k_ret ?_ | refine b_ret ?_
  refine w_val rfl rfl rfl (e_indexAddr rfl rfl F.u102 F.sz5 hlt) ?_
  refine w_do rfl rfl (e_store rfl rfl F.sz5 hcur (by simp only [List.length_append, List.length_replicate, AV.cells, List.length_cons, List.length_nil]; omega) rfl) ?_
  repeat first | refine w_seq ?_ | refine w_region ?_ | refine w_val rfl rfl rfl rfl ?_ | refine w_valg rfl rfl rfl rfl ?_ | refine w_nil ?_ | refine k_seq ?_ | refine w_skip ?_ | refine w_block ?_ | refine w_exit ?_ | refine k_exit ?_ | refine b_here ?_ | refine b_normal ?_ | refine w_ret ?_ | refine k_ret ?_ | refine b_ret ?_
  refine w_val rfl rfl rfl (e_add64 (b := 1) h51 rfl (by omega)) ?_
  repeat first | refine w_seq ?_ | refine w_region ?_ | refine w_val rfl rfl rfl rfl ?_ | refine w_valg rfl rfl rfl rfl ?_ | refine w_nil ?_ | refine k_seq ?_ | refine w_skip ?_ | refine w_block ?_ | refine w_exit ?_ | refine k_exit ?_ | refine b_here ?_ | refine b_normal ?_ | refine w_ret ?_ | refine k_ret ?_ | refine b_ret ?_
  refine ⟨pg - (i + 1), by omega, rfl, hnx, fun x hx => ?_, i + 1, rfl, by omega, h10, h50, rfl, ?_⟩
  · rw [AM.get_set_ne (by omega)]; exact hold x hx
  · rw [AM.get_set_self, fill_step rfl hlt]
theorem read_prog {E : Env} (F : Facts E) (hs : E.sums 244 = none) (hs2 : E.sums 191 = none) (hs3 : E.sums 145 = none) (M : AM) (c o n p bb bo bl bc pb po pl pc pg db dof dl dc : Nat) (bg pgr dg : Option Nat) (cl bcl pcl dcl : List AV) (ro fz r1 f1 r2 f2 r3 f3 : Bool)
    (hm : M.get c = some (.cells cl ro fz)) (hb : cl[o + 4]? = some (.sl bb bo bl bc bg)) (hoff : cl[o + 7]? = some (.bool false)) (hn : n < bl)
    (hpg : cl[o + 0 + 2]? = some (.int .i64 (.ofNat pg))) (hpgl : pg ≤ 65536) (hmb : M.get bb = some (.cells bcl r1 f1)) (hp : bcl[bo + n * 4 + 2]? = some (.sl pb po pl pc pgr)) (hpl : p < pl)
    (hmp : M.get pb = some (.cells pcl r2 f2)) (hst : (pcl.drop (po + p * 2)).take 2 = [.int .i64 (.ofNat 1), .sl db dof dl dc dg]) (hmd : M.get db = some (.cells dcl r3 f3)) (hdl : dl ≤ pg) (hdc : dl ≤ dc) (hdd : dof + dl ≤ dcl.length) (hdo : ((dcl.drop dof).take dl).all AV.one = true)
    (lc : c < M.nx) (lbb : bb < M.nx) (lpb : pb < M.nx) (ldb : db < M.nx) :
    CallsTo E 145 [.ptr c o, .int .i64 (.ofNat n), .int .i64 (.ofNat p)] M fun e M' => e = .ret (.tup [.sl M.nx 0 pg pg none, .int .i64 0]) ∧ M'.nx = M.nx + 2 ∧ (∀ x, x < M.nx → M'.get x = M.get x) ∧
      M'.get M.nx = some (.cells ((dcl.drop dof).take dl ++ List.replicate (pg - dl) (.int .u8 255)) false false) := by
  have hone : (AV.sl db dof dl dc dg).one = true := rfl
  have hne : ∀ {x : Nat}, x < M.nx → x ≠ M.nx := fun h => by omega
  refine call_rule F.f145 rfl hs3 ?_
  repeat first | refine w_seq ?_ | refine w_region ?_ | refine w_val rfl rfl rfl rfl ?_ | refine w_valg rfl rfl rfl rfl ?_ | refine w_nil ?_ | refine k_seq ?_ | refine w_skip ?_ | refine w_block ?_ | refine w_exit ?_ | refine k_exit ?_ | refine b_here ?_ | refine b_normal ?_ | refine w_ret ?_ | refine k_ret ?_ | refine b_ret ?_
  refine w_callr rfl rfl rfl (e_call rfl rfl F.f191 rfl) (ready_ok F hs hs2 M c o n bb bo bl bc bg cl ro fz hm hb hoff hn _ ⟨rfl, rfl⟩) ?_
  repeat first | refine w_seq ?_ | refine w_region ?_ | refine w_val rfl rfl rfl rfl ?_ | refine w_valg rfl rfl rfl rfl ?_ | refine w_nil ?_ | refine k_seq ?_ | refine w_skip ?_ | refine w_block ?_ | refine w_exit ?_ | refine k_exit ?_ | refine b_here ?_ | refine b_normal ?_ | refine w_ret ?_ | refine k_ret ?_ | refine b_ret ?_
  refine w_false rfl ?_
  repeat first | refine w_seq ?_ | refine w_region ?_ | refine w_val rfl rfl rfl rfl ?_ | refine w_valg rfl rfl rfl rfl ?_ | refine w_nil ?_ | refine k_seq ?_ | refine w_skip ?_ | refine w_block ?_ | refine w_exit ?_ | refine k_exit ?_ | refine b_here ?_ | refine b_normal ?_ | refine w_ret ?_ | refine k_ret ?_ | refine b_ret ?_
  refine w_valg rfl rfl rfl (e_fa rfl F.fa149_1) ?_
  refine w_valg rfl rfl rfl (e_load rfl F.u145 rfl hmb hp) ?_
  refine w_valg rfl rfl rfl (e_len_sl rfl rfl rfl rfl F.u145) ?_
  repeat first | refine w_seq ?_ | refine w_region ?_ | refine w_val rfl rfl rfl rfl ?_ | refine w_valg rfl rfl rfl rfl ?_ | refine w_nil ?_ | refine k_seq ?_ | refine w_skip ?_ | refine w_block ?_ | refine w_exit ?_ | refine k_exit ?_ | refine b_here ?_ | refine b_normal ?_ | refine w_ret ?_ | refine k_ret ?_ | refine b_ret ?_
  refine w_false (bool_nilt_f hpl) ?_
  repeat first | refine w_seq ?_ | refine w_region ?_ | refine w_val rfl rfl rfl rfl ?_ | refine w_valg rfl rfl rfl rfl ?_ | refine w_nil ?_ | refine k_seq ?_ | refine w_skip ?_ | refine w_block ?_ | refine w_exit ?_ | refine k_exit ?_ | refine b_here ?_ | refine b_normal ?_ | refine w_ret ?_ | refine k_ret ?_ | refine b_ret ?_
  refine w_val rfl rfl rfl (e_fa rfl F.fa112_0) ?_
  refine w_val rfl rfl rfl (e_fa rfl F.fa58_2) ?_
  refine w_val rfl rfl rfl (e_load rfl F.u3 rfl hm hpg) ?_
  refine w_val rfl rfl rfl (e_makeSlice rfl rfl F.u102 F.el5 (by decide) (Nat.le_refl _) (by omega) (by unfold maxI; omega) rfl) ?_
  have hmb1 : (M.new (.cells (repeatL [AV.int .u8 0] pg) false false)).get bb = some (.cells bcl r1 f1) := by rw [AM.get_new_lt lbb]; exact hmb
  have hmp1 : (M.new (.cells (repeatL [AV.int .u8 0] pg) false false)).get pb = some (.cells pcl r2 f2) := by rw [AM.get_new_lt lpb]; exact hmp
  repeat first | refine w_seq ?_ | refine w_region ?_ | refine w_val rfl rfl rfl rfl ?_ | refine w_valg rfl rfl rfl rfl ?_ | refine w_nil ?_ | refine k_seq ?_ | refine w_skip ?_ | refine w_block ?_ | refine w_exit ?_ | refine k_exit ?_ | refine b_here ?_ | refine b_normal ?_ | refine w_ret ?_ | refine k_ret ?_ | refine b_ret ?_
  refine w_val rfl rfl rfl (e_fa rfl F.fa149_1) ?_
  refine w_val rfl rfl rfl (e_load rfl F.u145 rfl hmb1 hp) ?_
  refine w_val rfl rfl rfl rfl ?_
  refine w_val rfl rfl rfl (e_indexAddr rfl rfl F.u145 F.sz308 hpl) ?_
  refine w_val rfl rfl rfl (e_loadv rfl F.ag308 F.sz308 hmp1 hst) ?_
  refine w_val rfl rfl rfl (e_alloc F.z308) ?_
  refine w_do rfl rfl (e_store rfl rfl F.sz308 AM.get_new_self (Nat.le_refl _) (by simp only [AV.cells, List.all_cons, List.all_nil, hone]; rfl)) ?_
  repeat first | refine w_seq ?_ | refine w_region ?_ | refine w_val rfl rfl rfl rfl ?_ | refine w_valg rfl rfl rfl rfl ?_ | refine w_nil ?_ | refine k_seq ?_ | refine w_skip ?_ | refine w_block ?_ | refine w_exit ?_ | refine k_exit ?_ | refine b_here ?_ | refine b_normal ?_ | refine w_ret ?_ | refine k_ret ?_ | refine b_ret ?_
  refine w_val rfl rfl rfl (e_fa rfl F.fa308_0) ?_
  refine w_val rfl rfl rfl (e_load rfl F.u3 rfl AM.get_set_self rfl) ?_
  repeat first | refine w_seq ?_ | refine w_region ?_ | refine w_val rfl rfl rfl rfl ?_ | refine w_valg rfl rfl rfl rfl ?_ | refine w_nil ?_ | refine k_seq ?_ | refine w_skip ?_ | refine w_block ?_ | refine w_exit ?_ | refine k_exit ?_ | refine b_here ?_ | refine b_normal ?_ | refine w_ret ?_ | refine k_ret ?_ | refine b_ret ?_
  refine w_false rfl ?_
  repeat first | refine w_seq ?_ | refine w_region ?_ | refine w_val rfl rfl rfl rfl ?_ | refine w_valg rfl rfl rfl rfl ?_ | refine w_nil ?_ | refine k_seq ?_ | refine w_skip ?_ | refine w_block ?_ | refine w_exit ?_ | refine k_exit ?_ | refine b_here ?_ | refine b_normal ?_ | refine w_ret ?_ | refine k_ret ?_ | refine b_ret ?_
  refine w_true rfl ?_
  repeat first | refine w_seq ?_ | refine w_region ?_ | refine w_val rfl rfl rfl rfl ?_ | refine w_valg rfl rfl rfl rfl ?_ | refine w_nil ?_ | refine k_seq ?_ | refine w_skip ?_ | refine w_block ?_ | refine w_exit ?_ | refine k_exit ?_ | refine b_here ?_ | refine b_normal ?_ | refine w_ret ?_ | refine k_ret ?_ | refine b_ret ?_
  refine w_val rfl rfl rfl (e_fa rfl F.fa308_1) ?_
  refine w_val rfl rfl rfl (e_load rfl F.u102 rfl AM.get_set_self rfl) ?_
  generalize hM2 : ((M.new (.cells (repeatL (AV.int .u8 0).cells pg) false false)).new (.cells (AV.agg [AV.int .i64 0, AV.nils]).cells false false)).set (M.new (.cells (repeatL (AV.int .u8 0).cells pg) false false)).nx (some (.cells (spliceL (AV.agg [AV.int .i64 0, AV.nils]).cells 0 (AV.agg [AV.int .i64 (.ofNat 1), .sl db dof dl dc dg]).cells) false false)) = M2
  have hold2 : ∀ x, x < M.nx → M2.get x = M.get x := by
    intro x hx
    rw [← hM2]
    simp only [AM.get_set, AM.get_new, AM.nx_new]
    rw [if_neg (by omega), if_neg (by omega), if_neg (by omega)]
  have hcur2 : M2.get M.nx = some (.cells (List.replicate pg (AV.int .u8 0)) false false) := by
    rw [← hM2]
    simp only [AM.get_set, AM.get_new, AM.nx_new]
    rw [if_neg (by omega), if_neg (by omega), if_pos trivial]
    show some (AObj.cells (repeatL [AV.int .u8 0] pg) false false) = _
    rw [repeatL_one]
  have hx2 : M2.get (M.nx + 1) = some (.cells [.int .i64 (.ofNat 1), .sl db dof dl dc dg] false false) := by
    rw [← hM2]; exact AM.get_set_self
  have hnx2 : M2.nx = M.nx + 2 := by rw [← hM2]; rfl
  clear hM2
  have hlen : ((dcl.drop dof).take dl).length = dl := by rw [List.length_take, List.length_drop]; omega
  refine w_valx rfl rfl rfl (e_copyx rfl rfl rfl rfl rfl F.u102 F.sz5 hdl hdc (by rw [hold2 db ldb]; exact hmd) hdd hcur2 (by simpa using hdl) hdo) ?_
  rintro v M3 ⟨rfl, hnx3, hold3, hcur3⟩
  rw [spliceL_zero, hlen, List.drop_replicate] at hcur3
  have hx3 : M3.get (M.nx + 1) = _ := (hold3 _ (by omega)).trans hx2
  have hold4 : ∀ x, x < M.nx → M3.get x = M.get x := fun x hx => (hold3 x (by omega)).trans (hold2 x hx)
  repeat first | refine w_seq ?_ | refine w_region ?_ | refine w_val rfl rfl rfl rfl ?_ | refine w_valg rfl rfl rfl rfl ?_ | refine w_nil ?_ | refine k_seq ?_ | refine w_skip ?_ | refine w_block ?_ | refine w_exit ?_ | refine k_exit ?_ | refine b_here ?_ | refine b_normal ?_ | refine w_ret ?_ | refine k_ret ?_ | refine b_ret ?_
  refine w_val rfl rfl rfl (e_fa rfl F.fa308_1) ?_
  refine w_val rfl rfl rfl (e_load rfl F.u102 rfl hx3 rfl) ?_
  refine w_val rfl rfl rfl (e_len_sl rfl rfl rfl rfl F.u102) ?_
  repeat first | refine w_seq ?_ | refine w_region ?_ | refine w_val rfl rfl rfl rfl ?_ | refine w_valg rfl rfl rfl rfl ?_ | refine w_nil ?_ | refine k_seq ?_ | refine w_skip ?_ | refine w_block ?_ | refine w_exit ?_ | refine k_exit ?_ | refine b_here ?_ | refine b_normal ?_ | refine w_ret ?_ | refine k_ret ?_ | refine b_ret ?_
  refine w_loop ?_
  refine loop_inv (fun k ρ D M' => D = [] ∧ M'.nx = M.nx + 2 ∧ (∀ x, x < M.nx → M'.get x = M.get x) ∧ ∃ i, k = pg - (dl + i) ∧ dl + i ≤ pg ∧ ρ 10 = some (.sl M.nx 0 pg pg none) ∧ ρ 12 = some (.int .i64 (.ofNat (dl + i))) ∧
    M'.get M.nx = some (.cells ((dcl.drop dof).take dl ++ (List.replicate i (AV.int .u8 255) ++ List.replicate (pg - dl - i) (AV.int .u8 0))) false false)) ?_ (pg - dl) _ _ _ ⟨rfl, hnx3.trans hnx2, hold4, 0, rfl, hdl, rfl, rfl, ?_⟩
  rotate_left
  · exact hcur3
  clear hcur3 hcur2 hx3 hold4 hold3 hold2 hx2 hmb1 hmp1
  rintro k ρ D M' ⟨rfl, hnx, hold, i, rfl, hi, h10, h12, hcur⟩
  repeat first | refine w_seq ?_ | refine w_region ?_ | refine w_val rfl rfl rfl rfl ?_ | refine w_valg rfl rfl rfl rfl ?_ | refine w_nil ?_ | refine k_seq ?_ | refine w_skip ?_ | refine w_block ?_ | refine w_exit ?_ | refine k_exit ?_ | refine b_here ?_ | refine b_normal ?_ | refine w_ret ?_ | refine k_ret ?_ | refine b_ret ?_
  refine w_val rfl rfl rfl (e_move h12) ?_
  refine w_val rfl rfl rfl (e_move h10) ?_
  refine w_val rfl rfl rfl (e_len_sl rfl rfl rfl rfl F.u102) ?_
  refine w_val rfl rfl rfl (e_lss64 rfl rfl) ?_
  repeat first | refine w_seq ?_ | refine w_region ?_ | refine w_val rfl rfl rfl rfl ?_ | refine w_valg rfl rfl rfl rfl ?_ | refine w_nil ?_ | refine k_seq ?_ | refine w_skip ?_ | refine w_block ?_ | refine w_exit ?_ | refine k_exit ?_ | refine b_here ?_ | refine b_normal ?_ | refine w_ret ?_ | refine k_ret ?_ | refine b_ret ?_
  refine w_cond rfl (fun h => ?_) (fun h => ?_)
  case refine_2 =>
    have he : dl + i = pg := by have := of_decide_eq_false h; omega
    repeat first | refine w_seq ?_ | refine w_region ?_ | refine w_val rfl rfl rfl rfl ?_ | refine w_valg rfl rfl rfl rfl ?_ | refine w_nil ?_ | refine k_seq ?_ | refine w_skip ?_ | refine w_block ?_ | refine w_exit ?_ | refine k_exit ?_ | refine b_here ?_ | refine b_normal ?_ | refine w_ret ?_ | refine k_ret ?_ | refine b_ret ?_
    refine w_val rfl rfl rfl (e_move h10) ?_
    repeat first | refine w_seq ?_ | refine w_region ?_ | refine w_val rfl rfl rfl rfl ?_ | refine w_valg rfl rfl rfl rfl ?_ | refine w_nil ?_ | refine k_seq ?_ | refine w_skip ?_ | refine w_block ?_ | refine w_exit ?_ | refine k_exit ?_ | refine b_here ?_ | refine b_normal ?_ | refine w_ret ?_ | refine k_ret ?_ | refine b_ret ?_
    refine ⟨_, rfl, rfl, hnx, hold, ?_⟩
    rw [hcur, show pg - dl - i = 0 by omega, show pg - dl = i by omega, List.replicate_zero, List.append_nil]
  have hlt : dl + i < pg := of_decide_eq_true h
  repeat first | refine w_seq ?_ | refine w_region ?_ | refine w_val rfl rfl rfl rfl ?_ | refine w_valg rfl rfl rfl rfl ?_ | refine w_nil ?_ | refine k_seq ?_ | refine w_skip ?_ | refine w_block ?_ | refine w_exit ?_ | refine k_exit ?_ | refine b_here ?_ | refine b_normal ?_ | refine w_ret ?_ | refine k_ret ?_ | refine b_ret ?_
  refine w_val rfl rfl rfl (e_move h10) ?_
  refine w_val rfl rfl rfl (e_move h12) ?_
  refine w_val rfl rfl rfl (e_indexAddr rfl rfl F.u102 F.sz5 hlt) ?_
  refine w_do rfl rfl (e_store rfl rfl F.sz5 hcur (by simp only [List.length_append, List.length_replicate, AV.cells, List.length_cons, List.length_nil, hlen]; omega) rfl) ?_
  repeat first | refine w_seq ?_ | refine w_region ?_ | refine w_val rfl rfl rfl rfl ?_ | refine w_valg rfl rfl rfl rfl ?_ | refine w_nil ?_ | refine k_seq ?_ | refine w_skip ?_ | refine w_block ?_ | refine w_exit ?_ | refine k_exit ?_ | refine b_here ?_ | refine b_normal ?_ | refine w_ret ?_ | refine k_ret ?_ | refine b_ret ?_
  refine w_val rfl rfl rfl (e_move h12) ?_
  refine w_val rfl rfl rfl (e_add64 (b := 1) rfl rfl (by omega)) ?_
  repeat first | refine w_seq ?_ | refine w_region ?_ | refine w_val rfl rfl rfl rfl ?_ | refine w_valg rfl rfl rfl rfl ?_ | refine w_nil ?_ | refine k_seq ?_ | refine w_skip ?_ | refine w_block ?_ | refine w_exit ?_ | refine k_exit ?_ | refine b_here ?_ | refine b_normal ?_ | refine w_ret ?_ | refine k_ret ?_ | refine b_ret ?_
  refine ⟨pg - (dl + (i + 1)), by omega, rfl, hnx, fun x hx => ?_, i + 1, rfl, by omega, h10, rfl, ?_⟩
  · rw [AM.get_set_ne (by omega)]; exact hold x hx
  · rw [AM.get_set_self, fill_step2 _ hlen rfl (by omega)]
end Go.Abm.Seat

open Go Go.Abm
set_option maxRecDepth 100000
namespace Go.Abm.Seat
theorem fill_ok {E : Env} (F : Facts E) (hs : E.sums 136 = none) (M : AM) (b off len cap n : Nat) (gr : Option Nat) (l : List AV) (ro fz : Bool) (hm : M.get b = some (.cells l ro fz)) (lb : b < M.nx)
    (hc : min n len ≤ cap) (hl : off + min n len ≤ l.length) (hn : n ≤ 65536) (hg : gr = none ∨ gr = some 1) (hone : ((l.drop off).take (min n len)).all AV.one = true) :
    CallsTo E 136 [.sl b off len cap gr, .int .i64 (.ofNat n)] M fun e M' => ∃ K g, e = .ret (.sl K 0 n n g) ∧ (n = 0 ∧ g = none ∧ K = M.nx ∧ M'.nx = M.nx + 1 ∨ 0 < n ∧ g = some 1 ∧ M'.nx = K + 1 ∧ M'.nx = M.nx + 1 + (if min n len = 0 then 0 else 1) + 2 * (n - min n len)) ∧
      (∀ x, x < M.nx → M'.get x = M.get x) ∧ M'.get K = some (.cells ((l.drop off).take (min n len) ++ List.replicate (n - min n len) (.int .u8 255)) false false) := by
  have hdl : ((l.drop off).take (min n len)).length = min n len := by rw [List.length_take, List.length_drop]; omega
  refine call_rule F.f136 rfl hs ?_
  repeat first | refine w_seq ?_ | refine w_region ?_ | refine w_val rfl rfl rfl rfl ?_ | refine w_valg rfl rfl rfl rfl ?_ | refine w_nil ?_ | refine k_seq ?_ | refine w_skip ?_ | refine w_block ?_ | refine w_exit ?_ | refine k_exit ?_ | refine b_here ?_ | refine b_normal ?_ | refine w_ret ?_ | refine k_ret ?_ | refine b_ret ?_
  refine w_false (show some (AV.bool (iltF (.ofNat n) (.ofNat 0))) = _ from bool_ilt_f (Nat.zero_le _)) ?_
  repeat first | refine w_seq ?_ | refine w_region ?_ | refine w_val rfl rfl rfl rfl ?_ | refine w_valg rfl rfl rfl rfl ?_ | refine w_nil ?_ | refine k_seq ?_ | refine w_skip ?_ | refine w_block ?_ | refine w_exit ?_ | refine k_exit ?_ | refine b_here ?_ | refine b_normal ?_ | refine w_ret ?_ | refine k_ret ?_ | refine b_ret ?_
  refine w_val rfl rfl rfl (e_buildSlice (l := []) rfl F.u102 F.el5 (by decide) (by decide) rfl rfl) ?_
  repeat first | refine w_seq ?_ | refine w_region ?_ | refine w_val rfl rfl rfl rfl ?_ | refine w_valg rfl rfl rfl rfl ?_ | refine w_nil ?_ | refine k_seq ?_ | refine w_skip ?_ | refine w_block ?_ | refine w_exit ?_ | refine k_exit ?_ | refine b_here ?_ | refine b_normal ?_ | refine w_ret ?_ | refine k_ret ?_ | refine b_ret ?_
  refine w_val rfl rfl rfl (e_len_sl rfl rfl rfl rfl F.u102) ?_
  refine w_val rfl rfl rfl (e_min2 rfl rfl rfl rfl) ?_
  refine w_val rfl rfl rfl (e_slice_hi rfl rfl F.u102 F.sz5 hc hg) ?_
  have hm1 : (M.new (.cells [] false false)).get b = some (.cells l ro fz) := by rw [AM.get_new_lt lb]; exact hm
  generalize hmn : min n len = m at *
  have hmn' : m ≤ n := by rw [← hmn]; exact Nat.min_le_left _ _
  have hf1 : afirst (M.new (.cells [] false false)) 1 m (.sl b off m cap gr) = some ((l.drop off).take m) := by
    rcases Nat.eq_zero_or_pos m with h0 | h0
    · subst h0; simp [afirst]
    · simp only [afirst, nbeq_false (show m ≠ 0 by omega), ble_t hc, AM.cells, hm1, Nat.mul_one, ble_t hl, cond_true, cond_false]
  refine w_valx rfl rfl rfl (e_append_any (v := .sl b off m cap gr) (len := 0) (cs := []) (k := m) rfl rfl rfl rfl rfl F.u102 F.u102 F.el5 AM.get_new_self rfl (Or.inl ⟨rfl, rfl⟩) rfl hf1 hone hdl (by omega) (by unfold maxI; omega)) ?_
  intro v M1 hv
  have hv' : ∃ K g, v = .sl K 0 m m g ∧ (m = 0 ∧ g = none ∧ K = M.nx ∧ M1.nx = M.nx + 1 ∨ 0 < m ∧ g = some 1 ∧ M1.nx = K + 1 ∧ M1.nx = M.nx + 2) ∧ (∀ x, x < M.nx → M1.get x = M.get x) ∧ M1.get K = some (.cells ((l.drop off).take m) false false) := by
    rcases hv with ⟨h0, rfl, rfl⟩ | ⟨h0, rfl, h3, h4, h5⟩
    · subst h0
      refine ⟨_, _, rfl, Or.inl ⟨rfl, rfl, rfl, rfl⟩, fun x hx => AM.get_new_lt hx, ?_⟩
      rw [AM.get_new_self, List.take_zero]; rfl
    · refine ⟨M.nx + 1, some 1, by simp [AM.nx_new], Or.inr ⟨h0, rfl, h3, h3⟩, fun x hx => ?_, by simpa [AM.nx_new] using h5⟩
      rw [h4 x (by omega) (by rw [AM.nx_new]; omega), AM.get_new_lt hx]
  clear hv
  generalize (l.drop off).take m = d0 at *
  clear hf1 hone hm hc hl hg
  obtain ⟨K, g, rfl, hK, hold, hcur⟩ := hv'
  repeat first | refine w_seq ?_ | refine w_region ?_ | refine w_val rfl rfl rfl rfl ?_ | refine w_valg rfl rfl rfl rfl ?_ | refine w_nil ?_ | refine k_seq ?_ | refine w_skip ?_ | refine w_block ?_ | refine w_exit ?_ | refine k_exit ?_ | refine b_here ?_ | refine b_normal ?_ | refine w_ret ?_ | refine k_ret ?_ | refine b_ret ?_
  refine w_loop ?_
  refine loop_inv (fun k ρ D M' => D = [] ∧ ∃ i K g, k = n - m - i ∧ m + i ≤ n ∧ ρ 1 = some (.int .i64 (.ofNat n)) ∧ ρ 5 = some (.sl K 0 (m + i) (m + i) g) ∧
      (m + i = 0 ∧ g = none ∧ K = M.nx ∧ M'.nx = M.nx + 1 ∨ 0 < m + i ∧ g = some 1 ∧ M'.nx = K + 1 ∧ M'.nx = M.nx + 1 + (if m = 0 then 0 else 1) + 2 * i) ∧ (∀ x, x < M.nx → M'.get x = M.get x) ∧
      M'.get K = some (.cells (d0 ++ List.replicate i (.int .u8 255)) false false)) ?_ (n - m) _ _ _ ⟨rfl, 0, K, g, rfl, hmn', rfl, rfl, ?_, hold, ?_⟩
  rotate_left
  · rcases hK with ⟨h1, h2, h3, h4⟩ | ⟨h1, h2, h3, h4⟩
    · exact Or.inl ⟨by omega, h2, h3, h4⟩
    · refine Or.inr ⟨by omega, h2, h3, ?_⟩
      rw [if_neg (by omega)]; omega
  · simpa using hcur
  clear hcur hold hK K g M1 hm1
  rintro k ρ D M' ⟨rfl, i, K, g, rfl, hi, h1, h5, hK, hold, hcur⟩
  repeat first | refine w_seq ?_ | refine w_region ?_ | refine w_val rfl rfl rfl rfl ?_ | refine w_valg rfl rfl rfl rfl ?_ | refine w_nil ?_ | refine k_seq ?_ | refine w_skip ?_ | refine w_block ?_ | refine w_exit ?_ | refine k_exit ?_ | refine b_here ?_ | refine b_normal ?_ | refine w_ret ?_ | refine k_ret ?_ | refine b_ret ?_
  refine w_val rfl rfl rfl (e_move h5) ?_
  refine w_val rfl rfl rfl (e_len_sl rfl rfl rfl rfl F.u102) ?_
  refine w_val rfl rfl rfl (e_move h1) ?_
  refine w_val rfl rfl rfl (e_lss64 rfl rfl) ?_
  repeat first | refine w_seq ?_ | refine w_region ?_ | refine w_val rfl rfl rfl rfl ?_ | refine w_valg rfl rfl rfl rfl ?_ | refine w_nil ?_ | refine k_seq ?_ | refine w_skip ?_ | refine w_block ?_ | refine w_exit ?_ | refine k_exit ?_ | refine b_here ?_ | refine b_normal ?_ | refine w_ret ?_ | refine k_ret ?_ | refine b_ret ?_
  refine w_cond rfl (fun h => ?_) (fun h => ?_)
  case refine_2 =>
    have he : m + i = n := by have := of_decide_eq_false h; omega
    repeat first | refine w_seq ?_ | refine w_region ?_ | refine w_val rfl rfl rfl rfl ?_ | refine w_valg rfl rfl rfl rfl ?_ | refine w_nil ?_ | refine k_seq ?_ | refine w_skip ?_ | refine w_block ?_ | refine w_exit ?_ | refine k_exit ?_ | refine b_here ?_ | refine b_normal ?_ | refine w_ret ?_ | refine k_ret ?_ | refine b_ret ?_
    refine w_val rfl rfl rfl (e_move h5) ?_
    repeat first | refine w_seq ?_ | refine w_region ?_ | refine w_val rfl rfl rfl rfl ?_ | refine w_valg rfl rfl rfl rfl ?_ | refine w_nil ?_ | refine k_seq ?_ | refine w_skip ?_ | refine w_block ?_ | refine w_exit ?_ | refine k_exit ?_ | refine b_here ?_ | refine b_normal ?_ | refine w_ret ?_ | refine k_ret ?_ | refine b_ret ?_
    refine ⟨_, rfl, K, g, by rw [← he]; rfl, ?_, hold, ?_⟩
    · rcases hK with ⟨h1, h2, h3, h4⟩ | ⟨h1, h2, h3, h4⟩
      · exact Or.inl ⟨by omega, h2, h3, h4⟩
      · exact Or.inr ⟨by omega, h2, h3, by rw [h4]; congr 2; omega⟩
    · rw [hcur]; congr 4; omega
  have hlt : m + i < n := of_decide_eq_true h
  repeat first | refine w_seq ?_ | refine w_region ?_ | refine w_val rfl rfl rfl rfl ?_ | refine w_valg rfl rfl rfl rfl ?_ | refine w_nil ?_ | refine k_seq ?_ | refine w_skip ?_ | refine w_block ?_ | refine w_exit ?_ | refine k_exit ?_ | refine b_here ?_ | refine b_normal ?_ | refine w_ret ?_ | refine k_ret ?_ | refine b_ret ?_
  refine w_val rfl rfl rfl (e_move h5) ?_
  refine w_val rfl rfl rfl (e_buildSlice (l := [(0, .int .u8 255)]) rfl F.u102 F.el5 (by decide) (by decide) rfl rfl) ?_
  have hKn : K < M'.nx := by rcases hK with ⟨_, _, h3, h4⟩ | ⟨_, _, h3, h4⟩ <;> omega
  have hMn : M.nx ≤ K := by
    rcases hK with ⟨_, _, h3, h4⟩ | ⟨_, _, h3, h4⟩
    · omega
    · split at h4 <;> omega
  refine w_valx rfl rfl rfl (e_appendx (new := [.int .u8 255]) (k := 1) rfl rfl rfl rfl rfl F.u102 F.u102 F.el5 (by rw [AM.get_new_lt hKn]; exact hcur) (by rw [List.length_append, hdl, List.length_replicate])
    (by rcases hK with ⟨_, h2, _⟩ | ⟨_, h2, _⟩; exact Or.inl ⟨h2, rfl⟩; exact Or.inr h2) rfl ?_ rfl rfl (Nat.le_refl _) (by omega) (by unfold maxI; omega)) ?_
  · have hcell : (M'.new (.cells [AV.int .u8 255] false false)).cells M'.nx = some [AV.int .u8 255] := by simp only [AM.cells, AM.get_new_self]
    show afirst (M'.new (.cells [AV.int .u8 255] false false)) 1 1 (.sl M'.nx 0 1 1 none) = _
    simp only [afirst, hcell]; rfl
  rintro v M2 ⟨rfl, hnx, hold2, hcur2⟩
  repeat first | refine w_seq ?_ | refine w_region ?_ | refine w_val rfl rfl rfl rfl ?_ | refine w_valg rfl rfl rfl rfl ?_ | refine w_nil ?_ | refine k_seq ?_ | refine w_skip ?_ | refine w_block ?_ | refine w_exit ?_ | refine k_exit ?_ | refine b_here ?_ | refine b_normal ?_ | refine w_ret ?_ | refine k_ret ?_ | refine b_ret ?_
  refine ⟨n - m - (i + 1), by omega, rfl, i + 1, _, _, rfl, by omega, h1, rfl, Or.inr ⟨by omega, rfl, hnx, ?_⟩, fun x hx => ?_, ?_⟩
  · rw [hnx, AM.nx_new]
    rcases hK with ⟨h1, h2, h3, h4⟩ | ⟨h1, h2, h3, h4⟩
    · rw [h4, if_pos (by omega)]; omega
    · rw [h4]; omega
  · rw [hold2 x (by omega) (by rw [AM.nx_new]; omega), AM.get_new_lt (by omega)]; exact hold x hx
  · rw [hcur2, List.append_assoc, List.replicate_succ']
theorem fill_nil {E : Env} (F : Facts E) (hs : E.sums 136 = none) (M : AM) (n : Nat) (hn : n ≤ 65536) :
    CallsTo E 136 [.nils, .int .i64 (.ofNat n)] M fun e M' => ∃ K g, e = .ret (.sl K 0 n n g) ∧ (n = 0 ∧ g = none ∧ K = M.nx ∧ M'.nx = M.nx + 1 ∨ 0 < n ∧ g = some 1 ∧ M'.nx = K + 1 ∧ M'.nx = M.nx + 1 + (if 0 = 0 then 0 else 1) + 2 * (n - 0)) ∧
      (∀ x, x < M.nx → M'.get x = M.get x) ∧ M'.get K = some (.cells ([] ++ List.replicate (n - 0) (.int .u8 255)) false false) := by
  refine call_rule F.f136 rfl hs ?_
  repeat first | refine w_seq ?_ | refine w_region ?_ | refine w_val rfl rfl rfl rfl ?_ | refine w_valg rfl rfl rfl rfl ?_ | refine w_nil ?_ | refine k_seq ?_ | refine w_skip ?_ | refine w_block ?_ | refine w_exit ?_ | refine k_exit ?_ | refine b_here ?_ | refine b_normal ?_ | refine w_ret ?_ | refine k_ret ?_ | refine b_ret ?_
  refine w_false (show some (AV.bool (iltF (.ofNat n) (.ofNat 0))) = _ from bool_ilt_f (Nat.zero_le _)) ?_
  repeat first | refine w_seq ?_ | refine w_region ?_ | refine w_val rfl rfl rfl rfl ?_ | refine w_valg rfl rfl rfl rfl ?_ | refine w_nil ?_ | refine k_seq ?_ | refine w_skip ?_ | refine w_block ?_ | refine w_exit ?_ | refine k_exit ?_ | refine b_here ?_ | refine b_normal ?_ | refine w_ret ?_ | refine k_ret ?_ | refine b_ret ?_
  refine w_val rfl rfl rfl (e_buildSlice (l := []) rfl F.u102 F.el5 (by decide) (by decide) rfl rfl) ?_
  repeat first | refine w_seq ?_ | refine w_region ?_ | refine w_val rfl rfl rfl rfl ?_ | refine w_valg rfl rfl rfl rfl ?_ | refine w_nil ?_ | refine k_seq ?_ | refine w_skip ?_ | refine w_block ?_ | refine w_exit ?_ | refine k_exit ?_ | refine b_here ?_ | refine b_normal ?_ | refine w_ret ?_ | refine k_ret ?_ | refine b_ret ?_
  refine w_val rfl rfl rfl (e_len_nils rfl rfl rfl rfl F.u102) ?_
  refine w_val rfl rfl rfl (e_min2 rfl rfl rfl rfl) ?_
  rw [Nat.min_zero]
  refine w_val rfl rfl rfl (e_slice_nils rfl rfl F.u102 F.sz5) ?_
  refine w_val rfl rfl rfl (e_append0 (v := .nils) (len := 0) rfl rfl rfl rfl rfl F.u102 F.u102 F.el5 rfl rfl) ?_
  have hdl : ([] : List AV).length = 0 := rfl
  have hmn' : 0 ≤ n := Nat.zero_le _
  have hv' : ∃ K g, AV.sl M.nx 0 0 0 none = .sl K 0 0 0 g ∧ (0 = 0 ∧ g = none ∧ K = M.nx ∧ (M.new (.cells (repeatL (AV.int .u8 0).cells 0) false false)).nx = M.nx + 1 ∨ 0 < 0 ∧ g = some 1 ∧ (M.new (.cells (repeatL (AV.int .u8 0).cells 0) false false)).nx = K + 1 ∧ (M.new (.cells (repeatL (AV.int .u8 0).cells 0) false false)).nx = M.nx + 2) ∧ (∀ x, x < M.nx → (M.new (.cells (repeatL (AV.int .u8 0).cells 0) false false)).get x = M.get x) ∧ (M.new (.cells (repeatL (AV.int .u8 0).cells 0) false false)).get K = some (.cells [] false false) :=
    ⟨_, _, rfl, Or.inl ⟨rfl, rfl, rfl, rfl⟩, fun x hx => AM.get_new_lt hx, by rw [AM.get_new_self]; rfl⟩
  generalize (M.new (.cells (repeatL (AV.int .u8 0).cells 0) false false)) = M1 at *
  generalize hv0 : AV.sl M.nx 0 0 0 none = v0 at *
  obtain ⟨K, g, rfl, hK, hold, hcur⟩ := hv'
  repeat first | refine w_seq ?_ | refine w_region ?_ | refine w_val rfl rfl rfl rfl ?_ | refine w_valg rfl rfl rfl rfl ?_ | refine w_nil ?_ | refine k_seq ?_ | refine w_skip ?_ | refine w_block ?_ | refine w_exit ?_ | refine k_exit ?_ | refine b_here ?_ | refine b_normal ?_ | refine w_ret ?_ | refine k_ret ?_ | refine b_ret ?_
  refine w_loop ?_
  refine loop_inv (fun k ρ D M' => D = [] ∧ ∃ i K g, k = n - 0 - i ∧ 0 + i ≤ n ∧ ρ 1 = some (.int .i64 (.ofNat n)) ∧ ρ 5 = some (.sl K 0 (0 + i) (0 + i) g) ∧
      (0 + i = 0 ∧ g = none ∧ K = M.nx ∧ M'.nx = M.nx + 1 ∨ 0 < 0 + i ∧ g = some 1 ∧ M'.nx = K + 1 ∧ M'.nx = M.nx + 1 + (if 0 = 0 then 0 else 1) + 2 * i) ∧ (∀ x, x < M.nx → M'.get x = M.get x) ∧
      M'.get K = some (.cells (([] : List AV) ++ List.replicate i (.int .u8 255)) false false)) ?_ (n - 0) _ _ _ ⟨rfl, 0, K, g, rfl, hmn', rfl, rfl, ?_, hold, ?_⟩
  rotate_left
  · rcases hK with ⟨h1, h2, h3, h4⟩ | ⟨h1, h2, h3, h4⟩
    · exact Or.inl ⟨by omega, h2, h3, h4⟩
    · refine Or.inr ⟨by omega, h2, h3, ?_⟩
      rw [if_neg (by omega)]; omega
  · simpa using hcur
  clear hcur hold hK hv0 K g M1
  rintro k ρ D M' ⟨rfl, i, K, g, rfl, hi, h1, h5, hK, hold, hcur⟩
  repeat first | refine w_seq ?_ | refine w_region ?_ | refine w_val rfl rfl rfl rfl ?_ | refine w_valg rfl rfl rfl rfl ?_ | refine w_nil ?_ | refine k_seq ?_ | refine w_skip ?_ | refine w_block ?_ | refine w_exit ?_ | refine k_exit ?_ | refine b_here ?_ | refine b_normal ?_ | refine w_ret ?_ | refine k_ret ?_ | refine b_ret ?_
  refine w_val rfl rfl rfl (e_move h5) ?_
  refine w_val rfl rfl rfl (e_len_sl rfl rfl rfl rfl F.u102) ?_
  refine w_val rfl rfl rfl (e_move h1) ?_
  refine w_val rfl rfl rfl (e_lss64 rfl rfl) ?_
  repeat first | refine w_seq ?_ | refine w_region ?_ | refine w_val rfl rfl rfl rfl ?_ | refine w_valg rfl rfl rfl rfl ?_ | refine w_nil ?_ | refine k_seq ?_ | refine w_skip ?_ | refine w_block ?_ | refine w_exit ?_ | refine k_exit ?_ | refine b_here ?_ | refine b_normal ?_ | refine w_ret ?_ | refine k_ret ?_ | refine b_ret ?_
  refine w_cond rfl (fun h => ?_) (fun h => ?_)
  case refine_2 =>
    have he : 0 + i = n := by have := of_decide_eq_false h; omega
    repeat first | refine w_seq ?_ | refine w_region ?_ | refine w_val rfl rfl rfl rfl ?_ | refine w_valg rfl rfl rfl rfl ?_ | refine w_nil ?_ | refine k_seq ?_ | refine w_skip ?_ | refine w_block ?_ | refine w_exit ?_ | refine k_exit ?_ | refine b_here ?_ | refine b_normal ?_ | refine w_ret ?_ | refine k_ret ?_ | refine b_ret ?_
    refine w_val rfl rfl rfl (e_move h5) ?_
    repeat first | refine w_seq ?_ | refine w_region ?_ | refine w_val rfl rfl rfl rfl ?_ | refine w_valg rfl rfl rfl rfl ?_ | refine w_nil ?_ | refine k_seq ?_ | refine w_skip ?_ | refine w_block ?_ | refine w_exit ?_ | refine k_exit ?_ | refine b_here ?_ | refine b_normal ?_ | refine w_ret ?_ | refine k_ret ?_ | refine b_ret ?_
    refine ⟨_, rfl, K, g, by rw [← he]; rfl, ?_, hold, ?_⟩
    · rcases hK with ⟨h1, h2, h3, h4⟩ | ⟨h1, h2, h3, h4⟩
      · exact Or.inl ⟨by omega, h2, h3, h4⟩
      · exact Or.inr ⟨by omega, h2, h3, by rw [h4]; congr 2; omega⟩
    · rw [hcur]; congr 4; omega
  have hlt : 0 + i < n := of_decide_eq_true h
  repeat first | refine w_seq ?_ | refine w_region ?_ | refine w_val rfl rfl rfl rfl ?_ | refine w_valg rfl rfl rfl rfl ?_ | refine w_nil ?_ | refine k_seq ?_ | refine w_skip ?_ | refine w_block ?_ | refine w_exit ?_ | refine k_exit ?_ | refine b_here ?_ | refine b_normal ?_ | refine w_ret ?_ | refine k_ret ?_ | refine b_ret ?_
  refine w_val rfl rfl rfl (e_move h5) ?_
  refine w_val rfl rfl rfl (e_buildSlice (l := [(0, .int .u8 255)]) rfl F.u102 F.el5 (by decide) (by decide) rfl rfl) ?_
  have hKn : K < M'.nx := by rcases hK with ⟨_, _, h3, h4⟩ | ⟨_, _, h3, h4⟩ <;> omega
  have hMn : M.nx ≤ K := by
    rcases hK with ⟨_, _, h3, h4⟩ | ⟨_, _, h3, h4⟩
    · omega
    · split at h4 <;> omega
  refine w_valx rfl rfl rfl (e_appendx (new := [.int .u8 255]) (k := 1) rfl rfl rfl rfl rfl F.u102 F.u102 F.el5 (by rw [AM.get_new_lt hKn]; exact hcur) (by rw [List.length_append, hdl, List.length_replicate])
    (by rcases hK with ⟨_, h2, _⟩ | ⟨_, h2, _⟩; exact Or.inl ⟨h2, rfl⟩; exact Or.inr h2) rfl ?_ rfl rfl (Nat.le_refl _) (by omega) (by unfold maxI; omega)) ?_
  · have hcell : (M'.new (.cells [AV.int .u8 255] false false)).cells M'.nx = some [AV.int .u8 255] := by simp only [AM.cells, AM.get_new_self]
    show afirst (M'.new (.cells [AV.int .u8 255] false false)) 1 1 (.sl M'.nx 0 1 1 none) = _
    simp only [afirst, hcell]; rfl
  rintro v M2 ⟨rfl, hnx, hold2, hcur2⟩
  repeat first | refine w_seq ?_ | refine w_region ?_ | refine w_val rfl rfl rfl rfl ?_ | refine w_valg rfl rfl rfl rfl ?_ | refine w_nil ?_ | refine k_seq ?_ | refine w_skip ?_ | refine w_block ?_ | refine w_exit ?_ | refine k_exit ?_ | refine b_here ?_ | refine b_normal ?_ | refine w_ret ?_ | refine k_ret ?_ | refine b_ret ?_
  refine ⟨n - 0 - (i + 1), by omega, rfl, i + 1, _, _, rfl, by omega, h1, rfl, Or.inr ⟨by omega, rfl, hnx, ?_⟩, fun x hx => ?_, ?_⟩
  · rw [hnx, AM.nx_new]
    rcases hK with ⟨h1, h2, h3, h4⟩ | ⟨h1, h2, h3, h4⟩
    · rw [h4, if_pos (by omega)]; omega
    · rw [h4]; omega
  · rw [hold2 x (by omega) (by rw [AM.nx_new]; omega), AM.get_new_lt (by omega)]; exact hold x hx
  · rw [hcur2, List.append_assoc, List.replicate_succ']
end Go.Abm.Seat
