/-
  A part of the proof that pumicelaw17.StoreOpens returns true for every geometry, key, number and group (a machine over names of blocks, its soundness, the calls of the store for any geometry, the chapter's example as a run). Condition: the listed package variables hold what the program's text lays; the card ties that.
-/
import Derived.Test.YtcfpoldckjmbdaaGreatDoorX22
set_option linter.unusedVariables false
set_option linter.unusedSimpArgs false
set_option linter.unusedSectionVars false
open Go Go.Abm
set_option maxRecDepth 100000
set_option maxHeartbeats 4000000
namespace Go.Abm.Seat
theorem put2_ok {E : Env} (F : Facts E) (h : E.sums 144 = none) (M : AM) (n : Nat) (Q : KC) (hQ : ∀ M', M'.nx = M.nx + 1 → Same M M' → M'.get M.nx = some (.cells [.int .u8 (.ofNat ((n) % 256)), .int .u8 (.ofNat ((n / 2 ^ 8) % 256))] false false) → Q (.ret (.sl M.nx 0 2 2 none)) M') :
    CallsTo E 144 [.int .u64 (.ofNat n), .int .i64 2] M Q := by
  refine call_rule F.f144 rfl h ?_
  refine w_seq ?_
  refine w_region ?_
  refine vv (e_assign rfl) ?_
  refine w_nil ?_
  refine k_seq ?_
  refine w_seq ?_
  refine w_region ?_
  refine vv (e_move rfl) ?_
  refine vv rfl ?_
  refine vv (e_min2 rfl rfl rfl rfl) ?_
  refine vv (e_assign rfl) ?_
  refine w_nil ?_
  refine k_seq ?_
  refine w_seq ?_
  refine w_region ?_
  refine vv (e_move rfl) ?_
  rw [show min 2 8 = 2 from rfl]
  refine vv (e_makeSlice rfl rfl F.u157 F.el5 (by decide) (by omega) (by omega) (by unfold maxI; omega) rfl) ?_
  refine vv (e_assign rfl) ?_
  refine w_nil ?_
  refine k_seq ?_
  refine w_seq ?_
  refine w_seq ?_
  refine w_region ?_
  refine vv (e_move rfl) ?_
  refine w_nil ?_
  refine k_seq ?_
  refine w_block ?_
  refine w_seq ?_
  refine w_block ?_
  refine w_seq ?_
  refine w_block ?_
  refine w_seq ?_
  refine w_block ?_
  refine w_seq ?_
  refine w_block ?_
  refine w_seq ?_
  refine w_block ?_
  refine w_seq ?_
  refine w_block ?_
  refine w_seq ?_
  refine w_block ?_
  refine w_seq ?_
  refine w_block ?_
  refine w_seq ?_
  refine w_seq ?_
  refine w_seq ?_
  refine w_region ?_
  refine vv rfl ?_
  refine vv (e_assign rfl) ?_
  refine w_nil ?_
  refine k_seq ?_
  refine vf ?_
  refine w_skip ?_
  refine k_seq ?_
  refine w_seq ?_
  refine w_seq ?_
  refine w_region ?_
  refine vv rfl ?_
  refine vv (e_assign rfl) ?_
  refine w_nil ?_
  refine k_seq ?_
  refine vf ?_
  refine w_skip ?_
  refine k_seq ?_
  refine w_seq ?_
  refine w_seq ?_
  refine w_region ?_
  refine vv rfl ?_
  refine vv (e_assign rfl) ?_
  refine w_nil ?_
  refine k_seq ?_
  refine vf ?_
  refine w_skip ?_
  refine k_seq ?_
  refine w_seq ?_
  refine w_seq ?_
  refine w_region ?_
  refine vv rfl ?_
  refine vv (e_assign rfl) ?_
  refine w_nil ?_
  refine k_seq ?_
  refine vf ?_
  refine w_skip ?_
  refine k_seq ?_
  refine w_seq ?_
  refine w_seq ?_
  refine w_region ?_
  refine vv rfl ?_
  refine vv (e_assign rfl) ?_
  refine w_nil ?_
  refine k_seq ?_
  refine vf ?_
  refine w_skip ?_
  refine k_seq ?_
  refine w_seq ?_
  refine w_seq ?_
  refine w_region ?_
  refine vv rfl ?_
  refine vv (e_assign rfl) ?_
  refine w_nil ?_
  refine k_seq ?_
  refine vf ?_
  refine w_skip ?_
  refine k_seq ?_
  refine w_seq ?_
  refine w_seq ?_
  refine w_region ?_
  refine vv rfl ?_
  refine vv (e_assign rfl) ?_
  refine w_nil ?_
  refine k_seq ?_
  refine vt ?_
  refine w_exit ?_
  refine k_exit ?_
  refine k_exit ?_
  refine b_on rfl ?_
  refine k_exit ?_
  refine b_on rfl ?_
  refine k_exit ?_
  refine b_on rfl ?_
  refine k_exit ?_
  refine b_on rfl ?_
  refine k_exit ?_
  refine b_on rfl ?_
  refine k_exit ?_
  refine b_on rfl ?_
  refine k_exit ?_
  refine b_here ?_
  refine k_seq ?_
  refine w_region ?_
  refine vv (e_move rfl) ?_
  refine vv (e_move rfl) ?_
  refine vv rfl ?_
  refine vv (e_conv_int rfl F.u54 F.u5) ?_
  refine vv (e_indexAddr rfl rfl F.u157 F.sz5 zD) ?_
  refine vd (e_store rfl rfl F.sz5 g0 zN rfl) ?_
  refine w_nil ?_
  refine b_normal ?_
  refine k_seq ?_
  refine w_seq ?_
  refine w_region ?_
  refine vv (e_move rfl) ?_
  refine vv (e_move rfl) ?_
  refine vv (e_conv_int rfl F.u54 F.u5) ?_
  refine vv (e_indexAddr rfl rfl F.u157 F.sz5 zD) ?_
  refine vd (e_store rfl rfl F.sz5 s0 zN rfl) ?_
  refine w_nil ?_
  refine k_seq ?_
  refine w_exit ?_
  refine b_here ?_
  refine k_seq ?_
  refine w_seq ?_
  refine w_region ?_
  refine vv (e_move rfl) ?_
  refine vv (e_assign rfl) ?_
  refine w_nil ?_
  refine k_seq ?_
  refine w_ret ?_
  refine ⟨_, res_tmp rfl res_nil, hQ _ rfl ?_ s0⟩
  exact (((Same.refl M).new.set (Nat.le_refl _)).set (Nat.le_refl _))
theorem put4_ok {E : Env} (F : Facts E) (h : E.sums 144 = none) (M : AM) (n : Nat) (Q : KC) (hQ : ∀ M', M'.nx = M.nx + 1 → Same M M' → M'.get M.nx = some (.cells [.int .u8 (.ofNat ((n) % 256)), .int .u8 (.ofNat ((n / 2 ^ 8) % 256)), .int .u8 (.ofNat ((n / 2 ^ 16) % 256)), .int .u8 (.ofNat ((n / 2 ^ 24) % 256))] false false) → Q (.ret (.sl M.nx 0 4 4 none)) M') :
    CallsTo E 144 [.int .u64 (.ofNat n), .int .i64 4] M Q := by
  refine call_rule F.f144 rfl h ?_
  refine w_seq ?_
  refine w_region ?_
  refine vv (e_assign rfl) ?_
  refine w_nil ?_
  refine k_seq ?_
  refine w_seq ?_
  refine w_region ?_
  refine vv (e_move rfl) ?_
  refine vv rfl ?_
  refine vv (e_min2 rfl rfl rfl rfl) ?_
  refine vv (e_assign rfl) ?_
  refine w_nil ?_
  refine k_seq ?_
  refine w_seq ?_
  refine w_region ?_
  refine vv (e_move rfl) ?_
  rw [show min 4 8 = 4 from rfl]
  refine vv (e_makeSlice rfl rfl F.u157 F.el5 (by decide) (by omega) (by omega) (by unfold maxI; omega) rfl) ?_
  refine vv (e_assign rfl) ?_
  refine w_nil ?_
  refine k_seq ?_
  refine w_seq ?_
  refine w_seq ?_
  refine w_region ?_
  refine vv (e_move rfl) ?_
  refine w_nil ?_
  refine k_seq ?_
  refine w_block ?_
  refine w_seq ?_
  refine w_block ?_
  refine w_seq ?_
  refine w_block ?_
  refine w_seq ?_
  refine w_block ?_
  refine w_seq ?_
  refine w_block ?_
  refine w_seq ?_
  refine w_block ?_
  refine w_seq ?_
  refine w_block ?_
  refine w_seq ?_
  refine w_block ?_
  refine w_seq ?_
  refine w_block ?_
  refine w_seq ?_
  refine w_seq ?_
  refine w_seq ?_
  refine w_region ?_
  refine vv rfl ?_
  refine vv (e_assign rfl) ?_
  refine w_nil ?_
  refine k_seq ?_
  refine vf ?_
  refine w_skip ?_
  refine k_seq ?_
  refine w_seq ?_
  refine w_seq ?_
  refine w_region ?_
  refine vv rfl ?_
  refine vv (e_assign rfl) ?_
  refine w_nil ?_
  refine k_seq ?_
  refine vf ?_
  refine w_skip ?_
  refine k_seq ?_
  refine w_seq ?_
  refine w_seq ?_
  refine w_region ?_
  refine vv rfl ?_
  refine vv (e_assign rfl) ?_
  refine w_nil ?_
  refine k_seq ?_
  refine vf ?_
  refine w_skip ?_
  refine k_seq ?_
  refine w_seq ?_
  refine w_seq ?_
  refine w_region ?_
  refine vv rfl ?_
  refine vv (e_assign rfl) ?_
  refine w_nil ?_
  refine k_seq ?_
  refine vf ?_
  refine w_skip ?_
  refine k_seq ?_
  refine w_seq ?_
  refine w_seq ?_
  refine w_region ?_
  refine vv rfl ?_
  refine vv (e_assign rfl) ?_
  refine w_nil ?_
  refine k_seq ?_
  refine vt ?_
  refine w_exit ?_
  refine k_exit ?_
  refine k_exit ?_
  refine b_on rfl ?_
  refine k_exit ?_
  refine b_on rfl ?_
  refine k_exit ?_
  refine b_on rfl ?_
  refine k_exit ?_
  refine b_on rfl ?_
  refine k_exit ?_
  refine b_here ?_
  refine k_seq ?_
  refine w_region ?_
  refine vv (e_move rfl) ?_
  refine vv (e_move rfl) ?_
  refine vv rfl ?_
  refine vv (e_conv_int rfl F.u54 F.u5) ?_
  refine vv (e_indexAddr rfl rfl F.u157 F.sz5 zD) ?_
  refine vd (e_store rfl rfl F.sz5 g0 zN rfl) ?_
  refine w_nil ?_
  refine b_normal ?_
  refine k_seq ?_
  refine w_region ?_
  refine vv (e_move rfl) ?_
  refine vv (e_move rfl) ?_
  refine vv rfl ?_
  refine vv (e_conv_int rfl F.u54 F.u5) ?_
  refine vv (e_indexAddr rfl rfl F.u157 F.sz5 zD) ?_
  refine vd (e_store rfl rfl F.sz5 s0 zN rfl) ?_
  refine w_nil ?_
  refine b_normal ?_
  refine k_seq ?_
  refine w_region ?_
  refine vv (e_move rfl) ?_
  refine vv (e_move rfl) ?_
  refine vv rfl ?_
  refine vv (e_conv_int rfl F.u54 F.u5) ?_
  refine vv (e_indexAddr rfl rfl F.u157 F.sz5 zD) ?_
  refine vd (e_store rfl rfl F.sz5 s0 zN rfl) ?_
  refine w_nil ?_
  refine b_normal ?_
  refine k_seq ?_
  refine w_seq ?_
  refine w_region ?_
  refine vv (e_move rfl) ?_
  refine vv (e_move rfl) ?_
  refine vv (e_conv_int rfl F.u54 F.u5) ?_
  refine vv (e_indexAddr rfl rfl F.u157 F.sz5 zD) ?_
  refine vd (e_store rfl rfl F.sz5 s0 zN rfl) ?_
  refine w_nil ?_
  refine k_seq ?_
  refine w_exit ?_
  refine b_here ?_
  refine k_seq ?_
  refine w_seq ?_
  refine w_region ?_
  refine vv (e_move rfl) ?_
  refine vv (e_assign rfl) ?_
  refine w_nil ?_
  refine k_seq ?_
  refine w_ret ?_
  refine ⟨_, res_tmp rfl res_nil, hQ _ rfl ?_ s0⟩
  exact (((((Same.refl M).new.set (Nat.le_refl _)).set (Nat.le_refl _)).set (Nat.le_refl _)).set (Nat.le_refl _))
theorem put8_ok {E : Env} (F : Facts E) (h : E.sums 144 = none) (M : AM) (n : Nat) (Q : KC) (hQ : ∀ M', M'.nx = M.nx + 1 → Same M M' → M'.get M.nx = some (.cells [.int .u8 (.ofNat ((n) % 256)), .int .u8 (.ofNat ((n / 2 ^ 8) % 256)), .int .u8 (.ofNat ((n / 2 ^ 16) % 256)), .int .u8 (.ofNat ((n / 2 ^ 24) % 256)), .int .u8 (.ofNat ((n / 2 ^ 32) % 256)), .int .u8 (.ofNat ((n / 2 ^ 40) % 256)), .int .u8 (.ofNat ((n / 2 ^ 48) % 256)), .int .u8 (.ofNat ((n / 2 ^ 56) % 256))] false false) → Q (.ret (.sl M.nx 0 8 8 none)) M') :
    CallsTo E 144 [.int .u64 (.ofNat n), .int .i64 8] M Q := by
  refine call_rule F.f144 rfl h ?_
  refine w_seq ?_
  refine w_region ?_
  refine vv (e_assign rfl) ?_
  refine w_nil ?_
  refine k_seq ?_
  refine w_seq ?_
  refine w_region ?_
  refine vv (e_move rfl) ?_
  refine vv rfl ?_
  refine vv (e_min2 rfl rfl rfl rfl) ?_
  refine vv (e_assign rfl) ?_
  refine w_nil ?_
  refine k_seq ?_
  refine w_seq ?_
  refine w_region ?_
  refine vv (e_move rfl) ?_
  rw [show min 8 8 = 8 from rfl]
  refine vv (e_makeSlice rfl rfl F.u157 F.el5 (by decide) (by omega) (by omega) (by unfold maxI; omega) rfl) ?_
  refine vv (e_assign rfl) ?_
  refine w_nil ?_
  refine k_seq ?_
  refine w_seq ?_
  refine w_seq ?_
  refine w_region ?_
  refine vv (e_move rfl) ?_
  refine w_nil ?_
  refine k_seq ?_
  refine w_block ?_
  refine w_seq ?_
  refine w_block ?_
  refine w_seq ?_
  refine w_block ?_
  refine w_seq ?_
  refine w_block ?_
  refine w_seq ?_
  refine w_block ?_
  refine w_seq ?_
  refine w_block ?_
  refine w_seq ?_
  refine w_block ?_
  refine w_seq ?_
  refine w_block ?_
  refine w_seq ?_
  refine w_block ?_
  refine w_seq ?_
  refine w_seq ?_
  refine w_seq ?_
  refine w_region ?_
  refine vv rfl ?_
  refine vv (e_assign rfl) ?_
  refine w_nil ?_
  refine k_seq ?_
  refine vt ?_
  refine w_exit ?_
  refine k_exit ?_
  refine k_exit ?_
  refine b_here ?_
  refine k_seq ?_
  refine w_region ?_
  refine vv (e_move rfl) ?_
  refine vv (e_move rfl) ?_
  refine vv rfl ?_
  refine vv (e_conv_int rfl F.u54 F.u5) ?_
  refine vv (e_indexAddr rfl rfl F.u157 F.sz5 zD) ?_
  refine vd (e_store rfl rfl F.sz5 g0 zN rfl) ?_
  refine w_nil ?_
  refine b_normal ?_
  refine k_seq ?_
  refine w_region ?_
  refine vv (e_move rfl) ?_
  refine vv (e_move rfl) ?_
  refine vv rfl ?_
  refine vv (e_conv_int rfl F.u54 F.u5) ?_
  refine vv (e_indexAddr rfl rfl F.u157 F.sz5 zD) ?_
  refine vd (e_store rfl rfl F.sz5 s0 zN rfl) ?_
  refine w_nil ?_
  refine b_normal ?_
  refine k_seq ?_
  refine w_region ?_
  refine vv (e_move rfl) ?_
  refine vv (e_move rfl) ?_
  refine vv rfl ?_
  refine vv (e_conv_int rfl F.u54 F.u5) ?_
  refine vv (e_indexAddr rfl rfl F.u157 F.sz5 zD) ?_
  refine vd (e_store rfl rfl F.sz5 s0 zN rfl) ?_
  refine w_nil ?_
  refine b_normal ?_
  refine k_seq ?_
  refine w_region ?_
  refine vv (e_move rfl) ?_
  refine vv (e_move rfl) ?_
  refine vv rfl ?_
  refine vv (e_conv_int rfl F.u54 F.u5) ?_
  refine vv (e_indexAddr rfl rfl F.u157 F.sz5 zD) ?_
  refine vd (e_store rfl rfl F.sz5 s0 zN rfl) ?_
  refine w_nil ?_
  refine b_normal ?_
  refine k_seq ?_
  refine w_region ?_
  refine vv (e_move rfl) ?_
  refine vv (e_move rfl) ?_
  refine vv rfl ?_
  refine vv (e_conv_int rfl F.u54 F.u5) ?_
  refine vv (e_indexAddr rfl rfl F.u157 F.sz5 zD) ?_
  refine vd (e_store rfl rfl F.sz5 s0 zN rfl) ?_
  refine w_nil ?_
  refine b_normal ?_
  refine k_seq ?_
  refine w_region ?_
  refine vv (e_move rfl) ?_
  refine vv (e_move rfl) ?_
  refine vv rfl ?_
  refine vv (e_conv_int rfl F.u54 F.u5) ?_
  refine vv (e_indexAddr rfl rfl F.u157 F.sz5 zD) ?_
  refine vd (e_store rfl rfl F.sz5 s0 zN rfl) ?_
  refine w_nil ?_
  refine b_normal ?_
  refine k_seq ?_
  refine w_region ?_
  refine vv (e_move rfl) ?_
  refine vv (e_move rfl) ?_
  refine vv rfl ?_
  refine vv (e_conv_int rfl F.u54 F.u5) ?_
  refine vv (e_indexAddr rfl rfl F.u157 F.sz5 zD) ?_
  refine vd (e_store rfl rfl F.sz5 s0 zN rfl) ?_
  refine w_nil ?_
  refine b_normal ?_
  refine k_seq ?_
  refine w_seq ?_
  refine w_region ?_
  refine vv (e_move rfl) ?_
  refine vv (e_move rfl) ?_
  refine vv (e_conv_int rfl F.u54 F.u5) ?_
  refine vv (e_indexAddr rfl rfl F.u157 F.sz5 zD) ?_
  refine vd (e_store rfl rfl F.sz5 s0 zN rfl) ?_
  refine w_nil ?_
  refine k_seq ?_
  refine w_exit ?_
  refine b_here ?_
  refine k_seq ?_
  refine w_seq ?_
  refine w_region ?_
  refine vv (e_move rfl) ?_
  refine vv (e_assign rfl) ?_
  refine w_nil ?_
  refine k_seq ?_
  refine w_ret ?_
  refine ⟨_, res_tmp rfl res_nil, hQ _ rfl ?_ s0⟩
  exact (((((((((Same.refl M).new.set (Nat.le_refl _)).set (Nat.le_refl _)).set (Nat.le_refl _)).set (Nat.le_refl _)).set (Nat.le_refl _)).set (Nat.le_refl _)).set (Nat.le_refl _)).set (Nat.le_refl _))
end Go.Abm.Seat

open Go Go.Abm
set_option maxRecDepth 100000
set_option maxHeartbeats 4000000
namespace Go.Abm.Seat
def byteL (bs : List Nat) : List AV := bs.map fun n => .int .u8 (.ofNat n)
def Byt (bs : List Nat) : Prop := ∀ x ∈ bs, x < 256
theorem byteL_len (bs : List Nat) : (byteL bs).length = bs.length := by unfold byteL; rw [List.length_map]
theorem byteL_one (bs : List Nat) : (byteL bs).all AV.one = true := by unfold byteL; rw [List.all_map]; exact List.all_eq_true.2 fun _ _ => rfl
theorem byteL_app (a b : List Nat) : byteL (a ++ b) = byteL a ++ byteL b := by unfold byteL; rw [List.map_append]
theorem bytesOf_byteL : ∀ (bs : List Nat), Byt bs → bytesOf (byteL bs) = some bs
  | [], _ => rfl
  | x :: bs, h => by
    show (bif Nat.blt x 256 then (bytesOf (byteL bs)).map (x :: ·) else none) = _
    rw [blt_t (h x List.mem_cons_self), bytesOf_byteL bs fun y hy => h y (List.mem_cons_of_mem _ hy)]; rfl
theorem Byt.app {a b : List Nat} (h : Byt a) (k : Byt b) : Byt (a ++ b) := fun x hx => by
  rcases List.mem_append.1 hx with hx | hx
  · exact h x hx
  · exact k x hx
theorem Byt.rep (n : Nat) : Byt (List.replicate n 255) := fun x hx => by rw [(List.mem_replicate.1 hx).2]; decide
theorem byteL_rep (n : Nat) : byteL (List.replicate n 255) = List.replicate n ff := by unfold byteL; rw [List.map_replicate]; rfl
theorem byteL_slice (bs : List Nat) (o n : Nat) : ((byteL bs).drop o).take n = byteL ((bs.drop o).take n) := by unfold byteL; rw [List.map_take, List.map_drop]
theorem Byt.slice {bs : List Nat} (h : Byt bs) (o n : Nat) : Byt ((bs.drop o).take n) := fun x hx => h x (List.mem_of_mem_drop (List.mem_of_mem_take hx))
def Bts (M : AM) (v : AV) (bs : List Nat) : Prop := ∃ b o c g l ro fz, v = .sl b o bs.length c g ∧ M.get b = some (.cells l ro fz) ∧ b < M.nx ∧ bs.length ≤ c ∧ o + bs.length ≤ l.length ∧ (l.drop o).take bs.length = byteL bs ∧ Byt bs ∧ (g = none ∨ g = some 1)
theorem Bts.same {M M' : AM} {v : AV} {bs : List Nat} (h : Bts M v bs) (hs : Same M M') : Bts M' v bs := by
  obtain ⟨b, o, c, g, l, ro, fz, h1, h2, h3, h4⟩ := h
  exact ⟨b, o, c, g, l, ro, fz, h1, (hs.2 b h3).trans h2, by have := hs.1; omega, h4⟩
theorem Bts.first {M : AM} {v : AV} {bs : List Nat} (h : Bts M v bs) : alenOf v = some bs.length ∧ afirst M 1 bs.length v = some (byteL bs) := by
  obtain ⟨b, o, c, g, l, ro, fz, rfl, h2, h3, h4, h5, h6, h7, h8⟩ := h
  refine ⟨rfl, ?_⟩
  unfold afirst
  by_cases h0 : bs.length = 0
  · rw [nbeq_true h0, List.length_eq_zero_iff.1 h0]; rfl
  · rw [nbeq_false h0]
    simp only [cond_false, ble_t h4, cond_true, AM.cells, h2, Nat.mul_one, ble_t h5, h6]
theorem aslice_bts {E : Env} {M : AM} {v : AV} {bs : List Nat} (h : Bts M v bs) {t e : TypeId} (hu : E.under t = some (.slice e)) (hs : E.size e = some 1) {lo' hi' : Option AV} {a c : Option Nat} (h1 : anum lo' = some a) (h2 : anum hi' = some c) (hl : a.getD 0 ≤ c.getD bs.length) (hh : c.getD bs.length ≤ bs.length) :
    ∃ v', aslice E t v lo' hi' none = some v' ∧ Bts M v' ((bs.drop (a.getD 0)).take (c.getD bs.length - a.getD 0)) := by
  obtain ⟨b, o, cp, g, l, ro, fz, rfl, g2, g3, g4, g5, g6, g7, g8⟩ := h
  have ln : ((bs.drop (a.getD 0)).take (c.getD bs.length - a.getD 0)).length = c.getD bs.length - a.getD 0 := by rw [List.length_take, List.length_drop]; omega
  have cut : ∀ o', (o' = o + a.getD 0 ∨ c.getD bs.length - a.getD 0 = 0) → (l.drop o').take (c.getD bs.length - a.getD 0) = byteL ((bs.drop (a.getD 0)).take (c.getD bs.length - a.getD 0)) := fun o' ho => by
    rcases ho with rfl | ho
    · rw [← byteL_slice, ← g6, List.drop_take, List.drop_drop, List.take_take, Nat.min_eq_left (by omega)]
    · rw [ho]; rfl
  have e0 : aslice E t (.sl b o bs.length cp g) lo' hi' none = (match g with
      | none => some (.sl b (bif Nat.beq cp (a.getD 0) then o else o + a.getD 0 * 1) (c.getD bs.length - a.getD 0) (cp - a.getD 0) none)
      | some k => bif Nat.beq k 1 then some (.sl b (o + a.getD 0 * 1) (c.getD bs.length - a.getD 0) (cp - a.getD 0) (some k)) else none) := by
    unfold aslice
    rw [h1, h2, show anum none = some none from rfl]
    dsimp only
    rw [hu]
    dsimp only
    rw [hs]
    dsimp only
    rw [ble_t hl, ble_t (show c.getD bs.length ≤ cp by omega)]
    cases g <;> rfl
  rcases g8 with rfl | rfl
  · refine ⟨_, e0, b, _, _, _, l, ro, fz, by rw [ln], g2, g3, by rw [ln]; omega, ?_, ?_, g7.slice _ _, Or.inl rfl⟩
    · rw [ln]
      cases hb : Nat.beq cp (a.getD 0) with
      | true => rw [cond_true]; have := beq_eq hb; omega
      | false => rw [cond_false]; omega
    · rw [ln]
      cases hb : Nat.beq cp (a.getD 0) with
      | true => rw [cond_true]; have := beq_eq hb; exact cut _ (Or.inr (by omega))
      | false => rw [cond_false]; exact cut _ (Or.inl (by omega))
  · refine ⟨_, e0, b, _, _, _, l, ro, fz, by rw [ln], g2, g3, by rw [ln]; omega, by rw [ln]; omega, by rw [ln]; exact cut _ (Or.inl (by omega)), g7.slice _ _, Or.inr rfl⟩
theorem e_sliceB {E : Env} {ρ : Reg} {M : AM} {v : AV} {bs : List Nat} (h : Bts M v bs) {t e : TypeId} (hu : E.under t = some (.slice e)) (hs : E.size e = some 1) {x : Operand} {lo hi : Option Operand} {lo' hi' : Option AV} {a c : Option Nat} (hx : rhoR E ρ x = some v) (q1 : rhoO (rhoR E ρ) lo = some lo') (q2 : rhoO (rhoR E ρ) hi = some hi') (h1 : anum lo' = some a) (h2 : anum hi' = some c)
    (hl : a.getD 0 ≤ c.getD bs.length) (hh : c.getD bs.length ≤ bs.length) : ∃ v' M', evalOp E (rhoR E ρ) (.slice t x lo hi none) M = some (.val v' M') ∧ M' = M ∧ Bts M v' ((bs.drop (a.getD 0)).take (c.getD bs.length - a.getD 0)) := by
  obtain ⟨v', e1, e2⟩ := aslice_bts h hu hs h1 h2 hl hh
  refine ⟨v', M, ?_, rfl, e2⟩
  unfold evalOp
  dsimp only
  rw [hx, q1, q2, show rhoO (rhoR E ρ) none = some none from rfl]
  dsimp only
  rw [e1]; rfl
theorem sum_ok {E : Env} (F : Facts E) (hS : E.sums 248 = some sSum) {M : AM} {v : AV} {bs : List Nat} (h : Bts M v bs) (hl : bs.length ≤ 65536) (Q : KC) (hQ : ∀ n : Nat, Q (.ret (.int .u32 (.ofNat n))) M) : CallsTo E 248 [v] M Q := by
  obtain ⟨b, o, c, g, l, ro, fz, rfl, h2, h3, h4, h5, h6, h7, h8⟩ := h
  refine call_sum F.f248 rfl hS (v := .int .u32 (.ofNat (Nat.xor 4294967295 (crcL bs 4294967295)))) (M' := M) ?_ (hQ _)
  unfold sSum
  simp only [h2, ble_t h5, ble_t (show bs.length ≤ maxI by unfold maxI; omega), Bool.and_self, cond_true, h6, bytesOf_byteL bs h7]
theorem grown_bts {M : AM} {n R : Nat} {bs : List Nat} {f : Bool} (hn : bs.length = n) (h : M.get R = some (.cells (byteL bs) false f)) (lR : R < M.nx) (hb : Byt bs) : Bts M (.sl R 0 n n (some 1)) bs :=
  ⟨R, 0, n, some 1, byteL bs, false, f, by rw [hn], h, lR, by omega, by rw [byteL_len]; omega, by rw [List.drop_zero, ← byteL_len, List.take_length], hb, Or.inr rfl⟩
theorem frame_ok {E : Env} (F : Facts E) (hS : E.sums 248 = some sSum) (h1 : E.sums 144 = none) (h : E.sums 173 = none) {M : AM} {v : AV} {bs : List Nat} (hb : Bts M v bs) (l1 : 1 ≤ bs.length) (l2 : bs.length ≤ 1024) (Q : KC)
    (hQ : ∀ M' R bs', Same M M' → M.nx ≤ R → R < M'.nx → bs'.length = bs.length + 6 → Byt bs' → M'.get R = some (.cells (byteL bs') false false) → Q (.ret (.tup [.sl R 0 (bs.length + 6) (bs.length + 6) (some 1), .int .i64 0])) M') : CallsTo E 173 [v] M Q := by
  have hb0 := hb
  obtain ⟨b, o, c, g, l, ro, fz, rfl, g2, g3, g4, g5, g6, g7, g8⟩ := hb
  refine call_rule F.f173 rfl h ?_
  refine w_seq ?_
  refine w_region ?_
  refine vv (e_assign rfl) ?_
  refine vv (e_assign rfl) ?_
  refine w_nil ?_
  refine k_seq ?_
  refine w_seq ?_
  refine w_region ?_
  refine vv (e_move rfl) ?_
  refine vv (e_len_sl rfl rfl rfl rfl F.u157) ?_
  refine vv (e_assign rfl) ?_
  refine w_nil ?_
  refine k_seq ?_
  refine w_seq ?_
  refine w_seq ?_
  refine w_region ?_
  refine vv (e_move rfl) ?_
  refine vv rfl ?_
  refine vv (e_move rfl) ?_
  have e0 : ieqF (.ofNat bs.length) 0 = false := ieq_ne (by intro e; have e : (bs.length : Int) = 0 := e; omega)
  have e1 : iltF 1024 (.ofNat bs.length) = false := ilt_f (a := 1024) l2
  rw [e0]
  refine vg (e_move rfl) ?_
  refine vg rfl ?_
  refine vv rfl ?_
  refine w_nil ?_
  refine k_seq ?_
  rw [e1]
  refine vf ?_
  refine w_skip ?_
  refine k_seq ?_
  refine w_seq ?_
  refine w_region ?_
  refine vv (e_move rfl) ?_
  refine vv (e_conv_int rfl F.u3 F.u54) ?_
  refine vc (e_call rfl rfl F.f144 rfl) (put2_ok F h1 M _ _ (fun M1 n1 s1 c1 => ?_))
  dsimp only
  refine vv (e_move rfl) ?_
  refine vc (e_call rfl rfl F.f248 rfl) (sum_ok F hS (hb0.same s1) (by omega) _ (fun k => ?_))
  dsimp only
  refine vv (e_conv_int rfl F.u346 F.u54) ?_
  refine vc (e_call rfl rfl F.f144 rfl) (put4_ok F h1 M1 _ _ (fun M2 n2 s2 c2 => ?_))
  dsimp only
  skip
  refine w_valx rfl rfl rfl (e_appendx (k := 4) rfl rfl rfl rfl rfl F.u157 F.u157 F.el5 ((s2.2 _ (by omega)).trans c1) rfl (Or.inl ⟨rfl, rfl⟩) rfl (by simp only [afirst, AM.cells, c2]; rfl) rfl rfl (by decide) (by decide) (by decide)) ?_
  rintro v1 M3 ⟨rfl, n3, o3, c3⟩
  refine vv (e_assign rfl) ?_
  refine w_nil ?_
  refine k_seq ?_
  refine w_seq ?_
  refine w_region ?_
  refine vv (e_move rfl) ?_
  refine vv (e_move rfl) ?_
  have s3 : Same M M3 := ⟨by omega, fun x hx => (o3 x (by omega) (by omega)).trans ((s2.2 x (by omega)).trans (s1.2 x hx))⟩
  obtain ⟨f1, f2⟩ := (hb0.same s3).first
  refine w_valx rfl rfl rfl (e_appendx rfl rfl rfl rfl rfl F.u157 F.u157 F.el5 c3 rfl (Or.inr rfl) f1 f2 (byteL_one bs) (byteL_len bs) l1 (by omega) (by unfold maxI; omega)) ?_
  rintro v2 M4 ⟨rfl, n4, o4, c4⟩
  refine vv (e_assign rfl) ?_
  refine vv (e_assign rfl) ?_
  refine w_nil ?_
  refine k_seq ?_
  refine w_ret ?_
  have s4 : Same M M4 := ⟨by omega, fun x hx => (o4 x (by omega) (by omega)).trans (s3.2 x hx)⟩
  have e6 : 2 + 4 + bs.length = bs.length + 6 := by omega
  rw [e6]
  refine ⟨_, res_tmp rfl (res_tmp rfl res_nil), hQ M4 M3.nx ([bs.length % 18446744073709551616 % 256, bs.length % 18446744073709551616 / 2 ^ 8 % 256, k % 18446744073709551616 % 256, k % 18446744073709551616 / 2 ^ 8 % 256, k % 18446744073709551616 / 2 ^ 16 % 256, k % 18446744073709551616 / 2 ^ 24 % 256] ++ bs) s4 (by omega) (by omega) (by simp) ?_ c4⟩
  refine Byt.app (fun x hx => ?_) g7
  simp only [List.mem_cons, List.mem_nil_iff, or_false] at hx
  rcases hx with rfl | rfl | rfl | rfl | rfl | rfl <;> exact Nat.mod_lt _ (by decide)
theorem fillB_ok {E : Env} (F : Facts E) (hF : E.sums 140 = some sFill) {M : AM} {R n p : Nat} {bs : List Nat} (h : M.get R = some (.cells (byteL bs) false false)) (lR : R < M.nx) (hn : bs.length = n) (h1 : 1 ≤ n) (hnp : n ≤ p) (hp : p ≤ 65536) (hb : Byt bs) (Q : KC)
    (hQ : ∀ M' K, Same M M' → M.nx ≤ K → K < M'.nx → M'.get K = some (.cells (byteL (bs ++ List.replicate (p - n) 255)) false false) → Byt (bs ++ List.replicate (p - n) 255) → Q (.ret (.sl K 0 p p (some 1))) M') : CallsTo E 140 [.sl R 0 n n (some 1), .int .i64 (.ofNat p)] M Q := by
  subst hn
  have hm : min p bs.length = bs.length := Nat.min_eq_right hnp
  have hd : ((byteL bs).drop 0).take bs.length = byteL bs := by rw [List.drop_zero, ← byteL_len, List.take_length]
  have e0 : sFill [.sl R 0 bs.length bs.length (some 1), .int .i64 (.ofNat p)] M = some (fillTo M (byteL bs) bs.length p) := by
    unfold sFill
    simp only [h, hm, hd, ble_t (Nat.le_refl bs.length), byteL_len, Nat.zero_add, ble_t hp, grOk, nbeq_true (rfl : 1 = 1), byteL_one, blt_t lR, Bool.and_self, cond_true]
  refine call_sum F.f140 rfl hF (v := (fillTo M (byteL bs) bs.length p).1) (M' := (fillTo M (byteL bs) bs.length p).2) e0 ?_
  have e1 : fillTo M (byteL bs) bs.length p = (.sl (M.nx + 1 + 2 * (p - bs.length)) 0 p p (some 1), ⟨M.m.set (M.nx + 1 + 2 * (p - bs.length)) (some (.cells (byteL bs ++ List.replicate (p - bs.length) ff) false false)), M.nx + 1 + 2 * (p - bs.length) + 1⟩) := by
    unfold fillTo
    rw [nbeq_false (show p ≠ 0 by omega), nbeq_false (show bs.length ≠ 0 by omega)]; rfl
  rw [e1]
  have gt : ∀ x, (⟨M.m.set (M.nx + 1 + 2 * (p - bs.length)) (some (.cells (byteL bs ++ List.replicate (p - bs.length) ff) false false)), M.nx + 1 + 2 * (p - bs.length) + 1⟩ : AM).get x = if x = M.nx + 1 + 2 * (p - bs.length) then some (.cells (byteL bs ++ List.replicate (p - bs.length) ff) false false) else M.get x := fun x => Tr.get_set _ _ _ _
  refine hQ _ _ ⟨by show M.nx ≤ M.nx + 1 + _ + 1; omega, fun x hx => by rw [gt, if_neg (by omega)]⟩ (by omega) (by show _ < M.nx + 1 + _ + 1; omega) ?_ (hb.app (Byt.rep _))
  rw [gt, if_pos rfl, byteL_app, byteL_rep]
theorem image_ok {E : Env} (F : Facts E) (hS : E.sums 248 = some sSum) (hF : E.sums 140 = some sFill) (h1 : E.sums 144 = none) (h2 : E.sums 173 = none) (h : E.sums 246 = none) {M : AM} {v : AV} {bs : List Nat} {p : Nat} (hb : Bts M v bs) (l1 : 1 ≤ bs.length) (l2 : bs.length + 6 ≤ 64) (p1 : 64 ≤ p) (p2 : p ≤ 512) (Q : KC)
    (hQ : ∀ M' K bs', Same M M' → M.nx ≤ K → K < M'.nx → bs'.length = p → Byt bs' → M'.get K = some (.cells (byteL bs') false false) → Q (.ret (.tup [.sl K 0 p p (some 1), .int .i64 0])) M') : CallsTo E 246 [v, .int .i64 (.ofNat p)] M Q := by
  refine call_rule F.f246 rfl h ?_
  refine w_seq ?_
  refine w_region ?_
  refine vv (e_assign rfl) ?_
  refine vv (e_assign rfl) ?_
  refine w_nil ?_
  refine k_seq ?_
  refine w_seq ?_
  refine w_seq ?_
  refine w_region ?_
  refine vv (e_move rfl) ?_
  refine vv rfl ?_
  refine vv (e_move rfl) ?_
  rw [show iltF (.ofNat p) 64 = false from ilt_f (b := 64) p1]
  refine vg (e_move rfl) ?_
  refine vg rfl ?_
  refine vv rfl ?_
  refine w_nil ?_
  refine k_seq ?_
  rw [show iltF 512 (.ofNat p) = false from ilt_f (a := 512) p2]
  refine vf ?_
  refine w_skip ?_
  refine k_seq ?_
  refine w_seq ?_
  refine w_region ?_
  refine vv (e_move rfl) ?_
  refine vc (e_call rfl rfl F.f173 rfl) (frame_ok F hS h1 h2 hb l1 (by omega) _ (fun M1 R bs' s1 lR1 lR2 hl hbb hR => ?_))
  dsimp only
  refine vv (e_move rfl) ?_
  refine vv rfl ?_
  refine vv rfl ?_
  refine vv (e_assign rfl) ?_
  refine vv (e_assign rfl) ?_
  refine w_nil ?_
  refine k_seq ?_
  refine w_seq ?_
  refine w_seq ?_
  refine w_region ?_
  refine vv (e_move rfl) ?_
  refine vv rfl ?_
  refine w_nil ?_
  refine k_seq ?_
  refine vf ?_
  refine w_skip ?_
  refine k_seq ?_
  refine w_seq ?_
  refine w_region ?_
  refine vv (e_move rfl) ?_
  refine vv (e_move rfl) ?_
  refine vc (e_call rfl rfl F.f140 rfl) (fillB_ok F hF hR lR2 hl (by omega) (by omega) (by omega) hbb _ (fun M2 K s2 lK1 lK2 hK hbK => ?_))
  dsimp only
  refine vv (e_assign rfl) ?_
  refine vv (e_assign rfl) ?_
  refine w_nil ?_
  refine k_seq ?_
  refine w_ret ?_
  have n1 := s1.1
  exact ⟨_, res_tmp rfl (res_tmp rfl res_nil), hQ M2 K _ (s1.trans s2) (by omega) lK2 (by rw [List.length_append, List.length_replicate]; omega) hbK hK⟩
theorem count_ok {E : Env} (F : Facts E) (hS : E.sums 248 = some sSum) (hF : E.sums 140 = some sFill) (h1 : E.sums 144 = none) (h2 : E.sums 173 = none) (h3 : E.sums 246 = none) (h : E.sums 168 = none) (M : AM) {p : Nat} (p1 : 64 ≤ p) (p2 : p ≤ 512) (Q : KC)
    (hQ : ∀ M' K bs', Same M M' → M.nx ≤ K → K < M'.nx → bs'.length = p → Byt bs' → M'.get K = some (.cells (byteL bs') false false) → Q (.ret (.tup [.sl K 0 p p (some 1), .int .i64 0])) M') : CallsTo E 168 [.int .i64 1, .int .i64 (.ofNat p)] M Q := by
  refine call_rule F.f168 rfl h ?_
  refine w_seq ?_
  refine w_region ?_
  refine vv (e_assign rfl) ?_
  refine vv (e_assign rfl) ?_
  refine w_nil ?_
  refine k_seq ?_
  refine w_seq ?_
  refine w_seq ?_
  refine w_region ?_
  refine vv (e_move rfl) ?_
  refine vv rfl ?_
  refine vv (e_move rfl) ?_
  refine vg (e_move rfl) ?_
  refine vg rfl ?_
  refine vv rfl ?_
  refine w_nil ?_
  refine k_seq ?_
  refine vf ?_
  refine w_skip ?_
  refine k_seq ?_
  refine w_seq ?_
  refine w_region ?_
  refine vv (e_buildSlice rfl F.u157 F.el5 (by decide) (by decide) rfl rfl) ?_
  refine vv (e_move rfl) ?_
  refine vv (e_conv_int rfl F.u3 F.u54) ?_
  refine vc (e_call rfl rfl F.f144 rfl) (put4_ok F h1 _ _ _ (fun M1 n1 s1 c1 => ?_))
  dsimp only
  skip
  simp only [AM.nx_new] at n1 c1
  refine w_valx rfl rfl rfl (e_appendx (k := 4) rfl rfl rfl rfl rfl F.u157 F.u157 F.el5 ((s1.2 _ (Nat.lt_succ_self _)).trans g0) rfl (Or.inl ⟨rfl, rfl⟩) rfl (by simp only [afirst, AM.nx_new, AM.cells, c1]; rfl) rfl rfl (by decide) (by decide) (by decide)) ?_
  rintro v1 M3 ⟨rfl, n3, o3, c3⟩
  refine vv (e_move rfl) ?_
  have s3 : Same M M3 := ⟨by omega, fun x hx => (o3 x (by omega) (by omega)).trans ((s1.2 x (by rw [AM.nx_new]; omega)).trans (AM.get_new_lt hx))⟩
  have b3 : Bts M3 (.sl M1.nx 0 5 5 (some 1)) [69, 1, 0, 0, 0] := grown_bts rfl (c3.trans rfl) (by omega) (fun x hx => by simp at hx; omega)
  refine vc (e_call rfl rfl F.f246 rfl) (image_ok F hS hF h1 h2 h3 b3 (by decide) (by decide) p1 p2 _ (fun M4 K bs' s4 lK1 lK2 hl hbb hK => ?_))
  dsimp only
  refine vv rfl ?_
  refine vv rfl ?_
  refine vv (e_assign rfl) ?_
  refine vv (e_assign rfl) ?_
  refine w_nil ?_
  refine k_seq ?_
  refine w_ret ?_
  exact ⟨_, res_tmp rfl (res_tmp rfl res_nil), hQ M4 K bs' (s3.trans s4) (by omega) lK2 hl hbb hK⟩
end Go.Abm.Seat

open Go Go.Abm
set_option maxRecDepth 100000
set_option maxHeartbeats 4000000
namespace Go.Abm.Seat
theorem Mgr.ex {M M' : AM} {m L Z c B p0 bl pg sz rs : Nat} {f : Nat → Ent} {z : Nat → Int} {q : Int} {nx : Nat → Nat} {pcs : Nat → List AV} (h : Mgr M m L Z c B p0 bl pg sz rs f z q nx pcs) (hs : Ex (Own c B p0 bl) M M') {nx' : Nat → Nat} {pcs' : Nat → List AV} (hc : Chip M' c B p0 bl pg sz rs nx' pcs') : Mgr M' m L Z c B p0 bl pg sz rs f z q nx' pcs' := by
  obtain ⟨_, hm, hL, hZ, ⟨l1, l2, l3⟩, ⟨n1, n2, n3, n4, n5, n6⟩⟩ := h
  have := hs.1
  exact ⟨hc, by rw [hs.2 m l1 n4]; exact hm, by rw [hs.2 L l2 n5]; exact hL, by rw [hs.2 Z l3 n6]; exact hZ, ⟨by omega, by omega, by omega⟩, ⟨n1, n2, n3, n4, n5, n6⟩⟩
theorem free_ok {E : Env} (F : Facts E) (hS : E.sums 248 = some sSum) (hF : E.sums 140 = some sFill) (k1 : E.sums 144 = none) (k2 : E.sums 173 = none) (k3 : E.sums 246 = none) (k4 : E.sums 168 = none)
    (h1 : E.sums 240 = none) (h2 : E.sums 164 = none) (h3 : E.sums 243 = none) (h4 : E.sums 244 = none) (h5 : E.sums 167 = none) (h6 : E.sums 180 = none) (h7 : E.sums 169 = none)
    (h8 : E.sums 237 = none) (h9 : E.sums 159 = none) (h10 : E.sums 101 = none) (h : E.sums 93 = none)
    {M : AM} {m L Z c B p0 bl pg sz rs : Nat} {f : Nat → Ent} {z : Nat → Int} {q : Int} {nx : Nat → Nat} {pcs : Nat → List AV} (hM : Mgr M m L Z c B p0 bl pg sz rs f z q nx pcs) (hg : Geo bl pg sz rs) {n : Nat} (hn : n < bl) (hc0 : (f n).c = 0) (Q : KC)
    (hQ : ∀ M' pcs', Ex (OwnM m L Z c B p0 bl) M M' → (∀ x, x ≠ n → pcs' x = pcs x) → Mgr M' m L Z c B p0 bl pg sz rs (fun x => if x = n then frE else f x) z q (fun x => if x = n then 1 else nx x) pcs' → Q (.ret .nili) M') :
    CallsTo E 93 [.ptr m 0, .int .i64 (.ofNat n)] M Q := by
  have hM0 := hM
  obtain ⟨hc, ⟨fz, hm⟩, ⟨fL, hL⟩, ⟨fZ, hZ⟩, ⟨l1, l2, l3⟩, ⟨n1, n2, n3, n4, n5, n6⟩⟩ := hM
  refine call_rule F.f93 rfl h ?_
  refine w_seq ?_
  refine w_region ?_
  refine vv (e_assign rfl) ?_
  refine w_nil ?_
  refine k_seq ?_
  refine w_seq ?_
  refine w_region ?_
  refine vv (e_move rfl) ?_
  refine vv rfl ?_
  refine vv (e_fa rfl F.fa124_2) ?_
  refine vv (e_loadn rfl F.na122 zS zC) ?_
  refine vv (e_move rfl) ?_
  refine vv (e_indexAddr rfl rfl F.u122 F.sz156 zD) ?_
  refine vv (e_fa rfl F.fa156_1) ?_
  have hcv : (entL f bl)[0 + n * 6 + 1]? = some (.int .i64 0) := (entL_get f hn (by decide)).trans (by show some (AV.int .i64 (f n).c) = _; rw [hc0])
  refine vv (e_loadn rfl F.na3 hL hcv) ?_
  refine vv rfl ?_
  refine vv (e_assign rfl) ?_
  refine w_nil ?_
  refine k_seq ?_
  refine w_seq ?_
  refine w_region ?_
  refine vv (e_move rfl) ?_
  refine vv (e_move rfl) ?_
  refine vv (e_move rfl) ?_
  refine vv rfl ?_
  refine vv (e_fa rfl F.fa124_0) ?_
  refine vv (e_loadn rfl F.na39 zS zC) ?_
  refine vv (e_move rfl) ?_
  refine vc (e_call rfl rfl F.f167 rfl) (erase_c F h1 h2 h3 h4 h5 hc hg hn _ (fun M1 s1 hc1 => ?_))
  dsimp only
  skip
  refine vc (e_call rfl rfl F.f159 rfl) (done0_ok F h8 h9 M1 m _ _ ?_)
  dsimp only
  have hm1 := (s1.2 m l1 n4).trans hm
  have hx1 := s1.1
  refine vv (e_assign rfl) ?_
  refine w_nil ?_
  refine k_seq ?_
  refine w_seq ?_
  refine w_seq ?_
  refine w_region ?_
  refine vv (e_move rfl) ?_
  refine vv (e_eqlin rfl rfl rfl F.ii63) ?_
  refine w_nil ?_
  refine k_seq ?_
  refine vt ?_
  refine w_seq ?_
  refine w_region ?_
  refine vv (e_move rfl) ?_
  refine vv (e_move rfl) ?_
  refine vv rfl ?_
  refine vv (e_fa rfl F.fa124_1) ?_
  refine vv (e_fa rfl F.fa23_2) ?_
  refine vv (e_loadn rfl F.na3 zS zC) ?_
  refine vc (e_call rfl rfl F.f168 rfl) (count_ok F hS hF k1 k2 k3 k4 M1 hg.s1 hg.s2 _ (fun M2 K bs s2 lK1 lK2 hl hb hK => ?_))
  dsimp only
  have hm2 := (s2.2 m (by omega)).trans hm1
  have hx2 := s2.1
  refine vv (e_move rfl) ?_
  refine vv rfl ?_
  refine vv rfl ?_
  refine vv (e_assign rfl) ?_
  refine vv (e_assign rfl) ?_
  refine w_nil ?_
  refine k_seq ?_
  refine w_region ?_
  refine vv (e_move rfl) ?_
  refine vv (e_move rfl) ?_
  refine vv (e_move rfl) ?_
  refine vv rfl ?_
  refine vv (e_fa rfl F.fa124_0) ?_
  refine vv (e_loadn rfl F.na39 zS zC) ?_
  refine vv (e_move rfl) ?_
  refine vv (e_move rfl) ?_
  have hKo : ¬Own c B p0 bl K := fun hO => by have := hc1.own hO; omega
  refine vc (e_call rfl rfl F.f169 rfl) (program_c F h1 h2 h3 h6 h7 (hc1.same s2) hg hn (if_pos rfl) (by have := hg.p1; omega) hK lK2 hKo (by have := hg.s1; omega) (Nat.le_refl _) (by rw [byteL_len]; omega) (Nat.le_refl _) (by rw [List.drop_zero, ← hl, ← byteL_len, List.take_length]; exact byteL_one bs) _ (fun M3 X s3 hc3 lX1 lX2 hX => ?_))
  dsimp only
  have hm3 := (s3.2 m (by omega) n4).trans hm2
  skip
  refine vc (e_call rfl rfl F.f159 rfl) (done0_ok F h8 h9 M3 m _ _ ?_)
  dsimp only
  refine vv (e_assign rfl) ?_
  refine w_nil ?_
  refine k_seq ?_
  refine w_seq ?_
  refine w_block ?_
  refine w_seq ?_
  refine w_region ?_
  refine vv (e_move rfl) ?_
  refine vv (e_mkif rfl F.ni26) ?_
  refine vc (e_call rfl rfl F.f101 rfl) (isnil_ok F h10 M3 _ _ _ ?_)
  dsimp only
  have hL3 := (s3.2 L (by omega) n5).trans ((s2.2 L (by omega)).trans ((s1.2 L l2 n5).trans hL))
  refine vv (e_assign rfl) ?_
  refine w_nil ?_
  refine k_seq ?_
  refine vf ?_
  refine w_seq ?_
  refine w_region ?_
  refine vv (e_move rfl) ?_
  refine vv (e_neqin rfl rfl rfl F.ii63) ?_
  refine vv (e_assign rfl) ?_
  refine w_nil ?_
  refine k_seq ?_
  refine vf ?_
  refine w_region ?_
  refine vv (e_move rfl) ?_
  refine vv rfl ?_
  refine vv (e_fa rfl F.fa124_2) ?_
  refine vv (e_loadn rfl F.na122 zS zC) ?_
  refine vv (e_move rfl) ?_
  refine vv (e_move rfl) ?_
  refine vv (e_build rfl F.bd156 rfl) ?_
  refine vv (e_indexAddr rfl rfl F.u122 F.sz156 zD) ?_
  refine vd (e_store rfl rfl F.sz156 hL3 (by rw [entL_len]; show 0 + n * 6 + 6 ≤ bl * 6; omega) rfl) ?_
  refine w_nil ?_
  refine b_normal ?_
  refine k_seq ?_
  refine w_seq ?_
  refine w_region ?_
  refine vv (e_assign rfl) ?_
  refine w_nil ?_
  refine k_seq ?_
  refine w_ret ?_
  have hx3 := s3.1
  have hZ3 := (s3.2 Z (by omega) n6).trans ((s2.2 Z (by omega)).trans ((s1.2 Z l3 n6).trans hZ))
  have en : (fun i => if i = n then 0 + 1 else (fun i => if i = n then 0 else nx i) i) = fun x => if x = n then 1 else nx x := by
    funext x; dsimp only
    by_cases hx : x = n
    · rw [if_pos hx, if_pos hx]
    · rw [if_neg hx, if_neg hx, if_neg hx]
  rw [en] at hc3
  refine ⟨_, res_tmp rfl res_nil, hQ _ _ ⟨by rw [AM.nx_set]; omega, fun x hx hO => ?_⟩ (fun x hx => ?_) ⟨hc3.frame (by rw [AM.nx_set]; exact Nat.le_refl _) (fun x hx => AM.get_set_ne (fun e => n5 (by rw [← e]; exact hx))), ⟨_, gs n1 hm3⟩, ⟨fL, s0.trans (congrArg (fun l => some (AObj.cells l false fL)) (entL_put f frE hn))⟩, ⟨_, gs (Ne.symm n3) hZ3⟩, ⟨by rw [AM.nx_set]; omega, by rw [AM.nx_set]; omega, by rw [AM.nx_set]; omega⟩, ⟨n1, n2, n3, n4, n5, n6⟩⟩⟩
  · have o1 : ¬Own c B p0 bl x := fun e => hO (Or.inl e)
    exact gs (fun e => hO (Or.inr (Or.inr (Or.inl e)))) ((s3.2 x (by omega) o1).trans ((s2.2 x (by omega)).trans (s1.2 x hx o1)))
  · rw [if_neg hx, if_neg hx]
theorem attach_ok {E : Env} (F : Facts E) (hS : E.sums 248 = some sSum) (hF : E.sums 140 = some sFill) (k1 : E.sums 144 = none) (k2 : E.sums 173 = none) (k3 : E.sums 246 = none) (k4 : E.sums 168 = none)
    (h1 : E.sums 240 = none) (h2 : E.sums 164 = none) (h3 : E.sums 243 = none) (h4 : E.sums 244 = none) (h5 : E.sums 167 = none) (h6 : E.sums 180 = none) (h7 : E.sums 169 = none)
    (h8 : E.sums 237 = none) (h9 : E.sums 159 = none) (h10 : E.sums 101 = none) (h11 : E.sums 93 = none)
    (i2 : E.sums 291 = none) (i3 : E.sums 290 = none) (i4 : E.sums 289 = none) (i5 : E.sums 239 = none)
    (i6 : E.sums 55 = none) (i7 : E.sums 50 = none) (i8 : E.sums 288 = none) (i9 : E.sums 238 = none) (i10 : E.sums 161 = none) (i11 : E.sums 124 = none) (i12 : E.sums 52 = none) (i13 : E.sums 162 = none) (i14 : E.sums 163 = none) (i15 : E.sums 90 = none)
    (i16 : E.sums 59 = none) (i17 : E.sums 23 = none) (h : E.sums 37 = none)
    {M : AM} {c B p0 bl pg sz rs : Nat} {nx : Nat → Nat} {pcs : Nat → List AV} (hch : Chip M c B p0 bl pg sz rs nx pcs) (hg : Geo bl pg sz rs) (hr : rightB (.ofNat bl) (.ofNat pg) (.ofNat sz) (.ofNat rs) = true) (hz : ∀ i, i < bl → nx i = 0) (Q : KC)
    (hQ : ∀ M' m L Z f q nx' pcs', M.nx ≤ M'.nx → (∀ x, x < M.nx → ¬Own c B p0 bl x → M'.get x = M.get x) → M.nx ≤ m → M.nx ≤ L → M.nx ≤ Z → Mgr M' m L Z c B p0 bl pg sz rs f (fun _ => -1) q nx' pcs' → Q (.ret (.tup [.ptr m 0, .int .i64 0])) M') :
    CallsTo E 37 [.ptr c 0] M Q := by
  have b1 := hg.b1
  have b2 := hg.b2
  refine call_rule F.f37 rfl h ?_
  refine w_seq ?_
  refine w_region ?_
  refine vv (e_assign rfl) ?_
  refine vv (e_assign rfl) ?_
  refine w_nil ?_
  refine k_seq ?_
  refine w_seq ?_
  refine w_region ?_
  refine vv (e_move rfl) ?_
  refine vc (e_call rfl rfl F.f90 rfl) (attached_ok F h1 i2 i3 i4 i5 i6 i7 i8 i9 i10 i11 i12 i13 i14 i15 hch hg hr hz _ (fun M1 m L Z s1 lm lL lZ hM1 => ?_))
  dsimp only
  obtain ⟨_, ⟨fz, hm⟩, ⟨fL, hL⟩, ⟨fZ, hZ⟩, ⟨l1, l2, l3⟩, ⟨n1, n2, n3, n4, n5, n6⟩⟩ := id hM1
  have hx1 := s1.1
  refine vv (e_move rfl) ?_
  refine vv rfl ?_
  refine vv rfl ?_
  refine vv (e_assign rfl) ?_
  refine vv (e_assign rfl) ?_
  refine w_nil ?_
  refine k_seq ?_
  refine w_seq ?_
  refine w_seq ?_
  refine w_region ?_
  refine vv (e_move rfl) ?_
  refine vv rfl ?_
  refine w_nil ?_
  refine k_seq ?_
  refine vf ?_
  refine w_skip ?_
  refine k_seq ?_
  refine w_seq ?_
  refine w_seq ?_
  refine w_region ?_
  refine vv (e_move rfl) ?_
  refine vv rfl ?_
  refine vv (e_fa rfl F.fa124_2) ?_
  refine vv (e_loadn rfl F.na122 zS zC) ?_
  refine vv (e_len_sl rfl rfl rfl rfl F.u122) ?_
  refine vv (e_move rfl) ?_
  refine w_nil ?_
  refine k_seq ?_
  refine w_block ?_
  refine w_loop ?_
  refine loop_inv (fun w ρ D M' => D = [] ∧ ∃ i pc, w = bl - i ∧ i ≤ bl ∧ ρ 4 = some (.ptr m 0) ∧ ρ 20 = some (.sl L 0 bl bl (some 6)) ∧ ρ 21 = some (.int .i64 (.ofNat bl)) ∧ ρ 22 = some (.int .i64 (.ofNat i)) ∧ Ex (OwnM m L Z c B p0 bl) M1 M' ∧
    Mgr M' m L Z c B p0 bl pg sz rs (fun x => if x < i then frE else spE) (fun _ => -1) 0 (fun x => if x < i then 1 else nx x) pc) ?_ bl _ _ _
    ⟨rfl, 0, pcs, rfl, Nat.zero_le _, rfl, rfl, rfl, rfl, Ex.refl _ _, hM1⟩
  rintro w ρ D M' ⟨rfl, i, pc, rfl, hi, g4, g20, g21, g22, hex, hM'⟩
  obtain ⟨_, ⟨fz', hm'⟩, ⟨fL', hL'⟩, _, ⟨l1', l2', l3'⟩, _⟩ := id hM'
  rw [reg1 g4, reg1 g20, reg1 g21, reg1 g22]
  refine w_seq ?_
  refine w_region ?_
  refine vv rfl ?_
  refine w_nil ?_
  refine k_seq ?_
  refine w_seq ?_
  refine w_cond rfl (fun h => ?_) (fun h => ?_)
  case refine_1 =>
    have hlt := ilt_lt h
    refine w_skip ?_
    refine k_seq ?_
    refine w_seq ?_
    refine w_block ?_
    refine w_seq ?_
    refine w_region ?_
    refine vv (e_move rfl) ?_
    refine vv (e_indexAddr rfl rfl F.u122 F.sz156 zD) ?_
    refine vv (e_loada rfl F.ag156 F.sz156 hL' (by rw [entL_len]; show 0 + i * 6 + 6 ≤ bl * 6; omega)) ?_
    rw [entL_take _ hlt, if_neg (Nat.lt_irrefl i)]
    refine vv (e_alloc F.z156) ?_
    refine vv (e_assign rfl) ?_
    refine vd (e_store rfl rfl F.sz156 g0 zN rfl) ?_
    refine w_nil ?_
    refine k_seq ?_
    refine w_seq ?_
    refine w_seq ?_
    refine w_region ?_
    refine vv (e_fa rfl F.fa156_0) ?_
    refine vv (e_loadn rfl F.na3 s0 zC) ?_
    refine vv rfl ?_
    refine vv (e_move rfl) ?_
    refine vg (e_move rfl) ?_
    have sA : Same M' ((M'.new (.cells [.int .i64 0, .int .i64 0, .int .i64 0, .int .i64 0, .int .u64 0, .bool false] false false)).set M'.nx (some (.cells spE.av false false))) := (Same.refl M').new.set (Nat.le_refl _)
    refine vc (e_call rfl rfl F.f23 rfl) (spent_ok F i16 i17 (hM'.same sA) hg (fun j hj => ?_) _ (fun M2 s2 => ?_))
    · by_cases hji : j < i
      · rw [if_pos hji]; decide
      · rw [if_neg hji]; decide
    dsimp only
    have sB := sA.trans s2
    refine vv rfl ?_
    refine w_nil ?_
    refine k_seq ?_
    refine vf ?_
    refine w_skip ?_
    refine k_seq ?_
    refine w_seq ?_
    refine w_region ?_
    refine vv (e_move rfl) ?_
    refine vv (e_move rfl) ?_
    refine vc (e_call rfl rfl F.f93 rfl) (free_ok F hS hF k1 k2 k3 k4 h1 h2 h3 h4 h5 h6 h7 h8 h9 h10 h11 (hM'.same sB) hg hlt (by rw [if_neg (Nat.lt_irrefl i)]; rfl) _ (fun M3 pc' e3 _ hM3 => ?_))
    dsimp only
    refine vv (e_assign rfl) ?_
    refine w_nil ?_
    refine k_seq ?_
    refine w_seq ?_
    refine w_region ?_
    refine vv (e_move rfl) ?_
    refine vv (e_neqin rfl rfl rfl F.ii63) ?_
    refine w_nil ?_
    refine k_seq ?_
    refine vf ?_
    refine w_skip ?_
    refine b_normal ?_
    refine k_seq ?_
    refine w_region ?_
    refine vv rfl ?_
    refine vv (e_move rfl) ?_
    refine w_nil ?_
    refine k_seq ?_
    refine ⟨bl - (i + 1), by omega, rfl, i + 1, pc', rfl, hlt, rfl, rfl, rfl, inc64v (by omega), hex.trans ((Ex.of sB).trans e3), ?_⟩
    have e1 : (fun x => if x = i then frE else (fun x => if x < i then frE else spE) x) = fun x => if x < i + 1 then frE else spE := by
      funext x; dsimp only
      by_cases hx : x = i
      · rw [if_pos hx, if_pos (by omega)]
      · by_cases hy : x < i
        · rw [if_neg hx, if_pos hy, if_pos (by omega)]
        · rw [if_neg hx, if_neg hy, if_neg (by omega)]
    have e2 : (fun x => if x = i then 1 else (fun x => if x < i then 1 else nx x) x) = fun x => if x < i + 1 then 1 else nx x := by
      funext x; dsimp only
      by_cases hx : x = i
      · rw [if_pos hx, if_pos (by omega)]
      · by_cases hy : x < i
        · rw [if_neg hx, if_pos hy, if_pos (by omega)]
        · rw [if_neg hx, if_neg hy, if_neg (by omega)]
    rw [e1, e2] at hM3
    exact hM3
  refine w_exit ?_
  refine k_exit ?_
  refine k_exit ?_
  refine b_here ?_
  refine k_seq ?_
  refine w_seq ?_
  refine w_region ?_
  refine vv (e_move rfl) ?_
  refine vv (e_assign rfl) ?_
  refine vv (e_assign rfl) ?_
  refine w_nil ?_
  refine k_seq ?_
  refine w_ret ?_
  have hx2 := hex.1
  refine ⟨_, res_tmp rfl (res_tmp rfl res_nil), hQ M' m L Z _ _ _ _ (by omega) (fun x hx hO => (hex.2 x (by omega) (fun e => ?_)).trans (s1.2 x hx)) lm lL lZ hM'⟩
  rcases e with e | e | e | e
  · exact hO e
  · omega
  · omega
  · omega
end Go.Abm.Seat

open Go Go.Abm
set_option maxRecDepth 100000
set_option maxHeartbeats 4000000
namespace Go.Abm.Seat
section
variable {E : Env} (F : Facts E) {M : AM} {m L Z c B p0 bl pg sz rs : Nat} {f : Nat → Ent} {z : Nat → Int} {q : Int} {nx : Nat → Nat} {pcs : Nat → List AV} (hM : Mgr M m L Z c B p0 bl pg sz rs f z q nx pcs) (hg : Geo bl pg sz rs)
include F hM
theorem mlebs_ok (h : E.sums 24 = none) (Q : KC) (hQ : Q (.ret (.int .i64 (.ofNat (bl - rs - 2)))) M) : CallsTo E 24 [.ptr m 0] M Q := by
  obtain ⟨_, ⟨fz, hm⟩, _⟩ := hM
  refine call_rule F.f24 rfl h ?_
  refine w_seq ?_
  refine w_region ?_
  refine vv (e_assign rfl) ?_
  refine w_nil ?_
  refine k_seq ?_
  refine w_seq ?_
  refine w_seq ?_
  refine w_region ?_
  refine vv (e_move rfl) ?_
  refine vv (e_eqlp rfl rfl F.u46) ?_
  refine w_nil ?_
  refine k_seq ?_
  refine vf ?_
  refine w_skip ?_
  refine k_seq ?_
  refine w_seq ?_
  refine w_region ?_
  refine vv (e_move rfl) ?_
  refine vv rfl ?_
  refine vv (e_fa rfl F.fa124_3) ?_
  refine vv (e_loadn rfl F.na59 zS zC) ?_
  refine vv (e_len_sl rfl rfl rfl rfl F.u59) ?_
  refine vv (e_assign rfl) ?_
  refine w_nil ?_
  refine k_seq ?_
  refine w_ret ?_
  exact ⟨_, res_tmp rfl res_nil, hQ⟩
theorem mchip_ok (h : E.sums 49 = none) (Q : KC) (hQ : Q (.ret (.ptr c 0)) M) : CallsTo E 49 [.ptr m 0] M Q := by
  obtain ⟨_, ⟨fz, hm⟩, _⟩ := hM
  refine call_rule F.f49 rfl h ?_
  refine w_seq ?_
  refine w_region ?_
  refine vv (e_assign rfl) ?_
  refine w_nil ?_
  refine k_seq ?_
  refine w_seq ?_
  refine w_seq ?_
  refine w_region ?_
  refine vv (e_move rfl) ?_
  refine vv (e_eqlp rfl rfl F.u46) ?_
  refine w_nil ?_
  refine k_seq ?_
  refine vf ?_
  refine w_skip ?_
  refine k_seq ?_
  refine w_seq ?_
  refine w_region ?_
  refine vv (e_move rfl) ?_
  refine vv rfl ?_
  refine vv (e_fa rfl F.fa124_0) ?_
  refine vv (e_loadn rfl F.na39 zS zC) ?_
  refine vv (e_assign rfl) ?_
  refine w_nil ?_
  refine k_seq ?_
  refine w_ret ?_
  exact ⟨_, res_tmp rfl res_nil, hQ⟩
theorem mpage_ok (h : E.sums 62 = none) (Q : KC) (hQ : Q (.ret (.int .i64 (.ofNat sz))) M) : CallsTo E 62 [.ptr m 0] M Q := by
  obtain ⟨_, ⟨fz, hm⟩, _⟩ := hM
  refine call_rule F.f62 rfl h ?_
  refine w_seq ?_
  refine w_region ?_
  refine vv (e_assign rfl) ?_
  refine w_nil ?_
  refine k_seq ?_
  refine w_seq ?_
  refine w_seq ?_
  refine w_region ?_
  refine vv (e_move rfl) ?_
  refine vv (e_eqlp rfl rfl F.u46) ?_
  refine w_nil ?_
  refine k_seq ?_
  refine vf ?_
  refine w_skip ?_
  refine k_seq ?_
  refine w_seq ?_
  refine w_region ?_
  refine vv (e_move rfl) ?_
  refine vv rfl ?_
  refine vv (e_fa rfl F.fa124_1) ?_
  refine vv (e_fa rfl F.fa23_2) ?_
  refine vv (e_loadn rfl F.na3 zS zC) ?_
  refine vv (e_assign rfl) ?_
  refine w_nil ?_
  refine k_seq ?_
  refine w_ret ?_
  exact ⟨_, res_tmp rfl res_nil, hQ⟩
theorem mpages_ok (p1 : 8 ≤ pg) (h : E.sums 61 = none) (Q : KC) (hQ : Q (.ret (.int .i64 (wrapFast .i64 (subF (.ofNat pg) 2)))) M) : CallsTo E 61 [.ptr m 0] M Q := by
  obtain ⟨_, ⟨fz, hm⟩, _⟩ := hM
  refine call_rule F.f61 rfl h ?_
  refine w_seq ?_
  refine w_region ?_
  refine vv (e_assign rfl) ?_
  refine w_nil ?_
  refine k_seq ?_
  refine w_seq ?_
  refine w_seq ?_
  refine w_region ?_
  refine vv (e_move rfl) ?_
  refine vv (e_eqlp rfl rfl F.u46) ?_
  refine w_nil ?_
  refine k_seq ?_
  refine vf ?_
  refine w_skip ?_
  refine k_seq ?_
  refine w_seq ?_
  refine w_region ?_
  refine vv (e_move rfl) ?_
  refine vv rfl ?_
  refine vv (e_fa rfl F.fa124_1) ?_
  refine vv (e_fa rfl F.fa23_1) ?_
  refine vv (e_loadn rfl F.na3 zS zC) ?_
  refine vv rfl ?_
  refine vv (e_assign rfl) ?_
  refine w_nil ?_
  refine k_seq ?_
  refine w_ret ?_
  exact ⟨_, res_tmp rfl res_nil, hQ⟩
def noE : Ent := ⟨0, 0, 0, 0, 0, false⟩
include hg
theorem block_un (hz : z 0 = -1) (h : E.sums 158 = none) (Q : KC) (hQ : ∀ M', Same M M' → Q (.ret (.tup [.agg noE.av, .bool false])) M') : CallsTo E 158 [.ptr m 0, .int .i64 0] M Q := by
  obtain ⟨_, ⟨fz, hm⟩, _, ⟨fZ, hZ⟩, ⟨l1, l2, l3⟩, _⟩ := hM
  have b1 := hg.b1
  have r1 := hg.r1
  have hp : 0 < bl - rs - 2 := by omega
  have h0 : (intL z (bl - rs - 2))[0 + 0 * 1]? = some (.int .i64 (-1)) := (intL_get z hp).trans (by rw [hz])
  refine call_rule F.f158 rfl h ?_
  refine w_seq ?_
  refine w_region ?_
  refine vv (e_alloc F.z156) ?_
  refine vv (e_assign rfl) ?_
  refine w_nil ?_
  refine k_seq ?_
  refine w_seq ?_
  refine w_seq ?_
  refine w_region ?_
  refine vv (e_move rfl) ?_
  refine vv (e_eqlp rfl rfl F.u46) ?_
  refine vv (e_move rfl) ?_
  refine vg (e_move rfl) ?_
  refine vg rfl ?_
  refine vv rfl ?_
  refine vv (e_move rfl) ?_
  refine vg (e_move rfl) ?_
  refine vg (e_move rfl) ?_
  refine vg rfl ?_
  refine vg (e_fa rfl F.fa124_3) ?_
  refine vg (e_loadn rfl F.na59 (gn (by omega) zS) zC) ?_
  refine vg (e_len_sl rfl rfl rfl rfl F.u59) ?_
  refine vg rfl ?_
  refine vv rfl ?_
  refine vv (e_move rfl) ?_
  have e1 : iltF 0 (.ofNat (bl - rs - 2)) = true := ilt_t (a := 0) hp
  rw [e1]
  refine vg (e_move rfl) ?_
  refine vg rfl ?_
  refine vg (e_fa rfl F.fa124_3) ?_
  refine vg (e_loadn rfl F.na59 (gn (by omega) zS) zC) ?_
  refine vg (e_move rfl) ?_
  refine vg (e_indexAddr rfl rfl F.u59 F.sz3 zD) ?_
  refine vg (e_loadn rfl F.na3 (gn (by omega) zS) zC) ?_
  refine vg rfl ?_
  refine vv rfl ?_
  refine w_nil ?_
  refine k_seq ?_
  refine vt ?_
  refine w_seq ?_
  refine w_region ?_
  refine vv (e_build rfl F.bd156 rfl) ?_
  refine vd (e_store rfl rfl F.sz156 g0 zN rfl) ?_
  refine vv (e_assign rfl) ?_
  refine w_nil ?_
  refine k_seq ?_
  refine w_ret ?_
  refine k_ret ?_
  exact ⟨_, res_cella rfl F.ag156 F.sz156 s0 (Nat.le_refl _) (res_tmp rfl res_nil), hQ _ ((Same.refl M).new.set (Nat.le_refl _))⟩
theorem used_un (hz : z 0 = -1) (h1 : E.sums 158 = none) (h : E.sums 84 = none) (Q : KC) (hQ : ∀ M', Same M M' → Q (.ret (.int .i64 0)) M') : CallsTo E 84 [.ptr m 0, .int .i64 0] M Q := by
  refine call_rule F.f84 rfl h ?_
  refine w_seq ?_
  refine w_region ?_
  refine vv (e_assign rfl) ?_
  refine w_nil ?_
  refine k_seq ?_
  refine w_seq ?_
  refine w_region ?_
  refine vv (e_move rfl) ?_
  refine vv (e_move rfl) ?_
  refine vc (e_call rfl rfl F.f158 rfl) (block_un F hM hg hz h1 _ (fun M1 s1 => ?_))
  dsimp only
  refine vv (e_move rfl) ?_
  refine vv rfl ?_
  refine vv rfl ?_
  refine vv (e_alloc F.z156) ?_
  refine vd (e_store rfl rfl F.sz156 g0 zN rfl) ?_
  refine vv (e_assign rfl) ?_
  refine w_nil ?_
  refine k_seq ?_
  refine w_seq ?_
  refine w_region ?_
  refine vv (e_fa rfl F.fa156_3) ?_
  refine vv (e_loadn rfl F.na3 s0 zC) ?_
  refine vv (e_assign rfl) ?_
  refine w_nil ?_
  refine k_seq ?_
  refine w_ret ?_
  exact ⟨_, res_tmp rfl res_nil, hQ _ (s1.new.set s1.1)⟩
theorem closed_un (hz : z 0 = -1) (h1 : E.sums 158 = none) (h : E.sums 109 = none) (Q : KC) (hQ : ∀ M', Same M M' → Q (.ret (.bool false)) M') : CallsTo E 109 [.ptr m 0, .int .i64 0] M Q := by
  refine call_rule F.f109 rfl h ?_
  refine w_seq ?_
  refine w_region ?_
  refine vv (e_assign rfl) ?_
  refine w_nil ?_
  refine k_seq ?_
  refine w_seq ?_
  refine w_region ?_
  refine vv (e_move rfl) ?_
  refine vv (e_move rfl) ?_
  refine vc (e_call rfl rfl F.f158 rfl) (block_un F hM hg hz h1 _ (fun M1 s1 => ?_))
  dsimp only
  refine vv (e_move rfl) ?_
  refine vv rfl ?_
  refine vv rfl ?_
  refine vv (e_alloc F.z156) ?_
  refine vd (e_store rfl rfl F.sz156 g0 zN rfl) ?_
  refine vv (e_assign rfl) ?_
  refine w_nil ?_
  refine k_seq ?_
  refine w_seq ?_
  refine w_region ?_
  refine vv (e_fa rfl F.fa156_5) ?_
  refine vv (e_loadn rfl F.na4 s0 zC) ?_
  refine vv (e_assign rfl) ?_
  refine w_nil ?_
  refine k_seq ?_
  refine w_ret ?_
  exact ⟨_, res_tmp rfl res_nil, hQ _ (s1.new.set s1.1)⟩
end
section
variable {E : Env} (F : Facts E)
include F
theorem wbegin0_ok (h : E.sums 200 = none) (M : AM) {p : Nat} (hp : 2 ≤ p) (hp2 : p ≤ 512) (Q : KC) (hQ : Q (.ret (.int .i64 (.ofNat 0))) M) : CallsTo E 200 [.int .i64 (.ofNat 0), .int .i64 (.ofNat p)] M Q := by
  refine call_rule F.f200 rfl h ?_
  refine w_seq ?_
  refine w_region ?_
  refine vv (e_assign rfl) ?_
  refine w_nil ?_
  refine k_seq ?_
  refine w_seq ?_
  refine w_seq ?_
  refine w_region ?_
  refine vv (e_move rfl) ?_
  refine vv (e_move rfl) ?_
  refine vv (e_rem64 rfl rfl (by omega)) ?_
  refine vv (e_move rfl) ?_
  refine vv rfl ?_
  refine vv rfl ?_
  refine w_nil ?_
  refine k_seq ?_
  rw [show (0 : Nat) % p = 0 from Nat.zero_mod p, show wrapFast .i64 (subF (.ofNat p) 1) = .ofNat (p - 1) from sub64 (b := 1) (by omega) (by omega), show ieqF (.ofNat 0) (.ofNat (p - 1)) = false from nbeq_false (by omega)]
  refine vf ?_
  refine w_skip ?_
  refine k_seq ?_
  refine w_seq ?_
  refine w_region ?_
  refine vv (e_move rfl) ?_
  refine vv (e_assign rfl) ?_
  refine w_nil ?_
  refine k_seq ?_
  refine w_ret ?_
  exact ⟨_, res_tmp rfl res_nil, hQ⟩
theorem wparts_ok (h : E.sums 178 = none) (M : AM) (v : AV) (p : Int) (l o1 o2 : Nat) (hv : v.cells = [v]) (Q : KC)
    (hQ : Q (.ret (.fn (.func 252) [] [.ptr M.nx 0, .ptr (M.nx + 1) 0, .ptr (M.nx + 2) 0, .ptr (M.nx + 3) 0])) ((((M.new (.cells [v] false false)).new (.cells [.int .i64 p] false false)).new (.cells [.ptr l o1] false false)).new (.cells [.ptr l o2] false false))) :
    CallsTo E 178 [v, .int .i64 p, .ptr l o1, .ptr l o2] M Q := by
  refine call_rule F.f178 rfl h ?_
  refine w_seq ?_
  refine w_region ?_
  refine vv rfl ?_
  refine vv rfl ?_
  refine vv rfl ?_
  refine vv rfl ?_
  refine vv (e_assign rfl) ?_
  refine w_nil ?_
  refine k_seq ?_
  refine w_seq ?_
  refine w_region ?_
  refine vv rfl ?_
  refine vv (e_assign rfl) ?_
  refine w_nil ?_
  refine k_seq ?_
  refine w_ret ?_
  rw [hv]
  exact ⟨_, res_tmp rfl res_nil, hQ⟩
theorem clonefr_ok (h : E.sums 179 = none) (M : AM) (Q : KC) (hQ : Q (.ret .nils) M) : CallsTo E 179 [.nils] M Q := by
  refine call_rule F.f179 rfl h ?_
  refine w_seq ?_
  refine w_region ?_
  refine vv (e_assign rfl) ?_
  refine w_nil ?_
  refine k_seq ?_
  refine w_seq ?_
  refine w_seq ?_
  refine w_region ?_
  refine vv (e_move rfl) ?_
  refine vv (e_eqlsnn rfl rfl F.u175) ?_
  refine w_nil ?_
  refine k_seq ?_
  refine vt ?_
  refine w_seq ?_
  refine w_region ?_
  refine vv (e_assign rfl) ?_
  refine w_nil ?_
  refine k_seq ?_
  refine w_ret ?_
  refine k_ret ?_
  exact ⟨_, res_tmp rfl res_nil, hQ⟩
theorem frames0_ok (h1 : E.sums 179 = none) (h : E.sums 98 = none) {M : AM} {l : Nat} {lc : List AV} {ro fz : Bool} (hl : M.get l = some (.cells lc ro fz)) (h4 : lc[0 + 4]? = some .nils) (Q : KC) (hQ : Q (.ret .nils) M) : CallsTo E 98 [.ptr l 0] M Q := by
  refine call_rule F.f98 rfl h ?_
  refine w_seq ?_
  refine w_region ?_
  refine vv (e_assign rfl) ?_
  refine w_nil ?_
  refine k_seq ?_
  refine w_seq ?_
  refine w_seq ?_
  refine w_region ?_
  refine vv (e_move rfl) ?_
  refine vv (e_eqlp rfl rfl F.u135) ?_
  refine w_nil ?_
  refine k_seq ?_
  refine vf ?_
  refine w_skip ?_
  refine k_seq ?_
  refine w_seq ?_
  refine w_region ?_
  refine vv (e_move rfl) ?_
  refine vv rfl ?_
  refine vv (e_fa rfl F.fa237_4) ?_
  refine vv (e_loadn rfl F.na175 zS zC) ?_
  refine vc (e_call rfl rfl F.f179 rfl) (clonefr_ok F h1 M _ ?_)
  dsimp only
  refine vv (e_assign rfl) ?_
  refine w_nil ?_
  refine k_seq ?_
  refine w_seq ?_
  refine w_seq ?_
  refine w_region ?_
  refine vv (e_move rfl) ?_
  refine vv (e_len_nils rfl rfl rfl rfl F.u175) ?_
  refine vv (e_move rfl) ?_
  refine w_nil ?_
  refine k_seq ?_
  refine w_block ?_
  refine w_loop ?_
  refine loop_inv (fun w ρ D M' => D = [] ∧ M' = M ∧ ρ 3 = some .nils ∧ ρ 13 = some (.int .i64 (.ofNat 0)) ∧ ρ 14 = some (.int .i64 (.ofNat 0))) ?_ 0 _ _ _ ⟨rfl, rfl, rfl, rfl, rfl⟩
  rintro w ρ D M' ⟨rfl, rfl, g3, g13, g14⟩
  rw [reg1 g3, reg1 g13, reg1 g14]
  refine w_seq ?_
  refine w_region ?_
  refine vv rfl ?_
  refine w_nil ?_
  refine k_seq ?_
  refine w_seq ?_
  refine vf ?_
  refine w_exit ?_
  refine k_exit ?_
  refine k_exit ?_
  refine b_here ?_
  refine k_seq ?_
  refine w_seq ?_
  refine w_region ?_
  refine vv (e_move rfl) ?_
  refine vv (e_assign rfl) ?_
  refine w_nil ?_
  refine k_seq ?_
  refine w_ret ?_
  exact ⟨_, res_tmp rfl res_nil, hQ⟩
end
end Go.Abm.Seat
