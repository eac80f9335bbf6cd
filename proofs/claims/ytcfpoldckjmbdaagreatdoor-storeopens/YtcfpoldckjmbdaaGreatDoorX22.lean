/-
  A part of the proof that pumicelaw17.StoreOpens returns true for every geometry, key, number and group (a machine over names of blocks, its soundness, the calls of the store for any geometry, the chapter's example as a run). Condition: the listed package variables hold what the program's text lays; the card ties that.
-/
import Derived.Test.YtcfpoldckjmbdaaGreatDoorX21
set_option linter.unusedVariables false
set_option linter.unusedSimpArgs false
set_option linter.unusedSectionVars false
open Go Go.Abm
set_option maxRecDepth 100000
set_option maxHeartbeats 4000000
namespace Go.Abm.Seat
theorem lebs_ok {E : Env} (F : Facts E) (h1 : E.sums 124 = none) (h2 : E.sums 52 = none) (h3 : E.sums 162 = none) (M : AM) {bl pg sz rs : Nat} (hg : Geo bl pg sz rs) (hr : rightB (.ofNat bl) (.ofNat pg) (.ofNat sz) (.ofNat rs) = true) (Q : KC)
    (hQ : ∀ M', Same M M' → Q (.ret (.int .i64 (.ofNat (bl - rs - 2)))) M') :
    CallsTo E 162 [.agg [.int .i64 (.ofNat bl), .int .i64 (.ofNat pg), .int .i64 (.ofNat sz), .int .i64 (.ofNat rs)]] M Q := by
  obtain ⟨b1, b2, p1, p2, s1, s2, r1⟩ := hg
  refine call_rule F.f162 rfl h3 ?_
  refine w_seq ?_
  refine w_region ?_
  refine vv rfl ?_
  refine vv (e_assign rfl) ?_
  refine w_nil ?_
  refine k_seq ?_
  refine w_seq ?_
  refine w_seq ?_
  refine w_region ?_
  refine vv (e_loada rfl F.ag23 F.sz23 g0 zN) ?_
  refine vc (e_call rfl rfl F.f52 rfl) (right_ok F h1 h2 _ _ _ _ _ _ (fun M1 hn1 hs1 => ?_))
  have hc : M1.get M.nx = some (.cells [.int .i64 (.ofNat bl), .int .i64 (.ofNat pg), .int .i64 (.ofNat sz), .int .i64 (.ofNat rs)] false false) := by
    rw [hs1.2 M.nx (Nat.lt_succ_self _), AM.get_new_self]; rfl
  dsimp only
  rw [hr]
  refine vv rfl ?_
  refine w_nil ?_
  refine k_seq ?_
  refine vf ?_
  refine w_skip ?_
  refine k_seq ?_
  refine w_seq ?_
  refine w_region ?_
  refine vv (e_fa rfl F.fa23_0) ?_
  refine vv (e_loadn rfl F.na3 zS zC) ?_
  refine vv (e_fa rfl F.fa23_3) ?_
  refine vv (e_loadn rfl F.na3 zS zC) ?_
  refine vv rfl ?_
  refine vv rfl ?_
  refine vv (e_assign rfl) ?_
  refine w_nil ?_
  refine k_seq ?_
  refine w_ret ?_
  have e : wrapFast .i64 (subF (wrapFast .i64 (subF (.ofNat bl) (.ofNat rs))) 2) = .ofNat (bl - rs - 2) := by
    have e1 : subF (.ofNat bl) (.ofNat rs) = .ofNat (bl - rs) := by show (bif Nat.ble rs bl then _ else _) = _; rw [ble_t (by omega)]; rfl
    have e2 : ∀ n : Nat, n ≤ 9223372036854775807 → wrapFast .i64 (.ofNat n) = .ofNat n := fun n h => by show (bif Nat.ble n 9223372036854775807 then _ else _) = _; rw [ble_t h]; rfl
    have e3 : subF (.ofNat (bl - rs)) 2 = .ofNat (bl - rs - 2) := by show (bif Nat.ble 2 (bl - rs) then _ else _) = _; rw [ble_t (by omega)]; rfl
    rw [e1, e2 _ (by omega), e3, e2 _ (by omega)]
  exact ⟨_, res_tmp rfl res_nil, by rw [e]; exact hQ _ ((Same.refl M).new.trans hs1)⟩
theorem page0_ok {E : Env} (F : Facts E) (h1 : E.sums 240 = none) (h2 : E.sums 291 = none) (h3 : E.sums 290 = none)
    {M : AM} {c B p0 bl pg sz rs : Nat} {nx : Nat → Nat} {pcs : Nat → List AV} (h : Chip M c B p0 bl pg sz rs nx pcs) {k n : Nat} {lk : List AV} {ro fz : Bool} (hk : M.get k = some (.cells (.ptr c 0 :: lk) ro fz)) (hn : n < bl) (hz : nx n = 0) (Q : KC) (hQ : Q (.ret (.tup [.nils, .bool false])) M) :
    CallsTo E 290 [.ptr k 0, .int .i64 (.ofNat n), .int .i64 (.ofNat 0)] M Q := by
  refine call_rule F.f290 rfl h3 ?_
  refine w_seq ?_
  refine w_region ?_
  refine vv (e_assign rfl) ?_
  refine vv (e_assign rfl) ?_
  refine w_nil ?_
  refine k_seq ?_
  refine w_seq ?_
  refine w_seq ?_
  refine w_region ?_
  refine vv (e_move rfl) ?_
  refine vv (e_move rfl) ?_
  refine vv rfl ?_
  refine vv (e_fa rfl F.fa374_0) ?_
  refine vv (e_loadn rfl F.na39 zS zC) ?_
  refine vv (e_move rfl) ?_
  refine vc (e_call rfl rfl F.f291 rfl) (next_c F h1 h2 h hn _ ?_)
  dsimp only
  rw [hz]
  refine vv rfl ?_
  refine w_nil ?_
  refine k_seq ?_
  refine vt ?_
  refine w_seq ?_
  refine w_region ?_
  refine vv (e_assign rfl) ?_
  refine vv (e_assign rfl) ?_
  refine w_nil ?_
  refine k_seq ?_
  refine w_ret ?_
  refine k_ret ?_
  exact ⟨_, res_tmp rfl (res_tmp rfl res_nil), hQ⟩
def spE : Ent := ⟨3, 0, 0, 0, 0, false⟩
def frE : Ent := ⟨2, 1, 0, 0, 0, false⟩
theorem block0_ok {E : Env} (F : Facts E) (h1 : E.sums 240 = none) (h2 : E.sums 291 = none) (h3 : E.sums 290 = none) (h4 : E.sums 289 = none) (h5 : E.sums 239 = none)
    {M : AM} {c B p0 bl pg sz rs : Nat} {nx : Nat → Nat} {pcs : Nat → List AV} (h : Chip M c B p0 bl pg sz rs nx pcs) {k n : Nat} {lk : List AV} {ro fz : Bool} (hk : M.get k = some (.cells (.ptr c 0 :: lk) ro fz)) (lkn : k < M.nx) (hn : n < bl) (hz : nx n = 0) (Q : KC) (hQ : ∀ M', Same M M' → Q (.ret (.tup [.agg spE.av, .bool false])) M') :
    CallsTo E 239 [.ptr k 0, .int .i64 (.ofNat n)] M Q := by
  refine call_rule F.f239 rfl h5 ?_
  refine w_seq ?_
  refine w_region ?_
  refine vv (e_alloc F.z156) ?_
  refine vv (e_assign rfl) ?_
  refine w_nil ?_
  refine k_seq ?_
  refine w_seq ?_
  refine w_seq ?_
  refine w_region ?_
  refine vv (e_move rfl) ?_
  refine vv rfl ?_
  refine vv (e_fa rfl F.fa374_0) ?_
  refine vv (e_loadn rfl F.na39 (gn (by omega) zS) zC) ?_
  refine vv (e_move rfl) ?_
  refine vc (e_call rfl rfl F.f289 rfl) (bad_c F h1 h4 (h.same (Same.refl M).new) hn _ ?_)
  dsimp only
  refine w_nil ?_
  refine k_seq ?_
  refine vf ?_
  refine w_skip ?_
  refine k_seq ?_
  refine w_seq ?_
  refine w_region ?_
  refine vv (e_build rfl F.bd156 rfl) ?_
  refine vv (e_alloc F.z156) ?_
  refine vd (e_store rfl rfl F.sz156 g0 zN rfl) ?_
  refine w_nil ?_
  refine k_seq ?_
  refine w_seq ?_
  refine w_region ?_
  refine vv (e_move rfl) ?_
  refine vv (e_move rfl) ?_
  refine vc (e_call rfl rfl F.f290 rfl) (page0_ok F h1 h2 h3 (h.same ((Same.refl M).new.new.set (by simp only [AM.nx_new]; omega))) (gs (by simp only [AM.nx_new]; omega) (gn (by simp only [AM.nx_new]; omega) (gn lkn hk))) hn hz _ ?_)
  dsimp only
  refine vv (e_move rfl) ?_
  refine vv rfl ?_
  refine vv rfl ?_
  refine vv (e_assign rfl) ?_
  refine vv (e_assign rfl) ?_
  refine w_nil ?_
  refine k_seq ?_
  refine w_seq ?_
  refine w_seq ?_
  refine w_region ?_
  refine vv (e_move rfl) ?_
  refine vv rfl ?_
  refine w_nil ?_
  refine k_seq ?_
  refine vt ?_
  refine w_seq ?_
  refine w_region ?_
  refine vv (e_loada rfl F.ag156 F.sz156 s0 zN) ?_
  refine vd (e_store rfl rfl F.sz156 (by first | assumption | exact g0 | exact s0 | (repeat first | assumption | exact g0 | exact s0 | refine gn zL ?_ | refine gs zL ?_)) zN rfl) ?_
  refine vv (e_assign rfl) ?_
  refine w_nil ?_
  refine k_seq ?_
  refine w_ret ?_
  refine k_ret ?_
  exact ⟨_, res_cella rfl F.ag156 F.sz156 s0 (Nat.le_refl _) (res_tmp rfl res_nil), hQ _ (((Same.refl M).new.new.set (by simp only [AM.nx_new]; omega)).set (Nat.le_refl _))⟩
theorem blocks_ok {E : Env} (F : Facts E) (h : E.sums 238 = none) (M : AM) (v : AV) (s : Int) (hv : v.cells = [v]) (Q : KC) (hQ : Q (.ret (.fn (.func 288) [] [.ptr M.nx 0, .ptr (M.nx + 1) 0])) ((M.new (.cells [v] false false)).new (.cells [.int .i64 s] false false))) :
    CallsTo E 238 [v, .int .i64 s] M Q := by
  refine call_rule F.f238 rfl h ?_
  refine w_seq ?_
  refine w_region ?_
  refine vv rfl ?_
  refine vv rfl ?_
  refine vv (e_assign rfl) ?_
  refine w_nil ?_
  refine k_seq ?_
  refine w_seq ?_
  refine w_region ?_
  refine vv rfl ?_
  refine vv (e_assign rfl) ?_
  refine w_nil ?_
  refine k_seq ?_
  refine w_ret ?_
  rw [hv]
  exact ⟨_, res_tmp rfl res_nil, hQ⟩
end Go.Abm.Seat

open Go Go.Abm
set_option maxRecDepth 100000
set_option maxHeartbeats 4000000
namespace Go.Abm.Seat
theorem ieq_ne {a b : Int} (h : a ≠ b) : ieqF a b = false := by
  rw [ieqF_eq]; simpa using h
theorem blocksN_ok {E : Env} (F : Facts E) (h : E.sums 288 = none) (M : AM) {a b L m : Nat} {f : Nat → Ent} {y : AV} {s : Int} {g : Option Nat} {r0 r1 f0 f1 fz : Bool} (ha : M.get a = some (.cells [.sl L 0 m m g] r0 f0)) (hb : M.get b = some (.cells [.int .i64 s] r1 f1)) (hL : M.get L = some (.cells (entL f m) false fz))
    (la : a < M.nx) (lb : b < M.nx) (lL : L < M.nx) (hm : m ≤ 256) (hs : ∀ i, i < m → (f i).s ≠ s) (Q : KC) (hQ : ∀ M', Same M M' → Q (.ret (.tup [])) M') :
    CallsTo E 288 [y, .ptr a 0, .ptr b 0] M Q := by
  refine call_rule F.f288 rfl h ?_
  refine w_seq ?_
  refine w_region ?_
  refine vv (e_loadn rfl F.na122 zS zC) ?_
  refine vv (e_len_sl rfl rfl rfl rfl F.u122) ?_
  refine vv (e_move rfl) ?_
  refine w_nil ?_
  refine k_seq ?_
  refine w_block ?_
  refine w_loop ?_
  refine loop_inv (fun z ρ D M' => D = [] ∧ Same M M' ∧ ∃ i, z = m - i ∧ i ≤ m ∧ ρ 0 = some y ∧ ρ 2 = some (.ptr b 0) ∧ ρ 6 = some (.sl L 0 m m g) ∧ ρ 7 = some (.int .i64 (.ofNat m)) ∧ ρ 8 = some (.int .i64 (.ofNat i))) ?_ m _ _ _ ⟨rfl, Same.refl M, 0, rfl, Nat.zero_le _, rfl, rfl, rfl, rfl, rfl⟩
  rintro z ρ D M' ⟨rfl, hs', i, rfl, hi, g0', g2, g6, g7, g8⟩
  have hb' := (hs'.2 b lb).trans hb
  have hL' := (hs'.2 L lL).trans hL
  have hx := hs'.1
  rw [reg1 g0', reg1 g2, reg1 g6, reg1 g7, reg1 g8]
  refine w_seq ?_
  refine w_region ?_
  refine vv rfl ?_
  refine w_nil ?_
  refine k_seq ?_
  refine w_seq ?_
  refine w_cond rfl (fun h => ?_) (fun h => ?_)
  case refine_2 =>
    refine w_exit ?_
    refine k_exit ?_
    refine k_exit ?_
    refine b_here ?_
    exact ⟨_, res_nil, hQ M' hs'⟩
  have hlt := ilt_lt h
  refine w_skip ?_
  refine k_seq ?_
  refine w_seq ?_
  refine w_block ?_
  refine w_seq ?_
  refine w_region ?_
  refine vv (e_move rfl) ?_
  refine vv (e_indexAddr rfl rfl F.u122 F.sz156 zD) ?_
  refine vv (e_loada rfl F.ag156 F.sz156 hL' (by rw [entL_len]; show 0 + i * 6 + 6 ≤ m * 6; omega)) ?_
  rw [entL_take f hlt]
  refine vv (e_alloc F.z156) ?_
  refine vv (e_assign rfl) ?_
  refine vd (e_store rfl rfl F.sz156 g0 zN rfl) ?_
  refine w_nil ?_
  refine k_seq ?_
  refine w_seq ?_
  refine w_region ?_
  refine vv (e_fa rfl F.fa156_0) ?_
  refine vv (e_loadn rfl F.na3 s0 zC) ?_
  refine vv (e_loadn rfl F.na3 (by first | assumption | exact g0 | exact s0 | (repeat first | assumption | exact g0 | exact s0 | refine gn zL ?_ | refine gs zL ?_)) zC) ?_
  refine vv rfl ?_
  refine vv (e_move rfl) ?_
  have he : ieqF (f i).s s = false := ieq_ne (hs i hlt)
  rw [he]
  refine vn ?_
  refine vn ?_
  refine vn ?_
  refine vn ?_
  refine vn ?_
  refine vv rfl ?_
  refine w_nil ?_
  refine k_seq ?_
  refine vf ?_
  refine w_skip ?_
  refine b_normal ?_
  refine k_seq ?_
  refine w_region ?_
  refine vv rfl ?_
  refine vv (e_move rfl) ?_
  refine w_nil ?_
  refine k_seq ?_
  exact ⟨m - (i + 1), by omega, rfl, hs'.new.set hx, i + 1, rfl, hlt, rfl, rfl, rfl, rfl, inc64v (by omega)⟩
theorem good_ok {E : Env} (F : Facts E) (h : E.sums 59 = none) (M : AM) {L m : Nat} {f : Nat → Ent} {g : Option Nat} {fz : Bool} (hL : M.get L = some (.cells (entL f m) false fz)) (lL : L < M.nx) (hm : m ≤ 256) (hs : ∀ i, i < m → (f i).s ≠ 1) (Q : KC) (hQ : ∀ M', Same M M' → Q (.ret (.int .i64 (.ofNat m))) M') :
    CallsTo E 59 [.sl L 0 m m g] M Q := by
  refine call_rule F.f59 rfl h ?_
  refine w_seq ?_
  refine w_region ?_
  refine vv (e_assign rfl) ?_
  refine w_nil ?_
  refine k_seq ?_
  refine w_seq ?_
  refine w_region ?_
  refine vv (e_assign rfl) ?_
  refine w_nil ?_
  refine k_seq ?_
  refine w_seq ?_
  refine w_seq ?_
  refine w_region ?_
  refine vv (e_move rfl) ?_
  refine vv (e_len_sl rfl rfl rfl rfl F.u122) ?_
  refine vv (e_move rfl) ?_
  refine w_nil ?_
  refine k_seq ?_
  refine w_block ?_
  refine w_loop ?_
  refine loop_inv (fun z ρ D M' => D = [] ∧ Same M M' ∧ ∃ i, z = m - i ∧ i ≤ m ∧ ρ 3 = some (.int .i64 (.ofNat i)) ∧ ρ 6 = some (.sl L 0 m m g) ∧ ρ 7 = some (.int .i64 (.ofNat m)) ∧ ρ 8 = some (.int .i64 (.ofNat i))) ?_ m _ _ _ ⟨rfl, Same.refl M, 0, rfl, Nat.zero_le _, rfl, rfl, rfl, rfl⟩
  rintro z ρ D M' ⟨rfl, hs', i, rfl, hi, g3, g6, g7, g8⟩
  have hL' := (hs'.2 L lL).trans hL
  have hx := hs'.1
  rw [reg1 g3, reg1 g6, reg1 g7, reg1 g8]
  refine w_seq ?_
  refine w_region ?_
  refine vv rfl ?_
  refine w_nil ?_
  refine k_seq ?_
  refine w_seq ?_
  refine w_cond rfl (fun h => ?_) (fun h => ?_)
  case refine_2 =>
    have he : i = m := by have := ilt_ge h; omega
    subst he
    refine w_exit ?_
    refine k_exit ?_
    refine k_exit ?_
    refine b_here ?_
    refine k_seq ?_
    refine w_seq ?_
    refine w_region ?_
    refine vv (e_move rfl) ?_
    refine vv (e_assign rfl) ?_
    refine w_nil ?_
    refine k_seq ?_
    refine w_ret ?_
    exact ⟨_, res_tmp rfl res_nil, hQ M' hs'⟩
  have hlt := ilt_lt h
  refine w_skip ?_
  refine k_seq ?_
  refine w_seq ?_
  refine w_block ?_
  refine w_seq ?_
  refine w_region ?_
  refine vv (e_indexAddr rfl rfl F.u122 F.sz156 zD) ?_
  refine vv (e_loada rfl F.ag156 F.sz156 hL' (by rw [entL_len]; show 0 + i * 6 + 6 ≤ m * 6; omega)) ?_
  rw [entL_take f hlt]
  refine vv (e_alloc F.z156) ?_
  refine vd (e_store rfl rfl F.sz156 g0 zN rfl) ?_
  refine w_nil ?_
  refine k_seq ?_
  refine w_seq ?_
  refine w_region ?_
  refine vv (e_fa rfl F.fa156_0) ?_
  refine vv (e_loadn rfl F.na3 s0 zC) ?_
  refine w_nil ?_
  refine k_seq ?_
  refine w_block ?_
  refine w_seq ?_
  refine w_region ?_
  refine vv rfl ?_
  refine vv (e_assign rfl) ?_
  refine w_nil ?_
  refine k_seq ?_
  have he : ieqF (f i).s 1 = false := ieq_ne (hs i hlt)
  rw [he]
  refine vf ?_
  refine w_region ?_
  refine vv (e_move rfl) ?_
  refine vv rfl ?_
  refine vv (e_assign rfl) ?_
  refine w_nil ?_
  refine b_normal ?_
  refine b_normal ?_
  refine k_seq ?_
  refine w_region ?_
  refine vv rfl ?_
  refine vv (e_move rfl) ?_
  refine w_nil ?_
  refine k_seq ?_
  exact ⟨m - (i + 1), by omega, rfl, hs'.new.set hx, i + 1, rfl, hlt, inc64v (by omega), rfl, rfl, inc64v (by omega)⟩
end Go.Abm.Seat

open Go Go.Abm
set_option maxRecDepth 100000
set_option maxHeartbeats 4000000
namespace Go.Abm.Seat
theorem findN_ok {E : Env} (F : Facts E) (h1 : E.sums 288 = none) (h2 : E.sums 238 = none) (h : E.sums 163 = none) (M : AM) {L m : Nat} {f : Nat → Ent} {g : Option Nat} {fz : Bool} (hL : M.get L = some (.cells (entL f m) false fz)) (lL : L < M.nx) (hm : m ≤ 256) (hs : ∀ i, i < m → (f i).s ≠ 4) (x : Int) (Q : KC) (hQ : ∀ M', Same M M' → Q (.ret (.int .i64 (-1))) M') :
    CallsTo E 163 [.sl L 0 m m g, .int .i64 x] M Q := by
  refine call_rule F.f163 rfl h ?_
  refine w_seq ?_
  refine w_region ?_
  refine vv rfl ?_
  refine vv (e_alloc F.z3) ?_
  refine w_nil ?_
  refine k_seq ?_
  refine w_seq ?_
  refine w_seq ?_
  refine w_region ?_
  refine vv (e_move rfl) ?_
  refine vc (e_call rfl rfl F.f238 rfl) (blocks_ok F h2 _ (.sl L 0 m m g) 4 rfl _ ?_)
  dsimp only
  refine w_nil ?_
  refine k_seq ?_
  refine w_block ?_
  refine w_rangeN rfl (fun M2 => a_callv F.f288 rfl) (fun M2 hs2 hn2 => blocksN_ok F h1 M2 (a := M.nx + 1 + 1) (b := M.nx + 1 + 1 + 1) ((hs2.2 _ (by simp only [AM.nx_new]; omega)).trans (gn (by simp only [AM.nx_new]; omega) g0)) ((hs2.2 _ (by simp only [AM.nx_new]; omega)).trans g0) ((hs2.2 L (by simp only [AM.nx_new]; omega)).trans (gn (by simp only [AM.nx_new]; omega) (gn (by simp only [AM.nx_new]; omega) (gn (by simp only [AM.nx_new]; omega) (gn lL hL))))) (by simp only [AM.nx_new] at hn2; omega) (by simp only [AM.nx_new] at hn2; omega) (by simp only [AM.nx_new] at hn2; omega) hm hs _ (fun M3 hs3 => ⟨_, rfl, hs3⟩)) (fun M4 hs4 hd hn4 => ?_)
  refine b_normal ?_
  refine k_seq ?_
  refine w_seq ?_
  refine w_region ?_
  have h4 : M4.get (M.nx + 1) = some (.cells [.int .i64 0] false false) := (hs4.2 _ (by simp only [AM.nx_new]; omega)).trans (gn (by simp only [AM.nx_new]; omega) (gn (by simp only [AM.nx_new]; omega) g0))
  refine vd (e_store rfl rfl F.sz3 h4 (by show 0 + 1 ≤ 1; omega) rfl) ?_
  refine w_nil ?_
  refine k_seq ?_
  refine w_ret ?_
  have hne : M.nx + 1 + 1 + 1 + 1 ≠ M.nx + 1 := by omega
  have S4 : Same M M4 := (Same.refl M).new.new.new.new.trans hs4
  refine def_coll (gs hne hd) ⟨_, res_celln rfl F.na3 (gs (Ne.symm hne) s0) rfl res_nil, hQ _ ((S4.set (by simp only [AM.nx_new]; omega)).set (by simp only [AM.nx_new]; omega))⟩
end Go.Abm.Seat

open Go Go.Abm
set_option maxRecDepth 100000
set_option maxHeartbeats 4000000
namespace Go.Abm.Seat
theorem scan_ok {E : Env} (F : Facts E) (h1 : E.sums 240 = none) (h2 : E.sums 291 = none) (h3 : E.sums 290 = none) (h4 : E.sums 289 = none) (h5 : E.sums 239 = none)
    (h6 : E.sums 55 = none) (h7 : E.sums 50 = none) (h8 : E.sums 288 = none) (h9 : E.sums 238 = none) (h : E.sums 161 = none)
    {M : AM} {c B p0 bl pg sz rs : Nat} {nx : Nat → Nat} {pcs : Nat → List AV} (hch : Chip M c B p0 bl pg sz rs nx pcs) (hg : Geo bl pg sz rs) (hz : ∀ i, i < bl → nx i = 0) (Q : KC)
    (hQ : ∀ M' L, Same M M' → M.nx ≤ L → L < M'.nx → M'.get L = some (.cells (entL (fun _ => spE) bl) false false) → Q (.ret (.tup [.sl L 0 bl bl (some 6), .int .i64 0])) M') :
    CallsTo E 161 [.ptr c 0] M Q := by
  obtain ⟨b1, b2, p1, p2, s1, s2, r1⟩ := hg
  refine call_rule F.f161 rfl h ?_
  refine w_seq ?_
  refine w_region ?_
  refine vv (e_assign rfl) ?_
  refine vv (e_assign rfl) ?_
  refine w_nil ?_
  refine k_seq ?_
  refine w_seq ?_
  refine w_seq ?_
  refine w_region ?_
  refine vv (e_move rfl) ?_
  refine vv (e_eqlp rfl rfl F.u39) ?_
  refine w_nil ?_
  refine k_seq ?_
  refine vf ?_
  refine w_skip ?_
  refine k_seq ?_
  refine w_seq ?_
  refine w_seq ?_
  refine w_region ?_
  refine vv (e_move rfl) ?_
  refine vc (e_call rfl rfl F.f55 rfl) (on_c F h6 hch _ ?_)
  dsimp only
  refine vv rfl ?_
  refine w_nil ?_
  refine k_seq ?_
  refine vf ?_
  refine w_skip ?_
  refine k_seq ?_
  refine w_seq ?_
  refine w_region ?_
  refine vv (e_move rfl) ?_
  refine vv (e_move rfl) ?_
  refine vc (e_call rfl rfl F.f50 rfl) (geom_c F h7 hch _ (fun M1 hs1 => ?_))
  dsimp only
  refine vv (e_build rfl F.bd374 rfl) ?_
  refine vv rfl ?_
  refine vv (e_assign rfl) ?_
  refine w_nil ?_
  refine k_seq ?_
  refine w_seq ?_
  refine w_region ?_
  refine vv (e_alloc F.z122) ?_
  refine w_nil ?_
  refine k_seq ?_
  refine w_seq ?_
  refine w_region ?_
  refine vv (e_assign rfl) ?_
  refine w_nil ?_
  refine k_seq ?_
  refine w_seq ?_
  refine w_region ?_
  refine vv (e_assign rfl) ?_
  refine vv (e_assign rfl) ?_
  refine w_nil ?_
  refine k_seq ?_
  refine w_seq ?_
  refine w_seq ?_
  refine w_region ?_
  refine vv (e_move rfl) ?_
  refine vv rfl ?_
  refine vv (e_fa rfl F.fa374_1) ?_
  refine vv (e_fa rfl F.fa23_0) ?_
  refine vv (e_loadn rfl F.na3 (by first | assumption | exact g0 | exact s0 | (repeat first | assumption | exact g0 | exact s0 | refine gn zL ?_ | refine gs zL ?_)) zC) ?_
  refine vv (e_move rfl) ?_
  refine w_nil ?_
  refine k_seq ?_
  refine w_block ?_
  have hx1 := hs1.1
  refine w_loop ?_
  refine loop_inv (fun z ρ D M' => D = [] ∧ Same M M' ∧ ∃ i v w, z = bl - i ∧ i ≤ bl ∧ ρ 4 = some (.ptr M1.nx 0) ∧ ρ 5 = some (.ptr (M1.nx + 1) 0) ∧ ρ 6 = some w ∧ ρ 7 = some (.int .i64 (.ofNat 0)) ∧ ρ 8 = some (.int .i64 (.ofNat 0)) ∧ ρ 35 = some (.int .i64 (.ofNat bl)) ∧ ρ 36 = some (.int .i64 (.ofNat i)) ∧ M1.nx + 2 ≤ M'.nx ∧
    M'.get M1.nx = some (.cells [.ptr c 0, .int .i64 (.ofNat bl), .int .i64 (.ofNat pg), .int .i64 (.ofNat sz), .int .i64 (.ofNat rs)] false false) ∧ M'.get (M1.nx + 1) = some (.cells [v] false false) ∧
    GS M' 6 v i (entL (fun _ => spE) i) ∧ GS M' 1 w i (List.replicate i (.bool false)) ∧ (∀ b, blkOf v b → M1.nx + 2 ≤ b ∧ b < M'.nx ∧ ¬blkOf w b) ∧ (∀ b, blkOf w b → M1.nx + 2 ≤ b ∧ b < M'.nx)) ?_ bl _ _ _
    ⟨rfl, hs1.new.new, 0, .nils, .nils, rfl, Nat.zero_le _, rfl, rfl, rfl, rfl, rfl, rfl, rfl, Nat.le_refl _, ?_, ?_, Or.inl ⟨rfl, rfl, rfl⟩, Or.inl ⟨rfl, rfl, rfl⟩, ?_, ?_⟩
  rotate_left
  · exact gn (by simp only [AM.nx_new]; omega) g0
  · exact g0
  · rintro b ⟨_, _, _, _, e⟩; cases e
  · rintro b ⟨_, _, _, _, e⟩; cases e
  rintro z ρ D M' ⟨rfl, hs, i, v, w, rfl, hi, g4, g5, g6, g7, g8, g35, g36, hn, hk, ht, gv, gw, dv, dw⟩
  rw [reg1 g4, reg1 g5, reg1 g6, reg1 g7, reg1 g8, reg1 g35, reg1 g36]
  refine w_seq ?_
  refine w_region ?_
  refine vv rfl ?_
  refine w_nil ?_
  refine k_seq ?_
  refine w_seq ?_
  refine w_cond rfl (fun h => ?_) (fun h => ?_)
  case refine_1 =>
    have hlt := ilt_lt h
    refine w_skip ?_
    refine k_seq ?_
    refine w_seq ?_
    refine w_block ?_
    refine w_seq ?_
    refine w_region ?_
    refine vv (e_move rfl) ?_
    refine vv (e_assign rfl) ?_
    refine w_nil ?_
    refine k_seq ?_
    refine w_seq ?_
    refine w_region ?_
    refine vv (e_move rfl) ?_
    refine vv (e_move rfl) ?_
    refine vc (e_call rfl rfl F.f239 rfl) (block0_ok F h1 h2 h3 h4 h5 (hch.same hs) hk (by omega) hlt (hz i hlt) _ (fun M2 hs2 => ?_))
    dsimp only
    have hn2 := hs2.1
    have ht2 : M2.get (M1.nx + 1) = some (.cells [v] false false) := (hs2.2 _ (by omega)).trans ht
    have hk2 := (hs2.2 M1.nx (by omega)).trans hk
    refine vv (e_move rfl) ?_
    refine vv rfl ?_
    refine vv rfl ?_
    refine vv (e_alloc F.z156) ?_
    refine vd (e_store rfl rfl F.sz156 g0 zN rfl) ?_
    refine vv (e_assign rfl) ?_
    refine w_nil ?_
    refine k_seq ?_
    refine w_seq ?_
    refine w_region ?_
    refine vv (e_loadn rfl F.na122 (by first | assumption | exact g0 | exact s0 | (repeat first | assumption | exact g0 | exact s0 | refine gn zL ?_ | refine gs zL ?_)) zC) ?_
    refine vv (e_loada rfl F.ag156 F.sz156 s0 zN) ?_
    refine vv (e_buildSlice rfl F.u122 F.el156 (by decide) (by decide) rfl rfl) ?_
    have sB : Same M2 ((M2.new (.cells [.int .i64 0, .int .i64 0, .int .i64 0, .int .i64 0, .int .u64 0, .bool false] false false)).set M2.nx (some (.cells spE.av false false))) := (Same.refl M2).new.set (Nat.le_refl _)
    refine w_valx rfl rfl rfl (e_appU rfl rfl rfl rfl rfl F.u122 F.u122 F.el156 (by decide) (gv.same (fun b hb => (((hs2.trans sB).new).2 b (dv b hb).2.1))) rfl (afirst1 g0 rfl) rfl rfl (by omega) (by unfold maxI; omega)) ?_
    rintro v2 M3 ⟨rfl, hn3, ho3, hL3⟩
    refine vv (e_move rfl) ?_
    refine vv (e_move rfl) ?_
    refine vv (e_buildSlice rfl F.u375 F.el4 (by decide) (by decide) rfl rfl) ?_
    simp only [AM.nx_new, AM.nx_set] at hn3 ho3 hL3
    have wv : ∀ b, blkOf w b → ¬blkOf v b := fun b hb hv => (dv b hv).2.2 hb
    have o3 : ∀ b, b < M'.nx → ¬blkOf v b → M3.get b = M'.get b := fun b hb hv => (ho3 b (by omega) hv).trans (((hs2.trans sB).new).2 b hb)
    refine w_valx rfl rfl rfl (e_appU rfl rfl rfl rfl rfl F.u375 F.u375 F.el4 (by decide) (gw.same (fun b hb => (AM.get_new_lt (by have := (dw b hb).2; omega)).trans (o3 b (dw b hb).2 (wv b hb)))) rfl (afirst1 g0 rfl) rfl rfl (by omega) (by unfold maxI; omega)) ?_
    rintro w2 M4 ⟨rfl, hn4, ho4, hL4⟩
    simp only [AM.nx_new, AM.nx_set] at hn4 ho4 hL4
    have nv : ¬blkOf v (M1.nx + 1) := fun hv => by have := (dv _ hv).1; omega
    have nv0 : ¬blkOf v M1.nx := fun hv => by have := (dv _ hv).1; omega
    have nw : ¬blkOf w (M1.nx + 1) := fun hv => by have := (dw _ hv).1; omega
    have nw0 : ¬blkOf w M1.nx := fun hv => by have := (dw _ hv).1; omega
    have ht4 : M4.get (M1.nx + 1) = some (.cells [v] false false) := (ho4 _ (by omega) nw).trans ((AM.get_new_lt (by omega)).trans ((o3 _ (by omega) nv).trans ht))
    refine vd (e_store rfl rfl F.sz122 zS zN rfl) ?_
    refine vv (e_assign rfl) ?_
    refine w_nil ?_
    refine k_seq ?_
    refine w_seq ?_
    refine w_region ?_
    refine vv (e_move rfl) ?_
    refine w_nil ?_
    refine k_seq ?_
    refine vf ?_
    refine w_skip ?_
    refine b_normal ?_
    refine k_seq ?_
    refine w_region ?_
    refine vv rfl ?_
    refine vv (e_move rfl) ?_
    refine w_nil ?_
    refine k_seq ?_
    have S4 : Same M M4 := ⟨by omega, fun x hx => (ho4 x (by omega) (fun hb => by have := (dw x hb).1; omega)).trans ((AM.get_new_lt (by omega)).trans ((o3 x (by omega) (fun hb => by have := (dv x hb).1; omega)).trans (hs.2 x hx)))⟩
    refine ⟨bl - (i + 1), by omega, rfl, S4.set (by omega), i + 1, _, _, rfl, hlt, rfl, rfl, rfl, rfl, rfl, rfl, inc64v (by omega), ?_, ?_, s0, Or.inr ⟨_, rfl, ?_, ?_⟩, Or.inr ⟨_, rfl, ?_, ?_⟩, ?_, ?_⟩
    · rw [AM.nx_set]; omega
    · exact gs (by omega) ((ho4 _ (by omega) nw0).trans ((AM.get_new_lt (by omega)).trans ((o3 _ (by omega) nv0).trans hk)))
    · refine gs ?_ ((ho4 _ ?_ ?_).trans ((AM.get_new_lt ?_).trans hL3))
      · show M2.nx + 1 + 1 ≠ _; omega
      · show M2.nx + 1 + 1 ≠ _; omega
      · intro hb; have := (dw _ hb).2; simp only [AM.nx_new, AM.nx_set] at this; omega
      · show M2.nx + 1 + 1 < _; omega
    · rw [entL_len]
    · refine gs ?_ ?_
      · show M3.nx + 1 ≠ _; omega
      · rw [List.replicate_succ']; exact hL4
    · rw [List.length_replicate, Nat.mul_one]
    · rintro b ⟨o, l, cc, g, e⟩
      have e := (AV.sl.inj e).1
      have e : b = M2.nx + 1 + 1 := e.symm
      refine ⟨by omega, by rw [AM.nx_set]; omega, ?_⟩
      rintro ⟨o, l, cc, g, e'⟩
      have e' := (AV.sl.inj e').1
      have e' : b = M3.nx + 1 := e'.symm
      omega
    · rintro b ⟨o, l, cc, g, e⟩
      have e := (AV.sl.inj e).1
      have e : b = M3.nx + 1 := e.symm
      exact ⟨by omega, by rw [AM.nx_set]; omega⟩
  have he : i = bl := by have := ilt_ge h; omega
  subst he
  obtain ⟨L, rfl, hL, hLl⟩ : ∃ L, v = .sl L 0 i i (some 6) ∧ M'.get L = some (.cells (entL (fun _ => spE) i) false false) ∧ (entL (fun _ => spE) i).length = i * 6 := by
    rcases gv with ⟨_, h0, _⟩ | h
    · omega
    · exact h
  obtain ⟨W, rfl, hW, hWl⟩ : ∃ L, w = .sl L 0 i i (some 1) ∧ M'.get L = some (.cells (List.replicate i (.bool false)) false false) ∧ (List.replicate i (AV.bool false)).length = i * 1 := by
    rcases gw with ⟨_, h0, _⟩ | h
    · omega
    · exact h
  have lL := dv L ⟨_, _, _, _, rfl⟩
  have lW := dw W ⟨_, _, _, _, rfl⟩
  refine w_exit ?_
  refine k_exit ?_
  refine k_exit ?_
  refine b_here ?_
  refine k_seq ?_
  refine w_seq ?_
  refine w_seq ?_
  refine w_region ?_
  refine vv (e_loadn rfl F.na122 zS zC) ?_
  refine vv (e_len_sl rfl rfl rfl rfl F.u122) ?_
  refine vv (e_move rfl) ?_
  refine w_nil ?_
  refine k_seq ?_
  refine w_block ?_
  refine w_loop ?_
  refine loop_inv (fun z ρ D M2 => D = [] ∧ Same M' M2 ∧ ∃ j, z = i - j ∧ j ≤ i ∧ ρ 5 = some (.ptr (M1.nx + 1) 0) ∧ ρ 6 = some (.sl W 0 i i (some 1)) ∧ ρ 8 = some (.int .i64 (.ofNat 0)) ∧ ρ 61 = some (.sl L 0 i i (some 6)) ∧ ρ 62 = some (.int .i64 (.ofNat i)) ∧ ρ 63 = some (.int .i64 (.ofNat j))) ?_ i _ _ _
    ⟨rfl, Same.refl _, 0, rfl, Nat.zero_le _, rfl, rfl, rfl, rfl, rfl, rfl⟩
  rintro z ρ D M2 ⟨rfl, hs2, j, rfl, hj, k5, k6, k8, k61, k62, k63⟩
  rw [reg1 k5, reg1 k6, reg1 k8, reg1 k61, reg1 k62, reg1 k63]
  have hx2 := hs2.1
  have hL2 := (hs2.2 L (by omega)).trans hL
  have hW2 := (hs2.2 W (by omega)).trans hW
  refine w_seq ?_
  refine w_region ?_
  refine vv rfl ?_
  refine w_nil ?_
  refine k_seq ?_
  refine w_seq ?_
  refine w_cond rfl (fun h => ?_) (fun h => ?_)
  case refine_1 =>
    have hlt := ilt_lt h
    refine w_skip ?_
    refine k_seq ?_
    refine w_seq ?_
    refine w_block ?_
    refine w_seq ?_
    refine w_region ?_
    refine vv (e_move rfl) ?_
    refine vv (e_indexAddr rfl rfl F.u122 F.sz156 zD) ?_
    refine vv (e_loada rfl F.ag156 F.sz156 zS zN) ?_
    refine vv (e_alloc F.z156) ?_
    refine vv (e_assign rfl) ?_
    rw [entL_take (fun _ => spE) hlt]
    refine vd (e_store rfl rfl F.sz156 g0 zN rfl) ?_
    refine w_nil ?_
    refine k_seq ?_
    refine w_seq ?_
    refine w_region ?_
    refine vv (e_fa rfl F.fa156_0) ?_
    refine vv (e_loadn rfl F.na3 s0 zC) ?_
    refine vv rfl ?_
    refine vv (e_move rfl) ?_
    refine vg (e_move rfl) ?_
    refine vg (e_move rfl) ?_
    refine vg (e_indexAddr rfl rfl F.u375 F.sz4 zD) ?_
    have hwv : (List.replicate i (AV.bool false))[0 + j * 1]? = some (.bool false) := by rw [List.getElem?_replicate, if_pos (by omega)]
    refine vg (e_loadn rfl F.na4 (gs (by omega) (gn (by omega) hW2)) hwv) ?_
    refine vg rfl ?_
    refine vv rfl ?_
    refine vv (e_move rfl) ?_
    refine vg (e_move rfl) ?_
    refine vg rfl ?_
    refine vv rfl ?_
    refine w_nil ?_
    refine k_seq ?_
    refine vf ?_
    refine w_skip ?_
    refine b_normal ?_
    refine k_seq ?_
    refine w_region ?_
    refine vv rfl ?_
    refine vv (e_move rfl) ?_
    refine w_nil ?_
    refine k_seq ?_
    exact ⟨i - (j + 1), by omega, rfl, hs2.new.set hx2, j + 1, rfl, hlt, rfl, rfl, rfl, rfl, rfl, inc64v (by omega)⟩
  have ht2 := (hs2.2 (M1.nx + 1) (by omega)).trans ht
  refine w_exit ?_
  refine k_exit ?_
  refine k_exit ?_
  refine b_here ?_
  refine k_seq ?_
  refine w_seq ?_
  refine w_region ?_
  refine vv rfl ?_
  refine vv (e_alloc F.z324) ?_
  refine vd (e_store rfl rfl F.sz324 g0 zN rfl) ?_
  refine w_nil ?_
  refine k_seq ?_
  refine w_seq ?_
  refine w_seq ?_
  refine w_region ?_
  refine vv (e_loadn rfl F.na122 (by first | assumption | exact g0 | exact s0 | (repeat first | assumption | exact g0 | exact s0 | refine gn zL ?_ | refine gs zL ?_)) zC) ?_
  have lt5 : M1.nx + 1 < M2.nx := by omega
  have lL2 : L < M2.nx := by omega
  refine vc (e_call rfl rfl F.f238 rfl) (blocks_ok F h9 _ (.sl L 0 i i (some 6)) 4 rfl _ ?_)
  dsimp only
  refine w_nil ?_
  refine k_seq ?_
  refine w_block ?_
  have sm : Same M2 (((M2.new (.map [] 0)).new (.cells [.nilm] false false)).set (M2.nx + 1) (some (.cells [.mp M2.nx] false false))) := ((Same.refl M2).new.new.set (by omega))
  have sm2 := (sm.new (o := .cells [.sl L 0 i i (some 6)] false false)).new (o := .cells [.int .i64 4] false false)
  refine w_rangeN rfl (fun _ => a_callv F.f288 rfl) (fun M3 hs3 hn3 => blocksN_ok F h8 M3 (a := M2.nx + 1 + 1) (b := M2.nx + 1 + 1 + 1) ((hs3.2 _ (by simp only [AM.nx_new, AM.nx_set]; omega)).trans (gn (by simp only [AM.nx_new, AM.nx_set]; omega) g0)) ((hs3.2 _ (by simp only [AM.nx_new, AM.nx_set]; omega)).trans g0) ((hs3.2 L (by simp only [AM.nx_new, AM.nx_set]; omega)).trans ((sm2.2 L lL2).trans hL2)) (by simp only [AM.nx_new, AM.nx_set] at hn3; omega) (by simp only [AM.nx_new, AM.nx_set] at hn3; omega) (by simp only [AM.nx_new, AM.nx_set] at hn3; omega) b2 (fun _ _ => by decide) _ (fun M3 hs3 => ⟨_, rfl, hs3⟩)) (fun M4 hs4 hd4 hn4 => ?_)
  have hs24 : Same M2 M4 := sm2.trans hs4
  have ht4 := (hs24.2 _ lt5).trans ht2
  have hL4 := (hs24.2 _ lL2).trans hL2
  simp only [AM.nx_new, AM.nx_set] at hn4
  refine b_normal ?_
  refine k_seq ?_
  refine w_seq ?_
  refine w_seq ?_
  refine w_region ?_
  refine vv (e_loadn rfl F.na122 zS zC) ?_
  refine vc (e_call rfl rfl F.f238 rfl) (blocks_ok F h9 _ (.sl L 0 i i (some 6)) 4 rfl _ ?_)
  dsimp only
  refine w_nil ?_
  refine k_seq ?_
  refine w_block ?_
  refine w_rangeN rfl (fun _ => a_callv F.f288 rfl) (fun M3 hs3 hn3 => blocksN_ok F h8 M3 (a := M4.nx) (b := M4.nx + 1) ((hs3.2 _ (by simp only [AM.nx_new, AM.nx_set]; omega)).trans (gn (by simp only [AM.nx_new, AM.nx_set]; omega) g0)) ((hs3.2 _ (by simp only [AM.nx_new, AM.nx_set]; omega)).trans g0) ((hs3.2 L (by simp only [AM.nx_new, AM.nx_set]; omega)).trans (gn (by simp only [AM.nx_new, AM.nx_set]; omega) (gn (by omega) hL4))) (by simp only [AM.nx_new, AM.nx_set] at hn3; omega) (by simp only [AM.nx_new, AM.nx_set] at hn3; omega) (by simp only [AM.nx_new, AM.nx_set] at hn3; omega) b2 (fun _ _ => by decide) _ (fun M3 hs3 => ⟨_, rfl, hs3⟩)) (fun M5 hs5 hd5 hn5 => ?_)
  have hs45 : Same M4 M5 := (Same.refl M4).new.new.trans hs5
  have ht5 := (hs45.2 _ (by omega)).trans ht4
  have hL5 := (hs45.2 L (by omega)).trans hL4
  simp only [AM.nx_new, AM.nx_set] at hn5
  refine b_normal ?_
  refine k_seq ?_
  refine w_seq ?_
  refine w_region ?_
  refine vv (e_loadn rfl F.na122 zS zC) ?_
  refine vv (e_assign rfl) ?_
  refine vv (e_assign rfl) ?_
  refine w_nil ?_
  refine k_seq ?_
  refine w_ret ?_
  have hd4' := (hs45.2 _ (by simp only [AM.nx_new, AM.nx_set]; omega)).trans hd4
  have S5 : Same M M5 := (hs.trans hs2).trans (hs24.trans hs45)
  have hM := hs.1
  refine def_coll2 hd5 hd4' ?_ ⟨_, res_tmp rfl (res_tmp rfl res_nil), hQ _ L ((S5.set ?_).set ?_) (by omega) ?_ (gs ?_ (gs ?_ hL5))⟩
  · simp only [AM.nx_new, AM.nx_set]; omega
  · simp only [AM.nx_new, AM.nx_set]; omega
  · simp only [AM.nx_new, AM.nx_set]; omega
  · simp only [AM.nx_new, AM.nx_set]; omega
  · simp only [AM.nx_new, AM.nx_set]; omega
  · simp only [AM.nx_new, AM.nx_set]; omega
end Go.Abm.Seat

open Go Go.Abm
set_option maxRecDepth 100000
set_option maxHeartbeats 4000000
namespace Go.Abm.Seat
theorem failed0_ok {E : Env} (F : Facts E) (h : E.sums 237 = none) (M : AM) (n : Int) (Q : KC) (hQ : Q (.ret .nili) M) : CallsTo E 237 [.int .i64 n, .int .i64 0] M Q := by
  refine call_rule F.f237 rfl h ?_
  refine w_seq ?_
  refine w_region ?_
  refine vv (e_assign rfl) ?_
  refine w_nil ?_
  refine k_seq ?_
  refine w_seq ?_
  refine w_seq ?_
  refine w_region ?_
  refine vv (e_move rfl) ?_
  refine vv rfl ?_
  refine w_nil ?_
  refine k_seq ?_
  refine vt ?_
  refine w_seq ?_
  refine w_region ?_
  refine vv (e_assign rfl) ?_
  refine w_nil ?_
  refine k_seq ?_
  refine w_ret ?_
  refine k_ret ?_
  exact ⟨_, res_tmp rfl res_nil, hQ⟩
theorem done0_ok {E : Env} (F : Facts E) (h1 : E.sums 237 = none) (h : E.sums 159 = none) (M : AM) (m : Nat) (n : Int) (Q : KC) (hQ : Q (.ret .nili) M) : CallsTo E 159 [.ptr m 0, .int .i64 n, .int .i64 0] M Q := by
  refine call_rule F.f159 rfl h ?_
  refine w_seq ?_
  refine w_region ?_
  refine vv (e_assign rfl) ?_
  refine w_nil ?_
  refine k_seq ?_
  refine w_seq ?_
  refine w_seq ?_
  refine w_region ?_
  refine vv (e_move rfl) ?_
  refine vv rfl ?_
  refine w_nil ?_
  refine k_seq ?_
  refine vf ?_
  refine w_skip ?_
  refine k_seq ?_
  refine w_seq ?_
  refine w_region ?_
  refine vv (e_move rfl) ?_
  refine vv (e_move rfl) ?_
  refine vc (e_call rfl rfl F.f237 rfl) (failed0_ok F h1 M n _ ?_)
  dsimp only
  refine vv (e_assign rfl) ?_
  refine w_nil ?_
  refine k_seq ?_
  refine w_ret ?_
  exact ⟨_, res_tmp rfl res_nil, hQ⟩
theorem isnil_ok {E : Env} (F : Facts E) (h : E.sums 101 = none) (M : AM) (t : TypeId) (v : AV) (Q : KC) (hQ : Q (.ret (.bool false)) M) : CallsTo E 101 [.nili, .ifc t v] M Q := by
  refine call_rule F.f101 rfl h ?_
  refine w_seq ?_
  refine w_region ?_
  refine vv (e_assign rfl) ?_
  refine w_nil ?_
  refine k_seq ?_
  refine w_seq ?_
  refine w_seq ?_
  refine w_region ?_
  refine vv (e_move rfl) ?_
  refine vv (e_eqlin rfl rfl rfl F.ii63) ?_
  refine vv (e_move rfl) ?_
  refine vn ?_
  refine vn ?_
  refine vv rfl ?_
  refine w_nil ?_
  refine k_seq ?_
  refine vt ?_
  refine w_seq ?_
  refine w_region ?_
  refine vv (e_move rfl) ?_
  refine vv (e_move rfl) ?_
  refine vv (e_eqlxi rfl rfl F.ii63) ?_
  refine vv (e_assign rfl) ?_
  refine w_nil ?_
  refine k_seq ?_
  refine w_ret ?_
  refine k_ret ?_
  exact ⟨_, res_tmp rfl res_nil, hQ⟩
theorem told0_ok {E : Env} (F : Facts E) (h : E.sums 89 = none) (M : AM) (Q : KC) (hQ : ∀ M', Same M M' → Q (.ret (.int .i64 0)) M') : CallsTo E 89 [.nili] M Q := by
  refine call_rule F.f89 rfl h ?_
  refine w_seq ?_
  refine w_region ?_
  refine vv (e_assign rfl) ?_
  refine w_nil ?_
  refine k_seq ?_
  refine w_seq ?_
  refine w_region ?_
  refine vv (e_alloc F.z26) ?_
  refine w_nil ?_
  refine k_seq ?_
  refine w_seq ?_
  refine w_block ?_
  refine w_seq ?_
  refine w_region ?_
  refine vv (e_move rfl) ?_
  refine vv (e_eqlin rfl rfl rfl F.ii63) ?_
  refine vv (e_assign rfl) ?_
  refine w_nil ?_
  refine k_seq ?_
  refine vt ?_
  refine w_seq ?_
  refine w_region ?_
  refine vv (e_assign rfl) ?_
  refine w_nil ?_
  refine k_seq ?_
  refine w_ret ?_
  refine b_ret ?_
  refine k_ret ?_
  exact ⟨_, res_tmp rfl res_nil, hQ _ (Same.refl M).new⟩
structure Mgr (M : AM) (m L Z c B p0 bl pg sz rs : Nat) (f : Nat → Ent) (z : Nat → Int) (q : Int) (nx : Nat → Nat) (pcs : Nat → List AV) : Prop where
  ch : Chip M c B p0 bl pg sz rs nx pcs
  hm : ∃ fz, M.get m = some (.cells [.ptr c 0, .int .i64 (.ofNat bl), .int .i64 (.ofNat pg), .int .i64 (.ofNat sz), .int .i64 (.ofNat rs), .sl L 0 bl bl (some 6), .sl Z 0 (bl - rs - 2) (bl - rs - 2) none, .int .u64 q, .bool false] false fz)
  hL : ∃ fz, M.get L = some (.cells (entL f bl) false fz)
  hZ : ∃ fz, M.get Z = some (.cells (intL z (bl - rs - 2)) false fz)
  lt : m < M.nx ∧ L < M.nx ∧ Z < M.nx
  ne : m ≠ L ∧ m ≠ Z ∧ L ≠ Z ∧ ¬Own c B p0 bl m ∧ ¬Own c B p0 bl L ∧ ¬Own c B p0 bl Z
def OwnM (m L Z c B p0 bl : Nat) (x : Nat) : Prop := Own c B p0 bl x ∨ x = m ∨ x = L ∨ x = Z
theorem Mgr.own {M : AM} {m L Z c B p0 bl pg sz rs : Nat} {f : Nat → Ent} {z : Nat → Int} {q : Int} {nx : Nat → Nat} {pcs : Nat → List AV} (h : Mgr M m L Z c B p0 bl pg sz rs f z q nx pcs) {x : Nat} (hx : OwnM m L Z c B p0 bl x) : x < M.nx := by
  rcases hx with hx | rfl | rfl | rfl
  · exact h.ch.own hx
  · exact h.lt.1
  · exact h.lt.2.1
  · exact h.lt.2.2
theorem Mgr.frame {M M' : AM} {m L Z c B p0 bl pg sz rs : Nat} {f : Nat → Ent} {z : Nat → Int} {q : Int} {nx : Nat → Nat} {pcs : Nat → List AV} (h : Mgr M m L Z c B p0 bl pg sz rs f z q nx pcs) (hn : M.nx ≤ M'.nx) (hf : ∀ x, OwnM m L Z c B p0 bl x → M'.get x = M.get x) : Mgr M' m L Z c B p0 bl pg sz rs f z q nx pcs := by
  obtain ⟨hc, hm, hL, hZ, ⟨l1, l2, l3⟩, hne⟩ := h
  exact ⟨hc.frame hn fun x hx => hf x (Or.inl hx), by rw [hf m (Or.inr (Or.inl rfl))]; exact hm, by rw [hf L (Or.inr (Or.inr (Or.inl rfl)))]; exact hL, by rw [hf Z (Or.inr (Or.inr (Or.inr rfl)))]; exact hZ, ⟨by omega, by omega, by omega⟩, hne⟩
theorem Mgr.same {M M' : AM} {m L Z c B p0 bl pg sz rs : Nat} {f : Nat → Ent} {z : Nat → Int} {q : Int} {nx : Nat → Nat} {pcs : Nat → List AV} (h : Mgr M m L Z c B p0 bl pg sz rs f z q nx pcs) (hs : Same M M') : Mgr M' m L Z c B p0 bl pg sz rs f z q nx pcs := h.frame hs.1 fun x hx => hs.2 x (h.own hx)
theorem spent_ok {E : Env} (F : Facts E) (h1 : E.sums 59 = none) (h : E.sums 23 = none) {M : AM} {m L Z c B p0 bl pg sz rs : Nat} {f : Nat → Ent} {z : Nat → Int} {q : Int} {nx : Nat → Nat} {pcs : Nat → List AV}
    (hm : Mgr M m L Z c B p0 bl pg sz rs f z q nx pcs) (hg : Geo bl pg sz rs) (hs : ∀ i, i < bl → (f i).s ≠ 1) (Q : KC) (hQ : ∀ M', Same M M' → Q (.ret (.bool false)) M') : CallsTo E 23 [.ptr m 0] M Q := by
  have hm0 := hm
  obtain ⟨hc, ⟨fz, hm⟩, ⟨fL, hL⟩, ⟨fZ, hZ⟩, ⟨l1, l2, l3⟩, hne⟩ := hm
  have b1 := hg.b1
  have b2 := hg.b2
  have r1 := hg.r1
  refine call_rule F.f23 rfl h ?_
  refine w_seq ?_
  refine w_region ?_
  refine vv (e_assign rfl) ?_
  refine w_nil ?_
  refine k_seq ?_
  refine w_seq ?_
  refine w_order [.run 0 0, .run 1 1, .run 2 3, .run 3 7, .run 4 15, .run 5 31, .run 6 63, .run 8 7, .run 9 263, .run 10 775, .run 11 1799, .run 12 3847, .run 13 7943, .chk, .eff 7 127, .run 14 16383, .run 15 32767, .chk, .eff 16 65535, .chk] (by decide +kernel) ?_
  refine sp rfl (e_move rfl) ?_
  refine sr rfl (e_neqp rfl rfl F.u46) ?_
  refine sp rfl (e_move rfl) ?_
  refine sp rfl (e_move rfl) ?_
  refine sp rfl rfl ?_
  refine sp rfl (e_fa rfl F.fa124_2) ?_
  refine sr rfl (e_loadn rfl F.na122 zS zC) ?_
  refine sp rfl (e_move rfl) ?_
  refine sp rfl rfl ?_
  refine sp rfl (e_fa rfl F.fa124_3) ?_
  refine sr rfl (e_loadn rfl F.na59 zS zC) ?_
  refine sr rfl (e_len_sl rfl rfl rfl rfl F.u59) ?_
  refine sp rfl rfl ?_
  refine st_chk (by repeat first | exact ck_nil | refine ck_cons ⟨_, _, rfl, zA⟩ ?_ | refine ck_cons ⟨_, _, (e_neqp rfl rfl F.u46), zA⟩ ?_ | refine ck_cons ⟨_, _, (e_neqpn rfl rfl F.u46), zA⟩ ?_ | refine ck_cons ⟨_, _, (e_neqsn rfl rfl F.u46), zA⟩ ?_ | refine ck_cons ⟨_, _, (e_neqsnn rfl rfl F.u46), zA⟩ ?_ | refine ck_cons ⟨_, _, (e_loadn rfl F.na122 (by first | assumption | exact g0 | exact s0 | (repeat first | assumption | exact g0 | exact s0 | refine gn zL ?_ | refine gs zL ?_)) zC), zA⟩ ?_ | refine ck_cons ⟨_, _, (e_loadn rfl F.na59 (by first | assumption | exact g0 | exact s0 | (repeat first | assumption | exact g0 | exact s0 | refine gn zL ?_ | refine gs zL ?_)) zC), zA⟩ ?_ | refine ck_cons ⟨_, _, (e_len_sl rfl rfl rfl rfl F.u59), zA⟩ ?_ | refine ck_cons ⟨_, _, (e_len_nils rfl rfl rfl rfl F.u59), zA⟩ ?_ | refine ck_cons ⟨_, _, (e_len_str rfl rfl rfl rfl F.u59), zA⟩ ?_ | refine ck_cons ⟨_, (by first | assumption | exact g0 | exact s0 | (repeat first | assumption | exact g0 | exact s0 | refine gn zL ?_ | refine gs zL ?_)), zB⟩ ?_) ?_
  refine fc rfl zP (e_call rfl rfl F.f59 rfl) (good_ok F h1 M hL l2 b2 hs _ (fun M1 hs1 => ?_))
  have hm1 := (hs1.2 m l1).trans hm
  refine ⟨hs1.1, ?_⟩
  refine sp rfl rfl ?_
  refine sp rfl rfl ?_
  refine st_chk (by repeat first | exact ck_nil | refine ck_cons ⟨_, _, rfl, zA⟩ ?_ | refine ck_cons ⟨_, _, (e_neqp rfl rfl F.u46), zA⟩ ?_ | refine ck_cons ⟨_, _, (e_neqpn rfl rfl F.u46), zA⟩ ?_ | refine ck_cons ⟨_, _, (e_neqsn rfl rfl F.u46), zA⟩ ?_ | refine ck_cons ⟨_, _, (e_neqsnn rfl rfl F.u46), zA⟩ ?_ | refine ck_cons ⟨_, _, (e_loadn rfl F.na122 (by first | assumption | exact g0 | exact s0 | (repeat first | assumption | exact g0 | exact s0 | refine gn zL ?_ | refine gs zL ?_)) zC), zA⟩ ?_ | refine ck_cons ⟨_, _, (e_loadn rfl F.na59 (by first | assumption | exact g0 | exact s0 | (repeat first | assumption | exact g0 | exact s0 | refine gn zL ?_ | refine gs zL ?_)) zC), zA⟩ ?_ | refine ck_cons ⟨_, _, (e_len_sl rfl rfl rfl rfl F.u59), zA⟩ ?_ | refine ck_cons ⟨_, _, (e_len_nils rfl rfl rfl rfl F.u59), zA⟩ ?_ | refine ck_cons ⟨_, _, (e_len_str rfl rfl rfl rfl F.u59), zA⟩ ?_ | refine ck_cons ⟨_, (by first | assumption | exact g0 | exact s0 | (repeat first | assumption | exact g0 | exact s0 | refine gn zL ?_ | refine gs zL ?_)), zB⟩ ?_) ?_
  refine fp rfl zP (e_assign rfl) ?_
  refine st_chk (by repeat first | exact ck_nil | refine ck_cons ⟨_, _, rfl, zA⟩ ?_ | refine ck_cons ⟨_, _, (e_neqp rfl rfl F.u46), zA⟩ ?_ | refine ck_cons ⟨_, _, (e_neqpn rfl rfl F.u46), zA⟩ ?_ | refine ck_cons ⟨_, _, (e_neqsn rfl rfl F.u46), zA⟩ ?_ | refine ck_cons ⟨_, _, (e_neqsnn rfl rfl F.u46), zA⟩ ?_ | refine ck_cons ⟨_, _, (e_loadn rfl F.na122 (by first | assumption | exact g0 | exact s0 | (repeat first | assumption | exact g0 | exact s0 | refine gn zL ?_ | refine gs zL ?_)) zC), zA⟩ ?_ | refine ck_cons ⟨_, _, (e_loadn rfl F.na59 (by first | assumption | exact g0 | exact s0 | (repeat first | assumption | exact g0 | exact s0 | refine gn zL ?_ | refine gs zL ?_)) zC), zA⟩ ?_ | refine ck_cons ⟨_, _, (e_len_sl rfl rfl rfl rfl F.u59), zA⟩ ?_ | refine ck_cons ⟨_, _, (e_len_nils rfl rfl rfl rfl F.u59), zA⟩ ?_ | refine ck_cons ⟨_, _, (e_len_str rfl rfl rfl rfl F.u59), zA⟩ ?_ | refine ck_cons ⟨_, (by first | assumption | exact g0 | exact s0 | (repeat first | assumption | exact g0 | exact s0 | refine gn zL ?_ | refine gs zL ?_)), zB⟩ ?_) ?_
  refine st_nil ?_
  refine k_seq ?_
  refine w_ret ?_
  have e : iltF (.ofNat bl) (wrapFast .i64 (addF (.ofNat (bl - rs - 2)) 2)) = false := by
    have e2 : ∀ n : Nat, n ≤ 9223372036854775807 → wrapFast .i64 (.ofNat n) = .ofNat n := fun n h => by show (bif Nat.ble n 9223372036854775807 then _ else _) = _; rw [ble_t h]; rfl
    rw [show addF (.ofNat (bl - rs - 2)) 2 = .ofNat (bl - rs - 2 + 2) from rfl, e2 _ (by omega)]
    exact ilt_f (by omega)
  rw [e]
  exact ⟨_, res_tmp rfl res_nil, hQ _ hs1⟩
theorem attached_ok {E : Env} (F : Facts E) (h1 : E.sums 240 = none) (h2 : E.sums 291 = none) (h3 : E.sums 290 = none) (h4 : E.sums 289 = none) (h5 : E.sums 239 = none)
    (h6 : E.sums 55 = none) (h7 : E.sums 50 = none) (h8 : E.sums 288 = none) (h9 : E.sums 238 = none) (h10 : E.sums 161 = none) (h11 : E.sums 124 = none) (h12 : E.sums 52 = none) (h13 : E.sums 162 = none) (h14 : E.sums 163 = none) (h : E.sums 90 = none)
    {M : AM} {c B p0 bl pg sz rs : Nat} {nx : Nat → Nat} {pcs : Nat → List AV} (hch : Chip M c B p0 bl pg sz rs nx pcs) (hg : Geo bl pg sz rs) (hr : rightB (.ofNat bl) (.ofNat pg) (.ofNat sz) (.ofNat rs) = true) (hz : ∀ i, i < bl → nx i = 0) (Q : KC)
    (hQ : ∀ M' m L Z, Same M M' → M.nx ≤ m → M.nx ≤ L → M.nx ≤ Z → Mgr M' m L Z c B p0 bl pg sz rs (fun _ => spE) (fun _ => -1) 0 nx pcs → Q (.ret (.tup [.ptr m 0, .int .i64 0])) M') :
    CallsTo E 90 [.ptr c 0] M Q := by
  have b1 := hg.b1
  have b2 := hg.b2
  have r1 := hg.r1
  refine call_rule F.f90 rfl h ?_
  refine w_seq ?_
  refine w_region ?_
  refine vv (e_assign rfl) ?_
  refine vv (e_assign rfl) ?_
  refine w_nil ?_
  refine k_seq ?_
  refine w_seq ?_
  refine w_region ?_
  refine vv (e_move rfl) ?_
  refine vc (e_call rfl rfl F.f161 rfl) (scan_ok F h1 h2 h3 h4 h5 h6 h7 h8 h9 h10 hch hg hz _ (fun M1 L hs1 lL1 lL2 hL1 => ?_))
  dsimp only
  refine vv (e_move rfl) ?_
  refine vv rfl ?_
  refine vv rfl ?_
  refine vv (e_assign rfl) ?_
  refine vv (e_assign rfl) ?_
  refine w_nil ?_
  refine k_seq ?_
  refine w_seq ?_
  refine w_seq ?_
  refine w_region ?_
  refine vv (e_move rfl) ?_
  refine vv rfl ?_
  refine w_nil ?_
  refine k_seq ?_
  refine vf ?_
  refine w_skip ?_
  refine k_seq ?_
  refine w_seq ?_
  refine w_region ?_
  refine vv (e_move rfl) ?_
  refine vv (e_move rfl) ?_
  refine vc (e_call rfl rfl F.f50 rfl) (geom_c F h7 (hch.same hs1) _ (fun M2 hs2 => ?_))
  dsimp only
  refine vv (e_move rfl) ?_
  refine vv (e_build rfl F.bd124 rfl) ?_
  refine vv rfl ?_
  refine vv (e_assign rfl) ?_
  refine w_nil ?_
  refine k_seq ?_
  refine w_seq ?_
  refine w_region ?_
  refine vv (e_move rfl) ?_
  refine vv (e_move rfl) ?_
  refine vv rfl ?_
  refine vv (e_fa rfl F.fa124_1) ?_
  refine vv (e_loada rfl F.ag23 F.sz23 g0 zN) ?_
  refine vc (e_call rfl rfl F.f162 rfl) (lebs_ok F h11 h12 h13 _ hg hr _ (fun M3 hs3 => ?_))
  dsimp only
  have hm3 : M3.get M2.nx = some (.cells [.ptr c 0, .int .i64 (.ofNat bl), .int .i64 (.ofNat pg), .int .i64 (.ofNat sz), .int .i64 (.ofNat rs), .sl L 0 bl bl (some 6), .nils, .int .u64 0, .bool false] false false) := (hs3.2 _ (Nat.lt_succ_self _)).trans g0
  have n3 := hs3.1
  have n2 := hs2.1
  have n1 := hs1.1
  simp only [AM.nx_new] at n3
  refine vv (e_makeSlice rfl rfl F.u59 F.el3 (by decide) (by omega) (by omega) (by unfold maxI; omega) rfl) ?_
  refine vv rfl ?_
  refine vv (e_fa rfl F.fa124_3) ?_
  refine vd (e_store rfl rfl F.sz59 (gn (by omega) zS) zN rfl) ?_
  refine w_nil ?_
  refine k_seq ?_
  refine w_seq ?_
  refine w_seq ?_
  refine w_region ?_
  refine vv (e_move rfl) ?_
  refine vv rfl ?_
  refine vv (e_fa rfl F.fa124_3) ?_
  refine vv (e_loadn rfl F.na59 s0 zC) ?_
  refine vv (e_len_sl rfl rfl rfl rfl F.u59) ?_
  refine vv (e_move rfl) ?_
  refine w_nil ?_
  refine k_seq ?_
  refine w_block ?_
  have SM : Same M M3 := hs1.trans (hs2.trans ((Same.refl M2).new.trans hs3))
  have hL3 : M3.get L = some (.cells (entL (fun _ => spE) bl) false false) := (hs3.2 _ (by simp only [AM.nx_new]; omega)).trans (gn (by omega) ((hs2.2 _ (by omega)).trans hL1))
  have hsp : ∀ i, i < bl → spE.s ≠ 4 := fun _ _ => by decide
  refine w_loop ?_
  refine loop_inv (fun w ρ D M' => D = [] ∧ Same M M' ∧ ∃ i, w = bl - rs - 2 - i ∧ i ≤ bl - rs - 2 ∧ ρ 4 = some (.sl L 0 bl bl (some 6)) ∧ ρ 6 = some (.ptr M2.nx 0) ∧ ρ 37 = some (.int .i64 (.ofNat (bl - rs - 2))) ∧ ρ 38 = some (.int .i64 (.ofNat i)) ∧ M3.nx + 1 ≤ M'.nx ∧
    M'.get M2.nx = some (.cells [.ptr c 0, .int .i64 (.ofNat bl), .int .i64 (.ofNat pg), .int .i64 (.ofNat sz), .int .i64 (.ofNat rs), .sl L 0 bl bl (some 6), .sl M3.nx 0 (bl - rs - 2) (bl - rs - 2) none, .int .u64 0, .bool false] false false) ∧
    M'.get L = some (.cells (entL (fun _ => spE) bl) false false) ∧ M'.get M3.nx = some (.cells (intL (fun x => if x < i then -1 else 0) (bl - rs - 2)) false false)) ?_ (bl - rs - 2) _ _ _
    ⟨rfl, SM.new.set (by omega), 0, rfl, Nat.zero_le _, rfl, rfl, rfl, rfl, Nat.le_refl _, s0, gs (by omega) (gn (by omega) hL3), ?_⟩
  rotate_left
  · refine gs (by omega) (g0.trans ?_)
    rw [intL, recL_rep (z := [AV.int .i64 0]) _ (fun i _ => by rw [if_neg (Nat.not_lt_zero i)])]; rfl
  rintro w ρ D M' ⟨rfl, hs, i, rfl, hi, g4, g6, g37, g38, hn, hm', hL', hZ'⟩
  rw [reg1 g4, reg1 g6, reg1 g37, reg1 g38]
  refine w_seq ?_
  refine w_region ?_
  refine vv rfl ?_
  refine w_nil ?_
  refine k_seq ?_
  refine w_seq ?_
  refine w_cond rfl (fun h => ?_) (fun h => ?_)
  case refine_1 =>
    have hlt := ilt_lt h
    refine w_skip ?_
    refine k_seq ?_
    refine w_seq ?_
    refine w_block ?_
    refine w_seq ?_
    refine w_region ?_
    refine vv (e_move rfl) ?_
    refine vv (e_assign rfl) ?_
    refine w_nil ?_
    refine k_seq ?_
    refine w_order [.run 0 0, .run 1 1, .run 2 3, .run 3 7, .run 4 0, .run 5 0, .run 6 0, .chk, .eff 7 96, .run 8 255, .chk, .eff 9 511, .chk] (by decide +kernel) ?_
    refine sp rfl (e_move rfl) ?_
    refine sp rfl rfl ?_
    refine sp rfl (e_fa rfl F.fa124_3) ?_
    refine sr rfl (e_loadn rfl F.na59 zS zC) ?_
    refine sp rfl (e_move rfl) ?_
    refine sp rfl (e_move rfl) ?_
    refine sp rfl (e_move rfl) ?_
    refine st_chk (by repeat first | exact ck_nil | refine ck_cons ⟨_, _, rfl, zA⟩ ?_ | refine ck_cons ⟨_, _, (e_loadn rfl F.na59 (by first | assumption | exact g0 | exact s0 | (repeat first | assumption | exact g0 | exact s0 | refine gn zL ?_ | refine gs zL ?_)) zC), zA⟩ ?_ | refine ck_cons ⟨_, (by first | assumption | exact g0 | exact s0 | (repeat first | assumption | exact g0 | exact s0 | refine gn zL ?_ | refine gs zL ?_)), zB⟩ ?_) ?_
    refine fc rfl zP (e_call rfl rfl F.f163 rfl) (findN_ok F h8 h9 h14 M' hL' (by omega) b2 hsp _ _ (fun M4 hs4 => ⟨hs4.1, ?_⟩))
    have hn4 := hs4.1
    have hm4 := (hs4.2 M2.nx (by omega)).trans hm'
    have hL4 := (hs4.2 L (by omega)).trans hL'
    have hZ4 := (hs4.2 M3.nx (by omega)).trans hZ'
    refine sp rfl (e_indexAddr rfl rfl F.u59 F.sz3 zD) ?_
    refine st_chk (by repeat first | exact ck_nil | refine ck_cons ⟨_, _, rfl, zA⟩ ?_ | refine ck_cons ⟨_, _, (e_loadn rfl F.na59 (by first | assumption | exact g0 | exact s0 | (repeat first | assumption | exact g0 | exact s0 | refine gn zL ?_ | refine gs zL ?_)) zC), zA⟩ ?_ | refine ck_cons ⟨_, (by first | assumption | exact g0 | exact s0 | (repeat first | assumption | exact g0 | exact s0 | refine gn zL ?_ | refine gs zL ?_)), zB⟩ ?_) ?_
    refine fd rfl zP (e_store rfl rfl F.sz3 hZ4 (by rw [intL_len]; show 0 + i * 1 + 1 ≤ _; omega) rfl) ?_
    refine st_chk (by repeat first | exact ck_nil | refine ck_cons ⟨_, _, rfl, zA⟩ ?_ | refine ck_cons ⟨_, _, (e_loadn rfl F.na59 (by first | assumption | exact g0 | exact s0 | (repeat first | assumption | exact g0 | exact s0 | refine gn zL ?_ | refine gs zL ?_)) zC), zA⟩ ?_ | refine ck_cons ⟨_, (by first | assumption | exact g0 | exact s0 | (repeat first | assumption | exact g0 | exact s0 | refine gn zL ?_ | refine gs zL ?_)), zB⟩ ?_) ?_
    refine st_nil ?_
    refine b_normal ?_
    refine k_seq ?_
    refine w_region ?_
    refine vv rfl ?_
    refine vv (e_move rfl) ?_
    refine w_nil ?_
    refine k_seq ?_
    refine ⟨bl - rs - 2 - (i + 1), by omega, rfl, (hs.trans hs4).set (by omega), i + 1, rfl, hlt, rfl, rfl, rfl, inc64v (by omega), by rw [AM.nx_set]; omega, gs (by omega) hm4, gs (by omega) hL4, s0.trans ?_⟩
    have := intL_put (fun x => if x < i then -1 else 0) (-1) hlt
    refine congrArg (fun l => some (AObj.cells l false false)) (this.trans (recL_congr _ fun x _ => ?_))
    dsimp only
    by_cases h1 : x = i
    · rw [if_pos h1, if_pos (by omega)]
    · rw [if_neg h1]
      by_cases h2 : x < i
      · rw [if_pos h2, if_pos (by omega)]
      · rw [if_neg h2, if_neg (by omega)]
  have he : i = bl - rs - 2 := by have := ilt_ge h; omega
  have hZ2 : M'.get M3.nx = some (.cells (intL (fun _ => -1) (bl - rs - 2)) false false) := hZ'.trans (congrArg (fun l => some (AObj.cells l false false)) (recL_congr _ fun x hx => by dsimp only; rw [if_pos (by omega)]))
  refine w_exit ?_
  refine k_exit ?_
  refine k_exit ?_
  refine b_here ?_
  refine k_seq ?_
  refine w_seq ?_
  refine w_seq ?_
  refine w_region ?_
  refine vv (e_move rfl) ?_
  refine vv (e_len_sl rfl rfl rfl rfl F.u122) ?_
  refine vv (e_move rfl) ?_
  refine w_nil ?_
  refine k_seq ?_
  refine w_block ?_
  refine w_loop ?_
  refine loop_inv (fun w ρ D M4 => D = [] ∧ Same M' M4 ∧ ∃ j, w = bl - j ∧ j ≤ bl ∧ ρ 6 = some (.ptr M2.nx 0) ∧ ρ 51 = some (.sl L 0 bl bl (some 6)) ∧ ρ 52 = some (.int .i64 (.ofNat bl)) ∧ ρ 53 = some (.int .i64 (.ofNat j))) ?_ bl _ _ _ ⟨rfl, Same.refl _, 0, rfl, Nat.zero_le _, rfl, rfl, rfl, rfl⟩
  rintro w ρ D M4 ⟨rfl, hs4, j, rfl, hj, k6, k51, k52, k53⟩
  have hn4 := hs4.1
  have hL4 := (hs4.2 L (by omega)).trans hL'
  rw [reg1 k6, reg1 k51, reg1 k52, reg1 k53]
  refine w_seq ?_
  refine w_region ?_
  refine vv rfl ?_
  refine w_nil ?_
  refine k_seq ?_
  refine w_seq ?_
  refine w_cond rfl (fun h => ?_) (fun h => ?_)
  case refine_1 =>
    have hlt := ilt_lt h
    refine w_skip ?_
    refine k_seq ?_
    refine w_seq ?_
    refine w_block ?_
    refine w_seq ?_
    refine w_region ?_
    refine vv (e_indexAddr rfl rfl F.u122 F.sz156 zD) ?_
    refine vv (e_loada rfl F.ag156 F.sz156 hL4 (by rw [entL_len]; show 0 + j * 6 + 6 ≤ bl * 6; omega)) ?_
    rw [entL_take (fun _ => spE) hlt]
    refine vv (e_alloc F.z156) ?_
    refine vd (e_store rfl rfl F.sz156 g0 zN rfl) ?_
    refine w_nil ?_
    refine k_seq ?_
    refine w_seq ?_
    refine w_region ?_
    refine vv (e_fa rfl F.fa156_0) ?_
    refine vv (e_loadn rfl F.na3 s0 zC) ?_
    refine vv rfl ?_
    refine w_nil ?_
    refine k_seq ?_
    refine vf ?_
    refine w_skip ?_
    refine b_normal ?_
    refine k_seq ?_
    refine w_region ?_
    refine vv rfl ?_
    refine vv (e_move rfl) ?_
    refine w_nil ?_
    refine k_seq ?_
    exact ⟨bl - (j + 1), by omega, rfl, hs4.new.set hn4, j + 1, rfl, hlt, rfl, rfl, rfl, inc64v (by omega)⟩
  refine w_exit ?_
  refine k_exit ?_
  refine k_exit ?_
  refine b_here ?_
  refine k_seq ?_
  refine w_seq ?_
  refine w_region ?_
  refine vv (e_move rfl) ?_
  refine vv (e_assign rfl) ?_
  refine vv (e_assign rfl) ?_
  refine w_nil ?_
  refine k_seq ?_
  refine w_ret ?_
  have hL5 : ¬Own c B p0 bl L := fun hO => by have := hch.own hO; omega
  have hm5 : ¬Own c B p0 bl M2.nx := fun hO => by have := hch.own hO; omega
  have hZ5 : ¬Own c B p0 bl M3.nx := fun hO => by have := hch.own hO; omega
  refine ⟨_, res_tmp rfl (res_tmp rfl res_nil), hQ M4 M2.nx L M3.nx (hs.trans hs4) (by omega) lL1 (by omega) ⟨hch.same (hs.trans hs4), ⟨_, (hs4.2 _ (by omega)).trans hm'⟩, ⟨_, hL4⟩, ⟨_, (hs4.2 _ (by omega)).trans hZ2⟩, ⟨by omega, by omega, by omega⟩, ⟨by omega, by omega, by omega, hm5, hL5, hZ5⟩⟩⟩
end Go.Abm.Seat
