/-
  A part of the proof that pumicelaw17.StoreOpens returns true for every geometry, key, number and group (a machine over names of blocks, its soundness, the calls of the store for any geometry, the chapter's example as a run). Condition: the listed package variables hold what the program's text lays; the card ties that.
-/
import Derived.Test.YtcfpoldckjmbdaaGreatDoorX23
set_option linter.unusedVariables false
set_option linter.unusedSimpArgs false
set_option linter.unusedSectionVars false
open Go Go.Abm
set_option maxRecDepth 100000
set_option maxHeartbeats 4000000
namespace Go.Abm.Seat
section
variable {E : Env} (F : Facts E)
include F
theorem parts0_ok (h1 : E.sums 200 = none) (h : E.sums 252 = none) {M : AM} {a b c d l p o : Nat} {y : AV} {lc : List AV} {r1 f1 r2 f2 r3 f3 fl : Bool} (ha : M.get a = some (.cells [.nils] r1 f1)) (hb : M.get b = some (.cells [.int .i64 (.ofNat p)] r2 f2)) (hc : M.get c = some (.cells [.ptr l o] r3 f3)) (hl : M.get l = some (.cells lc false fl)) (ho : o < lc.length) (hp : 2 ≤ p) (hp2 : p ≤ 512) (Q : KC)
    (hQ : Q (.ret (.tup [])) (M.set l (some (.cells (spliceL lc o [.int .i64 (.ofNat 0)]) false fl)))) : CallsTo E 252 [y, .ptr a 0, .ptr b 0, .ptr c 0, .ptr d 0] M Q := by
  refine call_rule F.f252 rfl h ?_
  refine w_seq ?_
  refine w_region ?_
  refine vv (e_assign rfl) ?_
  refine w_nil ?_
  refine k_seq ?_
  refine w_seq ?_
  refine w_block ?_
  refine w_loop ?_
  refine loop_inv (fun w ρ D M' => D = [] ∧ M' = M ∧ ρ 1 = some (.ptr a 0) ∧ ρ 2 = some (.ptr b 0) ∧ ρ 3 = some (.ptr c 0) ∧ ρ 6 = some (.int .i64 (.ofNat 0))) ?_ 0 _ _ _ ⟨rfl, rfl, rfl, rfl, rfl, rfl⟩
  rintro w ρ D M' ⟨rfl, rfl, g1, g2, g3, g6⟩
  rw [reg1 g1, reg1 g2, reg1 g3, reg1 g6]
  refine w_seq ?_
  refine w_seq ?_
  refine w_region ?_
  refine vv (e_move rfl) ?_
  refine vv (e_loadn rfl F.na157 zS zC) ?_
  refine vv (e_len_nils rfl rfl rfl rfl F.u157) ?_
  refine vv rfl ?_
  refine w_nil ?_
  refine k_seq ?_
  refine vf ?_
  refine w_exit ?_
  refine k_exit ?_
  refine k_exit ?_
  refine b_here ?_
  refine k_seq ?_
  refine w_order [.run 0 0, .run 1 0, .run 2 0, .chk, .eff 3 6, .run 4 15, .chk, .eff 5 31, .chk] (by decide +kernel) ?_
  refine sr rfl (e_loadn rfl F.na303 zS zC) ?_
  refine sp rfl (e_move rfl) ?_
  refine sr rfl (e_loadn rfl F.na3 zS zC) ?_
  refine st_chk (by repeat first | exact ck_nil | refine ck_cons ⟨_, _, rfl, zA⟩ ?_ | refine ck_cons ⟨_, _, (e_loadn rfl F.na303 (by first | assumption | exact g0 | exact s0 | (repeat first | assumption | exact g0 | exact s0 | refine gn zL ?_ | refine gs zL ?_)) zC), zA⟩ ?_ | refine ck_cons ⟨_, _, (e_loadn rfl F.na3 (by first | assumption | exact g0 | exact s0 | (repeat first | assumption | exact g0 | exact s0 | refine gn zL ?_ | refine gs zL ?_)) zC), zA⟩ ?_ | refine ck_cons ⟨_, (by first | assumption | exact g0 | exact s0 | (repeat first | assumption | exact g0 | exact s0 | refine gn zL ?_ | refine gs zL ?_)), zB⟩ ?_) ?_
  refine fc rfl zP (e_call rfl rfl F.f200 rfl) (wbegin0_ok F h1 M' hp hp2 _ ⟨Nat.le_refl _, ?_⟩)
  refine sp rfl rfl ?_
  refine st_chk (by repeat first | exact ck_nil | refine ck_cons ⟨_, _, rfl, zA⟩ ?_ | refine ck_cons ⟨_, _, (e_loadn rfl F.na303 (by first | assumption | exact g0 | exact s0 | (repeat first | assumption | exact g0 | exact s0 | refine gn zL ?_ | refine gs zL ?_)) zC), zA⟩ ?_ | refine ck_cons ⟨_, _, (e_loadn rfl F.na3 (by first | assumption | exact g0 | exact s0 | (repeat first | assumption | exact g0 | exact s0 | refine gn zL ?_ | refine gs zL ?_)) zC), zA⟩ ?_ | refine ck_cons ⟨_, (by first | assumption | exact g0 | exact s0 | (repeat first | assumption | exact g0 | exact s0 | refine gn zL ?_ | refine gs zL ?_)), zB⟩ ?_) ?_
  refine fd rfl zP (e_store rfl rfl F.sz3 zS zN rfl) ?_
  refine st_chk (by repeat first | exact ck_nil | refine ck_cons ⟨_, _, rfl, zA⟩ ?_ | refine ck_cons ⟨_, _, (e_loadn rfl F.na303 (by first | assumption | exact g0 | exact s0 | (repeat first | assumption | exact g0 | exact s0 | refine gn zL ?_ | refine gs zL ?_)) zC), zA⟩ ?_ | refine ck_cons ⟨_, _, (e_loadn rfl F.na3 (by first | assumption | exact g0 | exact s0 | (repeat first | assumption | exact g0 | exact s0 | refine gn zL ?_ | refine gs zL ?_)) zC), zA⟩ ?_ | refine ck_cons ⟨_, (by first | assumption | exact g0 | exact s0 | (repeat first | assumption | exact g0 | exact s0 | refine gn zL ?_ | refine gs zL ?_)), zB⟩ ?_) ?_
  refine st_nil ?_
  exact ⟨_, res_nil, hQ⟩
theorem appseq0_ok (h1 : E.sums 200 = none) (h2 : E.sums 252 = none) (h : E.sums 251 = none) {M : AM} {a b c d l p o : Nat} {lc : List AV} {r1 f1 r2 f2 r3 f3 fl : Bool} (ha : M.get a = some (.cells [.nils] r1 f1)) (hb : M.get b = some (.cells [.int .i64 (.ofNat p)] r2 f2)) (hc : M.get c = some (.cells [.ptr l o] r3 f3)) (hl : M.get l = some (.cells lc false fl))
    (la : a < M.nx) (lb : b < M.nx) (lc' : c < M.nx) (ll : l < M.nx) (nab : a ≠ l) (nbb : b ≠ l) (ncb : c ≠ l) (ho : o < lc.length) (hp : 2 ≤ p) (hp2 : p ≤ 512) (Q : KC)
    (hQ : ∀ M', M.nx ≤ M'.nx → (∀ x, x < M.nx → x ≠ l → M'.get x = M.get x) → M'.get l = some (.cells (spliceL lc o [.int .i64 (.ofNat 0)]) false fl) → Q (.ret .nils) M') :
    CallsTo E 251 [.nils, .fn (.func 252) [] [.ptr a 0, .ptr b 0, .ptr c 0, .ptr d 0]] M Q := by
  refine call_rule F.f251 rfl h ?_
  refine w_seq ?_
  refine w_region ?_
  refine vv rfl ?_
  refine vv (e_assign rfl) ?_
  refine w_nil ?_
  refine k_seq ?_
  refine w_seq ?_
  refine w_seq ?_
  refine w_region ?_
  refine vv (e_move rfl) ?_
  refine w_nil ?_
  refine k_seq ?_
  refine w_block ?_
  refine w_rangeR (fun M3 => M3.get M.nx = some (.cells [.nils] false false) ∧ (∀ x, x < M.nx → x ≠ l → M3.get x = M.get x) ∧ M3.get l = some (.cells (spliceL lc o [.int .i64 (.ofNat 0)]) false fl)) rfl (fun _ => a_callv F.f252 rfl) (fun M2 T s2 n2 hT hd hlp => parts0_ok F h1 h2 ((s2.2 a (by rw [AM.nx_new]; omega)).trans (gn la ha)) ((s2.2 b (by rw [AM.nx_new]; omega)).trans (gn lb hb)) ((s2.2 c (by rw [AM.nx_new]; omega)).trans (gn lc' hc)) ((s2.2 l (by rw [AM.nx_new]; omega)).trans (gn ll hl)) ho hp hp2 _
    ⟨_, rfl, by rw [AM.nx_set]; exact Nat.le_refl _, gs (by rw [AM.nx_new]; omega) hd, ⟨_, _, _, _, _, gs (by rw [AM.nx_new]; omega) hlp⟩, gs (by omega) ((s2.2 M.nx (by rw [AM.nx_new]; omega)).trans g0), fun x hx hxl => gs hxl ((s2.2 x (by rw [AM.nx_new]; omega)).trans (AM.get_new_lt hx)), s0⟩) (fun M3 ob hR n3 hd3 => ?_)
  obtain ⟨r1, r2, r3⟩ := hR
  simp only [AM.nx_new] at n3
  have hb3 : (M3.set ((M.new (.cells [.nils] false false)).nx + 1) ob).get M.nx = some (.cells [.nils] false false) := gs (by rw [AM.nx_new]; omega) r1
  refine b_normal ?_
  refine k_seq ?_
  refine w_seq ?_
  refine w_region ?_
  refine vv (e_loadn rfl F.na175 zS zC) ?_
  refine vv (e_assign rfl) ?_
  refine w_nil ?_
  refine k_seq ?_
  refine w_ret ?_
  refine def_coll (gs (by omega) hd3) ⟨_, res_tmp rfl res_nil, hQ _ (by simp only [AM.nx_set]; omega) (fun x hx hxl => gs (by rw [AM.nx_new]; omega) (gs (by rw [AM.nx_new]; omega) (r2 x hx hxl))) (gs (by rw [AM.nx_new]; omega) (gs (by rw [AM.nx_new]; omega) r3))⟩
theorem collect0_ok (h1 : E.sums 200 = none) (h2 : E.sums 252 = none) (h3 : E.sums 251 = none) (h : E.sums 177 = none) {M : AM} {a b c d l p o : Nat} {lc : List AV} {r1 f1 r2 f2 r3 f3 fl : Bool} (ha : M.get a = some (.cells [.nils] r1 f1)) (hb : M.get b = some (.cells [.int .i64 (.ofNat p)] r2 f2)) (hc : M.get c = some (.cells [.ptr l o] r3 f3)) (hl : M.get l = some (.cells lc false fl))
    (la : a < M.nx) (lb : b < M.nx) (lc' : c < M.nx) (ll : l < M.nx) (nab : a ≠ l) (nbb : b ≠ l) (ncb : c ≠ l) (ho : o < lc.length) (hp : 2 ≤ p) (hp2 : p ≤ 512) (Q : KC)
    (hQ : ∀ M', M.nx ≤ M'.nx → (∀ x, x < M.nx → x ≠ l → M'.get x = M.get x) → M'.get l = some (.cells (spliceL lc o [.int .i64 (.ofNat 0)]) false fl) → Q (.ret .nils) M') :
    CallsTo E 177 [.fn (.func 252) [] [.ptr a 0, .ptr b 0, .ptr c 0, .ptr d 0]] M Q := by
  refine call_rule F.f177 rfl h ?_
  refine w_seq ?_
  refine w_region ?_
  refine vv (e_assign rfl) ?_
  refine w_nil ?_
  refine k_seq ?_
  refine w_seq ?_
  refine w_region ?_
  refine vv (e_move rfl) ?_
  refine vc (e_call rfl rfl F.f251 rfl) (appseq0_ok F h1 h2 h3 ha hb hc hl la lb lc' ll nab nbb ncb ho hp hp2 _ (fun M1 a1 a2 a3 => ?_))
  dsimp only
  refine vv (e_assign rfl) ?_
  refine w_nil ?_
  refine k_seq ?_
  refine w_ret ?_
  exact ⟨_, res_tmp rfl res_nil, hQ M1 a1 a2 a3⟩
theorem open0_ok {M : AM} {m L Z c B p0 bl pg sz rs : Nat} {f : Nat → Ent} {z : Nat → Int} {q : Int} {nx : Nat → Nat} {pcs : Nat → List AV} (hM : Mgr M m L Z c B p0 bl pg sz rs f z q nx pcs) (hg : Geo bl pg sz rs) (hz : z 0 = -1)
    (h1 : E.sums 200 = none) (h2 : E.sums 252 = none) (h3 : E.sums 251 = none) (h4 : E.sums 177 = none) (h5 : E.sums 178 = none)
    (h6 : E.sums 24 = none) (h7 : E.sums 49 = none) (h8 : E.sums 55 = none) (h9 : E.sums 158 = none) (h10 : E.sums 84 = none) (h11 : E.sums 109 = none) (h12 : E.sums 62 = none) (h : E.sums 97 = none) (Q : KC)
    (hQ : ∀ M' l lc, Same M M' → M.nx ≤ l → l < M'.nx → M'.get l = some (.cells lc false false) → lc[0 + 4]? = some .nils → Q (.ret (.tup [.ptr l 0, .int .i64 0])) M') : CallsTo E 97 [.ptr m 0, .int .i64 0] M Q := by
  have b1 := hg.b1
  have r1 := hg.r1
  have hs1 := hg.s1
  have hs2 := hg.s2
  refine call_rule F.f97 rfl h ?_
  refine w_seq ?_
  refine w_region ?_
  refine vv (e_assign rfl) ?_
  refine vv (e_assign rfl) ?_
  refine w_nil ?_
  refine k_seq ?_
  refine w_seq ?_
  refine w_block ?_
  refine w_seq ?_
  refine w_region ?_
  refine vv (e_move rfl) ?_
  refine vv (e_eqlp rfl rfl F.u46) ?_
  refine vv (e_assign rfl) ?_
  refine w_nil ?_
  refine k_seq ?_
  refine vf ?_
  refine w_seq ?_
  refine w_region ?_
  refine vv (e_move rfl) ?_
  refine vv rfl ?_
  refine vv (e_move rfl) ?_
  refine vg (e_move rfl) ?_
  refine vg (e_move rfl) ?_
  refine vc (e_call rfl rfl F.f24 rfl) (mlebs_ok F hM h6 _ ?_)
  dsimp only
  refine vg rfl ?_
  refine vv rfl ?_
  refine vv (e_assign rfl) ?_
  refine w_nil ?_
  refine k_seq ?_
  rw [show iltF 0 (.ofNat (bl - rs - 2)) = true from ilt_t (a := 0) (by omega)]
  refine vf ?_
  refine w_seq ?_
  refine w_region ?_
  refine vv (e_move rfl) ?_
  refine vc (e_call rfl rfl F.f49 rfl) (mchip_ok F hM h7 _ ?_)
  dsimp only
  skip
  refine vc (e_call rfl rfl F.f55 rfl) (on_c F h8 hM.ch _ ?_)
  dsimp only
  refine vv rfl ?_
  refine vv (e_assign rfl) ?_
  refine w_nil ?_
  refine k_seq ?_
  refine vf ?_
  refine w_skip ?_
  refine b_normal ?_
  refine k_seq ?_
  refine w_seq ?_
  refine w_region ?_
  refine vv (e_move rfl) ?_
  refine vv (e_move rfl) ?_
  refine vv (e_move rfl) ?_
  refine vv (e_move rfl) ?_
  refine vc (e_call rfl rfl F.f84 rfl) (used_un F hM hg hz h9 h10 _ (fun M1 s1 => ?_))
  dsimp only
  refine vv (e_build rfl F.bd237 rfl) ?_
  refine vv rfl ?_
  refine vv (e_assign rfl) ?_
  refine w_nil ?_
  refine k_seq ?_
  refine w_seq ?_
  refine w_seq ?_
  refine w_region ?_
  refine vv (e_move rfl) ?_
  refine vv rfl ?_
  refine vv (e_fa rfl F.fa237_3) ?_
  refine vv (e_loadn rfl F.na3 g0 zC) ?_
  refine vv (e_move rfl) ?_
  refine w_nil ?_
  refine k_seq ?_
  refine w_block ?_
  have n1 := s1.1
  have nm := hM.lt.1
  refine w_loop ?_
  refine loop_inv (fun w ρ D M' => D = [] ∧ M' = M1.new (.cells [.ptr m 0, .int .i64 0, .nils, .int .i64 0, .nils, .int .i64 0, .bool false] false false) ∧ ρ 0 = some (.ptr m 0) ∧ ρ 1 = some (.int .i64 0) ∧ ρ 6 = some (.ptr M1.nx 0) ∧ ρ 37 = some (.int .i64 0) ∧ ρ 38 = some (.int .i64 0)) ?_ 0 _ _ _ ⟨rfl, rfl, rfl, rfl, rfl, rfl, rfl⟩
  rintro w ρ D M' ⟨rfl, rfl, g0', g1, g6, g37, g38⟩
  rw [reg1 g0', reg1 g1, reg1 g6, reg1 g37, reg1 g38]
  have sL := s1.new (o := .cells [.ptr m 0, .int .i64 0, .nils, .int .i64 0, .nils, .int .i64 0, .bool false] false false)
  refine w_seq ?_
  refine w_region ?_
  refine vv rfl ?_
  refine w_nil ?_
  refine k_seq ?_
  refine w_seq ?_
  refine vf ?_
  refine w_exit ?_
  refine k_exit ?_
  refine k_exit ?_
  refine b_here ?_
  refine k_seq ?_
  refine w_seq ?_
  refine w_order [.run 0 0, .run 1 0, .run 2 2, .run 3 6, .run 4 14, .run 5 0, .run 7 0, .run 8 128, .run 9 384, .run 10 0, .run 11 1024, .run 12 3072, .chk, .eff 6 32, .chk, .eff 13 8190, .chk, .eff 14 16382, .run 15 32767, .run 16 65535, .chk, .eff 17 131071, .chk] (by decide +kernel) ?_
  refine sp rfl (e_move rfl) ?_
  refine sp rfl (e_move rfl) ?_
  refine sp rfl rfl ?_
  refine sp rfl (e_fa rfl F.fa237_2) ?_
  refine sr rfl (e_loadn rfl F.na157 g0 zC) ?_
  refine sp rfl (e_move rfl) ?_
  refine sp rfl (e_move rfl) ?_
  refine sp rfl rfl ?_
  refine sp rfl (e_fa rfl F.fa237_5) ?_
  refine sp rfl (e_move rfl) ?_
  refine sp rfl rfl ?_
  refine sp rfl (e_fa rfl F.fa237_6) ?_
  refine st_chk (by repeat first | exact ck_nil | refine ck_cons ⟨_, _, rfl, zA⟩ ?_ | refine ck_cons ⟨_, _, (e_loadn rfl F.na157 (by first | assumption | exact g0 | exact s0 | (repeat first | assumption | exact g0 | exact s0 | refine gn zL ?_ | refine gs zL ?_)) zC), zA⟩ ?_ | refine ck_cons ⟨_, (by first | assumption | exact g0 | exact s0 | (repeat first | assumption | exact g0 | exact s0 | refine gn zL ?_ | refine gs zL ?_)), zB⟩ ?_) ?_
  refine fc rfl zP (e_call rfl rfl F.f62 rfl) (mpage_ok F (hM.same sL) h12 _ ⟨Nat.le_refl _, ?_⟩)
  refine st_chk (by repeat first | exact ck_nil | refine ck_cons ⟨_, _, rfl, zA⟩ ?_ | refine ck_cons ⟨_, _, (e_loadn rfl F.na157 (by first | assumption | exact g0 | exact s0 | (repeat first | assumption | exact g0 | exact s0 | refine gn zL ?_ | refine gs zL ?_)) zC), zA⟩ ?_ | refine ck_cons ⟨_, (by first | assumption | exact g0 | exact s0 | (repeat first | assumption | exact g0 | exact s0 | refine gn zL ?_ | refine gs zL ?_)), zB⟩ ?_) ?_
  refine fc rfl zP (e_call rfl rfl F.f178 rfl) (wparts_ok F h5 _ .nils _ M1.nx (0 + 5) (0 + 6) rfl _ ⟨by simp only [AM.nx_new]; omega, ?_⟩)
  refine st_chk (by repeat first | exact ck_nil | refine ck_cons ⟨_, _, rfl, zA⟩ ?_ | refine ck_cons ⟨_, _, (e_loadn rfl F.na157 (by first | assumption | exact g0 | exact s0 | (repeat first | assumption | exact g0 | exact s0 | refine gn zL ?_ | refine gs zL ?_)) zC), zA⟩ ?_ | refine ck_cons ⟨_, (by first | assumption | exact g0 | exact s0 | (repeat first | assumption | exact g0 | exact s0 | refine gn zL ?_ | refine gs zL ?_)), zB⟩ ?_) ?_
  refine fc rfl zP (e_call rfl rfl F.f177 rfl) (collect0_ok F h1 h2 h3 h4 (a := M1.nx + 1) (b := M1.nx + 1 + 1) (c := M1.nx + 1 + 2) (d := M1.nx + 1 + 3) (l := M1.nx) (gn (by simp only [AM.nx_new]; omega) (gn (by simp only [AM.nx_new]; omega) (gn (by simp only [AM.nx_new]; omega) g0))) (gn (by simp only [AM.nx_new]; omega) (gn (by simp only [AM.nx_new]; omega) g0)) (gn (by simp only [AM.nx_new]; omega) g0) (gn (by simp only [AM.nx_new]; omega) (gn (by simp only [AM.nx_new]; omega) (gn (by simp only [AM.nx_new]; omega) (gn (by simp only [AM.nx_new]; omega) g0)))) (by simp only [AM.nx_new]; omega) (by simp only [AM.nx_new]; omega) (by simp only [AM.nx_new]; omega) (by simp only [AM.nx_new]; omega) (by omega) (by omega) (by omega) (Nat.le_of_ble_eq_true rfl) (by omega) hs2 _ (fun M2 a1 a2 a3 => ⟨a1, ?_⟩))
  simp only [AM.nx_new] at a1
  have a3 : M2.get M1.nx = some (.cells [.ptr m 0, .int .i64 0, .nils, .int .i64 0, .nils, .int .i64 0, .bool false] false false) := a3
  have S2 : Same M M2 := ⟨by omega, fun x hx => (a2 x (by simp only [AM.nx_new]; omega) (by omega)).trans ((AM.get_new_lt (by simp only [AM.nx_new]; omega)).trans ((AM.get_new_lt (by simp only [AM.nx_new]; omega)).trans ((AM.get_new_lt (by simp only [AM.nx_new]; omega)).trans ((AM.get_new_lt (by simp only [AM.nx_new]; omega)).trans (sL.2 x hx)))))⟩
  refine sp rfl rfl ?_
  refine sp rfl (e_fa rfl F.fa237_4) ?_
  refine st_chk (by repeat first | exact ck_nil | refine ck_cons ⟨_, _, rfl, zA⟩ ?_ | refine ck_cons ⟨_, _, (e_loadn rfl F.na157 (by first | assumption | exact g0 | exact s0 | (repeat first | assumption | exact g0 | exact s0 | refine gn zL ?_ | refine gs zL ?_)) zC), zA⟩ ?_ | refine ck_cons ⟨_, (by first | assumption | exact g0 | exact s0 | (repeat first | assumption | exact g0 | exact s0 | refine gn zL ?_ | refine gs zL ?_)), zB⟩ ?_) ?_
  refine fd rfl zP (e_store rfl rfl F.sz175 zS zN rfl) ?_
  refine st_chk (by repeat first | exact ck_nil | refine ck_cons ⟨_, _, rfl, zA⟩ ?_ | refine ck_cons ⟨_, _, (e_loadn rfl F.na157 (by first | assumption | exact g0 | exact s0 | (repeat first | assumption | exact g0 | exact s0 | refine gn zL ?_ | refine gs zL ?_)) zC), zA⟩ ?_ | refine ck_cons ⟨_, (by first | assumption | exact g0 | exact s0 | (repeat first | assumption | exact g0 | exact s0 | refine gn zL ?_ | refine gs zL ?_)), zB⟩ ?_) ?_
  refine st_nil ?_
  refine k_seq ?_
  refine w_seq ?_
  refine w_region ?_
  refine vv (e_move rfl) ?_
  refine vv (e_move rfl) ?_
  refine vv rfl ?_
  refine vv (e_fa rfl F.fa237_6) ?_
  refine vv (e_loadn rfl F.na4 s0 zC) ?_
  refine vv (e_move rfl) ?_
  refine vg (e_move rfl) ?_
  refine vg (e_move rfl) ?_
  refine vc (e_call rfl rfl F.f109 rfl) (closed_un F (hM.same (S2.set n1)) hg hz h9 h11 _ (fun M3 s3 => ?_))
  dsimp only
  have n3 := s3.1
  simp only [AM.nx_set] at n3
  have c3 : M3.get M1.nx = some (.cells [.ptr m 0, .int .i64 0, .nils, .int .i64 0, .nils, .int .i64 0, .bool false] false false) := (s3.2 _ (by rw [AM.nx_set]; omega)).trans s0
  refine vv rfl ?_
  refine vv rfl ?_
  refine vv (e_fa rfl F.fa237_6) ?_
  refine vd (e_store rfl rfl F.sz4 zS zN rfl) ?_
  refine w_nil ?_
  refine k_seq ?_
  refine w_seq ?_
  refine w_region ?_
  refine vv (e_move rfl) ?_
  refine vv (e_assign rfl) ?_
  refine vv (e_assign rfl) ?_
  refine w_nil ?_
  refine k_seq ?_
  refine w_ret ?_
  exact ⟨_, res_tmp rfl (res_tmp rfl res_nil), hQ _ M1.nx _ (((S2.set n1).trans s3).set n1) n1 (by rw [AM.nx_set]; omega) s0 rfl⟩
theorem mopen_ok {M : AM} {m L Z c B p0 bl pg sz rs : Nat} {f : Nat → Ent} {z : Nat → Int} {q : Int} {nx : Nat → Nat} {pcs : Nat → List AV} (hM : Mgr M m L Z c B p0 bl pg sz rs f z q nx pcs) (hg : Geo bl pg sz rs) (hz : z 0 = -1)
    (h1 : E.sums 200 = none) (h2 : E.sums 252 = none) (h3 : E.sums 251 = none) (h4 : E.sums 177 = none) (h5 : E.sums 178 = none)
    (h6 : E.sums 24 = none) (h7 : E.sums 49 = none) (h8 : E.sums 55 = none) (h9 : E.sums 158 = none) (h10 : E.sums 84 = none) (h11 : E.sums 109 = none) (h12 : E.sums 62 = none) (h13 : E.sums 97 = none)
    (h14 : E.sums 179 = none) (h15 : E.sums 98 = none) (h : E.sums 38 = none) (Q : KC)
    (hQ : ∀ M', Same M M' → Q (.ret (.tup [.nilp, .int .i64 117])) M') : CallsTo E 38 [.ptr m 0] M Q := by
  refine call_rule F.f38 rfl h ?_
  refine w_seq ?_
  refine w_region ?_
  refine vv (e_assign rfl) ?_
  refine vv (e_assign rfl) ?_
  refine w_nil ?_
  refine k_seq ?_
  refine w_seq ?_
  refine w_region ?_
  refine vv (e_move rfl) ?_
  refine vc (e_call rfl rfl F.f97 rfl) (open0_ok F hM hg hz h1 h2 h3 h4 h5 h6 h7 h8 h9 h10 h11 h12 h13 _ (fun M1 l lc s1 l1 l2 hl h4' => ?_))
  dsimp only
  refine vv (e_move rfl) ?_
  refine vv rfl ?_
  refine vv rfl ?_
  refine vv (e_assign rfl) ?_
  refine vv (e_assign rfl) ?_
  refine w_nil ?_
  refine k_seq ?_
  refine w_seq ?_
  refine w_seq ?_
  refine w_region ?_
  refine vv (e_move rfl) ?_
  refine vv rfl ?_
  refine w_nil ?_
  refine k_seq ?_
  refine vf ?_
  refine w_skip ?_
  refine k_seq ?_
  refine w_seq ?_
  refine w_region ?_
  refine vv (e_move rfl) ?_
  refine vc (e_call rfl rfl F.f98 rfl) (frames0_ok F h14 h15 hl h4' _ ?_)
  dsimp only
  refine vv (e_build rfl F.bd178 rfl) ?_
  refine vv rfl ?_
  refine vv (e_assign rfl) ?_
  refine w_nil ?_
  refine k_seq ?_
  refine w_seq ?_
  refine w_seq ?_
  refine w_order [.run 0 0, .run 1 1, .run 2 3, .run 3 7, .run 4 15, .run 5 31, .run 6 63, .run 7 127, .run 8 255, .run 9 511, .run 10 1023, .run 11 2047, .run 12 4095, .run 13 8191, .run 14 16383, .run 15 127, .chk, .eff 16 32895, .chk, .eff 17 98431, .chk, .eff 18 229503, .run 19 491647, .run 20 1048575, .run 21 2097151, .chk] (by decide +kernel) ?_
  refine sp rfl (e_move rfl) ?_
  refine sp rfl rfl ?_
  refine sp rfl (e_fa rfl F.fa178_0) ?_
  refine sr rfl (e_loadn rfl F.na175 g0 zC) ?_
  refine sr rfl (e_len_nils rfl rfl rfl rfl F.u175) ?_
  refine sp rfl rfl ?_
  refine sp rfl (e_move rfl) ?_
  refine sn rfl ?_
  refine sn rfl ?_
  refine sn rfl ?_
  refine sn rfl ?_
  refine sn rfl ?_
  refine sn rfl ?_
  refine sn rfl ?_
  refine sn rfl ?_ (hk := okn_s F.u9)
  refine sn rfl ?_
  refine st_chk (by repeat first | exact ck_nil | refine ck_cons ⟨_, _, rfl, zA⟩ ?_ | refine ck_cons ⟨_, _, (e_loadn rfl F.na175 (by first | assumption | exact g0 | exact s0 | (repeat first | assumption | exact g0 | exact s0 | refine gn zL ?_ | refine gs zL ?_)) zC), zA⟩ ?_ | refine ck_cons ⟨_, _, (e_len_sl rfl rfl rfl rfl F.u175), zA⟩ ?_ | refine ck_cons ⟨_, _, (e_len_nils rfl rfl rfl rfl F.u175), zA⟩ ?_ | refine ck_cons ⟨_, _, (e_len_str rfl rfl rfl rfl F.u175), zA⟩ ?_ | refine ck_cons ⟨_, _, (e_loadn rfl F.na157 (by first | assumption | exact g0 | exact s0 | (repeat first | assumption | exact g0 | exact s0 | refine gn zL ?_ | refine gs zL ?_)) zC), zA⟩ ?_ | refine ck_cons ⟨_, _, (e_conv_int rfl F.u157 F.u9), zA⟩ ?_ | refine ck_cons ⟨_, _, (e_neqp rfl rfl F.u9), zA⟩ ?_ | refine ck_cons ⟨_, _, (e_neqpn rfl rfl F.u9), zA⟩ ?_ | refine ck_cons ⟨_, _, (e_neqsn rfl rfl F.u9), zA⟩ ?_ | refine ck_cons ⟨_, _, (e_neqsnn rfl rfl F.u9), zA⟩ ?_ | refine ck_cons ⟨_, (by first | assumption | exact g0 | exact s0 | (repeat first | assumption | exact g0 | exact s0 | refine gn zL ?_ | refine gs zL ?_)), zB⟩ ?_) ?_
  refine fz rfl zP ?_
  refine st_chk (by repeat first | exact ck_nil | refine ck_cons ⟨_, _, rfl, zA⟩ ?_ | refine ck_cons ⟨_, _, (e_loadn rfl F.na175 (by first | assumption | exact g0 | exact s0 | (repeat first | assumption | exact g0 | exact s0 | refine gn zL ?_ | refine gs zL ?_)) zC), zA⟩ ?_ | refine ck_cons ⟨_, _, (e_len_sl rfl rfl rfl rfl F.u175), zA⟩ ?_ | refine ck_cons ⟨_, _, (e_len_nils rfl rfl rfl rfl F.u175), zA⟩ ?_ | refine ck_cons ⟨_, _, (e_len_str rfl rfl rfl rfl F.u175), zA⟩ ?_ | refine ck_cons ⟨_, _, (e_loadn rfl F.na157 (by first | assumption | exact g0 | exact s0 | (repeat first | assumption | exact g0 | exact s0 | refine gn zL ?_ | refine gs zL ?_)) zC), zA⟩ ?_ | refine ck_cons ⟨_, _, (e_conv_int rfl F.u157 F.u9), zA⟩ ?_ | refine ck_cons ⟨_, _, (e_neqp rfl rfl F.u9), zA⟩ ?_ | refine ck_cons ⟨_, _, (e_neqpn rfl rfl F.u9), zA⟩ ?_ | refine ck_cons ⟨_, _, (e_neqsn rfl rfl F.u9), zA⟩ ?_ | refine ck_cons ⟨_, _, (e_neqsnn rfl rfl F.u9), zA⟩ ?_ | refine ck_cons ⟨_, (by first | assumption | exact g0 | exact s0 | (repeat first | assumption | exact g0 | exact s0 | refine gn zL ?_ | refine gs zL ?_)), zB⟩ ?_) ?_
  refine fz rfl zP ?_
  refine st_chk (by repeat first | exact ck_nil | refine ck_cons ⟨_, _, rfl, zA⟩ ?_ | refine ck_cons ⟨_, _, (e_loadn rfl F.na175 (by first | assumption | exact g0 | exact s0 | (repeat first | assumption | exact g0 | exact s0 | refine gn zL ?_ | refine gs zL ?_)) zC), zA⟩ ?_ | refine ck_cons ⟨_, _, (e_len_sl rfl rfl rfl rfl F.u175), zA⟩ ?_ | refine ck_cons ⟨_, _, (e_len_nils rfl rfl rfl rfl F.u175), zA⟩ ?_ | refine ck_cons ⟨_, _, (e_len_str rfl rfl rfl rfl F.u175), zA⟩ ?_ | refine ck_cons ⟨_, _, (e_loadn rfl F.na157 (by first | assumption | exact g0 | exact s0 | (repeat first | assumption | exact g0 | exact s0 | refine gn zL ?_ | refine gs zL ?_)) zC), zA⟩ ?_ | refine ck_cons ⟨_, _, (e_conv_int rfl F.u157 F.u9), zA⟩ ?_ | refine ck_cons ⟨_, _, (e_neqp rfl rfl F.u9), zA⟩ ?_ | refine ck_cons ⟨_, _, (e_neqpn rfl rfl F.u9), zA⟩ ?_ | refine ck_cons ⟨_, _, (e_neqsn rfl rfl F.u9), zA⟩ ?_ | refine ck_cons ⟨_, _, (e_neqsnn rfl rfl F.u9), zA⟩ ?_ | refine ck_cons ⟨_, (by first | assumption | exact g0 | exact s0 | (repeat first | assumption | exact g0 | exact s0 | refine gn zL ?_ | refine gs zL ?_)), zB⟩ ?_) ?_
  refine fz rfl zP ?_
  refine sn rfl ?_ (hk := okn_s F.u9)
  refine sn rfl ?_
  refine sp rfl rfl ?_
  refine st_chk (by repeat first | exact ck_nil | refine ck_cons ⟨_, _, rfl, zA⟩ ?_ | refine ck_cons ⟨_, _, (e_loadn rfl F.na175 (by first | assumption | exact g0 | exact s0 | (repeat first | assumption | exact g0 | exact s0 | refine gn zL ?_ | refine gs zL ?_)) zC), zA⟩ ?_ | refine ck_cons ⟨_, _, (e_len_sl rfl rfl rfl rfl F.u175), zA⟩ ?_ | refine ck_cons ⟨_, _, (e_len_nils rfl rfl rfl rfl F.u175), zA⟩ ?_ | refine ck_cons ⟨_, _, (e_len_str rfl rfl rfl rfl F.u175), zA⟩ ?_ | refine ck_cons ⟨_, _, (e_loadn rfl F.na157 (by first | assumption | exact g0 | exact s0 | (repeat first | assumption | exact g0 | exact s0 | refine gn zL ?_ | refine gs zL ?_)) zC), zA⟩ ?_ | refine ck_cons ⟨_, _, (e_conv_int rfl F.u157 F.u9), zA⟩ ?_ | refine ck_cons ⟨_, _, (e_neqp rfl rfl F.u9), zA⟩ ?_ | refine ck_cons ⟨_, _, (e_neqpn rfl rfl F.u9), zA⟩ ?_ | refine ck_cons ⟨_, _, (e_neqsn rfl rfl F.u9), zA⟩ ?_ | refine ck_cons ⟨_, _, (e_neqsnn rfl rfl F.u9), zA⟩ ?_ | refine ck_cons ⟨_, (by first | assumption | exact g0 | exact s0 | (repeat first | assumption | exact g0 | exact s0 | refine gn zL ?_ | refine gs zL ?_)), zB⟩ ?_) ?_
  refine st_nil ?_
  refine k_seq ?_
  refine vt ?_
  refine w_seq ?_
  refine w_region ?_
  refine vv (e_assign rfl) ?_
  refine vv (e_assign rfl) ?_
  refine w_nil ?_
  refine k_seq ?_
  refine w_ret ?_
  refine k_ret ?_
  exact ⟨_, res_tmp rfl (res_tmp rfl res_nil), hQ _ s1.new⟩
theorem goodfan_ok (h : E.sums 171 = none) (M : AM) (Q : KC) (hQ : Q (.ret (.bool true)) M) : CallsTo E 171 [.int .i64 16] M Q := by
  refine call_rule F.f171 rfl h ?_
  refine w_seq ?_
  refine w_region ?_
  refine vv (e_assign rfl) ?_
  refine w_nil ?_
  refine k_seq ?_
  refine w_seq ?_
  refine w_region ?_
  refine vv (e_move rfl) ?_
  refine vv rfl ?_
  refine vv (e_move rfl) ?_
  refine vg (e_move rfl) ?_
  refine vg rfl ?_
  refine vv rfl ?_
  refine vv (e_assign rfl) ?_
  refine w_nil ?_
  refine k_seq ?_
  refine w_ret ?_
  exact ⟨_, res_tmp rfl res_nil, hQ⟩
theorem bnew_ok (h1 : E.sums 171 = none) (h : E.sums 94 = none) (M : AM) (Q : KC) (hQ : ∀ M', M'.nx = M.nx + 2 → Same M M' → M'.get M.nx = some (.cells [.int .i64 0, .nils, .nils, .nils, .bool true] false false) → M'.get (M.nx + 1) = some (.cells [.int .i64 16, .ptr M.nx 0, .int .i64 0] false false) → Q (.ret (.tup [.ptr (M.nx + 1) 0, .int .i64 0])) M') : CallsTo E 94 [.int .i64 16] M Q := by
  refine call_rule F.f94 rfl h ?_
  refine w_seq ?_
  refine w_region ?_
  refine vv (e_assign rfl) ?_
  refine vv (e_assign rfl) ?_
  refine w_nil ?_
  refine k_seq ?_
  refine w_seq ?_
  refine w_seq ?_
  refine w_region ?_
  refine vv (e_move rfl) ?_
  refine vc (e_call rfl rfl F.f171 rfl) (goodfan_ok F h1 M _ ?_)
  dsimp only
  refine vv rfl ?_
  refine w_nil ?_
  refine k_seq ?_
  refine vf ?_
  refine w_skip ?_
  refine k_seq ?_
  refine w_seq ?_
  refine w_region ?_
  refine vv (e_move rfl) ?_
  refine vv (e_build rfl F.bd114 rfl) ?_
  refine vv rfl ?_
  refine vv (e_build rfl F.bd110 rfl) ?_
  refine vv rfl ?_
  refine vv (e_assign rfl) ?_
  refine vv (e_assign rfl) ?_
  refine w_nil ?_
  refine k_seq ?_
  refine w_ret ?_
  exact ⟨_, res_tmp rfl (res_tmp rfl res_nil), hQ _ rfl (Same.refl M).new.new (gn (Nat.lt_succ_self _) g0) g0⟩
theorem begun_ok (h1 : E.sums 171 = none) (h2 : E.sums 94 = none) (h : E.sums 32 = none) (M : AM) (m : Nat) (Q : KC) (hQ : ∀ M' s t r a b c, Same M M' → M.nx ≤ s → s < M'.nx → M.nx ≤ t → t < M'.nx → M.nx ≤ r → r < M'.nx → s ≠ t → s ≠ r → M'.get s = some (.cells [.ptr m 0, .nilp, .nilp, .nilp, .ptr t 0, .mp a, .mp b, .mp c, .int .u64 0, .int .i64 0] false false) → M'.get c = some (.map [] 0) → M.nx ≤ c → c < M'.nx → c ≠ s → c ≠ t → c ≠ r → M'.get r = some (.cells [.int .i64 0, .nils, .nils, .nils, .bool true] false false) → M'.get t = some (.cells [.int .i64 16, .ptr r 0, .int .i64 0] false false) → Q (.ret (.ptr s 0)) M') : CallsTo E 32 [.ptr m 0] M Q := by
  refine call_rule F.f32 rfl h ?_
  refine w_seq ?_
  refine w_region ?_
  refine vv (e_assign rfl) ?_
  refine w_nil ?_
  refine k_seq ?_
  refine w_seq ?_
  refine w_region ?_
  refine vc (e_call rfl rfl F.f94 rfl) (bnew_ok F h1 h2 M _ (fun M1 n1 s1 c1 c2 => ?_))
  dsimp only
  refine vv (e_move rfl) ?_
  refine vv rfl ?_
  refine vv rfl ?_
  refine vv (e_assign rfl) ?_
  refine vv (e_assign rfl) ?_
  refine w_nil ?_
  refine k_seq ?_
  refine w_seq ?_
  refine w_region ?_
  refine vv (e_move rfl) ?_
  refine vv (e_move rfl) ?_
  refine vv rfl ?_
  refine vv rfl ?_
  refine vv rfl ?_
  refine vv (e_build rfl F.bd56 rfl) ?_
  refine vv rfl ?_
  refine vv (e_assign rfl) ?_
  refine w_nil ?_
  refine k_seq ?_
  refine w_ret ?_
  simp only [AM.nx_new]
  refine ⟨_, res_tmp rfl res_nil, hQ _ (M1.nx + 1 + 1 + 1) (M.nx + 1) M.nx _ _ (M1.nx + 1 + 1) s1.new.new.new.new (by omega) (by simp only [AM.nx_new]; omega) (by omega) (by simp only [AM.nx_new]; omega) (Nat.le_refl _) (by simp only [AM.nx_new]; omega) (by omega) (by omega) g0 (gn (Nat.lt_succ_self _) g0) (by omega) (by simp only [AM.nx_new]; omega) (by omega) (by omega) (by omega) ?_ ?_⟩
  · exact gn (by simp only [AM.nx_new]; omega) (gn (by simp only [AM.nx_new]; omega) (gn (by simp only [AM.nx_new]; omega) (gn (by omega) c1)))
  · exact gn (by simp only [AM.nx_new]; omega) (gn (by simp only [AM.nx_new]; omega) (gn (by simp only [AM.nx_new]; omega) (gn (by omega) c2)))
end
end Go.Abm.Seat

open Go Go.Abm
set_option maxRecDepth 100000
set_option maxHeartbeats 4000000
namespace Go.Abm.Seat
def symB (f : Nat) : Bool := !([248, 140, 91, 17, 0, 1, 153, 154, 155, 182, 233, 234, 284, 300, 313, 315, 328, 352, 361, 362, 363, 364, 365, 366, 367, 368, 369, 370, 371, 372, 373, 374, 375, 376, 377, 378, 379, 380, 381, 382, 383, 384, 386, 387, 388, 389, 391, 392, 393, 394, 395, 396, 397, 398, 399, 400, 401, 402, 404, 405, 407, 409, 411, 412, 413, 414, 415, 416, 417, 418, 419, 420, 421, 422, 423].any (Nat.beq f))
def NS (E : Env) : Prop := ∀ f, symB f = true → E.sums f = none
section
variable {E : Env} (F : Facts E) (N : NS E) (hS : E.sums 248 = some sSum) (hF : E.sums 140 = some sFill)
include F N hS hF
theorem mount_ok {M : AM} {c B p0 bl pg sz rs : Nat} {nx : Nat → Nat} {pcs : Nat → List AV} (hch : Chip M c B p0 bl pg sz rs nx pcs) (hg : Geo bl pg sz rs) (hr : rightB (.ofNat bl) (.ofNat pg) (.ofNat sz) (.ofNat rs) = true) (hz : ∀ i, i < bl → nx i = 0) (Q : KC)
    (hQ : ∀ M', M.nx ≤ M'.nx → (∀ x, x < M.nx → ¬Own c B p0 bl x → M'.get x = M.get x) → Q (.ret (.tup [.nilp, .int .i64 117])) M') :
    CallsTo E 9 [.ptr c 0] M Q := by
  refine call_rule F.f9 rfl (N 9 rfl) ?_
  refine w_seq ?_
  refine w_region ?_
  refine vv (e_assign rfl) ?_
  refine vv (e_assign rfl) ?_
  refine w_nil ?_
  refine k_seq ?_
  refine w_seq ?_
  refine w_region ?_
  refine vv (e_move rfl) ?_
  refine vc (e_call rfl rfl F.f37 rfl) (attach_ok F hS hF (N 144 rfl) (N 173 rfl) (N 246 rfl) (N 168 rfl) (N 240 rfl) (N 164 rfl) (N 243 rfl) (N 244 rfl) (N 167 rfl) (N 180 rfl) (N 169 rfl) (N 237 rfl) (N 159 rfl) (N 101 rfl) (N 93 rfl) (N 291 rfl) (N 290 rfl) (N 289 rfl) (N 239 rfl) (N 55 rfl) (N 50 rfl) (N 288 rfl) (N 238 rfl) (N 161 rfl) (N 124 rfl) (N 52 rfl) (N 162 rfl) (N 163 rfl) (N 90 rfl) (N 59 rfl) (N 23 rfl) (N 37 rfl) hch hg hr hz _ (fun M1 m L Z f q nx' pcs' hx1 ho1 lm lL lZ hM1 => ?_))
  dsimp only
  refine vv (e_move rfl) ?_
  refine vv rfl ?_
  refine vv rfl ?_
  refine vv (e_assign rfl) ?_
  refine vv (e_assign rfl) ?_
  refine w_nil ?_
  refine k_seq ?_
  refine w_seq ?_
  refine w_seq ?_
  refine w_region ?_
  refine vv (e_move rfl) ?_
  refine vv rfl ?_
  refine w_nil ?_
  refine k_seq ?_
  refine vf ?_
  refine w_skip ?_
  refine k_seq ?_
  refine w_seq ?_
  refine w_region ?_
  refine vv (e_move rfl) ?_
  refine vc (e_call rfl rfl F.f32 rfl) (begun_ok F (N 171 rfl) (N 94 rfl) (N 32 rfl) M1 m _ (fun M2 s t r a b d s2 ls1 ls2 lt1 lt2 lr1 lr2 _ _ hs2 _ _ _ _ _ _ _ _ => ?_))
  dsimp only
  refine vv (e_assign rfl) ?_
  refine w_nil ?_
  refine k_seq ?_
  refine w_seq ?_
  refine w_seq ?_
  refine w_region ?_
  refine vv (e_move rfl) ?_
  refine vv (e_move rfl) ?_
  refine vc (e_call rfl rfl F.f38 rfl) (mopen_ok F (hM1.same s2) hg rfl (N 200 rfl) (N 252 rfl) (N 251 rfl) (N 177 rfl) (N 178 rfl) (N 24 rfl) (N 49 rfl) (N 55 rfl) (N 158 rfl) (N 84 rfl) (N 109 rfl) (N 62 rfl) (N 97 rfl) (N 179 rfl) (N 98 rfl) (N 38 rfl) _ (fun M3 s3 => ?_))
  dsimp only
  have hs3 := (s3.2 s ls2).trans hs2
  have hx2 := s2.1
  have hx3 := s3.1
  refine vv (e_move rfl) ?_
  refine vv rfl ?_
  refine vv rfl ?_
  refine vv rfl ?_
  refine vv (e_fa rfl F.fa56_1) ?_
  refine vd (e_store rfl rfl F.sz47 zS zN rfl) ?_
  refine vv (e_assign rfl) ?_
  refine w_nil ?_
  refine k_seq ?_
  refine w_seq ?_
  refine w_region ?_
  refine vv (e_move rfl) ?_
  refine vv rfl ?_
  refine w_nil ?_
  refine k_seq ?_
  refine vt ?_
  refine w_seq ?_
  refine w_region ?_
  refine vv (e_move rfl) ?_
  refine vv (e_assign rfl) ?_
  refine vv (e_assign rfl) ?_
  refine w_nil ?_
  refine k_seq ?_
  refine w_ret ?_
  refine k_ret ?_
  exact ⟨_, res_tmp rfl (res_tmp rfl res_nil), hQ _ (by rw [AM.nx_set]; omega) (fun x hx hO => gs (by omega) ((s3.2 x (by omega)).trans ((s2.2 x (by omega)).trans (ho1 x hx hO))))⟩
end
end Go.Abm.Seat
