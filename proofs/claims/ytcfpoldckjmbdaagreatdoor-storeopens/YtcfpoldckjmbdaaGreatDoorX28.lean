/-
  A part of the proof that pumicelaw17.StoreOpens returns true for every geometry, key, number and group (a machine over names of blocks, its soundness, the calls of the store for any geometry, the chapter's example as a run). Condition: the listed package variables hold what the program's text lays; the card ties that.
-/
import Derived.Test.YtcfpoldckjmbdaaGreatDoorX27
import Derived.Test.YtcfpoldckjmbdaaGreatDoorX24
set_option linter.unusedVariables false
set_option linter.unusedSimpArgs false
set_option linter.unusedSectionVars false
open Go Go.Abm
set_option maxRecDepth 100000
set_option maxHeartbeats 4000000
namespace Go.Abm.Seat
section
variable {E : Env} (F : Facts E) (N : NS E) (R : RS E)
include F N R
theorem parts_any (J : Nat → AM → Prop) {M : AM} {a b c d lg o5 o6 p nl l B0 : Nat} {v : AV} {bs : List Nat}
    (hG : ∀ i M1, J i M1 → a < M1.nx ∧ b < M1.nx ∧ c < M1.nx ∧ d < M1.nx ∧ lg < M1.nx ∧ B0 ≤ M1.nx ∧ (∃ r0 f0, M1.get a = some (.cells [v] r0 f0)) ∧ (∃ r0 f0, M1.get b = some (.cells [.int .i64 (.ofNat p)] r0 f0)) ∧ (∃ r0 f0, M1.get c = some (.cells [.ptr lg o5] r0 f0)) ∧ (∃ r0 f0, M1.get d = some (.cells [.ptr lg o6] r0 f0)) ∧ (∃ lc fz, M1.get lg = some (.cells lc false fz) ∧ lc.length = nl) ∧ Bts M1 v bs)
    (ho5 : o5 < nl) (ho6 : o6 < nl) (hp : bs.length = p) (hp1 : 2 ≤ p) (hp2 : p ≤ 512)
    (hI : ∀ i M1 M2, J i M1 → Same M1 M2 → J i M2) (hm : ∀ i j M1, J i M1 → i ≤ j → J j M1)
    (hW5 : ∀ i M1 lc fz (j : Nat), J i M1 → M1.get lg = some (.cells lc false fz) → J i (M1.set lg (some (.cells (spliceL lc o5 [.int .i64 (.ofNat j)]) false fz)))) (hW6 : ∀ i M1 lc fz, J i M1 → M1.get lg = some (.cells lc false fz) → J i (M1.set lg (some (.cells (spliceL lc o6 [.bool true]) false fz))))
    (hr : ∀ M1 i w bs', i < p → J i M1 → Bts M1 w bs' → B0 ≤ blk w → RoundTo E l [.agg [.int .i64 (.ofNat i), w]] M1 fun e M2 => e = .ret (.bool true) ∧ J (i + 1) M2) (h0 : J 0 M) (Q : KC) (hQ : ∀ M', J p M' → Q (.ret (.tup [])) M') :
    CallsTo E 252 [.fn (.yield l) [] [], .ptr a 0, .ptr b 0, .ptr c 0, .ptr d 0] M Q := by
  refine call_rule F.f252 rfl (N 252 rfl) ?_
  refine w_seq ?_
  refine w_region ?_
  refine vv (e_assign rfl) ?_
  refine w_nil ?_
  refine k_seq ?_
  refine w_seq ?_
  refine w_block ?_
  refine w_loop ?_
  refine loop_inv (fun z ρ D M' => D = [] ∧ ∃ i, z = p - i ∧ i ≤ p ∧ J i M' ∧ ρ 0 = some (.fn (.yield l) [] []) ∧ ρ 1 = some (.ptr a 0) ∧ ρ 2 = some (.ptr b 0) ∧ ρ 3 = some (.ptr c 0) ∧ ρ 4 = some (.ptr d 0) ∧ ρ 6 = some (.int .i64 (.ofNat i))) ?_ p _ _ _
    ⟨rfl, 0, rfl, Nat.zero_le _, h0, rfl, rfl, rfl, rfl, rfl, rfl⟩
  rintro z ρ D M' ⟨rfl, i, rfl, hi, hJ, g0, g1, g2, g3, g4, g6⟩
  obtain ⟨la, lb, lc', ld, llg, lB, ⟨ra, fa, ha⟩, ⟨rb, fb, hb⟩, ⟨rc, fc', hc⟩, ⟨rd, fd', hd⟩, ⟨lc, fz, hl, hnl⟩, hv⟩ := hG _ _ hJ
  have hv0 := hv
  obtain ⟨db, o, dc, dg, dl, ro, fzd, hve, k2, k3, k4, k5, k6, k7, k8⟩ := hv0
  rw [hp] at hve
  rw [hve] at ha
  rw [reg1 g0, reg1 g1, reg1 g2, reg1 g3, reg1 g4, reg1 g6]
  refine w_seq ?_
  refine w_seq ?_
  refine w_region ?_
  refine vv (e_move rfl) ?_
  refine vv (e_loadn rfl F.na157 zS zC) ?_
  refine vv (e_len_sl rfl rfl rfl rfl F.u157) ?_
  refine vv rfl ?_
  refine w_nil ?_
  refine k_seq ?_
  refine w_cond rfl (fun h => ?_) (fun h => ?_)
  case refine_2 =>
    refine w_exit ?_
    refine k_exit ?_
    refine k_exit ?_
    refine b_here ?_
    refine k_seq ?_
    refine w_order [.run 0 0, .run 1 0, .run 2 0, .chk, .eff 3 6, .run 4 15, .chk, .eff 5 31, .chk] (by decide +kernel) ?_
    refine sr rfl (e_loadn rfl F.na303 zS zC) ?_
    refine sp rfl (e_move rfl) ?_
    refine sr rfl (e_loadn rfl F.na3 zS zC) ?_
    refine st_chk (by repeat first | exact ck_nil | refine ck_cons ⟨_, _, rfl, zA⟩ ?_ | refine ck_cons ⟨_, _, (e_loadn rfl F.na303 (by first | assumption | exact g0 | exact s0 | (repeat first | assumption | exact g0 | exact s0 | refine gn zL ?_ | refine gs zL ?_)) zC), zA⟩ ?_ | refine ck_cons ⟨_, _, (e_loadn rfl F.na3 (by first | assumption | exact g0 | exact s0 | (repeat first | assumption | exact g0 | exact s0 | refine gn zL ?_ | refine gs zL ?_)) zC), zA⟩ ?_ | refine ck_cons ⟨_, (by first | assumption | exact g0 | exact s0 | (repeat first | assumption | exact g0 | exact s0 | refine gn zL ?_ | refine gs zL ?_)), zB⟩ ?_) ?_
    refine fc rfl zP (e_call rfl rfl F.f200 rfl) (begin_any F N R _ hi hp1 (by omega) _ (fun j => ⟨Nat.le_refl _, ?_⟩))
    refine sp rfl rfl ?_
    refine st_chk (by repeat first | exact ck_nil | refine ck_cons ⟨_, _, rfl, zA⟩ ?_ | refine ck_cons ⟨_, _, (e_loadn rfl F.na303 (by first | assumption | exact g0 | exact s0 | (repeat first | assumption | exact g0 | exact s0 | refine gn zL ?_ | refine gs zL ?_)) zC), zA⟩ ?_ | refine ck_cons ⟨_, _, (e_loadn rfl F.na3 (by first | assumption | exact g0 | exact s0 | (repeat first | assumption | exact g0 | exact s0 | refine gn zL ?_ | refine gs zL ?_)) zC), zA⟩ ?_ | refine ck_cons ⟨_, (by first | assumption | exact g0 | exact s0 | (repeat first | assumption | exact g0 | exact s0 | refine gn zL ?_ | refine gs zL ?_)), zB⟩ ?_) ?_
    refine fd rfl zP (e_store rfl rfl F.sz3 zS zN rfl) ?_
    refine st_chk (by repeat first | exact ck_nil | refine ck_cons ⟨_, _, rfl, zA⟩ ?_ | refine ck_cons ⟨_, _, (e_loadn rfl F.na303 (by first | assumption | exact g0 | exact s0 | (repeat first | assumption | exact g0 | exact s0 | refine gn zL ?_ | refine gs zL ?_)) zC), zA⟩ ?_ | refine ck_cons ⟨_, _, (e_loadn rfl F.na3 (by first | assumption | exact g0 | exact s0 | (repeat first | assumption | exact g0 | exact s0 | refine gn zL ?_ | refine gs zL ?_)) zC), zA⟩ ?_ | refine ck_cons ⟨_, (by first | assumption | exact g0 | exact s0 | (repeat first | assumption | exact g0 | exact s0 | refine gn zL ?_ | refine gs zL ?_)), zB⟩ ?_) ?_
    refine st_nil ?_
    exact ⟨_, res_nil, hQ _ (hm _ _ _ (hW5 _ M' lc fz _ hJ hl) hi)⟩
  have hlt := ilt_lt h
  refine w_skip ?_
  refine k_seq ?_
  refine w_block ?_
  refine w_seq ?_
  refine w_order [.run 0 0, .run 1 0, .run 2 0, .chk, .eff 3 6, .run 4 15, .chk, .eff 5 31, .chk] (by decide +kernel) ?_
  refine sr rfl (e_loadn rfl F.na303 zS zC) ?_
  refine sp rfl (e_move rfl) ?_
  refine sr rfl (e_loadn rfl F.na3 zS zC) ?_
  refine st_chk (by repeat first | exact ck_nil | refine ck_cons ⟨_, _, rfl, zA⟩ ?_ | refine ck_cons ⟨_, _, (e_loadn rfl F.na303 (by first | assumption | exact g0 | exact s0 | (repeat first | assumption | exact g0 | exact s0 | refine gn zL ?_ | refine gs zL ?_)) zC), zA⟩ ?_ | refine ck_cons ⟨_, _, (e_loadn rfl F.na3 (by first | assumption | exact g0 | exact s0 | (repeat first | assumption | exact g0 | exact s0 | refine gn zL ?_ | refine gs zL ?_)) zC), zA⟩ ?_ | refine ck_cons ⟨_, (by first | assumption | exact g0 | exact s0 | (repeat first | assumption | exact g0 | exact s0 | refine gn zL ?_ | refine gs zL ?_)), zB⟩ ?_) ?_
  refine fc rfl zP (e_call rfl rfl F.f200 rfl) (begin_any F N R _ hi hp1 (by omega) _ (fun j => ⟨Nat.le_refl _, ?_⟩))
  refine sp rfl rfl ?_
  refine st_chk (by repeat first | exact ck_nil | refine ck_cons ⟨_, _, rfl, zA⟩ ?_ | refine ck_cons ⟨_, _, (e_loadn rfl F.na303 (by first | assumption | exact g0 | exact s0 | (repeat first | assumption | exact g0 | exact s0 | refine gn zL ?_ | refine gs zL ?_)) zC), zA⟩ ?_ | refine ck_cons ⟨_, _, (e_loadn rfl F.na3 (by first | assumption | exact g0 | exact s0 | (repeat first | assumption | exact g0 | exact s0 | refine gn zL ?_ | refine gs zL ?_)) zC), zA⟩ ?_ | refine ck_cons ⟨_, (by first | assumption | exact g0 | exact s0 | (repeat first | assumption | exact g0 | exact s0 | refine gn zL ?_ | refine gs zL ?_)), zB⟩ ?_) ?_
  refine fd rfl zP (e_store rfl rfl F.sz3 zS zN rfl) ?_
  refine st_chk (by repeat first | exact ck_nil | refine ck_cons ⟨_, _, rfl, zA⟩ ?_ | refine ck_cons ⟨_, _, (e_loadn rfl F.na303 (by first | assumption | exact g0 | exact s0 | (repeat first | assumption | exact g0 | exact s0 | refine gn zL ?_ | refine gs zL ?_)) zC), zA⟩ ?_ | refine ck_cons ⟨_, _, (e_loadn rfl F.na3 (by first | assumption | exact g0 | exact s0 | (repeat first | assumption | exact g0 | exact s0 | refine gn zL ?_ | refine gs zL ?_)) zC), zA⟩ ?_ | refine ck_cons ⟨_, (by first | assumption | exact g0 | exact s0 | (repeat first | assumption | exact g0 | exact s0 | refine gn zL ?_ | refine gs zL ?_)), zB⟩ ?_) ?_
  refine st_nil ?_
  refine k_seq ?_
  refine w_seq ?_
  refine w_region ?_
  refine vv (e_move rfl) ?_
  refine vv rfl ?_
  have hJ1 := hW5 _ M' lc fz j hJ hl
  rw [show (AV.int .i64 (.ofNat j)).cells = [.int .i64 (.ofNat j)] from rfl]
  generalize hM1 : M'.set lg (some (.cells (spliceL lc o5 [.int .i64 (.ofNat j)]) false fz)) = M1 at hJ1 ⊢
  clear hM1 hl hnl hv ha hb hc hd la lb lc' ld llg lB k2 k3 k5 k6 k7 hJ hve
  clear k4 k8
  obtain ⟨la, lb, lc', ld, llg, lB, ⟨ra, fa, ha⟩, ⟨rb, fb, hb⟩, ⟨rc, fc', hc⟩, ⟨rd, fd', hd⟩, ⟨lc1, fz1, hl, hnl⟩, hv⟩ := hG _ _ hJ1
  have hv0 := hv
  obtain ⟨db, o, dc, dg, dl, ro, fzd, hve, k2, k3, k4, k5, k6, k7, k8⟩ := hv0
  rw [hp] at hve
  rw [hve] at ha
  refine vv (e_loadn rfl F.na3 zS zC) ?_
  rw [show wrapFast .i64 (addF (.ofNat i) 1) = .ofNat (i + 1) from add64 (b := 1) (by omega)]
  refine vc (e_call rfl rfl F.f141 rfl) (round_p F N R _ (i := i + 1) (p := p) (by omega) (by omega) (by omega) _ ?_)
  dsimp only
  refine vv (e_assign rfl) ?_
  refine w_nil ?_
  refine k_seq ?_
  refine w_seq ?_
  refine w_seq ?_
  refine w_region ?_
  refine vv (e_loadn rfl F.na157 zS zC) ?_
  refine vv (e_move rfl) ?_
  refine vv (e_indexAddr rfl rfl F.u157 F.sz5 zD) ?_
  have ea : wrapFast .i64 (addF (.ofNat i) 1) = .ofNat (i + 1) := add64 (b := 1) (by omega)
  refine w_mid (fun ρ' => ρ' 0 = some (.fn (.yield l) [] []) ∧ ρ' 1 = some (.ptr a 0) ∧ ρ' 2 = some (.ptr b 0) ∧ ρ' 3 = some (.ptr c 0) ∧ ρ' 4 = some (.ptr d 0) ∧ ρ' 6 = some (.int .i64 (.ofNat i)) ∧ ρ' 7 = some (.int .i64 (.ofNat p)) ∧ ∃ q, ρ' 42 = some (.bool q)) ?_ ?_
  · have hlb : i < bs.length := by omega
    have hy := Bts.get (M := M1) (b := db) (n := 0) (c := dc) (g := dg) k6 hlb
    generalize bs[i] = y at hy
    refine vv (e_loadn rfl F.na5 k2 hy) ?_
    refine vv rfl ?_
    refine vv (e_move rfl) ?_
    by_cases h255 : y = 255
    · subst h255
      refine vg (e_move rfl) ?_
      refine vg (e_move rfl) ?_
      refine vg rfl ?_
      refine vg rfl ?_
      refine vg (e_move rfl) ?_
      rw [ea]
      by_cases hpi : p = i + 1
      · rw [← hpi, show ieqF (.ofNat p) (.ofNat p) = true from ieq_self p]
        refine vn ?_
        refine vn ?_
        refine vn ?_
        refine vn ?_
        refine vn ?_
        refine vn ?_
        refine vg rfl ?_
        refine vv rfl ?_
        refine w_nil ?_
        exact ⟨rfl, rfl, rfl, rfl, rfl, rfl, rfl, rfl, rfl, rfl, _, rfl⟩
      · rw [show ieqF (.ofNat p) (.ofNat (i + 1)) = false from nbeq_false hpi]
        have hlt2 : i + 1 < p := by omega
        refine vg (e_loadn rfl F.na157 zS zC) ?_
        refine vg (e_move rfl) ?_
        refine vg rfl ?_
        rw [ea]
        refine vg (e_indexAddr rfl rfl F.u157 F.sz5 zD) ?_
        have hlb2 : i + 1 < bs.length := by omega
        have hy2 := Bts.get (M := M1) (b := db) (n := 0) (c := dc) (g := dg) k6 hlb2
        refine vg (e_loadn rfl F.na5 k2 hy2) ?_
        refine vg rfl ?_
        refine vg rfl ?_
        refine vv rfl ?_
        refine w_nil ?_
        exact ⟨rfl, rfl, rfl, rfl, rfl, rfl, rfl, rfl, rfl, rfl, _, rfl⟩
    · rw [show ieqF (.ofNat y) 255 = false from ieq_ne (by intro e; have e : (y : Int) = 255 := e; omega)]
      refine vn ?_
      refine vn ?_
      refine vn ?_
      refine vn ?_
      refine vn ?_
      refine vn ?_
      refine vn ?_
      refine vn ?_
      refine vn ?_
      refine vn ?_
      refine vn ?_
      refine vn ?_
      refine vv rfl ?_
      refine w_nil ?_
      exact ⟨rfl, rfl, rfl, rfl, rfl, rfl, rfl, rfl, rfl, rfl, _, rfl⟩
  rintro ρ' ⟨g0, g1, g2, g3, g4, g6, g7, q, g42⟩
  rw [reg1 g0, reg1 g1, reg1 g2, reg1 g3, reg1 g4, reg1 g6, reg1 g7, reg1 g42]
  refine k_seq ?_
  refine w_cond rfl (fun h => ?_) (fun h => ?_)
  · subst h
    have hv' : Bts M1 (.sl db o p dc dg) bs := by rw [← hve]; exact hv
    refine w_seq ?_
    refine w_seq ?_
    refine w_region ?_
    refine vv (e_loadn rfl F.na157 zS zC) ?_
    refine vv (e_move rfl) ?_
    refine vv (e_move rfl) ?_
    refine vv (e_loadn rfl F.na157 zS zC) ?_
    refine vv (e_len_sl rfl rfl rfl rfl F.u157) ?_
    refine vv (e_min2 rfl rfl rfl rfl) ?_
    rw [Nat.min_self]
    refine w_valx rfl rfl rfl (e_sliceB hv' F.u157 F.sz5 rfl rfl rfl (a := some i) (c := some p) rfl rfl hi (by rw [hp]; exact Nat.le_refl p)) ?_
    rintro v2 M2 ⟨rfl, b2⟩
    skip
    refine vc (e_call rfl rfl F.f242 rfl) (blank_any F N R b2 (by rw [List.length_take, List.length_drop]; omega) _ (fun y => ?_))
    dsimp only
    refine vv rfl ?_
    refine w_nil ?_
    refine k_seq ?_
    refine w_cond rfl (fun h => ?_) (fun h => ?_)
    · refine w_seq ?_
      refine w_region ?_
      refine vv (e_loadn rfl F.na304 zS zC) ?_
      refine vv rfl ?_
      refine vd (e_store rfl rfl F.sz4 zS zN rfl) ?_
      refine w_nil ?_
      refine k_seq ?_
      refine w_ret ?_
      refine k_ret ?_
      refine k_ret ?_
      refine b_ret ?_
      refine k_ret ?_
      refine b_ret ?_
      refine k_ret ?_
      exact ⟨_, res_nil, hQ _ (hm _ _ _ (hW6 _ _ lc1 fz1 hJ1 hl) hi)⟩
    · refine w_skip ?_
      refine k_seq ?_
      refine w_seq ?_
      refine w_region ?_
      refine vv (e_move rfl) ?_
      refine vv (e_assign rfl) ?_
      refine w_nil ?_
      refine k_seq ?_
      refine w_exit ?_
      refine k_exit ?_
      refine b_here ?_
      refine k_seq ?_
      exact ⟨p - p, by omega, rfl, p, rfl, Nat.le_refl _, hm _ _ _ hJ1 hi, rfl, rfl, rfl, rfl, rfl, rfl⟩
  · subst h
    have hv' : Bts M1 (.sl db o p dc dg) bs := by rw [← hve]; exact hv
    refine w_skip ?_
    refine k_seq ?_
    refine w_seq ?_
    refine w_region ?_
    refine vv (e_loadn rfl F.na157 zS zC) ?_
    refine vv (e_move rfl) ?_
    refine w_valx rfl rfl rfl (e_sliceB hv' F.u157 F.sz5 rfl rfl rfl (a := some i) (c := none) rfl rfl (by show i ≤ bs.length; omega) (Nat.le_refl _)) ?_
    rintro v2 M2 ⟨rfl, b2⟩
    skip
    have l2 : (List.take ((none : Option Nat).getD bs.length - (some i).getD 0) (List.drop ((some i).getD 0) bs)).length = p - i := by
      show (List.take (bs.length - i) (List.drop i bs)).length = p - i
      rw [List.length_take, List.length_drop]; omega
    refine vc (e_call rfl rfl F.f241 rfl) (unframe_any F N R b2 (by rw [l2]; omega) _ (fun M3 s3 => ?_) (fun M3 w bs' n s3 b3 lw n7 nl => ?_))
    · dsimp only
      have hJ3 := hI _ _ _ hJ1 s3
      obtain ⟨la, lb, lc', ld, llg, lB, ⟨ra, fa, ha⟩, ⟨rb, fb, hb⟩, ⟨rc, fc', hc⟩, ⟨rd, fd', hd⟩, ⟨lc3, fz3, hl3, hnl3⟩, hv3⟩ := hG _ _ hJ3
      refine vv (e_move rfl) ?_
      refine vv rfl ?_
      refine vv rfl ?_
      refine vv rfl ?_
      refine vv (e_assign rfl) ?_
      refine vv (e_assign rfl) ?_
      refine vv (e_assign rfl) ?_
      refine w_nil ?_
      refine k_seq ?_
      refine w_seq ?_
      refine w_seq ?_
      refine w_region ?_
      refine vv (e_move rfl) ?_
      refine vv rfl ?_
      refine vv (e_move rfl) ?_
      refine vn ?_
      refine vn ?_
      refine vn ?_
      refine vn ?_
      refine vv rfl ?_
      refine w_nil ?_
      refine k_seq ?_
      refine vt ?_
      refine w_seq ?_
      refine w_region ?_
      refine vv (e_loadn rfl F.na304 zS zC) ?_
      refine vv rfl ?_
      refine vd (e_store rfl rfl F.sz4 zS zN rfl) ?_
      refine w_nil ?_
      refine k_seq ?_
      refine w_ret ?_
      refine k_ret ?_
      refine b_ret ?_
      refine k_ret ?_
      refine b_ret ?_
      refine k_ret ?_
      exact ⟨_, res_nil, hQ _ (hm _ _ _ (hW6 _ _ lc3 fz3 hJ3 hl3) hi)⟩
    · dsimp only
      have hJ3 := hI _ _ _ hJ1 s3
      rw [l2] at nl
      obtain ⟨la, lb, lc', ld, llg, lB3, ⟨ra, fa, ha⟩, ⟨rb, fb, hb⟩, ⟨rc, fc', hc⟩, ⟨rd, fd', hd⟩, ⟨lc3, fz3, hl3, hnl3⟩, hv3⟩ := hG _ _ hJ3
      refine vv (e_move rfl) ?_
      refine vv rfl ?_
      refine vv rfl ?_
      refine vv rfl ?_
      refine vv (e_assign rfl) ?_
      refine vv (e_assign rfl) ?_
      refine vv (e_assign rfl) ?_
      refine w_nil ?_
      refine k_seq ?_
      refine w_seq ?_
      refine w_seq ?_
      refine w_region ?_
      refine vv (e_move rfl) ?_
      refine vv rfl ?_
      refine vv (e_move rfl) ?_
      refine vg (e_move rfl) ?_
      refine vg (e_move rfl) ?_
      refine vg rfl ?_
      refine vg rfl ?_
      refine vv rfl ?_
      refine w_nil ?_
      refine k_seq ?_
      rw [ea]
      by_cases hpi : p = i + 1
      · omega
      · rw [show ieqF (.ofNat p) (.ofNat (i + 1)) = false from nbeq_false hpi]
        obtain ⟨wb, wo, wc, wg, wl, wr, wf, rfl, _⟩ := id b3
        refine vf ?_
        refine w_skip ?_
        refine k_seq ?_
        refine w_seq ?_
        refine w_seq ?_
        refine w_region ?_
        refine vv (e_move rfl) ?_
        refine vv (e_move rfl) ?_
        refine vv (e_move rfl) ?_
        refine vv (e_build rfl F.bd180 rfl) ?_
        refine vr (e_yield rfl rfl rfl) ((hr _ i _ bs' hlt hJ3 b3 (Nat.le_trans lB lw)).mono fun e M4 h4 => ?_)
        obtain ⟨rfl, hJ4⟩ := h4
        refine ⟨_, rfl, ?_⟩
        refine vv rfl ?_
        refine w_nil ?_
        refine k_seq ?_
        refine vf ?_
        refine w_skip ?_
        refine k_seq ?_
        refine w_region ?_
        refine vv (e_move rfl) ?_
        refine vv (e_move rfl) ?_
        refine vv rfl ?_
        refine vv (e_assign rfl) ?_
        refine w_nil ?_
        refine b_normal ?_
        refine k_seq ?_
        have en : wrapFast .i64 (addF (.ofNat i) (.ofNat n)) = .ofNat (i + n) := add64 (by omega)
        rw [en]
        exact ⟨p - (i + n), by omega, rfl, i + n, rfl, by omega, hm _ _ _ hJ4 (by omega), rfl, rfl, rfl, rfl, rfl, rfl⟩
end
end Go.Abm.Seat

open Go Go.Abm
set_option maxRecDepth 100000
set_option maxHeartbeats 4000000
namespace Go.Abm.Seat
-- F.z180
theorem Bts.keep {M M' : AM} {v : AV} {bs : List Nat} (h : Bts M v bs) (hn : M.nx ≤ M'.nx) (hk : M'.get (blk v) = M.get (blk v)) : Bts M' v bs := by
  obtain ⟨b, o, c, g, l, ro, fz, rfl, h2, h3, h4⟩ := h
  exact ⟨b, o, c, g, l, ro, fz, rfl, hk.trans h2, by omega, h4⟩
theorem Bts.lt {M : AM} {v : AV} {bs : List Nat} (h : Bts M v bs) : blk v < M.nx := by
  obtain ⟨b, o, c, g, l, ro, fz, rfl, h2, h3, h4⟩ := h
  exact h3
theorem wC_mem {E : Env} {n : Nat} {top : Bool} {c : Code} {ρ : Reg} {D : List ADef} {B : AM} {Q : KE} {Fa : AM → Prop} (h : Fa B) (k : ∀ A, Fa A → wC E n top c ρ D A Q) : wC E n top c ρ D B Q := k B h
section
variable {E : Env} (F : Facts E) (N : NS E) (R : RS E)
include F N R
theorem appseq_any {M : AM} {a b c d lg p at0 : Nat} {q0 : Bool} {v x0 x1 x2 x3 x4 : AV} {bs : List Nat} {r1 f1 r2 f2 r3 f3 r4 f4 fl : Bool}
    (ha : M.get a = some (.cells [v] r1 f1)) (hb : M.get b = some (.cells [.int .i64 (.ofNat p)] r2 f2)) (hc : M.get c = some (.cells [.ptr lg 5] r3 f3)) (hd : M.get d = some (.cells [.ptr lg 6] r4 f4)) (hl : M.get lg = some (.cells [x0, x1, x2, x3, x4, .int .i64 (.ofNat at0), .bool q0] false fl)) (hv : Bts M v bs)
    (la : a < M.nx) (lb : b < M.nx) (lc : c < M.nx) (ld : d < M.nx) (ll : lg < M.nx) (na : a ≠ lg) (nb : b ≠ lg) (nc : c ≠ lg) (nd : d ≠ lg) (nv : blk v ≠ lg) (hp : bs.length = p) (hp1 : 2 ≤ p) (hp2 : p ≤ 512) (Q : KC)
    (hQ : ∀ M' fv, M.nx ≤ M'.nx → (∀ x, x < M.nx → x ≠ lg → M'.get x = M.get x) → (∃ (at1 : Nat) (q1 fz : Bool), M'.get lg = some (.cells [x0, x1, x2, x3, x4, .int .i64 (.ofNat at1), .bool q1] false fz)) → (fv = .nils ∨ ∃ fb n, fv = .sl fb 0 n n (some 2)) → Q (.ret fv) M') :
    CallsTo E 251 [.nils, .fn (.func 252) [] [.ptr a 0, .ptr b 0, .ptr c 0, .ptr d 0]] M Q := by
  refine call_rule F.f251 rfl (N 251 rfl) ?_
  refine w_seq ?_
  refine w_region ?_
  refine vv rfl ?_
  refine vv (e_assign rfl) ?_
  refine w_nil ?_
  refine k_seq ?_
  refine w_seq ?_
  refine w_seq ?_
  refine w_region ?_
  refine vv (e_move rfl) ?_
  refine w_nil ?_
  refine k_seq ?_
  refine w_block ?_
  refine w_rangeR (fun M3 => M.nx + 3 ≤ M3.nx ∧ (∀ x, x < M.nx → x ≠ lg → M3.get x = M.get x) ∧ (∃ (at1 : Nat) (q1 fz : Bool), M3.get lg = some (.cells [x0, x1, x2, x3, x4, .int .i64 (.ofNat at1), .bool q1] false fz)) ∧ ∃ fv, M3.get M.nx = some (.cells [fv] false false) ∧ (fv = .nils ∨ ∃ fb n, fv = .sl fb 0 n n (some 2))) rfl (fun _ => a_callv F.f252 rfl) (fun M2 T s2 n2 hT hdf hlp => ?_) (fun M3 ob hR n3 hd3 => ?_)
  · simp only [AM.nx_new] at n2
    have sM : Same M M2 := (Same.refl M).new.trans s2
    refine parts_any F N R (fun i M1 => M.nx + 3 ≤ M1.nx ∧ (∀ x, x < M.nx → x ≠ lg → M1.get x = M.get x) ∧ (∃ (at1 : Nat) (q1 fz : Bool), M1.get lg = some (.cells [x0, x1, x2, x3, x4, .int .i64 (.ofNat at1), .bool q1] false fz)) ∧ M1.get (M.nx + 1) = some (.dfr (some [])) ∧ M1.get (M.nx + 2) = M2.get (M.nx + 2) ∧
        (M1.get M.nx = some (.cells [.nils] false false) ∨ ∃ fb n cs fz, M1.get M.nx = some (.cells [.sl fb 0 n n (some 2)] false false) ∧ M1.get fb = some (.cells cs false fz) ∧ cs.length = n * 2 ∧ M.nx + 3 ≤ fb ∧ fb < M1.nx ∧ n ≤ i))
      (a := a) (b := b) (c := c) (d := d) (lg := lg) (o5 := 5) (o6 := 6) (nl := 7) (B0 := M.nx) (v := v) (bs := bs) ?_ (by decide) (by decide) hp hp1 hp2 ?_ ?_ ?_ ?_ ?_ ⟨by omega, fun x hx _ => sM.2 x hx, ⟨at0, q0, fl, (sM.2 lg ll).trans hl⟩, hdf, rfl, .inl ((s2.2 _ (Nat.lt_succ_self _)).trans g0)⟩ _ ?_
    · rintro i M1 ⟨a1, a2, ⟨at1, q1, fz, a3⟩, _⟩
      exact ⟨by omega, by omega, by omega, by omega, by omega, by omega, ⟨_, _, (a2 a la na).trans ha⟩, ⟨_, _, (a2 b lb nb).trans hb⟩, ⟨_, _, (a2 c lc nc).trans hc⟩, ⟨_, _, (a2 d ld nd).trans hd⟩, ⟨_, _, a3, rfl⟩, hv.keep (by omega) (a2 _ hv.lt nv)⟩
    · rintro i M1 M3 ⟨a1, a2, ⟨at1, q1, fz, a3⟩, a4, a5, a6⟩ s3
      refine ⟨Nat.le_trans a1 s3.1, fun x hx hn => (s3.2 x (by omega)).trans (a2 x hx hn), ⟨at1, q1, fz, (s3.2 _ (by omega)).trans a3⟩, (s3.2 _ (by omega)).trans a4, (s3.2 _ (by omega)).trans a5, ?_⟩
      rcases a6 with a6 | ⟨fb, n, cs, fz, b1, b2, b3, b4, b5, b6⟩
      · exact .inl ((s3.2 _ (by omega)).trans a6)
      · exact .inr ⟨fb, n, cs, fz, (s3.2 _ (by omega)).trans b1, (s3.2 _ b5).trans b2, b3, b4, Nat.lt_of_lt_of_le b5 s3.1, b6⟩
    · rintro i j M1 ⟨a1, a2, a3, a4, a5, a6⟩ hij
      refine ⟨a1, a2, a3, a4, a5, ?_⟩
      rcases a6 with a6 | ⟨fb, n, cs, fz, b1, b2, b3, b4, b5, b6⟩
      · exact .inl a6
      · exact .inr ⟨fb, n, cs, fz, b1, b2, b3, b4, b5, Nat.le_trans b6 hij⟩
    · rintro i M1 lc' fz' j ⟨a1, a2, ⟨at1, q1, fz, a3⟩, a4, a5, a6⟩ hl'
      rw [a3] at hl'
      injection hl' with hl'
      injection hl' with e1 e2 e3
      subst e1 e3
      refine ⟨by rw [AM.nx_set]; exact a1, fun x hx hn => gs hn (a2 x hx hn), ⟨j, q1, fz, s0⟩, gs (by omega) a4, gs (by omega) a5, ?_⟩
      rcases a6 with a6 | ⟨fb, n, cs, fz, b1, b2, b3, b4, b5, b6⟩
      · exact .inl (gs (by omega) a6)
      · exact .inr ⟨fb, n, cs, fz, gs (by omega) b1, gs (by omega) b2, b3, b4, b5, b6⟩
    · rintro i M1 lc' fz' ⟨a1, a2, ⟨at1, q1, fz, a3⟩, a4, a5, a6⟩ hl'
      rw [a3] at hl'
      injection hl' with hl'
      injection hl' with e1 e2 e3
      subst e1 e3
      refine ⟨by rw [AM.nx_set]; exact a1, fun x hx hn => gs hn (a2 x hx hn), ⟨at1, true, fz, s0⟩, gs (by omega) a4, gs (by omega) a5, ?_⟩
      rcases a6 with a6 | ⟨fb, n, cs, fz, b1, b2, b3, b4, b5, b6⟩
      · exact .inl (gs (by omega) a6)
      · exact .inr ⟨fb, n, cs, fz, gs (by omega) b1, gs (by omega) b2, b3, b4, b5, b6⟩
    · rintro M1 i w bs' hi ⟨a1, a2, ⟨at1, q1, fz, a3⟩, a4, a5, a6⟩ hw lw
      obtain ⟨wb, wo, wc, wg, wl, wr, wf, rfl, _⟩ := id hw
      refine round_rule (a5.trans hlp) (par_cons rfl (par_nil ?_))
      rw [hT]
      refine w_region ?_
      refine vv (e_alloc F.z180) ?_
      refine vd (e_store rfl rfl F.sz180 g0 zN rfl) ?_
      refine w_nil ?_
      refine ⟨rfl, rfl, _, _, _, _, _, _, gs (by simp only [AM.nx_new, AM.nx_set]; omega) (gn (by simp only [AM.nx_new, AM.nx_set]; omega) (a5.trans hlp)), ?_⟩
      refine wC_mem (Fa := fun A => A.nx = M1.nx + 1 ∧ (∀ x, x < M1.nx → x ≠ M.nx + 2 → A.get x = M1.get x) ∧ A.get M1.nx = some (.cells [.int .i64 (.ofNat i), .sl wb wo bs'.length wc wg] false false) ∧ ∀ n T ps a b, M2.get (M.nx + 2) = some (.loop .ready none n T ps a b) → A.get (M.nx + 2) = some (.loop .busy none n T ps a b))
        ⟨by simp only [AM.nx_set, AM.nx_new], fun x h1 h2 => gs (Ne.symm h2 ∘ Eq.symm) (gs (by omega) (AM.get_new_lt h1)), gs (by simp only [AM.nx_new]; omega) s0, fun n T ps a b h => by
          have h := hlp.symm.trans h
          cases h
          exact s0⟩ ?_
      rintro A ⟨nA, gA, tA, bA⟩
      have zA := gA M.nx (by omega) (by omega)
      rcases a6 with a6 | ⟨fb, n, cs, fz, b1, b2, b3, b4, b5, b6⟩
      · have z6 := zA.trans a6
        refine w_block ?_
        refine w_region ?_
        refine vv (e_loadn rfl F.na175 zS zC) ?_
        refine vv (e_loada rfl F.ag180 F.sz180 zS zN) ?_
        refine vv (e_buildSlice rfl F.u175 F.el180 (by decide) (by decide) rfl rfl) ?_
        refine vv (e_appendnil (k := 1) (sz := 2) rfl rfl rfl rfl rfl F.u175 F.u175 F.el180 (by decide) rfl (afirst1 g0 rfl) rfl rfl (by decide) (by decide) (by decide)) ?_
        have z7 : ∀ o1 o2 : AObj, ((A.new o1).new o2).get M.nx = some (.cells [.nils] false false) := fun _ _ => gn (by simp only [AM.nx_new]; omega) (gn (by omega) z6)
        refine vd (e_store rfl rfl F.sz175 (by first | assumption | exact g0 | exact s0 | (repeat first | assumption | exact g0 | exact s0 | refine gn zL ?_ | refine gs zL ?_)) zN rfl) ?_
        refine w_nil ?_
        refine b_normal ?_
        have gC : ∀ (o1 o2 : AObj) (o3 o4 : Option AObj) x, x < M1.nx → x ≠ M.nx → x ≠ M.nx + 2 → ((((A.new o1).new o2).set M.nx o3).set (M.nx + 2) o4).get x = M1.get x := fun _ _ _ _ x h1 h2 h3 => gs (Ne.symm h3 ∘ Eq.symm) (gs (Ne.symm h2 ∘ Eq.symm) (gn (by simp only [AM.nx_new]; omega) (gn (by omega) (gA x h1 h3))))
        refine ⟨rfl, _, _, _, _, _, _, _, gs (by simp only [AM.nx_new]; omega) (gn (by simp only [AM.nx_new]; omega) (gn (by simp only [AM.nx_new]; omega) (bA _ _ _ _ _ hlp))), rfl, by simp only [AM.nx_set, AM.nx_new]; omega, fun x hx hn => (gC _ _ _ _ x (by omega) (by omega) (by omega)).trans (a2 x hx hn), ⟨at1, q1, fz, (gC _ _ _ _ lg (by omega) (by omega) (by omega)).trans a3⟩, (gC _ _ _ _ _ (by omega) (by omega) (by omega)).trans a4, s0.trans hlp.symm, .inr ⟨A.nx + 1, 1, _, false, gs (by simp only [AM.nx_new]; omega) (s0.trans rfl), gs (by simp only [AM.nx_new]; omega) (gs (by omega) g0), rfl, by omega, by simp only [AM.nx_set, AM.nx_new]; omega, by omega⟩⟩
      · have z6 := zA.trans b1
        have zf := (gA fb b5 (by omega)).trans b2
        refine w_block ?_
        refine w_region ?_
        refine vv (e_loadn rfl F.na175 zS zC) ?_
        refine vv (e_loada rfl F.ag180 F.sz180 zS zN) ?_
        refine vv (e_buildSlice rfl F.u175 F.el180 (by decide) (by decide) rfl rfl) ?_
        refine vv (e_appendg (k := 1) (sz := 2) rfl rfl rfl rfl rfl F.u175 F.u175 F.el180 (by decide) (gn (by omega) zf) b3 rfl (afirst1 g0 rfl) rfl rfl (by decide) (by omega) (by unfold maxI; omega)) ?_
        refine vd (e_store rfl rfl F.sz175 (by first | assumption | exact g0 | exact s0 | (repeat first | assumption | exact g0 | exact s0 | refine gn zL ?_ | refine gs zL ?_)) zN rfl) ?_
        refine w_nil ?_
        refine b_normal ?_
        have gC : ∀ (o1 o2 : AObj) (o3 o4 : Option AObj) x, x < M1.nx → x ≠ M.nx → x ≠ M.nx + 2 → x ≠ fb → (((((A.new o1).set fb none).new o2).set M.nx o3).set (M.nx + 2) o4).get x = M1.get x := fun _ _ _ _ x h1 h2 h3 h4 => gs (Ne.symm h3 ∘ Eq.symm) (gs (Ne.symm h2 ∘ Eq.symm) (gn (by simp only [AM.nx_new, AM.nx_set]; omega) (gs (Ne.symm h4 ∘ Eq.symm) (gn (by omega) (gA x h1 h3)))))
        refine ⟨rfl, _, _, _, _, _, _, _, gs (by simp only [AM.nx_new]; omega) (gn (by simp only [AM.nx_new, AM.nx_set]; omega) (gs (by simp only [AM.nx_new]; omega) (gn (by simp only [AM.nx_new]; omega) (bA _ _ _ _ _ hlp)))), rfl, by simp only [AM.nx_set, AM.nx_new]; omega, fun x hx hn => (gC _ _ _ _ x (by omega) (by omega) (by omega) (by omega)).trans (a2 x hx hn), ⟨at1, q1, _, (gC _ _ _ _ lg (by omega) (by omega) (by omega) (by omega)).trans a3⟩, (gC _ _ _ _ _ (by omega) (by omega) (by omega) (by omega)).trans a4, s0.trans hlp.symm, .inr ⟨A.nx + 1, n + 1, _, fz, gs (by simp only [AM.nx_new]; omega) (s0.trans rfl), gs (by simp only [AM.nx_new]; omega) (gs (by omega) g0), by rw [List.length_append, b3]; show n * 2 + 2 = _; omega, by omega, by simp only [AM.nx_set, AM.nx_new]; omega, by omega⟩⟩
    · rintro M3 ⟨a1, a2, a3, a4, a5, a6⟩
      refine ⟨_, rfl, by omega, a4, ⟨_, _, _, _, _, a5.trans hlp⟩, a1, a2, a3, ?_⟩
      rcases a6 with a6 | ⟨fb, n, cs, fz, b1, b2, b3, b4, b5, b6⟩
      · exact ⟨_, a6, .inl rfl⟩
      · exact ⟨_, b1, .inr ⟨_, _, rfl⟩⟩
  · obtain ⟨r1, r2, ⟨at1, q1, fz, r3⟩, fv, r4, r5⟩ := hR
    simp only [AM.nx_new] at n3
    have hb3 : (M3.set (M.nx + 2) ob).get M.nx = some (.cells [fv] false false) := gs (by omega) r4
    refine b_normal ?_
    refine k_seq ?_
    refine w_seq ?_
    refine w_region ?_
    refine vv (e_loadn rfl F.na175 zS zC) ?_
    refine vv (e_assign rfl) ?_
    refine w_nil ?_
    refine k_seq ?_
    refine w_ret ?_
    exact def_coll (gs (by simp only [AM.nx_new]; omega) hd3) ⟨_, res_tmp rfl res_nil, hQ _ fv (by simp only [AM.nx_set]; omega) (fun x hx hn => gs (by simp only [AM.nx_new]; omega) (gs (by simp only [AM.nx_new]; omega) (r2 x hx hn))) ⟨at1, q1, fz, gs (by simp only [AM.nx_new]; omega) (gs (by simp only [AM.nx_new]; omega) r3)⟩ r5⟩
end
end Go.Abm.Seat

open Go Go.Abm
set_option maxRecDepth 100000
set_option maxHeartbeats 4000000
namespace Go.Abm.Seat
section
variable {E : Env} (F : Facts E) (N : NS E) (R : RS E)
include F N R
theorem collect_any {M : AM} {a b c d lg p at0 : Nat} {q0 : Bool} {v x0 x1 x2 x3 x4 : AV} {bs : List Nat} {r1 f1 r2 f2 r3 f3 r4 f4 fl : Bool}
    (ha : M.get a = some (.cells [v] r1 f1)) (hb : M.get b = some (.cells [.int .i64 (.ofNat p)] r2 f2)) (hc : M.get c = some (.cells [.ptr lg 5] r3 f3)) (hd : M.get d = some (.cells [.ptr lg 6] r4 f4)) (hl : M.get lg = some (.cells [x0, x1, x2, x3, x4, .int .i64 (.ofNat at0), .bool q0] false fl)) (hv : Bts M v bs)
    (la : a < M.nx) (lb : b < M.nx) (lc : c < M.nx) (ld : d < M.nx) (ll : lg < M.nx) (na : a ≠ lg) (nb : b ≠ lg) (nc : c ≠ lg) (nd : d ≠ lg) (nv : blk v ≠ lg) (hp : bs.length = p) (hp1 : 2 ≤ p) (hp2 : p ≤ 512) (Q : KC)
    (hQ : ∀ M' fv, M.nx ≤ M'.nx → (∀ x, x < M.nx → x ≠ lg → M'.get x = M.get x) → (∃ (at1 : Nat) (q1 fz : Bool), M'.get lg = some (.cells [x0, x1, x2, x3, x4, .int .i64 (.ofNat at1), .bool q1] false fz)) → (fv = .nils ∨ ∃ fb n, fv = .sl fb 0 n n (some 2)) → Q (.ret fv) M') :
    CallsTo E 177 [.fn (.func 252) [] [.ptr a 0, .ptr b 0, .ptr c 0, .ptr d 0]] M Q := by
  refine call_rule F.f177 rfl (N 177 rfl) ?_
  refine w_seq ?_
  refine w_region ?_
  refine vv (e_assign rfl) ?_
  refine w_nil ?_
  refine k_seq ?_
  refine w_seq ?_
  refine w_region ?_
  refine vv (e_move rfl) ?_
  refine vc (e_call rfl rfl F.f251 rfl) (appseq_any F N R ha hb hc hd hl hv la lb lc ld ll na nb nc nd nv hp hp1 hp2 _ (fun M1 fv a1 a2 a3 a4 => ?_))
  dsimp only
  refine vv (e_assign rfl) ?_
  refine w_nil ?_
  refine k_seq ?_
  refine w_ret ?_
  exact ⟨_, res_tmp rfl res_nil, hQ M1 fv a1 a2 a3 a4⟩
variable {M : AM} {m L Z c B p0 bl pg sz rs : Nat} {f : Nat → Ent} {z : Nat → Int} {q : Int} {nx : Nat → Nat} {pcs : Nat → List AV} (hM : Mgr M m L Z c B p0 bl pg sz rs f z q nx pcs) (hg : Geo bl pg sz rs) (hz : z 0 = 0) (hf : f 0 = usE)
include hM hg hz hf
theorem openm_ok {X : Nat} {bs : List Nat} (hp2' : ((pcs 0).drop (0 + 2 * 2)).take 2 = [.int .i64 1, .sl X 0 bs.length bs.length (some 1)]) (hX : M.get X = some (.cells (byteL bs) false false)) (lX : X < M.nx) (hbs : Byt bs) (hbl : bs.length ≤ sz) (Q : KC)
    (hQ : ∀ M' l, Same M M' → M.nx ≤ l → l < M'.nx → Q (.ret (.tup [.ptr l 0, .int .i64 0])) M') : CallsTo E 97 [.ptr m 0, .int .i64 0] M Q := by
  have b1 := hg.b1
  have r1 := hg.r1
  have hs1 := hg.s1
  have hs2 := hg.s2
  refine call_rule F.f97 rfl (N 97 rfl) ?_
  refine w_seq ?_
  refine w_region ?_
  refine vv (e_assign rfl) ?_
  refine vv (e_assign rfl) ?_
  refine w_nil ?_
  refine k_seq ?_
  refine w_seq ?_
  refine w_block ?_
  refine w_seq ?_
  refine w_region ?_
  refine vv (e_move rfl) ?_
  refine vv (e_eqlp rfl rfl F.u46) ?_
  refine vv (e_assign rfl) ?_
  refine w_nil ?_
  refine k_seq ?_
  refine vf ?_
  refine w_seq ?_
  refine w_region ?_
  refine vv (e_move rfl) ?_
  refine vv rfl ?_
  refine vv (e_move rfl) ?_
  refine vg (e_move rfl) ?_
  refine vg (e_move rfl) ?_
  refine vc (e_call rfl rfl F.f24 rfl) (mlebs_ok F hM (N 24 rfl) _ ?_)
  dsimp only
  refine vg rfl ?_
  refine vv rfl ?_
  refine vv (e_assign rfl) ?_
  refine w_nil ?_
  refine k_seq ?_
  rw [show iltF 0 (.ofNat (bl - rs - 2)) = true from ilt_t (a := 0) (by omega)]
  refine vf ?_
  refine w_seq ?_
  refine w_region ?_
  refine vv (e_move rfl) ?_
  refine vc (e_call rfl rfl F.f49 rfl) (mchip_ok F hM (N 49 rfl) _ ?_)
  dsimp only
  skip
  refine vc (e_call rfl rfl F.f55 rfl) (on_c F (N 55 rfl) hM.ch _ ?_)
  dsimp only
  refine vv rfl ?_
  refine vv (e_assign rfl) ?_
  refine w_nil ?_
  refine k_seq ?_
  refine vf ?_
  refine w_skip ?_
  refine b_normal ?_
  refine k_seq ?_
  refine w_seq ?_
  refine w_region ?_
  refine vv (e_move rfl) ?_
  refine vv (e_move rfl) ?_
  refine vv (e_move rfl) ?_
  refine vv (e_move rfl) ?_
  refine vc (e_call rfl rfl F.f84 rfl) (used_m F N R hM hg hz hf _ (fun M1 s1 => ?_))
  dsimp only
  refine vv (e_build rfl F.bd237 rfl) ?_
  refine vv rfl ?_
  refine vv (e_assign rfl) ?_
  refine w_nil ?_
  refine k_seq ?_
  refine w_seq ?_
  refine w_seq ?_
  refine w_region ?_
  refine vv (e_move rfl) ?_
  refine vv rfl ?_
  refine vv (e_fa rfl F.fa237_3) ?_
  refine vv (e_loadn rfl F.na3 g0 zC) ?_
  refine vv (e_move rfl) ?_
  refine w_nil ?_
  refine k_seq ?_
  refine w_block ?_
  have n1 := s1.1
  have nm := hM.lt.1
  have sL := s1.new (o := .cells [.ptr m 0, .int .i64 0, .nils, .int .i64 1, .nils, .int .i64 0, .bool false] false false)
  refine w_loop ?_
  refine loop_inv (fun w ρ D M' => D = [] ∧ ρ 0 = some (.ptr m 0) ∧ ρ 1 = some (.int .i64 0) ∧ ρ 6 = some (.ptr M1.nx 0) ∧ ρ 37 = some (.int .i64 (.ofNat 1)) ∧
    ((w = 1 ∧ ρ 38 = some (.int .i64 (.ofNat 0)) ∧ M' = M1.new (.cells [.ptr m 0, .int .i64 0, .nils, .int .i64 1, .nils, .int .i64 0, .bool false] false false)) ∨ (w = 0 ∧ ρ 38 = some (.int .i64 (.ofNat 1)) ∧ ∃ Kb fz, Same M M' ∧ M1.nx < Kb ∧ M1.nx < M'.nx ∧ M'.get M1.nx = some (.cells [.ptr m 0, .int .i64 0, .sl Kb 0 sz sz (some 1), .int .i64 1, .nils, .int .i64 0, .bool false] false fz) ∧ Bts M' (.sl Kb 0 sz sz (some 1)) (bs ++ List.replicate (sz - bs.length) 255)))) ?_ 1 _ _ _
    ⟨rfl, rfl, rfl, rfl, rfl, .inl ⟨rfl, rfl, rfl⟩⟩
  rintro w ρ D M' ⟨rfl, g0', g1, g6, g37, ⟨rfl, g38, rfl⟩ | ⟨rfl, g38, Kb, fz, sK, lK, lK2, hlg, hbt⟩⟩
  · rw [reg1 g0', reg1 g1, reg1 g6, reg1 g37, reg1 g38]
    refine w_seq ?_
    refine w_region ?_
    refine vv rfl ?_
    refine w_nil ?_
    refine k_seq ?_
    refine w_seq ?_
    refine vt ?_
    refine w_skip ?_
    refine k_seq ?_
    refine w_seq ?_
    refine w_block ?_
    refine w_seq ?_
    refine w_region ?_
    refine vv (e_move rfl) ?_
    refine vv (e_assign rfl) ?_
    refine w_nil ?_
    refine k_seq ?_
    refine w_seq ?_
    refine w_region ?_
    refine vv (e_move rfl) ?_
    refine vv (e_move rfl) ?_
    refine vv (e_move rfl) ?_
    refine vc (e_call rfl rfl F.f176 rfl) (readm_ok F N R (hM.same sL) hg hz hf hp2' ((sL.2 X lX).trans hX) (by have := sL.1; omega) hbs hbl _ (fun M2 K s2 b2 lK => ?_))
    dsimp only
    simp only [AM.nx_new] at lK
    have hlg : M2.get M1.nx = some (.cells [.ptr m 0, .int .i64 0, .nils, .int .i64 1, .nils, .int .i64 0, .bool false] false false) := (s2.2 _ (Nat.lt_succ_self _)).trans g0
    refine vv (e_move rfl) ?_
    refine vv rfl ?_
    refine vv rfl ?_
    refine vv (e_assign rfl) ?_
    refine vv (e_assign rfl) ?_
    refine w_nil ?_
    refine k_seq ?_
    refine w_seq ?_
    refine w_seq ?_
    refine w_region ?_
    refine vv (e_move rfl) ?_
    refine vv rfl ?_
    refine w_nil ?_
    refine k_seq ?_
    refine vf ?_
    refine w_skip ?_
    refine k_seq ?_
    refine w_region ?_
    refine vv (e_move rfl) ?_
    refine vv (e_move rfl) ?_
    refine vv rfl ?_
    refine vv (e_fa rfl F.fa237_2) ?_
    refine vv (e_loadn rfl F.na157 zS zC) ?_
    refine vv (e_move rfl) ?_
    have el : (bs ++ List.replicate (sz - bs.length) 255).length = sz := by rw [List.length_append, List.length_replicate]; omega
    obtain ⟨e1, e2⟩ := b2.first
    rw [el] at e1 e2
    have hby : Byt (bs ++ List.replicate (sz - bs.length) 255) := hbs.app (Byt.rep _)
    generalize bs ++ List.replicate (sz - bs.length) 255 = full at el e1 e2 hby
    refine vv (e_appendnil (k := sz) (sz := 1) rfl rfl rfl rfl rfl F.u157 F.u157 F.el5 (by decide) e1 e2 rfl (byteL_one full) (by omega) (by omega) (by unfold maxI; omega)) ?_
    have x2 := s2.1
    simp only [AM.nx_new] at x2
    have hlg' : ∀ o : AObj, (M2.new o).get M1.nx = some (.cells [.ptr m 0, .int .i64 0, .nils, .int .i64 1, .nils, .int .i64 0, .bool false] false false) := fun _ => gn (by omega) hlg
    refine vv rfl ?_
    refine vv (e_fa rfl F.fa237_2) ?_
    refine vd (e_store rfl rfl F.sz157 (gn (by omega) zS) zN rfl) ?_
    refine w_nil ?_
    refine b_normal ?_
    refine k_seq ?_
    refine w_region ?_
    refine vv rfl ?_
    refine vv (e_move rfl) ?_
    refine w_nil ?_
    refine k_seq ?_
    refine ⟨0, by decide, rfl, rfl, rfl, rfl, rfl, .inr ⟨rfl, rfl, M2.nx, false, ((sL.trans s2).new).set n1, by omega, by simp only [AM.nx_set, AM.nx_new]; omega, s0, M2.nx, 0, sz, some 1, byteL full, false, false, by rw [el], gs (by omega) g0, by simp only [AM.nx_set, AM.nx_new]; omega, by rw [el]; exact Nat.le_refl _, by rw [byteL_len]; omega, by rw [List.drop_zero, ← byteL_len, List.take_length], hby, Or.inr rfl⟩⟩
  · rw [reg1 g0', reg1 g1, reg1 g6, reg1 g37, reg1 g38]
    refine w_seq ?_
    refine w_region ?_
    refine vv rfl ?_
    refine w_nil ?_
    refine k_seq ?_
    refine w_seq ?_
    refine vf ?_
    refine w_exit ?_
    refine k_exit ?_
    refine k_exit ?_
    refine b_here ?_
    refine k_seq ?_
    refine w_seq ?_
    refine w_order [.run 0 0, .run 1 0, .run 2 2, .run 3 6, .run 4 14, .run 5 0, .run 7 0, .run 8 128, .run 9 384, .run 10 0, .run 11 1024, .run 12 3072, .chk, .eff 6 32, .chk, .eff 13 8190, .chk, .eff 14 16382, .run 15 32767, .run 16 65535, .chk, .eff 17 131071, .chk] (by decide +kernel) ?_
    refine sp rfl (e_move rfl) ?_
    refine sp rfl (e_move rfl) ?_
    refine sp rfl rfl ?_
    refine sp rfl (e_fa rfl F.fa237_2) ?_
    refine sr rfl (e_loadn rfl F.na157 zS zC) ?_
    refine sp rfl (e_move rfl) ?_
    refine sp rfl (e_move rfl) ?_
    refine sp rfl rfl ?_
    refine sp rfl (e_fa rfl F.fa237_5) ?_
    refine sp rfl (e_move rfl) ?_
    refine sp rfl rfl ?_
    refine sp rfl (e_fa rfl F.fa237_6) ?_
    refine st_chk (by repeat first | exact ck_nil | refine ck_cons ⟨_, _, rfl, zA⟩ ?_ | refine ck_cons ⟨_, _, (e_loadn rfl F.na157 (by first | assumption | exact g0 | exact s0 | (repeat first | assumption | exact g0 | exact s0 | refine gn zL ?_ | refine gs zL ?_)) zC), zA⟩ ?_ | refine ck_cons ⟨_, (by first | assumption | exact g0 | exact s0 | (repeat first | assumption | exact g0 | exact s0 | refine gn zL ?_ | refine gs zL ?_)), zB⟩ ?_) ?_
    refine fc rfl zP (e_call rfl rfl F.f62 rfl) (mpage_ok F (hM.same sK) (N 62 rfl) _ ⟨Nat.le_refl _, ?_⟩)
    refine st_chk (by repeat first | exact ck_nil | refine ck_cons ⟨_, _, rfl, zA⟩ ?_ | refine ck_cons ⟨_, _, (e_loadn rfl F.na157 (by first | assumption | exact g0 | exact s0 | (repeat first | assumption | exact g0 | exact s0 | refine gn zL ?_ | refine gs zL ?_)) zC), zA⟩ ?_ | refine ck_cons ⟨_, (by first | assumption | exact g0 | exact s0 | (repeat first | assumption | exact g0 | exact s0 | refine gn zL ?_ | refine gs zL ?_)), zB⟩ ?_) ?_
    have el : (bs ++ List.replicate (sz - bs.length) 255).length = sz := by rw [List.length_append, List.length_replicate]; omega
    have hkm := sK.1
    refine fc rfl zP (e_call rfl rfl F.f178 rfl) (wparts_ok F (N 178 rfl) _ (.sl Kb 0 sz sz (some 1)) _ M1.nx (0 + 5) (0 + 6) rfl _ ⟨by simp only [AM.nx_new]; omega, ?_⟩)
    refine st_chk (by repeat first | exact ck_nil | refine ck_cons ⟨_, _, rfl, zA⟩ ?_ | refine ck_cons ⟨_, _, (e_loadn rfl F.na157 (by first | assumption | exact g0 | exact s0 | (repeat first | assumption | exact g0 | exact s0 | refine gn zL ?_ | refine gs zL ?_)) zC), zA⟩ ?_ | refine ck_cons ⟨_, (by first | assumption | exact g0 | exact s0 | (repeat first | assumption | exact g0 | exact s0 | refine gn zL ?_ | refine gs zL ?_)), zB⟩ ?_) ?_
    refine fc rfl zP (e_call rfl rfl F.f177 rfl) (collect_any F N R (a := M'.nx) (b := M'.nx + 1) (c := M'.nx + 2) (d := M'.nx + 3) (lg := M1.nx) (at0 := 0) (gn (by simp only [AM.nx_new]; omega) (gn (by simp only [AM.nx_new]; omega) (gn (by simp only [AM.nx_new]; omega) g0))) (gn (by simp only [AM.nx_new]; omega) (gn (by simp only [AM.nx_new]; omega) g0)) (gn (by simp only [AM.nx_new]; omega) g0) g0 (gn (by simp only [AM.nx_new]; omega) (gn (by simp only [AM.nx_new]; omega) (gn (by simp only [AM.nx_new]; omega) (gn lK2 hlg)))) (hbt.same ((((Same.refl M').new).new).new).new) (by simp only [AM.nx_new]; omega) (by simp only [AM.nx_new]; omega) (by simp only [AM.nx_new]; omega) (by simp only [AM.nx_new]; omega) (by simp only [AM.nx_new]; omega) (by omega) (by omega) (by omega) (by omega) (by show Kb ≠ M1.nx; omega) el (by omega) (by omega) _ (fun M3 fv a1 a2 a3 a4 => ⟨a1, ?_⟩))
    obtain ⟨at1, q1, fz3, a3⟩ := a3
    simp only [AM.nx_new] at a1 a2
    have hfv : fv.cells = [fv] ∧ fv.one = true := by
      rcases a4 with rfl | ⟨fb, n, rfl⟩ <;> exact ⟨rfl, rfl⟩
    refine sp rfl rfl ?_
    refine sp rfl (e_fa rfl F.fa237_4) ?_
    refine st_chk (by repeat first | exact ck_nil | refine ck_cons ⟨_, _, rfl, zA⟩ ?_ | refine ck_cons ⟨_, _, (e_loadn rfl F.na157 (by first | assumption | exact g0 | exact s0 | (repeat first | assumption | exact g0 | exact s0 | refine gn zL ?_ | refine gs zL ?_)) zC), zA⟩ ?_ | refine ck_cons ⟨_, (by first | assumption | exact g0 | exact s0 | (repeat first | assumption | exact g0 | exact s0 | refine gn zL ?_ | refine gs zL ?_)), zB⟩ ?_) ?_
    refine fd rfl zP (e_store rfl rfl (by rw [hfv.1]; exact F.sz175) a3 (by rw [hfv.1]; show 4 + 1 ≤ 7; omega) (by rw [hfv.1, List.all_cons, hfv.2]; rfl)) ?_
    rw [hfv.1]
    have c4 : (M3.set M1.nx (some (.cells (spliceL [.ptr m 0, .int .i64 0, .sl Kb 0 sz sz (some 1), .int .i64 1, .nils, .int .i64 (.ofNat at1), .bool q1] (0 + 4) [fv]) false fz3))).get M1.nx = some (.cells [.ptr m 0, .int .i64 0, .sl Kb 0 sz sz (some 1), .int .i64 1, fv, .int .i64 (.ofNat at1), .bool q1] false fz3) := s0
    have S4 : Same M (M3.set M1.nx (some (.cells (spliceL [.ptr m 0, .int .i64 0, .sl Kb 0 sz sz (some 1), .int .i64 1, .nils, .int .i64 (.ofNat at1), .bool q1] (0 + 4) [fv]) false fz3))) :=
      ⟨by rw [AM.nx_set]; omega, fun x hx => gs (by omega) ((a2 x (by omega) (by omega)).trans ((AM.get_new_lt (by simp only [AM.nx_new]; omega)).trans ((AM.get_new_lt (by simp only [AM.nx_new]; omega)).trans ((AM.get_new_lt (by simp only [AM.nx_new]; omega)).trans ((AM.get_new_lt (by omega)).trans (sK.2 x hx))))))⟩
    have l4 : M1.nx < (M3.set M1.nx (some (.cells (spliceL [.ptr m 0, .int .i64 0, .sl Kb 0 sz sz (some 1), .int .i64 1, .nils, .int .i64 (.ofNat at1), .bool q1] (0 + 4) [fv]) false fz3))).nx := by rw [AM.nx_set]; omega
    generalize M3.set M1.nx (some (.cells (spliceL [.ptr m 0, .int .i64 0, .sl Kb 0 sz sz (some 1), .int .i64 1, .nils, .int .i64 (.ofNat at1), .bool q1] (0 + 4) [fv]) false fz3)) = M4 at c4 S4 l4 ⊢
    refine st_chk (by repeat first | exact ck_nil | refine ck_cons ⟨_, _, rfl, zA⟩ ?_ | refine ck_cons ⟨_, _, (e_loadn rfl F.na157 (by first | assumption | exact g0 | exact s0 | (repeat first | assumption | exact g0 | exact s0 | refine gn zL ?_ | refine gs zL ?_)) zC), zA⟩ ?_ | refine ck_cons ⟨_, (by first | assumption | exact g0 | exact s0 | (repeat first | assumption | exact g0 | exact s0 | refine gn zL ?_ | refine gs zL ?_)), zB⟩ ?_) ?_
    refine st_nil ?_
    refine k_seq ?_
    refine w_seq ?_
    refine w_region ?_
    refine vv (e_move rfl) ?_
    refine vv (e_move rfl) ?_
    refine vv rfl ?_
    refine vv (e_fa rfl F.fa237_6) ?_
    refine vv (e_loadn rfl F.na4 zS zC) ?_
    refine vv (e_move rfl) ?_
    cases q1 with
    | true =>
      refine vn ?_
      refine vn ?_
      refine vn ?_
      refine vv rfl ?_
      refine vv rfl ?_
      refine vv (e_fa rfl F.fa237_6) ?_
      refine vd (e_store rfl rfl F.sz4 zS zN rfl) ?_
      refine w_nil ?_
      refine k_seq ?_
      refine w_seq ?_
      refine w_region ?_
      refine vv (e_move rfl) ?_
      refine vv (e_assign rfl) ?_
      refine vv (e_assign rfl) ?_
      refine w_nil ?_
      refine k_seq ?_
      refine w_ret ?_
      exact ⟨_, res_tmp rfl (res_tmp rfl res_nil), hQ _ M1.nx (S4.set n1) n1 (by rw [AM.nx_set]; exact l4)⟩
    | false =>
      refine vg (e_move rfl) ?_
      refine vg (e_move rfl) ?_
      refine vc (e_call rfl rfl F.f109 rfl) (closed_m F N R (hM.same S4) hg hz hf _ (fun M5 s5 => ?_))
      dsimp only
      have c5 := (s5.2 _ l4).trans c4
      refine vv rfl ?_
      refine vv rfl ?_
      refine vv (e_fa rfl F.fa237_6) ?_
      refine vd (e_store rfl rfl F.sz4 zS zN rfl) ?_
      refine w_nil ?_
      refine k_seq ?_
      refine w_seq ?_
      refine w_region ?_
      refine vv (e_move rfl) ?_
      refine vv (e_assign rfl) ?_
      refine vv (e_assign rfl) ?_
      refine w_nil ?_
      refine k_seq ?_
      refine w_ret ?_
      exact ⟨_, res_tmp rfl (res_tmp rfl res_nil), hQ _ M1.nx ((S4.trans s5).set n1) n1 (by rw [AM.nx_set]; have := s5.1; omega)⟩
end
end Go.Abm.Seat
