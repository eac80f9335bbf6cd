/-
  A part of the proof that pumicelaw17.StoreOpens returns true for every geometry, key, number and group (a machine over names of blocks, its soundness, the calls of the store for any geometry, the chapter's example as a run). Condition: the listed package variables hold what the program's text lays; the card ties that.
-/
import Derived.Test.YtcfpoldckjmbdaaGreatDoorX29
set_option linter.unusedVariables false
set_option linter.unusedSimpArgs false
set_option linter.unusedSectionVars false
open Go Go.Abm
set_option maxRecDepth 100000
set_option maxHeartbeats 4000000
namespace Go.Abm.Seat
theorem e_mapset0 {E : Env} {ρ : Reg} {M : AM} {t k e : TypeId} {kk k2 : IntKind} {m x y : Operand} {b c : Nat} {i : Int} {v : AV} (hm : rhoR E ρ m = some (.mp b)) (hx : rhoR E ρ x = some (.int k2 i)) (hy : rhoR E ρ y = some v) (hu : E.under t = some (.map k e)) (hk : E.under k = some (.int kk)) (hb : M.get b = some (.map [] c)) :
    evalOp E (rhoR E ρ) (.mapUpdate t m x y) M = some (.skip (M.set b (some (.map [⟨.int k2 i, v, c⟩] (c + 1))))) := by
  have : amapUpdate E M t (.mp b) (.int k2 i) v = some (M.set b (some (.map [⟨.int k2 i, v, c⟩] (c + 1)))) := by
    unfold amapUpdate amapTypes
    rw [hu]; dsimp only; rw [hk]; dsimp only
    unfold amapOf; rw [hb]; rfl
  simp only [evalOp, hm, hx, hy, this, Option.map_some]
section
variable {E : Env} (F : Facts E) (N : NS E) (X : FX E) (R : RS E)
include F N X R
theorem sformat_ok {M : AM} {c B p0 bl pg sz rs e : Nat} {nx : Nat → Nat} {pcs : Nat → List AV} {ro fz0 : Bool} (hG : M.get 1 = some (.cells [.ifc tS (.ptr e 0)] ro fz0)) (hl1 : 1 < M.nx) (hO1 : ¬Own c B p0 bl 1) (hch : Chip M c B p0 bl pg sz rs nx pcs) (hg : Geo bl pg sz rs) (hr : rightB (.ofNat bl) (.ofNat pg) (.ofNat sz) (.ofNat rs) = true) (hz : ∀ i, i < bl → nx i = 0) (hpc : ∀ i, i < bl → pcs i = repeatL zpage pg) (Q : KC)
    (hQ : ∀ M' m L Z f z q nx' pcs' s t r lg a b d ix jn, M.nx ≤ M'.nx → (∀ x, x < M.nx → ¬Own c B p0 bl x → M'.get x = M.get x) → Mgr M' m L Z c B p0 bl pg sz rs f z q nx' pcs' →
      M'.get s = some (.cells [.ptr m 0, lg, ix, jn, .ptr t 0, .mp a, .mp b, .mp d, .int .u64 1, .int .i64 0] false false) → M'.get t = some (.cells [.int .i64 16, .ptr r 0, .int .i64 0] false false) → M'.get r = some (.cells [.int .i64 0, .nils, .nils, .nils, .bool true] false false) → s < M'.nx → t < M'.nx → r < M'.nx → Q (.ret (.tup [.ptr s 0, .int .i64 0])) M') :
    CallsTo E 8 [.ptr c 0] M Q := by
  have b1 := hg.b1
  refine call_rule F.f8 rfl (N 8 rfl) ?_
  refine w_seq ?_
  refine w_region ?_
  refine vv (e_assign rfl) ?_
  refine vv (e_assign rfl) ?_
  refine w_nil ?_
  refine k_seq ?_
  refine w_seq ?_
  refine w_region ?_
  refine vv (e_move rfl) ?_
  refine vc (e_call rfl rfl F.f31 rfl) (format_ok F N X R hG hl1 hO1 hch hg hr hz hpc _ (fun M1 m L Z pcs' x1 k1 lm lL lZ m1 => ?_))
  dsimp only
  refine vv (e_move rfl) ?_
  refine vv rfl ?_
  refine vv rfl ?_
  refine vv (e_assign rfl) ?_
  refine vv (e_assign rfl) ?_
  refine w_nil ?_
  refine k_seq ?_
  refine w_seq ?_
  refine w_seq ?_
  refine w_region ?_
  refine vv (e_move rfl) ?_
  refine vv rfl ?_
  refine w_nil ?_
  refine k_seq ?_
  refine vf ?_
  refine w_skip ?_
  refine k_seq ?_
  refine w_seq ?_
  refine w_region ?_
  refine vv (e_move rfl) ?_
  refine vc (e_call rfl rfl F.f32 rfl) (begun_ok F (N 171 rfl) (N 94 rfl) (N 32 rfl) M1 m _ (fun M2 s t r a b d s2 ls1 ls2 lt1 lt2 lr1 lr2 q1 q2 hs2 q3 q4 q5 q6 q7 q8 q9 q10 => ?_))
  dsimp only
  refine vv (e_assign rfl) ?_
  refine w_nil ?_
  refine k_seq ?_
  refine w_seq ?_
  refine w_region ?_
  refine vv (e_move rfl) ?_
  refine vv rfl ?_
  refine vv (e_fa rfl F.fa56_8) ?_
  refine vd (e_store rfl rfl F.sz54 zS zN rfl) ?_
  refine w_nil ?_
  refine k_seq ?_
  refine w_seq ?_
  refine w_region ?_
  refine vv (e_move rfl) ?_
  refine vv (e_move rfl) ?_
  refine vv (e_build rfl F.bd73 rfl) ?_
  have yx := s2.1
  refine vc (e_call rfl rfl F.f34 rfl) (text_ok F N R _ _ (fun M3 s3 => ?_))
  dsimp only
  have y3 := s3.1
  rw [AM.nx_set] at y3
  have f3 : ∀ x, x < M2.nx → x ≠ s → M3.get x = M2.get x := fun x h1 h2 => (s3.2 x (by rw [AM.nx_set]; exact h1)).trans (gs (Ne.symm h2 ∘ Eq.symm) rfl)
  have hs3 := (s3.2 s (by rw [AM.nx_set]; exact ls2)).trans s0
  have m3 : Mgr M3 m L Z c B p0 bl pg sz rs (fun x => if x < bl then frE else spE) (fun _ => -1) 0 (fun x => if x < bl then 1 else nx x) pcs' := m1.frame (by omega) fun x hx => (f3 x (by have := m1.own hx; omega) (fun e => by have := m1.own hx; omega)).trans (s2.2 x (m1.own hx))
  have so : ¬OwnM m L Z c B p0 bl s := fun e => by have := m1.own e; omega
  have to : ¬OwnM m L Z c B p0 bl t := fun e => by have := m1.own e; omega
  have rO : ¬OwnM m L Z c B p0 bl r := fun e => by have := m1.own e; omega
  have dO : ¬OwnM m L Z c B p0 bl d := fun e => by have := m1.own e; omega
  refine vv (e_build rfl F.bd75 rfl) ?_
  refine vc (e_call rfl rfl F.f33 rfl) (create_ok F N R m3 hg (if_pos (by omega)) (Byt.lit rfl) rfl _ (fun M4 mt nx' pcs2 z' f' q' e4 lmt m4 => ?_))
  dsimp only
  have y4 := e4.1
  have hs4 := (e4.2 s (by omega) so).trans hs3
  have ht4 := (e4.2 t (by omega) to).trans ((f3 t lt2 (Ne.symm q1)).trans q10)
  have hr4 := (e4.2 r (by omega) rO).trans ((f3 r lr2 (Ne.symm q2)).trans q9)
  have hd4 := (e4.2 d (by omega) dO).trans ((f3 d q5 q6).trans q3)
  refine vv (e_move rfl) ?_
  refine vv rfl ?_
  refine vv rfl ?_
  refine vv rfl ?_
  refine vv (e_fa rfl F.fa56_1) ?_
  refine vd (e_store rfl rfl F.sz47 zS zN rfl) ?_
  refine vv (e_assign rfl) ?_
  refine w_nil ?_
  refine k_seq ?_
  refine w_seq ?_
  refine w_seq ?_
  refine w_region ?_
  refine vv (e_move rfl) ?_
  refine vv rfl ?_
  refine w_nil ?_
  refine k_seq ?_
  refine vf ?_
  refine w_skip ?_
  refine k_seq ?_
  refine w_seq ?_
  refine w_region ?_
  refine vv (e_move rfl) ?_
  refine vv (e_move rfl) ?_
  refine vv (e_move rfl) ?_
  refine vc (e_call rfl rfl F.f35 rfl) (inew_ok F N R _ m _ (fun M5 ix s5 lix => ?_))
  dsimp only
  have y5 := s5.1
  rw [AM.nx_set] at y5
  have hs5 := (s5.2 s (by rw [AM.nx_set]; omega)).trans s0
  have f5 : ∀ x, x < M4.nx → x ≠ s → M5.get x = M4.get x := fun x h1 h2 => (s5.2 x (by rw [AM.nx_set]; exact h1)).trans (gs (Ne.symm h2 ∘ Eq.symm) rfl)
  refine vv (e_move rfl) ?_
  refine vc (e_call rfl rfl F.f36 rfl) (jnew_ok F N R _ m _ (fun M6 jn s6 ljn => ?_))
  dsimp only
  have y6 := s6.1
  have hs6 := (s6.2 s (by omega)).trans hs5
  have hd6 := (s6.2 d (by omega)).trans ((f5 d (by omega) q6).trans hd4)
  have hd7 : ∀ y1 y2 : Option AObj, ((M6.set s y1).set s y2).get d = some (.map [] 0) := fun _ _ => gs q6 (gs q6 hd6)
  refine vv rfl ?_
  refine vv (e_fa rfl F.fa56_2) ?_
  refine vd (e_store rfl rfl F.sz48 zS zN rfl) ?_
  refine vv rfl ?_
  refine vv (e_fa rfl F.fa56_3) ?_
  refine vd (e_store rfl rfl F.sz49 s0 zN rfl) ?_
  refine w_nil ?_
  refine k_seq ?_
  refine w_seq ?_
  refine w_region ?_
  refine vv (e_move rfl) ?_
  refine vv rfl ?_
  refine vv (e_fa rfl F.fa56_7) ?_
  refine vv (e_loadn rfl F.na53 s0 zC) ?_
  refine vd (e_mapset0 rfl rfl rfl F.u53 F.u3 (hd7 _ _)) ?_
  refine w_nil ?_
  refine k_seq ?_
  refine w_seq ?_
  refine w_region ?_
  refine vv (e_move rfl) ?_
  refine vv (e_assign rfl) ?_
  refine vv (e_assign rfl) ?_
  refine w_nil ?_
  refine k_seq ?_
  refine w_ret ?_
  have gE : ∀ (y1 y2 y3 : Option AObj) x, x < M4.nx → x ≠ s → x ≠ d → (((M6.set s y1).set s y2).set d y3).get x = M4.get x := fun _ _ _ x h1 h2 h3 => gs (Ne.symm h3 ∘ Eq.symm) (gs (Ne.symm h2 ∘ Eq.symm) (gs (Ne.symm h2 ∘ Eq.symm) ((s6.2 x (by omega)).trans (f5 x h1 h2))))
  have mE : ∀ y1 y2 y3 : Option AObj, Mgr (((M6.set s y1).set s y2).set d y3) m L Z c B p0 bl pg sz rs f' z' q' nx' pcs2 := fun y1 y2 y3 => m4.frame (by simp only [AM.nx_set]; omega) fun x hx => gE _ _ _ x (m4.own hx) (fun e => so (by rw [← e]; exact hx)) (fun e => dO (by rw [← e]; exact hx))
  refine ⟨_, res_tmp rfl (res_tmp rfl res_nil), hQ _ m L Z f' z' q' nx' pcs2 s t r _ a b d _ _ (by simp only [AM.nx_set]; omega) (fun x hx hO => ?_) (mE _ _ _) (gs q6.symm (s0.trans rfl)) ((gE _ _ _ t (by omega) (Ne.symm q1) q7.symm).trans ht4) ((gE _ _ _ r (by omega) (Ne.symm q2) q8.symm).trans hr4) (by simp only [AM.nx_set]; omega) (by simp only [AM.nx_set]; omega) (by simp only [AM.nx_set]; omega)⟩
  have xo : ¬OwnM m L Z c B p0 bl x := by
    rintro (h | h | h | h)
    · exact hO h
    · omega
    · omega
    · omega
  exact (gE _ _ _ x (by omega) (by omega) (by omega)).trans ((e4.2 x (by omega) xo).trans ((f3 x (by omega) (by omega)).trans ((s2.2 x (by omega)).trans (k1 x hx hO))))
end
end Go.Abm.Seat

open Go Go.Abm
set_option maxRecDepth 100000
set_option maxHeartbeats 4000000
namespace Go.Abm.Seat
section
variable {E : Env} (F : Facts E) (N : NS E)
include F N
theorem search0_ok (M : AM) (v : AV) (Q : KC) (hQ : Q (.ret (.int .i64 0)) M) : CallsTo E 127 [.int .i64 0, v] M Q := by
  refine call_rule F.f127 rfl (N 127 rfl) ?_
  refine w_seq ?_
  refine w_region ?_
  refine vv (e_assign rfl) ?_
  refine w_nil ?_
  refine k_seq ?_
  refine w_seq ?_
  refine w_region ?_
  refine vv (e_move rfl) ?_
  refine vv (e_assign rfl) ?_
  refine vv (e_assign rfl) ?_
  refine w_nil ?_
  refine k_seq ?_
  refine w_seq ?_
  refine w_block ?_
  refine w_loop ?_
  refine loop_inv (fun w ρ D M' => D = [] ∧ M' = M ∧ ρ 5 = some (.int .i64 0) ∧ ρ 6 = some (.int .i64 0)) ?_ 0 _ _ _ ⟨rfl, rfl, rfl, rfl⟩
  rintro w ρ D M' ⟨rfl, rfl, g5, g6⟩
  rw [reg1 g5, reg1 g6]
  refine w_seq ?_
  refine w_seq ?_
  refine w_region ?_
  refine vv (e_move rfl) ?_
  refine vv (e_move rfl) ?_
  refine vv rfl ?_
  refine w_nil ?_
  refine k_seq ?_
  refine vf ?_
  refine w_exit ?_
  refine k_exit ?_
  refine k_exit ?_
  refine b_here ?_
  refine k_seq ?_
  refine w_seq ?_
  refine w_region ?_
  refine vv (e_move rfl) ?_
  refine vv (e_assign rfl) ?_
  refine w_nil ?_
  refine k_seq ?_
  refine w_ret ?_
  exact ⟨_, res_tmp rfl res_nil, hQ⟩
theorem at0_ok {M : AM} {r : Nat} {f0 : Bool} (hr : M.get r = some (.cells [.int .i64 0, .nils, .nils, .nils, .bool true] false f0)) (lr : r < M.nx) (k : List Nat) (Q : KC) (hQ : ∀ M', Same M M' → Q (.ret (.tup [.int .i64 0, .bool false])) M') : CallsTo E 57 [.ptr r 0, .str k] M Q := by
  have hrn : ∀ o1 o2 : AObj, ((M.new o1).new o2).get r = some (.cells [.int .i64 0, .nils, .nils, .nils, .bool true] false f0) := fun _ _ => gn (by rw [AM.nx_new]; omega) (gn lr hr)
  refine call_rule F.f57 rfl (N 57 rfl) ?_
  refine w_seq ?_
  refine w_region ?_
  refine vv rfl ?_
  refine vv rfl ?_
  refine vv (e_assign rfl) ?_
  refine vv (e_assign rfl) ?_
  refine w_nil ?_
  refine k_seq ?_
  refine w_seq ?_
  refine w_region ?_
  refine vv (e_loadn rfl F.na108 (by first | assumption | exact g0 | exact s0 | (repeat first | assumption | exact g0 | exact s0 | refine gn zL ?_ | refine gs zL ?_)) zC) ?_
  refine vv rfl ?_
  refine vv (e_fa rfl F.fa114_1) ?_
  refine vv (e_loadn rfl F.na111 (by first | assumption | exact g0 | exact s0 | (repeat first | assumption | exact g0 | exact s0 | refine gn zL ?_ | refine gs zL ?_)) zC) ?_
  refine vv (e_len_nils rfl rfl rfl rfl F.u111) ?_
  refine vv rfl ?_
  refine vc (e_call rfl rfl F.f127 rfl) (search0_ok F N _ _ _ ?_)
  dsimp only
  refine vv (e_assign rfl) ?_
  refine w_nil ?_
  refine k_seq ?_
  refine w_seq ?_
  refine w_order [.run 0 0, .run 1 0, .run 2 0, .run 3 4, .run 4 12, .run 5 28, .run 6 60, .run 7 126, .run 8 254, .run 9 510, .run 10 1022, .run 11 2046, .run 12 4094, .run 13 510, .run 14 16382, .run 15 32766, .run 16 510, .run 17 131070, .run 18 262142, .chk, .eff 19 511, .chk, .eff 20 1048575, .chk] (by decide +kernel) ?_
  refine sp rfl (e_move rfl) ?_
  refine sp rfl (e_move rfl) ?_
  refine sr rfl (e_loadn rfl F.na108 (by first | assumption | exact g0 | exact s0 | (repeat first | assumption | exact g0 | exact s0 | refine gn zL ?_ | refine gs zL ?_)) zC) ?_
  refine sp rfl rfl ?_
  refine sp rfl (e_fa rfl F.fa114_1) ?_
  refine sr rfl (e_loadn rfl F.na111 (by first | assumption | exact g0 | exact s0 | (repeat first | assumption | exact g0 | exact s0 | refine gn zL ?_ | refine gs zL ?_)) zC) ?_
  refine sr rfl (e_len_nils rfl rfl rfl rfl F.u111) ?_
  refine sp rfl rfl ?_
  refine sp rfl (e_move rfl) ?_
  refine sn rfl ?_
  refine sn rfl ?_
  refine sn rfl ?_
  refine sn rfl ?_
  refine sn rfl ?_
  refine sn rfl ?_
  refine sn rfl ?_
  refine sn rfl ?_
  refine sn rfl ?_
  refine sp rfl rfl ?_
  refine st_chk (by repeat first | exact ck_nil | refine ck_cons ⟨_, _, rfl, zA⟩ ?_ | refine ck_cons ⟨_, _, (e_loadn rfl F.na108 (by first | assumption | exact g0 | exact s0 | (repeat first | assumption | exact g0 | exact s0 | refine gn zL ?_ | refine gs zL ?_)) zC), zA⟩ ?_ | refine ck_cons ⟨_, _, (e_loadn rfl F.na111 (by first | assumption | exact g0 | exact s0 | (repeat first | assumption | exact g0 | exact s0 | refine gn zL ?_ | refine gs zL ?_)) zC), zA⟩ ?_ | refine ck_cons ⟨_, _, (e_len_sl rfl rfl rfl rfl F.u111), zA⟩ ?_ | refine ck_cons ⟨_, _, (e_len_nils rfl rfl rfl rfl F.u111), zA⟩ ?_ | refine ck_cons ⟨_, _, (e_len_str rfl rfl rfl rfl F.u111), zA⟩ ?_ | refine ck_cons ⟨_, _, (e_loadn rfl F.na9 (by first | assumption | exact g0 | exact s0 | (repeat first | assumption | exact g0 | exact s0 | refine gn zL ?_ | refine gs zL ?_)) zC), zA⟩ ?_ | refine ck_cons ⟨_, _, (e_eqlp rfl rfl F.u9), zA⟩ ?_ | refine ck_cons ⟨_, _, (e_eqlpn rfl rfl F.u9), zA⟩ ?_ | refine ck_cons ⟨_, _, (e_eqlsn rfl rfl F.u9), zA⟩ ?_ | refine ck_cons ⟨_, _, (e_eqlsnn rfl rfl F.u9), zA⟩ ?_ | refine ck_cons ⟨_, (by first | assumption | exact g0 | exact s0 | (repeat first | assumption | exact g0 | exact s0 | refine gn zL ?_ | refine gs zL ?_)), zB⟩ ?_) ?_
  refine fp rfl zP (e_assign rfl) ?_
  refine st_chk (by repeat first | exact ck_nil | refine ck_cons ⟨_, _, rfl, zA⟩ ?_ | refine ck_cons ⟨_, _, (e_loadn rfl F.na108 (by first | assumption | exact g0 | exact s0 | (repeat first | assumption | exact g0 | exact s0 | refine gn zL ?_ | refine gs zL ?_)) zC), zA⟩ ?_ | refine ck_cons ⟨_, _, (e_loadn rfl F.na111 (by first | assumption | exact g0 | exact s0 | (repeat first | assumption | exact g0 | exact s0 | refine gn zL ?_ | refine gs zL ?_)) zC), zA⟩ ?_ | refine ck_cons ⟨_, _, (e_len_sl rfl rfl rfl rfl F.u111), zA⟩ ?_ | refine ck_cons ⟨_, _, (e_len_nils rfl rfl rfl rfl F.u111), zA⟩ ?_ | refine ck_cons ⟨_, _, (e_len_str rfl rfl rfl rfl F.u111), zA⟩ ?_ | refine ck_cons ⟨_, _, (e_loadn rfl F.na9 (by first | assumption | exact g0 | exact s0 | (repeat first | assumption | exact g0 | exact s0 | refine gn zL ?_ | refine gs zL ?_)) zC), zA⟩ ?_ | refine ck_cons ⟨_, _, (e_eqlp rfl rfl F.u9), zA⟩ ?_ | refine ck_cons ⟨_, _, (e_eqlpn rfl rfl F.u9), zA⟩ ?_ | refine ck_cons ⟨_, _, (e_eqlsn rfl rfl F.u9), zA⟩ ?_ | refine ck_cons ⟨_, _, (e_eqlsnn rfl rfl F.u9), zA⟩ ?_ | refine ck_cons ⟨_, (by first | assumption | exact g0 | exact s0 | (repeat first | assumption | exact g0 | exact s0 | refine gn zL ?_ | refine gs zL ?_)), zB⟩ ?_) ?_
  refine fp rfl zP (e_assign rfl) ?_
  refine st_chk (by repeat first | exact ck_nil | refine ck_cons ⟨_, _, rfl, zA⟩ ?_ | refine ck_cons ⟨_, _, (e_loadn rfl F.na108 (by first | assumption | exact g0 | exact s0 | (repeat first | assumption | exact g0 | exact s0 | refine gn zL ?_ | refine gs zL ?_)) zC), zA⟩ ?_ | refine ck_cons ⟨_, _, (e_loadn rfl F.na111 (by first | assumption | exact g0 | exact s0 | (repeat first | assumption | exact g0 | exact s0 | refine gn zL ?_ | refine gs zL ?_)) zC), zA⟩ ?_ | refine ck_cons ⟨_, _, (e_len_sl rfl rfl rfl rfl F.u111), zA⟩ ?_ | refine ck_cons ⟨_, _, (e_len_nils rfl rfl rfl rfl F.u111), zA⟩ ?_ | refine ck_cons ⟨_, _, (e_len_str rfl rfl rfl rfl F.u111), zA⟩ ?_ | refine ck_cons ⟨_, _, (e_loadn rfl F.na9 (by first | assumption | exact g0 | exact s0 | (repeat first | assumption | exact g0 | exact s0 | refine gn zL ?_ | refine gs zL ?_)) zC), zA⟩ ?_ | refine ck_cons ⟨_, _, (e_eqlp rfl rfl F.u9), zA⟩ ?_ | refine ck_cons ⟨_, _, (e_eqlpn rfl rfl F.u9), zA⟩ ?_ | refine ck_cons ⟨_, _, (e_eqlsn rfl rfl F.u9), zA⟩ ?_ | refine ck_cons ⟨_, _, (e_eqlsnn rfl rfl F.u9), zA⟩ ?_ | refine ck_cons ⟨_, (by first | assumption | exact g0 | exact s0 | (repeat first | assumption | exact g0 | exact s0 | refine gn zL ?_ | refine gs zL ?_)), zB⟩ ?_) ?_
  refine st_nil ?_
  refine k_seq ?_
  refine w_ret ?_
  exact ⟨_, res_tmp rfl (res_tmp rfl res_nil), hQ _ (Same.refl M).new.new⟩
theorem bget0_ok {M : AM} {t r : Nat} {f0 f1 : Bool} (ht : M.get t = some (.cells [.int .i64 16, .ptr r 0, .int .i64 0] false f1)) (hr : M.get r = some (.cells [.int .i64 0, .nils, .nils, .nils, .bool true] false f0)) (lr : r < M.nx) (k : List Nat) (Q : KC) (hQ : ∀ M', Same M M' → Q (.ret (.tup [.str [], .bool false])) M') : CallsTo E 21 [.ptr t 0, .str k] M Q := by
  refine call_rule F.f21 rfl (N 21 rfl) ?_
  refine w_seq ?_
  refine w_region ?_
  refine vv (e_assign rfl) ?_
  refine vv (e_assign rfl) ?_
  refine w_nil ?_
  refine k_seq ?_
  refine w_seq ?_
  refine w_seq ?_
  refine w_region ?_
  refine vv (e_move rfl) ?_
  refine vv (e_eqlp rfl rfl F.u50) ?_
  refine w_nil ?_
  refine k_seq ?_
  refine vf ?_
  refine w_skip ?_
  refine k_seq ?_
  refine w_seq ?_
  refine w_region ?_
  refine vv (e_move rfl) ?_
  refine vv rfl ?_
  refine vv (e_fa rfl F.fa110_1) ?_
  refine vv (e_loadn rfl F.na108 zS zC) ?_
  refine vv (e_assign rfl) ?_
  refine w_nil ?_
  refine k_seq ?_
  refine w_seq ?_
  refine w_block ?_
  refine w_loop ?_
  refine loop_inv (fun w ρ D M' => D = [] ∧ M' = M ∧ ρ 1 = some (.str k) ∧ ρ 6 = some (.ptr r 0)) ?_ 0 _ _ _ ⟨rfl, rfl, rfl, rfl⟩
  rintro w ρ D M' ⟨rfl, rfl, g1, g6⟩
  rw [reg1 g1, reg1 g6]
  refine w_seq ?_
  refine w_seq ?_
  refine w_region ?_
  refine vv (e_move rfl) ?_
  refine vv rfl ?_
  refine vv (e_fa rfl F.fa114_0) ?_
  refine vv (e_loadn rfl F.na3 zS zC) ?_
  refine vv rfl ?_
  refine w_nil ?_
  refine k_seq ?_
  refine vf ?_
  refine w_exit ?_
  refine k_exit ?_
  refine k_exit ?_
  refine b_here ?_
  refine k_seq ?_
  refine w_seq ?_
  refine w_region ?_
  refine vv (e_move rfl) ?_
  refine vv (e_move rfl) ?_
  refine vc (e_call rfl rfl F.f57 rfl) (at0_ok F N hr lr k _ (fun M1 s1 => ?_))
  dsimp only
  refine vv (e_move rfl) ?_
  refine vv rfl ?_
  refine vv rfl ?_
  refine vv (e_assign rfl) ?_
  refine vv (e_assign rfl) ?_
  refine w_nil ?_
  refine k_seq ?_
  refine w_seq ?_
  refine w_seq ?_
  refine w_region ?_
  refine vv (e_move rfl) ?_
  refine vv rfl ?_
  refine w_nil ?_
  refine k_seq ?_
  refine vt ?_
  refine w_seq ?_
  refine w_region ?_
  refine vv (e_assign rfl) ?_
  refine vv (e_assign rfl) ?_
  refine w_nil ?_
  refine k_seq ?_
  refine w_ret ?_
  refine k_ret ?_
  exact ⟨_, res_tmp rfl (res_tmp rfl res_nil), hQ _ s1⟩
theorem walk0_ok {M : AM} {r : Nat} {f0 : Bool} (hr : M.get r = some (.cells [.int .i64 0, .nils, .nils, .nils, .bool true] false f0)) (lr : r < M.nx) (k : List Nat) (y : AV) (Q : KC) (hQ : ∀ M', Same M M' → Q (.ret (.bool true)) M') : CallsTo E 130 [.ptr r 0, .str k, y] M Q := by
  refine call_rule F.f130 rfl (N 130 rfl) ?_
  refine w_seq ?_
  refine w_region ?_
  refine vv (e_assign rfl) ?_
  refine w_nil ?_
  refine k_seq ?_
  refine w_seq ?_
  refine w_seq ?_
  refine w_region ?_
  refine vv (e_move rfl) ?_
  refine vv rfl ?_
  refine vv (e_fa rfl F.fa114_0) ?_
  refine vv (e_loadn rfl F.na3 zS zC) ?_
  refine vv rfl ?_
  refine w_nil ?_
  refine k_seq ?_
  refine vf ?_
  refine w_skip ?_
  refine k_seq ?_
  refine w_seq ?_
  refine w_region ?_
  refine vv (e_move rfl) ?_
  refine vv (e_move rfl) ?_
  refine vc (e_call rfl rfl F.f57 rfl) (at0_ok F N hr lr k _ (fun M1 s1 => ?_))
  dsimp only
  have hr1 := (s1.2 r lr).trans hr
  refine vv (e_move rfl) ?_
  refine vv rfl ?_
  refine vv rfl ?_
  refine vv (e_assign rfl) ?_
  refine vv (e_assign rfl) ?_
  refine w_nil ?_
  refine k_seq ?_
  refine w_seq ?_
  refine w_block ?_
  refine w_loop ?_
  refine loop_inv (fun w ρ D M' => D = [] ∧ M' = M1 ∧ ρ 0 = some (.ptr r 0) ∧ ρ 9 = some (.int .i64 0)) ?_ 0 _ _ _ ⟨rfl, rfl, rfl, rfl⟩
  rintro w ρ D M' ⟨rfl, rfl, g0, g9⟩
  rw [reg1 g0, reg1 g9]
  refine w_seq ?_
  refine w_seq ?_
  refine w_region ?_
  refine vv (e_move rfl) ?_
  refine vv (e_move rfl) ?_
  refine vv rfl ?_
  refine vv (e_fa rfl F.fa114_1) ?_
  refine vv (e_loadn rfl F.na111 zS zC) ?_
  refine vv (e_len_nils rfl rfl rfl rfl F.u111) ?_
  refine vv rfl ?_
  refine w_nil ?_
  refine k_seq ?_
  refine vf ?_
  refine w_exit ?_
  refine k_exit ?_
  refine k_exit ?_
  refine b_here ?_
  refine k_seq ?_
  refine w_seq ?_
  refine w_region ?_
  refine vv (e_assign rfl) ?_
  refine w_nil ?_
  refine k_seq ?_
  refine w_ret ?_
  exact ⟨_, res_tmp rfl res_nil, hQ _ s1⟩
theorem sready_ok {M : AM} {m L Z c B p0 bl pg sz rs : Nat} {f : Nat → Ent} {z : Nat → Int} {q : Int} {nx : Nat → Nat} {pcs : Nat → List AV} (hM : Mgr M m L Z c B p0 bl pg sz rs f z q nx pcs) {s : Nat} {x : List AV} {f0 : Bool} (hs : M.get s = some (.cells (.ptr m 0 :: x) false f0)) (Q : KC) (hQ : Q (.ret (.int .i64 0)) M) : CallsTo E 20 [.ptr s 0] M Q := by
  refine call_rule F.f20 rfl (N 20 rfl) ?_
  refine w_seq ?_
  refine w_region ?_
  refine vv (e_assign rfl) ?_
  refine w_nil ?_
  refine k_seq ?_
  refine w_seq ?_
  refine w_block ?_
  refine w_seq ?_
  refine w_region ?_
  refine vv (e_move rfl) ?_
  refine vv (e_eqlp rfl rfl F.u25) ?_
  refine vv (e_assign rfl) ?_
  refine w_nil ?_
  refine k_seq ?_
  refine vf ?_
  refine w_seq ?_
  refine w_region ?_
  refine vv (e_move rfl) ?_
  refine vv rfl ?_
  refine vv (e_fa rfl F.fa56_0) ?_
  refine vv (e_loadn rfl F.na46 zS zC) ?_
  refine vc (e_call rfl rfl F.f49 rfl) (mchip_ok F hM (N 49 rfl) _ ?_)
  dsimp only
  skip
  refine vc (e_call rfl rfl F.f55 rfl) (on_c F (N 55 rfl) hM.ch _ ?_)
  dsimp only
  refine vv rfl ?_
  refine vv (e_assign rfl) ?_
  refine w_nil ?_
  refine k_seq ?_
  refine vf ?_
  refine w_skip ?_
  refine b_normal ?_
  refine k_seq ?_
  refine w_seq ?_
  refine w_region ?_
  refine vv (e_assign rfl) ?_
  refine w_nil ?_
  refine k_seq ?_
  refine w_ret ?_
  exact ⟨_, res_tmp rfl res_nil, hQ⟩
theorem from1_ok {M : AM} {r a b : Nat} {f0 f1 f2 r1 r2 : Bool} (hr : M.get r = some (.cells [.int .i64 0, .nils, .nils, .nils, .bool true] false f0)) (lr : r < M.nx) (ha : M.get a = some (.cells [.ptr r 0] r1 f1)) {k : List Nat} (hb : M.get b = some (.cells [.str k] r2 f2)) (y : AV) (Q : KC) (hQ : ∀ M', Same M M' → Q (.ret (.tup [])) M') : CallsTo E 129 [y, .ptr a 0, .ptr b 0] M Q := by
  refine call_rule F.f129 rfl (N 129 rfl) ?_
  refine w_region ?_
  refine vv (e_loadn rfl F.na108 zS zC) ?_
  refine vv (e_loadn rfl F.na9 zS zC) ?_
  refine vv (e_move rfl) ?_
  refine vc (e_call rfl rfl F.f130 rfl) (walk0_ok F N hr lr k y _ (fun M1 s1 => ?_))
  dsimp only
  refine w_nil ?_
  exact ⟨_, res_nil, hQ _ s1⟩
theorem from0_ok (M : AM) (r : Nat) (k : List Nat) (Q : KC) (hQ : Q (.ret (.fn (.func 129) [] [.ptr M.nx 0, .ptr (M.nx + 1) 0])) ((M.new (.cells [.ptr r 0] false false)).new (.cells [.str k] false false))) : CallsTo E 58 [.ptr r 0, .str k] M Q := by
  refine call_rule F.f58 rfl (N 58 rfl) ?_
  refine w_seq ?_
  refine w_region ?_
  refine vv rfl ?_
  refine vv rfl ?_
  refine vv (e_assign rfl) ?_
  refine w_nil ?_
  refine k_seq ?_
  refine w_seq ?_
  refine w_region ?_
  refine vv rfl ?_
  refine vv (e_assign rfl) ?_
  refine w_nil ?_
  refine k_seq ?_
  refine w_ret ?_
  exact ⟨_, res_tmp rfl res_nil, hQ⟩
theorem brange0_ok {M : AM} {t r : Nat} {f0 f1 : Bool} (ht : M.get t = some (.cells [.int .i64 16, .ptr r 0, .int .i64 0] false f1)) (hr : M.get r = some (.cells [.int .i64 0, .nils, .nils, .nils, .bool true] false f0)) (lt : t < M.nx) (lr : r < M.nx) (n : Int) (Q : KC) (hQ : ∀ M', Same M M' → Q (.ret .nils) M') : CallsTo E 22 [.ptr t 0, .str [], .str [], .int .i64 n] M Q := by
  refine call_rule F.f22 rfl (N 22 rfl) ?_
  refine w_seq ?_
  refine w_region ?_
  refine vv rfl ?_
  refine vv rfl ?_
  refine vv (e_assign rfl) ?_
  refine w_nil ?_
  refine k_seq ?_
  refine w_seq ?_
  refine w_region ?_
  refine vv (e_alloc F.z24) ?_
  refine w_nil ?_
  refine k_seq ?_
  refine w_seq ?_
  refine w_seq ?_
  refine w_region ?_
  refine vv (e_move rfl) ?_
  refine vv (e_eqlp rfl rfl F.u50) ?_
  refine vv (e_move rfl) ?_
  refine vg (e_loadn rfl F.na3 (by first | assumption | exact g0 | exact s0 | (repeat first | assumption | exact g0 | exact s0 | refine gn zL ?_ | refine gs zL ?_)) zC) ?_
  refine vg rfl ?_
  refine vv rfl ?_
  refine w_nil ?_
  refine k_seq ?_
  refine w_cond rfl (fun h => ?_) (fun h => ?_)
  · refine w_seq ?_
    refine w_region ?_
    refine vv (e_loadn rfl F.na24 g0 zC) ?_
    refine vv (e_assign rfl) ?_
    refine w_nil ?_
    refine k_seq ?_
    refine w_ret ?_
    refine k_ret ?_
    exact ⟨_, res_tmp rfl res_nil, hQ _ (Same.refl M).new.new.new⟩
  have S3 : Same M (((M.new (.cells [.str []] false false)).new (.cells [.int .i64 n] false false)).new (.cells [.nils] false false)) := (Same.refl M).new.new.new
  have ht3 := (S3.2 t lt).trans ht
  have hr3 := (S3.2 r lr).trans hr
  refine w_skip ?_
  refine k_seq ?_
  refine w_seq ?_
  refine w_seq ?_
  refine w_region ?_
  refine vv (e_move rfl) ?_
  refine vv rfl ?_
  refine vv (e_fa rfl F.fa110_1) ?_
  refine vv (e_loadn rfl F.na108 zS zC) ?_
  refine vv (e_move rfl) ?_
  refine vc (e_call rfl rfl F.f58 rfl) (from0_ok F N _ r [] _ ?_)
  dsimp only
  refine w_nil ?_
  refine k_seq ?_
  refine w_block ?_
  have S5 : Same M (((((M.new (.cells [.str []] false false)).new (.cells [.int .i64 n] false false)).new (.cells [.nils] false false)).new (.cells [.ptr r 0] false false)).new (.cells [.str []] false false)) := S3.new.new
  refine w_rangeN rfl (fun _ => a_callv F.f129 rfl) (fun M2 s2 n2 => ?_) (fun M4 s4 hd4 n4 => ?_)
  · refine from1_ok F N (M := M2) (r := r) (a := M.nx + 3) (b := M.nx + 4) (k := []) ((s2.2 r (by simp only [AM.nx_new]; omega)).trans ((S5.2 r lr).trans hr)) (by simp only [AM.nx_new] at n2; omega) ((s2.2 _ (by simp only [AM.nx_new]; omega)).trans (gn (by simp only [AM.nx_new]; omega) g0)) ((s2.2 _ (by simp only [AM.nx_new]; omega)).trans g0) _ _ (fun M3 s3 => ⟨_, rfl, s3⟩)
  · have h9 := (s4.2 (M.nx + 2) (by simp only [AM.nx_new]; omega)).trans (gn (by simp only [AM.nx_new]; omega) (gn (by simp only [AM.nx_new]; omega) g0))
    have S6 := S5.trans s4
    refine b_normal ?_
    refine k_seq ?_
    refine w_seq ?_
    refine w_region ?_
    refine vv (e_loadn rfl F.na24 zS zC) ?_
    refine vv (e_assign rfl) ?_
    refine w_nil ?_
    refine k_seq ?_
    refine w_ret ?_
    exact def_coll hd4 ⟨_, res_tmp rfl res_nil, hQ _ (S6.set (by simp only [AM.nx_new]; omega))⟩
theorem sget_ok {M : AM} {m L Z c B p0 bl pg sz rs : Nat} {f : Nat → Ent} {z : Nat → Int} {q : Int} {nx : Nat → Nat} {pcs : Nat → List AV} (hM : Mgr M m L Z c B p0 bl pg sz rs f z q nx pcs) {s t r : Nat} {x1 x2 x3 x5 x6 x7 x8 x9 : AV} {f0 f1 f2 : Bool} (hs : M.get s = some (.cells [.ptr m 0, x1, x2, x3, .ptr t 0, x5, x6, x7, x8, x9] false f0)) (ht : M.get t = some (.cells [.int .i64 16, .ptr r 0, .int .i64 0] false f1)) (hr : M.get r = some (.cells [.int .i64 0, .nils, .nils, .nils, .bool true] false f2)) (lr : r < M.nx) (k : List Nat) (Q : KC)
    (hQ : ∀ M' (e : Int), Same M M' → (e = 22 ↔ (k.length = 0 ∨ 64 < k.length)) → Q (.ret (.tup [.str [], .bool false, .int .i64 e])) M') : CallsTo E 4 [.ptr s 0, .str k] M Q := by
  refine call_rule F.f4 rfl (N 4 rfl) ?_
  refine w_seq ?_
  refine w_region ?_
  refine vv (e_assign rfl) ?_
  refine vv (e_assign rfl) ?_
  refine vv (e_assign rfl) ?_
  refine w_nil ?_
  refine k_seq ?_
  refine w_seq ?_
  refine w_seq ?_
  refine w_region ?_
  refine vv (e_move rfl) ?_
  refine vv (e_eqlp rfl rfl F.u25) ?_
  refine w_nil ?_
  refine k_seq ?_
  refine vf ?_
  refine w_skip ?_
  refine k_seq ?_
  refine w_seq ?_
  refine w_seq ?_
  refine w_region ?_
  refine vv (e_move rfl) ?_
  refine vv rfl ?_
  refine vv (e_move rfl) ?_
  cases k with
  | nil =>
    refine vn ?_
    refine vn ?_
    refine vn ?_
    refine vv rfl ?_
    refine w_nil ?_
    refine k_seq ?_
    refine vt ?_
    refine w_seq ?_
    refine w_region ?_
    refine vv (e_assign rfl) ?_
    refine vv (e_assign rfl) ?_
    refine vv (e_assign rfl) ?_
    refine w_nil ?_
    refine k_seq ?_
    refine w_ret ?_
    refine k_ret ?_
    exact ⟨_, res_tmp rfl (res_tmp rfl (res_tmp rfl res_nil)), hQ _ _ (Same.refl M) ⟨fun _ => .inl rfl, fun _ => rfl⟩⟩
  | cons y k =>
    have hk : natsBeq (y :: k) [] = false := rfl
    refine vg (e_move rfl) ?_
    refine vg (e_len_str rfl rfl rfl rfl F.u9) ?_
    refine vg rfl ?_
    refine vv rfl ?_
    refine w_nil ?_
    refine k_seq ?_
    by_cases h64 : 64 < (y :: k).length
    · rw [show iltF 64 (.ofNat (y :: k).length) = true from ilt_t (a := 64) h64]
      refine vt ?_
      refine w_seq ?_
      refine w_region ?_
      refine vv (e_assign rfl) ?_
      refine vv (e_assign rfl) ?_
      refine vv (e_assign rfl) ?_
      refine w_nil ?_
      refine k_seq ?_
      refine w_ret ?_
      refine k_ret ?_
      exact ⟨_, res_tmp rfl (res_tmp rfl (res_tmp rfl res_nil)), hQ _ _ (Same.refl M) ⟨fun _ => .inr h64, fun _ => rfl⟩⟩
    · rw [show iltF 64 (.ofNat (y :: k).length) = false from ilt_f (a := 64) (by omega)]
      refine vf ?_
      refine w_skip ?_
      refine k_seq ?_
      refine w_seq ?_
      refine w_seq ?_
      refine w_region ?_
      refine vv (e_move rfl) ?_
      refine vc (e_call rfl rfl F.f20 rfl) (sready_ok F N hM hs _ ?_)
      dsimp only
      refine vv (e_assign rfl) ?_
      refine w_nil ?_
      refine k_seq ?_
      refine w_seq ?_
      refine w_region ?_
      refine vv (e_move rfl) ?_
      refine vv rfl ?_
      refine w_nil ?_
      refine k_seq ?_
      refine vf ?_
      refine w_skip ?_
      refine k_seq ?_
      refine w_seq ?_
      refine w_region ?_
      refine vv (e_move rfl) ?_
      refine vv rfl ?_
      refine vv (e_fa rfl F.fa56_4) ?_
      refine vv (e_loadn rfl F.na50 zS zC) ?_
      refine vv (e_move rfl) ?_
      refine vc (e_call rfl rfl F.f21 rfl) (bget0_ok F N ht hr lr (y :: k) _ (fun M1 s1 => ?_))
      dsimp only
      refine vv (e_move rfl) ?_
      refine vv rfl ?_
      refine vv rfl ?_
      refine vv (e_assign rfl) ?_
      refine vv (e_assign rfl) ?_
      refine w_nil ?_
      refine k_seq ?_
      refine w_seq ?_
      refine w_region ?_
      refine vv (e_move rfl) ?_
      refine vv (e_move rfl) ?_
      refine vv (e_assign rfl) ?_
      refine vv (e_assign rfl) ?_
      refine vv (e_assign rfl) ?_
      refine w_nil ?_
      refine k_seq ?_
      refine w_ret ?_
      exact ⟨_, res_tmp rfl (res_tmp rfl (res_tmp rfl res_nil)), hQ _ _ s1 ⟨fun h => absurd h (by decide), fun h => by simp at h h64; omega⟩⟩
theorem srange_ok {M : AM} {m L Z c B p0 bl pg sz rs : Nat} {f : Nat → Ent} {z : Nat → Int} {q : Int} {nx : Nat → Nat} {pcs : Nat → List AV} (hM : Mgr M m L Z c B p0 bl pg sz rs f z q nx pcs) {s t r : Nat} {x1 x2 x3 x5 x6 x7 x8 x9 : AV} {f0 f1 f2 : Bool} (hs : M.get s = some (.cells [.ptr m 0, x1, x2, x3, .ptr t 0, x5, x6, x7, x8, x9] false f0)) (ht : M.get t = some (.cells [.int .i64 16, .ptr r 0, .int .i64 0] false f1)) (hr : M.get r = some (.cells [.int .i64 0, .nils, .nils, .nils, .bool true] false f2)) (lt : t < M.nx) (lr : r < M.nx) (n : Int) (Q : KC)
    (hQ : ∀ M' (e : Int), Same M M' → (ieqF e 22 = iltF n 0) → Q (.ret (.tup [.nils, .int .i64 e])) M') : CallsTo E 5 [.ptr s 0, .str [], .str [], .int .i64 n] M Q := by
  refine call_rule F.f5 rfl (N 5 rfl) ?_
  refine w_seq ?_
  refine w_region ?_
  refine vv (e_assign rfl) ?_
  refine vv (e_assign rfl) ?_
  refine w_nil ?_
  refine k_seq ?_
  refine w_seq ?_
  refine w_seq ?_
  refine w_region ?_
  refine vv (e_move rfl) ?_
  refine vv (e_eqlp rfl rfl F.u25) ?_
  refine w_nil ?_
  refine k_seq ?_
  refine vf ?_
  refine w_skip ?_
  refine k_seq ?_
  refine w_seq ?_
  refine w_seq ?_
  refine w_region ?_
  refine vv (e_move rfl) ?_
  refine vv rfl ?_
  refine w_nil ?_
  refine k_seq ?_
  refine w_cond rfl (fun h => ?_) (fun h => ?_)
  · refine w_seq ?_
    refine w_region ?_
    refine vv (e_assign rfl) ?_
    refine vv (e_assign rfl) ?_
    refine w_nil ?_
    refine k_seq ?_
    refine w_ret ?_
    refine k_ret ?_
    exact ⟨_, res_tmp rfl (res_tmp rfl res_nil), hQ _ _ (Same.refl M) h.symm⟩
  · refine w_skip ?_
    refine k_seq ?_
    refine w_seq ?_
    refine w_seq ?_
    refine w_region ?_
    refine vv (e_move rfl) ?_
    refine vc (e_call rfl rfl F.f20 rfl) (sready_ok F N hM hs _ ?_)
    dsimp only
    refine vv (e_assign rfl) ?_
    refine w_nil ?_
    refine k_seq ?_
    refine w_seq ?_
    refine w_region ?_
    refine vv (e_move rfl) ?_
    refine vv rfl ?_
    refine w_nil ?_
    refine k_seq ?_
    refine vf ?_
    refine w_skip ?_
    refine k_seq ?_
    refine w_seq ?_
    refine w_region ?_
    refine vv (e_move rfl) ?_
    refine vv rfl ?_
    refine vv (e_fa rfl F.fa56_4) ?_
    refine vv (e_loadn rfl F.na50 zS zC) ?_
    refine vv (e_move rfl) ?_
    refine vv (e_move rfl) ?_
    refine vv (e_move rfl) ?_
    refine vc (e_call rfl rfl F.f22 rfl) (brange0_ok F N ht hr lt lr n _ (fun M1 s1 => ?_))
    dsimp only
    refine vv (e_assign rfl) ?_
    refine vv (e_assign rfl) ?_
    refine w_nil ?_
    refine k_seq ?_
    refine w_ret ?_
    exact ⟨_, res_tmp rfl (res_tmp rfl res_nil), hQ _ _ s1 h.symm⟩
theorem cost0_ok {M : AM} {s : Nat} {x0 x1 x2 x3 x4 x5 x6 x7 x8 : AV} {f0 : Bool} (hs : M.get s = some (.cells [x0, x1, x2, x3, x4, x5, x6, x7, x8, .int .i64 0] false f0)) (Q : KC) (hQ : Q (.ret (.int .i64 0)) M) : CallsTo E 13 [.ptr s 0] M Q := by
  refine call_rule F.f13 rfl (N 13 rfl) ?_
  refine w_seq ?_
  refine w_region ?_
  refine vv (e_assign rfl) ?_
  refine w_nil ?_
  refine k_seq ?_
  refine w_seq ?_
  refine w_seq ?_
  refine w_region ?_
  refine vv (e_move rfl) ?_
  refine vv (e_eqlp rfl rfl F.u25) ?_
  refine w_nil ?_
  refine k_seq ?_
  refine vf ?_
  refine w_skip ?_
  refine k_seq ?_
  refine w_seq ?_
  refine w_region ?_
  refine vv (e_move rfl) ?_
  refine vv rfl ?_
  refine vv (e_fa rfl F.fa56_9) ?_
  refine vv (e_loadn rfl F.na3 zS zC) ?_
  refine vv (e_assign rfl) ?_
  refine w_nil ?_
  refine k_seq ?_
  refine w_ret ?_
  exact ⟨_, res_tmp rfl res_nil, hQ⟩
end
end Go.Abm.Seat

open Go Go.Abm
set_option maxRecDepth 100000
set_option maxHeartbeats 4000000
namespace Go.Abm.Seat
section
variable {E : Env} (F : Facts E) (N : NS E) (X : FX E) (R : RS E)
include F N X R
theorem fresh_ok {M : AM} {bl pg sz rs e : Nat} {ro fz0 : Bool} (hG : M.get 1 = some (.cells [.ifc tS (.ptr e 0)] ro fz0)) (hl1 : 1 < M.nx) (hg : Geo bl pg sz rs) (hr : rightB (.ofNat bl) (.ofNat pg) (.ofNat sz) (.ofNat rs) = true) (Q : KC)
    (hQ : ∀ M' c B p0 m L Z f z q nx' pcs' s t r lg a b d ix jn, Same M M' → Mgr M' m L Z c B p0 bl pg sz rs f z q nx' pcs' →
      M'.get s = some (.cells [.ptr m 0, lg, ix, jn, .ptr t 0, .mp a, .mp b, .mp d, .int .u64 1, .int .i64 0] false false) → M'.get t = some (.cells [.int .i64 16, .ptr r 0, .int .i64 0] false false) → M'.get r = some (.cells [.int .i64 0, .nils, .nils, .nils, .bool true] false false) → s < M'.nx → t < M'.nx → r < M'.nx → Q (.ret (.ptr s 0)) M') :
    CallsTo E 19 [.agg [.int .i64 (.ofNat bl), .int .i64 (.ofNat pg), .int .i64 (.ofNat sz), .int .i64 (.ofNat rs)]] M Q := by
  refine call_rule F.f19 rfl (N 19 rfl) ?_
  refine w_seq ?_
  refine w_region ?_
  refine vv rfl ?_
  refine vv (e_assign rfl) ?_
  refine w_nil ?_
  refine k_seq ?_
  refine w_seq ?_
  refine w_region ?_
  refine vv (e_loada rfl F.ag23 F.sz23 g0 zN) ?_
  have sN : Same M (M.new (.cells [.int .i64 (.ofNat bl), .int .i64 (.ofNat pg), .int .i64 (.ofNat sz), .int .i64 (.ofNat rs)] false false)) := (Same.refl M).new
  refine vc (e_call rfl rfl F.f18 rfl) (new_ok F (N 124 rfl) (N 52 rfl) (N 53 rfl) (N 54 rfl) (N 18 rfl) _ bl pg sz rs hg hr _ (fun M1 c B p0 s1 lc lB lp hch => ?_))
  dsimp only
  have SA := sN.trans s1
  have n1 := s1.1
  rw [AM.nx_new] at n1 lc lB lp
  refine vv (e_move rfl) ?_
  refine vv rfl ?_
  refine vv rfl ?_
  refine vv (e_assign rfl) ?_
  refine vv (e_assign rfl) ?_
  refine w_nil ?_
  refine k_seq ?_
  refine w_seq ?_
  refine w_seq ?_
  refine w_region ?_
  refine vv (e_move rfl) ?_
  refine vv rfl ?_
  refine vv (e_move rfl) ?_
  refine vg (e_move rfl) ?_
  refine vg (e_eqlp rfl rfl F.u39) ?_
  refine vv rfl ?_
  refine w_nil ?_
  refine k_seq ?_
  refine vf ?_
  refine w_skip ?_
  refine k_seq ?_
  refine w_seq ?_
  refine w_region ?_
  refine vv (e_move rfl) ?_
  have oN : ∀ x, x < M.nx → ¬Own c B p0 bl x := by
    rintro x hx (h | h | ⟨h1, h2⟩) <;> omega
  refine vc (e_call rfl rfl F.f8 rfl) (sformat_ok F N X R ((SA.2 1 hl1).trans hG) (by have := SA.1; omega) (oN 1 hl1) hch hg hr (fun _ _ => rfl) (fun _ _ => rfl) _ (fun M2 m L Z f z q nx' pcs' s t r lg a b d ix jn x2 k2 m2 hs ht hr ls lt lr => ?_))
  dsimp only
  refine vv (e_move rfl) ?_
  refine vv rfl ?_
  refine vv rfl ?_
  refine vv (e_assign rfl) ?_
  refine vv (e_assign rfl) ?_
  refine w_nil ?_
  refine k_seq ?_
  refine w_seq ?_
  refine w_seq ?_
  refine w_region ?_
  refine vv (e_move rfl) ?_
  refine vv rfl ?_
  refine w_nil ?_
  refine k_seq ?_
  refine vf ?_
  refine w_skip ?_
  refine k_seq ?_
  refine w_seq ?_
  refine w_region ?_
  refine vv (e_move rfl) ?_
  refine vv (e_assign rfl) ?_
  refine w_nil ?_
  refine k_seq ?_
  refine w_ret ?_
  exact ⟨_, res_tmp rfl res_nil, hQ M2 c B p0 m L Z f z q nx' pcs' s t r lg a b d ix jn ⟨Nat.le_trans SA.1 x2, fun x hx => (k2 x (by have := SA.1; omega) (oN x hx)).trans (SA.2 x hx)⟩ m2 hs ht hr ls lt lr⟩
end
end Go.Abm.Seat

open Go Go.Abm
set_option maxRecDepth 100000
set_option maxHeartbeats 4000000
namespace Go.Abm.Seat
section
variable {E : Env} (F : Facts E) (N : NS E)
include F N
theorem getn_ok (M : AM) (k : List Nat) (Q : KC) (hQ : ∀ M', Same M M' → Q (.ret (.tup [.str [], .bool false, .int .i64 14])) M') : CallsTo E 4 [.nilp, .str k] M Q := by
  refine call_rule F.f4 rfl (N 4 rfl) ?_
  refine w_seq ?_
  refine w_region ?_
  refine vv (e_assign rfl) ?_
  refine vv (e_assign rfl) ?_
  refine vv (e_assign rfl) ?_
  refine w_nil ?_
  refine k_seq ?_
  refine w_seq ?_
  refine w_seq ?_
  refine w_region ?_
  refine vv (e_move rfl) ?_
  refine vv (e_eqlpn rfl rfl F.u25) ?_
  refine w_nil ?_
  refine k_seq ?_
  refine vt ?_
  refine w_seq ?_
  refine w_region ?_
  refine vv (e_assign rfl) ?_
  refine vv (e_assign rfl) ?_
  refine vv (e_assign rfl) ?_
  refine w_nil ?_
  refine k_seq ?_
  refine w_ret ?_
  refine k_ret ?_
  exact ⟨_, res_tmp rfl (res_tmp rfl (res_tmp rfl res_nil)), hQ _ (by first | exact Same.refl _ | exact (Same.refl M).new | exact (Same.refl M).new.new)⟩
theorem rangen_ok (M : AM) (n : Int) (Q : KC) (hQ : ∀ M', Same M M' → Q (.ret (.tup [.nils, .int .i64 14])) M') : CallsTo E 5 [.nilp, .str [], .str [], .int .i64 n] M Q := by
  refine call_rule F.f5 rfl (N 5 rfl) ?_
  refine w_seq ?_
  refine w_region ?_
  refine vv (e_assign rfl) ?_
  refine vv (e_assign rfl) ?_
  refine w_nil ?_
  refine k_seq ?_
  refine w_seq ?_
  refine w_seq ?_
  refine w_region ?_
  refine vv (e_move rfl) ?_
  refine vv (e_eqlpn rfl rfl F.u25) ?_
  refine w_nil ?_
  refine k_seq ?_
  refine vt ?_
  refine w_seq ?_
  refine w_region ?_
  refine vv (e_assign rfl) ?_
  refine vv (e_assign rfl) ?_
  refine w_nil ?_
  refine k_seq ?_
  refine w_ret ?_
  refine k_ret ?_
  exact ⟨_, res_tmp rfl (res_tmp rfl res_nil), hQ _ (by first | exact Same.refl _ | exact (Same.refl M).new | exact (Same.refl M).new.new)⟩
theorem readyn_ok (M : AM)  (Q : KC) (hQ : ∀ M', Same M M' → Q (.ret (.int .i64 14)) M') : CallsTo E 20 [.nilp] M Q := by
  refine call_rule F.f20 rfl (N 20 rfl) ?_
  refine w_seq ?_
  refine w_region ?_
  refine vv (e_assign rfl) ?_
  refine w_nil ?_
  refine k_seq ?_
  refine w_seq ?_
  refine w_block ?_
  refine w_seq ?_
  refine w_region ?_
  refine vv (e_move rfl) ?_
  refine vv (e_eqlpn rfl rfl F.u25) ?_
  refine vv (e_assign rfl) ?_
  refine w_nil ?_
  refine k_seq ?_
  refine vt ?_
  refine w_seq ?_
  refine w_region ?_
  refine vv (e_assign rfl) ?_
  refine w_nil ?_
  refine k_seq ?_
  refine w_ret ?_
  refine b_ret ?_
  refine k_ret ?_
  exact ⟨_, res_tmp rfl res_nil, hQ _ (Same.refl _)⟩
theorem collectn_ok (M : AM)  (Q : KC) (hQ : ∀ M', Same M M' → Q (.ret (.tup [.bool false, .int .i64 14])) M') : CallsTo E 6 [.nilp] M Q := by
  refine call_rule F.f6 rfl (N 6 rfl) ?_
  refine w_seq ?_
  refine w_region ?_
  refine vv (e_assign rfl) ?_
  refine vv (e_assign rfl) ?_
  refine w_nil ?_
  refine k_seq ?_
  refine w_seq ?_
  refine w_seq ?_
  refine w_region ?_
  refine vv (e_move rfl) ?_
  refine vc (e_call rfl rfl F.f20 rfl) (readyn_ok F N M _ (fun M1 s1 => ?_))
  dsimp only
  refine vv (e_assign rfl) ?_
  refine w_nil ?_
  refine k_seq ?_
  refine w_seq ?_
  refine w_region ?_
  refine vv (e_move rfl) ?_
  refine vv rfl ?_
  refine w_nil ?_
  refine k_seq ?_
  refine vt ?_
  refine w_seq ?_
  refine w_region ?_
  refine vv (e_move rfl) ?_
  refine vv (e_assign rfl) ?_
  refine vv (e_assign rfl) ?_
  refine w_nil ?_
  refine k_seq ?_
  refine w_ret ?_
  refine k_ret ?_
  exact ⟨_, res_tmp rfl (res_tmp rfl res_nil), hQ _ s1⟩
theorem wearn_ok (M : AM)  (Q : KC) (hQ : ∀ M', Same M M' → Q (.ret (.tup [.bool false, .int .i64 14])) M') : CallsTo E 7 [.nilp] M Q := by
  refine call_rule F.f7 rfl (N 7 rfl) ?_
  refine w_seq ?_
  refine w_region ?_
  refine vv (e_assign rfl) ?_
  refine vv (e_assign rfl) ?_
  refine w_nil ?_
  refine k_seq ?_
  refine w_seq ?_
  refine w_seq ?_
  refine w_region ?_
  refine vv (e_move rfl) ?_
  refine vc (e_call rfl rfl F.f20 rfl) (readyn_ok F N M _ (fun M1 s1 => ?_))
  dsimp only
  refine vv (e_assign rfl) ?_
  refine w_nil ?_
  refine k_seq ?_
  refine w_seq ?_
  refine w_region ?_
  refine vv (e_move rfl) ?_
  refine vv rfl ?_
  refine w_nil ?_
  refine k_seq ?_
  refine vt ?_
  refine w_seq ?_
  refine w_region ?_
  refine vv (e_move rfl) ?_
  refine vv (e_assign rfl) ?_
  refine vv (e_assign rfl) ?_
  refine w_nil ?_
  refine k_seq ?_
  refine w_ret ?_
  refine k_ret ?_
  exact ⟨_, res_tmp rfl (res_tmp rfl res_nil), hQ _ s1⟩
theorem scann_ok (M : AM)  (Q : KC) (hQ : ∀ M', Same M M' → Q (.ret (.tup [.nils, .int .i64 14])) M') : CallsTo E 161 [.nilp] M Q := by
  refine call_rule F.f161 rfl (N 161 rfl) ?_
  refine w_seq ?_
  refine w_region ?_
  refine vv (e_assign rfl) ?_
  refine vv (e_assign rfl) ?_
  refine w_nil ?_
  refine k_seq ?_
  refine w_seq ?_
  refine w_seq ?_
  refine w_region ?_
  refine vv (e_move rfl) ?_
  refine vv (e_eqlpn rfl rfl F.u39) ?_
  refine w_nil ?_
  refine k_seq ?_
  refine vt ?_
  refine w_seq ?_
  refine w_region ?_
  refine vv (e_assign rfl) ?_
  refine vv (e_assign rfl) ?_
  refine w_nil ?_
  refine k_seq ?_
  refine w_ret ?_
  refine k_ret ?_
  exact ⟨_, res_tmp rfl (res_tmp rfl res_nil), hQ _ (by first | exact Same.refl _ | exact (Same.refl M).new | exact (Same.refl M).new.new)⟩
theorem attachedn_ok (M : AM)  (Q : KC) (hQ : ∀ M', Same M M' → Q (.ret (.tup [.nilp, .int .i64 14])) M') : CallsTo E 90 [.nilp] M Q := by
  refine call_rule F.f90 rfl (N 90 rfl) ?_
  refine w_seq ?_
  refine w_region ?_
  refine vv (e_assign rfl) ?_
  refine vv (e_assign rfl) ?_
  refine w_nil ?_
  refine k_seq ?_
  refine w_seq ?_
  refine w_region ?_
  refine vv (e_move rfl) ?_
  refine vc (e_call rfl rfl F.f161 rfl) (scann_ok F N M _ (fun M1 s1 => ?_))
  dsimp only
  refine vv (e_move rfl) ?_
  refine vv rfl ?_
  refine vv rfl ?_
  refine vv (e_assign rfl) ?_
  refine vv (e_assign rfl) ?_
  refine w_nil ?_
  refine k_seq ?_
  refine w_seq ?_
  refine w_seq ?_
  refine w_region ?_
  refine vv (e_move rfl) ?_
  refine vv rfl ?_
  refine w_nil ?_
  refine k_seq ?_
  refine vt ?_
  refine w_seq ?_
  refine w_region ?_
  refine vv (e_move rfl) ?_
  refine vv (e_assign rfl) ?_
  refine vv (e_assign rfl) ?_
  refine w_nil ?_
  refine k_seq ?_
  refine w_ret ?_
  refine k_ret ?_
  exact ⟨_, res_tmp rfl (res_tmp rfl res_nil), hQ _ s1⟩
theorem eformatn_ok (M : AM)  (Q : KC) (hQ : ∀ M', Same M M' → Q (.ret (.tup [.nilp, .int .i64 14])) M') : CallsTo E 31 [.nilp] M Q := by
  refine call_rule F.f31 rfl (N 31 rfl) ?_
  refine w_seq ?_
  refine w_region ?_
  refine vv (e_assign rfl) ?_
  refine vv (e_assign rfl) ?_
  refine w_nil ?_
  refine k_seq ?_
  refine w_seq ?_
  refine w_region ?_
  refine vv (e_move rfl) ?_
  refine vc (e_call rfl rfl F.f90 rfl) (attachedn_ok F N M _ (fun M1 s1 => ?_))
  dsimp only
  refine vv (e_move rfl) ?_
  refine vv rfl ?_
  refine vv rfl ?_
  refine vv (e_assign rfl) ?_
  refine vv (e_assign rfl) ?_
  refine w_nil ?_
  refine k_seq ?_
  refine w_seq ?_
  refine w_seq ?_
  refine w_region ?_
  refine vv (e_move rfl) ?_
  refine vv rfl ?_
  refine w_nil ?_
  refine k_seq ?_
  refine vt ?_
  refine w_seq ?_
  refine w_region ?_
  refine vv (e_move rfl) ?_
  refine vv (e_assign rfl) ?_
  refine vv (e_assign rfl) ?_
  refine w_nil ?_
  refine k_seq ?_
  refine w_ret ?_
  refine k_ret ?_
  exact ⟨_, res_tmp rfl (res_tmp rfl res_nil), hQ _ s1⟩
theorem eattachn_ok (M : AM)  (Q : KC) (hQ : ∀ M', Same M M' → Q (.ret (.tup [.nilp, .int .i64 14])) M') : CallsTo E 37 [.nilp] M Q := by
  refine call_rule F.f37 rfl (N 37 rfl) ?_
  refine w_seq ?_
  refine w_region ?_
  refine vv (e_assign rfl) ?_
  refine vv (e_assign rfl) ?_
  refine w_nil ?_
  refine k_seq ?_
  refine w_seq ?_
  refine w_region ?_
  refine vv (e_move rfl) ?_
  refine vc (e_call rfl rfl F.f90 rfl) (attachedn_ok F N M _ (fun M1 s1 => ?_))
  dsimp only
  refine vv (e_move rfl) ?_
  refine vv rfl ?_
  refine vv rfl ?_
  refine vv (e_assign rfl) ?_
  refine vv (e_assign rfl) ?_
  refine w_nil ?_
  refine k_seq ?_
  refine w_seq ?_
  refine w_seq ?_
  refine w_region ?_
  refine vv (e_move rfl) ?_
  refine vv rfl ?_
  refine w_nil ?_
  refine k_seq ?_
  refine vt ?_
  refine w_seq ?_
  refine w_region ?_
  refine vv (e_move rfl) ?_
  refine vv (e_assign rfl) ?_
  refine vv (e_assign rfl) ?_
  refine w_nil ?_
  refine k_seq ?_
  refine w_ret ?_
  refine k_ret ?_
  exact ⟨_, res_tmp rfl (res_tmp rfl res_nil), hQ _ s1⟩
theorem sformatn_ok (M : AM)  (Q : KC) (hQ : ∀ M', Same M M' → Q (.ret (.tup [.nilp, .int .i64 14])) M') : CallsTo E 8 [.nilp] M Q := by
  refine call_rule F.f8 rfl (N 8 rfl) ?_
  refine w_seq ?_
  refine w_region ?_
  refine vv (e_assign rfl) ?_
  refine vv (e_assign rfl) ?_
  refine w_nil ?_
  refine k_seq ?_
  refine w_seq ?_
  refine w_region ?_
  refine vv (e_move rfl) ?_
  refine vc (e_call rfl rfl F.f31 rfl) (eformatn_ok F N M _ (fun M1 s1 => ?_))
  dsimp only
  refine vv (e_move rfl) ?_
  refine vv rfl ?_
  refine vv rfl ?_
  refine vv (e_assign rfl) ?_
  refine vv (e_assign rfl) ?_
  refine w_nil ?_
  refine k_seq ?_
  refine w_seq ?_
  refine w_seq ?_
  refine w_region ?_
  refine vv (e_move rfl) ?_
  refine vv rfl ?_
  refine w_nil ?_
  refine k_seq ?_
  refine vt ?_
  refine w_seq ?_
  refine w_region ?_
  refine vv (e_move rfl) ?_
  refine vv (e_assign rfl) ?_
  refine vv (e_assign rfl) ?_
  refine w_nil ?_
  refine k_seq ?_
  refine w_ret ?_
  refine k_ret ?_
  exact ⟨_, res_tmp rfl (res_tmp rfl res_nil), hQ _ s1⟩
theorem smountn_ok (M : AM)  (Q : KC) (hQ : ∀ M', Same M M' → Q (.ret (.tup [.nilp, .int .i64 14])) M') : CallsTo E 9 [.nilp] M Q := by
  refine call_rule F.f9 rfl (N 9 rfl) ?_
  refine w_seq ?_
  refine w_region ?_
  refine vv (e_assign rfl) ?_
  refine vv (e_assign rfl) ?_
  refine w_nil ?_
  refine k_seq ?_
  refine w_seq ?_
  refine w_region ?_
  refine vv (e_move rfl) ?_
  refine vc (e_call rfl rfl F.f37 rfl) (eattachn_ok F N M _ (fun M1 s1 => ?_))
  dsimp only
  refine vv (e_move rfl) ?_
  refine vv rfl ?_
  refine vv rfl ?_
  refine vv (e_assign rfl) ?_
  refine vv (e_assign rfl) ?_
  refine w_nil ?_
  refine k_seq ?_
  refine w_seq ?_
  refine w_seq ?_
  refine w_region ?_
  refine vv (e_move rfl) ?_
  refine vv rfl ?_
  refine w_nil ?_
  refine k_seq ?_
  refine vt ?_
  refine w_seq ?_
  refine w_region ?_
  refine vv (e_move rfl) ?_
  refine vv (e_assign rfl) ?_
  refine vv (e_assign rfl) ?_
  refine w_nil ?_
  refine k_seq ?_
  refine w_ret ?_
  refine k_ret ?_
  exact ⟨_, res_tmp rfl (res_tmp rfl res_nil), hQ _ s1⟩
theorem putn_ok (M : AM) (v : AV) (Q : KC) (hQ : ∀ M', Same M M' → Q (.ret (.int .i64 14)) M') : CallsTo E 10 [.nilp, v] M Q := by
  refine call_rule F.f10 rfl (N 10 rfl) ?_
  refine w_seq ?_
  refine w_region ?_
  refine vv (e_assign rfl) ?_
  refine w_nil ?_
  refine k_seq ?_
  refine w_seq ?_
  refine w_seq ?_
  refine w_region ?_
  refine vv (e_move rfl) ?_
  refine vv (e_eqlpn rfl rfl F.u25) ?_
  refine w_nil ?_
  refine k_seq ?_
  refine vt ?_
  refine w_seq ?_
  refine w_region ?_
  refine vv (e_assign rfl) ?_
  refine w_nil ?_
  refine k_seq ?_
  refine w_ret ?_
  refine k_ret ?_
  exact ⟨_, res_tmp rfl res_nil, hQ _ (by first | exact Same.refl _ | exact (Same.refl M).new | exact (Same.refl M).new.new)⟩
theorem syncn_ok (M : AM)  (Q : KC) (hQ : ∀ M', Same M M' → Q (.ret (.int .i64 14)) M') : CallsTo E 11 [.nilp] M Q := by
  refine call_rule F.f11 rfl (N 11 rfl) ?_
  refine w_seq ?_
  refine w_region ?_
  refine vv (e_assign rfl) ?_
  refine w_nil ?_
  refine k_seq ?_
  refine w_seq ?_
  refine w_seq ?_
  refine w_region ?_
  refine vv (e_move rfl) ?_
  refine vc (e_call rfl rfl F.f20 rfl) (readyn_ok F N M _ (fun M1 s1 => ?_))
  dsimp only
  refine vv (e_assign rfl) ?_
  refine w_nil ?_
  refine k_seq ?_
  refine w_seq ?_
  refine w_region ?_
  refine vv (e_move rfl) ?_
  refine vv rfl ?_
  refine w_nil ?_
  refine k_seq ?_
  refine vt ?_
  refine w_seq ?_
  refine w_region ?_
  refine vv (e_move rfl) ?_
  refine vv (e_assign rfl) ?_
  refine w_nil ?_
  refine k_seq ?_
  refine w_ret ?_
  refine k_ret ?_
  exact ⟨_, res_tmp rfl res_nil, hQ _ s1⟩
theorem commitn_ok (M : AM)  (Q : KC) (hQ : ∀ M', Same M M' → Q (.ret (.int .i64 14)) M') : CallsTo E 12 [.nilp] M Q := by
  refine call_rule F.f12 rfl (N 12 rfl) ?_
  refine w_seq ?_
  refine w_region ?_
  refine vv (e_assign rfl) ?_
  refine w_nil ?_
  refine k_seq ?_
  refine w_seq ?_
  refine w_seq ?_
  refine w_region ?_
  refine vv (e_move rfl) ?_
  refine vc (e_call rfl rfl F.f20 rfl) (readyn_ok F N M _ (fun M1 s1 => ?_))
  dsimp only
  refine vv (e_assign rfl) ?_
  refine w_nil ?_
  refine k_seq ?_
  refine w_seq ?_
  refine w_region ?_
  refine vv (e_move rfl) ?_
  refine vv rfl ?_
  refine w_nil ?_
  refine k_seq ?_
  refine vt ?_
  refine w_seq ?_
  refine w_region ?_
  refine vv (e_move rfl) ?_
  refine vv (e_assign rfl) ?_
  refine w_nil ?_
  refine k_seq ?_
  refine w_ret ?_
  refine k_ret ?_
  exact ⟨_, res_tmp rfl res_nil, hQ _ s1⟩
theorem costn_ok (M : AM)  (Q : KC) (hQ : ∀ M', Same M M' → Q (.ret (.int .i64 0)) M') : CallsTo E 13 [.nilp] M Q := by
  refine call_rule F.f13 rfl (N 13 rfl) ?_
  refine w_seq ?_
  refine w_region ?_
  refine vv (e_assign rfl) ?_
  refine w_nil ?_
  refine k_seq ?_
  refine w_seq ?_
  refine w_seq ?_
  refine w_region ?_
  refine vv (e_move rfl) ?_
  refine vv (e_eqlpn rfl rfl F.u25) ?_
  refine w_nil ?_
  refine k_seq ?_
  refine vt ?_
  refine w_seq ?_
  refine w_region ?_
  refine vv (e_assign rfl) ?_
  refine w_nil ?_
  refine k_seq ?_
  refine w_ret ?_
  refine k_ret ?_
  exact ⟨_, res_tmp rfl res_nil, hQ _ (by first | exact Same.refl _ | exact (Same.refl M).new | exact (Same.refl M).new.new)⟩
theorem limitn_ok (M : AM)  (Q : KC) (hQ : ∀ M', Same M M' → Q (.ret (.int .i64 0)) M') : CallsTo E 14 [.nilp] M Q := by
  refine call_rule F.f14 rfl (N 14 rfl) ?_
  refine w_seq ?_
  refine w_region ?_
  refine vv (e_assign rfl) ?_
  refine w_nil ?_
  refine k_seq ?_
  refine w_seq ?_
  refine w_seq ?_
  refine w_region ?_
  refine vv (e_move rfl) ?_
  refine vv (e_eqlpn rfl rfl F.u25) ?_
  refine w_nil ?_
  refine k_seq ?_
  refine vt ?_
  refine w_seq ?_
  refine w_region ?_
  refine vv (e_assign rfl) ?_
  refine w_nil ?_
  refine k_seq ?_
  refine w_ret ?_
  refine k_ret ?_
  exact ⟨_, res_tmp rfl res_nil, hQ _ (by first | exact Same.refl _ | exact (Same.refl M).new | exact (Same.refl M).new.new)⟩
theorem spentn_ok (M : AM)  (Q : KC) (hQ : ∀ M', Same M M' → Q (.ret (.bool false)) M') : CallsTo E 15 [.nilp] M Q := by
  refine call_rule F.f15 rfl (N 15 rfl) ?_
  refine w_seq ?_
  refine w_region ?_
  refine vv (e_assign rfl) ?_
  refine w_nil ?_
  refine k_seq ?_
  refine w_seq ?_
  refine w_region ?_
  refine vv (e_move rfl) ?_
  refine vv (e_neqpn rfl rfl F.u25) ?_
  refine vv (e_move rfl) ?_
  refine vn ?_
  refine vn ?_
  refine vn ?_
  refine vn ?_
  refine vn ?_
  refine vv rfl ?_
  refine vv (e_assign rfl) ?_
  refine w_nil ?_
  refine k_seq ?_
  refine w_ret ?_
  exact ⟨_, res_tmp rfl res_nil, hQ _ (by first | exact Same.refl _ | exact (Same.refl M).new | exact (Same.refl M).new.new)⟩
theorem chipn_ok (M : AM)  (Q : KC) (hQ : ∀ M', Same M M' → Q (.ret (.nilp)) M') : CallsTo E 16 [.nilp] M Q := by
  refine call_rule F.f16 rfl (N 16 rfl) ?_
  refine w_seq ?_
  refine w_region ?_
  refine vv (e_assign rfl) ?_
  refine w_nil ?_
  refine k_seq ?_
  refine w_seq ?_
  refine w_seq ?_
  refine w_region ?_
  refine vv (e_move rfl) ?_
  refine vv (e_eqlpn rfl rfl F.u25) ?_
  refine w_nil ?_
  refine k_seq ?_
  refine vt ?_
  refine w_seq ?_
  refine w_region ?_
  refine vv (e_assign rfl) ?_
  refine w_nil ?_
  refine k_seq ?_
  refine w_ret ?_
  refine k_ret ?_
  exact ⟨_, res_tmp rfl res_nil, hQ _ (by first | exact Same.refl _ | exact (Same.refl M).new | exact (Same.refl M).new.new)⟩
end
end Go.Abm.Seat

open Go Go.Abm
set_option maxRecDepth 100000
set_option maxHeartbeats 4000000
namespace Go.Abm.Seat
theorem right_nat {a b c d : Int} (h : rightB a b c d = true) : ∃ bl pg sz rs : Nat, a = .ofNat bl ∧ b = .ofNat pg ∧ c = .ofNat sz ∧ d = .ofNat rs ∧ Geo bl pg sz rs := by
  unfold rightB at h
  simp only [Bool.and_eq_true, Bool.not_eq_true', iltF_eq, decide_eq_false_iff_not, Int.not_lt] at h
  obtain ⟨h1, h2, h3, h4, h5, h6, h7, h8, h9, h10, h11⟩ := h
  obtain ⟨bl, rfl⟩ := Int.eq_ofNat_of_zero_le (by omega : 0 ≤ a)
  obtain ⟨pg, rfl⟩ := Int.eq_ofNat_of_zero_le (by omega : 0 ≤ b)
  obtain ⟨sz, rfl⟩ := Int.eq_ofNat_of_zero_le (by omega : 0 ≤ c)
  obtain ⟨rs, rfl⟩ := Int.eq_ofNat_of_zero_le (by omega : 0 ≤ d)
  refine ⟨bl, pg, sz, rs, rfl, rfl, rfl, rfl, by omega, by omega, by omega, by omega, by omega, by omega, ?_⟩
  have e : wrapFast .i64 (quoF (bl : Int) 4) = .ofNat (bl / 4) := wrap64 (n := bl / 4) (by omega)
  rw [e] at h11
  have : (rs : Int) ≤ ((bl / 4 : Nat) : Int) := h11
  omega
theorem e_eqlb {E : Env} {ρ : Reg} {M : AM} {t p : TypeId} {x y : Operand} {a b : Bool} (hx : rhoR E ρ x = some (.bool a)) (hy : rhoR E ρ y = some (.bool b)) (hu : E.under t = some .bool) : evalOp E (rhoR E ρ) (.binOp .eql t x y p) M = some (.val (.bool (a == b)) M) := by
  simp only [evalOp, hx, hy, abinOp, eqRes, aeq, hu, Option.map_some]
section
variable {E : Env} (F : Facts E) (N : NS E) (X : FX E) (R : RS E)
include F N X R
theorem law_ok {M : AM} {e : Nat} {ro fz0 : Bool} {oe : AObj} (hA : ∀ M (Q : KC), M.get 1 = some (.cells [.ifc tS (.ptr e 0)] ro fz0) → M.get e = some oe → 11 < M.nx → (∀ M', Same M M' → Q (.ret (.bool true)) M') → CallsTo E 17 [] M Q) (hG : M.get 1 = some (.cells [.ifc tS (.ptr e 0)] ro fz0)) (hGe : M.get e = some oe) (hle : e < M.nx) (hl11 : 11 < M.nx) (hl1 : 1 < M.nx) (a b c d n : Int) (k : List Nat) (v : AV) (Q : KC) (hQ : ∀ M', Q (.ret (.bool true)) M') :
    CallsTo E 3 [.agg [.int .i64 a, .int .i64 b, .int .i64 c, .int .i64 d], .str k, .int .i64 n, v] M Q := by
  refine call_rule F.f3 rfl (N 3 rfl) ?_
  refine w_seq ?_
  refine w_region ?_
  refine vv rfl ?_
  refine vv (e_assign rfl) ?_
  refine w_nil ?_
  refine k_seq ?_
  refine w_seq ?_
  refine w_region ?_
  refine vv (e_assign rfl) ?_
  refine w_nil ?_
  refine k_seq ?_
  refine w_seq ?_
  refine w_region ?_
  refine vv (e_move rfl) ?_
  refine vv (e_move rfl) ?_
  have S0 : Same M (M.new (.cells [.int .i64 a, .int .i64 b, .int .i64 c, .int .i64 d] false false)) := (Same.refl M).new
  have hb0 : (M.new (.cells [.int .i64 a, .int .i64 b, .int .i64 c, .int .i64 d] false false)).get M.nx = some (.cells [.int .i64 a, .int .i64 b, .int .i64 c, .int .i64 d] false false) := g0
  have l0 : M.nx < (M.new (.cells [.int .i64 a, .int .i64 b, .int .i64 c, .int .i64 d] false false)).nx := Nat.lt_succ_self _
  refine vc (e_call rfl rfl F.f4 rfl) (getn_ok F N _ k _ (fun M1 s1 => ?_))
  dsimp only
  have S1 := S0.trans s1
  have hb1 := (s1.2 _ l0).trans hb0
  have l1 := Nat.lt_of_lt_of_le l0 s1.1
  refine vv (e_move rfl) ?_
  refine vv rfl ?_
  refine vv rfl ?_
  refine vv rfl ?_
  refine vv (e_assign rfl) ?_
  refine vv (e_assign rfl) ?_
  refine vv (e_assign rfl) ?_
  refine w_nil ?_
  refine k_seq ?_
  refine w_seq ?_
  refine w_region ?_
  refine vv (e_move rfl) ?_
  refine vv (e_move rfl) ?_
  refine vc (e_call rfl rfl F.f5 rfl) (rangen_ok F N _ n _ (fun M2 s2 => ?_))
  dsimp only
  have S2 := S1.trans s2
  have hb2 := (s2.2 _ l1).trans hb1
  have l2 := Nat.lt_of_lt_of_le l1 s2.1
  refine vv (e_move rfl) ?_
  refine vv rfl ?_
  refine vv rfl ?_
  refine vv (e_assign rfl) ?_
  refine vv (e_assign rfl) ?_
  refine w_nil ?_
  refine k_seq ?_
  refine w_seq ?_
  refine w_region ?_
  refine vv (e_move rfl) ?_
  refine vc (e_call rfl rfl F.f6 rfl) (collectn_ok F N _ _ (fun M3 s3 => ?_))
  dsimp only
  have S3 := S2.trans s3
  have hb3 := (s3.2 _ l2).trans hb2
  have l3 := Nat.lt_of_lt_of_le l2 s3.1
  refine vv (e_move rfl) ?_
  refine vv rfl ?_
  refine vv rfl ?_
  refine vv (e_assign rfl) ?_
  refine vv (e_assign rfl) ?_
  refine w_nil ?_
  refine k_seq ?_
  refine w_seq ?_
  refine w_region ?_
  refine vv (e_move rfl) ?_
  refine vc (e_call rfl rfl F.f7 rfl) (wearn_ok F N _ _ (fun M4 s4 => ?_))
  dsimp only
  have S4 := S3.trans s4
  have hb4 := (s4.2 _ l3).trans hb3
  have l4 := Nat.lt_of_lt_of_le l3 s4.1
  refine vv (e_move rfl) ?_
  refine vv rfl ?_
  refine vv rfl ?_
  refine vv (e_assign rfl) ?_
  refine vv (e_assign rfl) ?_
  refine w_nil ?_
  refine k_seq ?_
  refine w_seq ?_
  refine w_region ?_
  refine vc (e_call rfl rfl F.f8 rfl) (sformatn_ok F N _ _ (fun M5 s5 => ?_))
  dsimp only
  have S5 := S4.trans s5
  have hb5 := (s5.2 _ l4).trans hb4
  have l5 := Nat.lt_of_lt_of_le l4 s5.1
  refine vv (e_move rfl) ?_
  refine vv rfl ?_
  refine vv rfl ?_
  refine vv (e_assign rfl) ?_
  refine vv (e_assign rfl) ?_
  refine w_nil ?_
  refine k_seq ?_
  refine w_seq ?_
  refine w_region ?_
  refine vc (e_call rfl rfl F.f9 rfl) (smountn_ok F N _ _ (fun M6 s6 => ?_))
  dsimp only
  have S6 := S5.trans s6
  have hb6 := (s6.2 _ l5).trans hb5
  have l6 := Nat.lt_of_lt_of_le l5 s6.1
  refine vv (e_move rfl) ?_
  refine vv rfl ?_
  refine vv rfl ?_
  refine vv (e_assign rfl) ?_
  refine vv (e_assign rfl) ?_
  refine w_nil ?_
  refine k_seq ?_
  refine w_seq ?_
  refine w_seq ?_
  refine w_region ?_
  refine vv (e_move rfl) ?_
  refine vv rfl ?_
  refine vv (e_move rfl) ?_
  refine vg (e_move rfl) ?_
  refine vg rfl ?_
  refine vv rfl ?_
  refine vv (e_move rfl) ?_
  refine vg (e_move rfl) ?_
  refine vg rfl ?_
  refine vv rfl ?_
  refine vv (e_move rfl) ?_
  refine vg (e_move rfl) ?_
  refine vg rfl ?_
  refine vv rfl ?_
  refine vv (e_move rfl) ?_
  refine vg (e_move rfl) ?_
  refine vg rfl ?_
  refine vv rfl ?_
  refine vv (e_move rfl) ?_
  refine vg (e_move rfl) ?_
  refine vg rfl ?_
  refine vv rfl ?_
  refine vv (e_move rfl) ?_
  refine vg (e_move rfl) ?_
  refine vg (e_move rfl) ?_
  refine vc (e_call rfl rfl F.f10 rfl) (putn_ok F N _ v _ (fun M7 s7 => ?_))
  dsimp only
  have S7 := S6.trans s7
  have hb7 := (s7.2 _ l6).trans hb6
  have l7 := Nat.lt_of_lt_of_le l6 s7.1
  refine vg rfl ?_
  refine vv rfl ?_
  refine vv (e_move rfl) ?_
  refine vg (e_move rfl) ?_
  refine vc (e_call rfl rfl F.f11 rfl) (syncn_ok F N _ _ (fun M8 s8 => ?_))
  dsimp only
  have S8 := S7.trans s8
  have hb8 := (s8.2 _ l7).trans hb7
  have l8 := Nat.lt_of_lt_of_le l7 s8.1
  refine vg rfl ?_
  refine vv rfl ?_
  refine vv (e_move rfl) ?_
  refine vg (e_move rfl) ?_
  refine vc (e_call rfl rfl F.f12 rfl) (commitn_ok F N _ _ (fun M9 s9 => ?_))
  dsimp only
  have S9 := S8.trans s9
  have hb9 := (s9.2 _ l8).trans hb8
  have l9 := Nat.lt_of_lt_of_le l8 s9.1
  refine vg rfl ?_
  refine vv rfl ?_
  refine vv (e_move rfl) ?_
  refine vg (e_move rfl) ?_
  refine vc (e_call rfl rfl F.f13 rfl) (costn_ok F N _ _ (fun M10 s10 => ?_))
  dsimp only
  have S10 := S9.trans s10
  have hb10 := (s10.2 _ l9).trans hb9
  have l10 := Nat.lt_of_lt_of_le l9 s10.1
  refine vg (e_move rfl) ?_
  refine vc (e_call rfl rfl F.f14 rfl) (limitn_ok F N _ _ (fun M11 s11 => ?_))
  dsimp only
  have S11 := S10.trans s11
  have hb11 := (s11.2 _ l10).trans hb10
  have l11 := Nat.lt_of_lt_of_le l10 s11.1
  refine vg rfl ?_
  refine vg rfl ?_
  refine vv rfl ?_
  refine vv (e_move rfl) ?_
  refine vg (e_move rfl) ?_
  refine vc (e_call rfl rfl F.f15 rfl) (spentn_ok F N _ _ (fun M12 s12 => ?_))
  dsimp only
  have S12 := S11.trans s12
  have hb12 := (s12.2 _ l11).trans hb11
  have l12 := Nat.lt_of_lt_of_le l11 s12.1
  refine vv rfl ?_
  refine vv (e_move rfl) ?_
  refine vg (e_move rfl) ?_
  refine vc (e_call rfl rfl F.f16 rfl) (chipn_ok F N _ _ (fun M13 s13 => ?_))
  dsimp only
  have S13 := S12.trans s13
  have hb13 := (s13.2 _ l12).trans hb12
  have l13 := Nat.lt_of_lt_of_le l12 s13.1
  refine vg (e_neqpn rfl rfl F.u39) ?_
  refine vv rfl ?_
  refine vv (e_move rfl) ?_
  refine vc (e_call rfl rfl F.f17 rfl) (hA _ _ ((S13.2 1 hl1).trans hG) ((S13.2 e hle).trans hGe) (Nat.lt_of_lt_of_le hl11 S13.1) (fun M14 s14 => ?_))
  dsimp only
  have S14 := S13.trans s14
  have hb14 := (s14.2 _ l13).trans hb13
  have l14 := Nat.lt_of_lt_of_le l13 s14.1
  refine vg rfl ?_
  refine vv rfl ?_
  refine w_nil ?_
  refine k_seq ?_
  refine vf ?_
  refine w_skip ?_
  refine k_seq ?_
  refine w_seq ?_
  refine w_region ?_
  refine vv (e_loada rfl F.ag23 F.sz23 zS zN) ?_
  cases hr : rightB a b c d with
  | false =>
    refine vc (e_call rfl rfl F.f18 rfl) (newbad_ok F (N 124 rfl) (N 52 rfl) (N 18 rfl) _ a b c d hr _ (fun M15 s15 => ?_))
    dsimp only
    refine vv (e_move rfl) ?_
    refine vv rfl ?_
    refine vv rfl ?_
    refine vv (e_assign rfl) ?_
    refine vv (e_assign rfl) ?_
    refine w_nil ?_
    refine k_seq ?_
    refine w_seq ?_
    refine w_seq ?_
    refine w_region ?_
    refine vv (e_move rfl) ?_
    refine vv rfl ?_
    refine vv (e_move rfl) ?_
    refine vn ?_
    refine vn ?_
    refine vv rfl ?_
    refine w_nil ?_
    refine k_seq ?_
    refine vt ?_
    refine w_seq ?_
    refine w_region ?_
    refine vv (e_assign rfl) ?_
    refine w_nil ?_
    refine k_seq ?_
    refine w_ret ?_
    refine k_ret ?_
    exact ⟨_, res_tmp rfl res_nil, hQ _⟩
  | true =>
    obtain ⟨bl, pg, sz, rs, rfl, rfl, rfl, rfl, hg⟩ := right_nat hr
    refine vc (e_call rfl rfl F.f18 rfl) (new_ok F (N 124 rfl) (N 52 rfl) (N 53 rfl) (N 54 rfl) (N 18 rfl) _ bl pg sz rs hg hr _ (fun M15 c B p0 s15 lc lB lp hch => ?_))
    dsimp only
    have S15 := S14.trans s15
    have hb15 := (s15.2 _ l14).trans hb14
    have l15 := Nat.lt_of_lt_of_le l14 s15.1
    have y14 := S14.1
    have oN : ∀ x, x < M14.nx → ¬Own c B p0 bl x := by
      rintro x hx (h | h | ⟨h1, h2⟩) <;> omega
    refine vv (e_move rfl) ?_
    refine vv rfl ?_
    refine vv rfl ?_
    refine vv (e_assign rfl) ?_
    refine vv (e_assign rfl) ?_
    refine w_nil ?_
    refine k_seq ?_
    refine w_seq ?_
    refine w_seq ?_
    refine w_region ?_
    refine vv (e_move rfl) ?_
    refine vv rfl ?_
    refine vv (e_move rfl) ?_
    refine vg (e_move rfl) ?_
    refine vg (e_eqlp rfl rfl F.u39) ?_
    refine vv rfl ?_
    refine w_nil ?_
    refine k_seq ?_
    refine vf ?_
    refine w_skip ?_
    refine k_seq ?_
    refine w_seq ?_
    refine w_seq ?_
    refine w_region ?_
    refine vv (e_move rfl) ?_
    refine vc (e_call rfl rfl F.f9 rfl) (mount_ok F N R.hS R.hF hch hg hr (fun _ _ => rfl) _ (fun M16 x16 k16 => ?_))
    dsimp only
    have y15 := s15.1
    have hb16 := (k16 _ l15 (oN _ l14)).trans hb15
    have l16 := Nat.lt_of_lt_of_le l15 x16
    have hG16 := (k16 1 (by have := S15.1; omega) (oN 1 (by omega))).trans ((S15.2 1 hl1).trans hG)
    refine vv (e_move rfl) ?_
    refine vv rfl ?_
    refine vv rfl ?_
    refine vv (e_assign rfl) ?_
    refine w_nil ?_
    refine k_seq ?_
    refine w_seq ?_
    refine w_region ?_
    refine vv (e_move rfl) ?_
    refine vv rfl ?_
    refine w_nil ?_
    refine k_seq ?_
    refine vf ?_
    refine w_skip ?_
    refine k_seq ?_
    refine w_seq ?_
    refine w_region ?_
    refine vv (e_loada rfl F.ag23 F.sz23 zS zN) ?_
    refine vc (e_call rfl rfl F.f19 rfl) (fresh_ok F N X R hG16 (by have := S15.1; omega) hg hr _ (fun M17 c' B' p0' m L Z f z q nx' pcs' s t r lg a' b' d' ix jn s17 m17 hs ht hr ls lt lr => ?_))
    dsimp only
    have hb17 := (s17.2 _ l16).trans hb16
    refine vv (e_assign rfl) ?_
    refine w_nil ?_
    refine k_seq ?_
    refine w_seq ?_
    refine w_seq ?_
    refine w_region ?_
    refine vv (e_move rfl) ?_
    refine vv (e_eqlp rfl rfl F.u25) ?_
    refine w_nil ?_
    refine k_seq ?_
    refine vf ?_
    refine w_skip ?_
    refine k_seq ?_
    refine w_seq ?_
    refine w_region ?_
    refine vv (e_move rfl) ?_
    refine vv (e_move rfl) ?_
    refine vc (e_call rfl rfl F.f4 rfl) (sget_ok F N m17 hs ht hr lr k _ (fun M18 e18 s18 h18 => ?_))
    dsimp only
    have hs18 := (s18.2 _ ls).trans hs
    have ht18 := (s18.2 _ lt).trans ht
    have hr18 := (s18.2 _ lr).trans hr
    refine vv (e_move rfl) ?_
    refine vv rfl ?_
    refine vv rfl ?_
    refine vv rfl ?_
    refine vv (e_assign rfl) ?_
    refine vv (e_assign rfl) ?_
    refine vv (e_assign rfl) ?_
    refine w_nil ?_
    refine k_seq ?_
    refine w_seq ?_
    refine w_region ?_
    refine vv (e_move rfl) ?_
    refine vv (e_move rfl) ?_
    refine vc (e_call rfl rfl F.f5 rfl) (srange_ok F N (m17.same s18) hs18 ht18 hr18 (Nat.lt_of_lt_of_le lt s18.1) (Nat.lt_of_lt_of_le lr s18.1) n _ (fun M19 e19 s19 h19 => ?_))
    dsimp only
    have hs19 := (s19.2 _ (Nat.lt_of_lt_of_le ls s18.1)).trans hs18
    refine vv (e_move rfl) ?_
    refine vv rfl ?_
    refine vv rfl ?_
    refine vv (e_assign rfl) ?_
    refine vv (e_assign rfl) ?_
    refine w_nil ?_
    refine k_seq ?_
    refine w_seq ?_
    refine w_region ?_
    refine vv (e_move rfl) ?_
    refine vv rfl ?_
    refine vv (e_move rfl) ?_
    refine vg (e_move rfl) ?_
    refine vg rfl ?_
    refine vg (e_move rfl) ?_
    refine vg (e_len_str rfl rfl rfl rfl F.u9) ?_
    refine vg rfl ?_
    refine vg (e_move rfl) ?_
    have hk0 : k.length = 0 ∨ (0 < k.length ∧ k.length ≤ 64) ∨ 64 < k.length := by omega
    rcases hk0 with h0 | ⟨h0, h1⟩ | h1
    · have he : e18 = 22 := h18.2 (.inl h0)
      subst he
      rw [show ieqF (.ofNat k.length) 0 = true from by rw [h0]; rfl]
      refine vn ?_
      refine vn ?_
      refine vn ?_
      refine vg rfl ?_
      refine vg (e_eqlb rfl rfl F.u4) ?_
      refine vv rfl ?_
      refine vv (e_move rfl) ?_
      refine vg (e_move rfl) ?_
      refine vg rfl ?_
      refine vg (e_move rfl) ?_
      refine vg rfl ?_
      refine vg (e_eqlb rfl rfl F.u4) ?_
      rw [h19, show (iltF n 0 == iltF n 0) = true from by cases iltF n 0 <;> rfl]
      cases iltF n 0 with
      | true =>
        refine vv rfl ?_
        refine vv (e_move rfl) ?_
        refine vg (e_move rfl) ?_
        refine vg (e_len_nils rfl rfl rfl rfl F.u24) ?_
        refine vg rfl ?_
        refine vv rfl ?_
        refine vv (e_move rfl) ?_
        refine vg (e_move rfl) ?_
        refine vc (e_call rfl rfl F.f13 rfl) (cost0_ok F N hs19 _ ?_)
        dsimp only
        refine vg rfl ?_
        refine vv rfl ?_
        refine vv (e_assign rfl) ?_
        refine w_nil ?_
        refine k_seq ?_
        refine w_ret ?_
        exact ⟨_, res_tmp rfl res_nil, hQ _⟩
      | false =>
        refine vv rfl ?_
        refine vv (e_move rfl) ?_
        refine vg (e_move rfl) ?_
        refine vg (e_len_nils rfl rfl rfl rfl F.u24) ?_
        refine vg rfl ?_
        refine vv rfl ?_
        refine vv (e_move rfl) ?_
        refine vg (e_move rfl) ?_
        refine vc (e_call rfl rfl F.f13 rfl) (cost0_ok F N hs19 _ ?_)
        dsimp only
        refine vg rfl ?_
        refine vv rfl ?_
        refine vv (e_assign rfl) ?_
        refine w_nil ?_
        refine k_seq ?_
        refine w_ret ?_
        exact ⟨_, res_tmp rfl res_nil, hQ _⟩
    · have he : ieqF e18 22 = false := ieq_ne fun h => by have := h18.1 h; omega
      rw [show ieqF (.ofNat k.length) 0 = false from ieq_ne (by intro e; have e : (k.length : Int) = 0 := e; omega), he]
      refine vg (e_move rfl) ?_
      refine vg (e_len_str rfl rfl rfl rfl F.u9) ?_
      refine vg rfl ?_
      refine vg rfl ?_
      rw [show iltF 64 (.ofNat k.length) = false from ilt_f (a := 64) h1]
      skip
      refine vg (e_eqlb rfl rfl F.u4) ?_
      refine vv rfl ?_
      refine vv (e_move rfl) ?_
      refine vg (e_move rfl) ?_
      refine vg rfl ?_
      refine vg (e_move rfl) ?_
      refine vg rfl ?_
      refine vg (e_eqlb rfl rfl F.u4) ?_
      rw [h19, show (iltF n 0 == iltF n 0) = true from by cases iltF n 0 <;> rfl]
      cases iltF n 0 with
      | true =>
        refine vv rfl ?_
        refine vv (e_move rfl) ?_
        refine vg (e_move rfl) ?_
        refine vg (e_len_nils rfl rfl rfl rfl F.u24) ?_
        refine vg rfl ?_
        refine vv rfl ?_
        refine vv (e_move rfl) ?_
        refine vg (e_move rfl) ?_
        refine vc (e_call rfl rfl F.f13 rfl) (cost0_ok F N hs19 _ ?_)
        dsimp only
        refine vg rfl ?_
        refine vv rfl ?_
        refine vv (e_assign rfl) ?_
        refine w_nil ?_
        refine k_seq ?_
        refine w_ret ?_
        exact ⟨_, res_tmp rfl res_nil, hQ _⟩
      | false =>
        refine vv rfl ?_
        refine vv (e_move rfl) ?_
        refine vg (e_move rfl) ?_
        refine vg (e_len_nils rfl rfl rfl rfl F.u24) ?_
        refine vg rfl ?_
        refine vv rfl ?_
        refine vv (e_move rfl) ?_
        refine vg (e_move rfl) ?_
        refine vc (e_call rfl rfl F.f13 rfl) (cost0_ok F N hs19 _ ?_)
        dsimp only
        refine vg rfl ?_
        refine vv rfl ?_
        refine vv (e_assign rfl) ?_
        refine w_nil ?_
        refine k_seq ?_
        refine w_ret ?_
        exact ⟨_, res_tmp rfl res_nil, hQ _⟩
    · have he : e18 = 22 := h18.2 (.inr h1)
      subst he
      rw [show ieqF (.ofNat k.length) 0 = false from ieq_ne (by intro e; have e : (k.length : Int) = 0 := e; omega)]
      refine vg (e_move rfl) ?_
      refine vg (e_len_str rfl rfl rfl rfl F.u9) ?_
      refine vg rfl ?_
      refine vg rfl ?_
      rw [show iltF 64 (.ofNat k.length) = true from ilt_t (a := 64) h1]
      skip
      refine vg (e_eqlb rfl rfl F.u4) ?_
      refine vv rfl ?_
      refine vv (e_move rfl) ?_
      refine vg (e_move rfl) ?_
      refine vg rfl ?_
      refine vg (e_move rfl) ?_
      refine vg rfl ?_
      refine vg (e_eqlb rfl rfl F.u4) ?_
      rw [h19, show (iltF n 0 == iltF n 0) = true from by cases iltF n 0 <;> rfl]
      cases iltF n 0 with
      | true =>
        refine vv rfl ?_
        refine vv (e_move rfl) ?_
        refine vg (e_move rfl) ?_
        refine vg (e_len_nils rfl rfl rfl rfl F.u24) ?_
        refine vg rfl ?_
        refine vv rfl ?_
        refine vv (e_move rfl) ?_
        refine vg (e_move rfl) ?_
        refine vc (e_call rfl rfl F.f13 rfl) (cost0_ok F N hs19 _ ?_)
        dsimp only
        refine vg rfl ?_
        refine vv rfl ?_
        refine vv (e_assign rfl) ?_
        refine w_nil ?_
        refine k_seq ?_
        refine w_ret ?_
        exact ⟨_, res_tmp rfl res_nil, hQ _⟩
      | false =>
        refine vv rfl ?_
        refine vv (e_move rfl) ?_
        refine vg (e_move rfl) ?_
        refine vg (e_len_nils rfl rfl rfl rfl F.u24) ?_
        refine vg rfl ?_
        refine vv rfl ?_
        refine vv (e_move rfl) ?_
        refine vg (e_move rfl) ?_
        refine vc (e_call rfl rfl F.f13 rfl) (cost0_ok F N hs19 _ ?_)
        dsimp only
        refine vg rfl ?_
        refine vv rfl ?_
        refine vv (e_assign rfl) ?_
        refine w_nil ?_
        refine k_seq ?_
        refine w_ret ?_
        exact ⟨_, res_tmp rfl res_nil, hQ _⟩
end
end Go.Abm.Seat
