/-
  A part of the proof that pumicelaw17.StoreOpens returns true for every geometry, key, number and group (a machine over names of blocks, its soundness, the calls of the store for any geometry, the chapter's example as a run). Condition: the listed package variables hold what the program's text lays; the card ties that.
-/
import Derived.Test.YtcfpoldckjmbdaaGreatDoorX26
set_option linter.unusedVariables false
set_option linter.unusedSimpArgs false
set_option linter.unusedSectionVars false
open Go Go.Abm
set_option maxRecDepth 100000
set_option maxHeartbeats 4000000
namespace Go.Abm.Seat
section
variable {E : Env} (F : Facts E) (N : NS E) (R : RS E)
include F N R
theorem readP_c {M : AM} {c B p0 bl pg sz rs : Nat} {nx : Nat → Nat} {pcs : Nat → List AV} (h : Chip M c B p0 bl pg sz rs nx pcs) (hg : Geo bl pg sz rs) {n p X : Nat} {bs : List Nat} {g : Option Nat} (hn : n < bl) (hp : p < pg) (he : ((pcs n).drop (0 + p * 2)).take 2 = [.int .i64 (.ofNat 1), .sl X 0 bs.length bs.length g])
    (hX : M.get X = some (.cells (byteL bs) false false)) (lX : X < M.nx) (hbs : Byt bs) (hbl : bs.length ≤ sz) (Q : KC)
    (hQ : ∀ M', Same M M' → Bts M' (.sl M.nx 0 sz sz none) (bs ++ List.replicate (sz - bs.length) 255) → Q (.ret (.tup [.sl M.nx 0 sz sz none, .int .i64 0])) M') : CallsTo E 91 [.ptr c 0, .int .i64 (.ofNat n), .int .i64 (.ofNat p)] M Q := by
  have ed : ((byteL bs).drop 0).take bs.length = byteL bs := by rw [List.drop_zero, ← byteL_len, List.take_length]
  refine call_sum F.f91 rfl R.hR (readP h hg hn hp he hX lX hbl (Nat.le_refl _) (by rw [byteL_len]; omega) (by rw [ed]; exact byteL_one bs)) ?_
  have ee : ((byteL bs).drop 0).take bs.length ++ List.replicate (sz - bs.length) ff = byteL (bs ++ List.replicate (sz - bs.length) 255) := by rw [ed, byteL_app, byteL_rep]
  rw [ee]
  obtain ⟨h1, h2⟩ := read_mem (M := M) (byteL (bs ++ List.replicate (sz - bs.length) 255))
  have el : (bs ++ List.replicate (sz - bs.length) 255).length = sz := by rw [List.length_append, List.length_replicate]; omega
  exact hQ _ h1 ⟨M.nx, 0, sz, none, _, false, false, by rw [el], h2, Nat.lt_succ_of_lt (Nat.lt_succ_self _), by rw [el]; exact Nat.le_refl _, by rw [byteL_len]; omega, by rw [List.drop_zero, ← byteL_len, List.take_length], hbs.app (Byt.rep _), Or.inl rfl⟩
variable {M : AM} {m L Z c B p0 bl pg sz rs : Nat} {f : Nat → Ent} {z : Nat → Int} {q : Int} {nx : Nat → Nat} {pcs : Nat → List AV} (hM : Mgr M m L Z c B p0 bl pg sz rs f z q nx pcs) (hg : Geo bl pg sz rs) (hz : z 0 = 0) (hf : f 0 = usE)
include hM hg hz hf
theorem block_m (Q : KC) (hQ : ∀ M', Same M M' → Q (.ret (.tup [.agg usE.av, .bool true])) M') : CallsTo E 158 [.ptr m 0, .int .i64 0] M Q := by
  have b1 := hg.b1
  have r1 := hg.r1
  have h0 : 0 < bl - rs - 2 := by omega
  have hb0 : 0 < bl := by omega
  have hz0 := intL_get z h0
  rw [hz] at hz0
  have hMn := hM.same ((Same.refl M).new (o := .cells [.int .i64 0, .int .i64 0, .int .i64 0, .int .i64 0, .int .u64 0, .bool false] false false))
  obtain ⟨fz, hm⟩ := hMn.hm
  obtain ⟨fZ, hZ⟩ := hMn.hZ
  obtain ⟨fL, hL⟩ := hMn.hL
  refine call_rule F.f158 rfl (N 158 rfl) ?_
  refine w_seq ?_
  refine w_region ?_
  refine vv (e_alloc F.z156) ?_
  refine vv (e_assign rfl) ?_
  refine w_nil ?_
  refine k_seq ?_
  refine w_seq ?_
  refine w_seq ?_
  refine w_region ?_
  refine vv (e_move rfl) ?_
  refine vv (e_eqlp rfl rfl F.u46) ?_
  refine vv (e_move rfl) ?_
  refine vg (e_move rfl) ?_
  refine vg rfl ?_
  refine vv rfl ?_
  refine vv (e_move rfl) ?_
  refine vg (e_move rfl) ?_
  refine vg (e_move rfl) ?_
  refine vg rfl ?_
  refine vg (e_fa rfl F.fa124_3) ?_
  refine vg (e_loadn rfl F.na59 zS zC) ?_
  refine vg (e_len_sl rfl rfl rfl rfl F.u59) ?_
  refine vg rfl ?_
  refine vv rfl ?_
  refine vv (e_move rfl) ?_
  rw [show iltF 0 (.ofNat (bl - rs - 2)) = true from ilt_t (a := 0) h0]
  refine vg (e_move rfl) ?_
  refine vg rfl ?_
  refine vg (e_fa rfl F.fa124_3) ?_
  refine vg (e_loadn rfl F.na59 zS zC) ?_
  refine vg (e_move rfl) ?_
  refine vg (e_indexAddr rfl rfl F.u59 F.sz3 zD) ?_
  refine vg (e_loadn rfl F.na3 zS zC) ?_
  refine vg rfl ?_
  refine vv rfl ?_
  refine w_nil ?_
  refine k_seq ?_
  refine vf ?_
  refine w_skip ?_
  refine k_seq ?_
  refine w_seq ?_
  refine w_order [.run 0 0, .run 1 1, .run 2 3, .run 3 7, .run 4 0, .run 5 16, .run 6 48, .run 7 112, .run 8 0, .run 9 496, .run 10 1008, .run 11 2047, .run 12 4095, .chk, .eff 13 8191, .chk, .eff 14 16383, .chk] (by decide +kernel) ?_
  refine sp rfl (e_move rfl) ?_
  refine sp rfl rfl ?_
  refine sp rfl (e_fa rfl F.fa124_2) ?_
  refine sr rfl (e_loadn rfl F.na122 zS zC) ?_
  refine sp rfl (e_move rfl) ?_
  refine sp rfl rfl ?_
  refine sp rfl (e_fa rfl F.fa124_3) ?_
  refine sr rfl (e_loadn rfl F.na59 zS zC) ?_
  refine sp rfl (e_move rfl) ?_
  refine sp rfl (e_indexAddr rfl rfl F.u59 F.sz3 zD) ?_
  refine sr rfl (e_loadn rfl F.na3 zS zC) ?_
  refine sp rfl (e_indexAddr rfl rfl F.u122 F.sz156 zD) ?_
  have e0 := entL_take f hb0
  rw [hf] at e0
  refine sr rfl (e_loada rfl F.ag156 F.sz156 hL (by rw [entL_len]; show 0 + 0 * 6 + 6 ≤ bl * 6; omega)) ?_
  rw [e0]
  refine st_chk (ck_cons ⟨_, _, e_loada rfl F.ag156 F.sz156 hL (by rw [entL_len]; show 0 + 0 * 6 + 6 ≤ bl * 6; omega), by rw [e0]; rfl⟩ (ck_cons ⟨_, _, e_loadn rfl F.na3 hZ hz0, avB_int _ _⟩ (ck_cons ⟨_, _, e_loadn rfl F.na59 hm rfl, avB_sl _ _ _ _ _⟩ (ck_cons ⟨_, _, e_loadn rfl F.na122 hm rfl, avB_sl _ _ _ _ _⟩ ck_nil)))) ?_
  refine fd rfl zP (e_store rfl rfl F.sz156 g0 zN rfl) ?_
  refine st_chk (by repeat first | exact ck_nil | refine ck_cons ⟨_, _, rfl, zA⟩ ?_ | refine ck_cons ⟨_, _, (e_loadn rfl F.na122 (by first | assumption | exact g0 | exact s0 | (repeat first | assumption | exact g0 | exact s0 | refine gn zL ?_ | refine gs zL ?_)) zC), zA⟩ ?_ | refine ck_cons ⟨_, _, (e_loadn rfl F.na59 (by first | assumption | exact g0 | exact s0 | (repeat first | assumption | exact g0 | exact s0 | refine gn zL ?_ | refine gs zL ?_)) zC), zA⟩ ?_ | refine ck_cons ⟨_, _, (e_loadn rfl F.na3 (by first | assumption | exact g0 | exact s0 | (repeat first | assumption | exact g0 | exact s0 | refine gn zL ?_ | refine gs zL ?_)) zC), zA⟩ ?_ | refine ck_cons ⟨_, _, (e_loada rfl F.ag156 F.sz156 (by first | assumption | exact g0 | exact s0 | (repeat first | assumption | exact g0 | exact s0 | refine gn zL ?_ | refine gs zL ?_)) zN), zA⟩ ?_ | refine ck_cons ⟨_, (by first | assumption | exact g0 | exact s0 | (repeat first | assumption | exact g0 | exact s0 | refine gn zL ?_ | refine gs zL ?_)), zB⟩ ?_) ?_
  refine fp rfl zP (e_assign rfl) ?_
  refine st_chk (by repeat first | exact ck_nil | refine ck_cons ⟨_, _, rfl, zA⟩ ?_ | refine ck_cons ⟨_, _, (e_loadn rfl F.na122 (by first | assumption | exact g0 | exact s0 | (repeat first | assumption | exact g0 | exact s0 | refine gn zL ?_ | refine gs zL ?_)) zC), zA⟩ ?_ | refine ck_cons ⟨_, _, (e_loadn rfl F.na59 (by first | assumption | exact g0 | exact s0 | (repeat first | assumption | exact g0 | exact s0 | refine gn zL ?_ | refine gs zL ?_)) zC), zA⟩ ?_ | refine ck_cons ⟨_, _, (e_loadn rfl F.na3 (by first | assumption | exact g0 | exact s0 | (repeat first | assumption | exact g0 | exact s0 | refine gn zL ?_ | refine gs zL ?_)) zC), zA⟩ ?_ | refine ck_cons ⟨_, _, (e_loada rfl F.ag156 F.sz156 (by first | assumption | exact g0 | exact s0 | (repeat first | assumption | exact g0 | exact s0 | refine gn zL ?_ | refine gs zL ?_)) zN), zA⟩ ?_ | refine ck_cons ⟨_, (by first | assumption | exact g0 | exact s0 | (repeat first | assumption | exact g0 | exact s0 | refine gn zL ?_ | refine gs zL ?_)), zB⟩ ?_) ?_
  refine st_nil ?_
  refine k_seq ?_
  refine w_ret ?_
  exact ⟨_, res_cella rfl F.ag156 F.sz156 s0 (Nat.le_refl _) (res_tmp rfl res_nil), hQ _ ((Same.refl M).new.set (Nat.le_refl _))⟩
theorem used_m (Q : KC) (hQ : ∀ M', Same M M' → Q (.ret (.int .i64 1)) M') : CallsTo E 84 [.ptr m 0, .int .i64 0] M Q := by
  refine call_rule F.f84 rfl (N 84 rfl) ?_
  refine w_seq ?_
  refine w_region ?_
  refine vv (e_assign rfl) ?_
  refine w_nil ?_
  refine k_seq ?_
  refine w_seq ?_
  refine w_region ?_
  refine vv (e_move rfl) ?_
  refine vv (e_move rfl) ?_
  refine vc (e_call rfl rfl F.f158 rfl) (block_m F N R hM hg hz hf _ (fun M1 s1 => ?_))
  dsimp only
  refine vv (e_move rfl) ?_
  refine vv rfl ?_
  refine vv rfl ?_
  refine vv (e_alloc F.z156) ?_
  refine vd (e_store rfl rfl F.sz156 g0 zN rfl) ?_
  refine vv (e_assign rfl) ?_
  refine w_nil ?_
  refine k_seq ?_
  refine w_seq ?_
  refine w_region ?_
  refine vv (e_fa rfl F.fa156_3) ?_
  refine vv (e_loadn rfl F.na3 s0 zC) ?_
  refine vv (e_assign rfl) ?_
  refine w_nil ?_
  refine k_seq ?_
  refine w_ret ?_
  exact ⟨_, res_tmp rfl res_nil, hQ _ (s1.new.set s1.1)⟩
theorem closed_m (Q : KC) (hQ : ∀ M', Same M M' → Q (.ret (.bool false)) M') : CallsTo E 109 [.ptr m 0, .int .i64 0] M Q := by
  refine call_rule F.f109 rfl (N 109 rfl) ?_
  refine w_seq ?_
  refine w_region ?_
  refine vv (e_assign rfl) ?_
  refine w_nil ?_
  refine k_seq ?_
  refine w_seq ?_
  refine w_region ?_
  refine vv (e_move rfl) ?_
  refine vv (e_move rfl) ?_
  refine vc (e_call rfl rfl F.f158 rfl) (block_m F N R hM hg hz hf _ (fun M1 s1 => ?_))
  dsimp only
  refine vv (e_move rfl) ?_
  refine vv rfl ?_
  refine vv rfl ?_
  refine vv (e_alloc F.z156) ?_
  refine vd (e_store rfl rfl F.sz156 g0 zN rfl) ?_
  refine vv (e_assign rfl) ?_
  refine w_nil ?_
  refine k_seq ?_
  refine w_seq ?_
  refine w_region ?_
  refine vv (e_fa rfl F.fa156_5) ?_
  refine vv (e_loadn rfl F.na4 s0 zC) ?_
  refine vv (e_assign rfl) ?_
  refine w_nil ?_
  refine k_seq ?_
  refine w_ret ?_
  exact ⟨_, res_tmp rfl res_nil, hQ _ (s1.new.set s1.1)⟩
theorem readm_ok {X : Nat} {bs : List Nat} (hp2' : ((pcs 0).drop (0 + 2 * 2)).take 2 = [.int .i64 1, .sl X 0 bs.length bs.length (some 1)]) (hX : M.get X = some (.cells (byteL bs) false false)) (lX : X < M.nx) (hbs : Byt bs) (hbl : bs.length ≤ sz) (Q : KC)
    (hQ : ∀ M' K, Same M M' → Bts M' (.sl K 0 sz sz none) (bs ++ List.replicate (sz - bs.length) 255) → M.nx ≤ K → Q (.ret (.tup [.sl K 0 sz sz none, .int .i64 0])) M') : CallsTo E 176 [.ptr m 0, .int .i64 0, .int .i64 0] M Q := by
  have b1 := hg.b1
  have r1 := hg.r1
  have p1 := hg.p1
  have p2 := hg.p2
  have h0 : 0 < bl - rs - 2 := by omega
  have hb0 : 0 < bl := by omega
  have hz0 := intL_get z h0
  rw [hz] at hz0
  obtain ⟨fz, hm⟩ := hM.hm
  obtain ⟨fZ, hZ⟩ := hM.hZ
  refine call_rule F.f176 rfl (N 176 rfl) ?_
  refine w_seq ?_
  refine w_region ?_
  refine vv (e_assign rfl) ?_
  refine vv (e_assign rfl) ?_
  refine w_nil ?_
  refine k_seq ?_
  refine w_seq ?_
  refine w_seq ?_
  refine w_region ?_
  refine vv (e_move rfl) ?_
  refine vv (e_eqlp rfl rfl F.u46) ?_
  refine w_nil ?_
  refine k_seq ?_
  refine vf ?_
  refine w_skip ?_
  refine k_seq ?_
  refine w_seq ?_
  refine w_seq ?_
  refine w_region ?_
  refine vv (e_move rfl) ?_
  refine vv rfl ?_
  refine vv (e_move rfl) ?_
  refine vg (e_move rfl) ?_
  refine vg (e_move rfl) ?_
  refine vg rfl ?_
  refine vg (e_fa rfl F.fa124_3) ?_
  refine vg (e_loadn rfl F.na59 zS zC) ?_
  refine vg (e_len_sl rfl rfl rfl rfl F.u59) ?_
  refine vg rfl ?_
  refine vv rfl ?_
  refine vv (e_move rfl) ?_
  rw [show iltF 0 (.ofNat (bl - rs - 2)) = true from ilt_t (a := 0) h0]
  refine vg (e_move rfl) ?_
  refine vg rfl ?_
  refine vv rfl ?_
  refine vv (e_move rfl) ?_
  refine vg (e_move rfl) ?_
  refine vg (e_move rfl) ?_
  refine vc (e_call rfl rfl F.f61 rfl) (mpages_ok F hM p1 (N 61 rfl) _ ?_)
  dsimp only
  rw [show wrapFast .i64 (subF (.ofNat pg) 2) = .ofNat (pg - 2) from sub64 (b := 2) (by omega) (by omega)]
  refine vg rfl ?_
  refine vv rfl ?_
  refine w_nil ?_
  refine k_seq ?_
  rw [show iltF 0 (.ofNat (pg - 2)) = true from ilt_t (a := 0) (by omega)]
  refine vf ?_
  refine w_skip ?_
  refine k_seq ?_
  refine w_seq ?_
  refine w_seq ?_
  refine w_region ?_
  refine vv (e_move rfl) ?_
  refine vc (e_call rfl rfl F.f81 rfl) (power_ok F N R hM _ ?_)
  dsimp only
  refine vv (e_assign rfl) ?_
  refine w_nil ?_
  refine k_seq ?_
  refine w_seq ?_
  refine w_region ?_
  refine vv (e_move rfl) ?_
  refine vv rfl ?_
  refine w_nil ?_
  refine k_seq ?_
  refine vf ?_
  refine w_skip ?_
  refine k_seq ?_
  refine w_seq ?_
  refine w_seq ?_
  refine w_region ?_
  refine vv (e_move rfl) ?_
  refine vv (e_move rfl) ?_
  refine vv (e_move rfl) ?_
  refine vc (e_call rfl rfl F.f84 rfl) (used_m F N R hM hg hz hf _ (fun M1 s1 => ?_))
  dsimp only
  have hM1 := hM.same s1
  obtain ⟨fz1, hm1⟩ := hM1.hm
  obtain ⟨fZ1, hZ1⟩ := hM1.hZ
  refine vv rfl ?_
  refine w_nil ?_
  refine k_seq ?_
  refine vf ?_
  refine w_skip ?_
  refine k_seq ?_
  refine w_seq ?_
  refine w_order [.run 0 0, .run 1 1, .run 2 3, .run 3 7, .run 4 0, .run 5 16, .run 6 48, .run 7 112, .run 8 0, .run 9 496, .run 10 1008, .run 11 0, .run 12 2048, .chk, .eff 13 8191, .run 14 16383, .run 15 16383, .chk, .eff 16 65535, .chk, .eff 17 131071, .chk] (by decide +kernel) ?_
  refine sp rfl (e_move rfl) ?_
  refine sp rfl rfl ?_
  refine sp rfl (e_fa rfl F.fa124_0) ?_
  refine sr rfl (e_loadn rfl F.na39 zS zC) ?_
  refine sp rfl (e_move rfl) ?_
  refine sp rfl rfl ?_
  refine sp rfl (e_fa rfl F.fa124_3) ?_
  refine sr rfl (e_loadn rfl F.na59 zS zC) ?_
  refine sp rfl (e_move rfl) ?_
  refine sp rfl (e_indexAddr rfl rfl F.u59 F.sz3 zD) ?_
  refine sr rfl (e_loadn rfl F.na3 zS zC) ?_
  refine sp rfl (e_move rfl) ?_
  refine sp rfl rfl ?_
  refine st_chk (by repeat first | exact ck_nil | refine ck_cons ⟨_, _, rfl, zA⟩ ?_ | refine ck_cons ⟨_, _, (e_loadn rfl F.na39 (by first | assumption | exact g0 | exact s0 | (repeat first | assumption | exact g0 | exact s0 | refine gn zL ?_ | refine gs zL ?_)) zC), zA⟩ ?_ | refine ck_cons ⟨_, _, (e_loadn rfl F.na59 (by first | assumption | exact g0 | exact s0 | (repeat first | assumption | exact g0 | exact s0 | refine gn zL ?_ | refine gs zL ?_)) zC), zA⟩ ?_ | refine ck_cons ⟨_, _, (e_loadn rfl F.na3 (by first | assumption | exact g0 | exact s0 | (repeat first | assumption | exact g0 | exact s0 | refine gn zL ?_ | refine gs zL ?_)) zC), zA⟩ ?_ | refine ck_cons ⟨_, (by first | assumption | exact g0 | exact s0 | (repeat first | assumption | exact g0 | exact s0 | refine gn zL ?_ | refine gs zL ?_)), zB⟩ ?_) ?_
  refine fc rfl zP (e_call rfl rfl F.f91 rfl) (readP_c F N R hM1.ch hg (n := 0) (p := 2) hb0 (by omega) hp2' ((s1.2 X lX).trans hX) (by have := s1.1; omega) hbs hbl _ (fun M2 s2 b2 => ⟨s2.1, ?_⟩))
  refine sp rfl rfl ?_
  refine sp rfl rfl ?_
  refine st_chk (by repeat first | exact ck_nil | refine ck_cons ⟨_, _, rfl, zA⟩ ?_ | refine ck_cons ⟨_, _, (e_loadn rfl F.na39 (by first | assumption | exact g0 | exact s0 | (repeat first | assumption | exact g0 | exact s0 | refine gn zL ?_ | refine gs zL ?_)) zC), zA⟩ ?_ | refine ck_cons ⟨_, _, (e_loadn rfl F.na59 (by first | assumption | exact g0 | exact s0 | (repeat first | assumption | exact g0 | exact s0 | refine gn zL ?_ | refine gs zL ?_)) zC), zA⟩ ?_ | refine ck_cons ⟨_, _, (e_loadn rfl F.na3 (by first | assumption | exact g0 | exact s0 | (repeat first | assumption | exact g0 | exact s0 | refine gn zL ?_ | refine gs zL ?_)) zC), zA⟩ ?_ | refine ck_cons ⟨_, (by first | assumption | exact g0 | exact s0 | (repeat first | assumption | exact g0 | exact s0 | refine gn zL ?_ | refine gs zL ?_)), zB⟩ ?_) ?_
  refine fp rfl zP (e_assign rfl) ?_
  refine st_chk (by repeat first | exact ck_nil | refine ck_cons ⟨_, _, rfl, zA⟩ ?_ | refine ck_cons ⟨_, _, (e_loadn rfl F.na39 (by first | assumption | exact g0 | exact s0 | (repeat first | assumption | exact g0 | exact s0 | refine gn zL ?_ | refine gs zL ?_)) zC), zA⟩ ?_ | refine ck_cons ⟨_, _, (e_loadn rfl F.na59 (by first | assumption | exact g0 | exact s0 | (repeat first | assumption | exact g0 | exact s0 | refine gn zL ?_ | refine gs zL ?_)) zC), zA⟩ ?_ | refine ck_cons ⟨_, _, (e_loadn rfl F.na3 (by first | assumption | exact g0 | exact s0 | (repeat first | assumption | exact g0 | exact s0 | refine gn zL ?_ | refine gs zL ?_)) zC), zA⟩ ?_ | refine ck_cons ⟨_, (by first | assumption | exact g0 | exact s0 | (repeat first | assumption | exact g0 | exact s0 | refine gn zL ?_ | refine gs zL ?_)), zB⟩ ?_) ?_
  refine fp rfl zP (e_assign rfl) ?_
  refine st_chk (by repeat first | exact ck_nil | refine ck_cons ⟨_, _, rfl, zA⟩ ?_ | refine ck_cons ⟨_, _, (e_loadn rfl F.na39 (by first | assumption | exact g0 | exact s0 | (repeat first | assumption | exact g0 | exact s0 | refine gn zL ?_ | refine gs zL ?_)) zC), zA⟩ ?_ | refine ck_cons ⟨_, _, (e_loadn rfl F.na59 (by first | assumption | exact g0 | exact s0 | (repeat first | assumption | exact g0 | exact s0 | refine gn zL ?_ | refine gs zL ?_)) zC), zA⟩ ?_ | refine ck_cons ⟨_, _, (e_loadn rfl F.na3 (by first | assumption | exact g0 | exact s0 | (repeat first | assumption | exact g0 | exact s0 | refine gn zL ?_ | refine gs zL ?_)) zC), zA⟩ ?_ | refine ck_cons ⟨_, (by first | assumption | exact g0 | exact s0 | (repeat first | assumption | exact g0 | exact s0 | refine gn zL ?_ | refine gs zL ?_)), zB⟩ ?_) ?_
  refine st_nil ?_
  refine k_seq ?_
  refine w_ret ?_
  exact ⟨_, res_tmp rfl (res_tmp rfl res_nil), hQ M2 M1.nx (s1.trans s2) b2 s1.1⟩
end
end Go.Abm.Seat

open Go Go.Abm
set_option maxRecDepth 100000
set_option maxHeartbeats 4000000
namespace Go.Abm.Seat
section
variable {E : Env} (F : Facts E) (N : NS E) (R : RS E)
include F N R
theorem get2_ok {M : AM} {v : AV} {bs : List Nat} (hb : Bts M v bs) (hl : bs.length = 2) (Q : KC) (hQ : ∀ n : Nat, n < 65536 → Q (.ret (.int .u64 (.ofNat n))) M) : CallsTo E 181 [v] M Q := by
  obtain ⟨b, o, c, g, l, ro, fz, rfl, h2, h3, h4, h5, h6, h7, h8⟩ := hb
  refine call_rule F.f181 rfl (N 181 rfl) ?_
  refine w_seq ?_
  refine w_region ?_
  refine vv (e_assign rfl) ?_
  refine w_nil ?_
  refine k_seq ?_
  refine w_seq ?_
  refine w_region ?_
  refine vv (e_assign rfl) ?_
  refine w_nil ?_
  refine k_seq ?_
  refine w_seq ?_
  refine w_seq ?_
  refine w_region ?_
  refine vv (e_move rfl) ?_
  refine vv (e_len_sl rfl rfl rfl rfl F.u157) ?_
  refine vv (e_min2 rfl rfl rfl rfl) ?_
  refine vv (e_move rfl) ?_
  refine w_nil ?_
  refine k_seq ?_
  refine w_block ?_
  refine w_loop ?_
  refine loop_inv (fun z ρ D M' => D = [] ∧ M' = M ∧ ∃ i n, z = bs.length - i ∧ i ≤ bs.length ∧ ρ 0 = some (.sl b o bs.length c g) ∧ ρ 3 = some (.int .u64 (.ofNat n)) ∧ ρ 7 = some (.int .i64 (.ofNat bs.length)) ∧ ρ 8 = some (.int .i64 (.ofNat i)) ∧ n < 2 ^ (8 * i)) ?_ bs.length _ _ _
    ⟨rfl, rfl, 0, 0, rfl, Nat.zero_le _, rfl, rfl, congrArg (fun n => some (AV.int .i64 (.ofNat n))) (Nat.min_eq_left (show bs.length ≤ 8 by omega)), rfl, by decide⟩
  rintro z ρ D M' ⟨rfl, rfl, i, n, rfl, hi, g0', g3, g7, g8, hn⟩
  rw [reg1 g0', reg1 g3, reg1 g7, reg1 g8]
  refine w_seq ?_
  refine w_region ?_
  refine vv rfl ?_
  refine w_nil ?_
  refine k_seq ?_
  refine w_seq ?_
  refine w_cond rfl (fun h => ?_) (fun h => ?_)
  case refine_2 =>
    have he : i = bs.length := by have := ilt_ge h; omega
    refine w_exit ?_
    refine k_exit ?_
    refine k_exit ?_
    refine b_here ?_
    refine k_seq ?_
    refine w_seq ?_
    refine w_region ?_
    refine vv (e_move rfl) ?_
    refine vv (e_assign rfl) ?_
    refine w_nil ?_
    refine k_seq ?_
    refine w_ret ?_
    exact ⟨_, res_tmp rfl res_nil, hQ n (by rw [he, hl] at hn; exact hn)⟩
  have hlt := ilt_lt h
  refine w_skip ?_
  refine k_seq ?_
  refine w_seq ?_
  refine w_block ?_
  refine w_seq ?_
  refine w_region ?_
  refine vv (e_move rfl) ?_
  refine vv (e_assign rfl) ?_
  refine w_nil ?_
  refine k_seq ?_
  refine w_region ?_
  refine vv (e_move rfl) ?_
  refine vv (e_move rfl) ?_
  refine vv (e_move rfl) ?_
  refine vv (e_indexAddr rfl rfl F.u157 F.sz5 zD) ?_
  have hv := Bts.get (M := M') (b := b) (n := 0) (c := c) (g := g) h6 hlt
  have hv7 : bs[i] < 256 := h7 _ (List.getElem_mem hlt)
  generalize bs[i] = y at hv hv7
  refine vv (e_loadn rfl F.na5 h2 hv) ?_
  refine vv (e_conv_int rfl F.u5 F.u54) ?_
  refine vv (e_move rfl) ?_
  refine vv rfl ?_
  rw [show wrapFast .i64 (mulF 8 (.ofNat i)) = .ofNat (8 * i) from mul64 (a := 8) (by omega)]
  refine vv rfl ?_
  refine vv rfl ?_
  refine vv (e_assign rfl) ?_
  refine w_nil ?_
  refine b_normal ?_
  refine k_seq ?_
  refine w_region ?_
  refine vv rfl ?_
  refine vv (e_move rfl) ?_
  refine w_nil ?_
  refine k_seq ?_
  refine ⟨bs.length - (i + 1), by omega, rfl, rfl, i + 1, _, rfl, hlt, rfl, rfl, rfl, inc64v (by omega), ?_⟩
  show (((n % 18446744073709551616) ||| ((((y % 18446744073709551616) * 2 ^ min (8 * i) 64) % 18446744073709551616) % 18446744073709551616)) % 18446744073709551616) < 2 ^ (8 * (i + 1))
  have h01 : i = 0 ∨ i = 1 := by omega
  have key : ((n % 18446744073709551616) ||| ((((y % 18446744073709551616) * 2 ^ min (8 * i) 64) % 18446744073709551616) % 18446744073709551616)) < 2 ^ (8 * (i + 1)) := by
    rcases h01 with rfl | rfl
    · refine Nat.or_lt_two_pow (n := 8) ?_ ?_
      · have : n < 1 := hn; omega
      · show ((y % 18446744073709551616) * 1 % 18446744073709551616) % 18446744073709551616 < 256; omega
    · refine Nat.or_lt_two_pow (n := 16) ?_ ?_
      · have : n < 256 := hn; omega
      · show ((y % 18446744073709551616) * 256 % 18446744073709551616) % 18446744073709551616 < 65536; omega
  have := Nat.mod_le ((n % 18446744073709551616) ||| ((((y % 18446744073709551616) * 2 ^ min (8 * i) 64) % 18446744073709551616) % 18446744073709551616)) 18446744073709551616
  omega
theorem unframe_any {M : AM} {v : AV} {bs : List Nat} (hb : Bts M v bs) (hl : bs.length ≤ 65536) (Q : KC)
    (hQ0 : ∀ M', Same M M' → Q (.ret (.tup [.nils, .int .i64 0, .bool false])) M')
    (hQ1 : ∀ M' w bs' n, Same M M' → Bts M' w bs' → M.nx ≤ blk w → 7 ≤ n → n ≤ bs.length → Q (.ret (.tup [w, .int .i64 (.ofNat n), .bool true])) M') : CallsTo E 241 [v] M Q := by
  have hb0 := hb
  obtain ⟨b, o, c, g, l, ro, fz, rfl, k2, k3, k4, k5, k6, k7, k8⟩ := hb
  refine call_rule F.f241 rfl (N 241 rfl) ?_
  refine w_seq ?_
  refine w_region ?_
  refine vv (e_assign rfl) ?_
  refine vv (e_assign rfl) ?_
  refine vv (e_assign rfl) ?_
  refine w_nil ?_
  refine k_seq ?_
  refine w_seq ?_
  refine w_seq ?_
  refine w_region ?_
  refine vv (e_move rfl) ?_
  refine vv (e_len_sl rfl rfl rfl rfl F.u157) ?_
  refine vv rfl ?_
  refine w_nil ?_
  refine k_seq ?_
  refine w_cond rfl (fun h => ?_) (fun h => ?_)
  case refine_1 =>
    refine w_seq ?_
    refine w_region ?_
    refine vv (e_assign rfl) ?_
    refine vv (e_assign rfl) ?_
    refine vv (e_assign rfl) ?_
    refine w_nil ?_
    refine k_seq ?_
    refine w_ret ?_
    refine k_ret ?_
    exact ⟨_, res_tmp rfl (res_tmp rfl (res_tmp rfl res_nil)), hQ0 _ (Same.refl M)⟩
  have h6l : 6 ≤ bs.length := ilt_ge (b := 6) h
  refine w_skip ?_
  refine k_seq ?_
  refine w_seq ?_
  refine w_region ?_
  refine vv (e_move rfl) ?_
  refine w_valx rfl rfl rfl (e_sliceB hb0 F.u157 F.sz5 rfl rfl rfl rfl rfl (Nat.zero_le _) (by show 2 ≤ bs.length; omega)) ?_
  rintro v2 M2 ⟨rfl, b2⟩
  skip
  have l2 : (List.take ((some 2).getD bs.length - (none : Option Nat).getD 0) (List.drop ((none : Option Nat).getD 0) bs)).length = 2 := by
    show (List.take 2 (List.drop 0 bs)).length = 2
    rw [List.drop_zero, List.length_take]; omega
  refine vc (e_call rfl rfl F.f181 rfl) (get2_ok F N R b2 l2 _ (fun n hn => ?_))
  dsimp only
  refine vv (e_conv_int rfl F.u54 F.u3) ?_
  refine vv (e_assign rfl) ?_
  refine w_nil ?_
  refine k_seq ?_
  refine w_seq ?_
  refine w_seq ?_
  refine w_region ?_
  refine vv (e_move rfl) ?_
  refine vv rfl ?_
  refine vv (e_move rfl) ?_
  rw [show wrapFast .i64 (.ofNat n) = .ofNat n from wrap64 (by omega)]
  by_cases hz : n = 0
  · subst hz
    refine vn ?_
    refine vn ?_
    refine vv rfl ?_
    refine vv (e_move rfl) ?_
    refine vn ?_
    refine vn ?_
    refine vn ?_
    refine vn ?_
    refine vn ?_
    refine vv rfl ?_
    refine w_nil ?_
    refine k_seq ?_
    refine vt ?_
    refine w_seq ?_
    refine w_region ?_
    refine vv (e_assign rfl) ?_
    refine vv (e_assign rfl) ?_
    refine vv (e_assign rfl) ?_
    refine w_nil ?_
    refine k_seq ?_
    refine w_ret ?_
    refine k_ret ?_
    exact ⟨_, res_tmp rfl (res_tmp rfl (res_tmp rfl res_nil)), hQ0 _ (Same.refl _)⟩
  rw [show ieqF (.ofNat n) 0 = false from ieq_ne (by intro e; have e : (n : Int) = 0 := e; omega)]
  refine vg (e_move rfl) ?_
  refine vg rfl ?_
  refine vv rfl ?_
  refine vv (e_move rfl) ?_
  by_cases h1 : n ≤ 1024
  case neg =>
    rw [show iltF 1024 (.ofNat n) = true from ilt_t (a := 1024) (by omega)]
    refine vn ?_
    refine vn ?_
    refine vn ?_
    refine vn ?_
    refine vn ?_
    refine vv rfl ?_
    refine w_nil ?_
    refine k_seq ?_
    refine vt ?_
    refine w_seq ?_
    refine w_region ?_
    refine vv (e_assign rfl) ?_
    refine vv (e_assign rfl) ?_
    refine vv (e_assign rfl) ?_
    refine w_nil ?_
    refine k_seq ?_
    refine w_ret ?_
    refine k_ret ?_
    exact ⟨_, res_tmp rfl (res_tmp rfl (res_tmp rfl res_nil)), hQ0 _ (Same.refl _)⟩
  rw [show iltF 1024 (.ofNat n) = false from ilt_f (a := 1024) h1]
  refine vg (e_move rfl) ?_
  refine vg (e_move rfl) ?_
  refine vg (e_len_sl rfl rfl rfl rfl F.u157) ?_
  refine vg rfl ?_
  refine vg rfl ?_
  refine vv rfl ?_
  refine w_nil ?_
  refine k_seq ?_
  rw [show wrapFast .i64 (subF (.ofNat bs.length) 6) = .ofNat (bs.length - 6) from sub64 (b := 6) h6l (by omega)]
  by_cases h2 : n ≤ bs.length - 6
  case neg =>
    rw [show iltF (.ofNat (bs.length - 6)) (.ofNat n) = true from ilt_t (by omega)]
    refine vt ?_
    refine w_seq ?_
    refine w_region ?_
    refine vv (e_assign rfl) ?_
    refine vv (e_assign rfl) ?_
    refine vv (e_assign rfl) ?_
    refine w_nil ?_
    refine k_seq ?_
    refine w_ret ?_
    refine k_ret ?_
    exact ⟨_, res_tmp rfl (res_tmp rfl (res_tmp rfl res_nil)), hQ0 _ (Same.refl _)⟩
  rw [show iltF (.ofNat (bs.length - 6)) (.ofNat n) = false from ilt_f h2]
  refine vf ?_
  refine w_skip ?_
  refine k_seq ?_
  refine w_seq ?_
  refine w_region ?_
  refine vv (e_buildSlice rfl F.u157 F.el5 (by decide) (by decide) rfl rfl) ?_
  refine vv (e_move rfl) ?_
  refine vv (e_move rfl) ?_
  refine vv rfl ?_
  rw [show wrapFast .i64 (addF 6 (.ofNat n)) = .ofNat (6 + n) from add64 (a := 6) (by omega)]
  have S0 : Same M2 (M2.new (.cells [] false false)) := (Same.refl M2).new
  refine w_valx rfl rfl rfl (e_sliceB (hb0.same S0) F.u157 F.sz5 rfl rfl rfl (a := some 6) (c := some (6 + n)) rfl rfl (by show 6 ≤ 6 + n; omega) (by show 6 + n ≤ bs.length; omega)) ?_
  rintro v3 M3 ⟨rfl, b3⟩
  have l3 : (List.take ((some (6 + n)).getD bs.length - (some 6).getD 0) (List.drop ((some 6).getD 0) bs)).length = n := by
    show (List.take (6 + n - 6) (List.drop 6 bs)).length = n
    rw [List.length_take, List.length_drop]; omega
  skip
  have G0 : Gb M2 (M2.new (.cells [] false false)) (.sl M2.nx 0 0 0 none) [] := Gb.mk0 S0 (Nat.le_refl _) (Nat.lt_succ_self _) g0 (fun x hx => by cases hx) rfl
  refine w_valx rfl rfl rfl (e_appB G0 b3 (by rw [l3]; omega) (by rw [l3]; show 0 + n ≤ 100000; omega) rfl rfl rfl rfl rfl F.u157 F.u157 F.el5 (by decide)) ?_
  rintro v4 M4 ⟨G4, n4, f4, t4⟩
  rw [List.nil_append] at G4
  have hb4 := hb0.same G4.same
  refine vv (e_assign rfl) ?_
  refine w_nil ?_
  refine k_seq ?_
  refine w_seq ?_
  refine w_seq ?_
  refine w_order [.run 0 0, .run 3 0, .run 4 8, .chk, .eff 1 1, .run 2 3, .chk, .eff 5 27, .run 6 63, .chk] (by decide +kernel) ?_
  refine sp rfl (e_move rfl) ?_
  refine sp rfl (e_move rfl) ?_
  refine spx rfl (e_sliceB hb4 F.u157 F.sz5 rfl rfl rfl (a := some 2) (c := some 6) rfl rfl (by show 2 ≤ 6; omega) (by show 6 ≤ bs.length; omega)) ?_
  rintro v5 M5 ⟨rfl, b5⟩
  refine st_chk (by repeat first | exact ck_nil | refine ck_cons ⟨_, _, rfl, zA⟩ ?_ | refine ck_cons ⟨_, _, (e_conv_int rfl F.u346 F.u54), zA⟩ ?_ | refine ck_cons ⟨_, _, (e_neqp rfl rfl F.u54), zA⟩ ?_ | refine ck_cons ⟨_, _, (e_neqpn rfl rfl F.u54), zA⟩ ?_ | refine ck_cons ⟨_, _, (e_neqsn rfl rfl F.u54), zA⟩ ?_ | refine ck_cons ⟨_, _, (e_neqsnn rfl rfl F.u54), zA⟩ ?_ | refine ck_cons ⟨_, (by first | assumption | exact g0 | exact s0 | (repeat first | assumption | exact g0 | exact s0 | refine gn zL ?_ | refine gs zL ?_)), zB⟩ ?_) ?_
  refine fc rfl zP (e_call rfl rfl F.f248 rfl) (sum_ok F R.hS G4.bts (by rw [l3]; omega) _ (fun k => ⟨Nat.le_refl _, ?_⟩))
  refine sr rfl (e_conv_int rfl F.u346 F.u54) ?_ (hk := okc_i F.u54)
  refine st_chk (by repeat first | exact ck_nil | refine ck_cons ⟨_, _, rfl, zA⟩ ?_ | refine ck_cons ⟨_, _, (e_conv_int rfl F.u346 F.u54), zA⟩ ?_ | refine ck_cons ⟨_, _, (e_neqp rfl rfl F.u54), zA⟩ ?_ | refine ck_cons ⟨_, _, (e_neqpn rfl rfl F.u54), zA⟩ ?_ | refine ck_cons ⟨_, _, (e_neqsn rfl rfl F.u54), zA⟩ ?_ | refine ck_cons ⟨_, _, (e_neqsnn rfl rfl F.u54), zA⟩ ?_ | refine ck_cons ⟨_, (by first | assumption | exact g0 | exact s0 | (repeat first | assumption | exact g0 | exact s0 | refine gn zL ?_ | refine gs zL ?_)), zB⟩ ?_) ?_
  refine fc rfl zP (e_call rfl rfl F.f181 rfl) (get_ok F N b5 (by show (List.take 4 (List.drop 2 bs)).length ≤ 8; rw [List.length_take]; omega) _ (fun k2 _ => ⟨Nat.le_refl _, ?_⟩))
  refine sr rfl rfl ?_
  refine st_chk (by repeat first | exact ck_nil | refine ck_cons ⟨_, _, rfl, zA⟩ ?_ | refine ck_cons ⟨_, _, (e_conv_int rfl F.u346 F.u54), zA⟩ ?_ | refine ck_cons ⟨_, _, (e_neqp rfl rfl F.u54), zA⟩ ?_ | refine ck_cons ⟨_, _, (e_neqpn rfl rfl F.u54), zA⟩ ?_ | refine ck_cons ⟨_, _, (e_neqsn rfl rfl F.u54), zA⟩ ?_ | refine ck_cons ⟨_, _, (e_neqsnn rfl rfl F.u54), zA⟩ ?_ | refine ck_cons ⟨_, (by first | assumption | exact g0 | exact s0 | (repeat first | assumption | exact g0 | exact s0 | refine gn zL ?_ | refine gs zL ?_)), zB⟩ ?_) ?_
  refine st_nil ?_
  refine k_seq ?_
  refine w_cond rfl (fun h => ?_) (fun h => ?_)
  case refine_1 =>
    refine w_seq ?_
    refine w_region ?_
    refine vv (e_assign rfl) ?_
    refine vv (e_assign rfl) ?_
    refine vv (e_assign rfl) ?_
    refine w_nil ?_
    refine k_seq ?_
    refine w_ret ?_
    refine k_ret ?_
    exact ⟨_, res_tmp rfl (res_tmp rfl (res_tmp rfl res_nil)), hQ0 _ G4.same⟩
  refine w_skip ?_
  refine k_seq ?_
  refine w_seq ?_
  refine w_region ?_
  refine vv (e_move rfl) ?_
  refine vv (e_move rfl) ?_
  refine vv rfl ?_
  refine vv (e_assign rfl) ?_
  refine vv (e_assign rfl) ?_
  refine vv (e_assign rfl) ?_
  refine w_nil ?_
  refine k_seq ?_
  refine w_ret ?_
  rw [show wrapFast .i64 (addF 6 (.ofNat n)) = .ofNat (6 + n) from add64 (a := 6) (by omega)]
  exact ⟨_, res_tmp rfl (res_tmp rfl (res_tmp rfl res_nil)), hQ1 _ v4 _ (6 + n) G4.same G4.bts G4.lt.1 (by omega) (by omega)⟩
end
end Go.Abm.Seat

open Go Go.Abm
set_option maxRecDepth 100000
set_option maxHeartbeats 4000000
namespace Go.Abm.Seat
section
variable {E : Env} (F : Facts E) (N : NS E) (R : RS E)
include F N R
theorem blank_any {M : AM} {v : AV} {bs : List Nat} (hb : Bts M v bs) (hl : bs.length ≤ 65536) (Q : KC) (hQ : ∀ b : Bool, Q (.ret (.bool b)) M) : CallsTo E 242 [v] M Q := by
  obtain ⟨b, o, c, g, l, ro, fz, rfl, h2, h3, h4, h5, h6, h7, h8⟩ := hb
  refine call_rule F.f242 rfl (N 242 rfl) ?_
  refine w_seq ?_
  refine w_region ?_
  refine vv (e_assign rfl) ?_
  refine w_nil ?_
  refine k_seq ?_
  refine w_seq ?_
  refine w_seq ?_
  refine w_region ?_
  refine vv (e_move rfl) ?_
  refine vv (e_len_sl rfl rfl rfl rfl F.u157) ?_
  refine vv (e_move rfl) ?_
  refine w_nil ?_
  refine k_seq ?_
  refine w_block ?_
  refine w_loop ?_
  refine loop_inv (fun z ρ D M' => D = [] ∧ M' = M ∧ ∃ i, z = bs.length - i ∧ i ≤ bs.length ∧ ρ 5 = some (.sl b o bs.length c g) ∧ ρ 6 = some (.int .i64 (.ofNat bs.length)) ∧ ρ 7 = some (.int .i64 (.ofNat i))) ?_ bs.length _ _ _
    ⟨rfl, rfl, 0, rfl, Nat.zero_le _, rfl, rfl, rfl⟩
  rintro z ρ D M' ⟨rfl, rfl, i, rfl, hi, g5, g6, g7⟩
  rw [reg1 g5, reg1 g6, reg1 g7]
  refine w_seq ?_
  refine w_region ?_
  refine vv rfl ?_
  refine w_nil ?_
  refine k_seq ?_
  refine w_seq ?_
  refine w_cond rfl (fun h => ?_) (fun h => ?_)
  case refine_2 =>
    refine w_exit ?_
    refine k_exit ?_
    refine k_exit ?_
    refine b_here ?_
    refine k_seq ?_
    refine w_seq ?_
    refine w_region ?_
    refine vv (e_assign rfl) ?_
    refine w_nil ?_
    refine k_seq ?_
    refine w_ret ?_
    exact ⟨_, res_tmp rfl res_nil, hQ _⟩
  have hlt := ilt_lt h
  refine w_skip ?_
  refine k_seq ?_
  refine w_seq ?_
  refine w_block ?_
  refine w_seq ?_
  refine w_region ?_
  refine vv (e_indexAddr rfl rfl F.u157 F.sz5 zD) ?_
  refine vv (e_loadn rfl F.na5 h2 (Bts.get (M := M') (b := b) (n := 0) (c := c) (g := g) h6 hlt)) ?_
  refine vv (e_assign rfl) ?_
  refine w_nil ?_
  refine k_seq ?_
  refine w_seq ?_
  refine w_region ?_
  refine vv (e_move rfl) ?_
  refine vv rfl ?_
  refine w_nil ?_
  refine k_seq ?_
  refine w_cond rfl (fun h => ?_) (fun h => ?_)
  case refine_1 =>
    refine w_seq ?_
    refine w_region ?_
    refine vv (e_assign rfl) ?_
    refine w_nil ?_
    refine k_seq ?_
    refine w_ret ?_
    refine b_ret ?_
    refine k_ret ?_
    refine k_ret ?_
    refine b_ret ?_
    refine k_ret ?_
    exact ⟨_, res_tmp rfl res_nil, hQ _⟩
  refine w_skip ?_
  refine b_normal ?_
  refine k_seq ?_
  refine w_region ?_
  refine vv rfl ?_
  refine vv (e_move rfl) ?_
  refine w_nil ?_
  refine k_seq ?_
  exact ⟨bs.length - (i + 1), by omega, rfl, rfl, i + 1, rfl, hlt, rfl, rfl, inc64v (by omega)⟩
theorem round_p (M : AM) {i p : Nat} (h1 : 1 ≤ i) (h2 : i ≤ p) (h3 : p ≤ 65536) (Q : KC) (hQ : Q (.ret (.int .i64 (.ofNat p))) M) : CallsTo E 141 [.int .i64 (.ofNat i), .int .i64 (.ofNat p)] M Q := by
  refine call_rule F.f141 rfl (N 141 rfl) ?_
  refine w_seq ?_
  refine w_region ?_
  refine vv (e_assign rfl) ?_
  refine w_nil ?_
  refine k_seq ?_
  refine w_seq ?_
  refine w_seq ?_
  refine w_region ?_
  refine vv (e_move rfl) ?_
  refine vv rfl ?_
  refine w_nil ?_
  refine k_seq ?_
  refine vf ?_
  refine w_skip ?_
  refine k_seq ?_
  refine w_seq ?_
  refine w_seq ?_
  refine w_region ?_
  refine vv (e_move rfl) ?_
  refine vv rfl ?_
  refine vv (e_move rfl) ?_
  rw [show iltF (.ofNat i) 0 = false from ilt_f (b := 0) (by omega)]
  skip
  rw [show iltF (.ofNat p) 1 = false from ilt_f (b := 1) (by omega)]
  refine vg (e_move rfl) ?_
  refine vg (e_move rfl) ?_
  refine vg (e_rem64 rfl rfl (by omega)) ?_
  refine vg rfl ?_
  refine vv rfl ?_
  refine w_nil ?_
  refine k_seq ?_
  by_cases he : i = p
  · subst he
    rw [show ieqF (.ofNat (i % i)) 0 = true from by rw [Nat.mod_self]; rfl]
    refine vt ?_
    refine w_seq ?_
    refine w_region ?_
    refine vv (e_move rfl) ?_
    refine vv (e_assign rfl) ?_
    refine w_nil ?_
    refine k_seq ?_
    refine w_ret ?_
    refine k_ret ?_
    exact ⟨_, res_tmp rfl res_nil, hQ⟩
  rw [Nat.mod_eq_of_lt (by omega : i < p), show ieqF (.ofNat i) 0 = false from ieq_ne (by intro e; have e : (i : Int) = 0 := e; omega)]
  refine vf ?_
  refine w_skip ?_
  refine k_seq ?_
  refine w_seq ?_
  refine w_region ?_
  refine vv (e_move rfl) ?_
  refine vv (e_move rfl) ?_
  refine vv (e_move rfl) ?_
  refine vv (e_rem64 rfl rfl (by omega)) ?_
  refine vv rfl ?_
  refine vv (e_assign rfl) ?_
  refine w_nil ?_
  refine k_seq ?_
  refine w_seq ?_
  refine w_seq ?_
  refine w_region ?_
  refine vv (e_move rfl) ?_
  refine vv rfl ?_
  refine vv (e_move rfl) ?_
  rw [Nat.mod_eq_of_lt (by omega : i < p), show wrapFast .i64 (subF (.ofNat p) (.ofNat i)) = .ofNat (p - i) from sub64 (by omega) (by omega)]
  rw [show iltF 4611686018427387904 (.ofNat i) = false from ilt_f (a := 4611686018427387904) (by omega)]
  refine vg (e_move rfl) ?_
  refine vg (e_move rfl) ?_
  refine vg rfl ?_
  refine vg rfl ?_
  refine vv rfl ?_
  refine w_nil ?_
  refine k_seq ?_
  rw [show wrapFast .i64 (subF 4611686018427387904 (.ofNat i)) = .ofNat (4611686018427387904 - i) from sub64 (a := 4611686018427387904) (by omega) (by omega)]
  rw [show iltF (.ofNat (4611686018427387904 - i)) (.ofNat (p - i)) = false from ilt_f (by omega)]
  refine vf ?_
  refine w_skip ?_
  refine k_seq ?_
  refine w_seq ?_
  refine w_region ?_
  refine vv (e_move rfl) ?_
  refine vv (e_move rfl) ?_
  refine vv rfl ?_
  refine vv (e_assign rfl) ?_
  refine w_nil ?_
  refine k_seq ?_
  refine w_ret ?_
  rw [show wrapFast .i64 (addF (.ofNat i) (.ofNat (p - i))) = .ofNat p from (add64 (by omega)).trans (by rw [show i + (p - i) = p by omega])]
  exact ⟨_, res_tmp rfl res_nil, hQ⟩
theorem begin_any (M : AM) {i p : Nat} (h2 : i ≤ p) (h1 : 2 ≤ p) (h3 : p ≤ 65536) (Q : KC) (hQ : ∀ j : Nat, Q (.ret (.int .i64 (.ofNat j))) M) : CallsTo E 200 [.int .i64 (.ofNat i), .int .i64 (.ofNat p)] M Q := by
  refine call_rule F.f200 rfl (N 200 rfl) ?_
  refine w_seq ?_
  refine w_region ?_
  refine vv (e_assign rfl) ?_
  refine w_nil ?_
  refine k_seq ?_
  refine w_seq ?_
  refine w_seq ?_
  refine w_region ?_
  refine vv (e_move rfl) ?_
  refine vv (e_move rfl) ?_
  refine vv (e_rem64 rfl rfl (by omega)) ?_
  refine vv (e_move rfl) ?_
  refine vv rfl ?_
  refine vv rfl ?_
  refine w_nil ?_
  refine k_seq ?_
  refine w_cond rfl (fun h => ?_) (fun h => ?_)
  case refine_1 =>
    refine w_seq ?_
    refine w_region ?_
    refine vv (e_move rfl) ?_
    refine vv rfl ?_
    refine vv (e_assign rfl) ?_
    refine w_nil ?_
    refine k_seq ?_
    refine w_ret ?_
    refine k_ret ?_
    rw [show wrapFast .i64 (addF (.ofNat i) 1) = .ofNat (i + 1) from add64 (b := 1) (by omega)]
    exact ⟨_, res_tmp rfl res_nil, hQ _⟩
  refine w_skip ?_
  refine k_seq ?_
  refine w_seq ?_
  refine w_region ?_
  refine vv (e_move rfl) ?_
  refine vv (e_assign rfl) ?_
  refine w_nil ?_
  refine k_seq ?_
  refine w_ret ?_
  exact ⟨_, res_tmp rfl res_nil, hQ _⟩
end
end Go.Abm.Seat
