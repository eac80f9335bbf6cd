/-
  A part of the proof that pumicelaw17.StoreOpens returns true for every geometry, key, number and group (a machine over names of blocks, its soundness, the calls of the store for any geometry, the chapter's example as a run). Condition: the listed package variables hold what the program's text lays; the card ties that.
-/
import Derived.Test.YtcfpoldckjmbdaaGreatDoorX25
import Derived.Test.YtcfpoldckjmbdaaGreatDoorX23
set_option linter.unusedVariables false
set_option linter.unusedSimpArgs false
set_option linter.unusedSectionVars false
open Go Go.Abm
set_option maxRecDepth 100000
set_option maxHeartbeats 4000000
namespace Go.Abm.Seat
theorem take_splice : ∀ (l : List AV) (k : Nat) (v : List AV), k + v.length ≤ l.length → ((spliceL l k v).drop k).take v.length = v
  | l, 0, v, _ => by rw [spliceL_zero, List.drop_zero, List.take_left']; rfl
  | [], k + 1, v, h => by simp at h
  | x :: l, k + 1, v, h => by
    show ((x :: spliceL l k v).drop (k + 1)).take v.length = v
    rw [List.drop_succ_cons]
    exact take_splice l k v (by simp at h; omega)
def usE : Ent := ⟨4, 1, 0, 1, 0, false⟩
section
variable {E : Env} (F : Facts E) (N : NS E) (R : RS E)
include F N R
theorem mfill_ok {M : AM} {m L Z c B p0 bl pg sz rs : Nat} {f : Nat → Ent} {z : Nat → Int} {nx : Nat → Nat} {pcs : Nat → List AV} (hM : Mgr M m L Z c B p0 bl pg sz rs f z 0 nx pcs) (hg : Geo bl pg sz rs) {n : Nat} (hn : n < bl) (hf : f n = frE) (hx : nx n = 1)
    {PB cp : Nat} {g : Option Nat} {v : AV} {bs : List Nat} {r1 f1 : Bool} (hP : M.get PB = some (.cells [v] r1 f1)) (lP : PB < M.nx) (oP : ¬OwnM m L Z c B p0 bl PB) (hb : Bts M v bs) (ob : ¬OwnM m L Z c B p0 bl (blk v)) (b1 : 1 ≤ bs.length) (b2 : bs.length ≤ sz) (Q : KC)
    (hQ : ∀ M' X nx' pcs', Ex (OwnM m L Z c B p0 bl) M M' → Mgr M' m L Z c B p0 bl pg sz rs (fun x => if x = n then usE else f x) z 1 nx' pcs' → (∀ x, x ≠ n → nx' x = nx x ∧ pcs' x = pcs x) → nx' n = 3 → ((pcs' n).drop (0 + 2 * 2)).take 2 = [.int .i64 1, .sl X 0 bs.length bs.length (some 1)] → M'.get X = some (.cells (byteL bs) false false) → X < M'.nx → Q (.ret .nili) M') :
    CallsTo E 236 [.ptr m 0, .int .i64 (.ofNat n), .int .i64 0, .int .i64 1, .sl PB 0 1 cp g] M Q := by
  obtain ⟨hc, ⟨fz, hm⟩, ⟨fL, hL⟩, ⟨fZ, hZ⟩, ⟨l1, l2, l3⟩, ⟨n1, n2, n3, n4, n5, n6⟩⟩ := id hM
  have s1g := hg.s1
  have p1g := hg.p1
  refine call_rule F.f236 rfl (N 236 rfl) ?_
  refine w_seq ?_
  refine w_region ?_
  refine vv (e_assign rfl) ?_
  refine w_nil ?_
  refine k_seq ?_
  refine w_seq ?_
  refine w_order [.run 0 0, .run 1 0, .run 2 2, .run 3 6, .run 4 14, .run 5 0, .run 6 63, .run 7 0, .run 8 128, .run 9 384, .run 10 896, .run 11 1920, .chk, .eff 12 4095, .run 13 8191, .run 14 16383, .run 15 16383, .chk, .eff 16 32767, .chk, .eff 17 131071, .chk] (by decide +kernel) ?_
  refine sp rfl (e_move rfl) ?_
  refine sp rfl (e_move rfl) ?_
  refine sp rfl rfl ?_
  refine sp rfl (e_fa rfl F.fa124_4) ?_
  refine sr rfl (e_loadn rfl F.na54 zS zC) ?_
  refine sp rfl (e_move rfl) ?_
  refine sp rfl (e_build rfl F.bd436 rfl) ?_
  refine sp rfl (e_move rfl) ?_
  refine sp rfl rfl ?_
  refine sp rfl (e_fa rfl F.fa124_1) ?_
  refine sp rfl (e_fa rfl F.fa23_2) ?_
  refine sr rfl (e_loadn rfl F.na3 zS zC) ?_
  refine st_chk (by repeat first | exact ck_nil | refine ck_cons ⟨_, _, rfl, zA⟩ ?_ | refine ck_cons ⟨_, _, (e_loadn rfl F.na54 (by first | assumption | exact g0 | exact s0 | (repeat first | assumption | exact g0 | exact s0 | refine gn zL ?_ | refine gs zL ?_)) zC), zA⟩ ?_ | refine ck_cons ⟨_, _, (e_loadn rfl F.na3 (by first | assumption | exact g0 | exact s0 | (repeat first | assumption | exact g0 | exact s0 | refine gn zL ?_ | refine gs zL ?_)) zC), zA⟩ ?_ | refine ck_cons ⟨_, (by first | assumption | exact g0 | exact s0 | (repeat first | assumption | exact g0 | exact s0 | refine gn zL ?_ | refine gs zL ?_)), zB⟩ ?_) ?_
  refine fc rfl zP (e_call rfl rfl F.f287 rfl) (mapping_ok F N R M hg.s1 hg.s2 _ (fun M1 K bs1 s1 lK1 lK2 hl hbb hK => ⟨s1.1, ?_⟩))
  have hM1 := hM.same s1
  obtain ⟨hc1, ⟨fz1, hm1⟩, _⟩ := id hM1
  refine sp rfl (e_move rfl) ?_
  refine sp rfl rfl ?_
  refine sp rfl rfl ?_
  refine st_chk (by repeat first | exact ck_nil | refine ck_cons ⟨_, _, rfl, zA⟩ ?_ | refine ck_cons ⟨_, _, (e_loadn rfl F.na54 (by first | assumption | exact g0 | exact s0 | (repeat first | assumption | exact g0 | exact s0 | refine gn zL ?_ | refine gs zL ?_)) zC), zA⟩ ?_ | refine ck_cons ⟨_, _, (e_loadn rfl F.na3 (by first | assumption | exact g0 | exact s0 | (repeat first | assumption | exact g0 | exact s0 | refine gn zL ?_ | refine gs zL ?_)) zC), zA⟩ ?_ | refine ck_cons ⟨_, (by first | assumption | exact g0 | exact s0 | (repeat first | assumption | exact g0 | exact s0 | refine gn zL ?_ | refine gs zL ?_)), zB⟩ ?_) ?_
  refine fp rfl zP (e_assign rfl) ?_
  refine st_chk (by repeat first | exact ck_nil | refine ck_cons ⟨_, _, rfl, zA⟩ ?_ | refine ck_cons ⟨_, _, (e_loadn rfl F.na54 (by first | assumption | exact g0 | exact s0 | (repeat first | assumption | exact g0 | exact s0 | refine gn zL ?_ | refine gs zL ?_)) zC), zA⟩ ?_ | refine ck_cons ⟨_, _, (e_loadn rfl F.na3 (by first | assumption | exact g0 | exact s0 | (repeat first | assumption | exact g0 | exact s0 | refine gn zL ?_ | refine gs zL ?_)) zC), zA⟩ ?_ | refine ck_cons ⟨_, (by first | assumption | exact g0 | exact s0 | (repeat first | assumption | exact g0 | exact s0 | refine gn zL ?_ | refine gs zL ?_)), zB⟩ ?_) ?_
  refine fp rfl zP (e_assign rfl) ?_
  refine st_chk (by repeat first | exact ck_nil | refine ck_cons ⟨_, _, rfl, zA⟩ ?_ | refine ck_cons ⟨_, _, (e_loadn rfl F.na54 (by first | assumption | exact g0 | exact s0 | (repeat first | assumption | exact g0 | exact s0 | refine gn zL ?_ | refine gs zL ?_)) zC), zA⟩ ?_ | refine ck_cons ⟨_, _, (e_loadn rfl F.na3 (by first | assumption | exact g0 | exact s0 | (repeat first | assumption | exact g0 | exact s0 | refine gn zL ?_ | refine gs zL ?_)) zC), zA⟩ ?_ | refine ck_cons ⟨_, (by first | assumption | exact g0 | exact s0 | (repeat first | assumption | exact g0 | exact s0 | refine gn zL ?_ | refine gs zL ?_)), zB⟩ ?_) ?_
  refine st_nil ?_
  refine k_seq ?_
  refine w_seq ?_
  refine w_region ?_
  refine vv (e_move rfl) ?_
  refine vv rfl ?_
  refine vv (e_fa rfl F.fa124_4) ?_
  refine vv (e_loadn rfl F.na54 zS zC) ?_
  refine vv rfl ?_
  refine vv rfl ?_
  refine vv (e_fa rfl F.fa124_4) ?_
  refine vd (e_store rfl rfl F.sz54 zS zN rfl) ?_
  refine w_nil ?_
  refine k_seq ?_
  refine w_seq ?_
  refine w_seq ?_
  refine w_region ?_
  refine vv (e_move rfl) ?_
  refine vv (e_move rfl) ?_
  refine vv (e_move rfl) ?_
  refine vv rfl ?_
  refine vv (e_fa rfl F.fa124_0) ?_
  refine vv (e_loadn rfl F.na39 s0 zC) ?_
  refine vv (e_move rfl) ?_
  refine vv (e_move rfl) ?_
  have hM1' := hM1.putm 1 fz1
  have x1 := s1.1
  have oK : ¬Own c B p0 bl K := fun hO => by have := hc.own hO; omega
  refine vc (e_call rfl rfl F.f169 rfl) (program_c F (N 240 rfl) (N 164 rfl) (N 243 rfl) (N 180 rfl) (N 169 rfl) (p := 1) hM1'.ch hg hn hx (by omega) (gs (by omega) hK) (by rw [AM.nx_set]; omega) oK (by omega) (Nat.le_refl _) (by rw [byteL_len]; omega) (Nat.le_refl _) (by rw [List.drop_zero, ← hl, ← byteL_len, List.take_length]; exact byteL_one bs1) _ (fun M2 X1 s2 hc2 _ _ _ => ?_))
  dsimp only
  have x2 := s2.1
  rw [AM.nx_set] at x2
  generalize hn2 : (fun i => if i = n then 1 + 1 else nx i) = nx2 at hc2
  generalize hp2 : (fun i => if i = n then spliceL (pcs n) (1 * 2) [.int .i64 1, .sl X1 0 sz sz (some 1)] else pcs i) = pcs2 at hc2
  have hnn : nx2 n = 2 := by rw [← hn2]; exact if_pos rfl
  have hno : ∀ x, x ≠ n → nx2 x = nx x ∧ pcs2 x = pcs x := fun x h => by rw [← hn2, ← hp2]; exact ⟨if_neg h, if_neg h⟩
  clear hn2 hp2
  have hM2 := hM1'.ex s2 hc2
  obtain ⟨_, ⟨fz2, hm2⟩, ⟨fL2, hL2⟩, ⟨fZ2, hZ2⟩, _⟩ := id hM2
  have keep2 : ∀ x, x < M.nx → ¬OwnM m L Z c B p0 bl x → M2.get x = M.get x := fun x hx hO =>
    (s2.2 x (by rw [AM.nx_set]; omega) (fun e => hO (.inl e))).trans ((gs (fun e => hO (.inr (.inl e))) rfl).trans (s1.2 x hx))
  skip
  refine vc (e_call rfl rfl F.f159 rfl) (done0_ok F (N 237 rfl) (N 159 rfl) M2 m _ _ ?_)
  dsimp only
  refine vv (e_assign rfl) ?_
  refine w_nil ?_
  refine k_seq ?_
  refine w_seq ?_
  refine w_region ?_
  refine vv (e_move rfl) ?_
  refine vv (e_neqin rfl rfl rfl F.ii63) ?_
  refine w_nil ?_
  refine k_seq ?_
  refine vf ?_
  refine w_skip ?_
  refine k_seq ?_
  refine w_seq ?_
  refine w_seq ?_
  refine w_region ?_
  refine vv (e_move rfl) ?_
  refine vv (e_len_sl rfl rfl rfl rfl F.u151) ?_
  refine vv (e_move rfl) ?_
  refine w_nil ?_
  refine k_seq ?_
  refine w_block ?_
  obtain ⟨db, o, dc, dg, l, ro, fzd, rfl, d2, d3, d4, d5, d6, d7, d8⟩ := hb
  have hP2 := (keep2 PB lP oP).trans hP
  have hd2 := (keep2 db d3 ob).trans d2
  refine w_loop ?_
  refine loop_inv (fun w ρ D M' => D = [] ∧ ρ 0 = some (.ptr m 0) ∧ ρ 1 = some (.int .i64 (.ofNat n)) ∧ ρ 2 = some (.int .i64 0) ∧ ρ 4 = some (.sl PB 0 1 cp g) ∧ ρ 53 = some (.sl PB 0 1 cp g) ∧ ρ 54 = some (.int .i64 (.ofNat 1)) ∧
    ((w = 1 ∧ ρ 55 = some (.int .i64 (.ofNat 0)) ∧ M' = M2) ∨ (w = 0 ∧ ρ 55 = some (.int .i64 (.ofNat 1)) ∧ ∃ X nx3 pcs3, Ex (Own c B p0 bl) M2 M' ∧ Chip M' c B p0 bl pg sz rs nx3 pcs3 ∧ nx3 n = 3 ∧ (∀ x, x ≠ n → nx3 x = nx x ∧ pcs3 x = pcs x) ∧ ((pcs3 n).drop (0 + 2 * 2)).take 2 = [.int .i64 1, .sl X 0 bs.length bs.length (some 1)] ∧ M'.get X = some (.cells (byteL bs) false false) ∧ X < M'.nx ∧ M2.nx ≤ X))) ?_ 1 _ _ _
    ⟨rfl, rfl, rfl, rfl, rfl, rfl, rfl, .inl ⟨rfl, rfl, rfl⟩⟩
  rintro w ρ D M' ⟨rfl, g0, g1, g2, g4, g53, g54, ⟨rfl, g55, rfl⟩ | ⟨rfl, g55, X, nx3, pcs3, s3, hc3, i1, i2, i3, i4, i5, i6⟩⟩
  · rw [reg1 g0, reg1 g1, reg1 g2, reg1 g4, reg1 g53, reg1 g54, reg1 g55]
    refine w_seq ?_
    refine w_region ?_
    refine vv rfl ?_
    refine w_nil ?_
    refine k_seq ?_
    refine w_seq ?_
    refine vt ?_
    refine w_skip ?_
    refine k_seq ?_
    refine w_seq ?_
    refine w_block ?_
    refine w_seq ?_
    refine w_region ?_
    refine vv (e_move rfl) ?_
    refine vv (e_indexAddr rfl rfl F.u151 F.sz157 zD) ?_
    refine vv (e_loadn rfl F.na157 zS zC) ?_
    refine vv (e_assign rfl) ?_
    refine vv (e_assign rfl) ?_
    refine w_nil ?_
    refine k_seq ?_
    refine w_seq ?_
    refine w_region ?_
    refine vv (e_move rfl) ?_
    refine vv (e_move rfl) ?_
    refine vv (e_move rfl) ?_
    refine vv rfl ?_
    refine vv (e_fa rfl F.fa124_0) ?_
    refine vv (e_loadn rfl F.na39 zS zC) ?_
    refine vv (e_move rfl) ?_
    refine vv (e_move rfl) ?_
    refine vv rfl ?_
    refine vv (e_move rfl) ?_
    refine vc (e_call rfl rfl F.f169 rfl) (program_c F (N 240 rfl) (N 164 rfl) (N 243 rfl) (N 180 rfl) (N 169 rfl) (p := 2) hM2.ch hg hn hnn (by omega) hd2 (by omega) (fun e => ob (.inl e)) b1 d4 d5 b2 (by rw [d6]; exact byteL_one bs) _ (fun M3 X s3 hc3 lX1 lX2 hX => ?_))
    dsimp only
    skip
    refine vc (e_call rfl rfl F.f159 rfl) (done0_ok F (N 237 rfl) (N 159 rfl) M3 m _ _ ?_)
    dsimp only
    refine vv (e_assign rfl) ?_
    refine w_nil ?_
    refine k_seq ?_
    refine w_seq ?_
    refine w_region ?_
    refine vv (e_move rfl) ?_
    refine vv (e_neqin rfl rfl rfl F.ii63) ?_
    refine w_nil ?_
    refine k_seq ?_
    refine vf ?_
    refine w_skip ?_
    refine b_normal ?_
    refine k_seq ?_
    refine w_region ?_
    refine vv rfl ?_
    refine vv (e_move rfl) ?_
    refine w_nil ?_
    refine k_seq ?_
    have hpl := (hM2.ch.hp n hn).2
    refine ⟨0, by decide, rfl, rfl, rfl, rfl, rfl, rfl, rfl, .inr ⟨rfl, rfl, X, _, _, s3, hc3, if_pos rfl, fun x h => by rw [if_neg h, if_neg h]; exact hno x h, ?_, by rw [d6] at hX; exact hX, lX2, lX1⟩⟩
    rw [if_pos rfl]
    exact take_splice (pcs2 n) (2 * 2) [.int .i64 1, .sl X 0 bs.length bs.length (some 1)] (by rw [hpl]; show 2 * 2 + 2 ≤ _; omega)
  · rw [reg1 g0, reg1 g1, reg1 g2, reg1 g4, reg1 g53, reg1 g54, reg1 g55]
    have hM3 := hM2.ex s3 hc3
    obtain ⟨_, ⟨fz3, hm3⟩, ⟨fL3, hL3⟩, ⟨fZ3, hZ3⟩, _⟩ := id hM3
    refine w_seq ?_
    refine w_region ?_
    refine vv rfl ?_
    refine w_nil ?_
    refine k_seq ?_
    refine w_seq ?_
    refine vf ?_
    refine w_exit ?_
    refine k_exit ?_
    refine k_exit ?_
    refine b_here ?_
    refine k_seq ?_
    refine w_seq ?_
    refine w_order [.run 0 0, .run 1 1, .run 2 3, .run 3 7, .run 4 0, .run 5 0, .run 6 32, .run 7 96, .run 8 224, .run 9 0, .run 10 992, .run 11 2016, .run 12 4064, .run 13 0, .run 14 0, .run 15 16384, .run 16 65504, .run 17 131071, .chk, .eff 18 262143, .chk] (by decide +kernel) ?_
    refine sp rfl (e_move rfl) ?_
    refine sp rfl rfl ?_
    refine sp rfl (e_fa rfl F.fa124_2) ?_
    refine sr rfl (e_loadn rfl F.na122 zS zC) ?_
    refine sp rfl (e_move rfl) ?_
    refine sp rfl (e_move rfl) ?_
    refine sp rfl rfl ?_
    refine sp rfl (e_fa rfl F.fa124_2) ?_
    refine sr rfl (e_loadn rfl F.na122 zS zC) ?_
    refine sp rfl (e_move rfl) ?_
    refine sp rfl (e_indexAddr rfl rfl F.u122 F.sz156 zD) ?_
    refine sp rfl (e_fa rfl F.fa156_1) ?_
    have hcv : (entL f bl)[0 + n * 6 + 1]? = some (.int .i64 1) := (entL_get f hn (by decide)).trans (by rw [hf]; rfl)
    refine sr rfl (e_loadn rfl F.na3 hL3 hcv) ?_
    refine sp rfl (e_move rfl) ?_
    refine sp rfl (e_move rfl) ?_
    refine sr rfl (e_len_sl rfl rfl rfl rfl F.u151) ?_
    refine sp rfl (e_build rfl F.bd156 rfl) ?_
    refine sp rfl (e_indexAddr rfl rfl F.u122 F.sz156 zD) ?_
    refine st_chk (by repeat first | exact ck_nil | refine ck_cons ⟨_, _, rfl, zA⟩ ?_ | refine ck_cons ⟨_, _, (e_loadn rfl F.na122 (by first | assumption | exact g0 | exact s0 | (repeat first | assumption | exact g0 | exact s0 | refine gn zL ?_ | refine gs zL ?_)) zC), zA⟩ ?_ | refine ck_cons ⟨_, _, (e_loadn rfl F.na3 (by first | assumption | exact g0 | exact s0 | (repeat first | assumption | exact g0 | exact s0 | refine gn zL ?_ | refine gs zL ?_)) zC), zA⟩ ?_ | refine ck_cons ⟨_, _, (e_len_sl rfl rfl rfl rfl F.u151), zA⟩ ?_ | refine ck_cons ⟨_, _, (e_len_nils rfl rfl rfl rfl F.u151), zA⟩ ?_ | refine ck_cons ⟨_, _, (e_len_str rfl rfl rfl rfl F.u151), zA⟩ ?_ | refine ck_cons ⟨_, (by first | assumption | exact g0 | exact s0 | (repeat first | assumption | exact g0 | exact s0 | refine gn zL ?_ | refine gs zL ?_)), zB⟩ ?_) ?_
    refine fd rfl zP (e_store rfl rfl F.sz156 hL3 (by rw [entL_len]; show 0 + n * 6 + 6 ≤ bl * 6; omega) rfl) ?_
    have en := entL_put f usE hn
    have sL : Ex (OwnM m L Z c B p0 bl) M (M'.set L (some (.cells (entL (fun x => if x = n then usE else f x) bl) false fL3))) := by
      refine ((((Ex.of s1).set (.inr (.inr (.inl rfl)))).trans (s2.mono fun x h => .inl h)).trans (s3.mono fun x h => .inl h)).set (.inr (.inr (.inr (.inl rfl))))
    have mL := hM3.putL (fun x => if x = n then usE else f x) fL3
    have hX' : (M'.set L (some (.cells (entL (fun x => if x = n then usE else f x) bl) false fL3))).get X = some (.cells (byteL bs) false false) := gs (by omega) i4
    rw [← en] at sL mL hX'
    refine st_chk (by repeat first | exact ck_nil | refine ck_cons ⟨_, _, rfl, zA⟩ ?_ | refine ck_cons ⟨_, _, (e_loadn rfl F.na122 (by first | assumption | exact g0 | exact s0 | (repeat first | assumption | exact g0 | exact s0 | refine gn zL ?_ | refine gs zL ?_)) zC), zA⟩ ?_ | refine ck_cons ⟨_, _, (e_loadn rfl F.na3 (by first | assumption | exact g0 | exact s0 | (repeat first | assumption | exact g0 | exact s0 | refine gn zL ?_ | refine gs zL ?_)) zC), zA⟩ ?_ | refine ck_cons ⟨_, _, (e_len_sl rfl rfl rfl rfl F.u151), zA⟩ ?_ | refine ck_cons ⟨_, _, (e_len_nils rfl rfl rfl rfl F.u151), zA⟩ ?_ | refine ck_cons ⟨_, _, (e_len_str rfl rfl rfl rfl F.u151), zA⟩ ?_ | refine ck_cons ⟨_, (by first | assumption | exact g0 | exact s0 | (repeat first | assumption | exact g0 | exact s0 | refine gn zL ?_ | refine gs zL ?_)), zB⟩ ?_) ?_
    refine st_nil ?_
    refine k_seq ?_
    refine w_seq ?_
    refine w_region ?_
    refine vv (e_assign rfl) ?_
    refine w_nil ?_
    refine k_seq ?_
    refine w_ret ?_
    exact ⟨_, res_tmp rfl res_nil, hQ _ X nx3 pcs3 sL mL i2 i1 i3 hX' (by rw [AM.nx_set]; exact i5)⟩
end
end Go.Abm.Seat

open Go Go.Abm
set_option maxRecDepth 100000
set_option maxHeartbeats 4000000
namespace Go.Abm.Seat
section
variable {E : Env} (F : Facts E) (N : NS E) (R : RS E)
include F N R
theorem blocksY_ok (I : Nat → AM → Prop) {M : AM} {a b L m l : Nat} {f : Nat → Ent} {s : Int} {g : Option Nat}
    (hI : ∀ i M1 M2, I i M1 → Same M1 M2 → I i M2)
    (hG : ∀ i M1, I i M1 → a < M1.nx ∧ b < M1.nx ∧ L < M1.nx ∧ (∃ r0 f0, M1.get a = some (.cells [.sl L 0 m m g] r0 f0)) ∧ (∃ r0 f0, M1.get b = some (.cells [.int .i64 s] r0 f0)) ∧ ∃ fz, M1.get L = some (.cells (entL f m) false fz))
    (hm : m ≤ 256) (hs : ∀ i, i < m → (f i).s = s)
    (hr : ∀ i M1, i < m → I i M1 → RoundTo E l [.int .i64 (.ofNat i), .agg (f i).av] M1 fun e M2 => e = .ret (.bool true) ∧ I (i + 1) M2) (h0 : I 0 M) (Q : KC) (hQ : ∀ M', I m M' → Q (.ret (.tup [])) M') :
    CallsTo E 288 [.fn (.yield l) [] [], .ptr a 0, .ptr b 0] M Q := by
  obtain ⟨la, lb, lL, ⟨ra, fa, ha⟩, ⟨rb, fb, hb⟩, fz, hL⟩ := hG _ _ h0
  refine call_rule F.f288 rfl (N 288 rfl) ?_
  refine w_seq ?_
  refine w_region ?_
  refine vv (e_loadn rfl F.na122 zS zC) ?_
  refine vv (e_len_sl rfl rfl rfl rfl F.u122) ?_
  refine vv (e_move rfl) ?_
  refine w_nil ?_
  refine k_seq ?_
  refine w_block ?_
  refine w_loop ?_
  refine loop_inv (fun z ρ D M' => D = [] ∧ ∃ i, z = m - i ∧ i ≤ m ∧ I i M' ∧ ρ 0 = some (.fn (.yield l) [] []) ∧ ρ 2 = some (.ptr b 0) ∧ ρ 6 = some (.sl L 0 m m g) ∧ ρ 7 = some (.int .i64 (.ofNat m)) ∧ ρ 8 = some (.int .i64 (.ofNat i))) ?_ m _ _ _ ⟨rfl, 0, rfl, Nat.zero_le _, h0, rfl, rfl, rfl, rfl, rfl⟩
  rintro z ρ D M' ⟨rfl, i, rfl, hi, hIi, g0', g2, g6, g7, g8⟩
  obtain ⟨la', lb', lL', ⟨ra', fa', ha'⟩, ⟨rb', fb', hb'⟩, fz', hL'⟩ := hG _ _ hIi
  rw [reg1 g0', reg1 g2, reg1 g6, reg1 g7, reg1 g8]
  refine w_seq ?_
  refine w_region ?_
  refine vv rfl ?_
  refine w_nil ?_
  refine k_seq ?_
  refine w_seq ?_
  refine w_cond rfl (fun h => ?_) (fun h => ?_)
  case refine_2 =>
    have he : i = m := by have := ilt_ge h; omega
    subst he
    refine w_exit ?_
    refine k_exit ?_
    refine k_exit ?_
    refine b_here ?_
    exact ⟨_, res_nil, hQ M' hIi⟩
  have hlt := ilt_lt h
  refine w_skip ?_
  refine k_seq ?_
  refine w_seq ?_
  refine w_block ?_
  refine w_seq ?_
  refine w_region ?_
  refine vv (e_move rfl) ?_
  refine vv (e_indexAddr rfl rfl F.u122 F.sz156 zD) ?_
  refine vv (e_loada rfl F.ag156 F.sz156 hL' (by rw [entL_len]; show 0 + i * 6 + 6 ≤ m * 6; omega)) ?_
  rw [entL_take f hlt]
  refine vv (e_alloc F.z156) ?_
  refine vv (e_assign rfl) ?_
  refine vd (e_store rfl rfl F.sz156 g0 zN rfl) ?_
  refine w_nil ?_
  refine k_seq ?_
  refine w_seq ?_
  refine w_region ?_
  refine vv (e_fa rfl F.fa156_0) ?_
  refine vv (e_loadn rfl F.na3 s0 zC) ?_
  refine vv (e_loadn rfl F.na3 (by first | assumption | exact g0 | exact s0 | (repeat first | assumption | exact g0 | exact s0 | refine gn zL ?_ | refine gs zL ?_)) zC) ?_
  refine vv rfl ?_
  refine vv (e_move rfl) ?_
  have he : ieqF (f i).s s = true := by rw [hs i hlt]; rw [ieqF_eq]; simp
  rw [he]
  refine vg (e_move rfl) ?_
  refine vg (e_move rfl) ?_
  refine vg (e_loada rfl F.ag156 F.sz156 s0 zN) ?_
  have hI2 : I i ((M'.new (.cells [.int .i64 0, .int .i64 0, .int .i64 0, .int .i64 0, .int .u64 0, .bool false] false false)).set M'.nx (some (.cells (f i).av false false))) := hI i _ _ hIi ((Same.refl M').new.set (Nat.le_refl _))
  refine vr (e_yield rfl rfl rfl) ((hr i _ hlt hI2).mono fun e M3 h3 => ?_)
  obtain ⟨rfl, hI3⟩ := h3
  refine ⟨_, rfl, ?_⟩
  refine vg rfl ?_
  refine vv rfl ?_
  refine w_nil ?_
  refine k_seq ?_
  refine vf ?_
  refine w_skip ?_
  refine b_normal ?_
  refine k_seq ?_
  refine w_region ?_
  refine vv rfl ?_
  refine vv (e_move rfl) ?_
  refine w_nil ?_
  refine k_seq ?_
  exact ⟨m - (i + 1), by omega, rfl, i + 1, rfl, hlt, hI3, rfl, rfl, rfl, rfl, inc64v (by omega)⟩
theorem least_ok {M : AM} {L m : Nat} {g : Option Nat} {fz : Bool} (hL : M.get L = some (.cells (entL (fun x => if x < m then frE else spE) m) false fz)) (lL : L < M.nx) (hm : m ≤ 256) (hm1 : 1 ≤ m) (Q : KC) (hQ : ∀ M', Same M M' → Q (.ret (.int .i64 0)) M') :
    CallsTo E 160 [.sl L 0 m m g] M Q := by
  refine call_rule F.f160 rfl (N 160 rfl) ?_
  refine w_seq ?_
  refine w_region ?_
  refine vv rfl ?_
  refine vv (e_assign rfl) ?_
  refine w_nil ?_
  refine k_seq ?_
  refine w_seq ?_
  refine w_region ?_
  refine vv (e_alloc F.z3) ?_
  refine vd (e_store rfl rfl F.sz3 g0 zN rfl) ?_
  refine w_nil ?_
  refine k_seq ?_
  refine w_seq ?_
  refine w_seq ?_
  refine w_region ?_
  refine vv (e_loadn rfl F.na122 (by first | assumption | exact g0 | exact s0 | (repeat first | assumption | exact g0 | exact s0 | refine gn zL ?_ | refine gs zL ?_)) zC) ?_
  refine vc (e_call rfl rfl F.f238 rfl) (blocks_ok F (N 238 rfl) _ _ _ rfl _ ?_)
  dsimp only
  refine w_nil ?_
  refine k_seq ?_
  refine w_block ?_
  refine w_rangeR (fun M3 => Same M M3 ∧ M3.get (M.nx + 1) = some (.cells [.int .i64 0] false false)) rfl (fun _ => a_callv F.f288 rfl) (fun M2 T s2 n2 hT hd hl => ?_) (fun M3 ob hR n3 hd3 => ?_)
  · simp only [AM.nx_new, AM.nx_set] at n2
    have x1 : M2.get M.nx = some (.cells [.sl L 0 m m g] false false) := (s2.2 _ (by simp only [AM.nx_new, AM.nx_set]; omega)).trans (gn (by simp only [AM.nx_new, AM.nx_set]; omega) (gn (by simp only [AM.nx_new, AM.nx_set]; omega) (gs (by simp only [AM.nx_new]; omega) (gn (by simp only [AM.nx_new]; omega) g0))))
    have x2 : M2.get (M.nx + 1) = some (.cells [.int .i64 (-1)] false false) := (s2.2 _ (by simp only [AM.nx_new, AM.nx_set]; omega)).trans (gn (by simp only [AM.nx_new, AM.nx_set]; omega) (gn (by simp only [AM.nx_new, AM.nx_set]; omega) s0))
    have x3 : M2.get (M.nx + 2) = some (.cells [.sl L 0 m m g] false false) := (s2.2 _ (by simp only [AM.nx_new, AM.nx_set]; omega)).trans (gn (by simp only [AM.nx_new, AM.nx_set]; omega) g0)
    have x4 : M2.get (M.nx + 3) = some (.cells [.int .i64 2] false false) := (s2.2 _ (by simp only [AM.nx_new, AM.nx_set]; omega)).trans g0
    have sM : Same M M2 := by
      refine Same.trans ?_ s2
      exact (((Same.refl M).new.new.set (by simp only [AM.nx_new]; omega)).new).new
    refine blocksY_ok F N R (fun i M1 => Same M M1 ∧ M.nx + 6 ≤ M1.nx ∧ M1.get M.nx = some (.cells [.sl L 0 m m g] false false) ∧ M1.get (M.nx + 1) = some (.cells [.int .i64 (if i = 0 then -1 else 0)] false false) ∧ M1.get (M.nx + 2) = some (.cells [.sl L 0 m m g] false false) ∧ M1.get (M.nx + 3) = some (.cells [.int .i64 2] false false) ∧ M1.get (M.nx + 4) = some (.dfr (some [])) ∧ M1.get (M.nx + 5) = M2.get (M.nx + 5))
      (L := L) (m := m) (f := fun x => if x < m then frE else spE) (s := 2) (g := g) ?_ ?_ hm (fun i hi => by rw [if_pos hi]; rfl) ?_ ⟨sM, by omega, x1, x2, x3, x4, hd, rfl⟩ _ ?_
    · rintro i M1 M3 ⟨a1, a2, a3, a4, a5, a6, a7, a8⟩ hs
      exact ⟨a1.trans hs, Nat.le_trans a2 hs.1, (hs.2 _ (by omega)).trans a3, (hs.2 _ (by omega)).trans a4, (hs.2 _ (by omega)).trans a5, (hs.2 _ (by omega)).trans a6, (hs.2 _ (by omega)).trans a7, (hs.2 _ (by omega)).trans a8⟩
    · rintro i M1 ⟨a1, a2, a3, a4, a5, a6, a7, a8⟩
      exact ⟨by simp only [AM.nx_new, AM.nx_set]; omega, by simp only [AM.nx_new, AM.nx_set]; omega, by omega, ⟨_, _, a5⟩, ⟨_, _, a6⟩, ⟨_, (a1.2 L lL).trans hL⟩⟩
    · rintro i M1 hi ⟨a1, a2, a3, a4, a5, a6, a7, a8⟩
      have hL1 := (a1.2 L lL).trans hL
      refine round_rule (a8.trans hl) (par_cons rfl (par_cons rfl (par_nil ?_)))
      rw [hT]
      refine w_seq ?_
      refine w_region ?_
      refine vv (e_assign rfl) ?_
      refine w_nil ?_
      refine k_seq ?_
      refine w_region ?_
      refine vv (e_alloc F.z156) ?_
      refine vd (e_store rfl rfl F.sz156 g0 zN rfl) ?_
      refine w_nil ?_
      refine ⟨rfl, rfl, _, _, _, _, _, _, gs (by simp only [AM.nx_new, AM.nx_set]; omega) (gn (by simp only [AM.nx_new, AM.nx_set]; omega) (a8.trans hl)), ?_⟩
      rw [if_pos hi]
      simp only [AM.nx_new, AM.nx_set]
      by_cases hi0 : i = 0
      · subst hi0
        rw [if_pos rfl] at a4
        refine w_block ?_
        refine w_seq ?_
        refine w_see (by decide +kernel) ?_
        refine lr (e_loadn rfl F.na3 (by first | assumption | exact g0 | exact s0 | (repeat first | assumption | exact g0 | exact s0 | refine gn zL ?_ | refine gs zL ?_)) zC) zA ?_
        refine lp rfl ?_
        refine lp (e_move rfl) ?_
        refine ln ?_
        refine ln ?_
        refine ln ?_
        refine ln ?_
        refine ln ?_
        refine ln ?_
        refine ln ?_
        refine ln ?_
        refine lp rfl ?_
        refine ws_nil ?_
        refine k_seq ?_
        refine vt ?_
        refine w_region ?_
        refine vv (e_move rfl) ?_
        refine vd (e_store rfl rfl F.sz3 (by first | assumption | exact g0 | exact s0 | (repeat first | assumption | exact g0 | exact s0 | refine gn zL ?_ | refine gs zL ?_)) zN rfl) ?_
        refine w_nil ?_
        refine b_normal ?_
        have gx : ∀ (o1 : AObj) (o2 o3 o4 o5 : Option AObj) x, x < M1.nx → x ≠ M.nx + 5 → x ≠ M.nx + 1 → (((((M1.new o1).set M1.nx o2).set (M.nx + 5) o3).set (M.nx + 1) o4).set (M.nx + 5) o5).get x = M1.get x := fun _ _ _ _ _ x h1 h2 h3 => gs (Ne.symm h2 ∘ Eq.symm) (gs (Ne.symm h3 ∘ Eq.symm) (gs (Ne.symm h2 ∘ Eq.symm) (gs (by omega) (AM.get_new_lt h1))))
        refine ⟨rfl, _, _, _, _, _, _, _, gs (by omega) s0, trivial, ⟨by simp only [AM.nx_set, AM.nx_new]; have := a1.1; omega, fun x hx => (gx _ _ _ _ _ x (by omega) (by omega) (by omega)).trans (a1.2 x hx)⟩, by simp only [AM.nx_set, AM.nx_new]; omega, (gx _ _ _ _ _ _ (by omega) (by omega) (by omega)).trans a3, ?_, (gx _ _ _ _ _ _ (by omega) (by omega) (by omega)).trans a5, (gx _ _ _ _ _ _ (by omega) (by omega) (by omega)).trans a6, (gx _ _ _ _ _ _ (by omega) (by omega) (by omega)).trans a7, s0.trans hl.symm⟩
        exact gs (by omega) (s0.trans rfl)
      · rw [if_neg hi0] at a4
        have hc0 : (entL (fun x => if x < m then frE else spE) m)[0 + 0 * 6 + 1]? = some (.int .i64 1) := (entL_get _ hm1 (by decide)).trans (by rw [if_pos (show 0 < m from hm1)]; rfl)
        refine w_block ?_
        refine w_seq ?_
        refine w_see (by decide +kernel) ?_
        refine lr (e_loadn rfl F.na3 (by first | assumption | exact g0 | exact s0 | (repeat first | assumption | exact g0 | exact s0 | refine gn zL ?_ | refine gs zL ?_)) zC) zA ?_
        refine lp rfl ?_
        refine lp (e_move rfl) ?_
        refine lp (e_fa rfl F.fa156_1) ?_
        refine lr (e_loadn rfl F.na3 (by first | assumption | exact g0 | exact s0 | (repeat first | assumption | exact g0 | exact s0 | refine gn zL ?_ | refine gs zL ?_)) zC) zA ?_
        refine lr (e_loadn rfl F.na122 (by first | assumption | exact g0 | exact s0 | (repeat first | assumption | exact g0 | exact s0 | refine gn zL ?_ | refine gs zL ?_)) zC) zA ?_
        refine lr (e_loadn rfl F.na3 (by first | assumption | exact g0 | exact s0 | (repeat first | assumption | exact g0 | exact s0 | refine gn zL ?_ | refine gs zL ?_)) zC) zA ?_
        refine lp (e_indexAddr rfl rfl F.u122 F.sz156 zD) ?_
        refine lp (e_fa rfl F.fa156_1) ?_
        refine lr (e_loadn rfl F.na3 (by first | assumption | exact g0 | exact s0 | (repeat first | assumption | exact g0 | exact s0 | refine gn zL ?_ | refine gs zL ?_)) zC) zA ?_
        refine lp rfl ?_
        refine lp rfl ?_
        refine ws_nil ?_
        refine k_seq ?_
        refine vf ?_
        refine w_skip ?_
        refine b_normal ?_
        have gx : ∀ (o1 : AObj) (o2 o3 o5 : Option AObj) x, x < M1.nx → x ≠ M.nx + 5 → ((((M1.new o1).set M1.nx o2).set (M.nx + 5) o3).set (M.nx + 5) o5).get x = M1.get x := fun _ _ _ _ x h1 h2 => gs (Ne.symm h2 ∘ Eq.symm) (gs (Ne.symm h2 ∘ Eq.symm) (gs (by omega) (AM.get_new_lt h1)))
        refine ⟨rfl, _, _, _, _, _, _, _, s0, trivial, ⟨by simp only [AM.nx_set, AM.nx_new]; have := a1.1; omega, fun x hx => (gx _ _ _ _ x (by omega) (by omega)).trans (a1.2 x hx)⟩, by simp only [AM.nx_set, AM.nx_new]; omega, (gx _ _ _ _ _ (by omega) (by omega)).trans a3, ?_, (gx _ _ _ _ _ (by omega) (by omega)).trans a5, (gx _ _ _ _ _ (by omega) (by omega)).trans a6, (gx _ _ _ _ _ (by omega) (by omega)).trans a7, s0.trans hl.symm⟩
        exact (gx _ _ _ _ _ (by omega) (by omega)).trans (a4.trans rfl)
    · rintro M3 ⟨a1, a2, a3, a4, a5, a6, a7, a8⟩
      rw [if_neg (by omega)] at a4
      exact ⟨_, rfl, by omega, a7, ⟨_, _, _, _, _, a8.trans hl⟩, a1, a4⟩
  · obtain ⟨r1, r2⟩ := hR
    simp only [AM.nx_new, AM.nx_set] at n3
    have hb3 : (M3.set (M.nx + 5) ob).get (M.nx + 1) = some (.cells [.int .i64 0] false false) := gs (by omega) r2
    refine b_normal ?_
    refine k_seq ?_
    refine w_seq ?_
    refine w_region ?_
    refine vv (e_loadn rfl F.na3 zS zC) ?_
    refine vv (e_assign rfl) ?_
    refine w_nil ?_
    refine k_seq ?_
    refine w_ret ?_
    exact def_coll (gs (by simp only [AM.nx_new, AM.nx_set]; omega) hd3) ⟨_, res_tmp rfl res_nil, hQ _ ((r1.set (by simp only [AM.nx_new, AM.nx_set]; omega)).set (by simp only [AM.nx_new, AM.nx_set]; omega))⟩
end
end Go.Abm.Seat

open Go Go.Abm
set_option maxRecDepth 100000
set_option maxHeartbeats 4000000
namespace Go.Abm.Seat
section
variable {E : Env} (F : Facts E) (N : NS E) (R : RS E)
include F N R
theorem power_ok {M : AM} {m L Z c B p0 bl pg sz rs : Nat} {f : Nat → Ent} {z : Nat → Int} {q : Int} {nx : Nat → Nat} {pcs : Nat → List AV} (hM : Mgr M m L Z c B p0 bl pg sz rs f z q nx pcs) (Q : KC) (hQ : Q (.ret (.int .i64 0)) M) : CallsTo E 81 [.ptr m 0] M Q := by
  obtain ⟨fz, hm⟩ := hM.hm
  refine call_rule F.f81 rfl (N 81 rfl) ?_
  refine w_seq ?_
  refine w_region ?_
  refine vv (e_assign rfl) ?_
  refine w_nil ?_
  refine k_seq ?_
  refine w_seq ?_
  refine w_seq ?_
  refine w_region ?_
  refine vv (e_move rfl) ?_
  refine vv rfl ?_
  refine vv (e_fa rfl F.fa124_5) ?_
  refine vv (e_loadn rfl F.na4 zS zC) ?_
  refine vv (e_move rfl) ?_
  refine vg (e_move rfl) ?_
  refine vg rfl ?_
  refine vg (e_fa rfl F.fa124_0) ?_
  refine vg (e_loadn rfl F.na39 zS zC) ?_
  refine vc (e_call rfl rfl F.f55 rfl) (on_c F (N 55 rfl) hM.ch _ ?_)
  dsimp only
  refine vg rfl ?_
  refine vv rfl ?_
  refine w_nil ?_
  refine k_seq ?_
  refine vf ?_
  refine w_skip ?_
  refine k_seq ?_
  refine w_seq ?_
  refine w_region ?_
  refine vv (e_assign rfl) ?_
  refine w_nil ?_
  refine k_seq ?_
  refine w_ret ?_
  exact ⟨_, res_tmp rfl res_nil, hQ⟩
theorem leastm_ok {M : AM} {m L Z c B p0 bl pg sz rs : Nat} {z : Nat → Int} {q : Int} {nx : Nat → Nat} {pcs : Nat → List AV} (hM : Mgr M m L Z c B p0 bl pg sz rs (fun x => if x < bl then frE else spE) z q nx pcs) (hg : Geo bl pg sz rs) (Q : KC) (hQ : ∀ M', Same M M' → Q (.ret (.int .i64 0)) M') : CallsTo E 88 [.ptr m 0] M Q := by
  obtain ⟨fz, hm⟩ := hM.hm
  obtain ⟨fL, hL⟩ := hM.hL
  refine call_rule F.f88 rfl (N 88 rfl) ?_
  refine w_seq ?_
  refine w_region ?_
  refine vv (e_assign rfl) ?_
  refine w_nil ?_
  refine k_seq ?_
  refine w_seq ?_
  refine w_region ?_
  refine vv (e_move rfl) ?_
  refine vv rfl ?_
  refine vv (e_fa rfl F.fa124_2) ?_
  refine vv (e_loadn rfl F.na122 zS zC) ?_
  refine vc (e_call rfl rfl F.f160 rfl) (least_ok F N R hL hM.lt.2.1 hg.b2 (by have := hg.b1; omega) _ (fun M1 s1 => ?_))
  dsimp only
  refine vv (e_assign rfl) ?_
  refine w_nil ?_
  refine k_seq ?_
  refine w_ret ?_
  exact ⟨_, res_tmp rfl res_nil, hQ _ s1⟩
theorem chg1_ok {M : AM} {x : Nat} {v : AV} {r1 f1 : Bool} (h : M.get x = some (.cells [v] r1 f1)) (Q : KC) (hQ : Q (.ret (.tup [v, .nili])) M) : CallsTo E 249 [.ptr x 0] M Q := by
  refine call_rule F.f249 rfl (N 249 rfl) ?_
  refine w_seq ?_
  refine w_region ?_
  refine vv (e_assign rfl) ?_
  refine vv (e_assign rfl) ?_
  refine w_nil ?_
  refine k_seq ?_
  refine w_seq ?_
  refine w_region ?_
  refine vv (e_loadn rfl F.na151 zS zC) ?_
  refine vv (e_assign rfl) ?_
  refine vv (e_assign rfl) ?_
  refine w_nil ?_
  refine k_seq ?_
  refine w_ret ?_
  exact ⟨_, res_tmp rfl (res_tmp rfl res_nil), hQ⟩
structure Put1 (M M' : AM) (m L Z c B p0 bl pg sz rs : Nat) (f : Nat → Ent) (z : Nat → Int) (nx : Nat → Nat) (pcs : Nat → List AV) (bs : List Nat) (nx' : Nat → Nat) (pcs' : Nat → List AV) (X : Nat) : Prop where
  ex : Ex (OwnM m L Z c B p0 bl) M M'
  mgr : Mgr M' m L Z c B p0 bl pg sz rs (fun x => if x = 0 then usE else f x) z 1 nx' pcs'
  oth : ∀ x, x ≠ 0 → nx' x = nx x ∧ pcs' x = pcs x
  n3 : nx' 0 = 3
  pg2 : ((pcs' 0).drop (0 + 2 * 2)).take 2 = [.int .i64 1, .sl X 0 bs.length bs.length (some 1)]
  hX : M'.get X = some (.cells (byteL bs) false false)
  lX : X < M'.nx
theorem place_ok {M : AM} {m L Z c B p0 bl pg sz rs : Nat} {z : Nat → Int} {nx : Nat → Nat} {pcs : Nat → List AV} (hM : Mgr M m L Z c B p0 bl pg sz rs (fun x => if x < bl then frE else spE) z 0 nx pcs) (hg : Geo bl pg sz rs) (hx : nx 0 = 1)
    {PB cp tb : Nat} {g : Option Nat} {v : AV} {bs : List Nat} {r1 f1 r2 f2 : Bool} (hP : M.get PB = some (.cells [v] r1 f1)) (lP : PB < M.nx) (oP : ¬OwnM m L Z c B p0 bl PB) (hb : Bts M v bs) (ob : ¬OwnM m L Z c B p0 bl (blk v)) (b1 : 1 ≤ bs.length) (b2 : bs.length ≤ sz)
    (ht : M.get tb = some (.cells [.sl PB 0 1 cp g] r2 f2)) (lt : tb < M.nx) (Q : KC)
    (hQ : ∀ M' X nx' pcs', Put1 M M' m L Z c B p0 bl pg sz rs (fun x => if x < bl then frE else spE) z nx pcs bs nx' pcs' X → Q (.ret (.tup [.int .i64 0, .nili])) M') :
    CallsTo E 157 [.ptr m 0, .int .i64 0, .int .i64 1, .fn (.func 249) [] [.ptr tb 0], .fn (.func 88) [.ptr m 0] []] M Q := by
  have hb1 := hg.b1
  refine call_rule F.f157 rfl (N 157 rfl) ?_
  refine w_seq ?_
  refine w_region ?_
  refine vv (e_assign rfl) ?_
  refine vv (e_assign rfl) ?_
  refine w_nil ?_
  refine k_seq ?_
  refine w_block ?_
  refine w_loop ?_
  refine loop_inv (fun w ρ D M' => D = [] ∧ M' = M ∧ ρ 0 = some (.ptr m 0) ∧ ρ 1 = some (.int .i64 0) ∧ ρ 2 = some (.int .i64 1) ∧ ρ 3 = some (.fn (.func 249) [] [.ptr tb 0]) ∧ ρ 4 = some (.fn (.func 88) [.ptr m 0] [])) ?_ 0 _ _ _ ⟨rfl, rfl, rfl, rfl, rfl, rfl, rfl⟩
  rintro w ρ D M' ⟨rfl, rfl, g0, g1, g2, g3, g4⟩
  rw [reg1 g0, reg1 g1, reg1 g2, reg1 g3, reg1 g4]
  refine w_block ?_
  refine w_seq ?_
  refine w_region ?_
  refine vv (e_move rfl) ?_
  refine vc (e_callv rfl rfl rfl F.f88 rfl) (leastm_ok F N R hM hg _ (fun M1 s1 => ?_))
  dsimp only
  refine vv (e_assign rfl) ?_
  refine w_nil ?_
  refine k_seq ?_
  refine w_seq ?_
  refine w_seq ?_
  refine w_region ?_
  refine vv (e_move rfl) ?_
  refine vv rfl ?_
  refine w_nil ?_
  refine k_seq ?_
  refine vf ?_
  refine w_skip ?_
  refine k_seq ?_
  refine w_seq ?_
  refine w_region ?_
  refine vv (e_move rfl) ?_
  refine vc (e_callv rfl rfl rfl F.f249 rfl) (chg1_ok F N R ((s1.2 tb lt).trans ht) _ ?_)
  dsimp only
  refine vv (e_move rfl) ?_
  refine vv rfl ?_
  refine vv rfl ?_
  refine vv (e_assign rfl) ?_
  refine vv (e_assign rfl) ?_
  refine w_nil ?_
  refine k_seq ?_
  refine w_seq ?_
  refine w_seq ?_
  refine w_region ?_
  refine vv (e_move rfl) ?_
  refine vv (e_eqlin rfl rfl rfl F.ii63) ?_
  refine w_nil ?_
  refine k_seq ?_
  refine vt ?_
  refine w_region ?_
  refine vv (e_move rfl) ?_
  refine vv (e_move rfl) ?_
  refine vv (e_move rfl) ?_
  refine vv (e_move rfl) ?_
  refine vv (e_move rfl) ?_
  refine vc (e_call rfl rfl F.f236 rfl) (mfill_ok F N R (n := 0) (hM.same s1) hg (by omega) (if_pos (by omega)) hx ((s1.2 PB lP).trans hP) (by have := s1.1; omega) oP (hb.same s1) ob b1 b2 _ (fun M2 X nx' pcs' e2 m2 o2 n2 p2 x2 l2 => ?_))
  dsimp only
  refine vv (e_assign rfl) ?_
  refine w_nil ?_
  refine k_seq ?_
  refine w_seq ?_
  refine w_seq ?_
  refine w_region ?_
  refine vv (e_move rfl) ?_
  refine vv (e_eqlin rfl rfl rfl F.ii63) ?_
  refine vv (e_move rfl) ?_
  refine vn ?_
  refine vn ?_
  refine vn ?_
  refine vn ?_
  refine vv rfl ?_
  refine w_nil ?_
  refine k_seq ?_
  refine vt ?_
  refine w_seq ?_
  refine w_region ?_
  refine vv (e_move rfl) ?_
  refine vv (e_move rfl) ?_
  refine vv (e_assign rfl) ?_
  refine vv (e_assign rfl) ?_
  refine w_nil ?_
  refine k_seq ?_
  refine w_ret ?_
  refine k_ret ?_
  refine b_ret ?_
  refine k_ret ?_
  refine b_ret ?_
  exact ⟨_, res_tmp rfl (res_tmp rfl res_nil), hQ M2 X nx' pcs' ⟨(Ex.of s1).trans e2, m2, o2, n2, p2, x2, l2⟩⟩
end
end Go.Abm.Seat

open Go Go.Abm
set_option maxRecDepth 100000
set_option maxHeartbeats 4000000
namespace Go.Abm.Seat
section
variable {E : Env} (F : Facts E) (N : NS E) (R : RS E)
include F N R
theorem moved_ok {M : AM} {m L Z c B p0 bl pg sz rs : Nat} {nx : Nat → Nat} {pcs : Nat → List AV} (hM : Mgr M m L Z c B p0 bl pg sz rs (fun x => if x < bl then frE else spE) (fun _ => -1) 0 nx pcs) (hg : Geo bl pg sz rs) (hx : nx 0 = 1)
    {PB cp tb : Nat} {g : Option Nat} {v : AV} {bs : List Nat} {r1 f1 r2 f2 : Bool} (hP : M.get PB = some (.cells [v] r1 f1)) (lP : PB < M.nx) (oP : ¬OwnM m L Z c B p0 bl PB) (hb : Bts M v bs) (ob : ¬OwnM m L Z c B p0 bl (blk v)) (b1 : 1 ≤ bs.length) (b2 : bs.length ≤ sz)
    (ht : M.get tb = some (.cells [.sl PB 0 1 cp g] r2 f2)) (lt : tb < M.nx) (Q : KC)
    (hQ : ∀ M' X nx' pcs', Ex (OwnM m L Z c B p0 bl) M M' → Mgr M' m L Z c B p0 bl pg sz rs (fun x => if x = 0 then usE else if x < bl then frE else spE) (fun x => if x = 0 then 0 else -1) 1 nx' pcs' → nx' 0 = 3 → ((pcs' 0).drop (0 + 2 * 2)).take 2 = [.int .i64 1, .sl X 0 bs.length bs.length (some 1)] → M'.get X = some (.cells (byteL bs) false false) → X < M'.nx → Q (.ret .nili) M') :
    CallsTo E 83 [.ptr m 0, .int .i64 0, .int .i64 1, .fn (.func 249) [] [.ptr tb 0], .fn (.func 88) [.ptr m 0] []] M Q := by
  have hb1 := hg.b1
  have hr1 := hg.r1
  obtain ⟨fz, hm⟩ := hM.hm
  obtain ⟨fZ, hZ⟩ := hM.hZ
  refine call_rule F.f83 rfl (N 83 rfl) ?_
  have h0 : 0 < bl - rs - 2 := by omega
  have hz0 := intL_get (fun _ => -1) h0
  refine w_seq ?_
  refine w_region ?_
  refine vv (e_assign rfl) ?_
  refine w_nil ?_
  refine k_seq ?_
  refine w_seq ?_
  refine w_region ?_
  refine vv (e_move rfl) ?_
  refine vv rfl ?_
  refine vv (e_fa rfl F.fa124_3) ?_
  refine vv (e_loadn rfl F.na59 zS zC) ?_
  refine vv (e_move rfl) ?_
  refine vv (e_indexAddr rfl rfl F.u59 F.sz3 zD) ?_
  refine vv (e_loadn rfl F.na3 zS zC) ?_
  refine vv (e_assign rfl) ?_
  refine w_nil ?_
  refine k_seq ?_
  refine w_seq ?_
  refine w_region ?_
  refine vv (e_move rfl) ?_
  refine vv (e_move rfl) ?_
  refine vv (e_move rfl) ?_
  refine vv (e_move rfl) ?_
  refine vv (e_move rfl) ?_
  refine vc (e_call rfl rfl F.f157 rfl) (place_ok F N R hM hg hx hP lP oP hb ob b1 b2 ht lt _ (fun M1 X nx' pcs' P1 => ?_))
  dsimp only
  obtain ⟨fz1, hm1⟩ := P1.mgr.hm
  obtain ⟨fZ1, hZ1⟩ := P1.mgr.hZ
  refine vv (e_move rfl) ?_
  refine vv rfl ?_
  refine vv rfl ?_
  refine vv (e_assign rfl) ?_
  refine vv (e_assign rfl) ?_
  refine w_nil ?_
  refine k_seq ?_
  refine w_seq ?_
  refine w_seq ?_
  refine w_region ?_
  refine vv (e_move rfl) ?_
  refine vv (e_neqin rfl rfl rfl F.ii63) ?_
  refine w_nil ?_
  refine k_seq ?_
  refine vf ?_
  refine w_skip ?_
  refine k_seq ?_
  refine w_seq ?_
  refine w_region ?_
  refine vv (e_move rfl) ?_
  refine vv rfl ?_
  refine vv (e_fa rfl F.fa124_3) ?_
  refine vv (e_loadn rfl F.na59 zS zC) ?_
  refine vv (e_move rfl) ?_
  refine vv (e_move rfl) ?_
  refine vv (e_indexAddr rfl rfl F.u59 F.sz3 zD) ?_
  refine vd (e_store rfl rfl F.sz3 hZ1 (by rw [intL_len]; show 0 + 0 * 1 + 1 ≤ _; omega) rfl) ?_
  have en := intL_put (fun _ => -1) 0 h0
  have mL := P1.mgr.putZ (fun x => if x = 0 then 0 else -1) fZ1
  have eL : Ex (OwnM m L Z c B p0 bl) M (M1.set Z (some (.cells (intL (fun x => if x = 0 then 0 else -1) (bl - rs - 2)) false fZ1))) := P1.ex.set (.inr (.inr (.inr (.inr rfl))))
  have lZ := P1.mgr.lt.2.2
  have hXZ : X ≠ Z := fun e => by
    have := P1.hX
    rw [e, hZ1] at this
    injection this with this
    injection this with this
    have h1 := intL_get (fun _ => (-1 : Int)) h0
    rw [this, byteL, List.getElem?_map] at h1
    cases h2 : bs[0 + 0 * 1]? with
    | none => rw [h2] at h1; cases h1
    | some w => rw [h2] at h1; injection h1 with h1; cases h1
  have hX' : (M1.set Z (some (.cells (intL (fun x => if x = 0 then 0 else -1) (bl - rs - 2)) false fZ1))).get X = some (.cells (byteL bs) false false) := gs hXZ P1.hX
  rw [← en] at eL mL hX'
  refine w_nil ?_
  refine k_seq ?_
  refine w_seq ?_
  refine w_seq ?_
  refine w_region ?_
  refine vv (e_move rfl) ?_
  refine vv rfl ?_
  refine w_nil ?_
  refine k_seq ?_
  refine vt ?_
  refine w_seq ?_
  refine w_region ?_
  refine vv (e_assign rfl) ?_
  refine w_nil ?_
  refine k_seq ?_
  refine w_ret ?_
  refine k_ret ?_
  exact ⟨_, res_tmp rfl res_nil, hQ _ X nx' pcs' eL mL P1.n3 P1.pg2 hX' (by rw [AM.nx_set]; exact P1.lX)⟩
theorem ready1_ok {M : AM} {m L Z c B p0 bl pg sz rs : Nat} {f : Nat → Ent} {z : Nat → Int} {q : Int} {nx : Nat → Nat} {pcs : Nat → List AV} (hM : Mgr M m L Z c B p0 bl pg sz rs f z q nx pcs) {x db o n cp : Nat} {g : Option Nat} {r1 f1 : Bool} (h : M.get x = some (.cells [.ptr m 0] r1 f1)) (hn : n ≤ sz) (Q : KC) (hQ : Q (.ret (.bool false)) M) : CallsTo E 268 [.sl db o n cp g, .ptr x 0] M Q := by
  obtain ⟨fz, hm⟩ := hM.hm
  refine call_rule F.f268 rfl (N 268 rfl) ?_
  refine w_seq ?_
  refine w_region ?_
  refine vv (e_assign rfl) ?_
  refine w_nil ?_
  refine k_seq ?_
  refine w_seq ?_
  refine w_region ?_
  refine vv (e_move rfl) ?_
  refine vv (e_len_sl rfl rfl rfl rfl F.u157) ?_
  refine vv (e_loadn rfl F.na46 zS zC) ?_
  refine vv rfl ?_
  refine vv (e_fa rfl F.fa124_1) ?_
  refine vv (e_fa rfl F.fa23_2) ?_
  refine vv (e_loadn rfl F.na3 zS zC) ?_
  refine vv rfl ?_
  refine vv (e_assign rfl) ?_
  refine w_nil ?_
  refine k_seq ?_
  refine w_ret ?_
  rw [show iltF (.ofNat sz) (.ofNat n) = false from ilt_f hn]
  exact ⟨_, res_tmp rfl res_nil, hQ⟩
theorem indexf_ok {M : AM} {m L Z c B p0 bl pg sz rs : Nat} {f : Nat → Ent} {z : Nat → Int} {q : Int} {nx : Nat → Nat} {pcs : Nat → List AV} (hM : Mgr M m L Z c B p0 bl pg sz rs f z q nx pcs) {x PB cp db o n cp2 : Nat} {g g2 : Option Nat} {r1 f1 r2 f2 : Bool} (h : M.get x = some (.cells [.ptr m 0] r1 f1)) (hP : M.get PB = some (.cells [.sl db o n cp2 g2] r2 f2)) (hn : n ≤ sz) (Q : KC) (hQ : Q (.ret (.int .i64 (-1))) M) : CallsTo E 308 [.sl PB 0 1 cp g, .fn (.func 268) [] [.ptr x 0]] M Q := by
  refine call_rule F.f308 rfl (N 308 rfl) ?_
  refine w_seq ?_
  refine w_region ?_
  refine vv (e_assign rfl) ?_
  refine w_nil ?_
  refine k_seq ?_
  refine w_seq ?_
  refine w_seq ?_
  refine w_region ?_
  refine vv (e_move rfl) ?_
  refine vv (e_len_sl rfl rfl rfl rfl F.u151) ?_
  refine vv (e_move rfl) ?_
  refine w_nil ?_
  refine k_seq ?_
  refine w_block ?_
  refine w_loop ?_
  refine loop_inv (fun w ρ D M' => D = [] ∧ M' = M ∧ ρ 0 = some (.sl PB 0 1 cp g) ∧ ρ 1 = some (.fn (.func 268) [] [.ptr x 0]) ∧ ρ 7 = some (.int .i64 (.ofNat 1)) ∧ ((w = 1 ∧ ρ 8 = some (.int .i64 (.ofNat 0))) ∨ (w = 0 ∧ ρ 8 = some (.int .i64 (.ofNat 1))))) ?_ 1 _ _ _ ⟨rfl, rfl, rfl, rfl, rfl, .inl ⟨rfl, rfl⟩⟩
  rintro w ρ D M' ⟨rfl, rfl, g0, g1, g7, ⟨rfl, g8⟩ | ⟨rfl, g8⟩⟩
  · rw [reg1 g0, reg1 g1, reg1 g7, reg1 g8]
    refine w_seq ?_
    refine w_region ?_
    refine vv rfl ?_
    refine w_nil ?_
    refine k_seq ?_
    refine w_seq ?_
    refine vt ?_
    refine w_skip ?_
    refine k_seq ?_
    refine w_seq ?_
    refine w_block ?_
    refine w_seq ?_
    refine w_region ?_
    refine vv (e_move rfl) ?_
    refine vv (e_assign rfl) ?_
    refine w_nil ?_
    refine k_seq ?_
    refine w_seq ?_
    refine w_region ?_
    refine vv (e_move rfl) ?_
    refine vv (e_move rfl) ?_
    refine vv (e_move rfl) ?_
    refine vv (e_indexAddr rfl rfl F.u151 F.sz157 zD) ?_
    refine vv (e_loadn rfl F.na157 zS zC) ?_
    refine vc (e_callv rfl rfl rfl F.f268 rfl) (ready1_ok F N R hM h hn _ ?_)
    dsimp only
    refine w_nil ?_
    refine k_seq ?_
    refine vf ?_
    refine w_skip ?_
    refine b_normal ?_
    refine k_seq ?_
    refine w_region ?_
    refine vv rfl ?_
    refine vv (e_move rfl) ?_
    refine w_nil ?_
    refine k_seq ?_
    exact ⟨0, by decide, rfl, rfl, rfl, rfl, rfl, .inr ⟨rfl, rfl⟩⟩
  · rw [reg1 g0, reg1 g1, reg1 g7, reg1 g8]
    refine w_seq ?_
    refine w_region ?_
    refine vv rfl ?_
    refine w_nil ?_
    refine k_seq ?_
    refine w_seq ?_
    refine vf ?_
    refine w_exit ?_
    refine k_exit ?_
    refine k_exit ?_
    refine b_here ?_
    refine k_seq ?_
    refine w_seq ?_
    refine w_region ?_
    refine vv (e_assign rfl) ?_
    refine w_nil ?_
    refine k_seq ?_
    refine w_ret ?_
    exact ⟨_, res_tmp rfl res_nil, hQ⟩
theorem contains_ok {M : AM} {m L Z c B p0 bl pg sz rs : Nat} {f : Nat → Ent} {z : Nat → Int} {q : Int} {nx : Nat → Nat} {pcs : Nat → List AV} (hM : Mgr M m L Z c B p0 bl pg sz rs f z q nx pcs) {x PB cp db o n cp2 : Nat} {g g2 : Option Nat} {r1 f1 r2 f2 : Bool} (h : M.get x = some (.cells [.ptr m 0] r1 f1)) (hP : M.get PB = some (.cells [.sl db o n cp2 g2] r2 f2)) (hn : n ≤ sz) (Q : KC) (hQ : Q (.ret (.bool false)) M) : CallsTo E 267 [.sl PB 0 1 cp g, .fn (.func 268) [] [.ptr x 0]] M Q := by
  refine call_rule F.f267 rfl (N 267 rfl) ?_
  refine w_seq ?_
  refine w_region ?_
  refine vv (e_assign rfl) ?_
  refine w_nil ?_
  refine k_seq ?_
  refine w_seq ?_
  refine w_region ?_
  refine vv (e_move rfl) ?_
  refine vv (e_move rfl) ?_
  refine vc (e_call rfl rfl F.f308 rfl) (indexf_ok F N R hM h hP hn _ ?_)
  dsimp only
  refine vv rfl ?_
  refine vv (e_assign rfl) ?_
  refine w_nil ?_
  refine k_seq ?_
  refine w_ret ?_
  exact ⟨_, res_tmp rfl res_nil, hQ⟩
theorem ready_ok' {M : AM} {m L Z c B p0 bl pg sz rs : Nat} {f : Nat → Ent} {z : Nat → Int} {q : Int} {nx : Nat → Nat} {pcs : Nat → List AV} (hM : Mgr M m L Z c B p0 bl pg sz rs f z q nx pcs) (hg : Geo bl pg sz rs) (hs : ∀ i, i < bl → (f i).s ≠ 1) {PB cp db o n cp2 : Nat} {g g2 : Option Nat} {r2 f2 : Bool} (hP : M.get PB = some (.cells [.sl db o n cp2 g2] r2 f2)) (lP : PB < M.nx) (hn : n ≤ sz) (Q : KC) (hQ : ∀ M', Same M M' → Q (.ret (.int .i64 0)) M') : CallsTo E 195 [.ptr m 0, .int .i64 0, .sl PB 0 1 cp g] M Q := by
  have hb1 := hg.b1
  have hr1 := hg.r1
  have hp1 := hg.p1
  have hp2 := hg.p2
  have sN : Same M (M.new (.cells [.ptr m 0] false false)) := (Same.refl M).new
  have hMn := hM.same sN
  obtain ⟨fz, hm⟩ := hMn.hm
  have hPn := (sN.2 PB lP).trans hP
  have hbx : (M.new (.cells [.ptr m 0] false false)).get M.nx = some (.cells [.ptr m 0] false false) := g0
  refine call_rule F.f195 rfl (N 195 rfl) ?_
  refine w_seq ?_
  refine w_region ?_
  refine vv rfl ?_
  refine vv (e_assign rfl) ?_
  refine w_nil ?_
  refine k_seq ?_
  refine w_seq ?_
  refine w_seq ?_
  refine w_region ?_
  refine vv (e_loadn rfl F.na46 zS zC) ?_
  refine vv (e_eqlp rfl rfl F.u46) ?_
  refine w_nil ?_
  refine k_seq ?_
  refine vf ?_
  refine w_skip ?_
  refine k_seq ?_
  refine w_seq ?_
  refine w_seq ?_
  refine w_region ?_
  refine vv (e_move rfl) ?_
  refine vv rfl ?_
  refine vv (e_move rfl) ?_
  refine vg (e_move rfl) ?_
  refine vg (e_loadn rfl F.na46 zS zC) ?_
  refine vg rfl ?_
  refine vg (e_fa rfl F.fa124_3) ?_
  refine vg (e_loadn rfl F.na59 zS zC) ?_
  refine vg (e_len_sl rfl rfl rfl rfl F.u59) ?_
  refine vg rfl ?_
  refine vv rfl ?_
  refine vv (e_move rfl) ?_
  rw [show iltF 0 (.ofNat (bl - rs - 2)) = true from ilt_t (a := 0) (by omega)]
  refine vg (e_move rfl) ?_
  refine vg (e_len_sl rfl rfl rfl rfl F.u151) ?_
  refine vg (e_loadn rfl F.na46 zS zC) ?_
  refine vc (e_call rfl rfl F.f61 rfl) (mpages_ok F hMn hp1 (N 61 rfl) _ ?_)
  dsimp only
  rw [show wrapFast .i64 (subF (.ofNat pg) 2) = .ofNat (pg - 2) from sub64 (b := 2) (by omega) (by omega)]
  refine vg rfl ?_
  refine vv rfl ?_
  refine vv (e_move rfl) ?_
  rw [show iltF (.ofNat (pg - 2)) (.ofNat 1) = false from ilt_f (by omega)]
  refine vg (e_move rfl) ?_
  refine vg rfl ?_
  refine vc (e_call rfl rfl F.f267 rfl) (contains_ok F N R hMn hbx hPn hn _ ?_)
  dsimp only
  refine vv rfl ?_
  refine w_nil ?_
  refine k_seq ?_
  refine vf ?_
  refine w_skip ?_
  refine k_seq ?_
  refine w_seq ?_
  refine w_seq ?_
  refine w_region ?_
  refine vv (e_loadn rfl F.na46 zS zC) ?_
  refine vc (e_call rfl rfl F.f81 rfl) (power_ok F N R hMn _ ?_)
  dsimp only
  refine vv (e_assign rfl) ?_
  refine w_nil ?_
  refine k_seq ?_
  refine w_seq ?_
  refine w_region ?_
  refine vv (e_move rfl) ?_
  refine vv rfl ?_
  refine w_nil ?_
  refine k_seq ?_
  refine vf ?_
  refine w_skip ?_
  refine k_seq ?_
  refine w_seq ?_
  refine w_seq ?_
  refine w_region ?_
  refine vv (e_loadn rfl F.na46 zS zC) ?_
  refine vc (e_call rfl rfl F.f23 rfl) (spent_ok F (N 59 rfl) (N 23 rfl) hMn hg hs _ (fun M2 s2 => ?_))
  dsimp only
  refine w_nil ?_
  refine k_seq ?_
  refine vf ?_
  refine w_skip ?_
  refine k_seq ?_
  refine w_seq ?_
  refine w_region ?_
  refine vv (e_assign rfl) ?_
  refine w_nil ?_
  refine k_seq ?_
  refine w_ret ?_
  exact ⟨_, res_tmp rfl res_nil, hQ _ (sN.trans s2)⟩
theorem change_ok {M : AM} {m L Z c B p0 bl pg sz rs : Nat} {nx : Nat → Nat} {pcs : Nat → List AV} (hM : Mgr M m L Z c B p0 bl pg sz rs (fun x => if x < bl then frE else spE) (fun _ => -1) 0 nx pcs) (hg : Geo bl pg sz rs) (hx : nx 0 = 1)
    {PB cp : Nat} {g : Option Nat} {v : AV} {bs : List Nat} {r1 f1 : Bool} (hP : M.get PB = some (.cells [v] r1 f1)) (lP : PB < M.nx) (oP : ¬OwnM m L Z c B p0 bl PB) (hb : Bts M v bs) (ob : ¬OwnM m L Z c B p0 bl (blk v)) (b1 : 1 ≤ bs.length) (b2 : bs.length ≤ sz) (Q : KC)
    (hQ : ∀ M' X nx' pcs', Ex (OwnM m L Z c B p0 bl) M M' → Mgr M' m L Z c B p0 bl pg sz rs (fun x => if x = 0 then usE else if x < bl then frE else spE) (fun x => if x = 0 then 0 else -1) 1 nx' pcs' → nx' 0 = 3 → ((pcs' 0).drop (0 + 2 * 2)).take 2 = [.int .i64 1, .sl X 0 bs.length bs.length (some 1)] → M'.get X = some (.cells (byteL bs) false false) → X < M'.nx → Q (.ret (.int .i64 0)) M') :
    CallsTo E 174 [.ptr m 0, .int .i64 0, .sl PB 0 1 cp g] M Q := by
  have sN : Same M (M.new (.cells [.sl PB 0 1 cp g] false false)) := (Same.refl M).new
  have hb0 := hb
  obtain ⟨db, o, dc, dg, l, ro, fzd, rfl, d2, d3, d4, d5, d6, d7, d8⟩ := hb0
  have hbx : (M.new (.cells [.sl PB 0 1 cp g] false false)).get M.nx = some (.cells [.sl PB 0 1 cp g] false false) := g0
  refine call_rule F.f174 rfl (N 174 rfl) ?_
  refine w_seq ?_
  refine w_region ?_
  refine vv rfl ?_
  refine vv (e_assign rfl) ?_
  refine w_nil ?_
  refine k_seq ?_
  refine w_seq ?_
  refine w_seq ?_
  refine w_region ?_
  refine vv (e_move rfl) ?_
  refine vv (e_move rfl) ?_
  refine vv (e_loadn rfl F.na151 zS zC) ?_
  refine vc (e_call rfl rfl F.f195 rfl) (ready_ok' F N R (hM.same sN) hg (fun i hi => by rw [if_pos hi]; decide) ((sN.2 PB lP).trans hP) (Nat.lt_succ_of_lt lP) b2 _ (fun M2 s2 => ?_))
  dsimp only
  have sA := sN.trans s2
  have hb2 := (s2.2 M.nx (Nat.lt_succ_self _)).trans hbx
  refine vv (e_assign rfl) ?_
  refine w_nil ?_
  refine k_seq ?_
  refine w_seq ?_
  refine w_region ?_
  refine vv (e_move rfl) ?_
  refine vv rfl ?_
  refine w_nil ?_
  refine k_seq ?_
  refine vf ?_
  refine w_skip ?_
  refine k_seq ?_
  refine w_seq ?_
  refine w_region ?_
  refine vv (e_move rfl) ?_
  refine vv (e_move rfl) ?_
  refine vv (e_loadn rfl F.na151 zS zC) ?_
  refine vv (e_len_sl rfl rfl rfl rfl F.u151) ?_
  refine vv rfl ?_
  refine vv (e_move rfl) ?_
  refine vv rfl ?_
  refine vc (e_call rfl rfl F.f83 rfl) (moved_ok F N R (hM.same sA) hg hx ((sA.2 PB lP).trans hP) (by have := sA.1; omega) oP (hb.same sA) ob b1 b2 hb2 (Nat.lt_of_lt_of_le (Nat.lt_succ_self _) s2.1) _ (fun M3 X nx' pcs' e3 m3 i3 p3 x3 l3 => ?_))
  dsimp only
  skip
  refine vc (e_call rfl rfl F.f89 rfl) (told0_ok F (N 89 rfl) M3 _ (fun M4 s4 => ?_))
  dsimp only
  refine vv (e_assign rfl) ?_
  refine w_nil ?_
  refine k_seq ?_
  refine w_ret ?_
  exact ⟨_, res_tmp rfl res_nil, hQ M4 X nx' pcs' (((Ex.of sA).trans e3).trans (Ex.of s4)) (m3.same s4) i3 p3 ((s4.2 X l3).trans x3) (by have := s4.1; omega)⟩
end
end Go.Abm.Seat
