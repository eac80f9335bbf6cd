/-
  A part of the proof that pumicelaw17.StoreOpens returns true for every geometry, key, number and group (a machine over names of blocks, its soundness, the calls of the store for any geometry, the chapter's example as a run). Condition: the listed package variables hold what the program's text lays; the card ties that.
-/
import Derived.Test.YtcfpoldckjmbdaaGreatDoorX28
import Derived.Test.YtcfpoldckjmbdaaGreatDoorX24
set_option linter.unusedVariables false
set_option linter.unusedSimpArgs false
set_option linter.unusedSectionVars false
open Go Go.Abm
set_option maxRecDepth 100000
set_option maxHeartbeats 4000000
namespace Go.Abm.Seat
theorem e_appS {E : Env} {ρ : Reg} {M0 M : AM} {c : Call} {t u e : TypeId} {x y : Operand} {z : AV} {by' : Nat} {v : AV} {A B : List Nat} (hA : Gb M0 M v A) (hBy : Byt B) (hB1 : 1 ≤ B.length) (hl : A.length + B.length ≤ 100000)
    (hc : c.callee = .builtin .append) (ha : c.args = #[x, y]) (ht : c.argTypes = #[t, u]) (hx : rhoR E ρ x = some v) (hy : rhoR E ρ y = some (.str B))
    (hu : E.under t = some (.slice e)) (hu2 : E.under u = some .string) (he : ElemT E e 1 by' z) (hb : by' ≤ 16) :
    ∃ r M', evalOp E (rhoR E ρ) (.call c) M = some (.val r M') ∧ Gb M0 M' r (A ++ B) ∧ M.nx ≤ M'.nx ∧ (∀ x, x < M.nx → x ≠ blk v → M'.get x = M.get x) ∧ M.nx ≤ blk r := by
  obtain ⟨b, g, fz, rfl, h1, h2, h3, h4, h5⟩ := hA.ex
  have f2 : afirst M 1 B.length (.str B) = some (byteL B) := by
    show some ((B.take B.length).map fun c => AV.int .u8 (.ofNat c)) = _
    rw [List.take_length]; rfl
  have hbb : 2 * (A.length + B.length) * by' ≤ 281474976710656 := by
    have : 2 * (A.length + B.length) * by' ≤ 2 * (A.length + B.length) * 16 := Nat.mul_le_mul_left _ hb
    omega
  have hsn := hA.same.1
  have key : ∃ fz', ∃ r M', evalOp E (rhoR E ρ) (.call c) M = some (.val r M') ∧ r = .sl M.nx 0 (A.length + B.length) (A.length + B.length) (some 1) ∧ M'.nx = M.nx + 1 ∧ (∀ x, x ≠ b → x ≠ M.nx → M'.get x = M.get x) ∧ M'.get M.nx = some (.cells (byteL A ++ byteL B) false fz') := by
    rcases h5 with h5 | h5
    · exact ⟨false, e_appendns (E := E) (ρ := ρ) (M := M) hc ha ht hx hy hu hu2 he h3 (byteL_len A) h5 rfl f2 (byteL_one B) (byteL_len B) hB1 hbb (by unfold maxI; omega)⟩
    · exact ⟨fz, e_appendxs (E := E) (ρ := ρ) (M := M) hc ha ht hx hy hu hu2 he h3 (byteL_len A) (.inr h5) rfl f2 (byteL_one B) (byteL_len B) hB1 hbb (by unfold maxI; omega)⟩
  obtain ⟨fz', r, M', g1, rfl, g3, g4, g5⟩ := key
  exact ⟨_, M', g1, ⟨⟨by omega, fun x hx => (g4 x (by omega) (by omega)).trans (hA.same.2 x hx)⟩, M.nx, some 1, fz', by rw [List.length_append], by omega, by omega, by rw [byteL_app]; exact g5, h4.app hBy, .inr rfl⟩, by omega, fun x hx hn => g4 x hn (by omega), Nat.le_refl _⟩
section
variable {E : Env} (F : Facts E) (N : NS E) (R : RS E)
include F N R
theorem super_ok (M : AM) (bl pg sz rs : Nat) (Q : KC) (hQ : ∀ M' v A, Gb M M' v A → A.length = 15 → Q (.ret v) M') :
    CallsTo E 99 [.agg [.int .i64 (.ofNat bl), .int .i64 (.ofNat pg), .int .i64 (.ofNat sz), .int .i64 (.ofNat rs)]] M Q := by
  refine call_rule F.f99 rfl (N 99 rfl) ?_
  refine w_seq ?_
  refine w_region ?_
  refine vv rfl ?_
  refine vv (e_assign rfl) ?_
  refine w_nil ?_
  refine k_seq ?_
  refine w_seq ?_
  refine w_region ?_
  refine vv (e_buildSlice rfl F.u157 F.el5 (by decide) (by decide) rfl rfl) ?_
  refine vv (e_convB rfl F.u157 F.u5 (M := _) g0) ?_
  refine vv (e_assign rfl) ?_
  refine w_nil ?_
  refine k_seq ?_
  refine w_seq ?_
  refine w_seq ?_
  refine w_region ?_
  refine vv (e_fa rfl F.fa23_0) ?_
  refine vv (e_loadn rfl F.na3 (by first | assumption | exact g0 | exact s0 | (repeat first | assumption | exact g0 | exact s0 | refine gn zL ?_ | refine gs zL ?_)) zC) ?_
  refine vv (e_fa rfl F.fa23_1) ?_
  refine vv (e_loadn rfl F.na3 (by first | assumption | exact g0 | exact s0 | (repeat first | assumption | exact g0 | exact s0 | refine gn zL ?_ | refine gs zL ?_)) zC) ?_
  refine vv (e_fa rfl F.fa23_2) ?_
  refine vv (e_loadn rfl F.na3 (by first | assumption | exact g0 | exact s0 | (repeat first | assumption | exact g0 | exact s0 | refine gn zL ?_ | refine gs zL ?_)) zC) ?_
  refine vv (e_fa rfl F.fa23_3) ?_
  refine vv (e_loadn rfl F.na3 (by first | assumption | exact g0 | exact s0 | (repeat first | assumption | exact g0 | exact s0 | refine gn zL ?_ | refine gs zL ?_)) zC) ?_
  refine vv (e_buildSlice rfl F.u59 F.el3 (by decide) (by decide) rfl rfl) ?_
  refine vv (e_len_sl rfl rfl rfl rfl F.u59) ?_
  refine vv (e_move rfl) ?_
  refine w_nil ?_
  refine k_seq ?_
  refine w_block ?_
  refine w_loop ?_
  refine loop_inv (fun w ρ D M' => D = [] ∧ ∃ i v A, w = 4 - i ∧ i ≤ 4 ∧ Gb M M' v A ∧ A.length = 7 + 2 * i ∧ ρ 3 = some v ∧ ρ 16 = some (.sl (M.nx + 2) 0 4 4 none) ∧ ρ 17 = some (.int .i64 (.ofNat 4)) ∧ ρ 18 = some (.int .i64 (.ofNat i)) ∧ M'.get (M.nx + 2) = some (.cells [.int .i64 (.ofNat bl), .int .i64 (.ofNat pg), .int .i64 (.ofNat sz), .int .i64 (.ofNat rs)] false false) ∧ M.nx + 2 < M'.nx ∧ blk v ≠ M.nx + 2) ?_ 4 _ _ _
    ⟨rfl, 0, _, [112, 117, 109, 105, 99, 101, 49], rfl, Nat.zero_le _, ⟨(((Same.refl M).new.new).set (by simp only [AM.nx_new]; omega)).new, M.nx + 1, none, true, rfl, Nat.le_succ _, by simp only [AM.nx_new, AM.nx_set]; omega, gn (by simp only [AM.nx_new, AM.nx_set]; omega) s0, Byt.lit rfl, .inl rfl⟩, rfl, rfl, rfl, rfl, rfl, g0, by simp only [AM.nx_new, AM.nx_set]; omega, by show M.nx + 1 ≠ M.nx + 2; omega⟩
  rintro w ρ D M' ⟨rfl, i, v, A, rfl, hi, hG, hA, g3, g16, g17, g18, hk, lk, nk⟩
  rw [reg1 g3, reg1 g16, reg1 g17, reg1 g18]
  refine w_seq ?_
  refine w_region ?_
  refine vv rfl ?_
  refine w_nil ?_
  refine k_seq ?_
  refine w_seq ?_
  refine w_cond rfl (fun h => ?_) (fun h => ?_)
  case refine_2 =>
    have he : i = 4 := by have := ilt_ge h; omega
    refine w_exit ?_
    refine k_exit ?_
    refine k_exit ?_
    refine b_here ?_
    refine k_seq ?_
    refine w_seq ?_
    refine w_region ?_
    refine vv (e_move rfl) ?_
    refine vv (e_assign rfl) ?_
    refine w_nil ?_
    refine k_seq ?_
    refine w_ret ?_
    exact ⟨_, res_tmp rfl res_nil, hQ _ v A hG (by omega)⟩
  have hlt := ilt_lt h
  refine w_skip ?_
  refine k_seq ?_
  refine w_seq ?_
  refine w_block ?_
  refine w_seq ?_
  refine w_region ?_
  refine vv (e_indexAddr rfl rfl F.u59 F.sz3 zD) ?_
  have hv : ∃ n : Nat, ([.int .i64 (.ofNat bl), .int .i64 (.ofNat pg), .int .i64 (.ofNat sz), .int .i64 (.ofNat rs)] : List AV)[0 + i * 1]? = some (.int .i64 (.ofNat n)) := by
    match i, hlt with
    | 0, _ => exact ⟨_, rfl⟩
    | 1, _ => exact ⟨_, rfl⟩
    | 2, _ => exact ⟨_, rfl⟩
    | 3, _ => exact ⟨_, rfl⟩
  obtain ⟨n, hv⟩ := hv
  refine vv (e_loadn rfl F.na3 hk hv) ?_
  refine vv (e_assign rfl) ?_
  refine w_nil ?_
  refine k_seq ?_
  refine w_region ?_
  refine vv (e_move rfl) ?_
  refine vv (e_move rfl) ?_
  refine vv (e_conv_int rfl F.u3 F.u54) ?_
  refine vc (e_call rfl rfl F.f144 rfl) (put2_ok F (N 144 rfl) _ (n % 18446744073709551616) _ (fun M1 n1 s1 c1 => ?_))
  dsimp only
  skip
  have B1 : Bts M1 (.sl M'.nx 0 2 2 none) [n % 18446744073709551616 % 256, n % 18446744073709551616 / 2 ^ 8 % 256] := (Gb.mk0 (bs := [n % 18446744073709551616 % 256, n % 18446744073709551616 / 2 ^ 8 % 256]) (n := 2) s1 (Nat.le_refl _) (by omega) c1 (by
    intro x hx
    simp only [List.mem_cons, List.mem_nil_iff, or_false] at hx
    rcases hx with rfl | rfl <;> exact Nat.mod_lt _ (by decide)) rfl).bts
  refine w_valx rfl rfl rfl (e_appB (hG.after s1) B1 (by show 1 ≤ 2; omega) (by rw [hA]; show 7 + 2 * i + 2 ≤ 100000; omega) rfl rfl rfl rfl rfl F.u157 F.u157 F.el5 (by decide)) ?_
  rintro v2 M2 ⟨G2, n2, f2, t2⟩
  refine vv (e_assign rfl) ?_
  refine w_nil ?_
  refine b_normal ?_
  refine k_seq ?_
  refine w_region ?_
  refine vv rfl ?_
  refine vv (e_move rfl) ?_
  refine w_nil ?_
  refine k_seq ?_
  exact ⟨4 - (i + 1), by omega, rfl, i + 1, v2, _, rfl, hlt, G2, by rw [List.length_append, hA]; show 7 + 2 * i + 2 = _; omega, rfl, rfl, rfl, inc64v (by omega), (f2 _ (by omega) (Ne.symm nk)).trans ((s1.2 _ lk).trans hk), by omega, by omega⟩
theorem payload_ok (M : AM) (s : List Nat) (h1 : 1 ≤ s.length) (h2 : s.length ≤ 512) (hs : Byt s) (Q : KC) (hQ : ∀ M' v A, Gb M M' v A → A.length = 9 + s.length → Q (.ret v) M') :
    CallsTo E 172 [.agg [.int .u64 1, .str s]] M Q := by
  refine call_rule F.f172 rfl (N 172 rfl) ?_
  refine w_seq ?_
  refine w_region ?_
  refine vv rfl ?_
  refine vv (e_assign rfl) ?_
  refine w_nil ?_
  refine k_seq ?_
  refine w_seq ?_
  refine w_order [.run 0 0, .run 1 0, .run 2 2, .run 5 0, .run 6 32, .chk, .eff 3 6, .chk, .eff 4 15, .chk, .eff 7 127, .chk, .eff 8 255, .chk] (by decide +kernel) ?_
  refine sa rfl (e_buildSlice rfl F.u157 F.el5 (by decide) (by decide) rfl rfl) ?_
  refine sp rfl (e_fa rfl F.fa75_0) ?_
  refine sr rfl (e_loadn rfl F.na54 (by first | assumption | exact g0 | exact s0 | (repeat first | assumption | exact g0 | exact s0 | refine gn zL ?_ | refine gs zL ?_)) zC) ?_
  refine sp rfl (e_fa rfl F.fa75_1) ?_
  refine sr rfl (e_loadn rfl F.na9 (by first | assumption | exact g0 | exact s0 | (repeat first | assumption | exact g0 | exact s0 | refine gn zL ?_ | refine gs zL ?_)) zC) ?_
  refine st_chk (by repeat first | exact ck_nil | refine ck_cons ⟨_, _, rfl, zA⟩ ?_ | refine ck_cons ⟨_, _, (e_loadn rfl F.na54 (by first | assumption | exact g0 | exact s0 | (repeat first | assumption | exact g0 | exact s0 | refine gn zL ?_ | refine gs zL ?_)) zC), zA⟩ ?_ | refine ck_cons ⟨_, _, (e_loadn rfl F.na9 (by first | assumption | exact g0 | exact s0 | (repeat first | assumption | exact g0 | exact s0 | refine gn zL ?_ | refine gs zL ?_)) zC), zA⟩ ?_ | refine ck_cons ⟨_, (by first | assumption | exact g0 | exact s0 | (repeat first | assumption | exact g0 | exact s0 | refine gn zL ?_ | refine gs zL ?_)), zB⟩ ?_) ?_
  refine fc rfl zP (e_call rfl rfl F.f144 rfl) (put8_ok F (N 144 rfl) _ 1 _ (fun M1 n1 s1 c1 => ⟨s1.1, ?_⟩))
  simp only [AM.nx_new] at n1 c1
  have G1 : Gb (M.new (.cells [.int .u64 1, .str s] false false)) M1 (.sl M.nx.succ 0 1 1 none) [82] := Gb.mk0 (n := 1) ((Same.refl _).new.trans s1) (Nat.le_refl _) (by omega) ((s1.2 _ (by simp only [AM.nx_new]; omega)).trans g0) (Byt.lit rfl) rfl
  have B1 : Bts M1 (.sl M.nx.succ.succ 0 8 8 none) [1, 0, 0, 0, 0, 0, 0, 0] := (Gb.mk0 (bs := [1, 0, 0, 0, 0, 0, 0, 0]) (n := 8) G1.same (Nat.le_succ _) (by simp only [AM.nx_new]; omega) c1 (Byt.lit rfl) rfl).bts
  have hb1 : M1.get M.nx = some (.cells [.int .u64 1, .str s] false false) := (G1.same.2 _ (Nat.lt_succ_self _)).trans g0
  have hs1 : M1.get (M.nx + 1) = some (.cells [.int .u8 82] false false) := (s1.2 _ (by simp only [AM.nx_new]; omega)).trans g0
  refine st_chk (by repeat first | exact ck_nil | refine ck_cons ⟨_, _, rfl, zA⟩ ?_ | refine ck_cons ⟨_, _, (e_loadn rfl F.na54 (by first | assumption | exact g0 | exact s0 | (repeat first | assumption | exact g0 | exact s0 | refine gn zL ?_ | refine gs zL ?_)) zC), zA⟩ ?_ | refine ck_cons ⟨_, _, (e_loadn rfl F.na9 (by first | assumption | exact g0 | exact s0 | (repeat first | assumption | exact g0 | exact s0 | refine gn zL ?_ | refine gs zL ?_)) zC), zA⟩ ?_ | refine ck_cons ⟨_, (by first | assumption | exact g0 | exact s0 | (repeat first | assumption | exact g0 | exact s0 | refine gn zL ?_ | refine gs zL ?_)), zB⟩ ?_) ?_
  refine fpx rfl zP (e_appB G1 B1 (by decide) (by decide) rfl rfl rfl rfl rfl F.u157 F.u157 F.el5 (by decide)) (fun v2 M2 h2 => ⟨h2.2.1, ?_⟩)
  obtain ⟨G2, n2, f2, t2⟩ := h2
  have hb2 : M2.get M.nx = some (.cells [.int .u64 1, .str s] false false) := (G2.same.2 _ (Nat.lt_succ_self _)).trans g0
  refine st_chk (by repeat first | exact ck_nil | refine ck_cons ⟨_, _, rfl, zA⟩ ?_ | refine ck_cons ⟨_, _, (e_loadn rfl F.na54 (by first | assumption | exact g0 | exact s0 | (repeat first | assumption | exact g0 | exact s0 | refine gn zL ?_ | refine gs zL ?_)) zC), zA⟩ ?_ | refine ck_cons ⟨_, _, (e_loadn rfl F.na9 (by first | assumption | exact g0 | exact s0 | (repeat first | assumption | exact g0 | exact s0 | refine gn zL ?_ | refine gs zL ?_)) zC), zA⟩ ?_ | refine ck_cons ⟨_, (by first | assumption | exact g0 | exact s0 | (repeat first | assumption | exact g0 | exact s0 | refine gn zL ?_ | refine gs zL ?_)), zB⟩ ?_) ?_
  refine fpx rfl zP (e_appS G2 hs h1 (by show 9 + s.length ≤ 100000; omega) rfl rfl rfl rfl rfl F.u157 F.u9 F.el5 (by decide)) (fun v3 M3 h3 => ⟨h3.2.1, ?_⟩)
  obtain ⟨G3, n3, f3, t3⟩ := h3
  have hb3 : M3.get M.nx = some (.cells [.int .u64 1, .str s] false false) := (G3.same.2 _ (Nat.lt_succ_self _)).trans g0
  refine st_chk (by repeat first | exact ck_nil | refine ck_cons ⟨_, _, rfl, zA⟩ ?_ | refine ck_cons ⟨_, _, (e_loadn rfl F.na54 (by first | assumption | exact g0 | exact s0 | (repeat first | assumption | exact g0 | exact s0 | refine gn zL ?_ | refine gs zL ?_)) zC), zA⟩ ?_ | refine ck_cons ⟨_, _, (e_loadn rfl F.na9 (by first | assumption | exact g0 | exact s0 | (repeat first | assumption | exact g0 | exact s0 | refine gn zL ?_ | refine gs zL ?_)) zC), zA⟩ ?_ | refine ck_cons ⟨_, (by first | assumption | exact g0 | exact s0 | (repeat first | assumption | exact g0 | exact s0 | refine gn zL ?_ | refine gs zL ?_)), zB⟩ ?_) ?_
  refine fp rfl zP (e_assign rfl) ?_
  refine st_chk (by repeat first | exact ck_nil | refine ck_cons ⟨_, _, rfl, zA⟩ ?_ | refine ck_cons ⟨_, _, (e_loadn rfl F.na54 (by first | assumption | exact g0 | exact s0 | (repeat first | assumption | exact g0 | exact s0 | refine gn zL ?_ | refine gs zL ?_)) zC), zA⟩ ?_ | refine ck_cons ⟨_, _, (e_loadn rfl F.na9 (by first | assumption | exact g0 | exact s0 | (repeat first | assumption | exact g0 | exact s0 | refine gn zL ?_ | refine gs zL ?_)) zC), zA⟩ ?_ | refine ck_cons ⟨_, (by first | assumption | exact g0 | exact s0 | (repeat first | assumption | exact g0 | exact s0 | refine gn zL ?_ | refine gs zL ?_)), zB⟩ ?_) ?_
  refine st_nil ?_
  refine k_seq ?_
  refine w_ret ?_
  exact ⟨_, res_tmp rfl res_nil, hQ M3 v3 _ (G3.back (Same.refl M).new) (by rw [List.length_append]; rfl)⟩
end
end Go.Abm.Seat

open Go Go.Abm
set_option maxRecDepth 100000
set_option maxHeartbeats 4000000
namespace Go.Abm.Seat
section
variable {E : Env} (F : Facts E) (N : NS E) (R : RS E)
include F N R
theorem alone_ok {M : AM} {m L Z c B p0 bl pg sz rs : Nat} {nx : Nat → Nat} {pcs : Nat → List AV} (hM : Mgr M m L Z c B p0 bl pg sz rs (fun x => if x < bl then frE else spE) (fun _ => -1) 0 nx pcs) (hg : Geo bl pg sz rs) (hx : nx 0 = 1)
    {mt : Nat} {x3 : AV} {fm : Bool} (hmt : M.get mt = some (.cells [.ptr m 0, .nilp, .int .u64 0, .str [], x3] false fm)) (lmt : mt < M.nx) (omt : ¬OwnM m L Z c B p0 bl mt) {s : List Nat} (hs : Byt s) (hsl : s.length = 5) (Q : KC)
    (hQ : ∀ M' nx' pcs' z' f' q', Ex (fun x => OwnM m L Z c B p0 bl x ∨ x = mt) M M' → Mgr M' m L Z c B p0 bl pg sz rs f' z' q' nx' pcs' → Q (.ret (.int .i64 0)) M') :
    CallsTo E 95 [.ptr mt 0, .agg [.int .u64 1, .str s]] M Q := by
  have s1g := hg.s1
  have s2g := hg.s2
  refine call_rule F.f95 rfl (N 95 rfl) ?_
  refine w_seq ?_
  refine w_region ?_
  refine vv rfl ?_
  refine vv (e_assign rfl) ?_
  refine w_nil ?_
  refine k_seq ?_
  refine w_seq ?_
  refine w_region ?_
  refine vv (e_assign rfl) ?_
  refine w_nil ?_
  refine k_seq ?_
  refine w_seq ?_
  refine w_region ?_
  refine vv (e_move rfl) ?_
  refine vv rfl ?_
  refine vv (e_fa rfl F.fa165_0) ?_
  refine vv (e_loadn rfl F.na46 (gn (by omega) zS) zC) ?_
  have S0 : Same M (M.new (.cells [.int .u64 1, .str s] false false)) := (Same.refl M).new
  have hm0 := gn (o := .cells [.int .u64 1, .str s] false false) lmt hmt
  have hb0 : (M.new (.cells [.int .u64 1, .str s] false false)).get M.nx = some (.cells [.int .u64 1, .str s] false false) := g0
  refine vc (e_call rfl rfl F.f62 rfl) (mpage_ok F (hM.same S0) (N 62 rfl) _ ?_)
  dsimp only
  refine vv (e_assign rfl) ?_
  refine w_nil ?_
  refine k_seq ?_
  refine w_seq ?_
  refine w_seq ?_
  refine w_order [.run 0 0, .run 1 1, .run 2 3, .run 3 7, .run 7 0, .run 11 0, .chk, .eff 4 15, .chk, .eff 5 31, .chk, .eff 6 63, .chk, .eff 8 255, .run 9 511, .run 10 1023, .chk] (by decide +kernel) ?_
  refine sp rfl (e_move rfl) ?_
  refine sp rfl rfl ?_
  refine sp rfl (e_fa rfl F.fa165_0) ?_
  refine sr rfl (e_loadn rfl F.na46 zS zC) ?_
  refine sr rfl (e_loada rfl F.ag75 F.sz75 zS zN) ?_
  refine sp rfl (e_move rfl) ?_
  refine st_chk (by repeat first | exact ck_nil | refine ck_cons ⟨_, _, rfl, zA⟩ ?_ | refine ck_cons ⟨_, _, (e_loadn rfl F.na46 (by first | assumption | exact g0 | exact s0 | (repeat first | assumption | exact g0 | exact s0 | refine gn zL ?_ | refine gs zL ?_)) zC), zA⟩ ?_ | refine ck_cons ⟨_, _, (e_loada rfl F.ag75 F.sz75 (by first | assumption | exact g0 | exact s0 | (repeat first | assumption | exact g0 | exact s0 | refine gn zL ?_ | refine gs zL ?_)) zN), zA⟩ ?_ | refine ck_cons ⟨_, _, (e_len_sl rfl rfl rfl rfl F.u151), zA⟩ ?_ | refine ck_cons ⟨_, _, (e_len_nils rfl rfl rfl rfl F.u151), zA⟩ ?_ | refine ck_cons ⟨_, _, (e_len_str rfl rfl rfl rfl F.u151), zA⟩ ?_ | refine ck_cons ⟨_, (by first | assumption | exact g0 | exact s0 | (repeat first | assumption | exact g0 | exact s0 | refine gn zL ?_ | refine gs zL ?_)), zB⟩ ?_) ?_
  refine fc rfl zP (e_call rfl rfl F.f49 rfl) (mchip_ok F (hM.same S0) (N 49 rfl) _ ⟨Nat.le_refl _, ?_⟩)
  refine st_chk (by repeat first | exact ck_nil | refine ck_cons ⟨_, _, rfl, zA⟩ ?_ | refine ck_cons ⟨_, _, (e_loadn rfl F.na46 (by first | assumption | exact g0 | exact s0 | (repeat first | assumption | exact g0 | exact s0 | refine gn zL ?_ | refine gs zL ?_)) zC), zA⟩ ?_ | refine ck_cons ⟨_, _, (e_loada rfl F.ag75 F.sz75 (by first | assumption | exact g0 | exact s0 | (repeat first | assumption | exact g0 | exact s0 | refine gn zL ?_ | refine gs zL ?_)) zN), zA⟩ ?_ | refine ck_cons ⟨_, _, (e_len_sl rfl rfl rfl rfl F.u151), zA⟩ ?_ | refine ck_cons ⟨_, _, (e_len_nils rfl rfl rfl rfl F.u151), zA⟩ ?_ | refine ck_cons ⟨_, _, (e_len_str rfl rfl rfl rfl F.u151), zA⟩ ?_ | refine ck_cons ⟨_, (by first | assumption | exact g0 | exact s0 | (repeat first | assumption | exact g0 | exact s0 | refine gn zL ?_ | refine gs zL ?_)), zB⟩ ?_) ?_
  refine fc rfl zP (e_call rfl rfl F.f50 rfl) (geom_c F (N 50 rfl) (hM.same S0).ch _ (fun M1 s1 => ⟨s1.1, ?_⟩))
  have hm1 := (s1.2 mt (Nat.lt_succ_of_lt lmt)).trans hm0
  have hb1 := (s1.2 M.nx (Nat.lt_succ_self _)).trans hb0
  have y1 := s1.1
  simp only [AM.nx_new] at y1
  refine st_chk (by repeat first | exact ck_nil | refine ck_cons ⟨_, _, rfl, zA⟩ ?_ | refine ck_cons ⟨_, _, (e_loadn rfl F.na46 (by first | assumption | exact g0 | exact s0 | (repeat first | assumption | exact g0 | exact s0 | refine gn zL ?_ | refine gs zL ?_)) zC), zA⟩ ?_ | refine ck_cons ⟨_, _, (e_loada rfl F.ag75 F.sz75 (by first | assumption | exact g0 | exact s0 | (repeat first | assumption | exact g0 | exact s0 | refine gn zL ?_ | refine gs zL ?_)) zN), zA⟩ ?_ | refine ck_cons ⟨_, _, (e_len_sl rfl rfl rfl rfl F.u151), zA⟩ ?_ | refine ck_cons ⟨_, _, (e_len_nils rfl rfl rfl rfl F.u151), zA⟩ ?_ | refine ck_cons ⟨_, _, (e_len_str rfl rfl rfl rfl F.u151), zA⟩ ?_ | refine ck_cons ⟨_, (by first | assumption | exact g0 | exact s0 | (repeat first | assumption | exact g0 | exact s0 | refine gn zL ?_ | refine gs zL ?_)), zB⟩ ?_) ?_
  refine fc rfl zP (e_call rfl rfl F.f99 rfl) (super_ok F N R M1 bl pg sz rs _ (fun M2 v1 A1 G1 l1 => ⟨G1.same.1, ?_⟩))
  have y2 := G1.same.1
  have hm2 := (G1.same.2 mt (by omega)).trans hm1
  have hb2 := (G1.same.2 M.nx (by omega)).trans hb1
  obtain ⟨k1, g1, f1, rfl, kk1, kl1, _⟩ := id G1.ex
  refine st_chk (by repeat first | exact ck_nil | refine ck_cons ⟨_, _, rfl, zA⟩ ?_ | refine ck_cons ⟨_, _, (e_loadn rfl F.na46 (by first | assumption | exact g0 | exact s0 | (repeat first | assumption | exact g0 | exact s0 | refine gn zL ?_ | refine gs zL ?_)) zC), zA⟩ ?_ | refine ck_cons ⟨_, _, (e_loada rfl F.ag75 F.sz75 (by first | assumption | exact g0 | exact s0 | (repeat first | assumption | exact g0 | exact s0 | refine gn zL ?_ | refine gs zL ?_)) zN), zA⟩ ?_ | refine ck_cons ⟨_, _, (e_len_sl rfl rfl rfl rfl F.u151), zA⟩ ?_ | refine ck_cons ⟨_, _, (e_len_nils rfl rfl rfl rfl F.u151), zA⟩ ?_ | refine ck_cons ⟨_, _, (e_len_str rfl rfl rfl rfl F.u151), zA⟩ ?_ | refine ck_cons ⟨_, (by first | assumption | exact g0 | exact s0 | (repeat first | assumption | exact g0 | exact s0 | refine gn zL ?_ | refine gs zL ?_)), zB⟩ ?_) ?_
  refine fc rfl zP (e_call rfl rfl F.f172 rfl) (payload_ok F N R M2 s (by omega) (by omega) hs _ (fun M3 v2 A2 G2 l2 => ⟨G2.same.1, ?_⟩))
  have y3 := G2.same.1
  have hm3 := (G2.same.2 mt (by omega)).trans hm2
  have hb3 := (G2.same.2 M.nx (by omega)).trans hb2
  obtain ⟨k2, g2, f2, rfl, kk2, kl2, _⟩ := id G2.ex
  have S3 : Same M M3 := S0.trans (s1.trans (G1.same.trans G2.same))
  have G1' := (G1.after G2.same).bts
  refine sa rfl (e_buildSlice rfl F.u151 F.el157 (by decide) (by decide) rfl rfl) ?_
  refine sr rfl (e_len_sl rfl rfl rfl rfl F.u151) ?_
  refine st_chk (by repeat first | exact ck_nil | refine ck_cons ⟨_, _, rfl, zA⟩ ?_ | refine ck_cons ⟨_, _, (e_loadn rfl F.na46 (by first | assumption | exact g0 | exact s0 | (repeat first | assumption | exact g0 | exact s0 | refine gn zL ?_ | refine gs zL ?_)) zC), zA⟩ ?_ | refine ck_cons ⟨_, _, (e_loada rfl F.ag75 F.sz75 (by first | assumption | exact g0 | exact s0 | (repeat first | assumption | exact g0 | exact s0 | refine gn zL ?_ | refine gs zL ?_)) zN), zA⟩ ?_ | refine ck_cons ⟨_, _, (e_len_sl rfl rfl rfl rfl F.u151), zA⟩ ?_ | refine ck_cons ⟨_, _, (e_len_nils rfl rfl rfl rfl F.u151), zA⟩ ?_ | refine ck_cons ⟨_, _, (e_len_str rfl rfl rfl rfl F.u151), zA⟩ ?_ | refine ck_cons ⟨_, (by first | assumption | exact g0 | exact s0 | (repeat first | assumption | exact g0 | exact s0 | refine gn zL ?_ | refine gs zL ?_)), zB⟩ ?_) ?_
  refine st_nil ?_
  refine k_seq ?_
  refine w_block ?_
  refine w_loop ?_
  refine loop_inv (fun w ρ D M' => D = [] ∧ ρ 0 = some (.ptr mt 0) ∧ ρ 3 = some (.ptr M.nx 0) ∧ ρ 6 = some (.int .i64 (.ofNat sz)) ∧ ρ 30 = some (.sl M3.nx 0 2 2 none) ∧ ρ 31 = some (.int .i64 (.ofNat 2)) ∧ Same M M' ∧ M'.get M.nx = some (.cells [.int .u64 1, .str s] false false) ∧ M.nx < M'.nx ∧
    ((w = 2 ∧ ρ 32 = some (.int .i64 (.ofNat 0)) ∧ ρ 5 = some .nils ∧ M'.get M3.nx = some (.cells [.sl k1 0 A1.length A1.length g1, .sl k2 0 A2.length A2.length g2] false false) ∧ M3.nx < M'.nx ∧ Bts M' (.sl k1 0 A1.length A1.length g1) A1 ∧ Bts M' (.sl k2 0 A2.length A2.length g2) A2) ∨
     (w = 1 ∧ ρ 32 = some (.int .i64 (.ofNat 1)) ∧ M'.get M3.nx = some (.cells [.sl k1 0 A1.length A1.length g1, .sl k2 0 A2.length A2.length g2] false false) ∧ M3.nx < M'.nx ∧ Bts M' (.sl k2 0 A2.length A2.length g2) A2 ∧ ∃ v A, ρ 5 = some v ∧ Gb (M.new (.cells [.int .u64 1, .str s] false false)) M' v A ∧ A.length = 21) ∨
     (w = 0 ∧ ρ 32 = some (.int .i64 (.ofNat 2)) ∧ ∃ v A, ρ 5 = some v ∧ Gb (M.new (.cells [.int .u64 1, .str s] false false)) M' v A ∧ A.length = 41))) ?_ 2 _ _ _
    ⟨rfl, rfl, rfl, rfl, rfl, rfl, S3.new, gn (by omega) hb3, by simp only [AM.nx_new]; omega, .inl ⟨rfl, rfl, rfl, g0, Nat.lt_succ_self _, G1'.same (Same.refl M3).new, G2.bts.same (Same.refl M3).new⟩⟩
  rintro w ρ D M' ⟨rfl, q0, q3, q6, q30, q31, SM, hbx, lbx, hh⟩
  have hmm := (SM.2 mt lmt).trans hmt
  rcases hh with ⟨rfl, q32, q5, hSB, lSB, B1, B2⟩ | ⟨rfl, q32, hSB, lSB, B2, v, A, q5, hG, lA⟩ | ⟨rfl, q32, v, A, q5, hG, lA⟩
  · rw [reg1 q0, reg1 q3, reg1 q6, reg1 q30, reg1 q31, reg1 q32, reg1 q5]
    refine w_seq ?_
    refine w_region ?_
    refine vv rfl ?_
    refine w_nil ?_
    refine k_seq ?_
    refine w_seq ?_
    refine vt ?_
    refine w_skip ?_
    refine k_seq ?_
    refine w_seq ?_
    refine w_block ?_
    refine w_seq ?_
    refine w_region ?_
    refine vv (e_indexAddr rfl rfl F.u151 F.sz157 zD) ?_
    refine vv (e_loadn rfl F.na157 zS zC) ?_
    refine vv (e_assign rfl) ?_
    refine w_nil ?_
    refine k_seq ?_
    refine w_seq ?_
    refine w_region ?_
    refine vv (e_move rfl) ?_
    refine vc (e_call rfl rfl F.f173 rfl) (frame_ok F R.hS (N 144 rfl) (N 173 rfl) B1 (by omega) (by omega) _ (fun M4 K bs' s4 lK1 lK2 hl hbb hK => ?_))
    dsimp only
    refine vv (e_move rfl) ?_
    refine vv rfl ?_
    refine vv rfl ?_
    refine vv (e_assign rfl) ?_
    refine vv (e_assign rfl) ?_
    refine w_nil ?_
    refine k_seq ?_
    refine w_seq ?_
    refine w_seq ?_
    refine w_region ?_
    refine vv (e_move rfl) ?_
    refine vv rfl ?_
    refine w_nil ?_
    refine k_seq ?_
    refine vf ?_
    refine w_skip ?_
    refine k_seq ?_
    refine w_seq ?_
    refine w_seq ?_
    refine w_region ?_
    refine vv (e_move rfl) ?_
    refine vv (e_len_nils rfl rfl rfl rfl F.u157) ?_
    refine vv (e_move rfl) ?_
    refine vv (e_rem64 rfl rfl (by omega)) ?_
    refine vv (e_move rfl) ?_
    refine vv rfl ?_
    refine vv rfl ?_
    refine w_nil ?_
    refine k_seq ?_
    rw [show ieqF (.ofNat (0 % sz)) (wrapFast .i64 (subF (.ofNat sz) 1)) = false from by rw [Nat.zero_mod, show wrapFast .i64 (subF (.ofNat sz) 1) = .ofNat (sz - 1) from sub64 (b := 1) (by omega) (by omega)]; exact nbeq_false (by omega)]
    refine vf ?_
    refine w_skip ?_
    refine k_seq ?_
    refine w_region ?_
    refine vv (e_move rfl) ?_
    refine vv (e_move rfl) ?_
    have BK : Bts M4 (.sl K 0 (A1.length + 6) (A1.length + 6) (some 1)) bs' := grown_bts hl hK lK2 hbb
    obtain ⟨e1, e2⟩ := BK.first
    rw [hl] at e1 e2
    refine vv (e_appendnil (k := A1.length + 6) (sz := 1) rfl rfl rfl rfl rfl F.u157 F.u157 F.el5 (by decide) e1 e2 rfl (byteL_one bs') (by omega) (by omega) (by unfold maxI; omega)) ?_
    refine vv (e_assign rfl) ?_
    refine w_nil ?_
    refine b_normal ?_
    refine k_seq ?_
    refine w_region ?_
    refine vv rfl ?_
    refine vv (e_move rfl) ?_
    refine w_nil ?_
    refine k_seq ?_
    have SMb : Same (M.new (.cells [.int .u64 1, .str s] false false)) M' := ⟨by rw [AM.nx_new]; omega, fun x hx => by
      rw [AM.nx_new] at hx
      by_cases e : x = M.nx
      · subst e; exact hbx.trans g0.symm
      · exact (SM.2 x (by omega)).trans (AM.get_new_lt (by omega)).symm⟩
    have y4 := s4.1
    have yb := SMb.1
    exact ⟨1, by decide, rfl, rfl, rfl, rfl, rfl, rfl, (SM.trans s4).new, gn (by omega) ((s4.2 _ lbx).trans hbx), by rw [AM.nx_new]; omega, .inr (.inl ⟨rfl, rfl, gn (by omega) ((s4.2 _ lSB).trans hSB), by rw [AM.nx_new]; omega, B2.same (s4.new), _, bs', rfl, ⟨(SMb.trans s4).new, M4.nx, some 1, false, by rw [hl], by omega, Nat.lt_succ_self _, g0, hbb, .inr rfl⟩, by omega⟩)⟩
  · rw [reg1 q0, reg1 q3, reg1 q6, reg1 q30, reg1 q31, reg1 q32, reg1 q5]
    refine w_seq ?_
    refine w_region ?_
    refine vv rfl ?_
    refine w_nil ?_
    refine k_seq ?_
    refine w_seq ?_
    refine vt ?_
    refine w_skip ?_
    refine k_seq ?_
    refine w_seq ?_
    refine w_block ?_
    refine w_seq ?_
    refine w_region ?_
    refine vv (e_indexAddr rfl rfl F.u151 F.sz157 zD) ?_
    refine vv (e_loadn rfl F.na157 zS zC) ?_
    refine vv (e_assign rfl) ?_
    refine w_nil ?_
    refine k_seq ?_
    refine w_seq ?_
    refine w_region ?_
    refine vv (e_move rfl) ?_
    refine vc (e_call rfl rfl F.f173 rfl) (frame_ok F R.hS (N 144 rfl) (N 173 rfl) B2 (by omega) (by omega) _ (fun M4 K bs' s4 lK1 lK2 hl hbb hK => ?_))
    dsimp only
    have hG4 := hG.after s4
    obtain ⟨k5, g5, f5, rfl, kk5, kl5, _⟩ := id hG4.ex
    refine vv (e_move rfl) ?_
    refine vv rfl ?_
    refine vv rfl ?_
    refine vv (e_assign rfl) ?_
    refine vv (e_assign rfl) ?_
    refine w_nil ?_
    refine k_seq ?_
    refine w_seq ?_
    refine w_seq ?_
    refine w_region ?_
    refine vv (e_move rfl) ?_
    refine vv rfl ?_
    refine w_nil ?_
    refine k_seq ?_
    refine vf ?_
    refine w_skip ?_
    refine k_seq ?_
    refine w_seq ?_
    refine w_seq ?_
    refine w_region ?_
    refine vv (e_move rfl) ?_
    refine vv (e_len_sl rfl rfl rfl rfl F.u157) ?_
    refine vv (e_move rfl) ?_
    refine vv (e_rem64 rfl rfl (by omega)) ?_
    refine vv (e_move rfl) ?_
    refine vv rfl ?_
    refine vv rfl ?_
    refine w_nil ?_
    refine k_seq ?_
    rw [show ieqF (.ofNat (A.length % sz)) (wrapFast .i64 (subF (.ofNat sz) 1)) = false from by rw [lA, Nat.mod_eq_of_lt (by omega : 21 < sz), show wrapFast .i64 (subF (.ofNat sz) 1) = .ofNat (sz - 1) from sub64 (b := 1) (by omega) (by omega)]; exact nbeq_false (by omega)]
    refine vf ?_
    refine w_skip ?_
    refine k_seq ?_
    refine w_region ?_
    refine vv (e_move rfl) ?_
    refine vv (e_move rfl) ?_
    have BK : Bts M4 (.sl K 0 (A2.length + 6) (A2.length + 6) (some 1)) bs' := grown_bts hl hK lK2 hbb
    refine w_valx rfl rfl rfl (e_appB hG4 BK (by omega) (by omega) rfl rfl rfl rfl rfl F.u157 F.u157 F.el5 (by decide)) ?_
    rintro v5 M5 ⟨G5, n5, f5', t5⟩
    refine vv (e_assign rfl) ?_
    refine w_nil ?_
    refine b_normal ?_
    refine k_seq ?_
    refine w_region ?_
    refine vv rfl ?_
    refine vv (e_move rfl) ?_
    refine w_nil ?_
    refine k_seq ?_
    have y5 := G5.same.1
    rw [AM.nx_new] at y5
    exact ⟨0, by decide, rfl, rfl, rfl, rfl, rfl, rfl, (Same.refl M).new.trans G5.same, (G5.same.2 _ (Nat.lt_succ_self _)).trans g0, by omega, .inr (.inr ⟨rfl, rfl, v5, _, rfl, G5, by rw [List.length_append]; omega⟩)⟩
  · rw [reg1 q0, reg1 q3, reg1 q6, reg1 q30, reg1 q31, reg1 q32, reg1 q5]
    obtain ⟨k5, g5, f5, rfl, kk5, kl5, kg5, kb5, ko5⟩ := id hG.ex
    refine w_seq ?_
    refine w_region ?_
    refine vv rfl ?_
    refine w_nil ?_
    refine k_seq ?_
    refine w_seq ?_
    refine vf ?_
    refine w_exit ?_
    refine k_exit ?_
    refine k_exit ?_
    refine b_here ?_
    refine k_seq ?_
    refine w_seq ?_
    refine w_region ?_
    refine vv (e_assign rfl) ?_
    refine w_nil ?_
    refine k_seq ?_
    refine w_seq ?_
    refine w_block ?_
    have hGb := hG.bts
    refine w_loop ?_
    refine loop_inv (fun w ρ D M2' => D = [] ∧ ρ 0 = some (.ptr mt 0) ∧ ρ 3 = some (.ptr M.nx 0) ∧ ρ 6 = some (.int .i64 (.ofNat sz)) ∧ ((w = 1 ∧ M2' = M' ∧ ρ 5 = some (.sl k5 0 A.length A.length g5) ∧ ρ 11 = some .nils) ∨ (w = 0 ∧ ∃ PB b o c g, ρ 5 = some (.sl b o 0 c g) ∧ ρ 11 = some (.sl PB 0 1 1 (some 1)) ∧ Same M' M2' ∧ M'.nx ≤ PB ∧ PB < M2'.nx ∧ M2'.get PB = some (.cells [.sl k5 0 A.length A.length g5] false false)))) ?_ 1 _ _ _
      ⟨rfl, rfl, rfl, rfl, .inl ⟨rfl, rfl, rfl, rfl⟩⟩
    clear q0 q3 q6 q30 q31 q32 q5
    rintro w ρ D M2' ⟨rfl, q0, q3, q6, ⟨rfl, rfl, q5, q11⟩ | ⟨rfl, PB, b, o, cc, g, q5, q11, s2', lP, lP2, hP⟩⟩
    · rw [reg1 q0, reg1 q3, reg1 q6, reg1 q5, reg1 q11]
      refine w_seq ?_
      refine w_seq ?_
      refine w_region ?_
      refine vv (e_move rfl) ?_
      refine vv (e_len_sl rfl rfl rfl rfl F.u157) ?_
      refine vv rfl ?_
      refine w_nil ?_
      refine k_seq ?_
      rw [show iltF 0 (.ofNat A.length) = true from ilt_t (a := 0) (by omega)]
      refine vt ?_
      refine w_skip ?_
      refine k_seq ?_
      refine w_block ?_
      refine w_seq ?_
      refine w_region ?_
      refine vv (e_move rfl) ?_
      refine vv (e_move rfl) ?_
      refine vv (e_len_sl rfl rfl rfl rfl F.u157) ?_
      refine vv (e_min2 rfl rfl rfl rfl) ?_
      refine vv (e_assign rfl) ?_
      refine w_nil ?_
      refine k_seq ?_
      refine w_seq ?_
      refine w_region ?_
      refine vv (e_move rfl) ?_
      refine vv (e_move rfl) ?_
      refine vv (e_move rfl) ?_
      rw [show min sz A.length = A.length from Nat.min_eq_right (by omega)]
      refine vv (e_slice_hi (n := A.length) rfl rfl F.u157 F.sz5 (Nat.le_refl _) ko5) ?_
      refine vv (e_buildSlice rfl F.u151 F.el157 (by decide) (by decide) rfl rfl) ?_
      refine vv (e_appendnil (k := 1) (sz := 1) rfl rfl rfl rfl rfl F.u151 F.u151 F.el157 (by decide) rfl (afirst1 g0 rfl) rfl rfl (by decide) (by decide) (by decide)) ?_
      refine vv (e_assign rfl) ?_
      refine w_nil ?_
      refine k_seq ?_
      refine w_region ?_
      refine vv (e_move rfl) ?_
      refine vv (e_move rfl) ?_
      refine w_valx rfl rfl rfl (e_sliceB (hGb.same ((Same.refl M2').new.new)) F.u157 F.sz5 rfl rfl rfl (a := some A.length) (c := none) rfl rfl (Nat.le_refl _) (Nat.le_refl _)) ?_
      rintro v6 M6 ⟨rfl, b6⟩
      have l6 : (List.take ((none : Option Nat).getD A.length - (some A.length).getD 0) (List.drop ((some A.length).getD 0) A)).length = 0 := by
        show (List.take (A.length - A.length) _).length = 0
        rw [Nat.sub_self]; rfl
      obtain ⟨b', o', c', g', _, _, _, rfl, _⟩ := b6
      rw [l6]
      refine vv (e_assign rfl) ?_
      refine w_nil ?_
      refine b_normal ?_
      refine k_seq ?_
      exact ⟨0, by decide, rfl, rfl, rfl, rfl, .inr ⟨rfl, M2'.nx + 1, b', o', c', g', rfl, rfl, (Same.refl M2').new.new, Nat.le_succ _, Nat.lt_succ_self _, g0⟩⟩
    · rw [reg1 q0, reg1 q3, reg1 q6, reg1 q5, reg1 q11]
      have hmm2 := (s2'.2 mt (by have := SM.1; omega)).trans hmm
      have hbx2 := (s2'.2 _ lbx).trans hbx
      have x2' := s2'.1
      have xM := SM.1
      rw [AM.nx_new] at kk5
      refine w_seq ?_
      refine w_seq ?_
      refine w_region ?_
      refine vv (e_move rfl) ?_
      refine vv (e_len_sl rfl rfl rfl rfl F.u157) ?_
      refine vv rfl ?_
      refine w_nil ?_
      refine k_seq ?_
      refine vf ?_
      refine w_exit ?_
      refine k_exit ?_
      refine k_exit ?_
      refine b_here ?_
      refine k_seq ?_
      refine w_seq ?_
      refine w_seq ?_
      refine w_region ?_
      refine vv (e_move rfl) ?_
      refine vv rfl ?_
      refine vv (e_fa rfl F.fa165_0) ?_
      refine vv (e_loadn rfl F.na46 zS zC) ?_
      refine vv (e_move rfl) ?_
      refine vc (e_call rfl rfl F.f174 rfl) (change_ok F N R (hM.same (SM.trans s2')) hg hx hP lP2 (fun e => by have := hM.own e; omega) (hGb.same s2') (fun e => by have : k5 < M.nx := hM.own e; omega) (by omega) (by omega) _ (fun M5 X nx' pcs' e5 m5 i5 p5 x5 l5 => ?_))
      dsimp only
      have hmm5 := (e5.2 mt (by omega) omt).trans hmm2
      have hbx5 := (e5.2 M.nx (by omega) (fun e => by have := hM.own e; omega)).trans hbx2
      have y5 := e5.1
      refine vv (e_assign rfl) ?_
      refine w_nil ?_
      refine k_seq ?_
      refine w_seq ?_
      refine w_region ?_
      refine vv (e_move rfl) ?_
      refine vv rfl ?_
      refine w_nil ?_
      refine k_seq ?_
      refine vf ?_
      refine w_skip ?_
      refine k_seq ?_
      refine w_seq ?_
      refine w_region ?_
      refine vv (e_move rfl) ?_
      refine vv rfl ?_
      refine vv (e_fa rfl F.fa165_0) ?_
      refine vv (e_loadn rfl F.na46 zS zC) ?_
      refine vc (e_call rfl rfl F.f97 rfl) (openm_ok F N R m5 hg rfl rfl p5 x5 l5 kb5 (by omega) _ (fun M6 lgp s6 ll1 ll2 => ?_))
      dsimp only
      have hmm6 := (s6.2 mt (by omega)).trans hmm5
      have hbx6 := (s6.2 M.nx (by omega)).trans hbx5
      refine vv (e_move rfl) ?_
      refine vv rfl ?_
      refine vv rfl ?_
      refine vv (e_assign rfl) ?_
      refine vv (e_assign rfl) ?_
      refine w_nil ?_
      refine k_seq ?_
      refine w_seq ?_
      refine w_seq ?_
      refine w_region ?_
      refine vv (e_move rfl) ?_
      refine vv rfl ?_
      refine w_nil ?_
      refine k_seq ?_
      refine vf ?_
      refine w_skip ?_
      refine k_seq ?_
      refine w_seq ?_
      refine w_order [.run 0 0, .run 1 0, .run 2 0, .run 3 0, .run 4 0, .run 5 9, .run 6 41, .chk, .eff 7 105, .run 8 251, .run 9 507, .chk, .eff 10 1019, .run 11 2047, .run 12 4095, .chk, .eff 13 8191, .chk] (by decide +kernel) ?_
      refine sp rfl (e_move rfl) ?_
      refine sp rfl (e_move rfl) ?_
      refine sp rfl (e_move rfl) ?_
      refine sp rfl (e_move rfl) ?_
      refine sr rfl (e_loada rfl F.ag75 F.sz75 zS zN) ?_
      refine sp rfl rfl ?_
      refine sp rfl (e_fa rfl F.fa165_1) ?_
      refine st_chk (by repeat first | exact ck_nil | refine ck_cons ⟨_, _, rfl, zA⟩ ?_ | refine ck_cons ⟨_, _, (e_loada rfl F.ag75 F.sz75 (by first | assumption | exact g0 | exact s0 | (repeat first | assumption | exact g0 | exact s0 | refine gn zL ?_ | refine gs zL ?_)) zN), zA⟩ ?_ | refine ck_cons ⟨_, (by first | assumption | exact g0 | exact s0 | (repeat first | assumption | exact g0 | exact s0 | refine gn zL ?_ | refine gs zL ?_)), zB⟩ ?_) ?_
      refine fd rfl zP (e_store rfl rfl F.sz135 zS zN rfl) ?_
      refine sp rfl rfl ?_
      refine sp rfl (e_fa rfl F.fa165_2) ?_
      refine st_chk (by repeat first | exact ck_nil | refine ck_cons ⟨_, _, rfl, zA⟩ ?_ | refine ck_cons ⟨_, _, (e_loada rfl F.ag75 F.sz75 (by first | assumption | exact g0 | exact s0 | (repeat first | assumption | exact g0 | exact s0 | refine gn zL ?_ | refine gs zL ?_)) zN), zA⟩ ?_ | refine ck_cons ⟨_, (by first | assumption | exact g0 | exact s0 | (repeat first | assumption | exact g0 | exact s0 | refine gn zL ?_ | refine gs zL ?_)), zB⟩ ?_) ?_
      refine fd rfl zP (e_store rfl rfl F.sz75 s0 zN rfl) ?_
      refine sp rfl rfl ?_
      refine sp rfl (e_fa rfl F.fa165_3) ?_
      refine st_chk (by repeat first | exact ck_nil | refine ck_cons ⟨_, _, rfl, zA⟩ ?_ | refine ck_cons ⟨_, _, (e_loada rfl F.ag75 F.sz75 (by first | assumption | exact g0 | exact s0 | (repeat first | assumption | exact g0 | exact s0 | refine gn zL ?_ | refine gs zL ?_)) zN), zA⟩ ?_ | refine ck_cons ⟨_, (by first | assumption | exact g0 | exact s0 | (repeat first | assumption | exact g0 | exact s0 | refine gn zL ?_ | refine gs zL ?_)), zB⟩ ?_) ?_
      refine fd rfl zP (e_store rfl rfl F.sz3 s0 zN rfl) ?_
      refine st_chk (by repeat first | exact ck_nil | refine ck_cons ⟨_, _, rfl, zA⟩ ?_ | refine ck_cons ⟨_, _, (e_loada rfl F.ag75 F.sz75 (by first | assumption | exact g0 | exact s0 | (repeat first | assumption | exact g0 | exact s0 | refine gn zL ?_ | refine gs zL ?_)) zN), zA⟩ ?_ | refine ck_cons ⟨_, (by first | assumption | exact g0 | exact s0 | (repeat first | assumption | exact g0 | exact s0 | refine gn zL ?_ | refine gs zL ?_)), zB⟩ ?_) ?_
      refine st_nil ?_
      refine k_seq ?_
      refine w_seq ?_
      refine w_region ?_
      refine vv (e_assign rfl) ?_
      refine w_nil ?_
      refine k_seq ?_
      refine w_ret ?_
      have mg := m5.same s6
      have xx : Ex (fun x => OwnM m L Z c B p0 bl x ∨ x = mt) M M6 := (Ex.of (SM.trans s2')).trans ((e5.mono fun x h => .inl h).trans (Ex.of s6))
      have ms : ∀ {A : AM} {f : Nat → Ent} {z : Nat → Int} {q : Int} {nx : Nat → Nat} {pcs : Nat → List AV} (y : Option AObj), Mgr A m L Z c B p0 bl pg sz rs f z q nx pcs → Mgr (A.set mt y) m L Z c B p0 bl pg sz rs f z q nx pcs := fun y h => h.frame (by rw [AM.nx_set]; exact Nat.le_refl _) fun x hx => AM.get_set_ne (fun e => omt (by rw [← e]; exact hx))
      exact ⟨_, res_tmp rfl res_nil, hQ _ nx' pcs' _ _ _ (((xx.set (.inr (.inr rfl))).set (.inr (.inr rfl))).set (.inr (.inr rfl))) (ms _ (ms _ (ms _ mg)))⟩
end
end Go.Abm.Seat

open Go Go.Abm
set_option maxRecDepth 100000
set_option maxHeartbeats 4000000
namespace Go.Abm.Seat
theorem e_sliceStr {E : Env} {ρ : Reg} {M : AM} {t : TypeId} {x : Operand} {lo hi : Option Operand} {lo' hi' : Option AV} {a c : Option Nat} {s : List Nat} (hx : rhoR E ρ x = some (.str s)) (q1 : rhoO (rhoR E ρ) lo = some lo') (q2 : rhoO (rhoR E ρ) hi = some hi') (h1 : anum lo' = some a) (h2 : anum hi' = some c) (hu : E.under t = some .string)
    (h : (Nat.ble (a.getD 0) (c.getD s.length) && Nat.ble (c.getD s.length) s.length) = true) : evalOp E (rhoR E ρ) (.slice t x lo hi none) M = some (.val (.str ((s.drop (a.getD 0)).take (c.getD s.length - a.getD 0))) M) := by
  unfold evalOp
  dsimp only
  rw [hx, q1, q2, show rhoO (rhoR E ρ) none = some none from rfl]
  dsimp only
  unfold aslice
  rw [h1, h2, show anum none = some none from rfl]
  dsimp only
  rw [hu]
  dsimp only
  rw [h]; rfl
section
variable {E : Env} (F : Facts E) (N : NS E) (R : RS E)
include F N R
theorem small0_ok (M : AM) (Q : KC) (hQ : Q (.ret (.str [48])) M) : CallsTo E 294 [.int .i64 0] M Q := by
  refine call_rule F.f294 rfl (N 294 rfl) ?_
  refine w_seq ?_
  refine w_region ?_
  refine vv (e_assign rfl) ?_
  refine w_nil ?_
  refine k_seq ?_
  refine w_seq ?_
  refine w_seq ?_
  refine w_region ?_
  refine vv (e_move rfl) ?_
  refine vv rfl ?_
  refine w_nil ?_
  refine k_seq ?_
  refine vt ?_
  refine w_seq ?_
  refine w_region ?_
  refine vv (e_move rfl) ?_
  refine vv (e_move rfl) ?_
  refine vv rfl ?_
  refine vv (e_sliceStr rfl rfl rfl rfl rfl F.u9 rfl) ?_
  refine vv (e_assign rfl) ?_
  refine w_nil ?_
  refine k_seq ?_
  refine w_ret ?_
  refine k_ret ?_
  exact ⟨_, res_tmp rfl res_nil, hQ⟩
theorem fmt0_ok (M : AM) (Q : KC) (hQ : Q (.ret (.str [48])) M) : CallsTo E 250 [.int .i64 0, .int .i64 10] M Q := by
  refine call_rule F.f250 rfl (N 250 rfl) ?_
  refine w_seq ?_
  refine w_region ?_
  refine vv (e_assign rfl) ?_
  refine w_nil ?_
  refine k_seq ?_
  refine w_seq ?_
  refine w_seq ?_
  refine w_region ?_
  refine vv (e_move rfl) ?_
  refine vv rfl ?_
  refine w_nil ?_
  refine k_seq ?_
  refine vt ?_
  refine w_seq ?_
  refine w_seq ?_
  refine w_region ?_
  refine vv (e_move rfl) ?_
  refine vv rfl ?_
  refine vv (e_move rfl) ?_
  refine vg (e_move rfl) ?_
  refine vg rfl ?_
  refine vv rfl ?_
  refine w_nil ?_
  refine k_seq ?_
  refine vt ?_
  refine w_seq ?_
  refine w_region ?_
  refine vv (e_move rfl) ?_
  refine vc (e_call rfl rfl F.f294 rfl) (small0_ok F N R M _ ?_)
  dsimp only
  refine vv (e_assign rfl) ?_
  refine w_nil ?_
  refine k_seq ?_
  refine w_ret ?_
  refine k_ret ?_
  refine k_ret ?_
  exact ⟨_, res_tmp rfl res_nil, hQ⟩
theorem itoa1_ok (M : AM) (Q : KC) (hQ : Q (.ret (.str [48])) M) : CallsTo E 175 [.int .i64 0] M Q := by
  refine call_rule F.f175 rfl (N 175 rfl) ?_
  refine w_seq ?_
  refine w_region ?_
  refine vv (e_assign rfl) ?_
  refine w_nil ?_
  refine k_seq ?_
  refine w_seq ?_
  refine w_region ?_
  refine vv (e_move rfl) ?_
  refine vc (e_call rfl rfl F.f250 rfl) (fmt0_ok F N R M _ ?_)
  dsimp only
  refine vv (e_assign rfl) ?_
  refine w_nil ?_
  refine k_seq ?_
  refine w_ret ?_
  exact ⟨_, res_tmp rfl res_nil, hQ⟩
theorem itoa_ok (M : AM) (Q : KC) (hQ : Q (.ret (.str [48])) M) : CallsTo E 96 [.int .i64 0] M Q := by
  refine call_rule F.f96 rfl (N 96 rfl) ?_
  refine w_seq ?_
  refine w_region ?_
  refine vv (e_assign rfl) ?_
  refine w_nil ?_
  refine k_seq ?_
  refine w_seq ?_
  refine w_region ?_
  refine vv (e_move rfl) ?_
  refine vc (e_call rfl rfl F.f175 rfl) (itoa1_ok F N R M _ ?_)
  dsimp only
  refine vv (e_assign rfl) ?_
  refine w_nil ?_
  refine k_seq ?_
  refine w_ret ?_
  exact ⟨_, res_tmp rfl res_nil, hQ⟩
theorem text_ok (M : AM) (Q : KC) (hQ : ∀ M', Same M M' → Q (.ret (.str [48, 32, 48, 32, 48])) M') : CallsTo E 34 [.agg [.int .i64 0, .int .i64 0, .int .i64 0]] M Q := by
  refine call_rule F.f34 rfl (N 34 rfl) ?_
  refine w_seq ?_
  refine w_region ?_
  refine vv rfl ?_
  refine vv (e_assign rfl) ?_
  refine w_nil ?_
  refine k_seq ?_
  refine w_seq ?_
  refine w_order [.run 0 0, .run 1 1, .run 4 0, .run 5 16, .run 9 0, .run 10 512, .chk, .eff 2 3, .run 3 7, .chk, .eff 6 55, .run 7 127, .run 8 255, .chk, .eff 11 1655, .run 12 4095, .chk, .eff 13 8191, .chk] (by decide +kernel) ?_
  refine sp rfl (e_fa rfl F.fa73_0) ?_
  refine sr rfl (e_loadn rfl F.na3 g0 zC) ?_
  refine sp rfl (e_fa rfl F.fa73_1) ?_
  refine sr rfl (e_loadn rfl F.na3 g0 zC) ?_
  refine sp rfl (e_fa rfl F.fa73_2) ?_
  refine sr rfl (e_loadn rfl F.na3 g0 zC) ?_
  refine st_chk (by repeat first | exact ck_nil | refine ck_cons ⟨_, _, rfl, zA⟩ ?_ | refine ck_cons ⟨_, _, (e_loadn rfl F.na3 (by first | assumption | exact g0 | exact s0 | (repeat first | assumption | exact g0 | exact s0 | refine gn zL ?_ | refine gs zL ?_)) zC), zA⟩ ?_ | refine ck_cons ⟨_, (by first | assumption | exact g0 | exact s0 | (repeat first | assumption | exact g0 | exact s0 | refine gn zL ?_ | refine gs zL ?_)), zB⟩ ?_) ?_
  have hb : (M.new (.cells [.int .i64 0, .int .i64 0, .int .i64 0] false false)).get M.nx = some (.cells [.int .i64 0, .int .i64 0, .int .i64 0] false false) := g0
  refine fc rfl zP (e_call rfl rfl F.f96 rfl) (itoa_ok F N R _ _ ⟨Nat.le_refl _, ?_⟩)
  refine sp rfl rfl ?_
  refine st_chk (by repeat first | exact ck_nil | refine ck_cons ⟨_, _, rfl, zA⟩ ?_ | refine ck_cons ⟨_, _, (e_loadn rfl F.na3 (by first | assumption | exact g0 | exact s0 | (repeat first | assumption | exact g0 | exact s0 | refine gn zL ?_ | refine gs zL ?_)) zC), zA⟩ ?_ | refine ck_cons ⟨_, (by first | assumption | exact g0 | exact s0 | (repeat first | assumption | exact g0 | exact s0 | refine gn zL ?_ | refine gs zL ?_)), zB⟩ ?_) ?_
  refine fc rfl zP (e_call rfl rfl F.f96 rfl) (itoa_ok F N R _ _ ⟨Nat.le_refl _, ?_⟩)
  refine sp rfl rfl ?_
  refine sp rfl rfl ?_
  refine st_chk (by repeat first | exact ck_nil | refine ck_cons ⟨_, _, rfl, zA⟩ ?_ | refine ck_cons ⟨_, _, (e_loadn rfl F.na3 (by first | assumption | exact g0 | exact s0 | (repeat first | assumption | exact g0 | exact s0 | refine gn zL ?_ | refine gs zL ?_)) zC), zA⟩ ?_ | refine ck_cons ⟨_, (by first | assumption | exact g0 | exact s0 | (repeat first | assumption | exact g0 | exact s0 | refine gn zL ?_ | refine gs zL ?_)), zB⟩ ?_) ?_
  refine fc rfl zP (e_call rfl rfl F.f96 rfl) (itoa_ok F N R _ _ ⟨Nat.le_refl _, ?_⟩)
  refine sp rfl rfl ?_
  refine st_chk (by repeat first | exact ck_nil | refine ck_cons ⟨_, _, rfl, zA⟩ ?_ | refine ck_cons ⟨_, _, (e_loadn rfl F.na3 (by first | assumption | exact g0 | exact s0 | (repeat first | assumption | exact g0 | exact s0 | refine gn zL ?_ | refine gs zL ?_)) zC), zA⟩ ?_ | refine ck_cons ⟨_, (by first | assumption | exact g0 | exact s0 | (repeat first | assumption | exact g0 | exact s0 | refine gn zL ?_ | refine gs zL ?_)), zB⟩ ?_) ?_
  refine fp rfl zP (e_assign rfl) ?_
  refine st_chk (by repeat first | exact ck_nil | refine ck_cons ⟨_, _, rfl, zA⟩ ?_ | refine ck_cons ⟨_, _, (e_loadn rfl F.na3 (by first | assumption | exact g0 | exact s0 | (repeat first | assumption | exact g0 | exact s0 | refine gn zL ?_ | refine gs zL ?_)) zC), zA⟩ ?_ | refine ck_cons ⟨_, (by first | assumption | exact g0 | exact s0 | (repeat first | assumption | exact g0 | exact s0 | refine gn zL ?_ | refine gs zL ?_)), zB⟩ ?_) ?_
  refine st_nil ?_
  refine k_seq ?_
  refine w_ret ?_
  exact ⟨_, res_tmp rfl res_nil, hQ _ (Same.refl M).new⟩
theorem inew_ok (M : AM) (m : Nat) (Q : KC) (hQ : ∀ M' x, Same M M' → M.nx ≤ x → Q (.ret (.ptr x 0)) M') : CallsTo E 35 [.ptr m 0] M Q := by
  refine call_rule F.f35 rfl (N 35 rfl) ?_
  refine w_seq ?_
  refine w_region ?_
  refine vv (e_assign rfl) ?_
  refine w_nil ?_
  refine k_seq ?_
  refine w_seq ?_
  refine w_region ?_
  refine vv (e_move rfl) ?_
  refine vv rfl ?_
  refine vv (e_build rfl F.bd171 rfl) ?_
  refine vv rfl ?_
  refine vv (e_assign rfl) ?_
  refine w_nil ?_
  refine k_seq ?_
  refine w_ret ?_
  exact ⟨_, res_tmp rfl res_nil, hQ _ _ (Same.refl M).new.new (Nat.le_succ _)⟩
theorem jnew_ok (M : AM) (m : Nat) (Q : KC) (hQ : ∀ M' x, Same M M' → M.nx ≤ x → Q (.ret (.ptr x 0)) M') : CallsTo E 36 [.ptr m 0, .int .u64 1] M Q := by
  refine call_rule F.f36 rfl (N 36 rfl) ?_
  refine w_seq ?_
  refine w_region ?_
  refine vv (e_assign rfl) ?_
  refine w_nil ?_
  refine k_seq ?_
  refine w_seq ?_
  refine w_region ?_
  refine vv (e_move rfl) ?_
  refine vv (e_move rfl) ?_
  refine vv (e_build rfl F.bd137 rfl) ?_
  refine vv rfl ?_
  refine vv (e_assign rfl) ?_
  refine w_nil ?_
  refine k_seq ?_
  refine w_ret ?_
  exact ⟨_, res_tmp rfl res_nil, hQ _ _ (Same.refl M).new (Nat.le_refl _)⟩
theorem create_ok {M : AM} {m L Z c B p0 bl pg sz rs : Nat} {nx : Nat → Nat} {pcs : Nat → List AV} (hM : Mgr M m L Z c B p0 bl pg sz rs (fun x => if x < bl then frE else spE) (fun _ => -1) 0 nx pcs) (hg : Geo bl pg sz rs) (hx : nx 0 = 1) {s : List Nat} (hs : Byt s) (hsl : s.length = 5) (Q : KC)
    (hQ : ∀ M' mt nx' pcs' z' f' q', Ex (OwnM m L Z c B p0 bl) M M' → M.nx ≤ mt → Mgr M' m L Z c B p0 bl pg sz rs f' z' q' nx' pcs' → Q (.ret (.tup [.ptr mt 0, .int .i64 0])) M') :
    CallsTo E 33 [.ptr m 0, .agg [.int .u64 1, .str s]] M Q := by
  refine call_rule F.f33 rfl (N 33 rfl) ?_
  refine w_seq ?_
  refine w_region ?_
  refine vv rfl ?_
  refine vv (e_assign rfl) ?_
  refine vv (e_assign rfl) ?_
  refine w_nil ?_
  refine k_seq ?_
  refine w_seq ?_
  refine w_seq ?_
  refine w_region ?_
  refine vv (e_move rfl) ?_
  refine vv (e_eqlp rfl rfl F.u46) ?_
  refine w_nil ?_
  refine k_seq ?_
  refine vf ?_
  refine w_skip ?_
  refine k_seq ?_
  refine w_seq ?_
  refine w_seq ?_
  refine w_region ?_
  refine vv (e_fa rfl F.fa75_1) ?_
  refine vv (e_loadn rfl F.na9 g0 zC) ?_
  refine vv (e_len_str rfl rfl rfl rfl F.u9) ?_
  refine vv rfl ?_
  refine w_nil ?_
  refine k_seq ?_
  rw [show iltF 512 (.ofNat s.length) = false from ilt_f (a := 512) (by omega)]
  refine vf ?_
  refine w_skip ?_
  refine k_seq ?_
  refine w_seq ?_
  refine w_region ?_
  refine vv (e_move rfl) ?_
  refine vv (e_build rfl F.bd165 rfl) ?_
  refine vv rfl ?_
  refine vv (e_assign rfl) ?_
  refine w_nil ?_
  refine k_seq ?_
  refine w_seq ?_
  refine w_seq ?_
  refine w_region ?_
  refine vv (e_move rfl) ?_
  refine vv (e_loada rfl F.ag75 F.sz75 (by first | assumption | exact g0 | exact s0 | (repeat first | assumption | exact g0 | exact s0 | refine gn zL ?_ | refine gs zL ?_)) zN) ?_
  have SA : Same M ((M.new (.cells [.int .u64 1, .str s] false false)).new (.cells [.ptr m 0, .nilp, .int .u64 0, .str [], .int .i64 0] false false)) := (Same.refl M).new.new
  refine vc (e_call rfl rfl F.f95 rfl) (alone_ok F N R (hM.same SA) hg hx (mt := M.nx + 1) g0 (Nat.lt_succ_self _) (fun e => by have := hM.own e; omega) hs hsl _ (fun M1 nx' pcs' z' f' q' e1 m1 => ?_))
  dsimp only
  refine vv (e_assign rfl) ?_
  refine w_nil ?_
  refine k_seq ?_
  refine w_seq ?_
  refine w_region ?_
  refine vv (e_move rfl) ?_
  refine vv rfl ?_
  refine w_nil ?_
  refine k_seq ?_
  refine vf ?_
  refine w_skip ?_
  refine k_seq ?_
  refine w_seq ?_
  refine w_region ?_
  refine vv (e_move rfl) ?_
  refine vv (e_assign rfl) ?_
  refine vv (e_assign rfl) ?_
  refine w_nil ?_
  refine k_seq ?_
  refine w_ret ?_
  exact ⟨_, res_tmp rfl (res_tmp rfl res_nil), hQ M1 (M.nx + 1) nx' pcs' z' f' q' ⟨Nat.le_trans SA.1 e1.1, fun x hx hO => (e1.2 x (Nat.lt_of_lt_of_le hx SA.1) (fun h => h.elim hO (fun h => by omega))).trans (SA.2 x hx)⟩ (Nat.le_succ _) m1⟩
end
end Go.Abm.Seat
