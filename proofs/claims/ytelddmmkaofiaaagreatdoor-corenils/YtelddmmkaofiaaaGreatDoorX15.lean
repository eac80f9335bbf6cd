/-
  A part of the proof of YtelddmmkaofiaaaGreatDoor: for every input the law answers true (a machine over names of blocks, its soundness, and the run of the law). No condition beyond the given statement's.
-/
import Derived.Test.YtelddmmkaofiaaaGreatDoorX14
import Derived.Test.YtelddmmkaofiaaaGreatDoorX13
set_option linter.unusedVariables false
set_option linter.unusedSimpArgs false
set_option linter.unusedSectionVars false
open Go Go.Abm
set_option maxRecDepth 100000
namespace Go.Abm.Seat
theorem fill_ok {E : Env} (F : Facts E) (hs : E.sums 285 = none) (M : AM) (b off len cap n : Nat) (gr : Option Nat) (l : List AV) (ro fz : Bool) (hm : M.get b = some (.cells l ro fz)) (lb : b < M.nx)
    (hc : min n len ≤ cap) (hl : off + min n len ≤ l.length) (hn : n ≤ 65536) (hg : gr = none ∨ gr = some 1) (hone : ((l.drop off).take (min n len)).all AV.one = true) :
    CallsTo E 285 [.sl b off len cap gr, .int .i64 (.ofNat n)] M fun e M' => ∃ K g, e = .ret (.sl K 0 n n g) ∧ (n = 0 ∧ g = none ∧ K = M.nx ∧ M'.nx = M.nx + 1 ∨ 0 < n ∧ g = some 1 ∧ M'.nx = K + 1 ∧ M'.nx = M.nx + 1 + (if min n len = 0 then 0 else 1) + 2 * (n - min n len)) ∧
      (∀ x, x < M.nx → M'.get x = M.get x) ∧ M'.get K = some (.cells ((l.drop off).take (min n len) ++ List.replicate (n - min n len) (.int .u8 255)) false false) := by
  have hdl : ((l.drop off).take (min n len)).length = min n len := by rw [List.length_take, List.length_drop]; omega
  refine call_rule F.f285 rfl hs ?_
  repeat first | refine w_seq ?_ | refine w_region ?_ | refine w_val rfl rfl rfl rfl ?_ | refine w_valg rfl rfl rfl rfl ?_ | refine w_nil ?_ | refine k_seq ?_ | refine w_skip ?_ | refine w_block ?_ | refine w_exit ?_ | refine k_exit ?_ | refine b_here ?_ | refine b_normal ?_ | refine w_ret ?_ | refine k_ret ?_ | refine b_ret ?_
  refine w_false (show some (AV.bool (iltF (.ofNat n) (.ofNat 0))) = _ from bool_ilt_f (Nat.zero_le _)) ?_
  repeat first | refine w_seq ?_ | refine w_region ?_ | refine w_val rfl rfl rfl rfl ?_ | refine w_valg rfl rfl rfl rfl ?_ | refine w_nil ?_ | refine k_seq ?_ | refine w_skip ?_ | refine w_block ?_ | refine w_exit ?_ | refine k_exit ?_ | refine b_here ?_ | refine b_normal ?_ | refine w_ret ?_ | refine k_ret ?_ | refine b_ret ?_
  refine w_val rfl rfl rfl (e_buildSlice (l := []) rfl F.u46 F.el5 (by decide) (by decide) rfl rfl) ?_
  repeat first | refine w_seq ?_ | refine w_region ?_ | refine w_val rfl rfl rfl rfl ?_ | refine w_valg rfl rfl rfl rfl ?_ | refine w_nil ?_ | refine k_seq ?_ | refine w_skip ?_ | refine w_block ?_ | refine w_exit ?_ | refine k_exit ?_ | refine b_here ?_ | refine b_normal ?_ | refine w_ret ?_ | refine k_ret ?_ | refine b_ret ?_
  refine w_val rfl rfl rfl (e_len_sl rfl rfl rfl rfl F.u46) ?_
  refine w_val rfl rfl rfl (e_min2 rfl rfl rfl rfl) ?_
  refine w_val rfl rfl rfl (e_slice_hi rfl rfl F.u46 F.sz5 hc hg) ?_
  have hm1 : (M.new (.cells [] false false)).get b = some (.cells l ro fz) := by rw [AM.get_new_lt lb]; exact hm
  generalize hmn : min n len = m at *
  have hmn' : m ≤ n := by rw [← hmn]; exact Nat.min_le_left _ _
  have hf1 : afirst (M.new (.cells [] false false)) 1 m (.sl b off m cap gr) = some ((l.drop off).take m) := by
    rcases Nat.eq_zero_or_pos m with h0 | h0
    · subst h0; simp [afirst]
    · simp only [afirst, nbeq_false (show m ≠ 0 by omega), ble_t hc, AM.cells, hm1, Nat.mul_one, ble_t hl, cond_true, cond_false]
  refine w_valx rfl rfl rfl (e_append_any (v := .sl b off m cap gr) (len := 0) (cs := []) (k := m) rfl rfl rfl rfl rfl F.u46 F.u46 F.el5 AM.get_new_self rfl (Or.inl ⟨rfl, rfl⟩) rfl hf1 hone hdl (by omega) (by unfold maxI; omega)) ?_
  intro v M1 hv
  have hv' : ∃ K g, v = .sl K 0 m m g ∧ (m = 0 ∧ g = none ∧ K = M.nx ∧ M1.nx = M.nx + 1 ∨ 0 < m ∧ g = some 1 ∧ M1.nx = K + 1 ∧ M1.nx = M.nx + 2) ∧ (∀ x, x < M.nx → M1.get x = M.get x) ∧ M1.get K = some (.cells ((l.drop off).take m) false false) := by
    rcases hv with ⟨h0, rfl, rfl⟩ | ⟨h0, rfl, h3, h4, h5⟩
    · subst h0
      refine ⟨_, _, rfl, Or.inl ⟨rfl, rfl, rfl, rfl⟩, fun x hx => AM.get_new_lt hx, ?_⟩
      rw [AM.get_new_self, List.take_zero]; rfl
    · refine ⟨M.nx + 1, some 1, by simp [AM.nx_new], Or.inr ⟨h0, rfl, h3, h3⟩, fun x hx => ?_, by simpa [AM.nx_new] using h5⟩
      rw [h4 x (by omega) (by rw [AM.nx_new]; omega), AM.get_new_lt hx]
  clear hv
  generalize (l.drop off).take m = d0 at *
  clear hf1 hone hm hc hl hg
  obtain ⟨K, g, rfl, hK, hold, hcur⟩ := hv'
  repeat first | refine w_seq ?_ | refine w_region ?_ | refine w_val rfl rfl rfl rfl ?_ | refine w_valg rfl rfl rfl rfl ?_ | refine w_nil ?_ | refine k_seq ?_ | refine w_skip ?_ | refine w_block ?_ | refine w_exit ?_ | refine k_exit ?_ | refine b_here ?_ | refine b_normal ?_ | refine w_ret ?_ | refine k_ret ?_ | refine b_ret ?_
  refine w_loop ?_
  refine loop_inv (fun k ρ D M' => D = [] ∧ ∃ i K g, k = n - m - i ∧ m + i ≤ n ∧ ρ 1 = some (.int .i64 (.ofNat n)) ∧ ρ 5 = some (.sl K 0 (m + i) (m + i) g) ∧
      (m + i = 0 ∧ g = none ∧ K = M.nx ∧ M'.nx = M.nx + 1 ∨ 0 < m + i ∧ g = some 1 ∧ M'.nx = K + 1 ∧ M'.nx = M.nx + 1 + (if m = 0 then 0 else 1) + 2 * i) ∧ (∀ x, x < M.nx → M'.get x = M.get x) ∧
      M'.get K = some (.cells (d0 ++ List.replicate i (.int .u8 255)) false false)) ?_ (n - m) _ _ _ ⟨rfl, 0, K, g, rfl, hmn', rfl, rfl, ?_, hold, ?_⟩
  rotate_left
  · rcases hK with ⟨h1, h2, h3, h4⟩ | ⟨h1, h2, h3, h4⟩
    · exact Or.inl ⟨by omega, h2, h3, h4⟩
    · refine Or.inr ⟨by omega, h2, h3, ?_⟩
      rw [if_neg (by omega)]; omega
  · simpa using hcur
  clear hcur hold hK K g M1 hm1
  rintro k ρ D M' ⟨rfl, i, K, g, rfl, hi, h1, h5, hK, hold, hcur⟩
  repeat first | refine w_seq ?_ | refine w_region ?_ | refine w_val rfl rfl rfl rfl ?_ | refine w_valg rfl rfl rfl rfl ?_ | refine w_nil ?_ | refine k_seq ?_ | refine w_skip ?_ | refine w_block ?_ | refine w_exit ?_ | refine k_exit ?_ | refine b_here ?_ | refine b_normal ?_ | refine w_ret ?_ | refine k_ret ?_ | refine b_ret ?_
  refine w_val rfl rfl rfl (e_move h5) ?_
  refine w_val rfl rfl rfl (e_len_sl rfl rfl rfl rfl F.u46) ?_
  refine w_val rfl rfl rfl (e_move h1) ?_
  refine w_val rfl rfl rfl (e_lss64 rfl rfl) ?_
  repeat first | refine w_seq ?_ | refine w_region ?_ | refine w_val rfl rfl rfl rfl ?_ | refine w_valg rfl rfl rfl rfl ?_ | refine w_nil ?_ | refine k_seq ?_ | refine w_skip ?_ | refine w_block ?_ | refine w_exit ?_ | refine k_exit ?_ | refine b_here ?_ | refine b_normal ?_ | refine w_ret ?_ | refine k_ret ?_ | refine b_ret ?_
  refine w_cond rfl (fun h => ?_) (fun h => ?_)
  case refine_2 =>
    have he : m + i = n := by have := of_decide_eq_false h; omega
    repeat first | refine w_seq ?_ | refine w_region ?_ | refine w_val rfl rfl rfl rfl ?_ | refine w_valg rfl rfl rfl rfl ?_ | refine w_nil ?_ | refine k_seq ?_ | refine w_skip ?_ | refine w_block ?_ | refine w_exit ?_ | refine k_exit ?_ | refine b_here ?_ | refine b_normal ?_ | refine w_ret ?_ | refine k_ret ?_ | refine b_ret ?_
    refine w_val rfl rfl rfl (e_move h5) ?_
    repeat first | refine w_seq ?_ | refine w_region ?_ | refine w_val rfl rfl rfl rfl ?_ | refine w_valg rfl rfl rfl rfl ?_ | refine w_nil ?_ | refine k_seq ?_ | refine w_skip ?_ | refine w_block ?_ | refine w_exit ?_ | refine k_exit ?_ | refine b_here ?_ | refine b_normal ?_ | refine w_ret ?_ | refine k_ret ?_ | refine b_ret ?_
    refine ⟨_, rfl, K, g, by rw [← he]; rfl, ?_, hold, ?_⟩
    · rcases hK with ⟨h1, h2, h3, h4⟩ | ⟨h1, h2, h3, h4⟩
      · exact Or.inl ⟨by omega, h2, h3, h4⟩
      · exact Or.inr ⟨by omega, h2, h3, by rw [h4]; congr 2; omega⟩
    · rw [hcur]; congr 4; omega
  have hlt : m + i < n := of_decide_eq_true h
  repeat first | refine w_seq ?_ | refine w_region ?_ | refine w_val rfl rfl rfl rfl ?_ | refine w_valg rfl rfl rfl rfl ?_ | refine w_nil ?_ | refine k_seq ?_ | refine w_skip ?_ | refine w_block ?_ | refine w_exit ?_ | refine k_exit ?_ | refine b_here ?_ | refine b_normal ?_ | refine w_ret ?_ | refine k_ret ?_ | refine b_ret ?_
  refine w_val rfl rfl rfl (e_move h5) ?_
  refine w_val rfl rfl rfl (e_buildSlice (l := [(0, .int .u8 255)]) rfl F.u46 F.el5 (by decide) (by decide) rfl rfl) ?_
  have hKn : K < M'.nx := by rcases hK with ⟨_, _, h3, h4⟩ | ⟨_, _, h3, h4⟩ <;> omega
  have hMn : M.nx ≤ K := by
    rcases hK with ⟨_, _, h3, h4⟩ | ⟨_, _, h3, h4⟩
    · omega
    · split at h4 <;> omega
  refine w_valx rfl rfl rfl (e_appendx (new := [.int .u8 255]) (k := 1) rfl rfl rfl rfl rfl F.u46 F.u46 F.el5 (by rw [AM.get_new_lt hKn]; exact hcur) (by rw [List.length_append, hdl, List.length_replicate])
    (by rcases hK with ⟨_, h2, _⟩ | ⟨_, h2, _⟩; exact Or.inl ⟨h2, rfl⟩; exact Or.inr h2) rfl ?_ rfl rfl (Nat.le_refl _) (by omega) (by unfold maxI; omega)) ?_
  · have hcell : (M'.new (.cells [AV.int .u8 255] false false)).cells M'.nx = some [AV.int .u8 255] := by simp only [AM.cells, AM.get_new_self]
    show afirst (M'.new (.cells [AV.int .u8 255] false false)) 1 1 (.sl M'.nx 0 1 1 none) = _
    simp only [afirst, hcell]; rfl
  rintro v M2 ⟨rfl, hnx, hold2, hcur2⟩
  repeat first | refine w_seq ?_ | refine w_region ?_ | refine w_val rfl rfl rfl rfl ?_ | refine w_valg rfl rfl rfl rfl ?_ | refine w_nil ?_ | refine k_seq ?_ | refine w_skip ?_ | refine w_block ?_ | refine w_exit ?_ | refine k_exit ?_ | refine b_here ?_ | refine b_normal ?_ | refine w_ret ?_ | refine k_ret ?_ | refine b_ret ?_
  refine ⟨n - m - (i + 1), by omega, rfl, i + 1, _, _, rfl, by omega, h1, rfl, Or.inr ⟨by omega, rfl, hnx, ?_⟩, fun x hx => ?_, ?_⟩
  · rw [hnx, AM.nx_new]
    rcases hK with ⟨h1, h2, h3, h4⟩ | ⟨h1, h2, h3, h4⟩
    · rw [h4, if_pos (by omega)]; omega
    · rw [h4]; omega
  · rw [hold2 x (by omega) (by rw [AM.nx_new]; omega), AM.get_new_lt (by omega)]; exact hold x hx
  · rw [hcur2, List.append_assoc, List.replicate_succ']
theorem fill_nil {E : Env} (F : Facts E) (hs : E.sums 285 = none) (M : AM) (n : Nat) (hn : n ≤ 65536) :
    CallsTo E 285 [.nils, .int .i64 (.ofNat n)] M fun e M' => ∃ K g, e = .ret (.sl K 0 n n g) ∧ (n = 0 ∧ g = none ∧ K = M.nx ∧ M'.nx = M.nx + 1 ∨ 0 < n ∧ g = some 1 ∧ M'.nx = K + 1 ∧ M'.nx = M.nx + 1 + (if 0 = 0 then 0 else 1) + 2 * (n - 0)) ∧
      (∀ x, x < M.nx → M'.get x = M.get x) ∧ M'.get K = some (.cells ([] ++ List.replicate (n - 0) (.int .u8 255)) false false) := by
  refine call_rule F.f285 rfl hs ?_
  repeat first | refine w_seq ?_ | refine w_region ?_ | refine w_val rfl rfl rfl rfl ?_ | refine w_valg rfl rfl rfl rfl ?_ | refine w_nil ?_ | refine k_seq ?_ | refine w_skip ?_ | refine w_block ?_ | refine w_exit ?_ | refine k_exit ?_ | refine b_here ?_ | refine b_normal ?_ | refine w_ret ?_ | refine k_ret ?_ | refine b_ret ?_
  refine w_false (show some (AV.bool (iltF (.ofNat n) (.ofNat 0))) = _ from bool_ilt_f (Nat.zero_le _)) ?_
  repeat first | refine w_seq ?_ | refine w_region ?_ | refine w_val rfl rfl rfl rfl ?_ | refine w_valg rfl rfl rfl rfl ?_ | refine w_nil ?_ | refine k_seq ?_ | refine w_skip ?_ | refine w_block ?_ | refine w_exit ?_ | refine k_exit ?_ | refine b_here ?_ | refine b_normal ?_ | refine w_ret ?_ | refine k_ret ?_ | refine b_ret ?_
  refine w_val rfl rfl rfl (e_buildSlice (l := []) rfl F.u46 F.el5 (by decide) (by decide) rfl rfl) ?_
  repeat first | refine w_seq ?_ | refine w_region ?_ | refine w_val rfl rfl rfl rfl ?_ | refine w_valg rfl rfl rfl rfl ?_ | refine w_nil ?_ | refine k_seq ?_ | refine w_skip ?_ | refine w_block ?_ | refine w_exit ?_ | refine k_exit ?_ | refine b_here ?_ | refine b_normal ?_ | refine w_ret ?_ | refine k_ret ?_ | refine b_ret ?_
  refine w_val rfl rfl rfl (e_len_nils rfl rfl rfl rfl F.u46) ?_
  refine w_val rfl rfl rfl (e_min2 rfl rfl rfl rfl) ?_
  rw [Nat.min_zero]
  refine w_val rfl rfl rfl (e_slice_nils rfl rfl F.u46 F.sz5) ?_
  refine w_val rfl rfl rfl (e_append0 (v := .nils) (len := 0) rfl rfl rfl rfl rfl F.u46 F.u46 F.el5 rfl rfl) ?_
  have hdl : ([] : List AV).length = 0 := rfl
  have hmn' : 0 ≤ n := Nat.zero_le _
  have hv' : ∃ K g, AV.sl M.nx 0 0 0 none = .sl K 0 0 0 g ∧ (0 = 0 ∧ g = none ∧ K = M.nx ∧ (M.new (.cells (repeatL (AV.int .u8 0).cells 0) false false)).nx = M.nx + 1 ∨ 0 < 0 ∧ g = some 1 ∧ (M.new (.cells (repeatL (AV.int .u8 0).cells 0) false false)).nx = K + 1 ∧ (M.new (.cells (repeatL (AV.int .u8 0).cells 0) false false)).nx = M.nx + 2) ∧ (∀ x, x < M.nx → (M.new (.cells (repeatL (AV.int .u8 0).cells 0) false false)).get x = M.get x) ∧ (M.new (.cells (repeatL (AV.int .u8 0).cells 0) false false)).get K = some (.cells [] false false) :=
    ⟨_, _, rfl, Or.inl ⟨rfl, rfl, rfl, rfl⟩, fun x hx => AM.get_new_lt hx, by rw [AM.get_new_self]; rfl⟩
  generalize (M.new (.cells (repeatL (AV.int .u8 0).cells 0) false false)) = M1 at *
  generalize hv0 : AV.sl M.nx 0 0 0 none = v0 at *
  obtain ⟨K, g, rfl, hK, hold, hcur⟩ := hv'
  repeat first | refine w_seq ?_ | refine w_region ?_ | refine w_val rfl rfl rfl rfl ?_ | refine w_valg rfl rfl rfl rfl ?_ | refine w_nil ?_ | refine k_seq ?_ | refine w_skip ?_ | refine w_block ?_ | refine w_exit ?_ | refine k_exit ?_ | refine b_here ?_ | refine b_normal ?_ | refine w_ret ?_ | refine k_ret ?_ | refine b_ret ?_
  refine w_loop ?_
  refine loop_inv (fun k ρ D M' => D = [] ∧ ∃ i K g, k = n - 0 - i ∧ 0 + i ≤ n ∧ ρ 1 = some (.int .i64 (.ofNat n)) ∧ ρ 5 = some (.sl K 0 (0 + i) (0 + i) g) ∧
      (0 + i = 0 ∧ g = none ∧ K = M.nx ∧ M'.nx = M.nx + 1 ∨ 0 < 0 + i ∧ g = some 1 ∧ M'.nx = K + 1 ∧ M'.nx = M.nx + 1 + (if 0 = 0 then 0 else 1) + 2 * i) ∧ (∀ x, x < M.nx → M'.get x = M.get x) ∧
      M'.get K = some (.cells (([] : List AV) ++ List.replicate i (.int .u8 255)) false false)) ?_ (n - 0) _ _ _ ⟨rfl, 0, K, g, rfl, hmn', rfl, rfl, ?_, hold, ?_⟩
  rotate_left
  · rcases hK with ⟨h1, h2, h3, h4⟩ | ⟨h1, h2, h3, h4⟩
    · exact Or.inl ⟨by omega, h2, h3, h4⟩
    · refine Or.inr ⟨by omega, h2, h3, ?_⟩
      rw [if_neg (by omega)]; omega
  · simpa using hcur
  clear hcur hold hK hv0 K g M1
  rintro k ρ D M' ⟨rfl, i, K, g, rfl, hi, h1, h5, hK, hold, hcur⟩
  repeat first | refine w_seq ?_ | refine w_region ?_ | refine w_val rfl rfl rfl rfl ?_ | refine w_valg rfl rfl rfl rfl ?_ | refine w_nil ?_ | refine k_seq ?_ | refine w_skip ?_ | refine w_block ?_ | refine w_exit ?_ | refine k_exit ?_ | refine b_here ?_ | refine b_normal ?_ | refine w_ret ?_ | refine k_ret ?_ | refine b_ret ?_
  refine w_val rfl rfl rfl (e_move h5) ?_
  refine w_val rfl rfl rfl (e_len_sl rfl rfl rfl rfl F.u46) ?_
  refine w_val rfl rfl rfl (e_move h1) ?_
  refine w_val rfl rfl rfl (e_lss64 rfl rfl) ?_
  repeat first | refine w_seq ?_ | refine w_region ?_ | refine w_val rfl rfl rfl rfl ?_ | refine w_valg rfl rfl rfl rfl ?_ | refine w_nil ?_ | refine k_seq ?_ | refine w_skip ?_ | refine w_block ?_ | refine w_exit ?_ | refine k_exit ?_ | refine b_here ?_ | refine b_normal ?_ | refine w_ret ?_ | refine k_ret ?_ | refine b_ret ?_
  refine w_cond rfl (fun h => ?_) (fun h => ?_)
  case refine_2 =>
    have he : 0 + i = n := by have := of_decide_eq_false h; omega
    repeat first | refine w_seq ?_ | refine w_region ?_ | refine w_val rfl rfl rfl rfl ?_ | refine w_valg rfl rfl rfl rfl ?_ | refine w_nil ?_ | refine k_seq ?_ | refine w_skip ?_ | refine w_block ?_ | refine w_exit ?_ | refine k_exit ?_ | refine b_here ?_ | refine b_normal ?_ | refine w_ret ?_ | refine k_ret ?_ | refine b_ret ?_
    refine w_val rfl rfl rfl (e_move h5) ?_
    repeat first | refine w_seq ?_ | refine w_region ?_ | refine w_val rfl rfl rfl rfl ?_ | refine w_valg rfl rfl rfl rfl ?_ | refine w_nil ?_ | refine k_seq ?_ | refine w_skip ?_ | refine w_block ?_ | refine w_exit ?_ | refine k_exit ?_ | refine b_here ?_ | refine b_normal ?_ | refine w_ret ?_ | refine k_ret ?_ | refine b_ret ?_
    refine ⟨_, rfl, K, g, by rw [← he]; rfl, ?_, hold, ?_⟩
    · rcases hK with ⟨h1, h2, h3, h4⟩ | ⟨h1, h2, h3, h4⟩
      · exact Or.inl ⟨by omega, h2, h3, h4⟩
      · exact Or.inr ⟨by omega, h2, h3, by rw [h4]; congr 2; omega⟩
    · rw [hcur]; congr 4; omega
  have hlt : 0 + i < n := of_decide_eq_true h
  repeat first | refine w_seq ?_ | refine w_region ?_ | refine w_val rfl rfl rfl rfl ?_ | refine w_valg rfl rfl rfl rfl ?_ | refine w_nil ?_ | refine k_seq ?_ | refine w_skip ?_ | refine w_block ?_ | refine w_exit ?_ | refine k_exit ?_ | refine b_here ?_ | refine b_normal ?_ | refine w_ret ?_ | refine k_ret ?_ | refine b_ret ?_
  refine w_val rfl rfl rfl (e_move h5) ?_
  refine w_val rfl rfl rfl (e_buildSlice (l := [(0, .int .u8 255)]) rfl F.u46 F.el5 (by decide) (by decide) rfl rfl) ?_
  have hKn : K < M'.nx := by rcases hK with ⟨_, _, h3, h4⟩ | ⟨_, _, h3, h4⟩ <;> omega
  have hMn : M.nx ≤ K := by
    rcases hK with ⟨_, _, h3, h4⟩ | ⟨_, _, h3, h4⟩
    · omega
    · split at h4 <;> omega
  refine w_valx rfl rfl rfl (e_appendx (new := [.int .u8 255]) (k := 1) rfl rfl rfl rfl rfl F.u46 F.u46 F.el5 (by rw [AM.get_new_lt hKn]; exact hcur) (by rw [List.length_append, hdl, List.length_replicate])
    (by rcases hK with ⟨_, h2, _⟩ | ⟨_, h2, _⟩; exact Or.inl ⟨h2, rfl⟩; exact Or.inr h2) rfl ?_ rfl rfl (Nat.le_refl _) (by omega) (by unfold maxI; omega)) ?_
  · have hcell : (M'.new (.cells [AV.int .u8 255] false false)).cells M'.nx = some [AV.int .u8 255] := by simp only [AM.cells, AM.get_new_self]
    show afirst (M'.new (.cells [AV.int .u8 255] false false)) 1 1 (.sl M'.nx 0 1 1 none) = _
    simp only [afirst, hcell]; rfl
  rintro v M2 ⟨rfl, hnx, hold2, hcur2⟩
  repeat first | refine w_seq ?_ | refine w_region ?_ | refine w_val rfl rfl rfl rfl ?_ | refine w_valg rfl rfl rfl rfl ?_ | refine w_nil ?_ | refine k_seq ?_ | refine w_skip ?_ | refine w_block ?_ | refine w_exit ?_ | refine k_exit ?_ | refine b_here ?_ | refine b_normal ?_ | refine w_ret ?_ | refine k_ret ?_ | refine b_ret ?_
  refine ⟨n - 0 - (i + 1), by omega, rfl, i + 1, _, _, rfl, by omega, h1, rfl, Or.inr ⟨by omega, rfl, hnx, ?_⟩, fun x hx => ?_, ?_⟩
  · rw [hnx, AM.nx_new]
    rcases hK with ⟨h1, h2, h3, h4⟩ | ⟨h1, h2, h3, h4⟩
    · rw [h4, if_pos (by omega)]; omega
    · rw [h4]; omega
  · rw [hold2 x (by omega) (by rw [AM.nx_new]; omega), AM.get_new_lt (by omega)]; exact hold x hx
  · rw [hcur2, List.append_assoc, List.replicate_succ']
end Go.Abm.Seat

open Go Go.Abm
set_option maxRecDepth 100000
namespace Go.Abm.Seat
theorem and_inv {a b : Bool} (h : (a && b) = true) : a = true ∧ b = true := by simpa using h
section
variable {E E' : Env} (hE : EnvOk P E) (hX : SumsX P E) (hS : SumsF P E) (hg : E'.G = E.G) (F : Facts E) (B : Bd) {args : List AV} {M M' : AM} {v : AV}
include hE hX hS hg F
theorem sSum_run (hs : E.sums 242 = none) (h : sSum args M = some (v, M')) : RunF P E' B 242 args M (.ret v) M' := by
  unfold sSum at h
  split at h
  case h_2 => cases h
  split at h
  case h_2 => cases h
  rename_i l ro fz hm
  obtain ⟨h1, h⟩ := cond_some_inv h
  obtain ⟨h1, h2⟩ := and_inv h1
  split at h
  case h_2 => cases h
  rename_i bs hb
  cases h
  exact RunF.of_calls hE hX hS hg (sum_ok F hs M _ _ _ _ _ l bs ro fz hm (ble_of h1) (ble_of h2) hb _ ⟨rfl, rfl, fun _ x o h => h⟩) B

theorem sRead_run (hs : E.sums 231 = none) (hs2 : E.sums 193 = none) (hs3 : E.sums 158 = none) (h : sRead args M = some (v, M')) : RunF P E' B 158 args M (.ret v) M' := by
  unfold sRead at h
  split at h
  case h_2 => cases h
  rename_i c o n p
  split at h
  case h_2 => cases h
  rename_i cl r0 f0 hm
  split at h
  case h_2 => cases h
  rename_i bb bo bl bc bg pg hb hoff hpg
  split at h
  case h_2 => cases h
  rename_i bcl r1 f1 hmb
  split at h
  case h_2 => cases h
  rename_i pb po pl pc pgr hp
  split at h
  case h_2 => cases h
  rename_i pcl r2 f2 hmp
  obtain ⟨h1, h⟩ := cond_some_inv h
  obtain ⟨h1, g6⟩ := and_inv h1
  obtain ⟨h1, g5⟩ := and_inv h1
  obtain ⟨h1, g4⟩ := and_inv h1
  obtain ⟨h1, g3⟩ := and_inv h1
  obtain ⟨g1, g2⟩ := and_inv h1
  split at h
  · rename_i dt hst
    obtain ⟨hone, h⟩ := cond_some_inv h
    cases h
    refine RunF.of_calls hE hX hS hg ((read_erased F hs hs2 hs3 M c o n p bb bo bl bc pb po pl pc pg bg pgr cl bcl pcl r0 f0 r1 f1 r2 f2 dt hm hb hoff (blt_of g1) hpg (ble_of g2) hmb hp (blt_of g3) hmp hst hone (blt_of g4) (blt_of g5) (blt_of g6)).mono ?_) B
    rintro e M1 ⟨rfl, h1, h2, h3⟩
    exact ⟨rfl, h1.symm, fun hf => get_put_new (Nat.le_refl _) h2 h3 hf⟩
  · rename_i db dof dl dc dg hst
    split at h
    case h_2 => cases h
    rename_i dcl r3 f3 hmd
    obtain ⟨h1, h⟩ := cond_some_inv h
    obtain ⟨h1, k5⟩ := and_inv h1
    obtain ⟨h1, k4⟩ := and_inv h1
    obtain ⟨h1, k3⟩ := and_inv h1
    obtain ⟨k1, k2⟩ := and_inv h1
    cases h
    refine RunF.of_calls hE hX hS hg ((read_prog F hs hs2 hs3 M c o n p bb bo bl bc pb po pl pc pg db dof dl dc bg pgr dg cl bcl pcl dcl r0 f0 r1 f1 r2 f2 r3 f3 hm hb hoff (blt_of g1) hpg (ble_of g2) hmb hp (blt_of g3) hmp hst hmd (ble_of k1) (ble_of k2) (ble_of k3) k4 (blt_of g4) (blt_of g5) (blt_of g6) (blt_of k5)).mono ?_) B
    rintro e M1 ⟨rfl, h1, h2, h3⟩
    exact ⟨rfl, h1.symm, fun hf => get_put_new (Nat.le_refl _) h2 h3 hf⟩
  · cases h

theorem fillTo_run {f : FuncId} {d : List AV} {m n : Nat} (hmn : m ≤ n) (h : some (fillTo M d m n) = some (v, M'))
    (hc : CallsTo E f args M fun e M' => ∃ K g, e = .ret (.sl K 0 n n g) ∧ (n = 0 ∧ g = none ∧ K = M.nx ∧ M'.nx = M.nx + 1 ∨ 0 < n ∧ g = some 1 ∧ M'.nx = K + 1 ∧ M'.nx = M.nx + 1 + (if m = 0 then 0 else 1) + 2 * (n - m)) ∧
      (∀ x, x < M.nx → M'.get x = M.get x) ∧ M'.get K = some (.cells (d ++ List.replicate (n - m) (.int .u8 255)) false false)) (hd : n = 0 → d = []) : RunF P E' B f args M (.ret v) M' := by
  refine RunF.of_calls hE hX hS hg (hc.mono ?_) B
  rintro e M1 ⟨K, g, rfl, h1, h2, h3⟩
  unfold fillTo at h
  rcases h1 with ⟨rfl, rfl, rfl, h4⟩ | ⟨h0, rfl, h4, h5⟩
  · rw [nbeq_true rfl] at h
    cases h
    refine ⟨rfl, h4.symm, fun hf => get_put_new (Nat.le_refl _) h2 ?_ hf⟩
    rw [h3, hd rfl, Nat.zero_sub]; rfl
  · rw [nbeq_false (by omega)] at h
    have hK : M.nx + (bif Nat.beq m 0 then 0 else 1) + 2 * (n - m) = K := by
      by_cases hm : m = 0
      · rw [nbeq_true hm]; rw [if_pos hm] at h5; simp only [cond_true]; omega
      · rw [nbeq_false hm]; rw [if_neg hm] at h5; simp only [cond_false]; omega
    dsimp only [cond_false] at h
    rw [hK] at h
    cases h
    exact ⟨rfl, h4.symm, fun hf => get_put_new (by omega) h2 h3 hf⟩

theorem sFill_run (hs : E.sums 285 = none) (h : sFill args M = some (v, M')) : RunF P E' B 285 args M (.ret v) M' := by
  unfold sFill at h
  split at h
  · rename_i b off len cap gr n
    split at h
    case h_2 => cases h
    rename_i l ro fz hm
    obtain ⟨h1, h⟩ := cond_some_inv h
    obtain ⟨h1, g6⟩ := and_inv h1
    obtain ⟨h1, g5⟩ := and_inv h1
    obtain ⟨h1, g4⟩ := and_inv h1
    obtain ⟨h1, g3⟩ := and_inv h1
    obtain ⟨g1, g2⟩ := and_inv h1
    have hgr : gr = none ∨ gr = some 1 := by
      cases gr with
      | none => exact Or.inl rfl
      | some g => exact Or.inr (by rw [beq_of g4])
    exact fillTo_run hE hX hS hg F B (Nat.min_le_left _ _) h (fill_ok F hs M b off len cap n gr l ro fz hm (blt_of g6) (ble_of g1) (ble_of g2) (ble_of g3) hgr g5) (fun h0 => by subst h0; simp)
  · obtain ⟨h1, h⟩ := cond_some_inv h
    exact fillTo_run hE hX hS hg F B (Nat.zero_le _) h (fill_nil F hs M _ (ble_of h1)) (fun _ => rfl)
  · cases h
end
end Go.Abm.Seat
