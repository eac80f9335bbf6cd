/-
  A part of the proof that pumicelaw17.StoreOpens returns true for every geometry, key, number and group (a machine over names of blocks, its soundness, the calls of the store for any geometry, the chapter's example as a run). Condition: the listed package variables hold what the program's text lays; the card ties that.
-/
import Derived.Test.YtcfpoldckjmbdaaGreatDoorX24
import Derived.Test.YtcfpoldckjmbdaaGreatDoorX23
set_option linter.unusedVariables false
set_option linter.unusedSimpArgs false
set_option linter.unusedSectionVars false
open Go Go.Abm
set_option maxRecDepth 100000
set_option maxHeartbeats 4000000
namespace Go.Abm.Seat
theorem byteL_get (bs : List Nat) {i : Nat} (h : i < bs.length) : (byteL bs)[i]? = some (.int .u8 (.ofNat bs[i])) := by
  unfold byteL; rw [List.getElem?_map, List.getElem?_eq_getElem h]; rfl
theorem Bts.get {M : AM} {b o n c : Nat} {g : Option Nat} {l : List AV} {bs : List Nat} (h6 : (l.drop o).take bs.length = byteL bs) {i : Nat} (hi : i < bs.length) : l[o + i * 1]? = some (.int .u8 (.ofNat bs[i])) := by
  have := byteL_get bs hi
  rw [← h6, List.getElem?_take, if_pos hi, List.getElem?_drop] at this
  rw [Nat.mul_one]; exact this
section
variable {E : Env} (F : Facts E) (N : NS E) (hS : E.sums 248 = some sSum) (hF : E.sums 140 = some sFill)
include F N
theorem get_ok {M : AM} {v : AV} {bs : List Nat} (hb : Bts M v bs) (hl : bs.length ≤ 8) (Q : KC) (hQ : ∀ n : Nat, (bs = [255, 255] → n = 65535) → Q (.ret (.int .u64 (.ofNat n))) M) : CallsTo E 181 [v] M Q := by
  obtain ⟨b, o, c, g, l, ro, fz, rfl, h2, h3, h4, h5, h6, h7, h8⟩ := hb
  refine call_rule F.f181 rfl (N 181 rfl) ?_
  refine w_seq ?_
  refine w_region ?_
  refine vv (e_assign rfl) ?_
  refine w_nil ?_
  refine k_seq ?_
  refine w_seq ?_
  refine w_region ?_
  refine vv (e_assign rfl) ?_
  refine w_nil ?_
  refine k_seq ?_
  refine w_seq ?_
  refine w_seq ?_
  refine w_region ?_
  refine vv (e_move rfl) ?_
  refine vv (e_len_sl rfl rfl rfl rfl F.u157) ?_
  refine vv (e_min2 rfl rfl rfl rfl) ?_
  refine vv (e_move rfl) ?_
  refine w_nil ?_
  refine k_seq ?_
  refine w_block ?_
  refine w_loop ?_
  refine loop_inv (fun z ρ D M' => D = [] ∧ M' = M ∧ ∃ i n, z = bs.length - i ∧ i ≤ bs.length ∧ ρ 0 = some (.sl b o bs.length c g) ∧ ρ 3 = some (.int .u64 (.ofNat n)) ∧ ρ 7 = some (.int .i64 (.ofNat bs.length)) ∧ ρ 8 = some (.int .i64 (.ofNat i)) ∧ (bs = [255, 255] → n = 256 ^ i - 1)) ?_ bs.length _ _ _
    ⟨rfl, rfl, 0, 0, rfl, Nat.zero_le _, rfl, rfl, congrArg (fun n => some (AV.int .i64 (.ofNat n))) (Nat.min_eq_left hl), rfl, fun _ => rfl⟩
  rintro z ρ D M' ⟨rfl, rfl, i, n, rfl, hi, g0', g3, g7, g8, hn⟩
  rw [reg1 g0', reg1 g3, reg1 g7, reg1 g8]
  refine w_seq ?_
  refine w_region ?_
  refine vv rfl ?_
  refine w_nil ?_
  refine k_seq ?_
  refine w_seq ?_
  refine w_cond rfl (fun h => ?_) (fun h => ?_)
  case refine_2 =>
    have he : i = bs.length := by have := ilt_ge h; omega
    refine w_exit ?_
    refine k_exit ?_
    refine k_exit ?_
    refine b_here ?_
    refine k_seq ?_
    refine w_seq ?_
    refine w_region ?_
    refine vv (e_move rfl) ?_
    refine vv (e_assign rfl) ?_
    refine w_nil ?_
    refine k_seq ?_
    refine w_ret ?_
    exact ⟨_, res_tmp rfl res_nil, hQ n fun e => by rw [hn e, he, e]; rfl⟩
  have hlt := ilt_lt h
  refine w_skip ?_
  refine k_seq ?_
  refine w_seq ?_
  refine w_block ?_
  refine w_seq ?_
  refine w_region ?_
  refine vv (e_move rfl) ?_
  refine vv (e_assign rfl) ?_
  refine w_nil ?_
  refine k_seq ?_
  refine w_region ?_
  refine vv (e_move rfl) ?_
  refine vv (e_move rfl) ?_
  refine vv (e_move rfl) ?_
  refine vv (e_indexAddr rfl rfl F.u157 F.sz5 zD) ?_
  have hv := Bts.get (M := M') (b := b) (n := 0) (c := c) (g := g) h6 hlt
  refine vv (e_loadn rfl F.na5 h2 hv) ?_
  refine vv (e_conv_int rfl F.u5 F.u54) ?_
  refine vv (e_move rfl) ?_
  refine vv rfl ?_
  rw [show wrapFast .i64 (mulF 8 (.ofNat i)) = .ofNat (8 * i) from mul64 (a := 8) (by omega)]
  refine vv rfl ?_
  refine vv rfl ?_
  refine vv (e_assign rfl) ?_
  refine w_nil ?_
  refine b_normal ?_
  refine k_seq ?_
  refine w_region ?_
  refine vv rfl ?_
  refine vv (e_move rfl) ?_
  refine w_nil ?_
  refine k_seq ?_
  refine ⟨bs.length - (i + 1), by omega, rfl, rfl, i + 1, _, rfl, hlt, rfl, rfl, rfl, inc64v (by omega), fun e => ?_⟩
  subst e
  have hn := hn rfl
  subst hn
  have h2 : i = 0 ∨ i = 1 := by have : i < 2 := hlt; omega
  rcases h2 with rfl | rfl
  · simp only [List.getElem_cons_zero]; decide +kernel
  · simp only [List.getElem_cons_succ, List.getElem_cons_zero]; decide +kernel
theorem unframe_ff {M : AM} {v : AV} {n : Nat} (hb : Bts M v (List.replicate n 255)) (hn : 64 ≤ n) (Q : KC) (hQ : Q (.ret (.tup [.nils, .int .i64 0, .bool false])) M) : CallsTo E 241 [v] M Q := by
  have hb0 := hb
  obtain ⟨b, o, c, g, l, ro, fz, rfl, h2, h3, h4, h5, h6, h7, h8⟩ := hb
  refine call_rule F.f241 rfl (N 241 rfl) ?_
  refine w_seq ?_
  refine w_region ?_
  refine vv (e_assign rfl) ?_
  refine vv (e_assign rfl) ?_
  refine vv (e_assign rfl) ?_
  refine w_nil ?_
  refine k_seq ?_
  refine w_seq ?_
  refine w_seq ?_
  refine w_region ?_
  refine vv (e_move rfl) ?_
  refine vv (e_len_sl rfl rfl rfl rfl F.u157) ?_
  refine vv rfl ?_
  refine w_nil ?_
  refine k_seq ?_
  rw [List.length_replicate] at hb0 ⊢
  refine vf ?_ (congrArg (fun b => some (AV.bool b)) (ilt_f (b := 6) (by omega)))
  refine w_skip ?_
  refine k_seq ?_
  refine w_seq ?_
  refine w_region ?_
  refine vv (e_move rfl) ?_
  refine w_valx rfl rfl rfl (e_sliceB hb0 F.u157 F.sz5 rfl rfl rfl rfl rfl (Nat.zero_le _) (by rw [List.length_replicate]; show 2 ≤ n; omega)) ?_
  rintro v2 M2 ⟨rfl, b2⟩
  skip
  have e2 : ((List.replicate n 255).drop ((none : Option Nat).getD 0)).take ((some 2).getD (List.replicate n 255).length - (none : Option Nat).getD 0) = [255, 255] := by
    show ((List.replicate n 255).drop 0).take 2 = _
    rw [List.drop_zero, List.take_replicate, Nat.min_eq_left (by omega)]; rfl
  rw [e2] at b2
  refine vc (e_call rfl rfl F.f181 rfl) (get_ok F N b2 (by decide) _ (fun k hk => ?_))
  rw [hk rfl]
  dsimp only
  refine vv (e_conv_int rfl F.u54 F.u3) ?_
  refine vv (e_assign rfl) ?_
  refine w_nil ?_
  refine k_seq ?_
  refine w_seq ?_
  refine w_seq ?_
  refine w_region ?_
  refine vv (e_move rfl) ?_
  refine vv rfl ?_
  refine vv (e_move rfl) ?_
  refine vg (e_move rfl) ?_
  refine vg rfl ?_
  refine vv rfl ?_
  refine vv (e_move rfl) ?_
  refine vn ?_
  refine vn ?_
  refine vn ?_
  refine vn ?_
  refine vn ?_
  refine vv rfl ?_
  refine w_nil ?_
  refine k_seq ?_
  refine vt ?_
  refine w_seq ?_
  refine w_region ?_
  refine vv (e_assign rfl) ?_
  refine vv (e_assign rfl) ?_
  refine vv (e_assign rfl) ?_
  refine w_nil ?_
  refine k_seq ?_
  refine w_ret ?_
  refine k_ret ?_
  exact ⟨_, res_tmp rfl (res_tmp rfl (res_tmp rfl res_nil)), hQ⟩
end
end Go.Abm.Seat

open Go Go.Abm
set_option maxRecDepth 100000
set_option maxHeartbeats 4000000
namespace Go.Abm.Seat
abbrev tS : Nat := 480
abbrev tK : Nat := 380
abbrev tR : Nat := 357
abbrev hdS (E : Env) : AV := .agg [.ptr E.G tS]
structure FX (E : Env) : Prop where
  tof : ∃ s, E.sums 182 = some s ∧ ∀ v M, s [.ifc tS v] M = some (.ifc tR (hdS E), M)
  cmp : ∃ s, E.sums 393 = some s ∧ ∀ M, s [hdS E] M = some (.bool true, M)
  mC : amethod E tR (hdS E) "Comparable" = some (393, hdS E)
  mU : ∀ k, amethod E tK (.ptr k 0) "Unwrap" = some (403, .ptr k 0)
  taI : ∀ k, atypeAssert E (.ifc tK (.ptr k 0)) 392 true = some (.tup [.nili, .bool false])
  taU : ∀ k, atypeAssert E (.ifc tK (.ptr k 0)) 364 true = some (.tup [.ifc tK (.ptr k 0), .bool true])
  ne : ∀ M x y, aeq E M 8 63 (.ifc tK x) (.ifc tS y) = some false
  eq : ∀ M b, aeq E M 8 63 (.ifc tS (.ptr b 0)) (.ifc tS (.ptr b 0)) = some true
  g1 : Nat.blt 1 E.G = true
section
variable {E : Env} (F : Facts E) (N : NS E) (X : FX E)
include F N X
omit F N X in
theorem rho_glob {ρ : Reg} {g : Nat} (h : Nat.blt g E.G = true) : rhoR E ρ (.global g) = some (.ptr g 0) := by
  show (bif Nat.blt g E.G then some (AV.ptr g 0) else none) = _; rw [h]; rfl
theorem unwrap_ok {M : AM} {e k : Nat} {ro fz : Bool} (hG : M.get 1 = some (.cells [.ifc tS (.ptr e 0)] ro fz)) (Q : KC) (hQ : Q (.ret (.ifc tS (.ptr e 0))) M) : CallsTo E 403 [.ptr k 0] M Q := by
  refine call_rule F.f403 rfl (N 403 rfl) ?_
  refine w_seq ?_
  refine w_region ?_
  refine vv (e_assign rfl) ?_
  refine w_nil ?_
  refine k_seq ?_
  refine w_seq ?_
  refine w_region ?_
  refine vv (e_loadn (rho_glob X.g1) F.na63 hG rfl) ?_
  refine vv (e_assign rfl) ?_
  refine w_nil ?_
  refine k_seq ?_
  refine w_ret ?_
  exact ⟨_, res_tmp rfl res_nil, hQ⟩
theorem isK_ok {M : AM} {e k : Nat} {ro fz : Bool} (hG : M.get 1 = some (.cells [.ifc tS (.ptr e 0)] ro fz)) (Q : KC) (hQ : Q (.ret (.bool true)) M) : CallsTo E 183 [.ifc tK (.ptr k 0), .ifc tS (.ptr e 0), .bool true] M Q := by
  refine call_rule F.f183 rfl (N 183 rfl) ?_
  refine w_seq ?_
  refine w_region ?_
  refine vv (e_assign rfl) ?_
  refine w_nil ?_
  refine k_seq ?_
  refine w_block ?_
  refine w_loop ?_
  refine loop_inv (fun z ρ D M' => D = [] ∧ M' = M ∧ ρ 1 = some (.ifc tS (.ptr e 0)) ∧ ρ 2 = some (.bool true) ∧ ((z = 1 ∧ ρ 0 = some (.ifc tK (.ptr k 0))) ∨ (z = 0 ∧ ρ 0 = some (.ifc tS (.ptr e 0))))) ?_ 1 _ _ _
    ⟨rfl, rfl, rfl, rfl, .inl ⟨rfl, rfl⟩⟩
  rintro z ρ D M' ⟨rfl, rfl, g1, g2, ⟨rfl, g0⟩ | ⟨rfl, g0⟩⟩
  · rw [reg1 g0, reg1 g1, reg1 g2]
    refine w_block ?_
    refine w_seq ?_
    refine w_seq ?_
    refine w_region ?_
    refine vv (e_move rfl) ?_
    refine vv (e_move rfl) ?_
    refine vg (e_move rfl) ?_
    refine vg (e_move rfl) ?_
    refine vg (e_eqif rfl rfl (X.ne _ _ _)) ?_
    refine vv rfl ?_
    refine w_nil ?_
    refine k_seq ?_
    refine vf ?_
    refine w_skip ?_
    refine k_seq ?_
    refine w_seq ?_
    refine w_seq ?_
    refine w_region ?_
    refine vv (e_move rfl) ?_
    refine vv (e_ta rfl (X.taI _)) ?_
    refine vv (e_move rfl) ?_
    refine vv rfl ?_
    refine vv rfl ?_
    refine vv (e_assign rfl) ?_
    refine vv (e_assign rfl) ?_
    refine w_nil ?_
    refine k_seq ?_
    refine w_seq ?_
    refine w_region ?_
    refine vv (e_move rfl) ?_
    refine vv (e_move rfl) ?_
    refine vn ?_
    refine vn ?_
    refine vn ?_
    refine vv rfl ?_
    refine w_nil ?_
    refine k_seq ?_
    refine vf ?_
    refine w_skip ?_
    refine k_seq ?_
    refine w_seq ?_
    refine w_region ?_
    refine vv (e_move rfl) ?_
    refine w_nil ?_
    refine k_seq ?_
    refine w_block ?_
    refine w_seq ?_
    refine w_region ?_
    refine vv (e_ta rfl (X.taU _)) ?_
    refine vv rfl ?_
    refine vv rfl ?_
    refine w_nil ?_
    refine k_seq ?_
    refine vt ?_
    refine w_seq ?_
    refine w_region ?_
    refine vv (e_assign rfl) ?_
    refine w_nil ?_
    refine k_seq ?_
    refine w_seq ?_
    refine w_region ?_
    refine vv (e_move rfl) ?_
    refine vc (e_invk rfl rfl rfl (X.mU _) F.f403 rfl) (unwrap_ok F N X hG _ ?_)
    dsimp only
    refine vv (e_assign rfl) ?_
    refine w_nil ?_
    refine k_seq ?_
    refine w_seq ?_
    refine w_region ?_
    refine vv (e_move rfl) ?_
    refine vv (e_eqlix rfl rfl F.ii63) ?_
    refine w_nil ?_
    refine k_seq ?_
    refine vf ?_
    refine w_skip ?_
    refine b_normal ?_
    refine b_normal ?_
    refine k_seq ?_
    exact ⟨0, by decide, rfl, rfl, rfl, rfl, .inr ⟨rfl, rfl⟩⟩
  · rw [reg1 g0, reg1 g1, reg1 g2]
    refine w_block ?_
    refine w_seq ?_
    refine w_seq ?_
    refine w_region ?_
    refine vv (e_move rfl) ?_
    refine vv (e_move rfl) ?_
    refine vg (e_move rfl) ?_
    refine vg (e_move rfl) ?_
    refine vg (e_eqif rfl rfl (X.eq _ _)) ?_
    refine vv rfl ?_
    refine w_nil ?_
    refine k_seq ?_
    refine vt ?_
    refine w_seq ?_
    refine w_region ?_
    refine vv (e_assign rfl) ?_
    refine w_nil ?_
    refine k_seq ?_
    refine w_ret ?_
    refine k_ret ?_
    refine b_ret ?_
    refine k_ret ?_
    refine b_ret ?_
    exact ⟨_, res_tmp rfl res_nil, hQ⟩
theorem Is_ok {M : AM} {e k : Nat} {ro fz : Bool} (hG : M.get 1 = some (.cells [.ifc tS (.ptr e 0)] ro fz)) (Q : KC) (hQ : Q (.ret (.bool true)) M) : CallsTo E 101 [.ifc tK (.ptr k 0), .ifc tS (.ptr e 0)] M Q := by
  refine call_rule F.f101 rfl (N 101 rfl) ?_
  refine w_seq ?_
  refine w_region ?_
  refine vv (e_assign rfl) ?_
  refine w_nil ?_
  refine k_seq ?_
  refine w_seq ?_
  refine w_seq ?_
  refine w_region ?_
  refine vv (e_move rfl) ?_
  refine vv (e_eqlix rfl rfl F.ii63) ?_
  refine vv (e_move rfl) ?_
  refine vg (e_move rfl) ?_
  refine vg (e_eqlix rfl rfl F.ii63) ?_
  refine vv rfl ?_
  refine w_nil ?_
  refine k_seq ?_
  refine vf ?_
  refine w_skip ?_
  refine k_seq ?_
  refine w_seq ?_
  refine w_region ?_
  refine vv (e_move rfl) ?_
  obtain ⟨s, h1, h2⟩ := X.tof
  obtain ⟨s', h3, h4⟩ := X.cmp
  refine vv (e_ext rfl rfl F.f182 rfl h1 (h2 _ _)) ?_
  skip
  refine vv (e_invx rfl rfl rfl X.mC F.f393 rfl h3 (h4 _)) ?_
  refine vv (e_assign rfl) ?_
  refine w_nil ?_
  refine k_seq ?_
  refine w_seq ?_
  refine w_region ?_
  refine vv (e_move rfl) ?_
  refine vv (e_move rfl) ?_
  refine vv (e_move rfl) ?_
  refine vc (e_call rfl rfl F.f183 rfl) (isK_ok F N X hG _ ?_)
  dsimp only
  refine vv (e_assign rfl) ?_
  refine w_nil ?_
  refine k_seq ?_
  refine w_ret ?_
  exact ⟨_, res_tmp rfl res_nil, hQ⟩
end
end Go.Abm.Seat

open Go Go.Abm
set_option maxRecDepth 100000
set_option maxHeartbeats 4000000
namespace Go.Abm.Seat
section
variable {E : Env} (F : Facts E) (N : NS E) (X : FX E)
include F N
theorem open_ff {M : AM} {v : AV} {n : Nat} {x y : Int} (hb : Bts M v (List.replicate n 255)) (h1 : 64 ≤ n) (h2 : n ≤ 512) (Q : KC) (hQ : ∀ M' k, Same M M' → Q (.ret (.tup [.nilp, .ifc tK (.ptr k 0)])) M') : CallsTo E 165 [v, .int .u8 x, .int .i64 y] M Q := by
  have hb0 := hb
  obtain ⟨b, o, c, g, l, ro, fz, rfl, g2, g3, g4, g5, g6, g7, g8⟩ := hb
  rw [List.length_replicate] at hb0 ⊢
  refine call_rule F.f165 rfl (N 165 rfl) ?_
  refine w_seq ?_
  refine w_region ?_
  refine vv (e_assign rfl) ?_
  refine vv (e_assign rfl) ?_
  refine w_nil ?_
  refine k_seq ?_
  refine w_seq ?_
  refine w_seq ?_
  refine w_region ?_
  refine vv (e_move rfl) ?_
  refine vv (e_len_sl rfl rfl rfl rfl F.u157) ?_
  refine vv rfl ?_
  refine vv (e_move rfl) ?_
  rw [show iltF (.ofNat n) 64 = false from ilt_f (b := 64) h1]
  refine vg (e_move rfl) ?_
  refine vg (e_len_sl rfl rfl rfl rfl F.u157) ?_
  refine vg rfl ?_
  refine vv rfl ?_
  refine w_nil ?_
  refine k_seq ?_
  rw [show iltF 512 (.ofNat n) = false from ilt_f (a := 512) h2]
  refine vf ?_
  refine w_skip ?_
  refine k_seq ?_
  refine w_seq ?_
  refine w_region ?_
  refine vv (e_move rfl) ?_
  refine vc (e_call rfl rfl F.f241 rfl) (unframe_ff F N hb0 h1 _ ?_)
  dsimp only
  refine vv (e_move rfl) ?_
  refine vv rfl ?_
  refine vv rfl ?_
  refine vv rfl ?_
  refine vv (e_assign rfl) ?_
  refine vv (e_assign rfl) ?_
  refine vv (e_assign rfl) ?_
  refine w_nil ?_
  refine k_seq ?_
  refine w_seq ?_
  refine w_seq ?_
  refine w_region ?_
  refine vv (e_move rfl) ?_
  refine vv rfl ?_
  refine vv (e_move rfl) ?_
  refine vn ?_
  refine vn ?_
  refine vn ?_
  refine vn ?_
  refine vv rfl ?_
  refine vv (e_move rfl) ?_
  refine vn ?_
  refine vn ?_
  refine vn ?_
  refine vn ?_
  refine vn ?_
  refine vv rfl ?_
  refine vv (e_move rfl) ?_
  refine vn ?_
  refine vn ?_
  refine vn ?_
  refine vn ?_
  refine vn ?_
  refine vv rfl ?_
  refine w_nil ?_
  refine k_seq ?_
  refine vt ?_
  refine w_seq ?_
  refine w_region ?_
  refine vv (e_move rfl) ?_
  refine vv (e_build rfl F.bd382 rfl) ?_
  refine vv rfl ?_
  refine vv (e_mkif rfl F.ni380) ?_
  refine vv (e_assign rfl) ?_
  refine vv (e_assign rfl) ?_
  refine w_nil ?_
  refine k_seq ?_
  refine w_ret ?_
  refine k_ret ?_
  exact ⟨_, res_tmp rfl (res_tmp rfl res_nil), hQ _ _ (Same.refl M).new⟩
include X
theorem parse_ff {M : AM} {v : AV} {n e : Nat} {ro fz : Bool} (hG : M.get 1 = some (.cells [.ifc tS (.ptr e 0)] ro fz)) (hl : 1 < M.nx) (hb : Bts M v (List.replicate n 255)) (h1 : 64 ≤ n) (h2 : n ≤ 512) (Q : KC) (hQ : ∀ M', Same M M' → Q (.ret (.tup [.int .i64 0, .bool false])) M') : CallsTo E 92 [v] M Q := by
  refine call_rule F.f92 rfl (N 92 rfl) ?_
  refine w_seq ?_
  refine w_region ?_
  refine vv (e_assign rfl) ?_
  refine vv (e_assign rfl) ?_
  refine w_nil ?_
  refine k_seq ?_
  refine w_seq ?_
  refine w_region ?_
  refine vv (e_move rfl) ?_
  refine vc (e_call rfl rfl F.f165 rfl) (open_ff F N hb h1 h2 _ (fun M1 k s1 => ?_))
  dsimp only
  refine vv (e_move rfl) ?_
  refine vv rfl ?_
  refine vv rfl ?_
  refine vv (e_assign rfl) ?_
  refine vv (e_assign rfl) ?_
  refine w_nil ?_
  refine k_seq ?_
  refine w_seq ?_
  refine w_seq ?_
  refine w_region ?_
  refine vv (e_move rfl) ?_
  have hG1 := (s1.2 1 hl).trans hG
  refine vv (e_loadn (rho_glob X.g1) F.na63 hG1 rfl) ?_
  skip
  refine vc (e_call rfl rfl F.f101 rfl) (Is_ok F N X hG1 _ ?_)
  dsimp only
  refine w_nil ?_
  refine k_seq ?_
  refine vt ?_
  refine w_seq ?_
  refine w_region ?_
  refine vv (e_assign rfl) ?_
  refine vv (e_assign rfl) ?_
  refine w_nil ?_
  refine k_seq ?_
  refine w_ret ?_
  refine k_ret ?_
  exact ⟨_, res_tmp rfl (res_tmp rfl res_nil), hQ _ s1⟩
end
end Go.Abm.Seat

open Go Go.Abm
set_option maxRecDepth 100000
set_option maxHeartbeats 4000000
namespace Go.Abm.Seat
section
variable {E : Env}
theorem readE {M : AM} {c B p0 bl pg sz rs : Nat} {nx : Nat → Nat} {pcs : Nat → List AV} (h : Chip M c B p0 bl pg sz rs nx pcs) (hg : Geo bl pg sz rs) {n p : Nat} {dt : AV} (hn : n < bl) (hp : p < pg) (he : ((pcs n).drop (0 + p * 2)).take 2 = [.int .i64 (.ofNat 0), dt]) (hd : dt.one = true) :
    sRead [.ptr c 0, .int .i64 (.ofNat n), .int .i64 (.ofNat p)] M = some (.tup [.sl M.nx 0 sz sz none, .int .i64 0], ⟨M.m.set M.nx (some (.cells (List.replicate sz ff) false false)), M.nx + 2⟩) := by
  obtain ⟨⟨k, w, f, hc⟩, ⟨bc, f1, hb, hl, hall⟩, hpg, ⟨l1, l2, l3⟩, hne⟩ := h
  obtain ⟨⟨f2, hp1⟩, hp2⟩ := hpg n hn
  obtain ⟨b0, ⟨er, b1⟩, b2, b3⟩ := hall n hn
  have s2 := hg.s2
  have e4 : (chipC bl pg sz rs B k w)[0 + 4]? = some (.sl B 0 bl bl none) := rfl
  have e7 : (chipC bl pg sz rs B k w)[0 + 7]? = some (.bool false) := rfl
  have e2 : (chipC bl pg sz rs B k w)[0 + 0 + 2]? = some (.int .i64 (.ofNat sz)) := rfl
  unfold sRead
  simp only [hc, e4, e7, e2, hb, b2, hp1, he, hd, blt_t hn, ble_t (show sz ≤ 65536 by omega), blt_t hp, blt_t l1, blt_t l2, blt_t (show p0 + n < M.nx by omega), Bool.and_self, cond_true]
theorem readP {M : AM} {c B p0 bl pg sz rs : Nat} {nx : Nat → Nat} {pcs : Nat → List AV} (h : Chip M c B p0 bl pg sz rs nx pcs) (hg : Geo bl pg sz rs) {n p X o dl dc : Nat} {g : Option Nat} {l : List AV} {r3 f3 : Bool} (hn : n < bl) (hp : p < pg) (he : ((pcs n).drop (0 + p * 2)).take 2 = [.int .i64 (.ofNat 1), .sl X o dl dc g])
    (hX : M.get X = some (.cells l r3 f3)) (lX : X < M.nx) (d1 : dl ≤ sz) (d2 : dl ≤ dc) (d3 : o + dl ≤ l.length) (hone : ((l.drop o).take dl).all AV.one = true) :
    sRead [.ptr c 0, .int .i64 (.ofNat n), .int .i64 (.ofNat p)] M = some (.tup [.sl M.nx 0 sz sz none, .int .i64 0], ⟨M.m.set M.nx (some (.cells ((l.drop o).take dl ++ List.replicate (sz - dl) ff) false false)), M.nx + 2⟩) := by
  obtain ⟨⟨k, w, f, hc⟩, ⟨bc, f1, hb, hl, hall⟩, hpg, ⟨l1, l2, l3⟩, hne⟩ := h
  obtain ⟨⟨f2, hp1⟩, hp2⟩ := hpg n hn
  obtain ⟨b0, ⟨er, b1⟩, b2, b3⟩ := hall n hn
  have s2 := hg.s2
  have e4 : (chipC bl pg sz rs B k w)[0 + 4]? = some (.sl B 0 bl bl none) := rfl
  have e7 : (chipC bl pg sz rs B k w)[0 + 7]? = some (.bool false) := rfl
  have e2 : (chipC bl pg sz rs B k w)[0 + 0 + 2]? = some (.int .i64 (.ofNat sz)) := rfl
  unfold sRead
  simp only [hc, e4, e7, e2, hb, b2, hp1, he, hX, hone, blt_t hn, ble_t (show sz ≤ 65536 by omega), blt_t hp, blt_t l1, blt_t l2, blt_t (show p0 + n < M.nx by omega), ble_t d1, ble_t d2, ble_t d3, blt_t lX, Bool.and_self, cond_true]
theorem read_mem {M : AM} (l : List AV) : Same M (⟨M.m.set M.nx (some (.cells l false false)), M.nx + 2⟩ : AM) ∧ (⟨M.m.set M.nx (some (.cells l false false)), M.nx + 2⟩ : AM).get M.nx = some (.cells l false false) :=
  ⟨⟨by show M.nx ≤ M.nx + 2; omega, fun x hx => by show (M.m.set _ _).get x = _; rw [Tr.get_set, if_neg (by omega)]; rfl⟩, by show (M.m.set _ _).get _ = _; rw [Tr.get_set, if_pos rfl]⟩
end
section
variable {M : AM} {m L Z c B p0 bl pg sz rs : Nat} {f : Nat → Ent} {z : Nat → Int} {q : Int} {nx : Nat → Nat} {pcs : Nat → List AV}
theorem Mgr.putZ (h : Mgr M m L Z c B p0 bl pg sz rs f z q nx pcs) (z' : Nat → Int) (fz : Bool) : Mgr (M.set Z (some (.cells (intL z' (bl - rs - 2)) false fz))) m L Z c B p0 bl pg sz rs f z' q nx pcs := by
  obtain ⟨hc, ⟨f1, hm⟩, ⟨f2, hL⟩, ⟨f3, hZ⟩, ⟨l1, l2, l3⟩, ⟨n1, n2, n3, n4, n5, n6⟩⟩ := h
  exact ⟨hc.frame (by rw [AM.nx_set]; exact Nat.le_refl _) fun x hx => AM.get_set_ne fun e => n6 (by rw [← e]; exact hx), ⟨f1, gs n2 hm⟩, ⟨f2, gs n3 hL⟩, ⟨fz, s0⟩, ⟨by rw [AM.nx_set]; exact l1, by rw [AM.nx_set]; exact l2, by rw [AM.nx_set]; exact l3⟩, ⟨n1, n2, n3, n4, n5, n6⟩⟩
theorem Mgr.putL (h : Mgr M m L Z c B p0 bl pg sz rs f z q nx pcs) (f' : Nat → Ent) (fz : Bool) : Mgr (M.set L (some (.cells (entL f' bl) false fz))) m L Z c B p0 bl pg sz rs f' z q nx pcs := by
  obtain ⟨hc, ⟨f1, hm⟩, ⟨f2, hL⟩, ⟨f3, hZ⟩, ⟨l1, l2, l3⟩, ⟨n1, n2, n3, n4, n5, n6⟩⟩ := h
  exact ⟨hc.frame (by rw [AM.nx_set]; exact Nat.le_refl _) fun x hx => AM.get_set_ne fun e => n5 (by rw [← e]; exact hx), ⟨f1, gs n1 hm⟩, ⟨fz, s0⟩, ⟨f3, gs (Ne.symm n3) hZ⟩, ⟨by rw [AM.nx_set]; exact l1, by rw [AM.nx_set]; exact l2, by rw [AM.nx_set]; exact l3⟩, ⟨n1, n2, n3, n4, n5, n6⟩⟩
theorem Mgr.putm (h : Mgr M m L Z c B p0 bl pg sz rs f z q nx pcs) (q' : Int) (fz : Bool) : Mgr (M.set m (some (.cells [.ptr c 0, .int .i64 (.ofNat bl), .int .i64 (.ofNat pg), .int .i64 (.ofNat sz), .int .i64 (.ofNat rs), .sl L 0 bl bl (some 6), .sl Z 0 (bl - rs - 2) (bl - rs - 2) none, .int .u64 q', .bool false] false fz))) m L Z c B p0 bl pg sz rs f z q' nx pcs := by
  obtain ⟨hc, ⟨f1, hm⟩, ⟨f2, hL⟩, ⟨f3, hZ⟩, ⟨l1, l2, l3⟩, ⟨n1, n2, n3, n4, n5, n6⟩⟩ := h
  exact ⟨hc.frame (by rw [AM.nx_set]; exact Nat.le_refl _) fun x hx => AM.get_set_ne fun e => n4 (by rw [← e]; exact hx), ⟨fz, s0⟩, ⟨f2, gs (Ne.symm n1) hL⟩, ⟨f3, gs (Ne.symm n2) hZ⟩, ⟨by rw [AM.nx_set]; exact l1, by rw [AM.nx_set]; exact l2, by rw [AM.nx_set]; exact l3⟩, ⟨n1, n2, n3, n4, n5, n6⟩⟩
end
structure RS (E : Env) : Prop where
  hS : E.sums 248 = some sSum
  hF : E.sums 140 = some sFill
  hR : E.sums 91 = some sRead
section
variable {E : Env} (F : Facts E) (N : NS E) (X : FX E) (R : RS E)
include F N X R
theorem readE_c {M : AM} {c B p0 bl pg sz rs : Nat} {nx : Nat → Nat} {pcs : Nat → List AV} (h : Chip M c B p0 bl pg sz rs nx pcs) (hg : Geo bl pg sz rs) {n p : Nat} {dt : AV} (hn : n < bl) (hp : p < pg) (he : ((pcs n).drop (0 + p * 2)).take 2 = [.int .i64 (.ofNat 0), dt]) (hd : dt.one = true) (Q : KC)
    (hQ : ∀ M', Same M M' → Bts M' (.sl M.nx 0 sz sz none) (List.replicate sz 255) → Q (.ret (.tup [.sl M.nx 0 sz sz none, .int .i64 0])) M') : CallsTo E 91 [.ptr c 0, .int .i64 (.ofNat n), .int .i64 (.ofNat p)] M Q := by
  refine call_sum F.f91 rfl R.hR (readE h hg hn hp he hd) ?_
  obtain ⟨h1, h2⟩ := read_mem (M := M) (List.replicate sz ff)
  have := hg.s1
  have := hg.s2
  refine hQ _ h1 ⟨M.nx, 0, sz, none, List.replicate sz ff, false, false, by rw [List.length_replicate], h2, Nat.lt_succ_of_lt (Nat.lt_succ_self _), by rw [List.length_replicate]; exact Nat.le_refl _, by rw [List.length_replicate, List.length_replicate]; omega, by rw [List.drop_zero, byteL_rep, List.length_replicate, List.take_replicate, Nat.min_self], Byt.rep _, ?_⟩
  exact Or.inl rfl
theorem format_ok {M : AM} {c B p0 bl pg sz rs e : Nat} {nx : Nat → Nat} {pcs : Nat → List AV} {ro fz0 : Bool} (hG : M.get 1 = some (.cells [.ifc tS (.ptr e 0)] ro fz0)) (hl1 : 1 < M.nx) (hO1 : ¬Own c B p0 bl 1) (hch : Chip M c B p0 bl pg sz rs nx pcs) (hg : Geo bl pg sz rs) (hr : rightB (.ofNat bl) (.ofNat pg) (.ofNat sz) (.ofNat rs) = true) (hz : ∀ i, i < bl → nx i = 0) (hpc : ∀ i, i < bl → pcs i = repeatL zpage pg) (Q : KC)
    (hQ : ∀ M' m L Z pcs', M.nx ≤ M'.nx → (∀ x, x < M.nx → ¬Own c B p0 bl x → M'.get x = M.get x) → M.nx ≤ m → M.nx ≤ L → M.nx ≤ Z → Mgr M' m L Z c B p0 bl pg sz rs (fun x => if x < bl then frE else spE) (fun _ => -1) 0 (fun x => if x < bl then 1 else nx x) pcs' → Q (.ret (.tup [.ptr m 0, .int .i64 0])) M') :
    CallsTo E 31 [.ptr c 0] M Q := by
  have b1 := hg.b1
  have b2 := hg.b2
  refine call_rule F.f31 rfl (N 31 rfl) ?_
  refine w_seq ?_
  refine w_region ?_
  refine vv (e_assign rfl) ?_
  refine vv (e_assign rfl) ?_
  refine w_nil ?_
  refine k_seq ?_
  refine w_seq ?_
  refine w_region ?_
  refine vv (e_move rfl) ?_
  refine vc (e_call rfl rfl F.f90 rfl) (attached_ok F (N 240 rfl) (N 291 rfl) (N 290 rfl) (N 289 rfl) (N 239 rfl) (N 55 rfl) (N 50 rfl) (N 288 rfl) (N 238 rfl) (N 161 rfl) (N 124 rfl) (N 52 rfl) (N 162 rfl) (N 163 rfl) (N 90 rfl) hch hg hr hz _ (fun M1 m L Z s1 lm lL lZ hM1 => ?_))
  dsimp only
  refine vv (e_move rfl) ?_
  refine vv rfl ?_
  refine vv rfl ?_
  refine vv (e_assign rfl) ?_
  refine vv (e_assign rfl) ?_
  refine w_nil ?_
  refine k_seq ?_
  refine w_seq ?_
  refine w_seq ?_
  refine w_region ?_
  refine vv (e_move rfl) ?_
  refine vv rfl ?_
  refine w_nil ?_
  refine k_seq ?_
  refine vf ?_
  refine w_skip ?_
  refine k_seq ?_
  refine w_seq ?_
  refine w_seq ?_
  refine w_region ?_
  refine vv (e_move rfl) ?_
  refine vc (e_call rfl rfl F.f23 rfl) (spent_ok F (N 59 rfl) (N 23 rfl) hM1 hg (fun j hj => by decide) _ (fun M2 s2 => ?_))
  dsimp only
  have hM2 := hM1.same s2
  obtain ⟨hc2, ⟨fz, hm⟩, ⟨fL, hL⟩, ⟨fZ, hZ⟩, ⟨l1, l2, l3⟩, ⟨n1, n2, n3, n4, n5, n6⟩⟩ := id hM2
  refine w_nil ?_
  refine k_seq ?_
  refine vf ?_
  refine w_skip ?_
  refine k_seq ?_
  refine w_seq ?_
  refine w_seq ?_
  refine w_region ?_
  refine vv (e_move rfl) ?_
  refine vv rfl ?_
  refine vv (e_fa rfl F.fa124_3) ?_
  refine vv (e_loadn rfl F.na59 zS zC) ?_
  refine vv (e_len_sl rfl rfl rfl rfl F.u59) ?_
  refine vv (e_move rfl) ?_
  refine w_nil ?_
  refine k_seq ?_
  refine w_block ?_
  refine w_loop ?_
  refine loop_inv (fun w ρ D M' => D = [] ∧ ∃ i, w = bl - rs - 2 - i ∧ i ≤ bl - rs - 2 ∧ ρ 0 = some (.ptr c 0) ∧ ρ 4 = some (.ptr m 0) ∧ ρ 26 = some (.int .i64 (.ofNat (bl - rs - 2))) ∧ ρ 27 = some (.int .i64 (.ofNat i)) ∧ Ex (OwnM m L Z c B p0 bl) M2 M' ∧
    Mgr M' m L Z c B p0 bl pg sz rs (fun _ => spE) (fun _ => -1) 0 nx pcs) ?_ (bl - rs - 2) _ _ _
    ⟨rfl, 0, rfl, Nat.zero_le _, rfl, rfl, rfl, rfl, Ex.refl _ _, hM2⟩
  rintro w ρ D M' ⟨rfl, i, rfl, hi, g0, g4, g26, g27, hex, hM'⟩
  obtain ⟨_, ⟨fz', hm'⟩, ⟨fL', hL'⟩, ⟨fZ', hZ'⟩, ⟨l1', l2', l3'⟩, _⟩ := id hM'
  rw [reg1 g0, reg1 g4, reg1 g26, reg1 g27]
  refine w_seq ?_
  refine w_region ?_
  refine vv rfl ?_
  refine w_nil ?_
  refine k_seq ?_
  refine w_seq ?_
  refine w_cond rfl (fun h => ?_) (fun h => ?_)
  case refine_1 =>
    have hlt := ilt_lt h
    refine w_skip ?_
    refine k_seq ?_
    refine w_seq ?_
    refine w_block ?_
    refine w_seq ?_
    refine w_region ?_
    refine vv (e_move rfl) ?_
    refine vv (e_assign rfl) ?_
    refine w_nil ?_
    refine k_seq ?_
    refine w_region ?_
    refine vv (e_move rfl) ?_
    refine vv rfl ?_
    refine vv (e_fa rfl F.fa124_3) ?_
    refine vv (e_loadn rfl F.na59 zS zC) ?_
    refine vv (e_move rfl) ?_
    refine vv (e_indexAddr rfl rfl F.u59 F.sz3 zD) ?_
    refine vd (e_store rfl rfl F.sz3 hZ' (by rw [intL_len]; show 0 + i * 1 + 1 ≤ _; omega) rfl) ?_
    have e1 : spliceL (intL (fun _ => -1) (bl - rs - 2)) (0 + i * 1) [.int .i64 (-1)] = intL (fun _ => -1) (bl - rs - 2) := (intL_put (fun _ => -1) (-1) hlt).trans (congrArg (fun g => intL g (bl - rs - 2)) (funext fun x => ite_self _))
    rw [show (AV.int .i64 (-1)).cells = [.int .i64 (-1)] from rfl, e1]
    refine w_nil ?_
    refine b_normal ?_
    refine k_seq ?_
    refine w_region ?_
    refine vv rfl ?_
    refine vv (e_move rfl) ?_
    refine w_nil ?_
    refine k_seq ?_
    exact ⟨bl - rs - 2 - (i + 1), by omega, rfl, i + 1, rfl, hlt, rfl, rfl, rfl, inc64v (by omega), hex.set (.inr (.inr (.inr (.inr rfl)))), hM'.putZ _ _⟩
  refine w_exit ?_
  refine k_exit ?_
  refine k_exit ?_
  refine b_here ?_
  refine k_seq ?_
  refine w_seq ?_
  refine w_region ?_
  refine vv (e_move rfl) ?_
  refine vv rfl ?_
  refine vv (e_fa rfl F.fa124_4) ?_
  refine vd (e_store rfl rfl F.sz54 zS zN rfl) ?_
  refine w_nil ?_
  refine k_seq ?_
  refine w_seq ?_
  refine w_seq ?_
  refine w_region ?_
  refine vv (e_move rfl) ?_
  refine vv rfl ?_
  refine vv (e_fa rfl F.fa124_2) ?_
  refine vv (e_loadn rfl F.na122 s0 zC) ?_
  refine vv (e_len_sl rfl rfl rfl rfl F.u122) ?_
  refine vv (e_move rfl) ?_
  refine w_nil ?_
  refine k_seq ?_
  refine w_block ?_
  have hG2 : M2.get 1 = some (.cells [.ifc tS (.ptr e 0)] ro fz0) := (s2.2 1 (by have := s1.1; omega)).trans ((s1.2 1 hl1).trans hG)
  have x2 : M.nx ≤ M2.nx := Nat.le_trans s1.1 s2.1
  have hOM : ¬OwnM m L Z c B p0 bl 1 := by
    rintro (h | h | h | h)
    · exact hO1 h
    · omega
    · omega
    · omega
  have hsub : ∀ x, x < M.nx → ¬Own c B p0 bl x → ¬OwnM m L Z c B p0 bl x := by
    rintro x hx hO (h | h | h | h)
    · exact hO h
    · omega
    · omega
    · omega
  have hl1' : 1 < M2.nx := by omega
  refine w_loop ?_
  refine loop_inv (fun w ρ D M' => D = [] ∧ ∃ i pc, w = bl - i ∧ i ≤ bl ∧ ρ 0 = some (.ptr c 0) ∧ ρ 4 = some (.ptr m 0) ∧ ρ 43 = some (.sl L 0 bl bl (some 6)) ∧ ρ 44 = some (.int .i64 (.ofNat bl)) ∧ ρ 45 = some (.int .i64 (.ofNat i)) ∧ Ex (OwnM m L Z c B p0 bl) M2 M' ∧ (∀ x, i ≤ x → pc x = pcs x) ∧
    Mgr M' m L Z c B p0 bl pg sz rs (fun x => if x < i then frE else spE) (fun _ => -1) 0 (fun x => if x < i then 1 else nx x) pc) ?_ bl _ _ _
    ⟨rfl, 0, pcs, rfl, Nat.zero_le _, rfl, rfl, rfl, rfl, rfl, hex.set (.inr (.inr (.inl rfl))), fun _ _ => rfl, hM'.putm 0 fz'⟩
  clear hm' hL' hZ' hM' hex
  rintro w ρ D M' ⟨rfl, i, pc, rfl, hi, g0, g4, g43, g44, g45, hex, hpe, hM'⟩
  obtain ⟨hc', ⟨fz', hm'⟩, ⟨fL', hL'⟩, ⟨fZ', hZ'⟩, ⟨l1', l2', l3'⟩, _⟩ := id hM'
  rw [reg1 g0, reg1 g4, reg1 g43, reg1 g44, reg1 g45]
  refine w_seq ?_
  refine w_region ?_
  refine vv rfl ?_
  refine w_nil ?_
  refine k_seq ?_
  refine w_seq ?_
  refine w_cond rfl (fun h => ?_) (fun h => ?_)
  case refine_1 =>
    have hlt := ilt_lt h
    refine w_skip ?_
    refine k_seq ?_
    refine w_seq ?_
    refine w_block ?_
    refine w_seq ?_
    refine w_region ?_
    refine vv (e_move rfl) ?_
    refine vv (e_indexAddr rfl rfl F.u122 F.sz156 zD) ?_
    refine vv (e_loada rfl F.ag156 F.sz156 hL' (by rw [entL_len]; show 0 + i * 6 + 6 ≤ bl * 6; omega)) ?_
    rw [entL_take _ hlt, if_neg (Nat.lt_irrefl i)]
    refine vv (e_alloc F.z156) ?_
    refine vv (e_assign rfl) ?_
    refine vd (e_store rfl rfl F.sz156 s0 zN rfl) ?_
    refine w_nil ?_
    refine k_seq ?_
    refine w_seq ?_
    refine w_seq ?_
    refine w_region ?_
    refine vv (e_fa rfl F.fa156_0) ?_
    refine vv (e_loadn rfl F.na3 s0 zC) ?_
    refine vv rfl ?_
    refine w_nil ?_
    refine k_seq ?_
    refine vf ?_
    refine w_skip ?_
    refine k_seq ?_
    refine w_seq ?_
    refine w_region ?_
    refine vv (e_move rfl) ?_
    refine vv (e_move rfl) ?_
    have sA : Same M' ((M'.new (.cells [.int .i64 0, .int .i64 0, .int .i64 0, .int .i64 0, .int .u64 0, .bool false] false false)).set M'.nx (some (.cells spE.av false false))) := (Same.refl M').new.set (Nat.le_refl _)
    have hpi : ((pc i).drop (0 + 0 * 2)).take 2 = [.int .i64 (.ofNat 0), .nils] := by
      rw [hpe i (Nat.le_refl _), hpc i hlt, show pg = pg - 1 + 1 by have := hg.p1; omega]; rfl
    refine vc (e_call rfl rfl F.f91 rfl) (readE_c F N X R (hM'.same sA).ch hg (p := 0) hlt (by have := hg.p1; omega) hpi rfl _ (fun M3 s3 hb3 => ?_))
    dsimp only
    have sB := sA.trans s3
    obtain ⟨_, ⟨_, hm3⟩, ⟨fL3, hL3⟩, _, ⟨l31, l32, l33⟩, _⟩ := id (hM'.same sB)
    have hG3 : M3.get 1 = some (.cells [.ifc tS (.ptr e 0)] ro fz0) := (sB.2 1 (by have := hex.1; omega)).trans ((hex.2 1 (by omega) hOM).trans hG2)
    refine vv (e_move rfl) ?_
    refine vv rfl ?_
    refine vv rfl ?_
    refine vv (e_assign rfl) ?_
    refine vv (e_assign rfl) ?_
    refine w_nil ?_
    refine k_seq ?_
    refine w_seq ?_
    refine w_order [.run 0 0, .run 1 1, .run 2 3, .run 3 7, .run 4 0, .run 5 0, .chk, .eff 6 32, .run 7 96, .run 8 224, .run 9 224, .run 10 511, .run 11 1535, .chk, .eff 12 3583, .chk] (by decide +kernel) ?_
    refine sp rfl (e_move rfl) ?_
    refine sp rfl rfl ?_
    refine sp rfl (e_fa rfl F.fa124_2) ?_
    refine sr rfl (e_loadn rfl F.na122 zS zC) ?_
    refine sp rfl (e_move rfl) ?_
    refine sp rfl (e_move rfl) ?_
    refine st_chk (by repeat first | exact ck_nil | refine ck_cons ⟨_, _, rfl, zA⟩ ?_ | refine ck_cons ⟨_, _, (e_loadn rfl F.na122 (by first | assumption | exact g0 | exact s0 | (repeat first | assumption | exact g0 | exact s0 | refine gn zL ?_ | refine gs zL ?_)) zC), zA⟩ ?_ | refine ck_cons ⟨_, (by first | assumption | exact g0 | exact s0 | (repeat first | assumption | exact g0 | exact s0 | refine gn zL ?_ | refine gs zL ?_)), zB⟩ ?_) ?_
    refine fc rfl zP (e_call rfl rfl F.f92 rfl) (parse_ff F N X hG3 (by have := hex.1; have := sB.1; omega) hb3 hg.s1 hg.s2 _ (fun M4 s4 => ⟨s4.1, ?_⟩))
    have sC := sB.trans s4
    obtain ⟨_, ⟨_, hm4⟩, ⟨fL4, hL4⟩, _, ⟨l41, l42, l43⟩, _⟩ := id (hM'.same sC)
    refine sp rfl (e_move rfl) ?_
    refine sp rfl rfl ?_
    refine sp rfl rfl ?_
    refine sp rfl (e_indexAddr rfl rfl F.u122 F.sz156 zD) ?_
    refine sp rfl (e_fa rfl F.fa156_1) ?_
    refine st_chk (by repeat first | exact ck_nil | refine ck_cons ⟨_, _, rfl, zA⟩ ?_ | refine ck_cons ⟨_, _, (e_loadn rfl F.na122 (by first | assumption | exact g0 | exact s0 | (repeat first | assumption | exact g0 | exact s0 | refine gn zL ?_ | refine gs zL ?_)) zC), zA⟩ ?_ | refine ck_cons ⟨_, (by first | assumption | exact g0 | exact s0 | (repeat first | assumption | exact g0 | exact s0 | refine gn zL ?_ | refine gs zL ?_)), zB⟩ ?_) ?_
    refine fd rfl zP (e_store rfl rfl F.sz3 hL4 (by rw [entL_len]; show 0 + i * 6 + 1 + 1 ≤ bl * 6; omega) rfl) ?_
    rw [show (AV.int .i64 0).cells = [.int .i64 0] from rfl, entL_putc _ 0 hlt]
    have hM5 := (hM'.same sC).putL (fun x => if x = i then { (if x < i then frE else spE) with c := 0 } else if x < i then frE else spE) fL4
    have ef : (fun x => if x = i then { (if x < i then frE else spE) with c := 0 } else if x < i then frE else spE) = fun x => if x < i then frE else spE := by
      funext x
      by_cases hx : x = i
      · subst hx; rw [if_pos rfl, if_neg (Nat.lt_irrefl _)]; rfl
      · rw [if_neg hx]
    have xC : Ex (OwnM m L Z c B p0 bl) M' (M4.set L (some (.cells (entL (fun x => if x = i then { (if x < i then frE else spE) with c := 0 } else if x < i then frE else spE) bl) false fL4))) := (Ex.of sC).set (.inr (.inr (.inr (.inl rfl))))
    rw [ef] at hM5 xC ⊢
    refine st_chk (by repeat first | exact ck_nil | refine ck_cons ⟨_, _, rfl, zA⟩ ?_ | refine ck_cons ⟨_, _, (e_loadn rfl F.na122 (by first | assumption | exact g0 | exact s0 | (repeat first | assumption | exact g0 | exact s0 | refine gn zL ?_ | refine gs zL ?_)) zC), zA⟩ ?_ | refine ck_cons ⟨_, (by first | assumption | exact g0 | exact s0 | (repeat first | assumption | exact g0 | exact s0 | refine gn zL ?_ | refine gs zL ?_)), zB⟩ ?_) ?_
    refine st_nil ?_
    refine k_seq ?_
    refine w_seq ?_
    refine w_region ?_
    refine vv (e_move rfl) ?_
    refine vv (e_move rfl) ?_
    refine vc (e_call rfl rfl F.f93 rfl) (free_ok F R.hS R.hF (N 144 rfl) (N 173 rfl) (N 246 rfl) (N 168 rfl) (N 240 rfl) (N 164 rfl) (N 243 rfl) (N 244 rfl) (N 167 rfl) (N 180 rfl) (N 169 rfl) (N 237 rfl) (N 159 rfl) (N 101 rfl) (N 93 rfl) hM5 hg hlt (by rw [if_neg (Nat.lt_irrefl i)]; rfl) _ (fun M6 pc' e6 hpc' hM6 => ?_))
    dsimp only
    refine vv (e_assign rfl) ?_
    refine w_nil ?_
    refine k_seq ?_
    refine w_seq ?_
    refine w_region ?_
    refine vv (e_move rfl) ?_
    refine vv (e_neqin rfl rfl rfl F.ii63) ?_
    refine w_nil ?_
    refine k_seq ?_
    refine vf ?_
    refine w_skip ?_
    refine b_normal ?_
    refine k_seq ?_
    refine w_region ?_
    refine vv rfl ?_
    refine vv (e_move rfl) ?_
    refine w_nil ?_
    refine k_seq ?_
    refine ⟨bl - (i + 1), by omega, rfl, i + 1, pc', rfl, hlt, rfl, rfl, rfl, rfl, inc64v (by omega), hex.trans (xC.trans e6), (fun x hx => (hpc' x (by omega)).trans (hpe x (by omega))), ?_⟩
    have e1 : (fun x => if x = i then frE else (fun x => if x < i then frE else spE) x) = fun x => if x < i + 1 then frE else spE := by
      funext x; dsimp only
      by_cases hx : x = i
      · rw [if_pos hx, if_pos (by omega)]
      · by_cases hy : x < i
        · rw [if_neg hx, if_pos hy, if_pos (by omega)]
        · rw [if_neg hx, if_neg hy, if_neg (by omega)]
    have e2 : (fun x => if x = i then 1 else (fun x => if x < i then 1 else nx x) x) = fun x => if x < i + 1 then 1 else nx x := by
      funext x; dsimp only
      by_cases hx : x = i
      · rw [if_pos hx, if_pos (by omega)]
      · by_cases hy : x < i
        · rw [if_neg hx, if_pos hy, if_pos (by omega)]
        · rw [if_neg hx, if_neg hy, if_neg (by omega)]
    rw [e1, e2] at hM6
    exact hM6
  have he : i = bl := by have := ilt_ge h; omega
  subst he
  refine w_exit ?_
  refine k_exit ?_
  refine k_exit ?_
  refine b_here ?_
  refine k_seq ?_
  refine w_seq ?_
  refine w_region ?_
  refine vv (e_move rfl) ?_
  refine vv (e_assign rfl) ?_
  refine vv (e_assign rfl) ?_
  refine w_nil ?_
  refine k_seq ?_
  refine w_ret ?_
  have hx2 := hex.1
  exact ⟨_, res_tmp rfl (res_tmp rfl res_nil), hQ M' m L Z _ (by omega) (fun x hx hO => (hex.2 x (by omega) (hsub x hx hO)).trans ((s2.2 x (by have := s1.1; omega)).trans (s1.2 x hx))) lm lL lZ hM'⟩
end
end Go.Abm.Seat

open Go Go.Abm
set_option maxRecDepth 100000
set_option maxHeartbeats 4000000
namespace Go.Abm.Seat
structure Gb (M0 M : AM) (v : AV) (bs : List Nat) : Prop where
  same : Same M0 M
  ex : ∃ b g fz, v = .sl b 0 bs.length bs.length g ∧ M0.nx ≤ b ∧ b < M.nx ∧ M.get b = some (.cells (byteL bs) false fz) ∧ Byt bs ∧ (g = none ∨ g = some 1)
theorem Gb.bts {M0 M : AM} {v : AV} {bs : List Nat} (h : Gb M0 M v bs) : Bts M v bs := by
  obtain ⟨b, g, fz, rfl, h1, h2, h3, h4, h5⟩ := h.ex
  exact ⟨b, 0, _, g, byteL bs, false, fz, rfl, h3, h2, Nat.le_refl _, by rw [byteL_len]; omega, by rw [List.drop_zero, ← byteL_len, List.take_length], h4, h5⟩
theorem Gb.after {M0 M M' : AM} {v : AV} {bs : List Nat} (h : Gb M0 M v bs) (hs : Same M M') : Gb M0 M' v bs := by
  obtain ⟨b, g, fz, rfl, h1, h2, h3, h4, h5⟩ := h.ex
  exact ⟨h.same.trans hs, b, g, fz, rfl, h1, by have := hs.1; omega, (hs.2 b h2).trans h3, h4, h5⟩
theorem Gb.back {M00 M0 M : AM} {v : AV} {bs : List Nat} (h : Gb M0 M v bs) (hs : Same M00 M0) : Gb M00 M v bs := by
  obtain ⟨b, g, fz, rfl, h1, h2, h3, h4, h5⟩ := h.ex
  exact ⟨hs.trans h.same, b, g, fz, rfl, by have := hs.1; omega, h2, h3, h4, h5⟩
theorem Gb.mk0 {M0 M : AM} {b n : Nat} {bs : List Nat} (hs : Same M0 M) (h1 : M0.nx ≤ b) (h2 : b < M.nx) (h3 : M.get b = some (.cells (byteL bs) false false)) (h4 : Byt bs) (hn : bs.length = n) : Gb M0 M (.sl b 0 n n none) bs := by
  subst hn; exact ⟨hs, b, none, false, rfl, h1, h2, h3, h4, .inl rfl⟩
def blk : AV → Nat
  | .sl b _ _ _ _ => b
  | _ => 0
theorem Gb.lt {M0 M : AM} {v : AV} {bs : List Nat} (h : Gb M0 M v bs) : M0.nx ≤ blk v ∧ blk v < M.nx := by
  obtain ⟨b, g, fz, rfl, h1, h2, _⟩ := h.ex
  exact ⟨h1, h2⟩
theorem e_appB {E : Env} {ρ : Reg} {M0 M : AM} {c : Call} {t u e : TypeId} {x y : Operand} {z : AV} {by' : Nat} {v w : AV} {A B : List Nat} (hA : Gb M0 M v A) (hB : Bts M w B) (hB1 : 1 ≤ B.length) (hl : A.length + B.length ≤ 100000)
    (hc : c.callee = .builtin .append) (ha : c.args = #[x, y]) (ht : c.argTypes = #[t, u]) (hx : rhoR E ρ x = some v) (hy : rhoR E ρ y = some w)
    (hu : E.under t = some (.slice e)) (hu2 : E.under u = some (.slice e)) (he : ElemT E e 1 by' z) (hb : by' ≤ 16) :
    ∃ r M', evalOp E (rhoR E ρ) (.call c) M = some (.val r M') ∧ Gb M0 M' r (A ++ B) ∧ M.nx ≤ M'.nx ∧ (∀ x, x < M.nx → x ≠ blk v → M'.get x = M.get x) ∧ M.nx ≤ blk r := by
  obtain ⟨b, g, fz, rfl, h1, h2, h3, h4, h5⟩ := hA.ex
  obtain ⟨f1, f2⟩ := hB.first
  have hBy : Byt B := by obtain ⟨_, _, _, _, _, _, _, _, _, _, _, _, _, h, _⟩ := hB; exact h
  have hbb : 2 * (A.length + B.length) * by' ≤ 281474976710656 := by
    have : 2 * (A.length + B.length) * by' ≤ 2 * (A.length + B.length) * 16 := Nat.mul_le_mul_left _ hb
    omega
  have hsn := hA.same.1
  have key : ∃ fz', ∃ r M', evalOp E (rhoR E ρ) (.call c) M = some (.val r M') ∧ r = .sl M.nx 0 (A.length + B.length) (A.length + B.length) (some 1) ∧ M'.nx = M.nx + 1 ∧ (∀ x, x ≠ b → x ≠ M.nx → M'.get x = M.get x) ∧ M'.get M.nx = some (.cells (byteL A ++ byteL B) false fz') := by
    rcases h5 with h5 | h5
    · exact ⟨false, e_appendn (E := E) (ρ := ρ) (M := M) hc ha ht hx hy hu hu2 he h3 (byteL_len A) h5 f1 f2 (byteL_one B) (byteL_len B) hB1 hbb (by unfold maxI; omega)⟩
    · exact ⟨fz, e_appendx (E := E) (ρ := ρ) (M := M) hc ha ht hx hy hu hu2 he h3 (byteL_len A) (.inr h5) f1 f2 (byteL_one B) (byteL_len B) hB1 hbb (by unfold maxI; omega)⟩
  obtain ⟨fz', r, M', g1, rfl, g3, g4, g5⟩ := key
  exact ⟨_, M', g1, ⟨⟨by omega, fun x hx => (g4 x (by omega) (by omega)).trans (hA.same.2 x hx)⟩, M.nx, some 1, fz', by rw [List.length_append], by omega, by omega, by rw [byteL_app]; exact g5, h4.app hBy, .inr rfl⟩, by omega, fun x hx hn => g4 x hn (by omega), Nat.le_refl _⟩
theorem Byt.lit {l : List Nat} (h : l.all (fun n => Nat.blt n 256) = true) : Byt l := fun x hx => Nat.le_of_ble_eq_true (List.all_eq_true.1 h x hx)
section
variable {E : Env} (F : Facts E) (N : NS E) (R : RS E)
include F N R
theorem mapping_ok (M : AM) {p : Nat} (p1 : 64 ≤ p) (p2 : p ≤ 512) (Q : KC)
    (hQ : ∀ M' K bs', Same M M' → M.nx ≤ K → K < M'.nx → bs'.length = p → Byt bs' → M'.get K = some (.cells (byteL bs') false false) → Q (.ret (.tup [.sl K 0 p p (some 1), .int .i64 0])) M') : CallsTo E 287 [.agg [.int .i64 0, .int .u64 0, .int .i64 1], .int .i64 (.ofNat p)] M Q := by
  refine call_rule F.f287 rfl (N 287 rfl) ?_
  refine w_seq ?_
  refine w_region ?_
  refine vv rfl ?_
  refine vv (e_assign rfl) ?_
  refine vv (e_assign rfl) ?_
  refine w_nil ?_
  refine k_seq ?_
  refine w_seq ?_
  refine w_seq ?_
  refine w_region ?_
  refine vv (e_fa rfl F.fa436_0) ?_
  refine vv (e_loadn rfl F.na3 g0 zC) ?_
  refine vv rfl ?_
  refine vv (e_move rfl) ?_
  refine vg (e_fa rfl F.fa436_0) ?_
  refine vg (e_loadn rfl F.na3 g0 zC) ?_
  refine vg rfl ?_
  refine vv rfl ?_
  refine vv (e_move rfl) ?_
  refine vg (e_fa rfl F.fa436_2) ?_
  refine vg (e_loadn rfl F.na3 g0 zC) ?_
  refine vg rfl ?_
  refine vv rfl ?_
  refine vv (e_move rfl) ?_
  refine vg (e_fa rfl F.fa436_2) ?_
  refine vg (e_loadn rfl F.na3 g0 zC) ?_
  refine vg rfl ?_
  refine vv rfl ?_
  refine w_nil ?_
  refine k_seq ?_
  refine vf ?_
  refine w_skip ?_
  refine k_seq ?_
  refine w_seq ?_
  refine w_region ?_
  refine vv (e_buildSlice rfl F.u157 F.el5 (by decide) (by decide) rfl rfl) ?_
  refine vv (e_fa rfl F.fa436_0) ?_
  refine vv (e_loadn rfl F.na3 (by first | assumption | exact g0 | exact s0 | (repeat first | assumption | exact g0 | exact s0 | refine gn zL ?_ | refine gs zL ?_)) zC) ?_
  refine vv (e_conv_int rfl F.u3 F.u54) ?_
  refine vc (e_call rfl rfl F.f144 rfl) (put2_ok F (N 144 rfl) _ 0 _ (fun M1 n1 s1 c1 => ?_))
  dsimp only
  skip
  simp only [AM.nx_new] at n1 c1
  have G1 : Gb (M.new (.cells [.int .i64 0, .int .u64 0, .int .i64 1] false false)) M1 (.sl M.nx.succ 0 1 1 none) [77] := Gb.mk0 (n := 1) ((Same.refl _).new.trans s1) (Nat.le_refl _) (by omega) ((s1.2 _ (by simp only [AM.nx_new]; omega)).trans g0) (Byt.lit rfl) rfl
  have B1 : Bts M1 (.sl M.nx.succ.succ 0 2 2 none) [0, 0] := (Gb.mk0 (bs := [0, 0]) (n := 2) G1.same (Nat.le_succ _) (by simp only [AM.nx_new]; omega) c1 (Byt.lit rfl) rfl).bts
  refine w_valx rfl rfl rfl (e_appB G1 B1 (by decide) (by decide) rfl rfl rfl rfl rfl F.u157 F.u157 F.el5 (by decide)) ?_
  rintro v2 M2 ⟨G2, n2, _⟩
  have hb2 : M2.get M.nx = some (.cells [.int .i64 0, .int .u64 0, .int .i64 1] false false) := (G2.same.2 _ (Nat.lt_succ_self _)).trans g0
  refine vv (e_assign rfl) ?_
  refine w_nil ?_
  refine k_seq ?_
  refine w_seq ?_
  refine w_order [.run 0 0, .run 1 0, .run 2 2, .run 5 0, .run 6 32, .run 7 96, .run 8 224, .chk, .eff 3 6, .chk, .eff 4 15, .chk, .eff 9 511, .chk, .eff 10 1023, .chk] (by decide +kernel) ?_
  refine sp rfl (e_move rfl) ?_
  refine sp rfl (e_fa rfl F.fa436_1) ?_
  refine sr rfl (e_loadn rfl F.na54 zS zC) ?_
  refine sp rfl (e_fa rfl F.fa436_2) ?_
  refine sr rfl (e_loadn rfl F.na3 zS zC) ?_
  refine sr rfl (e_conv_int rfl F.u3 F.u5) ?_ (hk := okc_i F.u5)
  refine sa rfl (e_buildSlice rfl F.u157 F.el5 (by decide) (by decide) rfl rfl) ?_
  refine st_chk (by repeat first | exact ck_nil | refine ck_cons ⟨_, _, rfl, zA⟩ ?_ | refine ck_cons ⟨_, _, (e_loadn rfl F.na54 (by first | assumption | exact g0 | exact s0 | (repeat first | assumption | exact g0 | exact s0 | refine gn zL ?_ | refine gs zL ?_)) zC), zA⟩ ?_ | refine ck_cons ⟨_, _, (e_loadn rfl F.na3 (by first | assumption | exact g0 | exact s0 | (repeat first | assumption | exact g0 | exact s0 | refine gn zL ?_ | refine gs zL ?_)) zC), zA⟩ ?_ | refine ck_cons ⟨_, _, (e_conv_int rfl F.u3 F.u5), zA⟩ ?_ | refine ck_cons ⟨_, (by first | assumption | exact g0 | exact s0 | (repeat first | assumption | exact g0 | exact s0 | refine gn zL ?_ | refine gs zL ?_)), zB⟩ ?_) ?_
  refine fc rfl zP (e_call rfl rfl F.f144 rfl) (put8_ok F (N 144 rfl) _ 0 _ (fun M3 n3 s3 c3 => ⟨s3.1, ?_⟩))
  simp only [AM.nx_new] at n3 c3
  have hb3 : M3.get M.nx = some (.cells [.int .i64 0, .int .u64 0, .int .i64 1] false false) := (s3.2 _ (by have := G2.same.1; simp only [AM.nx_new] at this ⊢; omega)).trans ((AM.get_new_lt (by have := G2.same.1; simp only [AM.nx_new] at this ⊢; omega)).trans hb2)
  have hs3 : M3.get M2.nx = some (.cells [.int .u8 1] false false) := (s3.2 _ (Nat.lt_succ_self _)).trans g0
  refine st_chk (by repeat first | exact ck_nil | refine ck_cons ⟨_, _, rfl, zA⟩ ?_ | refine ck_cons ⟨_, _, (e_loadn rfl F.na54 (by first | assumption | exact g0 | exact s0 | (repeat first | assumption | exact g0 | exact s0 | refine gn zL ?_ | refine gs zL ?_)) zC), zA⟩ ?_ | refine ck_cons ⟨_, _, (e_loadn rfl F.na3 (by first | assumption | exact g0 | exact s0 | (repeat first | assumption | exact g0 | exact s0 | refine gn zL ?_ | refine gs zL ?_)) zC), zA⟩ ?_ | refine ck_cons ⟨_, _, (e_conv_int rfl F.u3 F.u5), zA⟩ ?_ | refine ck_cons ⟨_, (by first | assumption | exact g0 | exact s0 | (repeat first | assumption | exact g0 | exact s0 | refine gn zL ?_ | refine gs zL ?_)), zB⟩ ?_) ?_
  have G3 := G2.after ((Same.refl M2).new.trans s3)
  have B3 : Bts M3 (.sl (M2.nx + 1) 0 8 8 none) [0, 0, 0, 0, 0, 0, 0, 0] := (Gb.mk0 (bs := [0, 0, 0, 0, 0, 0, 0, 0]) (n := 8) (Same.refl M2 |>.new.trans s3) (Nat.le_succ _) (by omega) c3 (Byt.lit rfl) rfl).bts
  refine fpx rfl zP (e_appB G3 B3 (by decide) (by decide) rfl rfl rfl rfl rfl F.u157 F.u157 F.el5 (by decide)) (fun v4 M4 h4 => ⟨h4.2.1, ?_⟩)
  obtain ⟨G4, n4, f4, t4⟩ := h4
  have hb4 : M4.get M.nx = some (.cells [.int .i64 0, .int .u64 0, .int .i64 1] false false) := (G4.same.2 _ (Nat.lt_succ_self _)).trans g0
  have hs4 : M4.get M2.nx = some (.cells [.int .u8 1] false false) := (f4 _ (by omega) (by have := G2.lt; omega)).trans hs3
  refine st_chk (by repeat first | exact ck_nil | refine ck_cons ⟨_, _, rfl, zA⟩ ?_ | refine ck_cons ⟨_, _, (e_loadn rfl F.na54 (by first | assumption | exact g0 | exact s0 | (repeat first | assumption | exact g0 | exact s0 | refine gn zL ?_ | refine gs zL ?_)) zC), zA⟩ ?_ | refine ck_cons ⟨_, _, (e_loadn rfl F.na3 (by first | assumption | exact g0 | exact s0 | (repeat first | assumption | exact g0 | exact s0 | refine gn zL ?_ | refine gs zL ?_)) zC), zA⟩ ?_ | refine ck_cons ⟨_, _, (e_conv_int rfl F.u3 F.u5), zA⟩ ?_ | refine ck_cons ⟨_, (by first | assumption | exact g0 | exact s0 | (repeat first | assumption | exact g0 | exact s0 | refine gn zL ?_ | refine gs zL ?_)), zB⟩ ?_) ?_
  have B4 : Bts M4 (.sl M2.nx 0 1 1 none) [1] := ⟨M2.nx, 0, 1, none, [.int .u8 1], false, false, rfl, hs4, by omega, Nat.le_refl _, Nat.le_refl _, rfl, Byt.lit rfl, .inl rfl⟩
  refine fpx rfl zP (e_appB G4 B4 (by decide) (by decide) rfl rfl rfl rfl rfl F.u157 F.u157 F.el5 (by decide)) (fun v5 M5 h5 => ⟨h5.2.1, ?_⟩)
  obtain ⟨G5, n5, f5, t5⟩ := h5
  have hb5 : M5.get M.nx = some (.cells [.int .i64 0, .int .u64 0, .int .i64 1] false false) := (G5.same.2 _ (Nat.lt_succ_self _)).trans g0
  have hs5 : M5.get M2.nx = some (.cells [.int .u8 1] false false) := (f5 _ (by omega) (by omega)).trans hs4
  refine st_chk (by repeat first | exact ck_nil | refine ck_cons ⟨_, _, rfl, zA⟩ ?_ | refine ck_cons ⟨_, _, (e_loadn rfl F.na54 (by first | assumption | exact g0 | exact s0 | (repeat first | assumption | exact g0 | exact s0 | refine gn zL ?_ | refine gs zL ?_)) zC), zA⟩ ?_ | refine ck_cons ⟨_, _, (e_loadn rfl F.na3 (by first | assumption | exact g0 | exact s0 | (repeat first | assumption | exact g0 | exact s0 | refine gn zL ?_ | refine gs zL ?_)) zC), zA⟩ ?_ | refine ck_cons ⟨_, _, (e_conv_int rfl F.u3 F.u5), zA⟩ ?_ | refine ck_cons ⟨_, (by first | assumption | exact g0 | exact s0 | (repeat first | assumption | exact g0 | exact s0 | refine gn zL ?_ | refine gs zL ?_)), zB⟩ ?_) ?_
  refine fp rfl zP (e_assign rfl) ?_
  refine st_chk (by repeat first | exact ck_nil | refine ck_cons ⟨_, _, rfl, zA⟩ ?_ | refine ck_cons ⟨_, _, (e_loadn rfl F.na54 (by first | assumption | exact g0 | exact s0 | (repeat first | assumption | exact g0 | exact s0 | refine gn zL ?_ | refine gs zL ?_)) zC), zA⟩ ?_ | refine ck_cons ⟨_, _, (e_loadn rfl F.na3 (by first | assumption | exact g0 | exact s0 | (repeat first | assumption | exact g0 | exact s0 | refine gn zL ?_ | refine gs zL ?_)) zC), zA⟩ ?_ | refine ck_cons ⟨_, _, (e_conv_int rfl F.u3 F.u5), zA⟩ ?_ | refine ck_cons ⟨_, (by first | assumption | exact g0 | exact s0 | (repeat first | assumption | exact g0 | exact s0 | refine gn zL ?_ | refine gs zL ?_)), zB⟩ ?_) ?_
  refine st_nil ?_
  refine k_seq ?_
  refine w_seq ?_
  refine w_region ?_
  refine vv (e_move rfl) ?_
  refine vv (e_move rfl) ?_
  refine vc (e_call rfl rfl F.f246 rfl) (image_ok F R.hS R.hF (N 144 rfl) (N 173 rfl) (N 246 rfl) G5.bts (by decide) (by decide) p1 p2 _ (fun M6 K bs' s6 lK1 lK2 hl hbb hK => ?_))
  dsimp only
  refine vv rfl ?_
  refine vv rfl ?_
  refine vv (e_assign rfl) ?_
  refine vv (e_assign rfl) ?_
  refine w_nil ?_
  refine k_seq ?_
  refine w_ret ?_
  have sN := (Same.refl M).new.trans (G5.same.trans s6)
  exact ⟨_, res_tmp rfl (res_tmp rfl res_nil), hQ M6 K bs' sN (by have := G5.same.1; simp only [AM.nx_new] at this; omega) lK2 hl hbb hK⟩
end
end Go.Abm.Seat
