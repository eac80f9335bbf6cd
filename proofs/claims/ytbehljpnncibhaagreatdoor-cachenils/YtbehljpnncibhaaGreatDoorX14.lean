/-
  A part of the proof of YtbehljpnncibhaaGreatDoor: for every input the law answers true (a machine over names of blocks, its soundness, and the run of the law). No condition beyond the given statement's.
-/
import Derived.Test.YtbehljpnncibhaaGreatDoorProg
import Derived.KernelRfl
import Derived.Test.YtbehljpnncibhaaGreatDoorX13
import Derived.Test.YtbehljpnncibhaaGreatDoorX01
set_option linter.unusedVariables false
set_option linter.unusedSimpArgs false
set_option linter.unusedSectionVars false
open Go Go.Abm
namespace Go.Abm.Seat
open Go.Proofs
set_option maxRecDepth 100000
structure Facts (E : Env) : Prop where
  f185 : E.funcs.get 185 = some Tryz.f185
  u102 : E.under 102 = some (.slice 5)
  sz5 : E.size 5 = some 1
  u5 : E.under 5 = some (.int .u8)
  u297 : E.under 297 = some (.int .u32)
  f244 : E.funcs.get 244 = some Tryz.f244
  u71 : E.under 71 = some (.pointer 112)
  fa112_1 : FA E 112 1 4
  u109 : E.under 109 = some (.slice 149)
  sz149 : E.size 149 = some 4
  f191 : E.funcs.get 191 = some Tryz.f191
  fa112_4 : FA E 112 4 7
  u4 : E.under 4 = some .bool
  u304 : E.under 304 = some (.pointer 149)
  f145 : E.funcs.get 145 = some Tryz.f145
  fa149_1 : FA E 149 1 2
  u145 : E.under 145 = some (.slice 308)
  fa112_0 : FA E 112 0 0
  fa58_2 : FA E 58 2 2
  u3 : E.under 3 = some (.int .i64)
  el5 : ElemT E 5 1 1 (AV.int .u8 0)
  sz308 : E.size 308 = some 2
  ag308 : AggT E 308
  z308 : E.zero 308 = some (AV.agg [(AV.int .i64 0), AV.nils])
  fa308_0 : FA E 308 0 0
  fa308_1 : FA E 308 1 1
  f136 : E.funcs.get 136 = some Tryz.f136
noncomputable abbrev P := Go.Proofs.Tryz.prog
theorem facts_ok {cmp : Nat → Bool} {s : Nat → Option (List AV → AM → Option (AV × AM))} {G : Nat} : Facts (mkE P G cmp s) where
  f185 := mkE_func Tryz.func185
  u102 := mkE_under0 Tryz.type102 rfl
  sz5 := mkE_size Tryz.type5
  u5 := mkE_under0 Tryz.type5 rfl
  u297 := mkE_under0 Tryz.type297 rfl
  f244 := mkE_func Tryz.func244
  u71 := mkE_under0 Tryz.type71 rfl
  fa112_1 := mkE_FA (mkE_underN Tryz.type112 rfl Tryz.type111) rfl rfl Tryz.type109 rfl
  u109 := mkE_under0 Tryz.type109 rfl
  sz149 := mkE_size Tryz.type149
  f191 := mkE_func Tryz.func191
  fa112_4 := mkE_FA (mkE_underN Tryz.type112 rfl Tryz.type111) rfl rfl Tryz.type4 rfl
  u4 := mkE_under0 Tryz.type4 rfl
  u304 := mkE_under0 Tryz.type304 rfl
  f145 := mkE_func Tryz.func145
  fa149_1 := mkE_FA (mkE_underN Tryz.type149 rfl Tryz.type148) rfl rfl Tryz.type145 rfl
  u145 := mkE_under0 Tryz.type145 rfl
  fa112_0 := mkE_FA (mkE_underN Tryz.type112 rfl Tryz.type111) rfl rfl Tryz.type58 rfl
  fa58_2 := mkE_FA (mkE_underN Tryz.type58 rfl Tryz.type57) rfl rfl Tryz.type3 rfl
  u3 := mkE_under0 Tryz.type3 rfl
  el5 := mkE_ElemT Tryz.type5 rfl (by kernel_rfl)
  sz308 := mkE_size Tryz.type308
  ag308 := mkE_AggT (mkE_underN Tryz.type308 rfl Tryz.type307) rfl
  z308 := mkE_zero Tryz.type308 rfl (by kernel_rfl)
  fa308_0 := mkE_FA (mkE_underN Tryz.type308 rfl Tryz.type307) rfl rfl Tryz.type3 rfl
  fa308_1 := mkE_FA (mkE_underN Tryz.type308 rfl Tryz.type307) rfl rfl Tryz.type102 rfl
  f136 := mkE_func Tryz.func136
end Go.Abm.Seat

open Go Go.Abm Go.Abm.Seat
namespace Go.Abm
theorem crc1_lt {s : Nat} (h : s < maxOf .u32) : crc1 s < maxOf .u32 := by
  unfold crc1
  have h2 : s / 2 < maxOf .u32 := by omega
  cases Nat.beq (Nat.land s 1) 1 with
  | true => exact xor_lt (k := .u32) h2 (by decide)
  | false => exact h2
theorem crcN_lt {s : Nat} (h : s < maxOf .u32) : ∀ n, crcN n s < maxOf .u32
  | 0 => h
  | n + 1 => crc1_lt (crcN_lt h n)
theorem crcL_lt : ∀ (l : List Nat) (s : Nat), s < maxOf .u32 → (∀ c ∈ l, c < 256) → crcL l s < maxOf .u32
  | [], s, h, _ => h
  | c :: l, s, h, hc => crcL_lt l _ (crcN_lt (xor_lt h (Nat.lt_trans (hc c (by simp)) (by decide))) 8) (fun x hx => hc x (by simp [hx]))

theorem bytesOf_get : ∀ (l : List AV) (bs : List Nat), bytesOf l = some bs → l.length = bs.length ∧ ∀ (i c : Nat), bs[i]? = some c → c < 256 ∧ l[i]? = some (AV.int .u8 (.ofNat c))
  | [], bs, h => by cases h; exact ⟨rfl, fun i c h => by simp at h⟩
  | v :: l, bs, h => by
    unfold bytesOf at h
    split at h
    · rename_i e; cases e
    · rename_i n l' e
      cases e
      obtain ⟨h1, h2⟩ := cond_some_inv h
      obtain ⟨bs', h3, rfl⟩ := map_some_inv h2
      obtain ⟨h4, h5⟩ := bytesOf_get l bs' h3
      refine ⟨by simp [h4], fun i c hc => ?_⟩
      cases i with
      | zero => simp at hc; subst hc; exact ⟨blt_of h1, rfl⟩
      | succ i => simp at hc; have := h5 i c hc; exact ⟨this.1, by simpa using this.2⟩
    · cases h
end Go.Abm
set_option maxRecDepth 100000

namespace Go.Abm.Seat
theorem sum_ok {E : Env} (F : Facts E) (hs : E.sums 185 = none) (M : AM) (b off len cap : Nat) (gr) (l : List AV) (bs : List Nat) (ro fz) (hm : M.get b = some (.cells l ro fz)) (hl : off + len ≤ l.length) (hlen : len ≤ maxI)
  (hb : bytesOf ((l.drop off).take len) = some bs) (Q : KC) (hQ : Q (.ret (.int .u32 (.ofNat (Nat.xor 4294967295 (crcL bs 4294967295))))) M) : CallsTo E 185 [.sl b off len cap gr] M Q := by
  obtain ⟨hb1, hb2⟩ := bytesOf_get _ _ hb
  have hbl : bs.length = len := by rw [← hb1, List.length_take, List.length_drop]; omega
  have hbc : ∀ c ∈ bs, c < 256 := fun c hc => by
    obtain ⟨i, hi⟩ := List.getElem?_of_mem hc
    exact (hb2 i c hi).1
  have hlt : ∀ i, crcL (bs.take i) 4294967295 < maxOf .u32 := fun i => crcL_lt _ _ (by decide) (fun c hc => hbc c (List.mem_of_mem_take hc))
  refine call_rule F.f185 rfl hs ?_
  repeat first | refine w_seq ?_ | refine w_region ?_ | refine w_val rfl rfl rfl rfl ?_ | refine w_valg rfl rfl rfl rfl ?_ | refine w_nil ?_ | refine k_seq ?_ | refine w_skip ?_ | refine w_block ?_ | refine w_exit ?_ | refine k_exit ?_ | refine b_here ?_ | refine b_normal ?_ | refine w_ret ?_ | refine k_ret ?_ | refine b_ret ?_
  refine w_val rfl rfl rfl (e_len_sl rfl rfl rfl rfl F.u102) ?_
  repeat first | refine w_seq ?_ | refine w_region ?_ | refine w_val rfl rfl rfl rfl ?_ | refine w_valg rfl rfl rfl rfl ?_ | refine w_nil ?_ | refine k_seq ?_ | refine w_skip ?_ | refine w_block ?_ | refine w_exit ?_ | refine k_exit ?_ | refine b_here ?_ | refine b_normal ?_ | refine w_ret ?_ | refine k_ret ?_ | refine b_ret ?_
  refine w_loop ?_
  refine loop_inv (fun k ρ D M' => D = [] ∧ M' = M ∧ ∃ i, k = len - i ∧ i ≤ len ∧ ρ 6 = some (.sl b off len cap gr) ∧ ρ 7 = some (.int .i64 (.ofNat len)) ∧ ρ 8 = some (.int .i64 (.ofNat i)) ∧
    ρ 3 = some (.int .u32 (.ofNat (crcL (bs.take i) 4294967295)))) ?_ len _ _ _ ⟨rfl, rfl, 0, rfl, Nat.zero_le _, rfl, rfl, rfl, rfl⟩
  rintro k ρ D M' ⟨rfl, rfl, i, rfl, hi, h6, h7, h8, h3⟩
  repeat first | refine w_seq ?_ | refine w_region ?_ | refine w_val rfl rfl rfl rfl ?_ | refine w_valg rfl rfl rfl rfl ?_ | refine w_nil ?_ | refine k_seq ?_ | refine w_skip ?_ | refine w_block ?_ | refine w_exit ?_ | refine k_exit ?_ | refine b_here ?_ | refine b_normal ?_ | refine w_ret ?_ | refine k_ret ?_ | refine b_ret ?_
  refine w_val rfl rfl rfl (e_lss64 h8 h7) ?_
  repeat first | refine w_seq ?_ | refine w_region ?_ | refine w_val rfl rfl rfl rfl ?_ | refine w_valg rfl rfl rfl rfl ?_ | refine w_nil ?_ | refine k_seq ?_ | refine w_skip ?_ | refine w_block ?_ | refine w_exit ?_ | refine k_exit ?_ | refine b_here ?_ | refine b_normal ?_ | refine w_ret ?_ | refine k_ret ?_ | refine b_ret ?_
  refine w_cond rfl (fun h => ?_) (fun h => ?_)
  case refine_2 =>
    -- the end
    have he : i = len := by have := of_decide_eq_false h; omega
    subst he
    repeat first | refine w_seq ?_ | refine w_region ?_ | refine w_val rfl rfl rfl rfl ?_ | refine w_valg rfl rfl rfl rfl ?_ | refine w_nil ?_ | refine k_seq ?_ | refine w_skip ?_ | refine w_block ?_ | refine w_exit ?_ | refine k_exit ?_ | refine b_here ?_ | refine b_normal ?_ | refine w_ret ?_ | refine k_ret ?_ | refine b_ret ?_
    refine w_val rfl rfl rfl (e_move h3) ?_
    refine w_val rfl rfl rfl (e_inv rfl (hlt _)) ?_
    repeat first | refine w_seq ?_ | refine w_region ?_ | refine w_val rfl rfl rfl rfl ?_ | refine w_valg rfl rfl rfl rfl ?_ | refine w_nil ?_ | refine k_seq ?_ | refine w_skip ?_ | refine w_block ?_ | refine w_exit ?_ | refine k_exit ?_ | refine b_here ?_ | refine b_normal ?_ | refine w_ret ?_ | refine k_ret ?_ | refine b_ret ?_
    refine ⟨_, rfl, ?_⟩
    rw [List.take_of_length_le (by omega)] 
    exact hQ
  repeat first | refine w_seq ?_ | refine w_region ?_ | refine w_val rfl rfl rfl rfl ?_ | refine w_valg rfl rfl rfl rfl ?_ | refine w_nil ?_ | refine k_seq ?_ | refine w_skip ?_ | refine w_block ?_ | refine w_exit ?_ | refine k_exit ?_ | refine b_here ?_ | refine b_normal ?_ | refine w_ret ?_ | refine k_ret ?_ | refine b_ret ?_
  have hlt' : i < len := of_decide_eq_true h
  obtain ⟨c, hc⟩ : ∃ c, bs[i]? = some c := ⟨bs[i]'(by omega), List.getElem?_eq_getElem _⟩
  obtain ⟨hc1, hc2⟩ := hb2 i c hc
  have hc3 : l[off + i * 1]? = some (AV.int .u8 (.ofNat c)) := by
    rw [List.getElem?_take, if_pos hlt', List.getElem?_drop] at hc2
    simpa using hc2
  have hs := hlt i
  have hcm : c < maxOf .u32 := Nat.lt_trans hc1 (by decide)
  repeat first | refine w_seq ?_ | refine w_region ?_ | refine w_val rfl rfl rfl rfl ?_ | refine w_valg rfl rfl rfl rfl ?_ | refine w_nil ?_ | refine k_seq ?_ | refine w_skip ?_ | refine w_block ?_ | refine w_exit ?_ | refine k_exit ?_ | refine b_here ?_ | refine b_normal ?_ | refine w_ret ?_ | refine k_ret ?_ | refine b_ret ?_
  refine w_val rfl rfl rfl (e_indexAddr h6 h8 F.u102 F.sz5 hlt') ?_
  refine w_val rfl rfl rfl (e_load rfl F.u5 rfl hm hc3) ?_
  repeat first | refine w_seq ?_ | refine w_region ?_ | refine w_val rfl rfl rfl rfl ?_ | refine w_valg rfl rfl rfl rfl ?_ | refine w_nil ?_ | refine k_seq ?_ | refine w_skip ?_ | refine w_block ?_ | refine w_exit ?_ | refine k_exit ?_ | refine b_here ?_ | refine b_normal ?_ | refine w_ret ?_ | refine k_ret ?_ | refine b_ret ?_
  refine w_val rfl rfl rfl (e_move h3) ?_
  repeat first | refine w_seq ?_ | refine w_region ?_ | refine w_val rfl rfl rfl rfl ?_ | refine w_valg rfl rfl rfl rfl ?_ | refine w_nil ?_ | refine k_seq ?_ | refine w_skip ?_ | refine w_block ?_ | refine w_exit ?_ | refine k_exit ?_ | refine b_here ?_ | refine b_normal ?_ | refine w_ret ?_ | refine k_ret ?_ | refine b_ret ?_
  refine w_val rfl rfl rfl (e_conv_int rfl F.u5 F.u297) ?_
  rw [wrap_u hcm]
  refine w_val rfl rfl rfl (e_xor rfl rfl hs hcm) ?_
  repeat first | refine w_seq ?_ | refine w_region ?_ | refine w_val rfl rfl rfl rfl ?_ | refine w_valg rfl rfl rfl rfl ?_ | refine w_nil ?_ | refine k_seq ?_ | refine w_skip ?_ | refine w_block ?_ | refine w_exit ?_ | refine k_exit ?_ | refine b_here ?_ | refine b_normal ?_ | refine w_ret ?_ | refine k_ret ?_ | refine b_ret ?_
  refine w_loop ?_
  have hx := xor_lt (k := .u32) hs hcm
  refine loop_inv (fun k ρ D M2 => D = [] ∧ M2 = M' ∧ ∃ j, k = 8 - j ∧ j ≤ 8 ∧ ρ 6 = some (.sl b off len cap gr) ∧ ρ 7 = some (.int .i64 (.ofNat len)) ∧ ρ 8 = some (.int .i64 (.ofNat i)) ∧ ρ 16 = some (.int .i64 (.ofNat j)) ∧
    ρ 3 = some (.int .u32 (.ofNat (crcN j (Nat.xor (crcL (bs.take i) 4294967295) c))))) ?_ 8 _ _ _ ⟨rfl, rfl, 0, rfl, Nat.zero_le _, h6, h7, h8, rfl, rfl⟩
  clear h6 h7 h8 h3
  rintro k ρ D M' ⟨rfl, rfl, j, rfl, hj, h6, h7, h8, h16, h3⟩
  have hr := crcN_lt hx j
  repeat first | refine w_seq ?_ | refine w_region ?_ | refine w_val rfl rfl rfl rfl ?_ | refine w_valg rfl rfl rfl rfl ?_ | refine w_nil ?_ | refine k_seq ?_ | refine w_skip ?_ | refine w_block ?_ | refine w_exit ?_ | refine k_exit ?_ | refine b_here ?_ | refine b_normal ?_ | refine w_ret ?_ | refine k_ret ?_ | refine b_ret ?_
  refine w_val rfl rfl rfl (e_lss64 (b := 8) h16 rfl) ?_
  repeat first | refine w_seq ?_ | refine w_region ?_ | refine w_val rfl rfl rfl rfl ?_ | refine w_valg rfl rfl rfl rfl ?_ | refine w_nil ?_ | refine k_seq ?_ | refine w_skip ?_ | refine w_block ?_ | refine w_exit ?_ | refine k_exit ?_ | refine b_here ?_ | refine b_normal ?_ | refine w_ret ?_ | refine k_ret ?_ | refine b_ret ?_
  refine w_cond rfl (fun h => ?_) (fun h => ?_)
  case refine_2 =>
    have he : j = 8 := by have := of_decide_eq_false h; omega
    subst he
    repeat first | refine w_seq ?_ | refine w_region ?_ | refine w_val rfl rfl rfl rfl ?_ | refine w_valg rfl rfl rfl rfl ?_ | refine w_nil ?_ | refine k_seq ?_ | refine w_skip ?_ | refine w_block ?_ | refine w_exit ?_ | refine k_exit ?_ | refine b_here ?_ | refine b_normal ?_ | refine w_ret ?_ | refine k_ret ?_ | refine b_ret ?_
    refine w_val rfl rfl rfl (e_add64 (b := 1) h8 rfl (by unfold maxI at hlen; omega)) ?_
    repeat first | refine w_seq ?_ | refine w_region ?_ | refine w_val rfl rfl rfl rfl ?_ | refine w_valg rfl rfl rfl rfl ?_ | refine w_nil ?_ | refine k_seq ?_ | refine w_skip ?_ | refine w_block ?_ | refine w_exit ?_ | refine k_exit ?_ | refine b_here ?_ | refine b_normal ?_ | refine w_ret ?_ | refine k_ret ?_ | refine b_ret ?_
    refine (⟨len - (i + 1), by omega, rfl, rfl, i + 1, rfl, by omega, h6, h7, rfl, ?_⟩)
    rw [List.take_add_one, hc]
    simp only [Option.toList_some, crcL, List.foldl_append, List.foldl_cons, List.foldl_nil]
    exact h3
  repeat first | refine w_seq ?_ | refine w_region ?_ | refine w_val rfl rfl rfl rfl ?_ | refine w_valg rfl rfl rfl rfl ?_ | refine w_nil ?_ | refine k_seq ?_ | refine w_skip ?_ | refine w_block ?_ | refine w_exit ?_ | refine k_exit ?_ | refine b_here ?_ | refine b_normal ?_ | refine w_ret ?_ | refine k_ret ?_ | refine b_ret ?_
  have hj' : j < 8 := of_decide_eq_true h
  repeat first | refine w_seq ?_ | refine w_region ?_ | refine w_val rfl rfl rfl rfl ?_ | refine w_valg rfl rfl rfl rfl ?_ | refine w_nil ?_ | refine k_seq ?_ | refine w_skip ?_ | refine w_block ?_ | refine w_exit ?_ | refine k_exit ?_ | refine b_here ?_ | refine b_normal ?_ | refine w_ret ?_ | refine k_ret ?_ | refine b_ret ?_
  refine w_val rfl rfl rfl (e_move h3) ?_
  refine w_val rfl rfl rfl (e_and rfl rfl hr (by decide)) ?_
  repeat first | refine w_seq ?_ | refine w_region ?_ | refine w_val rfl rfl rfl rfl ?_ | refine w_valg rfl rfl rfl rfl ?_ | refine w_nil ?_ | refine k_seq ?_ | refine w_skip ?_ | refine w_block ?_ | refine w_exit ?_ | refine k_exit ?_ | refine b_here ?_ | refine b_normal ?_ | refine w_ret ?_ | refine k_ret ?_ | refine b_ret ?_
  have hh : crcN j (Nat.xor (crcL (bs.take i) 4294967295) c) / 2 < maxOf .u32 := by omega
  refine w_cond rfl (fun h => ?_) (fun h => ?_)
  · repeat first | refine w_seq ?_ | refine w_region ?_ | refine w_val rfl rfl rfl rfl ?_ | refine w_valg rfl rfl rfl rfl ?_ | refine w_nil ?_ | refine k_seq ?_ | refine w_skip ?_ | refine w_block ?_ | refine w_exit ?_ | refine k_exit ?_ | refine b_here ?_ | refine b_normal ?_ | refine w_ret ?_ | refine k_ret ?_ | refine b_ret ?_
    refine w_val rfl rfl rfl (e_move h3) ?_
    refine w_val rfl rfl rfl (e_shr rfl rfl (by decide)) ?_
    refine w_val rfl rfl rfl (e_xor rfl rfl hh (by decide)) ?_
    repeat first | refine w_seq ?_ | refine w_region ?_ | refine w_val rfl rfl rfl rfl ?_ | refine w_valg rfl rfl rfl rfl ?_ | refine w_nil ?_ | refine k_seq ?_ | refine w_skip ?_ | refine w_block ?_ | refine w_exit ?_ | refine k_exit ?_ | refine b_here ?_ | refine b_normal ?_ | refine w_ret ?_ | refine k_ret ?_ | refine b_ret ?_
    refine w_val rfl rfl rfl (e_add64 (b := 1) h16 rfl (by omega)) ?_
    repeat first | refine w_seq ?_ | refine w_region ?_ | refine w_val rfl rfl rfl rfl ?_ | refine w_valg rfl rfl rfl rfl ?_ | refine w_nil ?_ | refine k_seq ?_ | refine w_skip ?_ | refine w_block ?_ | refine w_exit ?_ | refine k_exit ?_ | refine b_here ?_ | refine b_normal ?_ | refine w_ret ?_ | refine k_ret ?_ | refine b_ret ?_
    refine (⟨8 - (j + 1), by omega, rfl, rfl, j + 1, rfl, by omega, h6, h7, h8, rfl, ?_⟩)
    have h' : Nat.beq (Nat.land (crcN j (Nat.xor (crcL (bs.take i) 4294967295) c)) 1) 1 = true := h
    show some (AV.int .u32 (.ofNat _)) = _
    rw [show crcN (j + 1) _ = crc1 (crcN j _) from rfl, crc1, h']
    rfl
  · repeat first | refine w_seq ?_ | refine w_region ?_ | refine w_val rfl rfl rfl rfl ?_ | refine w_valg rfl rfl rfl rfl ?_ | refine w_nil ?_ | refine k_seq ?_ | refine w_skip ?_ | refine w_block ?_ | refine w_exit ?_ | refine k_exit ?_ | refine b_here ?_ | refine b_normal ?_ | refine w_ret ?_ | refine k_ret ?_ | refine b_ret ?_
    refine w_val rfl rfl rfl (e_move h3) ?_
    refine w_val rfl rfl rfl (e_shr rfl rfl (by decide)) ?_
    repeat first | refine w_seq ?_ | refine w_region ?_ | refine w_val rfl rfl rfl rfl ?_ | refine w_valg rfl rfl rfl rfl ?_ | refine w_nil ?_ | refine k_seq ?_ | refine w_skip ?_ | refine w_block ?_ | refine w_exit ?_ | refine k_exit ?_ | refine b_here ?_ | refine b_normal ?_ | refine w_ret ?_ | refine k_ret ?_ | refine b_ret ?_
    refine w_val rfl rfl rfl (e_add64 (b := 1) h16 rfl (by omega)) ?_
    repeat first | refine w_seq ?_ | refine w_region ?_ | refine w_val rfl rfl rfl rfl ?_ | refine w_valg rfl rfl rfl rfl ?_ | refine w_nil ?_ | refine k_seq ?_ | refine w_skip ?_ | refine w_block ?_ | refine w_exit ?_ | refine k_exit ?_ | refine b_here ?_ | refine b_normal ?_ | refine w_ret ?_ | refine k_ret ?_ | refine b_ret ?_
    refine (⟨8 - (j + 1), by omega, rfl, rfl, j + 1, rfl, by omega, h6, h7, h8, rfl, ?_⟩)
    have h' : Nat.beq (Nat.land (crcN j (Nat.xor (crcL (bs.take i) 4294967295) c)) 1) 1 = false := h
    show some (AV.int .u32 (.ofNat _)) = _
    rw [show crcN (j + 1) _ = crc1 (crcN j _) from rfl, crc1, h']
    rfl
end Go.Abm.Seat

open Go Go.Abm
set_option maxRecDepth 100000
namespace Go.Abm.Seat

/-- (*Chip).at, at a block that is there. -/
theorem at_ok {E : Env} (F : Facts E) (hs : E.sums 244 = none) (M : AM) (c o n bb bo bl bc : Nat) (bg : Option Nat) (cl : List AV) (ro fz : Bool)
    (hm : M.get c = some (.cells cl ro fz)) (hb : cl[o + 4]? = some (.sl bb bo bl bc bg)) (hn : n < bl) (Q : KC) (hQ : Q (.ret (.ptr bb (bo + n * 4))) M) :
    CallsTo E 244 [.ptr c o, .int .i64 (.ofNat n)] M Q := by
  refine call_rule F.f244 rfl hs ?_
  repeat first | refine w_seq ?_ | refine w_region ?_ | refine w_val rfl rfl rfl rfl ?_ | refine w_valg rfl rfl rfl rfl ?_ | refine w_nil ?_ | refine k_seq ?_ | refine w_skip ?_ | refine w_block ?_ | refine w_exit ?_ | refine k_exit ?_ | refine b_here ?_ | refine b_normal ?_ | refine w_ret ?_ | refine k_ret ?_ | refine b_ret ?_
  refine w_val rfl rfl rfl (e_eqlp rfl rfl F.u71) ?_
  repeat first | refine w_seq ?_ | refine w_region ?_ | refine w_val rfl rfl rfl rfl ?_ | refine w_valg rfl rfl rfl rfl ?_ | refine w_nil ?_ | refine k_seq ?_ | refine w_skip ?_ | refine w_block ?_ | refine w_exit ?_ | refine k_exit ?_ | refine b_here ?_ | refine b_normal ?_ | refine w_ret ?_ | refine k_ret ?_ | refine b_ret ?_
  refine w_valg rfl rfl rfl (e_fa rfl F.fa112_1) ?_
  refine w_valg rfl rfl rfl (e_load rfl F.u109 rfl hm hb) ?_
  refine w_valg rfl rfl rfl (e_len_sl rfl rfl rfl rfl F.u109) ?_
  repeat first | refine w_seq ?_ | refine w_region ?_ | refine w_val rfl rfl rfl rfl ?_ | refine w_valg rfl rfl rfl rfl ?_ | refine w_nil ?_ | refine k_seq ?_ | refine w_skip ?_ | refine w_block ?_ | refine w_exit ?_ | refine k_exit ?_ | refine b_here ?_ | refine b_normal ?_ | refine w_ret ?_ | refine k_ret ?_ | refine b_ret ?_
  refine w_false (bool_nilt_f hn) ?_
  repeat first | refine w_seq ?_ | refine w_region ?_ | refine w_val rfl rfl rfl rfl ?_ | refine w_valg rfl rfl rfl rfl ?_ | refine w_nil ?_ | refine k_seq ?_ | refine w_skip ?_ | refine w_block ?_ | refine w_exit ?_ | refine k_exit ?_ | refine b_here ?_ | refine b_normal ?_ | refine w_ret ?_ | refine k_ret ?_ | refine b_ret ?_
  refine w_val rfl rfl rfl (e_fa rfl F.fa112_1) ?_
  refine w_val rfl rfl rfl (e_load rfl F.u109 rfl hm hb) ?_
  refine w_val rfl rfl rfl rfl ?_
  refine w_val rfl rfl rfl (e_indexAddr rfl rfl F.u109 F.sz149 hn) ?_
  repeat first | refine w_seq ?_ | refine w_region ?_ | refine w_val rfl rfl rfl rfl ?_ | refine w_valg rfl rfl rfl rfl ?_ | refine w_nil ?_ | refine k_seq ?_ | refine w_skip ?_ | refine w_block ?_ | refine w_exit ?_ | refine k_exit ?_ | refine b_here ?_ | refine b_normal ?_ | refine w_ret ?_ | refine k_ret ?_ | refine b_ret ?_
  exact ⟨_, rfl, hQ⟩

/-- (*Chip).ready, of a chip that is on. -/
theorem ready_ok {E : Env} (F : Facts E) (hs : E.sums 244 = none) (hs2 : E.sums 191 = none) (M : AM) (c o n bb bo bl bc : Nat) (bg : Option Nat) (cl : List AV) (ro fz : Bool)
    (hm : M.get c = some (.cells cl ro fz)) (hb : cl[o + 4]? = some (.sl bb bo bl bc bg)) (hoff : cl[o + 7]? = some (.bool false)) (hn : n < bl) (Q : KC)
    (hQ : Q (.ret (.tup [.ptr bb (bo + n * 4), .int .i64 0])) M) :
    CallsTo E 191 [.ptr c o, .int .i64 (.ofNat n)] M Q := by
  refine call_rule F.f191 rfl hs2 ?_
  repeat first | refine w_seq ?_ | refine w_region ?_ | refine w_val rfl rfl rfl rfl ?_ | refine w_valg rfl rfl rfl rfl ?_ | refine w_nil ?_ | refine k_seq ?_ | refine w_skip ?_ | refine w_block ?_ | refine w_exit ?_ | refine k_exit ?_ | refine b_here ?_ | refine b_normal ?_ | refine w_ret ?_ | refine k_ret ?_ | refine b_ret ?_
  refine w_callr rfl rfl rfl (e_call rfl rfl F.f244 rfl) (at_ok F hs M c o n bb bo bl bc bg cl ro fz hm hb hn _ ⟨rfl, rfl⟩) ?_
  repeat first | refine w_seq ?_ | refine w_region ?_ | refine w_val rfl rfl rfl rfl ?_ | refine w_valg rfl rfl rfl rfl ?_ | refine w_nil ?_ | refine k_seq ?_ | refine w_skip ?_ | refine w_block ?_ | refine w_exit ?_ | refine k_exit ?_ | refine b_here ?_ | refine b_normal ?_ | refine w_ret ?_ | refine k_ret ?_ | refine b_ret ?_
  refine w_val rfl rfl rfl (e_eqlp rfl rfl F.u71) ?_
  repeat first | refine w_seq ?_ | refine w_region ?_ | refine w_val rfl rfl rfl rfl ?_ | refine w_valg rfl rfl rfl rfl ?_ | refine w_nil ?_ | refine k_seq ?_ | refine w_skip ?_ | refine w_block ?_ | refine w_exit ?_ | refine k_exit ?_ | refine b_here ?_ | refine b_normal ?_ | refine w_ret ?_ | refine k_ret ?_ | refine b_ret ?_
  refine w_false rfl ?_
  repeat first | refine w_seq ?_ | refine w_region ?_ | refine w_val rfl rfl rfl rfl ?_ | refine w_valg rfl rfl rfl rfl ?_ | refine w_nil ?_ | refine k_seq ?_ | refine w_skip ?_ | refine w_block ?_ | refine w_exit ?_ | refine k_exit ?_ | refine b_here ?_ | refine b_normal ?_ | refine w_ret ?_ | refine k_ret ?_ | refine b_ret ?_
  refine w_val rfl rfl rfl (e_fa rfl F.fa112_4) ?_
  refine w_val rfl rfl rfl (e_load rfl F.u4 rfl hm hoff) ?_
  repeat first | refine w_seq ?_ | refine w_region ?_ | refine w_val rfl rfl rfl rfl ?_ | refine w_valg rfl rfl rfl rfl ?_ | refine w_nil ?_ | refine k_seq ?_ | refine w_skip ?_ | refine w_block ?_ | refine w_exit ?_ | refine k_exit ?_ | refine b_here ?_ | refine b_normal ?_ | refine w_ret ?_ | refine k_ret ?_ | refine b_ret ?_
  refine w_false rfl ?_
  repeat first | refine w_seq ?_ | refine w_region ?_ | refine w_val rfl rfl rfl rfl ?_ | refine w_valg rfl rfl rfl rfl ?_ | refine w_nil ?_ | refine k_seq ?_ | refine w_skip ?_ | refine w_block ?_ | refine w_exit ?_ | refine k_exit ?_ | refine b_here ?_ | refine b_normal ?_ | refine w_ret ?_ | refine k_ret ?_ | refine b_ret ?_
  refine w_val rfl rfl rfl (e_eqlp rfl rfl F.u304) ?_
  repeat first | refine w_seq ?_ | refine w_region ?_ | refine w_val rfl rfl rfl rfl ?_ | refine w_valg rfl rfl rfl rfl ?_ | refine w_nil ?_ | refine k_seq ?_ | refine w_skip ?_ | refine w_block ?_ | refine w_exit ?_ | refine k_exit ?_ | refine b_here ?_ | refine b_normal ?_ | refine w_ret ?_ | refine k_ret ?_ | refine b_ret ?_
  refine w_false rfl ?_
  repeat first | refine w_seq ?_ | refine w_region ?_ | refine w_val rfl rfl rfl rfl ?_ | refine w_valg rfl rfl rfl rfl ?_ | refine w_nil ?_ | refine k_seq ?_ | refine w_skip ?_ | refine w_block ?_ | refine w_exit ?_ | refine k_exit ?_ | refine b_here ?_ | refine b_normal ?_ | refine w_ret ?_ | refine k_ret ?_ | refine b_ret ?_
  exact ⟨_, rfl, hQ⟩
end Go.Abm.Seat
