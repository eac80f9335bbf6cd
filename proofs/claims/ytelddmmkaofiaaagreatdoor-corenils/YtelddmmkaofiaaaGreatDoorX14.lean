/-
  A part of the proof of YtelddmmkaofiaaaGreatDoor: for every input the law answers true (a machine over names of blocks, its soundness, and the run of the law). No condition beyond the given statement's.
-/
import Derived.Test.YtelddmmkaofiaaaGreatDoorProg
import Derived.KernelRfl
import Derived.Test.YtelddmmkaofiaaaGreatDoorX13
set_option linter.unusedVariables false
set_option linter.unusedSimpArgs false
set_option linter.unusedSectionVars false
open Go Go.Abm
namespace Go.Abm.Seat
open Go.Proofs
set_option maxRecDepth 100000
structure Facts (E : Env) : Prop where
  f242 : E.funcs.get 242 = some Tryz.f242
  u46 : E.under 46 = some (.slice 5)
  sz5 : E.size 5 = some 1
  u5 : E.under 5 = some (.int .u8)
  u386 : E.under 386 = some (.int .u32)
  f231 : E.funcs.get 231 = some Tryz.f231
  u147 : E.under 147 = some (.pointer 212)
  fa212_1 : FA E 212 1 4
  u210 : E.under 210 = some (.slice 217)
  sz217 : E.size 217 = some 4
  f193 : E.funcs.get 193 = some Tryz.f193
  fa212_4 : FA E 212 4 7
  u4 : E.under 4 = some .bool
  u331 : E.under 331 = some (.pointer 217)
  f158 : E.funcs.get 158 = some Tryz.f158
  fa217_1 : FA E 217 1 2
  u213 : E.under 213 = some (.slice 335)
  fa212_0 : FA E 212 0 0
  fa145_2 : FA E 145 2 2
  u3 : E.under 3 = some (.int .i64)
  el5 : ElemT E 5 1 1 (AV.int .u8 0)
  sz335 : E.size 335 = some 2
  ag335 : AggT E 335
  z335 : E.zero 335 = some (AV.agg [(AV.int .i64 0), AV.nils])
  fa335_0 : FA E 335 0 0
  fa335_1 : FA E 335 1 1
  f285 : E.funcs.get 285 = some Tryz.f285
noncomputable abbrev P := Go.Proofs.Tryz.prog
theorem facts_ok {cmp : Nat → Bool} {s : Nat → Option (List AV → AM → Option (AV × AM))} {G : Nat} : Facts (mkE P G cmp s) where
  f242 := mkE_func Tryz.func242
  u46 := mkE_under0 Tryz.type46 rfl
  sz5 := mkE_size Tryz.type5
  u5 := mkE_under0 Tryz.type5 rfl
  u386 := mkE_under0 Tryz.type386 rfl
  f231 := mkE_func Tryz.func231
  u147 := mkE_under0 Tryz.type147 rfl
  fa212_1 := mkE_FA (mkE_underN Tryz.type212 rfl Tryz.type211) rfl rfl Tryz.type210 rfl
  u210 := mkE_under0 Tryz.type210 rfl
  sz217 := mkE_size Tryz.type217
  f193 := mkE_func Tryz.func193
  fa212_4 := mkE_FA (mkE_underN Tryz.type212 rfl Tryz.type211) rfl rfl Tryz.type4 rfl
  u4 := mkE_under0 Tryz.type4 rfl
  u331 := mkE_under0 Tryz.type331 rfl
  f158 := mkE_func Tryz.func158
  fa217_1 := mkE_FA (mkE_underN Tryz.type217 rfl Tryz.type216) rfl rfl Tryz.type213 rfl
  u213 := mkE_under0 Tryz.type213 rfl
  fa212_0 := mkE_FA (mkE_underN Tryz.type212 rfl Tryz.type211) rfl rfl Tryz.type145 rfl
  fa145_2 := mkE_FA (mkE_underN Tryz.type145 rfl Tryz.type144) rfl rfl Tryz.type3 rfl
  u3 := mkE_under0 Tryz.type3 rfl
  el5 := mkE_ElemT Tryz.type5 rfl (by kernel_rfl)
  sz335 := mkE_size Tryz.type335
  ag335 := mkE_AggT (mkE_underN Tryz.type335 rfl Tryz.type334) rfl
  z335 := mkE_zero Tryz.type335 rfl (by kernel_rfl)
  fa335_0 := mkE_FA (mkE_underN Tryz.type335 rfl Tryz.type334) rfl rfl Tryz.type3 rfl
  fa335_1 := mkE_FA (mkE_underN Tryz.type335 rfl Tryz.type334) rfl rfl Tryz.type46 rfl
  f285 := mkE_func Tryz.func285
end Go.Abm.Seat

open Go Go.Abm Go.Abm.Seat
namespace Go.Abm
theorem crc1_lt {s : Nat} (h : s < maxOf .u32) : crc1 s < maxOf .u32 := by
  unfold crc1
  have h2 : s / 2 < maxOf .u32 := by omega
  cases Nat.beq (Nat.land s 1) 1 with
  | true => exact xor_lt (k := .u32) h2 (by decide)
  | false => exact h2
theorem crcN_lt {s : Nat} (h : s < maxOf .u32) : ∀ n, crcN n s < maxOf .u32
  | 0 => h
  | n + 1 => crc1_lt (crcN_lt h n)
theorem crcL_lt : ∀ (l : List Nat) (s : Nat), s < maxOf .u32 → (∀ c ∈ l, c < 256) → crcL l s < maxOf .u32
  | [], s, h, _ => h
  | c :: l, s, h, hc => crcL_lt l _ (crcN_lt (xor_lt h (Nat.lt_trans (hc c (by simp)) (by decide))) 8) (fun x hx => hc x (by simp [hx]))

theorem bytesOf_get : ∀ (l : List AV) (bs : List Nat), bytesOf l = some bs → l.length = bs.length ∧ ∀ (i c : Nat), bs[i]? = some c → c < 256 ∧ l[i]? = some (AV.int .u8 (.ofNat c))
  | [], bs, h => by cases h; exact ⟨rfl, fun i c h => by simp at h⟩
  | v :: l, bs, h => by
    unfold bytesOf at h
    split at h
    · rename_i e; cases e
    · rename_i n l' e
      cases e
      obtain ⟨h1, h2⟩ := cond_some_inv h
      obtain ⟨bs', h3, rfl⟩ := map_some_inv h2
      obtain ⟨h4, h5⟩ := bytesOf_get l bs' h3
      refine ⟨by simp [h4], fun i c hc => ?_⟩
      cases i with
      | zero => simp at hc; subst hc; exact ⟨blt_of h1, rfl⟩
      | succ i => simp at hc; have := h5 i c hc; exact ⟨this.1, by simpa using this.2⟩
    · cases h
end Go.Abm
set_option maxRecDepth 100000

namespace Go.Abm.Seat
theorem sum_ok {E : Env} (F : Facts E) (hs : E.sums 242 = none) (M : AM) (b off len cap : Nat) (gr) (l : List AV) (bs : List Nat) (ro fz) (hm : M.get b = some (.cells l ro fz)) (hl : off + len ≤ l.length) (hlen : len ≤ maxI)
  (hb : bytesOf ((l.drop off).take len) = some bs) (Q : KC) (hQ : Q (.ret (.int .u32 (.ofNat (Nat.xor 4294967295 (crcL bs 4294967295))))) M) : CallsTo E 242 [.sl b off len cap gr] M Q := by
  obtain ⟨hb1, hb2⟩ := bytesOf_get _ _ hb
  have hbl : bs.length = len := by rw [← hb1, List.length_take, List.length_drop]; omega
  have hbc : ∀ c ∈ bs, c < 256 := fun c hc => by
    obtain ⟨i, hi⟩ := List.getElem?_of_mem hc
    exact (hb2 i c hi).1
  have hlt : ∀ i, crcL (bs.take i) 4294967295 < maxOf .u32 := fun i => crcL_lt _ _ (by decide) (fun c hc => hbc c (List.mem_of_mem_take hc))
  refine call_rule F.f242 rfl hs ?_
  repeat first | refine w_seq ?_ | refine w_region ?_ | refine w_val rfl rfl rfl rfl ?_ | refine w_valg rfl rfl rfl rfl ?_ | refine w_nil ?_ | refine k_seq ?_ | refine w_skip ?_ | refine w_block ?_ | refine w_exit ?_ | refine k_exit ?_ | refine b_here ?_ | refine b_normal ?_ | refine w_ret ?_ | refine k_ret ?_ | refine b_ret ?_
  refine w_val rfl rfl rfl (e_len_sl rfl rfl rfl rfl F.u46) ?_
  repeat first | refine w_seq ?_ | refine w_region ?_ | refine w_val rfl rfl rfl rfl ?_ | refine w_valg rfl rfl rfl rfl ?_ | refine w_nil ?_ | refine k_seq ?_ | refine w_skip ?_ | refine w_block ?_ | refine w_exit ?_ | refine k_exit ?_ | refine b_here ?_ | refine b_normal ?_ | refine w_ret ?_ | refine k_ret ?_ | refine b_ret ?_
  refine w_loop ?_
  refine loop_inv (fun k ρ D M' => D = [] ∧ M' = M ∧ ∃ i, k = len - i ∧ i ≤ len ∧ ρ 6 = some (.sl b off len cap gr) ∧ ρ 7 = some (.int .i64 (.ofNat len)) ∧ ρ 8 = some (.int .i64 (.ofNat i)) ∧
    ρ 3 = some (.int .u32 (.ofNat (crcL (bs.take i) 4294967295)))) ?_ len _ _ _ ⟨rfl, rfl, 0, rfl, Nat.zero_le _, rfl, rfl, rfl, rfl⟩
  rintro k ρ D M' ⟨rfl, rfl, i, rfl, hi, h6, h7, h8, h3⟩
  repeat first | refine w_seq ?_ | refine w_region ?_ | refine w_val rfl rfl rfl rfl ?_ | refine w_valg rfl rfl rfl rfl ?_ | refine w_nil ?_ | refine k_seq ?_ | refine w_skip ?_ | refine w_block ?_ | refine w_exit ?_ | refine k_exit ?_ | refine b_here ?_ | refine b_normal ?_ | refine w_ret ?_ | refine k_ret ?_ | refine b_ret ?_
  refine w_val rfl rfl rfl (e_lss64 h8 h7) ?_
  repeat first | refine w_seq ?_ | refine w_region ?_ | refine w_val rfl rfl rfl rfl ?_ | refine w_valg rfl rfl rfl rfl ?_ | refine w_nil ?_ | refine k_seq ?_ | refine w_skip ?_ | refine w_block ?_ | refine w_exit ?_ | refine k_exit ?_ | refine b_here ?_ | refine b_normal ?_ | refine w_ret ?_ | refine k_ret ?_ | refine b_ret ?_
  refine w_cond rfl (fun h => ?_) (fun h => ?_)
  case refine_2 =>
    -- the end
    have he : i = len := by have := of_decide_eq_false h; omega
    subst he
    repeat first | refine w_seq ?_ | refine w_region ?_ | refine w_val rfl rfl rfl rfl ?_ | refine w_valg rfl rfl rfl rfl ?_ | refine w_nil ?_ | refine k_seq ?_ | refine w_skip ?_ | refine w_block ?_ | refine w_exit ?_ | refine k_exit ?_ | refine b_here ?_ | refine b_normal ?_ | refine w_ret ?_ | refine k_ret ?_ | refine b_ret ?_
    refine w_val rfl rfl rfl (e_move h3) ?_
    refine w_val rfl rfl rfl (e_inv rfl (hlt _)) ?_
    repeat first | refine w_seq ?_ | refine w_region ?_ | refine w_val rfl rfl rfl rfl ?_ | refine w_valg rfl rfl rfl rfl ?_ | refine w_nil ?_ | refine k_seq ?_ | refine w_skip ?_ | refine w_block ?_ | refine w_exit ?_ | refine k_exit ?_ | refine b_here ?_ | refine b_normal ?_ | refine w_ret ?_ | refine k_ret ?_ | refine b_ret ?_
    refine ⟨_, rfl, ?_⟩
    rw [List.take_of_length_le (by omega)] 
    exact hQ
  repeat first | refine w_seq ?_ | refine w_region ?_ | refine w_val rfl rfl rfl rfl ?_ | refine w_valg rfl rfl rfl rfl ?_ | refine w_nil ?_ | refine k_seq ?_ | refine w_skip ?_ | refine w_block ?_ | refine w_exit ?_ | refine k_exit ?_ | refine b_here ?_ | refine b_normal ?_ | refine w_ret ?_ | refine k_ret ?_ | refine b_ret ?_
  have hlt' : i < len := of_decide_eq_true h
  obtain ⟨c, hc⟩ : ∃ c, bs[i]? = some c := ⟨bs[i]'(by omega), List.getElem?_eq_getElem _⟩
  obtain ⟨hc1, hc2⟩ := hb2 i c hc
  have hc3 : l[off + i * 1]? = some (AV.int .u8 (.ofNat c)) := by
    rw [List.getElem?_take, if_pos hlt', List.getElem?_drop] at hc2
    simpa using hc2
  have hs := hlt i
  have hcm : c < maxOf .u32 := Nat.lt_trans hc1 (by decide)
  repeat first | refine w_seq ?_ | refine w_region ?_ | refine w_val rfl rfl rfl rfl ?_ | refine w_valg rfl rfl rfl rfl ?_ | refine w_nil ?_ | refine k_seq ?_ | refine w_skip ?_ | refine w_block ?_ | refine w_exit ?_ | refine k_exit ?_ | refine b_here ?_ | refine b_normal ?_ | refine w_ret ?_ | refine k_ret ?_ | refine b_ret ?_
  refine w_val rfl rfl rfl (e_indexAddr h6 h8 F.u46 F.sz5 hlt') ?_
  refine w_val rfl rfl rfl (e_load rfl F.u5 rfl hm hc3) ?_
  repeat first | refine w_seq ?_ | refine w_region ?_ | refine w_val rfl rfl rfl rfl ?_ | refine w_valg rfl rfl rfl rfl ?_ | refine w_nil ?_ | refine k_seq ?_ | refine w_skip ?_ | refine w_block ?_ | refine w_exit ?_ | refine k_exit ?_ | refine b_here ?_ | refine b_normal ?_ | refine w_ret ?_ | refine k_ret ?_ | refine b_ret ?_
  refine w_val rfl rfl rfl (e_move h3) ?_
  repeat first | refine w_seq ?_ | refine w_region ?_ | refine w_val rfl rfl rfl rfl ?_ | refine w_valg rfl rfl rfl rfl ?_ | refine w_nil ?_ | refine k_seq ?_ | refine w_skip ?_ | refine w_block ?_ | refine w_exit ?_ | refine k_exit ?_ | refine b_here ?_ | refine b_normal ?_ | refine w_ret ?_ | refine k_ret ?_ | refine b_ret ?_
  refine w_val rfl rfl rfl (e_conv_int rfl F.u5 F.u386) ?_
  rw [wrap_u hcm]
  refine w_val rfl rfl rfl (e_xor rfl rfl hs hcm) ?_
  repeat first | refine w_seq ?_ | refine w_region ?_ | refine w_val rfl rfl rfl rfl ?_ | refine w_valg rfl rfl rfl rfl ?_ | refine w_nil ?_ | refine k_seq ?_ | refine w_skip ?_ | refine w_block ?_ | refine w_exit ?_ | refine k_exit ?_ | refine b_here ?_ | refine b_normal ?_ | refine w_ret ?_ | refine k_ret ?_ | refine b_ret ?_
  refine w_loop ?_
  have hx := xor_lt (k := .u32) hs hcm
  refine loop_inv (fun k ρ D M2 => D = [] ∧ M2 = M' ∧ ∃ j, k = 8 - j ∧ j ≤ 8 ∧ ρ 6 = some (.sl b off len cap gr) ∧ ρ 7 = some (.int .i64 (.ofNat len)) ∧ ρ 8 = some (.int .i64 (.ofNat i)) ∧ ρ 16 = some (.int .i64 (.ofNat j)) ∧
    ρ 3 = some (.int .u32 (.ofNat (crcN j (Nat.xor (crcL (bs.take i) 4294967295) c))))) ?_ 8 _ _ _ ⟨rfl, rfl, 0, rfl, Nat.zero_le _, h6, h7, h8, rfl, rfl⟩
  clear h6 h7 h8 h3
  rintro k ρ D M' ⟨rfl, rfl, j, rfl, hj, h6, h7, h8, h16, h3⟩
  have hr := crcN_lt hx j
  repeat first | refine w_seq ?_ | refine w_region ?_ | refine w_val rfl rfl rfl rfl ?_ | refine w_valg rfl rfl rfl rfl ?_ | refine w_nil ?_ | refine k_seq ?_ | refine w_skip ?_ | refine w_block ?_ | refine w_exit ?_ | refine k_exit ?_ | refine b_here ?_ | refine b_normal ?_ | refine w_ret ?_ | refine k_ret ?_ | refine b_ret ?_
  refine w_val rfl rfl rfl (e_lss64 (b := 8) h16 rfl) ?_
  repeat first | refine w_seq ?_ | refine w_region ?_ | refine w_val rfl rfl rfl rfl ?_ | refine w_valg rfl rfl rfl rfl ?_ | refine w_nil ?_ | refine k_seq ?_ | refine w_skip ?_ | refine w_block ?_ | refine w_exit ?_ | refine k_exit ?_ | refine b_here ?_ | refine b_normal ?_ | refine w_ret ?_ | refine k_ret ?_ | refine b_ret ?_
  refine w_cond rfl (fun h => ?_) (fun h => ?_)
  case refine_2 =>
    have he : j = 8 := by have := of_decide_eq_false h; omega
    subst he
    repeat first | refine w_seq ?_ | refine w_region ?_ | refine w_val rfl rfl rfl rfl ?_ | refine w_valg rfl rfl rfl rfl ?_ | refine w_nil ?_ | refine k_seq ?_ | refine w_skip ?_ | refine w_block ?_ | refine w_exit ?_ | refine k_exit ?_ | refine b_here ?_ | refine b_normal ?_ | refine w_ret ?_ | refine k_ret ?_ | refine b_ret ?_
    refine w_val rfl rfl rfl (e_add64 (b := 1) h8 rfl (by unfold maxI at hlen; omega)) ?_
    repeat first | refine w_seq ?_ | refine w_region ?_ | refine w_val rfl rfl rfl rfl ?_ | refine w_valg rfl rfl rfl rfl ?_ | refine w_nil ?_ | refine k_seq ?_ | refine w_skip ?_ | refine w_block ?_ | refine w_exit ?_ | refine k_exit ?_ | refine b_here ?_ | refine b_normal ?_ | refine w_ret ?_ | refine k_ret ?_ | refine b_ret ?_
    refine (⟨len - (i + 1), by omega, rfl, rfl, i + 1, rfl, by omega, h6, h7, rfl, ?_⟩)
    rw [List.take_add_one, hc]
    simp only [Option.toList_some, crcL, List.foldl_append, List.foldl_cons, List.foldl_nil]
    exact h3
  repeat first | refine w_seq ?_ | refine w_region ?_ | refine w_val rfl rfl rfl rfl ?_ | refine w_valg rfl rfl rfl rfl ?_ | refine w_nil ?_ | refine k_seq ?_ | refine w_skip ?_ | refine w_block ?_ | refine w_exit ?_ | refine k_exit ?_ | refine b_here ?_ | refine b_normal ?_ | refine w_ret ?_ | refine k_ret ?_ | refine b_ret ?_
  have hj' : j < 8 := of_decide_eq_true h
  repeat first | refine w_seq ?_ | refine w_region ?_ | refine w_val rfl rfl rfl rfl ?_ | refine w_valg rfl rfl rfl rfl ?_ | refine w_nil ?_ | refine k_seq ?_ | refine w_skip ?_ | refine w_block ?_ | refine w_exit ?_ | refine k_exit ?_ | refine b_here ?_ | refine b_normal ?_ | refine w_ret ?_ | refine k_ret ?_ | refine b_ret ?_
  refine w_val rfl rfl rfl (e_move h3) ?_
  refine w_val rfl rfl rfl (e_and rfl rfl hr (by decide)) ?_
  repeat first | refine w_seq ?_ | refine w_region ?_ | refine w_val rfl rfl rfl rfl ?_ | refine w_valg rfl rfl rfl rfl ?_ | refine w_nil ?_ | refine k_seq ?_ | refine w_skip ?_ | refine w_block ?_ | refine w_exit ?_ | refine k_exit ?_ | refine b_here ?_ | refine b_normal ?_ | refine w_ret ?_ | refine k_ret ?_ | refine b_ret ?_
  have hh : crcN j (Nat.xor (crcL (bs.take i) 4294967295) c) / 2 < maxOf .u32 := by omega
  refine w_cond rfl (fun h => ?_) (fun h => ?_)
  · repeat first | refine w_seq ?_ | refine w_region ?_ | refine w_val rfl rfl rfl rfl ?_ | refine w_valg rfl rfl rfl rfl ?_ | refine w_nil ?_ | refine k_seq ?_ | refine w_skip ?_ | refine w_block ?_ | refine w_exit ?_ | refine k_exit ?_ | refine b_here ?_ | refine b_normal ?_ | refine w_ret ?_ | refine k_ret ?_ | refine b_ret ?_
    refine w_val rfl rfl rfl (e_move h3) ?_
    refine w_val rfl rfl rfl (e_shr rfl rfl (by decide)) ?_
    refine w_val rfl rfl rfl (e_xor rfl rfl hh (by decide)) ?_
    repeat first | refine w_seq ?_ | refine w_region ?_ | refine w_val rfl rfl rfl rfl ?_ | refine w_valg rfl rfl rfl rfl ?_ | refine w_nil ?_ | refine k_seq ?_ | refine w_skip ?_ | refine w_block ?_ | refine w_exit ?_ | refine k_exit ?_ | refine b_here ?_ | refine b_normal ?_ | refine w_ret ?_ | refine k_ret ?_ | refine b_ret ?_
    refine w_val rfl rfl rfl (e_add64 (b := 1) h16 rfl (by omega)) ?_
    repeat first | refine w_seq ?_ | refine w_region ?_ | refine w_val rfl rfl rfl rfl ?_ | refine w_valg rfl rfl rfl rfl ?_ | refine w_nil ?_ | refine k_seq ?_ | refine w_skip ?_ | refine w_block ?_ | refine w_exit ?_ | refine k_exit ?_ | refine b_here ?_ | refine b_normal ?_ | refine w_ret ?_ | refine k_ret ?_ | refine b_ret ?_
    refine (⟨8 - (j + 1), by omega, rfl, rfl, j + 1, rfl, by omega, h6, h7, h8, rfl, ?_⟩)
    have h' : Nat.beq (Nat.land (crcN j (Nat.xor (crcL (bs.take i) 4294967295) c)) 1) 1 = true := h
    show some (AV.int .u32 (.ofNat _)) = _
    rw [show crcN (j + 1) _ = crc1 (crcN j _) from rfl, crc1, h']
    rfl
  · repeat first | refine w_seq ?_ | refine w_region ?_ | refine w_val rfl rfl rfl rfl ?_ | refine w_valg rfl rfl rfl rfl ?_ | refine w_nil ?_ | refine k_seq ?_ | refine w_skip ?_ | refine w_block ?_ | refine w_exit ?_ | refine k_exit ?_ | refine b_here ?_ | refine b_normal ?_ | refine w_ret ?_ | refine k_ret ?_ | refine b_ret ?_
    refine w_val rfl rfl rfl (e_move h3) ?_
    refine w_val rfl rfl rfl (e_shr rfl rfl (by decide)) ?_
    repeat first | refine w_seq ?_ | refine w_region ?_ | refine w_val rfl rfl rfl rfl ?_ | refine w_valg rfl rfl rfl rfl ?_ | refine w_nil ?_ | refine k_seq ?_ | refine w_skip ?_ | refine w_block ?_ | refine w_exit ?_ | refine k_exit ?_ | refine b_here ?_ | refine b_normal ?_ | refine w_ret ?_ | refine k_ret ?_ | refine b_ret ?_
    refine w_val rfl rfl rfl (e_add64 (b := 1) h16 rfl (by omega)) ?_
    repeat first | refine w_seq ?_ | refine w_region ?_ | refine w_val rfl rfl rfl rfl ?_ | refine w_valg rfl rfl rfl rfl ?_ | refine w_nil ?_ | refine k_seq ?_ | refine w_skip ?_ | refine w_block ?_ | refine w_exit ?_ | refine k_exit ?_ | refine b_here ?_ | refine b_normal ?_ | refine w_ret ?_ | refine k_ret ?_ | refine b_ret ?_
    refine (⟨8 - (j + 1), by omega, rfl, rfl, j + 1, rfl, by omega, h6, h7, h8, rfl, ?_⟩)
    have h' : Nat.beq (Nat.land (crcN j (Nat.xor (crcL (bs.take i) 4294967295) c)) 1) 1 = false := h
    show some (AV.int .u32 (.ofNat _)) = _
    rw [show crcN (j + 1) _ = crc1 (crcN j _) from rfl, crc1, h']
    rfl
end Go.Abm.Seat

open Go Go.Abm
set_option maxRecDepth 100000
namespace Go.Abm.Seat

/-- (*Chip).at, at a block that is there. -/
theorem at_ok {E : Env} (F : Facts E) (hs : E.sums 231 = none) (M : AM) (c o n bb bo bl bc : Nat) (bg : Option Nat) (cl : List AV) (ro fz : Bool)
    (hm : M.get c = some (.cells cl ro fz)) (hb : cl[o + 4]? = some (.sl bb bo bl bc bg)) (hn : n < bl) (Q : KC) (hQ : Q (.ret (.ptr bb (bo + n * 4))) M) :
    CallsTo E 231 [.ptr c o, .int .i64 (.ofNat n)] M Q := by
  refine call_rule F.f231 rfl hs ?_
  repeat first | refine w_seq ?_ | refine w_region ?_ | refine w_val rfl rfl rfl rfl ?_ | refine w_valg rfl rfl rfl rfl ?_ | refine w_nil ?_ | refine k_seq ?_ | refine w_skip ?_ | refine w_block ?_ | refine w_exit ?_ | refine k_exit ?_ | refine b_here ?_ | refine b_normal ?_ | refine w_ret ?_ | refine k_ret ?_ | refine b_ret ?_
  refine w_val rfl rfl rfl (e_eqlp rfl rfl F.u147) ?_
  repeat first | refine w_seq ?_ | refine w_region ?_ | refine w_val rfl rfl rfl rfl ?_ | refine w_valg rfl rfl rfl rfl ?_ | refine w_nil ?_ | refine k_seq ?_ | refine w_skip ?_ | refine w_block ?_ | refine w_exit ?_ | refine k_exit ?_ | refine b_here ?_ | refine b_normal ?_ | refine w_ret ?_ | refine k_ret ?_ | refine b_ret ?_
  refine w_valg rfl rfl rfl (e_fa rfl F.fa212_1) ?_
  refine w_valg rfl rfl rfl (e_load rfl F.u210 rfl hm hb) ?_
  refine w_valg rfl rfl rfl (e_len_sl rfl rfl rfl rfl F.u210) ?_
  repeat first | refine w_seq ?_ | refine w_region ?_ | refine w_val rfl rfl rfl rfl ?_ | refine w_valg rfl rfl rfl rfl ?_ | refine w_nil ?_ | refine k_seq ?_ | refine w_skip ?_ | refine w_block ?_ | refine w_exit ?_ | refine k_exit ?_ | refine b_here ?_ | refine b_normal ?_ | refine w_ret ?_ | refine k_ret ?_ | refine b_ret ?_
  refine w_false (bool_nilt_f hn) ?_
  repeat first | refine w_seq ?_ | refine w_region ?_ | refine w_val rfl rfl rfl rfl ?_ | refine w_valg rfl rfl rfl rfl ?_ | refine w_nil ?_ | refine k_seq ?_ | refine w_skip ?_ | refine w_block ?_ | refine w_exit ?_ | refine k_exit ?_ | refine b_here ?_ | refine b_normal ?_ | refine w_ret ?_ | refine k_ret ?_ | refine b_ret ?_
  refine w_val rfl rfl rfl (e_fa rfl F.fa212_1) ?_
  refine w_val rfl rfl rfl (e_load rfl F.u210 rfl hm hb) ?_
  refine w_val rfl rfl rfl rfl ?_
  refine w_val rfl rfl rfl (e_indexAddr rfl rfl F.u210 F.sz217 hn) ?_
  repeat first | refine w_seq ?_ | refine w_region ?_ | refine w_val rfl rfl rfl rfl ?_ | refine w_valg rfl rfl rfl rfl ?_ | refine w_nil ?_ | refine k_seq ?_ | refine w_skip ?_ | refine w_block ?_ | refine w_exit ?_ | refine k_exit ?_ | refine b_here ?_ | refine b_normal ?_ | refine w_ret ?_ | refine k_ret ?_ | refine b_ret ?_
  exact ⟨_, rfl, hQ⟩

/-- (*Chip).ready, of a chip that is on. -/
theorem ready_ok {E : Env} (F : Facts E) (hs : E.sums 231 = none) (hs2 : E.sums 193 = none) (M : AM) (c o n bb bo bl bc : Nat) (bg : Option Nat) (cl : List AV) (ro fz : Bool)
    (hm : M.get c = some (.cells cl ro fz)) (hb : cl[o + 4]? = some (.sl bb bo bl bc bg)) (hoff : cl[o + 7]? = some (.bool false)) (hn : n < bl) (Q : KC)
    (hQ : Q (.ret (.tup [.ptr bb (bo + n * 4), .int .i64 0])) M) :
    CallsTo E 193 [.ptr c o, .int .i64 (.ofNat n)] M Q := by
  refine call_rule F.f193 rfl hs2 ?_
  repeat first | refine w_seq ?_ | refine w_region ?_ | refine w_val rfl rfl rfl rfl ?_ | refine w_valg rfl rfl rfl rfl ?_ | refine w_nil ?_ | refine k_seq ?_ | refine w_skip ?_ | refine w_block ?_ | refine w_exit ?_ | refine k_exit ?_ | refine b_here ?_ | refine b_normal ?_ | refine w_ret ?_ | refine k_ret ?_ | refine b_ret ?_
  refine w_callr rfl rfl rfl (e_call rfl rfl F.f231 rfl) (at_ok F hs M c o n bb bo bl bc bg cl ro fz hm hb hn _ ⟨rfl, rfl⟩) ?_
  repeat first | refine w_seq ?_ | refine w_region ?_ | refine w_val rfl rfl rfl rfl ?_ | refine w_valg rfl rfl rfl rfl ?_ | refine w_nil ?_ | refine k_seq ?_ | refine w_skip ?_ | refine w_block ?_ | refine w_exit ?_ | refine k_exit ?_ | refine b_here ?_ | refine b_normal ?_ | refine w_ret ?_ | refine k_ret ?_ | refine b_ret ?_
  refine w_val rfl rfl rfl (e_eqlp rfl rfl F.u147) ?_
  repeat first | refine w_seq ?_ | refine w_region ?_ | refine w_val rfl rfl rfl rfl ?_ | refine w_valg rfl rfl rfl rfl ?_ | refine w_nil ?_ | refine k_seq ?_ | refine w_skip ?_ | refine w_block ?_ | refine w_exit ?_ | refine k_exit ?_ | refine b_here ?_ | refine b_normal ?_ | refine w_ret ?_ | refine k_ret ?_ | refine b_ret ?_
  refine w_false rfl ?_
  repeat first | refine w_seq ?_ | refine w_region ?_ | refine w_val rfl rfl rfl rfl ?_ | refine w_valg rfl rfl rfl rfl ?_ | refine w_nil ?_ | refine k_seq ?_ | refine w_skip ?_ | refine w_block ?_ | refine w_exit ?_ | refine k_exit ?_ | refine b_here ?_ | refine b_normal ?_ | refine w_ret ?_ | refine k_ret ?_ | refine b_ret ?_
  refine w_val rfl rfl rfl (e_fa rfl F.fa212_4) ?_
  refine w_val rfl rfl rfl (e_load rfl F.u4 rfl hm hoff) ?_
  repeat first | refine w_seq ?_ | refine w_region ?_ | refine w_val rfl rfl rfl rfl ?_ | refine w_valg rfl rfl rfl rfl ?_ | refine w_nil ?_ | refine k_seq ?_ | refine w_skip ?_ | refine w_block ?_ | refine w_exit ?_ | refine k_exit ?_ | refine b_here ?_ | refine b_normal ?_ | refine w_ret ?_ | refine k_ret ?_ | refine b_ret ?_
  refine w_false rfl ?_
  repeat first | refine w_seq ?_ | refine w_region ?_ | refine w_val rfl rfl rfl rfl ?_ | refine w_valg rfl rfl rfl rfl ?_ | refine w_nil ?_ | refine k_seq ?_ | refine w_skip ?_ | refine w_block ?_ | refine w_exit ?_ | refine k_exit ?_ | refine b_here ?_ | refine b_normal ?_ | refine w_ret ?_ | refine k_ret ?_ | refine b_ret ?_
  refine w_val rfl rfl rfl (e_eqlp rfl rfl F.u331) ?_
  repeat first | refine w_seq ?_ | refine w_region ?_ | refine w_val rfl rfl rfl rfl ?_ | refine w_valg rfl rfl rfl rfl ?_ | refine w_nil ?_ | refine k_seq ?_ | refine w_skip ?_ | refine w_block ?_ | refine w_exit ?_ | refine k_exit ?_ | refine b_here ?_ | refine b_normal ?_ | refine w_ret ?_ | refine k_ret ?_ | refine b_ret ?_
  refine w_false rfl ?_
  repeat first | refine w_seq ?_ | refine w_region ?_ | refine w_val rfl rfl rfl rfl ?_ | refine w_valg rfl rfl rfl rfl ?_ | refine w_nil ?_ | refine k_seq ?_ | refine w_skip ?_ | refine w_block ?_ | refine w_exit ?_ | refine k_exit ?_ | refine b_here ?_ | refine b_normal ?_ | refine w_ret ?_ | refine k_ret ?_ | refine b_ret ?_
  exact ⟨_, rfl, hQ⟩
end Go.Abm.Seat

open Go Go.Abm
set_option maxRecDepth 100000
namespace Go.Abm.Seat
theorem read_erased {E : Env} (F : Facts E) (hs : E.sums 231 = none) (hs2 : E.sums 193 = none) (hs3 : E.sums 158 = none) (M : AM) (c o n p bb bo bl bc pb po pl pc pg : Nat) (bg pgr : Option Nat) (cl bcl pcl : List AV) (ro fz r1 f1 r2 f2 : Bool) (dt : AV)
    (hm : M.get c = some (.cells cl ro fz)) (hb : cl[o + 4]? = some (.sl bb bo bl bc bg)) (hoff : cl[o + 7]? = some (.bool false)) (hn : n < bl)
    (hpg : cl[o + 0 + 2]? = some (.int .i64 (.ofNat pg))) (hpgl : pg ≤ 65536) (hmb : M.get bb = some (.cells bcl r1 f1)) (hp : bcl[bo + n * 4 + 2]? = some (.sl pb po pl pc pgr)) (hpl : p < pl)
    (hmp : M.get pb = some (.cells pcl r2 f2)) (hst : (pcl.drop (po + p * 2)).take 2 = [.int .i64 (.ofNat 0), dt]) (hone : dt.one = true) (lc : c < M.nx) (lbb : bb < M.nx) (lpb : pb < M.nx) :
    CallsTo E 158 [.ptr c o, .int .i64 (.ofNat n), .int .i64 (.ofNat p)] M fun e M' => e = .ret (.tup [.sl M.nx 0 pg pg none, .int .i64 0]) ∧ M'.nx = M.nx + 2 ∧ (∀ x, x < M.nx → M'.get x = M.get x) ∧ M'.get M.nx = some (.cells (List.replicate pg (.int .u8 255)) false false) := by
  have hne : ∀ {x : Nat}, x < M.nx → x ≠ M.nx := fun h => by omega
  refine call_rule F.f158 rfl hs3 ?_
  repeat first | refine w_seq ?_ | refine w_region ?_ | refine w_val rfl rfl rfl rfl ?_ | refine w_valg rfl rfl rfl rfl ?_ | refine w_nil ?_ | refine k_seq ?_ | refine w_skip ?_ | refine w_block ?_ | refine w_exit ?_ | refine k_exit ?_ | refine b_here ?_ | refine b_normal ?_ | refine w_ret ?_ | refine k_ret ?_ | refine b_ret ?_
  refine w_callr rfl rfl rfl (e_call rfl rfl F.f193 rfl) (ready_ok F hs hs2 M c o n bb bo bl bc bg cl ro fz hm hb hoff hn _ ⟨rfl, rfl⟩) ?_
  repeat first | refine w_seq ?_ | refine w_region ?_ | refine w_val rfl rfl rfl rfl ?_ | refine w_valg rfl rfl rfl rfl ?_ | refine w_nil ?_ | refine k_seq ?_ | refine w_skip ?_ | refine w_block ?_ | refine w_exit ?_ | refine k_exit ?_ | refine b_here ?_ | refine b_normal ?_ | refine w_ret ?_ | refine k_ret ?_ | refine b_ret ?_
  refine w_false rfl ?_
  repeat first | refine w_seq ?_ | refine w_region ?_ | refine w_val rfl rfl rfl rfl ?_ | refine w_valg rfl rfl rfl rfl ?_ | refine w_nil ?_ | refine k_seq ?_ | refine w_skip ?_ | refine w_block ?_ | refine w_exit ?_ | refine k_exit ?_ | refine b_here ?_ | refine b_normal ?_ | refine w_ret ?_ | refine k_ret ?_ | refine b_ret ?_
  refine w_valg rfl rfl rfl (e_fa rfl F.fa217_1) ?_
  refine w_valg rfl rfl rfl (e_load rfl F.u213 rfl hmb hp) ?_
  refine w_valg rfl rfl rfl (e_len_sl rfl rfl rfl rfl F.u213) ?_
  repeat first | refine w_seq ?_ | refine w_region ?_ | refine w_val rfl rfl rfl rfl ?_ | refine w_valg rfl rfl rfl rfl ?_ | refine w_nil ?_ | refine k_seq ?_ | refine w_skip ?_ | refine w_block ?_ | refine w_exit ?_ | refine k_exit ?_ | refine b_here ?_ | refine b_normal ?_ | refine w_ret ?_ | refine k_ret ?_ | refine b_ret ?_
  refine w_false (bool_nilt_f hpl) ?_
  repeat first | refine w_seq ?_ | refine w_region ?_ | refine w_val rfl rfl rfl rfl ?_ | refine w_valg rfl rfl rfl rfl ?_ | refine w_nil ?_ | refine k_seq ?_ | refine w_skip ?_ | refine w_block ?_ | refine w_exit ?_ | refine k_exit ?_ | refine b_here ?_ | refine b_normal ?_ | refine w_ret ?_ | refine k_ret ?_ | refine b_ret ?_
  refine w_val rfl rfl rfl (e_fa rfl F.fa212_0) ?_
  refine w_val rfl rfl rfl (e_fa rfl F.fa145_2) ?_
  refine w_val rfl rfl rfl (e_load rfl F.u3 rfl hm hpg) ?_
  refine w_val rfl rfl rfl (e_makeSlice rfl rfl F.u46 F.el5 (by decide) (Nat.le_refl _) (by omega) (by unfold maxI; omega) rfl) ?_
  have hmb1 : (M.new (.cells (repeatL [AV.int .u8 0] pg) false false)).get bb = some (.cells bcl r1 f1) := by rw [AM.get_new_lt lbb]; exact hmb
  have hmp1 : (M.new (.cells (repeatL [AV.int .u8 0] pg) false false)).get pb = some (.cells pcl r2 f2) := by rw [AM.get_new_lt lpb]; exact hmp
  repeat first | refine w_seq ?_ | refine w_region ?_ | refine w_val rfl rfl rfl rfl ?_ | refine w_valg rfl rfl rfl rfl ?_ | refine w_nil ?_ | refine k_seq ?_ | refine w_skip ?_ | refine w_block ?_ | refine w_exit ?_ | refine k_exit ?_ | refine b_here ?_ | refine b_normal ?_ | refine w_ret ?_ | refine k_ret ?_ | refine b_ret ?_
  refine w_val rfl rfl rfl (e_fa rfl F.fa217_1) ?_
  refine w_val rfl rfl rfl (e_load rfl F.u213 rfl hmb1 hp) ?_
  refine w_val rfl rfl rfl rfl ?_
  refine w_val rfl rfl rfl (e_indexAddr rfl rfl F.u213 F.sz335 hpl) ?_
  refine w_val rfl rfl rfl (e_loadv rfl F.ag335 F.sz335 hmp1 hst) ?_
  refine w_val rfl rfl rfl (e_alloc F.z335) ?_
  refine w_do rfl rfl (e_store rfl rfl F.sz335 AM.get_new_self (Nat.le_refl _) (by simp only [AV.cells, List.all_cons, List.all_nil, hone]; rfl)) ?_
  repeat first | refine w_seq ?_ | refine w_region ?_ | refine w_val rfl rfl rfl rfl ?_ | refine w_valg rfl rfl rfl rfl ?_ | refine w_nil ?_ | refine k_seq ?_ | refine w_skip ?_ | refine w_block ?_ | refine w_exit ?_ | refine k_exit ?_ | refine b_here ?_ | refine b_normal ?_ | refine w_ret ?_ | refine k_ret ?_ | refine b_ret ?_
  refine w_val rfl rfl rfl (e_fa rfl F.fa335_0) ?_
  refine w_val rfl rfl rfl (e_load rfl F.u3 rfl AM.get_set_self rfl) ?_
  repeat first | refine w_seq ?_ | refine w_region ?_ | refine w_val rfl rfl rfl rfl ?_ | refine w_valg rfl rfl rfl rfl ?_ | refine w_nil ?_ | refine k_seq ?_ | refine w_skip ?_ | refine w_block ?_ | refine w_exit ?_ | refine k_exit ?_ | refine b_here ?_ | refine b_normal ?_ | refine w_ret ?_ | refine k_ret ?_ | refine b_ret ?_
  refine w_false rfl ?_
  repeat first | refine w_seq ?_ | refine w_region ?_ | refine w_val rfl rfl rfl rfl ?_ | refine w_valg rfl rfl rfl rfl ?_ | refine w_nil ?_ | refine k_seq ?_ | refine w_skip ?_ | refine w_block ?_ | refine w_exit ?_ | refine k_exit ?_ | refine b_here ?_ | refine b_normal ?_ | refine w_ret ?_ | refine k_ret ?_ | refine b_ret ?_
  refine w_false rfl ?_
  repeat first | refine w_seq ?_ | refine w_region ?_ | refine w_val rfl rfl rfl rfl ?_ | refine w_valg rfl rfl rfl rfl ?_ | refine w_nil ?_ | refine k_seq ?_ | refine w_skip ?_ | refine w_block ?_ | refine w_exit ?_ | refine k_exit ?_ | refine b_here ?_ | refine b_normal ?_ | refine w_ret ?_ | refine k_ret ?_ | refine b_ret ?_
  refine w_val rfl rfl rfl (e_len_sl rfl rfl rfl rfl F.u46) ?_
  repeat first | refine w_seq ?_ | refine w_region ?_ | refine w_val rfl rfl rfl rfl ?_ | refine w_valg rfl rfl rfl rfl ?_ | refine w_nil ?_ | refine k_seq ?_ | refine w_skip ?_ | refine w_block ?_ | refine w_exit ?_ | refine k_exit ?_ | refine b_here ?_ | refine b_normal ?_ | refine w_ret ?_ | refine k_ret ?_ | refine b_ret ?_
  refine w_loop ?_
  refine loop_inv (fun k ρ D M' => D = [] ∧ M'.nx = M.nx + 2 ∧ (∀ x, x < M.nx → M'.get x = M.get x) ∧ ∃ i, k = pg - i ∧ i ≤ pg ∧ ρ 10 = some (.sl M.nx 0 pg pg none) ∧ ρ 50 = some (.int .i64 (.ofNat pg)) ∧ ρ 51 = some (.int .i64 (.ofNat i)) ∧
    M'.get M.nx = some (.cells (List.replicate i (AV.int .u8 255) ++ List.replicate (pg - i) (AV.int .u8 0)) false false)) ?_ pg _ _ _ ⟨rfl, rfl, ?_, 0, rfl, Nat.zero_le _, rfl, rfl, rfl, ?_⟩
  rotate_left
  · intro x hx
    simp only [AM.get_set, AM.get_new, AM.nx_new]
    rw [if_neg (by omega), if_neg (by omega), if_neg (by omega)]
  · simp only [AM.get_set, AM.get_new, AM.nx_new]
    rw [if_neg (by omega), if_neg (by omega), if_pos trivial]
    show some (AObj.cells (repeatL [AV.int .u8 0] pg) false false) = _
    rw [repeatL_one]
    rfl
  rintro k ρ D M' ⟨rfl, hnx, hold, i, rfl, hi, h10, h50, h51, hcur⟩
  repeat first | refine w_seq ?_ | refine w_region ?_ | refine w_val rfl rfl rfl rfl ?_ | refine w_valg rfl rfl rfl rfl ?_ | refine w_nil ?_ | refine k_seq ?_ | refine w_skip ?_ | refine w_block ?_ | refine w_exit ?_ | refine k_exit ?_ | refine b_here ?_ | refine b_normal ?_ | refine w_ret ?_ | refine k_ret ?_ | refine b_ret ?_
  refine w_val rfl rfl rfl (e_lss64 h51 h50) ?_
  repeat first | refine w_seq ?_ | refine w_region ?_ | refine w_val rfl rfl rfl rfl ?_ | refine w_valg rfl rfl rfl rfl ?_ | refine w_nil ?_ | refine k_seq ?_ | refine w_skip ?_ | refine w_block ?_ | refine w_exit ?_ | refine k_exit ?_ | refine b_here ?_ | refine b_normal ?_ | refine w_ret ?_ | refine k_ret ?_ | refine b_ret ?_
  refine w_cond rfl (fun h => ?_) (fun h => ?_)
  case refine_2 =>
    have he : i = pg := by have := of_decide_eq_false h; omega
    subst he
    repeat first | refine w_seq ?_ | refine w_region ?_ | refine w_val rfl rfl rfl rfl ?_ | refine w_valg rfl rfl rfl rfl ?_ | refine w_nil ?_ | refine k_seq ?_ | refine w_skip ?_ | refine w_block ?_ | refine w_exit ?_ | refine k_exit ?_ | refine b_here ?_ | refine b_normal ?_ | refine w_ret ?_ | refine k_ret ?_ | refine b_ret ?_
    refine w_val rfl rfl rfl (e_move h10) ?_
    repeat first | refine w_seq ?_ | refine w_region ?_ | refine w_val rfl rfl rfl rfl ?_ | refine w_valg rfl rfl rfl rfl ?_ | refine w_nil ?_ | refine k_seq ?_ | refine w_skip ?_ | refine w_block ?_ | refine w_exit ?_ | refine k_exit ?_ | refine b_here ?_ | refine b_normal ?_ | refine w_ret ?_ | refine k_ret ?_ | refine b_ret ?_
    refine ⟨_, rfl, rfl, hnx, hold, ?_⟩
    rw [hcur, Nat.sub_self, List.replicate_zero, List.append_nil]
  have hlt : i < pg := of_decide_eq_true h
  repeat first | refine w_seq ?_ | refine w_region ?_ | refine w_val rfl rfl rfl rfl ?_ | refine w_valg rfl rfl rfl rfl ?_ | refine w_nil ?_ | refine k_seq ?_ | refine w_skip ?_ | refine w_block ?_ | refine w_exit ?_ | refine k_exit ?_ | refine b_here ?_ | refine b_normal ?_ | refine w_ret ?_ | refine k_ret ?_ | refine b_ret ?_
  refine w_val rfl rfl rfl (e_move h51) ?_
  repeat first | refine w_seq ?_ | refine w_region ?_ | refine w_val rfl rfl rfl rfl ?_ | refine w_valg rfl rfl rfl rfl ?_ | refine w_nil ?_ | refine k_seq ?_ | refine w_skip ?_ | refine w_block ?_ | refine w_exit ?_ | refine k_exit ?_ | refine b_here ?_ | refine b_normal ?_ | refine w_ret ?_ | refine k_ret ?_ | refine b_ret ?_
  refine w_val rfl rfl rfl (e_move h10) ?_
  repeat first | refine w_seq ?_ | refine w_region ?_ | refine w_val rfl rfl rfl rfl ?_ | refine w_valg rfl rfl rfl rfl ?_ | refine w_nil ?_ | refine k_seq ?_ | refine w_skip ?_ | refine w_block ?_ | refine w_exit ?_ | refine k_exit ?_ | refine b_here ?_ | refine b_normal ?_ | refine w_ret ?_ | refine k_ret ?_ | refine b_ret ?_
  refine w_val rfl rfl rfl (e_indexAddr rfl rfl F.u46 F.sz5 hlt) ?_
  refine w_do rfl rfl (e_store rfl rfl F.sz5 hcur (by simp only [List.length_append, List.length_replicate, AV.cells, List.length_cons, List.length_nil]; omega) rfl) ?_
  repeat first | refine w_seq ?_ | refine w_region ?_ | refine w_val rfl rfl rfl rfl ?_ | refine w_valg rfl rfl rfl rfl ?_ | refine w_nil ?_ | refine k_seq ?_ | refine w_skip ?_ | refine w_block ?_ | refine w_exit ?_ | refine k_exit ?_ | refine b_here ?_ | refine b_normal ?_ | refine w_ret ?_ | refine k_ret ?_ | refine b_ret ?_
  refine w_val rfl rfl rfl (e_add64 (b := 1) h51 rfl (by omega)) ?_
  repeat first | refine w_seq ?_ | refine w_region ?_ | refine w_val rfl rfl rfl rfl ?_ | refine w_valg rfl rfl rfl rfl ?_ | refine w_nil ?_ | refine k_seq ?_ | refine w_skip ?_ | refine w_block ?_ | refine w_exit ?_ | refine k_exit ?_ | refine b_here ?_ | refine b_normal ?_ | refine w_ret ?_ | refine k_ret ?_ | refine b_ret ?_
  refine ⟨pg - (i + 1), by omega, rfl, hnx, fun x hx => ?_, i + 1, rfl, by omega, h10, h50, rfl, ?_⟩
  · rw [AM.get_set_ne (by omega)]; exact hold x hx
  · rw [AM.get_set_self, fill_step rfl hlt]
theorem read_prog {E : Env} (F : Facts E) (hs : E.sums 231 = none) (hs2 : E.sums 193 = none) (hs3 : E.sums 158 = none) (M : AM) (c o n p bb bo bl bc pb po pl pc pg db dof dl dc : Nat) (bg pgr dg : Option Nat) (cl bcl pcl dcl : List AV) (ro fz r1 f1 r2 f2 r3 f3 : Bool)
    (hm : M.get c = some (.cells cl ro fz)) (hb : cl[o + 4]? = some (.sl bb bo bl bc bg)) (hoff : cl[o + 7]? = some (.bool false)) (hn : n < bl)
    (hpg : cl[o + 0 + 2]? = some (.int .i64 (.ofNat pg))) (hpgl : pg ≤ 65536) (hmb : M.get bb = some (.cells bcl r1 f1)) (hp : bcl[bo + n * 4 + 2]? = some (.sl pb po pl pc pgr)) (hpl : p < pl)
    (hmp : M.get pb = some (.cells pcl r2 f2)) (hst : (pcl.drop (po + p * 2)).take 2 = [.int .i64 (.ofNat 1), .sl db dof dl dc dg]) (hmd : M.get db = some (.cells dcl r3 f3)) (hdl : dl ≤ pg) (hdc : dl ≤ dc) (hdd : dof + dl ≤ dcl.length) (hdo : ((dcl.drop dof).take dl).all AV.one = true)
    (lc : c < M.nx) (lbb : bb < M.nx) (lpb : pb < M.nx) (ldb : db < M.nx) :
    CallsTo E 158 [.ptr c o, .int .i64 (.ofNat n), .int .i64 (.ofNat p)] M fun e M' => e = .ret (.tup [.sl M.nx 0 pg pg none, .int .i64 0]) ∧ M'.nx = M.nx + 2 ∧ (∀ x, x < M.nx → M'.get x = M.get x) ∧
      M'.get M.nx = some (.cells ((dcl.drop dof).take dl ++ List.replicate (pg - dl) (.int .u8 255)) false false) := by
  have hone : (AV.sl db dof dl dc dg).one = true := rfl
  have hne : ∀ {x : Nat}, x < M.nx → x ≠ M.nx := fun h => by omega
  refine call_rule F.f158 rfl hs3 ?_
  repeat first | refine w_seq ?_ | refine w_region ?_ | refine w_val rfl rfl rfl rfl ?_ | refine w_valg rfl rfl rfl rfl ?_ | refine w_nil ?_ | refine k_seq ?_ | refine w_skip ?_ | refine w_block ?_ | refine w_exit ?_ | refine k_exit ?_ | refine b_here ?_ | refine b_normal ?_ | refine w_ret ?_ | refine k_ret ?_ | refine b_ret ?_
  refine w_callr rfl rfl rfl (e_call rfl rfl F.f193 rfl) (ready_ok F hs hs2 M c o n bb bo bl bc bg cl ro fz hm hb hoff hn _ ⟨rfl, rfl⟩) ?_
  repeat first | refine w_seq ?_ | refine w_region ?_ | refine w_val rfl rfl rfl rfl ?_ | refine w_valg rfl rfl rfl rfl ?_ | refine w_nil ?_ | refine k_seq ?_ | refine w_skip ?_ | refine w_block ?_ | refine w_exit ?_ | refine k_exit ?_ | refine b_here ?_ | refine b_normal ?_ | refine w_ret ?_ | refine k_ret ?_ | refine b_ret ?_
  refine w_false rfl ?_
  repeat first | refine w_seq ?_ | refine w_region ?_ | refine w_val rfl rfl rfl rfl ?_ | refine w_valg rfl rfl rfl rfl ?_ | refine w_nil ?_ | refine k_seq ?_ | refine w_skip ?_ | refine w_block ?_ | refine w_exit ?_ | refine k_exit ?_ | refine b_here ?_ | refine b_normal ?_ | refine w_ret ?_ | refine k_ret ?_ | refine b_ret ?_
  refine w_valg rfl rfl rfl (e_fa rfl F.fa217_1) ?_
  refine w_valg rfl rfl rfl (e_load rfl F.u213 rfl hmb hp) ?_
  refine w_valg rfl rfl rfl (e_len_sl rfl rfl rfl rfl F.u213) ?_
  repeat first | refine w_seq ?_ | refine w_region ?_ | refine w_val rfl rfl rfl rfl ?_ | refine w_valg rfl rfl rfl rfl ?_ | refine w_nil ?_ | refine k_seq ?_ | refine w_skip ?_ | refine w_block ?_ | refine w_exit ?_ | refine k_exit ?_ | refine b_here ?_ | refine b_normal ?_ | refine w_ret ?_ | refine k_ret ?_ | refine b_ret ?_
  refine w_false (bool_nilt_f hpl) ?_
  repeat first | refine w_seq ?_ | refine w_region ?_ | refine w_val rfl rfl rfl rfl ?_ | refine w_valg rfl rfl rfl rfl ?_ | refine w_nil ?_ | refine k_seq ?_ | refine w_skip ?_ | refine w_block ?_ | refine w_exit ?_ | refine k_exit ?_ | refine b_here ?_ | refine b_normal ?_ | refine w_ret ?_ | refine k_ret ?_ | refine b_ret ?_
  refine w_val rfl rfl rfl (e_fa rfl F.fa212_0) ?_
  refine w_val rfl rfl rfl (e_fa rfl F.fa145_2) ?_
  refine w_val rfl rfl rfl (e_load rfl F.u3 rfl hm hpg) ?_
  refine w_val rfl rfl rfl (e_makeSlice rfl rfl F.u46 F.el5 (by decide) (Nat.le_refl _) (by omega) (by unfold maxI; omega) rfl) ?_
  have hmb1 : (M.new (.cells (repeatL [AV.int .u8 0] pg) false false)).get bb = some (.cells bcl r1 f1) := by rw [AM.get_new_lt lbb]; exact hmb
  have hmp1 : (M.new (.cells (repeatL [AV.int .u8 0] pg) false false)).get pb = some (.cells pcl r2 f2) := by rw [AM.get_new_lt lpb]; exact hmp
  repeat first | refine w_seq ?_ | refine w_region ?_ | refine w_val rfl rfl rfl rfl ?_ | refine w_valg rfl rfl rfl rfl ?_ | refine w_nil ?_ | refine k_seq ?_ | refine w_skip ?_ | refine w_block ?_ | refine w_exit ?_ | refine k_exit ?_ | refine b_here ?_ | refine b_normal ?_ | refine w_ret ?_ | refine k_ret ?_ | refine b_ret ?_
  refine w_val rfl rfl rfl (e_fa rfl F.fa217_1) ?_
  refine w_val rfl rfl rfl (e_load rfl F.u213 rfl hmb1 hp) ?_
  refine w_val rfl rfl rfl rfl ?_
  refine w_val rfl rfl rfl (e_indexAddr rfl rfl F.u213 F.sz335 hpl) ?_
  refine w_val rfl rfl rfl (e_loadv rfl F.ag335 F.sz335 hmp1 hst) ?_
  refine w_val rfl rfl rfl (e_alloc F.z335) ?_
  refine w_do rfl rfl (e_store rfl rfl F.sz335 AM.get_new_self (Nat.le_refl _) (by simp only [AV.cells, List.all_cons, List.all_nil, hone]; rfl)) ?_
  repeat first | refine w_seq ?_ | refine w_region ?_ | refine w_val rfl rfl rfl rfl ?_ | refine w_valg rfl rfl rfl rfl ?_ | refine w_nil ?_ | refine k_seq ?_ | refine w_skip ?_ | refine w_block ?_ | refine w_exit ?_ | refine k_exit ?_ | refine b_here ?_ | refine b_normal ?_ | refine w_ret ?_ | refine k_ret ?_ | refine b_ret ?_
  refine w_val rfl rfl rfl (e_fa rfl F.fa335_0) ?_
  refine w_val rfl rfl rfl (e_load rfl F.u3 rfl AM.get_set_self rfl) ?_
  repeat first | refine w_seq ?_ | refine w_region ?_ | refine w_val rfl rfl rfl rfl ?_ | refine w_valg rfl rfl rfl rfl ?_ | refine w_nil ?_ | refine k_seq ?_ | refine w_skip ?_ | refine w_block ?_ | refine w_exit ?_ | refine k_exit ?_ | refine b_here ?_ | refine b_normal ?_ | refine w_ret ?_ | refine k_ret ?_ | refine b_ret ?_
  refine w_false rfl ?_
  repeat first | refine w_seq ?_ | refine w_region ?_ | refine w_val rfl rfl rfl rfl ?_ | refine w_valg rfl rfl rfl rfl ?_ | refine w_nil ?_ | refine k_seq ?_ | refine w_skip ?_ | refine w_block ?_ | refine w_exit ?_ | refine k_exit ?_ | refine b_here ?_ | refine b_normal ?_ | refine w_ret ?_ | refine k_ret ?_ | refine b_ret ?_
  refine w_true rfl ?_
  repeat first | refine w_seq ?_ | refine w_region ?_ | refine w_val rfl rfl rfl rfl ?_ | refine w_valg rfl rfl rfl rfl ?_ | refine w_nil ?_ | refine k_seq ?_ | refine w_skip ?_ | refine w_block ?_ | refine w_exit ?_ | refine k_exit ?_ | refine b_here ?_ | refine b_normal ?_ | refine w_ret ?_ | refine k_ret ?_ | refine b_ret ?_
  refine w_val rfl rfl rfl (e_fa rfl F.fa335_1) ?_
  refine w_val rfl rfl rfl (e_load rfl F.u46 rfl AM.get_set_self rfl) ?_
  generalize hM2 : ((M.new (.cells (repeatL (AV.int .u8 0).cells pg) false false)).new (.cells (AV.agg [AV.int .i64 0, AV.nils]).cells false false)).set (M.new (.cells (repeatL (AV.int .u8 0).cells pg) false false)).nx (some (.cells (spliceL (AV.agg [AV.int .i64 0, AV.nils]).cells 0 (AV.agg [AV.int .i64 (.ofNat 1), .sl db dof dl dc dg]).cells) false false)) = M2
  have hold2 : ∀ x, x < M.nx → M2.get x = M.get x := by
    intro x hx
    rw [← hM2]
    simp only [AM.get_set, AM.get_new, AM.nx_new]
    rw [if_neg (by omega), if_neg (by omega), if_neg (by omega)]
  have hcur2 : M2.get M.nx = some (.cells (List.replicate pg (AV.int .u8 0)) false false) := by
    rw [← hM2]
    simp only [AM.get_set, AM.get_new, AM.nx_new]
    rw [if_neg (by omega), if_neg (by omega), if_pos trivial]
    show some (AObj.cells (repeatL [AV.int .u8 0] pg) false false) = _
    rw [repeatL_one]
  have hx2 : M2.get (M.nx + 1) = some (.cells [.int .i64 (.ofNat 1), .sl db dof dl dc dg] false false) := by
    rw [← hM2]; exact AM.get_set_self
  have hnx2 : M2.nx = M.nx + 2 := by rw [← hM2]; rfl
  clear hM2
  have hlen : ((dcl.drop dof).take dl).length = dl := by rw [List.length_take, List.length_drop]; omega
  refine w_valx rfl rfl rfl (e_copyx rfl rfl rfl rfl rfl F.u46 F.sz5 hdl hdc (by rw [hold2 db ldb]; exact hmd) hdd hcur2 (by simpa using hdl) hdo) ?_
  rintro v M3 ⟨rfl, hnx3, hold3, hcur3⟩
  rw [spliceL_zero, hlen, List.drop_replicate] at hcur3
  have hx3 : M3.get (M.nx + 1) = _ := (hold3 _ (by omega)).trans hx2
  have hold4 : ∀ x, x < M.nx → M3.get x = M.get x := fun x hx => (hold3 x (by omega)).trans (hold2 x hx)
  repeat first | refine w_seq ?_ | refine w_region ?_ | refine w_val rfl rfl rfl rfl ?_ | refine w_valg rfl rfl rfl rfl ?_ | refine w_nil ?_ | refine k_seq ?_ | refine w_skip ?_ | refine w_block ?_ | refine w_exit ?_ | refine k_exit ?_ | refine b_here ?_ | refine b_normal ?_ | refine w_ret ?_ | refine k_ret ?_ | refine b_ret ?_
  refine w_val rfl rfl rfl (e_fa rfl F.fa335_1) ?_
  refine w_val rfl rfl rfl (e_load rfl F.u46 rfl hx3 rfl) ?_
  refine w_val rfl rfl rfl (e_len_sl rfl rfl rfl rfl F.u46) ?_
  repeat first | refine w_seq ?_ | refine w_region ?_ | refine w_val rfl rfl rfl rfl ?_ | refine w_valg rfl rfl rfl rfl ?_ | refine w_nil ?_ | refine k_seq ?_ | refine w_skip ?_ | refine w_block ?_ | refine w_exit ?_ | refine k_exit ?_ | refine b_here ?_ | refine b_normal ?_ | refine w_ret ?_ | refine k_ret ?_ | refine b_ret ?_
  refine w_loop ?_
  refine loop_inv (fun k ρ D M' => D = [] ∧ M'.nx = M.nx + 2 ∧ (∀ x, x < M.nx → M'.get x = M.get x) ∧ ∃ i, k = pg - (dl + i) ∧ dl + i ≤ pg ∧ ρ 10 = some (.sl M.nx 0 pg pg none) ∧ ρ 12 = some (.int .i64 (.ofNat (dl + i))) ∧
    M'.get M.nx = some (.cells ((dcl.drop dof).take dl ++ (List.replicate i (AV.int .u8 255) ++ List.replicate (pg - dl - i) (AV.int .u8 0))) false false)) ?_ (pg - dl) _ _ _ ⟨rfl, hnx3.trans hnx2, hold4, 0, rfl, hdl, rfl, rfl, ?_⟩
  rotate_left
  · exact hcur3
  clear hcur3 hcur2 hx3 hold4 hold3 hold2 hx2 hmb1 hmp1
  rintro k ρ D M' ⟨rfl, hnx, hold, i, rfl, hi, h10, h12, hcur⟩
  repeat first | refine w_seq ?_ | refine w_region ?_ | refine w_val rfl rfl rfl rfl ?_ | refine w_valg rfl rfl rfl rfl ?_ | refine w_nil ?_ | refine k_seq ?_ | refine w_skip ?_ | refine w_block ?_ | refine w_exit ?_ | refine k_exit ?_ | refine b_here ?_ | refine b_normal ?_ | refine w_ret ?_ | refine k_ret ?_ | refine b_ret ?_
  refine w_val rfl rfl rfl (e_move h12) ?_
  refine w_val rfl rfl rfl (e_move h10) ?_
  refine w_val rfl rfl rfl (e_len_sl rfl rfl rfl rfl F.u46) ?_
  refine w_val rfl rfl rfl (e_lss64 rfl rfl) ?_
  repeat first | refine w_seq ?_ | refine w_region ?_ | refine w_val rfl rfl rfl rfl ?_ | refine w_valg rfl rfl rfl rfl ?_ | refine w_nil ?_ | refine k_seq ?_ | refine w_skip ?_ | refine w_block ?_ | refine w_exit ?_ | refine k_exit ?_ | refine b_here ?_ | refine b_normal ?_ | refine w_ret ?_ | refine k_ret ?_ | refine b_ret ?_
  refine w_cond rfl (fun h => ?_) (fun h => ?_)
  case refine_2 =>
    have he : dl + i = pg := by have := of_decide_eq_false h; omega
    repeat first | refine w_seq ?_ | refine w_region ?_ | refine w_val rfl rfl rfl rfl ?_ | refine w_valg rfl rfl rfl rfl ?_ | refine w_nil ?_ | refine k_seq ?_ | refine w_skip ?_ | refine w_block ?_ | refine w_exit ?_ | refine k_exit ?_ | refine b_here ?_ | refine b_normal ?_ | refine w_ret ?_ | refine k_ret ?_ | refine b_ret ?_
    refine w_val rfl rfl rfl (e_move h10) ?_
    repeat first | refine w_seq ?_ | refine w_region ?_ | refine w_val rfl rfl rfl rfl ?_ | refine w_valg rfl rfl rfl rfl ?_ | refine w_nil ?_ | refine k_seq ?_ | refine w_skip ?_ | refine w_block ?_ | refine w_exit ?_ | refine k_exit ?_ | refine b_here ?_ | refine b_normal ?_ | refine w_ret ?_ | refine k_ret ?_ | refine b_ret ?_
    refine ⟨_, rfl, rfl, hnx, hold, ?_⟩
    rw [hcur, show pg - dl - i = 0 by omega, show pg - dl = i by omega, List.replicate_zero, List.append_nil]
  have hlt : dl + i < pg := of_decide_eq_true h
  repeat first | refine w_seq ?_ | refine w_region ?_ | refine w_val rfl rfl rfl rfl ?_ | refine w_valg rfl rfl rfl rfl ?_ | refine w_nil ?_ | refine k_seq ?_ | refine w_skip ?_ | refine w_block ?_ | refine w_exit ?_ | refine k_exit ?_ | refine b_here ?_ | refine b_normal ?_ | refine w_ret ?_ | refine k_ret ?_ | refine b_ret ?_
  refine w_val rfl rfl rfl (e_move h10) ?_
  refine w_val rfl rfl rfl (e_move h12) ?_
  refine w_val rfl rfl rfl (e_indexAddr rfl rfl F.u46 F.sz5 hlt) ?_
  refine w_do rfl rfl (e_store rfl rfl F.sz5 hcur (by simp only [List.length_append, List.length_replicate, AV.cells, List.length_cons, List.length_nil, hlen]; omega) rfl) ?_
  repeat first | refine w_seq ?_ | refine w_region ?_ | refine w_val rfl rfl rfl rfl ?_ | refine w_valg rfl rfl rfl rfl ?_ | refine w_nil ?_ | refine k_seq ?_ | refine w_skip ?_ | refine w_block ?_ | refine w_exit ?_ | refine k_exit ?_ | refine b_here ?_ | refine b_normal ?_ | refine w_ret ?_ | refine k_ret ?_ | refine b_ret ?_
  refine w_val rfl rfl rfl (e_move h12) ?_
  refine w_val rfl rfl rfl (e_add64 (b := 1) rfl rfl (by omega)) ?_
  repeat first | refine w_seq ?_ | refine w_region ?_ | refine w_val rfl rfl rfl rfl ?_ | refine w_valg rfl rfl rfl rfl ?_ | refine w_nil ?_ | refine k_seq ?_ | refine w_skip ?_ | refine w_block ?_ | refine w_exit ?_ | refine k_exit ?_ | refine b_here ?_ | refine b_normal ?_ | refine w_ret ?_ | refine k_ret ?_ | refine b_ret ?_
  refine ⟨pg - (dl + (i + 1)), by omega, rfl, hnx, fun x hx => ?_, i + 1, rfl, by omega, h10, rfl, ?_⟩
  · rw [AM.get_set_ne (by omega)]; exact hold x hx
  · rw [AM.get_set_self, fill_step2 _ hlen rfl (by omega)]
end Go.Abm.Seat
