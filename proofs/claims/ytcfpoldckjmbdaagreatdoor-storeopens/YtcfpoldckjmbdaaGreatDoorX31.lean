/-
  A part of the proof that pumicelaw17.StoreOpens returns true for every geometry, key, number and group (a machine over names of blocks, its soundness, the calls of the store for any geometry, the chapter's example as a run). Condition: the listed package variables hold what the program's text lays; the card ties that.
-/
import Derived.Test.YtcfpoldckjmbdaaGreatDoorX19
import Derived.Test.YtcfpoldckjmbdaaGreatDoorX13
import Derived.Test.YtcfpoldckjmbdaaGreatDoorX27
import Derived.Lib.Bytealg
set_option linter.unusedVariables false
set_option linter.unusedSimpArgs false
set_option linter.unusedSectionVars false
open Go Go.Abm
set_option maxRecDepth 100000
namespace Go.Abm.Seat
theorem and_inv {a b : Bool} (h : (a && b) = true) : a = true ∧ b = true := by simpa using h
section
variable {E E' : Env} (hE : EnvOk P E) (hX : SumsX P E) (hS : SumsF P E) (hg : E'.G = E.G) (F : Facts E) (B : Bd) {args : List AV} {M M' : AM} {v : AV}
include hE hX hS hg F
theorem sSum_run (hs : E.sums 248 = none) (h : sSum args M = some (v, M')) : RunF P E' B 248 args M (.ret v) M' := by
  unfold sSum at h
  split at h
  case h_2 => cases h
  split at h
  case h_2 => cases h
  rename_i l ro fz hm
  obtain ⟨h1, h⟩ := cond_some_inv h
  obtain ⟨h1, h2⟩ := and_inv h1
  split at h
  case h_2 => cases h
  rename_i bs hb
  cases h
  exact RunF.of_calls hE hX hS hg (bsum_ok F hs M _ _ _ _ _ l bs ro fz hm (ble_of h1) (ble_of h2) hb _ ⟨rfl, rfl, fun _ x o h => h⟩) B
theorem sRead_run (hs : E.sums 240 = none) (hs2 : E.sums 164 = none) (hs3 : E.sums 91 = none) (h : sRead args M = some (v, M')) : RunF P E' B 91 args M (.ret v) M' := by
  unfold sRead at h
  split at h
  case h_2 => cases h
  rename_i c o n p
  split at h
  case h_2 => cases h
  rename_i cl r0 f0 hm
  split at h
  case h_2 => cases h
  rename_i bb bo bl bc bg pg hb hoff hpg
  split at h
  case h_2 => cases h
  rename_i bcl r1 f1 hmb
  split at h
  case h_2 => cases h
  rename_i pb po pl pc pgr hp
  split at h
  case h_2 => cases h
  rename_i pcl r2 f2 hmp
  obtain ⟨h1, h⟩ := cond_some_inv h
  obtain ⟨h1, g6⟩ := and_inv h1
  obtain ⟨h1, g5⟩ := and_inv h1
  obtain ⟨h1, g4⟩ := and_inv h1
  obtain ⟨h1, g3⟩ := and_inv h1
  obtain ⟨g1, g2⟩ := and_inv h1
  split at h
  · rename_i dt hst
    obtain ⟨hone, h⟩ := cond_some_inv h
    cases h
    refine RunF.of_calls hE hX hS hg ((read_erased F hs hs2 hs3 M c o n p bb bo bl bc pb po pl pc pg bg pgr cl bcl pcl r0 f0 r1 f1 r2 f2 dt hm hb hoff (blt_of g1) hpg (ble_of g2) hmb hp (blt_of g3) hmp hst hone (blt_of g4) (blt_of g5) (blt_of g6)).mono ?_) B
    rintro e M1 ⟨rfl, h1, h2, h3⟩
    exact ⟨rfl, h1.symm, fun hf => get_put_new (Nat.le_refl _) h2 h3 hf⟩
  · rename_i db dof dl dc dg hst
    split at h
    case h_2 => cases h
    rename_i dcl r3 f3 hmd
    obtain ⟨h1, h⟩ := cond_some_inv h
    obtain ⟨h1, k5⟩ := and_inv h1
    obtain ⟨h1, k4⟩ := and_inv h1
    obtain ⟨h1, k3⟩ := and_inv h1
    obtain ⟨k1, k2⟩ := and_inv h1
    cases h
    refine RunF.of_calls hE hX hS hg ((read_prog F hs hs2 hs3 M c o n p bb bo bl bc pb po pl pc pg db dof dl dc bg pgr dg cl bcl pcl dcl r0 f0 r1 f1 r2 f2 r3 f3 hm hb hoff (blt_of g1) hpg (ble_of g2) hmb hp (blt_of g3) hmp hst hmd (ble_of k1) (ble_of k2) (ble_of k3) k4 (blt_of g4) (blt_of g5) (blt_of g6) (blt_of k5)).mono ?_) B
    rintro e M1 ⟨rfl, h1, h2, h3⟩
    exact ⟨rfl, h1.symm, fun hf => get_put_new (Nat.le_refl _) h2 h3 hf⟩
  · cases h
theorem fillTo_run {f : FuncId} {d : List AV} {m n : Nat} (hmn : m ≤ n) (h : some (fillTo M d m n) = some (v, M'))
    (hc : CallsTo E f args M fun e M' => ∃ K g, e = .ret (.sl K 0 n n g) ∧ (n = 0 ∧ g = none ∧ K = M.nx ∧ M'.nx = M.nx + 1 ∨ 0 < n ∧ g = some 1 ∧ M'.nx = K + 1 ∧ M'.nx = M.nx + 1 + (if m = 0 then 0 else 1) + 2 * (n - m)) ∧
      (∀ x, x < M.nx → M'.get x = M.get x) ∧ M'.get K = some (.cells (d ++ List.replicate (n - m) (.int .u8 255)) false false)) (hd : n = 0 → d = []) : RunF P E' B f args M (.ret v) M' := by
  refine RunF.of_calls hE hX hS hg (hc.mono ?_) B
  rintro e M1 ⟨K, g, rfl, h1, h2, h3⟩
  unfold fillTo at h
  rcases h1 with ⟨rfl, rfl, rfl, h4⟩ | ⟨h0, rfl, h4, h5⟩
  · rw [nbeq_true rfl] at h
    cases h
    refine ⟨rfl, h4.symm, fun hf => get_put_new (Nat.le_refl _) h2 ?_ hf⟩
    rw [h3, hd rfl, Nat.zero_sub]; rfl
  · rw [nbeq_false (by omega)] at h
    have hK : M.nx + (bif Nat.beq m 0 then 0 else 1) + 2 * (n - m) = K := by
      by_cases hm : m = 0
      · rw [nbeq_true hm]; rw [if_pos hm] at h5; simp only [cond_true]; omega
      · rw [nbeq_false hm]; rw [if_neg hm] at h5; simp only [cond_false]; omega
    dsimp only [cond_false] at h
    rw [hK] at h
    cases h
    exact ⟨rfl, h4.symm, fun hf => get_put_new (by omega) h2 h3 hf⟩
theorem sFill_run (hs : E.sums 140 = none) (h : sFill args M = some (v, M')) : RunF P E' B 140 args M (.ret v) M' := by
  unfold sFill at h
  split at h
  · rename_i b off len cap gr n
    split at h
    case h_2 => cases h
    rename_i l ro fz hm
    obtain ⟨h1, h⟩ := cond_some_inv h
    obtain ⟨h1, g6⟩ := and_inv h1
    obtain ⟨h1, g5⟩ := and_inv h1
    obtain ⟨h1, g4⟩ := and_inv h1
    obtain ⟨h1, g3⟩ := and_inv h1
    obtain ⟨g1, g2⟩ := and_inv h1
    have hgr : gr = none ∨ gr = some 1 := by
      cases gr with
      | none => exact Or.inl rfl
      | some g => exact Or.inr (by rw [beq_of g4])
    exact fillTo_run hE hX hS hg F B (Nat.min_le_left _ _) h (fill_ok F hs M b off len cap n gr l ro fz hm (blt_of g6) (ble_of g1) (ble_of g2) (ble_of g3) hgr g5) (fun h0 => by subst h0; simp)
  · obtain ⟨h1, h⟩ := cond_some_inv h
    exact fillTo_run hE hX hS hg F B (Nat.zero_le _) h (fill_nil F hs M _ (ble_of h1)) (fun _ => rfl)
  · cases h
end
end Go.Abm.Seat

open Go Go.Abm
set_option maxRecDepth 100000
set_option maxHeartbeats 4000000
namespace Go.Abm.Seat
theorem bytesOf_inv : ∀ (l : List AV) (bs : List Nat), bytesOf l = some bs → l = byteL bs ∧ Byt bs
  | [], bs, h => by cases h; exact ⟨rfl, fun x hx => by cases hx⟩
  | v :: l, bs, h => by
    unfold bytesOf at h
    split at h
    · rename_i he; cases he
    · rename_i n l' he
      cases he
      obtain ⟨h1, h2⟩ := cond_some_inv h
      obtain ⟨s, hs, rfl⟩ := map_some_inv h2
      obtain ⟨e1, e2⟩ := bytesOf_inv l s hs
      subst e1
      refine ⟨rfl, fun x hx => ?_⟩
      rcases List.mem_cons.1 hx with rfl | hx
      · exact blt_of h1
      · exact e2 x hx
    · cases h
section
variable {E : Env} (F : Facts E) (hs : E.sums 242 = none)
include F hs
theorem blank_ex {M : AM} {b o c : Nat} {g : Option Nat} {l : List AV} {ro fz : Bool} {bs : List Nat} (h2 : M.get b = some (.cells l ro fz)) (h6 : (l.drop o).take bs.length = byteL bs) (hl : bs.length ≤ 65536) (Q : KC) (hQ : Q (.ret (.bool (bs.all fun a => Nat.beq a 255))) M) : CallsTo E 242 [.sl b o bs.length c g] M Q := by
  refine call_rule F.f242 rfl hs ?_
  refine w_seq ?_
  refine w_region ?_
  refine vv (e_assign rfl) ?_
  refine w_nil ?_
  refine k_seq ?_
  refine w_seq ?_
  refine w_seq ?_
  refine w_region ?_
  refine vv (e_move rfl) ?_
  refine vv (e_len_sl rfl rfl rfl rfl F.u157) ?_
  refine vv (e_move rfl) ?_
  refine w_nil ?_
  refine k_seq ?_
  refine w_block ?_
  refine w_loop ?_
  refine loop_inv (fun z ρ D M' => D = [] ∧ M' = M ∧ ∃ i, z = bs.length - i ∧ i ≤ bs.length ∧ (bs.take i).all (fun a => Nat.beq a 255) = true ∧ ρ 5 = some (.sl b o bs.length c g) ∧ ρ 6 = some (.int .i64 (.ofNat bs.length)) ∧ ρ 7 = some (.int .i64 (.ofNat i))) ?_ bs.length _ _ _
    ⟨rfl, rfl, 0, rfl, Nat.zero_le _, rfl, rfl, rfl, rfl⟩
  rintro z ρ D M' ⟨rfl, rfl, i, rfl, hi, hall, g5, g6, g7⟩
  rw [reg1 g5, reg1 g6, reg1 g7]
  refine w_seq ?_
  refine w_region ?_
  refine vv rfl ?_
  refine w_nil ?_
  refine k_seq ?_
  refine w_seq ?_
  refine w_cond rfl (fun h => ?_) (fun h => ?_)
  case refine_2 =>
    have hge := ilt_ge h
    rw [show i = bs.length by omega, List.take_length] at hall
    refine w_exit ?_
    refine k_exit ?_
    refine k_exit ?_
    refine b_here ?_
    refine k_seq ?_
    refine w_seq ?_
    refine w_region ?_
    refine vv (e_assign rfl) ?_
    refine w_nil ?_
    refine k_seq ?_
    refine w_ret ?_
    rw [hall] at hQ
    exact ⟨_, res_tmp rfl res_nil, hQ⟩
  have hlt := ilt_lt h
  refine w_skip ?_
  refine k_seq ?_
  refine w_seq ?_
  refine w_block ?_
  refine w_seq ?_
  refine w_region ?_
  refine vv (e_indexAddr rfl rfl F.u157 F.sz5 zD) ?_
  refine vv (e_loadn rfl F.na5 h2 (Bts.get (M := M') (b := b) (n := 0) (c := c) (g := g) h6 hlt)) ?_
  refine vv (e_assign rfl) ?_
  refine w_nil ?_
  refine k_seq ?_
  refine w_seq ?_
  refine w_region ?_
  refine vv (e_move rfl) ?_
  refine vv rfl ?_
  refine w_nil ?_
  refine k_seq ?_
  have hx : (!ieqF (.ofNat bs[i]) 255) = !Nat.beq bs[i] 255 := rfl
  refine w_cond rfl (fun h => ?_) (fun h => ?_)
  case refine_1 =>
    have hb : Nat.beq bs[i] 255 = false := by
      cases hb : Nat.beq bs[i] 255 with
      | false => rfl
      | true => rw [hx, hb] at h; cases h
    have hno : (bs.all fun a => Nat.beq a 255) = false := by
      rw [List.all_eq_false]
      exact ⟨bs[i], List.getElem_mem hlt, by rw [hb]; decide⟩
    rw [hno] at hQ
    refine w_seq ?_
    refine w_region ?_
    refine vv (e_assign rfl) ?_
    refine w_nil ?_
    refine k_seq ?_
    refine w_ret ?_
    refine b_ret ?_
    refine k_ret ?_
    refine k_ret ?_
    refine b_ret ?_
    refine k_ret ?_
    exact ⟨_, res_tmp rfl res_nil, hQ⟩
  have hb : Nat.beq bs[i] 255 = true := by
    cases hb : Nat.beq bs[i] 255 with
    | true => rfl
    | false => rw [hx, hb] at h; cases h
  refine w_skip ?_
  refine b_normal ?_
  refine k_seq ?_
  refine w_region ?_
  refine vv rfl ?_
  refine vv (e_move rfl) ?_
  refine w_nil ?_
  refine k_seq ?_
  refine ⟨bs.length - (i + 1), by omega, rfl, rfl, i + 1, rfl, hlt, ?_, rfl, rfl, inc64v (by omega)⟩
  rw [List.take_succ_eq_append_getElem hlt, List.all_append, hall]
  simp only [List.all_cons, List.all_nil, hb, Bool.and_self]
end
section
variable {E E' : Env} (hE : EnvOk P E) (hX : SumsX P E) (hS : SumsF P E) (hg : E'.G = E.G) (F : Facts E) (B : Bd) {args : List AV} {M M' : AM} {v : AV}
include hE hX hS hg F
theorem sBlank_run (hs : E.sums 242 = none) (h : sBlank args M = some (v, M')) : RunF P E' B 242 args M (.ret v) M' := by
  unfold sBlank at h
  split at h
  case h_2 => cases h
  rename_i b o n c g
  split at h
  case h_2 => cases h
  rename_i l ro fz hm
  obtain ⟨h1, h⟩ := cond_some_inv h
  obtain ⟨h1, h2⟩ := and_inv h1
  split at h
  case h_2 => cases h
  rename_i bs hb
  cases h
  obtain ⟨e1, e2⟩ := bytesOf_inv _ _ hb
  have hn : n = bs.length := by
    have := congrArg List.length e1
    rw [List.length_take, List.length_drop, byteL_len] at this
    have := ble_of h1
    omega
  subst hn
  exact RunF.of_calls hE hX hS hg (blank_ex F hs hm e1 (ble_of h2) _ ⟨rfl, rfl, fun _ x o h => h⟩) B
end
end Go.Abm.Seat

open Go Go.Abm
set_option maxRecDepth 100000
namespace Go.Abm.Seat
noncomputable section
def hdl (t : Nat) : AV := .ptr 10 t
def tyv (t : Nat) : AV := .ifc 357 (.agg [hdl t])
def xT : Sum
  | [.ifc t _], M => bif Nat.beq t 480 then some (tyv t, M) else none
  | _, _ => none
def xC : Sum
  | [.agg [.ptr b t]], M => bif Nat.beq b 10 && Nat.beq t 480 then some (.bool true, M) else none
  | _, _ => none
def xIB : Sum
  | [.str s, .int .u8 (.ofNat c)], M => bif Nat.blt c 256 then some (.int .i64 (indexNat c s 0), M) else none
  | _, _ => none
def xCS : Sum
  | [.str s, .int .u8 (.ofNat c)], M => bif Nat.blt c 256 then some (.int .i64 (.ofNat (s.countP fun x => Nat.beq x c)), M) else none
  | _, _ => none
theorem vrs1 {ι : Ren} {a : AV} {args : Array Value} (h : VRs ι [a] args.toList) : ∃ v, args = #[v] ∧ VR ι a v := by
  have h1 := h.1
  match args, h1, h with
  | ⟨[v]⟩, _, h => exact ⟨v, rfl, h.head⟩
  | ⟨[]⟩, h1, _ => simp at h1
  | ⟨_ :: _ :: _⟩, h1, _ => simp at h1
theorem vrs2 {ι : Ren} {a b : AV} {args : Array Value} (h : VRs ι [a, b] args.toList) : ∃ v w, args = #[v, w] ∧ VR ι a v ∧ VR ι b w := by
  have h1 := h.1
  match args, h1, h with
  | ⟨[v, w]⟩, _, h => exact ⟨v, w, rfl, h.head, h.tail.head⟩
  | ⟨[]⟩, h1, _ => simp at h1
  | ⟨[_]⟩, h1, _ => simp at h1
  | ⟨_ :: _ :: _ :: _⟩, h1, _ => simp at h1
theorem hdl_of {ι : Ren} (hg : ∃ r, ι 10 = some (10, 0, r)) {t : Nat} {v : Value} (h : VR ι (.ptr 10 t) v) : v = .pointer (some ⟨10, t, none⟩) := by
  obtain ⟨r, hr⟩ := hg
  cases h with
  | ptr hb => rw [hr] at hb; cases hb; simp
theorem hdl_vr {ι : Ren} (hg : ∃ r, ι 10 = some (10, 0, r)) (t : Nat) : VR ι (hdl t) (.pointer (some ⟨10, t, none⟩)) := by
  obtain ⟨r, hr⟩ := hg
  have := VR.ptr (ι := ι) (b := 10) (off := t) hr
  simpa [hdl] using this
theorem agg1 {ι : Ren} (hg : ∃ r, ι 10 = some (10, 0, r)) {t : Nat} {v : Value} (h : VR ι (.agg [.ptr 10 t]) v) : v = .agg #[.pointer (some ⟨10, t, none⟩)] := by
  obtain ⟨l, rfl, h2⟩ := h.agg_inv
  obtain ⟨x, rfl, h3⟩ := vrs1 h2
  rw [hdl_of hg h3]
def XOk (s : Sum) (e : Array Value → Sem Value) : Prop :=
  ∀ B ι M w args args' v M', Rel B ι M w → (∃ r, ι 10 = some (10, 0, r)) → VRs ι args args'.toList → s args M = some (v, M') → ∃ ι' v' w', (e args').run P w = .ok v' w' ∧ VR ι' v v' ∧ Post B ι w ι' M' w'
abbrev eT : Array Value → Sem Value := Extern.ReflectliteType.typeOf
abbrev eC : Array Value → Sem Value := Extern.ReflectliteType.method (fun t => do Extern.Rtype.noPackHeld "Comparable" t; pure (.bool (← typeInfo t).comparable))
abbrev eIB : Array Value → Sem Value := Extern.BytealgIndexByte.indexByte
abbrev eCS : Array Value → Sem Value := Extern.BytealgCount.count
abbrev H (t : Nat) : Value := .pointer (some ⟨10, t, none⟩)
theorem fT (v : Value) (w : World) : (eT #[.iface 480 v]).run P w = .ok (.iface 357 (.agg #[H 480])) w := by kernel_rfl
theorem fC (w : World) : (eC #[.agg #[H 480]]).run P w = .ok (.bool true) w := by kernel_rfl
theorem xT_ok : XOk xT eT := by
  intro B ι M w args args' v M' hR hg hv h
  unfold xT at h
  split at h
  case h_2 => cases h
  obtain ⟨h1, hq⟩ := cond_some_inv h
  cases hq
  obtain ⟨x, rfl, hx⟩ := vrs1 hv
  cases hx with
  | ifc hx =>
  have := beq_of h1; subst this
  exact ⟨ι, _, w, fT _ w, .ifc (.agg' (VRs.cons (hdl_vr hg _) VRs.nil)), Post.refl hR⟩
theorem xC_ok : XOk xC eC := by
  intro B ι M w args args' v M' hR hg hv h
  unfold xC at h
  split at h
  case h_2 => cases h
  obtain ⟨h1, hq⟩ := cond_some_inv h
  obtain ⟨h1, h2⟩ := and_inv h1
  have e1 := beq_of h1; have e2 := beq_of h2; subst e1; subst e2
  cases hq
  obtain ⟨x, rfl, hx⟩ := vrs1 hv
  rw [agg1 hg hx]
  exact ⟨ι, _, w, fC w, .bool true, Post.refl hR⟩
theorem find_from (s : ByteArray) (c : UInt8) : ∀ (n i : Nat), i + n = s.size → (match (List.range' i n).find? (fun j => s[j]! == c) with | some j => (j : Int) | none => -1) = indexNat c.toNat ((nats s).drop i) i
  | 0, i, h => by
    have : (nats s).drop i = [] := by
      rw [List.drop_eq_nil_iff]
      simp only [nats, List.length_map, Array.length_toList]
      have : s.data.size = s.size := rfl
      omega
    rw [this]; rfl
  | n + 1, i, h => by
    have hi : i < s.size := by omega
    have hd : (nats s).drop i = s[i]!.toNat :: (nats s).drop (i + 1) := by
      have hl : i < (nats s).length := by simp only [nats, List.length_map, Array.length_toList]; exact hi
      rw [List.drop_eq_getElem_cons hl]
      congr 1
      simp only [nats, List.getElem_map, Array.getElem_toList]
      rw [getElem!_pos s i hi]
      rfl
    rw [hd, List.range'_succ, List.find?_cons]
    unfold indexNat
    by_cases e : s[i]! = c
    · rw [e, nbeq_true rfl]
      simp
    · have hb : (s[i]! == c) = false := by simpa using e
      have hn : s[i]!.toNat ≠ c.toNat := fun h => e (UInt8.toNat_inj.1 h)
      rw [hb, nbeq_false hn]
      exact find_from s c n (i + 1) (by omega)
theorem byte_nat {c : Nat} (h : Nat.blt c 256 = true) : (Int.ofNat c).toNat.toUInt8.toNat = c := by
  show (c.toUInt8).toNat = c
  rw [Nat.toUInt8, UInt8.toNat_ofNat']
  exact Nat.mod_eq_of_lt (blt_of h)
theorem xIB_ok : XOk xIB eIB := by
  intro B ι M w args args' v M' hR hg hv h
  unfold xIB at h
  split at h
  case h_2 => cases h
  rename_i s c
  obtain ⟨h1, hq⟩ := cond_some_inv h
  cases hq
  obtain ⟨x, y, rfl, hx, hy⟩ := vrs2 hv
  cases hx with
  | str s' =>
  cases hy
  refine ⟨ι, _, w, run_indexByte_string s' _ w, ?_, Post.refl hR⟩
  have hf := find_from s' (Int.ofNat c).toNat.toUInt8 s'.size 0 (by omega)
  rw [byte_nat h1, List.drop_zero] at hf
  have : firstIdx s' (Int.ofNat c).toNat.toUInt8 = indexNat c (nats s') 0 := by
    rw [← hf]
    unfold firstIdx
    rw [List.range_eq_range']
    rfl
  rw [this]
  exact .int _ _
theorem count_nats (c : UInt8) : ∀ l : List UInt8, Lib.countByte l c = (l.map UInt8.toNat).countP fun x => Nat.beq x c.toNat
  | [] => rfl
  | a :: l => by
    have ih := count_nats c l
    unfold Lib.countByte at ih ⊢
    rw [List.map_cons, List.countP_cons, List.count_cons, ih]
    by_cases e : a = c
    · subst e
      rw [nbeq_true rfl]
      simp
    · have hn : a.toNat ≠ c.toNat := fun h => e (UInt8.toNat_inj.1 h)
      have hb : (a == c) = false := by simpa using e
      rw [hb, nbeq_false hn]
theorem xCS_ok : XOk xCS eCS := by
  intro B ι M w args args' v M' hR hg hv h
  unfold xCS at h
  split at h
  case h_2 => cases h
  rename_i s c
  obtain ⟨h1, hq⟩ := cond_some_inv h
  cases hq
  obtain ⟨x, y, rfl, hx, hy⟩ := vrs2 hv
  cases hx with
  | str s' =>
  cases hy
  refine ⟨ι, _, w, Lib.run_countString s' _ w, ?_, Post.refl hR⟩
  rw [count_nats, byte_nat h1]
  exact .int _ _
end
end Go.Abm.Seat

open Go Go.Abm
set_option maxRecDepth 100000
namespace Go.Abm.Seat
noncomputable section
def XAt (f : Nat) (s : Sum) : Prop := ∃ fn e, P.funcs[f]? = some fn ∧ fn.body = none ∧ (∀ (args : Array Value) (w : World), (callFunc f args).run P w = ((e args).run P w).andThen fun v w' => .ok (.value v) w') ∧ XOk s e
def tabOf (l : List (Nat × Sum)) : Tr Sum := l.foldl (fun t x => t.set x.1 (some x.2)) .leaf
def mkL (l : List (Nat × Sum)) : Env := mkE P 10 (fun t => Nat.beq t 73) fun f => (tabOf l).get f
def BAt (f : Nat) (s : Sum) : Prop := ∃ fn c, P.funcs[f]? = some fn ∧ fn.body = some c ∧ ∀ B args M v M', s args M = some (v, M') → RunF P (mkL []) B f args M (.ret v) M'
def Good (x : Nat × Sum) : Prop := XAt x.1 x.2 ∨ BAt x.1 x.2
theorem get_fold : ∀ (l : List (Nat × Sum)) (t : Tr Sum) (f : Nat) (s : Sum), (l.foldl (fun t x => t.set x.1 (some x.2)) t).get f = some s → (f, s) ∈ l ∨ t.get f = some s
  | [], _, _, _, h => Or.inr h
  | x :: l, t, f, s, h => by
    rcases get_fold l (t.set x.1 (some x.2)) f s h with h1 | h1
    · exact Or.inl (List.mem_cons_of_mem _ h1)
    · rw [Tr.get_set] at h1
      split at h1
      · rename_i e
        cases h1
        exact Or.inl (by rw [e]; exact List.mem_cons_self)
      · exact Or.inr h1
theorem get_fold_none : ∀ (l : List (Nat × Sum)) (t : Tr Sum) (f : Nat), (∀ x ∈ l, f ≠ x.1) → t.get f = none → (l.foldl (fun t x => t.set x.1 (some x.2)) t).get f = none
  | [], _, _, _, h => h
  | x :: l, t, f, hn, h => get_fold_none l _ f (fun y hy => hn y (List.mem_cons_of_mem _ hy)) (by rw [Tr.get_set, if_neg (hn x List.mem_cons_self)]; exact h)
theorem tab_mem {l : List (Nat × Sum)} {f : Nat} {s : Sum} (h : (mkL l).sums f = some s) : (f, s) ∈ l := by
  rcases get_fold l .leaf f s h with h | h
  · exact h
  · cases h
theorem noneL {l : List (Nat × Sum)} {f : Nat} (h : (l.all fun x => !Nat.beq f x.1) = true) : (mkL l).sums f = none :=
  get_fold_none l .leaf f (fun x hx e => by
    have := List.all_eq_true.1 h x hx
    rw [nbeq_true e] at this
    cases this) rfl
theorem names_ok : P.funcs.toList.all nameOk = true := by kernel_rfl
theorem zeros_ok : P.types.toList.all zOk = true := by kernel_rfl
theorem stoodP : P.stoodInHeld 73 = false := by kernel_rfl
theorem guardP : P.eqGuardType P.depth 73 = false := by kernel_rfl
def blankless (d : Option TypeDesc) : Bool := match d with
  | some (.struct fs) => fs.toList.all fun f => f.name != "_"
  | _ => true
theorem namesP : blankless (P.underlying 73) = true := by kernel_rfl
theorem envL (l : List (Nat × Sum)) : EnvOk P (mkL l) := by
  refine envOkC (fun t ht => ?_) names_ok (by kernel_rfl) zeros_ok
  have e := beq_of ht
  subst e
  refine ⟨stoodP, guardP, fun fs hfs f hf e => ?_⟩
  have := namesP
  rw [hfs] at this
  have := List.all_eq_true.1 this f hf
  rw [e] at this
  exact absurd this (by decide)
theorem sumsXL {l : List (Nat × Sum)} (hl : ∀ x ∈ l, Good x) : SumsX P (mkL l) := by
  intro f s fn h hf' hb B ι M w args args' v M' hR hGl hargs hrun
  have hf := ((envL l).funcs f fn hf').1
  rcases hl _ (tab_mem h) with ⟨_, e, h1, _, h3, h4⟩ | ⟨fn', c, h1, h2, _⟩
  · obtain ⟨ι', v', w', k1, k2, k3⟩ := h4 B ι M w args args' v M' hR (hGl 10 (Nat.le_refl _)) hargs hrun
    exact ⟨ι', v', w', by rw [h3, k1]; rfl, k2, k3⟩
  · have h1' : P.funcs[f]? = some fn' := h1
    rw [hf] at h1'; cases h1'; rw [hb] at h2; cases h2
theorem sumsFL {l : List (Nat × Sum)} (hl : ∀ x ∈ l, Good x) : SumsF P (mkL l) := by
  intro f s fn c h hf' hb B args M v M' hrun
  have hf := ((envL l).funcs f fn hf').1
  rcases hl _ (tab_mem h) with ⟨fn', e, h1, h2, _⟩ | ⟨_, _, _, _, h3⟩
  · have h1' : P.funcs[f]? = some fn' := h1
    rw [hf] at h1'; cases h1'; rw [hb] at h2; cases h2
  · exact (h3 B args M v M' hrun).env rfl
theorem factsL (l : List (Nat × Sum)) : Facts (mkL l) := facts_ok
def l0 : List (Nat × Sum) := [(182, xT), (393, xC), (352, xIB), (300, xCS)]
theorem at_xT : XAt 182 xT := ⟨_, eT, Go.Proofs.Tryz.func182, rfl, @run_callFunc_extern P 182 _ eT Go.Proofs.Tryz.func182 (by kernel_rfl) (by kernel_rfl) (by kernel_rfl) (by kernel_rfl), xT_ok⟩
theorem at_xC : XAt 393 xC := ⟨_, eC, Go.Proofs.Tryz.func393, rfl, @run_callFunc_extern P 393 _ eC Go.Proofs.Tryz.func393 (by kernel_rfl) (by kernel_rfl) (by kernel_rfl) (by kernel_rfl), xC_ok⟩
theorem at_xIB : XAt 352 xIB := ⟨_, eIB, Go.Proofs.Tryz.func352, rfl, @run_callFunc_extern P 352 _ eIB Go.Proofs.Tryz.func352 (by kernel_rfl) (by kernel_rfl) (by kernel_rfl) (by kernel_rfl), xIB_ok⟩
theorem at_xCS : XAt 300 xCS := ⟨_, eCS, Go.Proofs.Tryz.func300, rfl, @run_callFunc_extern P 300 _ eCS Go.Proofs.Tryz.func300 (by kernel_rfl) (by kernel_rfl) (by kernel_rfl) (by kernel_rfl), xCS_ok⟩
theorem good0 : ∀ x ∈ l0, Good x := by
  intro x hx
  unfold l0 at hx
  simp only [List.mem_cons, List.not_mem_nil, or_false] at hx
  rcases hx with rfl | rfl | rfl | rfl
  · exact Or.inl at_xT
  · exact Or.inl at_xC
  · exact Or.inl at_xIB
  · exact Or.inl at_xCS
theorem at_sum : BAt 248 sSum := ⟨_, _, Go.Proofs.Tryz.func248, rfl, fun B _ _ _ _ h => sSum_run (envL l0) (sumsXL good0) (sumsFL good0) rfl (factsL _) B (noneL (by decide)) h⟩
theorem at_read : BAt 91 sRead := ⟨_, _, Go.Proofs.Tryz.func91, rfl, fun B _ _ _ _ h => sRead_run (envL l0) (sumsXL good0) (sumsFL good0) rfl (factsL _) B (noneL (by decide)) (noneL (by decide)) (noneL (by decide)) h⟩
theorem at_fill : BAt 140 sFill := ⟨_, _, Go.Proofs.Tryz.func140, rfl, fun B _ _ _ _ h => sFill_run (envL l0) (sumsXL good0) (sumsFL good0) rfl (factsL _) B (noneL (by decide)) h⟩
theorem at_blank : BAt 242 sBlank := ⟨_, _, Go.Proofs.Tryz.func242, rfl, fun B _ _ _ _ h => sBlank_run (envL l0) (sumsXL good0) (sumsFL good0) rfl (factsL _) B (noneL (by decide)) h⟩
def l1 : List (Nat × Sum) := (248, sSum) :: (91, sRead) :: (140, sFill) :: l0
def l2 : List (Nat × Sum) := (242, sBlank) :: l1
theorem good_cons {x : Nat × Sum} {l : List (Nat × Sum)} (h : Good x) (hl : ∀ x ∈ l, Good x) : ∀ y ∈ x :: l, Good y := fun y hy => by
  rcases List.mem_cons.1 hy with rfl | hy
  · exact h
  · exact hl y hy
theorem good1 : ∀ x ∈ l1, Good x := good_cons (Or.inr at_sum) (good_cons (Or.inr at_read) (good_cons (Or.inr at_fill) good0))
theorem good2 : ∀ x ∈ l2, Good x := good_cons (Or.inr at_blank) good1
end
end Go.Abm.Seat
