/-
  A part of the proof of YtbehljpnncibhaaGreatDoor: for every input the law answers true (a machine over names of blocks, its soundness, and the run of the law). No condition beyond the given statement's.
-/
import Derived.Test.YtbehljpnncibhaaGreatDoorX14
import Derived.Test.YtbehljpnncibhaaGreatDoorX15
import Derived.Test.YtbehljpnncibhaaGreatDoorX13
import Derived.Laws.Externs
set_option linter.unusedVariables false
set_option linter.unusedSimpArgs false
set_option linter.unusedSectionVars false
open Go Go.Abm
set_option maxRecDepth 100000
namespace Go.Abm.Seat
theorem and_inv {a b : Bool} (h : (a && b) = true) : a = true ∧ b = true := by simpa using h
section
variable {E E' : Env} (hE : EnvOk P E) (hX : SumsX P E) (hS : SumsF P E) (hg : E'.G = E.G) (F : Facts E) (B : Bd) {args : List AV} {M M' : AM} {v : AV}
include hE hX hS hg F
theorem sSum_run (hs : E.sums 185 = none) (h : sSum args M = some (v, M')) : RunF P E' B 185 args M (.ret v) M' := by
  unfold sSum at h
  split at h
  case h_2 => cases h
  split at h
  case h_2 => cases h
  rename_i l ro fz hm
  obtain ⟨h1, h⟩ := cond_some_inv h
  obtain ⟨h1, h2⟩ := and_inv h1
  split at h
  case h_2 => cases h
  rename_i bs hb
  cases h
  exact RunF.of_calls hE hX hS hg (sum_ok F hs M _ _ _ _ _ l bs ro fz hm (ble_of h1) (ble_of h2) hb _ ⟨rfl, rfl, fun _ x o h => h⟩) B

theorem sRead_run (hs : E.sums 244 = none) (hs2 : E.sums 191 = none) (hs3 : E.sums 145 = none) (h : sRead args M = some (v, M')) : RunF P E' B 145 args M (.ret v) M' := by
  unfold sRead at h
  split at h
  case h_2 => cases h
  rename_i c o n p
  split at h
  case h_2 => cases h
  rename_i cl r0 f0 hm
  split at h
  case h_2 => cases h
  rename_i bb bo bl bc bg pg hb hoff hpg
  split at h
  case h_2 => cases h
  rename_i bcl r1 f1 hmb
  split at h
  case h_2 => cases h
  rename_i pb po pl pc pgr hp
  split at h
  case h_2 => cases h
  rename_i pcl r2 f2 hmp
  obtain ⟨h1, h⟩ := cond_some_inv h
  obtain ⟨h1, g6⟩ := and_inv h1
  obtain ⟨h1, g5⟩ := and_inv h1
  obtain ⟨h1, g4⟩ := and_inv h1
  obtain ⟨h1, g3⟩ := and_inv h1
  obtain ⟨g1, g2⟩ := and_inv h1
  split at h
  · rename_i dt hst
    obtain ⟨hone, h⟩ := cond_some_inv h
    cases h
    refine RunF.of_calls hE hX hS hg ((read_erased F hs hs2 hs3 M c o n p bb bo bl bc pb po pl pc pg bg pgr cl bcl pcl r0 f0 r1 f1 r2 f2 dt hm hb hoff (blt_of g1) hpg (ble_of g2) hmb hp (blt_of g3) hmp hst hone (blt_of g4) (blt_of g5) (blt_of g6)).mono ?_) B
    rintro e M1 ⟨rfl, h1, h2, h3⟩
    exact ⟨rfl, h1.symm, fun hf => get_put_new (Nat.le_refl _) h2 h3 hf⟩
  · rename_i db dof dl dc dg hst
    split at h
    case h_2 => cases h
    rename_i dcl r3 f3 hmd
    obtain ⟨h1, h⟩ := cond_some_inv h
    obtain ⟨h1, k5⟩ := and_inv h1
    obtain ⟨h1, k4⟩ := and_inv h1
    obtain ⟨h1, k3⟩ := and_inv h1
    obtain ⟨k1, k2⟩ := and_inv h1
    cases h
    refine RunF.of_calls hE hX hS hg ((read_prog F hs hs2 hs3 M c o n p bb bo bl bc pb po pl pc pg db dof dl dc bg pgr dg cl bcl pcl dcl r0 f0 r1 f1 r2 f2 r3 f3 hm hb hoff (blt_of g1) hpg (ble_of g2) hmb hp (blt_of g3) hmp hst hmd (ble_of k1) (ble_of k2) (ble_of k3) k4 (blt_of g4) (blt_of g5) (blt_of g6) (blt_of k5)).mono ?_) B
    rintro e M1 ⟨rfl, h1, h2, h3⟩
    exact ⟨rfl, h1.symm, fun hf => get_put_new (Nat.le_refl _) h2 h3 hf⟩
  · cases h

theorem fillTo_run {f : FuncId} {d : List AV} {m n : Nat} (hmn : m ≤ n) (h : some (fillTo M d m n) = some (v, M'))
    (hc : CallsTo E f args M fun e M' => ∃ K g, e = .ret (.sl K 0 n n g) ∧ (n = 0 ∧ g = none ∧ K = M.nx ∧ M'.nx = M.nx + 1 ∨ 0 < n ∧ g = some 1 ∧ M'.nx = K + 1 ∧ M'.nx = M.nx + 1 + (if m = 0 then 0 else 1) + 2 * (n - m)) ∧
      (∀ x, x < M.nx → M'.get x = M.get x) ∧ M'.get K = some (.cells (d ++ List.replicate (n - m) (.int .u8 255)) false false)) (hd : n = 0 → d = []) : RunF P E' B f args M (.ret v) M' := by
  refine RunF.of_calls hE hX hS hg (hc.mono ?_) B
  rintro e M1 ⟨K, g, rfl, h1, h2, h3⟩
  unfold fillTo at h
  rcases h1 with ⟨rfl, rfl, rfl, h4⟩ | ⟨h0, rfl, h4, h5⟩
  · rw [nbeq_true rfl] at h
    cases h
    refine ⟨rfl, h4.symm, fun hf => get_put_new (Nat.le_refl _) h2 ?_ hf⟩
    rw [h3, hd rfl, Nat.zero_sub]; rfl
  · rw [nbeq_false (by omega)] at h
    have hK : M.nx + (bif Nat.beq m 0 then 0 else 1) + 2 * (n - m) = K := by
      by_cases hm : m = 0
      · rw [nbeq_true hm]; rw [if_pos hm] at h5; simp only [cond_true]; omega
      · rw [nbeq_false hm]; rw [if_neg hm] at h5; simp only [cond_false]; omega
    dsimp only [cond_false] at h
    rw [hK] at h
    cases h
    exact ⟨rfl, h4.symm, fun hf => get_put_new (by omega) h2 h3 hf⟩

theorem sFill_run (hs : E.sums 136 = none) (h : sFill args M = some (v, M')) : RunF P E' B 136 args M (.ret v) M' := by
  unfold sFill at h
  split at h
  · rename_i b off len cap gr n
    split at h
    case h_2 => cases h
    rename_i l ro fz hm
    obtain ⟨h1, h⟩ := cond_some_inv h
    obtain ⟨h1, g6⟩ := and_inv h1
    obtain ⟨h1, g5⟩ := and_inv h1
    obtain ⟨h1, g4⟩ := and_inv h1
    obtain ⟨h1, g3⟩ := and_inv h1
    obtain ⟨g1, g2⟩ := and_inv h1
    have hgr : gr = none ∨ gr = some 1 := by
      cases gr with
      | none => exact Or.inl rfl
      | some g => exact Or.inr (by rw [beq_of g4])
    exact fillTo_run hE hX hS hg F B (Nat.min_le_left _ _) h (fill_ok F hs M b off len cap n gr l ro fz hm (blt_of g6) (ble_of g1) (ble_of g2) (ble_of g3) hgr g5) (fun h0 => by subst h0; simp)
  · obtain ⟨h1, h⟩ := cond_some_inv h
    exact fillTo_run hE hX hS hg F B (Nat.zero_le _) h (fill_nil F hs M _ (ble_of h1)) (fun _ => rfl)
  · cases h
end
end Go.Abm.Seat

open Go Go.Abm
set_option maxRecDepth 100000
namespace Go.Abm.Seat
noncomputable section
def rty : Nat := 285
def xT : Sum
  | [.ifc t _], M => bif Nat.beq t 445 then some (.ifc 285 (.agg [.ptr 5 t]), M) else none
  | _, _ => none
def xC : Sum
  | [.agg [.ptr b t]], M => bif Nat.beq b 5 && Nat.beq t 445 then some (.bool true, M) else none
  | _, _ => none
def tab0 : Tr Sum := (Tr.leaf.set 182 (some xT)).set 351 (some xC)
def tab1 : Tr Sum := ((tab0.set 185 (some sSum)).set 145 (some sRead)).set 136 (some sFill)
def E0 : Env := mkE P 5 (fun _ => false) fun f => tab0.get f
def E1 : Env := mkE P 5 (fun _ => false) fun f => tab1.get f

theorem names_ok : P.funcs.toList.all nameOk = true := by kernel_rfl
theorem zeros_ok : P.types.toList.all zOk = true := by kernel_rfl
theorem env0 : EnvOk P E0 := envOk names_ok (by kernel_rfl) zeros_ok
theorem env1 : EnvOk P E1 := envOk names_ok (by kernel_rfl) zeros_ok

theorem tab0_inv {f : Nat} {s : Sum} (h : tab0.get f = some s) : f = 182 ∧ s = xT ∨ f = 351 ∧ s = xC := by
  unfold tab0 at h
  rw [Tr.get_set, Tr.get_set, Tr.get_leaf] at h
  split at h
  · rename_i e; cases h; exact Or.inr ⟨e, rfl⟩
  · split at h
    · rename_i e; cases h; exact Or.inl ⟨e, rfl⟩
    · cases h
theorem tab1_inv {f : Nat} {s : Sum} (h : tab1.get f = some s) : tab0.get f = some s ∨ f = 185 ∧ s = sSum ∨ f = 145 ∧ s = sRead ∨ f = 136 ∧ s = sFill := by
  unfold tab1 at h
  rw [Tr.get_set, Tr.get_set, Tr.get_set] at h
  split at h
  · rename_i e; cases h; exact Or.inr (Or.inr (Or.inr ⟨e, rfl⟩))
  · split at h
    · rename_i e; cases h; exact Or.inr (Or.inr (Or.inl ⟨e, rfl⟩))
    · split at h
      · rename_i e; cases h; exact Or.inr (Or.inl ⟨e, rfl⟩)
      · exact Or.inl h
theorem nobodyT : P.funcs[182]? = some Go.Proofs.Tryz.f182 := Go.Proofs.Tryz.func182
theorem nobodyC : P.funcs[351]? = some Go.Proofs.Tryz.f351 := Go.Proofs.Tryz.func351

theorem tab0_nobody {f : Nat} {s : Sum} {fn : Func} {c : Code} (h : tab0.get f = some s) (hf : P.funcs[f]? = some fn) (hb : fn.body = some c) : False := by
  rcases tab0_inv h with ⟨rfl, _⟩ | ⟨rfl, _⟩
  · rw [nobodyT] at hf; cases hf; cases hb
  · rw [nobodyC] at hf; cases hf; cases hb
theorem sumsF0 : SumsF P E0 := by
  intro f s fn c h hf hb
  exact (tab0_nobody h (env0.funcs _ _ hf).1 hb).elim

theorem typeOf_fact (v : Value) (w : World) : (Extern.ReflectliteType.typeOf #[.iface 445 v]).run P w = .ok (.iface 285 (.agg #[.pointer (some ⟨5, 445, none⟩)])) w := by kernel_rfl
theorem comparable_fact (w : World) : (Extern.ReflectliteType.method (fun t => do Extern.Rtype.noPackHeld "Comparable" t; pure (.bool (← typeInfo t).comparable)) #[.agg #[.pointer (some ⟨5, 445, none⟩)]]).run P w = .ok (.bool true) w := by kernel_rfl

theorem sumsX_of {E : Env} (hG : E.G = 5) (hs : ∀ f s, E.sums f = some s → tab0.get f = some s ∨ ∃ fn c, P.funcs[f]? = some fn ∧ fn.body = some c) (hf : ∀ f fn, E.funcs.get f = some fn → P.funcs[f]? = some fn) : SumsX P E := by
  intro f s fn h hf' hb B ι M w args args' v M' hR hGl hargs hrun
  have hGv : ∀ t, VR ι (.ptr 5 t) (.pointer (some ⟨5, t, none⟩)) := fun t => by
    obtain ⟨r, hr⟩ := hGl 5 (by rw [hG]; exact Nat.le_refl _)
    have := VR.ptr (ι := ι) (b := 5) (off := t) hr
    simpa using this
  rcases hs f s h with h0 | ⟨fn', c, h1, h2⟩
  · rcases tab0_inv h0 with ⟨rfl, rfl⟩ | ⟨rfl, rfl⟩
    · unfold xT at hrun
      split at hrun
      case h_2 => cases hrun
      rename_i t x
      obtain ⟨ht, hrun⟩ := cond_some_inv hrun
      have ht := beq_of ht
      subst ht
      cases hrun
      obtain ⟨l, hl⟩ : ∃ l, args' = #[l] := by
        have := hargs.1
        match args', this with
        | ⟨[l]⟩, _ => exact ⟨l, rfl⟩
        | ⟨[]⟩, h => simp at h
        | ⟨_ :: _ :: _⟩, h => simp at h
      subst hl
      have hv := hargs.head
      cases hv with
      | ifc hv =>
      have hc := @run_callFunc_extern P 182 _ Extern.ReflectliteType.typeOf nobodyT (by kernel_rfl) (by kernel_rfl) (by kernel_rfl) (by kernel_rfl)
      refine ⟨ι, .iface 285 (.agg #[.pointer (some ⟨5, 445, none⟩)]), w, ?_, ?_, Post.refl hR⟩
      · rw [hc, typeOf_fact]; rfl
      · exact .ifc (.agg' (VRs.cons (hGv _) VRs.nil))
    · unfold xC at hrun
      split at hrun
      case h_2 => cases hrun
      rename_i b t
      obtain ⟨ht, hrun⟩ := cond_some_inv hrun
      obtain ⟨hb1, ht1⟩ := and_inv ht
      have hb3 := beq_of hb1
      have ht3 := beq_of ht1
      clear hb1 ht1 ht
      subst hb3
      subst ht3
      cases hrun
      obtain ⟨l, hl⟩ : ∃ l, args' = #[l] := by
        have := hargs.1
        match args', this with
        | ⟨[l]⟩, _ => exact ⟨l, rfl⟩
        | ⟨[]⟩, h => simp at h
        | ⟨_ :: _ :: _⟩, h => simp at h
      subst hl
      have hv := hargs.head
      obtain ⟨l', rfl, hv7⟩ := hv.agg_inv
      obtain ⟨p, hp⟩ : ∃ p, l' = #[p] := by
        have := hv7.1
        match l', this with
        | ⟨[l]⟩, _ => exact ⟨l, rfl⟩
        | ⟨[]⟩, h => simp at h
        | ⟨_ :: _ :: _⟩, h => simp at h
      subst hp
      have hpv := hv7.head
      obtain ⟨r, hr⟩ := hGl 5 (by rw [hG]; exact Nat.le_refl _)
      cases hpv with
      | ptr hb2 =>
      rw [hr] at hb2
      cases hb2
      have hc := @run_callFunc_extern P 351 _ (Extern.ReflectliteType.method (fun t => do Extern.Rtype.noPackHeld "Comparable" t; pure (.bool (← typeInfo t).comparable))) nobodyC (by kernel_rfl) (by kernel_rfl) (by kernel_rfl) (by kernel_rfl)
      refine ⟨ι, .bool true, w, ?_, .bool true, Post.refl hR⟩
      rw [hc]
      simp only [Nat.zero_add]
      rw [comparable_fact]; rfl
  · rw [hf f fn hf'] at h1
    cases h1
    rw [hb] at h2; cases h2
theorem sumsX0 : SumsX P E0 := sumsX_of rfl (fun f s h => Or.inl h) (fun f fn h => (env0.funcs f fn h).1)
theorem sumsX1 : SumsX P E1 := by
  refine sumsX_of rfl (fun f s h => ?_) (fun f fn h => (env1.funcs f fn h).1)
  rcases tab1_inv h with h | ⟨rfl, _⟩ | ⟨rfl, _⟩ | ⟨rfl, _⟩
  · exact Or.inl h
  · exact Or.inr ⟨_, _, Go.Proofs.Tryz.func185, rfl⟩
  · exact Or.inr ⟨_, _, Go.Proofs.Tryz.func145, rfl⟩
  · exact Or.inr ⟨_, _, Go.Proofs.Tryz.func136, rfl⟩
theorem tab0_none {f : Nat} (h1 : f ≠ 182) (h2 : f ≠ 351) : E0.sums f = none := by
  show tab0.get f = none
  unfold tab0
  rw [Tr.get_set, Tr.get_set, if_neg h2, if_neg h1]; rfl
theorem sumsF1 : SumsF P E1 := by
  intro f s fn c h hf hb B args M v M' hrun
  rcases tab1_inv h with h | ⟨rfl, rfl⟩ | ⟨rfl, rfl⟩ | ⟨rfl, rfl⟩
  · exact (tab0_nobody h (env1.funcs _ _ hf).1 hb).elim
  · exact sSum_run env0 sumsX0 sumsF0 rfl facts_ok B (tab0_none (by decide) (by decide)) hrun
  · exact sRead_run env0 sumsX0 sumsF0 rfl facts_ok B (tab0_none (by decide) (by decide)) (tab0_none (by decide) (by decide)) (tab0_none (by decide) (by decide)) hrun
  · exact sFill_run env0 sumsX0 sumsF0 rfl facts_ok B (tab0_none (by decide) (by decide)) hrun
end
end Go.Abm.Seat
