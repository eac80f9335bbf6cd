/-
  A part of the proof of YtelddmmkaofiaaaGreatDoor: for every input the law answers true (a machine over names of blocks, its soundness, and the run of the law). No condition beyond the given statement's.
-/
import Derived.Test.YtelddmmkaofiaaaGreatDoorX14
import Derived.Test.YtelddmmkaofiaaaGreatDoorX13
import Derived.Laws.Externs
set_option linter.unusedVariables false
set_option linter.unusedSimpArgs false
set_option linter.unusedSectionVars false
open Go Go.Abm
set_option maxRecDepth 100000
namespace Go.Abm.Seat
noncomputable section
/-! The functions of reflectlite and bytealg that have no body, at the types at which they are called:
  F: *fscore.failed, PF: **fscore.failed, N: api.Errno, PN: *api.Errno, S: *errors.errorString, R: rtype, I: error. -/
def hdl (t : Nat) : AV := .ptr 6 t
def tyv (t : Nat) : AV := .ifc 245 (.agg [hdl t])
def xT : Sum
  | [.ifc t _], M => bif Nat.beq t 119 || Nat.beq t 29 || Nat.beq t 471 then some (tyv t, M) else none
  | _, _ => none
def xC : Sum
  | [.agg [.ptr b t]], M => bif Nat.beq b 6 && Nat.beq t 471 then some (.bool true, M) else none
  | _, _ => none
def xEl : Sum
  | [.agg [.ptr b t]], M => bif Nat.beq b 6 then (bif Nat.beq t 121 then some (tyv 119, M) else bif Nat.beq t 68 then some (tyv 29, M) else none) else none
  | _, _ => none
def xIm : Sum
  | [.agg [.ptr b t], .ifc r (.agg [.ptr b' u])], M => bif Nat.beq b 6 && Nat.beq b' 6 && Nat.beq u 118 && (Nat.beq t 119 || Nat.beq t 29) then some (.bool true, M) else none
  | _, _ => none
def xAs : Sum
  | [.agg [.ptr b t], .ifc r (.agg [.ptr b' u])], M => bif Nat.beq b 6 && Nat.beq b' 6 && Nat.beq u t && (Nat.beq t 119 || Nat.beq t 29) then some (.bool true, M) else none
  | _, _ => none
def xKi : Sum
  | [.ptr b t], M => bif Nat.beq b 6 then (bif Nat.beq t 29 then some (.int .u8 2, M) else bif Nat.beq t 119 || Nat.beq t 121 || Nat.beq t 68 then some (.int .u8 22, M) else none) else none
  | _, _ => none
def xVal : Sum
  | [.ifc t (.ptr a o)], M => bif Nat.beq t 119 || Nat.beq t 121 || Nat.beq t 68 then some (.agg [hdl t, .ptr M.nx 0, .int .u64 150], M.new (.cells [.ptr a o] false false)) else none
  | [.ifc t (.int .i64 n)], M => bif Nat.beq t 29 then some (.agg [hdl t, .ptr M.nx 0, .int .u64 130], M.new (.cells [.int .i64 n] false false)) else none
  | _, _ => none
def xVT : Sum
  | [.agg [.ptr b t, .ptr _ _, .int .u64 f]], M => bif Nat.beq b 6 && ieqF f 150 && (Nat.beq t 121 || Nat.beq t 68) then some (tyv t, M) else none
  | _, _ => none
def ptrAt (M : AM) (a o : Nat) : Option (Nat × Nat) := match M.get a with
  | some (.cells l _ _) => match l[o]? with
    | some (.ptr x y) => some (x, y)
    | _ => none
  | _ => none
def xNil : Sum
  | [.agg [.ptr b t, .ptr a o, .int .u64 f]], M => bif Nat.beq b 6 && ieqF f 150 && (Nat.beq t 121 || Nat.beq t 68) then (ptrAt M a o).map (fun _ => (.bool false, M)) else none
  | _, _ => none
def xVE : Sum
  | [.agg [.ptr b t, .ptr a o, .int .u64 f]], M => bif Nat.beq b 6 && ieqF f 150 then
      match ptrAt M a o with
      | some (x, y) => bif Nat.beq t 121 then some (.agg [hdl 119, .ptr x y, .int .u64 406], M) else bif Nat.beq t 68 then some (.agg [hdl 29, .ptr x y, .int .u64 386], M) else none
      | none => none
    else none
  | _, _ => none
def xSet : Sum
  | [.agg [.ptr b t, .ptr a o, .int .u64 f], .agg [.ptr b' t', .ptr a' o', .int .u64 f']], M =>
    bif Nat.beq b 6 && Nat.beq b' 6 && Nat.beq t' t && (Nat.beq t 119 && ieqF f 406 && ieqF f' 150 || Nat.beq t 29 && ieqF f 386 && ieqF f' 130) then
      match M.get a' with
      | some (.cells l _ _) => match l[o']? with
        | some v => bif v.one then (astore M a o [v]).map (fun M' => (.tup [], M')) else none
        | none => none
      | _ => none
    else none
  | _, _ => none
def xIB : Sum
  | [.str s, .int .u8 (.ofNat c)], M => bif Nat.blt c 256 then some (.int .i64 (indexNat c s 0), M) else none
  | _, _ => none

/-! ## Shapes of arguments -/
theorem and2 {a b : Bool} (h : (a && b) = true) : a = true ∧ b = true := by simpa using h
theorem or2 {a b : Bool} (h : (a || b) = true) : a = true ∨ b = true := by simpa using h
theorem ieq_of {a b : Int} (h : ieqF a b = true) : a = b := by
  unfold ieqF at h
  split at h
  · rw [beq_of h]
  · cases h
  · cases h
  · rw [beq_of h]
theorem vrs1 {ι : Ren} {a : AV} {args : Array Value} (h : VRs ι [a] args.toList) : ∃ v, args = #[v] ∧ VR ι a v := by
  have h1 := h.1
  match args, h1, h with
  | ⟨[v]⟩, _, h => exact ⟨v, rfl, h.head⟩
  | ⟨[]⟩, h1, _ => simp at h1
  | ⟨_ :: _ :: _⟩, h1, _ => simp at h1
theorem vrs2 {ι : Ren} {a b : AV} {args : Array Value} (h : VRs ι [a, b] args.toList) : ∃ v w, args = #[v, w] ∧ VR ι a v ∧ VR ι b w := by
  have h1 := h.1
  match args, h1, h with
  | ⟨[v, w]⟩, _, h => exact ⟨v, w, rfl, h.head, h.tail.head⟩
  | ⟨[]⟩, h1, _ => simp at h1
  | ⟨[_]⟩, h1, _ => simp at h1
  | ⟨_ :: _ :: _ :: _⟩, h1, _ => simp at h1
theorem vrs3 {ι : Ren} {a b c : AV} {args : Array Value} (h : VRs ι [a, b, c] args.toList) : ∃ v w x, args = #[v, w, x] ∧ VR ι a v ∧ VR ι b w ∧ VR ι c x := by
  have h1 := h.1
  match args, h1, h with
  | ⟨[v, w, x]⟩, _, h => exact ⟨v, w, x, rfl, h.head, h.tail.head, h.tail.tail.head⟩
  | ⟨[]⟩, h1, _ => simp at h1
  | ⟨[_]⟩, h1, _ => simp at h1
  | ⟨[_, _]⟩, h1, _ => simp at h1
  | ⟨_ :: _ :: _ :: _ :: _⟩, h1, _ => simp at h1
theorem hdl_of {ι : Ren} (hg : ∃ r, ι 6 = some (6, 0, r)) {t : Nat} {v : Value} (h : VR ι (.ptr 6 t) v) : v = .pointer (some ⟨6, t, none⟩) := by
  obtain ⟨r, hr⟩ := hg
  cases h with
  | ptr hb => rw [hr] at hb; cases hb; simp
theorem hdl_vr {ι : Ren} (hg : ∃ r, ι 6 = some (6, 0, r)) (t : Nat) : VR ι (hdl t) (.pointer (some ⟨6, t, none⟩)) := by
  obtain ⟨r, hr⟩ := hg
  have := VR.ptr (ι := ι) (b := 6) (off := t) hr
  simpa [hdl] using this
theorem tyv_vr {ι : Ren} (hg : ∃ r, ι 6 = some (6, 0, r)) (t : Nat) : VR ι (tyv t) (.iface 245 (.agg #[.pointer (some ⟨6, t, none⟩)])) :=
  .ifc (.agg' (VRs.cons (hdl_vr hg t) VRs.nil))
theorem agg1 {ι : Ren} (hg : ∃ r, ι 6 = some (6, 0, r)) {t : Nat} {v : Value} (h : VR ι (.agg [.ptr 6 t]) v) : v = .agg #[.pointer (some ⟨6, t, none⟩)] := by
  obtain ⟨l, rfl, h2⟩ := h.agg_inv
  obtain ⟨x, rfl, h3⟩ := vrs1 h2
  rw [hdl_of hg h3]
theorem agg3 {ι : Ren} (hg : ∃ r, ι 6 = some (6, 0, r)) {t a o : Nat} {f : Int} {v : Value} (h : VR ι (.agg [.ptr 6 t, .ptr a o, .int .u64 f]) v) :
    ∃ cb base room, ι a = some (cb, base, room) ∧ v = .agg #[.pointer (some ⟨6, t, none⟩), .pointer (some ⟨cb, base + o, none⟩), .int .u64 f] := by
  obtain ⟨l, rfl, h2⟩ := h.agg_inv
  obtain ⟨x, y, z, rfl, h3, h4, h5⟩ := vrs3 h2
  rw [hdl_of hg h3]
  cases h4 with
  | ptr hb =>
  cases h5
  exact ⟨_, _, _, hb, rfl⟩
theorem cell_at {B : Bd} {ι : Ren} {M : AM} {w : World} (hR : Rel B ι M w) {a o cb base room : Nat} {l : List AV} {ro fz : Bool} {v : AV} (hp : ι a = some (cb, base, room)) (hg : M.get a = some (.cells l ro fz)) (hl : l[o]? = some v) :
    ∃ v', w.cell? ⟨cb, base + o, none⟩ = some v' ∧ VR ι v v' := by
  obtain ⟨⟨c, e, fr, h1, h2, h3, h4, h5, h6⟩, _⟩ := hR.obj _ _ _ _ _ hg hp
  obtain ⟨v', e1, e2⟩ := h4 o v hl
  exact ⟨v', by rw [cell_of h1]; exact e1, e2⟩
theorem ptrAt_inv {M : AM} {a o x y : Nat} (h : ptrAt M a o = some (x, y)) : ∃ l ro fz, M.get a = some (.cells l ro fz) ∧ l[o]? = some (.ptr x y) := by
  unfold ptrAt at h
  split at h
  · rename_i l ro fz hg
    split at h
    · rename_i hl; cases h; exact ⟨l, ro, fz, hg, hl⟩
    · cases h
  · cases h

/-- What such a function comes to, by its entry. -/
def XOk (s : Sum) (e : Array Value → Sem Value) : Prop :=
  ∀ B ι M w args args' v M', Rel B ι M w → (∃ r, ι 6 = some (6, 0, r)) → VRs ι args args'.toList → s args M = some (v, M') → ∃ ι' v' w', (e args').run P w = .ok v' w' ∧ VR ι' v v' ∧ Post B ι w ι' M' w'

abbrev eT : Array Value → Sem Value := Extern.ReflectliteType.typeOf
abbrev eC : Array Value → Sem Value := Extern.ReflectliteType.method (fun t => do Extern.Rtype.noPackHeld "Comparable" t; pure (.bool (← typeInfo t).comparable))
abbrev eEl : Array Value → Sem Value := Extern.ReflectliteType.method Extern.ReflectliteType.elem
abbrev eIm : Array Value → Sem Value := Extern.ReflectliteType.relation "Implements" Extern.ReflectliteType.implements_
abbrev eAs : Array Value → Sem Value := Extern.ReflectliteType.relation "AssignableTo" Extern.ReflectliteType.assignableTo
abbrev eKi : Array Value → Sem Value := Extern.ReflectliteType.abiMethod fun t => (fun a : Nat => Value.int IntKind.u8 (a : Int)) <$> Extern.Rtype.kind t
abbrev eVal : Array Value → Sem Value := fun args => Extern.ReflectliteValue.unpack (args.getD 0 (.tuple #[]))
abbrev eVT : Array Value → Sem Value := Extern.ReflectliteValue.methodAny (Extern.ReflectliteValue.valueError "reflectlite.Value.Type" 0) (fun t _ _ _ => Extern.ReflectliteType.toType t)
abbrev eNil : Array Value → Sem Value := Extern.ReflectliteValue.method (Extern.ReflectliteValue.valueError "reflectlite.Value.IsNil" 0) Extern.ReflectliteValue.isNil
abbrev eVE : Array Value → Sem Value := Extern.ReflectliteValue.method (Extern.ReflectliteValue.valueError "reflectlite.Value.Elem" 0) Extern.ReflectliteValue.elem
abbrev eSet : Array Value → Sem Value := Extern.ReflectliteValue.set
abbrev eIB : Array Value → Sem Value := Extern.BytealgIndexByte.indexByte
abbrev H (t : Nat) : Value := .pointer (some ⟨6, t, none⟩)
abbrev TY (t : Nat) : Value := .iface 245 (.agg #[H t])

theorem fT1 (v : Value) (w : World) : (eT #[.iface 119 v]).run P w = .ok (TY 119) w := by kernel_rfl
theorem fT2 (v : Value) (w : World) : (eT #[.iface 29 v]).run P w = .ok (TY 29) w := by kernel_rfl
theorem fT3 (v : Value) (w : World) : (eT #[.iface 471 v]).run P w = .ok (TY 471) w := by kernel_rfl
theorem fC (w : World) : (eC #[.agg #[H 471]]).run P w = .ok (.bool true) w := by kernel_rfl
theorem fEl1 (w : World) : (eEl #[.agg #[H 121]]).run P w = .ok (TY 119) w := by kernel_rfl
theorem fEl2 (w : World) : (eEl #[.agg #[H 68]]).run P w = .ok (TY 29) w := by kernel_rfl
theorem fIm1 (r : Nat) (w : World) : (eIm #[.agg #[H 119], .iface r (.agg #[H 118])]).run P w = .ok (.bool true) w := by kernel_rfl
theorem fIm2 (r : Nat) (w : World) : (eIm #[.agg #[H 29], .iface r (.agg #[H 118])]).run P w = .ok (.bool true) w := by kernel_rfl
theorem fAs1 (r : Nat) (w : World) : (eAs #[.agg #[H 119], .iface r (.agg #[H 119])]).run P w = .ok (.bool true) w := by kernel_rfl
theorem fAs2 (r : Nat) (w : World) : (eAs #[.agg #[H 29], .iface r (.agg #[H 29])]).run P w = .ok (.bool true) w := by kernel_rfl
theorem fKi1 (w : World) : (eKi #[H 119]).run P w = .ok (.int .u8 22) w := by kernel_rfl
theorem fKi2 (w : World) : (eKi #[H 121]).run P w = .ok (.int .u8 22) w := by kernel_rfl
theorem fKi3 (w : World) : (eKi #[H 68]).run P w = .ok (.int .u8 22) w := by kernel_rfl
theorem fKi4 (w : World) : (eKi #[H 29]).run P w = .ok (.int .u8 2) w := by kernel_rfl
theorem fVal1 (a : Addr) (w : World) : (eVal #[.iface 119 (.pointer (some a))]).run P w = .ok (.agg #[H 119, .pointer (some ⟨w.heap.size, 0, none⟩), .int .u64 150]) (w.alloc (.cells #[.pointer (some a)] 119)) := by kernel_rfl
theorem fVal2 (a : Addr) (w : World) : (eVal #[.iface 121 (.pointer (some a))]).run P w = .ok (.agg #[H 121, .pointer (some ⟨w.heap.size, 0, none⟩), .int .u64 150]) (w.alloc (.cells #[.pointer (some a)] 121)) := by kernel_rfl
theorem fVal3 (a : Addr) (w : World) : (eVal #[.iface 68 (.pointer (some a))]).run P w = .ok (.agg #[H 68, .pointer (some ⟨w.heap.size, 0, none⟩), .int .u64 150]) (w.alloc (.cells #[.pointer (some a)] 68)) := by kernel_rfl
theorem fVal4 (n : Int) (w : World) : (eVal #[.iface 29 (.int .i64 n)]).run P w = .ok (.agg #[H 29, .pointer (some ⟨w.heap.size, 0, none⟩), .int .u64 130]) (w.alloc (.cells #[.int .i64 n] 29)) := by kernel_rfl
theorem fVT1 (a : Addr) (w : World) : (eVT #[.agg #[H 121, .pointer (some a), .int .u64 150]]).run P w = .ok (TY 121) w := by kernel_rfl
theorem fVT2 (a : Addr) (w : World) : (eVT #[.agg #[H 68, .pointer (some a), .int .u64 150]]).run P w = .ok (TY 68) w := by kernel_rfl

theorem rlm (z : Sem Value) (f : TypeId → Addr → Nat → Nat → Sem Value) (v : Value) :
    Extern.ReflectliteValue.method z f #[v] = (do match ← Extern.ReflectliteValue.parts v with | none => z | some (t, a, fl) => f t a fl (fl % 32)) := rfl
theorem fP1 (a : Addr) (w : World) : (Extern.ReflectliteValue.parts (.agg #[H 121, .pointer (some a), .int .u64 150])).run P w = .ok (some (121, a, 150)) w := by kernel_rfl
theorem fP2 (a : Addr) (w : World) : (Extern.ReflectliteValue.parts (.agg #[H 68, .pointer (some a), .int .u64 150])).run P w = .ok (some (68, a, 150)) w := by kernel_rfl
theorem fP3 (a : Addr) (w : World) : (Extern.ReflectliteValue.parts (.agg #[H 119, .pointer (some a), .int .u64 406])).run P w = .ok (some (119, a, 406)) w := by kernel_rfl
theorem fP4 (a : Addr) (w : World) : (Extern.ReflectliteValue.parts (.agg #[H 119, .pointer (some a), .int .u64 150])).run P w = .ok (some (119, a, 150)) w := by kernel_rfl
theorem fP5 (a : Addr) (w : World) : (Extern.ReflectliteValue.parts (.agg #[H 29, .pointer (some a), .int .u64 386])).run P w = .ok (some (29, a, 386)) w := by kernel_rfl
theorem fP6 (a : Addr) (w : World) : (Extern.ReflectliteValue.parts (.agg #[H 29, .pointer (some a), .int .u64 130])).run P w = .ok (some (29, a, 130)) w := by kernel_rfl
theorem fE1 (w : World) : (Extern.Rtype.elem? 121).run P w = .ok (some 119) w := by kernel_rfl
theorem fE2 (w : World) : (Extern.Rtype.elem? 68).run P w = .ok (some 29) w := by kernel_rfl
theorem fM1 (p : Addr) (w : World) : (Extern.ReflectliteValue.mk 119 p Extern.ReflectliteValue.flagAddr).run P w = .ok (.agg #[H 119, .pointer (some p), .int .u64 406]) w := by kernel_rfl
theorem fM2 (p : Addr) (w : World) : (Extern.ReflectliteValue.mk 29 p Extern.ReflectliteValue.flagAddr).run P w = .ok (.agg #[H 29, .pointer (some p), .int .u64 386]) w := by kernel_rfl
theorem fNil1 (a p : Addr) (W : World) (ha : W.cell? a = some (.pointer (some p))) : (eNil #[.agg #[H 121, .pointer (some a), .int .u64 150]]).run P W = .ok (.bool false) W := by
  unfold eNil
  rw [rlm]
  simp only [Sem.run_bind, fP1, Result.andThen]
  simp [Extern.ReflectliteValue.isNil, loadVar, isAgg, underlying, Go.Proofs.Tryz.underlying121, ha, Result.andThen]
theorem fNil2 (a p : Addr) (W : World) (ha : W.cell? a = some (.pointer (some p))) : (eNil #[.agg #[H 68, .pointer (some a), .int .u64 150]]).run P W = .ok (.bool false) W := by
  unfold eNil
  rw [rlm]
  simp only [Sem.run_bind, fP2, Result.andThen]
  simp [Extern.ReflectliteValue.isNil, loadVar, isAgg, underlying, Go.Proofs.Tryz.underlying68, ha, Result.andThen]
theorem fVE1 (a p : Addr) (W : World) (ha : W.cell? a = some (.pointer (some p))) : (eVE #[.agg #[H 121, .pointer (some a), .int .u64 150]]).run P W = .ok (.agg #[H 119, .pointer (some p), .int .u64 406]) W := by
  unfold eVE
  rw [rlm]
  simp only [Sem.run_bind, fP1, Result.andThen]
  simp [Extern.ReflectliteValue.elem, loadVar, isAgg, underlying, Go.Proofs.Tryz.underlying121, ha, Result.andThen, fE1, fM1]
theorem fVE2 (a p : Addr) (W : World) (ha : W.cell? a = some (.pointer (some p))) : (eVE #[.agg #[H 68, .pointer (some a), .int .u64 150]]).run P W = .ok (.agg #[H 29, .pointer (some p), .int .u64 386]) W := by
  unfold eVE
  rw [rlm]
  simp only [Sem.run_bind, fP2, Result.andThen]
  simp [Extern.ReflectliteValue.elem, loadVar, isAgg, underlying, Go.Proofs.Tryz.underlying68, ha, Result.andThen, fE2, fM2]
end
end Go.Abm.Seat

open Go Go.Abm
set_option maxRecDepth 100000
namespace Go.Abm.Seat
noncomputable section
theorem xT_ok : XOk xT eT := by
  intro B ι M w args args' v M' hR hg hv h
  unfold xT at h
  split at h
  case h_2 => cases h
  obtain ⟨h1, hq⟩ := cond_some_inv h
  clear h
  have h := hq
  clear hq
  cases h
  obtain ⟨x, rfl, hx⟩ := vrs1 hv
  cases hx with
  | ifc hx =>
  rcases or2 h1 with h1 | h1
  · rcases or2 h1 with h1 | h1
    · have := beq_of h1; subst this
      exact ⟨ι, _, w, fT1 _ w, tyv_vr hg _, Post.refl hR⟩
    · have := beq_of h1; subst this
      exact ⟨ι, _, w, fT2 _ w, tyv_vr hg _, Post.refl hR⟩
  · have := beq_of h1; subst this
    exact ⟨ι, _, w, fT3 _ w, tyv_vr hg _, Post.refl hR⟩
theorem xC_ok : XOk xC eC := by
  intro B ι M w args args' v M' hR hg hv h
  unfold xC at h
  split at h
  case h_2 => cases h
  obtain ⟨h1, hq⟩ := cond_some_inv h
  clear h
  have h := hq
  clear hq
  obtain ⟨h1, h2⟩ := and2 h1
  have e1 := beq_of h1; have e2 := beq_of h2; subst e1; subst e2
  cases h
  obtain ⟨x, rfl, hx⟩ := vrs1 hv
  rw [agg1 hg hx]
  exact ⟨ι, _, w, fC w, .bool true, Post.refl hR⟩
theorem xEl_ok : XOk xEl eEl := by
  intro B ι M w args args' v M' hR hg hv h
  unfold xEl at h
  split at h
  case h_2 => cases h
  rename_i b t
  obtain ⟨h1, hq⟩ := cond_some_inv h
  clear h
  have h := hq
  clear hq
  have e1 := beq_of h1; subst e1
  obtain ⟨x, rfl, hx⟩ := vrs1 hv
  rw [agg1 hg hx]
  by_cases e : t = 121
  · subst e
    cases h
    exact ⟨ι, _, w, fEl1 w, tyv_vr hg _, Post.refl hR⟩
  · rw [nbeq_false e] at h
    obtain ⟨h2, hq⟩ := cond_some_inv (c := Nat.beq t 68) h
    clear h
    have h := hq
    clear hq
    have e2 := beq_of h2; subst e2
    cases h
    exact ⟨ι, _, w, fEl2 w, tyv_vr hg _, Post.refl hR⟩
theorem xIm_ok : XOk xIm eIm := by
  intro B ι M w args args' v M' hR hg hv h
  unfold xIm at h
  split at h
  case h_2 => cases h
  obtain ⟨h1, hq⟩ := cond_some_inv h
  clear h
  have h := hq
  clear hq
  obtain ⟨h1, h4⟩ := and2 h1
  obtain ⟨h1, h3⟩ := and2 h1
  obtain ⟨h1, h2⟩ := and2 h1
  have e1 := beq_of h1; have e2 := beq_of h2; have e3 := beq_of h3; subst e1; subst e2; subst e3
  cases h
  obtain ⟨x, y, rfl, hx, hy⟩ := vrs2 hv
  rw [agg1 hg hx]
  cases hy with
  | ifc hy =>
  rw [agg1 hg hy]
  rcases or2 h4 with h4 | h4
  · have e := beq_of h4; subst e
    exact ⟨ι, _, w, fIm1 _ w, .bool true, Post.refl hR⟩
  · have e := beq_of h4; subst e
    exact ⟨ι, _, w, fIm2 _ w, .bool true, Post.refl hR⟩
theorem xAs_ok : XOk xAs eAs := by
  intro B ι M w args args' v M' hR hg hv h
  unfold xAs at h
  split at h
  case h_2 => cases h
  obtain ⟨h1, hq⟩ := cond_some_inv h
  clear h
  have h := hq
  clear hq
  obtain ⟨h1, h4⟩ := and2 h1
  obtain ⟨h1, h3⟩ := and2 h1
  obtain ⟨h1, h2⟩ := and2 h1
  have e1 := beq_of h1; have e2 := beq_of h2; have e3 := beq_of h3; subst e1; subst e2; subst e3
  cases h
  obtain ⟨x, y, rfl, hx, hy⟩ := vrs2 hv
  rw [agg1 hg hx]
  cases hy with
  | ifc hy =>
  rw [agg1 hg hy]
  rcases or2 h4 with h4 | h4
  · have e := beq_of h4; subst e
    exact ⟨ι, _, w, fAs1 _ w, .bool true, Post.refl hR⟩
  · have e := beq_of h4; subst e
    exact ⟨ι, _, w, fAs2 _ w, .bool true, Post.refl hR⟩
theorem xKi_ok : XOk xKi eKi := by
  intro B ι M w args args' v M' hR hg hv h
  unfold xKi at h
  split at h
  case h_2 => cases h
  rename_i b t
  obtain ⟨h1, hq⟩ := cond_some_inv h
  clear h
  have h := hq
  clear hq
  have e1 := beq_of h1; subst e1
  obtain ⟨x, rfl, hx⟩ := vrs1 hv
  rw [hdl_of hg hx]
  by_cases e : t = 29
  · subst e
    cases h
    exact ⟨ι, _, w, fKi4 w, .int _ _, Post.refl hR⟩
  · rw [nbeq_false e] at h
    obtain ⟨h2, hq⟩ := cond_some_inv (c := Nat.beq t 119 || Nat.beq t 121 || Nat.beq t 68) h
    clear h
    have h := hq
    clear hq
    cases h
    rcases or2 h2 with h2 | h2
    · rcases or2 h2 with h2 | h2
      · have e := beq_of h2; subst e
        exact ⟨ι, _, w, fKi1 w, .int _ _, Post.refl hR⟩
      · have e := beq_of h2; subst e
        exact ⟨ι, _, w, fKi2 w, .int _ _, Post.refl hR⟩
    · have e := beq_of h2; subst e
      exact ⟨ι, _, w, fKi3 w, .int _ _, Post.refl hR⟩
theorem val_new {B : Bd} {ι : Ren} {M : AM} {w : World} (hR : Rel B ι M w) (hg : ∃ r, ι 6 = some (6, 0, r)) {x : AV} {x' : Value} {t T : Nat} {f : Int} (hx : VR ι x x') :
    ∃ ι', VR ι' (.agg [hdl t, .ptr M.nx 0, .int .u64 f]) (.agg #[H t, .pointer (some ⟨w.heap.size, 0, none⟩), .int .u64 f]) ∧ Post B ι w ι' (M.new (.cells [x] false false)) (w.alloc (.cells #[x'] T)) := by
  have hle : ι.le (ι.add M.nx (w.heap.size, 0, 1)) := Ren.add_le (hR.fresh _ (Nat.le_refl _)).2
  refine ⟨ι.add M.nx (w.heap.size, 0, 1), ?_, ?_⟩
  · refine .agg' (VRs.cons ((hdl_vr hg t).mono hle) (VRs.cons ?_ (VRs.cons (.int _ _) VRs.nil)))
    have := VR.ptr (ι := ι.add M.nx (w.heap.size, 0, 1)) (b := M.nx) (off := 0) (Ren.add_self _ _ _)
    simpa using this
  · have hp := Post.new (o := .cells [x] false false) (o' := .cells #[x'] T) (room := 1) hR ⟨#[x'], T, (0, 0), by simp, by simp, by simp, fun i v hi => by
      rcases i with _ | i
      · simp only [List.getElem?_cons_zero, Option.some.injEq] at hi
        subst hi
        exact ⟨x', by simp, hx.mono hle⟩
      · simp at hi, Or.inl rfl, fun _ => rfl⟩
    exact hp
theorem xVal_ok : XOk xVal eVal := by
  intro B ι M w args args' v M' hR hg hv h
  unfold xVal at h
  split at h
  · rename_i t a o
    obtain ⟨h1, h⟩ := cond_some_inv h
    cases h
    obtain ⟨x, rfl, hx⟩ := vrs1 hv
    cases hx with
    | ifc hx =>
    cases hx with
    | ptr hb =>
    rename_i cb base room
    rcases or2 h1 with h1 | h1
    · rcases or2 h1 with h1 | h1
      · have e := beq_of h1; subst e
        obtain ⟨ι', k1, k2⟩ := val_new (t := 119) (T := 119) (f := 150) hR hg (VR.ptr (off := o) hb)
        exact ⟨ι', _, _, fVal1 _ w, k1, k2⟩
      · have e := beq_of h1; subst e
        obtain ⟨ι', k1, k2⟩ := val_new (t := 121) (T := 121) (f := 150) hR hg (VR.ptr (off := o) hb)
        exact ⟨ι', _, _, fVal2 _ w, k1, k2⟩
    · have e := beq_of h1; subst e
      obtain ⟨ι', k1, k2⟩ := val_new (t := 68) (T := 68) (f := 150) hR hg (VR.ptr (off := o) hb)
      exact ⟨ι', _, _, fVal3 _ w, k1, k2⟩
  · rename_i t n
    obtain ⟨h1, h⟩ := cond_some_inv h
    cases h
    obtain ⟨x, rfl, hx⟩ := vrs1 hv
    cases hx with
    | ifc hx =>
    cases hx with
    | int =>
    have e := beq_of h1; subst e
    obtain ⟨ι', k1, k2⟩ := val_new (t := 29) (T := 29) (f := 130) hR hg (VR.int (ι := ι) .i64 n)
    exact ⟨ι', _, _, fVal4 _ w, k1, k2⟩
  · cases h
theorem xVT_ok : XOk xVT eVT := by
  intro B ι M w args args' v M' hR hg hv h
  unfold xVT at h
  split at h
  case h_2 => cases h
  obtain ⟨h1, hq⟩ := cond_some_inv h
  clear h
  have h := hq
  clear hq
  obtain ⟨h1, h3⟩ := and2 h1
  obtain ⟨h1, h2⟩ := and2 h1
  have e1 := beq_of h1; have e2 := ieq_of h2; subst e1; subst e2
  cases h
  obtain ⟨x, rfl, hx⟩ := vrs1 hv
  obtain ⟨cb, base, room, hb, rfl⟩ := agg3 hg hx
  rcases or2 h3 with h3 | h3
  · have e := beq_of h3; subst e
    exact ⟨ι, _, w, fVT1 _ w, tyv_vr hg _, Post.refl hR⟩
  · have e := beq_of h3; subst e
    exact ⟨ι, _, w, fVT2 _ w, tyv_vr hg _, Post.refl hR⟩
theorem xNil_ok : XOk xNil eNil := by
  intro B ι M w args args' v M' hR hg hv h
  unfold xNil at h
  split at h
  case h_2 => cases h
  obtain ⟨h1, hq⟩ := cond_some_inv h
  clear h
  have h := hq
  clear hq
  obtain ⟨h1, h3⟩ := and2 h1
  obtain ⟨h1, h2⟩ := and2 h1
  have e1 := beq_of h1; have e2 := ieq_of h2; subst e1; subst e2
  obtain ⟨⟨x, y⟩, hp, h⟩ := map_some_inv h
  cases h
  obtain ⟨l, ro, fz, hm, hl⟩ := ptrAt_inv hp
  obtain ⟨z, rfl, hz⟩ := vrs1 hv
  obtain ⟨cb, base, room, hb, rfl⟩ := agg3 hg hz
  obtain ⟨c, hc, hcv⟩ := cell_at hR hb hm hl
  cases hcv with
  | ptr hb2 =>
  rcases or2 h3 with h3 | h3
  · have e := beq_of h3; subst e
    exact ⟨ι, _, w, fNil1 _ _ w hc, .bool false, Post.refl hR⟩
  · have e := beq_of h3; subst e
    exact ⟨ι, _, w, fNil2 _ _ w hc, .bool false, Post.refl hR⟩
theorem xVE_ok : XOk xVE eVE := by
  intro B ι M w args args' v M' hR hg hv h
  unfold xVE at h
  split at h
  case h_2 => cases h
  rename_i b t a o f
  obtain ⟨h1, hq⟩ := cond_some_inv h
  clear h
  have h := hq
  clear hq
  obtain ⟨h1, h2⟩ := and2 h1
  have e1 := beq_of h1; have e2 := ieq_of h2; subst e1; subst e2
  split at h
  case h_2 => cases h
  rename_i x y hp
  obtain ⟨l, ro, fz, hm, hl⟩ := ptrAt_inv hp
  obtain ⟨z, rfl, hz⟩ := vrs1 hv
  obtain ⟨cb, base, room, hb, rfl⟩ := agg3 hg hz
  obtain ⟨c, hc, hcv⟩ := cell_at hR hb hm hl
  cases hcv with
  | ptr hb2 =>
  by_cases e : t = 121
  · subst e
    cases h
    exact ⟨ι, _, w, fVE1 _ _ w hc, .agg' (VRs.cons (hdl_vr hg _) (VRs.cons (.ptr hb2) (VRs.cons (.int _ _) VRs.nil))), Post.refl hR⟩
  · rw [nbeq_false e] at h
    obtain ⟨h2, hq⟩ := cond_some_inv (c := Nat.beq t 68) h
    clear h
    have h := hq
    clear hq
    have e2 := beq_of h2; subst e2
    cases h
    exact ⟨ι, _, w, fVE2 _ _ w hc, .agg' (VRs.cons (hdl_vr hg _) (VRs.cons (.ptr hb2) (VRs.cons (.int _ _) VRs.nil))), Post.refl hR⟩

theorem rls (v x : Value) : Extern.ReflectliteValue.set #[v, x] = (do
    let (some (dst, a, fl), some (src, b, _)) := (← Extern.ReflectliteValue.parts v, ← Extern.ReflectliteValue.parts x)
      | unsupported (.noEntry "extern/(internal/reflectlite.Value).Set.zeroValue")
    if fl / Extern.ReflectliteValue.flagAddr % 2 == 0 then unsupported (.noEntry "extern/(internal/reflectlite.Value).Set.unaddressable")
    let val ← loadVar src b
    if ← Extern.Rtype.directlyAssignable dst src then storeVar dst a val
    else if ← Extern.Rtype.implements dst src then
      if (← Extern.Rtype.kind src) == 20 then
        match val with
        | .nilIface => unsupported (.noEntry "extern/reflectlite: a nil value of one interface type handed on as a value of another")
        | _ => storeVar dst a val
      else storeVar dst a (.iface src val)
    else panicString ("reflectlite.Set: value of type " ++ (← Extern.Rtype.spelt src) ++ " is not assignable to type " ++ (← Extern.Rtype.spelt dst))
    pure (.tuple #[])) := rfl
theorem fD1 (w : World) : (Extern.Rtype.directlyAssignable 119 119).run P w = .ok true w := by kernel_rfl
theorem fD2 (w : World) : (Extern.Rtype.directlyAssignable 29 29).run P w = .ok true w := by kernel_rfl
theorem fZ1 (w : World) : (sizeOf 119).run P w = .ok 1 w := by kernel_rfl
theorem fZ2 (w : World) : (sizeOf 29).run P w = .ok 1 w := by kernel_rfl
theorem storeVar_one {t : Nat} {a : Addr} {v : Value} {w w' : World} (hz : (sizeOf t).run P w = .ok 1 w) (hv : v.cells = #[v]) (h : (storeCells a [v]).run P w = .ok () w') : (storeVar t a v).run P w = .ok () w' := by
  unfold storeVar
  simp only [Sem.run_bind, hz, Result.andThen, hv]
  simp [h]
theorem vone_cells {v : Value} (h : vone v = true) : v.cells = #[v] := by
  cases v <;> first | rfl | (cases h; done)
theorem fSet1 (ta b : Addr) (v : Value) (W W' : World) (hb : W.cell? b = some v) (hv : v.cells = #[v]) (hs : (storeCells ta [v]).run P W = .ok () W') :
    (eSet #[.agg #[H 119, .pointer (some ta), .int .u64 406], .agg #[H 119, .pointer (some b), .int .u64 150]]).run P W = .ok (.tuple #[]) W' := by
  unfold eSet
  rw [rls]
  simp only [Sem.run_bind, fP3, fP4, Result.andThen]
  have hst := storeVar_one (fZ1 W) hv hs
  simp [Extern.ReflectliteValue.flagAddr, loadVar, isAgg, underlying, Go.Proofs.Tryz.underlying119, hb, Result.andThen, fD1, hst]
theorem fSet2 (ta b : Addr) (v : Value) (W W' : World) (hb : W.cell? b = some v) (hv : v.cells = #[v]) (hs : (storeCells ta [v]).run P W = .ok () W') :
    (eSet #[.agg #[H 29, .pointer (some ta), .int .u64 386], .agg #[H 29, .pointer (some b), .int .u64 130]]).run P W = .ok (.tuple #[]) W' := by
  unfold eSet
  rw [rls]
  simp only [Sem.run_bind, fP5, fP6, Result.andThen]
  have hst := storeVar_one (fZ2 W) hv hs
  simp [Extern.ReflectliteValue.flagAddr, loadVar, isAgg, underlying, Go.Proofs.Tryz.underlying29, hb, Result.andThen, fD2, hst]
theorem xSet_ok : XOk xSet eSet := by
  intro B ι M w args args' v M' hR hg hv h
  unfold xSet at h
  split at h
  case h_2 => cases h
  rename_i b t a o f b' t' a' o' f'
  obtain ⟨h1, hq⟩ := cond_some_inv h
  clear h
  have h := hq
  clear hq
  obtain ⟨h1, h4⟩ := and2 h1
  obtain ⟨h1, h3⟩ := and2 h1
  obtain ⟨h1, h2⟩ := and2 h1
  have e1 := beq_of h1; have e2 := beq_of h2; have e3 := beq_of h3; subst e1; subst e2; subst e3
  split at h
  case h_2 => cases h
  rename_i l ro fz hm
  split at h
  case h_2 => cases h
  rename_i u hl
  obtain ⟨ho, hq⟩ := cond_some_inv h
  clear h
  have h := hq
  clear hq
  obtain ⟨M2, hst, h⟩ := map_some_inv h
  cases h
  obtain ⟨x, y, rfl, hx, hy⟩ := vrs2 hv
  obtain ⟨cb, base, room, hb, rfl⟩ := agg3 hg hx
  obtain ⟨cb2, base2, room2, hb2, rfl⟩ := agg3 hg hy
  obtain ⟨c, hc, hcv⟩ := cell_at hR hb2 hm hl
  obtain ⟨w', k1, k2⟩ := astore_ok hR hb (VRs.cons hcv VRs.nil) hst
  have hone : c.cells = #[c] := vone_cells (by rw [hcv.one]; exact ho)
  rcases or2 h4 with h4 | h4
  · obtain ⟨h4, h6⟩ := and2 h4
    obtain ⟨h4, h5⟩ := and2 h4
    have e := beq_of h4; have e5 := ieq_of h5; have e6 := ieq_of h6; subst e; subst e5; subst e6
    exact ⟨ι, _, w', fSet1 _ _ c w w' hc hone k1, .tup' VRs.nil, k2⟩
  · obtain ⟨h4, h6⟩ := and2 h4
    obtain ⟨h4, h5⟩ := and2 h4
    have e := beq_of h4; have e5 := ieq_of h5; have e6 := ieq_of h6; subst e; subst e5; subst e6
    exact ⟨ι, _, w', fSet2 _ _ c w w' hc hone k1, .tup' VRs.nil, k2⟩

theorem find_from (s : ByteArray) (c : UInt8) : ∀ (n i : Nat), i + n = s.size → (match (List.range' i n).find? (fun j => s[j]! == c) with | some j => (j : Int) | none => -1) = indexNat c.toNat ((nats s).drop i) i
  | 0, i, h => by
    have : (nats s).drop i = [] := by
      rw [List.drop_eq_nil_iff]
      simp only [nats, List.length_map, Array.length_toList]
      have : s.data.size = s.size := rfl
      omega
    rw [this]; rfl
  | n + 1, i, h => by
    have hi : i < s.size := by omega
    have hd : (nats s).drop i = s[i]!.toNat :: (nats s).drop (i + 1) := by
      have hl : i < (nats s).length := by simp only [nats, List.length_map, Array.length_toList]; exact hi
      rw [List.drop_eq_getElem_cons hl]
      congr 1
      simp only [nats, List.getElem_map, Array.getElem_toList]
      rw [getElem!_pos s i hi]
      rfl
    rw [hd, List.range'_succ, List.find?_cons]
    unfold indexNat
    by_cases e : s[i]! = c
    · rw [e, nbeq_true rfl]
      simp
    · have hb : (s[i]! == c) = false := by simpa using e
      have hn : s[i]!.toNat ≠ c.toNat := fun h => e (UInt8.toNat_inj.1 h)
      rw [hb, nbeq_false hn]
      exact find_from s c n (i + 1) (by omega)
theorem xIB_ok : XOk xIB eIB := by
  intro B ι M w args args' v M' hR hg hv h
  unfold xIB at h
  split at h
  case h_2 => cases h
  rename_i s c
  obtain ⟨h1, hq⟩ := cond_some_inv h
  clear h
  have h := hq
  clear hq
  cases h
  obtain ⟨x, y, rfl, hx, hy⟩ := vrs2 hv
  cases hx with
  | str s' =>
  cases hy
  refine ⟨ι, _, w, run_indexByte_string s' _ w, ?_, Post.refl hR⟩
  have hf := find_from s' (Int.ofNat c).toNat.toUInt8 s'.size 0 (by omega)
  have hc : (Int.ofNat c).toNat.toUInt8.toNat = c := by
    show (c.toUInt8).toNat = c
    rw [Nat.toUInt8, UInt8.toNat_ofNat']
    exact Nat.mod_eq_of_lt (blt_of h1)
  rw [hc, List.drop_zero] at hf
  have : firstIdx s' (Int.ofNat c).toNat.toUInt8 = indexNat c (nats s') 0 := by
    rw [← hf]
    unfold firstIdx
    rw [List.range_eq_range']
    rfl
  rw [this]
  exact .int _ _
end
end Go.Abm.Seat
