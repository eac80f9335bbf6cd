/-
  A part of the proof of YtelddmmkaofiaaaGreatDoor: for every input the law answers true (a machine over names of blocks, its soundness, and the run of the law). No condition beyond the given statement's.
-/
import Derived.Test.YtelddmmkaofiaaaGreatDoorX21
import Derived.Test.YtelddmmkaofiaaaGreatDoorX19
import Derived.Test.YtelddmmkaofiaaaGreatDoorX20
import Derived.Test.YtelddmmkaofiaaaGreatDoorRows
import Derived.ProofKit
import Derived.LaidMore
import Derived.OpenShut
import Derived.Stop.Joined
set_option linter.unusedVariables false
set_option linter.unusedSimpArgs false
set_option linter.unusedSectionVars false
open Go Go.Abm Go.Abm.Seat
namespace Go.Proofs.YtelddmmkaofiaaaGreatDoor
open Go.ChangeShapes Go.WideShapes Go.ChangeAt Go.WideMaps Go.WideElems Go.RowKit
set_option maxRecDepth 100000

theorem own : ownKnob Tryz.prog.godebug = none := by kernel_rfl
theorem gErr : Tryz.prog.globalNamed "pumice/header.errNone" = some 1 := by kernel_rfl
theorem gErrType : (Tryz.prog.globals[1]?).map (·.type) = some 118 := by kernel_rfl
theorem gTy : Tryz.prog.globalNamed "errors.errorType" = some 0 := by kernel_rfl
theorem rtT : (Tryz.prog.cutTypes.find? (·.1 == "internal/reflectlite.rtype")).map (·.2) = some 245 := by kernel_rfl
theorem oneRow : ((List.range 511).filter fun t => Tryz.prog.rowNamed t [101, 114, 114, 111, 114]) = [118] := by kernel_rfl
theorem tySize : Tryz.prog.types.size = 511 := by kernel_rfl
theorem tyHandle : typeHandle Tryz.prog 118 = .pointer (some ⟨6, 118, none⟩) := by kernel_rfl
theorem starES : "*" ++ "errors.errorString" = "*errors.errorString" := by decide
theorem rowES (u : TypeId) (h : Tryz.prog.typeName? 3 u = some "*errors.errorString") : u = 471 :=
  typeName_ptr_named (nm := "errors.errorString") (by rw [starES]; kernel_rfl) (by kernel_rfl) (by decide) u (by rw [starES]; exact h)
theorem cellsES : Tryz.prog.cellsOf 496 = 1 := by kernel_rfl
theorem cellsS : Tryz.prog.cellsOf 9 = 1 := by kernel_rfl
theorem row0 : ((begin Tryz.prog (fun _ _ => 0) default).world.heap[0]?).bind Obj.row? = some (#[.nilIface], 163) := by kernel_rfl
theorem lt0 : 0 < Tryz.prog.globals.size := of_decide_eq_true (by kernel_rfl)

/-- WHAT THE CONDITION GIVES: errors.errorType, header's errNone. -/
theorem of_laid {W : World} (hsh : W.ShapedOpen Tryz.prog) (h : laidMetH Tryz.prog Rows.coreNilsRow.laid W) :
    ∃ (a : Addr) (s : ByteArray) (c : Array Value) (t : TypeId) (c1 : Array Value) (t1 : TypeId) (c0 : Array Value) (t0 : TypeId), W.heap[1]? = some (.cells c1 t1 (0, 0)) ∧ c1 = #[.iface 471 (.pointer (some a))] ∧ a.spot = none ∧
      W.cell? a = some (.string s) ∧ nats s = [110, 111, 32, 105, 109, 97, 103, 101] ∧ W.heap[a.block]? = some (.cells c t (0, 0)) ∧
      W.heap[0]? = some (.cells c0 t0 (0, 0)) ∧ c0 = #[.iface 245 (.agg #[.pointer (some ⟨6, 118, none⟩)])] := by
  have h' : laidMet Tryz.prog [("math/bits.deBruijn32tab", Rows.laid_math_bits_deBruijn32tab), ("math/bits.deBruijn64tab", Rows.laid_math_bits_deBruijn64tab), ("internal/strconv.uint64pow10", Rows.laid_internal_strconv_uint64pow10), ("pumice/header.errNone", Rows.laid_pumice_header_errNone)] W ∧ handlesMet Tryz.prog [("errors.errorType", Rows.laid_errors_errorType)] W := h
  obtain ⟨⟨ps, ⟨g1, t1, cs1, f1, p1, q1, hg1, ht1, hv1, hd1, ⟨g2, t2, cs2, f2, p2, q2, hg2, ht2, hv2, hd2, ⟨g3, t3, cs3, f3, p3, q3, hg3, ht3, hv3, hd3, ⟨g4, t4, cs4, f4, p4, q4, hg4, ht4, hv4, hd4, hq4, e4⟩, e3⟩, e2⟩, e1⟩, hnd, hrows⟩, hhand⟩ := h'
  obtain rfl := Option.some.inj (gErr.symm.trans hg4)
  obtain rfl := Option.some.inj (gErrType.symm.trans ht4)
  have hq4' : q4 = [] := hq4
  subst hq4'
  subst e4
  subst e3
  subst e2
  subst e1
  obtain ⟨l4⟩ := cs4
  have ok4 : ∀ u v, l4 = [.iface u v] → Value.okWide Tryz.prog W .any 0 u v := fun u v e => by
    subst e
    exact (hrows 1 0 (by simp [MemPlace.row])).2 u v (by simpa using World.var?_cell hg4 hv4 0)
  obtain ⟨a, s, rfl, hc0, hs0, hz0, rfl⟩ := errorString_of_trod Tryz.underlying118 rowES Tryz.underlying471 Tryz.underlying496 rfl rfl Tryz.underlying9 cellsES cellsS hd4 ok4
  obtain ⟨c, t, hb⟩ := (hrows a.block a.off (by simp [MemPlace.row])).1
  obtain ⟨c1, t1, hb1⟩ := (hrows 1 0 (by simp [MemPlace.row])).1
  have hc1 : c1 = #[.iface 471 (.pointer (some a))] := by
    have := hv4
    unfold World.var? at this
    rw [hg4] at this
    simp only [Option.bind_some, hb1] at this
    exact Option.some.inj this
  have hspot : a.spot = none := by
    have ok := ok4 _ _ rfl
    unfold Value.okWide at ok
    simp only [Tryz.underlying471] at ok
    unfold Cell.okWide at ok
    simp only [Tryz.underlying471] at ok
    exact ok.2.1
  obtain ⟨name, u, ty, k1, k2, k3, k4, k5⟩ := hhand _ (List.mem_singleton.2 rfl)
  have en : name = [101, 114, 114, 111, 114] := (Option.some.inj k1).symm
  subst en
  obtain rfl := Option.some.inj (rtT.symm.trans k2)
  have hm : ty ∈ (List.range 511).filter fun t => Tryz.prog.rowNamed t [101, 114, 114, 111, 114] := List.mem_filter.2 ⟨List.mem_range.2 (by rw [← tySize]; exact k3), k4⟩
  rw [oneRow] at hm
  obtain rfl := List.mem_singleton.1 hm
  rw [tyHandle] at k5
  obtain ⟨c0, hb0, _, _⟩ := hsh.1 0 _ _ lt0 row0
  have hcc0 : c0 = #[.iface 245 (.agg #[.pointer (some ⟨6, 118, none⟩)])] := by
    have := k5
    unfold World.var? at this
    rw [gTy] at this
    simp only [Option.bind_some, hb0] at this
    exact Option.some.inj this
  refine ⟨a, s, c, t, c1, t1, c0, _, hb1, hc1, hspot, hc0, ?_, hb, hb0, hcc0⟩
  unfold nats
  rw [hs0]
  rfl

theorem row_run {W : World} (hsh : W.ShapedOpen Tryz.prog) (hl : laidMetH Tryz.prog Rows.coreNilsRow.laid W) (k i t : Int) (n o x : ByteArray) (i1 i2 i3 i4 i5 i6 i7 i8 i9 : Int) :
    Calls Tryz.prog 3 #[.agg #[.int .i64 k, .int .i64 i, .int .i64 t, .string n, .string o, .string x, .int .i64 i1, .int .i64 i2, .int .i64 i3, .int .i64 i4, .int .i64 i5, .int .i64 i6, .int .i64 i7, .int .i64 i8, .int .i64 i9]] W
      fun e W' => e = .returned (.bool true) ∧ Below W.heap.size W W' := by
  obtain ⟨a, s, c, ty, c1, t1, c0, t0, hb1, hc1, hspot, hcell, hs, hb, hb0, hc0⟩ := of_laid hsh hl
  obtain ⟨ab, ao, asp⟩ := a
  have hspot' : asp = none := hspot
  subst hspot'
  obtain ⟨m, M', hrun⟩ := law_run k i t (nats n) (nats o) (nats x) i1 i2 i3 i4 i5 i6 i7 i8 i9
  have hF := eval_ok env3 sumsX3 (sumsF3 run1 run2) hrun ⟨W.heap.size, fun _ => False⟩
  let ι : Ren := fun j => if j ≤ 6 then some (j, 0, 1) else if j = 11 then some (ab, ao, 1) else none
  have hc2 : c[ao]? = some (.string s) := by
    unfold World.cell? at hcell
    simp only [hb] at hcell
    exact hcell
  have hao : ao + 1 ≤ c.size := by
    rcases Nat.lt_or_ge ao c.size with h | h
    · exact h
    · rw [Array.getElem?_eq_none h] at hc2; cases hc2
  have hne : ab ≠ 1 := by
    intro e
    subst e
    rw [hb1] at hb
    simp only [Option.some.injEq, Obj.cells.injEq] at hb
    obtain ⟨rfl, _⟩ := hb
    rw [hc1] at hc2
    rcases ao with _ | ao
    · simp at hc2
    · simp at hc2
  have hne0 : ab ≠ 0 := by
    intro e
    subst e
    rw [hb0] at hb
    simp only [Option.some.injEq, Obj.cells.injEq] at hb
    obtain ⟨rfl, _⟩ := hb
    rw [hc0] at hc2
    rcases ao with _ | ao
    · simp at hc2
    · simp at hc2
  have hget : ∀ id ob, M0.get id = some ob → id = 0 ∧ ob = .cells [.ifc 245 (.agg [.ptr 6 118])] true false ∨ id = 1 ∧ ob = .cells [.ifc 471 (.ptr 11 0)] true false ∨
      id = 11 ∧ ob = .cells [.str [110, 111, 32, 105, 109, 97, 103, 101]] true false := by
    intro id ob h
    have : M0.get id = if id = 11 then some (AObj.cells [.str [110, 111, 32, 105, 109, 97, 103, 101]] true false) else if id = 1 then some (.cells [.ifc 471 (.ptr 11 0)] true false) else if id = 0 then some (.cells [.ifc 245 (.agg [.ptr 6 118])] true false) else none := by
      unfold M0 AM.get
      dsimp only
      rw [Tr.get_set, Tr.get_set, Tr.get_set]
      rfl
    rw [this] at h
    split at h
    · rename_i e; cases h; exact Or.inr (Or.inr ⟨e, rfl⟩)
    · split at h
      · rename_i e; cases h; exact Or.inr (Or.inl ⟨e, rfl⟩)
      · split at h
        · rename_i e; cases h; exact Or.inl ⟨e, rfl⟩
        · cases h
  have hh : VR ι (.ptr 6 118) (.pointer (some ⟨6, 118, none⟩)) := by
    have := VR.ptr (ι := ι) (b := 6) (off := 118) (cb := 6) (base := 0) (room := 1) rfl
    simpa using this
  have hR : Rel ⟨W.heap.size, fun _ => False⟩ ι M0 W := by
    refine ⟨fun id ob cb base room h1 h2 => ?_, fun id id' ob ob' p p' hn h1 h1' h2 h2' => ?_, fun id hid => ?_, Nat.le_refl _, fun _ h => h.elim⟩
    · rcases hget id ob h1 with ⟨rfl, rfl⟩ | ⟨rfl, rfl⟩ | ⟨rfl, rfl⟩
      · cases h2
        refine ⟨⟨c0, t0, (0, 0), hb0, ?_, Nat.le_refl _, fun j v hj => ?_, Or.inl rfl, fun _ => rfl⟩, fun h => by cases h⟩
        · rw [hc0]; exact Nat.le_refl _
        · rcases j with _ | j
          · simp only [List.getElem?_cons_zero, Option.some.injEq] at hj
            subst hj
            exact ⟨.iface 245 (.agg #[.pointer (some ⟨6, 118, none⟩)]), by rw [hc0]; rfl, .ifc (.agg' (VRs.cons hh VRs.nil))⟩
          · simp at hj
      · cases h2
        refine ⟨⟨c1, t1, (0, 0), hb1, ?_, Nat.le_refl _, fun j v hj => ?_, Or.inl rfl, fun _ => rfl⟩, fun h => by cases h⟩
        · rw [hc1]; exact Nat.le_refl _
        · rcases j with _ | j
          · simp only [List.getElem?_cons_zero, Option.some.injEq] at hj
            subst hj
            refine ⟨.iface 471 (.pointer (some ⟨ab, ao, none⟩)), by rw [hc1]; rfl, .ifc ?_⟩
            have := VR.ptr (ι := ι) (b := 11) (off := 0) (cb := ab) (base := ao) (room := 1) rfl
            simpa using this
          · simp at hj
      · cases h2
        refine ⟨⟨c, ty, (0, 0), hb, hao, Nat.le_refl _, fun j v hj => ?_, Or.inl rfl, fun _ => rfl⟩, fun h => by cases h⟩
        rcases j with _ | j
        · simp only [List.getElem?_cons_zero, Option.some.injEq] at hj
          subst hj
          exact ⟨.string s, hc2, by rw [← hs]; exact .str s⟩
        · simp at hj
    · rcases hget id ob h1 with ⟨rfl, rfl⟩ | ⟨rfl, rfl⟩ | ⟨rfl, rfl⟩ <;> rcases hget id' ob' h1' with ⟨rfl, rfl⟩ | ⟨rfl, rfl⟩ | ⟨rfl, rfl⟩
      · exact absurd rfl hn
      · cases h2; cases h2'; decide
      · cases h2; cases h2'; exact fun e => hne0 e.symm
      · cases h2; cases h2'; decide
      · exact absurd rfl hn
      · cases h2; cases h2'; exact fun e => hne e.symm
      · cases h2; cases h2'; exact hne0
      · cases h2; cases h2'; exact hne
      · exact absurd rfl hn
    · have h8 : (100 : Nat) ≤ id := hid
      refine ⟨?_, ?_⟩
      · cases hg : M0.get id with
        | none => rfl
        | some ob => rcases hget id ob hg with ⟨rfl, _⟩ | ⟨rfl, _⟩ | ⟨rfl, _⟩ <;> omega
      · show (if id ≤ 6 then _ else _) = none
        rw [if_neg (by omega), if_neg (by omega)]
  have hG : Glob E3 ι := fun j hj => by
    have hj : j ≤ 6 := hj
    exact ⟨1, by show (if j ≤ 6 then _ else _) = _; rw [if_pos hj]⟩
  have hargs : VRs ι [opAV k i t (nats n) (nats o) (nats x) i1 i2 i3 i4 i5 i6 i7 i8 i9] (#[Value.agg #[.int .i64 k, .int .i64 i, .int .i64 t, .string n, .string o, .string x, .int .i64 i1, .int .i64 i2, .int .i64 i3, .int .i64 i4, .int .i64 i5, .int .i64 i6, .int .i64 i7, .int .i64 i8, .int .i64 i9]] : Array Value).toList :=
    VRs.cons (.agg' (VRs.cons (.int _ _) (VRs.cons (.int _ _) (VRs.cons (.int _ _) (VRs.cons (.str n) (VRs.cons (.str o) (VRs.cons (.str x) (VRs.cons (.int _ _) (VRs.cons (.int _ _) (VRs.cons (.int _ _) (VRs.cons (.int _ _) (VRs.cons (.int _ _) (VRs.cons (.int _ _) (VRs.cons (.int _ _) (VRs.cons (.int _ _) (VRs.cons (.int _ _) VRs.nil)))))))))))))))) VRs.nil
  intro cs
  obtain ⟨ι', w', fr, hpost, hfn, hend⟩ := hF ι W _ hR hG hargs cs
  obtain ⟨v', hv', hsteps, hleave⟩ := hend
  cases hv'
  exact ⟨.returned (.bool true), w', fr, ⟨rfl, ⟨hpost.fr.os, hpost.fr.tape, hpost.fr.out, hpost.fr.size, fun k hk => hpost.fr.heap k hk⟩⟩, hsteps, hfn, hleave⟩
end Go.Proofs.YtelddmmkaofiaaaGreatDoor
