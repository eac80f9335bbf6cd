/-
  A part of the proof that pumicelaw17.StoreOpens returns true for every geometry, key, number and group (a machine over names of blocks, its soundness, the calls of the store for any geometry, the chapter's example as a run). Condition: the listed package variables hold what the program's text lays; the card ties that.
-/
import Derived.Test.YtcfpoldckjmbdaaGreatDoorX37
import Derived.Test.YtcfpoldckjmbdaaGreatDoorRows
import Derived.ProofKit
import Derived.LaidMore
import Derived.OpenShut
import Derived.Stop.Joined
set_option linter.unusedVariables false
set_option linter.unusedSimpArgs false
set_option linter.unusedSectionVars false
open Go Go.Abm Go.Abm.Seat
namespace Go.Proofs.YtcfpoldckjmbdaaGreatDoor
open Go.ChangeShapes Go.WideShapes Go.ChangeAt Go.WideMaps Go.WideElems Go.RowKit
set_option maxRecDepth 100000
theorem own : ownKnob Tryz.prog.godebug = none := by kernel_rfl
theorem gErr : Tryz.prog.globalNamed "pumice/header.errNone" = some 1 := by kernel_rfl
theorem gErrType : (Tryz.prog.globals[1]?).map (·.type) = some 63 := by kernel_rfl
theorem starES : "*" ++ "errors.errorString" = "*errors.errorString" := by decide
theorem rowES (u : TypeId) (h : Tryz.prog.typeName? 3 u = some "*errors.errorString") : u = 480 :=
  typeName_ptr_named (nm := "errors.errorString") (by rw [starES]; kernel_rfl) (by kernel_rfl) (by decide) u (by rw [starES]; exact h)
theorem cellsES : Tryz.prog.cellsOf 482 = 1 := by kernel_rfl
theorem cellsS : Tryz.prog.cellsOf 9 = 1 := by kernel_rfl
theorem of_laid {W : World} (h : laidMetH Tryz.prog Rows.storeOpensRow.laid W) :
    ∃ (a : Addr) (s : ByteArray) (c : Array Value) (t : TypeId) (c1 : Array Value) (t1 : TypeId), W.heap[1]? = some (.cells c1 t1 (0, 0)) ∧ c1 = #[.iface 480 (.pointer (some a))] ∧ a.spot = none ∧
      W.cell? a = some (.string s) ∧ nats s = [110, 111, 32, 105, 109, 97, 103, 101] ∧ W.heap[a.block]? = some (.cells c t (0, 0)) := by
  have h' : laidMet Tryz.prog [("math/bits.deBruijn32tab", Rows.laid_math_bits_deBruijn32tab), ("math/bits.deBruijn64tab", Rows.laid_math_bits_deBruijn64tab), ("internal/strconv.uint64pow10", Rows.laid_internal_strconv_uint64pow10), ("unicode/utf8.acceptRanges", Rows.laid_unicode_utf8_acceptRanges), ("pumice/header.errNone", Rows.laid_pumice_header_errNone), ("strconv.ErrRange", Rows.laid_strconv_ErrRange), ("strconv.ErrSyntax", Rows.laid_strconv_ErrSyntax), ("unicode/utf8.first", Rows.laid_unicode_utf8_first)] W ∧ _ := h
  obtain ⟨⟨ps, ⟨g1, t1, cs1, f1, p1, q1, hg1, ht1, hv1, hd1, ⟨g2, t2, cs2, f2, p2, q2, hg2, ht2, hv2, hd2, ⟨g3, t3, cs3, f3, p3, q3, hg3, ht3, hv3, hd3, ⟨g5, t5, cs5, f5, p5, q5, hg5, ht5, hv5, hd5, ⟨g4, t4, cs4, f4, p4, q4, hg4, ht4, hv4, hd4, hq4, e4⟩, e5⟩, e3⟩, e2⟩, e1⟩, hnd, hrows⟩, _⟩ := h'
  obtain rfl := Option.some.inj (gErr.symm.trans hg4)
  obtain rfl := Option.some.inj (gErrType.symm.trans ht4)
  subst e4
  subst e5
  subst e3
  subst e2
  subst e1
  obtain ⟨l4⟩ := cs4
  have ok4 : ∀ u v, l4 = [.iface u v] → Value.okWide Tryz.prog W .any 0 u v := fun u v e => by
    subst e
    exact (hrows 1 0 (by simp [MemPlace.row])).2 u v (by simpa using World.var?_cell hg4 hv4 0)
  obtain ⟨a, s, rfl, hc0, hs0, hz0, rfl⟩ := errorString_of_trod Tryz.underlying63 rowES Tryz.underlying480 Tryz.underlying482 rfl rfl Tryz.underlying9 cellsES cellsS hd4 ok4
  obtain ⟨c, t, hb⟩ := (hrows a.block a.off (by simp [MemPlace.row])).1
  obtain ⟨c1, t1, hb1⟩ := (hrows 1 0 (by simp [MemPlace.row])).1
  have hc1 : c1 = #[.iface 480 (.pointer (some a))] := by
    have := hv4
    unfold World.var? at this
    rw [hg4] at this
    simp only [Option.bind_some, hb1] at this
    exact Option.some.inj this
  have hspot : a.spot = none := by
    have ok := ok4 _ _ rfl
    unfold Value.okWide at ok
    simp only [Tryz.underlying480] at ok
    unfold Cell.okWide at ok
    simp only [Tryz.underlying480] at ok
    exact ok.2.1
  refine ⟨a, s, c, t, c1, t1, hb1, hc1, hspot, hc0, ?_, hb⟩
  unfold nats
  rw [hs0]
  rfl
theorem slice_forms {P : Program} {W : World} {base : Nat} {t e : TypeId} {v : Value} (hu : P.underlying t = some (.slice e)) (h : Value.okWide P W .any base t v) :
    v = .slice none 0 0 ∨ ∃ b o len cap, v = .slice (some ⟨b, o, none⟩) len cap := by
  unfold Value.okWide at h
  simp only [hu] at h
  unfold Cell.okWide at h
  simp only [hu] at h
  unfold Cell.ok at h
  simp only [hu] at h
  split at h <;> try exact h.elim
  all_goals first
    | exact Or.inl rfl
    | (rename_i e' a len cap he
       obtain ⟨b, o, sp⟩ := a
       have : sp = none := h.2.2.2.1
       subst this
       exact Or.inr ⟨b, o, len, cap, rfl⟩)
    | (rename_i he; cases he)
    | skip
theorem row_run {W : World} (hl : laidMetH Tryz.prog Rows.storeOpensRow.laid W) (x1 x2 x3 x4 : Int) (k : ByteArray) (n : Int) (g : Value) (hg : g = .slice none 0 0 ∨ ∃ b o len cap, g = .slice (some ⟨b, o, none⟩) len cap) :
    Calls Tryz.prog 3 #[.agg #[.int .i64 x1, .int .i64 x2, .int .i64 x3, .int .i64 x4], .string k, .int .i64 n, g] W fun e W' => e = .returned (.bool true) ∧ Below W.heap.size W W' := by
  obtain ⟨a, s, c, t, c1, t1, hb1, hc1, hspot, hcell, hs, hb⟩ := of_laid hl
  obtain ⟨gb, go, av, hav⟩ : ∃ (gb go : Nat) (av : AV), ∀ ι : Ren, ι 12 = some (gb, go, 0) → VR ι av g := by
    rcases hg with rfl | ⟨b, o, len, cap, rfl⟩
    · exact ⟨0, 0, .nils, fun _ _ => .nils⟩
    · exact ⟨b, o, .sl 12 0 len cap none, fun ι h => by simpa using VR.sle (ι := ι) (b := 12) (off := 0) (len := len) (cap := cap) h⟩
  obtain ⟨ab, ao, asp⟩ := a
  have hspot' : asp = none := hspot
  subst hspot'
  obtain ⟨m, M', hrun⟩ := law_run x1 x2 x3 x4 n (nats k) av
  have hF := eval_ok (envL l4) (sumsXL good4) (sumsFL good4) hrun ⟨fun b => b < W.heap.size, fun _ => False⟩
  let ι : Ren := fun j => if j ≤ 10 then some (j, 0, 1) else if j = 11 then some (ab, ao, 1) else if j = 12 then some (gb, go, 0) else none
  have hc2 : c[ao]? = some (.string s) := by
    unfold World.cell? at hcell
    simp only [hb] at hcell
    exact hcell
  have hao : ao + 1 ≤ c.size := by
    rcases Nat.lt_or_ge ao c.size with h | h
    · exact h
    · rw [Array.getElem?_eq_none h] at hc2; cases hc2
  have hne : ab ≠ 1 := by
    intro e
    subst e
    rw [hb1] at hb
    simp only [Option.some.injEq, Obj.cells.injEq] at hb
    obtain ⟨rfl, _⟩ := hb
    rw [hc1] at hc2
    rcases ao with _ | ao
    · simp at hc2
    · simp at hc2
  have hget : ∀ id o, M0.get id = some o → id = 1 ∧ o = .cells [.ifc 480 (.ptr 11 0)] true false ∨ id = 11 ∧ o = .cells [.str [110, 111, 32, 105, 109, 97, 103, 101]] true false := by
    intro id o h
    rcases litT_get LQ .leaf id o h with h | h
    · rcases List.mem_cons.1 h with h | h
      · cases h; exact Or.inl ⟨rfl, rfl⟩
      · rcases List.mem_cons.1 h with h | h
        · cases h; exact Or.inr ⟨rfl, rfl⟩
        · cases h
    · cases h
  have hR : Rel ⟨fun b => b < W.heap.size, fun _ => False⟩ ι M0 W := by
    refine ⟨fun id o cb base room h1 h2 => ?_, fun id id' o o' p p' hn h1 h1' h2 h2' => ?_, fun id hid => ?_, fun _ h => h, fun _ h => h.elim⟩
    · rcases hget id o h1 with ⟨rfl, rfl⟩ | ⟨rfl, rfl⟩
      · cases h2
        refine ⟨⟨c1, t1, (0, 0), hb1, ?_, Nat.le_refl _, fun j v hj => ?_, Or.inl rfl, fun _ => rfl⟩, fun h => by cases h⟩
        · rw [hc1]; exact Nat.le_refl _
        · rcases j with _ | j
          · simp only [List.getElem?_cons_zero, Option.some.injEq] at hj
            subst hj
            refine ⟨.iface 480 (.pointer (some ⟨ab, ao, none⟩)), by rw [hc1]; rfl, .ifc ?_⟩
            have := VR.ptr (ι := ι) (b := 11) (off := 0) (cb := ab) (base := ao) (room := 1) rfl
            simpa using this
          · simp at hj
      · cases h2
        refine ⟨⟨c, t, (0, 0), hb, hao, Nat.le_refl _, fun j v hj => ?_, Or.inl rfl, fun _ => rfl⟩, fun h => by cases h⟩
        rcases j with _ | j
        · simp only [List.getElem?_cons_zero, Option.some.injEq] at hj
          subst hj
          exact ⟨.string s, hc2, by rw [← hs]; exact .str s⟩
        · simp at hj
    · rcases hget id o h1 with ⟨rfl, rfl⟩ | ⟨rfl, rfl⟩ <;> rcases hget id' o' h1' with ⟨rfl, rfl⟩ | ⟨rfl, rfl⟩
      · exact absurd rfl hn
      · cases h2; cases h2'; exact fun e => hne e.symm
      · cases h2; cases h2'; exact hne
      · exact absurd rfl hn
    · have h8 : (100 : Nat) ≤ id := hid
      refine ⟨?_, ?_⟩
      · cases hg : M0.get id with
        | none => rfl
        | some o => rcases hget id o hg with ⟨rfl, _⟩ | ⟨rfl, _⟩ <;> omega
      · show (if id ≤ 10 then _ else _) = none
        rw [if_neg (by omega), if_neg (by omega), if_neg (by omega)]
  have hG : Glob (mkL l4) ι := fun j hj => by
    have hj : j ≤ 10 := hj
    exact ⟨1, by show (if j ≤ 10 then _ else _) = _; rw [if_pos hj]⟩
  have hargs : VRs ι [.agg [.int .i64 x1, .int .i64 x2, .int .i64 x3, .int .i64 x4], .str (nats k), .int .i64 n, av] (#[Value.agg #[.int .i64 x1, .int .i64 x2, .int .i64 x3, .int .i64 x4], .string k, .int .i64 n, g] : Array Value).toList := VRs.cons (.agg' (VRs.cons (.int _ _) (VRs.cons (.int _ _) (VRs.cons (.int _ _) (VRs.cons (.int _ _) VRs.nil))))) (VRs.cons (.str k) (VRs.cons (.int _ _) (VRs.cons (hav ι rfl) VRs.nil)))
  intro cs
  obtain ⟨ι', w', fr, hpost, hfn, hend⟩ := hF ι W _ hR hG hargs cs
  obtain ⟨v', hv', hsteps, hleave⟩ := hend
  cases hv'
  exact ⟨.returned (.bool true), w', fr, ⟨rfl, ⟨hpost.fr.os, hpost.fr.tape, hpost.fr.out, hpost.fr.size, fun k hk => hpost.fr.heap k hk⟩⟩, hsteps, hfn, hleave⟩
end Go.Proofs.YtcfpoldckjmbdaaGreatDoor
