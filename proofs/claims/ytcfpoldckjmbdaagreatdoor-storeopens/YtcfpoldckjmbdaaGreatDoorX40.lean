/-
  A part of the proof that pumicelaw17.StoreOpens returns true for every geometry, key, number and group (a machine over names of blocks, its soundness, the calls of the store for any geometry, the chapter's example as a run). Condition: the listed package variables hold what the program's text lays; the card ties that.
-/
import Derived.Test.YtcfpoldckjmbdaaGreatDoorX38
import Derived.Test.YtcfpoldckjmbdaaGreatDoorTie
import Derived.Test.YtcfpoldckjmbdaaGreatDoorCards
import Derived.SevenTiedAt
import Derived.Carry
import Derived.Lay
set_option linter.unusedVariables false
set_option linter.unusedSimpArgs false
set_option linter.unusedSectionVars false
open Go Go.Abm Go.Abm.Seat
namespace Go.Proofs.YtcfpoldckjmbdaaGreatDoor
open Go.ChangeShapes Go.WideShapes Go.ChangeAt Go.WideMaps Go.WideElems Go.RowKit
set_option maxRecDepth 100000
theorem laidOut : laidOutB Tryz.prog = true := by kernel_rfl
noncomputable def wW (os : Os) : World := (World.doorLaid Tryz.prog 4000 os).layVars Tryz.prog [("unicode/utf8.first", Rows.laid_unicode_utf8_first)]
theorem wW_os (os : Os) : (wW os).os = os := World.layVars_os _ _ _
theorem great : ((Rows.storeOpensRow.laid.filter fun x => x.2.handleName?.isNone).filter fun x => ["unicode/utf8.first"].contains x.1) = [("unicode/utf8.first", Rows.laid_unicode_utf8_first)] := by kernel_rfl
theorem door_met (os : Os) (args : Array Value) : laidMetH Tryz.prog Rows.storeOpensRow.laid ((wW os).forCall (fun _ _ => 0) ⟨#[], args, []⟩).memory :=
  laidMetH_of_parts3 (fuel := 8) (laidMet_layVars (w0 := World.doorLaid Tryz.prog 4000 os) ["unicode/utf8.first"] [0, 1, 2, 3, 4, 5, 7, 8, 9, 10, 11, 12, 13, 14, 15, 16, 17]
    (by rw [great]; simp [wW, World.memory, World.forCall, Input.heap]) (by rw [great]; kernel_rfl) (by rw [great]; kernel_rfl) (LaidIn.of_run _ 8 (by kernel_rfl) (by kernel_rfl) (by kernel_rfl) (by kernel_rfl))) (by kernel_rfl) (by kernel_rfl)
theorem int_of {W : World} {base : Nat} {v : Value} (h : Cell.okWide Tryz.prog W .any base 3 v) : ∃ n, v = .int .i64 n := by
  unfold Cell.okWide at h
  simp only [Tryz.underlying3] at h
  unfold Cell.ok at h
  simp only [Tryz.underlying3] at h
  split at h <;> first | exact h.elim | (cases h; exact ⟨_, rfl⟩) | (simp_all)
theorem geoCells : Tryz.prog.cellTypes Tryz.prog.depth 23 = some [3, 3, 3, 3] := by kernel_rfl
theorem geoSize : Tryz.prog.cellsOf 23 = 4 := by kernel_rfl
theorem geoStruct : (match Tryz.prog.underlying 23 with | some (.struct _) | some (.array _ _) => true | _ => false) = true := by kernel_rfl
theorem geo_forms {W : World} {base : Nat} {v : Value} (h : Value.okWide Tryz.prog W .any base 23 v) :
    ∃ (a b c d : Int), v = .agg #[.int .i64 a, .int .i64 b, .int .i64 c, .int .i64 d] := by
  have h' : ∃ cs, v = .agg cs ∧ cs.size = Tryz.prog.cellsOf 23 ∧ Row.okWide Tryz.prog W .any base 23 cs := by
    have hs := geoStruct
    unfold Value.okWide at h
    split at h
    · exact h
    · exact h
    · rename_i e1 e2
      split at hs
      · rename_i fs e; exact absurd e (e1 fs)
      · rename_i a b e; exact absurd e (e2 a b)
      · cases hs
  obtain ⟨cs, rfl, hsz, ts, hts, _, hcells⟩ := h'
  obtain rfl := Option.some.inj (geoCells.symm.trans hts)
  rw [geoSize] at hsz
  obtain ⟨l⟩ := cs
  have hl : l.length = 4 := hsz
  match l, hl with
  | [a0, a1, a2, a3], _ =>
    have f : ∀ (i : Nat) (v : Value) (u : TypeId), [a0, a1, a2, a3][i]? = some v → [3, 3, 3, 3][i % 4]? = some u → Cell.okWide Tryz.prog W .any base u v := fun i v u h1 h2 => by
      obtain ⟨u', h3, h4⟩ := hcells i v (by simpa using h1)
      obtain rfl := Option.some.inj (h2.symm.trans h3)
      exact h4
    obtain ⟨b0, rfl⟩ := int_of (f 0 a0 3 rfl rfl)
    obtain ⟨b1, rfl⟩ := int_of (f 1 a1 3 rfl rfl)
    obtain ⟨b2, rfl⟩ := int_of (f 2 a2 3 rfl rfl)
    obtain ⟨b3, rfl⟩ := int_of (f 3 a3 3 rfl rfl)
    exact ⟨b0, b1, b2, b3, rfl⟩
theorem lifted (os : Os) (started : os.Started) (H : Type) (enc : TypeId × Value → H) :
    ReturnsInHanded {} Tryz.checked os 3 .any (fun w args => (Rows.storeOpensSpec.pre enc Tryz.prog Go.Proofs.Tryz.f3 [] false w args ∧ laidMetH Tryz.prog Rows.storeOpensRow.laid w) ∧ sizedMet enc Tryz.prog Go.Proofs.Tryz.f3 (OpenSpec.ofChange Rows.storeOpensSpec) false w args)
      (Rows.storeOpensSpec.post enc Tryz.prog Go.Proofs.Tryz.f3 false true false false) := by
  refine returnsInHanded_of_change_and (C := Tryz.checked) (X := fun w _ => laidMetH Tryz.prog Rows.storeOpensRow.laid w) (fun _ _ _ hh h => h.of_heap hh) own started (by kernel_rfl) Go.Proofs.Tryz.func3
    (ChangeSpec.witness_shaped (enc := enc) (C := Tryz.checked) (os := os) (X := fun w _ => laidMetH Tryz.prog Rows.storeOpensRow.laid w) false (wW os) #[.agg #[.int .i64 0, .int .i64 0, .int .i64 0, .int .i64 0], .string ⟨#[]⟩, .int .i64 0, .slice none 0 0] 8 (wW_os os) (World.shaped_of_ZipB (by kernel_rfl) (by kernel_rfl)) (by kernel_rfl) (by kernel_rfl) (by kernel_rfl) (door_met os _)) ?_
  intro W base args ds gs before hval0 hW _ _ hL _
  have hval : ∀ (j : Nat) t v, Go.Proofs.Tryz.f3.params[j]? = some t → args[j]? = some v → Value.okWide Tryz.prog W .any base t v := hval0
  have hW' := hW
  obtain ⟨p, q, hA0, hV, rfl, hfz, hnd⟩ := hW
  have hA : DataW.TrodAll enc Tryz.prog W 0 (fun _ => true) true Go.Proofs.Tryz.f3.params.toList args.toList ds p := hA0
  rw [Tryz.params3] at hA hval
  obtain ⟨v0, v1, v2, v3, d0, d1, d2, d3, p0, p1, p2, p3, rfl, rfl, rfl, h0, h1, h2, h3⟩ := trodAll_four hA
  obtain ⟨rfl, rfl⟩ := trodVars_none hV
  obtain ⟨x1, x2, x3, x4, rfl⟩ := geo_forms (hval 0 23 v0 rfl rfl)
  obtain ⟨s, rfl, rfl, rfl, hs⟩ := ChangeMaps.open_string Tryz.underlying9 (hval 1 9 v1 rfl rfl) h1
  obtain ⟨n, rfl, rfl, rfl, hn⟩ := open_int Tryz.underlying3 (hval 2 3 v2 rfl rfl) h2
  have hg := slice_forms Tryz.underlying24 (hval 3 24 v3 rfl rfl)
  refine (row_run hL x1 x2 x3 x4 s n v3 hg).mono fun e W' ⟨he, hb⟩ => ?_
  subst he
  have hlt0 : ∀ x ∈ p0, x.block < W.heap.size := fun x hx => hW'.lt x (by simp [hx])
  have hlt3 : ∀ x ∈ p3, x.block < W.heap.size := fun x hx => hW'.lt x (by simp [hx])
  simp only [List.append_nil] at hW'
  refine ⟨_, rfl, _, _, _, [], p0 ++ p3, [], hW', ?_, ?_, ?_, ?_, fun h => by cases h⟩
  · exact trodAll_mk1 (shut_bool Tryz.underlying4 true)
  · have h4 := trodAll_mk4 (Below.trod laidOut (by kernel_rfl) (of_decide_eq_true (by kernel_rfl)) h0 hb hlt0) (ChangeMaps.shut_string Tryz.underlying9 hs) (shut_int Tryz.underlying3 hn) (Below.trod laidOut (by kernel_rfl) (of_decide_eq_true (by kernel_rfl)) h3 hb hlt3)
    simp only [List.nil_append, List.append_nil] at h4
    exact h4
  · rfl
  · refine ⟨hb.os, hb.output, fun i hi => ?_⟩
    rw [hb.block i hi]
    generalize W.heap[i]? = x
    cases x with
    | none => rfl
    | some o =>
      cases o with
      | cells c t fr => exact ⟨rfl, rfl, rfl, fun _ _ => rfl⟩
      | map es clock => exact Or.inr ⟨rfl, rfl⟩
      | _ => rfl
end Go.Proofs.YtcfpoldckjmbdaaGreatDoor
