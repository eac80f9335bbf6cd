/-
  A part of the proof of YtelddmmkaofiaaaGreatDoor: for every input the law answers true (a machine over names of blocks, its soundness, and the run of the law). No condition beyond the given statement's.
-/
import Derived.Test.YtelddmmkaofiaaaGreatDoorX22
import Derived.Test.YtelddmmkaofiaaaGreatDoorTie
import Derived.Test.YtelddmmkaofiaaaGreatDoorCards
import Derived.SevenTiedAt
set_option linter.unusedVariables false
set_option linter.unusedSimpArgs false
set_option linter.unusedSectionVars false
open Go Go.Abm Go.Abm.Seat
namespace Go.Proofs.YtelddmmkaofiaaaGreatDoor
open Go.ChangeShapes Go.WideShapes Go.ChangeAt Go.WideMaps Go.WideElems Go.RowKit
set_option maxRecDepth 100000

theorem laidOut : laidOutB Tryz.prog = true := by kernel_rfl

theorem door_met (os : Os) (args : Array Value) : laidMetH Tryz.prog Rows.coreNilsRow.laid ((World.doorLaid Tryz.prog 4000 os).forCall (fun _ _ => 0) ⟨#[], args, []⟩).memory :=
  laidMetH_of_parts3 (fuel := 8) (laidMet_of_run' 8 (by kernel_rfl) (by kernel_rfl)) (by kernel_rfl) (by kernel_rfl)

theorem int_of {W : World} {base : Nat} {v : Value} (h : Cell.okWide Tryz.prog W .any base 3 v) : ∃ n, v = .int .i64 n := by
  unfold Cell.okWide at h
  simp only [Tryz.underlying3] at h
  unfold Cell.ok at h
  simp only [Tryz.underlying3] at h
  split at h <;> first | exact h.elim | (cases h; exact ⟨_, rfl⟩) | (simp_all)
theorem str_of {W : World} {base : Nat} {v : Value} (h : Cell.okWide Tryz.prog W .any base 9 v) : ∃ s, v = .string s := by
  unfold Cell.okWide at h
  simp only [Tryz.underlying9] at h
  unfold Cell.ok at h
  simp only [Tryz.underlying9] at h
  split at h <;> first | exact h.elim | (cases h; exact ⟨_, rfl⟩) | (simp_all)
theorem opCells : Tryz.prog.cellTypes Tryz.prog.depth 25 = some [3, 3, 3, 9, 9, 9, 3, 3, 3, 3, 3, 3, 3, 3, 3] := by kernel_rfl
theorem opSize : Tryz.prog.cellsOf 25 = 15 := by kernel_rfl
theorem opStruct : (match Tryz.prog.underlying 25 with | some (.struct _) | some (.array _ _) => true | _ => false) = true := by kernel_rfl
theorem op_forms {W : World} {base : Nat} {v : Value} (h : Value.okWide Tryz.prog W .any base 25 v) :
    ∃ (k i t : Int) (n o x : ByteArray) (i1 i2 i3 i4 i5 i6 i7 i8 i9 : Int), v = .agg #[.int .i64 k, .int .i64 i, .int .i64 t, .string n, .string o, .string x, .int .i64 i1, .int .i64 i2, .int .i64 i3, .int .i64 i4, .int .i64 i5, .int .i64 i6, .int .i64 i7, .int .i64 i8, .int .i64 i9] := by
  have h' : ∃ cs, v = .agg cs ∧ cs.size = Tryz.prog.cellsOf 25 ∧ Row.okWide Tryz.prog W .any base 25 cs := by
    have hs := opStruct
    unfold Value.okWide at h
    split at h
    · exact h
    · exact h
    · rename_i e1 e2
      split at hs
      · rename_i fs e; exact absurd e (e1 fs)
      · rename_i a b e; exact absurd e (e2 a b)
      · cases hs
  obtain ⟨cs, rfl, hsz, ts, hts, _, hcells⟩ := h'
  obtain rfl := Option.some.inj (opCells.symm.trans hts)
  rw [opSize] at hsz
  obtain ⟨l⟩ := cs
  have hl : l.length = 15 := hsz
  match l, hl with
  | [a0, a1, a2, a3, a4, a5, a6, a7, a8, a9, a10, a11, a12, a13, a14], _ =>
    have f : ∀ (i : Nat) (v : Value) (u : TypeId), [a0, a1, a2, a3, a4, a5, a6, a7, a8, a9, a10, a11, a12, a13, a14][i]? = some v → [3, 3, 3, 9, 9, 9, 3, 3, 3, 3, 3, 3, 3, 3, 3][i % 15]? = some u → Cell.okWide Tryz.prog W .any base u v := fun i v u h1 h2 => by
      obtain ⟨u', h3, h4⟩ := hcells i v (by simpa using h1)
      obtain rfl := Option.some.inj (h2.symm.trans h3)
      exact h4
    obtain ⟨b0, rfl⟩ := int_of (f 0 a0 3 rfl rfl)
    obtain ⟨b1, rfl⟩ := int_of (f 1 a1 3 rfl rfl)
    obtain ⟨b2, rfl⟩ := int_of (f 2 a2 3 rfl rfl)
    obtain ⟨b3, rfl⟩ := str_of (f 3 a3 9 rfl rfl)
    obtain ⟨b4, rfl⟩ := str_of (f 4 a4 9 rfl rfl)
    obtain ⟨b5, rfl⟩ := str_of (f 5 a5 9 rfl rfl)
    obtain ⟨b6, rfl⟩ := int_of (f 6 a6 3 rfl rfl)
    obtain ⟨b7, rfl⟩ := int_of (f 7 a7 3 rfl rfl)
    obtain ⟨b8, rfl⟩ := int_of (f 8 a8 3 rfl rfl)
    obtain ⟨b9, rfl⟩ := int_of (f 9 a9 3 rfl rfl)
    obtain ⟨b10, rfl⟩ := int_of (f 10 a10 3 rfl rfl)
    obtain ⟨b11, rfl⟩ := int_of (f 11 a11 3 rfl rfl)
    obtain ⟨b12, rfl⟩ := int_of (f 12 a12 3 rfl rfl)
    obtain ⟨b13, rfl⟩ := int_of (f 13 a13 3 rfl rfl)
    obtain ⟨b14, rfl⟩ := int_of (f 14 a14 3 rfl rfl)
    exact ⟨b0, b1, b2, b3, b4, b5, b6, b7, b8, b9, b10, b11, b12, b13, b14, rfl⟩

theorem lifted (os : Os) (started : os.Started) (H : Type) (enc : TypeId × Value → H) :
    ReturnsInHanded {} Tryz.checked os 3 .any (fun w args => (Rows.coreNilsSpec.pre enc Tryz.prog Go.Proofs.Tryz.f3 [] false w args ∧ laidMetH Tryz.prog Rows.coreNilsRow.laid w) ∧ sizedMet enc Tryz.prog Go.Proofs.Tryz.f3 (OpenSpec.ofChange Rows.coreNilsSpec) false w args)
      (Rows.coreNilsSpec.post enc Tryz.prog Go.Proofs.Tryz.f3 false true false false) := by
  refine returnsInHanded_of_calls (C := Tryz.checked) own started (by kernel_rfl)
    (ChangeSpec.witness_shaped (enc := enc) (C := Tryz.checked) (os := os) (X := fun w _ => laidMetH Tryz.prog Rows.coreNilsRow.laid w) false (World.doorLaid Tryz.prog 4000 os) #[.agg #[.int .i64 0, .int .i64 0, .int .i64 0, .string ⟨#[]⟩, .string ⟨#[]⟩, .string ⟨#[]⟩, .int .i64 0, .int .i64 0, .int .i64 0, .int .i64 0, .int .i64 0, .int .i64 0, .int .i64 0, .int .i64 0, .int .i64 0]] 8 rfl (World.shaped_of_RefB (by kernel_rfl) (by kernel_rfl)) (by kernel_rfl) (by kernel_rfl) (by kernel_rfl) (door_met os _)) ?_
  intro w tape inp _ hopen _ hok hpre _
  obtain ⟨_, _, _, fn', hfn', _, _, _, _, hval1⟩ := hok
  obtain rfl : fn' = Go.Proofs.Tryz.f3 := Option.some.inj (hfn'.symm.trans Go.Proofs.Tryz.func3)
  obtain ⟨⟨⟨ds, gs, before, hw1, hc⟩, hx⟩, hz⟩ := hpre
  have hW := DataW.Whole.of_heap (w' := w.forCall tape inp) (by rfl) hw1
  have hL : laidMetH Tryz.prog Rows.coreNilsRow.laid (w.forCall tape inp) := hx.of_heap (by rfl)
  generalize w.forCall tape inp = W at hopen hW hL hval1
  generalize w.heap.size = base at hval1
  generalize inp.args = args at hW hval1
  have hval : ∀ (j : Nat) t v, Go.Proofs.Tryz.f3.params[j]? = some t → args[j]? = some v → Value.okWide Tryz.prog W .any base t v := hval1
  suffices hh : Calls Tryz.prog 3 args W fun e W' => ∃ v, e = .returned v ∧ Rows.coreNilsSpec.post enc Tryz.prog Go.Proofs.Tryz.f3 false true false false W args v W' from
    hh.mono fun e W' ⟨v, he, hp⟩ => by subst he; exact ChangeSpec.post_blind hp
  have hW' := hW
  obtain ⟨p, q, hA0, hV, rfl, hfz, hnd⟩ := hW
  have hA : DataW.TrodAll enc Tryz.prog W 0 (fun _ => true) true Go.Proofs.Tryz.f3.params.toList args.toList ds p := hA0
  rw [Tryz.params3] at hA hval
  obtain ⟨v0, d0, rfl, rfl, h0⟩ := trodAll_one hA
  obtain ⟨rfl, rfl⟩ := trodVars_none hV
  obtain ⟨k, i, t, n, o, x, i1, i2, i3, i4, i5, i6, i7, i8, i9, rfl⟩ := op_forms (hval 0 25 v0 rfl rfl)
  refine (row_run hopen hL k i t n o x i1 i2 i3 i4 i5 i6 i7 i8 i9).mono fun e W' ⟨he, hb⟩ => ?_
  subst he
  have hlt : ∀ x ∈ p, x.block < W.heap.size := fun x hx => hW'.lt x (by simp [hx])
  refine ⟨_, rfl, _, _, _, [], p, [], hW', ?_, ?_, ?_, ?_, fun h => by cases h⟩
  · exact trodAll_mk1 (shut_bool Tryz.underlying4 true)
  · exact trodAll_mk1 (Below.trod laidOut (by kernel_rfl) (of_decide_eq_true (by kernel_rfl)) h0 hb hlt)
  · rfl
  · refine ⟨hb.os, hb.output, fun i hi => ?_⟩
    rw [hb.block i hi]
    generalize W.heap[i]? = x
    cases x with
    | none => rfl
    | some o =>
      cases o with
      | cells c t fr => exact ⟨rfl, rfl, rfl, fun _ _ => rfl⟩
      | map es clock => exact Or.inr ⟨rfl, rfl⟩
      | _ => rfl

end Go.Proofs.YtelddmmkaofiaaaGreatDoor
