/-
  A part of the proof that pumicelaw17.StoreOpens returns true for every geometry, key, number and group (a machine over names of blocks, its soundness, the calls of the store for any geometry, the chapter's example as a run). Condition: the listed package variables hold what the program's text lays; the card ties that.
-/
import Derived.Test.YtcfpoldckjmbdaaGreatDoorX03
set_option linter.unusedVariables false
set_option linter.unusedSimpArgs false
set_option linter.unusedSectionVars false
namespace Go.Abm
theorem sliceElem_under {E : Env} {t e : TypeId} (h : asliceElem E t = some e) : E.under t = some (.slice e) := by
  unfold asliceElem at h
  split at h
  · rename_i h'; cases h; exact h'
  · cases h
theorem first_ok {P : Program} {B : Bd} {ι : Ren} {M : AM} {w : World} (hR : Rel B ι M w) {size n : Nat} {x : AV} {x' : Value} {l : List AV}
    (h : afirst M size n x = some l) (hv : VR ι x x') : ∃ arr, (Builtin.firstCells size n x').run P w = .ok arr w ∧ VRs ι l arr.toList := by
  unfold afirst at h
  split at h
  · cases h; cases hv; exact ⟨#[], rfl, VRs.nil⟩
  · rename_i s
    cases h
    cases hv with
    | str s =>
    refine ⟨((s.extract 0 n).data.map fun b => .int .u8 b.toNat), rfl, ?_⟩
    have e : (s.extract 0 n).data = s.data.extract 0 n := ByteArray.data_extract
    rw [e]
    refine ⟨by simp [nats], fun i v v' a b => ?_⟩
    simp only [nats, List.getElem?_map, List.map_take, List.map_map] at a
    simp only [Array.toList_map, Array.toList_extract, List.getElem?_map] at b
    rw [List.getElem?_take] at a
    simp only [List.extract, List.drop_zero, Nat.sub_zero, List.getElem?_take] at b
    split at a
    · rename_i hi
      rw [if_pos hi] at b
      simp only [List.getElem?_map] at a
      cases hc : s.data.toList[i]? with
      | none => rw [hc] at a; cases a
      | some c => rw [hc] at a b; cases a; cases b; exact .int _ _
    · cases a
  · rename_i b off len cap gr
    cases hn : Nat.beq n 0 with
    | true =>
      have := beq_of hn
      subst this
      rw [hn] at h
      cases h
      refine ⟨#[], ?_, VRs.nil⟩
      cases hv <;> simp [Builtin.firstCells, loadCells, loadCellsFrom]
    | false =>
      have hn0 := beq_not hn
      rw [hn] at h
      simp only [cond_false] at h
      obtain ⟨hcap, h⟩ := cond_some_inv h
      have hcap := ble_of hcap
      split at h
      · rename_i l' hc
        obtain ⟨hle, h⟩ := cond_some_inv h
        have hle := ble_of hle
        cases h
        have key : ∀ {cb base room o : Nat}, ι b = some (cb, base, room) → o = base + off →
            ∃ arr, (loadCells ⟨cb, o, none⟩ (n * size)).run P w = .ok arr w ∧ VRs ι ((l'.drop off).take (n * size)) arr.toList := by
          intro cb base room o hp ho
          subst ho
          obtain ⟨c, e, fr, h1, h2, h3, h4, h5⟩ := cells_ok hR hp hc
          obtain ⟨hs, hlen⟩ := stretch (off := off) (n := n * size) h2 h3 h4 hle
          exact ⟨_, run_loadStretch h1 hlen, by simpa using hs⟩
        cases hv with
        | sle hp => exact key hp rfl
        | slg hp ho he hc' hr hl => exact key hp (he (by omega))
      · cases h
  · cases h
theorem lenOf_ok {P : Program} {w : World} {ι : Ren} {x : AV} {x' : Value} {n : Nat} (h : alenOf x = some n) (hv : VR ι x x') : (Builtin.lenOf x').run P w = .ok n w := by
  unfold alenOf at h
  split at h <;> first | (cases h; done) | skip
  · cases h; cases hv; rw [nats_length]; rfl
  · cases h; cases hv; rfl
  · cases h; cases hv <;> rfl
theorem grow_le : ∀ (rounds newLen c : Nat), c < newLen → 256 ≤ c → Builtin.growBy newLen rounds c ≤ 2 * newLen
  | 0, newLen, c, h, _ => by simp only [Builtin.growBy]; omega
  | r + 1, newLen, c, h, h2 => by
    simp only [Builtin.growBy]
    rw [if_neg (by omega)]
    by_cases h3 : c + (c + 768) / 4 < newLen
    · exact grow_le r newLen _ h3 (by omega)
    · have : Builtin.growBy newLen r (c + (c + 768) / 4) = c + (c + 768) / 4 := by
        cases r with
        | zero => rfl
        | succ r => simp only [Builtin.growBy]; rw [if_pos (by omega)]
      rw [this]; omega
theorem next_le {newLen old : Nat} (h : old < newLen) : Builtin.nextslicecap newLen old ≤ 2 * newLen := by
  unfold Builtin.nextslicecap
  split
  · omega
  · split
    · omega
    · exact grow_le 4 newLen old h (by omega)
theorem zeroCells_size (z : Array Value) (n : Nat) : (Builtin.zeroCells z n).size = n * z.size := by
  simp [Builtin.zeroCells]
theorem Post.move {B : Bd} {ι : Ren} {M : AM} {w w' : World} (h : Rel B ι M w) {b : Nat} {o o2 : AObj} {cb base room base' room' : Nat}
    (hg : M.get b = some o) (hi : ι b = some (cb, base, room)) (hrw : o.rw = true)
    (hold : ∀ x, x ≠ cb → w'.heap[x]? = w.heap[x]?) (hsz : w'.heap.size = w.heap.size) (hos : w'.os = w.os) (hout : w'.output = w.output) (htape : w'.tape = w.tape)
    (ho : ObjR (ι.add M.nx (cb, base', room')) w' o2 cb base' room') :
    Post B ι w (ι.add M.nx (cb, base', room')) ((M.set b none).new o2) w' := by
  have hle : ι.le (ι.add M.nx (cb, base', room')) := Ren.add_le (h.fresh _ (Nat.le_refl _)).2
  have hB := (h.obj b o cb base room hg hi).2 hrw
  have hget : ∀ id, ((M.set b none).new o2).get id = if id = M.nx then some o2 else if id = b then none else M.get id := fun id => by
    rw [AM.get_new, AM.nx_set, AM.get_set]
  refine ⟨hle, ⟨?_, ?_, ?_, by rw [hsz]; exact h.below, fun i hi => by
    have := h.ghost i hi
    rw [AM.nx_new, AM.nx_set]
    unfold Ren.add
    rw [if_neg (by omega)]
    exact ⟨by omega, this.2⟩⟩, ⟨fun x hx => hold x (fun e => hB (e ▸ hx)), by omega, hos, hout, htape⟩⟩
  · intro id ob c2 b2 r2 g2 i2
    rw [hget] at g2
    unfold Ren.add at i2
    by_cases e : id = M.nx
    · rw [if_pos e] at g2 i2; cases g2; cases i2; exact ⟨ho, fun _ => hB⟩
    · rw [if_neg e] at g2 i2
      by_cases e' : id = b
      · rw [if_pos e'] at g2; cases g2
      · rw [if_neg e'] at g2
        have h1 := h.obj id ob c2 b2 r2 g2 i2
        have h2 := h.inj id b ob o _ _ e' g2 hg i2 hi
        exact ⟨h1.1.mono hle (hold c2 h2), h1.2⟩
  · intro i j o1 o3 p1 p3 hne g1 g3 i1 i3
    rw [hget] at g1 g3
    unfold Ren.add at i1 i3
    by_cases e : i = M.nx
    · rw [if_pos e] at g1 i1
      cases i1
      have e' : j ≠ M.nx := fun x => hne (e.trans x.symm)
      rw [if_neg e'] at g3 i3
      by_cases e2 : j = b
      · rw [if_pos e2] at g3; cases g3
      · rw [if_neg e2] at g3
        exact (h.inj j b o3 o _ _ e2 g3 hg i3 hi).symm
    · rw [if_neg e] at g1 i1
      by_cases e2 : i = b
      · rw [if_pos e2] at g1; cases g1
      · rw [if_neg e2] at g1
        by_cases e3 : j = M.nx
        · rw [if_pos e3] at g3 i3
          cases i3
          exact h.inj i b o1 o p1 (cb, base, room) e2 g1 hg i1 hi
        · rw [if_neg e3] at g3 i3
          by_cases e4 : j = b
          · rw [if_pos e4] at g3; cases g3
          · rw [if_neg e4] at g3
            exact h.inj i j o1 o3 p1 p3 hne g1 g3 i1 i3
  · intro id hid
    rw [AM.nx_new, AM.nx_set] at hid
    rw [hget]
    have hf := h.fresh id (by omega)
    have hne : ¬ id = M.nx := by omega
    refine ⟨?_, ?_⟩
    · rw [if_neg hne]
      split
      · rfl
      · exact hf.1
    · unfold Ren.add
      rw [if_neg hne]
      exact hf.2
theorem choose_cap (P : Program) (w : World) (need old : Nat) (e : TypeId) :
    ∃ c, need ≤ c ∧ (choose (.appendCap need old e)).run P w = .ok c { w with drawn := w.drawn + 1 } := by
  refine ⟨need + w.tape w.drawn (.appendCap need old e) % (2 ^ 63 - need), by omega, ?_⟩
  rw [run_choose]
  simp [Question.forced, Question.cut]
section
variable {P : Program} {E : Env} (hE : EnvOk P E) {B : Bd} {ι : Ren} {M : AM} {w : World} (hR : Rel B ι M w)
include hE hR
theorem append_grows (fz : Bool) {st xt e : TypeId} {xd : TypeDesc} {ei : TypeInfo} {argTypes : Array TypeId} {t : TypeId} {s' x' : Value} {len n scap : Nat} {base' : Option Addr} {old new : List AV} {nm : Array Value}
    (h0 : argTypes[0]? = some st) (h1 : argTypes[1]? = some xt) (he : asliceElem E st = some e) (hxd : E.under xt = some xd) (hei : E.info e = some ei)
    (hnint : isIntD xd = false) (hz : ei.zero.isNone = false) (hsize : ei.size ≠ 0)
    (hs : s' = .slice base' len scap) (hlen : (Builtin.lenOf x').run P w = .ok n w) (hcap : scap < len + n) (hb : 2 * (len + n) * ei.bytes ≤ 281474976710656) (hmax : len + n ≤ 9223372036854775807)
    (hold : ∀ w2 : World, w2.heap = w.heap → ∃ arr, (Builtin.firstCells ei.size len s').run P w2 = .ok arr w2 ∧ VRs ι old arr.toList)
    (hnew : ∀ w2 : World, w2.heap = w.heap → ∃ arr, (Builtin.firstCells ei.size n x').run P w2 = .ok arr w2 ∧ VRs ι new arr.toList)
    (hol : old.length = len * ei.size) (hnl : new.length = n * ei.size) :
    OpV P B ι w (Builtin.append_ argTypes t #[s', x']) (.sl M.nx 0 (len + n) (len + n) (some ei.size)) (M.new (.cells (old ++ new) false fz)) := by
  subst hs
  cases hzz : ei.zero with
  | none => rw [hzz] at hz; cases hz
  | some z =>
  have hzs := hE.zsize _ _ _ hei hzz
  obtain ⟨c, hc, hch⟩ := choose_cap P w (len + n) scap e
  obtain ⟨ao, hao, hvo⟩ := hold { w with drawn := w.drawn + 1 } rfl
  obtain ⟨an, han, hvn⟩ := hnew { w with drawn := w.drawn + 1 } rfl
  have hu := sliceElem_under he
  have hR' := hR.drew (w.drawn + 1)
  have hvs := hvo.append hvn
  have hlo : ao.size = len * ei.size := by have := hvo.1; simp at this; omega
  have hln : an.size = n * ei.size := by have := hvn.1; simp at this; omega
  have hsz : (ao ++ an ++ Builtin.zeroCells z.cells (c - (len + n))).size = c * ei.size := by
    rw [Array.size_append, Array.size_append, zeroCells_size, hzs, hlo, hln, ← Nat.add_mul, ← Nat.add_mul]; congr 1; omega
  have hroom : (old ++ new).length ≤ c * ei.size := by
    rw [List.length_append, hol, hnl, ← Nat.add_mul]; exact Nat.mul_le_mul_right _ hc
  have hp := new_cells (fz := fz) (e := e) (fr := (0, 0)) hR' (l := old ++ new) (c := ao ++ an ++ Builtin.zeroCells z.cells (c - (len + n))) (room := c * ei.size) hroom (by rw [hsz]; exact Nat.le_refl _)
    (fun i v hi => by
      obtain ⟨v', a, b⟩ := hvs.get hi
      refine ⟨v', ?_, b⟩
      rw [← Array.toList_append] at a
      have a' : (ao ++ an)[i]? = some v' := by rw [Array.getElem?_toList] at a; exact a
      have : i < (ao ++ an).size := by
        rcases Nat.lt_or_ge i (ao ++ an).size with h | h
        · exact h
        · rw [Array.getElem?_eq_none h] at a'; cases a'
      rw [Array.getElem?_append_left this]; exact a') (.inl rfl) (fun _ => rfl)
  refine ⟨_, .slice (some ⟨w.heap.size, 0, none⟩) (len + n) c, _, ?_, ?_, (Post.drew hR _).trans hp⟩
  · have n1 : ¬ (len + n ≤ scap) := by omega
    have n2 : ¬ (((len + n : Nat) : Int) > IntKind.i64.max ∧ ((false = true) ∨ ei.bytes = 0)) := by
      rw [show IntKind.i64.max = 9223372036854775807 from by decide]; omega
    have n3 : ¬ (Builtin.nextslicecap (len + n) scap * ei.bytes > 2 ^ 48) := by
      have := Nat.mul_le_mul_right ei.bytes (next_le hcap)
      omega
    have hsO : E.size e = some ei.size := by simp [Env.size, hei]
    clear hlo hln hsz hroom hp hvs hvo hvn hR' hzs hol hnl hz hcap hb hmax
    cases xd
    case int k => cases hnint
    all_goals
      simp only [Builtin.append_, h0, h1, List.getElem?_toArray, List.getElem?_cons_zero, List.getElem?_cons_succ, Sem.run_bind, run_underlying hE hu, run_underlying hE hxd, Result.andThen_ok, run_sizeOf hE hsO, Sem.run_pure,
        Bool.false_eq_true, if_false, hlen, if_neg n1, run_typeInfo hE hei, Bool.not_false, if_true, false_or, Sem.run_ite]
      rw [if_neg (by simpa using n2), if_neg n3]
      simp only [hch, Result.andThen_ok, run_askRoom, hao, han, run_zeroValue hE hei hzz, newRow, Sem.run_bind, Sem.run_pure, run_newObj]
  · exact .slg (base := 0) (room := c * ei.size) (Ren.add_self _ _ _) (Nat.le_refl _) (fun _ => rfl) hc (by omega) (Nat.le_refl _)
end
end Go.Abm

namespace Go.Abm
theorem afirst_length {M : AM} {size n m : Nat} {x : AV} {l : List AV} (h : afirst M size n x = some l) (hn : alenOf x = some m) (hle : n ≤ m) (hs : ∀ s, x = .str s → size = 1) : l.length = n * size := by
  unfold afirst at h
  unfold alenOf at hn
  split at h
  · cases hn; cases h; have : n = 0 := by omega
    subst this; simp
  · cases hn; cases h; rw [hs _ rfl]; simp; omega
  · rename_i b off len cap gr
    cases hn0 : Nat.beq n 0 with
    | true => have := beq_of hn0; subst this; rw [hn0] at h; cases h; simp
    | false =>
      rw [hn0] at h
      obtain ⟨_, h⟩ := cond_some_inv h
      split at h
      · obtain ⟨hl, h⟩ := cond_some_inv h
        have hl := ble_of hl
        cases h
        simp; omega
      · cases h
  · cases h
section
variable {P : Program} {E : Env} (hE : EnvOk P E) {B : Bd} {ι : Ren} {M : AM} {w : World} (hR : Rel B ι M w)
include hE hR
omit hR in
theorem append_room {st xt e : TypeId} {xd : TypeDesc} {ei : TypeInfo} {argTypes : Array TypeId} {t : TypeId} {x' : Value} {len n scap : Nat} {base' : Option Addr} {an : Array Value} {w' : World}
    (h0 : argTypes[0]? = some st) (h1 : argTypes[1]? = some xt) (he : asliceElem E st = some e) (hxd : E.under xt = some xd) (hei : E.info e = some ei)
    (hnint : isIntD xd = false) (hlen : (Builtin.lenOf x').run P w = .ok n w) (hcap : len + n ≤ scap)
    (han : (Builtin.firstCells ei.size n x').run P w = .ok an w)
    (hst : ∀ a, base' = some a → (storeCells (a.add (len * ei.size)) an.toList).run P w = .ok () w') (hno : base' = none → w' = w) :
    (Builtin.append_ argTypes t #[.slice base' len scap, x']).run P w = .ok (.slice base' (len + n) scap) w' := by
  have hu := sliceElem_under he
  have hsO : E.size e = some ei.size := by simp [Env.size, hei]
  cases xd
  case int k => cases hnint
  all_goals
    simp only [Builtin.append_, h0, h1, List.getElem?_toArray, List.getElem?_cons_zero, List.getElem?_cons_succ, Sem.run_bind, run_underlying hE hu, run_underlying hE hxd, Result.andThen_ok, run_sizeOf hE hsO, Sem.run_pure,
      Bool.false_eq_true, if_false, hlen, if_pos hcap, Bool.not_false, if_true, Sem.run_ite, han]
    cases base' with
    | none => rw [hno rfl]; rfl
    | some a => simp only [Sem.run_bind, hst a rfl, Result.andThen_ok, Sem.run_pure]
omit hE in
theorem Rel.heap_eq {w2 : World} (h : w2.heap = w.heap) : Rel B ι M w2 :=
  ⟨fun id o cb base room a b => ⟨(hR.obj id o cb base room a b).1.mono (Ren.le_refl _) (by rw [h]), (hR.obj id o cb base room a b).2⟩, hR.inj, hR.fresh, by rw [h]; exact hR.below, hR.ghost⟩
theorem append_ok {argTypes : Array TypeId} {t : TypeId} {s x : AV} {s' x' : Value} {r : AV × AM} (h : aappend E M argTypes s x = some r) (hs : VR ι s s') (hx : VR ι x x') :
    OpV P B ι w (Builtin.append_ argTypes t #[s', x']) r.1 r.2 := by
  unfold aappend at h
  split at h
  case h_2 => cases h
  rename_i st xt h0 h1
  split at h
  case h_2 => cases h
  rename_i e xd he hxd
  split at h
  case h_2 => cases h
  rename_i ei n hei hn
  split at h
  case h_2 => cases h
  rename_i new hnew
  cases hbad : (isIntD xd || Nat.beq ei.size 0 || (isStr x && !Nat.beq ei.size 1) || !new.all AV.one || ei.zero.isNone) with
  | true => rw [hbad] at h; cases h
  | false =>
  rw [hbad] at h
  simp only [cond_false] at h
  simp only [Bool.or_eq_false_iff] at hbad
  obtain ⟨⟨⟨⟨hnint, hsz⟩, hstr⟩, hone⟩, hz⟩ := hbad
  have hsz := beq_not hsz
  have hone : new.all AV.one = true := by simpa using hone
  have hlen : (Builtin.lenOf x').run P w = .ok n w := lenOf_ok hn hx
  have hstr1 : ∀ s, x = .str s → ei.size = 1 := fun s e => by
    subst e
    simp only [isStr, Bool.true_and, Bool.not_eq_false'] at hstr
    exact beq_of hstr
  have hnl := afirst_length hnew hn (Nat.le_refl _) hstr1
  have hnewA : ∀ w2 : World, w2.heap = w.heap → ∃ arr, (Builtin.firstCells ei.size n x').run P w2 = .ok arr w2 ∧ VRs ι new arr.toList := fun w2 hw2 =>
    first_ok (Rel.heap_eq hR hw2) hnew hx
  split at h
  · -- nil
    cases hs
    cases hn0 : Nat.beq n 0 with
    | true =>
      have := beq_of hn0
      subst this
      rw [hn0] at h
      cases h
      obtain ⟨arr, ha, hv⟩ := hnewA w rfl
      exact OpV.pure hR (append_room hE h0 h1 he hxd hei hnint hlen (Nat.le_refl _) ha (fun a e => by cases e) (fun _ => rfl)) .nils
    | false =>
      have hn0' := beq_not hn0
      rw [hn0] at h
      simp only [cond_false] at h
      obtain ⟨hb, h⟩ := cond_some_inv h
      rw [Bool.and_eq_true] at hb
      have hb1 := ble_of hb.1
      have hb2 := ble_of hb.2
      unfold maxI at hb2
      cases h
      have := append_grows hE hR false (t := t) (len := 0) (scap := 0) (base' := none) (old := []) (nm := #[]) h0 h1 he hxd hei hnint hz hsz rfl hlen (by omega) (by rw [Nat.zero_add]; exact hb1) (by omega)
        (fun w2 _ => ⟨#[], rfl, VRs.nil⟩) hnewA (by simp) hnl
      simpa using this
  · rename_i b off len cap gr
    cases hroom : Nat.ble (len + n) cap with
    | true =>
      have hle := ble_of hroom
      rw [hroom] at h
      simp only [cond_true] at h
      obtain ⟨arr, ha, hv⟩ := hnewA w rfl
      cases hn0 : Nat.beq n 0 with
      | true =>
        have := beq_of hn0
        subst this
        rw [hn0] at h
        cases h
        have harr : arr.toList = [] := by
          have : arr.toList.length = 0 := by rw [← hv.1, hnl]; simp
          exact List.eq_nil_of_length_eq_zero this
        cases hs with
        | sle hp =>
          exact OpV.pure hR (append_room hE h0 h1 he hxd hei hnint hlen hle ha (fun a e => by rw [harr]; simp [storeCells]) (fun _ => rfl)) (.sle hp)
        | slg hp ho he' hc hr hl =>
          exact OpV.pure hR (append_room hE h0 h1 he hxd hei hnint hlen (by omega) ha (fun a e => by rw [harr]; simp [storeCells]) (fun _ => rfl)) (.slg hp ho he' hc hr (by omega))
      | false =>
        have hn0' := beq_not hn0
        rw [hn0] at h
        simp only [cond_false] at h
        obtain ⟨M', hst, rfl⟩ := map_some_inv h
        cases hs with
        | sle hp =>
          obtain ⟨w', hr', hpost⟩ := astore_ok (P := P) hR hp hv hst
          refine ⟨ι, _, w', append_room hE h0 h1 he hxd hei hnint hlen hle ha (fun a e => ?_) (fun e => by cases e), .sle hp, hpost⟩
          cases e
          rw [Addr.add_none, Nat.add_assoc]; exact hr'
        | slg hp ho he' hc hr hl =>
          obtain ⟨w', hr', hpost⟩ := astore_ok (P := P) hR hp hv hst
          refine ⟨ι, _, w', append_room hE h0 h1 he hxd hei hnint hlen (by omega) ha (fun a e => ?_) (fun e => by cases e), .slg hp ho he' hc hr hle, hpost⟩
          cases e
          rw [Addr.add_none, he' (by omega), Nat.add_assoc]; exact hr'
    | false =>
      have hgt := ble_not hroom
      rw [hroom] at h
      simp only [cond_false] at h
      split at h
      case h_2 => cases h
      rename_i old hold
      have hol := afirst_length hold (m := len) rfl (Nat.le_refl _) (fun s e => by cases e)
      have holdA : ∀ w2 : World, w2.heap = w.heap → ∃ arr, (Builtin.firstCells ei.size len s').run P w2 = .ok arr w2 ∧ VRs ι old arr.toList := fun w2 hw2 =>
        first_ok (Rel.heap_eq hR hw2) hold hs
      split at h
      · -- exact
        obtain ⟨hb, h⟩ := cond_some_inv h
        rw [Bool.and_eq_true] at hb
        have hb1 := ble_of hb.1
        have hb2 := ble_of hb.2
        unfold maxI at hb2
        cases h
        cases hs with
        | sle hp =>
          exact append_grows hE hR false (nm := #[]) h0 h1 he hxd hei hnint hz hsz rfl hlen hgt hb1 hb2 holdA hnewA hol hnl
      · rename_i g
        split at h
        case h_2 => cases h
        rename_i l fz hg
        obtain ⟨hb, h⟩ := cond_some_inv h
        simp only [Bool.and_eq_true] at hb
        obtain ⟨⟨hbg, hb1⟩, hb2⟩ := hb
        have hbg := beq_of hbg
        have hb1 := ble_of hb1
        have hb2 := ble_of hb2
        unfold maxI at hb2
        cases h
        subst hbg
        cases hs with
        | slg hp ho he' hc hr hl =>
        rename_i cb base room o ccap
        by_cases hin : len + n ≤ ccap
        · -- in place
          obtain ⟨arr, ha, hv⟩ := hnewA w rfl
          obtain ⟨ao, hao, hvo⟩ := holdA w rfl
          obtain ⟨⟨c, e2, fr, q1, q2, q3, q4, q5, q6⟩, hB⟩ := hR.obj _ _ _ _ _ hg hp
          have hal : arr.toList.length = n * ei.size := by rw [← hv.1]; exact hnl
          have hmul : (len + n) * ei.size ≤ ccap * ei.size := Nat.mul_le_mul_right _ hin
          rw [Nat.add_mul] at hmul
          obtain ⟨c', hrun, hcs, hck⟩ := run_storeCells' (P := P) (o := o + len * ei.size) arr.toList 0 c w q1 q5 (by omega) (all_one hv hone)
          have hw : cb < w.heap.size := by
            rcases Nat.lt_or_ge cb w.heap.size with h' | h'
            · exact h'
            · rw [Array.getElem?_eq_none h'] at q1; cases q1
          have hle : ι.le (ι.add M.nx (cb, o, base + room - o)) := Ren.add_le (hR.fresh _ (Nat.le_refl _)).2
          have hpost := Post.move (w' := { w with heap := w.heap.setIfInBounds cb (.cells c' e2 fr) }) hR hg hp rfl (base' := o) (room' := base + room - o) (o2 := .cells (old ++ new) false fz)
            (fun x hx => by simp only [Array.getElem?_setIfInBounds]; rw [if_neg (fun e => hx e.symm)]) (by simp) rfl rfl rfl
            ⟨c', e2, fr, by simp [hw], by omega, by rw [List.length_append, hol, hnl]; omega, fun i v hi => by
              rw [List.getElem?_append] at hi
              rw [hck]
              by_cases h9 : i < old.length
              · rw [if_pos h9] at hi
                rw [if_neg (by omega)]
                -- an old one
                unfold afirst at hold
                simp only at hold
                cases hl0 : Nat.beq len 0 with
                | true => have := beq_of hl0; subst this; rw [hl0] at hold; cases hold; simp at h9
                | false =>
                  have hl0' := beq_not hl0
                  rw [hl0] at hold
                  obtain ⟨_, hold⟩ := cond_some_inv hold
                  have hmc : M.cells b = some l := by simp [AM.cells, hg]
                  rw [hmc] at hold
                  obtain ⟨hll, hold⟩ := cond_some_inv hold
                  cases hold
                  rw [List.getElem?_take] at hi
                  split at hi
                  · rw [List.getElem?_drop] at hi
                    obtain ⟨v', x1, x2⟩ := q4 _ _ hi
                    exact ⟨v', by rw [he' (by omega), Nat.add_assoc]; exact x1, x2.mono hle⟩
                  · cases hi
              · rw [if_neg h9] at hi
                obtain ⟨v', x1, x2⟩ := hv.get hi
                have := get_lt hi
                refine ⟨v', ?_, x2.mono hle⟩
                rw [if_pos (by omega), show o + i - (o + len * ei.size + 0) = i - old.length by omega]
                exact x1, by rw [hcs]; exact q5, q6⟩
          refine ⟨_, _, _, append_room hE h0 h1 he hxd hei hnint hlen hin ha (fun a e => ?_) (fun e => by cases e), ?_, hpost⟩
          · cases e
            rw [Addr.add_none]; exact hrun
          · exact .slg (base := o) (room := base + room - o) (Ren.add_self _ _ _) (Nat.le_refl _) (fun _ => rfl) hin (by omega) (Nat.le_refl _)
        · exact append_grows hE (hR.drop b) fz (nm := #[]) h0 h1 he hxd hei hnint hz hsz rfl hlen (by omega) hb1 hb2 holdA hnewA hol hnl
  · cases h
end
end Go.Abm

namespace Go.Abm
inductive OVR (ι : Ren) : Option AV → Option Value → Prop
  | none : OVR ι none none
  | some {v v'} (h : VR ι v v') : OVR ι (some v) (some v')
theorem nats_extract (s : ByteArray) (l h : Nat) : nats (s.extract l h) = ((nats s).drop l).take (h - l) := by
  have e : (s.extract l h).data = s.data.extract l h := ByteArray.data_extract
  simp [nats, e, List.extract, List.map_take, List.map_drop]
theorem sliceBound_ok {P : Program} {w : World} (k : IntKind) (n y : Nat) (code : BoundsCode) (h : n ≤ y) : (Instr.sliceBound (.int k (.ofNat n)) y code).run P w = .ok n w := by
  simp only [Instr.sliceBound, asIntOf, Sem.run_bind, Sem.run_pure, Result.andThen_ok, Int.ofNat_eq_natCast]
  rw [if_pos (by omega)]
  simp
theorem anum_ok {ι : Ren} {x : Option AV} {x' : Option Value} {r : Option Nat} (h : anum x = some r) (hv : OVR ι x x') :
    (r = none ∧ x' = none) ∨ ∃ n k, r = some n ∧ x' = some (.int k (.ofNat n)) := by
  unfold anum at h
  split at h
  · cases h; cases hv; exact .inl ⟨rfl, rfl⟩
  · cases h; cases hv with | some hv => cases hv; exact .inr ⟨_, _, rfl, rfl⟩
  · cases h
section
variable {P : Program} {E : Env} (hE : EnvOk P E) {B : Bd} {ι : Ren} {M : AM} {w : World} (hR : Rel B ι M w)
include hE hR
theorem slice_ok {t : TypeId} {x v : AV} {x' : Value} {lo hi mx : Option AV} {lo' hi' mx' : Option Value} (h : aslice E t x lo hi mx = some v)
    (hx : VR ι x x') (hlo : OVR ι lo lo') (hhi : OVR ι hi hi') (hmx : OVR ι mx mx') : OpV P B ι w (Instr.sliceAt t x' lo' hi' mx') v M := by
  unfold aslice at h
  split at h
  case h_2 => cases h
  rename_i lo1 hi1 mx1 e1 e2 e3
  have d1 := anum_ok e1 hlo
  have d2 := anum_ok e2 hhi
  have d3 := anum_ok e3 hmx
  split at h
  · -- string
    rename_i s
    split at h
    case h_2 => cases h
    rename_i hu
    cases hx with
    | str s =>
    obtain ⟨hc, h⟩ := cond_some_inv h
    rw [Bool.and_eq_true] at hc
    have c1 := ble_of hc.1
    have c2 := ble_of hc.2
    rw [nats_length] at c1 c2
    cases h
    rcases d3 with ⟨_, rfl⟩ | ⟨n, k, e, _⟩
    case inr => cases e
    refine OpV.pure hR (v' := .string (s.extract (lo1.getD 0) (hi1.getD s.size))) ?_ (by rw [nats_length, ← nats_extract]; exact .str _)
    simp only [Instr.sliceAt, Instr.slice, Sem.run_bind, run_underlying hE hu, Result.andThen_ok, Option.isSome_none, Bool.false_eq_true, if_false, Instr.sliceBounds, Sem.run_pure]
    rcases d2 with ⟨rfl, rfl⟩ | ⟨h1, k1, rfl, rfl⟩ <;> rcases d1 with ⟨rfl, rfl⟩ | ⟨l1, k2, rfl, rfl⟩ <;> simp only [Option.getD_none, Option.getD_some] at c1 c2 ⊢
    · simp only [Sem.run_bind, Sem.run_pure, Result.andThen_ok]
    · simp only [Sem.run_bind, Sem.run_pure, Result.andThen_ok, sliceBound_ok _ _ _ _ c1]
    · simp only [Sem.run_bind, Sem.run_pure, Result.andThen_ok, sliceBound_ok _ _ _ _ c2]
    · simp only [Sem.run_bind, Sem.run_pure, Result.andThen_ok, sliceBound_ok _ _ _ _ c2, sliceBound_ok _ _ _ _ c1]
  · -- nil
    split at h
    case h_2 => cases h
    rename_i e hu
    cases hx
    obtain ⟨hc, h⟩ := cond_some_inv h
    simp only [Bool.and_eq_true] at hc
    obtain ⟨⟨⟨⟨c1, c2⟩, c3⟩, c4⟩, hsz⟩ := hc
    have c1 := beq_of c1
    have c2 := beq_of c2
    have c3 := beq_of c3
    cases h
    obtain ⟨n, hn⟩ := Option.isSome_iff_exists.1 hsz
    refine OpV.pure hR (v' := .slice none 0 0) ?_ .nils
    rcases d3 with ⟨rfl, rfl⟩ | ⟨m1, k0, rfl, rfl⟩ <;> rcases d2 with ⟨rfl, rfl⟩ | ⟨h1, k1, rfl, rfl⟩ <;> rcases d1 with ⟨rfl, rfl⟩ | ⟨l1, k2, rfl, rfl⟩ <;>
      simp only [Option.getD_none, Option.getD_some] at c1 c2 c3 <;> (try subst c1) <;> (try subst c2) <;> (try subst c3) <;>
      simp only [Instr.sliceAt, Instr.slice, Sem.run_bind, run_underlying hE hu, Result.andThen_ok, Instr.sliceBounds, Sem.run_pure, sliceBound_ok _ _ _ _ (Nat.le_refl 0), run_sizeOf hE hn]
    all_goals first | (simp; done) | (cases c4; done) | skip
  · -- slice
    rename_i b off len cap gr
    split at h
    case h_2 => cases h
    rename_i e hu
    split at h
    case h_2 => cases h
    rename_i n hn
    split at h
    · -- three
      rename_i m
      rcases d3 with ⟨e, _⟩ | ⟨m', k0, e, rfl⟩
      · cases e
      cases e
      obtain ⟨hc, h⟩ := cond_some_inv h
      simp only [Bool.and_eq_true] at hc
      obtain ⟨⟨⟨⟨c1, c2⟩, c3⟩, c4⟩, c5⟩ := hc
      have c1 := ble_of c1
      have c2 := ble_of c2
      have c3 := ble_of c3
      rcases d2 with ⟨rfl, _⟩ | ⟨hh, k1, rfl, rfl⟩
      · cases c4
      simp only [Option.getD_some] at c1 c2 h
      cases h
      cases hx with
      | sle hp =>
        rename_i cb base room
        refine OpV.pure hR (v' := .slice (some (if m = lo1.getD 0 then ⟨cb, base + off, none⟩ else ⟨cb, base + off + lo1.getD 0 * n, none⟩)) (hh - lo1.getD 0) (m - lo1.getD 0)) ?_ ?_
        · simp only [Instr.sliceAt, Instr.slice, Sem.run_bind, run_underlying hE hu, Result.andThen_ok, Instr.sliceBounds, Sem.run_pure, sliceBound_ok _ _ _ _ c3, sliceBound_ok _ _ _ _ c2, run_sizeOf hE hn]
          rcases d1 with ⟨rfl, rfl⟩ | ⟨l1, k2, rfl, rfl⟩ <;> simp only [Option.getD_none, Option.getD_some] at c1 ⊢ <;> simp only [Sem.run_bind, Sem.run_pure, Result.andThen_ok, sliceBound_ok _ _ _ _ c1, Option.map, Addr.add_none] <;> (split <;> rfl)
        · cases hm : Nat.beq m (lo1.getD 0) with
          | true => have := beq_of hm; rw [if_pos this]; exact .sle hp
          | false => have := beq_not hm; rw [if_neg this, Nat.add_assoc]; exact .sle hp
      | slg hp ho he hcc hr hl =>
        rename_i g cb base room o ccap
        have hm0 : 0 < m := by
          rcases Bool.or_eq_true _ _ ▸ c5 with c | c
          · cases c
          · exact blt_of c
        have ho' := he (by omega)
        subst ho'
        refine OpV.pure hR (v' := .slice (some (if m = lo1.getD 0 then ⟨cb, base + off, none⟩ else ⟨cb, base + off + lo1.getD 0 * n, none⟩)) (hh - lo1.getD 0) (m - lo1.getD 0)) ?_ ?_
        · simp only [Instr.sliceAt, Instr.slice, Sem.run_bind, run_underlying hE hu, Result.andThen_ok, Instr.sliceBounds, Sem.run_pure, sliceBound_ok _ _ _ _ (Nat.le_trans c3 hcc), sliceBound_ok _ _ _ _ c2, run_sizeOf hE hn]
          rcases d1 with ⟨rfl, rfl⟩ | ⟨l1, k2, rfl, rfl⟩ <;> simp only [Option.getD_none, Option.getD_some] at c1 ⊢ <;> simp only [Sem.run_bind, Sem.run_pure, Result.andThen_ok, sliceBound_ok _ _ _ _ c1, Option.map, Addr.add_none] <;> (split <;> rfl)
        · cases hm : Nat.beq m (lo1.getD 0) with
          | true => have := beq_of hm; rw [if_pos this]; exact .sle hp
          | false => have := beq_not hm; rw [if_neg this, Nat.add_assoc]; exact .sle hp
    · -- two
      rcases d3 with ⟨_, rfl⟩ | ⟨m', k0, e, _⟩
      case inr => cases e
      obtain ⟨hc, h⟩ := cond_some_inv h
      rw [Bool.and_eq_true] at hc
      have c1 := ble_of hc.1
      have c2 := ble_of hc.2
      have run : ∀ (a : Addr) (ccap : Nat), cap ≤ ccap → (Instr.sliceAt t (.slice (some a) len ccap) lo' hi' none).run P w =
          .ok (.slice (some (if ccap = lo1.getD 0 then a else a.add (lo1.getD 0 * n))) (hi1.getD len - lo1.getD 0) (ccap - lo1.getD 0)) w := fun a ccap hcc => by
        simp only [Instr.sliceAt, Instr.slice, Sem.run_bind, run_underlying hE hu, Result.andThen_ok, Instr.sliceBounds, Sem.run_pure]
        rcases d2 with ⟨rfl, rfl⟩ | ⟨h1, k1, rfl, rfl⟩ <;> rcases d1 with ⟨rfl, rfl⟩ | ⟨l1, k2, rfl, rfl⟩ <;> simp only [Option.getD_none, Option.getD_some] at c1 c2 ⊢ <;>
          simp only [Sem.run_bind, Sem.run_pure, Result.andThen_ok, sliceBound_ok _ _ _ _ c1, sliceBound_ok _ _ _ _ (Nat.le_trans c2 hcc), run_sizeOf hE hn, Option.map] <;> (split <;> rfl)
      split at h
      · cases h
        cases hx with
        | sle hp =>
        refine OpV.pure hR (run _ _ (Nat.le_refl _)) ?_
        cases hm : Nat.beq cap (lo1.getD 0) with
        | true => have := beq_of hm; rw [if_pos this]; exact .sle hp
        | false => have := beq_not hm; rw [if_neg this, Addr.add_none, Nat.add_assoc]; exact .sle hp
      · rename_i g _
        obtain ⟨hg, h⟩ := cond_some_inv h
        have hg := beq_of hg
        cases h
        cases hx with
        | slg hp ho he hcc hr hl =>
        rename_i cb base room o ccap
        subst hg
        have hlc : lo1.getD 0 ≤ ccap := by omega
        refine OpV.pure hR (run _ _ hcc) ?_
        by_cases hm : ccap = lo1.getD 0
        · rw [if_pos hm]
          refine .slg hp ho (fun h => by omega) (by omega) ?_ (by omega)
          rw [hm, Nat.sub_self];
          have := Nat.zero_le (ccap * g)
          omega
        · rw [if_neg hm, Addr.add_none]
          have hmul : (ccap - lo1.getD 0) * g + lo1.getD 0 * g = ccap * g := by rw [← Nat.add_mul]; congr 1; omega
          refine .slg hp (by omega) (fun h => by rw [he (by omega)]; omega) (by omega) (by omega) (by omega)
  · cases h
end
end Go.Abm

namespace Go.Abm
section
variable {P : Program} {E : Env} (hE : EnvOk P E) {B : Bd} {ι : Ren} {M : AM} {w : World} (hR : Rel B ι M w)
include hE
omit hE in
theorem fieldOf_under {t : TypeId} {f : Nat} {fd : Field} (h : fieldOf E t f = some fd) : ∃ fs, E.under t = some (.struct fs) ∧ fs[f]? = some fd := by
  unfold fieldOf at h
  split at h
  · rename_i fs hu; exact ⟨fs, hu, h⟩
  · cases h
theorem fieldAddr_run {s : TypeId} {f n : Nat} {fd : Field} {cb o : Nat} (h : fieldOf E s f = some fd) (hn : E.size fd.type = some (n + 1)) :
    (Instr.fieldAt s (.pointer (some ⟨cb, o, none⟩)) f).run P w = .ok (.pointer (some ⟨cb, o + fd.offset, none⟩)) w := by
  obtain ⟨fs, hu, hf⟩ := fieldOf_under h
  simp only [Instr.fieldAt, Sem.run_bind, run_underlying hE hu, Result.andThen_ok, hf, Instr.sureAddr, Sem.run_pure, fieldPlace, run_sizeOf hE hn, Sem.run_ite]
  rw [if_neg (by omega)]
  simp [Addr.add_none]
theorem field_run {t : TypeId} {f : Nat} {fd : Field} {cs : List AV} {cs' : Array Value} {v : AV} (h : fieldOf E t f = some fd) (hp : apart E fd.type cs fd.offset = some v) (hc : VRs ι cs cs'.toList) :
    ∃ v', (Instr.field t (.agg cs') f).run P w = .ok v' w ∧ VR ι v v' := by
  obtain ⟨fs, hu, hf⟩ := fieldOf_under h
  obtain ⟨v', hr, hv⟩ := apart_ok hE (w := w) hp hc
  exact ⟨v', by simp [Instr.field, run_underlying hE hu, hf, asAgg, hr], hv⟩
omit hE in
theorem anat_ok {i : AV} {i' : Value} {n : Nat} (h : anat i = some n) (hi : VR ι i i') : ∃ k, i' = .int k (.ofNat n) := by
  unfold anat at h
  split at h
  · cases h; cases hi; exact ⟨_, rfl⟩
  · cases h
theorem indexAddr_run {t : TypeId} {x i v : AV} {x' i' : Value} (h : aindexAddr E t x i = some v) (hx : VR ι x x') (hi : VR ι i i') :
    ∃ v', (Instr.indexAt t x' i').run P w = .ok v' w ∧ VR ι v v' := by
  unfold aindexAddr at h
  obtain ⟨n, hn, h⟩ := bind_some_inv h
  obtain ⟨k, rfl⟩ := anat_ok hn hi
  split at h
  · rename_i b off len cap gr _
    obtain ⟨e, he, h⟩ := bind_some_inv h
    obtain ⟨sz, hs, h⟩ := bind_some_inv h
    obtain ⟨hlt, h⟩ := cond_some_inv h
    have hlt := blt_of hlt
    cases h
    have hu := sliceElem_under he
    have key : ∀ (a : Addr) (cc : Nat), (Instr.indexAt t (.slice (some a) len cc) (.int k (.ofNat n))).run P w = .ok (.pointer (some (a.add (n * sz)))) w := fun a cc => by
      simp only [Instr.indexAt, asIntOf, Sem.run_bind, Sem.run_pure, run_underlying hE hu, Result.andThen_ok, run_sizeOf hE hs, Int.ofNat_eq_natCast, Sem.run_ite]
      rw [if_pos (by omega)]
      simp
    cases hx with
    | sle hp => exact ⟨_, key _ _, by rw [Addr.add_none, Nat.add_assoc]; exact .ptr hp⟩
    | slg hp ho hee hc hr hl => exact ⟨_, key _ _, by rw [Addr.add_none, hee (by omega), Nat.add_assoc]; exact .ptr hp⟩
  · rename_i b off _
    obtain ⟨d, hd, h⟩ := bind_some_inv h
    split at h
    · rename_i len e _
      obtain ⟨sz, hs, h⟩ := bind_some_inv h
      obtain ⟨hlt, h⟩ := cond_some_inv h
      have hlt := blt_of hlt
      cases h
      cases hx with
      | ptr hp =>
      rename_i cb base room
      refine ⟨.pointer (some ⟨cb, base + off + n * sz, none⟩), ?_, by rw [Nat.add_assoc]; exact .ptr hp⟩
      simp only [Instr.indexAt, asIntOf, Sem.run_bind, Sem.run_pure, run_underlying hE hd, Result.andThen_ok, Instr.sureAddr, run_sizeOf hE hs, Int.ofNat_eq_natCast, Sem.run_ite]
      rw [if_pos (by omega)]
      simp [Addr.add_none]
    · cases h
  · cases h
theorem index_run {t : TypeId} {x i v : AV} {x' i' : Value} (h : aindex E t x i = some v) (hx : VR ι x x') (hi : VR ι i i') :
    ∃ v', (Instr.index t x' i').run P w = .ok v' w ∧ VR ι v v' := by
  unfold aindex at h
  obtain ⟨n, hn, h⟩ := bind_some_inv h
  obtain ⟨k, rfl⟩ := anat_ok hn hi
  split at h
  · rename_i s _
    obtain ⟨d, hd, h⟩ := bind_some_inv h
    split at h
    · cases hx with
      | str s =>
      obtain ⟨c, hc, rfl⟩ := map_some_inv h
      have hlt := get_lt hc
      rw [nats_length] at hlt
      have hc2 : s.data.toList[n]? = some (s.data.toList[n]'(by simpa using hlt)) := List.getElem?_eq_getElem _
      have hcc : c = (s.data.toList[n]'(by simpa using hlt)).toNat := by
        simp only [nats, List.getElem?_map, hc2, Option.map_some, Option.some.injEq] at hc
        exact hc.symm
      have hs : s[n]? = some (s[n]'hlt) := by
        rw [getElem?_pos s n hlt]
      refine ⟨.int .u8 (s[n]'hlt).toNat, ?_, ?_⟩
      · simp only [Instr.index, asIntOf, Sem.run_bind, Sem.run_pure, run_underlying hE hd, Result.andThen_ok, Int.ofNat_eq_natCast, Int.natCast_nonneg, if_true, Int.toNat_natCast, hs]
      · rw [hcc]; exact .int _ _
    · cases h
  · cases h
omit hE in
theorem getObj_of {r : Nat} {o : Obj} (h : w.heap[r]? = some o) (hc : ∀ c e f, o ≠ .cells c e f) : (getObj r).run P w = .ok o w := by
  simp only [getObj, Sem.run, h]
omit hE in
theorem setObj_of {r : Nat} {o o2 : Obj} (h : w.heap[r]? = some o) (hc : ∀ c e f, o ≠ .cells c e f) :
    (setObj r o2).run P w = .ok () { w with heap := w.heap.setIfInBounds r o2 } := by
  simp only [setObj, Sem.run, h]
end
end Go.Abm
