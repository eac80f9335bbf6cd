/-
  A part of the proof that pumicelaw17.StoreOpens returns true for every geometry, key, number and group (a machine over names of blocks, its soundness, the calls of the store for any geometry, the chapter's example as a run). Condition: the listed package variables hold what the program's text lays; the card ties that.
-/
import Derived.Test.YtcfpoldckjmbdaaGreatDoorX05
set_option linter.unusedVariables false
set_option linter.unusedSimpArgs false
set_option linter.unusedSectionVars false
namespace Go.Abm
section
variable {P : Program} {E : Env} (hE : EnvOk P E) {B : Bd} {ι : Ren} {M : AM} {w : World} (hR : Rel B ι M w)
include hE hR
omit hE hR in
theorem bytesOf_ok : ∀ (l : List AV) (l' : List Value) (s : List Nat) (acc : ByteArray), bytesOf l = some s → VRs ι l l' →
    ∃ r : ByteArray, (forIn l' acc (fun c s => (match c with
      | .int .u8 n => pure (ForInStep.yield (s.push (UInt8.ofNat n.toNat)))
      | _ => do
        stuck "bytesToString: byte expected"
        pure (ForInStep.yield s) : Sem (ForInStep ByteArray)))).run P w = .ok r w ∧ nats r = nats acc ++ s
  | [], [], s, acc, h, _ => by cases h; exact ⟨acc, rfl, by simp⟩
  | [], _ :: _, _, _, _, hl => by have := hl.1; simp at this
  | _ :: _, [], _, _, _, hl => by have := hl.1; simp at this
  | x :: l, x' :: l', s, acc, h, hl => by
    unfold bytesOf at h
    split at h
    · rename_i heq; cases heq
    · rename_i n l0 heq
      cases heq
      obtain ⟨hn, h⟩ := cond_some_inv h
      have hn := blt_of hn
      obtain ⟨s0, hs0, rfl⟩ := map_some_inv h
      have hx := hl.head
      cases hx
      obtain ⟨r, hr, hnr⟩ := bytesOf_ok l l' s0 (acc.push (UInt8.ofNat n)) hs0 hl.tail
      refine ⟨r, ?_, ?_⟩
      · simp only [List.forIn_cons, Sem.run_bind, Sem.run_pure, Result.andThen_ok]
        simpa using hr
      · rw [hnr]
        simp only [nats, ByteArray.data_push, Array.toList_push, List.map_append, List.map_cons, List.map_nil, List.append_assoc, List.singleton_append]
        rw [UInt8.toNat_ofNat_of_lt' (by simpa using hn)]
    · cases h
omit hE in
theorem toString_run {b off n c : Nat} {g : Option Nat} {l : List AV} {s : List Nat} {x' : Value} (h : afirst M 1 n (.sl b off n c g) = some l) (hs : bytesOf l = some s) (hx : VR ι (.sl b off n c g) x') :
    ∃ r : ByteArray, (Conv.bytesToString x').run P w = .ok (.string r) w ∧ nats r = s := by
  obtain ⟨arr, har, hv⟩ := first_ok (P := P) hR h hx
  obtain ⟨r, hr, hn⟩ := bytesOf_ok (P := P) (w := w) l arr.toList s ByteArray.empty hs hv
  refine ⟨r, ?_, by rw [hn]; rfl⟩
  have key : ∀ a cc, (loadCells a (n * 1)).run P w = .ok arr w → (Conv.bytesToString (.slice (some a) n cc)).run P w = .ok (.string r) w := fun a cc ha => by
    rw [Nat.mul_one] at ha
    simp only [Conv.bytesToString, Sem.run_bind, ha, Result.andThen_ok]
    rw [← Array.forIn_toList]
    erw [hr]
    rfl
  cases hx with
  | sle hp => exact key _ _ har
  | slg hp ho he hc hr hl => exact key _ _ har
omit hE hR in
theorem shape_size {cb : Nat} {c : Array Value} {e : TypeId} {fr : Nat × Nat} (h : w.heap[cb]? = some (.cells c e fr)) : w.shape? cb = some (e, c.size) := by simp [World.shape?, h]
theorem convert_run {src dst : TypeId} {x : AV} {x' : Value} {r : AV × AM} (h : aconvert E M src dst x = some r) (hx : VR ι x x') : OpV P B ι w (convert src dst x') r.1 r.2 := by
  unfold aconvert at h
  split at h
  case h_2 => cases h
  rename_i ds d hs hd
  split at h
  · rename_i k _ n
    split at h
    case h_2 => cases h
    cases h
    cases hx
    exact OpV.pure hR (v' := .int k (k.wrap n)) (by simp [convert, run_underlying hE hs, run_underlying hE hd, Conv.intToInt]) (by rw [wrapFast_eq]; exact .int _ _)
  · split at h
    case h_2 => cases h
    cases h
    cases hx
    exact OpV.pure hR (by simp [convert, run_underlying hE hs, run_underlying hE hd]) (.str _)
  · -- a []byte out of a literal
    rename_i e b off n c g
    split at h
    case h_2 => cases h
    rename_i e2 hu
    obtain ⟨hsd, h'⟩ := cond_some_inv h
    clear h
    have hsd := beq_of hsd
    subst hsd
    have hee := hs.symm.trans hd
    cases hee
    split at h'
    case h_2 => cases h'
    rename_i l fz hg
    cases h'
    have key : ∀ {cb base room o cc : Nat}, ι b = some (cb, base, room) → x' = .slice (some ⟨cb, o, none⟩) n cc → VR ι (.sl b off n c g) x' →
        OpV P B ι w (convert src src x') (.sl b off n c g) (M.set b (some (.cells l false true))) := by
      intro cb base room o cc hp hx' hv
      obtain ⟨⟨cs, e3, fr, q1, q2, q3, q4, q5, q6⟩, hB⟩ := hR.obj _ _ _ _ _ hg hp
      have hw : cb < w.heap.size := by
        rcases Nat.lt_or_ge cb w.heap.size with h' | h'
        · exact h'
        · rw [Array.getElem?_eq_none h'] at q1; cases q1
      have hfz : ∃ fr2 : Nat × Nat, (w.freeze { block := cb, off := cs.size } 1) = { w with heap := w.heap.setIfInBounds cb (.cells cs e3 fr2) } ∧ (fr2.1 = fr2.2 ∨ cs.size ≤ fr2.1) := by
        refine ⟨if fr.1 == fr.2 then (cs.size, cs.size + 1) else (min fr.1 cs.size, max fr.2 (cs.size + 1)), ?_, ?_⟩
        · unfold World.freeze
          rw [if_neg (by omega)]
          congr 1
          apply Array.ext_getElem?
          intro i
          rw [Array.getElem?_modify, Array.getElem?_setIfInBounds]
          by_cases hi : cb = i
          · subst hi
            rw [q1]
            simp [hw]
          · simp [hi]
        · split
          · right; simp
          · rename_i hne
            rcases q5 with q5 | q5
            · simp [q5] at hne
            · right; simp only; omega
      obtain ⟨fr2, hf1, hf2⟩ := hfz
      subst hx'
      refine ⟨ι, _, { w with heap := w.heap.setIfInBounds cb (.cells cs e3 fr2) }, ?_, hv, Post.set hR hg hp rfl (fun x hx => by simp only [Array.getElem?_setIfInBounds]; rw [if_neg (fun e => hx e.symm)]) (by simp) rfl rfl rfl ⟨cs, e3, fr2, by simp [hw], q2, q3, q4, hf2, fun e => by cases e⟩⟩
      simp only [convert, Sem.run_bind, run_underlying hE hs, run_underlying hE hd, Result.andThen_ok, beq_self_eq_true, run_underlying hE hu, markStringish, run_shape, shape_size q1, run_freeze, Sem.run_pure]
      rw [hf1]
    cases hx with
    | sle hp => exact key hp rfl (.sle hp)
    | slg hp ho he hc hr hl => exact key hp rfl (.slg hp ho he hc hr hl)
  · -- a string's bytes
    rename_i e s
    split at h
    case h_2 => cases h
    rename_i hu
    cases h
    cases hx with
    | str s =>
    obtain ⟨cp, hcp, hch⟩ := choose_cap P w s.size 0 e
    have hR' := hR.drew (w.drawn + 1)
    have harr : VRs ι ((nats s).map fun c => .int .u8 (.ofNat c)) (s.data.map fun b => Value.int .u8 b.toNat).toList := by
      refine ⟨by simp [nats], fun i v v' a b => ?_⟩
      simp only [nats, List.map_map, List.getElem?_map] at a
      simp only [Array.toList_map, List.getElem?_map] at b
      cases hc : s.data.toList[i]? with
      | none => rw [hc] at a; cases a
      | some c => rw [hc] at a b; cases a; cases b; exact .int _ _
    have hsz : (s.data.map (fun b => Value.int .u8 (b.toNat : Int)) ++ Array.replicate (cp - s.size) (Value.int .u8 0)).size = cp := by
      have : s.data.size = s.size := rfl
      simp [this]; omega
    have hp := new_cells (fz := true) (e := e) (fr := (cp, cp + 1)) hR' (l := (nats s).map fun c => .int .u8 (.ofNat c)) (c := s.data.map (fun b => Value.int .u8 (b.toNat : Int)) ++ Array.replicate (cp - s.size) (Value.int .u8 0)) (room := cp)
      (by simp [nats_length]; exact hcp) (by rw [hsz]; exact Nat.le_refl _) (fun i v hi => by
        obtain ⟨v', a, b⟩ := harr.get_arr i v hi
        refine ⟨v', ?_, b⟩
        have : i < (s.data.map fun b => Value.int .u8 (b.toNat : Int)).size := by
          rcases Nat.lt_or_ge i (s.data.map fun b => Value.int .u8 (b.toNat : Int)).size with h | h
          · exact h
          · rw [Array.getElem?_eq_none h] at a; cases a
        rw [Array.getElem?_append_left this]; exact a) (.inr (by rw [hsz]; exact Nat.le_refl _)) (fun e => by cases e)
    refine ⟨_, .slice (some ⟨w.heap.size, 0, none⟩) s.size cp, _, ?_, ?_, (Post.drew hR _).trans hp⟩
    · simp only [convert, Sem.run_bind, run_underlying hE hs, run_underlying hE hd, Result.andThen_ok, run_underlying hE hu, Conv.stringToBytes, hch, newRow, run_newObj, Sem.run_pure, markStringish, run_shape]
      have hsh : (World.shape? { w with drawn := w.drawn + 1, heap := w.heap.push (.cells (s.data.map (fun b => Value.int .u8 (b.toNat : Int)) ++ Array.replicate (cp - s.size) (Value.int .u8 0)) e) } w.heap.size) = some (e, cp) := by
        simp only [World.shape?, Array.getElem?_push_size]; rw [hsz]
      rw [hsh]
      simp only [run_freeze, Result.andThen_ok]
      congr 1
      unfold World.freeze
      rw [if_neg (by omega)]
      congr 1
      apply Array.ext_getElem?
      intro i
      rw [Array.getElem?_modify]
      by_cases hi : w.heap.size = i
      · subst hi; simp
      · rw [if_neg hi]
        rw [Array.getElem?_push, Array.getElem?_push, if_neg (fun e => hi e.symm), if_neg (fun e => hi e.symm)]
    · rw [nats_length]
      exact .slg (base := 0) (room := cp) (Ren.add_self _ _ _) (Nat.le_refl _) (fun _ => rfl) hcp (by omega) (Nat.le_refl _)
  · split at h
    case h_2 => cases h
    rename_i e
    split at h
    case h_2 => cases h
    rename_i hu
    cases h
    cases hx
    exact OpV.pure hR (v' := .string .empty) (by simp [convert, run_underlying hE hs, run_underlying hE hd, run_underlying hE hu, Conv.bytesToString]) (show VR ι (.str (nats ByteArray.empty)) _ from .str _)
  · rename_i b off n c g
    split at h
    case h_2 => cases h
    rename_i e
    split at h
    case h_2 => cases h
    rename_i hu
    obtain ⟨l, hl, h⟩ := bind_some_inv' h
    obtain ⟨s, hs2, rfl⟩ := map_some_inv h
    obtain ⟨r, hr, hn⟩ := toString_run (P := P) hR hl hs2 hx
    refine OpV.pure hR (v' := .string r) ?_ (by rw [← hn]; exact .str _)
    have : ∃ a cc, x' = .slice (some a) n cc := by cases hx <;> exact ⟨_, _, rfl⟩
    obtain ⟨a, cc, rfl⟩ := this
    simp only [convert, Sem.run_bind, run_underlying hE hs, run_underlying hE hd, Result.andThen_ok, run_underlying hE hu, hr]
  · cases h
end
end Go.Abm

namespace Go.Abm
theorem least_none (l : List String) : Instr.least l = none ↔ l = [] := by
  cases l <;> simp [Instr.least]
theorem least_parts (q : String → Bool) (f : String → String) (ms : List String) :
    (Instr.least (ms.partition q).2 <|> Instr.least ((ms.partition q).1.map f)) = none ↔ ms = [] := by
  rw [List.partition_eq_filter_filter]
  simp only
  constructor
  · intro h
    have h1 : Instr.least (ms.filter (not ∘ q)) = none := by
      cases h2 : Instr.least (ms.filter (not ∘ q)) with
      | none => rfl
      | some s => rw [h2] at h; cases h
    rw [h1] at h
    have h3 : Instr.least ((ms.filter q).map f) = none := h
    rw [least_none] at h1 h3
    cases ms with
    | nil => rfl
    | cons a ms =>
      cases ha : q a
      · simp [ha] at h1
      · simp [ha] at h3
  · intro h; subst h; rfl
theorem missing_ok (want : Array (String × TypeId)) (got : Array Method) : Instr.missingMethod want got = none ↔ hasAll want.toList got.toList = true := by
  unfold Instr.missingMethod
  refine Iff.trans (least_parts _ _ _) ?_
  rw [List.map_eq_nil_iff, List.filter_eq_nil_iff]
  unfold hasAll
  rw [List.all_eq_true]
  constructor
  · intro h x hx
    have := h x hx
    simp only [Bool.not_eq_true, Bool.not_eq_false'] at this
    rw [← Array.any_toList, List.any_eq_true] at this
    obtain ⟨m, hm, he⟩ := this
    rw [Bool.and_eq_true] at he
    rw [List.any_eq_true]
    refine ⟨m, hm, ?_⟩
    rw [he.1, nbeq_true (by simpa using he.2)]
    rfl
  · intro h x hx
    have := h x hx
    rw [List.any_eq_true] at this
    obtain ⟨m, hm, he⟩ := this
    rw [Bool.and_eq_true] at he
    have := beq_of he.2
    simp only [Bool.not_eq_true, Bool.not_eq_false']
    rw [← Array.any_toList, List.any_eq_true]
    exact ⟨m, hm, by rw [he.1, this]; simp⟩
section
variable {P : Program} {E : Env} (hE : EnvOk P E) {B : Bd} {ι : Ren} {M : AM} {w : World}
include hE
theorem typeAssert_run {x v : AV} {x' : Value} {xt t : TypeId} {ok : Bool} (h : atypeAssert E x t ok = some v) (hx : VR ι x x') :
    ∃ v', (Instr.typeAssert x' xt t ok).run P w = .ok v' w ∧ VR ι v v' := by
  have hholds : ∀ {y : AV} {y' : Value}, VR ι y y' → VR ι (bif ok then .tup [y, .bool true] else y) (if ok = true then .tuple #[y', .bool true] else y') := by
    intro y y' hy
    cases ok with
    | true => exact .tup' (by simpa using VRs.cons hy (VRs.cons (.bool true) VRs.nil))
    | false => exact hy
  have hfails : ∀ {v : AV}, (bif ok then (E.zero t).map fun z => AV.tup [z, .bool false] else none) = some v → ok = true ∧ ∃ z z', E.zero t = some z ∧ v = .tup [z, .bool false] ∧ (zeroValue t).run P w = .ok z' w ∧ VR ι z z' := by
    intro v h
    cases ok with
    | false => cases h
    | true =>
      simp only [cond_true] at h
      obtain ⟨z, hz, rfl⟩ := map_some_inv h
      obtain ⟨z', h1, h2⟩ := zero_ok hE (w := w) hz
      exact ⟨rfl, z, z', hz, rfl, h1, h2 ι⟩
  unfold atypeAssert at h
  split at h
  · rename_i want hu
    split at h
    · cases hx
      obtain ⟨rfl, z, z', hz, rfl, h1, h2⟩ := hfails h
      exact ⟨_, by simp [Instr.typeAssert, run_underlying hE hu, h1]; rfl, .tup' (by simpa using VRs.cons h2 (VRs.cons (.bool false) VRs.nil))⟩
    · cases hx with
      | ifc hv =>
      split at h
      case h_2 => cases h
      rename_i i hi
      cases hall : hasAll want.toList i.methods.toList with
      | true =>
        rw [hall] at h
        cases h
        have hm := (missing_ok want i.methods).2 hall
        exact ⟨_, by simp only [Instr.typeAssert, Sem.run_bind, run_underlying hE hu, Result.andThen_ok, run_typeInfo hE hi, hm, Sem.run_pure], hholds (.ifc hv)⟩
      | false =>
        rw [hall] at h
        simp only [cond_false] at h
        obtain ⟨rfl, z, z', hz, rfl, h1, h2⟩ := hfails h
        cases hm : Instr.missingMethod want i.methods with
        | none => have := (missing_ok want i.methods).1 hm; rw [hall] at this; cases this
        | some m =>
          exact ⟨.tuple #[z', .bool false], by simp only [Instr.typeAssert, Sem.run_bind, run_underlying hE hu, Result.andThen_ok, run_typeInfo hE hi, hm, Sem.run_pure, if_true, h1], .tup' (by simpa using VRs.cons h2 (VRs.cons (.bool false) VRs.nil))⟩
    · cases h
  · rename_i d hni hu
    split at h
    · cases hx
      obtain ⟨rfl, z, z', hz, rfl, h1, h2⟩ := hfails h
      refine ⟨.tuple #[z', .bool false], ?_, .tup' (by simpa using VRs.cons h2 (VRs.cons (.bool false) VRs.nil))⟩
      cases d <;> first | (exact absurd rfl (hni _)) | simp only [Instr.typeAssert, Sem.run_bind, run_underlying hE hu, Result.andThen_ok, if_true, h1, Sem.run_pure]
    · rename_i t0 v0
      cases hx with
      | ifc hv =>
      cases ht : Nat.beq t0 t with
      | true =>
        rw [ht] at h
        cases h
        have := beq_of ht
        refine ⟨_, ?_, hholds hv⟩
        cases d <;> first | (exact absurd rfl (hni _)) | (simp only [Instr.typeAssert, Sem.run_bind, run_underlying hE hu, Result.andThen_ok, if_pos this, Sem.run_pure])
      | false =>
        rw [ht] at h
        simp only [cond_false] at h
        have := beq_not ht
        obtain ⟨rfl, z, z', hz, rfl, h1, h2⟩ := hfails h
        refine ⟨.tuple #[z', .bool false], ?_, .tup' (by simpa using VRs.cons h2 (VRs.cons (.bool false) VRs.nil))⟩
        cases d <;> first | (exact absurd rfl (hni _)) | (simp only [Instr.typeAssert, Sem.run_bind, run_underlying hE hu, Result.andThen_ok, if_neg this, if_true, h1, Sem.run_pure])
    · cases h
  · cases h
theorem follow_run : ∀ (path : List FieldStep) (t : TypeId) (v v2 : AV) (v' : Value) (t2 : TypeId), afollow E path t v = some (t2, v2) → VR ι v v' →
    ∃ v2', (follow path t (.val v')).run P w = .ok (t2, .val v2') w ∧ VR ι v2 v2'
  | [], t, v, v2, v', t2, h, hv => by cases h; exact ⟨v', rfl, hv⟩
  | s :: rest, t, v, v2, v', t2, h, hv => by
    unfold afollow at h
    split at h
    case h_2 => cases h
    rename_i fs cs hu hd
    split at h
    case h_2 => cases h
    rename_i f hf
    split at h
    case h_2 => cases h
    rename_i y hy
    obtain ⟨cs', rfl, hcs⟩ := hv.agg_inv
    obtain ⟨y', hr, hy'⟩ := apart_ok hE (w := w) hy hcs
    obtain ⟨v2', h1, h2⟩ := follow_run rest f.type y v2 y' t2 h hy'
    exact ⟨v2', by simp [follow, run_underlying hE hu, hf, hd, hr, h1], h2⟩
omit hE in
theorem findMethod_eq (name : String) : ∀ l : List Method, findMethod name l = l.find? (·.name == name)
  | [] => rfl
  | m :: ms => by
    unfold findMethod
    rw [List.find?_cons]
    cases h : (m.name == name)
    · rw [if_neg (by simp), findMethod_eq name ms]
    · rw [if_pos rfl]
theorem method_run {t : TypeId} {v r : AV} {v' : Value} {name : String} {f : FuncId} (h : amethod E t v name = some (f, r)) (hv : VR ι v v') (n : Nat) :
    ∃ r', (method (n + 1) t v' name).run P w = .ok (f, r') w ∧ VR ι r r' := by
  unfold amethod at h
  obtain ⟨i, hi, h⟩ := bind_some_inv h
  obtain ⟨m, hm, h⟩ := bind_some_inv h
  obtain ⟨⟨t2, r2⟩, hf, h⟩ := bind_some_inv h
  obtain ⟨r', hr, hvr⟩ := follow_run hE (w := w) _ _ _ _ _ _ hf hv
  rw [findMethod_eq] at hm
  have hm' : i.methods.find? (·.name == name) = some m := by rw [← Array.find?_toList]; exact hm
  split at h
  · rename_i f0 u hfn hu
    cases h
    refine ⟨r', ?_, hvr⟩
    simp only [method, Sem.run_bind, run_typeInfo hE hi, Result.andThen_ok, hm', hr, hfn, receiverAt, run_underlying hE hu, Place.get, Sem.run_pure]
  · cases h
  · rename_i f0 u hnp hfn hu
    cases h
    refine ⟨r', ?_, hvr⟩
    cases u <;> first | (exact absurd rfl (hnp _)) | (simp only [method, Sem.run_bind, run_typeInfo hE hi, Result.andThen_ok, hm', hr, hfn, receiverAt, run_underlying hE hu, Place.get, Sem.run_pure])
  · cases h
end
end Go.Abm

namespace Go.Abm
def OpPost (P : Program) (B : Bd) (ι : Ren) (w : World) (res : Result Next) : ARes → AM → Prop
  | .val v M', _ => ∃ ι' v' w', res = .ok (.value v') w' ∧ VR ι' v v' ∧ Post B ι w ι' M' w'
  | .skip M', _ => ∃ ι' w', res = .ok .skip w' ∧ Post B ι w ι' M' w'
  | .enter f args, _ => ∃ args', res = .ok (.enter f args') w ∧ VRs ι args args'.toList
  | .round l args, _ => ∃ cl r args', ι l = some (cl, 0, r) ∧ VRs ι args args'.toList ∧ res = (Instr.yield cl args').run P w
  | .defer d, _ => ∃ d', res = .ok (.defer d') w ∧ DR ι d d'
  | .recover, _ => res = .ok .recover w
  | .panic v M', _ => ∃ ι' v' w', res = .halt (.panic v') w' ∧ VR ι' v v' ∧ Post B ι w ι' M' w'
theorem OpPost.of_val {P : Program} {B : Bd} {ι : Ren} {M M' : AM} {w : World} {s : Sem Value} {v : AV} (h : OpV P B ι w s v M') : OpPost P B ι w ((do pure (.value (← s)) : Sem Next).run P w) (.val v M') M := by
  obtain ⟨ι', v', w', h1, h2, h3⟩ := h
  exact ⟨ι', v', w', by simp [h1], h2, h3⟩
theorem OpPost.of_unit {P : Program} {B : Bd} {ι : Ren} {M M' : AM} {w : World} {s : Sem Unit} (h : ∃ w', s.run P w = .ok () w' ∧ Post B ι w ι M' w') : OpPost P B ι w ((do s; pure .skip : Sem Next).run P w) (.skip M') M := by
  obtain ⟨w', h1, h2⟩ := h
  exact ⟨ι, w', by simp [h1], h2⟩
def SumsX (P : Program) (E : Env) : Prop :=
  ∀ f s fn, E.sums f = some s → E.funcs.get f = some fn → fn.body = none → ∀ B ι M w args args' v M', Rel B ι M w → Glob E ι → VRs ι args args'.toList → s args M = some (v, M') →
    ∃ ι' v' w', (callFunc f args').run P w = .ok (.value v') w' ∧ VR ι' v v' ∧ Post B ι w ι' M' w'
theorem rhoL_ok {ι : Ren} {ρ : Rho} {ρ' : Operand → Value} (hρ : ∀ x v, ρ x = some v → VR ι v (ρ' x)) : ∀ (xs : List Operand) (l : List AV), rhoL ρ xs = some l → VRs ι l (xs.map ρ')
  | [], l, h => by cases h; exact VRs.nil
  | x :: xs, l, h => by
    unfold rhoL at h
    split at h
    · rename_i v hv
      obtain ⟨l0, hl, rfl⟩ := map_some_inv h
      exact VRs.cons (hρ _ _ hv) (rhoL_ok hρ xs l0 hl)
    · cases h
theorem rhoP_ok {ι : Ren} {ρ : Rho} {ρ' : Operand → Value} (hρ : ∀ x v, ρ x = some v → VR ι v (ρ' x)) : ∀ (xs : List (Nat × Operand)) (l : List (Nat × AV)), rhoP ρ xs = some l → PRs ι l (xs.map fun (i, x) => (i, ρ' x))
  | [], l, h => by cases h; exact trivial
  | (i, x) :: xs, l, h => by
    unfold rhoP at h
    split at h
    · rename_i v hv
      obtain ⟨l0, hl, rfl⟩ := map_some_inv h
      exact ⟨rfl, hρ _ _ hv, rhoP_ok hρ xs l0 hl⟩
    · cases h
theorem rhoO_ok {ι : Ren} {ρ : Rho} {ρ' : Operand → Value} (hρ : ∀ x v, ρ x = some v → VR ι v (ρ' x)) {x : Option Operand} {v : Option AV} (h : rhoO ρ x = some v) : OVR ι v (x.map ρ') := by
  cases x with
  | none => cases h; exact .none
  | some x => obtain ⟨a, ha, rfl⟩ := map_some_inv h; exact .some (hρ _ _ ha)
section
variable {P : Program} {E : Env} (hE : EnvOk P E) (hX : SumsX P E) {B : Bd} {ι : Ren} {M : AM} {w : World} (hR : Rel B ι M w) (hG : Glob E ι)
include hE
omit hE in
theorem unary_run {op : UnOp} {x v : AV} {x' : Value} (h : aunary op x = some v) (hx : VR ι x x') : ∃ v', (Op.unary op x').run P w = .ok v' w ∧ VR ι v v' := by
  unfold aunary at h
  split at h
  · cases h; cases hx
    exact ⟨_, by simp [Op.unary, Op.intArith]; rfl, by rw [wrapFast_eq, subF_eq]; simpa using VR.int _ _⟩
  · rename_i k n
    obtain ⟨r, hr, rfl⟩ := map_some_inv h
    cases hx
    refine ⟨.int k r, ?_, .int _ _⟩
    have e : allOnes k = (if k.signed then -1 else k.max) := by
      cases k <;> simp [allOnes, IntKind.signed, IntKind.max, IntKind.bits]
    rw [e] at hr
    exact bitsFast_ok hr
  · cases h; cases hx; exact ⟨_, rfl, .bool _⟩
  · cases h
include hR
theorem binOp_run {op : BinOp} {t : TypeId} {ox oy : Operand} {x y v : AV} {x' y' : Value} (h : abinOp E M op t ox oy x y = some v) (hx : VR ι x x') (hy : VR ι y y') :
    ∃ v', (do eqGuard op t ox oy x' y'; binOp op t x' y' : Sem Value).run P w = .ok v' w ∧ VR ι v v' := by
  have heq : ∀ {r : AV}, eqRes op (aeq E M 8 t x y) = some r →
      (op = .eql ∨ op = .neq) ∧ ∃ b, aeq E M 8 t x y = some b ∧ (Op.equal t x' y').run P w = .ok b w ∧ r = (if op = .eql then .bool b else .bool (!b)) := by
    intro r h
    unfold eqRes at h
    split at h
    · obtain ⟨b, hb, rfl⟩ := map_some_inv h
      exact ⟨.inl rfl, b, hb, aeq_ok hE hR 8 t x y x' y' b Op.maxDepth (by decide) hb hx hy, rfl⟩
    · obtain ⟨b, hb, rfl⟩ := map_some_inv h
      exact ⟨.inr rfl, b, hb, aeq_ok hE hR 8 t x y x' y' b Op.maxDepth (by decide) hb hx hy, rfl⟩
    · cases h
  unfold abinOp at h
  split at h
  · -- ints
    rename_i k a k' b
    cases hx; cases hy
    have hg : (eqGuard op t ox oy (.int k a) (.int k' b)).run P w = .ok () w := by
      cases op <;> simp [eqGuard]
    cases hsh : isShift op with
    | true =>
      rw [hsh] at h
      have ho : op = .shl ∨ op = .shr := by cases op <;> first | exact .inl rfl | exact .inr rfl | cases hsh
      obtain ⟨v', h1, h2⟩ := shiftF_ok (P := P) (w := w) (yk := k') h ho t
      exact ⟨v', by simp [hg, h1], h2 ι⟩
    | false =>
      rw [hsh] at h
      simp only [cond_false] at h
      obtain ⟨hk, h'⟩ := cond_some_inv h
      clear h
      cases kindBeq_eq hk
      obtain ⟨v', h1, h2⟩ := intBin_ok (P := P) (w := w) h' ⟨(fun e => by rw [e] at hsh; cases hsh), (fun e => by rw [e] at hsh; cases hsh)⟩ t
      exact ⟨v', by simp [hg, h1], h2 ι⟩
  · cases hx; cases hy
    rename_i a b
    have hg : (eqGuard op t ox oy (.string a) (.string b)).run P w = .ok () w := by
      cases op <;> simp [eqGuard]
    obtain ⟨v', h1, h2⟩ := strBin_ok (P := P) (w := w) h t
    exact ⟨v', by simp [hg, h1], h2 ι⟩
  · obtain ⟨hc, h⟩ := cond_some_inv h
    cases hx; cases hy
    obtain ⟨ho, b, _, hb, rfl⟩ := heq h
    have hg : ∀ op2, (op2 = .eql ∨ op2 = .neq) → (eqGuard op2 t ox oy .nilIface .nilIface).run P w = .ok () w := by
      intro op2 ho2
      clear ho heq h hb
      cases ox <;> cases oy <;> first | (cases hc; done) | (rcases ho2 with rfl | rfl <;> rfl)
    rcases ho with rfl | rfl
    · exact ⟨.bool b, by simp [hg, binOp, hb], by simpa using VR.bool _⟩
    · exact ⟨.bool (!b), by simp [hg, binOp, hb], by simpa using VR.bool _⟩
  · rename_i n1 n2 n3
    obtain ⟨ho, b, hae, hb, rfl⟩ := heq h
    have hagg : ∀ a1 b1, x' = .agg a1 → y' = .agg b1 → P.eqGuardType P.depth t = false := by
      intro a1 b1 e1 e2
      subst e1 e2
      cases hx; cases hy
      unfold aeq at hae
      simp only at hae
      split at hae
      · obtain ⟨hc, _⟩ := cond_some_inv hae
        exact (hE.cmp _ hc).2.1
      · cases hae
    have hnn : ¬ (x' = .nilIface ∧ y' = .nilIface) := fun ⟨e1, e2⟩ => by
      subst e1 e2
      cases hx; cases hy; exact n3 rfl rfl
    have hg : (eqGuard op t ox oy x' y').run P w = .ok () w := by
      unfold eqGuard
      rcases ho with rfl | rfl <;> simp only [Sem.run_bind, Bool.not_true, Bool.false_eq_true, if_false] <;> (
        split
        · exact absurd ⟨rfl, rfl⟩ hnn
        · simp only [Sem.run_bind, run_program, Result.andThen_ok, hagg _ _ rfl rfl, Bool.not_false, if_true, Sem.run_pure]
        · rfl)
    have hnb : ∀ z, (op = .eql ∨ op = .neq) → (Op.equal t x' y').run P w = .ok b w → z = (if op = .eql then Value.bool b else Value.bool (!b)) → (binOp op t x' y').run P w = .ok z w := by
      intro z ho hb hz
      subst hz
      rcases ho with rfl | rfl
      all_goals
        unfold binOp
        split <;> first
          | contradiction
          | (cases hx; done)
          | (cases hx; cases hy; exact absurd rfl (n1 _ _ _ _ rfl))
          | (cases hx; cases hy; exact absurd rfl (n2 _ _ rfl))
          | (simp [hb]; done)
          | skip
    rcases ho with rfl | rfl
    · exact ⟨.bool b, by simp [hg, hnb _ (.inl rfl) hb rfl], by simpa using VR.bool _⟩
    · exact ⟨.bool (!b), by simp [hg, hnb _ (.inr rfl) hb rfl], by simpa using VR.bool _⟩
end
end Go.Abm

namespace Go.Abm
section
variable {P : Program} {E : Env} (hE : EnvOk P E) (hX : SumsX P E) {B : Bd} {ι : Ren} {M : AM} {w : World} (hR : Rel B ι M w) (hG : Glob E ι)
include hE hX hR hG
theorem callF_run {f : FuncId} {args : List AV} {args' : Array Value} {r : ARes} (h : acallF E f args M = some r) (ha : VRs ι args args'.toList) :
    OpPost P B ι w ((callFunc f args').run P w) r M := by
  unfold acallF at h
  have hent : ∀ {fn : Func} {c : Code}, E.funcs.get f = some fn → fn.body = some c → (callFunc f args').run P w = .ok (.enter f args') w := by
    intro fn c hf hb
    obtain ⟨h1, h2⟩ := hE.funcs _ _ hf
    have h3 : ¬ fn.name = "runtime.NumGoroutine" := by simpa using h2
    simp [callFunc, h1, h3, hb]
  split at h
  · rename_i s hs
    split at h
    case h_2 => cases h
    rename_i fn hf
    split at h
    · rename_i c hb
      cases h
      exact ⟨args', hent hf hb, ha⟩
    · rename_i hb
      obtain ⟨⟨v, M'⟩, hv, rfl⟩ := map_some_inv h
      exact hX f s fn hs hf hb B ι M w args args' v M' hR hG ha hv
  · split at h
    case h_2 => cases h
    rename_i fn hf
    split at h
    case h_2 => cases h
    rename_i c hb
    cases h
    exact ⟨args', hent hf hb, ha⟩
theorem callV_run {f : AV} {f' : Value} {args : List AV} {args' : Array Value} {r : ARes} (h : acallV E f args M = some r) (hf : VR ι f f') (ha : VRs ι args args'.toList) :
    ∃ d : Deferred, Deferred.ofValue f' args' = pure d ∧ OpPost P B ι w ((invoke d.target d.args).run P w) r M := by
  unfold acallV at h
  split at h
  · rename_i g first cap
    cases hf with
    | fn hk la lb hfa hfb =>
    rename_i k' a' b'
    cases hk with
    | same k hk =>
    refine ⟨_, rfl, ?_⟩
    simp only [invoke]
    refine callF_run hE hX hR hG h ?_
    simp only [Array.toList_append]
    have h1 : VRs ι first a'.toList := ⟨by simpa using la, fun i v v' p q => hfa i v v' p (by simpa using q)⟩
    have h2 : VRs ι cap b'.toList := ⟨by simpa using lb, fun i v v' p q => hfb i v v' p (by simpa using q)⟩
    exact (h1.append ha).append h2
  · rename_i l
    cases h
    cases hf with
    | fn hk la lb hfa hfb =>
    rename_i k' a' b'
    have ha' : a' = #[] := Array.eq_empty_of_size_eq_zero (by simpa using la.symm)
    subst ha'
    cases hk with
    | yield hp => exact ⟨_, rfl, _, _, args', hp, ha, by simp [invoke]⟩
    | same k hk => exact absurd rfl (hk l)
  · cases h
omit hX hG in
theorem clear_run {argTypes : Array TypeId} {t ty : TypeId} {x : AV} {x' : Value} {M' : AM} (h0 : argTypes[0]? = some t) (h : aclear E M t x = some M') (hx : VR ι x x') :
    ∃ w', (Builtin.clear_ argTypes ty #[x']).run P w = .ok (.tuple #[]) w' ∧ Post B ι w ι M' w' := by
  unfold aclear at h
  split at h
  case h_1 => cases h
  rename_i d hu
  split at h
  · cases h; cases hx
    exact ⟨w, by simp [Builtin.clear_, h0, run_underlying hE hu], Post.refl hR⟩
  · cases h; cases hx
    exact ⟨w, by simp [Builtin.clear_, h0, run_underlying hE hu], Post.refl hR⟩
  · split at h
    case h_2 => cases h
    rename_i b es c hm
    cases h
    cases hx with
    | mp hp =>
    rename_i cb r
    obtain ⟨es', h1, hent, hg⟩ := mapOf_ok hR hp hm
    have hw : cb < w.heap.size := by
      rcases Nat.lt_or_ge cb w.heap.size with h' | h'
      · exact h'
      · rw [Array.getElem?_eq_none h'] at h1; cases h1
    refine ⟨{ w with heap := w.heap.setIfInBounds cb (.map #[] c) }, ?_, Post.map hR hp hg hw ⟨rfl, fun i e e' a => by simp at a⟩⟩
    simp [Builtin.clear_, h0, run_underlying hE hu, getObj_of h1 (by simp), setObj_of h1 (by simp)]
  · rename_i b off n cap gr
    split at h
    case h_2 => cases h
    rename_i e
    split at h
    case h_2 => cases h
    rename_i z hz
    obtain ⟨h1, h⟩ := cond_some_inv h
    obtain ⟨z', hz1, hz2⟩ := zero_ok hE (w := w) hz
    have hzr := zeros_rel (hz2 ι) (n := n + 1) rfl (ble_of h1)
    have key : ∀ cb base room o c2, ι b = some (cb, base, room) → o = base + off → x' = .slice (some ⟨cb, o, none⟩) (n + 1) c2 →
        ∃ w', (Builtin.clear_ argTypes ty #[x']).run P w = .ok (.tuple #[]) w' ∧ Post B ι w ι M' w' := by
      rintro cb base room o c2 hp rfl rfl
      have hs : z'.cells.size = z.cells.length := by have := (hz2 ι).cells.1; simp at this; omega
      obtain ⟨w', q1, q2⟩ := astore_ok (P := P) hR hp hzr h
      refine ⟨w', ?_, q2⟩
      rw [← hs] at q1
      simp only [Array.toList_map, Array.toList_range] at q1
      simp [Builtin.clear_, Builtin.zeroCells, h0, run_underlying hE hu, hz1, q1]
    cases hx with
    | sle hp => exact key _ _ _ _ _ hp rfl rfl
    | slg hp ho he hc hr hl => exact key _ _ _ _ _ hp (he (by omega)) rfl
  · cases h
    refine ⟨w, ?_, Post.refl hR⟩
    cases hx <;> simp [Builtin.clear_, h0, run_underlying hE hu]
  · cases h
omit hX hG in
theorem builtin_run {b : Builtin} {argTypes : Array TypeId} {ty : TypeId} {consts : Array Bool} {args : List AV} {args' : Array Value} {r : ARes} (h : abuiltin E b argTypes args M = some r) (ha : VRs ι args args'.toList) :
    OpPost P B ι w ((builtin b argTypes ty consts args').run P w) r M := by
  have h1 : ∀ {x}, args = [x] → ∃ x', args' = #[x'] ∧ VR ι x x' := by
    intro x e
    subst e
    obtain ⟨l⟩ := args'
    cases l with
    | nil => have := ha.1; simp at this
    | cons a l => cases l with
      | nil => exact ⟨a, rfl, ha.head⟩
      | cons b l => have := ha.1; simp at this
  have h2 : ∀ {x y}, args = [x, y] → ∃ x' y', args' = #[x', y'] ∧ VR ι x x' ∧ VR ι y y' := by
    intro x y e
    subst e
    obtain ⟨l⟩ := args'
    cases l with
    | nil => have := ha.1; simp at this
    | cons a l => cases l with
      | nil => have := ha.1; simp at this
      | cons b l => cases l with
        | nil => exact ⟨a, b, rfl, ha.head, ha.tail.head⟩
        | cons c l => have := ha.1; simp at this
  unfold abuiltin at h
  split at h
  · rename_i x
    obtain ⟨x', rfl, hx⟩ := h1 rfl
    split at h
    case h_2 => cases h
    rename_i t ht
    split at h
    case h_2 => cases h
    rename_i d hd
    obtain ⟨n, hn, rfl⟩ := map_some_inv h
    exact OpPost.of_val (OpV.pure hR (len_run hE hR ht hd hn hx) (.int _ _))
  · rename_i b0 off len c
    obtain ⟨x', rfl, hx⟩ := h1 rfl
    split at h
    case h_2 => cases h
    rename_i t ht
    split at h
    case h_2 => cases h
    rename_i e hd
    cases h
    cases hx with
    | sle hp => exact OpPost.of_val (OpV.pure hR (v' := .int .i64 (Int.ofNat c)) (by simp [Builtin.cap_, ht, run_underlying hE hd, goInt]) (.int _ _))
  · obtain ⟨x', rfl, hx⟩ := h1 rfl
    split at h
    case h_2 => cases h
    rename_i t ht
    split at h
    case h_2 => cases h
    rename_i e hd
    cases h; cases hx
    exact OpPost.of_val (OpV.pure hR (v' := .int .i64 0) (by simp [Builtin.cap_, ht, run_underlying hE hd, goInt]) (.int _ _))
  · obtain ⟨x', y', rfl, hx, hy⟩ := h2 rfl
    obtain ⟨⟨v, M'⟩, hv, rfl⟩ := map_some_inv h
    exact OpPost.of_val (append_ok hE hR hv hx hy)
  · obtain ⟨x', y', rfl, hx, hy⟩ := h2 rfl
    obtain ⟨⟨v, M'⟩, hv, rfl⟩ := map_some_inv h
    exact OpPost.of_val (copy_run hE hR hv hx hy)
  · obtain ⟨v, hv, rfl⟩ := map_some_inv h
    obtain ⟨x', r', v', e1, e2, e3⟩ := afold_run (P := P) (w := w) (fun x y v x' y' => min2_run) hv ha
    refine OpPost.of_val (OpV.pure hR (v' := v') ?_ e3)
    simp only [Builtin.min_, e1, e2]
  · obtain ⟨v, hv, rfl⟩ := map_some_inv h
    obtain ⟨x', r', v', e1, e2, e3⟩ := afold_run (P := P) (w := w) (fun x y v x' y' => max2_run) hv ha
    refine OpPost.of_val (OpV.pure hR (v' := v') ?_ e3)
    simp only [Builtin.max_, e1, e2]
  · obtain ⟨x', y', rfl, hx, hy⟩ := h2 rfl
    split at h
    case h_2 => cases h
    rename_i t ht
    obtain ⟨M', hM, rfl⟩ := map_some_inv h
    obtain ⟨w', hw, hp⟩ := delete_run hE hR (ty := ty) ht hM hx hy
    exact OpPost.of_val ⟨ι, _, w', hw, .tup' (by simpa using VRs.nil), hp⟩
  · obtain ⟨x', rfl, hx⟩ := h1 rfl
    split at h
    case h_2 => cases h
    rename_i t ht
    obtain ⟨M', hM, rfl⟩ := map_some_inv h
    obtain ⟨w', hw, hp⟩ := clear_run hE hR (ty := ty) ht hM hx
    exact OpPost.of_val ⟨ι, _, w', hw, .tup' (by simpa using VRs.nil), hp⟩
  · cases h
    have : args' = #[] := by
      have := ha.1
      exact Array.eq_empty_of_size_eq_zero (by simpa using this.symm)
    subst this
    rfl
  · cases h
end
end Go.Abm
