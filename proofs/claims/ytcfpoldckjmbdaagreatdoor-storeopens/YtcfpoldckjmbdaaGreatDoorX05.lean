/-
  A part of the proof that pumicelaw17.StoreOpens returns true for every geometry, key, number and group (a machine over names of blocks, its soundness, the calls of the store for any geometry, the chapter's example as a run). Condition: the listed package variables hold what the program's text lays; the card ties that.
-/
import Derived.Test.YtcfpoldckjmbdaaGreatDoorX04
set_option linter.unusedVariables false
set_option linter.unusedSimpArgs false
set_option linter.unusedSectionVars false
namespace Go.Abm
theorem mapTypes_under {E : Env} {t : TypeId} {d : TypeDesc} {e : TypeId} (h : amapTypes E t = some (d, e)) :
    ∃ k, E.under t = some (.map k e) ∧ E.under k = some d ∧ ((∃ kk, d = .int kk) ∨ d = .string ∨ d = .bool ∨ ∃ q, d = .pointer q) := by
  unfold amapTypes at h
  split at h
  · rename_i k e' hu
    split at h
    · rename_i kk hk; cases h; exact ⟨k, hu, hk, .inl ⟨_, rfl⟩⟩
    · rename_i hk; cases h; exact ⟨k, hu, hk, .inr (.inl rfl)⟩
    · rename_i hk; cases h; exact ⟨k, hu, hk, .inr (.inr (.inl rfl))⟩
    · rename_i hk; cases h; exact ⟨k, hu, hk, .inr (.inr (.inr ⟨_, rfl⟩))⟩
    · cases h
  · cases h
theorem keyOk_cases {ι : Ren} {d : TypeDesc} {k : AV} {k' : Value} (h : akeyOk d k = true) (hv : VR ι k k') :
    (∃ kk kk' n, d = .int kk ∧ k = .int kk' n ∧ k' = .int kk' n) ∨ (∃ s, d = .string ∧ k = .str (nats s) ∧ k' = .string s) ∨ (∃ b, d = .bool ∧ k = .bool b ∧ k' = .bool b) ∨ (∃ q b o a, d = .pointer q ∧ k = .ptr b o ∧ k' = .pointer (some a)) := by
  unfold akeyOk at h
  split at h
  · cases hv; exact .inl ⟨_, _, _, rfl, rfl, rfl⟩
  · cases hv; exact .inr (.inl ⟨_, rfl, rfl, rfl⟩)
  · cases hv; exact .inr (.inr (.inl ⟨_, rfl, rfl, rfl⟩))
  · cases hv; exact .inr (.inr (.inr ⟨_, _, _, _, rfl, rfl, rfl⟩))
  · cases h
theorem keyEq_ok {ι : Ren} {d : TypeDesc} {x y : AV} {x' y' : Value} {b : Bool} (h : akeyEq d x y = some b) (hx : VR ι x x') (hy : VR ι y y') : Instr.sameNow d x' y' = some b := by
  unfold akeyEq at h
  split at h
  · obtain ⟨hk, h'⟩ := cond_some_inv h
    clear h
    cases kindBeq_eq hk
    cases h'; cases hx; cases hy
    simp [Instr.sameNow, ieqF_eq]
  · cases h; cases hx; cases hy
    rename_i a b
    simp only [Instr.sameNow]
    rw [nats_toList, nats_toList, natsBeq_eq, beq_toListBytes]
  · cases h; cases hx; cases hy; rfl
  · cases h
theorem sameNow_bits {d : TypeDesc} {x y : Value} (h : Instr.sameNow d x y = some true) (n : Nat) : Instr.sameBits n y x = true := by
  unfold Instr.sameNow at h
  split at h
  · split at h
    · rename_i hk
      subst hk
      cases n <;> simp_all [Instr.sameBits]
    · cases h
  · cases n <;> (simp only [Instr.sameBits, Option.some.injEq, beq_toListBytes] at h ⊢; exact (beq_iff_eq.1 h) ▸ beq_self_eq_true _)
  · cases n <;> (simp only [Instr.sameBits, Option.some.injEq] at h ⊢; exact (beq_iff_eq.1 h) ▸ beq_self_eq_true _)
  · cases h
theorem find_ok {ι : Ren} {d : TypeDesc} {k : AV} {k' : Value} (hk : VR ι k k') : ∀ (es : List AEnt) (es' : List MapEntry) (i : Nat) (r : Option (Nat × AV)), afind d k es i = some r →
    es.length = es'.length → (∀ (j : Nat) (e : AEnt) (e' : MapEntry), es[j]? = some e → es'[j]? = some e' → VR ι e.key e'.key ∧ VR ι e.val e'.val ∧ e.born = e'.born) →
    match r with
    | none => Instr.findNow d k' es' i = some none
    | some (j, v) => ∃ v' e', Instr.findNow d k' es' i = some (some (j, v')) ∧ VR ι v v' ∧ i ≤ j ∧ es'[j - i]? = some e' ∧ Instr.sameNow d k' e'.key = some true
  | [], [], i, r, h, _, _ => by simp only [afind, Option.some.injEq] at h; subst h; rfl
  | [], _ :: _, _, _, _, h, _ => by simp at h
  | _ :: _, [], _, _, _, h, _ => by simp at h
  | e :: es, e' :: es', i, r, h, hl, he => by
    have h0 := he 0 e e' rfl rfl
    unfold afind at h
    split at h
    · rename_i heq
      cases h
      have := keyEq_ok heq hk h0.1
      exact ⟨e'.val, e', by simp [Instr.findNow, this], h0.2.1, Nat.le_refl _, by simp, this⟩
    · rename_i heq
      have hs := keyEq_ok heq hk h0.1
      have ih := find_ok hk es es' (i + 1) r h (by simpa using hl) (fun j a a' x y => he (j + 1) a a' (by simpa using x) (by simpa using y))
      cases r with
      | none => simp only [Instr.findNow, hs]; exact ih
      | some p =>
        obtain ⟨j, v⟩ := p
        obtain ⟨v', e2, q1, q2, q3, q4, q5⟩ := ih
        refine ⟨v', e2, by simp only [Instr.findNow, hs]; exact q1, q2, by omega, ?_, q5⟩
        rw [show j - i = (j - (i + 1)) + 1 by omega]
        simpa using q4
    · cases h
section
variable {P : Program} {E : Env} (hE : EnvOk P E) {B : Bd} {ι : Ren} {M : AM} {w : World} (hR : Rel B ι M w)
include hE
theorem checkKey_ok {kt : TypeId} {d : TypeDesc} {k : AV} {k' : Value} (hu : E.under kt = some d) (h : akeyOk d k = true) (hv : VR ι k k') (empty : Bool) (n : Nat) :
    (Instr.checkKey empty (n + 1) kt k').run P w = .ok () w := by
  rcases keyOk_cases h hv with ⟨kk, kk', m, rfl, rfl, rfl⟩ | ⟨s, rfl, rfl, rfl⟩ | ⟨b, rfl, rfl, rfl⟩ | ⟨q, b, o, a, rfl, rfl, rfl⟩ <;> simp [Instr.checkKey, run_underlying hE hu]
omit hE in
theorem mapOf_ok (hR : Rel B ι M w) {b cb r : Nat} (hp : ι b = some (cb, 0, r)) {es : List AEnt} {c : Nat} (h : amapOf M b = some (es, c)) :
    ∃ es', w.heap[cb]? = some (.map es' c) ∧ EntR ι es es' ∧ M.get b = some (.map es c) := by
  unfold amapOf at h
  split at h
  · rename_i es0 c0 hg
    cases h
    obtain ⟨⟨_, es', h1, h2⟩, _⟩ := hR.obj _ _ _ _ _ hg hp
    exact ⟨es', h1, h2, hg⟩
  · cases h
theorem findKey_run {kt : TypeId} {d : TypeDesc} (hu : E.under kt = some d) {k' : Value} {es' : List MapEntry} {r : Option (Nat × Value)} (h : Instr.findNow d k' es' 0 = some r) :
    (Instr.findKey kt k' es').run P w = .ok r w := by
  simp [Instr.findKey, run_underlying hE hu, h]
include hR
theorem lookup_run {t : TypeId} {x k v : AV} {x' k' : Value} {ok : Bool} (h : alookup E M t x k ok = some v) (hx : VR ι x x') (hk : VR ι k k') :
    ∃ v', (Instr.lookup t x' k' ok).run P w = .ok v' w ∧ VR ι v v' := by
  unfold alookup at h
  split at h
  case h_2 => cases h
  rename_i d e es ht hes
  obtain ⟨kt, hu, hkt, _⟩ := mapTypes_under ht
  obtain ⟨hko, h⟩ := cond_some_inv h
  have hes' : ∃ es' : Array MapEntry, (x' = .map none ∧ es' = #[] ∨ ∃ cb c, x' = .map (some cb) ∧ w.heap[cb]? = some (.map es' c)) ∧ EntR ι es es' := by
    unfold amapEs at hes
    split at hes
    · cases hes; cases hx; exact ⟨#[], .inl ⟨rfl, rfl⟩, rfl, fun i e e' a => by simp at a⟩
    · obtain ⟨p, hp, rfl⟩ := map_some_inv hes
      obtain ⟨es0, c⟩ := p
      cases hx with
      | mp hp' =>
      obtain ⟨es', h1, h2, _⟩ := mapOf_ok hR hp' hp
      exact ⟨es', .inr ⟨_, c, rfl, h1⟩, h2⟩
    · cases hes
  obtain ⟨es', hr, hent⟩ := hes'
  have hck := checkKey_ok hE (w := w) hkt hko hk es'.isEmpty 9999
  have hlen : es.length = es'.toList.length := by simpa using hent.1
  have hent2 : ∀ (j : Nat) (e : AEnt) (e' : MapEntry), es[j]? = some e → es'.toList[j]? = some e' → VR ι e.key e'.key ∧ VR ι e.val e'.val ∧ e.born = e'.born := fun j a a' p q => hent.2 j a a' p (by simpa using q)
  have hrun : ∀ r, Instr.findNow d k' es'.toList 0 = some r → (Instr.lookup t x' k' ok).run P w = ((match r with
      | some (_, v) => pure (v, true)
      | none => do pure (← zeroValue e, false) : Sem (Value × Bool)).run P w).andThen fun p w' => .ok (if ok then .tuple #[p.1, .bool p.2] else p.1) w' := fun r hf => by
    unfold Instr.lookup
    rcases hr with ⟨rfl, rfl⟩ | ⟨cb, c, rfl, h1⟩
    · simp only [Sem.run_bind, run_underlying hE hu, Result.andThen_ok, Sem.run_pure, hck, findKey_run hE hkt hf]
      cases r with
      | none => simp only [Sem.run_bind]; cases (zeroValue e).run P w <;> simp
      | some p => simp
    · simp only [Sem.run_bind, run_underlying hE hu, Result.andThen_ok, getObj_of h1 (by simp), Sem.run_pure, hck, findKey_run hE hkt hf]
      cases r with
      | none => simp only [Sem.run_bind]; cases (zeroValue e).run P w <;> simp
      | some p => simp
  split at h
  · rename_i hf
    have := find_ok hk _ _ _ _ hf hlen hent2
    obtain ⟨v', e', q1, q2, _⟩ := this
    cases h
    rw [hrun _ q1]
    cases ok with
    | true => exact ⟨_, rfl, .tup' (by simpa using VRs.cons q2 (VRs.cons (.bool true) VRs.nil))⟩
    | false => exact ⟨_, rfl, q2⟩
  · rename_i z hf hz
    have q1 := find_ok hk _ _ _ _ hf hlen hent2
    simp only at q1
    obtain ⟨z', hz1, hz2⟩ := zero_ok hE (w := w) hz
    cases h
    rw [hrun _ q1]
    simp only [Sem.run_bind, hz1, Result.andThen_ok, Sem.run_pure]
    cases ok with
    | true => exact ⟨_, rfl, .tup' (by simpa using VRs.cons (hz2 ι) (VRs.cons (.bool false) VRs.nil))⟩
    | false => exact ⟨_, rfl, hz2 ι⟩
  · cases h
omit hE in
theorem Post.map {b cb r : Nat} (hp : ι b = some (cb, 0, r)) {es es2 : List AEnt} {c c2 : Nat} (hg : M.get b = some (.map es c)) {es2' : Array MapEntry} (hw : cb < w.heap.size)
    (h : EntR ι es2 es2') : Post B ι w ι (M.set b (some (.map es2 c2))) { w with heap := w.heap.setIfInBounds cb (.map es2' c2) } :=
  Post.set hR hg hp rfl (fun x hx => by simp only [Array.getElem?_setIfInBounds]; rw [if_neg (fun e => hx e.symm)]) (by simp) rfl rfl rfl ⟨rfl, es2', by simp [hw], h⟩
omit hE hR in
theorem setNth_get {α : Type} (f : α → α) : ∀ (l : List α) (i j : Nat), (setNth l i f)[j]? = if j = i then (l[j]?).map f else l[j]?
  | [], i, j => by simp [setNth]
  | x :: xs, 0, j => by cases j <;> simp [setNth]
  | x :: xs, i + 1, 0 => by simp [setNth]
  | x :: xs, i + 1, j + 1 => by simp only [setNth, List.getElem?_cons_succ, setNth_get f xs i j, Nat.add_right_cancel_iff]
omit hE hR in
theorem setNth_length {α : Type} (f : α → α) : ∀ (l : List α) (i : Nat), (setNth l i f).length = l.length
  | [], i => by simp [setNth]
  | x :: xs, 0 => by simp [setNth]
  | x :: xs, i + 1 => by simp [setNth, setNth_length f xs i]
omit hE hR in
theorem delNth_eq {α : Type} : ∀ (l : List α) (i : Nat), delNth l i = l.eraseIdx i
  | [], i => by simp [delNth]
  | x :: xs, 0 => by simp [delNth]
  | x :: xs, i + 1 => by simp [delNth, delNth_eq xs i]
theorem mapUpdate_run {t : TypeId} {x k v : AV} {x' k' v' : Value} {M' : AM} (h : amapUpdate E M t x k v = some M') (hx : VR ι x x') (hk : VR ι k k') (hv : VR ι v v') :
    ∃ w', (Instr.mapUpdate t x' k' v').run P w = .ok () w' ∧ Post B ι w ι M' w' := by
  unfold amapUpdate at h
  split at h
  case h_2 => cases h
  rename_i d e b ht
  obtain ⟨kt, hu, hkt, _⟩ := mapTypes_under ht
  split at h
  case h_2 => cases h
  rename_i es c hm
  obtain ⟨hko, h⟩ := cond_some_inv h
  cases hx with
  | mp hp =>
  rename_i cb r
  obtain ⟨es', h1, hent, hg⟩ := mapOf_ok hR hp hm
  have hw : cb < w.heap.size := by
    rcases Nat.lt_or_ge cb w.heap.size with h' | h'
    · exact h'
    · rw [Array.getElem?_eq_none h'] at h1; cases h1
  have hck := checkKey_ok hE (w := w) hkt hko hk false 9999
  have hlen : es.length = es'.toList.length := by simpa using hent.1
  have hent2 : ∀ (j : Nat) (e : AEnt) (e' : MapEntry), es[j]? = some e → es'.toList[j]? = some e' → VR ι e.key e'.key ∧ VR ι e.val e'.val ∧ e.born = e'.born := fun j a a' p q => hent.2 j a a' p (by simpa using q)
  split at h
  · rename_i i v0 hf
    obtain ⟨v1, e1, q1, q2, q3, q4, q5⟩ := find_ok hk _ _ _ _ hf hlen hent2
    cases h
    have q4 : es'[i]? = some e1 := by simpa using q4
    refine ⟨{ w with heap := w.heap.setIfInBounds cb (.map (es'.modify i fun e => { e with key := k', val := v' }) c) }, ?_, Post.map hR hp hg hw ⟨?_, ?_⟩⟩
    · simp only [Instr.mapUpdate, Sem.run_bind, run_underlying hE hu, Result.andThen_ok, getObj_of h1 (by simp), hck, findKey_run hE hkt q1, q4, Option.map_some, Option.getD_some, Instr.keyThatStays, sameNow_bits q5, if_true, Sem.run_pure, setObj_of h1 (by simp)]
    · rw [setNth_length]; simpa using hent.1
    · intro j a a' p q
      rw [setNth_get] at p
      rw [Array.getElem?_modify] at q
      by_cases hj : j = i
      · subst hj
        rw [if_pos rfl] at p q
        obtain ⟨a0, pa, rfl⟩ := map_some_inv p
        obtain ⟨b0, pb, rfl⟩ := map_some_inv q
        exact ⟨hk, hv, (hent.2 j a0 b0 pa pb).2.2⟩
      · rw [if_neg hj] at p
        rw [if_neg (fun e => hj e.symm)] at q
        exact hent.2 j a a' p q
  · rename_i hf
    have q1 := find_ok hk _ _ _ _ hf hlen hent2
    simp only at q1
    cases h
    refine ⟨{ w with heap := w.heap.setIfInBounds cb (.map (es'.push ⟨k', v', c⟩) (c + 1)) }, ?_, Post.map hR hp hg hw ⟨?_, ?_⟩⟩
    · simp only [Instr.mapUpdate, Sem.run_bind, run_underlying hE hu, Result.andThen_ok, getObj_of h1 (by simp), hck, findKey_run hE hkt q1, setObj_of h1 (by simp)]
    · simpa using hent.1
    · intro j a a' p q
      have hl := hent.1
      rw [List.getElem?_append] at p
      rw [Array.getElem?_push] at q
      by_cases hj : j < es.length
      · rw [if_pos hj] at p
        rw [if_neg (by omega)] at q
        exact hent.2 j a a' p q
      · rw [if_neg hj] at p
        have : j - es.length = 0 := by
          rcases Nat.eq_zero_or_pos (j - es.length) with h | h
          · exact h
          · rw [List.getElem?_eq_none (by simp; omega)] at p; cases p
        rw [this] at p
        rw [if_pos (by omega)] at q
        cases p; cases q
        exact ⟨hk, hv, rfl⟩
  · cases h
theorem delete_run {argTypes : Array TypeId} {t : TypeId} {x k : AV} {x' k' : Value} {M' : AM} {ty : TypeId} (h0 : argTypes[0]? = some t) (h : adelete E M t x k = some M') (hx : VR ι x x') (hk : VR ι k k') :
    ∃ w', (Builtin.delete_ argTypes ty #[x', k']).run P w = .ok (.tuple #[]) w' ∧ Post B ι w ι M' w' := by
  unfold adelete at h
  split at h
  case h_2 => cases h
  rename_i d e ht
  obtain ⟨kt, hu, hkt, _⟩ := mapTypes_under ht
  obtain ⟨hko, h⟩ := cond_some_inv h
  split at h
  · cases h; cases hx
    refine ⟨w, ?_, Post.refl hR⟩
    simp [Builtin.delete_, h0, run_underlying hE hu, checkKey_ok hE (w := w) hkt hko hk true 9999]
  · split at h
    case h_2 => cases h
    rename_i b es c hm
    cases hx with
    | mp hp =>
    rename_i cb r
    obtain ⟨es', h1, hent, hg⟩ := mapOf_ok hR hp hm
    have hw : cb < w.heap.size := by
      rcases Nat.lt_or_ge cb w.heap.size with h' | h'
      · exact h'
      · rw [Array.getElem?_eq_none h'] at h1; cases h1
    have hck := checkKey_ok hE (w := w) hkt hko hk es'.isEmpty 9999
    have hlen : es.length = es'.toList.length := by simpa using hent.1
    have hent2 : ∀ (j : Nat) (e : AEnt) (e' : MapEntry), es[j]? = some e → es'.toList[j]? = some e' → VR ι e.key e'.key ∧ VR ι e.val e'.val ∧ e.born = e'.born := fun j a a' p q => hent.2 j a a' p (by simpa using q)
    split at h
    · rename_i i v0 hf
      obtain ⟨v1, e1, q1, q2, q3, q4, q5⟩ := find_ok hk _ _ _ _ hf hlen hent2
      cases h
      refine ⟨{ w with heap := w.heap.setIfInBounds cb (.map (es'.eraseIdxIfInBounds i) c) }, ?_, Post.map hR hp hg hw ?_⟩
      · simp [Builtin.delete_, h0, run_underlying hE hu, getObj_of h1 (by simp), hck, findKey_run hE hkt q1, setObj_of h1 (by simp)]
      · have q4 : es'[i]? = some e1 := by simpa using q4
        have hi : i < es'.size := by
          rcases Nat.lt_or_ge i es'.size with h' | h'
          · exact h'
          · rw [Array.getElem?_eq_none h'] at q4; cases q4
        have hl := hent.1
        have he : (es'.eraseIdxIfInBounds i) = es'.eraseIdx i hi := by simp [Array.eraseIdxIfInBounds, hi]
        rw [he, delNth_eq]
        refine ⟨by rw [List.length_eraseIdx, if_pos (by omega), Array.size_eraseIdx]; omega, fun j a a' p q => ?_⟩
        have q' : (es'.toList.eraseIdx i)[j]? = some a' := by
          rw [← Array.toList_eraseIdx]; simpa using q
        rw [List.getElem?_eraseIdx] at p q'
        by_cases hj : j < i
        · rw [if_pos hj] at p q'
          exact hent2 j a a' p q'
        · rw [if_neg hj] at p q'
          exact hent2 (j + 1) a a' p q'
    · rename_i hf
      have q1 := find_ok hk _ _ _ _ hf hlen hent2
      simp only at q1
      cases h
      refine ⟨{ w with heap := w.heap.setIfInBounds cb (.map es' c) }, ?_, ?_⟩
      · simp [Builtin.delete_, h0, run_underlying hE hu, getObj_of h1 (by simp), hck, findKey_run hE hkt q1, setObj_of h1 (by simp)]
      · have heap : (w.heap.setIfInBounds cb (.map es' c)) = w.heap := by
          apply Array.ext_getElem?
          intro j
          rw [Array.getElem?_setIfInBounds]
          by_cases hj : cb = j
          · subst hj; rw [if_pos rfl, if_pos hw, h1]
          · rw [if_neg hj]
        rw [heap]
        exact Post.refl hR
    · cases h
  · cases h
end
end Go.Abm

namespace Go.Abm
section
variable {P : Program} {E : Env} (hE : EnvOk P E) {B : Bd} {ι : Ren} {M : AM} {w : World} (hR : Rel B ι M w)
include hE hR
theorem range_run {t : TypeId} {x : AV} {x' : Value} {r : AV × AM} (h : arange E M t x = some r) (hx : VR ι x x') : OpV P B ι w (Instr.range t x') r.1 r.2 := by
  unfold arange at h
  split at h
  · rename_i s hu
    cases h
    cases hx with
    | str s =>
    refine ⟨_, .pointer (some ⟨w.heap.size, 0, none⟩), _, by simp [Instr.range, run_underlying hE hu]; rfl, .ptr (base := 0) (Ren.add_self _ _ _), Post.new (room := 0) hR ⟨rfl, s, by simp, rfl⟩⟩
  · rename_i hu
    cases h; cases hx
    refine ⟨_, .pointer (some ⟨w.heap.size, 0, none⟩), _, by simp [Instr.range, run_underlying hE hu]; rfl, .ptr (base := 0) (Ren.add_self _ _ _), Post.new (room := 0) hR ⟨rfl, _, _, _, by simp; exact ⟨rfl, rfl, rfl⟩⟩⟩
  · rename_i b hu
    split at h
    case h_2 => cases h
    rename_i es c hm
    cases h
    cases hx with
    | mp hp =>
    rename_i cb r
    obtain ⟨es', h1, hent, hg⟩ := mapOf_ok hR hp hm
    have hle : ι.le (ι.add M.nx (w.heap.size, 0, 0)) := Ren.add_le (hR.fresh _ (Nat.le_refl _)).2
    refine ⟨_, .pointer (some ⟨w.heap.size, 0, none⟩), _, by simp [Instr.range, run_underlying hE hu, getObj_of h1 (by simp)]; rfl, .ptr (base := 0) (Ren.add_self _ _ _), Post.new (room := 0) hR ⟨rfl, cb, r, hle _ _ hp, by simp⟩⟩
  · cases h
omit hE hR in
theorem natMem_eq (n : Nat) : ∀ l : List Nat, natMem n l = l.contains n
  | [] => rfl
  | x :: xs => by
    unfold natMem
    rw [List.contains_cons, natMem_eq n xs]
    cases h : Nat.beq x n with
    | true => have := beq_of h; subst this; simp
    | false => have := beq_not h; simp; intro e; exact absurd e.symm this
omit hE in
theorem ptr_inv {r off : Nat} {x' : Value} {ob : AObj} (hx : VR ι (.ptr r off) x') (hg : M.get r = some ob) :
    ∃ cb base room, ι r = some (cb, base, room) ∧ x' = .pointer (some ⟨cb, base + off, none⟩) ∧ ObjR ι w ob cb base room := by
  cases hx with
  | ptr hp => exact ⟨_, _, _, hp, rfl, (hR.obj _ _ _ _ _ hg hp).1⟩
omit hE in
theorem nextS_run {x : AV} {x' : Value} {ty : TypeId} {r : AV × AM} (h : anextS M x = some r) (hx : VR ι x x') : OpV P B ι w (Instr.next x' true ty) r.1 r.2 := by
  unfold anextS at h
  split at h
  case h_2 => cases h
  rename_i rr
  split at h
  case h_2 => cases h
  rename_i s pos hg
  obtain ⟨cb, base, room, hp, rfl, hb, s', h1, hs⟩ := ptr_inv hR hx hg
  subst hb
  subst hs
  have hw : cb < w.heap.size := by
    rcases Nat.lt_or_ge cb w.heap.size with h' | h'
    · exact h'
    · rw [Array.getElem?_eq_none h'] at h1; cases h1
  cases hlt : Nat.blt pos (nats s').length with
  | true =>
    have hlt' := blt_of hlt
    rw [hlt] at h
    simp only [cond_true] at h
    split at h
    case h_2 => cases h
    rename_i c hc
    obtain ⟨h128, h⟩ := cond_some_inv h
    have h128 := blt_of h128
    cases h
    rw [nats_length] at hlt'
    have hc2 : s'.data.toList[pos]? = some (s'.data.toList[pos]'(by simpa using hlt')) := List.getElem?_eq_getElem _
    have hcc : c = (s'.data.toList[pos]'(by simpa using hlt')).toNat := by
      simp only [nats, List.getElem?_map, hc2, Option.map_some, Option.some.injEq] at hc
      exact hc.symm
    have hget : (s'.get! pos).toNat = c := by
      rw [hcc]
      simp [ByteArray.get!, getElem!_pos, hlt']
    have hdec : Utf8.decode s' pos = (c, 1) := by
      unfold Utf8.decode
      simp only [Nat.add_zero, hget]
      rw [if_pos h128]
    refine ⟨ι, .tuple #[.bool true, goInt pos, .int .i32 c], { w with heap := w.heap.setIfInBounds cb (.stringIter s' (pos + 1)) }, ?_, ?_, ?_⟩
    · simp only [Nat.zero_add, Instr.next, Sem.run_bind, getObj_of h1 (by simp), Result.andThen_ok, if_pos hlt', hdec, setObj_of h1 (by simp), Sem.run_pure]
    · exact .tup' (by simpa [goInt] using VRs.cons (.bool true) (VRs.cons (.int _ _) (VRs.cons (.int _ _) VRs.nil)))
    · exact Post.set hR hg hp rfl (fun x hx => by simp only [Array.getElem?_setIfInBounds]; rw [if_neg (fun e => hx e.symm)]) (by simp) rfl rfl rfl ⟨rfl, s', by simp [hw], rfl⟩
  | false =>
    have hlt' := blt_not hlt
    rw [hlt] at h
    cases h
    rw [nats_length] at hlt'
    refine OpV.pure hR (v' := .tuple #[.bool false]) ?_ (.tup' (by simpa using VRs.cons (.bool false) VRs.nil))
    simp only [Nat.zero_add, Instr.next, Sem.run_bind, getObj_of h1 (by simp), Result.andThen_ok]
    rw [if_neg (by omega)]
    rfl
omit hE hR in
theorem filter_rel (q : Nat → Bool) : ∀ (es : List AEnt) (es' : List MapEntry), es.length = es'.length →
    (∀ (j : Nat) (e : AEnt) (e' : MapEntry), es[j]? = some e → es'[j]? = some e' → VR ι e.key e'.key ∧ VR ι e.val e'.val ∧ e.born = e'.born) →
    (es.filter fun e => q e.born).length = (es'.filter fun e => q e.born).length ∧
    ∀ (j : Nat) (e : AEnt) (e' : MapEntry), (es.filter fun e => q e.born)[j]? = some e → (es'.filter fun e => q e.born)[j]? = some e' → VR ι e.key e'.key ∧ VR ι e.val e'.val ∧ e.born = e'.born
  | [], [], _, _ => by simp
  | [], _ :: _, h, _ => by simp at h
  | _ :: _, [], h, _ => by simp at h
  | e :: es, e' :: es', h, he => by
    have h0 := he 0 e e' rfl rfl
    obtain ⟨i1, i2⟩ := filter_rel q es es' (by simpa using h) (fun j a a' x y => he (j + 1) a a' (by simpa using x) (by simpa using y))
    simp only [List.filter_cons, h0.2.2]
    split
    · refine ⟨by simp [i1], fun j a a' x y => ?_⟩
      cases j with
      | zero => simp at x y; subst x y; exact h0
      | succ j => exact i2 j a a' (by simpa using x) (by simpa using y)
    · exact ⟨i1, i2⟩
omit hE in
theorem next_run {x : AV} {x' : Value} {ty : TypeId} {r : AV × AM} (h : anext M x = some r) (hx : VR ι x x') : OpV P B ι w (Instr.next x' false ty) r.1 r.2 := by
  unfold anext at h
  split at h
  case h_2 => cases h
  rename_i rr
  split at h
  · rename_i a b c hg
    obtain ⟨cb, base, room, hp, rfl, hb, a', b', c', h1⟩ := ptr_inv hR hx hg
    subst hb
    cases h
    refine OpV.pure hR (v' := .tuple #[.bool false]) ?_ (.tup' (by simpa using VRs.cons (.bool false) VRs.nil))
    simp only [Nat.zero_add, Instr.next, Sem.run_bind, getObj_of h1 (by simp), Result.andThen_ok]
    rfl
  · rename_i m since seen last hg
    obtain ⟨cb, base, room, hp, rfl, hb, cm, rm, hm, h1⟩ := ptr_inv hR hx hg
    subst hb
    split at h
    case h_2 => cases h
    rename_i es c hme
    obtain ⟨es', h2, hent, hgm⟩ := mapOf_ok hR hm hme
    have hw : cb < w.heap.size := by
      rcases Nat.lt_or_ge cb w.heap.size with h' | h'
      · exact h'
      · rw [Array.getElem?_eq_none h'] at h1; cases h1
    cases hbad : (!seen.isEmpty && !es.isEmpty && es.all (fun e => Nat.ble last e.born)) with
    | true => rw [hbad] at h; cases h
    | false =>
    rw [hbad] at h
    simp only [cond_false] at h
    have hlen : es.length = es'.toList.length := by simpa using hent.1
    have hent2 : ∀ (j : Nat) (e : AEnt) (e' : MapEntry), es[j]? = some e → es'.toList[j]? = some e' → VR ι e.key e'.key ∧ VR ι e.val e'.val ∧ e.born = e'.born := fun j a a' p q => hent.2 j a a' p (by simpa using q)
    have hall : es'.all (fun e => decide (e.born ≥ last)) = es.all (fun e => Nat.ble last e.born) := by
      rw [← Array.all_toList]
      clear hbad h hgm h2 hme hent
      generalize es'.toList = l at hlen hent2
      induction l generalizing es with
      | nil => cases es with
        | nil => rfl
        | cons e es => simp at hlen
      | cons e' l ih => cases es with
        | nil => simp at hlen
        | cons e es =>
          simp only [List.all_cons]
          rw [ih es (by simpa using hlen) (fun j a a' p q => hent2 (j + 1) a a' (by simpa using p) (by simpa using q)), (hent2 0 e e' rfl rfl).2.2]
          congr 1
          cases hq : Nat.ble last e'.born with
          | true => have := ble_of hq; simpa using this
          | false => have := ble_not hq; simpa using this
    have hbad' : (!seen.toArray.isEmpty && !es'.isEmpty && es'.all (fun e => decide (e.born ≥ last))) = false := by
      rw [hall, ← hbad]
      congr 2
      · simp
      · congr 1
        rw [Bool.eq_iff_iff]
        simp only [Array.isEmpty_iff_size_eq_zero, List.isEmpty_iff_length_eq_zero]
        have := hent.1
        omega
    have hfl := filter_rel (ι := ι) (fun n => !natMem n seen) es es'.toList hlen hent2
    have hleft : (es'.filter fun e => !seen.toArray.contains e.born).toList = es'.toList.filter fun e => !natMem e.born seen := by
      rw [Array.toList_filter]
      congr 1
      funext e
      rw [natMem_eq]
      simp
    split at h
    · rename_i hnil
      cases h
      refine OpV.pure hR (v' := .tuple #[.bool false]) ?_ (.tup' (by simpa using VRs.cons (.bool false) VRs.nil))
      have hl0 : (es'.filter fun e => !seen.toArray.contains e.born) = #[] := by
        have := hfl.1
        rw [hnil] at this
        have h3 : (es'.filter fun e => !seen.toArray.contains e.born).toList.length = 0 := by rw [hleft, ← this]; rfl
        exact Array.eq_empty_of_size_eq_zero (by simpa using h3)
      simp only [Nat.zero_add, Instr.next, Sem.run_bind, getObj_of h1 (by simp), getObj_of h2 (by simp), Result.andThen_ok]
      rw [if_neg (by rw [hbad']; simp), hl0]
      simp [Question.forced]
    · rename_i e hone
      obtain ⟨hs, h⟩ := cond_some_inv h
      have hs := blt_of hs
      cases h
      have h3 := hfl.1
      rw [hone] at h3
      obtain ⟨e', he'⟩ : ∃ e', es'.toList.filter (fun e => !natMem e.born seen) = [e'] := by
        cases hq : es'.toList.filter (fun e => !natMem e.born seen) with
        | nil => rw [hq] at h3; simp at h3
        | cons a l =>
          rw [hq] at h3
          cases l with
          | nil => exact ⟨a, rfl⟩
          | cons b l => simp at h3
      have h4 := hfl.2 0 e e' (by rw [hone]; rfl) (by rw [he']; rfl)
      have hl0 : (es'.filter fun e => !seen.toArray.contains e.born) = #[e'] := by
        apply Array.ext'
        rw [hleft, he']
      have hborn : e'.born < since := by rw [← h4.2.2]; exact hs
      refine ⟨ι, .tuple #[.bool true, e'.key, e'.val], { w with heap := w.heap.setIfInBounds cb (.mapIter (some cm) since (seen.toArray.push e'.born) c) }, ?_, ?_, ?_⟩
      · simp only [Nat.zero_add, Instr.next, Sem.run_bind, getObj_of h1 (by simp), getObj_of h2 (by simp), Result.andThen_ok]
        rw [if_neg (by rw [hbad']; simp), hl0]
        have hnb : ¬ (e'.born ≥ since) := by omega
        simp [Question.forced, hborn, hnb, setObj_of h1]
      · exact .tup' (by simpa using VRs.cons (.bool true) (VRs.cons h4.1 (VRs.cons h4.2.1 VRs.nil)))
      · exact Post.set hR hg hp rfl (fun x hx => by simp only [Array.getElem?_setIfInBounds]; rw [if_neg (fun e => hx e.symm)]) (by simp) rfl rfl rfl ⟨rfl, cm, rm, hm, by simp [hw, h4.2.2]⟩
    · cases h
  · cases h
omit hE hR in
theorem alast_eq : ∀ l : List Nat, alast l = l.getLast?
  | [] => rfl
  | [x] => rfl
  | x :: y :: xs => by
    unfold alast
    rw [alast_eq (y :: xs)]
    simp
omit hE in
theorem entry_run {x v : AV} {x' : Value} (h : aentry M x = some v) (hx : VR ι x x') : ∃ v', (Instr.entry x').run P w = .ok v' w ∧ VR ι v v' := by
  unfold aentry at h
  split at h
  case h_2 => cases h
  rename_i rr
  split at h
  case h_2 => cases h
  rename_i m since seen stepped hg
  obtain ⟨cb, base, room, hp, rfl, hb, cm, rm, hm, h1⟩ := ptr_inv hR hx hg
  subst hb
  split at h
  case h_2 => cases h
  rename_i es c s hme hlast
  obtain ⟨es', h2, hent, hgm⟩ := mapOf_ok hR hm hme
  obtain ⟨hc, h'⟩ := cond_some_inv h
  clear h
  have hc := beq_of hc
  subst hc
  split at h'
  case h_2 => cases h'
  rename_i e hf
  cases h'
  have hlen : es.length = es'.toList.length := by simpa using hent.1
  have hent2 : ∀ (j : Nat) (e : AEnt) (e' : MapEntry), es[j]? = some e → es'.toList[j]? = some e' → VR ι e.key e'.key ∧ VR ι e.val e'.val ∧ e.born = e'.born := fun j a a' p q => hent.2 j a a' p (by simpa using q)
  have key : ∀ (es : List AEnt) (l : List MapEntry), es.length = l.length → (∀ (j : Nat) (e : AEnt) (e' : MapEntry), es[j]? = some e → l[j]? = some e' → VR ι e.key e'.key ∧ VR ι e.val e'.val ∧ e.born = e'.born) →
      es.find? (fun e => Nat.beq e.born s) = some e → ∃ e', l.find? (fun e => e.born == s) = some e' ∧ VR ι e.key e'.key ∧ VR ι e.val e'.val := by
    intro es
    induction es with
    | nil => intro l _ _ h; simp at h
    | cons a es ih =>
      intro l hl he hf
      cases l with
      | nil => simp at hl
      | cons a' l =>
        have h0 := he 0 a a' rfl rfl
        rw [List.find?_cons] at hf ⊢
        rw [← h0.2.2]
        cases hq : Nat.beq a.born s with
        | true =>
          rw [hq] at hf
          cases hf
          have := beq_of hq
          refine ⟨a', ?_, h0.1, h0.2.1⟩
          simp [this]
        | false =>
          rw [hq] at hf
          have := beq_not hq
          have h5 : (a.born == s) = false := by simpa using this
          rw [h5]
          exact ih l (by simpa using hl) (fun j x y p q => he (j + 1) x y (by simpa using p) (by simpa using q)) hf
  obtain ⟨e', q1, q2, q3⟩ := key es es'.toList hlen hent2 hf
  refine ⟨.tuple #[e'.key, e'.val], ?_, .tup' (by simpa using VRs.cons q2 (VRs.cons q3 VRs.nil))⟩
  have hback : seen.toArray.back? = some s := by
    rw [alast_eq] at hlast
    simpa using hlast
  have hfind : es'.find? (fun e => e.born == s) = some e' := by
    rw [← Array.find?_toList]; exact q1
  simp only [Nat.zero_add, Instr.entry, Sem.run_bind, getObj_of h1 (by simp), getObj_of h2 (by simp), Result.andThen_ok, hback]
  simp [hfind]
end
end Go.Abm

namespace Go.Abm
section
variable {P : Program} {E : Env} (hE : EnvOk P E) {B : Bd} {ι : Ren} {M : AM} {w : World} (hR : Rel B ι M w)
include hE hR
omit hE hR in
theorem min2_run {x y v : AV} {x' y' : Value} (h : amin2 x y = some v) (hx : VR ι x x') (hy : VR ι y y') : ∃ v', (Builtin.min2 x' y').run P w = .ok v' w ∧ VR ι v v' := by
  unfold amin2 at h
  split at h
  · cases h; cases hx; cases hy
    refine ⟨_, rfl, ?_⟩
    rw [iltF_eq]
    rename_i k x k2 y
    by_cases hq : y < x <;> simp only [hq, decide_true, decide_false, cond_true, cond_false, if_true, if_false] <;> exact .int _ _
  · cases h; cases hx; cases hy
    rename_i x y
    have e1 : natsBeq (nats x) (nats y) = (x.toList == y.toList) := by rw [nats_toList, nats_toList, natsBeq_eq]
    have e2 : natsLess (nats x) (nats y) = Op.bytesLess x.toList y.toList := by rw [nats_toList, nats_toList, natsLess_eq]
    rw [e1, e2]
    refine ⟨.string (if (Op.bytesLess x.toList y.toList || x.toList == y.toList) = true then x else y), ?_, ?_⟩
    · simp [Builtin.min2, Op.stringOp, asBool]
    · cases (Op.bytesLess x.toList y.toList || x.toList == y.toList) <;> simp only [cond_true, cond_false, if_true, if_false, Bool.false_eq_true] <;> exact .str _
  · cases h
omit hE hR in
theorem max2_run {x y v : AV} {x' y' : Value} (h : amax2 x y = some v) (hx : VR ι x x') (hy : VR ι y y') : ∃ v', (Builtin.max2 x' y').run P w = .ok v' w ∧ VR ι v v' := by
  unfold amax2 at h
  split at h
  · cases h; cases hx; cases hy
    refine ⟨_, rfl, ?_⟩
    rw [iltF_eq]
    rename_i k x k2 y
    by_cases hq : x < y <;> simp only [hq, decide_true, decide_false, cond_true, cond_false, if_true, if_false, gt_iff_lt] <;> exact .int _ _
  · cases h; cases hx; cases hy
    rename_i x y
    have e2 : natsLess (nats x) (nats y) = Op.bytesLess x.toList y.toList := by rw [nats_toList, nats_toList, natsLess_eq]
    rw [e2]
    refine ⟨.string (if (!Op.bytesLess x.toList y.toList) = true then x else y), ?_, ?_⟩
    · simp [Builtin.max2, Op.stringOp, asBool]
    · cases (Op.bytesLess x.toList y.toList) <;> simp only [cond_true, cond_false, if_true, if_false, Bool.false_eq_true, Bool.not_true, Bool.not_false] <;> exact .str _
  · cases h
omit hE hR in
theorem fold_run {f : AV → AV → Option AV} {g : Value → Value → Sem Value} (hfg : ∀ x y v x' y', f x y = some v → VR ι x x' → VR ι y y' → ∃ v', (g x' y').run P w = .ok v' w ∧ VR ι v v') :
    ∀ (l : List AV) (l' : List Value) (a v : AV) (a' : Value), l.foldl (fun acc y => acc.bind fun a => f a y) (some a) = some v → VRs ι l l' → VR ι a a' →
      ∃ v', (l'.foldlM g a').run P w = .ok v' w ∧ VR ι v v'
  | [], [], a, v, a', h, _, ha => by cases h; exact ⟨a', rfl, ha⟩
  | [], _ :: _, _, _, _, _, hl, _ => by have := hl.1; simp at this
  | _ :: _, [], _, _, _, _, hl, _ => by have := hl.1; simp at this
  | y :: l, y' :: l', a, v, a', h, hl, ha => by
    simp only [List.foldl_cons, Option.bind_some] at h
    cases hfy : f a y with
    | none =>
      rw [hfy] at h
      have : ∀ l : List AV, l.foldl (fun acc y => acc.bind fun a => f a y) none = none := by
        intro l; induction l with
        | nil => rfl
        | cons x l ih => simpa using ih
      rw [this] at h; cases h
    | some b =>
      rw [hfy] at h
      obtain ⟨b', hb, hvb⟩ := hfg _ _ _ _ _ hfy ha hl.head
      obtain ⟨v', hv, hvv⟩ := fold_run hfg l l' b v b' h hl.tail hvb
      exact ⟨v', by simp [List.foldlM_cons, hb, hv], hvv⟩
omit hE hR in
theorem afold_run {f : AV → AV → Option AV} {g : Value → Value → Sem Value} (hfg : ∀ x y v x' y', f x y = some v → VR ι x x' → VR ι y y' → ∃ v', (g x' y').run P w = .ok v' w ∧ VR ι v v')
    {l : List AV} {l' : List Value} {v : AV} (h : afold f l = some v) (hl : VRs ι l l') : ∃ x' r' v', l' = x' :: r' ∧ (r'.foldlM g x').run P w = .ok v' w ∧ VR ι v v' := by
  cases l with
  | nil => cases h
  | cons x xs =>
    cases l' with
    | nil => have := hl.1; simp at this
    | cons x' xs' =>
      obtain ⟨v', a, b⟩ := fold_run hfg xs xs' x v x' h hl.tail hl.head
      exact ⟨x', xs', v', rfl, a, b⟩
theorem len_run {argTypes : Array TypeId} {t ty : TypeId} {x : AV} {x' : Value} {n : Nat} {d : TypeDesc} (h0 : argTypes[0]? = some t) (hu : E.under t = some d) (h : alenD d M x = some n) (hx : VR ι x x') :
    (Builtin.len_ argTypes ty #[x']).run P w = .ok (.int .i64 (.ofNat n)) w := by
  unfold alenD at h
  split at h
  · cases h; cases hx
    rename_i s
    rw [nats_length]
    simp [Builtin.len_, h0, run_underlying hE hu, goInt]
  · cases h; cases hx
    simp [Builtin.len_, h0, run_underlying hE hu, goInt]
  · cases h; cases hx <;> simp [Builtin.len_, h0, run_underlying hE hu, goInt]
  · cases h; cases hx
    simp [Builtin.len_, h0, run_underlying hE hu, goInt]
  · obtain ⟨p, hp, rfl⟩ := map_some_inv h
    obtain ⟨es, c⟩ := p
    cases hx with
    | mp hpp =>
    obtain ⟨es', h1, h2, _⟩ := mapOf_ok hR hpp hp
    simp [Builtin.len_, h0, run_underlying hE hu, goInt, getObj_of h1, h2.1]
  · cases h;
    simp [Builtin.len_, h0, run_underlying hE hu, goInt]
  · cases h
theorem copy_run {argTypes : Array TypeId} {ty : TypeId} {d s : AV} {d' s' : Value} {r : AV × AM} (h : acopy E M argTypes d s = some r) (hd : VR ι d d') (hs : VR ι s s') :
    OpV P B ι w (Builtin.copy_ argTypes ty #[d', s']) r.1 r.2 := by
  unfold acopy at h
  split at h
  · cases h
  rename_i dt h0
  split at h
  · cases h
  rename_i e he
  split at h
  case h_2 => cases h
  rename_i size a b hsz ha hb
  split at h
  case h_2 => cases h
  rename_i cs hcs
  have hu := sliceElem_under he
  have hlen := lenOf_ok (P := P) (w := w) hb hs
  obtain ⟨arr, har, hv⟩ := first_ok (P := P) hR hcs hs
  have hmin : Nat.min b a = min b a := rfl
  split at h
  · cases h
    cases hd
    cases ha
    refine OpV.pure hR (v' := .int .i64 (Int.ofNat (min b 0))) ?_ (.int _ _)
    simp [Builtin.copy_, h0, run_underlying hE hu, hlen, run_sizeOf hE hsz] at har ⊢
    simp [har, goInt]
  · rename_i bk off len cap gr
    have ha := Option.some.inj ha
    subst ha
    cases hn0 : Nat.beq (min b len) 0 with
    | true =>
      have := beq_of hn0
      rw [hn0] at h
      cases h
      have harr : arr.toList = [] := by
        have h1 := hv.1
        rw [this] at hcs
        have : cs = [] := by
          unfold afirst at hcs
          split at hcs
          · cases hcs; rfl
          · cases hcs; simp
          · simp at hcs; exact hcs
          · cases hcs
        rw [this] at h1
        exact List.eq_nil_of_length_eq_zero h1.symm
      have run : ∀ a cc, (Builtin.copy_ argTypes ty #[.slice (some a) len cc, s']).run P w = .ok (.int .i64 (Int.ofNat (min b len))) w := fun a cc => by
        simp only [Builtin.copy_, h0, List.getElem?_toArray, List.getElem?_cons_zero, List.getElem?_cons_succ, Sem.run_bind, run_underlying hE hu, Result.andThen_ok, hlen, run_sizeOf hE hsz, hmin, har, harr, storeCells, Sem.run_pure, goInt]
        rfl
      cases hd with
      | sle hp => exact OpV.pure hR (run _ _) (.int _ _)
      | slg hp ho hee hc hr hl => exact OpV.pure hR (run _ _) (.int _ _)
    | false =>
      have hne := beq_not hn0
      rw [hn0] at h
      simp only [cond_false] at h
      obtain ⟨M', hst, rfl⟩ := map_some_inv h
      have run : ∀ a cc w', (storeCells a arr.toList).run P w = .ok () w' → (Builtin.copy_ argTypes ty #[.slice (some a) len cc, s']).run P w = .ok (.int .i64 (Int.ofNat (min b len))) w' := fun a cc w' hw => by
        simp only [Builtin.copy_, h0, List.getElem?_toArray, List.getElem?_cons_zero, List.getElem?_cons_succ, Sem.run_bind, run_underlying hE hu, Result.andThen_ok, hlen, run_sizeOf hE hsz, hmin, har, hw, Sem.run_pure, goInt]
        rfl
      cases hd with
      | sle hp =>
        obtain ⟨w', hr', hpost⟩ := astore_ok (P := P) hR hp hv hst
        exact ⟨ι, _, w', run _ _ _ hr', .int _ _, hpost⟩
      | slg hp ho hee hc hr hl =>
        obtain ⟨w', hr', hpost⟩ := astore_ok (P := P) hR hp hv hst
        refine ⟨ι, _, w', run _ _ _ ?_, .int _ _, hpost⟩
        rw [hee (by omega)]; exact hr'
  · cases h
end
end Go.Abm
