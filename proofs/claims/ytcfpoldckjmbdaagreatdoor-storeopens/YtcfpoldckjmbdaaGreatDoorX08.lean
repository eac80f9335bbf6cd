/-
  A part of the proof that pumicelaw17.StoreOpens returns true for every geometry, key, number and group (a machine over names of blocks, its soundness, the calls of the store for any geometry, the chapter's example as a run). Condition: the listed package variables hold what the program's text lays; the card ties that.
-/
import Derived.Test.YtcfpoldckjmbdaaGreatDoorX01
import Derived.Test.YtcfpoldckjmbdaaGreatDoorX07
set_option linter.unusedVariables false
set_option linter.unusedSimpArgs false
set_option linter.unusedSectionVars false
namespace Go.Abm
inductive Sched (ops : Array Oper) : (Nat → Prop) → List Nat → Prop
  | done {D : Nat → Prop} (h : ∀ i, i < ops.size → D i) : Sched ops D []
  | step {D : Nat → Prop} {i : Nat} {o : Oper} {r : List Nat} (ho : ops[i]? = some o) (hn : ¬ D i) (hd : ∀ e ∈ o.after.toList, Region.binds .any e = true → D e.on)
      (hr : Sched ops (fun j => D j ∨ j = i) r) : Sched ops D (i :: r)
inductive Reach (m : Region.Mode) (ops : Array Oper) : Nat → Prop
  | mk {i : Nat} {o : Oper} (ho : ops[i]? = some o) (h : ∀ e ∈ o.after.toList, Region.binds m e = true → Reach m ops e.on) : Reach m ops i
theorem binds_any {m : Region.Mode} {e : Edge} (h : Region.binds .any e = true) : Region.binds m e = true := by
  unfold Region.binds at *
  split at h <;> first | rfl | (simp at h; done) | (split <;> simp_all)
def rdy (m : Region.Mode) (ops : Array Oper) (listed : Array Bool) (i : Nat) : Bool :=
  !listed.getD i true && ((ops[i]?).map (·.after.all fun e => !Region.binds m e || listed.getD e.on false)).getD false
theorem reach_ready {m : Region.Mode} {ops : Array Oper} {listed : Array Bool} (hs : listed.size = ops.size) {i : Nat} (h : Reach m ops i) (hl : listed.getD i true = false) :
    ∃ j, j < ops.size ∧ rdy m ops listed j = true := by
  induction h with
  | @mk i o ho h ih =>
    have hi : i < ops.size := by
      rcases Nat.lt_or_ge i ops.size with h | h
      · exact h
      · rw [Array.getElem?_eq_none h] at ho; cases ho
    by_cases hall : ∀ e ∈ o.after.toList, Region.binds m e = true → listed.getD e.on false = true
    · refine ⟨i, hi, ?_⟩
      simp only [rdy, hl, ho, Bool.not_false, Bool.true_and, Option.map_some, Option.getD_some]
      rw [← Array.all_toList, List.all_eq_true]
      intro e he
      by_cases hb : Region.binds m e = true
      · simp [hall e he hb]
      · simp [hb]
    · have : ∃ e ∈ o.after.toList, Region.binds m e = true ∧ listed.getD e.on false = false := by
        refine Classical.byContradiction fun hc => hall fun e he hb => ?_
        cases hx : listed.getD e.on false with
        | true => rfl
        | false => exact absurd ⟨e, he, hb, hx⟩ hc
      obtain ⟨e, he, hb, hx⟩ := this
      refine ih e he hb ?_
      have hlt : e.on < ops.size := by
        have hr := h e he hb
        cases hr with
        | mk ho' _ =>
          rcases Nat.lt_or_ge e.on ops.size with h | h
          · exact h
          · rw [Array.getElem?_eq_none h] at ho'; cases ho'
      have hlt' : e.on < listed.size := by omega
      rw [Array.getD_eq_getD_getElem?, Array.getElem?_eq_getElem hlt'] at hx ⊢
      exact hx
theorem countP_drop {p q : Nat → Bool} {i : Nat} (hi : p i = true) (hq : q i = false) (hpq : ∀ j, j ≠ i → q j = p j) : ∀ (l : List Nat), i ∈ l → l.countP q < l.countP p
  | [], h => by cases h
  | x :: l, h => by
    have mono : ∀ l : List Nat, l.countP q ≤ l.countP p := fun l => by
      induction l with
      | nil => exact Nat.le_refl _
      | cons y l ih =>
        rw [List.countP_cons, List.countP_cons]
        by_cases hy : y = i
        · subst hy; simp [hi, hq]; omega
        · rw [hpq y hy]; omega
    rw [List.countP_cons, List.countP_cons]
    by_cases hx : x = i
    · subst hx
      have := mono l
      simp [hi, hq]; omega
    · have hm : i ∈ l := by
        rcases List.mem_cons.1 h with h | h
        · exact absurd h.symm hx
        · exact h
      have := countP_drop hi hq hpq l hm
      rw [hpq x hx]; omega
theorem go_sched {m : Region.Mode} {ops : Array Oper} (hr : ∀ i, i < ops.size → Reach m ops i) : ∀ (fuel t : Nat) (listed : Array Bool) (acc : List Nat), listed.size = ops.size →
    (List.range ops.size).countP (fun i => !listed.getD i true) ≤ fuel → ∃ σ, Region.linearise.go m ops fuel t listed acc = acc.reverse ++ σ ∧ Sched ops (fun i => listed.getD i false = true) σ
  | 0, t, listed, acc, hs, hc => by
    refine ⟨[], by simp [Region.linearise.go], .done fun i hi => ?_⟩
    have h0 : (List.range ops.size).countP (fun i => !listed.getD i true) = 0 := by omega
    rw [List.countP_eq_zero] at h0
    have := h0 i (List.mem_range.2 hi)
    have hi' : i < listed.size := by omega
    rw [Array.getD_eq_getD_getElem?, Array.getElem?_eq_getElem hi'] at this ⊢
    simpa using this
  | fuel + 1, t, listed, acc, hs, hc => by
    have hdef : Region.linearise.go m ops (fuel + 1) t listed acc =
        (match ((List.range ops.size).filter (rdy m ops listed))[t % ((List.range ops.size).filter (rdy m ops listed)).length]? with
        | some i => Region.linearise.go m ops fuel (t / ((List.range ops.size).filter (rdy m ops listed)).length) (listed.setIfInBounds i true) (i :: acc)
        | none => acc.reverse) := rfl
    rw [hdef]
    split
    · rename_i i hi
      have hmem := List.mem_of_getElem? hi
      rw [List.mem_filter, List.mem_range] at hmem
      obtain ⟨hlt, hrd⟩ := hmem
      have hlt' : i < listed.size := by omega
      have hrd0 := hrd
      unfold rdy at hrd
      rw [Bool.and_eq_true] at hrd
      obtain ⟨h1, h2⟩ := hrd
      have hget : ∀ (j : Nat) (d : Bool), (listed.setIfInBounds i true).getD j d = if j = i then true else listed.getD j d := fun j d => by
        rw [Array.getD_eq_getD_getElem?, Array.getD_eq_getD_getElem?, Array.getElem?_setIfInBounds]
        by_cases hj : j = i
        · subst hj; simp [hlt']
        · rw [if_neg (fun e => hj e.symm), if_neg hj]
      have hcnt := countP_drop (p := fun j => !listed.getD j true) (q := fun j => !(listed.setIfInBounds i true).getD j true) (i := i) h1 (by simp [hget]) (fun j hj => by simp [hget, hj]) (List.range ops.size) (List.mem_range.2 hlt)
      obtain ⟨σ, e1, e2⟩ := go_sched hr fuel (t / ((List.range ops.size).filter (rdy m ops listed)).length) (listed.setIfInBounds i true) (i :: acc) (by simp [hs]) (by omega)
      refine ⟨i :: σ, by rw [e1]; simp, ?_⟩
      have hso : ops[i]? = some ops[i] := Array.getElem?_eq_getElem hlt
      refine .step hso ?_ ?_ ?_
      · have : listed.getD i true = false := by simpa using h1
        rw [Array.getD_eq_getD_getElem?, Array.getElem?_eq_getElem hlt'] at this ⊢
        simp at this ⊢
        exact this
      · intro e he hb
        rw [hso] at h2
        simp only [Option.map_some, Option.getD_some] at h2
        rw [← Array.all_toList, List.all_eq_true] at h2
        have := h2 e he
        rw [binds_any hb] at this
        simpa using this
      · have : (fun j => listed.getD j false = true ∨ j = i) = fun j => (listed.setIfInBounds i true).getD j false = true := by
          funext j
          rw [hget]
          by_cases hj : j = i <;> simp [hj]
        rw [this]
        exact e2
    · rename_i hi
      have hnil : (List.range ops.size).filter (rdy m ops listed) = [] := by
        rw [List.getElem?_eq_none_iff] at hi
        rcases Nat.eq_zero_or_pos ((List.range ops.size).filter (rdy m ops listed)).length with h0 | h0
        · exact List.length_eq_zero_iff.1 h0
        · have := Nat.mod_lt t h0; omega
      refine ⟨[], by simp, .done fun i hi => ?_⟩
      have hi' : i < listed.size := by omega
      cases hl : listed.getD i true with
      | true =>
        rw [Array.getD_eq_getD_getElem?, Array.getElem?_eq_getElem hi'] at hl ⊢
        exact hl
      | false =>
        obtain ⟨j, hj, hrj⟩ := reach_ready hs (hr i hi) hl
        have : j ∈ (List.range ops.size).filter (rdy m ops listed) := List.mem_filter.2 ⟨List.mem_range.2 hj, hrj⟩
        rw [hnil] at this
        cases this
theorem linearise_sched {m : Region.Mode} {ops : Array Oper} (hr : ∀ i, i < ops.size → Reach m ops i) (t : Nat) : Sched ops (fun _ => False) (Region.linearise m ops t) := by
  obtain ⟨σ, e1, e2⟩ := go_sched hr ops.size t (Array.replicate ops.size false) [] (by simp) (by
    refine Nat.le_trans List.countP_le_length ?_
    simp)
  have : Region.linearise m ops t = σ := by rw [show Region.linearise m ops t = Region.linearise.go m ops ops.size t (Array.replicate ops.size false) [] from rfl, e1]; simp
  rw [this]
  have hf : (fun i => (Array.replicate ops.size false).getD i false = true) = fun _ => False := by
    funext i
    rw [Array.getD_eq_getD_getElem?, Array.getElem?_replicate]
    split <;> simp
  rw [hf] at e2
  exact e2
theorem land_bit {a b i : Nat} (h : Nat.land a b = a) (hb : Nat.testBit a i = true) : Nat.testBit b i = true := by
  have : (a &&& b).testBit i = true := by rw [show a &&& b = a from h]; exact hb
  rw [Nat.testBit_and, Bool.and_eq_true] at this
  exact this.2
theorem bit_eq (m i : Nat) : bit m i = m.testBit i := by
  unfold bit
  rw [Nat.testBit_eq_decide_div_mod_eq]
  have h1 : Nat.land (Nat.shiftRight m i) 1 = (m >>> i) % 2 := Nat.and_one_is_mod _
  rw [h1, Nat.shiftRight_eq_div_pow]
  by_cases h : m / 2 ^ i % 2 = 1
  · rw [h]; rfl
  · simp [h]
    cases hb : Nat.beq (m / 2 ^ i % 2) 1 with
    | true => exact absurd (Nat.eq_of_beq_eq_true hb) h
    | false => rfl
theorem sub_bit {a b i : Nat} (h : sub a b = true) (hb : bit a i = true) : bit b i = true := by
  rw [bit_eq] at *
  exact land_bit (Nat.eq_of_beq_eq_true h) hb
theorem sub_of {a b : Nat} (h : ∀ i, bit a i = true → bit b i = true) : sub a b = true := by
  have : Nat.land a b = a := by
    show a &&& b = a
    apply Nat.eq_of_testBit_eq
    intro i
    rw [Nat.testBit_and]
    have := h i
    rw [bit_eq, bit_eq] at this
    cases ha : a.testBit i with
    | false => rfl
    | true => rw [this ha]; rfl
  unfold sub
  rw [this]
  exact Nat.beq_refl a
theorem bitOn_bit (m i j : Nat) : bit (bitOn m i) j = (bit m j || decide (i = j)) := by
  rw [bit_eq, bit_eq]
  show (m ||| (1 <<< i)).testBit j = _
  rw [Nat.testBit_or, Nat.testBit_shiftLeft]
  by_cases h : i = j
  · subst h; simp
  · simp only [h, decide_false, Bool.or_false]
    cases hm : m.testBit j with
    | true => rfl
    | false =>
      simp only [Bool.false_or, Bool.and_eq_false_imp, decide_eq_true_eq]
      intro hle
      rw [← Bool.not_eq_true, Nat.testBit_one_eq_true_iff_self_eq_zero]
      omega
theorem lor_bit (a b j : Nat) : bit (Nat.lor a b) j = (bit a j || bit b j) := by
  rw [bit_eq, bit_eq, bit_eq]
  exact Nat.testBit_or a b j
theorem zero_bit (j : Nat) : bit 0 j = false := by rw [bit_eq]; simp
theorem dmask_mono {m : Region.Mode} : ∀ (es : List Edge) (x j : Nat), bit x j = true → bit (dmask m es x) j = true
  | [], x, j, h => h
  | e :: es, x, j, h => by
    unfold dmask
    cases Region.binds m e with
    | true => exact dmask_mono es _ j (by rw [bitOn_bit, h]; rfl)
    | false => exact dmask_mono es _ j h
theorem dmask_mem {m : Region.Mode} : ∀ (es : List Edge) (x : Nat) (e : Edge), e ∈ es → Region.binds m e = true → bit (dmask m es x) e.on = true
  | f :: es, x, e, h, hb => by
    unfold dmask
    rcases List.mem_cons.1 h with h | h
    · subst h
      rw [hb]
      exact dmask_mono es _ _ (by rw [bitOn_bit]; simp)
    · cases Region.binds m f with
      | true => exact dmask_mem es _ e h hb
      | false => exact dmask_mem es _ e h hb
def MOk (m : Region.Mode) (ops : Array Oper) (x : Nat × Nat) : Prop := ∃ o, ops[x.1]? = some o ∧ x.2 = dmask m o.after.toList 0
theorem mok_reach {m : Region.Mode} {ops : Array Oper} {x : Nat × Nat} (h : MOk m ops x) {dn : Nat} (hs : sub x.2 dn = true) (hd : ∀ i, bit dn i = true → Reach m ops i) : Reach m ops x.1 := by
  obtain ⟨o, ho, hm⟩ := h
  refine .mk ho fun e he hb => hd _ (sub_bit hs ?_)
  rw [hm]
  exact dmask_mem _ _ e he hb
theorem mpass_ok {m : Region.Mode} {ops : Array Oper} : ∀ (l : List (Nat × Nat)) (dn : Nat) (acc l' : List (Nat × Nat)) (dn' : Nat), mpass l dn acc = (l', dn') →
    (∀ x ∈ l, MOk m ops x) → (∀ x ∈ acc, MOk m ops x) → (∀ i, bit dn i = true → Reach m ops i) →
    (∀ x ∈ l', MOk m ops x) ∧ (∀ i, bit dn' i = true → Reach m ops i) ∧ (∀ x ∈ l, x ∈ l' ∨ bit dn' x.1 = true) ∧ (∀ x ∈ acc, x ∈ l') ∧ (∀ i, bit dn i = true → bit dn' i = true)
  | [], dn, acc, l', dn', h, hl, ha, hd => by
    simp only [mpass, Prod.mk.injEq] at h
    obtain ⟨rfl, rfl⟩ := h
    exact ⟨fun x hx => ha x (by simpa using hx), hd, (fun x hx => by cases hx), (fun x hx => by simpa using hx), fun _ h => h⟩
  | (i, mk) :: l, dn, acc, l', dn', h, hl, ha, hd => by
    unfold mpass at h
    cases hs : sub mk dn with
    | true =>
      rw [hs] at h
      have hr := mok_reach (hl _ (List.mem_cons_self ..)) hs hd
      obtain ⟨a, b, c, d, e⟩ := mpass_ok l (bitOn dn i) acc l' dn' h (fun x hx => hl x (List.mem_cons_of_mem _ hx)) ha (fun j hj => by
        rw [bitOn_bit, Bool.or_eq_true] at hj
        rcases hj with hj | hj
        · exact hd j hj
        · rw [decide_eq_true_eq] at hj; subst hj; exact hr)
      refine ⟨a, b, fun x hx => ?_, d, fun j hj => e j (by rw [bitOn_bit, hj]; rfl)⟩
      rcases List.mem_cons.1 hx with hx | hx
      · subst hx; exact .inr (e i (by rw [bitOn_bit]; simp))
      · exact c x hx
    | false =>
      rw [hs] at h
      obtain ⟨a, b, c, d, e⟩ := mpass_ok l dn ((i, mk) :: acc) l' dn' h (fun x hx => hl x (List.mem_cons_of_mem _ hx)) (fun x hx => by
        rcases List.mem_cons.1 hx with hx | hx
        · subst hx; exact hl _ (List.mem_cons_self ..)
        · exact ha x hx) hd
      refine ⟨a, b, fun x hx => ?_, fun x hx => d x (List.mem_cons_of_mem _ hx), e⟩
      rcases List.mem_cons.1 hx with hx | hx
      · subst hx; exact .inl (d _ (List.mem_cons_self ..))
      · exact c x hx
theorem mrun_ok {m : Region.Mode} {ops : Array Oper} : ∀ (n : Nat) (l : List (Nat × Nat)) (dn : Nat), mrun n l dn = true → (∀ x ∈ l, MOk m ops x) → (∀ i, bit dn i = true → Reach m ops i) →
    ∀ x ∈ l, Reach m ops x.1
  | n + 1, l, dn, h, hl, hd, x, hx => by
    unfold mrun at h
    split at h
    · rename_i dn' hp
      obtain ⟨a, b, c, d, e⟩ := mpass_ok l dn [] _ _ hp hl (fun x hx => by cases hx) hd
      rcases c x hx with h1 | h1
      · cases h1
      · exact b _ h1
    · rename_i l' dn' _ hp
      obtain ⟨a, b, c, d, e⟩ := mpass_ok l dn [] _ _ hp hl (fun x hx => by cases hx) hd
      rcases c x hx with h1 | h1
      · exact mrun_ok n l' dn' h a b x h1
      · exact b _ h1
theorem mitems_ok {m : Region.Mode} {ops : Array Oper} : ∀ (l : List Oper) (n : Nat), ops.toList.drop n = l → (∀ x ∈ mitems m l n, MOk m ops x) ∧ ∀ i, n ≤ i → i < ops.size → ∃ x ∈ mitems m l n, x.1 = i
  | [], n, h => by
    refine ⟨(fun x hx => by cases hx), fun i h1 h2 => ?_⟩
    have := congrArg List.length h
    simp at this
    omega
  | o :: l, n, h => by
    have ho : ops[n]? = some o := by
      have := congrArg (fun l => l[0]?) h
      simpa using this
    have hl' : ops.toList.drop (n + 1) = l := by rw [← List.drop_drop, h]; rfl
    obtain ⟨a, b⟩ := mitems_ok (m := m) l (n + 1) hl'
    refine ⟨fun x hx => ?_, fun i h1 h2 => ?_⟩
    · rcases List.mem_cons.1 hx with hx | hx
      · subst hx; exact ⟨o, ho, rfl⟩
      · exact a x hx
    · rcases Nat.eq_or_lt_of_le h1 with h3 | h3
      · exact ⟨_, List.mem_cons_self .., h3⟩
      · obtain ⟨x, hx, e⟩ := b i h3 h2
        exact ⟨x, List.mem_cons_of_mem _ hx, e⟩
theorem modeOk_reach {m : Region.Mode} {ops : Array Oper} (h : modeOk m ops = true) (i : Nat) (hi : i < ops.size) : Reach m ops i := by
  obtain ⟨a, b⟩ := mitems_ok (m := m) (ops := ops) ops.toList 0 rfl
  obtain ⟨x, hx, e⟩ := b i (Nat.zero_le _) hi
  rw [← e]
  exact mrun_ok _ _ 0 h a (fun j hj => by rw [zero_bit] at hj; cases hj) x hx
theorem depE_ok : ∀ (es : List Edge), depE es = false → ∀ e ∈ es, Region.binds .any e = true
  | f :: es, h, e, he => by
    unfold depE at h
    cases hb : Region.binds .any f with
    | true =>
      rw [hb] at h
      rcases List.mem_cons.1 he with he | he
      · subst he; exact hb
      · exact depE_ok es h e he
    | false => rw [hb] at h; cases h
theorem depL_ok (l : List Oper) : depL l = false → ∀ o, o ∈ l → ∀ e, e ∈ o.after.toList → Region.binds .any e = true := by
  induction l with
  | nil => intro _ o ho; cases ho
  | cons p l ih =>
    intro h o ho
    rw [depL] at h
    cases hb : depE p.after.toList with
    | true => rw [hb] at h; cases h
    | false =>
      rw [hb] at h
      rcases List.mem_cons.1 ho with ho | ho
      · rw [ho]; exact depE_ok _ hb
      · exact ih h o ho
theorem departs_false {ops : Array Oper} (h : depL ops.toList = false) : Region.departs ops = false := by
  unfold Region.departs
  rw [← Bool.not_eq_true, Array.any_eq_true]
  rintro ⟨i, hi, h1⟩
  rw [Array.any_eq_true] at h1
  obtain ⟨j, hj, h2⟩ := h1
  have := depL_ok _ h ops[i] (by simp) (ops[i].after[j]) (by simp)
  rw [this] at h2
  cases h2
theorem schedule_sched {ops : Array Oper} (hany : ∀ i, i < ops.size → Reach .any ops i) (h : (bif depL ops.toList then modeOk .text ops && modeOk .gc ops else true) = true) (mixed : Bool) (t : Nat) :
    Sched ops (fun _ => False) (Region.schedule mixed ops t) := by
  unfold Region.schedule
  split
  · exact linearise_sched hany t
  · rename_i hd
    cases hdep : depL ops.toList with
    | false => rw [departs_false hdep] at hd; simp at hd
    | true =>
      rw [hdep] at h
      simp only [cond_true, Bool.and_eq_true] at h
      split
      · exact linearise_sched (modeOk_reach h.1) _
      · exact linearise_sched (modeOk_reach h.2) _
end Go.Abm

namespace Go.Abm
theorem maskOf_ok {MS : Tr Nat} {i : Nat} : ∀ (es : List Edge) (x m : Nat), maskOf es i MS x = some m →
    (∀ e ∈ es, Region.binds .any e = true → e.on < i) ∧
    ∀ b, bit m b = true → bit x b = true ∨ ∃ e ∈ es, Region.binds .any e = true ∧ e.on < i ∧ (b = e.on ∨ ∃ m', MS.get e.on = some m' ∧ bit m' b = true)
  | [], x, m, h => by cases h; exact ⟨(fun e he => by cases he), fun b hb => .inl hb⟩
  | e :: es, x, m, h => by
    unfold maskOf at h
    cases hb : Region.binds .any e with
    | false =>
      rw [hb] at h
      obtain ⟨h1, h2⟩ := maskOf_ok es x m h
      refine ⟨fun f hf hfb => ?_, fun b hbb => ?_⟩
      · rcases List.mem_cons.1 hf with hf | hf
        · rw [hf, hb] at hfb; cases hfb
        · exact h1 f hf hfb
      · rcases h2 b hbb with h3 | ⟨f, hf, h3⟩
        · exact .inl h3
        · exact .inr ⟨f, List.mem_cons_of_mem _ hf, h3⟩
    | true =>
      rw [hb] at h
      simp only [cond_true] at h
      obtain ⟨hlt, h⟩ := cond_some_inv h
      have hlt := blt_of hlt
      split at h
      · rename_i y hy
        obtain ⟨h1, h2⟩ := maskOf_ok es _ m h
        refine ⟨fun f hf hfb => ?_, fun b hbb => ?_⟩
        · rcases List.mem_cons.1 hf with hf | hf
          · rw [hf]; exact hlt
          · exact h1 f hf hfb
        · rcases h2 b hbb with h3 | ⟨f, hf, h3⟩
          · rw [lor_bit, bitOn_bit, Bool.or_eq_true, Bool.or_eq_true] at h3
            rcases h3 with (h3 | h3) | h3
            · exact .inl h3
            · rw [decide_eq_true_eq] at h3
              exact .inr ⟨e, List.mem_cons_self .., hb, hlt, .inl h3.symm⟩
            · exact .inr ⟨e, List.mem_cons_self .., hb, hlt, .inr ⟨y, hy, h3⟩⟩
          · exact .inr ⟨f, List.mem_cons_of_mem _ hf, h3⟩
      · cases h
theorem writer_ok {W W' : Tr Nat} {dst : Option Tmp} {i : Nat} (h : writer W dst i = some W') :
    (∀ d k, W.get d = some k → W'.get d = some k) ∧ (∀ d k, W'.get d = some k → W.get d = some k ∨ (dst = some d ∧ k = i)) ∧ (∀ d, dst = some d → W'.get d = some i) := by
  unfold writer at h
  split at h
  · cases h; exact ⟨fun _ _ h => h, fun _ _ h => .inl h, (fun _ h => by cases h)⟩
  · rename_i d
    split at h
    · cases h
    · rename_i hd
      cases h
      refine ⟨fun x k hx => ?_, fun x k hx => ?_, fun x hx => ?_⟩
      · rw [Tr.get_set]
        by_cases e : x = d
        · subst e; rw [hd] at hx; cases hx
        · rw [if_neg e]; exact hx
      · rw [Tr.get_set] at hx
        by_cases e : x = d
        · subst e; rw [if_pos rfl] at hx; cases hx; exact .inr ⟨rfl, rfl⟩
        · rw [if_neg e] at hx; exact .inl hx
      · cases hx; rw [Tr.get_set, if_pos rfl]
theorem ditems_ok {ops : Array Oper} : ∀ (l : List Oper) (n : Nat) (MS W : Tr Nat) (its : List DItem) (MS' W' : Tr Nat), ops.toList.drop n = l → ditems l n MS W = some (its, MS', W') →
    (∀ x ∈ its, ops[x.i]? = some x.o ∧ MS'.get x.i = some x.m) ∧ (∀ i, n ≤ i → i < ops.size → ∃ x ∈ its, x.i = i) ∧ (∀ j, j < n → MS'.get j = MS.get j) ∧
    (∀ i o m, n ≤ i → ops[i]? = some o → MS'.get i = some m → ∀ b, bit m b = true → ∃ e ∈ o.after.toList, Region.binds .any e = true ∧ (b = e.on ∨ ∃ m', MS'.get e.on = some m' ∧ bit m' b = true)) ∧
    (∀ i o, n ≤ i → ops[i]? = some o → ∀ e ∈ o.after.toList, Region.binds .any e = true → e.on < i) ∧
    (∀ d k, W.get d = some k → W'.get d = some k) ∧ (∀ d k, W'.get d = some k → W.get d = some k ∨ ∃ o, ops[k]? = some o ∧ o.dst = some d) ∧
    (∀ k o d, n ≤ k → ops[k]? = some o → o.dst = some d → W'.get d = some k)
  | [], n, MS, W, its, MS', W', hl, h => by
    simp only [ditems, Option.some.injEq, Prod.mk.injEq] at h
    obtain ⟨rfl, rfl, rfl⟩ := h
    have hsz : ops.size ≤ n := by
      have := congrArg List.length hl
      simp at this
      omega
    refine ⟨(fun x hx => by cases hx), fun i h1 h2 => by omega, fun _ _ => rfl, fun i o m h1 h2 => ?_, fun i o h1 h2 => ?_, fun _ _ h => h, fun _ _ h => .inl h, fun k o d h1 h2 => ?_⟩
    all_goals (rw [Array.getElem?_eq_none (by omega)] at h2; cases h2)
  | o :: l, n, MS, W, its, MS', W', hl, h => by
    have ho : ops[n]? = some o := by
      have := congrArg (fun l => l[0]?) hl
      simpa using this
    have hl' : ops.toList.drop (n + 1) = l := by rw [← List.drop_drop, hl]; rfl
    unfold ditems at h
    split at h
    case h_2 => cases h
    rename_i m W1 hm hW
    split at h
    case h_2 => cases h
    rename_i l2 MS2 W2 hr
    simp only [Option.some.injEq, Prod.mk.injEq] at h
    obtain ⟨rfl, rfl, rfl⟩ := h
    obtain ⟨m1, m2⟩ := maskOf_ok _ _ _ hm
    obtain ⟨w1, w2, w3⟩ := writer_ok hW
    obtain ⟨a1, a2, a3, a4, a5, a6, a7, a8⟩ := ditems_ok l (n + 1) _ _ _ _ _ hl' hr
    have hn : MS2.get n = some m := by rw [a3 n (by omega), Tr.get_set, if_pos rfl]
    have hlt : ∀ j, j < n → MS2.get j = MS.get j := fun j hj => by rw [a3 j (by omega), Tr.get_set, if_neg (by omega)]
    refine ⟨fun x hx => ?_, fun i h1 h2 => ?_, hlt, fun i o' m' h1 h2 h3 b hb => ?_, fun i o' h1 h2 e he hb => ?_, fun d k hk => a6 d k (w1 d k hk), fun d k hk => ?_, fun k o' d h1 h2 h3 => ?_⟩
    · rcases List.mem_cons.1 hx with hx | hx
      · subst hx; exact ⟨ho, hn⟩
      · exact a1 x hx
    · rcases Nat.eq_or_lt_of_le h1 with h3 | h3
      · exact ⟨_, List.mem_cons_self .., h3⟩
      · obtain ⟨x, hx, e⟩ := a2 i h3 h2
        exact ⟨x, List.mem_cons_of_mem _ hx, e⟩
    · rcases Nat.eq_or_lt_of_le h1 with h4 | h4
      · subst h4
        rw [ho] at h2; cases h2
        rw [hn] at h3; cases h3
        rcases m2 b hb with h5 | ⟨e, he, hbe, hon, h5⟩
        · rw [zero_bit] at h5; cases h5
        · refine ⟨e, he, hbe, ?_⟩
          rw [hlt _ hon]
          exact h5
      · exact a4 i o' m' h4 h2 h3 b hb
    · rcases Nat.eq_or_lt_of_le h1 with h4 | h4
      · subst h4
        rw [ho] at h2; cases h2
        exact m1 e he hb
      · exact a5 i o' h4 h2 e he hb
    · rcases a7 d k hk with h1 | h1
      · rcases w2 d k h1 with h2 | ⟨h2, rfl⟩
        · exact .inl h2
        · exact .inr ⟨o, ho, h2⟩
      · exact .inr h1
    · rcases Nat.eq_or_lt_of_le h1 with h4 | h4
      · subst h4
        rw [ho] at h2; cases h2
        exact a6 _ _ (w3 d h3)
      · exact a8 k o' d h4 h2 h3
structure DOk (ops : Array Oper) (its : List DItem) (MS W : Tr Nat) : Prop where
  it : ∀ x ∈ its, ops[x.i]? = some x.o ∧ MS.get x.i = some x.m
  all : ∀ i, i < ops.size → ∃ x ∈ its, x.i = i
  mask : ∀ i o m, ops[i]? = some o → MS.get i = some m → ∀ b, bit m b = true → ∃ e ∈ o.after.toList, Region.binds .any e = true ∧ (b = e.on ∨ ∃ m', MS.get e.on = some m' ∧ bit m' b = true)
  back : ∀ i o, ops[i]? = some o → ∀ e ∈ o.after.toList, Region.binds .any e = true → e.on < i
  wr : ∀ d k, W.get d = some k → ∃ o, ops[k]? = some o ∧ o.dst = some d
  wr' : ∀ k o d, ops[k]? = some o → o.dst = some d → W.get d = some k
theorem get_leaf' (α : Type) (n : Nat) : (Tr.leaf : Tr α).get n = none := Tr.get_leaf n
theorem ditems_dok {ops : Array Oper} {its : List DItem} {MS W : Tr Nat} (h : ditems ops.toList 0 .leaf .leaf = some (its, MS, W)) : DOk ops its MS W := by
  obtain ⟨a1, a2, a3, a4, a5, a6, a7, a8⟩ := ditems_ok ops.toList 0 _ _ _ _ _ rfl h
  refine ⟨a1, fun i hi => a2 i (Nat.zero_le _) hi, fun i o m => a4 i o m (Nat.zero_le _), fun i o => a5 i o (Nat.zero_le _), fun d k hk => ?_, fun k o d => a8 k o d (Nat.zero_le _)⟩
  rcases a7 d k hk with h1 | h1
  · rw [get_leaf'] at h1; cases h1
  · exact h1
theorem DOk.reach {ops : Array Oper} {its : List DItem} {MS W : Tr Nat} (h : DOk ops its MS W) (i : Nat) (hi : i < ops.size) : Reach .any ops i := by
  induction i using Nat.strongRecOn with
  | _ i ih =>
    have ho : ops[i]? = some ops[i] := Array.getElem?_eq_getElem hi
    exact .mk ho fun e he hb => ih _ (h.back i _ ho e he hb) (by have := h.back i _ ho e he hb; omega)
theorem kindBeq_eq2 {k l : IntKind} (h : kindBeq k l = true) : k = l := by
  cases k <;> cases l <;> first | rfl | (exact absurd h (by decide))
theorem ieqF_eq2 {x y : Int} (h : ieqF x y = true) : x = y := by
  cases x <;> cases y <;> simp only [ieqF] at h <;> first | (cases h; done) | (rw [Nat.eq_of_beq_eq_true h])
theorem natsBeq_eq2 : ∀ {x y : List Nat}, natsBeq x y = true → x = y
  | [], [], _ => rfl
  | [], _ :: _, h => by cases h
  | _ :: _, [], h => by cases h
  | x :: xs, y :: ys, h => by
    simp only [natsBeq] at h
    cases hb : Nat.beq x y with
    | true => rw [hb] at h; rw [Nat.eq_of_beq_eq_true hb, natsBeq_eq2 h]
    | false => rw [hb] at h; cases h
theorem fnBeq_eq {k l : Fn} (h : fnBeq k l = true) : k = l := by
  cases k <;> cases l <;> simp only [fnBeq] at h <;> first | (cases h; done) | (rw [Nat.eq_of_beq_eq_true h])
theorem optBeq_eq {k l : Option Nat} (h : optBeq k l = true) : k = l := by
  cases k <;> cases l <;> simp only [optBeq] at h <;> first | rfl | (cases h; done) | (rw [Nat.eq_of_beq_eq_true h])
theorem listBeq_eq {α : Type} {f : α → α → Bool} (hf : ∀ x y, f x y = true → x = y) : ∀ {x y : List α}, listBeq f x y = true → x = y
  | [], [], _ => rfl
  | [], _ :: _, h => by cases h
  | _ :: _, [], h => by cases h
  | x :: xs, y :: ys, h => by
    simp only [listBeq, Bool.and_eq_true] at h
    rw [hf _ _ h.1, listBeq_eq hf h.2]
theorem avBeq_eq : ∀ (n : Nat) (a b : AV), avBeq n a b = true → a = b
  | 0, _, _, h => by cases h
  | n + 1, a, b, h => by
    have ih := avBeq_eq n
    cases a <;> cases b <;> simp only [avBeq, Bool.and_eq_true] at h <;> first | rfl | (cases h; done) | skip
    case bool.bool x y => cases x <;> cases y <;> first | rfl | (cases h; done)
    case int.int => rw [kindBeq_eq2 h.1, ieqF_eq2 h.2]
    case str.str => rw [natsBeq_eq2 h]
    case ptr.ptr => rw [Nat.eq_of_beq_eq_true h.1, Nat.eq_of_beq_eq_true h.2]
    case sl.sl => rw [Nat.eq_of_beq_eq_true h.1.1.1.1, Nat.eq_of_beq_eq_true h.1.1.1.2, Nat.eq_of_beq_eq_true h.1.1.2, Nat.eq_of_beq_eq_true h.1.2, optBeq_eq h.2]
    case mp.mp => rw [Nat.eq_of_beq_eq_true h]
    case fn.fn => rw [fnBeq_eq h.1.1, listBeq_eq ih h.1.2, listBeq_eq ih h.2]
    case ifc.ifc => rw [Nat.eq_of_beq_eq_true h.1, ih _ _ h.2]
    case agg.agg => rw [listBeq_eq ih h]
    case tup.tup => rw [listBeq_eq ih h]
end Go.Abm

namespace Go.Abm
theorem eqRes_off {op : BinOp} (h1 : op ≠ .eql) (h2 : op ≠ .neq) (r : Option Bool) : eqRes op r = none := by
  cases op <;> first | rfl | exact absurd rfl h1 | exact absurd rfl h2
theorem abinOp_off {E : Env} {M1 M2 : AM} {op : BinOp} (h1 : op ≠ .eql) (h2 : op ≠ .neq) (t : TypeId) (ox oy : Operand) (x y : AV) : abinOp E M1 op t ox oy x y = abinOp E M2 op t ox oy x y := by
  unfold abinOp
  simp only [eqRes_off h1 h2]
theorem evalOp_pure {E : Env} {ρ : Rho} {op : Op} {M1 M2 M' : AM} {v : AV} (hk : okind E op = .pure) (h : evalOp E ρ op M1 = some (.val v M')) : evalOp E ρ op M2 = some (.val v M2) := by
  have key : ∀ {o : Option AV}, o.map (fun v => ARes.val v M1) = some (.val v M') → o.map (fun v => ARes.val v M2) = some (.val v M2) := by
    intro o h
    obtain ⟨a, ha, e⟩ := map_some_inv h
    cases e
    rw [ha]; rfl
  cases op <;> simp only [okind] at hk <;> first | (cases hk; done) | skip
  case move x => simp only [evalOp] at h ⊢; split at h <;> cases h; rfl
  case pick c a b =>
    simp only [evalOp] at h ⊢
    split at h
    · exact key h
    · exact key h
    · cases h
  case build t ps =>
    simp only [evalOp] at h ⊢
    split at h
    · exact key h
    · cases h
  case nilCheck x =>
    simp only [evalOp] at h ⊢
    split at h <;> cases h <;> rfl
  case binOp op t x y u =>
    simp only [evalOp] at h ⊢
    split at h
    · rename_i a b ha hb
      have h1 : op ≠ .eql := fun e => by subst e; cases hk
      have h2 : op ≠ .neq := fun e => by subst e; cases hk
      rw [abinOp_off (M2 := M2) h1 h2] at h
      exact key h
    · cases h
  case unOp op t x =>
    simp only [evalOp] at h ⊢
    split at h
    · exact key h
    · cases h
  case convert s d x => split at hk <;> cases hk
  case makeInterface t x =>
    simp only [evalOp] at h ⊢
    split at h
    · rename_i a d ha hd
      cases d <;> first | (cases h; done) | (cases h; rfl)
    · cases h
  case makeFunc fn a b =>
    simp only [evalOp] at h ⊢
    split at h
    · rename_i x y hx hy
      cases fn <;> first | (cases h; done) | (cases h; rfl)
    · cases h
  case slice t x l hh m =>
    simp only [evalOp] at h ⊢
    split at h
    · exact key h
    · cases h
  case fieldAddr s x f =>
    simp only [evalOp] at h ⊢
    split at h
    · rename_i b off fd hx hf
      split at h
      · cases h; rfl
      · cases h
    · cases h
  case field t x f =>
    simp only [evalOp] at h ⊢
    split at h
    · exact key h
    · cases h
  case indexAddr t x i =>
    simp only [evalOp] at h ⊢
    split at h
    · exact key h
    · cases h
  case index t x i =>
    simp only [evalOp] at h ⊢
    split at h
    · exact key h
    · cases h
  case extract x i =>
    simp only [evalOp] at h ⊢
    split at h
    · exact key h
    · cases h
  case call c =>
    split at hk
    · split at hk <;> cases hk
    · cases hk
theorem evalOp_read {E : Env} {ρ : Rho} {op : Op} {M M' : AM} {v : AV} (hk : okind E op = .read) (h : evalOp E ρ op M = some (.val v M')) : M' = M := by
  have key : ∀ {o : Option AV}, o.map (fun v => ARes.val v M) = some (.val v M') → M' = M := by
    intro o h
    obtain ⟨a, ha, e⟩ := map_some_inv h
    cases e
    rfl
  cases op <;> simp only [okind] at hk <;> first | (cases hk; done) | skip
  case binOp =>
    simp only [evalOp] at h
    split at h
    · exact key h
    · cases h
  case load =>
    simp only [evalOp] at h
    split at h
    · exact key h
    · cases h
  case lookup =>
    simp only [evalOp] at h
    split at h
    · exact key h
    · cases h
  case convert s d x =>
    simp only [evalOp] at h
    split at h
    · rename_i a ha
      obtain ⟨⟨v1, M1⟩, h1, h2⟩ := map_some_inv h
      simp only [ARes.val.injEq] at h2
      obtain ⟨rfl, rfl⟩ := h2
      unfold aconvert at h1
      split at h1
      · rename_i ds dd hs hd
        rw [hd] at hk
        split at h1
        · split at h1 <;> cases h1; rfl
        · split at h1 <;> cases h1; rfl
        · simp only at hk; cases hk
        · simp only at hk; cases hk
        · split at h1
          · split at h1 <;> cases h1; rfl
          · cases h1
        · split at h1
          · split at h1
            · obtain ⟨l, hl, h3⟩ := bind_some_inv' h1
              obtain ⟨s, _, h4⟩ := map_some_inv h3
              cases h4; rfl
            · cases h1
          · cases h1
        · cases h1
      · cases h1
    · cases h
  case call c =>
    simp only [evalOp] at h
    split at h
    · split at h
      · rename_i hc; rw [hc] at hk; cases hk
      · rename_i hc; rw [hc] at hk; cases hk
      · rename_i b hc
        rw [hc] at hk
        simp only at hk
        unfold abuiltin at h
        split at h <;> first | (cases hk; done) | skip
        · split at h
          · split at h
            · obtain ⟨a, ha, e⟩ := map_some_inv h
              cases e; rfl
            · cases h
          · cases h
        · split at h
          · split at h <;> cases h; rfl
          · cases h
        · split at h
          · split at h <;> cases h; rfl
          · cases h
        · exact key h
        · exact key h
        · cases h
    · cases h
def OpA (P : Program) (ι : Ren) (w : World) (s : Sem Value) (l : List AV) (f : Nat → AV) : Prop :=
  ∃ v' c e, s.run P w = .ok v' { w with heap := w.heap.push (.cells c e) } ∧ VRs ι l c.toList ∧ ∀ (ι2 : Ren) id, ι2 id = some (w.heap.size, 0, c.size) → VR ι2 (f id) v'
section
variable {P : Program} {E : Env} (hE : EnvOk P E) {ι : Ren} {M : AM} {w : World}
include hE
theorem buildSlice_a {t : TypeId} {len : Nat} {parts : List (Nat × AV)} {parts' : Array (Nat × Value)} {r : AV × AM} (h : abuildSlice E M t len parts = some r) (hp : PRs ι parts parts'.toList) :
    ∃ (l : List AV) (f : Nat → AV), r = (f M.nx, M.new (.cells l false false)) ∧ OpA P ι w (Instr.buildSlice t len parts') l f := by
  unfold abuildSlice at h
  split at h
  · cases h
  · rename_i e he
    have hu : E.under t = some (.slice e) := by
      unfold asliceElem at he
      split at he
      · rename_i h; cases he; exact h
      · cases he
    split at h
    · rename_i n z hn hz
      obtain ⟨hc, h⟩ := cond_some_inv h
      simp only [Bool.and_eq_true] at hc
      obtain ⟨⟨h1, h2⟩, h3⟩ := hc
      have h1 := ble_of h1
      have h2 := ble_of h2
      have h3 := beq_of h3
      obtain ⟨cs, hcs, rfl⟩ := map_some_inv h
      obtain ⟨z', hz1, hz2⟩ := zero_ok hE (w := w) hz
      obtain ⟨r', hr', hrel, hsz⟩ := afill_ok _ _ _ _ _ hcs (zeros_rel (hz2 ι) (n := len) h3 h1) hp
      refine ⟨cs, fun id => .sl id 0 len len none, rfl, .slice (some ⟨w.heap.size, 0, none⟩) len len, r', e, ?_, hrel, fun ι2 id hi => ?_⟩
      · have e0 : ¬ (len * n > 2 ^ 24) := by omega
        by_cases hl : len * n = 0
        · have hl0 : len = 0 := by rcases Nat.mul_eq_zero.1 hl with h | h <;> omega
          subst hl0
          simp only [Instr.buildSlice, Sem.run_bind, run_underlying hE hu, Result.andThen_ok, run_sizeOf hE hn, Sem.run_ite, if_neg e0, Sem.run_pure, if_pos hl]
          have : Instr.fill (fun i => some (i * n, n)) (Array.map (fun x => (#[] : Array Value)[x % (#[] : Array Value).size]!) (Array.range (0 * n))) parts'.toList = some r' := by
            rw [← hr']; simp [range0]
          rw [this]
          simp [newRow]
        · simp only [Instr.buildSlice, Sem.run_bind, run_underlying hE hu, Result.andThen_ok, run_sizeOf hE hn, Sem.run_ite, if_neg e0, Sem.run_pure, if_neg hl, hz1, hr']
          simp [newRow]
      · exact .sle (base := 0) hi
    · cases h
theorem makeSlice_a {t : TypeId} {l c : AV} {l' c' : Value} {r : AV × AM} (h : amakeSlice E M t l c = some r) (hl : VR ι l l') (hc : VR ι c c') :
    ∃ (l : List AV) (f : Nat → AV), r = (f M.nx, M.new (.cells l false false)) ∧ OpA P ι w (Instr.makeSlice t l' c') l f := by
  unfold amakeSlice at h
  split at h
  · cases h
  · rename_i e he
    have hu : E.under t = some (.slice e) := by
      unfold asliceElem at he
      split at he
      · rename_i h; cases he; exact h
      · cases he
    split at h
    · rename_i i z hi hz
      split at h
      · rename_i l c
        obtain ⟨hc', h⟩ := cond_some_inv h
        simp only [Bool.and_eq_true] at hc'
        obtain ⟨⟨⟨⟨h1, h2⟩, h3⟩, h4⟩, h5⟩ := hc'
        have h1 := ble_of h1
        have h2 := ble_of h2
        have h3 := ble_of h3
        have h4 := ble_of h4
        have h5 := beq_of h5
        unfold maxI at h4
        cases h; cases hl; cases hc
        obtain ⟨z', hz1, hz2⟩ := zero_ok hE (w := w) hz
        have hrel := zeros_rel (hz2 ι) (n := c) h5 h1
        refine ⟨repeatL z.cells c, fun id => .sl id 0 l c none, rfl, .slice (some ⟨w.heap.size, 0, none⟩) l c, _, e, ?_, hrel, fun ι2 id hi => ?_⟩
        · have w1 : IntKind.i64.wrap (Int.ofNat l) = (l : Int) := by rw [wrap_i64', Int.ofNat_eq_natCast]; rw [if_neg (by omega)]; omega
          have w2 : IntKind.i64.wrap (Int.ofNat c) = (c : Int) := by rw [wrap_i64', Int.ofNat_eq_natCast]; rw [if_neg (by omega)]; omega
          have t1 : (((c : Int) < 0 || (i.bytes : Int) * (c : Int) > 2 ^ 48) || (l : Int) < 0 || (l : Int) > (c : Int)) = false := by
            have : ((i.bytes : Int) * (c : Int)) = ((i.bytes * c : Nat) : Int) := by simp
            simp only [Bool.or_eq_false_iff, decide_eq_false_iff_not]
            rw [this]
            omega
          simp only [Instr.makeSlice, Sem.run_bind, run_underlying hE hu, Result.andThen_ok, asInt, asIntOf, Sem.run_pure, run_typeInfo hE hi, w1, w2, t1, Bool.false_eq_true, if_false, run_askRoom, Int.toNat_natCast,
            run_sizeOf hE (show E.size e = some i.size by simp [Env.size, hi])]
          by_cases hc0 : c * i.size = 0
          · have hcz : c = 0 := by rcases Nat.mul_eq_zero.1 hc0 with h | h <;> omega
            subst hcz
            simp [newRow, range0]
          · simp only [if_neg hc0, Sem.run_bind, hz1, Result.andThen_ok, Sem.run_pure, newRow, run_newObj]
        · exact .sle (base := 0) hi
      · cases h
    · cases h
theorem evalOp_alloc {ρ : Rho} {ρ' : Operand → Value} (hρ : ∀ x v, ρ x = some v → VR ι v (ρ' x)) {o : Oper} {M' : AM} {v : AV} (hk : okind E o.op = .alloc) (h : evalOp E ρ o.op M = some (.val v M')) :
    ∃ (l : List AV) (f : Nat → AV), v = f M.nx ∧ M' = M.new (.cells l false false) ∧ ∃ v' c e, (execOp ρ' o).run P w = .ok (.value v') { w with heap := w.heap.push (.cells c e) } ∧ VRs ι l c.toList ∧
      ∀ (ι2 : Ren) id, ι2 id = some (w.heap.size, 0, c.size) → VR ι2 (f id) v' := by
  obtain ⟨dst, op, ty, pos, after, guard⟩ := o
  simp only at h hk
  have wrap : ∀ {s : Sem Value} {l : List AV} {f : Nat → AV}, OpA P ι w s l f → ∃ v' c e, ((do pure (.value (← s)) : Sem Next).run P w) = .ok (.value v') { w with heap := w.heap.push (.cells c e) } ∧ VRs ι l c.toList ∧
      ∀ (ι2 : Ren) id, ι2 id = some (w.heap.size, 0, c.size) → VR ι2 (f id) v' := fun ⟨v', c, e, h1, h2, h3⟩ => ⟨v', c, e, by simp [h1], h2, h3⟩
  cases op <;> simp only [okind] at hk <;> first | (cases hk; done) | skip
  case alloc t =>
    simp only [evalOp] at h
    obtain ⟨z, hz, h1⟩ := map_some_inv h
    cases h1
    refine ⟨z.cells, fun id => .ptr id 0, rfl, rfl, ?_⟩
    simp only [execOp]
    obtain ⟨z', hz1, hv⟩ := zero_ok hE (w := w) hz
    exact wrap ⟨.pointer (some ⟨w.heap.size, 0, none⟩), _, t, by simp [Instr.alloc, hz1, newVar, newRow], (hv ι).cells, fun ι2 id hi => .ptr (base := 0) hi⟩
  case box t x =>
    simp only [evalOp] at h
    obtain ⟨z, hz, h1⟩ := map_some_inv h
    cases h1
    refine ⟨z.cells, fun id => .ptr id 0, rfl, rfl, ?_⟩
    simp only [execOp]
    exact wrap ⟨.pointer (some ⟨w.heap.size, 0, none⟩), _, t, by simp [Instr.box, newVar, newRow], (hρ _ _ hz).cells, fun ι2 id hi => .ptr (base := 0) hi⟩
  case buildSlice t n ps =>
    simp only [evalOp] at h
    split at h
    · rename_i l hl
      obtain ⟨⟨v1, M1⟩, h1, h2⟩ := map_some_inv h
      cases h2
      have hp := rhoP_ok hρ _ _ hl
      obtain ⟨l2, f, e, ha⟩ := buildSlice_a hE (w := w) (parts' := ps.map fun (i, x) => (i, ρ' x)) h1 (by rw [arr_map_list]; exact hp)
      cases e
      exact ⟨l2, f, rfl, rfl, by simp only [execOp]; exact wrap ha⟩
    · cases h
  case makeSlice t a c =>
    simp only [evalOp] at h
    split at h
    · rename_i l1 c1 hl hc
      obtain ⟨⟨v1, M1⟩, h1, h2⟩ := map_some_inv h
      cases h2
      obtain ⟨l2, f, e, ha⟩ := makeSlice_a hE (w := w) h1 (hρ _ _ hl) (hρ _ _ hc)
      cases e
      exact ⟨l2, f, rfl, rfl, by simp only [execOp]; exact wrap ha⟩
    · cases h
  case binOp op t x y u => split at hk <;> cases hk
  case convert s d x => split at hk <;> cases hk
  case call c =>
    split at hk
    · split at hk <;> cases hk
    · cases hk
end
end Go.Abm
