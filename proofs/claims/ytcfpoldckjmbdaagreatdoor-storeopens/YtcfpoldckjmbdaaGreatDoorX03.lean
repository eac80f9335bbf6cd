/-
  A part of the proof that pumicelaw17.StoreOpens returns true for every geometry, key, number and group (a machine over names of blocks, its soundness, the calls of the store for any geometry, the chapter's example as a run). Condition: the listed package variables hold what the program's text lays; the card ties that.
-/
import Derived.Test.YtcfpoldckjmbdaaGreatDoorX02
import Derived.Laws.Strings
import Derived.Laws.StructEq
set_option linter.unusedVariables false
set_option linter.unusedSimpArgs false
set_option linter.unusedSectionVars false
namespace Go.Abm
theorem wrapS_eq (m h : Nat) (n : Int) : wrapS m h n = if (h : Int) ≤ n % (m : Int) then n % (m : Int) - m else n % (m : Int) := rfl
theorem wrap_i64' (n : Int) : IntKind.i64.wrap n = if n % 18446744073709551616 ≥ 9223372036854775808 then n % 18446744073709551616 - 18446744073709551616 else n % 18446744073709551616 := by
  simp [IntKind.wrap, IntKind.bits, IntKind.signed]
theorem wf_ofNat (n : Nat) : wrapFast .i64 (.ofNat n) = bif Nat.ble n 9223372036854775807 then .ofNat n else wrapS 18446744073709551616 9223372036854775808 (.ofNat n) := by
  unfold wrapFast; simp only
theorem wf_negSucc (n : Nat) : wrapFast .i64 (.negSucc n) = bif Nat.ble n 9223372036854775807 then .negSucc n else wrapS 18446744073709551616 9223372036854775808 (.negSucc n) := by
  unfold wrapFast; simp only
theorem wrapFast_i64 (n : Int) : wrapFast .i64 n = IntKind.i64.wrap n := by
  rw [wrap_i64']
  cases n with
  | ofNat n =>
    rw [wf_ofNat]
    cases h : Nat.ble n 9223372036854775807 with
    | true =>
      have := ble_of h
      rw [cond_true]
      have e : (Int.ofNat n) % 18446744073709551616 = Int.ofNat n := by rw [Int.ofNat_eq_natCast]; omega
      rw [e, if_neg (by rw [Int.ofNat_eq_natCast]; omega)]
    | false =>
      rw [cond_false, wrapS_eq]
      simp only [ge_iff_le, Int.cast_ofNat_Int]
  | negSucc n =>
    rw [wf_negSucc]
    cases h : Nat.ble n 9223372036854775807 with
    | true =>
      have := ble_of h
      rw [cond_true, Int.negSucc_eq]
      rw [if_pos (by omega)]; omega
    | false =>
      rw [cond_false, wrapS_eq]
      simp only [ge_iff_le, Int.cast_ofNat_Int]
theorem wrapFast_eq (k : IntKind) (n : Int) : wrapFast k n = k.wrap n := by
  cases k
  case i64 => exact wrapFast_i64 n
  all_goals first
    | (simp [wrapFast, wrapS_eq, IntKind.wrap, IntKind.bits, IntKind.signed]; done)
    | (cases n <;> (simp [wrapFast, wrapS_eq, IntKind.wrap, IntKind.bits, IntKind.signed]; done))
theorem quoF_eq (a b : Int) : quoF a b = a.tdiv b := by
  cases a <;> cases b <;> simp only [quoF] <;> rfl
theorem remF_eq (a b : Int) : remF a b = a.tmod b := by
  cases a <;> cases b <;> simp only [remF] <;> rfl
theorem addF_eq (a b : Int) : addF a b = a + b := by
  cases a <;> cases b <;> simp only [addF] <;> rfl
theorem subF_eq (a b : Int) : subF a b = a - b := by
  cases a <;> cases b <;> simp only [subF]
  rename_i a b
  cases h : Nat.ble b a with
  | true => have := ble_of h; simp only [cond_true, Int.ofNat_eq_natCast]; omega
  | false => have := ble_not h; simp only [cond_false, Int.negSucc_eq, Int.ofNat_eq_natCast]; omega
theorem mulF_eq (a b : Int) : mulF a b = a * b := by
  cases a <;> cases b <;> simp only [mulF] <;> rfl
theorem iltF_eq (a b : Int) : iltF a b = decide (a < b) := by
  cases a with
  | ofNat a =>
    cases b with
    | ofNat b =>
      simp only [iltF, Int.ofNat_eq_natCast]
      cases h : Nat.blt a b with
      | true => have := blt_of h; simp; omega
      | false => have := blt_not h; simp; omega
    | negSucc b => simp only [iltF, Int.ofNat_eq_natCast, Int.negSucc_eq]; simp; omega
  | negSucc a =>
    cases b with
    | ofNat b => simp only [iltF, Int.ofNat_eq_natCast, Int.negSucc_eq]; simp; omega
    | negSucc b =>
      simp only [iltF, Int.negSucc_eq]
      cases h : Nat.blt b a with
      | true => have := blt_of h; simp; omega
      | false => have := blt_not h; simp; omega
theorem ieqF_eq (a b : Int) : ieqF a b = (a == b) := by
  cases a with
  | ofNat a =>
    cases b with
    | ofNat b =>
      simp only [ieqF, Int.ofNat_eq_natCast]
      cases h : Nat.beq a b with
      | true => have := beq_of h; subst this; simp
      | false => have := beq_not h; symm; rw [beq_eq_false_iff_ne]; omega
    | negSucc b => simp only [ieqF, Int.ofNat_eq_natCast, Int.negSucc_eq]; symm; rw [beq_eq_false_iff_ne]; omega
  | negSucc a =>
    cases b with
    | ofNat b => simp only [ieqF, Int.ofNat_eq_natCast, Int.negSucc_eq]; symm; rw [beq_eq_false_iff_ne]; omega
    | negSucc b =>
      simp only [ieqF, Int.negSucc_eq]
      cases h : Nat.beq a b with
      | true => have := beq_of h; subst this; simp
      | false => have := beq_not h; symm; rw [beq_eq_false_iff_ne]; omega
theorem kindBeq_eq {a b : IntKind} (h : kindBeq a b = true) : a = b := by
  cases a <;> cases b <;> simp [kindBeq] at h <;> rfl
theorem toNat_ofInt (k : IntKind) (x : Int) : (BitVec.ofInt k.bits x).toNat = (wrapFast (unsig k) x).toNat := by
  rw [wrapFast_eq, BitVec.toNat_ofInt]
  cases k <;> simp [unsig, IntKind.wrap, IntKind.bits, IntKind.signed]
theorem bits_lt (k : IntKind) (x : Int) : (wrapFast (unsig k) x).toNat < 2 ^ k.bits := by
  rw [← toNat_ofInt]; exact (BitVec.ofInt k.bits x).isLt
theorem andNot_nat {n a b : Nat} (ha : a < 2 ^ n) (hb : b < 2 ^ n) : a &&& (2 ^ n - 1 - b) = Nat.xor a (Nat.land a b) := by
  apply Nat.eq_of_testBit_eq
  intro i
  show (a &&& (2 ^ n - 1 - b)).testBit i = (a ^^^ (a &&& b)).testBit i
  rw [show 2 ^ n - 1 - b = 2 ^ n - (b + 1) by omega]
  simp only [Nat.testBit_and, Nat.testBit_xor, Nat.testBit_two_pow_sub_succ hb]
  by_cases hi : i < n
  · cases a.testBit i <;> cases b.testBit i <;> simp [hi]
  · have : a.testBit i = false := Nat.testBit_lt_two_pow (Nat.lt_of_lt_of_le ha (Nat.pow_le_pow_right (by omega) (by omega)))
    simp [this]
theorem bitsFast_ok {P : Program} {w : World} {op : BinOp} {k : IntKind} {x y r : Int} (h : bitsFast op k x y = some r) :
    (Op.intBits op k x y).run P w = .ok (.int k r) w := by
  unfold bitsFast at h
  unfold Op.intBits
  cases op <;> simp only [reduceCtorEq] at h <;> cases h <;> simp only [Sem.run_pure]
  · rw [wrapFast_eq, BitVec.toNat_and, toNat_ofInt, toNat_ofInt]; rfl
  · rw [wrapFast_eq, BitVec.toNat_or, toNat_ofInt, toNat_ofInt]; rfl
  · rw [wrapFast_eq, BitVec.toNat_xor, toNat_ofInt, toNat_ofInt]; rfl
  · rw [wrapFast_eq, BitVec.toNat_and, toNat_ofInt, BitVec.toNat_not, toNat_ofInt, andNot_nat (bits_lt k x) (bits_lt k y)]; rfl
theorem bitsOf_eq (k : IntKind) : Abm.bitsOf k = k.bits := by cases k <;> rfl
theorem intBin_ok {P : Program} {w : World} {op : BinOp} {k : IntKind} {x y : Int} {v : AV} (h : intBin op k x y = some v) (hs : op ≠ .shl ∧ op ≠ .shr) (t : TypeId) :
    ∃ v', (binOp op t (.int k x) (.int k y)).run P w = .ok v' w ∧ ∀ ι, VR ι v v' := by
  have pr : ∀ {b c : Bool}, b = c → ∀ ι, VR ι (.bool b) (.bool c) := fun e ι => by subst e; exact .bool _
  cases op <;> simp only [intBin] at h
  case add => cases h; exact ⟨_, by simp [binOp, Op.intArith]; rfl, fun ι => by rw [wrapFast_eq, addF_eq]; exact .int _ _⟩
  case sub => cases h; exact ⟨_, by simp [binOp, Op.intArith]; rfl, fun ι => by rw [wrapFast_eq, subF_eq]; exact .int _ _⟩
  case mul => cases h; exact ⟨_, by simp [binOp, Op.intArith]; rfl, fun ι => by rw [wrapFast_eq, mulF_eq]; exact .int _ _⟩
  case quo =>
    rw [ieqF_eq] at h
    cases hy : (y == 0) with
    | true => rw [hy] at h; cases h
    | false =>
      rw [hy] at h
      simp only [cond_false] at h
      cases h
      have hy' : ¬ y = 0 := by simpa using hy
      refine ⟨_, by simp [binOp, Op.intDiv, hy']; rfl, fun ι => ?_⟩
      rw [wrapFast_eq, quoF_eq]; exact .int _ _
  case rem =>
    rw [ieqF_eq] at h
    cases hy : (y == 0) with
    | true => rw [hy] at h; cases h
    | false =>
      rw [hy] at h
      simp only [cond_false] at h
      cases h
      have hy' : ¬ y = 0 := by simpa using hy
      refine ⟨_, by simp [binOp, Op.intDiv, hy']; rfl, fun ι => ?_⟩
      rw [remF_eq]; exact .int _ _
  case and => obtain ⟨r, hr, rfl⟩ := map_some_inv h; exact ⟨_, by simp [binOp, bitsFast_ok hr], fun ι => .int _ _⟩
  case or => obtain ⟨r, hr, rfl⟩ := map_some_inv h; exact ⟨_, by simp [binOp, bitsFast_ok hr], fun ι => .int _ _⟩
  case xor => obtain ⟨r, hr, rfl⟩ := map_some_inv h; exact ⟨_, by simp [binOp, bitsFast_ok hr], fun ι => .int _ _⟩
  case andNot => obtain ⟨r, hr, rfl⟩ := map_some_inv h; exact ⟨_, by simp [binOp, bitsFast_ok hr], fun ι => .int _ _⟩
  case shl => exact absurd rfl hs.1
  case shr => exact absurd rfl hs.2
  case eql => cases h; exact ⟨_, by simp [binOp, Op.intCmp]; rfl, pr (by rw [ieqF_eq])⟩
  case neq => cases h; exact ⟨_, by simp [binOp, Op.intCmp]; rfl, pr (by rw [ieqF_eq]; rfl)⟩
  case lss => cases h; exact ⟨_, by simp [binOp, Op.intCmp]; rfl, pr (by rw [iltF_eq])⟩
  case leq => cases h; exact ⟨.bool (decide (x ≤ y)), by simp [binOp, Op.intCmp], pr (by rw [iltF_eq]; simp [← Int.not_le])⟩
  case gtr => cases h; exact ⟨_, by simp [binOp, Op.intCmp]; rfl, pr (by rw [iltF_eq])⟩
  case geq => cases h; exact ⟨.bool (decide (y ≤ x)), by simp [binOp, Op.intCmp], pr (by rw [iltF_eq]; simp [← Int.not_le])⟩
theorem pow_ofNat (n : Nat) : (Int.ofNat (2 ^ n)) = (2 : Int) ^ n := by simp
theorem shiftF_ok {P : Program} {w : World} {op : BinOp} {k yk : IntKind} {x y : Int} {v : AV} (h : shiftF op k x y = some v) (hs : op = .shl ∨ op = .shr) (t : TypeId) :
    ∃ v', (binOp op t (.int k x) (.int yk y)).run P w = .ok v' w ∧ ∀ ι, VR ι v v' := by
  have e : binOp op t (.int k x) (.int yk y) = Op.shift op k x yk y := by rcases hs with rfl | rfl <;> rfl
  rw [e]
  unfold shiftF at h
  cases y with
  | negSucc n => cases h
  | ofNat y =>
    simp only at h
    have hy : ¬ (Int.ofNat y < 0) := by simp
    rcases hs with rfl | rfl
    · simp only at h
      cases h
      refine ⟨.int k (k.wrap (x * 2 ^ (min y k.bits))), by unfold Op.shift; rw [if_neg hy]; rfl, fun ι => ?_⟩
      rw [wrapFast_eq, mulF_eq, pow_ofNat, bitsOf_eq]; exact .int _ _
    · simp only at h
      refine ⟨.int k (x.fdiv (2 ^ (min y k.bits))), by unfold Op.shift; rw [if_neg hy]; rfl, fun ι => ?_⟩
      split at h
      · cases h
        rename_i x
        have : (Int.ofNat (x / 2 ^ min y (Abm.bitsOf k))) = (Int.ofNat x).fdiv (2 ^ min y k.bits) := by
          rw [← pow_ofNat, bitsOf_eq]; simp only [Int.ofNat_eq_natCast]; rw [Int.fdiv_eq_ediv_of_nonneg _ (Int.natCast_nonneg _)]; rfl
        rw [this]; exact .int _ _
      · cases h
        rw [pow_ofNat, bitsOf_eq]; exact .int _ _
theorem nats_toList (s : ByteArray) : nats s = s.toList.map UInt8.toNat := by rw [nats, ByteArray.toList_eq]
theorem natsBeq_eq : ∀ (x y : List UInt8), natsBeq (x.map UInt8.toNat) (y.map UInt8.toNat) = (x == y)
  | [], [] => rfl
  | [], _ :: _ => rfl
  | _ :: _, [] => rfl
  | a :: x, b :: y => by
    simp only [List.map_cons, natsBeq, List.cons_beq_cons, natsBeq_eq x y]
    cases h : Nat.beq a.toNat b.toNat with
    | true => have := UInt8.toNat_inj.1 (beq_of h); subst this; simp
    | false =>
      have : a ≠ b := fun e => beq_not h (by rw [e])
      simp [this]
theorem natsLess_eq : ∀ (x y : List UInt8), natsLess (x.map UInt8.toNat) (y.map UInt8.toNat) = Op.bytesLess x y
  | _, [] => by simp [natsLess, Op.bytesLess]
  | [], b :: y => by simp [natsLess, Op.bytesLess]
  | a :: x, b :: y => by
    simp only [List.map_cons, natsLess, Op.bytesLess, natsLess_eq x y]
    cases h : Nat.blt a.toNat b.toNat with
    | true => have := UInt8.lt_iff_toNat_lt.2 (blt_of h); simp [this]
    | false =>
      have h1 : ¬ a < b := fun e => by have := UInt8.lt_iff_toNat_lt.1 e; have := blt_not h; omega
      simp only [cond_false, h1, decide_false, Bool.false_or]
      cases h2 : Nat.beq a.toNat b.toNat with
      | true => have := UInt8.toNat_inj.1 (beq_of h2); subst this; simp
      | false =>
        have : a ≠ b := fun e => beq_not h2 (by rw [e])
        simp [this]
theorem nats_append (x y : ByteArray) : nats (x ++ y) = nats x ++ nats y := by
  simp [nats, ByteArray.data_append]
theorem nats_length (x : ByteArray) : (nats x).length = x.size := by
  unfold nats
  rw [List.length_map]
  exact Array.length_toList
theorem strBin_ok {P : Program} {w : World} {op : BinOp} {x y : ByteArray} {v : AV} (h : strBin op (nats x) (nats y) = some v) (t : TypeId) :
    ∃ v', (binOp op t (.string x) (.string y)).run P w = .ok v' w ∧ ∀ ι, VR ι v v' := by
  have pr : ∀ {b c : Bool}, b = c → ∀ ι, VR ι (.bool b) (.bool c) := fun e ι => by subst e; exact .bool _
  have e1 : natsBeq (nats x) (nats y) = (x.toList == y.toList) := by rw [nats_toList, nats_toList, natsBeq_eq]
  have e2 : natsLess (nats x) (nats y) = Op.bytesLess x.toList y.toList := by rw [nats_toList, nats_toList, natsLess_eq]
  unfold strBin at h
  rw [e1, e2] at h
  split at h
  · obtain ⟨hc, h⟩ := cond_some_inv h
    cases h
    have hc := ble_of hc
    rw [nats_length, nats_length] at hc
    unfold maxI at hc
    refine ⟨.string (x ++ y), ?_, fun ι => by rw [← nats_append]; exact .str _⟩
    have : ¬ (((x.size + y.size : Nat) : Int) > IntKind.i64.max) := by
      rw [show IntKind.i64.max = 9223372036854775807 from by decide]; omega
    simp only [binOp, Op.stringOp]
    rw [if_neg this]; rfl
  · cases h; exact ⟨_, by simp only [binOp, Op.stringOp]; rfl, pr rfl⟩
  · cases h; exact ⟨_, by simp only [binOp, Op.stringOp]; rfl, pr rfl⟩
  · cases h; exact ⟨_, by simp only [binOp, Op.stringOp]; rfl, pr rfl⟩
  · cases h; exact ⟨_, by simp only [binOp, Op.stringOp]; rfl, pr rfl⟩
  · cases h; exact ⟨_, by simp only [binOp, Op.stringOp]; rfl, pr rfl⟩
  · cases h; exact ⟨_, by simp only [binOp, Op.stringOp]; rfl, pr rfl⟩
  · cases h
end Go.Abm

namespace Go.Abm
section
variable {P : Program} {E : Env} (hE : EnvOk P E)
include hE
theorem apart_ok {ι : Ren} {w : World} {t : TypeId} {cs : List AV} {cs' : Array Value} {off : Nat} {v : AV} (h : apart E t cs off = some v) (hc : VRs ι cs cs'.toList) :
    ∃ v', (part t cs' off).run P w = .ok v' w ∧ VR ι v v' := by
  unfold apart at h
  split at h
  · rename_i d n hd hn
    cases hagg : isAggD d with
    | true =>
      rw [hagg] at h
      obtain ⟨hle, h⟩ := cond_some_inv h
      have hle := ble_of hle
      cases h
      refine ⟨.agg (cs'.extract off (off + n)), by simp [part, run_isAgg hE hd, hagg, run_sizeOf hE hn], .agg' ?_⟩
      have := (hc.drop off).take n
      rw [Array.toList_extract]
      simpa [List.extract] using this
    | false =>
      rw [hagg] at h
      obtain ⟨v', hv', hr⟩ := hc.get h
      refine ⟨v', ?_, hr⟩
      have : cs'[off]? = some v' := by simpa using hv'
      simp [part, run_isAgg hE hd, hagg, this]
  · cases h
omit hE in
theorem plain_ok {B : Bd} {ι : Ren} {M : AM} {w : World} (hR : Rel B ι M w) {b cb base room : Nat} (hp : ι b = some (cb, base, room)) (h : M.plainCells b = true) :
    ∃ c e fr, w.heap[cb]? = some (.cells c e fr) ∧ fr.1 = fr.2 := by
  unfold AM.plainCells at h
  split at h
  · rename_i l ro hg
    obtain ⟨⟨c, e, fr, h1, h2, h3, h4, h5, h6⟩, _⟩ := hR.obj _ _ _ _ _ hg hp
    exact ⟨c, e, fr, h1, h6 rfl⟩
  · cases h
omit hE in
theorem sameAddr_ne {w : World} {cb cb' o o' : Nat} (hne : cb ≠ cb') {c c' : Array Value} {e e' : TypeId} {fr fr' : Nat × Nat}
    (h : w.heap[cb]? = some (.cells c e fr)) (h' : w.heap[cb']? = some (.cells c' e' fr')) (hf : fr.1 = fr.2) (hf' : fr'.1 = fr'.2) :
    (sameAddr ⟨cb, o, none⟩ ⟨cb', o', none⟩).run P w = .ok false w := by
  have f1 : ∀ k, w.frozen? ⟨cb, k, none⟩ = false := fun k => by
    simp only [World.frozen?, h, hf, Bool.and_eq_false_iff, decide_eq_false_iff_not]; omega
  have f2 : ∀ k, w.frozen? ⟨cb', k, none⟩ = false := fun k => by
    simp only [World.frozen?, h', hf', Bool.and_eq_false_iff, decide_eq_false_iff_not]; omega
  have s1 : w.shape? cb = some (e, c.size) := by simp [World.shape?, h]
  have s2 : w.shape? cb' = some (e', c'.size) := by simp [World.shape?, h']
  have hb : (cb == cb') = false := by simpa using hne
  simp [sameAddr, hb, f1, f2, noView, viewAt, s1, s2, mayBeOne, stringish]
set_option maxHeartbeats 2000000 in
theorem aeq_ok {B : Bd} {ι : Ren} {M : AM} {w : World} (hR : Rel B ι M w) : ∀ (d : Nat) (t : TypeId) (x y : AV) (x' y' : Value) (b : Bool) (D : Nat), d ≤ D →
    aeq E M d t x y = some b → VR ι x x' → VR ι y y' → (Op.equalIn D t x' y').run P w = .ok b w := by
  intro d
  induction d with
  | zero => intro t x y x' y' b D _ h; simp [aeq] at h
  | succ d ih =>
    intro t x y x' y' b D hD h hx hy
    obtain ⟨D, rfl⟩ : ∃ k, D = k + 1 := ⟨D - 1, by omega⟩
    have hD : d ≤ D := by omega
    unfold aeq at h
    split at h
    · -- bool
      split at h
      · rename_i hu
        cases h; cases hx; cases hy
        simp [Op.equalIn, run_underlying hE hu]
      · cases h
    · split at h
      · rename_i hu
        obtain ⟨hk, h'⟩ := cond_some_inv h
        clear h
        cases kindBeq_eq hk
        cases h'; cases hx; cases hy
        simp [Op.equalIn, run_underlying hE hu, ieqF_eq]
      · cases h
    · split at h
      · rename_i hu
        cases h; cases hx; cases hy
        rename_i a b
        simp only [Op.equalIn, Sem.run_bind, run_underlying hE hu, Result.andThen_ok, Sem.run_pure]
        rw [nats_toList, nats_toList, natsBeq_eq, beq_toListBytes]
      · cases h
    · split at h
      · rename_i hu
        cases h; cases hx; cases hy
        simp [Op.equalIn, run_underlying hE hu]
      · cases h
    · split at h
      · rename_i hu
        cases h; cases hx; cases hy
        simp [Op.equalIn, run_underlying hE hu]
      · cases h
    · split at h
      · rename_i hu
        cases h; cases hx; cases hy
        simp [Op.equalIn, run_underlying hE hu]
      · cases h
    · rename_i a i b' j
      split at h
      · rename_i e hu
        split at h
        · rename_i n hn
          cases hx with
          | ptr ha =>
          cases hy with
          | ptr hb =>
          rename_i cb base room cb2 base2 room2
          simp only [Op.equalIn, Sem.run_bind, run_underlying hE hu, Result.andThen_ok, run_sizeOf hE hn, Sem.run_ite]
          rw [if_pos (by omega)]
          cases hab : Nat.beq a b' with
          | true =>
            have := beq_of hab
            subst this
            rw [ha] at hb
            cases hb
            rw [hab] at h
            simp only [cond_true] at h
            cases h
            have e2 : ((⟨cb, base + i, none⟩ : Addr) == ⟨cb, base + j, none⟩) = Nat.beq i j := by
              cases hij : Nat.beq i j with
              | true => have := beq_of hij; subst this; simp
              | false =>
                have := beq_not hij
                rw [beq_eq_false_iff_ne]
                intro hc
                injection hc with _ hc _
                omega
            simp [sameAddr, e2]
          | false =>
            rw [hab] at h
            simp only [cond_false] at h
            obtain ⟨hp, h⟩ := cond_some_inv h
            cases h
            rw [Bool.and_eq_true] at hp
            obtain ⟨c, e1, fr, h1, h2⟩ := plain_ok hR ha hp.1
            obtain ⟨c', e2, fr', h3, h4⟩ := plain_ok hR hb hp.2
            have hne : cb ≠ cb2 := by
              have p1 := hp.1
              have p2 := hp.2
              unfold AM.plainCells at p1 p2
              split at p1
              · rename_i g1
                split at p2
                · rename_i g2
                  exact hR.inj _ _ _ _ _ _ (beq_not hab) g1 g2 ha hb
                · cases p2
              · cases p1
            exact sameAddr_ne hne h1 h3 h2 h4
        · cases h
      · cases h
    · split at h
      · rename_i hu
        cases h; cases hx; cases hy
        simp [Op.equalIn, run_underlying hE hu]
      · cases h
    · split at h
      · rename_i hu
        cases h; cases hx; cases hy
        simp [Op.equalIn, run_underlying hE hu]
      · cases h
    · split at h
      · rename_i hu
        cases h; cases hx; cases hy
        simp [Op.equalIn, run_underlying hE hu]
      · cases h
    · rename_i tx vx ty vy
      split at h
      · rename_i hu
        cases hx with
        | ifc hvx =>
        cases hy with
        | ifc hvy =>
        cases ht : Nat.beq tx ty with
        | true =>
          rw [ht] at h
          simp only [cond_true] at h
          have := beq_of ht
          subst this
          split at h
          · rename_i i hi
            obtain ⟨hc, h⟩ := cond_some_inv h
            have := ih _ _ _ _ _ _ D hD h hvx hvy
            simp [Op.equalIn, run_underlying hE hu, run_typeInfo hE hi, hc, this]
          · cases h
        | false =>
          rw [ht] at h
          simp only [cond_false] at h
          cases h
          have hne := beq_not ht
          simp [Op.equalIn, run_underlying hE hu, hne]
      · cases h
    · rename_i xs ys
      split at h
      · rename_i fs hu
        obtain ⟨hc, h⟩ := cond_some_inv h
        obtain ⟨h1, h2, h3⟩ := hE.cmp _ hc
        obtain ⟨xs', rfl, hxs⟩ := hx.agg_inv
        obtain ⟨ys', rfl, hys⟩ := hy.agg_inv
        have hfs : P.fieldsOf t = fs := by simp [Program.fieldsOf, under_ok hE hu]
        rw [run_equalIn_struct w D t xs' ys' (by rw [hfs]; exact under_ok hE hu) h1, hfs]
        have hn := h3 fs (under_ok hE hu)
        clear h3 hfs hu
        generalize fs.toList = l at h hn
        induction l with
        | nil => simp [aeqFields] at h; subst h; simp [Op.eqFields]
        | cons f l ihl =>
          unfold aeqFields at h
          split at h
          · rename_i a b2 ha hb
            obtain ⟨a', ra, va⟩ := apart_ok hE (w := w) ha hxs
            obtain ⟨b', rb, vb⟩ := apart_ok hE (w := w) hb hys
            simp only [Op.eqFields]
            rw [if_pos (hn f (by simp))]
            split at h
            · rename_i hr
              have := ih _ _ _ _ _ _ D hD hr va vb
              simp only [Sem.run_bind, ra, rb, this, Result.andThen_ok, Bool.not_true, Bool.false_eq_true, if_false]
              exact ihl h (fun g hg => hn g (by simp [hg]))
            · rename_i hr
              cases h
              have := ih _ _ _ _ _ _ D hD hr va vb
              simp [ra, rb, this]
            · cases h
          · cases h
      · cases h
    · split at h
      · rename_i hu
        cases h; cases hx; cases hy
        simp [Op.equalIn, run_underlying hE hu]
      · cases h
    · split at h
      · rename_i hu
        cases h; cases hx; cases hy <;> simp [Op.equalIn, run_underlying hE hu]
      · cases h
    · split at h
      · rename_i hu
        cases h; cases hy; cases hx <;> simp [Op.equalIn, run_underlying hE hu]
      · cases h
    · split at h
      · rename_i hu
        cases h; cases hx; cases hy
        simp [Op.equalIn, run_underlying hE hu]
      · cases h
    · split at h
      · rename_i hu
        cases h; cases hx; cases hy
        simp [Op.equalIn, run_underlying hE hu]
      · cases h
    · split at h
      · rename_i hu
        cases h; cases hx; cases hy
        simp [Op.equalIn, run_underlying hE hu]
      · cases h
    · split at h
      · rename_i hu
        cases h; cases hx; cases hy
        simp [Op.equalIn, run_underlying hE hu]
      · cases h
    · split at h
      · rename_i hu
        cases h; cases hx; cases hy
        simp [Op.equalIn, run_underlying hE hu]
      · cases h
    · split at h
      · rename_i hu
        cases h; cases hx; cases hy
        simp [Op.equalIn, run_underlying hE hu]
      · cases h
    · cases h
end
end Go.Abm

namespace Go.Abm
theorem get_lt {α : Type} {l : List α} {i : Nat} {v : α} (h : l[i]? = some v) : i < l.length := by
  rcases Nat.lt_or_ge i l.length with h' | h'
  · exact h'
  · rw [List.getElem?_eq_none h'] at h; cases h
theorem new_cells {B : Bd} {ι : Ren} {M : AM} {w : World} (hR : Rel B ι M w) {l : List AV} {c : Array Value} {e : TypeId} {fr : Nat × Nat} {fz : Bool} {room : Nat}
    (h1 : l.length ≤ room) (h2 : room ≤ c.size) (hv : ∀ (i : Nat) (v : AV), l[i]? = some v → ∃ v', c[i]? = some v' ∧ VR ι v v')
    (hf : fr.1 = fr.2 ∨ c.size ≤ fr.1) (hz : fz = false → fr.1 = fr.2) :
    Post B ι w (ι.add M.nx (w.heap.size, 0, room)) (M.new (.cells l false fz)) { w with heap := w.heap.push (.cells c e fr) } := by
  have hle : ι.le (ι.add M.nx (w.heap.size, 0, room)) := Ren.add_le (hR.fresh _ (Nat.le_refl _)).2
  refine Post.new hR ⟨c, e, fr, by simp, by omega, h1, fun i v hi => ?_, hf, hz⟩
  obtain ⟨v', a, b⟩ := hv i v hi
  exact ⟨v', by simpa using a, b.mono hle⟩
theorem VRs.get_arr {ι : Ren} {l : List AV} {c : Array Value} (h : VRs ι l c.toList) (i : Nat) (v : AV) (hi : l[i]? = some v) : ∃ v', c[i]? = some v' ∧ VR ι v v' := by
  obtain ⟨v', a, b⟩ := h.get hi
  exact ⟨v', by simpa using a, b⟩
theorem new_row {B : Bd} {ι : Ren} {M : AM} {w : World} (hR : Rel B ι M w) {l : List AV} {c : Array Value} (e : TypeId) (h : VRs ι l c.toList) :
    Post B ι w (ι.add M.nx (w.heap.size, 0, c.size)) (M.new (.cells l false false)) { w with heap := w.heap.push (.cells c e) } :=
  new_cells hR (by have := h.1; simp at this; omega) (Nat.le_refl _) h.get_arr (.inl rfl) (fun _ => rfl)
section
variable {P : Program} {E : Env} (hE : EnvOk P E) {B : Bd} {ι : Ren} {M : AM} {w : World} (hR : Rel B ι M w)
include hE hR
omit hR in
theorem zero_ok {t : TypeId} {z : AV} (h : E.zero t = some z) : ∃ z', (zeroValue t).run P w = .ok z' w ∧ ∀ ι, VR ι z z' := by
  unfold Env.zero at h
  obtain ⟨i, hi, h⟩ := bind_some_inv h
  obtain ⟨v, hv, h⟩ := bind_some_inv h
  exact ⟨v, run_zeroValue hE hi hv, fun ι => ofV_rel _ _ _ h⟩
theorem alloc_ok {t : TypeId} {z : AV} (h : E.zero t = some z) : OpV P B ι w (Instr.alloc t true (.tuple #[])) (.ptr M.nx 0) (M.new (.cells z.cells false false)) := by
  obtain ⟨z', hz, hv⟩ := zero_ok hE (w := w) h
  refine ⟨_, .pointer (some ⟨w.heap.size, 0, none⟩), _, ?_, ?_, new_row hR t (hv ι).cells⟩
  · simp [Instr.alloc, hz, newVar, newRow]
  · exact .ptr (base := 0) (Ren.add_self _ _ _)
omit hE in
theorem box_ok {t : TypeId} {v : AV} {v' : Value} (h : VR ι v v') : OpV P B ι w (Instr.box t v') (.ptr M.nx 0) (M.new (.cells v.cells false false)) := by
  refine ⟨_, .pointer (some ⟨w.heap.size, 0, none⟩), _, ?_, ?_, new_row hR t h.cells⟩
  · simp [Instr.box, newVar, newRow]
  · exact .ptr (base := 0) (Ren.add_self _ _ _)
end
theorem foldl_set (off : Nat) : ∀ (vs : List Value) (j : Nat) (cs : Array Value) (k : Nat), off + j + vs.length ≤ cs.size →
    ((vs.zipIdx j).foldl (fun cs (x : Value × Nat) => cs.setIfInBounds (off + x.2) x.1) cs)[k]? = (if off + j ≤ k ∧ k < off + j + vs.length then vs[k - (off + j)]? else cs[k]?) ∧
    ((vs.zipIdx j).foldl (fun cs (x : Value × Nat) => cs.setIfInBounds (off + x.2) x.1) cs).size = cs.size
  | [], j, cs, k, h => by simp; intro h1 h2; omega
  | v :: vs, j, cs, k, h => by
    simp only [List.zipIdx_cons, List.foldl_cons]
    simp only [List.length_cons] at h
    obtain ⟨h1, h2⟩ := foldl_set off vs (j + 1) (cs.setIfInBounds (off + j) v) k (by rw [Array.size_setIfInBounds]; omega)
    refine ⟨?_, by rw [h2, Array.size_setIfInBounds]⟩
    rw [h1]
    by_cases h3 : off + (j + 1) ≤ k ∧ k < off + (j + 1) + vs.length
    · rw [if_pos h3, if_pos (by simp; omega), show k - (off + j) = (k - (off + (j + 1))) + 1 by omega]
      simp
    · rw [if_neg h3]
      by_cases h4 : k = off + j
      · subst h4
        rw [if_pos (by simp), Array.getElem?_setIfInBounds, if_pos rfl, if_pos (by omega)]
        simp
      · rw [if_neg (by simp; omega), Array.getElem?_setIfInBounds, if_neg (by omega)]
theorem zipIdx_arr (a : Array Value) (cs : Array Value) (off : Nat) : a.zipIdx.foldl (fun cs (x : Value × Nat) => cs.setIfInBounds (off + x.2) x.1) cs = (a.toList.zipIdx 0).foldl (fun cs (x : Value × Nat) => cs.setIfInBounds (off + x.2) x.1) cs := by
  rw [← Array.foldl_toList]
  simp
theorem range0 : Array.range 0 = #[] := rfl
def PRs (ι : Ren) : List (Nat × AV) → List (Nat × Value) → Prop
  | [], [] => True
  | (i, v) :: l, (j, v') :: l' => i = j ∧ VR ι v v' ∧ PRs ι l l'
  | _, _ => False
theorem afill_ok {ι : Ren} {place : Nat → Option (Nat × Nat)} : ∀ (parts : List (Nat × AV)) (parts' : List (Nat × Value)) (cells : List AV) (cells' : Array Value) (r : List AV),
    afill place cells parts = some r → VRs ι cells cells'.toList → PRs ι parts parts' → ∃ r', Instr.fill place cells' parts' = some r' ∧ VRs ι r r'.toList ∧ r'.size = cells'.size
  | [], [], cells, cells', r, h, hc, _ => by simp only [afill, Option.some.injEq] at h; subst h; exact ⟨cells', rfl, hc, rfl⟩
  | [], _ :: _, _, _, _, _, _, hp => hp.elim
  | _ :: _, [], _, _, _, _, _, hp => by obtain ⟨_, _⟩ := ‹Nat × AV›; exact hp.elim
  | (i, v) :: parts, (j, v') :: parts', cells, cells', r, h, hc, hp => by
    obtain ⟨rfl, hv, hp⟩ := hp
    unfold afill at h
    cases hpl : place i with
    | none => rw [hpl] at h; cases h
    | some p =>
      obtain ⟨off, size⟩ := p
      rw [hpl] at h
      obtain ⟨hb, h⟩ := cond_some_inv h
      rw [Bool.and_eq_true] at hb
      have hb1 := beq_of hb.1
      have hb2 := ble_of hb.2
      have hcs := hv.cells
      have hl1 : v'.cells.size = size := by have := hcs.1; simp at this; omega
      have hl2 : cells'.size = cells.length := by have := hc.1; simp at this; omega
      have hval : VRs ι (spliceL cells off v.cells) (((v'.cells.toList.zipIdx 0).foldl (fun cs (x : Value × Nat) => cs.setIfInBounds (off + x.2) x.1) cells').toList) := by
        refine ⟨?_, fun k a a' e e' => ?_⟩
        · rw [spliceL_length _ _ _ (by omega)]
          have := (foldl_set off v'.cells.toList 0 cells' 0 (by simp; omega)).2
          refine Eq.trans ?_ (Array.length_toList).symm
          rw [this, hl2]
        · rw [spliceL_get _ _ _ _ (by omega)] at e
          rw [Array.getElem?_toList, (foldl_set off v'.cells.toList 0 cells' k (by simp; omega)).1] at e'
          by_cases h5 : off ≤ k ∧ k < off + v.cells.length
          · rw [if_pos h5] at e
            rw [if_pos (by simp; omega)] at e'
            exact hcs.2 _ _ _ e (by simpa using e')
          · rw [if_neg h5] at e
            rw [if_neg (by simp; omega)] at e'
            exact hc.2 _ _ _ e (by simpa using e')
      obtain ⟨r', hr, hrel, hsz⟩ := afill_ok parts parts' _ _ r h hval hp
      refine ⟨r', ?_, hrel, by rw [hsz, (foldl_set off v'.cells.toList 0 cells' 0 (by simp; omega)).2]⟩
      unfold Instr.fill
      rw [hpl]
      simp only
      rw [if_neg (by simp; omega)]
      rw [← hr]
      congr 1
      exact zipIdx_arr _ _ _
theorem repeatL_length (z : List AV) : ∀ n, (repeatL z n).length = n * z.length
  | 0 => by simp [repeatL]
  | n + 1 => by simp [repeatL, repeatL_length z n, Nat.succ_mul]; omega
theorem repeatL_get (z : List AV) : ∀ (n i : Nat), i < n * z.length → (repeatL z n)[i]? = z[i % z.length]?
  | 0, i, h => by omega
  | n + 1, i, h => by
    rw [repeatL, List.getElem?_append]
    by_cases hi : i < z.length
    · rw [if_pos hi, Nat.mod_eq_of_lt hi]
    · rw [if_neg hi, repeatL_get z n (i - z.length) (by rw [Nat.succ_mul] at h; omega), ← Nat.mod_eq_sub_mod (by omega)]
theorem zeros_rel {ι : Ren} {z : AV} {z' : Value} (hz : VR ι z z') {n m : Nat} (hm : z.cells.length = m) (h1 : 1 ≤ m) :
    VRs ι (repeatL z.cells n) ((Array.range (n * m)).map (fun i => z'.cells[i % z'.cells.size]!)).toList := by
  have hs : z'.cells.size = m := by have := hz.cells.1; simp at this; omega
  refine ⟨by rw [repeatL_length, hm]; simp, fun i v v' e e' => ?_⟩
  have hi : i < n * m := by have := get_lt e; rw [repeatL_length, hm] at this; exact this
  rw [repeatL_get _ _ _ (by rw [hm]; exact hi), hm] at e
  have hlt : i % m < m := Nat.mod_lt _ h1
  simp [hi, hs] at e'
  subst e'
  refine hz.cells.2 (i % m) v _ e ?_
  rw [getElem!_pos z'.cells (i % m) (by omega)]
  simp [hs, hlt]
section
variable {P : Program} {E : Env} (hE : EnvOk P E) {B : Bd} {ι : Ren} {M : AM} {w : World} (hR : Rel B ι M w)
include hE hR
omit hR in
theorem sizesOf_ok : ∀ (fs : List Field) (pl : List (Nat × Nat)), sizesOf E fs = some pl →
    (fs.mapM (fun f => do pure (f.offset, ← sizeOf f.type) : Field → Sem (Nat × Nat))).run P w = .ok pl w
  | [], pl, h => by simp only [sizesOf, Option.some.injEq] at h; subst h; simp
  | f :: fs, pl, h => by
    unfold sizesOf at h
    split at h
    · rename_i n l hn hl
      cases h
      have ih := sizesOf_ok fs l hl
      simp only [List.mapM_cons, Sem.run_bind, run_sizeOf hE hn, Result.andThen_ok, Sem.run_pure, ih]
    · cases h
theorem build_ok {t : TypeId} {parts : List (Nat × AV)} {parts' : Array (Nat × Value)} {v : AV} (h : abuild E t parts = some v) (hp : PRs ι parts parts'.toList) :
    OpV P B ι w (Instr.build t parts') v M := by
  unfold abuild at h
  split at h
  · rename_i z fs hz hu
    obtain ⟨z', hz1, hz2⟩ := zero_ok hE (w := w) hz
    split at h
    · rename_i pl hpl
      obtain ⟨r, hr, rfl⟩ := map_some_inv h
      obtain ⟨r', hr', hrel, _⟩ := afill_ok _ _ _ _ _ hr (hz2 ι).cells hp
      refine OpV.pure hR (v' := .agg r') ?_ (.agg' hrel)
      have hm := sizesOf_ok hE (w := w) _ _ hpl
      have hm' : (fs.mapM (fun f => do pure (f.offset, ← sizeOf f.type) : Field → Sem (Nat × Nat))).run P w = .ok pl.toArray w := by
        rw [Array.mapM_eq_mapM_toList, Sem.run_map, hm]
        rfl
      simp only [Instr.build, Sem.run_bind, hz1, Result.andThen_ok, run_underlying hE hu, hm']
      have : (fun (i : Nat) => (pl.toArray)[i]?) = fun (i : Nat) => pl[i]? := by funext i; simp
      rw [this, hr']
      rfl
    · cases h
  · rename_i z n e hz hu
    obtain ⟨z', hz1, hz2⟩ := zero_ok hE (w := w) hz
    split at h
    · rename_i m hm
      obtain ⟨r, hr, rfl⟩ := map_some_inv h
      obtain ⟨r', hr', hrel, _⟩ := afill_ok _ _ _ _ _ hr (hz2 ι).cells hp
      refine OpV.pure hR (v' := .agg r') ?_ (.agg' hrel)
      simp only [Instr.build, Sem.run_bind, hz1, Result.andThen_ok, run_underlying hE hu, run_sizeOf hE hm, hr']
      rfl
    · cases h
  · cases h
theorem buildSlice_ok {t : TypeId} {len : Nat} {parts : List (Nat × AV)} {parts' : Array (Nat × Value)} {r : AV × AM} (h : abuildSlice E M t len parts = some r) (hp : PRs ι parts parts'.toList) :
    OpV P B ι w (Instr.buildSlice t len parts') r.1 r.2 := by
  unfold abuildSlice at h
  split at h
  · cases h
  · rename_i e he
    have hu : E.under t = some (.slice e) := by
      unfold asliceElem at he
      split at he
      · rename_i h; cases he; exact h
      · cases he
    split at h
    · rename_i n z hn hz
      obtain ⟨hc, h⟩ := cond_some_inv h
      simp only [Bool.and_eq_true] at hc
      obtain ⟨⟨h1, h2⟩, h3⟩ := hc
      have h1 := ble_of h1
      have h2 := ble_of h2
      have h3 := beq_of h3
      obtain ⟨cs, hcs, rfl⟩ := map_some_inv h
      obtain ⟨z', hz1, hz2⟩ := zero_ok hE (w := w) hz
      obtain ⟨r', hr', hrel, hsz⟩ := afill_ok _ _ _ _ _ hcs (zeros_rel (hz2 ι) (n := len) h3 h1) hp
      refine ⟨_, .slice (some ⟨w.heap.size, 0, none⟩) len len, _, ?_, ?_, new_row hR e hrel⟩
      · have e0 : ¬ (len * n > 2 ^ 24) := by omega
        by_cases hl : len * n = 0
        · have hl0 : len = 0 := by rcases Nat.mul_eq_zero.1 hl with h | h <;> omega
          subst hl0
          simp only [Instr.buildSlice, Sem.run_bind, run_underlying hE hu, Result.andThen_ok, run_sizeOf hE hn, Sem.run_ite, if_neg e0, Sem.run_pure, if_pos hl]
          have : Instr.fill (fun i => some (i * n, n)) (Array.map (fun x => (#[] : Array Value)[x % (#[] : Array Value).size]!) (Array.range (0 * n))) parts'.toList = some r' := by
            rw [← hr']; simp [range0]
          rw [this]
          simp [newRow]
        · simp only [Instr.buildSlice, Sem.run_bind, run_underlying hE hu, Result.andThen_ok, run_sizeOf hE hn, Sem.run_ite, if_neg e0, Sem.run_pure, if_neg hl, hz1, hr']
          simp [newRow]
      · exact .sle (base := 0) (Ren.add_self _ _ _)
    · cases h
theorem makeSlice_ok {t : TypeId} {l c : AV} {l' c' : Value} {r : AV × AM} (h : amakeSlice E M t l c = some r) (hl : VR ι l l') (hc : VR ι c c') :
    OpV P B ι w (Instr.makeSlice t l' c') r.1 r.2 := by
  unfold amakeSlice at h
  split at h
  · cases h
  · rename_i e he
    have hu : E.under t = some (.slice e) := by
      unfold asliceElem at he
      split at he
      · rename_i h; cases he; exact h
      · cases he
    split at h
    · rename_i i z hi hz
      split at h
      · rename_i l c
        obtain ⟨hc', h⟩ := cond_some_inv h
        simp only [Bool.and_eq_true] at hc'
        obtain ⟨⟨⟨⟨h1, h2⟩, h3⟩, h4⟩, h5⟩ := hc'
        have h1 := ble_of h1
        have h2 := ble_of h2
        have h3 := ble_of h3
        have h4 := ble_of h4
        have h5 := beq_of h5
        unfold maxI at h4
        cases h; cases hl; cases hc
        obtain ⟨z', hz1, hz2⟩ := zero_ok hE (w := w) hz
        have hrel := zeros_rel (hz2 ι) (n := c) h5 h1
        refine ⟨_, .slice (some ⟨w.heap.size, 0, none⟩) l c, _, ?_, ?_, new_row hR e hrel⟩
        · have w1 : IntKind.i64.wrap (Int.ofNat l) = (l : Int) := by rw [wrap_i64', Int.ofNat_eq_natCast]; rw [if_neg (by omega)]; omega
          have w2 : IntKind.i64.wrap (Int.ofNat c) = (c : Int) := by rw [wrap_i64', Int.ofNat_eq_natCast]; rw [if_neg (by omega)]; omega
          have t1 : (((c : Int) < 0 || (i.bytes : Int) * (c : Int) > 2 ^ 48) || (l : Int) < 0 || (l : Int) > (c : Int)) = false := by
            have : ((i.bytes : Int) * (c : Int)) = ((i.bytes * c : Nat) : Int) := by simp
            simp only [Bool.or_eq_false_iff, decide_eq_false_iff_not]
            rw [this]
            omega
          simp only [Instr.makeSlice, Sem.run_bind, run_underlying hE hu, Result.andThen_ok, asInt, asIntOf, Sem.run_pure, run_typeInfo hE hi, w1, w2, t1, Bool.false_eq_true, if_false, run_askRoom, Int.toNat_natCast,
            run_sizeOf hE (show E.size e = some i.size by simp [Env.size, hi])]
          by_cases hc0 : c * i.size = 0
          · have hcz : c = 0 := by rcases Nat.mul_eq_zero.1 hc0 with h | h <;> omega
            subst hcz
            simp [newRow, range0]
          · simp only [if_neg hc0, Sem.run_bind, hz1, Result.andThen_ok, Sem.run_pure, newRow, run_newObj]
        · exact .sle (base := 0) (Ren.add_self _ _ _)
      · cases h
    · cases h
end
end Go.Abm
