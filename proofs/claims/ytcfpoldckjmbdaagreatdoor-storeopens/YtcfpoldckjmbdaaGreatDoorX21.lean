/-
  A part of the proof that pumicelaw17.StoreOpens returns true for every geometry, key, number and group (a machine over names of blocks, its soundness, the calls of the store for any geometry, the chapter's example as a run). Condition: the listed package variables hold what the program's text lays; the card ties that.
-/
import Derived.Test.YtcfpoldckjmbdaaGreatDoorX20
set_option linter.unusedVariables false
set_option linter.unusedSimpArgs false
set_option linter.unusedSectionVars false
open Go Go.Abm
set_option maxRecDepth 100000
namespace Go.Abm.Seat
theorem spliceL_app (a b c : List AV) (k : Nat) : spliceL (a ++ b) (a.length + k) c = a ++ spliceL b k c := by
  induction a with
  | nil => simp
  | cons x a ih =>
    rw [List.length_cons, show a.length + 1 + k = (a.length + k) + 1 by omega]
    show x :: spliceL (a ++ b) (a.length + k) c = _
    rw [ih]; rfl
theorem get_app {a b : List AV} {k : Nat} : (a ++ b)[a.length + k]? = b[k]? := by
  rw [List.getElem?_append_right (by omega)]; congr 1; omega
def newBs (p0 pg : Nat) : Nat → List AV
  | 0 => []
  | n + 1 => newBs p0 pg n ++ [.bool false, .int .i64 0, .sl (p0 + n) 0 pg pg none, .int .i64 0]
theorem newBs_len (p0 pg : Nat) : ∀ n, (newBs p0 pg n).length = n * 4
  | 0 => rfl
  | n + 1 => by rw [newBs, List.length_append, newBs_len p0 pg n]; show n * 4 + 4 = _; omega
theorem newBs_get (p0 pg : Nat) (j : Nat) (hj : j < 4) : ∀ k n, n < k → (newBs p0 pg k)[0 + n * 4 + j]? = [AV.bool false, .int .i64 0, .sl (p0 + n) 0 pg pg none, .int .i64 0][j]?
  | 0, _, h => by omega
  | k + 1, n, h => by
    rw [newBs]
    by_cases he : n = k
    · subst he
      rw [show 0 + n * 4 + j = (newBs p0 pg n).length + j by rw [newBs_len]; omega, get_app]
    · rw [List.getElem?_append_left (by rw [newBs_len]; omega)]
      exact newBs_get p0 pg j hj k n (by omega)
abbrev zblk : List AV := [.bool false, .int .i64 0, .nils, .int .i64 0]
theorem newBs_step (p0 pg bl i : Nat) (h : i < bl) : spliceL (newBs p0 pg i ++ repeatL zblk (bl - i)) (0 + i * 4 + 2) [.sl (p0 + i) 0 pg pg none] = newBs p0 pg (i + 1) ++ repeatL zblk (bl - (i + 1)) := by
  rw [show bl - i = (bl - (i + 1)) + 1 by omega]
  have := spliceL_app (newBs p0 pg i) (repeatL zblk (bl - (i + 1) + 1)) [.sl (p0 + i) 0 pg pg none] 2
  rw [newBs_len] at this
  rw [show 0 + i * 4 + 2 = i * 4 + 2 by omega, this, newBs, List.append_assoc]
  rfl
structure Geo (bl pg sz rs : Nat) : Prop where
  b1 : 16 ≤ bl
  b2 : bl ≤ 256
  p1 : 8 ≤ pg
  p2 : pg ≤ 64
  s1 : 64 ≤ sz
  s2 : sz ≤ 512
  r1 : rs * 4 ≤ bl
structure Chip (M : AM) (c B p0 bl pg sz rs : Nat) (nx : Nat → Nat) (pcs : Nat → List AV) : Prop where
  hc : ∃ k w f, M.get c = some (.cells (chipC bl pg sz rs B k w) false f)
  hb : ∃ bc f, M.get B = some (.cells bc false f) ∧ bc.length = bl * 4 ∧ ∀ n, n < bl → bc[0 + n * 4]? = some (.bool false) ∧ (∃ er, bc[0 + n * 4 + 1]? = some (.int .i64 er)) ∧ bc[0 + n * 4 + 2]? = some (.sl (p0 + n) 0 pg pg none) ∧ bc[0 + n * 4 + 3]? = some (.int .i64 (.ofNat (nx n)))
  hp : ∀ n, n < bl → (∃ f, M.get (p0 + n) = some (.cells (pcs n) false f)) ∧ (pcs n).length = pg * 2
  hl : c < M.nx ∧ B < M.nx ∧ p0 + bl ≤ M.nx
  hne : c ≠ B ∧ ∀ n, n < bl → p0 + n ≠ c ∧ p0 + n ≠ B
def Own (c B p0 bl : Nat) (x : Nat) : Prop := x = c ∨ x = B ∨ (p0 ≤ x ∧ x < p0 + bl)
theorem Chip.frame {M M' : AM} {c B p0 bl pg sz rs : Nat} {nx : Nat → Nat} {pcs : Nat → List AV} (h : Chip M c B p0 bl pg sz rs nx pcs) (hn : M.nx ≤ M'.nx) (hf : ∀ x, Own c B p0 bl x → M'.get x = M.get x) : Chip M' c B p0 bl pg sz rs nx pcs := by
  obtain ⟨⟨k, w, f, hc⟩, ⟨bc, f1, hb, hb2⟩, hp, hl, hne⟩ := h
  refine ⟨⟨k, w, f, by rw [hf c (Or.inl rfl)]; exact hc⟩, ⟨bc, f1, by rw [hf B (Or.inr (Or.inl rfl))]; exact hb, hb2⟩, fun n hn => ?_, ⟨by omega, by omega, by omega⟩, hne⟩
  obtain ⟨⟨f2, h1⟩, h2⟩ := hp n hn
  exact ⟨⟨f2, by rw [hf (p0 + n) (Or.inr (Or.inr ⟨by omega, by omega⟩))]; exact h1⟩, h2⟩
theorem Chip.own {M : AM} {c B p0 bl pg sz rs : Nat} {nx : Nat → Nat} {pcs : Nat → List AV} (h : Chip M c B p0 bl pg sz rs nx pcs) {x : Nat} (hx : Own c B p0 bl x) : x < M.nx := by
  obtain ⟨h1, h2, h3⟩ := h.hl
  rcases hx with rfl | rfl | hx <;> omega
theorem Chip.same {M M' : AM} {c B p0 bl pg sz rs : Nat} {nx : Nat → Nat} {pcs : Nat → List AV} (h : Chip M c B p0 bl pg sz rs nx pcs) (hs : Same M M') : Chip M' c B p0 bl pg sz rs nx pcs :=
  h.frame hs.1 fun x hx => hs.2 x (h.own hx)
theorem Chip.ex {S : Nat → Prop} {M M' : AM} {c B p0 bl pg sz rs : Nat} {nx : Nat → Nat} {pcs : Nat → List AV} (h : Chip M c B p0 bl pg sz rs nx pcs) (hs : Ex S M M') (hd : ∀ x, Own c B p0 bl x → ¬S x) : Chip M' c B p0 bl pg sz rs nx pcs :=
  h.frame hs.1 fun x hx => hs.2 x (h.own hx) (hd x hx)
end Go.Abm.Seat

open Go Go.Abm
set_option maxRecDepth 100000
namespace Go.Abm.Seat
def recL (f : Nat → List AV) : Nat → List AV
  | 0 => []
  | n + 1 => recL f n ++ f n
theorem recL_len {f : Nat → List AV} {k : Nat} (hk : ∀ i, (f i).length = k) : ∀ n, (recL f n).length = n * k
  | 0 => by simp [recL]
  | n + 1 => by rw [recL, List.length_append, recL_len hk n, hk, Nat.succ_mul]
theorem recL_congr {f g : Nat → List AV} : ∀ n, (∀ i, i < n → f i = g i) → recL f n = recL g n
  | 0, _ => rfl
  | n + 1, h => by rw [recL, recL, recL_congr n (fun i hi => h i (by omega)), h n (by omega)]
theorem recL_get {f : Nat → List AV} {k : Nat} (hk : ∀ i, (f i).length = k) : ∀ n i j, i < n → j < k → (recL f n)[0 + i * k + j]? = (f i)[j]?
  | 0, _, _, h, _ => by omega
  | n + 1, i, j, h, hj => by
    rw [recL]
    by_cases he : i = n
    · subst he
      rw [show 0 + i * k + j = (recL f i).length + j by rw [recL_len hk]; omega, get_app]
    · have : i * k + k ≤ n * k := by rw [← Nat.succ_mul]; exact Nat.mul_le_mul_right k (by omega)
      rw [List.getElem?_append_left (by rw [recL_len hk]; omega)]
      exact recL_get hk n i j (by omega) hj
theorem recL_take {f : Nat → List AV} {k : Nat} (hk : ∀ i, (f i).length = k) {n i : Nat} (h : i < n) : ((recL f n).drop (0 + i * k)).take k = f i := by
  apply List.ext_getElem?
  intro j
  rw [List.getElem?_take]
  by_cases hj : j < k
  · rw [if_pos hj, List.getElem?_drop, recL_get hk n i j h hj]
  · rw [if_neg hj, List.getElem?_eq_none (by rw [hk]; omega)]
theorem spliceL_left : ∀ (a b v : List AV) (o : Nat), o + v.length ≤ a.length → spliceL (a ++ b) o v = spliceL a o v ++ b
  | a, b, v, 0, h => by
    rw [spliceL_zero, spliceL_zero, List.append_assoc]
    congr 1
    rw [List.drop_append_of_le_length (by omega)]
  | [], b, v, o + 1, h => by simp at h
  | x :: a, b, v, o + 1, h => by
    show x :: spliceL (a ++ b) o v = x :: (spliceL a o v ++ b)
    rw [spliceL_left a b v o (by simp at h; omega)]
theorem recL_splice {f : Nat → List AV} {k : Nat} (hk : ∀ i, (f i).length = k) {v : List AV} {j : Nat} (hj : j + v.length ≤ k) : ∀ n i, i < n → spliceL (recL f n) (0 + i * k + j) v = recL (fun x => if x = i then spliceL (f x) j v else f x) n
  | 0, _, h => by omega
  | n + 1, i, h => by
    rw [recL, recL]
    by_cases he : i = n
    · subst he
      rw [show 0 + i * k + j = (recL f i).length + j by rw [recL_len hk]; omega, spliceL_app, if_pos rfl]
      congr 1
      exact recL_congr i fun x hx => by rw [if_neg (by omega)]
    · have : i * k + k ≤ n * k := by rw [← Nat.succ_mul]; exact Nat.mul_le_mul_right k (by omega)
      rw [spliceL_left _ _ _ _ (by rw [recL_len hk]; omega), recL_splice hk hj n i (by omega), if_neg (by omega)]
theorem recL_rep {f : Nat → List AV} {z : List AV} : ∀ n, (∀ i, i < n → f i = z) → recL f n = repeatL z n
  | 0, _ => rfl
  | n + 1, h => by rw [recL, recL_rep n (fun i hi => h i (by omega)), h n (by omega), repeatL_succ]
structure Ent where
  s : Int
  c : Int
  l : Int
  u : Int
  q : Int
  k : Bool
def Ent.av (e : Ent) : List AV := [.int .i64 e.s, .int .i64 e.c, .int .i64 e.l, .int .i64 e.u, .int .u64 e.q, .bool e.k]
theorem Ent.len (e : Ent) : e.av.length = 6 := rfl
abbrev entL (f : Nat → Ent) (n : Nat) : List AV := recL (fun i => (f i).av) n
theorem entL_len (f : Nat → Ent) (n : Nat) : (entL f n).length = n * 6 := recL_len (fun i => (f i).len) n
theorem entL_take (f : Nat → Ent) {n i : Nat} (h : i < n) : ((entL f n).drop (0 + i * 6)).take 6 = (f i).av := recL_take (fun i => (f i).len) h
theorem entL_get (f : Nat → Ent) {n i j : Nat} (h : i < n) (hj : j < 6) : (entL f n)[0 + i * 6 + j]? = (f i).av[j]? := recL_get (fun i => (f i).len) n i j h hj
theorem entL_put (f : Nat → Ent) (e : Ent) {n i : Nat} (h : i < n) : spliceL (entL f n) (0 + i * 6) e.av = entL (fun x => if x = i then e else f x) n := by
  have := recL_splice (fun i => (f i).len) (v := e.av) (j := 0) (by show 0 + 6 ≤ 6; omega) n i h
  rw [Nat.add_zero] at this
  rw [this]
  refine recL_congr n fun x _ => ?_
  dsimp only
  by_cases hx : x = i
  · rw [if_pos hx, if_pos hx, spliceL_zero]; exact List.append_nil _
  · rw [if_neg hx, if_neg hx]
theorem entL_putc (f : Nat → Ent) (c : Int) {n i : Nat} (h : i < n) : spliceL (entL f n) (0 + i * 6 + 1) [.int .i64 c] = entL (fun x => if x = i then { f x with c := c } else f x) n := by
  rw [recL_splice (fun i => (f i).len) (v := [AV.int .i64 c]) (j := 1) (by show 1 + 1 ≤ 6; omega) n i h]
  refine recL_congr n fun x _ => ?_
  dsimp only
  by_cases hx : x = i
  · rw [if_pos hx, if_pos hx]; rfl
  · rw [if_neg hx, if_neg hx]
abbrev intL (g : Nat → Int) (n : Nat) : List AV := recL (fun i => [AV.int .i64 (g i)]) n
theorem intL_len (g : Nat → Int) (n : Nat) : (intL g n).length = n * 1 := recL_len (f := fun i => [AV.int .i64 (g i)]) (k := 1) (fun _ => rfl) n
theorem intL_get (g : Nat → Int) {n i : Nat} (h : i < n) : (intL g n)[0 + i * 1]? = some (.int .i64 (g i)) := recL_get (f := fun i => [AV.int .i64 (g i)]) (k := 1) (fun _ => rfl) n i 0 h (by decide)
theorem intL_put (g : Nat → Int) (c : Int) {n i : Nat} (h : i < n) : spliceL (intL g n) (0 + i * 1) [.int .i64 c] = intL (fun x => if x = i then c else g x) n := by
  have := recL_splice (f := fun i => [AV.int .i64 (g i)]) (fun _ => rfl) (v := [AV.int .i64 c]) (j := 0) (by show 0 + 1 ≤ 1; omega) n i h
  rw [Nat.add_zero] at this
  rw [this]
  refine recL_congr n fun x _ => ?_
  dsimp only
  by_cases hx : x = i
  · rw [if_pos hx, if_pos hx]; rfl
  · rw [if_neg hx, if_neg hx]
end Go.Abm.Seat

open Go Go.Abm
set_option maxRecDepth 100000
set_option maxHeartbeats 4000000
namespace Go.Abm.Seat
def powB (a : Int) : Bool := iltF 0 a && ieqF (wrapFast .i64 (Int.ofNat ((wrapFast (unsig .i64) a).toNat.land (wrapFast (unsig .i64) (wrapFast .i64 (subF a 1))).toNat))) 0
theorem pow_ok {E : Env} (F : Facts E) (h : E.sums 124 = none) (M : AM) (a : Int) (Q : KC) (hQ : Q (.ret (.bool (powB a))) M) :
    CallsTo E 124 [.int .i64 a] M Q := by
  refine call_rule F.f124 rfl h ?_
  refine w_seq ?_
  refine w_region ?_
  refine vv (e_assign rfl) ?_
  refine w_nil ?_
  refine k_seq ?_
  refine w_seq ?_
  refine w_region ?_
  refine vv (e_move rfl) ?_
  refine vv rfl ?_
  refine vv (e_move rfl) ?_
  unfold powB at hQ
  cases h1 : iltF 0 a
  · refine vn ?_
    refine vn ?_
    refine vn ?_
    refine vn ?_
    refine vn ?_
    refine vv rfl ?_
    refine vv (e_assign rfl) ?_
    refine w_nil ?_
    refine k_seq ?_
    refine w_ret ?_
    rw [h1] at hQ
    exact ⟨_, res_tmp rfl res_nil, hQ⟩
  · refine vg (e_move rfl) ?_
    refine vg (e_move rfl) ?_
    refine vg rfl ?_
    refine vg rfl ?_
    refine vg rfl ?_
    refine vv rfl ?_
    refine vv (e_assign rfl) ?_
    refine w_nil ?_
    refine k_seq ?_
    refine w_ret ?_
    rw [h1] at hQ
    exact ⟨_, res_tmp rfl res_nil, hQ⟩
def rightB (a b c d : Int) : Bool := !iltF a 16 && (!iltF 256 a && (!iltF b 8 && (!iltF 64 b && (powB b && (!iltF c 64 && (!iltF 512 c && (powB c && (!iltF (wrapFast .i64 (mulF (wrapFast .i64 (subF b 2)) c)) 1536 && (!iltF d 0 && (!iltF (wrapFast .i64 (quoF a 4)) d))))))))))
theorem right_ok {E : Env} (F : Facts E) (hp : E.sums 124 = none) (h : E.sums 52 = none) (M : AM) (a b c d : Int) (Q : KC) (hQ : ∀ M', M'.nx = M.nx + 1 → Same M M' → Q (.ret (.bool (rightB a b c d))) M') :
    CallsTo E 52 [.agg [.int .i64 a, .int .i64 b, .int .i64 c, .int .i64 d]] M Q := by
  refine call_rule F.f52 rfl h ?_
  have hs := (Same.refl M).new (o := .cells [.int .i64 a, .int .i64 b, .int .i64 c, .int .i64 d] false false)
  have hQ := hQ _ rfl hs
  unfold rightB at hQ
  refine w_seq ?_
  refine w_region ?_
  refine vv rfl ?_
  refine vv (e_assign rfl) ?_
  refine w_nil ?_
  refine k_seq ?_
  refine w_seq ?_
  refine w_region ?_
  refine vv (e_assign rfl) ?_
  refine w_nil ?_
  refine k_seq ?_
  refine w_seq ?_
  refine w_region ?_
  refine vv (e_fa rfl F.fa23_0) ?_
  refine vv (e_loadn rfl F.na3 g0 zC) ?_
  refine vv rfl ?_
  refine vv (e_move rfl) ?_
  cases h0 : iltF a 16
  case true => refine vn ?_
               refine vn ?_
               refine vn ?_
               refine vv rfl ?_
               refine vv (e_move rfl) ?_
               refine vn ?_
               refine vn ?_
               refine vn ?_
               refine vv rfl ?_
               refine vv (e_move rfl) ?_
               refine vn ?_
               refine vn ?_
               refine vn ?_
               refine vv rfl ?_
               refine vv (e_move rfl) ?_
               refine vn ?_
               refine vn ?_
               refine vn ?_
               refine vn ?_
               refine vv rfl ?_
               refine vv (e_move rfl) ?_
               refine vn ?_
               refine vn ?_
               refine vn ?_
               refine vv rfl ?_
               refine vv (e_move rfl) ?_
               refine vn ?_
               refine vn ?_
               refine vn ?_
               refine vv rfl ?_
               refine vv (e_move rfl) ?_
               refine vn ?_
               refine vn ?_
               refine vn ?_
               refine vn ?_
               refine vv rfl ?_
               refine vv (e_move rfl) ?_
               refine vn ?_
               refine vn ?_
               refine vn ?_
               refine vn ?_
               refine vn ?_
               refine vn ?_
               refine vn ?_
               refine vv rfl ?_
               refine vv (e_move rfl) ?_
               refine vn ?_
               refine vn ?_
               refine vn ?_
               refine vv rfl ?_
               refine vv (e_move rfl) ?_
               refine vn ?_
               refine vn ?_
               refine vn ?_
               refine vn ?_
               refine vn ?_
               refine vn ?_
               refine vv rfl ?_
               refine vv (e_assign rfl) ?_
               refine w_nil ?_
               refine k_seq ?_
               refine w_ret ?_
               rw [h0] at hQ
               exact ⟨_, res_tmp rfl res_nil, hQ⟩
  rw [h0] at hQ
  refine vg (e_fa rfl F.fa23_0) ?_
  refine vg (e_loadn rfl F.na3 g0 zC) ?_
  refine vg rfl ?_
  refine vv rfl ?_
  refine vv (e_move rfl) ?_
  cases h1 : iltF 256 a
  case true => refine vn ?_
               refine vn ?_
               refine vn ?_
               refine vv rfl ?_
               refine vv (e_move rfl) ?_
               refine vn ?_
               refine vn ?_
               refine vn ?_
               refine vv rfl ?_
               refine vv (e_move rfl) ?_
               refine vn ?_
               refine vn ?_
               refine vn ?_
               refine vn ?_
               refine vv rfl ?_
               refine vv (e_move rfl) ?_
               refine vn ?_
               refine vn ?_
               refine vn ?_
               refine vv rfl ?_
               refine vv (e_move rfl) ?_
               refine vn ?_
               refine vn ?_
               refine vn ?_
               refine vv rfl ?_
               refine vv (e_move rfl) ?_
               refine vn ?_
               refine vn ?_
               refine vn ?_
               refine vn ?_
               refine vv rfl ?_
               refine vv (e_move rfl) ?_
               refine vn ?_
               refine vn ?_
               refine vn ?_
               refine vn ?_
               refine vn ?_
               refine vn ?_
               refine vn ?_
               refine vv rfl ?_
               refine vv (e_move rfl) ?_
               refine vn ?_
               refine vn ?_
               refine vn ?_
               refine vv rfl ?_
               refine vv (e_move rfl) ?_
               refine vn ?_
               refine vn ?_
               refine vn ?_
               refine vn ?_
               refine vn ?_
               refine vn ?_
               refine vv rfl ?_
               refine vv (e_assign rfl) ?_
               refine w_nil ?_
               refine k_seq ?_
               refine w_ret ?_
               rw [h1] at hQ
               exact ⟨_, res_tmp rfl res_nil, hQ⟩
  rw [h1] at hQ
  refine vg (e_fa rfl F.fa23_1) ?_
  refine vg (e_loadn rfl F.na3 g0 zC) ?_
  refine vg rfl ?_
  refine vv rfl ?_
  refine vv (e_move rfl) ?_
  cases h2 : iltF b 8
  case true => refine vn ?_
               refine vn ?_
               refine vn ?_
               refine vv rfl ?_
               refine vv (e_move rfl) ?_
               refine vn ?_
               refine vn ?_
               refine vn ?_
               refine vn ?_
               refine vv rfl ?_
               refine vv (e_move rfl) ?_
               refine vn ?_
               refine vn ?_
               refine vn ?_
               refine vv rfl ?_
               refine vv (e_move rfl) ?_
               refine vn ?_
               refine vn ?_
               refine vn ?_
               refine vv rfl ?_
               refine vv (e_move rfl) ?_
               refine vn ?_
               refine vn ?_
               refine vn ?_
               refine vn ?_
               refine vv rfl ?_
               refine vv (e_move rfl) ?_
               refine vn ?_
               refine vn ?_
               refine vn ?_
               refine vn ?_
               refine vn ?_
               refine vn ?_
               refine vn ?_
               refine vv rfl ?_
               refine vv (e_move rfl) ?_
               refine vn ?_
               refine vn ?_
               refine vn ?_
               refine vv rfl ?_
               refine vv (e_move rfl) ?_
               refine vn ?_
               refine vn ?_
               refine vn ?_
               refine vn ?_
               refine vn ?_
               refine vn ?_
               refine vv rfl ?_
               refine vv (e_assign rfl) ?_
               refine w_nil ?_
               refine k_seq ?_
               refine w_ret ?_
               rw [h2] at hQ
               exact ⟨_, res_tmp rfl res_nil, hQ⟩
  rw [h2] at hQ
  refine vg (e_fa rfl F.fa23_1) ?_
  refine vg (e_loadn rfl F.na3 g0 zC) ?_
  refine vg rfl ?_
  refine vv rfl ?_
  refine vv (e_move rfl) ?_
  cases h3 : iltF 64 b
  case true => refine vn ?_
               refine vn ?_
               refine vn ?_
               refine vn ?_
               refine vv rfl ?_
               refine vv (e_move rfl) ?_
               refine vn ?_
               refine vn ?_
               refine vn ?_
               refine vv rfl ?_
               refine vv (e_move rfl) ?_
               refine vn ?_
               refine vn ?_
               refine vn ?_
               refine vv rfl ?_
               refine vv (e_move rfl) ?_
               refine vn ?_
               refine vn ?_
               refine vn ?_
               refine vn ?_
               refine vv rfl ?_
               refine vv (e_move rfl) ?_
               refine vn ?_
               refine vn ?_
               refine vn ?_
               refine vn ?_
               refine vn ?_
               refine vn ?_
               refine vn ?_
               refine vv rfl ?_
               refine vv (e_move rfl) ?_
               refine vn ?_
               refine vn ?_
               refine vn ?_
               refine vv rfl ?_
               refine vv (e_move rfl) ?_
               refine vn ?_
               refine vn ?_
               refine vn ?_
               refine vn ?_
               refine vn ?_
               refine vn ?_
               refine vv rfl ?_
               refine vv (e_assign rfl) ?_
               refine w_nil ?_
               refine k_seq ?_
               refine w_ret ?_
               rw [h3] at hQ
               exact ⟨_, res_tmp rfl res_nil, hQ⟩
  rw [h3] at hQ
  refine vg (e_move rfl) ?_
  refine vg (e_fa rfl F.fa23_1) ?_
  refine vg (e_loadn rfl F.na3 g0 zC) ?_
  refine w_callkg rfl rfl rfl (e_callv rfl rfl rfl F.f124 rfl) (pow_ok F hp _ b _ ?_)
  dsimp only
  refine vv rfl ?_
  refine vv (e_move rfl) ?_
  cases h4 : powB b
  case false => refine vn ?_
                refine vn ?_
                refine vn ?_
                refine vv rfl ?_
                refine vv (e_move rfl) ?_
                refine vn ?_
                refine vn ?_
                refine vn ?_
                refine vv rfl ?_
                refine vv (e_move rfl) ?_
                refine vn ?_
                refine vn ?_
                refine vn ?_
                refine vn ?_
                refine vv rfl ?_
                refine vv (e_move rfl) ?_
                refine vn ?_
                refine vn ?_
                refine vn ?_
                refine vn ?_
                refine vn ?_
                refine vn ?_
                refine vn ?_
                refine vv rfl ?_
                refine vv (e_move rfl) ?_
                refine vn ?_
                refine vn ?_
                refine vn ?_
                refine vv rfl ?_
                refine vv (e_move rfl) ?_
                refine vn ?_
                refine vn ?_
                refine vn ?_
                refine vn ?_
                refine vn ?_
                refine vn ?_
                refine vv rfl ?_
                refine vv (e_assign rfl) ?_
                refine w_nil ?_
                refine k_seq ?_
                refine w_ret ?_
                rw [h4] at hQ
                exact ⟨_, res_tmp rfl res_nil, hQ⟩
  rw [h4] at hQ
  refine vg (e_fa rfl F.fa23_2) ?_
  refine vg (e_loadn rfl F.na3 g0 zC) ?_
  refine vg rfl ?_
  refine vv rfl ?_
  refine vv (e_move rfl) ?_
  cases h5 : iltF c 64
  case true => refine vn ?_
               refine vn ?_
               refine vn ?_
               refine vv rfl ?_
               refine vv (e_move rfl) ?_
               refine vn ?_
               refine vn ?_
               refine vn ?_
               refine vn ?_
               refine vv rfl ?_
               refine vv (e_move rfl) ?_
               refine vn ?_
               refine vn ?_
               refine vn ?_
               refine vn ?_
               refine vn ?_
               refine vn ?_
               refine vn ?_
               refine vv rfl ?_
               refine vv (e_move rfl) ?_
               refine vn ?_
               refine vn ?_
               refine vn ?_
               refine vv rfl ?_
               refine vv (e_move rfl) ?_
               refine vn ?_
               refine vn ?_
               refine vn ?_
               refine vn ?_
               refine vn ?_
               refine vn ?_
               refine vv rfl ?_
               refine vv (e_assign rfl) ?_
               refine w_nil ?_
               refine k_seq ?_
               refine w_ret ?_
               rw [h5] at hQ
               exact ⟨_, res_tmp rfl res_nil, hQ⟩
  rw [h5] at hQ
  refine vg (e_fa rfl F.fa23_2) ?_
  refine vg (e_loadn rfl F.na3 g0 zC) ?_
  refine vg rfl ?_
  refine vv rfl ?_
  refine vv (e_move rfl) ?_
  cases h6 : iltF 512 c
  case true => refine vn ?_
               refine vn ?_
               refine vn ?_
               refine vn ?_
               refine vv rfl ?_
               refine vv (e_move rfl) ?_
               refine vn ?_
               refine vn ?_
               refine vn ?_
               refine vn ?_
               refine vn ?_
               refine vn ?_
               refine vn ?_
               refine vv rfl ?_
               refine vv (e_move rfl) ?_
               refine vn ?_
               refine vn ?_
               refine vn ?_
               refine vv rfl ?_
               refine vv (e_move rfl) ?_
               refine vn ?_
               refine vn ?_
               refine vn ?_
               refine vn ?_
               refine vn ?_
               refine vn ?_
               refine vv rfl ?_
               refine vv (e_assign rfl) ?_
               refine w_nil ?_
               refine k_seq ?_
               refine w_ret ?_
               rw [h6] at hQ
               exact ⟨_, res_tmp rfl res_nil, hQ⟩
  rw [h6] at hQ
  refine vg (e_move rfl) ?_
  refine vg (e_fa rfl F.fa23_2) ?_
  refine vg (e_loadn rfl F.na3 g0 zC) ?_
  refine w_callkg rfl rfl rfl (e_callv rfl rfl rfl F.f124 rfl) (pow_ok F hp _ c _ ?_)
  dsimp only
  refine vv rfl ?_
  refine vv (e_move rfl) ?_
  cases h7 : powB c
  case false => refine vn ?_
                refine vn ?_
                refine vn ?_
                refine vn ?_
                refine vn ?_
                refine vn ?_
                refine vn ?_
                refine vv rfl ?_
                refine vv (e_move rfl) ?_
                refine vn ?_
                refine vn ?_
                refine vn ?_
                refine vv rfl ?_
                refine vv (e_move rfl) ?_
                refine vn ?_
                refine vn ?_
                refine vn ?_
                refine vn ?_
                refine vn ?_
                refine vn ?_
                refine vv rfl ?_
                refine vv (e_assign rfl) ?_
                refine w_nil ?_
                refine k_seq ?_
                refine w_ret ?_
                rw [h7] at hQ
                exact ⟨_, res_tmp rfl res_nil, hQ⟩
  rw [h7] at hQ
  refine vg (e_fa rfl F.fa23_1) ?_
  refine vg (e_loadn rfl F.na3 g0 zC) ?_
  refine vg rfl ?_
  refine vg (e_fa rfl F.fa23_2) ?_
  refine vg (e_loadn rfl F.na3 g0 zC) ?_
  refine vg rfl ?_
  refine vg rfl ?_
  refine vv rfl ?_
  refine vv (e_move rfl) ?_
  cases h8 : iltF (wrapFast .i64 (mulF (wrapFast .i64 (subF b 2)) c)) 1536
  case true => refine vn ?_
               refine vn ?_
               refine vn ?_
               refine vv rfl ?_
               refine vv (e_move rfl) ?_
               refine vn ?_
               refine vn ?_
               refine vn ?_
               refine vn ?_
               refine vn ?_
               refine vn ?_
               refine vv rfl ?_
               refine vv (e_assign rfl) ?_
               refine w_nil ?_
               refine k_seq ?_
               refine w_ret ?_
               rw [h8] at hQ
               exact ⟨_, res_tmp rfl res_nil, hQ⟩
  rw [h8] at hQ
  refine vg (e_fa rfl F.fa23_3) ?_
  refine vg (e_loadn rfl F.na3 g0 zC) ?_
  refine vg rfl ?_
  refine vv rfl ?_
  refine vv (e_move rfl) ?_
  cases h9 : iltF d 0
  case true => refine vn ?_
               refine vn ?_
               refine vn ?_
               refine vn ?_
               refine vn ?_
               refine vn ?_
               refine vv rfl ?_
               refine vv (e_assign rfl) ?_
               refine w_nil ?_
               refine k_seq ?_
               refine w_ret ?_
               rw [h9] at hQ
               exact ⟨_, res_tmp rfl res_nil, hQ⟩
  rw [h9] at hQ
  refine vg (e_fa rfl F.fa23_3) ?_
  refine vg (e_loadn rfl F.na3 g0 zC) ?_
  refine vg (e_fa rfl F.fa23_0) ?_
  refine vg (e_loadn rfl F.na3 g0 zC) ?_
  refine vg rfl ?_
  refine vg rfl ?_
  refine vv rfl ?_
  refine vv (e_assign rfl) ?_
  refine w_nil ?_
  refine k_seq ?_
  refine w_ret ?_
  cases h10 : iltF (wrapFast .i64 (quoF a 4)) d
  case true => skip
               rw [h10] at hQ
               exact ⟨_, res_tmp rfl res_nil, hQ⟩
  rw [h10] at hQ
  skip
  exact ⟨_, res_tmp rfl res_nil, hQ⟩
end Go.Abm.Seat

open Go Go.Abm
set_option maxRecDepth 100000
set_option maxHeartbeats 4000000
namespace Go.Abm.Seat
theorem rplan_ok {E : Env} (F : Facts E) (h : E.sums 53 = none) (M : AM) (Q : KC) (hQ : Q (.ret (.bool true)) M) : CallsTo E 53 [.nils] M Q := by
  refine call_rule F.f53 rfl h ?_
  refine w_seq ?_
  refine w_region ?_
  refine vv (e_assign rfl) ?_
  refine w_nil ?_
  refine k_seq ?_
  refine w_seq ?_
  refine w_seq ?_
  refine w_region ?_
  refine vv (e_move rfl) ?_
  refine vv (e_len_nils rfl rfl rfl rfl F.u94) ?_
  refine vv rfl ?_
  refine w_nil ?_
  refine k_seq ?_
  refine vf ?_
  refine w_skip ?_
  refine k_seq ?_
  refine w_seq ?_
  refine w_seq ?_
  refine w_region ?_
  refine vv (e_move rfl) ?_
  refine vv (e_len_nils rfl rfl rfl rfl F.u94) ?_
  refine vv (e_move rfl) ?_
  refine w_nil ?_
  refine k_seq ?_
  refine w_block ?_
  refine w_loop ?_
  refine loop_inv (fun z ρ D M' => D = [] ∧ ρ 10 = some (.int .i64 (.ofNat 0)) ∧ ρ 11 = some (.int .i64 (.ofNat 0)) ∧ M' = M) ?_ 0 _ _ _ ⟨rfl, rfl, rfl, rfl⟩
  rintro z ρ D M' ⟨rfl, g10, g11, rfl⟩
  rw [reg1 g10, reg1 g11]
  refine w_seq ?_
  refine w_region ?_
  refine vv rfl ?_
  refine w_nil ?_
  refine k_seq ?_
  refine w_seq ?_
  refine vf ?_
  refine w_exit ?_
  refine k_exit ?_
  refine k_exit ?_
  refine b_here ?_
  refine k_seq ?_
  refine w_seq ?_
  refine w_region ?_
  refine vv (e_assign rfl) ?_
  refine w_nil ?_
  refine k_seq ?_
  refine w_ret ?_
  exact ⟨_, res_tmp rfl res_nil, hQ⟩
theorem clonef_ok {E : Env} (F : Facts E) (h : E.sums 54 = none) (M : AM) (Q : KC) (hQ : Q (.ret .nils) M) : CallsTo E 54 [.nils] M Q := by
  refine call_rule F.f54 rfl h ?_
  refine w_seq ?_
  refine w_region ?_
  refine vv (e_assign rfl) ?_
  refine w_nil ?_
  refine k_seq ?_
  refine w_seq ?_
  refine w_seq ?_
  refine w_region ?_
  refine vv (e_move rfl) ?_
  refine vv (e_eqlsnn rfl rfl F.u94) ?_
  refine w_nil ?_
  refine k_seq ?_
  refine vt ?_
  refine w_seq ?_
  refine w_region ?_
  refine vv (e_assign rfl) ?_
  refine w_nil ?_
  refine k_seq ?_
  refine w_ret ?_
  refine k_ret ?_
  exact ⟨_, res_tmp rfl res_nil, hQ⟩
theorem newbad_ok {E : Env} (F : Facts E) (h1 : E.sums 124 = none) (h2 : E.sums 52 = none) (h : E.sums 18 = none) (M : AM) (a b c d : Int) (hr : rightB a b c d = false) (Q : KC) (hQ : ∀ M', Same M M' → Q (.ret (.tup [.nilp, .int .i64 22])) M') :
    CallsTo E 18 [.agg [.int .i64 a, .int .i64 b, .int .i64 c, .int .i64 d], .nils] M Q := by
  refine call_rule F.f18 rfl h ?_
  refine w_seq ?_
  refine w_region ?_
  refine vv rfl ?_
  refine vv (e_assign rfl) ?_
  refine vv (e_assign rfl) ?_
  refine w_nil ?_
  refine k_seq ?_
  refine w_seq ?_
  refine w_seq ?_
  refine w_region ?_
  refine vv (e_loada rfl F.ag23 F.sz23 g0 zN) ?_
  refine w_callk rfl rfl rfl (e_call rfl rfl F.f52 rfl) (right_ok F h1 h2 _ a b c d _ (fun M1 hn1 hs1 => ?_))
  dsimp only
  rw [hr]
  refine vv rfl ?_
  refine vv (e_move rfl) ?_
  refine vn ?_
  refine vn ?_
  refine vn ?_
  refine vv rfl ?_
  refine w_nil ?_
  refine k_seq ?_
  refine vt ?_
  refine w_seq ?_
  refine w_region ?_
  refine vv (e_assign rfl) ?_
  refine vv (e_assign rfl) ?_
  refine w_nil ?_
  refine k_seq ?_
  refine w_ret ?_
  refine k_ret ?_
  exact ⟨_, res_tmp rfl (res_tmp rfl res_nil), hQ _ ((Same.refl M).new.trans hs1)⟩
theorem new_ok {E : Env} (F : Facts E) (h1 : E.sums 124 = none) (h2 : E.sums 52 = none) (h3 : E.sums 53 = none) (h4 : E.sums 54 = none) (h : E.sums 18 = none) (M : AM) (bl pg sz rs : Nat) (hg : Geo bl pg sz rs) (hr : rightB (.ofNat bl) (.ofNat pg) (.ofNat sz) (.ofNat rs) = true) (Q : KC)
    (hQ : ∀ M' c B p0, Same M M' → M.nx ≤ c → M.nx ≤ B → M.nx ≤ p0 → Chip M' c B p0 bl pg sz rs (fun _ => 0) (fun _ => repeatL zpage pg) → Q (.ret (.tup [.ptr c 0, .int .i64 0])) M') :
    CallsTo E 18 [.agg [.int .i64 (.ofNat bl), .int .i64 (.ofNat pg), .int .i64 (.ofNat sz), .int .i64 (.ofNat rs)], .nils] M Q := by
  obtain ⟨b1, b2, p1, p2, s1, s2, r1⟩ := hg
  refine call_rule F.f18 rfl h ?_
  refine w_seq ?_
  refine w_region ?_
  refine vv rfl ?_
  refine vv (e_assign rfl) ?_
  refine vv (e_assign rfl) ?_
  refine w_nil ?_
  refine k_seq ?_
  refine w_seq ?_
  refine w_seq ?_
  refine w_region ?_
  refine vv (e_loada rfl F.ag23 F.sz23 g0 zN) ?_
  refine w_callk rfl rfl rfl (e_call rfl rfl F.f52 rfl) (right_ok F h1 h2 _ _ _ _ _ _ (fun M1 hn1 hs1 => ?_))
  dsimp only
  rw [hr]
  refine vv rfl ?_
  refine vv (e_move rfl) ?_
  refine vg (e_move rfl) ?_
  refine w_callkg rfl rfl rfl (e_call rfl rfl F.f53 rfl) (rplan_ok F h3 _ _ ?_)
  dsimp only
  have hn1 : M1.nx = M.nx + 2 := hn1
  have hc : M1.get M.nx = some (.cells [.int .i64 (.ofNat bl), .int .i64 (.ofNat pg), .int .i64 (.ofNat sz), .int .i64 (.ofNat rs)] false false) := by
    rw [hs1.2 M.nx (Nat.lt_succ_self _), AM.get_new_self]; rfl
  refine vg rfl ?_
  refine vv rfl ?_
  refine w_nil ?_
  refine k_seq ?_
  refine vf ?_
  refine w_skip ?_
  refine k_seq ?_
  refine w_seq ?_
  refine w_order [.run 0 0, .run 1 0, .run 3 0, .run 4 8, .run 5 24, .chk, .eff 2 2, .run 6 63, .run 7 127, .chk, .eff 8 255, .chk] (by decide +kernel) ?_
  refine sr rfl (e_loada rfl F.ag23 F.sz23 zS zN) ?_
  refine sp rfl (e_move rfl) ?_
  refine sp rfl (e_fa rfl F.fa23_0) ?_
  refine sr rfl (e_loadn rfl F.na3 zS zC) ?_
  refine sa rfl (e_makeSlice rfl rfl F.u100 F.el107 (by decide) (by omega) (by omega) (by unfold maxI; omega) rfl) ?_
  refine st_chk (by repeat first | exact ck_nil | refine ck_cons ⟨_, _, rfl, zA⟩ ?_ | refine ck_cons ⟨_, _, (e_loada rfl F.ag23 F.sz23 (by first | assumption | exact g0 | exact s0 | (repeat first | assumption | exact g0 | exact s0 | refine gn zL ?_ | refine gs zL ?_)) zN), zA⟩ ?_ | refine ck_cons ⟨_, _, (e_loadn rfl F.na3 (by first | assumption | exact g0 | exact s0 | (repeat first | assumption | exact g0 | exact s0 | refine gn zL ?_ | refine gs zL ?_)) zC), zA⟩ ?_ | refine ck_cons ⟨_, (by first | assumption | exact g0 | exact s0 | (repeat first | assumption | exact g0 | exact s0 | refine gn zL ?_ | refine gs zL ?_)), zB⟩ ?_) ?_
  refine fc rfl zP (e_call rfl rfl F.f54 rfl) (clonef_ok F h4 _ _ ⟨Nat.le_refl _, ?_⟩)
  refine sp rfl (e_build rfl F.bd102 rfl) ?_
  refine sa rfl rfl ?_
  refine st_chk (by repeat first | exact ck_nil | refine ck_cons ⟨_, _, rfl, zA⟩ ?_ | refine ck_cons ⟨_, _, (e_loada rfl F.ag23 F.sz23 (by first | assumption | exact g0 | exact s0 | (repeat first | assumption | exact g0 | exact s0 | refine gn zL ?_ | refine gs zL ?_)) zN), zA⟩ ?_ | refine ck_cons ⟨_, _, (e_loadn rfl F.na3 (by first | assumption | exact g0 | exact s0 | (repeat first | assumption | exact g0 | exact s0 | refine gn zL ?_ | refine gs zL ?_)) zC), zA⟩ ?_ | refine ck_cons ⟨_, (by first | assumption | exact g0 | exact s0 | (repeat first | assumption | exact g0 | exact s0 | refine gn zL ?_ | refine gs zL ?_)), zB⟩ ?_) ?_
  refine fp rfl zP (e_assign rfl) ?_
  refine st_chk (by repeat first | exact ck_nil | refine ck_cons ⟨_, _, rfl, zA⟩ ?_ | refine ck_cons ⟨_, _, (e_loada rfl F.ag23 F.sz23 (by first | assumption | exact g0 | exact s0 | (repeat first | assumption | exact g0 | exact s0 | refine gn zL ?_ | refine gs zL ?_)) zN), zA⟩ ?_ | refine ck_cons ⟨_, _, (e_loadn rfl F.na3 (by first | assumption | exact g0 | exact s0 | (repeat first | assumption | exact g0 | exact s0 | refine gn zL ?_ | refine gs zL ?_)) zC), zA⟩ ?_ | refine ck_cons ⟨_, (by first | assumption | exact g0 | exact s0 | (repeat first | assumption | exact g0 | exact s0 | refine gn zL ?_ | refine gs zL ?_)), zB⟩ ?_) ?_
  refine st_nil ?_
  refine k_seq ?_
  refine w_seq ?_
  refine w_seq ?_
  refine w_region ?_
  refine vv (e_move rfl) ?_
  refine vv rfl ?_
  refine vv (e_fa rfl F.fa102_1) ?_
  refine vv (e_loadn rfl F.na100 g0 zC) ?_
  refine vv (e_len_sl rfl rfl rfl rfl F.u100) ?_
  refine vv (e_move rfl) ?_
  refine w_nil ?_
  refine k_seq ?_
  refine w_block ?_
  have n0 : (M1.new (.cells (repeatL zblk bl) false false)).nx = M.nx + 3 := by show M1.nx + 1 = _; omega
  refine w_loop ?_
  refine loop_inv (fun z ρ D M' => D = [] ∧ ∃ i, z = bl - i ∧ i ≤ bl ∧ ρ 2 = some (.ptr M.nx 0) ∧ ρ 6 = some (.ptr (M.nx + 3) 0) ∧ ρ 28 = some (.int .i64 (.ofNat bl)) ∧ ρ 29 = some (.int .i64 (.ofNat i)) ∧ M'.nx = M.nx + 4 + i ∧ (∀ x, x < M.nx → M'.get x = M.get x) ∧
    M'.get M.nx = some (.cells [.int .i64 (.ofNat bl), .int .i64 (.ofNat pg), .int .i64 (.ofNat sz), .int .i64 (.ofNat rs)] false false) ∧ M'.get (M.nx + 3) = some (.cells (chipC bl pg sz rs (M.nx + 2) 0 0) false false) ∧
    M'.get (M.nx + 2) = some (.cells (newBs (M.nx + 4) pg i ++ repeatL zblk (bl - i)) false false) ∧ ∀ n, n < i → M'.get (M.nx + 4 + n) = some (.cells (repeatL zpage pg) false false)) ?_ bl _ _ _
    ⟨rfl, 0, rfl, Nat.zero_le _, rfl, congrArg (fun n => some (AV.ptr n 0)) n0, rfl, rfl, ?_, ?_, ?_, ?_, ?_, fun n hn => absurd hn (Nat.not_lt_zero _)⟩
  rotate_left
  · show M1.nx + 1 + 1 = _; omega
  · intro x hx
    rw [AM.get_new_lt (by rw [AM.nx_new]; omega), AM.get_new_lt (by omega), hs1.2 x (by rw [AM.nx_new]; omega), AM.get_new_lt hx]
  · rw [AM.get_new_lt (by rw [AM.nx_new]; omega), AM.get_new_lt (by omega)]; exact hc
  · refine (congrArg _ n0.symm).trans (AM.get_new_self.trans ?_); rw [hn1]; rfl
  · rw [AM.get_new_lt (by rw [AM.nx_new]; omega)]; refine (congrArg _ hn1.symm).trans (AM.get_new_self.trans ?_); rfl
  rintro z ρ D M' ⟨rfl, i, rfl, hi, g2, g6, g28, g29, hnx, hold, hgc, hcc, hbc, hpc⟩
  rw [reg1 g2, reg1 g6, reg1 g28, reg1 g29]
  refine w_seq ?_
  refine w_region ?_
  refine vv rfl ?_
  refine w_nil ?_
  refine k_seq ?_
  refine w_seq ?_
  refine w_cond rfl (fun h => ?_) (fun h => ?_)
  case refine_2 =>
    have he : i = bl := by have := ilt_ge h; omega
    subst he
    refine w_exit ?_
    refine k_exit ?_
    refine k_exit ?_
    refine b_here ?_
    refine k_seq ?_
    refine w_seq ?_
    refine w_region ?_
    refine vv (e_move rfl) ?_
    refine vv (e_assign rfl) ?_
    refine vv (e_assign rfl) ?_
    refine w_nil ?_
    refine k_seq ?_
    refine w_ret ?_
    refine ⟨_, res_tmp rfl (res_tmp rfl res_nil), hQ M' _ _ (M.nx + 4) ⟨by omega, hold⟩ (by omega) (Nat.le_add_right M.nx 2) (by omega) ⟨⟨_, _, _, hcc⟩, ⟨_, _, hbc, ?_, fun n hn => ?_⟩, fun n hn => ⟨⟨_, hpc n hn⟩, repeatL_length _ _⟩, by omega, ⟨by omega, fun n hn => by omega⟩⟩⟩
    · rw [Nat.sub_self, List.length_append, newBs_len]; rfl
    · rw [Nat.sub_self, show repeatL zblk 0 = [] from rfl, List.append_nil]
      exact ⟨newBs_get _ _ 0 (by decide) _ n hn, ⟨_, newBs_get _ _ 1 (by decide) _ n hn⟩, newBs_get _ _ 2 (by decide) _ n hn, newBs_get _ _ 3 (by decide) _ n hn⟩
  have hlt := ilt_lt h
  refine w_skip ?_
  refine k_seq ?_
  refine w_seq ?_
  refine w_block ?_
  refine w_seq ?_
  refine w_region ?_
  refine vv (e_move rfl) ?_
  refine vv (e_assign rfl) ?_
  refine w_nil ?_
  refine k_seq ?_
  refine w_order [.run 0 0, .run 1 1, .run 2 3, .run 3 7, .run 4 0, .run 5 0, .run 6 32, .run 7 96, .run 8 255, .run 9 511, .chk, .eff 10 1023, .chk] (by decide +kernel) ?_
  refine sp rfl (e_move rfl) ?_
  refine sp rfl rfl ?_
  refine sp rfl (e_fa rfl F.fa102_1) ?_
  refine sr rfl (e_loadn rfl F.na100 zS zC) ?_
  refine sp rfl (e_move rfl) ?_
  refine sp rfl (e_fa rfl F.fa23_1) ?_
  refine sr rfl (e_loadn rfl F.na3 zS zC) ?_
  refine sa rfl (e_makeSlice rfl rfl F.u103 F.el289 (by decide) (by omega) (by omega) (by unfold maxI; omega) rfl) ?_
  refine sp rfl (e_indexAddr rfl rfl F.u100 F.sz107 zD) ?_
  refine sp rfl (e_fa rfl F.fa107_1) ?_
  refine st_chk (by repeat first | exact ck_nil | refine ck_cons ⟨_, _, rfl, zA⟩ ?_ | refine ck_cons ⟨_, _, (e_loadn rfl F.na100 (by first | assumption | exact g0 | exact s0 | (repeat first | assumption | exact g0 | exact s0 | refine gn zL ?_ | refine gs zL ?_)) zC), zA⟩ ?_ | refine ck_cons ⟨_, _, (e_loadn rfl F.na3 (by first | assumption | exact g0 | exact s0 | (repeat first | assumption | exact g0 | exact s0 | refine gn zL ?_ | refine gs zL ?_)) zC), zA⟩ ?_ | refine ck_cons ⟨_, (by first | assumption | exact g0 | exact s0 | (repeat first | assumption | exact g0 | exact s0 | refine gn zL ?_ | refine gs zL ?_)), zB⟩ ?_) ?_
  have hlen : (newBs (M.nx + 4) pg i ++ repeatL zblk (bl - i)).length = bl * 4 := by
    rw [List.length_append, newBs_len, repeatL_length]; show i * 4 + (bl - i) * 4 = _; omega
  refine fd rfl zP (e_store rfl rfl F.sz103 (gn (by omega) hbc) (by rw [hlen]; show 0 + i * 4 + 2 + 1 ≤ _; omega) rfl) ?_
  refine st_chk (by repeat first | exact ck_nil | refine ck_cons ⟨_, _, rfl, zA⟩ ?_ | refine ck_cons ⟨_, _, (e_loadn rfl F.na100 (by first | assumption | exact g0 | exact s0 | (repeat first | assumption | exact g0 | exact s0 | refine gn zL ?_ | refine gs zL ?_)) zC), zA⟩ ?_ | refine ck_cons ⟨_, _, (e_loadn rfl F.na3 (by first | assumption | exact g0 | exact s0 | (repeat first | assumption | exact g0 | exact s0 | refine gn zL ?_ | refine gs zL ?_)) zC), zA⟩ ?_ | refine ck_cons ⟨_, (by first | assumption | exact g0 | exact s0 | (repeat first | assumption | exact g0 | exact s0 | refine gn zL ?_ | refine gs zL ?_)), zB⟩ ?_) ?_
  refine st_nil ?_
  refine b_normal ?_
  refine k_seq ?_
  refine w_region ?_
  refine vv rfl ?_
  refine vv (e_move rfl) ?_
  refine w_nil ?_
  refine k_seq ?_
  refine ⟨bl - (i + 1), by omega, rfl, i + 1, rfl, hlt, rfl, rfl, rfl, inc64v (by omega), ?_, fun x hx => ?_, ?_, ?_, ?_, fun n hn => ?_⟩
  · show M'.nx + 1 = _; omega
  · rw [AM.get_set_ne (by omega), AM.get_new_lt (by omega)]; exact hold x hx
  · rw [AM.get_set_ne (by omega), AM.get_new_lt (by omega)]; exact hgc
  · rw [AM.get_set_ne (by omega), AM.get_new_lt (by omega)]; exact hcc
  · have := newBs_step (M.nx + 4) pg bl i hlt
    rw [← hnx] at this
    refine s0.trans ?_
    rw [← this]; rfl
  · rw [AM.get_set_ne (by omega)]
    by_cases he : n = i
    · subst he; rw [← hnx, AM.get_new_self]; rfl
    · rw [AM.get_new_lt (by omega)]; exact hpc n (by omega)
end Go.Abm.Seat

open Go Go.Abm
set_option maxRecDepth 100000
set_option maxHeartbeats 4000000
namespace Go.Abm.Seat
theorem Chip.upd {M M' : AM} {c B p0 bl pg sz rs : Nat} {nx : Nat → Nat} {pcs : Nat → List AV} (h : Chip M c B p0 bl pg sz rs nx pcs) {n v : Nat} (hn : n < bl) (hx : M.nx ≤ M'.nx) (hold : ∀ x, x < M.nx → x ≠ c → x ≠ B → x ≠ p0 + n → M'.get x = M.get x)
    (hc : ∃ k w f, M'.get c = some (.cells (chipC bl pg sz rs B k w) false f)) {bc bc' : List AV} {f f' : Bool} (hb : M.get B = some (.cells bc false f)) (hb' : M'.get B = some (.cells bc' false f')) (hlen : bc'.length = bc.length) (hoth : ∀ m j, m < bl → m ≠ n → j < 4 → bc'[0 + m * 4 + j]? = bc[0 + m * 4 + j]?)
    (h0 : bc'[0 + n * 4]? = some (.bool false)) (h1 : ∃ er, bc'[0 + n * 4 + 1]? = some (.int .i64 er)) (h2 : bc'[0 + n * 4 + 2]? = some (.sl (p0 + n) 0 pg pg none)) (h3 : bc'[0 + n * 4 + 3]? = some (.int .i64 (.ofNat v))) {pc : List AV} (hp : ∃ f, M'.get (p0 + n) = some (.cells pc false f)) (hpl : pc.length = pg * 2) :
    Chip M' c B p0 bl pg sz rs (fun i => if i = n then v else nx i) (fun i => if i = n then pc else pcs i) := by
  obtain ⟨hc0, ⟨bc0, f0, hb0, hl0, hall⟩, hp0, ⟨l1, l2, l3⟩, hne⟩ := h
  rw [hb] at hb0; cases hb0
  refine ⟨hc, ⟨bc', f', hb', by omega, fun m hm => ?_⟩, fun m hm => ?_, ⟨by omega, by omega, by omega⟩, hne⟩
  · by_cases he : m = n
    · subst he; rw [if_pos rfl]; exact ⟨h0, h1, h2, h3⟩
    · obtain ⟨a0, a1, a2, a3⟩ := hall m hm
      rw [if_neg he, hoth m 1 hm he (by decide), hoth m 2 hm he (by decide), hoth m 3 hm he (by decide)]
      refine ⟨?_, a1, a2, a3⟩
      have := hoth m 0 hm he (by decide)
      rw [Nat.add_zero] at this; rw [this]; exact a0
  · by_cases he : m = n
    · subst he; rw [if_pos rfl]; exact ⟨hp, hpl⟩
    · rw [if_neg he]
      obtain ⟨⟨f2, g1⟩, g2⟩ := hp0 m hm
      obtain ⟨n1, n2⟩ := hne.2 m hm
      exact ⟨⟨f2, by rw [hold (p0 + m) (by omega) n1 n2 (by omega)]; exact g1⟩, g2⟩
theorem erase_c {E : Env} (F : Facts E) (h1 : E.sums 240 = none) (h2 : E.sums 164 = none) (h3 : E.sums 243 = none) (h4 : E.sums 244 = none) (h5 : E.sums 167 = none)
    {M : AM} {c B p0 bl pg sz rs : Nat} {nx : Nat → Nat} {pcs : Nat → List AV} (h : Chip M c B p0 bl pg sz rs nx pcs) (hg : Geo bl pg sz rs) {n : Nat} (hn : n < bl) (Q : KC)
    (hQ : ∀ M', Ex (Own c B p0 bl) M M' → Chip M' c B p0 bl pg sz rs (fun i => if i = n then 0 else nx i) (fun i => if i = n then repeatL zpage pg else pcs i) → Q (.ret (.int .i64 0)) M') :
    CallsTo E 167 [.ptr c 0, .int .i64 (.ofNat n)] M Q := by
  have h' := h
  obtain ⟨⟨k, w, f, hc⟩, ⟨bc, f1, hb, hl, hall⟩, hp, ⟨l1, l2, l3⟩, hne⟩ := h
  obtain ⟨⟨f2, hp1⟩, hp2⟩ := hp n hn
  obtain ⟨b0, ⟨er, b1⟩, b2, b3⟩ := hall n hn
  obtain ⟨n1, n2⟩ := hne.2 n hn
  have hs1 : 0 + n * 4 + 1 + [AV.int .i64 0].length ≤ bc.length := by show _ + 1 ≤ _; omega
  refine erase_ok F h1 h2 h3 h4 h5 M c bl pg sz rs B (p0 + n) pg n k w er f f1 f2 bc (pcs n) hc hb hp1 l1 l2 (by omega) hne.1 (by omega) (by omega) hn (by omega) b0 b1 b2 hp2 (by have := hg.p2; omega) Q (fun M' k' er' hx hold hc' hp' hb' => hQ M' ⟨hx, fun x hx hS => hold x hx (fun e => hS (Or.inl e)) (fun e => hS (Or.inr (Or.inl e))) (fun e => hS (Or.inr (Or.inr ⟨by omega, by omega⟩)))⟩ ?_)
  have q1 : 0 + n * 4 + 1 + [AV.int .i64 er'].length ≤ bc.length := hs1
  have q2 : 0 + n * 4 + 3 + [AV.int .i64 0].length ≤ (spliceL bc (0 + n * 4 + 1) [AV.int .i64 er']).length := by rw [spliceL_length _ _ _ q1]; show _ + 1 ≤ _; omega
  have gt : ∀ i, (spliceL (spliceL bc (0 + n * 4 + 1) [AV.int .i64 er']) (0 + n * 4 + 3) [AV.int .i64 0])[i]? = if i = 0 + n * 4 + 3 then some (.int .i64 0) else if i = 0 + n * 4 + 1 then some (.int .i64 er') else bc[i]? := fun i => by
    rw [spliceL_get _ _ _ _ q2, spliceL_get _ _ _ _ q1]
    show (if 0 + n * 4 + 3 ≤ i ∧ i < 0 + n * 4 + 3 + 1 then _ else if 0 + n * 4 + 1 ≤ i ∧ i < 0 + n * 4 + 1 + 1 then _ else _) = _
    by_cases e3 : i = 0 + n * 4 + 3
    · rw [if_pos (by omega), if_pos e3, e3, Nat.sub_self]; rfl
    · rw [if_neg (by omega), if_neg e3]
      by_cases e1 : i = 0 + n * 4 + 1
      · rw [if_pos (by omega), if_pos e1, e1, Nat.sub_self]; rfl
      · rw [if_neg (by omega), if_neg e1]
  refine h'.upd (v := 0) hn hx (fun x a1 a2 a3 a4 => hold x a1 a2 a3 a4) ⟨_, _, _, hc'⟩ hb hb' (by rw [spliceL_length _ _ _ q2, spliceL_length _ _ _ q1]) (fun m j hm hmn hj => ?_) ?_ ⟨er', ?_⟩ ?_ ?_ ⟨_, hp'⟩ (repeatL_length _ _)
  · rw [gt, if_neg (by omega), if_neg (by omega)]
  · rw [gt, if_neg (by omega), if_neg (by omega)]; exact b0
  · rw [gt, if_neg (by omega), if_pos rfl]
  · rw [gt, if_neg (by omega), if_neg (by omega)]; exact b2
  · rw [gt, if_pos rfl]; rfl
theorem bad_c {E : Env} (F : Facts E) (h1 : E.sums 240 = none) (h2 : E.sums 289 = none)
    {M : AM} {c B p0 bl pg sz rs : Nat} {nx : Nat → Nat} {pcs : Nat → List AV} (h : Chip M c B p0 bl pg sz rs nx pcs) {n : Nat} (hn : n < bl) (Q : KC) (hQ : Q (.ret (.bool false)) M) : CallsTo E 289 [.ptr c 0, .int .i64 (.ofNat n)] M Q := by
  obtain ⟨⟨k, w, f, hc⟩, ⟨bc, f1, hb, hl, hall⟩, hp, hl2, hne⟩ := h
  exact bad_ok F h1 h2 M c bl pg sz rs B n k w false f f1 bc hc hb hn (hall n hn).1 Q hQ
theorem next_c {E : Env} (F : Facts E) (h1 : E.sums 240 = none) (h2 : E.sums 291 = none)
    {M : AM} {c B p0 bl pg sz rs : Nat} {nx : Nat → Nat} {pcs : Nat → List AV} (h : Chip M c B p0 bl pg sz rs nx pcs) {n : Nat} (hn : n < bl) (Q : KC) (hQ : Q (.ret (.int .i64 (.ofNat (nx n)))) M) : CallsTo E 291 [.ptr c 0, .int .i64 (.ofNat n)] M Q := by
  obtain ⟨⟨k, w, f, hc⟩, ⟨bc, f1, hb, hl, hall⟩, hp, hl2, hne⟩ := h
  exact next_ok F h1 h2 M c bl pg sz rs B n k w _ f f1 bc hc hb hn (hall n hn).2.2.2 Q hQ
theorem on_c {E : Env} (F : Facts E) (h2 : E.sums 55 = none)
    {M : AM} {c B p0 bl pg sz rs : Nat} {nx : Nat → Nat} {pcs : Nat → List AV} (h : Chip M c B p0 bl pg sz rs nx pcs) (Q : KC) (hQ : Q (.ret (.bool true)) M) : CallsTo E 55 [.ptr c 0] M Q := by
  obtain ⟨⟨k, w, f, hc⟩, _⟩ := h
  exact on_ok F h2 M c bl pg sz rs B k w f hc Q hQ
theorem geom_c {E : Env} (F : Facts E) (h2 : E.sums 50 = none)
    {M : AM} {c B p0 bl pg sz rs : Nat} {nx : Nat → Nat} {pcs : Nat → List AV} (h : Chip M c B p0 bl pg sz rs nx pcs) (Q : KC) (hQ : ∀ M', Same M M' → Q (.ret (.agg [.int .i64 (.ofNat bl), .int .i64 (.ofNat pg), .int .i64 (.ofNat sz), .int .i64 (.ofNat rs)])) M') : CallsTo E 50 [.ptr c 0] M Q := by
  obtain ⟨⟨k, w, f, hc⟩, _, _, ⟨lc, _⟩, _⟩ := h
  refine call_rule F.f50 rfl h2 ?_
  refine w_seq ?_
  refine w_region ?_
  refine vv (e_alloc F.z23) ?_
  refine w_nil ?_
  refine k_seq ?_
  refine w_seq ?_
  refine w_seq ?_
  refine w_region ?_
  refine vv (e_move rfl) ?_
  refine vv (e_eqlp rfl rfl F.u39) ?_
  refine w_nil ?_
  refine k_seq ?_
  refine vf ?_
  refine w_skip ?_
  refine k_seq ?_
  refine w_seq ?_
  refine w_region ?_
  refine vv (e_move rfl) ?_
  refine vv rfl ?_
  refine vv (e_fa rfl F.fa102_0) ?_
  refine vv (e_loada rfl F.ag23 F.sz23 (gn (by omega) zS) zN) ?_
  refine vd (e_store rfl rfl F.sz23 g0 zN rfl) ?_
  refine w_nil ?_
  refine k_seq ?_
  refine w_ret ?_
  refine ⟨_, res_cella rfl F.ag23 F.sz23 s0 (Nat.le_refl _) res_nil, hQ _ ((Same.refl M).new.set (Nat.le_refl _))⟩
end Go.Abm.Seat

open Go Go.Abm
set_option maxRecDepth 100000
set_option maxHeartbeats 4000000
namespace Go.Abm.Seat
theorem splice_two : ∀ (l : List AV) (k : Nat) (a b x : AV), k + 2 ≤ l.length → spliceL (spliceL l k [a, b]) (k + 1) [x] = spliceL l k [a, x]
  | y :: z :: l, 0, a, b, x, _ => by simp [spliceL, spliceL_zero]
  | [], k, _, _, _, h => by simp at h
  | [y], 0, _, _, _, h => by simp at h
  | y :: l, k + 1, a, b, x, h => by
    show y :: spliceL (spliceL l k [a, b]) (k + 1) [x] = y :: spliceL l k [a, x]
    rw [splice_two l k a b x (by simp at h; omega)]
theorem program_c {E : Env} (F : Facts E) (h1 : E.sums 240 = none) (h2 : E.sums 164 = none) (h3 : E.sums 243 = none) (h4 : E.sums 180 = none) (h5 : E.sums 169 = none)
    {M : AM} {c B p0 bl pg sz rs : Nat} {nx : Nat → Nat} {pcs : Nat → List AV} (h : Chip M c B p0 bl pg sz rs nx pcs) (hg : Geo bl pg sz rs) {n p : Nat} (hn : n < bl) (hp : nx n = p) (hpp : p < pg)
    {db o dl dc : Nat} {dg : Option Nat} {l : List AV} {ro fz : Bool} (hd : M.get db = some (.cells l ro fz)) (ld : db < M.nx) (hdo : ¬Own c B p0 bl db) (d1 : 1 ≤ dl) (hdc : dl ≤ dc) (hdl : o + dl ≤ l.length) (hds : dl ≤ sz) (hone : ((l.drop o).take dl).all AV.one = true) (Q : KC)
    (hQ : ∀ M' X, Ex (Own c B p0 bl) M M' → Chip M' c B p0 bl pg sz rs (fun i => if i = n then p + 1 else nx i) (fun i => if i = n then spliceL (pcs n) (p * 2) [.int .i64 1, .sl X 0 dl dl (some 1)] else pcs i) → M.nx ≤ X → X < M'.nx → M'.get X = some (.cells ((l.drop o).take dl) false false) → Q (.ret (.int .i64 0)) M') :
    CallsTo E 169 [.ptr c 0, .int .i64 (.ofNat n), .int .i64 (.ofNat p), .sl db o dl dc dg] M Q := by
  have h' := h
  obtain ⟨⟨k, w, f, hc⟩, ⟨bc, f1, hb, hl, hall⟩, hpg, ⟨l1, l2, l3⟩, hne⟩ := h
  obtain ⟨⟨f2, hp1⟩, hp2⟩ := hpg n hn
  obtain ⟨b0, ⟨er, b1⟩, b2, b3⟩ := hall n hn
  obtain ⟨n1, n2⟩ := hne.2 n hn
  rw [hp] at b3
  refine call_rule F.f169 rfl h5 ?_
  refine w_seq ?_
  refine w_region ?_
  refine vv (e_assign rfl) ?_
  refine w_nil ?_
  refine k_seq ?_
  refine w_seq ?_
  refine w_region ?_
  refine vv (e_move rfl) ?_
  refine vv (e_move rfl) ?_
  refine vc (e_call rfl rfl F.f164 rfl) (ready_ok F h1 h2 M c 0 n B 0 bl bl none _ false f hc rfl rfl hn _ ?_)
  dsimp only
  refine vv (e_move rfl) ?_
  refine vv rfl ?_
  refine vv rfl ?_
  refine vv (e_assign rfl) ?_
  refine vv (e_assign rfl) ?_
  refine w_nil ?_
  refine k_seq ?_
  refine w_seq ?_
  refine w_seq ?_
  refine w_region ?_
  refine vv (e_move rfl) ?_
  refine vv rfl ?_
  refine w_nil ?_
  refine k_seq ?_
  refine vf ?_
  refine w_skip ?_
  refine k_seq ?_
  refine w_seq ?_
  refine w_seq ?_
  refine w_region ?_
  refine vv (e_move rfl) ?_
  refine vv rfl ?_
  refine vv (e_move rfl) ?_
  refine vg (e_move rfl) ?_
  refine vg (e_move rfl) ?_
  refine vg rfl ?_
  refine vg (e_fa rfl F.fa107_1) ?_
  refine vg (e_loadn rfl F.na103 zS zC) ?_
  refine vg (e_len_sl rfl rfl rfl rfl F.u103) ?_
  refine vg rfl ?_
  refine vv rfl ?_
  refine vv (e_move rfl) ?_
  rw [ilt_t hpp]
  refine vg (e_move rfl) ?_
  refine vg (e_len_sl rfl rfl rfl rfl F.u157) ?_
  refine vg (e_move rfl) ?_
  refine vg rfl ?_
  refine vg (e_fa rfl F.fa102_0) ?_
  refine vg (e_fa rfl F.fa23_2) ?_
  refine vg (e_loadn rfl F.na3 zS zC) ?_
  refine vg rfl ?_
  refine vv rfl ?_
  refine w_nil ?_
  refine k_seq ?_
  rw [ilt_f hds]
  refine vf ?_
  refine w_skip ?_
  refine k_seq ?_
  refine w_seq ?_
  refine w_seq ?_
  refine w_region ?_
  refine vv (e_move rfl) ?_
  refine vv rfl ?_
  refine vv (e_fa rfl F.fa107_0) ?_
  refine vv (e_fa rfl F.fa105_0) ?_
  refine vv (e_loadn rfl F.na4 zS zC) ?_
  refine vv (e_move rfl) ?_
  refine vg (e_move rfl) ?_
  refine vg (e_move rfl) ?_
  refine vg rfl ?_
  refine vg (e_fa rfl F.fa107_2) ?_
  refine vg (e_loadn rfl F.na3 zS zC) ?_
  refine vg rfl ?_
  refine vv rfl ?_
  refine w_nil ?_
  refine k_seq ?_
  have hpe : ieqF (.ofNat p) (.ofNat p) = true := ieq_self p
  rw [hpe]
  refine vf ?_
  refine w_skip ?_
  refine k_seq ?_
  refine w_seq ?_
  refine w_region ?_
  refine vv (e_move rfl) ?_
  refine vc (e_call rfl rfl F.f243 rfl) (begin_ok F h3 M c bl pg sz rs B k w f hc l1 _ (fun M1 k' hn1 hs1 hc1 => ?_))
  have hb1 : M1.get B = some (.cells bc false f1) := by rw [hs1 B l2 (Ne.symm hne.1)]; exact hb
  have hp1' : M1.get (p0 + n) = some (.cells (pcs n) false f2) := by rw [hs1 (p0 + n) (by omega) n1]; exact hp1
  have hd1 : M1.get db = some (.cells l ro fz) := by rw [hs1 db ld (fun e => hdo (Or.inl e))]; exact hd
  have dB : db ≠ B := fun e => hdo (Or.inr (Or.inl e))
  have dP : db ≠ p0 + n := fun e => hdo (Or.inr (Or.inr ⟨by omega, by omega⟩))
  dsimp only
  refine vv (e_move rfl) ?_
  refine vv rfl ?_
  refine vv rfl ?_
  refine vv (e_alloc F.z99) ?_
  refine vd (e_store rfl rfl F.sz99 g0 zN rfl) ?_
  refine vv (e_assign rfl) ?_
  refine w_nil ?_
  refine k_seq ?_
  refine w_seq ?_
  refine w_region ?_
  refine vv (e_assign rfl) ?_
  refine w_nil ?_
  refine k_seq ?_
  refine w_seq ?_
  refine w_block ?_
  refine w_seq ?_
  refine w_region ?_
  refine vv (e_move rfl) ?_
  refine vv rfl ?_
  refine vv (e_assign rfl) ?_
  refine w_nil ?_
  refine k_seq ?_
  refine vt ?_
  refine w_skip ?_
  refine b_normal ?_
  refine k_seq ?_
  refine w_seq ?_
  refine w_region ?_
  refine vv (e_move rfl) ?_
  refine vv rfl ?_
  refine vv (e_fa rfl F.fa107_1) ?_
  refine vv (e_loadn rfl F.na103 (by first | assumption | exact g0 | exact s0 | (repeat first | assumption | exact g0 | exact s0 | refine gn zL ?_ | refine gs zL ?_)) zC) ?_
  refine vv (e_move rfl) ?_
  refine vv (e_move rfl) ?_
  refine vv (e_build rfl F.bd289 rfl) ?_
  refine vv (e_indexAddr rfl rfl F.u103 F.sz289 zD) ?_
  have e1 : (M1.new (.cells [.int .i64 0, .int .i64 0, .int .i64 0] false false)).nx = M1.nx + 1 := rfl
  refine vd (e_store rfl rfl F.sz289 (gs (by omega) (gn (by omega) hp1')) (by rw [hp2]; show 0 + p * 2 + 2 ≤ _; omega) rfl) ?_
  refine w_nil ?_
  refine k_seq ?_
  refine w_seq ?_
  refine w_seq ?_
  refine w_region ?_
  refine vv (e_move rfl) ?_
  refine vv rfl ?_
  refine w_nil ?_
  refine k_seq ?_
  refine vt ?_
  refine w_order [.run 0 0, .run 1 1, .run 2 3, .run 3 7, .run 4 0, .run 5 0, .chk, .eff 6 32, .run 7 127, .run 8 255, .chk, .eff 9 511, .chk] (by decide +kernel) ?_
  refine sp rfl (e_move rfl) ?_
  refine sp rfl rfl ?_
  refine sp rfl (e_fa rfl F.fa107_1) ?_
  refine sr rfl (e_loadn rfl F.na103 (by first | assumption | exact g0 | exact s0 | (repeat first | assumption | exact g0 | exact s0 | refine gn zL ?_ | refine gs zL ?_)) zC) ?_
  refine sp rfl (e_move rfl) ?_
  refine sp rfl (e_move rfl) ?_
  refine st_chk (by repeat first | exact ck_nil | refine ck_cons ⟨_, _, rfl, zA⟩ ?_ | refine ck_cons ⟨_, _, (e_loadn rfl F.na103 (by first | assumption | exact g0 | exact s0 | (repeat first | assumption | exact g0 | exact s0 | refine gn zL ?_ | refine gs zL ?_)) zC), zA⟩ ?_ | refine ck_cons ⟨_, (by first | assumption | exact g0 | exact s0 | (repeat first | assumption | exact g0 | exact s0 | refine gn zL ?_ | refine gs zL ?_)), zB⟩ ?_) ?_
  have ld1 : db < M1.nx := by omega
  refine fc rfl zP (e_call rfl rfl F.f180 rfl) (clone_ok F h4 _ db o dl dc dg l ro fz (gs dP (gs (by omega) (gn ld1 hd1))) (by simp only [AM.nx_set, AM.nx_new]; omega) d1 hdc hdl (by have := hg.s2; omega) hone _ (fun M2 hn2 hs2 hx2 => ?_))
  simp only [AM.nx_set, AM.nx_new] at hn2 hs2 hx2
  have hB2 : M2.get B = some (.cells bc false f1) := (hs2 B (by omega)).trans (gs (by omega) (gs (by omega) (gn (by omega) hb1)))
  have hP2 : M2.get (p0 + n) = some (.cells (spliceL (pcs n) (0 + p * 2) [.int .i64 1, .nils]) false f2) := (hs2 (p0 + n) (by omega)).trans s0
  have hc2 : M2.get c = some (.cells (chipC bl pg sz rs B k' w) false f) := (hs2 c (by omega)).trans (gs (by omega) (gs (by omega) (gn (by omega) hc1)))
  have ld2 : ∀ x, x < M.nx → x ≠ c → x ≠ B → x ≠ p0 + n → M2.get x = M.get x := fun x a1 a2 a3 a4 => (hs2 x (by omega)).trans (gs a4 (gs (by omega) (gn (by omega) (hs1 x a1 a2))))
  refine ⟨by simp only [AM.nx_set, AM.nx_new]; omega, ?_⟩
  refine sp rfl (e_indexAddr rfl rfl F.u103 F.sz289 zD) ?_
  refine sp rfl (e_fa rfl F.fa289_1) ?_
  refine st_chk (by repeat first | exact ck_nil | refine ck_cons ⟨_, _, rfl, zA⟩ ?_ | refine ck_cons ⟨_, _, (e_loadn rfl F.na103 (by first | assumption | exact g0 | exact s0 | (repeat first | assumption | exact g0 | exact s0 | refine gn zL ?_ | refine gs zL ?_)) zC), zA⟩ ?_ | refine ck_cons ⟨_, (by first | assumption | exact g0 | exact s0 | (repeat first | assumption | exact g0 | exact s0 | refine gn zL ?_ | refine gs zL ?_)), zB⟩ ?_) ?_
  have hlen : (spliceL (pcs n) (0 + p * 2) [.int .i64 1, .nils]).length = pg * 2 := by rw [spliceL_length _ _ _ (by rw [hp2]; show 0 + p * 2 + 2 ≤ _; omega), hp2]
  refine fd rfl zP (e_store rfl rfl F.sz157 hP2 (by rw [hlen]; show 0 + p * 2 + 1 + 1 ≤ _; omega) rfl) ?_
  refine st_chk (by repeat first | exact ck_nil | refine ck_cons ⟨_, _, rfl, zA⟩ ?_ | refine ck_cons ⟨_, _, (e_loadn rfl F.na103 (by first | assumption | exact g0 | exact s0 | (repeat first | assumption | exact g0 | exact s0 | refine gn zL ?_ | refine gs zL ?_)) zC), zA⟩ ?_ | refine ck_cons ⟨_, (by first | assumption | exact g0 | exact s0 | (repeat first | assumption | exact g0 | exact s0 | refine gn zL ?_ | refine gs zL ?_)), zB⟩ ?_) ?_
  refine st_nil ?_
  refine k_seq ?_
  refine w_seq ?_
  refine w_region ?_
  refine vv (e_move rfl) ?_
  refine vv rfl ?_
  refine vv (e_fa rfl F.fa107_2) ?_
  refine vv (e_loadn rfl F.na3 (gs (by omega) zS) zC) ?_
  refine vv rfl ?_
  refine vv rfl ?_
  refine vv (e_fa rfl F.fa107_2) ?_
  refine vd (e_store rfl rfl F.sz3 (gs (by omega) zS) zN rfl) ?_
  refine w_nil ?_
  refine k_seq ?_
  refine w_seq ?_
  refine w_region ?_
  refine vv (e_move rfl) ?_
  refine vv (e_assign rfl) ?_
  refine w_nil ?_
  refine k_seq ?_
  refine w_ret ?_
  have hv : wrapFast .i64 (addF (.ofNat p) 1) = .ofNat (p + 1) := inc64 (by have := hg.p2; omega)
  have q1 : 0 + n * 4 + 3 + [AV.int .i64 (.ofNat (p + 1))].length ≤ bc.length := by show _ + 1 ≤ _; omega
  have gt : ∀ i, (spliceL bc (0 + n * 4 + 3) [AV.int .i64 (.ofNat (p + 1))])[i]? = if i = 0 + n * 4 + 3 then some (.int .i64 (.ofNat (p + 1))) else bc[i]? := fun i => by
    rw [spliceL_get _ _ _ _ q1]
    show (if 0 + n * 4 + 3 ≤ i ∧ i < 0 + n * 4 + 3 + 1 then _ else _) = _
    by_cases e3 : i = 0 + n * 4 + 3
    · rw [if_pos (by omega), if_pos e3, e3, Nat.sub_self]; rfl
    · rw [if_neg (by omega), if_neg e3]
  have e2 : spliceL (spliceL (pcs n) (0 + p * 2) [.int .i64 1, .nils]) (0 + p * 2 + 1) [AV.sl (M1.nx + 1 + 1) 0 dl dl (some 1)] = spliceL (pcs n) (p * 2) [.int .i64 1, .sl (M1.nx + 1 + 1) 0 dl dl (some 1)] := by
    rw [Nat.zero_add]; exact splice_two (pcs n) (p * 2) _ _ _ (by omega)
  refine ⟨_, res_tmp rfl res_nil, ?_⟩
  rw [hv]
  refine hQ _ (M1.nx + 1 + 1) ⟨by simp only [AM.nx_set]; omega, fun x hx hS => ?_⟩ (h'.upd hn (by simp only [AM.nx_set]; omega) (fun x a1 a2 a3 a4 => ?_) ⟨_, _, _, gs hne.1 (gs (by omega) hc2)⟩ hb s0 (spliceL_length _ _ _ q1) (fun m j hm hmn hj => ?_) ?_ ⟨er, ?_⟩ ?_ ?_ ⟨_, gs n2 (s0.trans (by rw [← e2]; rfl))⟩ ?_) (by omega) (by simp only [AM.nx_set]; omega) (gs (by omega) (gs (by omega) hx2))
  · have x1 : x ≠ c := fun e => hS (Or.inl e)
    have x2 : x ≠ B := fun e => hS (Or.inr (Or.inl e))
    have x3 : x ≠ p0 + n := fun e => hS (Or.inr (Or.inr ⟨by omega, by omega⟩))
    exact gs x2 (gs x3 (ld2 x hx x1 x2 x3))
  · exact gs a3 (gs a4 (ld2 x a1 a2 a3 a4))
  · rw [gt, if_neg (by omega)]
  · rw [gt, if_neg (by omega)]; exact b0
  · rw [gt, if_neg (by omega)]; exact b1
  · rw [gt, if_neg (by omega)]; exact b2
  · rw [gt, if_pos rfl]
  · rw [spliceL_length _ _ _ (by rw [hp2]; show p * 2 + 2 ≤ _; omega), hp2]
end Go.Abm.Seat
