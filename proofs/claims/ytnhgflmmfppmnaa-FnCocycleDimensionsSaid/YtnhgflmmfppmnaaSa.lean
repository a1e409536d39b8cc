
/- Valid orders of a group, told plainly, and that the fold of addElements is the sum of elements; no program is walked here. The walks of the reference's functions on groups: l09Orders, l09Group, l09Add and their names of layer 10. The walks of l09Add, l10Add, l10Digits, l10Element, l10Negative. The walks of l10Digits, l10Element, l10Negative. The walk of l10Negative. The walk of l10Pair. -/
import Derived.Test.YtnhgflmmfppmnaaGa
import Derived.Test.YtnhgflmmfppmnaaGrp
import Derived.WalkLawsBesides
import Derived.Test.YtnhgflmmfppmnaaBa
namespace Go.Proofs.Ytnhgflmmfppmnaa
open Go Go.RowKit Grp
set_option linter.unusedSimpArgs false
set_option linter.unusedVariables false

/-- Orders of a group: 1 to 4 of them, each from 2 to 16, at most 16 elements. -/
def okG (os : List Int) : Bool := decide (1 ≤ os.length ∧ os.length ≤ 4 ∧ (∀ m ∈ os, 2 ≤ m ∧ m ≤ 16) ∧ prodL os ≤ 16)
structure OkG (os : List Int) : Prop where
  l1 : 1 ≤ os.length
  l4 : os.length ≤ 4
  m2 : ∀ m ∈ os, 2 ≤ m
  m16 : ∀ m ∈ os, m ≤ 16
  p16 : prodL os ≤ 16
theorem okG_iff {os : List Int} : okG os = true ↔ OkG os := by
  simp only [okG, decide_eq_true_eq]
  exact ⟨fun ⟨a, b, c, d⟩ => ⟨a, b, fun m h => (c m h).1, fun m h => (c m h).2, d⟩, fun h => ⟨h.l1, h.l4, fun m k => ⟨h.m2 m k, h.m16 m k⟩, h.p16⟩⟩

theorem prodL_append (a b : List Int) : prodL (a ++ b) = prodL a * prodL b := by
  induction a with
  | nil => simp [prodL]
  | cons m a ih => simp only [List.cons_append, prodL, ih, Int.mul_assoc]
theorem prodL_reverse (a : List Int) : prodL a.reverse = prodL a := by
  induction a with
  | nil => rfl
  | cons m a ih => rw [List.reverse_cons, prodL_append, ih]; simp [prodL, Int.mul_comm]
theorem OkG.pos {os : List Int} (h : OkG os) : Pos os := fun m hm => by have := h.m2 m hm; omega
theorem OkG.posR {os : List Int} (h : OkG os) : Pos os.reverse := fun m hm => h.pos m (by simpa using hm)
theorem OkG.ge {os : List Int} (h : OkG os) : 2 ≤ prodL os := by
  obtain ⟨l1, _, m2, _, _⟩ := h
  cases os with
  | nil => simp at l1
  | cons m r =>
    have h1 := m2 m (by simp)
    have h2 : 1 ≤ prodL r := prodL_pos (fun k hk => by have := m2 k (by simp [hk]); omega)
    have : 2 * 1 ≤ m * prodL r := Int.mul_le_mul h1 h2 (by omega) (by omega)
    simp only [prodL]; omega
theorem take_rev {zs : List Int} {k : Nat} (h : k < zs.length) : (zs.take (k + 1)).reverse = gi zs k :: (zs.take k).reverse := by rw [take_gi h]; simp

/-- The sum and the negative of elements. -/
def Ar (os : List Int) (x y : Int) : Int := addR os.reverse x y
def Ng (os : List Int) (x : Int) : Int := negR os.reverse x
section
variable {os : List Int} (h : OkG os)
include h
theorem Ar_rng (x y : Int) : 0 ≤ Ar os x y ∧ Ar os x y < prodL os := by have := addR_rng h.posR x y; rwa [prodL_reverse] at this
theorem Ar_assoc (x y z : Int) : Ar os (Ar os x y) z = Ar os x (Ar os y z) := addR_assoc h.posR x y z
theorem Ar_zero {x : Int} (h0 : 0 ≤ x) (h1 : x < prodL os) : Ar os x 0 = x := addR_zero h.posR x h0 (by rwa [prodL_reverse])
theorem Ng_rng (x : Int) : 0 ≤ Ng os x ∧ Ng os x < prodL os := by have := negR_rng h.posR x; rwa [prodL_reverse] at this
theorem Ar_neg (x : Int) : Ar os x (Ng os x) = 0 := addR_neg h.posR x
theorem Ng_unique {x y : Int} (h0 : 0 ≤ y) (h1 : y < prodL os) (he : Ar os x y = 0) : y = Ng os x := neg_unique h.posR h0 (by rwa [prodL_reverse]) he
end
theorem Ar_comm (os : List Int) (x y : Int) : Ar os x y = Ar os y x := addR_comm x y

/-- One digit of a sum. -/
theorem digit_rng {x y m : Int} (hm : 1 ≤ m) : 0 ≤ (x % m + y % m) % m ∧ (x % m + y % m) % m < m := em hm
theorem foldA_sum : ∀ (L : List IxOrd) (x y s p : Int), 0 ≤ s → s < p → p * prodL (L.map (·.1.2)) ≤ 1000000 →
    (L.foldl stepA (x, y, s, p)).2.2.1 = s + p * addR (L.map (·.1.2)) x y := by
  intro L
  induction L with
  | nil => intro x y s p _ _ _; simp [addR]
  | cons e L ih =>
    intro x y s p h0 h1 h2
    obtain ⟨⟨ix, m⟩, hm1, hm2⟩ := e
    simp only at hm1 hm2
    simp only [List.map_cons, prodL] at h2
    have hP : Pos (L.map (·.1.2)) := fun k hk => by
      obtain ⟨e, _, rfl⟩ := List.mem_map.1 hk
      exact e.2.1
    have hN := prodL_pos hP
    have hpm : p * m * 1 ≤ p * m * prodL (L.map (·.1.2)) := Int.mul_le_mul_of_nonneg_left hN (Int.mul_nonneg (by omega) (by omega))
    have hpm' : p * m * prodL (L.map (·.1.2)) ≤ 1000000 := by rw [Int.mul_assoc]; exact h2
    obtain ⟨d0, d1⟩ := em (x := x + y) hm1
    have e1 : 0 ≤ (x + y) % m * p := Int.mul_nonneg d0 (by omega)
    have e2 : ((x + y) % m + 1) * p ≤ m * p := Int.mul_le_mul_of_nonneg_right (by omega) (by omega)
    have e3 : m * p = p * m := Int.mul_comm _ _
    rw [Int.add_mul] at e2
    have hw1 : wrap64 ((x + y) % m * p) = (x + y) % m * p := wrap64_ok _ ⟨by omega, by omega⟩
    have hw2 : wrap64 (s + (x + y) % m * p) = s + (x + y) % m * p := wrap64_ok _ ⟨by omega, by omega⟩
    have hw3 : wrap64 (p * m) = p * m := wrap64_ok _ ⟨by omega, by omega⟩
    have hst : stepA (x, y, s, p) ⟨(ix, m), ⟨hm1, hm2⟩⟩ = (x / m, y / m, s + (x + y) % m * p, p * m) := by
      simp only [stepA]; rw [hw1, hw2, hw3]
    rw [List.foldl_cons, hst, ih _ _ _ _ (by omega) (by omega) hpm']
    simp only [List.map_cons, addR]
    rw [← Int.add_emod, Int.mul_add, Int.mul_assoc p m, Int.mul_comm ((x + y) % m) p]; omega

/-- The k-th round's index and order. -/
def ixo (zs : List Int) (h : ∀ m ∈ zs, 1 ≤ m ∧ m ≤ 1000000) (k : Nat) : IxOrd :=
  if hk : k < zs.length then ⟨((zs.length : Int) - 1 - k, gi zs (zs.length - 1 - k)), h _ (gi_mem (by omega))⟩ else ⟨(0, 1), by decide⟩
theorem ixo_at {zs : List Int} (h : ∀ m ∈ zs, 1 ≤ m ∧ m ≤ 1000000) {k : Nat} (hk : k < zs.length) : (ixo zs h k).1 = ((zs.length : Int) - 1 - k, gi zs (zs.length - 1 - k)) := by
  unfold ixo; rw [dif_pos hk]
theorem upTo_ixo (zs : List Int) (h : ∀ m ∈ zs, 1 ≤ m ∧ m ≤ 1000000) : (upTo (ixo zs h) zs.length).map (·.1.2) = zs.reverse := by
  refine List.ext_getElem (by simp [upTo]) fun i h1 h2 => ?_
  have hi : i < zs.length := by simpa using h2
  simp only [upTo, List.map_map, List.getElem_map, List.getElem_range, Function.comp_apply, ixo_at h hi, List.getElem_reverse]
  unfold gi
  rw [List.getD_eq_getElem?_getD, List.getElem?_eq_getElem (by omega)]; rfl
theorem foldA_Ar {os : List Int} (hG : OkG os) (h : ∀ m ∈ os, 1 ≤ m ∧ m ≤ 1000000) (x y : Int) : (foldA x y (upTo (ixo os h) os.length)).2.2.1 = Ar os x y := by
  unfold foldA
  have hp := hG.p16
  rw [foldA_sum _ _ _ _ _ (by omega) (by omega) (by rw [upTo_ixo, prodL_reverse]; omega), upTo_ixo]
  unfold Ar; omega
theorem addElements_any (w : World) (A : Option Addr) (n c : Nat) (zs : List Int) (a b : Int) (hG : OkG zs) (a0 : 0 ≤ a) (a1 : a ≤ 1000000) (b0 : 0 ≤ b) (b1 : b ≤ 1000000) (h : Sl w w.heap.size A n c zs) :
    Calls Try.prog 28 #[.slice A n c, .int .i64 a, .int .i64 b] w (Re w (.int .i64 (Ar zs a b))) := by
  obtain rfl := h.len
  have hz : ∀ m ∈ zs, 1 ≤ m ∧ m ≤ 1000000 := fun m hm => by have := hG.m2 m hm; have := hG.m16 m hm; omega
  have h4 := hG.l4
  have := callsIn_wide.1 (addElements_in Fence.wide 3 trivial trivial trivial rfl (Nat.le_refl _) A zs.length c zs a b (by omega) (ixo zs hz) (fun k hk => ixo_at hz hk) a0 a1 b0 b1 w h)
  refine this.mono fun e w' he => ?_
  rw [foldA_Ar hG] at he
  exact he

theorem prodL_snoc (xs : List Int) (x : Int) : prodL (xs ++ [x]) = prodL xs * x := by rw [prodL_append]; simp [prodL]
theorem okG_f {xs : List Int} {k : Nat} (hk : k < xs.length) (h : ¬ (2 ≤ gi xs k ∧ gi xs k ≤ 16)) : okG xs = false := by
  refine Bool.eq_false_iff.2 fun hb => h ?_
  have := okG_iff.1 hb
  exact ⟨this.m2 _ (gi_mem hk), this.m16 _ (gi_mem hk)⟩
theorem okG_len {xs : List Int} (h : ¬ (1 ≤ xs.length ∧ xs.length ≤ 4)) : okG xs = false := by
  refine Bool.eq_false_iff.2 fun hb => h ?_
  have := okG_iff.1 hb
  exact ⟨this.l1, this.l4⟩
theorem okG_end {xs : List Int} (h1 : 1 ≤ xs.length) (h4 : xs.length ≤ 4) (h : ∀ m ∈ xs, 2 ≤ m ∧ m ≤ 16) : okG xs = decide (prodL xs ≤ 16) := by
  unfold okG; exact decide_eq_decide.2 ⟨fun h => h.2.2.2, fun k => ⟨h1, h4, h, k⟩⟩
theorem pow16 {q m : Int} {k : Nat} (hk : k < 4) (h0 : 1 ≤ q) (h1 : q ≤ 16 ^ k) (m0 : 2 ≤ m) (m1 : m ≤ 16) : 1 ≤ q * m ∧ q * m ≤ 16 ^ (k + 1) ∧ q * m ≤ 65536 := by
  have e1 : 1 * 2 ≤ q * m := Int.mul_le_mul h0 m0 (by omega) (by omega)
  have e2 : q * m ≤ 16 ^ k * 16 := Int.mul_le_mul h1 m1 (by omega) (by omega)
  have e3 : (16 : Int) ^ k * 16 = 16 ^ (k + 1) := by rw [Int.pow_succ]
  have e4 : (16 : Int) ^ (k + 1) ≤ 65536 := by
    obtain rfl | rfl | rfl | rfl : k = 0 ∨ k = 1 ∨ k = 2 ∨ k = 3 := by omega
    all_goals decide
  exact ⟨by omega, by omega, by omega⟩

theorem OkG.take_le {xs : List Int} (h : OkG xs) (k : Nat) : 1 ≤ prodL (xs.take k) ∧ prodL (xs.take k) ≤ 16 := by
  have e : prodL (xs.take k) * prodL (xs.drop k) = prodL xs := by rw [← prodL_append, List.take_append_drop]
  have p1 : 1 ≤ prodL (xs.take k) := prodL_pos (fun m hm => h.pos m (List.mem_of_mem_take hm))
  have p2 : 1 ≤ prodL (xs.drop k) := prodL_pos (fun m hm => h.pos m (List.mem_of_mem_drop hm))
  have : prodL (xs.take k) * 1 ≤ prodL (xs.take k) * prodL (xs.drop k) := Int.mul_le_mul_of_nonneg_left p2 (by omega)
  have := h.p16
  exact ⟨p1, by omega⟩
theorem wrap_in {x : Int} (h : -9000000000000000000 ≤ x) (k : x ≤ 9000000000000000000) : IntKind.i64.wrap x = x := wr64 _ ⟨by omega, by omega⟩
theorem digit_facts {x m : Int} (hm : 1 ≤ m) (x0 : 0 ≤ x) (x1 : x ≤ 1000000) :
    x.tmod m = x % m ∧ x.tdiv m = x / m ∧ 0 ≤ x % m ∧ x % m < m ∧ 0 ≤ x / m ∧ x / m ≤ 1000000 ∧ IntKind.i64.wrap (x / m) = x / m := by
  have a := Int.ediv_nonneg x0 (show 0 ≤ m by omega)
  have b := Int.ediv_le_self m x0
  obtain ⟨c, d⟩ := em (x := x) hm
  exact ⟨Int.tmod_eq_emod_of_nonneg x0, Int.tdiv_eq_ediv_of_nonneg x0, c, d, a, by omega, wrap_in (by omega) (by omega)⟩

/-- The digits of an element, the last first; the element of digits; the digits of a negative. -/
def digR : List Int → Int → List Int
  | [], _ => []
  | m :: r, x => x % m :: digR r (x / m)
def Dg (os : List Int) (x : Int) : List Int := (digR os.reverse x).reverse
def elR : List Int → List Int → Int
  | m :: r, t :: s => t + m * elR r s
  | _, _ => 0
def negd (m t : Int) : Int := (m - t) % m
theorem digR_length (r : List Int) : ∀ x, (digR r x).length = r.length := by
  induction r with
  | nil => intro x; rfl
  | cons m r ih => intro x; simp [digR, ih]
theorem Dg_length (os : List Int) (x : Int) : (Dg os x).length = os.length := by simp [Dg, digR_length]
theorem negR_el (r : List Int) : ∀ x, elR r (List.zipWith negd r (digR r x)) = negR r x := by
  induction r with
  | nil => intro x; rfl
  | cons m r ih => intro x; simp only [digR, List.zipWith_cons_cons, elR, ih, negR]; rfl
theorem elR_digR {r : List Int} (h : Pos r) : ∀ x, 0 ≤ x → x < prodL r → elR r (digR r x) = x := by
  induction r with
  | nil => intro x h0 h1; simp [prodL] at h1; simp [elR]; omega
  | cons m r ih =>
    intro x h0 h1
    have hm := h.head
    have q0 : 0 ≤ x / m := Int.ediv_nonneg h0 (by omega)
    have q1 : x / m < prodL r := Int.ediv_lt_of_lt_mul (by omega) (by rw [Int.mul_comm]; exact h1)
    simp only [digR, elR]
    rw [ih h.tail _ q0 q1]
    exact Int.emod_add_mul_ediv x m
theorem digR_rng {r : List Int} (h : Pos r) : ∀ x, 0 ≤ x → ∀ k, k < r.length → 0 ≤ gi (digR r x) k ∧ gi (digR r x) k < gi r k := by
  induction r with
  | nil => intro x _ k hk; simp at hk
  | cons m r ih =>
    intro x hx k hk
    cases k with
    | zero => simpa [digR, gi] using em (x := x) h.head
    | succ k => simpa [digR, gi] using ih h.tail (x / m) (Int.ediv_nonneg hx (by have := h.head; omega)) k (by simpa using hk)
theorem gi_reverse {xs : List Int} {k : Nat} (hk : k < xs.length) : gi xs.reverse k = gi xs (xs.length - 1 - k) := by
  unfold gi
  rw [List.getD_eq_getElem?_getD, List.getD_eq_getElem?_getD, List.getElem?_reverse hk]
theorem Dg_rng {os : List Int} (h : OkG os) {x : Int} (hx : 0 ≤ x) {k : Nat} (hk : k < os.length) : 0 ≤ gi (Dg os x) k ∧ gi (Dg os x) k < gi os k := by
  have hl := digR_length os.reverse x
  have := digR_rng h.posR x hx (os.length - 1 - k) (by simp; omega)
  unfold Dg
  rw [gi_reverse (by rw [hl]; simpa using hk), hl, List.length_reverse]
  rw [gi_reverse (by omega)] at this
  rw [show os.length - 1 - (os.length - 1 - k) = k by omega] at this
  exact this

/-- A row of n cells, those from k on hold the elements of xs. -/
def FilledT (cs : Array Value) (n k : Nat) (xs : List Int) : Prop := cs.size = n ∧ ∀ j, k ≤ j → j < n → cs[j]? = some (.int .i64 (gi xs j))
theorem FilledT.set_ {cs : Array Value} {n k : Nat} {xs : List Int} {v : Int} (h : FilledT cs n (k + 1) xs) (hk : k < n) (hv : v = gi xs k) : FilledT (cs.setIfInBounds k (.int .i64 v)) n k xs := by
  subst hv
  refine ⟨by simp [h.1], fun j hj hjn => ?_⟩
  rw [Array.getElem?_setIfInBounds]
  have := h.1
  by_cases e : k = j
  · subst e; simp [show k < cs.size by omega]
  · rw [if_neg e]; exact h.2 j (by omega) hjn
theorem FilledT.all {cs : Array Value} {n : Nat} {xs : List Int} (h : FilledT cs n 0 xs) : Filled cs n n xs := ⟨h.1, fun j hj => h.2 j (Nat.zero_le _) hj⟩
theorem FilledT.some_ {cs : Array Value} {n k j : Nat} {xs : List Int} (h : FilledT cs n k xs) (hj : j < n) : ∃ u, cs[j]? = some u := ⟨cs[j]'(by rw [h.1]; exact hj), Array.getElem?_eq_getElem _⟩

theorem gi_take {xs : List Int} {k j : Nat} (h : j < k) : gi (xs.take k) j = gi xs j := by
  unfold gi; rw [List.getD_eq_getElem?_getD, List.getD_eq_getElem?_getD, List.getElem?_take_of_lt h]

theorem mix_set {zs ts : List Int} (hl : zs.length = ts.length) {k : Nat} (hk : k < ts.length) : (zs.take k ++ ts.drop k).set k (gi zs k) = zs.take (k + 1) ++ ts.drop (k + 1) := by
  rw [take_gi (show k < zs.length by omega), drop_gi hk, List.set_append_right _ _ (by simp; omega)]
  simp [show min k zs.length = k by omega]
theorem mix_gi {zs ts : List Int} (hl : zs.length = ts.length) {k : Nat} (hk : k < ts.length) : gi (zs.take k ++ ts.drop k) k = gi ts k := by
  rw [drop_gi hk]
  unfold gi
  rw [List.getD_eq_getElem?_getD, List.getElem?_append_right (by simp; omega)]
  simp [show min k zs.length = k by omega]
theorem mix_len {zs ts : List Int} (hl : zs.length = ts.length) {k : Nat} (hk : k ≤ ts.length) : (zs.take k ++ ts.drop k).length = ts.length := by simp; omega
theorem gi_zip {f : Int → Int → Int} {xs ys : List Int} (hl : xs.length = ys.length) {k : Nat} (hk : k < xs.length) : gi (List.zipWith f xs ys) k = f (gi xs k) (gi ys k) := by
  unfold gi
  simp only [List.getD_eq_getElem?_getD, List.getElem?_zipWith, List.getElem?_eq_getElem hk, List.getElem?_eq_getElem (show k < ys.length by omega)]
  rfl
def Zg (os : List Int) (x : Int) : List Int := List.zipWith negd os (Dg os x)
theorem Zg_len (os : List Int) (x : Int) : (Zg os x).length = (Dg os x).length := by simp [Zg, Dg_length]
theorem Zg_el (os : List Int) (x : Int) : elR os.reverse (Zg os x).reverse = Ng os x := by
  unfold Zg Ng
  rw [List.reverse_zipWith (by rw [Dg_length]), ← negR_el]
  unfold Dg
  rw [List.reverse_reverse]
theorem Zg_rng {os : List Int} (h : OkG os) (x : Int) {k : Nat} (hk : k < os.length) : 0 ≤ gi (Zg os x) k ∧ gi (Zg os x) k < gi os k := by
  unfold Zg
  rw [gi_zip (by rw [Dg_length]) hk]
  exact em (h.pos _ (gi_mem hk))

/-- Lists that make a metric up to its law: valid orders, a modulus, as many values as elements, each less than the modulus. -/
structure OkM (os : List Int) (D : Int) (vs : List Int) : Prop where
  g : OkG os
  d1 : 1 ≤ D
  d2 : D ≤ 55440
  len : (vs.length : Int) = prodL os
  rng : ∀ v ∈ vs, 0 ≤ v ∧ v < D
/-- A value, and the pairing of two elements. -/
def Vl (vs : List Int) (x : Int) : Int := gi vs x.toNat
def Pr (os : List Int) (D : Int) (vs : List Int) (x y : Int) : Int := (Vl vs (Ar os x y) - Vl vs x - Vl vs y) % D
theorem OkM.vl {os vs : List Int} {D : Int} (h : OkM os D vs) {k : Nat} (hk : (k : Int) < prodL os) : k < vs.length ∧ 0 ≤ gi vs k ∧ gi vs k < D := by
  have hl := h.len
  have : k < vs.length := by omega
  exact ⟨this, h.rng _ (gi_mem this)⟩
theorem OkM.lt {os vs : List Int} {D : Int} (h : OkM os D vs) : vs.length ≤ 16 := by have := h.len; have := h.g.p16; omega
theorem Pr_rng {os vs : List Int} {D : Int} (h : OkM os D vs) (x y : Int) : 0 ≤ Pr os D vs x y ∧ Pr os D vs x y < D := em h.d1

end Go.Proofs.Ytnhgflmmfppmnaa
