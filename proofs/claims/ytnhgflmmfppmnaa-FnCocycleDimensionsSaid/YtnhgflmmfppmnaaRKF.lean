
/- The dimension of the cocycles less that of the coboundaries, for all orders (printed by rkf.py). -/
import Derived.Test.YtnhgflmmfppmnaaRKC
import Derived.Test.YtnhgflmmfppmnaaIX
import Derived.Test.YtnhgflmmfppmnaaBD
import Derived.Test.YtnhgflmmfppmnaaRKD
namespace Go.Proofs.Ytnhgflmmfppmnaa
open Go Go.RowKit Grp Rk
namespace Pk
def dr1 (os : List Int) : List Int := os.filter fun m => m != 1
theorem dr1_cons {m : Int} {r : List Int} (h : m ≠ 1) : dr1 (m :: r) = m :: dr1 r := by
  unfold dr1
  rw [List.filter_cons, if_pos (by simpa using h)]
theorem dr1_one {r : List Int} : dr1 (1 :: r) = dr1 r := by
  unfold dr1
  rw [List.filter_cons, if_neg (by simp)]
theorem addR_dr1 : ∀ (r : List Int) (x y : Int), addR (dr1 r) x y = addR r x y := by
  intro r
  induction r with
  | nil => intro x y; rfl
  | cons m r ih =>
    intro x y
    by_cases h : m = 1
    · subst h
      rw [dr1_one, ih]
      simp only [addR]
      simp only [Int.emod_one, Int.ediv_one, Int.add_zero, Int.zero_add, Int.one_mul]
    · rw [dr1_cons h]
      simp only [addR]
      rw [ih]
theorem prodL_dr1 : ∀ (r : List Int), prodL (dr1 r) = prodL r := by
  intro r
  induction r with
  | nil => rfl
  | cons m r ih =>
    by_cases h : m = 1
    · subst h
      rw [dr1_one, ih]
      simp only [prodL]
      omega
    · rw [dr1_cons h]
      simp only [prodL]
      rw [ih]
theorem An_dr1 (os : List Int) (x y : Nat) : An (dr1 os) x y = An os x y := by
  unfold An Ar
  have e : (dr1 os).reverse = dr1 os.reverse := by unfold dr1; rw [List.filter_reverse]
  rw [e, addR_dr1]
theorem eqG_dr1 (os : List Int) (p : Int) (n : Nat) : EqG (dr1 os) p n = EqG os p n := by
  unfold EqG eqRow
  simp only [An_dr1]
theorem blL_dr1 (os : List Int) (p : Int) (n x y : Nat) : blL (dr1 os) p n x y = blL os p n x y := by
  have e : ∀ M f, cobF (dr1 os) M f = cobF os M f := fun M f => by
    funext a b c
    unfold cobF cob2
    simp only [An_dr1]
  unfold blL bndR
  simp only [e]
/-- How many orders p divides. -/
def rkC (os : List Int) (p : Int) : Nat := (os.filter fun m => m % p == 0).length
theorem rkC_dr1 {p : Int} (hp : 2 ≤ p) : ∀ (os : List Int), rkC (dr1 os) p = rkC os p := by
  intro os
  induction os with
  | nil => rfl
  | cons m r ih =>
    by_cases h : m = 1
    · subst h
      rw [dr1_one, ih]
      unfold rkC
      rw [List.filter_cons, if_neg (by rw [Int.emod_eq_of_lt (by omega) (by omega)]; decide)]
    · rw [dr1_cons h]
      unfold rkC at ih ⊢
      rw [List.filter_cons, List.filter_cons]
      split
      · simp only [List.length_cons, ih]
      · exact ih
theorem few {l : List Int} (h : ∀ m ∈ l, 2 ≤ m) (h6 : prodL l ≤ 6) : l = [] ∨ l = [2] ∨ l = [3] ∨ l = [4] ∨ l = [5] ∨ l = [6] ∨ l = [2, 2] ∨ l = [2, 3] ∨ l = [3, 2] := by
  match l, h, h6 with
  | [], _, _ => exact .inl rfl
  | [a], h, h6 =>
    have ha := h a (by simp)
    simp only [prodL] at h6
    obtain rfl | rfl | rfl | rfl | rfl : a = 2 ∨ a = 3 ∨ a = 4 ∨ a = 5 ∨ a = 6 := by omega
    all_goals simp
  | [a, b], h, h6 =>
    have ha := h a (by simp)
    have hb := h b (by simp)
    simp only [prodL, Int.mul_one] at h6
    have h1 : a * 2 ≤ a * b := Int.mul_le_mul_of_nonneg_left hb (by omega)
    obtain rfl | rfl : a = 2 ∨ a = 3 := by omega
    · obtain rfl | rfl : b = 2 ∨ b = 3 := by omega
      all_goals simp
    · obtain rfl : b = 2 := by omega
      simp
  | a :: b :: c :: r, h, h6 =>
    exfalso
    have ha := h a (by simp)
    have hb := h b (by simp)
    have hc := h c (by simp)
    have hr : 1 ≤ prodL r := prodL_pos fun m hm => by have := h m (by simp [hm]); omega
    simp only [prodL] at h6
    have h1 : 2 * 1 ≤ c * prodL r := Int.mul_le_mul hc hr (by omega) (by omega)
    have h2 : 2 * 2 ≤ b * (c * prodL r) := Int.mul_le_mul hb (by omega) (by omega) (by omega)
    have h3 : 2 * 4 ≤ a * (b * (c * prodL r)) := Int.mul_le_mul ha (by omega) (by omega) (by omega)
    omega
theorem dr1_ge {os : List Int} (h : Pos os) : ∀ m ∈ dr1 os, 2 ≤ m := fun m hm => by
  unfold dr1 at hm
  obtain ⟨a, b⟩ := List.mem_filter.1 hm
  have h1 := h m a
  have h2 : m ≠ 1 := by simpa using b
  omega
/-- The difference of the dimensions out of the two ranks of the orders without 1s. -/
theorem dims_of {os l : List Int} {p n k1 k2 : Nat} (hK : spK os p = 0) (hl : dr1 os = l) (hl0 : l ≠ []) (hn : (n : Int) = prodL l) (h1 : rankE p ((n - 1) * (n - 1) * (n - 1)) (eqNs l p n) = some k1) (h2 : rankE p (n * (n * n)) ((blL l p n n 1).map natL) = some k2) :
    cdR os p - bdR os p = (((n - 1) * (n - 1) * (n - 1) : Nat) : Int) - k1 - k2 := by
  obtain ⟨hO, h6, hP⟩ := spK_0 hK
  have hpl : prodL l = prodL os := by rw [← hl, prodL_dr1]
  have hok : OkH l := by
    have hpos : Pos l := fun m hm => by rw [← hl] at hm; have := dr1_ge hO.2 m hm; omega
    have hlen : l.length ≤ 3 := by
      have := few (l := l) (fun m hm => by rw [← hl] at hm; exact dr1_ge hO.2 m hm) (by omega)
      rcases this with rfl | rfl | rfl | rfl | rfl | rfl | rfl | rfl | rfl <;> simp
    refine okH_of ⟨?_, hpos⟩ (by omega) (by omega)
    cases l with
    | nil => exact absurd rfl hl0
    | cons a r => simp
  have e : (prodL os).toNat = n := by omega
  have E1 := eq_rank hok hP hn (by omega) h1
  have E2 := bd_rank hP h2
  rw [← hl, eqG_dr1] at E1
  rw [← hl, blL_dr1] at E2
  unfold cdR bdR
  rw [if_pos hK, if_pos hK, e, E1, E2]
/-- The group of one element. -/
theorem dims_one {os : List Int} {p : Nat} (hK : spK os p = 0) (hl : dr1 os = []) (h2 : rankE p 1 ((blL [] p 1 1 1).map natL) = some 0) : cdR os p - bdR os p = 0 := by
  obtain ⟨hO, h6, hP⟩ := spK_0 hK
  have hpl : prodL os = 1 := by rw [← prodL_dr1, hl]; rfl
  have e : (prodL os).toNat = 1 := by omega
  have E2 := bd_rank (os := []) (n := 1) hP h2
  rw [← hl, blL_dr1] at E2
  have E1 : rkN p 0 (EqG os p 1) = 0 := by
    unfold rkN
    split
    · rename_i h; have := hasRk_le (Classical.choose_spec h); omega
    · rfl
  unfold cdR bdR
  rw [if_pos hK, if_pos hK, e]
  simp only [Nat.sub_self, Nat.mul_zero]
  have E3 : rkN p (1 * (1 * 1)) (GenL (blL os p 1 1 1) (blL os p 1 1 1).length) = 0 := E2
  simp only [Nat.mul_one] at E3
  simp only [E1, E3, Nat.mul_one]
  rfl
end Pk
end Go.Proofs.Ytnhgflmmfppmnaa
namespace Go.Proofs.Ytnhgflmmfppmnaa
open Go Go.RowKit Grp Rk
namespace Pk
set_option maxRecDepth 100000
theorem rk_fin {os l : List Int} {p : Nat} (hl : dr1 os = l) (hp : 2 ≤ p) {d : Int} {r : Nat} (hr : rkC l p = r) (hd : d = ((r : Int) + 2) * (r + 1) * r / 6) : d = ((rkC os p : Int) + 2) * (rkC os p + 1) * rkC os p / 6 := by
  rw [← rkC_dr1 (by omega), hl, hr]
  exact hd
theorem dims_all {os : List Int} {p : Int} (hK : spK os p = 0) : cdR os p - bdR os p = ((rkC os p : Int) + 2) * (rkC os p + 1) * rkC os p / 6 := by
  obtain ⟨hO, h6, hP⟩ := spK_0 hK
  have hf := few (l := dr1 os) (dr1_ge hO.2) (by rw [prodL_dr1]; exact h6)
  rcases hP with rfl | rfl | rfl | rfl
  · rcases hf with hl | hl | hl | hl | hl | hl | hl | hl | hl
    · have h9 := dims_one (os := os) (p := 2) hK hl (by decide +kernel)
      exact rk_fin (p := 2) hl (by omega) (r := 0) (by decide) (by exact h9)
    · have h9 := dims_of (os := os) (p := 2) (n := 2) hK hl (by simp) (by decide) eq_2_2 bd_2_2
      exact rk_fin (p := 2) hl (by omega) (r := 1) (by decide) (by refine Eq.trans h9 ?_; decide)
    · have h9 := dims_of (os := os) (p := 2) (n := 3) hK hl (by simp) (by decide) eq_3_2 bd_3_2
      exact rk_fin (p := 2) hl (by omega) (r := 0) (by decide) (by refine Eq.trans h9 ?_; decide)
    · have h9 := dims_of (os := os) (p := 2) (n := 4) hK hl (by simp) (by decide) eq_4_2 bd_4_2
      exact rk_fin (p := 2) hl (by omega) (r := 1) (by decide) (by refine Eq.trans h9 ?_; decide)
    · have h9 := dims_of (os := os) (p := 2) (n := 5) hK hl (by simp) (by decide) eq_5_2 bd_5_2
      exact rk_fin (p := 2) hl (by omega) (r := 0) (by decide) (by refine Eq.trans h9 ?_; decide)
    · have h9 := dims_of (os := os) (p := 2) (n := 6) hK hl (by simp) (by decide) eq_6_2 bd_6_2
      exact rk_fin (p := 2) hl (by omega) (r := 1) (by decide) (by refine Eq.trans h9 ?_; decide)
    · have h9 := dims_of (os := os) (p := 2) (n := 4) hK hl (by simp) (by decide) eq_2_2_2 bd_2_2_2
      exact rk_fin (p := 2) hl (by omega) (r := 2) (by decide) (by refine Eq.trans h9 ?_; decide)
    · have h9 := dims_of (os := os) (p := 2) (n := 6) hK hl (by simp) (by decide) eq_2_3_2 bd_2_3_2
      exact rk_fin (p := 2) hl (by omega) (r := 1) (by decide) (by refine Eq.trans h9 ?_; decide)
    · have h9 := dims_of (os := os) (p := 2) (n := 6) hK hl (by simp) (by decide) eq_3_2_2 bd_3_2_2
      exact rk_fin (p := 2) hl (by omega) (r := 1) (by decide) (by refine Eq.trans h9 ?_; decide)
  · rcases hf with hl | hl | hl | hl | hl | hl | hl | hl | hl
    · have h9 := dims_one (os := os) (p := 3) hK hl (by decide +kernel)
      exact rk_fin (p := 3) hl (by omega) (r := 0) (by decide) (by exact h9)
    · have h9 := dims_of (os := os) (p := 3) (n := 2) hK hl (by simp) (by decide) eq_2_3 bd_2_3
      exact rk_fin (p := 3) hl (by omega) (r := 0) (by decide) (by refine Eq.trans h9 ?_; decide)
    · have h9 := dims_of (os := os) (p := 3) (n := 3) hK hl (by simp) (by decide) eq_3_3 bd_3_3
      exact rk_fin (p := 3) hl (by omega) (r := 1) (by decide) (by refine Eq.trans h9 ?_; decide)
    · have h9 := dims_of (os := os) (p := 3) (n := 4) hK hl (by simp) (by decide) eq_4_3 bd_4_3
      exact rk_fin (p := 3) hl (by omega) (r := 0) (by decide) (by refine Eq.trans h9 ?_; decide)
    · have h9 := dims_of (os := os) (p := 3) (n := 5) hK hl (by simp) (by decide) eq_5_3 bd_5_3
      exact rk_fin (p := 3) hl (by omega) (r := 0) (by decide) (by refine Eq.trans h9 ?_; decide)
    · have h9 := dims_of (os := os) (p := 3) (n := 6) hK hl (by simp) (by decide) eq_6_3 bd_6_3
      exact rk_fin (p := 3) hl (by omega) (r := 1) (by decide) (by refine Eq.trans h9 ?_; decide)
    · have h9 := dims_of (os := os) (p := 3) (n := 4) hK hl (by simp) (by decide) eq_2_2_3 bd_2_2_3
      exact rk_fin (p := 3) hl (by omega) (r := 0) (by decide) (by refine Eq.trans h9 ?_; decide)
    · have h9 := dims_of (os := os) (p := 3) (n := 6) hK hl (by simp) (by decide) eq_2_3_3 bd_2_3_3
      exact rk_fin (p := 3) hl (by omega) (r := 1) (by decide) (by refine Eq.trans h9 ?_; decide)
    · have h9 := dims_of (os := os) (p := 3) (n := 6) hK hl (by simp) (by decide) eq_3_2_3 bd_3_2_3
      exact rk_fin (p := 3) hl (by omega) (r := 1) (by decide) (by refine Eq.trans h9 ?_; decide)
  · rcases hf with hl | hl | hl | hl | hl | hl | hl | hl | hl
    · have h9 := dims_one (os := os) (p := 5) hK hl (by decide +kernel)
      exact rk_fin (p := 5) hl (by omega) (r := 0) (by decide) (by exact h9)
    · have h9 := dims_of (os := os) (p := 5) (n := 2) hK hl (by simp) (by decide) eq_2_5 bd_2_5
      exact rk_fin (p := 5) hl (by omega) (r := 0) (by decide) (by refine Eq.trans h9 ?_; decide)
    · have h9 := dims_of (os := os) (p := 5) (n := 3) hK hl (by simp) (by decide) eq_3_5 bd_3_5
      exact rk_fin (p := 5) hl (by omega) (r := 0) (by decide) (by refine Eq.trans h9 ?_; decide)
    · have h9 := dims_of (os := os) (p := 5) (n := 4) hK hl (by simp) (by decide) eq_4_5 bd_4_5
      exact rk_fin (p := 5) hl (by omega) (r := 0) (by decide) (by refine Eq.trans h9 ?_; decide)
    · have h9 := dims_of (os := os) (p := 5) (n := 5) hK hl (by simp) (by decide) eq_5_5 bd_5_5
      exact rk_fin (p := 5) hl (by omega) (r := 1) (by decide) (by refine Eq.trans h9 ?_; decide)
    · have h9 := dims_of (os := os) (p := 5) (n := 6) hK hl (by simp) (by decide) eq_6_5 bd_6_5
      exact rk_fin (p := 5) hl (by omega) (r := 0) (by decide) (by refine Eq.trans h9 ?_; decide)
    · have h9 := dims_of (os := os) (p := 5) (n := 4) hK hl (by simp) (by decide) eq_2_2_5 bd_2_2_5
      exact rk_fin (p := 5) hl (by omega) (r := 0) (by decide) (by refine Eq.trans h9 ?_; decide)
    · have h9 := dims_of (os := os) (p := 5) (n := 6) hK hl (by simp) (by decide) eq_2_3_5 bd_2_3_5
      exact rk_fin (p := 5) hl (by omega) (r := 0) (by decide) (by refine Eq.trans h9 ?_; decide)
    · have h9 := dims_of (os := os) (p := 5) (n := 6) hK hl (by simp) (by decide) eq_3_2_5 bd_3_2_5
      exact rk_fin (p := 5) hl (by omega) (r := 0) (by decide) (by refine Eq.trans h9 ?_; decide)
  · rcases hf with hl | hl | hl | hl | hl | hl | hl | hl | hl
    · have h9 := dims_one (os := os) (p := 7) hK hl (by decide +kernel)
      exact rk_fin (p := 7) hl (by omega) (r := 0) (by decide) (by exact h9)
    · have h9 := dims_of (os := os) (p := 7) (n := 2) hK hl (by simp) (by decide) eq_2_7 bd_2_7
      exact rk_fin (p := 7) hl (by omega) (r := 0) (by decide) (by refine Eq.trans h9 ?_; decide)
    · have h9 := dims_of (os := os) (p := 7) (n := 3) hK hl (by simp) (by decide) eq_3_7 bd_3_7
      exact rk_fin (p := 7) hl (by omega) (r := 0) (by decide) (by refine Eq.trans h9 ?_; decide)
    · have h9 := dims_of (os := os) (p := 7) (n := 4) hK hl (by simp) (by decide) eq_4_7 bd_4_7
      exact rk_fin (p := 7) hl (by omega) (r := 0) (by decide) (by refine Eq.trans h9 ?_; decide)
    · have h9 := dims_of (os := os) (p := 7) (n := 5) hK hl (by simp) (by decide) eq_5_7 bd_5_7
      exact rk_fin (p := 7) hl (by omega) (r := 0) (by decide) (by refine Eq.trans h9 ?_; decide)
    · have h9 := dims_of (os := os) (p := 7) (n := 6) hK hl (by simp) (by decide) eq_6_7 bd_6_7
      exact rk_fin (p := 7) hl (by omega) (r := 0) (by decide) (by refine Eq.trans h9 ?_; decide)
    · have h9 := dims_of (os := os) (p := 7) (n := 4) hK hl (by simp) (by decide) eq_2_2_7 bd_2_2_7
      exact rk_fin (p := 7) hl (by omega) (r := 0) (by decide) (by refine Eq.trans h9 ?_; decide)
    · have h9 := dims_of (os := os) (p := 7) (n := 6) hK hl (by simp) (by decide) eq_2_3_7 bd_2_3_7
      exact rk_fin (p := 7) hl (by omega) (r := 0) (by decide) (by refine Eq.trans h9 ?_; decide)
    · have h9 := dims_of (os := os) (p := 7) (n := 6) hK hl (by simp) (by decide) eq_3_2_7 bd_3_2_7
      exact rk_fin (p := 7) hl (by omega) (r := 0) (by decide) (by refine Eq.trans h9 ?_; decide)
end Pk
end Go.Proofs.Ytnhgflmmfppmnaa
