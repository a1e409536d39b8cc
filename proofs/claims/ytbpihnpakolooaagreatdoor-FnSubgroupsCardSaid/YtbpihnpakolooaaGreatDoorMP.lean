
/- Masks of elements, told plainly: the lowest bit of a mask, a mask grown by an element. No program is walked here. -/
import Derived.Test.YtbpihnpakolooaaGreatDoorMK
import Derived.Laws.BitsLemmas
import Derived.Lib.TrailingZeros
namespace Go.Proofs.YtbpihnpakolooaaGreatDoor
open Go Go.RowKit Grp
set_option linter.unusedSimpArgs false
set_option linter.unusedVariables false
theorem wraps_i64 (n : Int) (h₀ : 0 ≤ n) (h₁ : n < 2 ^ 62) : IntKind.i64.wrap n = n := wr64 n ⟨by omega, by omega⟩
theorem or64 {a b : Nat} (ha : a < 2 ^ 62) (hb : b < 2 ^ 62) : bits .or .i64 (a : Int) (b : Int) = ((a ||| b : Nat) : Int) := (bits_nat .i64 62 (by decide) wraps_i64 a b ha hb).2
theorem and64 {a b : Nat} (ha : a < 2 ^ 62) (hb : b < 2 ^ 62) : bits .and .i64 (a : Int) (b : Int) = ((a &&& b : Nat) : Int) := (bits_nat .i64 62 (by decide) wraps_i64 a b ha hb).1
theorem msk_snoc {xs : List Int} {k : Nat} (hk : k < xs.length) : msk (xs.take (k + 1)) = msk (xs.take k) ||| 2 ^ (gi xs k).toNat := by
  rw [take_gi hk]; unfold msk; rw [List.foldl_append]; rfl
theorem pow16k {x : Nat} (h : x < 16) : 2 ^ x < 65536 := Nat.lt_of_lt_of_le (Nat.pow_lt_pow_right (by omega) h) (by decide)
/-- A number is a power of two times an odd number: its bits. -/
theorem low_bits (k m j : Nat) : (2 ^ k * (2 * m + 1)).testBit j = (decide (k ≤ j) && (2 * m + 1).testBit (j - k)) := by
  rw [Nat.mul_comm, Nat.testBit_mul_two_pow]
theorem pred_bits (k m j : Nat) : (2 ^ k * (2 * m + 1) - 1).testBit j = if j < k then true else (2 * m).testBit (j - k) := by
  have hp : 0 < 2 ^ k := Nat.two_pow_pos k
  have e : 2 ^ k * (2 * m + 1) - 1 = 2 ^ k * (2 * m) + (2 ^ k - 1) := by rw [Nat.mul_add]; omega
  rw [e, Nat.testBit_two_pow_mul_add _ (by omega), Nat.testBit_two_pow_sub_one]
  split <;> simp_all
/-- The lowest bit taken off. -/
theorem clear_bits (k m j : Nat) : (2 ^ k * (2 * m + 1) &&& (2 ^ k * (2 * m + 1) - 1)).testBit j = ((2 ^ k * (2 * m + 1)).testBit j && decide (j ≠ k)) := by
  rw [Nat.testBit_and, low_bits, pred_bits]
  by_cases h : j < k
  · simp [show ¬ k ≤ j by omega]
  · by_cases e : j = k
    · subst e; simp
    · obtain ⟨d, rfl⟩ : ∃ d, j = k + (d + 1) := ⟨j - k - 1, by omega⟩
      have e3 : k + (d + 1) - k = d + 1 := by omega
      have d1 : (2 * m + 1) / 2 = m := by omega
      have d2 : (2 * m) / 2 = m := by omega
      simp only [h, if_false, e3, Nat.testBit_succ, d1, d2]
      simp
/-- The elements of a mask: the lowest one, then those of the mask without it. -/
theorem mems_low {N r : Nat} (h0 : r ≠ 0) (hr : r < 2 ^ N) (hN : N ≤ 64) :
    Lib.ctz 64 r < N ∧ (r &&& (r - 1)) < 2 ^ N ∧ mems N r = ((Lib.ctz 64 r : Nat) : Int) :: mems N (r &&& (r - 1)) := by
  have hr64 : r < 2 ^ 64 := Nat.lt_of_lt_of_le hr (Nat.pow_le_pow_right (by omega) hN)
  obtain ⟨m, hm, hk⟩ := Lib.ctzFrom_spec 64 r (by omega) hr64
  have e : Lib.ctz 64 r = Lib.ctzFrom 64 r := by unfold Lib.ctz; rw [if_neg h0]
  rw [e]
  generalize Lib.ctzFrom 64 r = k at hm hk
  have hkN : k < N := by
    refine (Nat.pow_lt_pow_iff_right (show 1 < 2 by omega)).1 (Nat.lt_of_le_of_lt ?_ hr)
    rw [hm]; exact Nat.le_mul_of_pos_right _ (by omega)
  refine ⟨hkN, Nat.lt_of_le_of_lt Nat.and_le_left hr, ?_⟩
  have hc := fun j => clear_bits k m j
  rw [← hm] at hc
  refine lt_ext (mems_lt _ _) (List.pairwise_cons.2 ⟨fun v hv => ?_, mems_lt _ _⟩) fun v => ?_
  · have h1 := mem_mems.1 hv
    rw [hc, Bool.and_eq_true, hm, low_bits, Bool.and_eq_true, decide_eq_true_eq, decide_eq_true_eq] at h1
    omega
  · rw [List.mem_cons, mem_mems, mem_mems, hc, Bool.and_eq_true, decide_eq_true_eq]
    constructor
    · rintro ⟨a, b, d⟩
      by_cases hv : v.toNat = k
      · left; omega
      · exact .inr ⟨a, b, d, hv⟩
    · rintro (rfl | ⟨a, b, d, _⟩)
      · refine ⟨by omega, by omega, ?_⟩
        rw [hm, Int.toNat_natCast, low_bits]
        simp
      · exact ⟨a, b, d⟩
theorem mems_zero (N : Nat) : mems N 0 = [] := by
  unfold mems
  simp
theorem shr_bit (m x : Nat) : (m / 2 ^ x) &&& 1 = if m.testBit x then 1 else 0 := by
  rw [Nat.and_one_is_mod, Nat.testBit_eq_decide_div_mod_eq]
  by_cases h : m / 2 ^ x % 2 = 1
  · simp [h]
  · simp [h]; omega
theorem mems_snoc (x m : Nat) : mems (x + 1) m = mems x m ++ (if m.testBit x then [(x : Int)] else []) := by
  unfold mems
  rw [List.range_succ, List.filter_append, List.map_append]
  congr 1
  cases h : m.testBit x <;> simp [h]
end Go.Proofs.YtbpihnpakolooaaGreatDoor
