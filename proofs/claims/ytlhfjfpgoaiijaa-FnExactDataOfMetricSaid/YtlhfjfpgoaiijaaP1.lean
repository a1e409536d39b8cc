
/- The walks of power, l01Pow, root, l01Order, l01Primitive, l01Unity: powers modulo the prime. -/
import Derived.Test.YtlhfjfpgoaiijaaSa
import Derived.Test.YtlhfjfpgoaiijaaBa
import Derived.WalkLawsBesides
namespace Go.Proofs.Ytlhfjfpgoaiijaa
open Go Go.RowKit
set_option linter.unusedSimpArgs false
set_option linter.unusedVariables false

/-- A power modulo the prime. -/
def pwr (a k : Nat) : Nat := a ^ k % 55441
theorem pwr_lt (a k : Nat) : pwr a k < 55441 := Nat.mod_lt _ (by decide)
theorem pow_split (a k : Nat) : a ^ k = a ^ (k % 2) * (a * a) ^ (k / 2) := by
  have h : a ^ k = a ^ (k % 2 + 2 * (k / 2)) := by congr 1; omega
  rw [h, Nat.pow_add, Nat.pow_mul, Nat.pow_two]
theorem pwr_step0 {p a k : Nat} (h : k % 2 ≠ 1) : (p * (a * a % 55441) ^ (k / 2)) % 55441 = (p * a ^ k) % 55441 := by
  rw [pow_split a k, show k % 2 = 0 by omega, Nat.pow_zero, Nat.one_mul, Nat.mul_mod, ← Nat.pow_mod, ← Nat.mul_mod]
theorem pwr_step1 {p a k : Nat} (h : k % 2 = 1) : (p * a % 55441 * (a * a % 55441) ^ (k / 2)) % 55441 = (p * a ^ k) % 55441 := by
  rw [pow_split a k, h, Nat.pow_one, ← Nat.mul_assoc, Nat.mul_mod, ← Nat.pow_mod, Nat.mod_mod, ← Nat.mul_mod]

set_option maxHeartbeats 1000000 in
theorem power_any (w : World) (a k : Nat) (ha : a < 55441) (hk : k ≤ 1000000000) : Calls Try.prog 66 #[.int .i64 a, .int .i64 k] w (Qt w (.int .i64 (pwr a k))) := by
  go_enter Try.func66, Try.ntmps66
  go_wp2_with fail
  go_loop [0, 1, 5] (fun b j p => ∃ (b' j' p' : Nat), b = .int .i64 b' ∧ j = .int .i64 j' ∧ p = .int .i64 p' ∧ b' < 55441 ∧ p' < 55441 ∧ j' ≤ 1000000000 ∧ (p' * b' ^ j') % 55441 = pwr a k) (fun _ j _ => (intOf j).toNat)
  case atStart => exact ⟨a, k, 1, rfl, rfl, rfl, ha, by omega, hk, by rw [Nat.one_mul]; rfl⟩
  case round =>
    obtain ⟨b, j, p, rfl, rfl, rfl, hb, hp, hj, hpre⟩ := hrel
    have hP := hide hpre
    clear hpre
    by_cases hlt : 0 < j
    · have e1 : b * b ≤ 55440 * 55440 := Nat.mul_le_mul (by omega) (by omega)
      have e2 : p * b ≤ 55440 * 55440 := Nat.mul_le_mul (by omega) (by omega)
      have t1 : IntKind.i64.wrap ((b : Int) * b) = ((b * b : Nat) : Int) := by rw [← Int.natCast_mul]; exact wrap_in (by omega) (by omega)
      have t2 : IntKind.i64.wrap ((p : Int) * b) = ((p * b : Nat) : Int) := by rw [← Int.natCast_mul]; exact wrap_in (by omega) (by omega)
      obtain ⟨bb, hbb⟩ : ∃ x, b * b = x := ⟨_, rfl⟩
      obtain ⟨pb, hpb⟩ : ∃ x, p * b = x := ⟨_, rfl⟩
      rw [hbb] at t1 e1
      rw [hpb] at t2 e2
      have hBB := hide hbb
      have hPB := hide hpb
      clear hbb hpb
      have t3 : IntKind.i64.wrap ((j : Int) / 2) = (j : Int) / 2 := wrap_in (by omega) (by omega)
      by_cases h2 : j % 2 = 1
      · have h2b : ((j : Int) % 2 == 1) = true := by rw [beq_iff_eq]; omega
        have hS := hide (pwr_step1 (p := p) (a := b) h2)
        clear h2
        go_wp2_with fail
        go_round
        case rel => exact ⟨bb % 55441, j / 2, pb % 55441, int_eq (by omega), int_eq (by omega), int_eq (by omega), by omega, by omega, by omega, by rw [← hBB.out, ← hPB.out, hS.out, hP.out]⟩
        case measure => simp [intOf] <;> omega
      · have h2b : ((j : Int) % 2 == 1) = false := by rw [beq_eq_false_iff_ne]; omega
        have hS := hide (pwr_step0 (p := p) (a := b) h2)
        clear h2
        go_wp2_with fail
        go_round
        case rel => exact ⟨bb % 55441, j / 2, p, int_eq (by omega), int_eq (by omega), rfl, by omega, by omega, by omega, by rw [← hBB.out, hS.out, hP.out]⟩
        case measure => simp [intOf] <;> omega
    · obtain rfl : j = 0 := by omega
      go_wp2_with fail
      go_ret
      exact Qt.mk' 0 rfl (int_eq (by have := hP.out; rw [Nat.pow_zero, Nat.mul_one, Nat.mod_eq_of_lt hp] at this; rw [this]))
set_option maxHeartbeats 1000000 in
theorem l01Pow_any (w : World) (a k : Nat) (ha : a < 55441) (hk : k ≤ 1000000000) : Calls Try.prog 17 #[.int .i64 a, .int .i64 k] w (Qt w (.int .i64 (pwr a k))) := by
  go_enter Try.func17, Try.ntmps17
  go_wp2_with fail
  go_loop [0, 1, 5] (fun b j p => ∃ (b' j' p' : Nat), b = .int .i64 b' ∧ j = .int .i64 j' ∧ p = .int .i64 p' ∧ b' < 55441 ∧ p' < 55441 ∧ j' ≤ 1000000000 ∧ (p' * b' ^ j') % 55441 = pwr a k) (fun _ j _ => (intOf j).toNat)
  case atStart => exact ⟨a, k, 1, rfl, rfl, rfl, ha, by omega, hk, by rw [Nat.one_mul]; rfl⟩
  case round =>
    obtain ⟨b, j, p, rfl, rfl, rfl, hb, hp, hj, hpre⟩ := hrel
    have hP := hide hpre
    clear hpre
    by_cases hlt : 0 < j
    · have e1 : b * b ≤ 55440 * 55440 := Nat.mul_le_mul (by omega) (by omega)
      have e2 : p * b ≤ 55440 * 55440 := Nat.mul_le_mul (by omega) (by omega)
      have t1 : IntKind.i64.wrap ((b : Int) * b) = ((b * b : Nat) : Int) := by rw [← Int.natCast_mul]; exact wrap_in (by omega) (by omega)
      have t2 : IntKind.i64.wrap ((p : Int) * b) = ((p * b : Nat) : Int) := by rw [← Int.natCast_mul]; exact wrap_in (by omega) (by omega)
      obtain ⟨bb, hbb⟩ : ∃ x, b * b = x := ⟨_, rfl⟩
      obtain ⟨pb, hpb⟩ : ∃ x, p * b = x := ⟨_, rfl⟩
      rw [hbb] at t1 e1
      rw [hpb] at t2 e2
      have hBB := hide hbb
      have hPB := hide hpb
      clear hbb hpb
      have t3 : IntKind.i64.wrap ((j : Int) / 2) = (j : Int) / 2 := wrap_in (by omega) (by omega)
      by_cases h2 : j % 2 = 1
      · have h2b : ((j : Int) % 2 == 1) = true := by rw [beq_iff_eq]; omega
        have hS := hide (pwr_step1 (p := p) (a := b) h2)
        clear h2
        go_wp2_with fail
        go_round
        case rel => exact ⟨bb % 55441, j / 2, pb % 55441, int_eq (by omega), int_eq (by omega), int_eq (by omega), by omega, by omega, by omega, by rw [← hBB.out, ← hPB.out, hS.out, hP.out]⟩
        case measure => simp [intOf] <;> omega
      · have h2b : ((j : Int) % 2 == 1) = false := by rw [beq_eq_false_iff_ne]; omega
        have hS := hide (pwr_step0 (p := p) (a := b) h2)
        clear h2
        go_wp2_with fail
        go_round
        case rel => exact ⟨bb % 55441, j / 2, p, int_eq (by omega), int_eq (by omega), rfl, by omega, by omega, by omega, by rw [← hBB.out, hS.out, hP.out]⟩
        case measure => simp [intOf] <;> omega
    · obtain rfl : j = 0 := by omega
      go_wp2_with fail
      go_ret
      exact Qt.mk' 0 rfl (int_eq (by have := hP.out; rw [Nat.pow_zero, Nat.mul_one, Nat.mod_eq_of_lt hp] at this; rw [this]))

/-- The root of unity of an order n. -/
def rtu (n : Nat) : Nat := pwr 38 (55440 / n)
theorem root_any (w : World) (n : Nat) (h1 : 1 ≤ n) (h2 : n ≤ 55440) : Calls Try.prog 67 #[.int .i64 n] w (Qt w (.int .i64 (rtu n))) := by
  have hd : 55440 / n ≤ 55440 := Nat.div_le_self _ _
  have t0 : ¬ (n : Int) = 0 := by omega
  obtain ⟨q, hq⟩ : ∃ q, 55440 / n = q := ⟨_, rfl⟩
  have t1 : (55440 : Int).tdiv n = q := by rw [Int.tdiv_eq_ediv_of_nonneg (by omega), ← hq]; rfl
  have t1' : (55440 : Int) / n = q := by rw [← hq]; rfl
  rw [hq] at hd
  have t2 : IntKind.i64.wrap (q : Int) = q := wrap_in (by omega) (by omega)
  have hQ := hide (show rtu n = pwr 38 q by unfold rtu; rw [hq])
  clear hq
  go_enter Try.func67, Try.ntmps67
  go_wp2_with fail
  refine (power_any _ 38 q (by omega) (by omega)).mono ?_
  rintro e w' ⟨rfl, m, rfl⟩
  go_wp2_with fail
  go_ret
  exact Qt.mk' _ rfl (int_eq (by rw [hQ.out]))

/-- The five primes. -/
def pr5 : List Nat := [2, 3, 5, 7, 11]
/-- Is a number no primitive one? -/
def noPrim (a : Nat) : Bool := pr5.any fun p => pwr a (55440 / p) == 1
theorem prim38 : noPrim 38 = false := by decide +kernel
theorem prim_lt : ∀ r, r < 38 → 1 ≤ r → noPrim r = true := by decide +kernel
end Go.Proofs.Ytlhfjfpgoaiijaa
