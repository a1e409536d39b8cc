
/- The walk of l10Sum. -/
import Derived.Test.YtonehmjoolflfaaGreatDoorSa
import Derived.Test.YtonehmjoolflfaaGreatDoorX1
import Derived.Test.YtonehmjoolflfaaGreatDoorLa
import Derived.Test.YtonehmjoolflfaaGreatDoorBa
import Derived.WalkLawsBesides
namespace Go.Proofs.YtonehmjoolflfaaGreatDoor
open Go Go.RowKit Grp
set_option linter.unusedSimpArgs false
set_option linter.unusedVariables false

/-- The values of a sum of metrics: those of a with all of the second, those of all. -/
def sumR (D e1 e2 : Nat) (a : Int) (vs2 : List Int) : List Int := vs2.map fun b => (a * e1 + b * e2) % (D : Int)
def sumL (D e1 e2 : Nat) (vs1 vs2 : List Int) : List Int := vs1.flatMap fun a => sumR D e1 e2 a vs2
theorem sumR_snoc (D e1 e2 : Nat) (a : Int) {vs2 : List Int} {k : Nat} (h : k < vs2.length) : sumR D e1 e2 a (vs2.take (k + 1)) = sumR D e1 e2 a (vs2.take k) ++ [(a * e1 + gi vs2 k * e2) % (D : Int)] := by
  unfold sumR; rw [take_gi h]; simp
theorem sumL_snoc (D e1 e2 : Nat) {vs1 : List Int} (vs2 : List Int) {k : Nat} (h : k < vs1.length) : sumL D e1 e2 (vs1.take (k + 1)) vs2 = sumL D e1 e2 (vs1.take k) vs2 ++ sumR D e1 e2 (gi vs1 k) vs2 := by
  unfold sumL; rw [take_gi h]; simp
theorem sumR_len (D e1 e2 : Nat) (a : Int) (vs2 : List Int) : (sumR D e1 e2 a vs2).length = vs2.length := by simp [sumR]
theorem sumL_len (D e1 e2 : Nat) (vs1 vs2 : List Int) : (sumL D e1 e2 vs1 vs2).length = vs1.length * vs2.length := by
  induction vs1 with
  | nil => simp [sumL]
  | cons v vs ih => unfold sumL at *; simp only [List.flatMap_cons, List.length_append, ih, sumR_len, List.length_cons, Nat.succ_mul]; omega
/-- What two orders and their sum's order make. -/
structure SumQ (D1 D2 q e D e1 e2 : Nat) : Prop where
  gcd : Nat.gcd D1 D2 = q
  q1 : 1 ≤ q
  div : D1 / q = e
  mul : e * D2 = D
  d1 : D / D1 = e1
  d2 : D / D2 = e2
  b : D ≤ 55440
  b1 : 1 ≤ D
  e1 : e1 ≤ 55440
  e2 : e2 ≤ 55440
  e0 : e ≤ 55440
theorem sumQ {D1 D2 : Nat} (h1 : 55440 % D1 = 0) (h2 : 55440 % D2 = 0) (p1 : 1 ≤ D1) (p2 : 1 ≤ D2) : ∃ q e D e1 e2, SumQ D1 D2 q e D e1 e2 := by
  have hq : 0 < Nat.gcd D1 D2 := Nat.gcd_pos_of_pos_left _ p1
  have hl : D1 / Nat.gcd D1 D2 * D2 = Nat.lcm D1 D2 := by
    unfold Nat.lcm
    rw [Nat.mul_comm D1 D2, Nat.mul_div_assoc _ (Nat.gcd_dvd_left D1 D2), Nat.mul_comm]
  have hd : Nat.lcm D1 D2 ∣ 55440 := Nat.lcm_dvd (Nat.dvd_of_mod_eq_zero h1) (Nat.dvd_of_mod_eq_zero h2)
  have hp : 0 < Nat.lcm D1 D2 := Nat.lcm_pos p1 p2
  have hle := Nat.le_of_dvd (by omega) hd
  have hD1 : D1 ≤ 55440 := Nat.le_of_dvd (by omega) (Nat.dvd_of_mod_eq_zero h1)
  exact ⟨_, _, _, _, _, rfl, hq, rfl, rfl, rfl, rfl, by rw [hl]; exact hle, by rw [hl]; exact hp, by rw [hl]; exact Nat.le_trans (Nat.div_le_self _ _) hle, by rw [hl]; exact Nat.le_trans (Nat.div_le_self _ _) hle, Nat.le_trans (Nat.div_le_self _ _) hD1⟩

end Go.Proofs.YtonehmjoolflfaaGreatDoor
