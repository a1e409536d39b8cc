
/- The walks of gcd, l10Common, slices.Grow, slices.Concat over int64. -/
import Derived.Test.YtonehmjoolflfaaGreatDoorC2
import Derived.Test.YtonehmjoolflfaaGreatDoorSa
import Derived.Test.YtonehmjoolflfaaGreatDoorBa
import Derived.WalkLawsBesides
import Derived.Lib.AppendZeros
import Derived.Lib.SliceRun
namespace Go.Proofs.YtonehmjoolflfaaGreatDoor
open Go Go.RowKit
set_option linter.unusedSimpArgs false
set_option linter.unusedVariables false

theorem gcd_step (p q : Nat) : Nat.gcd q (p % q) = Nat.gcd p q := by rw [Nat.gcd_comm q, ← Nat.gcd_rec, Nat.gcd_comm]
set_option maxHeartbeats 1000000 in
theorem l10Common_any (w : World) (a b : Nat) (ha : a ≤ 1000000000) (hb : b ≤ 1000000000) : Calls Tryz.prog 85 #[.int .i64 a, .int .i64 b] w (Qt w (.int .i64 (Nat.gcd a b : Nat))) := by
  go_enter Tryz.func85, Tryz.ntmps85
  go_wp2_with fail
  go_loop [0, 1] (fun x y => ∃ p q : Nat, x = .int .i64 p ∧ y = .int .i64 q ∧ p ≤ 1000000000 ∧ q ≤ 1000000000 ∧ Nat.gcd p q = Nat.gcd a b) (fun _ y => (intOf y).toNat)
  case atStart => exact ⟨a, b, rfl, rfl, ha, hb, rfl⟩
  case round =>
    obtain ⟨p, q, rfl, rfl, hp, hq, hg⟩ := hrel
    have hG := hide hg
    clear hg
    by_cases hz : q = 0
    · have hE := hide (show Nat.gcd a b = p by rw [← hG.out, hz, Nat.gcd_zero_right])
      have hzi : ¬ (0 : Int) < (q : Int) := by omega
      have hzn : ¬ 0 < q := by omega
      have hZ := hide hz
      clear hz
      go_wp2_with fail
      go_ret
      exact Qt.mk' 0 rfl (int_eq (by rw [hE.out]))
    · have hzn : 0 < q := by omega
      have hS := hide (gcd_step p q)
      have hlt : p % q < q := Nat.mod_lt _ (by omega)
      have t0 : ¬ (q : Int) = 0 := by omega
      obtain ⟨r, hr⟩ : ∃ r, p % q = r := ⟨_, rfl⟩
      have t1 : (p : Int).tmod q = r := by rw [Int.tmod_eq_emod_of_nonneg (by omega), ← hr]; rfl
      have t2 : (p : Int) % q = r := by rw [← hr]; rfl
      have hS2 := hide (show Nat.gcd q r = Nat.gcd a b by rw [← hr, hS.out, hG.out])
      rw [hr] at hlt
      clear hr
      go_wp2_with fail
      go_round
      case rel => exact ⟨q, r, rfl, rfl, by omega, by omega, hS2.out⟩
      case measure => simp [intOf] <;> omega

/-- The lists 0, .., k - 1 of a family, one behind another. -/
def cat (xs : Nat → List Int) (k : Nat) : List Int := (List.range k).flatMap xs
theorem cat_succ (xs : Nat → List Int) (k : Nat) : cat xs (k + 1) = cat xs k ++ xs k := by simp [cat, List.range_succ, List.flatMap_append]
theorem cat_le (xs : Nat → List Int) {k m : Nat} (h : k ≤ m) : (cat xs k).length ≤ (cat xs m).length := by
  induction m with
  | zero => rw [show k = 0 by omega]; exact Nat.le_refl _
  | succ m ih =>
    rcases Nat.lt_or_ge k (m + 1) with h' | h'
    · rw [cat_succ, List.length_append]; have := ih (by omega); omega
    · rw [show k = m + 1 by omega]; exact Nat.le_refl _
end Go.Proofs.YtonehmjoolflfaaGreatDoor
