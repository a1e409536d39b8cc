
/- The walks of l17Pairing of the reference, and of the codes of both sides. -/
import Derived.Test.YtnhgflmmfppmnaaCO1
namespace Go.Proofs.Ytnhgflmmfppmnaa
open Go Go.RowKit Grp
set_option linter.unusedSimpArgs false
set_option linter.unusedVariables false
set_option maxRecDepth 100000
def codeO (os : List Int) (most : Int) : Int := if gsz os = 0 then 1 else if most < gsz os then 3 else 0
theorem ordersCode_any (w : World) (B : Nat) (A : Option Addr) (n c : Nat) (xs : List Int) (most : Int) (h : Sl w B A n c xs) (hn : n ≤ 1048576) : Calls Try.prog 26 #[.slice A n c, .int .i64 most] w (Qt w (.int .i64 (codeO xs most))) := by
  unfold codeO
  by_cases h0 : gsz xs = 0
  · rw [if_pos h0]
    have k : (gsz xs == 0) = true := by simpa using h0
    clear h0
    go_enter Try.func26, Try.ntmps26
    go_wp2_with fail
    refine (groupSize_any _ B _ _ _ _ h hn).mono ?_
    rintro e w' ⟨rfl, m, rfl⟩
    go_wp2
    go_ret
    exact Qt.d1 rfl
  · rw [if_neg h0]
    have k : (gsz xs == 0) = false := by simpa using h0
    by_cases h1 : most < gsz xs
    · rw [if_pos h1]
      go_enter Try.func26, Try.ntmps26
      go_wp2_with fail
      refine (groupSize_any _ B _ _ _ _ h hn).mono ?_
      rintro e w' ⟨rfl, m, rfl⟩
      go_wp2
      go_ret
      exact Qt.d1 rfl
    · rw [if_neg h1]
      go_enter Try.func26, Try.ntmps26
      go_wp2_with fail
      refine (groupSize_any _ B _ _ _ _ h hn).mono ?_
      rintro e w' ⟨rfl, m, rfl⟩
      go_wp2
      go_ret
      exact Qt.d1 rfl
/-- The code of orders with at most a number of elements. -/
noncomputable def cdO (os : List Int) (most : Int) : Int := if ordHB os = false then 1 else if most < prodL os then 3 else 0
theorem codeO_eq {os : List Int} {most : Int} (h0 : 0 ≤ most) (h : most ≤ 16) : codeO os most = cdO os most := by
  unfold codeO cdO
  cases ho : ordHB os with
  | false => rw [gsz_no (fun hc => by rw [ordHB_t hc] at ho; cases ho)]; simp
  | true =>
    have hO := ordHB_iff.1 ho
    have hp := prodL_pos hO.2
    rw [gsz_ok hO]
    simp only [Bool.true_eq_false, if_false]
    by_cases h1 : most < prodL os
    · rw [if_neg (by omega), if_pos (by omega), if_pos h1]
    · rw [if_neg (by omega), if_neg (by omega), if_neg h1]
theorem cdO_0 {os : List Int} {most : Int} (h : cdO os most = 0) : OrdH os ∧ prodL os ≤ most := by
  unfold cdO at h
  cases ho : ordHB os with
  | false => rw [ho] at h; simp at h
  | true =>
    rw [ho] at h
    simp only [Bool.true_eq_false, if_false] at h
    split at h
    · cases h
    · exact ⟨ordHB_iff.1 ho, by omega⟩
/-- The code of orders, a modulus and a pairing. -/
noncomputable def cobK (os : List Int) (M : Int) (f : List (List Int)) : Int := if cdO os 8 = 0 then if inB M 1 1000 = true then if prB (prodL os).toNat M f = true then 0 else 2 else 2 else cdO os 8
end Go.Proofs.Ytnhgflmmfppmnaa
