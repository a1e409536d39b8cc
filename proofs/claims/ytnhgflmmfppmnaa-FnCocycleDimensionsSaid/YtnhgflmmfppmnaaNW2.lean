
/- The walks of heldInt64SS, heldInt64SSS. -/
import Derived.Test.YtnhgflmmfppmnaaNW1
namespace Go.Proofs.Ytnhgflmmfppmnaa
open Go Go.RowKit
set_option linter.unusedSimpArgs false
set_option linter.unusedVariables false

theorem heldI_ge (xs : List Int) : ∀ q : Int, 0 ≤ q → -1 ≤ heldI q xs ∧ heldI q xs ≤ q + xs.length := by
  induction xs with
  | nil => intro q h; simp [heldI]; omega
  | cons x r ih =>
    intro q h
    unfold heldI
    split
    · have := ih (q + 1) (by omega); simp; omega
    · simp; omega
theorem heldL_ge {α : Type} {hf : Int → α → Int} {f : α → Nat} (h : ∀ q x, 0 ≤ q → -1 ≤ hf q x ∧ hf q x ≤ q + f x) (xs : List α) : ∀ q : Int, 0 ≤ q → -1 ≤ heldL hf q xs ∧ heldL hf q xs ≤ q + ((xs.map f).sum : Nat) := by
  induction xs with
  | nil => intro q h; simp [heldL]; omega
  | cons x r ih =>
    intro q hq
    simp only [heldL, List.map_cons, List.sum_cons]
    split
    · omega
    · have h1 := h q x hq
      have := ih (hf q x) (by omega); omega
theorem held2_ge (xs : List (List Int)) (q : Int) (h : 0 ≤ q) : -1 ≤ held2 q xs ∧ held2 q xs ≤ q + sum2 xs := heldL_ge (fun q x h => heldI_ge x q h) xs q h
theorem held3_ge (xs : List (List (List Int))) (q : Int) (h : 0 ≤ q) : -1 ≤ held3 q xs ∧ held3 q xs ≤ q + sum3 xs := heldL_ge (fun q x h => held2_ge x q h) xs q h
end Go.Proofs.Ytnhgflmmfppmnaa
