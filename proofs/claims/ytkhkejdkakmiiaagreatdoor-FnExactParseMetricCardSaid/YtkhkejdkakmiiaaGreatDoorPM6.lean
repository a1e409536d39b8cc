
/- The reference's l01Split, plain part. -/
import Derived.Test.YtkhkejdkakmiiaaGreatDoorPM5
namespace Go.Proofs.YtkhkejdkakmiiaaGreatDoor
open Go Go.RowKit Go.Shelf
set_option linter.unusedSimpArgs false
set_option linter.unusedVariables false
/-- The parts of a text between the bytes b. -/
def consH (w : List UInt8) : List (List UInt8) → List (List UInt8)
  | [] => [w]
  | x :: r => (w ++ x) :: r
def spl (b : UInt8) : List UInt8 → List (List UInt8)
  | [] => [[]]
  | x :: r => if x = b then [] :: spl b r else consH [x] (spl b r)
theorem consH_nil (xs : List (List UInt8)) (h : xs ≠ []) : consH [] xs = xs := by
  cases xs with
  | nil => exact absurd rfl h
  | cons x r => rfl
theorem consH_app (v w : List UInt8) (xs : List (List UInt8)) : consH v (consH w xs) = consH (v ++ w) xs := by
  cases xs <;> simp [consH]
theorem spl_ne (b : UInt8) (l : List UInt8) : spl b l ≠ [] := by
  cases l with
  | nil => simp [spl]
  | cons x r =>
    unfold spl
    split
    · simp
    · cases spl b r <;> simp [consH]
theorem spl_word (b : UInt8) (w : List UInt8) (h : b ∉ w) : spl b w = [w] := by
  induction w with
  | nil => rfl
  | cons x r ih =>
    have hx : x ≠ b := fun e => h (by simp [e])
    unfold spl
    rw [if_neg hx, ih fun e => h (by simp [e])]
    rfl
theorem spl_cut (b : UInt8) (w rest : List UInt8) (h : b ∉ w) : spl b (w ++ b :: rest) = w :: spl b rest := by
  induction w with
  | nil => simp [spl]
  | cons x r ih =>
    have hx : x ≠ b := fun e => h (by simp [e])
    have e1 : spl b (x :: r ++ b :: rest) = consH [x] (spl b (r ++ b :: rest)) := by
      rw [List.cons_append, spl, if_neg hx]
    rw [e1, ih fun e => h (by simp [e])]
    rfl
theorem spl_join (b : UInt8) : ∀ ws : List (List UInt8), ws ≠ [] → (∀ w ∈ ws, b ∉ w) → spl b (Lib.join ws [b]) = ws := by
  intro ws
  induction ws with
  | nil => intro h; exact absurd rfl h
  | cons w r ih =>
    intro _ h
    have hw := h w (by simp)
    cases r with
    | nil => rw [Lib.join_one]; exact spl_word b w hw
    | cons z r =>
      have hj : Lib.join (w :: z :: r) [b] = w ++ b :: Lib.join (z :: r) [b] := by simp [Lib.join, List.intercalate]
      rw [hj, spl_cut b w _ hw, ih (by simp) fun x hx => h x (by simp [hx])]
end Go.Proofs.YtkhkejdkakmiiaaGreatDoor
