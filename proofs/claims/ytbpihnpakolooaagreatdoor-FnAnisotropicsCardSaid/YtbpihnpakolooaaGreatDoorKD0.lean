
/- The kinds of a law's arguments and results, in one form: slices of integers, rows of integers. -/
import Derived.Test.YtbpihnpakolooaaGreatDoorNW1
import Derived.Test.YtbpihnpakolooaaGreatDoorLa
namespace Go.Proofs.YtbpihnpakolooaaGreatDoor
open Go Go.RowKit
set_option linter.unusedSimpArgs false
set_option linter.unusedVariables false
set_option maxRecDepth 100000

/-! ### slices of integers -/
section
variable {w w' : World} {B B' : Nat} {v : Value} {x : List Int} {fp fq : Nat → Prop}
end
/-! ### results -/
/-- It returned something of its own that holds x, and a code. -/
def MkEC {α : Type} (E : Own α) (w : World) (x : α) (code : Int) (e : Ending) (w' : World) : Prop := ∃ v, e = .returned (.tuple #[v, .int .i64 code]) ∧ E w' v x (fun b => w.heap.size ≤ b ∧ b < w'.heap.size) ∧ Below w.heap.size w w'
theorem E1.nil (w : World) (fp : Nat → Prop) (hb : ∀ b, fp b → b < w.heap.size) : E1 w (.slice none 0 0) [] fp := ⟨Ow.nil _ _, by simp, fun b hb => by simp [Value.ownBlock] at hb, hb⟩
theorem E1.of_ow {w : World} {B : Nat} {v : Value} {xs : List Int} (h : Ow w B v xs) (hr : ∀ x ∈ xs, i64ok x) : E1 w v xs (fun b => B ≤ b ∧ b < w.heap.size) := ⟨h.less (Nat.zero_le _), hr, fun b hb => h.lt b hb, fun b hb => hb.2⟩
end Go.Proofs.YtbpihnpakolooaaGreatDoor
