
/- The kinds of a law's arguments and results, in one form: slices of integers, rows of integers. -/
import Derived.Test.YtbpihnpakolooaaGreatDoorNW1
import Derived.Test.YtbpihnpakolooaaGreatDoorLa
namespace Go.Proofs.YtbpihnpakolooaaGreatDoor
open Go Go.RowKit
set_option linter.unusedSimpArgs false
set_option linter.unusedVariables false
set_option maxRecDepth 100000

/-! ### slices of integers -/
abbrev ints_T := List Int
def ints_R (w : World) (B : Nat) (v : Value) (x : List Int) : Prop := S1 w B v x
def ints_E : Own (List Int) := E1
def ints_Big (x : List Int) : Prop := x.length ≤ 9223372036854775807
def ints_Sh (x : List Int) : Prop := x.length ≤ 1048576
def ints_tot (x : List Int) : Nat := x.length
def ints_sum (x : List Int) : Nat := x.length
def ints_mk (q : Int) (x : List Int) : List Int := mark1 q x
def ints_held (q : Int) (x : List Int) : Int := heldI q x
section
variable {w w' : World} {B B' : Nat} {v : Value} {x : List Int} {fp fq : Nat → Prop}
theorem ints_form (h : ints_R w B v x) : ∃ A n c, v = .slice A n c ∧ Sl w B A n c x := h
theorem ints_keep (h : ints_R w B v x) (hb : Below B w w') (hB : B ≤ B') : ints_R w' B' v x := by
  obtain ⟨A, n, c, e, hs⟩ := h
  exact ⟨A, n, c, e, (hs.below hb).more hB⟩
theorem ints_rd (h : ints_E w v x fp) : ints_R w w.heap.size v x := E1.s1 h
theorem ints_kp : Kp ints_E := kp1
theorem ints_below (h : ints_E w v x fp) (hb : Below w.heap.size w w') : ints_E w' v x fp := E1.below h hb
theorem ints_wr (h : ints_E w v x fp) (hw : Wr w w' fq) (hd : ∀ b, fp b → fq b → False) : ints_E w' v x fp := kp1 _ _ _ _ _ h (fun b hb => hw.block b (h.bd b hb) (hd b hb)) hw.size
theorem ints_sh (h : ints_tot x ≤ 1048576) : ints_Sh x := h
theorem ints_sumle (x : List Int) : ints_sum x ≤ ints_tot x := Nat.le_refl _
theorem ints_shmk {q : Int} (h : ints_Sh x) : ints_Sh (ints_mk q x) := by unfold ints_Sh ints_mk mark1; rw [marks_length]; exact h
theorem ints_heldmk1 : ints_held 1 (ints_mk 1 x) = 1 + (ints_sum x : Int) := heldI_marks _ _
end
/-! ### results -/
/-- It returned something of its own that holds x, and a code. -/
def MkEC {α : Type} (E : Own α) (w : World) (x : α) (code : Int) (e : Ending) (w' : World) : Prop := ∃ v, e = .returned (.tuple #[v, .int .i64 code]) ∧ E w' v x (fun b => w.heap.size ≤ b ∧ b < w'.heap.size) ∧ Below w.heap.size w w'
theorem E1.nil (w : World) (fp : Nat → Prop) (hb : ∀ b, fp b → b < w.heap.size) : E1 w (.slice none 0 0) [] fp := ⟨Ow.nil _ _, by simp, fun b hb => by simp [Value.ownBlock] at hb, hb⟩
theorem E1.of_ow {w : World} {B : Nat} {v : Value} {xs : List Int} (h : Ow w B v xs) (hr : ∀ x ∈ xs, i64ok x) : E1 w v xs (fun b => B ≤ b ∧ b < w.heap.size) := ⟨h.less (Nat.zero_le _), hr, fun b hb => h.lt b hb, fun b hb => hb.2⟩
end Go.Proofs.YtbpihnpakolooaaGreatDoor
