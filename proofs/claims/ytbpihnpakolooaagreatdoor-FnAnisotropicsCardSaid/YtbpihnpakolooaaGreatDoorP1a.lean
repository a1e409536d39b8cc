
/- The walks of power, l01Pow, root, l01Order, l01Primitive, l01Unity: powers modulo the prime. The walks of l01Order, l01Primitive, l01Unity. The walks of rootPower, l10Gauss, gauss. -/
import Derived.Test.YtbpihnpakolooaaGreatDoorSa
import Derived.Test.YtbpihnpakolooaaGreatDoorBa
import Derived.WalkLawsBesides
import Derived.Test.YtbpihnpakolooaaGreatDoorIa
namespace Go.Proofs.YtbpihnpakolooaaGreatDoor
open Go Go.RowKit Grp
set_option linter.unusedSimpArgs false
set_option linter.unusedVariables false

/-- A power modulo the prime. -/
def pwr (a k : Nat) : Nat := a ^ k % 55441
theorem pwr_lt (a k : Nat) : pwr a k < 55441 := Nat.mod_lt _ (by decide)

/-- The root of unity of an order n. -/
def rtu (n : Nat) : Nat := pwr 38 (55440 / n)

/-- The five primes. -/
def pr5 : List Nat := [2, 3, 5, 7, 11]
/-- Is a number no primitive one? -/
def noPrim (a : Nat) : Bool := pr5.any fun p => pwr a (55440 / p) == 1
theorem prim38 : noPrim 38 = false := by decide +kernel

def p5 (k : Nat) : Nat := pr5.getD k 0
/-- What the loops keep. -/
def OI (a q k : Nat) : Prop := (q = 55440 ∧ ∀ j, j < k → pwr a (55440 / p5 j) ≠ 1) ∨ (q < 55440 ∧ noPrim a = true)
theorem OI.fin {a q : Nat} (h : OI a q 5) : decide (q = 55440) = !noPrim a := by
 rcases h with ⟨rfl, h⟩ | ⟨h1, h2⟩
 ·have : noPrim a = false := by
   refine Bool.eq_false_iff.2 fun ha => ?_
   obtain ⟨p, hp, he⟩ := List.any_eq_true.1 ha
   have he' : pwr a (55440 / p) = 1 := by simpa using he
   simp only [pr5, List.mem_cons, List.not_mem_nil, or_false] at hp
   rcases hp with rfl | rfl | rfl | rfl | rfl
   ·exact h 0 (by omega) he'
   ·exact h 1 (by omega) he'
   ·exact h 2 (by omega) he'
   ·exact h 3 (by omega) he'
   ·exact h 4 (by omega) he'
  rw [this]; rfl
 ·rw [h2]; simp; omega

/-- The power of the root of unity of an order D with an exponent. -/
def rp (D : Nat) (k : Int) : Nat := pwr (rtu D) (k % D).toNat
theorem rp_lt (D : Nat) (k : Int) : rp D k < 55441 := pwr_lt _ _

end Go.Proofs.YtbpihnpakolooaaGreatDoor
