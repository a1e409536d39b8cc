
/- The walks of isModulus, isGrid, isCochain of the program. -/
import Derived.Test.YtnhgflmmfppmnaaCC
namespace Go.Proofs.Ytnhgflmmfppmnaa
open Go Go.RowKit Grp
set_option linter.unusedSimpArgs false
set_option linter.unusedVariables false
set_option maxRecDepth 100000

def badM (n : Nat) (M : Int) (r : List Int) : Bool := !(decide (r.length = n) && allIn 0 (M - 1) r)
theorem badM_ok {n : Nat} {M : Int} {r : List Int} (h : badM n M r = false) : RowM n M r := by
  simp only [badM, Bool.not_eq_false', Bool.and_eq_true, decide_eq_true_eq] at h
  refine ⟨h.1, fun x hx => ?_⟩
  have := List.all_eq_true.1 h.2 x hx
  simpa [inB] using this
theorem badM_no {n : Nat} {M : Int} {r : List Int} (h : badM n M r = true) : ¬ RowM n M r := by
  intro hr
  simp only [badM, Bool.not_eq_true', Bool.and_eq_false_iff, decide_eq_false_iff_not] at h
  rcases h with h | h
  · exact h hr.1
  · have : allIn 0 (M - 1) r = true := List.all_eq_true.2 fun x hx => by have := hr.2 x hx; simp only [inB, decide_eq_true_eq]; exact this
    rw [this] at h; cases h
def gridB (n : Nat) (M : Int) (a : List (List Int)) : Bool := decide (a.length = n) && !(a.any (badM n M))
theorem gridB_iff {n : Nat} {M : Int} {a : List (List Int)} : gridB n M a = true ↔ MatM n M a := by
  unfold gridB
  rw [Bool.and_eq_true, decide_eq_true_eq, Bool.not_eq_true']
  constructor
  · rintro ⟨h1, h2⟩
    refine ⟨h1, fun r hr => badM_ok ?_⟩
    cases hb : badM n M r with
    | false => rfl
    | true => rw [List.any_eq_true.2 ⟨r, hr, hb⟩] at h2; cases h2
  · rintro ⟨h1, h2⟩
    refine ⟨h1, Bool.eq_false_iff.2 fun ha => ?_⟩
    obtain ⟨r, hr, hb⟩ := List.any_eq_true.1 ha
    exact badM_no hb (h2 r hr)
theorem gsz_rng (os : List Int) : 0 ≤ gsz os ∧ gsz os ≤ 17 := by
  by_cases h : OrdH os
  · rw [gsz_ok h]; have := prodL_pos h.2; omega
  · rw [gsz_no h]; omega
theorem gsz_in_t {os : List Int} (h : OrdH os ∧ prodL os ≤ 8) : inB (gsz os) 1 8 = true := by
  have := prodL_pos h.1.2
  rw [gsz_ok h.1, inB_t (by omega) (by have := h.2; omega)]
theorem gsz_in_f {os : List Int} (h : ¬ (OrdH os ∧ prodL os ≤ 8)) : inB (gsz os) 1 8 = false := by
  by_cases ho : OrdH os
  · rw [gsz_ok ho]
    have h8 : ¬ prodL os ≤ 8 := fun hp => h ⟨ho, hp⟩
    rw [inB_f2 (by omega)]
  · rw [gsz_no ho, inB_f1 (by omega)]
end Go.Proofs.Ytnhgflmmfppmnaa
