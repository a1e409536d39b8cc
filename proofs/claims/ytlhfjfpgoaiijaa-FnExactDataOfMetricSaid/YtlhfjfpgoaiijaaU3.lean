
/- The walks of l11Closed, isSubgroup, l11Code, subgroupCode. -/
import Derived.Test.YtlhfjfpgoaiijaaU2
import Derived.WalkLawsBesides
namespace Go.Proofs.Ytlhfjfpgoaiijaa
open Go Go.RowKit Grp
set_option linter.unusedSimpArgs false
set_option linter.unusedVariables false

/-- Does a list hold 0 and all sums? -/
def clB (os xs : List Int) : Bool := hasB xs 0 && xs.all fun x => xs.all fun y => hasB xs (Ar os x y)
theorem all_f {p : Int → Bool} {xs : List Int} {k : Nat} (hk : k < xs.length) (h : p (gi xs k) = false) : xs.all p = false := by
  refine Bool.eq_false_iff.2 fun ha => ?_
  have := List.all_eq_true.1 ha _ (gi_mem hk)
  rw [h] at this; cases this
theorem all_t {p : Int → Bool} {xs : List Int} (h : ∀ k, k < xs.length → p (gi xs k) = true) : xs.all p = true := by
  refine List.all_eq_true.2 fun x hx => ?_
  obtain ⟨j, hj, rfl⟩ := List.getElem_of_mem hx
  rw [gi_ext hj]; exact h j hj
theorem clB_f0 {os xs : List Int} (h : hasB xs 0 = false) : clB os xs = false := by unfold clB; rw [h]; rfl
theorem clB_f {os xs : List Int} {i k : Nat} (hi : i < xs.length) (hk : k < xs.length) (h : hasB xs (Ar os (gi xs i) (gi xs k)) = false) : clB os xs = false := by
  unfold clB
  rw [all_f hi (all_f hk h), Bool.and_false]
theorem clB_t {os xs : List Int} (h0 : hasB xs 0 = true) (h : ∀ i k, i < xs.length → k < xs.length → hasB xs (Ar os (gi xs i) (gi xs k)) = true) : clB os xs = true := by
  unfold clB
  rw [h0, all_t fun i hi => all_t fun k hk => h i k hi hk]; rfl
theorem clB_all {os xs : List Int} (h : ∀ i k, i < xs.length → k < xs.length → hasB xs (Ar os (gi xs i) (gi xs k)) = true) : clB os xs = hasB xs 0 := by
  unfold clB
  rw [all_t fun i hi => all_t fun k hk => h i k hi hk, Bool.and_true]

end Go.Proofs.Ytlhfjfpgoaiijaa
