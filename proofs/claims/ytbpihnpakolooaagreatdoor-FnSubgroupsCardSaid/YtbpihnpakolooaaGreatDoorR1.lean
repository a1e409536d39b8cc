
/- The walks of l10Radical, radical. -/
import Derived.Test.YtbpihnpakolooaaGreatDoorEa
import Derived.WalkLawsBesides
namespace Go.Proofs.YtbpihnpakolooaaGreatDoor
open Go Go.RowKit Grp
set_option linter.unusedSimpArgs false
set_option linter.unusedVariables false

/-- x pairs to 0 with all elements. -/
def radB (os : List Int) (D : Int) (vs : List Int) (x : Nat) : Bool := (List.range vs.length).all fun y => Pr os D vs x y == 0
/-- The elements of the radical below k. -/
def radL (os : List Int) (D : Int) (vs : List Int) (k : Nat) : List Int := ((List.range k).filter fun x => radB os D vs x).map fun (x : Nat) => (x : Int)
theorem radL_t {os vs : List Int} {D : Int} {k : Nat} (h : radB os D vs k = true) : radL os D vs (k + 1) = radL os D vs k ++ [(k : Int)] := by
  unfold radL; rw [List.range_succ, List.filter_append, List.map_append]; simp [h]
theorem radL_f {os vs : List Int} {D : Int} {k : Nat} (h : radB os D vs k = false) : radL os D vs (k + 1) = radL os D vs k := by
  unfold radL; rw [List.range_succ, List.filter_append, List.map_append]; simp [h]
theorem radL_len (os vs : List Int) (D : Int) (k : Nat) : (radL os D vs k).length ≤ k := by
  unfold radL; rw [List.length_map]; exact Nat.le_trans (List.length_filter_le _ _) (by simp)
theorem radB_f {os vs : List Int} {D : Int} {x y : Nat} (hy : y < vs.length) (h : Pr os D vs x y ≠ 0) : radB os D vs x = false := by
  refine Bool.eq_false_iff.2 fun ha => h ?_
  have := List.all_eq_true.1 ha y (List.mem_range.2 hy)
  simpa using this
theorem radB_t {os vs : List Int} {D : Int} {x : Nat} (h : ∀ y, y < vs.length → Pr os D vs x y = 0) : radB os D vs x = true :=
  List.all_eq_true.2 fun y hy => by simpa using h y (List.mem_range.1 hy)
theorem radL_rng {os vs : List Int} {D : Int} {k : Nat} (hk : k ≤ 1048576) : ∀ x ∈ radL os D vs k, i64ok x := by
  intro x hx
  unfold radL at hx
  obtain ⟨j, hj, rfl⟩ := List.mem_map.1 hx
  have := List.mem_range.1 (List.mem_filter.1 hj).1
  exact ⟨by omega, by omega⟩

end Go.Proofs.YtbpihnpakolooaaGreatDoor
