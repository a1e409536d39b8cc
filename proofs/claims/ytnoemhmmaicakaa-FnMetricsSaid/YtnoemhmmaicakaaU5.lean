
/- The walks of l11Orthogonal, orthogonal. -/
import Derived.Test.YtnoemhmmaicakaaU2a
import Derived.Test.YtnoemhmmaicakaaR1
import Derived.Test.YtnoemhmmaicakaaLa
import Derived.WalkLawsBesides
namespace Go.Proofs.Ytnoemhmmaicakaa
open Go Go.RowKit Grp
set_option linter.unusedSimpArgs false
set_option linter.unusedVariables false

/-- x pairs to 0 with all elements of a list. -/
def ortB (os : List Int) (D : Int) (vs xs : List Int) (x : Nat) : Bool := xs.all fun y => Pr os D vs x y == 0
/-- The elements below k that are orthogonal to a list. -/
def ortL (os : List Int) (D : Int) (vs xs : List Int) (k : Nat) : List Int := ((List.range k).filter fun x => ortB os D vs xs x).map fun (x : Nat) => (x : Int)
theorem ortL_t {os vs xs : List Int} {D : Int} {k : Nat} (h : ortB os D vs xs k = true) : ortL os D vs xs (k + 1) = ortL os D vs xs k ++ [(k : Int)] := by
  unfold ortL; rw [List.range_succ, List.filter_append, List.map_append]; simp [h]
theorem ortL_f {os vs xs : List Int} {D : Int} {k : Nat} (h : ortB os D vs xs k = false) : ortL os D vs xs (k + 1) = ortL os D vs xs k := by
  unfold ortL; rw [List.range_succ, List.filter_append, List.map_append]; simp [h]
theorem ortL_len (os vs xs : List Int) (D : Int) (k : Nat) : (ortL os D vs xs k).length ≤ k := by
  unfold ortL; rw [List.length_map]; exact Nat.le_trans (List.length_filter_le _ _) (by simp)
theorem ortL_mem {os vs xs : List Int} {D : Int} {k : Nat} : ∀ x ∈ ortL os D vs xs k, 0 ≤ x ∧ x < k := by
  intro x hx
  unfold ortL at hx
  obtain ⟨j, hj, rfl⟩ := List.mem_map.1 hx
  have := List.mem_range.1 (List.mem_filter.1 hj).1
  exact ⟨by omega, by omega⟩

end Go.Proofs.Ytnoemhmmaicakaa
