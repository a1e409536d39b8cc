
/- The walks of l11List, listCode, l11Closed, isSubgroup, l11Code, subgroupCode: lists of elements, subgroups. The walks of l11Closed, isSubgroup, l11Code, subgroupCode. The walks of l11Code, subgroupCode, l11Isotropic, isIsotropic, l11Orthogonal, orthogonal. The walks of l10Radical, radical. The walks of l11Orthogonal, orthogonal. The walks of radical (of the program), RadicalOf and IsNondegenerate of both sides. -/
import Derived.Test.YtonehmjoolflfaaGreatDoorEa
import Derived.WalkLawsBesides
import Derived.Test.YtonehmjoolflfaaGreatDoorLa
namespace Go.Proofs.YtonehmjoolflfaaGreatDoor
open Go Go.RowKit Grp
set_option linter.unusedSimpArgs false
set_option linter.unusedVariables false

/-- A strictly increasing list of numbers from 0 to N - 1: element j fits. -/
def goodAt (N : Int) (xs : List Int) (j : Nat) : Prop := inB (gi xs j) 0 (N - 1) = true ∧ (0 < j → gi xs (j - 1) < gi xs j)
def IsLst (N : Int) (xs : List Int) : Prop := ∀ j, j < xs.length → goodAt N xs j
open Classical in
noncomputable def lstB (N : Int) (xs : List Int) : Bool := decide (IsLst N xs)
theorem lstB_iff {N : Int} {xs : List Int} : lstB N xs = true ↔ IsLst N xs := by simp [lstB]
theorem IsLst.rng {N : Int} {xs : List Int} (h : IsLst N xs) {j : Nat} (hj : j < xs.length) : 0 ≤ gi xs j ∧ gi xs j < N := by
  have := (h j hj).1
  simp only [inB, decide_eq_true_eq] at this
  omega
theorem IsLst.mem {N : Int} {xs : List Int} (h : IsLst N xs) : ∀ x ∈ xs, 0 ≤ x ∧ x < N := by
  intro x hx
  obtain ⟨j, hj, rfl⟩ := List.getElem_of_mem hx
  rw [gi_ext hj]; exact h.rng hj
theorem IsLst.le {N : Int} {xs : List Int} (h : IsLst N xs) {j : Nat} (hj : j < xs.length) : (j : Int) ≤ gi xs j := by
  induction j with
  | zero => exact (h.rng hj).1
  | succ j ih =>
    have h1 := ih (by omega)
    have h2 := (h (j + 1) hj).2 (by omega)
    simp only [Nat.add_sub_cancel] at h2
    omega
theorem IsLst.len {N : Int} {xs : List Int} (h : IsLst N xs) (hN : 0 ≤ N) : (xs.length : Int) ≤ N := by
  rcases Nat.eq_zero_or_pos xs.length with h0 | h0
  · omega
  · have h1 := h.le (j := xs.length - 1) (by omega)
    have h2 := h.rng (j := xs.length - 1) (by omega)
    omega
noncomputable def codeL (os : List Int) (D : Int) (vs xs : List Int) : Int := if isM os D vs = true then if lstB (prodL os) xs = true then 0 else 2 else 1
theorem codeL_0 {os vs xs : List Int} {D : Int} (h : codeL os D vs xs = 0) : IsM os D vs ∧ IsLst (prodL os) xs := by
  unfold codeL at h
  split at h
  · rename_i h1
    split at h
    · rename_i h2; exact ⟨isM_iff.1 h1, lstB_iff.1 h2⟩
    · omega
  · omega



/-- Does a list hold 0 and all sums? -/
def clB (os xs : List Int) : Bool := hasB xs 0 && xs.all fun x => xs.all fun y => hasB xs (Ar os x y)


/-- The code of a metric and a subgroup. -/
noncomputable def codeS (os : List Int) (D : Int) (vs xs : List Int) : Int := if codeL os D vs xs = 0 then if clB os xs = true then 0 else 5 else codeL os D vs xs
theorem codeS_0 {os vs xs : List Int} {D : Int} (h : codeS os D vs xs = 0) : IsM os D vs ∧ IsLst (prodL os) xs ∧ clB os xs = true := by
  unfold codeS at h
  split at h
  · rename_i h1
    split at h
    · rename_i h2; obtain ⟨a, b⟩ := codeL_0 h1; exact ⟨a, b, h2⟩
    · omega
  · rename_i h1; exact absurd h h1

/-- Is the value 0 at each element of a list? -/
def isoB (vs xs : List Int) : Bool := xs.all fun x => Vl vs x == 0


/-- x pairs to 0 with all elements of a list. -/
def ortB (os : List Int) (D : Int) (vs xs : List Int) (x : Nat) : Bool := xs.all fun y => Pr os D vs x y == 0
/-- The elements below k that are orthogonal to a list. -/
def ortL (os : List Int) (D : Int) (vs xs : List Int) (k : Nat) : List Int := ((List.range k).filter fun x => ortB os D vs xs x).map fun (x : Nat) => (x : Int)


end Go.Proofs.YtonehmjoolflfaaGreatDoor
