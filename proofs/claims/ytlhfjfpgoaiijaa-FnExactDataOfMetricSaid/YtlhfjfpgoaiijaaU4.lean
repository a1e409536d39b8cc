
/- The walks of l11Code, subgroupCode, l11Isotropic, isIsotropic, l11Orthogonal, orthogonal. -/
import Derived.Test.YtlhfjfpgoaiijaaU3
import Derived.WalkLawsBesides
namespace Go.Proofs.Ytlhfjfpgoaiijaa
open Go Go.RowKit Grp
set_option linter.unusedSimpArgs false
set_option linter.unusedVariables false

/-- The code of a metric and a subgroup. -/
noncomputable def codeS (os : List Int) (D : Int) (vs xs : List Int) : Int := if codeL os D vs xs = 0 then if clB os xs = true then 0 else 5 else codeL os D vs xs
theorem codeS_0 {os vs xs : List Int} {D : Int} (h : codeS os D vs xs = 0) : IsM os D vs ∧ IsLst (prodL os) xs ∧ clB os xs = true := by
  unfold codeS at h
  split at h
  · rename_i h1
    split at h
    · rename_i h2; obtain ⟨a, b⟩ := codeL_0 h1; exact ⟨a, b, h2⟩
    · omega
  · rename_i h1; exact absurd h h1

/-- Is the value 0 at each element of a list? -/
def isoB (vs xs : List Int) : Bool := xs.all fun x => Vl vs x == 0
end Go.Proofs.Ytlhfjfpgoaiijaa
