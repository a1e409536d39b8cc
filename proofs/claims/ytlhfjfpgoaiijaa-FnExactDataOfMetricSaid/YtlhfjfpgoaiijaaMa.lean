
/- The walks of l10Minus, NegativeMetric of both sides. The walks of NegativeMetric of both sides. -/
import Derived.Test.YtlhfjfpgoaiijaaEa
import Derived.Test.YtlhfjfpgoaiijaaC2
import Derived.Test.YtlhfjfpgoaiijaaLa
import Derived.Test.YtlhfjfpgoaiijaaBa
import Derived.WalkLawsBesides
namespace Go.Proofs.Ytlhfjfpgoaiijaa
open Go Go.RowKit Grp
set_option linter.unusedSimpArgs false
set_option linter.unusedVariables false

/-- The values of the negative of a metric. -/
def negL (D : Int) (vs : List Int) : List Int := vs.map fun v => (-v) % D
theorem negL_snoc (D : Int) {vs : List Int} {k : Nat} (h : k < vs.length) : negL D (vs.take (k + 1)) = negL D (vs.take k) ++ [(-(gi vs k)) % D] := by
  unfold negL; rw [take_gi h]; simp
theorem negL_len (D : Int) (vs : List Int) : (negL D vs).length = vs.length := by simp [negL]
noncomputable def gIf (os : List Int) (D : Int) (vs : List Int) (xs : List Int) : List Int := if isM os D vs = true then xs else []
noncomputable def gIfI (os : List Int) (D : Int) (vs : List Int) (x : Int) : Int := if isM os D vs = true then x else 0
section
variable {os vs : List Int} {D : Int}
theorem gIf_t (h : isM os D vs = true) (xs : List Int) : gIf os D vs xs = xs := by unfold gIf; rw [if_pos h]
theorem gIf_f (h : isM os D vs = false) (xs : List Int) : gIf os D vs xs = [] := by unfold gIf; rw [if_neg (by rw [h]; exact Bool.false_ne_true)]
theorem gIfI_t (h : isM os D vs = true) (x : Int) : gIfI os D vs x = x := by unfold gIfI; rw [if_pos h]
theorem gIfI_f (h : isM os D vs = false) (x : Int) : gIfI os D vs x = 0 := by unfold gIfI; rw [if_neg (by rw [h]; exact Bool.false_ne_true)]
theorem codeM_t (h : isM os D vs = true) : codeM os D vs = 0 := by unfold codeM; rw [if_pos h]
theorem codeM_f (h : isM os D vs = false) : codeM os D vs = 1 := by unfold codeM; rw [if_neg (by rw [h]; exact Bool.false_ne_true)]
end

end Go.Proofs.Ytlhfjfpgoaiijaa
