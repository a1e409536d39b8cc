
/- What came in, opened: a slice of int64, a struct of a metric. What came in, opened: a struct of a metric. -/
import Derived.Test.YtonehmjoolflfaaGreatDoorChecked
import Derived.Test.YtonehmjoolflfaaGreatDoorBa
import Derived.ProofKit
import Derived.OpenShut
import Derived.ChangeOld
import Derived.Lib.SmallJoins
import Derived.Deep.Strs
namespace Go.Proofs.YtonehmjoolflfaaGreatDoor
open Go Go.ChangeShapes Go.WideShapes Go.ChangeAt Go.RowKit Go.Joins
set_option linter.unusedSimpArgs false
set_option linter.unusedVariables false


section
variable {H : Type} {enc : TypeId × Value → H} {W : World} {base : Nat} {spare : Nat → Bool} {held : Bool}
end

section
variable {H : Type} {enc : TypeId × Value → H} {W : World} {base : Nat} {spare : Nat → Bool} {held : Bool}
end
end Go.Proofs.YtonehmjoolflfaaGreatDoor
