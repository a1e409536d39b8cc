
/- The kind of a metric: a struct of orders, a modulus and values. -/
import Derived.Test.YtbpihnpakolooaaGreatDoorKD0
import Derived.Test.YtbpihnpakolooaaGreatDoorLa
namespace Go.Proofs.YtbpihnpakolooaaGreatDoor
open Go Go.RowKit
set_option linter.unusedSimpArgs false
set_option linter.unusedVariables false
set_option maxRecDepth 100000
abbrev metric_T := List Int × Int × List Int
section
variable {w w' : World} {B B' : Nat} {v : Value} {x : metric_T} {fp fq : Nat → Prop}
end
end Go.Proofs.YtbpihnpakolooaaGreatDoor
