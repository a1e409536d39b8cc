
/- The walks of the laws' own functions on nested slices: szInt64SS, toInt64SS, eqInt64SS, markInt64SS, heldInt64SS, and one level deeper. -/
import Derived.Test.YtbpihnpakolooaaGreatDoorNS
import Derived.Test.YtbpihnpakolooaaGreatDoorBa
import Derived.Test.YtbpihnpakolooaaGreatDoorLa
namespace Go.Proofs.YtbpihnpakolooaaGreatDoor
open Go Go.RowKit
set_option linter.unusedSimpArgs false
set_option linter.unusedVariables false

theorem rows_info : (Tryz.prog.info? 24).map (fun i => (i.zero, i.size, i.bytes)) = some (some (.slice none 0 0), 1, 24) := by kernel_rfl

/-! ### plain -/
section
variable {α : Type}
end


/-! ### walks -/

end Go.Proofs.YtbpihnpakolooaaGreatDoor
