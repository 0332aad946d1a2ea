import Derived.Test.YtoobfpnphhcaoaaGreatDoorCards
import Derived.ProofKit
import Derived.Deep.DeepHandedRow
set_option linter.unusedVariables false
set_option linter.unusedSimpArgs false
/- The card's closed facts. -/
namespace Go.Proofs.YtoobfpnphhcaoaaGreatDoor.serverNil
theorem kStand3 : Tryz.prog.wantsStandIn 3 = false := by kernel_rfl
theorem kStand31 : Tryz.prog.wantsStandIn 31 = false := by kernel_rfl
theorem kStand4 : Tryz.prog.wantsStandIn 4 = false := by kernel_rfl
end Go.Proofs.YtoobfpnphhcaoaaGreatDoor.serverNil
