import Derived.Test.YtoobfpnphhcaoaaGreatDoorCards
import Derived.ProofKit
import Derived.Deep.DeepHandedRow
set_option linter.unusedVariables false
set_option linter.unusedSimpArgs false
/- The card's closed facts. -/
namespace Go.Proofs.YtoobfpnphhcaoaaGreatDoor.serverNil
theorem kLooks : false = Tryz.prog.looks [] := by kernel_rfl
end Go.Proofs.YtoobfpnphhcaoaaGreatDoor.serverNil
