import Derived.Test.YtoobfpnphhcaoaaGreatDoorCards
import Derived.ProofKit
import Derived.Deep.DeepHandedRow
set_option linter.unusedVariables false
set_option linter.unusedSimpArgs false
/- The row's closed facts. -/
namespace Go.Proofs.YtoobfpnphhcaoaaGreatDoor.serverNil
theorem cE : (Rows.serverNilRow.recurses == Tryz.prog.recurses 5) = true := by kernel_rfl
end Go.Proofs.YtoobfpnphhcaoaaGreatDoor.serverNil
