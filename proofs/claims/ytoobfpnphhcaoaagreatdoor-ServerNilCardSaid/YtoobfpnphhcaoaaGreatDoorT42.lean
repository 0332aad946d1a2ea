import Derived.Test.YtoobfpnphhcaoaaGreatDoorCards
import Derived.ProofKit
import Derived.Deep.DeepHandedRow
set_option linter.unusedVariables false
set_option linter.unusedSimpArgs false
/- The card's closed facts. -/
namespace Go.Proofs.YtoobfpnphhcaoaaGreatDoor.serverNil
theorem kMain : Tryz.prog.mainIs = some (true, ("97b67b613672dbdf5d1ef32aefd4dc0d38a6a672c7831ed6cad9003ca883b193" : String).toList) := by kernel_rfl
end Go.Proofs.YtoobfpnphhcaoaaGreatDoor.serverNil
