import Derived.Test.YtoobfpnphhcaoaaGreatDoorCards
import Derived.ProofKit
import Derived.Deep.DeepHandedRow
set_option linter.unusedVariables false
set_option linter.unusedSimpArgs false
/- The row's closed facts. -/
namespace Go.Proofs.YtoobfpnphhcaoaaGreatDoor.serverNil
theorem cA : mapsRowed Tryz.prog = true := by kernel_rfl
theorem cB : (Rows.serverNilRow.plainKeys == Tryz.prog.plainKeys) = true := by kernel_rfl
end Go.Proofs.YtoobfpnphhcaoaaGreatDoor.serverNil
