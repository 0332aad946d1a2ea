import Derived.Test.YtoobfpnphhcaoaaGreatDoorCards
set_option linter.unusedVariables false
set_option linter.unusedSimpArgs false
/- The function's number, by its name. -/
namespace Go.Proofs.YtoobfpnphhcaoaaGreatDoor.serverNil
theorem named : Tryz.prog.funcNamed "refectory/refectorylaw25.ServerNil" = some 5 := by kernel_rfl
end Go.Proofs.YtoobfpnphhcaoaaGreatDoor.serverNil
