import Derived.Test.YtoobfpnphhcaoaaGreatDoorCards
import Derived.ProofKit
import Derived.Test.YtoobfpnphhcaoaaGreatDoorT32
import Derived.Test.YtoobfpnphhcaoaaGreatDoorT35
import Derived.Test.YtoobfpnphhcaoaaGreatDoorT36
import Derived.Test.YtoobfpnphhcaoaaGreatDoorT37
import Derived.Test.YtoobfpnphhcaoaaGreatDoorT38
import Derived.Test.YtoobfpnphhcaoaaGreatDoorT39
import Derived.Test.YtoobfpnphhcaoaaGreatDoorT40
import Derived.Deep.DeepHandedRow
set_option linter.unusedVariables false
set_option linter.unusedSimpArgs false
/- The row's closed facts. -/
namespace Go.Proofs.YtoobfpnphhcaoaaGreatDoor.serverNil
theorem both {a b : Bool} (h : a = true) (k : b = true) : (a && b) = true := by rw [h, k]; rfl
theorem closed : joinedFacts Tryz.prog 5 Tryz.f5 (OpenSpec.ofChange Rows.serverNilSpec).bare Rows.serverNilRow = true := by
  unfold joinedFacts
  exact (both (both (both (both (both (both (both (both (both (both (both (both (both (both (both (both (both (both (both (both (both (both (both (both (both (both (both (both (both (both (both (by kernel_rfl) laidOut) cA) (by kernel_rfl)) (by kernel_rfl)) (by kernel_rfl)) (by kernel_rfl)) (by kernel_rfl)) (by kernel_rfl)) cC) cD) cE) cF) (by kernel_rfl)) (by kernel_rfl)) (by kernel_rfl)) (by kernel_rfl)) (by kernel_rfl)) (by kernel_rfl)) (by kernel_rfl)) (by kernel_rfl)) (by kernel_rfl)) cB) (by kernel_rfl)) (by kernel_rfl)) cH) cG) (by kernel_rfl)) (by kernel_rfl)) (by kernel_rfl)) (by kernel_rfl)) (by kernel_rfl))
end Go.Proofs.YtoobfpnphhcaoaaGreatDoor.serverNil
