import Derived.Test.YtoobfpnphhcaoaaGreatDoorT16
set_option linter.unusedVariables false
set_option linter.unusedSimpArgs false
namespace Go.Ab
open E
theorem livesC2_run : ev K3 none2 pq3 200 7 livesC2.args (heapOf livesC2.pre livesC2.n) (cutK livesC2.val livesC2.post livesC2.n') = some () := by kernel_rfl
end Go.Ab
