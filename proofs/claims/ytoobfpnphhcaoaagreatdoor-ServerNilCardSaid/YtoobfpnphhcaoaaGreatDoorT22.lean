import Derived.Test.YtoobfpnphhcaoaaGreatDoorT16
set_option linter.unusedVariables false
set_option linter.unusedSimpArgs false
namespace Go.Ab
open E
theorem livesC5_run : ev K3 none2 pq3 200 8 livesC5.args (heapOf livesC5.pre livesC5.n) (cutK livesC5.val livesC5.post livesC5.n') = some () := by kernel_rfl
end Go.Ab
