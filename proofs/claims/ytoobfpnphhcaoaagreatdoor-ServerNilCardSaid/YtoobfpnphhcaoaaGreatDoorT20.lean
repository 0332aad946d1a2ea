import Derived.Test.YtoobfpnphhcaoaaGreatDoorT16
set_option linter.unusedVariables false
set_option linter.unusedSimpArgs false
namespace Go.Ab
open E
theorem livesC3_run : ev K3 none2 pq3 200 8 livesC3.args (heapOf livesC3.pre livesC3.n) (cutK livesC3.val livesC3.post livesC3.n') = some () := by kernel_rfl
end Go.Ab
