import Derived.Test.YtoobfpnphhcaoaaGreatDoorT16
set_option linter.unusedVariables false
set_option linter.unusedSimpArgs false
namespace Go.Ab
open E
theorem livesC1_run : ev K3 none2 pq3 200 8 livesC1.args (heapOf livesC1.pre livesC1.n) (cutK livesC1.val livesC1.post livesC1.n') = some () := by kernel_rfl
end Go.Ab
