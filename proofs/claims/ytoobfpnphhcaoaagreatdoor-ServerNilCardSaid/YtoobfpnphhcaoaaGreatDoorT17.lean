import Derived.Test.YtoobfpnphhcaoaaGreatDoorT16
set_option linter.unusedVariables false
set_option linter.unusedSimpArgs false
namespace Go.Ab
open E
theorem livesC0_run : ev K3 none2 pq3 200 7 livesC0.args (heapOf livesC0.pre livesC0.n) (cutK livesC0.val livesC0.post livesC0.n') = some () := by kernel_rfl
end Go.Ab
