import Derived.Test.YtoobfpnphhcaoaaGreatDoorT16
set_option linter.unusedVariables false
set_option linter.unusedSimpArgs false
namespace Go.Ab
open E
theorem livesC8_run : ev K3 none2 pq3 200 7 livesC8.args (heapOf livesC8.pre livesC8.n) (cutK livesC8.val livesC8.post livesC8.n') = some () := by kernel_rfl
end Go.Ab
