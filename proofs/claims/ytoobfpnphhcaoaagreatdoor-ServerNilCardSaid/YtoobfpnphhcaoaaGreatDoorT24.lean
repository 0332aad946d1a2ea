import Derived.Test.YtoobfpnphhcaoaaGreatDoorT16
set_option linter.unusedVariables false
set_option linter.unusedSimpArgs false
namespace Go.Ab
open E
theorem livesC7_run : ev K3 none2 pq3 200 8 livesC7.args (heapOf livesC7.pre livesC7.n) (cutK livesC7.val livesC7.post livesC7.n') = some () := by kernel_rfl
end Go.Ab
