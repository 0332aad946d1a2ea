import Derived.Test.YtoobfpnphhcaoaaGreatDoorT16
set_option linter.unusedVariables false
set_option linter.unusedSimpArgs false
namespace Go.Ab
open E
theorem livesC4_run : ev K3 none2 pq3 200 7 livesC4.args (heapOf livesC4.pre livesC4.n) (cutK livesC4.val livesC4.post livesC4.n') = some () := by kernel_rfl
end Go.Ab
