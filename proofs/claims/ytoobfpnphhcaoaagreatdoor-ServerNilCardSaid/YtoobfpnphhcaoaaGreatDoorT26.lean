import Derived.Test.YtoobfpnphhcaoaaGreatDoorT16
set_option linter.unusedVariables false
set_option linter.unusedSimpArgs false
namespace Go.Ab
open E
theorem livesC9_run : ev K3 none2 pq3 200 8 livesC9.args (heapOf livesC9.pre livesC9.n) (cutK livesC9.val livesC9.post livesC9.n') = some () := by kernel_rfl
end Go.Ab
