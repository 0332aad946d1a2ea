import Derived.Test.YtoobfpnphhcaoaaGreatDoorT16
set_option linter.unusedVariables false
set_option linter.unusedSimpArgs false
namespace Go.Ab
open E
theorem livesC6_run : ev K3 none2 pq3 200 7 livesC6.args (heapOf livesC6.pre livesC6.n) (cutK livesC6.val livesC6.post livesC6.n') = some () := by kernel_rfl
end Go.Ab
