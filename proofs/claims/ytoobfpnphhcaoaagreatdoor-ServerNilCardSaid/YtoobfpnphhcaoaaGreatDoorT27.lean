import Derived.Test.YtoobfpnphhcaoaaGreatDoorT16
set_option linter.unusedVariables false
set_option linter.unusedSimpArgs false
namespace Go.Ab
open E
theorem livesC10_run : ev K3 none2 pq3 200 7 livesC10.args (heapOf livesC10.pre livesC10.n) (cutK livesC10.val livesC10.post livesC10.n') = some () := by kernel_rfl
end Go.Ab
