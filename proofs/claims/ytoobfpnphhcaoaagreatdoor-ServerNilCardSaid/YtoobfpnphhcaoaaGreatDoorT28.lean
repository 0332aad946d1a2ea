import Derived.Test.YtoobfpnphhcaoaaGreatDoorT16
set_option linter.unusedVariables false
set_option linter.unusedSimpArgs false
namespace Go.Ab
open E
theorem livesC11_run : ev K3 none2 pq3 200 8 livesC11.args (heapOf livesC11.pre livesC11.n) (cutK livesC11.val livesC11.post livesC11.n') = some () := by kernel_rfl
end Go.Ab
