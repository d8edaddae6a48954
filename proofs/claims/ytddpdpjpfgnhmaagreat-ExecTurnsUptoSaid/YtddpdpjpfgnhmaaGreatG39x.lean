/- Exec: what each law asks at its end. -/
import Derived.Test.YtddpdpjpfgnhmaaGreatG38x
import Derived.KernelRfl
set_option linter.unusedSimpArgs false
set_option linter.unusedVariables false
set_option maxHeartbeats 4000000
set_option maxRecDepth 100000
namespace Go.Abs.Plan
open Go.Abs
theorem alive_run : zu (callK tblE 300) (lpK 300) a_law19_alive [] = some (.bool true) := by kernel_rfl
theorem alive_call (H : Heap) : callW tblE (.func f_law19_alive [] []) [] H = some (.bool true, H) := callP_closed rfl rfl rfl rfl (runPure_closed alive_run) H
end Go.Abs.Plan
