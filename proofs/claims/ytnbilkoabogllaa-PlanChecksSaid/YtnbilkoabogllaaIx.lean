/- Plan: awake. -/
import Derived.Test.YtnbilkoabogllaaGx
import Derived.Test.YtnbilkoabogllaaA36x
import Derived.KernelRfl
namespace Go.Abs.Plan
open Go Go.Abs
theorem awake_run : runPure (callK tbl 300) (lpK 300) a_law18_awake [] = some (.bool true) := by kernel_rfl
theorem awake_call (H : Heap) : callW tbl (.func f_law18_awake [] []) [] H = some (.bool true, H) := callP_closed rfl rfl rfl rfl (runPure_closed awake_run) H
end Go.Abs.Plan

