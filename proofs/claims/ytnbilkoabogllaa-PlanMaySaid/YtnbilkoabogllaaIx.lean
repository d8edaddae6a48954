/- Plan: awake. -/
import Derived.Test.YtnbilkoabogllaaGx
import Derived.KernelRfl
namespace Go.Abs.Plan
open Go Go.Abs
theorem awake : callK tbl 300 (.func 7 [] []) [] [] = some (.bool true, []) := by kernel_rfl
end Go.Abs.Plan

