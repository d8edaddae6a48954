/- Exec: what each law asks at its end. -/
import Derived.Test.YtddpdpjpfgnhmaaGreatG39x
import Derived.KernelRfl
set_option linter.unusedSimpArgs false
set_option linter.unusedVariables false
set_option maxHeartbeats 4000000
set_option maxRecDepth 100000
namespace Go.Abs.Plan
open Go.Abs
theorem zx21:zy (callK tblE 300) (lpK 300) zjd []=some (.bool true):=by kernel_rfl
theorem zaz (H:Heap):callW tblE (.func zcd [] []) [] H=some (.bool true,H):=zt7 rfl rfl rfl rfl (zsf zx21) H
end Go.Abs.Plan
