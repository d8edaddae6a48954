/- Abs 32: running code by simp. -/
import Derived.Test.YtddpdpjpfgnhmaaGreatG18x
import Derived.Test.YtddpdpjpfgnhmaaGreatG20x
set_option linter.unusedSimpArgs false
set_option linter.unusedVariables false
set_option maxHeartbeats 4000000
namespace Go.Abs
@[simp] theorem zla1 (m:Nat):(Tm.leaf).get m=.undef:=rfl
variable {call:CallF} {lp:LoopF}
end Go.Abs
