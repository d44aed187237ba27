/- A run of ternary.Reduce. No condition. -/
import Derived.Test.YtbkhakainjlkeaaGreatRunA
set_option maxRecDepth 100000
namespace Go.Proofs.YtbkhakainjlkeaaGreat
open Go Go.Ev Go.Proofs
def r2 : AV := .tuple [.agg [.flat (.int .i64 (.ofNat 1)), .flat (.int .i64 (.ofNat 1)), .flat (.int .i64 (.ofNat 2)), .flat (.int .i64 (.ofNat 0)), .flat (.int .i64 (.ofNat 0)), .flat (.int .i64 (.ofNat 0))], .slice 4420 0 3 (.toEnd 1), .flat (.int .i64 (.ofNat 0))]
theorem r2.run : runH sfC tab (maskOf tabMasks) 1000000 200 22 [c2] r2 4421 = true := by kernel_rfl
end Go.Proofs.YtbkhakainjlkeaaGreat
