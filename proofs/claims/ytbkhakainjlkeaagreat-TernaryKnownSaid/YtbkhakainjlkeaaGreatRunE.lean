/- Runs of works and ternary.Same. No condition. -/
import Derived.Test.YtbkhakainjlkeaaGreatRunB
import Derived.Test.YtbkhakainjlkeaaGreatRunC
import Derived.Test.YtbkhakainjlkeaaGreatRunD
set_option maxRecDepth 100000
namespace Go.Proofs.YtbkhakainjlkeaaGreat
open Go Go.Ev Go.Proofs
def sfR : SmF := orF (memoHF 22 [c0] r0 3757) (orF (memoHF 22 [c1] r1 3727) (orF (memoHF 22 [c2] r2 4421) (sfC)))
theorem works.run : runB sfR tab (maskOf tabMasks) 1000000 200 9 [] = true := by kernel_rfl
def same : AV := .tuple [.flat (.bool true), .flat (.int .i64 (.ofNat 0))]
theorem same.run : runV sfR tab (maskOf tabMasks) 1000000 200 23 [c0, c1] same = true := by kernel_rfl
def sfS : SmF := orF (memoF 23 [c0, c1] same) (orF (memoF 9 [] (.flat (.bool true))) sfR)
end Go.Proofs.YtbkhakainjlkeaaGreat
