/- A run of TernaryKnown. No condition. -/
import Derived.Test.YtbkhakainjlkeaaGreatRunE
set_option maxRecDepth 100000
namespace Go.Proofs.YtbkhakainjlkeaaGreat
open Go Go.Ev Go.Proofs
theorem known.run : runB sfS tab (maskOf tabMasks) 1000000 200 7 [] = true := by kernel_rfl
end Go.Proofs.YtbkhakainjlkeaaGreat
