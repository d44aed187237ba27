/- The evaluator's tables are the program's: held against it by the kernel. No condition. -/
import Derived.Test.YtbkhakainjlkeaaGreatTabD
import Derived.Test.YtbkhakainjlkeaaGreatEvC
set_option linter.unusedVariables false
set_option maxRecDepth 100000
namespace Go.Proofs.YtbkhakainjlkeaaGreat
open Go Go.Ev
theorem tabTypes_eq : mkTypes Tryz.prog 299 = some tabTypes := by kernel_rfl
theorem tabFuns_eq : mkFuns Tryz.prog [7, 9, 12, 17, 18, 19, 22, 23, 26, 28, 29, 30, 31, 32, 33, 34, 35, 36, 44, 45, 47, 48, 49, 50, 51, 52, 53, 54, 62, 63, 64, 65, 66, 67, 68, 69, 70, 71, 72, 73, 74, 75, 83, 84, 85, 86, 87, 88, 89, 98, 99, 100, 101, 102, 103, 104, 105, 106, 107, 115, 116, 117, 118, 119, 120, 121, 122, 123, 124, 125, 126, 142, 144, 145, 146, 147, 148, 149, 150, 151, 160, 161, 162, 163, 175, 178, 188, 190, 191, 192, 195, 196, 197, 198, 214, 215, 221, 222, 223, 224, 225, 232, 233, 234, 235] = some tabFuns := by kernel_rfl
theorem tabEqs_eq : tabEqs.all (fun t _ => eqChk Tryz.prog t) (fun k => k) = true := by kernel_rfl
theorem tabRegs_eq : tabFuns.all (tabRegs (maskOf tabMasks)) (fun k => k) = true := by kernel_rfl
theorem tables : Tables' Tryz.prog tab tabMasks := tables_mk (T := tab) tabEqs_eq tabTypes_eq tabFuns_eq tabRegs_eq
end Go.Proofs.YtbkhakainjlkeaaGreat
