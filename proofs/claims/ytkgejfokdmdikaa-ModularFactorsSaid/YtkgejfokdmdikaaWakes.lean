/- Closed calls that answer true, in every world: by the kernel's run of the evaluator. No condition. -/
import Derived.Test.YtkgejfokdmdikaaTab
import Derived.KernelRfl
set_option maxRecDepth 100000
namespace Go.Proofs.Ytkgejfokdmdikaa
open Go Go.Ev Go.Proofs
theorem parquetlaw04_wakes.run : (match evCall tab (maskOf tabMasks) 1000000 200 14 [] Hp.empty with | some (.ret (.flat (.bool c)), _) => cond true c (!c) | _ => false) = true := by kernel_rfl
def parquetlaw04_wakes.f : Option (Bool) := some true
theorem parquetlaw04_wakes.calls (r : Bool) (w : World) (h : parquetlaw04_wakes.f = some r) :
    Calls Try.prog 14 #[] w fun e w' => e = .returned (.bool r) ∧ RowKit.Below w.heap.size w w' := by
  obtain rfl : true = r := Option.some.inj h
  exact closed_call tables (by kernel_rfl) 1000000 200 14 true parquetlaw04_wakes.run w
end Go.Proofs.Ytkgejfokdmdikaa
