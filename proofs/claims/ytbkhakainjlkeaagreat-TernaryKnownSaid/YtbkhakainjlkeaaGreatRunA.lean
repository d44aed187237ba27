/- Runs of ternary.Check at some forms. No condition. -/
import Derived.Test.YtbkhakainjlkeaaGreatTabD
import Derived.KernelRfl
set_option maxRecDepth 100000
namespace Go.Proofs.YtbkhakainjlkeaaGreat
open Go Go.Ev Go.Proofs
def c0 : AV := .agg [.flat (.int .i64 (.ofNat 1)), .flat (.int .i64 (.ofNat 1)), .flat (.int .i64 (.ofNat 1)), .flat (.int .i64 (.negSucc 0)), .flat (.int .i64 (.negSucc 0)), .flat (.int .i64 (.ofNat 0))]
theorem c0.run : runV noSmF tab (maskOf tabMasks) 1000000 200 17 [c0] (.flat (.int .i64 (.ofNat 0))) = true := by kernel_rfl
def c1 : AV := .agg [.flat (.int .i64 (.ofNat 1)), .flat (.int .i64 (.ofNat 1)), .flat (.int .i64 (.ofNat 1)), .flat (.int .i64 (.ofNat 1)), .flat (.int .i64 (.ofNat 1)), .flat (.int .i64 (.ofNat 1))]
theorem c1.run : runV noSmF tab (maskOf tabMasks) 1000000 200 17 [c1] (.flat (.int .i64 (.ofNat 0))) = true := by kernel_rfl
def c2 : AV := .agg [.flat (.int .i64 (.ofNat 1)), .flat (.int .i64 (.ofNat 2)), .flat (.int .i64 (.ofNat 1)), .flat (.int .i64 (.ofNat 0)), .flat (.int .i64 (.ofNat 0)), .flat (.int .i64 (.ofNat 0))]
theorem c2.run : runV noSmF tab (maskOf tabMasks) 1000000 200 17 [c2] (.flat (.int .i64 (.ofNat 0))) = true := by kernel_rfl
def c3 : AV := .agg [.flat (.int .i64 (.ofNat 1)), .flat (.int .i64 (.ofNat 1)), .flat (.int .i64 (.ofNat 1)), .flat (.int .i64 (.ofNat 0)), .flat (.int .i64 (.ofNat 0)), .flat (.int .i64 (.ofNat 0))]
theorem c3.run : runV noSmF tab (maskOf tabMasks) 1000000 200 17 [c3] (.flat (.int .i64 (.ofNat 0))) = true := by kernel_rfl
def c4 : AV := .agg [.flat (.int .i64 (.ofNat 1)), .flat (.int .i64 (.ofNat 1)), .flat (.int .i64 (.ofNat 1)), .flat (.int .i64 (.ofNat 2)), .flat (.int .i64 (.ofNat 0)), .flat (.int .i64 (.ofNat 0))]
theorem c4.run : runV noSmF tab (maskOf tabMasks) 1000000 200 17 [c4] (.flat (.int .i64 (.ofNat 6))) = true := by kernel_rfl
def c5 : AV := .agg [.flat (.int .i64 (.ofNat 1)), .flat (.int .i64 (.ofNat 2)), .flat (.int .i64 (.ofNat 1)), .flat (.int .i64 (.ofNat 0)), .flat (.int .i64 (.ofNat 0)), .flat (.int .i64 (.ofNat 2))]
theorem c5.run : runV noSmF tab (maskOf tabMasks) 1000000 200 17 [c5] (.flat (.int .i64 (.ofNat 0))) = true := by kernel_rfl
def c6 : AV := .agg [.flat (.int .i64 (.ofNat 1)), .flat (.int .i64 (.ofNat 1)), .flat (.int .i64 (.ofNat 1)), .flat (.int .i64 (.negSucc 0)), .flat (.int .i64 (.negSucc 0)), .flat (.int .i64 (.negSucc 0))]
theorem c6.run : runV noSmF tab (maskOf tabMasks) 1000000 200 17 [c6] (.flat (.int .i64 (.ofNat 6))) = true := by kernel_rfl
def sfC : SmF := orF (memoF 17 [c0] (.flat (.int .i64 (.ofNat 0)))) (orF (memoF 17 [c1] (.flat (.int .i64 (.ofNat 0)))) (orF (memoF 17 [c2] (.flat (.int .i64 (.ofNat 0)))) (orF (memoF 17 [c3] (.flat (.int .i64 (.ofNat 0)))) (orF (memoF 17 [c4] (.flat (.int .i64 (.ofNat 6)))) (orF (memoF 17 [c5] (.flat (.int .i64 (.ofNat 0)))) (orF (memoF 17 [c6] (.flat (.int .i64 (.ofNat 6)))) (noSmF)))))))
end Go.Proofs.YtbkhakainjlkeaaGreat
