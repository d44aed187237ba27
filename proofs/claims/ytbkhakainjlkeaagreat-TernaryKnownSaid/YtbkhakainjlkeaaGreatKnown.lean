/- works and TernaryKnown answer true, in every world: by the kernel's runs. No condition. -/
import Derived.Test.YtbkhakainjlkeaaGreatRunF
import Derived.Test.YtbkhakainjlkeaaGreatTab
set_option maxRecDepth 100000
namespace Go.Proofs.YtbkhakainjlkeaaGreat
open Go Go.Ev Go.Proofs
theorem mixed : Tryz.prog.follows .mixedOrders = true := by kernel_rfl
theorem c0.calls (w : World) : Calls Tryz.prog 17 ⟨[.agg ⟨[.int .i64 (.ofNat 1), .int .i64 (.ofNat 1), .int .i64 (.ofNat 1), .int .i64 (.negSucc 0), .int .i64 (.negSucc 0), .int .i64 (.ofNat 0)]⟩]⟩ w fun e w' => e = .returned (.int .i64 (.ofNat 0)) ∧ RowKit.Below w.heap.size w w' :=
  closed_fastV tables mixed noSm_sim noSum_ok noSum_le 1000000 200 17 [c0] (.flat (.int .i64 (.ofNat 0))) _ _ rfl rfl c0.run w
theorem c1.calls (w : World) : Calls Tryz.prog 17 ⟨[.agg ⟨[.int .i64 (.ofNat 1), .int .i64 (.ofNat 1), .int .i64 (.ofNat 1), .int .i64 (.ofNat 1), .int .i64 (.ofNat 1), .int .i64 (.ofNat 1)]⟩]⟩ w fun e w' => e = .returned (.int .i64 (.ofNat 0)) ∧ RowKit.Below w.heap.size w w' :=
  closed_fastV tables mixed noSm_sim noSum_ok noSum_le 1000000 200 17 [c1] (.flat (.int .i64 (.ofNat 0))) _ _ rfl rfl c1.run w
theorem c2.calls (w : World) : Calls Tryz.prog 17 ⟨[.agg ⟨[.int .i64 (.ofNat 1), .int .i64 (.ofNat 2), .int .i64 (.ofNat 1), .int .i64 (.ofNat 0), .int .i64 (.ofNat 0), .int .i64 (.ofNat 0)]⟩]⟩ w fun e w' => e = .returned (.int .i64 (.ofNat 0)) ∧ RowKit.Below w.heap.size w w' :=
  closed_fastV tables mixed noSm_sim noSum_ok noSum_le 1000000 200 17 [c2] (.flat (.int .i64 (.ofNat 0))) _ _ rfl rfl c2.run w
theorem c3.calls (w : World) : Calls Tryz.prog 17 ⟨[.agg ⟨[.int .i64 (.ofNat 1), .int .i64 (.ofNat 1), .int .i64 (.ofNat 1), .int .i64 (.ofNat 0), .int .i64 (.ofNat 0), .int .i64 (.ofNat 0)]⟩]⟩ w fun e w' => e = .returned (.int .i64 (.ofNat 0)) ∧ RowKit.Below w.heap.size w w' :=
  closed_fastV tables mixed noSm_sim noSum_ok noSum_le 1000000 200 17 [c3] (.flat (.int .i64 (.ofNat 0))) _ _ rfl rfl c3.run w
theorem c4.calls (w : World) : Calls Tryz.prog 17 ⟨[.agg ⟨[.int .i64 (.ofNat 1), .int .i64 (.ofNat 1), .int .i64 (.ofNat 1), .int .i64 (.ofNat 2), .int .i64 (.ofNat 0), .int .i64 (.ofNat 0)]⟩]⟩ w fun e w' => e = .returned (.int .i64 (.ofNat 6)) ∧ RowKit.Below w.heap.size w w' :=
  closed_fastV tables mixed noSm_sim noSum_ok noSum_le 1000000 200 17 [c4] (.flat (.int .i64 (.ofNat 6))) _ _ rfl rfl c4.run w
theorem c5.calls (w : World) : Calls Tryz.prog 17 ⟨[.agg ⟨[.int .i64 (.ofNat 1), .int .i64 (.ofNat 2), .int .i64 (.ofNat 1), .int .i64 (.ofNat 0), .int .i64 (.ofNat 0), .int .i64 (.ofNat 2)]⟩]⟩ w fun e w' => e = .returned (.int .i64 (.ofNat 0)) ∧ RowKit.Below w.heap.size w w' :=
  closed_fastV tables mixed noSm_sim noSum_ok noSum_le 1000000 200 17 [c5] (.flat (.int .i64 (.ofNat 0))) _ _ rfl rfl c5.run w
theorem c6.calls (w : World) : Calls Tryz.prog 17 ⟨[.agg ⟨[.int .i64 (.ofNat 1), .int .i64 (.ofNat 1), .int .i64 (.ofNat 1), .int .i64 (.negSucc 0), .int .i64 (.negSucc 0), .int .i64 (.negSucc 0)]⟩]⟩ w fun e w' => e = .returned (.int .i64 (.ofNat 6)) ∧ RowKit.Below w.heap.size w w' :=
  closed_fastV tables mixed noSm_sim noSum_ok noSum_le 1000000 200 17 [c6] (.flat (.int .i64 (.ofNat 6))) _ _ rfl rfl c6.run w
noncomputable def kC : Known Tryz.prog := Known.add (Known.add (Known.add (Known.add (Known.add (Known.add (Known.add (Known.none _) 17 [c6] (.flat (.int .i64 (.ofNat 6))) _ _ rfl rfl c6.calls) 17 [c5] (.flat (.int .i64 (.ofNat 0))) _ _ rfl rfl c5.calls) 17 [c4] (.flat (.int .i64 (.ofNat 6))) _ _ rfl rfl c4.calls) 17 [c3] (.flat (.int .i64 (.ofNat 0))) _ _ rfl rfl c3.calls) 17 [c2] (.flat (.int .i64 (.ofNat 0))) _ _ rfl rfl c2.calls) 17 [c1] (.flat (.int .i64 (.ofNat 0))) _ _ rfl rfl c1.calls) 17 [c0] (.flat (.int .i64 (.ofNat 0))) _ _ rfl rfl c0.calls
theorem kC_sf : kC.sf = sfC := rfl
theorem r0.runs : RunsTo Tryz.prog 22 [.agg ⟨[.int .i64 (.ofNat 1), .int .i64 (.ofNat 1), .int .i64 (.ofNat 1), .int .i64 (.negSucc 0), .int .i64 (.negSucc 0), .int .i64 (.ofNat 0)]⟩] r0 3757 := closed_fastH tables mixed kC.sim kC.ok kC.le 1000000 200 22 [c0] r0 3757 _ rfl r0.run
theorem r1.runs : RunsTo Tryz.prog 22 [.agg ⟨[.int .i64 (.ofNat 1), .int .i64 (.ofNat 1), .int .i64 (.ofNat 1), .int .i64 (.ofNat 1), .int .i64 (.ofNat 1), .int .i64 (.ofNat 1)]⟩] r1 3727 := closed_fastH tables mixed kC.sim kC.ok kC.le 1000000 200 22 [c1] r1 3727 _ rfl r1.run
theorem r2.runs : RunsTo Tryz.prog 22 [.agg ⟨[.int .i64 (.ofNat 1), .int .i64 (.ofNat 2), .int .i64 (.ofNat 1), .int .i64 (.ofNat 0), .int .i64 (.ofNat 0), .int .i64 (.ofNat 0)]⟩] r2 4421 := closed_fastH tables mixed kC.sim kC.ok kC.le 1000000 200 22 [c2] r2 4421 _ rfl r2.run
noncomputable def kR : Known Tryz.prog := Known.addH (Known.addH (Known.addH (kC) 22 [c2] r2 4421 _ rfl r2.runs) 22 [c1] r1 3727 _ rfl r1.runs) 22 [c0] r0 3757 _ rfl r0.runs
theorem works.calls0 (w : World) : Calls Tryz.prog 9 ⟨[]⟩ w fun e w' => e = .returned (.bool true) ∧ RowKit.Below w.heap.size w w' :=
  closed_fast tables mixed kR.sim kR.ok kR.le 1000000 200 9 [] works.run w
theorem same.calls (w : World) : Calls Tryz.prog 23 ⟨[.agg ⟨[.int .i64 (.ofNat 1), .int .i64 (.ofNat 1), .int .i64 (.ofNat 1), .int .i64 (.negSucc 0), .int .i64 (.negSucc 0), .int .i64 (.ofNat 0)]⟩, .agg ⟨[.int .i64 (.ofNat 1), .int .i64 (.ofNat 1), .int .i64 (.ofNat 1), .int .i64 (.ofNat 1), .int .i64 (.ofNat 1), .int .i64 (.ofNat 1)]⟩]⟩ w fun e w' => e = .returned (.tuple ⟨[.bool true, .int .i64 (.ofNat 0)]⟩) ∧ RowKit.Below w.heap.size w w' :=
  closed_fastV tables mixed kR.sim kR.ok kR.le 1000000 200 23 [c0, c1] same _ _ rfl rfl same.run w
noncomputable def kS : Known Tryz.prog := Known.add (Known.add kR 9 [] (.flat (.bool true)) _ _ rfl rfl works.calls0) 23 [c0, c1] same _ _ rfl rfl same.calls
theorem TernaryKnown.calls0 (w : World) : Calls Tryz.prog 7 ⟨[]⟩ w fun e w' => e = .returned (.bool true) ∧ RowKit.Below w.heap.size w w' :=
  closed_fast tables mixed kS.sim kS.ok kS.le 1000000 200 7 [] known.run w
end Go.Proofs.YtbkhakainjlkeaaGreat
