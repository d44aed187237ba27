-- Made by a program of this session's (fprint.py) over the kit's print.py: printed functions, and what is told of others in texts of ours.
import Derived.Test.YtkgejfokdmdikaaProg
import Derived.Below
import Derived.Deep.Draws
import Derived.Deep.AppendLies
import Derived.Maps.AppendAt
import Derived.OwnWalk
import Derived.Laws.BytesArg
import Derived.Laws.MakeOwn
import Derived.Laws.OwnMore
import Derived.Deep.OwnRows
import Derived.Tactics
import Derived.Lib.ConvBytes
import Derived.Laws.Slices
import Derived.WalkKit
import Derived.KernelRfl
import Derived.RowKit3
import Derived.Deep.LoopGhost
import Derived.Deep.QuietTactic
import Derived.BigQuiet
import Derived.WideLaws
import Derived.Deep.DeepCutAuto
import Derived.Deep.CutBlock
import Derived.Deep.RegionHeld3
import Derived.Laws.Rows
import Derived.Lib.AppendStr
import Derived.ArgAppend
import Derived.Laws.IdiomCopy
import Derived.OrdersHeld
import Derived.Laws.BitsLemmas
import Derived.RowKit
import Derived.Test.YtkgejfokdmdikaaWakes
import Derived.Test.YtkgejfokdmdikaaDv
import Derived.Test.YtkgejfokdmdikaaWWords
import Derived.Test.YtkgejfokdmdikaaWLast
import Derived.Test.YtkgejfokdmdikaaWTab
import Derived.Test.YtkgejfokdmdikaaWFour
import Derived.Test.YtkgejfokdmdikaaWQPut
import Derived.Test.YtkgejfokdmdikaaWApart
import Derived.Test.YtkgejfokdmdikaaWArr
import Derived.Test.YtkgejfokdmdikaaWZeros
import Derived.Test.YtkgejfokdmdikaaWFoot
import Derived.Test.YtkgejfokdmdikaaWKept
import Derived.Test.YtkgejfokdmdikaaWShare
import Derived.Test.YtkgejfokdmdikaaWN
import Derived.Test.YtkgejfokdmdikaaWFootNe
import Derived.Test.YtkgejfokdmdikaaWAt
import Derived.Test.YtkgejfokdmdikaaWEqStruct
import Derived.Test.YtkgejfokdmdikaaWRepsOne
import Derived.Test.YtkgejfokdmdikaaWInv
import Derived.Test.YtkgejfokdmdikaaWInvWords
import Derived.Test.YtkgejfokdmdikaaWGuard
import Derived.Test.YtkgejfokdmdikaaWNEv
import Derived.Test.YtkgejfokdmdikaaWMore
namespace Go.Proofs.Ytkgejfokdmdikaa.PModularFactors
open Go.RowKit Go.Proofs.YtkgejfokdmdikaaW.PrintWords Go.Proofs.YtkgejfokdmdikaaW.PrintLast Go.Proofs.YtkgejfokdmdikaaW.PrintMore
attribute [local go_sem] max2_int min2_int max_two min_two max_three min_three max_four min_four   -- for this text's walks alone
set_option linter.unusedVariables false
set_option linter.unusedSimpArgs false



def errW : Option Int → Value
  | none => .nilIface
  | some c => .iface 0 (.int .i64 c)
theorem errW_none : errW none = .nilIface := rfl
theorem errW_some (c : Int) : errW (some c) = .iface 0 (.int .i64 c) := rfl

theorem info2 : (Try.prog.info? 2).map (fun i => (i.zero, i.size, i.bytes)) = some (some (.int .i64 0), 1, 8) := by kernel_rfl
theorem info38 : (Try.prog.info? 38).map (fun i => (i.zero, i.size, i.bytes)) = some (some (.agg #[(.int .i64 0), (.int .i64 0)]), 2, 16) := by kernel_rfl
end Go.Proofs.Ytkgejfokdmdikaa.PModularFactors
