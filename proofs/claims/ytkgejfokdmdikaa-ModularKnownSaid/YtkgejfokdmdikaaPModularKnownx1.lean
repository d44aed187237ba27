-- Made by a program of this session's (fprint.py) over the kit's print.py: printed functions, and what is told of others in texts of ours.
import Derived.Test.YtkgejfokdmdikaaPModularKnownx0
namespace Go.Proofs.Ytkgejfokdmdikaa.PModularKnown
open Go.RowKit Go.Proofs.YtkgejfokdmdikaaW.PrintWords Go.Proofs.YtkgejfokdmdikaaW.PrintLast Go.Proofs.YtkgejfokdmdikaaW.PrintMore
attribute [local go_sem] max2_int min2_int max_two min_two max_three min_three max_four min_four   -- for this text's walks alone
set_option linter.unusedVariables false
set_option linter.unusedSimpArgs false

-- told in a text of ours: function 10 (parquetlaw04_ModularKnown)

def parquetlaw04_ModularKnown.Pure : Prop := True
theorem parquetlaw04_ModularKnown.walk (_ : parquetlaw04_ModularKnown.Pure) (w : World) :
    Calls Try.prog 10 #[] w fun e w' => e = .returned (.bool true) ∧ Below w.heap.size w w' := by
  refine (parquetlaw04_ModularKnown.calls true w rfl).mono ?_
  rintro e w' ⟨rfl, hd⟩
  exact ⟨rfl, hd⟩

end Go.Proofs.Ytkgejfokdmdikaa.PModularKnown
