import Derived.Test.YtkgejfokdmdikaaPModularKnownx1
namespace Go.Proofs.Ytkgejfokdmdikaa.Pure
open Go.RowKit Go.Proofs.Ytkgejfokdmdikaa.PModularKnown Go.Proofs.YtkgejfokdmdikaaW.PrintWords Go.Proofs.YtkgejfokdmdikaaW.PrintLast

/-- YOURS: True
What it reaches (each with k first where it has rounds; `.mono`: more rounds tell the same; `.l0`, ..: its loops, with `.mono_l`): parquetlaw04_ModularKnown.f -/
theorem ModularKnown : parquetlaw04_ModularKnown.Pure := by
  trivial

end Go.Proofs.Ytkgejfokdmdikaa.Pure
