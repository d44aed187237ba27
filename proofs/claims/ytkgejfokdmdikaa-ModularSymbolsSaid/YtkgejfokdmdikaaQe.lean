/- bits.LeadingZeros64 in the printed functions' form. No condition. -/
import Derived.Test.YtkgejfokdmdikaaQa
import Derived.Test.YtkgejfokdmdikaaQd
section
namespace Go.Proofs.Ytkgejfokdmdikaa
open Go Go.Proofs
def bits_LeadingZeros64.f (a0 : Int) : Option (Int) := if 0 ≤ a0 ∧ a0 ≤ 18446744073709551615 then some (64 - (Lib.bitLen a0.toNat : Int)) else none
theorem bits_LeadingZeros64.calls (a0 : Int) (r : Int) (w : World) (h : bits_LeadingZeros64.f a0 = some r) :
    Calls Try.prog 65 #[.int .u64 a0] w fun e w' => e = .returned (.int .i64 r) ∧ YtkgejfokdmdikaaW.PrintWords.Drawn0 w w' := by
  unfold bits_LeadingZeros64.f at h
  split at h
  · rename_i q
    obtain rfl := Option.some.inj h
    refine (bits_LeadingZeros64_shelf a0 w q.1 q.2).mono fun e w' z => ?_
    obtain ⟨rfl, rfl⟩ := z
    exact ⟨rfl, YtkgejfokdmdikaaW.PrintWords.Drawn0.refl _⟩
  · cases h
end Go.Proofs.Ytkgejfokdmdikaa
end
