/- No lattice has no number, or more than eight: 'lattice' answers nil and ErrArg. Its condition: the number is below 1 or above 8. -/
import Derived.Test.YtllocgmbjjoemaaProg
import Derived.WalkKit
import Derived.Below
namespace Go.Proofs.Ytllocgmbjjoemaa
open Go Go.RowKit
set_option linter.unusedVariables false
theorem lattice_out (l n : Int) (w : World) (h : n < 1 ∨ 8 < n) :
    Calls Try.prog 14 #[.int .u8 l, .int .i64 n] w fun e w' => e = .returned (.tuple #[.slice none 0 0, .int .i64 2]) ∧ Below w.heap.size w w' := by
  have key : (n < 1 ∧ n < 3 ∧ n < 6) ∨ 8 < n := by omega
  by_cases h1 : l = 68
  · subst h1
    rcases key with ⟨k1, k3, k6⟩ | k
    · go_enter Try.func14, Try.ntmps14
      go_wp2
      all_goals (go_ret2; exact ⟨rfl, Below.refl _ _⟩)
    · go_enter Try.func14, Try.ntmps14
      go_wp2
      all_goals (go_ret2; exact ⟨rfl, Below.refl _ _⟩)
  · by_cases h2 : l = 69
    · subst h2
      rcases key with ⟨k1, k3, k6⟩ | k
      · go_enter Try.func14, Try.ntmps14
        go_wp2
        all_goals (go_ret2; exact ⟨rfl, Below.refl _ _⟩)
      · go_enter Try.func14, Try.ntmps14
        go_wp2
        all_goals (go_ret2; exact ⟨rfl, Below.refl _ _⟩)
    · rcases key with ⟨k1, k3, k6⟩ | k
      · go_enter Try.func14, Try.ntmps14
        go_wp2
        all_goals (go_ret2; exact ⟨rfl, Below.refl _ _⟩)
      · go_enter Try.func14, Try.ntmps14
        go_wp2
        all_goals (go_ret2; exact ⟨rfl, Below.refl _ _⟩)
end Go.Proofs.Ytllocgmbjjoemaa
