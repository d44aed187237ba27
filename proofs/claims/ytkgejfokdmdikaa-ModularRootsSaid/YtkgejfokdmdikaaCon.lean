/- The program's remainders, products and powers, and the law's own, told by what they are: contracts in the printed functions' form. -/
import Derived.Test.YtkgejfokdmdikaaPows
namespace Go.Proofs.Ytkgejfokdmdikaa
open Go Go.RowKit Go.Proofs.YtkgejfokdmdikaaW.PrintWords

def modular_mod.f (a0 : Int) (a1 : Int) : Option (Int) := if 0 < a1 ∧ a1 ≤ 4611686018427387904 then some (a0 % a1) else none
theorem modular_mod.calls (a0 : Int) (a1 : Int) (r : Int) (w : World) (h : modular_mod.f a0 a1 = some r) :
    Calls Try.prog 36 #[.int .i64 a0, .int .i64 a1] w fun e w' => e = .returned (.int .i64 r) ∧ Drawn0 w w' := by
  unfold modular_mod.f at h
  split at h
  · rename_i q
    obtain rfl := Option.some.inj h
    exact PModularMuls.modular_mod.calls a0 a1 _ w (Times.mod_eq a0 a1 q.1 q.2)
  · cases h

def parquetref04_Mod.f (a0 : Int) (a1 : Int) : Option (Int) := if 0 < a1 ∧ a1 ≤ 4611686018427387904 then some (a0 % a1) else none
theorem parquetref04_Mod.calls (a0 : Int) (a1 : Int) (r : Int) (w : World) (h : parquetref04_Mod.f a0 a1 = some r) :
    Calls Try.prog 34 #[.int .i64 a0, .int .i64 a1] w fun e w' => e = .returned (.int .i64 r) ∧ Drawn0 w w' := by
  unfold parquetref04_Mod.f at h
  split at h
  · rename_i q
    obtain rfl := Option.some.inj h
    exact PModularMuls.parquetref04_Mod.calls a0 a1 _ w (Times.rmod_eq a0 a1 q.1 q.2)
  · cases h

def modular_times.f (a0 : Int) (a1 : Int) (a2 : Int) : Option (Int) := if 0 ≤ a0 ∧ a0 < a2 ∧ 0 ≤ a1 ∧ a1 < a2 ∧ a2 ≤ 4611686018427387904 then some (a0 * a1 % a2) else none
theorem modular_times.calls (a0 : Int) (a1 : Int) (a2 : Int) (r : Int) (w : World) (h : modular_times.f a0 a1 a2 = some r) :
    Calls Try.prog 38 #[.int .i64 a0, .int .i64 a1, .int .i64 a2] w fun e w' => e = .returned (.int .i64 r) ∧ Drawn0 w w' := by
  unfold modular_times.f at h
  split at h
  · rename_i q
    obtain rfl := Option.some.inj h
    obtain ⟨k, hk⟩ := Go.Proofs.YtkgejfokdmdikaaW.PrintWords.Ev.rounds (Times.times a0 a1 a2 q.1 q.2.1 q.2.2.1 q.2.2.2.1 q.2.2.2.2)
    exact PModularMuls.modular_times.calls k a0 a1 a2 _ w hk
  · cases h

def parquetref04_Times.f (a0 : Int) (a1 : Int) (a2 : Int) : Option (Int) := if 0 ≤ a0 ∧ a0 < a2 ∧ 0 ≤ a1 ∧ a1 < a2 ∧ a2 ≤ 4611686018427387904 then some (a0 * a1 % a2) else none
theorem parquetref04_Times.calls (a0 : Int) (a1 : Int) (a2 : Int) (r : Int) (w : World) (h : parquetref04_Times.f a0 a1 a2 = some r) :
    Calls Try.prog 40 #[.int .i64 a0, .int .i64 a1, .int .i64 a2] w fun e w' => e = .returned (.int .i64 r) ∧ Drawn0 w w' := by
  unfold parquetref04_Times.f at h
  split at h
  · rename_i q
    obtain rfl := Option.some.inj h
    obtain ⟨k, hk⟩ := Go.Proofs.YtkgejfokdmdikaaW.PrintWords.Ev.rounds (Times.rtimes a0 a1 a2 q.1 q.2.1 q.2.2.1 q.2.2.2.1 q.2.2.2.2)
    exact PModularMuls.parquetref04_Times.calls k a0 a1 a2 _ w hk
  · cases h

def modular_to.f (a0 : Int) (a1 : Int) (a2 : Int) : Option (Int) := if 0 ≤ a1 ∧ a1 ≤ 9223372036854775807 ∧ 0 < a2 ∧ a2 ≤ 4611686018427387904 then some (a0 ^ a1.toNat % a2) else none
theorem modular_to.calls (a0 : Int) (a1 : Int) (a2 : Int) (r : Int) (w : World) (h : modular_to.f a0 a1 a2 = some r) :
    Calls Try.prog 37 #[.int .i64 a0, .int .i64 a1, .int .i64 a2] w fun e w' => e = .returned (.int .i64 r) ∧ Drawn0 w w' := by
  unfold modular_to.f at h
  split at h
  · rename_i q
    obtain rfl := Option.some.inj h
    obtain ⟨k, hk⟩ := Go.Proofs.YtkgejfokdmdikaaW.PrintWords.Ev.rounds ((Times.to_both a0 a1 a2 q.1 q.2.1 q.2.2.1 q.2.2.2).1)
    exact PModularMuls.modular_to.calls k a0 a1 a2 _ w hk
  · cases h

def parquetref04_To.f (a0 : Int) (a1 : Int) (a2 : Int) : Option (Int) := if 0 ≤ a1 ∧ a1 ≤ 9223372036854775807 ∧ 0 < a2 ∧ a2 ≤ 4611686018427387904 then some (a0 ^ a1.toNat % a2) else none
theorem parquetref04_To.calls (a0 : Int) (a1 : Int) (a2 : Int) (r : Int) (w : World) (h : parquetref04_To.f a0 a1 a2 = some r) :
    Calls Try.prog 39 #[.int .i64 a0, .int .i64 a1, .int .i64 a2] w fun e w' => e = .returned (.int .i64 r) ∧ Drawn0 w w' := by
  unfold parquetref04_To.f at h
  split at h
  · rename_i q
    obtain rfl := Option.some.inj h
    obtain ⟨k, hk⟩ := Go.Proofs.YtkgejfokdmdikaaW.PrintWords.Ev.rounds ((Times.to_both a0 a1 a2 q.1 q.2.1 q.2.2.1 q.2.2.2).2)
    exact PModularMuls.parquetref04_To.calls k a0 a1 a2 _ w hk
  · cases h

end Go.Proofs.Ytkgejfokdmdikaa
