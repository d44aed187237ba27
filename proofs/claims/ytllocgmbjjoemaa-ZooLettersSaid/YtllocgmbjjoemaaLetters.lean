/- The lattices of the letters: the law answers true at every number: at 1 to 8, and at one number of each kind beside them, by the kernel's run of the evaluator. No condition. -/
import Derived.Test.YtllocgmbjjoemaaTab
import Derived.Test.YtllocgmbjjoemaaLat
import Derived.KernelRfl
set_option maxRecDepth 100000
namespace Go.Proofs.Ytllocgmbjjoemaa
open Go Go.Ev Go.Proofs
theorem wakes_run : (match evCall noSum tab (maskOf tabMasks) 1000000 200 11 [] Hp.empty with | some (.ret (.flat (.bool c)), _) => cond true c (!c) | _ => false) = true := by kernel_rfl
theorem wakes_calls (w : World) : Calls Try.prog 11 #[] w fun e w' => e = .returned (.bool true) ∧ RowKit.Below w.heap.size w w' :=
  closed_call tables (by kernel_rfl) 1000000 200 11 true wakes_run w
def outside : List Value → Option Value
  | [.int .u8 _, .int .i64 n] => cond (ilt n 1 || ilt 8 n) (some (.tuple #[.slice none 0 0, .int .i64 2])) none
  | _ => none
def woken : List Value → Option Value
  | [] => some (.bool true)
  | _ => none
def sm : CallF := sumOr (sumOf 14 outside) (sumOf 11 woken)
theorem sm_ok : CallOk Try.prog sm := by
  refine sumOr_ok (sumOf_ok fun l v h w => ?_) (sumOf_ok fun l v h w => ?_)
  · unfold outside at h
    split at h
    · rename_i a n
      cases hc : (ilt n 1 || ilt 8 n) with
      | false => rw [hc] at h; cases h
      | true =>
        simp only [hc, cond_true, Option.some.injEq] at h
        subst h
        simp only [Bool.or_eq_true, ilt_eq, decide_eq_true_eq] at hc
        exact lattice_out a n w hc
    · cases h
  · unfold woken at h
    split at h
    · simp only [Option.some.injEq] at h
      subst h
      exact wakes_calls w
    · cases h
theorem sm_le : CallLe sm := sumOr_le sumOf_le sumOf_le
theorem of_run (n : Int) (h : (match evCall sm tab (maskOf tabMasks) 1000000 200 3 [.flat (.int .i64 n)] Hp.empty with | some (.ret (.flat (.bool c)), _) => cond true c (!c) | _ => false) = true) (w : World) :
    Calls Try.prog 3 #[.int .i64 n] w fun e w' => e = .returned (.bool true) ∧ RowKit.Below w.heap.size w w' :=
  closed_callA tables (by kernel_rfl) sm_ok sm_le 1000000 200 3 [.int .i64 n] true h w
theorem letters_m1 : (match evCall sm tab (maskOf tabMasks) 1000000 200 3 [.flat (.int .i64 (.negSucc 0))] Hp.empty with | some (.ret (.flat (.bool c)), _) => cond true c (!c) | _ => false) = true := by kernel_rfl
theorem letters_m (m : Nat) : (match evCall sm tab (maskOf tabMasks) 1000000 200 3 [.flat (.int .i64 (.negSucc (m + 1)))] Hp.empty with | some (.ret (.flat (.bool c)), _) => cond true c (!c) | _ => false) = true := by kernel_rfl
theorem letters_0 : (match evCall sm tab (maskOf tabMasks) 1000000 200 3 [.flat (.int .i64 (.ofNat 0))] Hp.empty with | some (.ret (.flat (.bool c)), _) => cond true c (!c) | _ => false) = true := by kernel_rfl
theorem letters_1 : (match evCall sm tab (maskOf tabMasks) 1000000 200 3 [.flat (.int .i64 (.ofNat 1))] Hp.empty with | some (.ret (.flat (.bool c)), _) => cond true c (!c) | _ => false) = true := by kernel_rfl
theorem letters_2 : (match evCall sm tab (maskOf tabMasks) 1000000 200 3 [.flat (.int .i64 (.ofNat 2))] Hp.empty with | some (.ret (.flat (.bool c)), _) => cond true c (!c) | _ => false) = true := by kernel_rfl
theorem letters_3 : (match evCall sm tab (maskOf tabMasks) 1000000 200 3 [.flat (.int .i64 (.ofNat 3))] Hp.empty with | some (.ret (.flat (.bool c)), _) => cond true c (!c) | _ => false) = true := by kernel_rfl
theorem letters_4 : (match evCall sm tab (maskOf tabMasks) 1000000 200 3 [.flat (.int .i64 (.ofNat 4))] Hp.empty with | some (.ret (.flat (.bool c)), _) => cond true c (!c) | _ => false) = true := by kernel_rfl
theorem letters_5 : (match evCall sm tab (maskOf tabMasks) 1000000 200 3 [.flat (.int .i64 (.ofNat 5))] Hp.empty with | some (.ret (.flat (.bool c)), _) => cond true c (!c) | _ => false) = true := by kernel_rfl
theorem letters_6 : (match evCall sm tab (maskOf tabMasks) 1000000 200 3 [.flat (.int .i64 (.ofNat 6))] Hp.empty with | some (.ret (.flat (.bool c)), _) => cond true c (!c) | _ => false) = true := by kernel_rfl
theorem letters_7 : (match evCall sm tab (maskOf tabMasks) 1000000 200 3 [.flat (.int .i64 (.ofNat 7))] Hp.empty with | some (.ret (.flat (.bool c)), _) => cond true c (!c) | _ => false) = true := by kernel_rfl
theorem letters_8 : (match evCall sm tab (maskOf tabMasks) 1000000 200 3 [.flat (.int .i64 (.ofNat 8))] Hp.empty with | some (.ret (.flat (.bool c)), _) => cond true c (!c) | _ => false) = true := by kernel_rfl
theorem letters_p (m : Nat) : (match evCall sm tab (maskOf tabMasks) 1000000 200 3 [.flat (.int .i64 (.ofNat (m + 9)))] Hp.empty with | some (.ret (.flat (.bool c)), _) => cond true c (!c) | _ => false) = true := by kernel_rfl
theorem letters_calls (n : Int) (w : World) : Calls Try.prog 3 #[.int .i64 n] w fun e w' => e = .returned (.bool true) ∧ RowKit.Below w.heap.size w w' := by
  refine of_run n ?_ w
  match n with
  | .negSucc 0 => exact letters_m1
  | .negSucc (m + 1) => exact letters_m m
  | .ofNat 0 => exact letters_0
  | .ofNat 1 => exact letters_1
  | .ofNat 2 => exact letters_2
  | .ofNat 3 => exact letters_3
  | .ofNat 4 => exact letters_4
  | .ofNat 5 => exact letters_5
  | .ofNat 6 => exact letters_6
  | .ofNat 7 => exact letters_7
  | .ofNat 8 => exact letters_8
  | .ofNat (m + 9) => exact letters_p m
end Go.Proofs.Ytllocgmbjjoemaa
