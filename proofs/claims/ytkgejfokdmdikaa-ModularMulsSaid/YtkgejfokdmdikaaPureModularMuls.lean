/- The program's products and powers modulo a number, and the law's own, are the same; at any three numbers. -/
import Derived.Test.YtkgejfokdmdikaaPows
namespace Go.Proofs.Ytkgejfokdmdikaa.Pure
open Go Go.RowKit Go.Proofs.YtkgejfokdmdikaaW.PrintWords PModularMuls Times

theorem mul_both (a b m : Int) : ∃ r, Evl (fun k => modular_Mul.f k a b m) r ∧ Evl (fun k => parquetref04_Mul.f k a b m) r := by
  by_cases h : m < 1 ∨ m > 4611686018427387904
  · refine ⟨(0, 2), ?_, ?_⟩
    · refine evl_congr (f := fun k => modular_Mul.j0 k a b m true) (fun k => ?_) (evl_step (f := fun _ => some (0, 2)) (fun k => ?_) (evl_now _))
      · rw [modular_Mul.f]
        rcases h with h | h
        · rw [if_pos h]
        · rw [if_neg (by omega), decide_eq_true h]
      · rw [modular_Mul.j0, if_pos rfl]
    · refine evl_congr (f := fun k => parquetref04_Mul.j0 k a b m true) (fun k => ?_) (evl_step (f := fun _ => some (0, 2)) (fun k => ?_) (evl_now _))
      · rw [parquetref04_Mul.f]
        rcases h with h | h
        · rw [if_pos h]
        · rw [if_neg (by omega), decide_eq_true h]
      · rw [parquetref04_Mul.j0, if_pos rfl]
  · have hm : 0 < m := by omega
    have m1 : m ≤ 4611686018427387904 := by omega
    have a0 := Int.emod_nonneg a (b := m) (by omega)
    have a1 := Int.emod_lt_of_pos a hm
    have b0 := Int.emod_nonneg b (b := m) (by omega)
    have b1 := Int.emod_lt_of_pos b hm
    refine ⟨((a % m) * (b % m) % m, 0), ?_, ?_⟩
    · refine evl_congr (f := fun k => modular_Mul.j0 k a b m false) (fun k => ?_) (evl_step (f := fun k => (modular_times.f k (a % m) (b % m) m).bind fun t109 => (some (t109, 0))) (fun k => ?_)
        (Go.Proofs.YtkgejfokdmdikaaW.PrintWords.Ev.bind (times _ _ m a0 a1 b0 b1 m1) (evl_now _)))
      · rw [modular_Mul.f, if_neg (by omega), decide_eq_false (by omega)]
      · rw [modular_Mul.j0, if_neg (by decide), mod_eq a m hm m1, Option.bind_some, mod_eq b m hm m1, Option.bind_some]
    · refine evl_congr (f := fun k => parquetref04_Mul.j0 k a b m false) (fun k => ?_) (evl_step (f := fun k => (parquetref04_Times.f k (a % m) (b % m) m).bind fun t109 => (some (t109, 0))) (fun k => ?_)
        (Go.Proofs.YtkgejfokdmdikaaW.PrintWords.Ev.bind (rtimes _ _ m a0 a1 b0 b1 m1) (evl_now _)))
      · rw [parquetref04_Mul.f, if_neg (by omega), decide_eq_false (by omega)]
      · rw [parquetref04_Mul.j0, if_neg (by decide), rmod_eq a m hm m1, Option.bind_some, rmod_eq b m hm m1, Option.bind_some]

theorem pow_both (a n m : Int) (n1 : n ≤ 9223372036854775807) : ∃ r, Evl (fun k => modular_Pow.f k a n m) r ∧ Evl (fun k => parquetref04_Pow.f k a n m) r := by
  by_cases h : m < 1 ∨ m > 4611686018427387904 ∨ n < 0
  · refine ⟨(0, 2), ?_, ?_⟩
    · refine evl_congr (f := fun _ => some (0, 2)) (fun k => ?_) (evl_now _)
      rw [modular_Pow.f]
      by_cases h1 : m < 1
      · rw [if_pos h1]
      · rw [if_neg h1]
        by_cases h2 : m > 4611686018427387904
        · rw [if_pos h2]
        · rw [if_neg h2, if_pos (by omega)]
    · refine evl_congr (f := fun _ => some (0, 2)) (fun k => ?_) (evl_now _)
      rw [parquetref04_Pow.f]
      by_cases h1 : m < 1
      · rw [if_pos h1]
      · rw [if_neg h1]
        by_cases h2 : m > 4611686018427387904
        · rw [if_pos h2]
        · rw [if_neg h2, if_pos (by omega)]
  · obtain ⟨h1, h2⟩ := to_both a n m (by omega) n1 (by omega) (by omega)
    refine ⟨(a ^ n.toNat % m, 0), ?_, ?_⟩
    · refine evl_congr (f := fun k => (modular_to.f k a n m).bind fun t117 => (some (t117, 0))) (fun k => ?_) (Go.Proofs.YtkgejfokdmdikaaW.PrintWords.Ev.bind h1 (evl_now _))
      rw [modular_Pow.f, if_neg (by omega), if_neg (by omega), if_neg (by omega)]
    · refine evl_congr (f := fun k => (parquetref04_To.f k a n m).bind fun t117 => (some (t117, 0))) (fun k => ?_) (Go.Proofs.YtkgejfokdmdikaaW.PrintWords.Ev.bind h2 (evl_now _))
      rw [parquetref04_Pow.f, if_neg (by omega), if_neg (by omega), if_neg (by omega)]

theorem ModularMuls : parquetlaw04_ModularMuls.Pure := by
  intro a b m _ wb _
  obtain ⟨r, h1, h2⟩ := mul_both a b m
  obtain ⟨q, h3, h4⟩ := pow_both a b m (wf_i64 b wb).2
  refine Go.Proofs.YtkgejfokdmdikaaW.PrintWords.Ev.rounds (g := fun k => parquetlaw04_ModularMuls.f k a b m) ?_
  unfold parquetlaw04_ModularMuls.f
  refine Go.Proofs.YtkgejfokdmdikaaW.PrintWords.Ev.bind h1 (Go.Proofs.YtkgejfokdmdikaaW.PrintWords.Ev.bind h2 (Go.Proofs.YtkgejfokdmdikaaW.PrintWords.Ev.bind h3 (Go.Proofs.YtkgejfokdmdikaaW.PrintWords.Ev.bind h4 ?_)))
  refine evl_congr (f := fun _ => some true) (fun k => ?_) (evl_now _)
  rw [if_pos rfl, if_pos rfl, if_pos rfl, if_pos rfl]
  rfl
end Go.Proofs.Ytkgejfokdmdikaa.Pure
