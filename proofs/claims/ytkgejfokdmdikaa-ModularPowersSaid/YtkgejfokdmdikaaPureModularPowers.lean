/- Products modulo m go in any order, and powers add up. -/
import Derived.Test.YtkgejfokdmdikaaPModularPowersx1
namespace Go.Proofs.Ytkgejfokdmdikaa.Pure
open Go Go.RowKit Go.Proofs.YtkgejfokdmdikaaW.PrintWords PModularPowers Times

theorem mul_is (a b m : Int) (hm : 0 < m) (m1 : m ≤ 4611686018427387904) : Evl (fun k => modular_Mul.f k a b m) (a * b % m, 0) := by
  have a0 := Int.emod_nonneg a (b := m) (by omega)
  have a1 := Int.emod_lt_of_pos a hm
  have b0 := Int.emod_nonneg b (b := m) (by omega)
  have b1 := Int.emod_lt_of_pos b hm
  refine evl_congr (f := fun k => modular_Mul.j0 k a b m false) (fun k => ?_) (evl_step (f := fun _ => some (a * b % m, 0)) (fun k => ?_) (evl_now _))
  · rw [modular_Mul.f, if_neg (by omega), decide_eq_false (by omega)]
  · rw [modular_Mul.j0, if_neg (by decide), modular_mod.f, if_pos ⟨hm, m1⟩, Option.bind_some, modular_mod.f, if_pos ⟨hm, m1⟩, Option.bind_some,
      modular_times.f, if_pos ⟨a0, a1, b0, b1, m1⟩, Option.bind_some, mul_mod_l, mul_mod_r]

theorem pow_is (a n m : Int) (n0 : 0 ≤ n) (n1 : n ≤ 9223372036854775807) (hm : 0 < m) (m1 : m ≤ 4611686018427387904) : modular_Pow.f a n m = some (a ^ n.toNat % m, 0) := by
  rw [modular_Pow.f, if_neg (by omega), if_neg (by omega), if_neg (by omega), modular_to.f, if_pos ⟨n0, n1, hm, m1⟩, Option.bind_some]

theorem near_is (n most : Int) (m0 : 0 < most) (m1 : most ≤ 4611686018427387904) :
    parquetlaw04_near.f n most = some (n % most + 1) := by
  have r0 := Int.emod_nonneg n (b := most) (by omega)
  have r1 := Int.emod_lt_of_pos n m0
  have t : Int.tmod (wrap64 ((Int.tmod n most) + most)) most = n % most := by
    rw [tmod_pos n most m0]
    by_cases c : 0 ≤ n ∨ n % most = 0
    · rw [if_pos c, w64_id _ (by omega) (by omega), Int.tmod_eq_emod_of_nonneg (by omega), Int.add_emod_right, Int.emod_eq_of_lt r0 r1]
    · rw [if_neg c, show n % most - most + most = n % most by omega, w64_id _ (by omega) (by omega), Int.tmod_eq_emod_of_nonneg (by omega), Int.emod_eq_of_lt r0 r1]
  rw [parquetlaw04_near.f, if_neg (by omega), t, w64_id _ (by omega) (by omega)]

theorem ModularPowers : parquetlaw04_ModularPowers.Pure := by
  intro a b c m0 n k _ _ _ _ wn wk
  have hn : 0 ≤ n ∧ n ≤ 4294967295 := by
    simp only [Lit.wf, IntKind.min, IntKind.max, IntKind.signed, IntKind.bits, Bool.and_eq_true] at wn
    simp at wn; omega
  have hk : 0 ≤ k ∧ k ≤ 4294967295 := by
    simp only [Lit.wf, IntKind.min, IntKind.max, IntKind.signed, IntKind.bits, Bool.and_eq_true] at wk
    simp at wk; omega
  have hm := near_is m0 4611686018427387904 (by omega) (by omega)
  have r0 := Int.emod_nonneg m0 (b := 4611686018427387904) (by omega)
  have r1 := Int.emod_lt_of_pos m0 (b := 4611686018427387904) (by omega)
  have m1 : 0 < m0 % 4611686018427387904 + 1 := by omega
  have m2 : m0 % 4611686018427387904 + 1 ≤ 4611686018427387904 := by omega
  generalize m0 % 4611686018427387904 + 1 = m at *
  refine Go.Proofs.YtkgejfokdmdikaaW.PrintWords.Ev.rounds (g := fun j => parquetlaw04_ModularPowers.f j a b c m0 n k) ?_
  have en : wrap64 n = n := w64_id n (by omega) (by omega)
  have ek : wrap64 k = k := w64_id k (by omega) (by omega)
  have enk : wrap64 (n + k) = n + k := w64_id _ (by omega) (by omega)
  unfold parquetlaw04_ModularPowers.f
  simp only [hm, Option.bind_some, en, ek, enk, pow_is a n m hn.1 (by omega) m1 m2, pow_is a k m hk.1 (by omega) m1 m2, pow_is a (n + k) m (by omega) (by omega) m1 m2]
  refine Go.Proofs.YtkgejfokdmdikaaW.PrintWords.Ev.bind (mul_is a b m m1 m2) (Go.Proofs.YtkgejfokdmdikaaW.PrintWords.Ev.bind (mul_is b a m m1 m2) (Go.Proofs.YtkgejfokdmdikaaW.PrintWords.Ev.bind (mul_is _ c m m1 m2)
    (Go.Proofs.YtkgejfokdmdikaaW.PrintWords.Ev.bind (mul_is b c m m1 m2) (Go.Proofs.YtkgejfokdmdikaaW.PrintWords.Ev.bind (mul_is a _ m m1 m2) (Go.Proofs.YtkgejfokdmdikaaW.PrintWords.Ev.bind (mul_is _ _ m m1 m2) ?_)))))
  refine evl_congr (f := fun _ => some true) (fun j => ?_) (evl_now _)
  have e1 : a * b % m = b * a % m := by rw [Int.mul_comm]
  have e2 : a * b % m * c % m = a * (b * c % m) % m := by rw [mul_mod_l, mul_mod_r, Int.mul_assoc]
  have e3 : a ^ n.toNat % m * (a ^ k.toNat % m) % m = a ^ (n + k).toNat % m := by
    rw [mul_mod_l, mul_mod_r, ← Int.pow_add, Int.toNat_add hn.1 hk.1]
  rw [if_pos e1, if_pos e2, if_pos rfl, if_pos e3]
  simp only [if_true]
  rfl
end Go.Proofs.Ytkgejfokdmdikaa.Pure
