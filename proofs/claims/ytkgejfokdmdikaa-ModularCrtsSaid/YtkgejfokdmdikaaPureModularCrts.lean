/- The number that is both, as the program and as the law find it: the same, at any four numbers. -/
import Derived.Test.YtkgejfokdmdikaaPModularCrtsx2
namespace Go.Proofs.Ytkgejfokdmdikaa.Pure
open Go Go.RowKit Go.Proofs.YtkgejfokdmdikaaW.PrintWords Go.Proofs.YtkgejfokdmdikaaW.PrintLast Go.Proofs.YtkgejfokdmdikaaW.PrintMore PModularCrts Times

theorem gcd_loop : ∀ N y x : Nat, y ≤ N → Evl (fun k => modular_gcd.l0 k (x : Int) (y : Int)) ((Nat.gcd x y : Nat) : Int) ∧ Evl (fun k => parquetref04_Common.l0 k (x : Int) (y : Int)) ((Nat.gcd x y : Nat) : Int) := by
  intro N
  induction N with
  | zero =>
    intro y x h
    obtain rfl : y = 0 := by omega
    rw [Nat.gcd_zero_right]
    refine ⟨evl_step (f := fun _ => some (x : Int)) (fun k => ?_) (evl_now _), evl_step (f := fun _ => some (x : Int)) (fun k => ?_) (evl_now _)⟩
    · rw [modular_gcd.l0, if_pos (by rfl)]
    · rw [parquetref04_Common.l0, if_neg (by omega)]
  | succ N ih =>
    intro y x h
    by_cases z : y = 0
    · subst z
      rw [Nat.gcd_zero_right]
      refine ⟨evl_step (f := fun _ => some (x : Int)) (fun k => ?_) (evl_now _), evl_step (f := fun _ => some (x : Int)) (fun k => ?_) (evl_now _)⟩
      · rw [modular_gcd.l0, if_pos (by rfl)]
      · rw [parquetref04_Common.l0, if_neg (by omega)]
    · have lt := Nat.mod_lt x (show 0 < y by omega)
      obtain ⟨h1, h2⟩ := ih (x % y) y (by omega)
      have g : Nat.gcd y (x % y) = Nat.gcd x y := by rw [Nat.gcd_comm x y, Nat.gcd_rec y x, Nat.gcd_comm]
      have t : Int.tmod (x : Int) (y : Int) = ((x % y : Nat) : Int) := by rw [Int.tmod_eq_emod_of_nonneg (by omega)]; exact (Int.natCast_emod _ _).symm
      rw [g] at h1 h2
      refine ⟨evl_step (fun k => ?_) h1, evl_step (fun k => ?_) h2⟩
      · rw [modular_gcd.l0, if_neg (by omega), t]
      · rw [parquetref04_Common.l0, if_pos (by omega), if_neg (by omega), t]

theorem inv_loop (m : Int) (hm : 0 < m) (m1 : m ≤ 4611686018427387904) : ∀ N : Nat, ∀ x6 x5 x7 x8 : Int, 0 ≤ x6 → x6 ≤ N → x6 ≤ 4611686018427387904 → 0 ≤ x5 → x5 ≤ 4611686018427387904 →
    ∃ r, 0 ≤ r ∧ r < m ∧ Evl (fun k => modular_inverse.l0 k m x5 x6 x7 x8) r ∧ Evl (fun k => parquetref04_turned.l0 k m x5 x6 x7 x8) r := by
  intro N
  have stop : ∀ x5 x7 x8 : Int, ∃ r, 0 ≤ r ∧ r < m ∧ Evl (fun k => modular_inverse.l0 k m x5 0 x7 x8) r ∧ Evl (fun k => parquetref04_turned.l0 k m x5 0 x7 x8) r := by
    intro x5 x7 x8
    refine ⟨x7 % m, Int.emod_nonneg _ (by omega), Int.emod_lt_of_pos _ hm, evl_step (f := fun _ => some (x7 % m)) (fun k => ?_) (evl_now _), evl_step (f := fun _ => some (x7 % m)) (fun k => ?_) (evl_now _)⟩
    · rw [modular_inverse.l0, if_pos rfl, modular_mod.f, if_pos ⟨hm, m1⟩, Option.bind_some]
    · rw [parquetref04_turned.l0, if_neg (by omega), parquetref04_Mod.f, if_pos ⟨hm, m1⟩, Option.bind_some]
  induction N with
  | zero =>
    intro x6 x5 x7 x8 a b
    obtain rfl : x6 = 0 := by omega
    intros; exact stop x5 x7 x8
  | succ N ih =>
    intro x6 x5 x7 x8 a0 a1 a2 b0 b1
    by_cases z : x6 = 0
    · subst z; exact stop x5 x7 x8
    · have q0 : 0 ≤ x5 / x6 := Int.ediv_nonneg b0 a0
      have q1 : x5 / x6 ≤ x5 := Int.ediv_le_self _ b0
      have r0 := Int.emod_nonneg x5 (b := x6) z
      have r1 := Int.emod_lt_of_pos x5 (b := x6) (by omega)
      have e := Int.mul_ediv_add_emod x5 x6
      rw [Int.mul_comm] at e
      have p0 : 0 ≤ x5 / x6 * x6 := Int.mul_nonneg q0 a0
      have w : wrap64 (x5 - (wrap64 ((wrap64 (Int.tdiv x5 x6)) * x6))) = x5 % x6 := by
        rw [Int.tdiv_eq_ediv_of_nonneg b0, w64_id (x5 / x6) (by omega) (by omega), w64_id (x5 / x6 * x6) (by omega) (by omega), w64_id _ (by omega) (by omega)]; omega
      obtain ⟨r, h0, h1, h2, h3⟩ := ih (x5 % x6) x6 x8 (wrap64 (x7 - (wrap64 ((wrap64 (Int.tdiv x5 x6)) * x8)))) r0 (by omega) (by omega) a0 a2
      refine ⟨r, h0, h1, evl_step (fun k => ?_) h2, evl_step (fun k => ?_) h3⟩
      · rw [modular_inverse.l0, if_neg z, w]
      · rw [parquetref04_turned.l0, if_pos (by omega), if_neg z, w]

theorem inv_both (a m : Int) (hm : 0 < m) (m1 : m ≤ 4611686018427387904) :
    ∃ r, 0 ≤ r ∧ r < m ∧ Evl (fun k => modular_inverse.f k a m) r ∧ Evl (fun k => parquetref04_turned.f k a m) r := by
  have r0 := Int.emod_nonneg a (b := m) (by omega)
  have r1 := Int.emod_lt_of_pos a hm
  obtain ⟨r, h0, h1, h2, h3⟩ := inv_loop m hm m1 (a % m).toNat (a % m) m 0 1 r0 (by omega) (by omega) (by omega) m1
  refine ⟨r, h0, h1, evl_congr (fun k => ?_) h2, evl_congr (fun k => ?_) h3⟩
  · rw [modular_inverse.f, modular_mod.f, if_pos ⟨hm, m1⟩, Option.bind_some]
  · rw [parquetref04_turned.f, parquetref04_Mod.f, if_pos ⟨hm, m1⟩, Option.bind_some]

theorem sub_mod_r (x y n : Int) : (x - y % n) % n = (x - y) % n := by
  rw [Int.sub_emod, Int.emod_emod_of_dvd _ (Int.dvd_refl n), ← Int.sub_emod]

theorem tm0 (d g : Int) : Int.tmod d g = 0 ↔ g ∣ d := ⟨Int.dvd_of_tmod_eq_zero, Int.tmod_eq_zero_of_dvd⟩

set_option maxHeartbeats 4000000 in
theorem crt_both (a m b n : Int) : ∃ r, Evl (fun k => modular_Crt.f k a m b n) r ∧ Evl (fun k => parquetref04_Crt.f k a m b n) r := by
  by_cases bad : m < 1 ∨ m > 4611686018427387904 ∨ n < 1 ∨ n > 4611686018427387904
  · refine ⟨(0, 0, 2), ?_, ?_⟩
    · refine evl_congr (f := fun k => modular_Crt.j0 k a m b n true) (fun k => ?_) (evl_step (f := fun _ => some (0, 0, 2)) (fun k => ?_) (evl_now _))
      · rw [modular_Crt.f]
        by_cases h1 : m < 1
        · rw [if_pos h1]
        · rw [if_neg h1]
          by_cases h2 : m > 4611686018427387904
          · rw [if_pos h2]
          · rw [if_neg h2]
            by_cases h3 : n < 1
            · rw [if_pos h3]
            · rw [if_neg h3, decide_eq_true (by omega)]
      · rw [modular_Crt.j0, if_pos rfl]
    · refine evl_congr (f := fun k => parquetref04_Crt.j0 k a m b n true) (fun k => ?_) (evl_step (f := fun _ => some (0, 0, 2)) (fun k => ?_) (evl_now _))
      · rw [parquetref04_Crt.f]
        by_cases h1 : m < 1
        · rw [if_pos h1]
        · rw [if_neg h1]
          by_cases h2 : m > 4611686018427387904
          · rw [if_pos h2]
          · rw [if_neg h2]
            by_cases h3 : n < 1
            · rw [if_pos h3]
            · rw [if_neg h3, decide_eq_true (by omega)]
      · rw [parquetref04_Crt.j0, if_pos rfl]
  · have m0 : 0 < m := by omega
    have m1 : m ≤ 4611686018427387904 := by omega
    have n0 : 0 < n := by omega
    have n1 : n ≤ 4611686018427387904 := by omega
    obtain ⟨M, rfl⟩ := Int.eq_ofNat_of_zero_le (show 0 ≤ m by omega)
    obtain ⟨N, rfl⟩ := Int.eq_ofNat_of_zero_le (show 0 ≤ n by omega)
    obtain ⟨g1, g2⟩ := gcd_loop N N M (Nat.le_refl _)
    have gp : 0 < Nat.gcd M N := Nat.gcd_pos_of_pos_left _ (by omega)
    obtain ⟨c, hc⟩ := Nat.gcd_dvd_left M N
    obtain ⟨k, hk⟩ := Nat.gcd_dvd_right M N
    have gM : Nat.gcd M N ≤ M := Nat.gcd_le_left _ (by omega)
    generalize hg : Nat.gcd M N = g at *
    have kp : 0 < k := by
      rcases Nat.eq_zero_or_pos k with h | h
      · subst h; rw [Nat.mul_zero] at hk; omega
      · exact h
    have kN : k ≤ N := by rw [hk]; exact Nat.le_mul_of_pos_left _ gp
    have cM : c ≤ M := by rw [hc]; exact Nat.le_mul_of_pos_left _ gp
    have dk : wrap64 (Int.tdiv (N : Int) (g : Int)) = (k : Int) := by
      rw [Int.tdiv_eq_ediv_of_nonneg (by omega), ← Int.natCast_ediv, hk, Nat.mul_div_cancel_left _ gp, w64_id _ (by omega) (by omega)]
    have dc : wrap64 (Int.tdiv (M : Int) (g : Int)) = (c : Int) := by
      rw [Int.tdiv_eq_ediv_of_nonneg (by omega), ← Int.natCast_ediv, hc, Nat.mul_div_cancel_left _ gp, w64_id _ (by omega) (by omega)]
    have A0 := Int.emod_nonneg a (b := (M : Int)) (by omega)
    have A1 := Int.emod_lt_of_pos a m0
    have B0 := Int.emod_nonneg b (b := (N : Int)) (by omega)
    have B1 := Int.emod_lt_of_pos b n0
    have gN : (g : Int) ∣ (N : Int) := ⟨(k : Int), by rw [← Int.natCast_mul, ← hk]⟩
    have bg : b % (N : Int) % (g : Int) = b % (g : Int) := Int.emod_emod_of_dvd _ gN
    have w1 : wrap64 (b % (N : Int) - a % (M : Int)) = b % (N : Int) - a % (M : Int) := w64_id _ (by omega) (by omega)
    have G0 := Int.emod_nonneg b (b := (g : Int)) (by omega)
    have G1 := Int.emod_lt_of_pos b (b := (g : Int)) (by omega)
    have H0 := Int.emod_nonneg (a % (M : Int)) (b := (g : Int)) (by omega)
    have H1 := Int.emod_lt_of_pos (a % (M : Int)) (b := (g : Int)) (by omega)
    have w2 : wrap64 (b % (g : Int) - a % (M : Int) % (g : Int)) = b % (g : Int) - a % (M : Int) % (g : Int) := w64_id _ (by omega) (by omega)
    have dvd : (b % (g : Int) - a % (M : Int) % (g : Int)) % (g : Int) = 0 ↔ (g : Int) ∣ b % (N : Int) - a % (M : Int) := by
      rw [← Int.sub_emod (b := a % (M : Int)), ← Int.dvd_iff_emod_eq_zero]
      constructor
      · intro h
        have e : b % (N : Int) - a % (M : Int) = (b - a % (M : Int)) - (N : Int) * (b / (N : Int)) := by rw [Int.emod_def b (N : Int)]; omega
        rw [e]; exact Int.dvd_sub h (Int.dvd_trans gN ⟨_, rfl⟩)
      · intro h
        have e : b - a % (M : Int) = (b % (N : Int) - a % (M : Int)) + (N : Int) * (b / (N : Int)) := by rw [Int.emod_def b (N : Int)]; omega
        rw [e]; exact Int.dvd_add h (Int.dvd_trans gN ⟨_, rfl⟩)
    have most : wrap64 (Int.tdiv (4611686018427387904 : Int) (k : Int)) = (4611686018427387904 : Int) / (k : Int) := by
      have h0 : 0 ≤ (4611686018427387904 : Int) / (k : Int) := Int.ediv_nonneg (by omega) (by omega)
      have h1 : (4611686018427387904 : Int) / (k : Int) ≤ 4611686018427387904 := Int.ediv_le_self _ (by omega)
      rw [Int.tdiv_eq_ediv_of_nonneg (by omega)]
      exact w64_id _ (by omega) (by omega)
    have nm1 : ¬ (M : Int) < 1 := by omega
    have nm2 : ¬ (M : Int) > 4611686018427387904 := by omega
    have nn1 : ¬ (N : Int) < 1 := by omega
    have nn2 : decide ((N : Int) > 4611686018427387904) = false := decide_eq_false (by omega)
    have g0 : 0 < (g : Int) := by omega
    have ng : ¬ (g : Int) = 0 := by omega
    have g62 : (g : Int) ≤ 4611686018427387904 := by omega
    have k0 : 0 < (k : Int) := by omega
    have nk : ¬ (k : Int) = 0 := by omega
    have k62 : (k : Int) ≤ 4611686018427387904 := by omega
    have m8 : modular_mod.f a (M : Int) = some (a % (M : Int)) := by rw [modular_mod.f, if_pos ⟨m0, m1⟩]
    have m9 : modular_mod.f b (N : Int) = some (b % (N : Int)) := by rw [modular_mod.f, if_pos ⟨n0, n1⟩]
    have rm : ∀ x y : Int, 0 < y → y ≤ 4611686018427387904 → parquetref04_Mod.f x y = some (x % y) := fun x y h h' => by rw [parquetref04_Mod.f, if_pos ⟨h, h'⟩]
    have mxM : ∀ x : Int, 0 ≤ x → x ≤ 4611686018427387904 → mx x (wrap64 (-x)) = x := by
      intro x h h'
      rw [w64_id _ (by omega) (by omega)]
      unfold mx; split <;> omega
    obtain ⟨K1, g1⟩ := g1
    obtain ⟨K2, g2⟩ := g2
    have g1 : ∀ j, K1 ≤ j → modular_gcd.f j (M : Int) (N : Int) = some (g : Int) := g1
    have g2 : ∀ j, K2 ≤ j → parquetref04_Common.f j (M : Int) (N : Int) = some (g : Int) := by
      intro j hj; rw [parquetref04_Common.f, mxM _ (by omega) (by omega), mxM _ (by omega) (by omega)]; exact g2 j hj
    obtain ⟨inv, i0, i1, ⟨K3, v1⟩, ⟨K4, v2⟩⟩ := inv_both (c : Int) (k : Int) (by omega) (by omega)
    have v1 : ∀ j, K3 ≤ j → modular_inverse.f j (c : Int) (k : Int) = some inv := v1
    have v2 : ∀ j, K4 ≤ j → parquetref04_turned.f j (c : Int) (k : Int) = some inv := v2
    by_cases d : (g : Int) ∣ b % (N : Int) - a % (M : Int)
    · have d1 : Int.tmod (b % (N : Int) - a % (M : Int)) (g : Int) = 0 := (tm0 _ _).2 d
      have d2 := dvd.2 d
      by_cases long : (M : Int) > 4611686018427387904 / (k : Int)
      · refine ⟨(0, 0, 3), ⟨K1 + 1, fun j hj => ?_⟩, ⟨K2 + 1, fun j hj => ?_⟩⟩
        · obtain ⟨j, rfl⟩ : ∃ i, j = i + 1 := ⟨j - 1, by omega⟩
          show modular_Crt.f (j + 1) a M b N = _
          rw [modular_Crt.f, if_neg nm1, if_neg nm2, if_neg nn1, nn2, modular_Crt.j0, if_neg (by decide), g1 j (by omega), Option.bind_some, m8, Option.bind_some, m9, Option.bind_some,
            if_neg ng, w1, if_pos d1, dk, if_neg nk, most, if_pos long]
        · obtain ⟨j, rfl⟩ : ∃ i, j = i + 1 := ⟨j - 1, by omega⟩
          show parquetref04_Crt.f (j + 1) a M b N = _
          rw [parquetref04_Crt.f, if_neg nm1, if_neg nm2, if_neg nn1, nn2, parquetref04_Crt.j0, if_neg (by decide), g2 j (by omega), Option.bind_some, rm a M m0 m1, Option.bind_some,
            rm b g g0 g62, Option.bind_some, rm _ g g0 g62, Option.bind_some, w2, rm _ g g0 g62, Option.bind_some, if_pos d2, if_neg ng, dk, if_neg nk, most, if_pos long]
      · obtain ⟨e, he⟩ := d
        have mk : (M : Int) * (k : Int) ≤ 4611686018427387904 := by
          have h1 : (M : Int) * (k : Int) ≤ 4611686018427387904 / (k : Int) * (k : Int) := Int.mul_le_mul_of_nonneg_right (by omega) (by omega)
          have h2 := Int.mul_ediv_add_emod 4611686018427387904 (k : Int)
          have h3 := Int.emod_nonneg 4611686018427387904 (b := (k : Int)) (by omega)
          rw [Int.mul_comm] at h2
          omega
        have td1 : Int.tdiv (b % (N : Int) - a % (M : Int)) (g : Int) = e := by
          rw [he]; exact Int.mul_tdiv_cancel_left _ (by omega)
        have eb : -4611686018427387904 ≤ e ∧ e ≤ 4611686018427387904 := by
          have g1' : (1 : Int) ≤ (g : Int) := by omega
          constructor
          · by_cases s : 0 ≤ e
            · omega
            · have := Int.mul_le_mul_of_nonneg_right g1' (show 0 ≤ -e by omega)
              rw [Int.mul_neg, Int.mul_neg] at this; omega
          · by_cases s : 0 ≤ e
            · have := Int.mul_le_mul_of_nonneg_right g1' s
              omega
            · omega
        have we : wrap64 e = e := w64_id _ (by omega) (by omega)
        have E0 := Int.emod_nonneg e (b := (k : Int)) (by omega)
        have E1 := Int.emod_lt_of_pos e (b := (k : Int)) (by omega)
        have T0 := Int.emod_nonneg (e % (k : Int) * inv) (b := (k : Int)) (by omega)
        have T1 := Int.emod_lt_of_pos (e % (k : Int) * inv) (b := (k : Int)) (by omega)
        generalize ht : e % (k : Int) * inv % (k : Int) = t at *
        have tm : modular_times.f (e % (k : Int)) inv (k : Int) = some t := by rw [modular_times.f, if_pos ⟨E0, E1, i0, i1, k62⟩, ht]
        have rt : parquetref04_Times.f (e % (k : Int)) inv (k : Int) = some t := by rw [parquetref04_Times.f, if_pos ⟨E0, E1, i0, i1, k62⟩, ht]
        have p0 : 0 ≤ (M : Int) * t := Int.mul_nonneg (by omega) T0
        have p1 : (M : Int) * t + (M : Int) ≤ (M : Int) * (k : Int) := by
          have := Int.mul_le_mul_of_nonneg_left (show t + 1 ≤ (k : Int) by omega) (show 0 ≤ (M : Int) by omega)
          rw [Int.mul_add, Int.mul_one] at this; exact this
        have wM : wrap64 ((M : Int) * t) = (M : Int) * t := w64_id _ (by omega) (by omega)
        have wS : wrap64 (a % (M : Int) + (M : Int) * t) = a % (M : Int) + (M : Int) * t := w64_id _ (by omega) (by omega)
        have wL : wrap64 ((M : Int) * (k : Int)) = (M : Int) * (k : Int) := w64_id _ (by omega) (by omega)
        have X0 := Int.emod_nonneg (a % (M : Int)) (b := (N : Int)) (by omega)
        have X1 := Int.emod_lt_of_pos (a % (M : Int)) (b := (N : Int)) (by omega)
        have w3 : wrap64 (b % (N : Int) - a % (M : Int) % (N : Int)) = b % (N : Int) - a % (M : Int) % (N : Int) := w64_id _ (by omega) (by omega)
        have ek : (b % (N : Int) - a % (M : Int) % (N : Int)) % (N : Int) = (g : Int) * (e % (k : Int)) := by
          have : (b % (N : Int) - a % (M : Int) % (N : Int)) % (N : Int) = (b % (N : Int) - a % (M : Int)) % (N : Int) := by
            exact sub_mod_r _ _ _
          rw [this, he, show (N : Int) = (g : Int) * (k : Int) by rw [← Int.natCast_mul, ← hk]]
          exact Int.mul_emod_mul_of_pos _ _ (by omega)
        have ge0 : 0 ≤ (g : Int) * (e % (k : Int)) := Int.mul_nonneg (by omega) E0
        have td2 : Int.tdiv ((g : Int) * (e % (k : Int))) (g : Int) = e % (k : Int) := Int.mul_tdiv_cancel_left _ (by omega)
        have we2 : wrap64 (e % (k : Int)) = e % (k : Int) := w64_id _ (by omega) (by omega)
        have mk0 : 0 < (M : Int) * (k : Int) := Int.mul_pos m0 k0
        have S0 : 0 ≤ a % (M : Int) + (M : Int) * t := Int.add_nonneg A0 p0
        have S1 : a % (M : Int) + (M : Int) * t < (M : Int) * (k : Int) := by
          have := Int.add_lt_add_right A1 ((M : Int) * t)
          rw [Int.add_comm (M : Int)] at this
          exact Int.lt_of_lt_of_le this p1
        refine ⟨(a % (M : Int) + (M : Int) * t, (M : Int) * (k : Int), 0), ⟨K1 + K3 + 1, fun j hj => ?_⟩, ⟨K2 + K4 + 1, fun j hj => ?_⟩⟩
        · obtain ⟨j, rfl⟩ : ∃ i, j = i + 1 := ⟨j - 1, by omega⟩
          show modular_Crt.f (j + 1) a M b N = _
          rw [modular_Crt.f, if_neg nm1, if_neg nm2, if_neg nn1, nn2, modular_Crt.j0, if_neg (by decide), g1 j (by omega), Option.bind_some, m8, Option.bind_some, m9, Option.bind_some,
            if_neg ng, w1, if_pos d1, dk, if_neg nk, most, if_neg long, dc, td1, we, modular_mod.f, if_pos ⟨k0, k62⟩, Option.bind_some, v1 j (by omega), Option.bind_some, tm, Option.bind_some, wM, wS, wL]
        · obtain ⟨j, rfl⟩ : ∃ i, j = i + 1 := ⟨j - 1, by omega⟩
          show parquetref04_Crt.f (j + 1) a M b N = _
          rw [parquetref04_Crt.f, if_neg nm1, if_neg nm2, if_neg nn1, nn2, parquetref04_Crt.j0, if_neg (by decide), g2 j (by omega), Option.bind_some, rm a M m0 m1, Option.bind_some,
            rm b g g0 g62, Option.bind_some, rm _ g g0 g62, Option.bind_some, w2, rm _ g g0 g62, Option.bind_some, if_pos d2, if_neg ng, dk, if_neg nk, most, if_neg long,
            rm b N n0 n1, Option.bind_some, rm _ N n0 n1, Option.bind_some, w3, rm _ N n0 n1, Option.bind_some, ek, td2, we2, rm _ k k0 k62, Option.bind_some, Int.emod_emod_of_dvd _ (Int.dvd_refl (k : Int)),
            dc, v2 j (by omega), Option.bind_some, rt, Option.bind_some, wM, wS, wL, rm _ _ mk0 mk, Option.bind_some, Int.emod_eq_of_lt S0 S1]
    · have d1 : ¬ Int.tmod (b % (N : Int) - a % (M : Int)) (g : Int) = 0 := fun h => d ((tm0 _ _).1 h)
      have d2 : ¬ (b % (g : Int) - a % (M : Int) % (g : Int)) % (g : Int) = 0 := fun h => d (dvd.1 h)
      refine ⟨(0, 0, 41), ⟨K1 + 1, fun j hj => ?_⟩, ⟨K2 + 1, fun j hj => ?_⟩⟩
      · obtain ⟨j, rfl⟩ : ∃ i, j = i + 1 := ⟨j - 1, by omega⟩
        show modular_Crt.f (j + 1) a M b N = _
        rw [modular_Crt.f, if_neg nm1, if_neg nm2, if_neg nn1, nn2, modular_Crt.j0, if_neg (by decide), g1 j (by omega), Option.bind_some, m8, Option.bind_some, m9, Option.bind_some,
          if_neg ng, w1, if_neg d1]
      · obtain ⟨j, rfl⟩ : ∃ i, j = i + 1 := ⟨j - 1, by omega⟩
        show parquetref04_Crt.f (j + 1) a M b N = _
        rw [parquetref04_Crt.f, if_neg nm1, if_neg nm2, if_neg nn1, nn2, parquetref04_Crt.j0, if_neg (by decide), g2 j (by omega), Option.bind_some, rm a M m0 m1, Option.bind_some,
          rm b g g0 g62, Option.bind_some, rm _ g g0 g62, Option.bind_some, w2, rm _ g g0 g62, Option.bind_some, if_neg d2]

theorem ModularCrts : parquetlaw04_ModularCrts.Pure := by
  intro a m b n _ _ _ _
  obtain ⟨r, h1, h2⟩ := crt_both a m b n
  refine Go.Proofs.YtkgejfokdmdikaaW.PrintWords.Ev.rounds (g := fun j => parquetlaw04_ModularCrts.f j a m b n) ?_
  unfold parquetlaw04_ModularCrts.f
  refine Go.Proofs.YtkgejfokdmdikaaW.PrintWords.Ev.bind h1 (Go.Proofs.YtkgejfokdmdikaaW.PrintWords.Ev.bind h2 ?_)
  refine evl_congr (f := fun _ => some true) (fun j => ?_) (evl_now _)
  rw [if_pos rfl, if_pos rfl, if_pos rfl]
  rfl
end Go.Proofs.Ytkgejfokdmdikaa.Pure
