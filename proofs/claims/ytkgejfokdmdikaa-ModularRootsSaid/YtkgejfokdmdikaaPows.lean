/- Remainders, products and powers modulo m, the program's and the law's own: each is the number's. m from 1 to 2^62. -/
import Derived.Test.YtkgejfokdmdikaaTimes
namespace Go.Proofs.Ytkgejfokdmdikaa.Times
open Go Go.RowKit Go.Proofs.YtkgejfokdmdikaaW.PrintWords Go.Proofs.YtkgejfokdmdikaaW.PrintLast Go.Proofs.YtkgejfokdmdikaaW.PrintMore PModularMuls
set_option maxRecDepth 10000

theorem tmod_pos (a m : Int) (hm : 0 < m) : Int.tmod a m = if 0 ≤ a ∨ a % m = 0 then a % m else a % m - m := by
  have h := Int.tmod_eq_emod (a := a) (b := m)
  by_cases p : 0 ≤ a
  · rw [if_pos (.inl p), Int.tmod_eq_emod_of_nonneg p]
  · by_cases d : a % m = 0
    · rw [if_pos (.inr d), d]; exact Int.tmod_eq_zero_of_dvd (Int.dvd_of_emod_eq_zero d)
    · rw [if_neg (by rintro (h | h); exact p h; exact d h), h, if_neg]
      · omega
      · rintro (h | h)
        · exact p h
        · exact d (Int.emod_eq_zero_of_dvd h)

theorem mod_any (a m : Int) (hm : 0 < m) (m1 : m ≤ 4611686018427387904) :
    (if m = 0 then none else (if (Int.tmod a m) < 0 then (some (wrap64 ((Int.tmod a m) + m))) else (some (Int.tmod a m)))) = some (a % m) := by
  have r0 := Int.emod_nonneg a (b := m) (by omega)
  have r1 := Int.emod_lt_of_pos a hm
  rw [if_neg (by omega), tmod_pos a m hm]
  by_cases c : 0 ≤ a ∨ a % m = 0
  · rw [if_pos c, if_neg (by omega)]
  · rw [if_neg c, if_pos (by omega)]
    congr 1
    unfold wrap64; omega
theorem mod_eq (a m : Int) (hm : 0 < m) (m1 : m ≤ 4611686018427387904) : modular_mod.f a m = some (a % m) := mod_any a m hm m1
theorem rmod_eq (a m : Int) (hm : 0 < m) (m1 : m ≤ 4611686018427387904) : parquetref04_Mod.f a m = some (a % m) := mod_any a m hm m1

theorem w64_id (x : Int) (h0 : -9223372036854775808 ≤ x) (h1 : x ≤ 9223372036854775807) : wrap64 x = x := by unfold wrap64; omega

theorem and1_i64 (x : Int) (h0 : 0 ≤ x) (h1 : x ≤ 9223372036854775807) : Go.bits .and .i64 x 1 = x % 2 := by
  obtain ⟨n, rfl⟩ := Int.eq_ofNat_of_zero_le h0
  have e1 : (BitVec.ofInt 64 (n : Int)).toNat = n := by
    rw [BitVec.ofInt_natCast, BitVec.toNat_ofNat]; exact Nat.mod_eq_of_lt (by omega)
  have e2 : (BitVec.ofInt 64 (1 : Int)).toNat = 1 := by decide
  show IntKind.i64.wrap ((BitVec.ofInt 64 (n : Int) &&& BitVec.ofInt 64 (1 : Int)).toNat : Int) = _
  rw [BitVec.toNat_and, e1, e2, Nat.and_one_is_mod, i64_w, w64_id _ (by omega) (by omega)]
  omega

/-- The law's own product, by doublings -/
theorem rtimes_loop (m : Int) (hm : 0 < m) (m1 : m ≤ 4611686018427387904) : ∀ n : Nat, ∀ a b s : Int, 0 ≤ b → b ≤ n → b ≤ 9223372036854775807 → 0 ≤ a → a < m → 0 ≤ s → s < m →
    Evl (fun k => parquetref04_Times.l0 k a b m s) ((s + a * b) % m) := by
  intro n
  induction n with
  | zero =>
    intro a b s b0 bn bM a0 a1 s0 s1
    obtain rfl : b = 0 := by omega
    rw [Int.mul_zero, Int.add_zero, Int.emod_eq_of_lt s0 s1]
    refine evl_step (f := fun _ => some s) (fun k => ?_) (evl_now _)
    rw [parquetref04_Times.l0, if_neg (by omega)]
  | succ n ih =>
    intro a b s b0 bn bM a0 a1 s0 s1
    by_cases z : b > 0
    · have g0 := Int.emod_nonneg (a + a) (b := m) (by omega)
      have g1 := Int.emod_lt_of_pos (a + a) hm
      have k0 := Int.emod_nonneg (s + a) (b := m) (by omega)
      have k1 := Int.emod_lt_of_pos (s + a) hm
      have eb : wrap64 (Int.tdiv b 2) = b / 2 := by rw [Int.tdiv_eq_ediv_of_nonneg b0, w64_id _ (by omega) (by omega)]
      have ea : Int.tmod (wrap64 (a + a)) m = (a + a) % m := by rw [w64_id _ (by omega) (by omega), Int.tmod_eq_emod_of_nonneg (by omega)]
      have es : Int.tmod (wrap64 (s + a)) m = (s + a) % m := by rw [w64_id _ (by omega) (by omega), Int.tmod_eq_emod_of_nonneg (by omega)]
      by_cases o : b % 2 = 1
      · have H := ih ((a + a) % m) (b / 2) ((s + a) % m) (by omega) (by omega) (by omega) g0 g1 k0 k1
        have q : ((s + a) % m + (a + a) % m * (b / 2)) % m = (s + a * b) % m := by
          rw [Int.emod_add_emod, Int.add_emod, Int.mul_emod, Int.emod_emod_of_dvd _ (Int.dvd_refl m), ← Int.mul_emod, ← Int.add_emod]
          congr 1
          have : b = 2 * (b / 2) + 1 := by omega
          conv => rhs; rw [this]
          rw [Int.mul_add, Int.mul_one, ← Int.mul_assoc, show a * 2 = a + a by omega]
          omega
        rw [q] at H
        refine evl_step (fun k => ?_) H
        rw [parquetref04_Times.l0, if_pos z, Int.tmod_eq_emod_of_nonneg b0, if_pos o, if_neg (by omega), ea, es, eb]
      · have H := ih ((a + a) % m) (b / 2) s (by omega) (by omega) (by omega) g0 g1 s0 s1
        have q : (s + (a + a) % m * (b / 2)) % m = (s + a * b) % m := by
          rw [Int.add_emod, Int.mul_emod, Int.emod_emod_of_dvd _ (Int.dvd_refl m), ← Int.mul_emod, ← Int.add_emod]
          congr 1
          have : b = 2 * (b / 2) := by omega
          conv => rhs; rw [this]
          rw [← Int.mul_assoc, show a * 2 = a + a by omega]
        rw [q] at H
        refine evl_step (fun k => ?_) H
        rw [parquetref04_Times.l0, if_pos z, Int.tmod_eq_emod_of_nonneg b0, if_neg o, if_neg (by omega), ea, eb]
    · obtain rfl : b = 0 := by omega
      rw [Int.mul_zero, Int.add_zero, Int.emod_eq_of_lt s0 s1]
      refine evl_step (f := fun _ => some s) (fun k => ?_) (evl_now _)
      rw [parquetref04_Times.l0, if_neg (by omega)]

theorem rtimes (a b m : Int) (a0 : 0 ≤ a) (a1 : a < m) (b0 : 0 ≤ b) (b1 : b < m) (m1 : m ≤ 4611686018427387904) :
    Evl (fun k => parquetref04_Times.f k a b m) (a * b % m) := by
  have H := rtimes_loop m (by omega) m1 b.toNat a b 0 b0 (by omega) (by omega) a0 a1 (by omega) (by omega)
  rw [Int.zero_add] at H
  exact H

theorem mul_mod_l (u v m : Int) : (u % m * v) % m = u * v % m := by
  rw [Int.mul_emod, Int.emod_emod_of_dvd _ (Int.dvd_refl m), ← Int.mul_emod]
theorem mul_mod_r (u v m : Int) : (u * (v % m)) % m = u * v % m := by
  rw [Int.mul_emod, Int.emod_emod_of_dvd _ (Int.dvd_refl m), ← Int.mul_emod]
theorem pow_mod (a m : Int) (n : Nat) : (a % m) ^ n % m = a ^ n % m := by
  induction n with
  | zero => rw [Int.pow_zero, Int.pow_zero]
  | succ n ih => rw [Int.pow_succ, Int.pow_succ, Int.mul_emod, ih, Int.emod_emod_of_dvd _ (Int.dvd_refl m), ← Int.mul_emod]
/-- The power's two ways, odd and even -/
theorem pow_step (s x m : Int) (n : Nat) : (s * x ^ n) % m = if n % 2 = 1 then ((s * x % m) * (x * x % m) ^ (n / 2)) % m else (s * (x * x % m) ^ (n / 2)) % m := by
  have e : (x * x) ^ (n / 2) = x ^ (2 * (n / 2)) := by rw [Int.pow_mul, show x ^ 2 = x * x by rw [Int.pow_succ, Int.pow_succ, Int.pow_zero, Int.one_mul]]
  have c : ∀ (u v : Int) (j : Nat), (u * (v % m) ^ j) % m = (u * v ^ j) % m := by
    intro u v j
    rw [Int.mul_emod, pow_mod, ← Int.mul_emod]
  by_cases o : n % 2 = 1
  · rw [if_pos o, c, mul_mod_l, e, Int.mul_assoc, ← Int.pow_succ', show 2 * (n / 2) + 1 = n by omega]
  · rw [if_neg o, c, e, show 2 * (n / 2) = n by omega]

theorem to_loop (m : Int) (hm : 0 < m) (m1 : m ≤ 4611686018427387904) : ∀ N : Nat, ∀ n : Nat, n ≤ N → n ≤ 9223372036854775807 → ∀ x s : Int, 0 ≤ x → x < m → 0 ≤ s → s < m →
    Evl (fun k => modular_to.l0 k x (n : Int) m s) (s * x ^ n % m) ∧ Evl (fun k => parquetref04_To.l0 k x (n : Int) m s) (s * x ^ n % m) := by
  intro N
  induction N with
  | zero =>
    intro n hn hM x s x0 x1 s0 s1
    obtain rfl : n = 0 := by omega
    rw [Int.pow_zero, Int.mul_one, Int.emod_eq_of_lt s0 s1]
    refine ⟨evl_step (f := fun _ => some s) (fun k => ?_) (evl_now _), evl_step (f := fun _ => some s) (fun k => ?_) (evl_now _)⟩
    · rw [modular_to.l0, if_neg (by omega)]
    · rw [parquetref04_To.l0, if_neg (by omega)]
  | succ N ih =>
    intro n hn hM x s x0 x1 s0 s1
    by_cases z : n = 0
    · subst z
      rw [Int.pow_zero, Int.mul_one, Int.emod_eq_of_lt s0 s1]
      refine ⟨evl_step (f := fun _ => some s) (fun k => ?_) (evl_now _), evl_step (f := fun _ => some s) (fun k => ?_) (evl_now _)⟩
      · rw [modular_to.l0, if_neg (by omega)]
      · rw [parquetref04_To.l0, if_neg (by omega)]
    · have g0 := Int.emod_nonneg (x * x) (b := m) (by omega)
      have g1 := Int.emod_lt_of_pos (x * x) hm
      have k0 := Int.emod_nonneg (s * x) (b := m) (by omega)
      have k1 := Int.emod_lt_of_pos (s * x) hm
      have en : ((n : Int) / 2) = ((n / 2 : Nat) : Int) := by omega
      have ew : wrap64 (Int.tdiv (n : Int) 2) = ((n / 2 : Nat) : Int) := by rw [Int.tdiv_eq_ediv_of_nonneg (by omega), w64_id _ (by omega) (by omega), en]
      rw [pow_step]
      by_cases o : n % 2 = 1
      · rw [if_pos o]
        obtain ⟨h1, h2⟩ := ih (n / 2) (by omega) (by omega) (x * x % m) (s * x % m) g0 g1 k0 k1
        constructor
        · refine evl_step (f := fun k => (modular_times.f k s x m).bind fun t114 => ((modular_times.f k x x m).bind fun t115 => (modular_to.l0 k t115 ((n : Int) / 2) m t114))) (fun k => ?_) ?_
          · rw [modular_to.l0, if_pos (by omega), and1_i64 _ (by omega) (by omega), if_pos (by omega)]
          · refine Go.Proofs.YtkgejfokdmdikaaW.PrintWords.Ev.bind (times s x m s0 s1 x0 x1 m1) (Go.Proofs.YtkgejfokdmdikaaW.PrintWords.Ev.bind (times x x m x0 x1 x0 x1 m1) ?_)
            rw [en]; exact h1
        · refine evl_step (f := fun k => (parquetref04_Times.f k s x m).bind fun t114 => ((parquetref04_Times.f k x x m).bind fun t115 => (parquetref04_To.l0 k t115 (wrap64 (Int.tdiv (n : Int) 2)) m t114))) (fun k => ?_) ?_
          · rw [parquetref04_To.l0, if_pos (by omega), Int.tmod_eq_emod_of_nonneg (by omega), if_pos (by omega)]
          · refine Go.Proofs.YtkgejfokdmdikaaW.PrintWords.Ev.bind (rtimes s x m s0 s1 x0 x1 m1) (Go.Proofs.YtkgejfokdmdikaaW.PrintWords.Ev.bind (rtimes x x m x0 x1 x0 x1 m1) ?_)
            rw [ew]; exact h2
      · rw [if_neg o]
        obtain ⟨h1, h2⟩ := ih (n / 2) (by omega) (by omega) (x * x % m) s g0 g1 s0 s1
        constructor
        · refine evl_step (f := fun k => (modular_times.f k x x m).bind fun t115 => (modular_to.l0 k t115 ((n : Int) / 2) m s)) (fun k => ?_) ?_
          · rw [modular_to.l0, if_pos (by omega), and1_i64 _ (by omega) (by omega), if_neg (by omega)]
          · refine Go.Proofs.YtkgejfokdmdikaaW.PrintWords.Ev.bind (times x x m x0 x1 x0 x1 m1) ?_
            rw [en]; exact h1
        · refine evl_step (f := fun k => (parquetref04_Times.f k x x m).bind fun t115 => (parquetref04_To.l0 k t115 (wrap64 (Int.tdiv (n : Int) 2)) m s)) (fun k => ?_) ?_
          · rw [parquetref04_To.l0, if_pos (by omega), Int.tmod_eq_emod_of_nonneg (by omega), if_neg (by omega)]
          · refine Go.Proofs.YtkgejfokdmdikaaW.PrintWords.Ev.bind (rtimes x x m x0 x1 x0 x1 m1) ?_
            rw [ew]; exact h2

theorem to_both (a n m : Int) (n0 : 0 ≤ n) (n1 : n ≤ 9223372036854775807) (hm : 0 < m) (m1 : m ≤ 4611686018427387904) :
    Evl (fun k => modular_to.f k a n m) (a ^ n.toNat % m) ∧ Evl (fun k => parquetref04_To.f k a n m) (a ^ n.toNat % m) := by
  have r0 := Int.emod_nonneg a (b := m) (by omega)
  have r1 := Int.emod_lt_of_pos a hm
  have s0 := Int.emod_nonneg 1 (b := m) (by omega)
  have s1 := Int.emod_lt_of_pos 1 hm
  obtain ⟨h1, h2⟩ := to_loop m hm m1 n.toNat n.toNat (Nat.le_refl _) (by omega) (a % m) (1 % m) r0 r1 s0 s1
  have e : 1 % m * (a % m) ^ n.toNat % m = a ^ n.toNat % m := by
    rw [Int.mul_emod, Int.emod_emod_of_dvd _ (Int.dvd_refl m), pow_mod, ← Int.mul_emod, Int.one_mul]
  rw [e, Int.toNat_of_nonneg n0] at h1 h2
  constructor
  · refine evl_congr (fun k => ?_) h1
    rw [modular_to.f, if_neg (by omega), mod_eq a m hm m1, Option.bind_some]
  · refine evl_congr (fun k => ?_) h2
    rw [parquetref04_To.f, if_neg (by omega), rmod_eq a m hm m1, Option.bind_some]

theorem wf_i64 (a : Int) (h : (Lit.int .i64 a).wf = true) : -9223372036854775808 ≤ a ∧ a ≤ 9223372036854775807 := by
  simp only [Lit.wf, IntKind.min, IntKind.max, IntKind.signed, IntKind.bits, Bool.and_eq_true, decide_eq_true_eq, if_true] at h
  omega
end Go.Proofs.Ytkgejfokdmdikaa.Times
