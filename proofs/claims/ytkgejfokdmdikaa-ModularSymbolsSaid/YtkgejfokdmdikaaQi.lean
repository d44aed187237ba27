/- Whether a number is a prime, as the program and as the law find it: the same, and what it should be; for numbers from 2 to 2^40. Roots modulo a prime: the program's and the law's own way answer the same, for any number and any modulus that the law asks about. Symbols multiply, tell of roots, and of one another: plain Lean over what the walks of chapter 04 tell. Digits to the base 2^32: a number's own, and what a list of digits is worth. Plain Lean, no program. Natural numbers in the program's memory: a slice of digits that is only read, and a row of digits that the call owns. No statement is proved here. The borrow of a difference of 32 bits, as the library's text reckons it. bits.Sub32, by a walk: the difference and the borrow. How many bits a number has: by its digits. Plain Lean, no program. Comparing numbers by their digits. Plain Lean, no program. Sums by digits. Plain Lean, no program. Differences by digits. Plain Lean, no program. Natural numbers: less (the digits of a number taken away, in place), by a walk. Natural numbers: cut (no noughts at the end) and Of, by walks. Natural numbers: Of (a number of 64 bits), by a walk. -/
import Derived.Test.YtkgejfokdmdikaaQh
import Derived.Test.YtkgejfokdmdikaaQc
import Derived.Test.YtkgejfokdmdikaaProg
import Derived.Below
import Derived.OwnWalk
import Derived.OneCell
import Derived.WalkKit
import Derived.KernelRfl
import Derived.Deep.LoopGhost
import Derived.BigQuiet
import Derived.Deep.QuietTactic
import Derived.Laws.CopyOwn
import Derived.Laws.OwnMore
import Derived.Laws.MakeOwn
import Derived.Laws.Rows
import Derived.Laws.BitsLemmas
import Derived.RowKit
import Derived.RowKit3
import Derived.Lib.BitFns
import Derived.WalkMore
section
namespace Go.Proofs.Ytkgejfokdmdikaa.Rt
open Go Go.RowKit Go.Proofs.YtkgejfokdmdikaaW.PrintWords Go.Proofs.YtkgejfokdmdikaaW.PrintLast Go.Proofs.YtkgejfokdmdikaaW.PrintMore PModularRoots Times
set_option maxRecDepth 10000
theorem prime_sqrt {n : Nat} (h2 : 2 ≤ n) (h : ∀ d, 2 ≤ d → d * d ≤ n → ¬ d ∣ n) : Nt.isP n := by
  refine ⟨h2, fun d hd => ?_⟩
  obtain ⟨e, he⟩ := hd
  have d0 : d ≠ 0 := by rintro rfl; rw [Nat.zero_mul] at he; omega
  have e0 : e ≠ 0 := by rintro rfl; rw [Nat.mul_zero] at he; omega
  by_cases d1 : d = 1
  · exact .inl d1
  · by_cases e1 : e = 1
    · subst e1; exact .inr (by omega)
    · exfalso
      by_cases l : d ≤ e
      · exact h d (by omega) (by rw [he]; exact Nat.mul_le_mul_left _ l) ⟨e, he⟩
      · exact h e (by omega) (by rw [he]; exact Nat.mul_le_mul_right _ (by omega)) ⟨d, by rw [he, Nat.mul_comm]⟩
theorem not_prime {n d : Nat} (h2 : 2 ≤ d) (hd : d * d ≤ n) (h : d ∣ n) : ¬ Nt.isP n := fun k => by
  have h1 : d * 2 ≤ d * d := Nat.mul_le_mul_left _ h2
  rcases k.2 d h with e | e <;> omega
theorem sq_le {q n : Nat} (hn : n ≤ 1099511627776) (h : q * q ≤ n) : q ≤ 1048576 := by
  rcases Nat.lt_or_ge 1048576 q with l | l
  · have : 1048577 * 1048577 ≤ q * q := Nat.mul_le_mul l l
    omega
  · exact l
theorem sq_small {q : Nat} (h : q ≤ 1048578) : q * q ≤ 1099515822084 := Nat.le_trans (Nat.mul_le_mul h h) (by decide)
theorem dvd_tmod (n q : Nat) : Int.tmod (n : Int) (q : Int) = 0 ↔ q ∣ n := by
  rw [Int.tmod_eq_emod_of_nonneg (by omega), ← Int.natCast_emod]
  constructor
  · intro h; exact Nat.dvd_of_mod_eq_zero (by omega)
  · intro h; rw [Nat.mod_eq_zero_of_dvd h]; rfl
theorem ref_prime (n : Nat) (h2 : 2 ≤ n) (hn : n ≤ 1099511627776) : ∀ (N q : Nat), 1048578 - q ≤ N → 2 ≤ q → q ≤ 1048577 → (∀ d, 2 ≤ d → d < q → ¬ d ∣ n) →
    (Nt.isP n → Evl (fun k => parquetref04_Prime.l0 k n q) (true, 0)) ∧ (¬ Nt.isP n → Evl (fun k => parquetref04_Prime.l0 k n q) (false, 0)) := by
  intro N
  induction N with
  | zero => intro q h0 _ h1; omega
  | succ N ih =>
    intro q hN q2 qM hd
    have sb := sq_small (q := q) (by omega)
    have w : wrap64 ((q : Int) * (q : Int)) = ((q * q : Nat) : Int) := by rw [← Int.natCast_mul, w64_id _ (by omega) (by omega)]
    by_cases le : q * q ≤ n
    · by_cases dv : q ∣ n
      · have np := not_prime q2 le dv
        refine ⟨fun p => (np p).elim, fun _ => evl_step (f := fun _ => some (false, 0)) (fun k => ?_) (evl_now _)⟩
        rw [parquetref04_Prime.l0, w, if_pos (by omega), if_neg (by omega), if_pos ((dvd_tmod n q).2 dv)]
      · have sm := sq_le hn le
        obtain ⟨i1, i2⟩ := ih (q + 1) (by omega) (by omega) (by omega) (fun d a b => by
          by_cases e : d = q
          · subst e; exact dv
          · exact hd d a (by omega))
        have st : ∀ k, parquetref04_Prime.l0 (k + 1) n q = parquetref04_Prime.l0 k n ((q + 1 : Nat) : Int) := fun k => by
          rw [parquetref04_Prime.l0, w, if_pos (by omega), if_neg (by omega), if_neg (fun h => dv ((dvd_tmod n q).1 h)), w64_id _ (by omega) (by omega)]; rfl
        exact ⟨fun p => evl_step st (i1 p), fun p => evl_step st (i2 p)⟩
    · have pr : Nt.isP n := prime_sqrt h2 fun d a b c => by
        rcases Nat.lt_or_ge d q with l | l
        · exact hd d a l c
        · have : q * q ≤ d * d := Nat.mul_le_mul l l
          omega
      refine ⟨fun _ => evl_step (f := fun _ => some (true, 0)) (fun k => ?_) (evl_now _), fun p => (p pr).elim⟩
      rw [parquetref04_Prime.l0, w, if_neg (by omega)]
theorem least_is (n : Nat) (h2 : 2 ≤ n) (hn : n ≤ 1099511627776) : ∀ (N q : Nat), 1048579 - q ≤ N → 2 ≤ q → q ≤ 1048578 → (q = 2 ∨ q % 2 = 1) → (∀ d, 2 ≤ d → d < q → ¬ d ∣ n) →
    ∃ r : Nat, (r = n ↔ Nt.isP n) ∧ Evl (fun k => modular_least.l0 k n q) (r : Int) := by
  intro N
  induction N with
  | zero => intro q h0 _ h1; omega
  | succ N ih =>
    intro q hN q2 qM qo hd
    have sb := sq_small (q := q) (by omega)
    have w : wrap64 ((q : Int) * (q : Int)) = ((q * q : Nat) : Int) := by rw [← Int.natCast_mul, w64_id _ (by omega) (by omega)]
    by_cases le : q * q ≤ n
    · by_cases dv : q ∣ n
      · have np := not_prime q2 le dv
        have l2 : q * 2 ≤ q * q := Nat.mul_le_mul_left _ q2
        refine ⟨q, ⟨fun h => by omega, fun h => (np h).elim⟩, evl_step (f := fun _ => some (q : Int)) (fun k => ?_) (evl_now _)⟩
        rw [modular_least.l0, w, if_pos (by omega), if_neg (by omega), if_pos ((dvd_tmod n q).2 dv), if_neg (by omega)]
      · have sm := sq_le hn le
        have e : wrap64 ((q : Int) + (wrap64 (1 + (Go.bits .and .i64 (q : Int) 1)))) = ((q + (1 + q % 2) : Nat) : Int) := by
          rw [and1_i64 _ (by omega) (by omega), w64_id (1 + (q : Int) % 2) (by omega) (by omega), w64_id _ (by omega) (by omega)]; omega
        obtain ⟨r, i1, i2⟩ := ih (q + (1 + q % 2)) (by omega) (by omega) (by omega) (by omega) (fun d a b => by
          rcases Nat.lt_trichotomy d q with l | l | l
          · exact hd d a l
          · subst l; exact dv
          · have d2 : 2 ∣ d := by omega
            intro hdn
            exact hd 2 (by omega) (by omega) (Nat.dvd_trans d2 hdn))
        refine ⟨r, i1, evl_step (fun k => ?_) i2⟩
        rw [modular_least.l0, w, if_pos (by omega), if_neg (by omega), if_neg (fun h => dv ((dvd_tmod n q).1 h)), e]
    · have pr : Nt.isP n := prime_sqrt h2 fun d a b c => by
        rcases Nat.lt_or_ge d q with l | l
        · exact hd d a l c
        · have : q * q ≤ d * d := Nat.mul_le_mul l l
          omega
      refine ⟨n, ⟨fun _ => pr, fun _ => rfl⟩, evl_step (f := fun _ => some (n : Int)) (fun k => ?_) (evl_now _)⟩
      rw [modular_least.l0, w, if_neg (by omega), if_pos (by omega)]
theorem prime_both (n : Nat) (h2 : 2 ≤ n) (hn : n ≤ 1099511627776) : ∃ b : Bool, (b = true ↔ Nt.isP n) ∧ Evl (fun k => modular_Prime.f k n) (b, 0) ∧ Evl (fun k => parquetref04_Prime.f k n) (b, 0) := by
  obtain ⟨r, h1, h3⟩ := least_is n h2 hn 1048579 2 (by omega) (by omega) (by omega) (.inl rfl) (fun d a b => by omega)
  obtain ⟨i1, i2⟩ := ref_prime n h2 hn 1048579 2 (by omega) (by omega) (by omega) (fun d a b => by omega)
  have P : Evl (fun k => modular_Prime.f k n) (((r : Int) == (n : Int)), 0) := by
    refine evl_congr (f := fun k => (modular_least.f k n).bind fun t101 => (some ((t101 == (n : Int)), 0))) (fun k => ?_) (Go.Proofs.YtkgejfokdmdikaaW.PrintWords.Ev.bind h3 (evl_now _))
    rw [modular_Prime.f, if_neg (by omega), if_neg (by omega)]
  have R : ∀ b, Evl (fun k => parquetref04_Prime.l0 k n ((2 : Nat) : Int)) (b, 0) → Evl (fun k => parquetref04_Prime.f k n) (b, 0) := fun b h => by
    refine evl_congr (fun k => ?_) h
    rw [parquetref04_Prime.f, if_neg (by omega), if_neg (by omega)]; rfl
  by_cases p : Nt.isP n
  · have e : ((r : Int) == (n : Int)) = true := by rw [h1.2 p]; exact beq_self_eq_true _
    rw [e] at P
    exact ⟨true, ⟨fun _ => p, fun _ => rfl⟩, P, R _ (i1 p)⟩
  · have e : ((r : Int) == (n : Int)) = false := by
      rw [beq_eq_false_iff_ne]; intro h; exact p (h1.1 (by omega))
    rw [e] at P
    exact ⟨false, ⟨fun h => (by cases h), fun h => (p h).elim⟩, P, R _ (i2 p)⟩
theorem mulpow (x y p : Int) (m : Nat) : (x * y % p) ^ m % p = (x ^ m % p) * (y ^ m % p) % p := by
  rw [pow_mod, mul_mod_l, mul_mod_r, Int.mul_pow]
theorem sqpow (x p : Int) (k : Nat) : (x * x % p) ^ (2 ^ k) % p = x ^ (2 ^ (k + 1)) % p := by
  rw [pow_mod, Nat.pow_succ, Nat.mul_comm (2 ^ k) 2, Int.pow_mul]
  congr 2
  rw [Int.pow_succ, Int.pow_succ, Int.pow_zero, Int.one_mul]
end Go.Proofs.Ytkgejfokdmdikaa.Rt
end
section
namespace Go.Proofs.Ytkgejfokdmdikaa.Rt
open Go Go.RowKit Go.Proofs.YtkgejfokdmdikaaW.PrintWords Go.Proofs.YtkgejfokdmdikaaW.PrintLast Go.Proofs.YtkgejfokdmdikaaW.PrintMore PModularRoots Times
set_option maxRecDepth 10000
section root
theorem minus_sq {p : Nat} (_hp : Nt.isP p) (_o : p % 2 = 1) (_p3 : 3 ≤ p) (_pM : p ≤ 1099511627776) : ((p : Int) - 1) * ((p : Int) - 1) % (p : Int) = 1 := by
  have e : ((p : Int) - 1) * ((p : Int) - 1) = 1 + (p : Int) * ((p : Int) - 2) := by
    simp only [Int.sub_mul, Int.mul_sub, Int.one_mul, Int.mul_one]; omega
  rw [e, Int.add_mul_emod_self_left, Int.emod_eq_of_lt (by omega) (by omega)]
theorem root_of_one {p : Nat} (_hp : Nt.isP p) (_o : p % 2 = 1) (_p3 : 3 ≤ p) (_pM : p ≤ 1099511627776) (u : Int) (u0 : 0 ≤ u) (u1 : u < p) (h : u * u % (p : Int) = 1) (h1 : u ≠ 1) : u = p - 1 := by
  obtain ⟨v, rfl⟩ := Int.eq_ofNat_of_zero_le u0
  have v0 : v ≠ 0 := by
    rintro rfl
    rw [show ((0 : Nat) : Int) = 0 from rfl, Int.mul_zero, Int.zero_emod] at h; omega
  have d : (p : Int) ∣ ((v + 1 : Nat) : Int) * ((v - 1 : Nat) : Int) := by
    have e : ((v + 1 : Nat) : Int) * ((v - 1 : Nat) : Int) = (v : Int) * (v : Int) - 1 := by
      rw [show ((v - 1 : Nat) : Int) = (v : Int) - 1 by omega, Int.natCast_add]
      simp only [Int.add_mul, Int.mul_sub, Int.mul_one, show ((1 : Nat) : Int) = 1 from rfl, Int.one_mul]; omega
    rw [e]
    refine Int.dvd_of_emod_eq_zero ?_
    rw [Int.sub_emod, h, Int.emod_eq_of_lt (a := 1) (by omega) (by omega)]
    exact Int.zero_emod _
  have c : Nat.Coprime (v - 1) p := _hp.cop_lt (by omega) (by omega)
  have d2 := Nt.cancel c d
  have d3 : p ∣ v + 1 := Int.natCast_dvd_natCast.1 d2
  have := Nat.le_of_dvd (by omega) d3
  omega
theorem euler_one {p : Nat} (_hp : Nt.isP p) (_o : p % 2 = 1) (_p3 : 3 ≤ p) (_pM : p ≤ 1099511627776) (a : Nat) (c : Nat.Coprime a p) (h : Nt.jac a p = 1) : (a : Int) ^ (p / 2) % (p : Int) = 1 := by
  have e := Nt.euler _hp _o c
  rw [h] at e
  have := Int.emod_emod_of_dvd ((a : Int) ^ (p / 2)) (Int.dvd_refl (p : Int))
  have d := Int.emod_eq_emod_iff_emod_sub_eq_zero.2 (Int.emod_eq_zero_of_dvd e)
  rw [d, Int.emod_eq_of_lt (by omega) (by omega)]
theorem euler_minus {p : Nat} (_hp : Nt.isP p) (_o : p % 2 = 1) (_p3 : 3 ≤ p) (_pM : p ≤ 1099511627776) (a : Nat) (c : Nat.Coprime a p) (h : Nt.jac a p = -1) : (a : Int) ^ (p / 2) % (p : Int) = p - 1 := by
  have e := Nt.euler _hp _o c
  rw [h] at e
  have d := Int.emod_eq_emod_iff_emod_sub_eq_zero.2 (Int.emod_eq_zero_of_dvd e)
  rw [d]
  have : (-1 : Int) = ((p : Int) - 1) + (p : Int) * (-1) := by omega
  rw [this, Int.add_mul_emod_self_left, Int.emod_eq_of_lt (by omega) (by omega)]
theorem mt {p : Nat} (_hp : Nt.isP p) (_o : p % 2 = 1) (_p3 : 3 ≤ p) (_pM : p ≤ 1099511627776) (x y : Int) (x0 : 0 ≤ x) (x1 : x < p) (y0 : 0 ≤ y) (y1 : y < p) : modular_times.f x y p = some (x * y % p) := by
  rw [modular_times.f, if_pos ⟨x0, x1, y0, y1, by omega⟩]
theorem rt {p : Nat} (_hp : Nt.isP p) (_o : p % 2 = 1) (_p3 : 3 ≤ p) (_pM : p ≤ 1099511627776) (x y : Int) (x0 : 0 ≤ x) (x1 : x < p) (y0 : 0 ≤ y) (y1 : y < p) : parquetref04_Times.f x y p = some (x * y % p) := by
  rw [parquetref04_Times.f, if_pos ⟨x0, x1, y0, y1, by omega⟩]
theorem rg {p : Nat} (_hp : Nt.isP p) (_o : p % 2 = 1) (_p3 : 3 ≤ p) (_pM : p ≤ 1099511627776) (x : Int) : 0 ≤ x % (p : Int) ∧ x % (p : Int) < p := ⟨Int.emod_nonneg _ (by omega), Int.emod_lt_of_pos _ (by omega)⟩
theorem l4_both {p : Nat} (_hp : Nt.isP p) (_o : p % 2 = 1) (_p3 : 3 ≤ p) (_pM : p ≤ 1099511627776) (x t i : Int) (s0 : Int) (x0 : 0 ≤ x) (x1 : x < p) (t0 : 0 ≤ t) (t1 : t < p) (i0 : 0 ≤ i) (sM : s0 ≤ 64) : ∀ (d : Nat) (s c kk : Int), s = i + 1 + d → s ≤ 64 → 0 ≤ kk → kk + d = s0 - i - 1 → 0 ≤ c → c < p →
    ∃ b : Int, 0 ≤ b ∧ b < p ∧ b % p = c ^ (2 ^ d) % p ∧ ∀ R,
      Evl (fun k => modular_Root.l2 k p i (b * b % p) (x * b % p) (t * (b * b % p) % p)) R → Evl (fun k => parquetref04_Root.l2 k p i (b * b % p) (x * b % p) (t * (b * b % p) % p)) R →
      Evl (fun k => modular_Root.l4 k p s c x t i) R ∧ Evl (fun k => parquetref04_Root.l4 k p s0 x t i c kk) R := by
  intro d
  induction d with
  | zero =>
    intro s c kk hs sm k0 hk c0 c1
    have g := rg _hp _o _p3 _pM (c * c)
    refine ⟨c, c0, c1, by rw [Nat.pow_zero, Int.pow_succ, Int.pow_zero, Int.one_mul], fun R h1 h2 => ⟨evl_step (fun k => ?_) h1, evl_step (fun k => ?_) h2⟩⟩
    · rw [modular_Root.l4, w64_id (i + 1) (by omega) (by omega), if_neg (by omega), mt _hp _o _p3 _pM x c x0 x1 c0 c1, Option.bind_some, mt _hp _o _p3 _pM c c c0 c1 c0 c1, Option.bind_some,
        mt _hp _o _p3 _pM t _ t0 t1 g.1 g.2, Option.bind_some]
    · rw [parquetref04_Root.l4, w64_id (s0 - i) (by omega) (by omega), w64_id (s0 - i - 1) (by omega) (by omega), if_neg (by omega), rt _hp _o _p3 _pM c c c0 c1 c0 c1, Option.bind_some, rt _hp _o _p3 _pM x c x0 x1 c0 c1, Option.bind_some,
        rt _hp _o _p3 _pM t _ t0 t1 g.1 g.2, Option.bind_some]
  | succ d ih =>
    intro s c kk hs sm k0 hk c0 c1
    have g := rg _hp _o _p3 _pM (c * c)
    obtain ⟨b, b0, b1, b2, H⟩ := ih (s - 1) (c * c % p) (kk + 1) (by omega) (by omega) (by omega) (by omega) g.1 g.2
    refine ⟨b, b0, b1, by rw [b2, sqpow], fun R h1 h2 => ?_⟩
    obtain ⟨q1, q2⟩ := H R h1 h2
    refine ⟨evl_step (fun k => ?_) q1, evl_step (fun k => ?_) q2⟩
    · rw [modular_Root.l4, w64_id (i + 1) (by omega) (by omega), if_pos (by omega), mt _hp _o _p3 _pM c c c0 c1 c0 c1, Option.bind_some, w64_id (s - 1) (by omega) (by omega)]
    · rw [parquetref04_Root.l4, w64_id (s0 - i) (by omega) (by omega), w64_id (s0 - i - 1) (by omega) (by omega), if_pos (by omega), rt _hp _o _p3 _pM c c c0 c1 c0 c1, Option.bind_some, w64_id (kk + 1) (by omega) (by omega)]
theorem l3_both {p : Nat} (_hp : Nt.isP p) (_o : p % 2 = 1) (_p3 : 3 ≤ p) (_pM : p ≤ 1099511627776) (s c x t : Int) : ∀ (d : Nat) (i u : Int), 0 ≤ i → i + d ≤ 64 → 0 ≤ u → u < p → u ^ (2 ^ d) % (p : Int) = 1 →
    ∃ j : Nat, j ≤ d ∧ u ^ (2 ^ j) % (p : Int) = 1 ∧ (j ≠ 0 → u ^ (2 ^ (j - 1)) % (p : Int) = p - 1) ∧ (j = 0 → u = 1) ∧ ∀ R,
      (Evl (fun k => modular_Root.l4 k p s c x t (i + j)) R → Evl (fun k => modular_Root.l3 k p s c x t i u) R) ∧
      (Evl (fun k => parquetref04_Root.l4 k p s x t (i + j) c 0) R → Evl (fun k => parquetref04_Root.l3 k p s c x t i u) R) := by
  intro d
  have stop : ∀ i : Int, ∀ R, (Evl (fun k => modular_Root.l4 k p s c x t (i + ((0 : Nat) : Int))) R → Evl (fun k => modular_Root.l3 k p s c x t i 1) R) ∧
      (Evl (fun k => parquetref04_Root.l4 k p s x t (i + ((0 : Nat) : Int)) c 0) R → Evl (fun k => parquetref04_Root.l3 k p s c x t i 1) R) := by
    intro i R
    rw [show i + ((0 : Nat) : Int) = i from Int.add_zero i]
    refine ⟨fun h => evl_step (fun k => ?_) h, fun h => evl_step (fun k => ?_) h⟩
    · rw [modular_Root.l3, if_pos rfl]
    · rw [parquetref04_Root.l3, if_pos rfl]
  have one : (1 : Int) ^ (2 ^ 0) % (p : Int) = 1 := by rw [Nat.pow_zero, Int.pow_succ, Int.pow_zero, Int.one_mul, Int.emod_eq_of_lt (by omega) (by omega)]
  induction d with
  | zero =>
    intro i u i0 iM u0 u1 h
    rw [Nat.pow_zero, Int.pow_succ, Int.pow_zero, Int.one_mul, Int.emod_eq_of_lt u0 u1] at h
    subst h
    exact ⟨0, Nat.le_refl _, one, fun h => (h rfl).elim, fun _ => rfl, stop i⟩
  | succ d ih =>
    intro i u i0 iM u0 u1 h
    by_cases z : u = 1
    · subst z
      exact ⟨0, by omega, one, fun h => (h rfl).elim, fun _ => rfl, stop i⟩
    · have g := rg _hp _o _p3 _pM (u * u)
      obtain ⟨j, j1, j2, j3, j4, H⟩ := ih (i + 1) (u * u % p) (by omega) (by omega) g.1 g.2 (by rw [sqpow]; exact h)
      refine ⟨j + 1, by omega, by rw [← sqpow]; exact j2, fun _ => ?_, fun h => by omega, fun R => ?_⟩
      · rw [Nat.add_sub_cancel]
        by_cases jz : j = 0
        · have e := root_of_one _hp _o _p3 _pM u u0 u1 (j4 jz) z
          subst jz
          rw [Nat.pow_zero, Int.pow_succ, Int.pow_zero, Int.one_mul, Int.emod_eq_of_lt u0 u1, e]
        · have e := j3 jz
          rw [sqpow, Nat.sub_add_cancel (by omega)] at e
          exact e
      · obtain ⟨H1, H2⟩ := H R
        have ej : i + 1 + (j : Int) = i + ((j + 1 : Nat) : Int) := by omega
        rw [ej] at H1 H2
        refine ⟨fun h => evl_step (fun k => ?_) (H1 h), fun h => evl_step (fun k => ?_) (H2 h)⟩
        · rw [modular_Root.l3, if_neg z, mt _hp _o _p3 _pM u u u0 u1 u0 u1, Option.bind_some, w64_id (i + 1) (by omega) (by omega)]
        · rw [parquetref04_Root.l3, if_neg z, rt _hp _o _p3 _pM u u u0 u1 u0 u1, Option.bind_some, w64_id (i + 1) (by omega) (by omega)]
theorem l2_both {p : Nat} (_hp : Nt.isP p) (_o : p % 2 = 1) (_p3 : 3 ≤ p) (_pM : p ≤ 1099511627776) (a : Int) : ∀ (S s : Nat) (c x t : Int), s ≤ S → 1 ≤ s → s ≤ 64 → 0 ≤ c → c < p → 0 ≤ x → x < p → 0 ≤ t → t < p →
    c ^ (2 ^ (s - 1)) % (p : Int) = p - 1 → t ^ (2 ^ (s - 1)) % (p : Int) = 1 → x * x % p = a * t % p →
    ∃ y : Int, 0 ≤ y ∧ y < p ∧ y * y % p = a % p ∧ Evl (fun k => modular_Root.l2 k p s c x t) (mn y (p - y), 0) ∧ Evl (fun k => parquetref04_Root.l2 k p s c x t) (mn y (p - y), 0) := by
  intro S
  induction S with
  | zero => intro s c x t h1 h2; omega
  | succ S ih =>
    intro s c x t sS s1 sM c0 c1 x0 x1 t0 t1 hc ht hx
    by_cases z : t = 1
    · subst z
      refine ⟨x, x0, x1, by rw [hx, Int.mul_one], evl_step (f := fun _ => some (mn x (p - x), 0)) (fun k => ?_) (evl_now _), evl_step (f := fun _ => some (mn x (p - x), 0)) (fun k => ?_) (evl_now _)⟩
      · rw [modular_Root.l2, if_pos rfl, w64_id _ (by omega) (by omega)]
      · rw [parquetref04_Root.l2, if_pos rfl, w64_id _ (by omega) (by omega)]
    · obtain ⟨j, j1, j2, j3, j4, H3⟩ := l3_both _hp _o _p3 _pM s c x t (s - 1) 0 t (Int.le_refl _) (by omega) t0 t1 ht
      have jz : j ≠ 0 := fun h => z (j4 h)
      have jm := j3 jz
      rw [Int.zero_add] at H3
      obtain ⟨b, b0, b1, b2, H4⟩ := l4_both _hp _o _p3 _pM x t j s x0 x1 t0 t1 (by omega) (by omega) (s - 1 - j) s c 0 (by omega) (by omega) (Int.le_refl _) (by omega) c0 c1
      have gb := rg _hp _o _p3 _pM (b * b)
      have gx := rg _hp _o _p3 _pM (x * b)
      have gt := rg _hp _o _p3 _pM (t * (b * b % p))
      have hb : (b * b % p) ^ (2 ^ (j - 1)) % (p : Int) = p - 1 := by
        rw [sqpow, Nat.sub_add_cancel (by omega), ← pow_mod b, b2, pow_mod, ← Int.pow_mul, ← Nat.pow_add, show s - 1 - j + j = s - 1 by omega]
        exact hc
      obtain ⟨y, y0, y1, y2, y3, y4⟩ := ih j (b * b % p) (x * b % p) (t * (b * b % p) % p) (by omega) (by omega) (by omega) gb.1 gb.2 gx.1 gx.2 gt.1 gt.2 hb
        (by rw [mulpow, jm, hb, minus_sq _hp _o _p3 _pM])
        (by
          rw [mul_mod_l, mul_mod_r, mul_mod_r]
          have e1 : x * b * (x * b) = x * x * (b * b) := by rw [Int.mul_assoc, Int.mul_left_comm b, ← Int.mul_assoc]
          have e2 : a * (t * (b * b % p)) = a * t * (b * b % p) := by rw [Int.mul_assoc]
          rw [e1, e2, mul_mod_r, ← mul_mod_l (x * x), hx, mul_mod_l])
      obtain ⟨P4, R4⟩ := H4 _ y3 y4
      obtain ⟨P3, R3⟩ := H3 (mn y (p - y), 0)
      refine ⟨y, y0, y1, y2, evl_step (fun k => ?_) (P3 P4), evl_step (fun k => ?_) (R3 R4)⟩
      · rw [modular_Root.l2, if_neg z]
      · rw [parquetref04_Root.l2, if_neg z]
theorem kron_p {p : Nat} (_hp : Nt.isP p) (_o : p % 2 = 1) (_p3 : 3 ≤ p) (_pM : p ≤ 1099511627776) (z : Nat) : Nt.kron (z : Int) (p : Int) = Nt.jac z p := by
  unfold Nt.kron
  rw [if_neg (by omega), if_neg (by omega), Int.one_mul, Int.natAbs_natCast, Nt.kronN_odd _ _ _o, ← Int.natCast_emod, Int.toNat_natCast, Nt.jac_mod]
theorem mk {p : Nat} (_hp : Nt.isP p) (_o : p % 2 = 1) (_p3 : 3 ≤ p) (_pM : p ≤ 1099511627776) (z : Nat) (zp : z < p) : modular_Kronecker.f (z : Int) (p : Int) = some (Nt.jac z p) := by
  rw [modular_Kronecker.f, if_pos ⟨⟨by omega, by omega⟩, ⟨by omega, by omega⟩⟩, kron_p _hp _o _p3 _pM]
theorem mto {p : Nat} (_hp : Nt.isP p) (_o : p % 2 = 1) (_p3 : 3 ≤ p) (_pM : p ≤ 1099511627776) (x : Int) (n : Nat) (hn : n ≤ 1099511627776) : modular_to.f x (n : Int) (p : Int) = some (x ^ n % (p : Int)) := by
  rw [modular_to.f, if_pos ⟨by omega, by omega, by omega, by omega⟩, Int.toNat_natCast]
theorem rto {p : Nat} (_hp : Nt.isP p) (_o : p % 2 = 1) (_p3 : 3 ≤ p) (_pM : p ≤ 1099511627776) (x : Int) (n : Nat) (hn : n ≤ 1099511627776) : parquetref04_To.f x (n : Int) (p : Int) = some (x ^ n % (p : Int)) := by
  rw [parquetref04_To.f, if_pos ⟨by omega, by omega, by omega, by omega⟩, Int.toNat_natCast]
theorem half_is {p : Nat} (_hp : Nt.isP p) (_o : p % 2 = 1) (_p3 : 3 ≤ p) (_pM : p ≤ 1099511627776) : wrap64 (Int.tdiv (wrap64 ((p : Int) - 1)) 2) = ((p / 2 : Nat) : Int) := by
  rw [w64_id ((p : Int) - 1) (by omega) (by omega), Int.tdiv_eq_ediv_of_nonneg (by omega), w64_id _ (by omega) (by omega)]; omega
theorem l1_both {p : Nat} (_hp : Nt.isP p) (_o : p % 2 = 1) (_p3 : 3 ≤ p) (_pM : p ≤ 1099511627776) (a q s : Nat) (ca : Nat.Coprime a p) (ja : Nt.jac a p = 1) (qo : q % 2 = 1) (qs : q * 2 ^ s = p - 1) (s1 : 1 ≤ s) (sM : s ≤ 64) (z0 : Nat) (zp : z0 < p) (jz : Nt.jac z0 p = -1) :
    ∀ (d z : Nat), z + d = z0 → 2 ≤ z →
    ∃ y : Int, 0 ≤ y ∧ y < p ∧ y * y % p = (a : Int) % p ∧ Evl (fun k => modular_Root.l1 k a p q s z) (mn y (p - y), 0) ∧ Evl (fun k => parquetref04_Root.l1 k a p q s z) (mn y (p - y), 0) := by
  have qM : q ≤ 1099511627776 := by
    have : q * 1 ≤ q * 2 ^ s := Nat.mul_le_mul_left _ (Nat.two_pow_pos s)
    omega
  have hq : q * 2 ^ (s - 1) = p / 2 := by
    have : q * 2 ^ s = q * 2 ^ (s - 1) * 2 := by rw [Nat.mul_assoc, ← Nat.pow_succ, Nat.succ_eq_add_one, Nat.sub_add_cancel s1]
    omega
  have w : wrap64 (Int.tdiv (wrap64 ((q : Int) + 1)) 2) = (((q + 1) / 2 : Nat) : Int) := by
    rw [w64_id ((q : Int) + 1) (by omega) (by omega), Int.tdiv_eq_ediv_of_nonneg (by omega), w64_id _ (by omega) (by omega)]; omega
  intro d
  induction d with
  | zero =>
    intro z hz z2
    obtain rfl : z = z0 := by omega
    have cz := _hp.cop_lt (x := z) (by omega) zp
    have hM : p / 2 ≤ 1099511627776 := by omega
    have q1M : (q + 1) / 2 ≤ 1099511627776 := by omega
    have pm : ¬ (p : Int) - 1 = 1 := by omega
    have ez := euler_minus _hp _o _p3 _pM z cz jz
    have ea := euler_one _hp _o _p3 _pM a ca ja
    have g1 := rg _hp _o _p3 _pM ((z : Int) ^ q)
    have g2 := rg _hp _o _p3 _pM ((a : Int) ^ ((q + 1) / 2))
    have g3 := rg _hp _o _p3 _pM ((a : Int) ^ q)
    obtain ⟨y, y0, y1, y2, y3, y4⟩ := l2_both _hp _o _p3 _pM (a : Int) s s ((z : Int) ^ q % p) ((a : Int) ^ ((q + 1) / 2) % p) ((a : Int) ^ q % p) (Nat.le_refl _) s1 sM g1.1 g1.2 g2.1 g2.2 g3.1 g3.2
      (by rw [pow_mod, ← Int.pow_mul, hq]; exact ez) (by rw [pow_mod, ← Int.pow_mul, hq]; exact ea)
      (by
        rw [mul_mod_l, mul_mod_r, mul_mod_r, ← Int.pow_add, show (q + 1) / 2 + (q + 1) / 2 = q + 1 by omega, Int.pow_succ, Int.mul_comm])
    refine ⟨y, y0, y1, y2, evl_step (fun k => ?_) y3, evl_step (fun k => ?_) y4⟩
    · rw [modular_Root.l1, mk _hp _o _p3 _pM z zp, Option.bind_some, jz, if_pos rfl, mto _hp _o _p3 _pM z q qM, Option.bind_some, w, mto _hp _o _p3 _pM a _ q1M, Option.bind_some, mto _hp _o _p3 _pM a q qM, Option.bind_some]
    · rw [parquetref04_Root.l1, half_is _hp _o _p3 _pM, rto _hp _o _p3 _pM z _ hM, Option.bind_some, ez, if_neg pm, rto _hp _o _p3 _pM z q qM, Option.bind_some, w, rto _hp _o _p3 _pM a _ q1M, Option.bind_some,
        rto _hp _o _p3 _pM a q qM, Option.bind_some]
  | succ d ih =>
    intro z hz z2
    have cz := _hp.cop_lt (x := z) (by omega) (by omega)
    have zlt : z < p := by omega
    have hM : p / 2 ≤ 1099511627776 := by omega
    have q1M : (q + 1) / 2 ≤ 1099511627776 := by omega
    have pm : ¬ (p : Int) - 1 = 1 := by omega
    have wz : wrap64 ((z : Int) + 1) = ((z + 1 : Nat) : Int) := by rw [w64_id _ (by omega) (by omega)]; rfl
    rcases Nt.jac_pm cz with j | j
    · obtain ⟨y, y0, y1, y2, y3, y4⟩ := ih (z + 1) (by clear wz w; omega) (by clear wz w; omega)
      have ez := euler_one _hp _o _p3 _pM z cz j
      refine ⟨y, y0, y1, y2, evl_step (fun k => ?_) y3, evl_step (fun k => ?_) y4⟩
      · rw [modular_Root.l1, mk _hp _o _p3 _pM z zlt, Option.bind_some, j, if_neg (by decide), wz]
      · rw [parquetref04_Root.l1, half_is _hp _o _p3 _pM, rto _hp _o _p3 _pM z _ hM, Option.bind_some, ez, if_pos rfl, wz]
    · have ez := euler_minus _hp _o _p3 _pM z cz j
      have ea := euler_one _hp _o _p3 _pM a ca ja
      have g1 := rg _hp _o _p3 _pM ((z : Int) ^ q)
      have g2 := rg _hp _o _p3 _pM ((a : Int) ^ ((q + 1) / 2))
      have g3 := rg _hp _o _p3 _pM ((a : Int) ^ q)
      obtain ⟨y, y0, y1, y2, y3, y4⟩ := l2_both _hp _o _p3 _pM (a : Int) s s ((z : Int) ^ q % p) ((a : Int) ^ ((q + 1) / 2) % p) ((a : Int) ^ q % p) (Nat.le_refl _) s1 sM g1.1 g1.2 g2.1 g2.2 g3.1 g3.2
        (by rw [pow_mod, ← Int.pow_mul, hq]; exact ez) (by rw [pow_mod, ← Int.pow_mul, hq]; exact ea)
        (by
          rw [mul_mod_l, mul_mod_r, mul_mod_r, ← Int.pow_add, show (q + 1) / 2 + (q + 1) / 2 = q + 1 by omega, Int.pow_succ, Int.mul_comm])
      refine ⟨y, y0, y1, y2, evl_step (fun k => ?_) y3, evl_step (fun k => ?_) y4⟩
      · rw [modular_Root.l1, mk _hp _o _p3 _pM z zlt, Option.bind_some, j, if_pos rfl, mto _hp _o _p3 _pM z q qM, Option.bind_some, w, mto _hp _o _p3 _pM a _ q1M, Option.bind_some, mto _hp _o _p3 _pM a q qM, Option.bind_some]
      · rw [parquetref04_Root.l1, half_is _hp _o _p3 _pM, rto _hp _o _p3 _pM z _ hM, Option.bind_some, ez, if_neg pm, rto _hp _o _p3 _pM z q qM, Option.bind_some, w, rto _hp _o _p3 _pM a _ q1M, Option.bind_some,
          rto _hp _o _p3 _pM a q qM, Option.bind_some]
theorem l0_both {p : Nat} (_hp : Nt.isP p) (_o : p % 2 = 1) (_p3 : 3 ≤ p) (_pM : p ≤ 1099511627776) (a : Nat) (ca : Nat.Coprime a p) (ja : Nt.jac a p = 1) : ∀ (N q s : Nat), q ≤ N → 0 < q → q * 2 ^ s = p - 1 →
    ∃ y : Int, 0 ≤ y ∧ y < p ∧ y * y % p = (a : Int) % p ∧ Evl (fun k => modular_Root.l0 k a p q s) (mn y (p - y), 0) ∧ Evl (fun k => parquetref04_Root.l0 k a p q s) (mn y (p - y), 0) := by
  intro N
  induction N with
  | zero => intro q s h0 h1; omega
  | succ N ih =>
    intro q s qN q0 qs
    have sM : s ≤ 40 := by
      rcases Nat.lt_or_ge 40 s with l | l
      · have h1 : 2 ^ 41 ≤ 2 ^ s := Nat.pow_le_pow_right (by omega) l
        have h2 : 1 * 2 ^ s ≤ q * 2 ^ s := Nat.mul_le_mul_right _ q0
        have h3 : (2 : Nat) ^ 41 = 2199023255552 := by decide
        omega
      · exact l
    have qM : q ≤ 1099511627776 := by
      have : q * 1 ≤ q * 2 ^ s := Nat.mul_le_mul_left _ (Nat.two_pow_pos s)
      omega
    have n0 : 0 ≤ (q : Int) := by omega
    have n1 : (q : Int) ≤ 9223372036854775807 := by omega
    by_cases ev : q % 2 = 0
    · have h : q / 2 * 2 ^ (s + 1) = p - 1 := by
        rw [Nat.pow_succ, Nat.mul_comm (2 ^ s) 2, ← Nat.mul_assoc, show q / 2 * 2 = q by omega]; exact qs
      have ei : (q : Int) % 2 = 0 := by omega
      have ws : wrap64 ((s : Int) + 1) = ((s + 1 : Nat) : Int) := by rw [w64_id _ (by omega) (by omega)]; rfl
      have eq2 : ((q : Int) / 2) = ((q / 2 : Nat) : Int) := by omega
      have wq : wrap64 (Int.tdiv (q : Int) 2) = ((q / 2 : Nat) : Int) := by rw [Int.tdiv_eq_ediv_of_nonneg (by omega), w64_id _ (by omega) (by omega), eq2]
      obtain ⟨y, y0, y1, y2, y3, y4⟩ := ih (q / 2) (s + 1) (by clear ws wq; omega) (by clear ws wq; omega) h
      refine ⟨y, y0, y1, y2, evl_step (fun k => ?_) y3, evl_step (fun k => ?_) y4⟩
      · rw [modular_Root.l0, and1_i64 _ n0 n1, if_pos ei, ws, eq2]
      · rw [parquetref04_Root.l0, Int.tmod_eq_emod_of_nonneg n0, if_pos ei, ws, wq]
    · have s1 : 1 ≤ s := by
        rcases Nat.eq_zero_or_pos s with h | h
        · subst h; rw [Nat.pow_zero, Nat.mul_one] at qs; omega
        · exact h
      have ei : ¬ (q : Int) % 2 = 0 := by omega
      obtain ⟨z0, h2, h3, h4⟩ := Nt.nonresidue _hp _o
      obtain ⟨y, y0, y1, y2, y3, y4⟩ := l1_both _hp _o _p3 _pM a q s ca ja (by omega) qs s1 (by omega) z0 h3 h4 (z0 - 2) 2 (by omega) (Nat.le_refl _)
      refine ⟨y, y0, y1, y2, evl_step (fun k => ?_) y3, evl_step (fun k => ?_) y4⟩
      · rw [modular_Root.l0, and1_i64 _ n0 n1, if_neg ei]; rfl
      · rw [parquetref04_Root.l0, Int.tmod_eq_emod_of_nonneg n0, if_neg ei]; rfl
end root
theorem root_prime {p : Nat} (hp : Nt.isP p) (o : p % 2 = 1) (p3 : 3 ≤ p) (pM : p ≤ 1099511627776) (a : Int) :
    ∃ r : Int × Int, Evl (fun k => modular_Root.f k a p) r ∧ Evl (fun k => parquetref04_Root.f k a p) r ∧
      ((Nt.jac (a % (p : Int)).toNat p = 0 ∧ a % (p : Int) = 0 ∧ r = (0, 0)) ∨ (Nt.jac (a % (p : Int)).toNat p = -1 ∧ a % (p : Int) ≠ 0 ∧ r = (0, 41)) ∨
        (Nt.jac (a % (p : Int)).toNat p = 1 ∧ a % (p : Int) ≠ 0 ∧ ∃ y : Int, 0 ≤ y ∧ y < p ∧ y * y % p = a % p ∧ r = (mn y (p - y), 0))) := by
  obtain ⟨b, hb, P, R⟩ := prime_both p (by omega) pM
  obtain rfl : b = true := hb.2 hp
  have g := rg hp o p3 pM a
  obtain ⟨A, hA⟩ := Int.eq_ofNat_of_zero_le g.1
  have am : modular_mod.f a (p : Int) = some (A : Int) := by rw [modular_mod.f, if_pos ⟨by omega, by omega⟩, hA]
  have ar : parquetref04_Mod.f a (p : Int) = some (A : Int) := by rw [parquetref04_Mod.f, if_pos ⟨by omega, by omega⟩, hA]
  rw [hA] at g ⊢
  rw [Int.toNat_natCast]
  have Ap : A < p := by omega
  have fP : ∀ X : Nat → Option (Int × Int), ∀ r, (∀ k, modular_Root.f k a p = ((modular_Prime.f k p).bind fun bt102 => (if bt102.2 = 0 then (if bt102.1 = true then X k else (some (0, 40))) else (some (0, bt102.2))))) → Evl X r → Evl (fun k => modular_Root.f k a p) r := by
    intro X r h hX
    refine evl_congr h (Go.Proofs.YtkgejfokdmdikaaW.PrintWords.Ev.bind P (evl_congr (fun k => ?_) hX))
    rw [if_pos rfl, if_pos rfl]
  have fR : ∀ X : Nat → Option (Int × Int), ∀ r, (∀ k, parquetref04_Root.f k a p = ((parquetref04_Prime.f k p).bind fun bt102 => (if bt102.2 = 0 then (if bt102.1 = true then X k else (some (0, 40))) else (some (0, bt102.2))))) → Evl X r → Evl (fun k => parquetref04_Root.f k a p) r := by
    intro X r h hX
    refine evl_congr h (Go.Proofs.YtkgejfokdmdikaaW.PrintWords.Ev.bind R (evl_congr (fun k => ?_) hX))
    rw [if_pos rfl, if_pos rfl]
  have sM : ∀ k, modular_Root.f k a p = ((modular_Prime.f k p).bind fun bt102 => (if bt102.2 = 0 then (if bt102.1 = true then (if Nt.jac A p = 0 then (some (0, 0)) else (if Nt.jac A p = (-1) then (some (0, 41)) else (modular_Root.l0 k (A : Int) p (wrap64 ((p : Int) - 1)) 0))) else (some (0, 40))) else (some (0, bt102.2)))) := by
    intro k
    rw [modular_Root.f, if_neg (by omega), am]
    simp only [Option.bind_some, mk hp o p3 pM A Ap]
  have sR : ∀ k, parquetref04_Root.f k a p = ((parquetref04_Prime.f k p).bind fun bt102 => (if bt102.2 = 0 then (if bt102.1 = true then (if (A : Int) = 0 then (some (0, 0)) else (if (A : Int) ^ (p / 2) % (p : Int) = 1 then (parquetref04_Root.l0 k (A : Int) p (wrap64 ((p : Int) - 1)) 0) else (some (0, 41)))) else (some (0, 40))) else (some (0, bt102.2)))) := by
    intro k
    rw [parquetref04_Root.f, if_neg (by omega), ar]
    simp only [Option.bind_some, half_is hp o p3 pM, rto hp o p3 pM (A : Int) (p / 2) (by omega)]
  by_cases A0 : A = 0
  · subst A0
    have j : Nt.jac 0 p = 0 := by rw [Nt.jac_zero, if_neg (by omega)]
    refine ⟨(0, 0), fP _ _ sM (evl_congr (fun k => ?_) (evl_now _)), fR _ _ sR (evl_congr (fun k => ?_) (evl_now _)), .inl ⟨j, rfl, rfl⟩⟩
    · rw [if_pos j]
    · rw [if_pos (by rfl)]
  · have cA := hp.cop_lt (x := A) (by omega) Ap
    rcases Nt.jac_pm cA with j | j
    · obtain ⟨y, y0, y1, y2, y3, y4⟩ := l0_both hp o p3 pM A cA j (p - 1) (p - 1) 0 (Nat.le_refl _) (by omega) (by rw [Nat.pow_zero, Nat.mul_one])
      have wp : wrap64 ((p : Int) - 1) = ((p - 1 : Nat) : Int) := by rw [w64_id _ (by omega) (by omega)]; omega
      refine ⟨(mn y (p - y), 0), fP _ _ sM (evl_congr (fun k => ?_) y3), fR _ _ sR (evl_congr (fun k => ?_) y4), .inr (.inr ⟨j, by omega, y, y0, y1, ?_, rfl⟩)⟩
      · rw [j, if_neg (by decide), if_neg (by decide), wp]; rfl
      · rw [if_neg (by omega), euler_one hp o p3 pM A cA j, if_pos rfl, wp]; rfl
      · rw [y2, ← hA, Int.emod_emod_of_dvd _ (Int.dvd_refl (p : Int))]
    · have e := euler_minus hp o p3 pM A cA j
      refine ⟨(0, 41), fP _ _ sM (evl_congr (fun k => ?_) (evl_now _)), fR _ _ sR (evl_congr (fun k => ?_) (evl_now _)), .inr (.inl ⟨j, by omega, rfl⟩)⟩
      · rw [j, if_neg (by decide), if_pos rfl]
      · rw [if_neg (by omega), e, if_neg (by omega)]
end Go.Proofs.Ytkgejfokdmdikaa.Rt
namespace Go.Proofs.Ytkgejfokdmdikaa.Pure
open Go Go.RowKit Go.Proofs.YtkgejfokdmdikaaW.PrintWords PModularRoots Times
end Go.Proofs.Ytkgejfokdmdikaa.Pure
end
section
set_option linter.unusedVariables false
namespace Go.Proofs.Ytkgejfokdmdikaa.Sy
open Go Go.RowKit Go.Proofs.Ytkgejfokdmdikaa Go.Proofs.Ytkgejfokdmdikaa.Times Go.Proofs.Ytkgejfokdmdikaa.Nt Go.Proofs.YtkgejfokdmdikaaW.PrintWords Go.Proofs.YtkgejfokdmdikaaW.PrintLast Go.Proofs.YtkgejfokdmdikaaW.PrintMore Go.Proofs.Ytkgejfokdmdikaa.PModularRoots Go.Proofs.Ytkgejfokdmdikaa.Rt
theorem two8_mul (a b : Int) : two8 (a * b) = two8 a * two8 b := by
  have e : a * b % 8 = (a % 8) * (b % 8) % 8 := Int.mul_emod a b 8
  have ha := Int.emod_nonneg a (show (8 : Int) ≠ 0 by omega)
  have ha2 := Int.emod_lt_of_pos a (show (0 : Int) < 8 by omega)
  have hb := Int.emod_nonneg b (show (8 : Int) ≠ 0 by omega)
  have hb2 := Int.emod_lt_of_pos b (show (0 : Int) < 8 by omega)
  unfold two8
  rw [e]
  generalize a % 8 = x at *
  generalize b % 8 = y at *
  rcases (show x = 0 ∨ x = 1 ∨ x = 2 ∨ x = 3 ∨ x = 4 ∨ x = 5 ∨ x = 6 ∨ x = 7 by omega) with rfl | rfl | rfl | rfl | rfl | rfl | rfl | rfl <;>
    rcases (show y = 0 ∨ y = 1 ∨ y = 2 ∨ y = 3 ∨ y = 4 ∨ y = 5 ∨ y = 6 ∨ y = 7 by omega) with rfl | rfl | rfl | rfl | rfl | rfl | rfl | rfl <;> decide
theorem kronN_mul (a b : Int) : ∀ (N n : Nat), n ≤ N → 0 < n → kronN (a * b) n = kronN a n * kronN b n
  | 0, n, h, h0 => by omega
  | N + 1, n, h, h0 => by
    rcases Nat.mod_two_eq_zero_or_one n with e | o
    · rw [kronN_even _ n e h0, kronN_even a n e h0, kronN_even b n e h0, kronN_mul a b N (n / 2) (by omega) (by omega), two8_mul]
      rw [Int.mul_assoc, Int.mul_assoc, Int.mul_left_comm (two8 b)]
    · rw [kronN_odd _ n o, kronN_odd a n o, kronN_odd b n o]
      have e : (a * b % (n : Int)).toNat % n = ((a % (n : Int)).toNat * (b % (n : Int)).toNat) % n := by
        have h1 := Int.emod_nonneg (a * b) (show (n : Int) ≠ 0 by omega)
        have h2 := Int.emod_nonneg a (show (n : Int) ≠ 0 by omega)
        have h3 := Int.emod_nonneg b (show (n : Int) ≠ 0 by omega)
        have h4 := Int.emod_lt_of_pos (a * b) (show (0 : Int) < n by omega)
        apply Int.ofNat.inj
        show ((_ : Nat) : Int) = ((_ : Nat) : Int)
        rw [Int.natCast_emod, Int.natCast_emod, Int.natCast_mul, Int.toNat_of_nonneg h1, Int.toNat_of_nonneg h2, Int.toNat_of_nonneg h3, Int.emod_emod_of_dvd _ (Int.dvd_refl _), ← Int.mul_emod]
      rw [← jac_mod, e, jac_mod, jac_mul o]
theorem kron_mul (a b k : Int) (hk : 0 < k) : kron (a * b) k = kron a k * kron b k := by
  unfold kron
  rw [if_neg (by omega), if_neg (by omega), if_neg (by omega), if_neg (by omega), if_neg (by omega), if_neg (by omega), Int.one_mul, Int.one_mul, Int.one_mul]
  exact kronN_mul a b _ _ (Nat.le_refl _) (by omega)
theorem kron_odd (a : Int) {n : Nat} (h : n % 2 = 1) : kron a (n : Int) = jac (a % (n : Int)).toNat n := by
  unfold kron
  rw [if_neg (by omega), if_neg (by omega), Int.one_mul, Int.natAbs_natCast, kronN_odd _ _ h]
theorem kron_odd' {m n : Nat} (h : n % 2 = 1) : kron (m : Int) (n : Int) = jac m n := by
  rw [kron_odd _ h, ← Int.natCast_emod, Int.toNat_natCast, jac_mod]
theorem kron_rec {u v : Nat} (hu : u % 2 = 1) (hv : v % 2 = 1) (c : Nat.gcd u v = 1) : kron (u : Int) (v : Int) * kron (v : Int) (u : Int) = if u % 4 = 3 ∧ v % 4 = 3 then -1 else 1 := by
  rw [kron_odd' hv, kron_odd' hu, jac_rec hu hv, Int.mul_assoc]
  have : jac v u * jac v u = 1 := by
    rcases jac_pm (p := u) (a := v) (by rw [Nat.Coprime, Nat.gcd_comm]; exact c) with h | h <;> rw [h] <;> rfl
  rw [this, Int.mul_one]
theorem mn_half (p : Nat) (o : p % 2 = 1) (y : Int) (y0 : 0 < y) (y1 : y < p) : 0 < mn y (p - y) ∧ mn y (p - y) ≤ ((p : Int) - 1) / 2 ∧ mn y (p - y) * mn y (p - y) % (p : Int) = y * y % p := by
  have e : ((p : Int) - y) * ((p : Int) - y) = y * y + (p : Int) * ((p : Int) - 2 * y) := by
    rw [Int.sub_mul, Int.mul_sub, Int.mul_sub, Int.mul_sub, Int.mul_comm y (p : Int), Int.mul_left_comm (p : Int) 2 y]; omega
  unfold mn
  split
  · refine ⟨by omega, by omega, ?_⟩
    rw [e, Int.add_mul_emod_self_left]
  · exact ⟨by omega, by omega, rfl⟩
theorem root_tells {p : Nat} (hp : isP p) (o : p % 2 = 1) (p3 : 3 ≤ p) (pM : p ≤ 1099511627776) (a : Int) : ∃ x f : Int, Evl (fun k => modular_Root.f k a p) (x, f) ∧ 0 ≤ x ∧ x < p ∧ (kron a p = 1 ↔ f = 0 ∧ x ≠ 0) ∧ (kron a p = 0 ↔ f = 0 ∧ x = 0) ∧ (f = 0 → x * x % (p : Int) = a % p ∧ x ≤ ((p : Int) - 1) / 2) := by
  obtain ⟨r, h1, _, h⟩ := root_prime hp o p3 pM a
  rw [kron_odd a o]
  rcases h with ⟨j, ha, rfl⟩ | ⟨j, ha, rfl⟩ | ⟨j, ha, y, y0, y1, y2, rfl⟩
  · exact ⟨0, 0, h1, by omega, by omega, by rw [j]; simp, by rw [j]; simp, fun _ => ⟨by rw [ha]; simp, by omega⟩⟩
  · exact ⟨0, 41, h1, by omega, by omega, by rw [j]; simp, by rw [j]; simp, fun h => by omega⟩
  · have yn : y ≠ 0 := by
      rintro rfl
      rw [Int.mul_zero, Int.zero_emod] at y2
      exact ha y2.symm
    obtain ⟨m0, m1, m2⟩ := mn_half p o y (by omega) y1
    refine ⟨_, 0, h1, by omega, by omega, by rw [j]; simp; omega, by rw [j]; simp; omega, fun _ => ⟨by rw [m2, y2], m1⟩⟩
theorem fermat {p : Nat} (hp : isP p) (o : p % 2 = 1) (p3 : 3 ≤ p) (pM : p ≤ 1099511627776) (a : Int) : a ^ (p - 1) % (p : Int) = 1 ↔ kron a p ≠ 0 := by
  rw [kron_odd a o, ← Go.Proofs.Ytkgejfokdmdikaa.Times.pow_mod]
  have h1 := Int.emod_nonneg a (show (p : Int) ≠ 0 by omega)
  have h2 := Int.emod_lt_of_pos a (show (0 : Int) < p by omega)
  obtain ⟨A, hA⟩ := Int.eq_ofNat_of_zero_le h1
  rw [hA] at h2 ⊢
  rw [Int.toNat_natCast]
  have e : p - 1 = p / 2 + p / 2 := by omega
  by_cases A0 : A = 0
  · subst A0
    have z : jac 0 p = 0 := by rw [jac_zero, if_neg (by omega)]
    rw [z, e]
    have : ((0 : Nat) : Int) ^ (p / 2 + p / 2) = 0 := Int.zero_pow (by omega)
    rw [this]; simp
  · have c := hp.cop_lt (x := A) (by omega) (by omega)
    rw [e, Int.pow_add, Int.mul_emod]
    rcases jac_pm c with j | j
    · rw [euler_one hp o p3 pM A c j, j]; simp; exact Int.emod_eq_of_lt (by omega) (by omega)
    · rw [euler_minus hp o p3 pM A c j, minus_sq hp o p3 pM, j]; simp
end Go.Proofs.Ytkgejfokdmdikaa.Sy
end
section
set_option linter.unusedVariables false
set_option linter.unusedSimpArgs false
namespace Go.Proofs.Ytkgejfokdmdikaa.Dg
set_option maxRecDepth 10000
def val : List Nat → Nat
  | [] => 0
  | x :: t => x + 4294967296 * val t
def ok (l : List Nat) : Prop := ∀ x ∈ l, x < 4294967296
def dg (n : Nat) : List Nat := if _h : n = 0 then [] else n % 4294967296 :: dg (n / 4294967296)
termination_by n
decreasing_by exact Nat.div_lt_self (by omega) (by omega)
theorem dg_zero : dg 0 = [] := by rw [dg, dif_pos rfl]
theorem dg_pos {n : Nat} (h : n ≠ 0) : dg n = n % 4294967296 :: dg (n / 4294967296) := by rw [dg, dif_neg h]
theorem val_dg : ∀ N n : Nat, n ≤ N → val (dg n) = n := by
  intro N
  induction N with
  | zero => intro n h; have : n = 0 := by omega
            subst this; rw [dg_zero]; rfl
  | succ N ih =>
    intro n h
    by_cases h0 : n = 0
    · subst h0; rw [dg_zero]; rfl
    · rw [dg_pos h0, val, ih _ (by omega)]; omega
theorem val_dg' (n : Nat) : val (dg n) = n := val_dg n n (Nat.le_refl _)
theorem dg_ok : ∀ N n : Nat, n ≤ N → ok (dg n) := by
  intro N
  induction N with
  | zero => intro n h x hx; have : n = 0 := by omega
            subst this; rw [dg_zero] at hx; cases hx
  | succ N ih =>
    intro n h x hx
    by_cases h0 : n = 0
    · subst h0; rw [dg_zero] at hx; cases hx
    · rw [dg_pos h0] at hx
      rcases List.mem_cons.1 hx with e | e
      · omega
      · exact ih _ (by omega) x e
theorem dg_ok' (n : Nat) : ok (dg n) := dg_ok n n (Nat.le_refl _)
theorem val_append : ∀ a b : List Nat, val (a ++ b) = val a + 4294967296 ^ a.length * val b
  | [], b => by simp [val]
  | x :: t, b => by
    rw [List.cons_append, val, val_append t b, val, List.length_cons, Nat.pow_succ, Nat.mul_add, ← Nat.mul_assoc, Nat.mul_comm 4294967296 (4294967296 ^ t.length), Nat.add_assoc]
theorem ok_take {l : List Nat} (h : ok l) (n : Nat) : ok (l.take n) := fun x hx => h x (List.mem_of_mem_take hx)
theorem ok_drop {l : List Nat} (h : ok l) (n : Nat) : ok (l.drop n) := fun x hx => h x (List.mem_of_mem_drop hx)
theorem val_lt : ∀ {l : List Nat}, ok l → val l < 4294967296 ^ l.length
  | [], _ => by simp [val]
  | x :: t, h => by
    have h1 := val_lt (l := t) (fun y hy => h y (List.mem_cons_of_mem _ hy))
    have h2 := h x List.mem_cons_self
    rw [val, List.length_cons, Nat.pow_succ]
    have : 4294967296 * (val t + 1) ≤ 4294967296 * 4294967296 ^ t.length := Nat.mul_le_mul_left _ h1
    rw [Nat.mul_comm (4294967296 ^ t.length)]; omega
theorem val_zero : ∀ {l : List Nat}, val l = 0 → ∀ x ∈ l, x = 0
  | [], _, x, hx => by cases hx
  | y :: t, h, x, hx => by
    rw [val] at h
    rcases List.mem_cons.1 hx with e | e
    · omega
    · exact val_zero (l := t) (by omega) x e
theorem dg_val : ∀ {l : List Nat}, ok l → (∀ h : l ≠ [], l.getLast h ≠ 0) → dg (val l) = l
  | [], _, _ => by rw [val, dg_zero]
  | x :: t, h, hl => by
    have h2 := h x List.mem_cons_self
    have ht : dg (val t) = t := dg_val (l := t) (fun y hy => h y (List.mem_cons_of_mem _ hy)) (fun ne => by
      have := hl (by simp); rwa [List.getLast_cons ne] at this)
    have n0 : val (x :: t) ≠ 0 := fun e => by
      have := hl (by simp)
      exact this (val_zero e _ (List.getLast_mem _))
    rw [dg_pos n0, val]
    rw [show (x + 4294967296 * val t) % 4294967296 = x by omega, show (x + 4294967296 * val t) / 4294967296 = val t by omega, ht]
theorem dg_cut {l : List Nat} (h : ok l) (j : Nat) (hj : j ≤ l.length) (e : val (l.take j) = val l) (z : ∀ h : j - 1 < l.length, 0 < j → l[j - 1] ≠ 0) : dg (val l) = l.take j := by
  rw [← e]
  refine dg_val (ok_take h j) fun ne => ?_
  have j0 : 0 < j := by
    rcases Nat.eq_zero_or_pos j with q | q
    · subst q; simp at ne
    · exact q
  have len : (l.take j).length = j := by rw [List.length_take]; omega
  rw [List.getLast_eq_getElem]
  simp only [len, List.getElem_take]
  exact z (by omega) j0
theorem take_zero {l : List Nat} (j : Nat) (hj : j < l.length) (h : l[j] = 0) : val (l.take (j + 1)) = val (l.take j) := by
  rw [List.take_succ_eq_append_getElem hj, val_append, h]; simp [val]
theorem val_take {l : List Nat} (j : Nat) (hj : j < l.length) : val (l.take (j + 1)) = val (l.take j) + 4294967296 ^ j * l[j] := by
  rw [List.take_succ_eq_append_getElem hj, val_append, List.length_take, Nat.min_eq_left (by omega)]; simp [val]
theorem val_split {l : List Nat} (j : Nat) : val l = val (l.take j) + 4294967296 ^ (l.take j).length * val (l.drop j) := by
  rw [← val_append, List.take_append_drop]
theorem dg_len : ∀ k n : Nat, n < 4294967296 ^ k → (dg n).length ≤ k := by
  intro k
  induction k with
  | zero => intro n h; have : n = 0 := by simpa using h
            subst this; rw [dg_zero]; simp
  | succ k ih =>
    intro n h
    by_cases h0 : n = 0
    · subst h0; rw [dg_zero]; simp
    · rw [dg_pos h0, List.length_cons]
      have : n / 4294967296 < 4294967296 ^ k := by
        rw [Nat.pow_succ] at h
        exact Nat.div_lt_of_lt_mul (by rw [Nat.mul_comm]; exact h)
      have := ih _ this
      omega
theorem dg_nil {n : Nat} : dg n = [] ↔ n = 0 := ⟨fun h => by have := val_dg' n; rw [h] at this; exact this.symm, fun h => by rw [h, dg_zero]⟩
end Go.Proofs.Ytkgejfokdmdikaa.Dg
end
section
set_option linter.unusedVariables false
set_option linter.unusedSimpArgs false
namespace Go.Proofs.Ytkgejfokdmdikaa.Nv
open Go Go.RowKit Dg
theorem drewN_below {B : Nat} {a w : World} (h : Below B a w) (n : Nat) : Below B a (w.drewN n) := ⟨h.os, h.tape, h.output, h.size, h.block⟩
structure As (p : Prop) : Prop where mk :: (out : p)
theorem gate_b {P : Program} {ops : Array Oper} {rest : List Oper} {o : Oper} {a : Act} {w : World} {Q : Exit → Act → World → Prop} {b : Builtin} {xs : Array Operand} {ts : Array TypeId} (_ho : o.op = .call { callee := .builtin b, args := xs, argTypes := ts }) (h : wpList P ops Q (o :: rest) a w) : wpList P ops Q (o :: rest) a w := h
theorem info_u32 : (Try.prog.info? 43).map (fun i => (i.zero, i.size, i.bytes)) = some (some (.int .u32 0), 1, 4) := by kernel_rfl
def us (l : List Nat) : List Value := l.map fun (x : Nat) => .int .u32 (x : Int)
theorem us_len (l : List Nat) : (us l).length = l.length := by simp [us]
theorem us_one (l : List Nat) : ∀ u ∈ us l, u.oneCell' = true := by
  intro u hu
  obtain ⟨x, _, rfl⟩ := List.mem_map.1 hu
  rfl
theorem us_app (a b : List Nat) : us (a ++ b) = us a ++ us b := List.map_append
theorem us_set (l : List Nat) (j x : Nat) : us (l.set j x) = (us l).set j (.int .u32 (x : Int)) := List.map_set
theorem add_block (a : Addr) (j : Nat) : (a.add j).block = a.block := by unfold Addr.add; split <;> rfl
structure Rd (w : World) (A : Option Addr) (l : List Nat) : Prop where
  len : l.length ≤ 1099511627776
  at_ : 0 < l.length → ∃ ad, A = some ad ∧ ∀ (j x : Nat), l[j]? = some x → w.cell? (ad.add j) = some (.int .u32 (x : Int))
theorem Rd.below {w w' : World} {A : Option Addr} {l : List Nat} (h : Rd w A l) (hb : Below w.heap.size w w') : Rd w' A l := ⟨h.len, fun hl => by
  obtain ⟨ad, e, hc⟩ := h.at_ hl
  exact ⟨ad, e, fun j x hj => by
    have := hc j x hj
    rw [hb.cell (World.block_lt_of_cell? w _ this)]; exact this⟩⟩
theorem Rd.drew {w : World} {A : Option Addr} {l : List Nat} (h : Rd w A l) : Rd w.drew A l := h.below (Below.refl _ _).drew
theorem Rd.drewN {w : World} {A : Option Addr} {l : List Nat} (h : Rd w A l) (n : Nat) : Rd (w.drewN n) A l := h.below (drewN_below (Below.refl _ _) n)
theorem Rd.nil (w : World) (A : Option Addr) : Rd w A [] := ⟨by simp, fun h => by simp at h⟩
theorem Rd.take {w : World} {A : Option Addr} {l : List Nat} (h : Rd w A l) (n : Nat) : Rd w A (l.take n) := ⟨by have := h.len; rw [List.length_take]; omega, fun hl => by
  obtain ⟨ad, e, hc⟩ := h.at_ (by rw [List.length_take] at hl; omega)
  exact ⟨ad, e, fun j x hj => hc j x (by
    rw [List.getElem?_take] at hj
    split at hj
    · exact hj
    · cases hj)⟩⟩
theorem Rd.get {w : World} {A : Option Addr} {l : List Nat} (h : Rd w A l) {j : Nat} (hj : j < l.length) : ∃ ad, A = some ad ∧ w.cell? (ad.add j) = some (.int .u32 (l[j] : Int)) := by
  obtain ⟨ad, e, hc⟩ := h.at_ (by omega)
  exact ⟨ad, e, hc j _ (List.getElem?_eq_getElem hj)⟩
theorem Rd.lit (w : World) (l : List Nat) (t : TypeId) (hl : l.length ≤ 1099511627776) : Rd (w.alloc (.cells (us l).toArray t)) (some ⟨w.heap.size, 0, none⟩) l := ⟨hl, fun _ => ⟨_, rfl, fun j x hj => by
  rw [Addr.add_lit, Nat.zero_add, cell_of_row _ _ _ _ _ _ (heap_alloc_new w _)]
  simp [us, hj]⟩⟩
def Num (w : World) (v : Value) (n : Nat) : Prop := ∃ A c, v = .slice A ((dg n).length : Nat) c ∧ (dg n).length ≤ c ∧ Rd w A (dg n)
theorem Num.below {w w' : World} {v : Value} {n : Nat} (h : Num w v n) (hb : Below w.heap.size w w') : Num w' v n := by
  obtain ⟨A, c, e, hc, hr⟩ := h
  exact ⟨A, c, e, hc, hr.below hb⟩
theorem Num.zero (w : World) : Num w (.slice none 0 0) 0 := ⟨none, 0, by rw [dg_zero]; rfl, by rw [dg_zero]; exact Nat.le_refl _, by rw [dg_zero]; exact Rd.nil _ _⟩
def Row (w : World) (base g c : Nat) (l : List Nat) : Prop := w.ownsRow base 43 1 (.slice (some ⟨g, 0, none⟩) l.length c) l.length (us l)
theorem grown_of_below {w w' : World} (hb : Below w.heap.size w w') (row : Option Nat) : w.grownBy w' row := ⟨hb.os, hb.tape, hb.output, hb.size, fun k hk _ => hb.block k hk⟩
theorem Row.below {w w' : World} {base g c : Nat} {l : List Nat} (h : Row w base g c l) (hb : Below w.heap.size w w') : Row w' base g c l :=
  World.ownsRow.kept h (grown_of_below hb none) (.inr (by simp [Value.ownBlock]))
theorem Row.drew {w : World} {base g c : Nat} {l : List Nat} (h : Row w base g c l) : Row w.drew base g c l := h
theorem Row.block {w : World} {base g c : Nat} {l : List Nat} (h : Row w base g c l) : base ≤ g ∧ l.length ≤ c ∧ ∃ cur : Array Value, w.heap[g]? = some (.cells cur 43 (0, 0)) := by
  rcases h.2 with ⟨e, _⟩ | ⟨g', c', cur, e, hb, hg, hn, _⟩
  · cases e
  · cases e; exact ⟨hb, hn, cur, hg⟩
theorem Row.lt {w : World} {base g c : Nat} {l : List Nat} (h : Row w base g c l) : g < w.heap.size := by
  obtain ⟨_, _, _, e⟩ := h.block
  exact lt_of_block e
theorem Row.get {w : World} {base g c : Nat} {l : List Nat} (h : Row w base g c l) {j : Nat} (hj : j < l.length) : w.cell? ⟨g, j, none⟩ = some (.int .u32 (l[j] : Int)) ∧ w.frozen? ⟨g, j, none⟩ = false := by
  refine ⟨?_, World.ownsRow.frozenAt h j⟩
  rw [World.ownsRow.cellAt h j (by omega), us, List.getElem?_map, List.getElem?_eq_getElem hj]; rfl
theorem Row.kept {w w' : World} {base g c r : Nat} {l : List Nat} (h : Row w base g c l) (hg : w.grownBy w' (some r)) (ne : g ≠ r) : Row w' base g c l :=
  World.ownsRow.kept h hg (.inr (by simp [Value.ownBlock]; exact ne))
theorem Row.set {w : World} {base g c : Nat} {l : List Nat} (h : Row w base g c l) (j x : Nat) : Row (w.setCell ⟨g, j, none⟩ (.int .u32 (x : Int))) base g c (l.set j x) := by
  obtain ⟨a, _⟩ := World.ownsRow.stored h j (.int .u32 (x : Int))
  unfold Row
  rw [List.length_set, us_set]; exact a
theorem Rd.set {w : World} {A : Option Addr} {l : List Nat} (h : Rd w A l) {g : Nat} (hg : ∀ ad, A = some ad → 0 < l.length → ad.block ≠ g) (j : Nat) (u : Value) : Rd (w.setCell ⟨g, j, none⟩ u) A l := ⟨h.len, fun hl => by
  obtain ⟨ad, e, hc⟩ := h.at_ hl
  exact ⟨ad, e, fun i x hi => by
    have hb := Below.heap_setCell w ⟨g, j, none⟩ u (ad.add i).block (by rw [add_block]; exact hg ad e hl)
    rw [World.cell?_of_block hb]; exact hc i x hi⟩⟩
theorem Rd.far {w : World} {A : Option Addr} {l : List Nat} (h : Rd w A l) {g : Nat} (hg : w.heap.size ≤ g) : ∀ ad, A = some ad → 0 < l.length → ad.block ≠ g := fun ad e hl => by
  obtain ⟨ad', e', hc⟩ := h.at_ hl
  rw [e] at e'
  cases e'
  have := World.block_lt_of_cell? w _ (hc 0 _ (List.getElem?_eq_getElem hl))
  have hb : (ad.add 0).block = ad.block := add_block _ _
  omega
theorem Row.read {w : World} {base g c : Nat} {l : List Nat} (h : Row w base g c l) (hl : l.length ≤ 1099511627776) : Rd w (some ⟨g, 0, none⟩) l := ⟨hl, fun _ => ⟨_, rfl, fun j x hj => by
  have lt : j < l.length := (List.getElem?_eq_some_iff.1 hj).1
  have := (h.get lt).1
  rw [(List.getElem?_eq_some_iff.1 hj).2] at this
  rw [Addr.add_lit, Nat.zero_add]; exact this⟩⟩
theorem wpList_make_lc {P : Program} (w : World) {ops : Array Oper} {rest : List Oper} {o : Oper} {a : Act} {Q : Exit → Act → World → Prop}
    (hg : o.guard = none) (l c : Operand) (t : TypeId) (hop : o.op = Op.makeSlice t l c)
    (e : TypeId) (i : TypeInfo) (z : Value) (h1 : P.underlying t = some (.slice e)) (h2 : P.info? e = some i) (h3 : i.zero = some z)
    (kl kc : IntKind) (L C : Int) (n m : Nat) (hl : a.eval l = .int kl L) (hc : a.eval c = .int kc C) (hL : L = (n : Int)) (hC : C = (m : Int)) (nm : n ≤ m) (b2 : i.bytes * m ≤ 281474976710656) (b3 : m ≤ maxLen)
    (hK : ∀ w', w'.heap[w.heap.size]? = some (.cells (madeCells z.cells (m * i.size)) e (0, 0)) → w.grownBy w' none → wpList P ops Q rest (a.put o.dst (.slice (some ⟨w.heap.size, 0, none⟩) n m)) w') :
    wpList P ops Q (o :: rest) a w := by
  refine wpList_plain hg fun K hK' => ?_
  have h63' : (m : Int) ≤ 9223372036854775807 := by
    have h := b3
    simp [maxLen] at h
    omega
  have hb' : (i.bytes : Int) * (m : Int) ≤ 281474976710656 := by
    have h : ((i.bytes * m : Nat) : Int) ≤ 281474976710656 := by omega
    rwa [Int.natCast_mul] at h
  have hr := run_make (P := P) w t e i z h1 h2 h3 kl kc n m (by omega) (by omega) hb' h63'
  simp only [Int.toNat_natCast] at hr
  subst hL
  subst hC
  unfold Oper.wp
  simp [execOp, hop, hl, hc, hr, Result.andThen]
  exact hK' _ _ (hK _ (heap_alloc_new w _) (World.grownBy_alloc w _ none))
theorem Row.made {w w2 : World} {i : TypeInfo} {n base : Nat} (hz1 : i.size = 1) (hb : base ≤ w.heap.size) (hn : n ≤ 1099511627776)
    (h9 : w2.heap[w.heap.size]? = some (.cells (madeCells (Value.int .u32 0).cells (n * i.size)) 43 (0, 0))) : Row w2 base w.heap.size n (List.replicate n 0) := by
  have e : (madeCells (Value.int .u32 0).cells (n * i.size)) = (us (List.replicate n 0)).toArray := by
    apply Array.toList_inj.1
    rw [hz1, Nat.mul_one, show (Value.int .u32 0).cells = #[Value.int .u32 0] from rfl, toList_madeCells_one]
    simp [us]
  rw [e] at h9
  refine ⟨by simp [us], .inr ⟨w.heap.size, n, _, by simp, hb, h9, by simp, by unfold maxLen; omega, by simp [us], by simp [us]⟩⟩
theorem made_below {w w2 : World} (g2 : w.grownBy w2 none) : Below w.heap.size w w2 := (Below.refl _ w).grown g2 (Nat.le_refl _) (by simp)
theorem Rd.ne {w : World} {A : Option Addr} {l : List Nat} (h : Rd w A l) {g : Nat} {v : Value} {t : TypeId} (hg : w.heap[g]? = some (.cells #[v] t (0, 0))) (hv : ∀ x, v ≠ .int .u32 x) : ∀ ad, A = some ad → 0 < l.length → ad.block ≠ g := fun ad e hl eg => by
  obtain ⟨ad', e', hc⟩ := h.at_ hl
  rw [e] at e'
  cases e'
  have h1 := hc 0 _ (List.getElem?_eq_getElem hl)
  have hb : (ad.add 0).block = ad.block := add_block _ _
  have h2 : w.heap[(ad.add 0).block]? = some (.cells #[v] t (0, 0)) := by rw [hb, eg]; exact hg
  simp only [World.cell?, h2] at h1
  split at h1
  · cases h1
  · rw [Array.getElem?_eq_some_iff] at h1
    obtain ⟨hlt, h3⟩ := h1
    have z : (ad.add 0).off = 0 := by simpa using hlt
    simp only [z] at h3
    exact hv _ h3
theorem Rd.put {w : World} {A : Option Addr} {l : List Nat} (h : Rd w A l) {g : Nat} {v : Value} {t : TypeId} (hg : w.heap[g]? = some (.cells #[v] t (0, 0))) (hv : ∀ x, v ≠ .int .u32 x) (u : Value) : Rd (w.setCell ⟨g, 0, none⟩ u) A l := h.set (h.ne hg hv) 0 u
theorem blk2 {w w2 : World} {o o' : Obj} (hb : Below ((w.alloc o).alloc o').heap.size ((w.alloc o).alloc o') w2) : w2.heap[w.heap.size]? = some o :=
  (hb.block w.heap.size (by simp; omega)).trans ((Below.heap_alloc _ _ _ (by simp)).trans (heap_alloc_new w o))
theorem bel1 {w w2 : World} {o : Obj} (hb : Below (w.alloc o).heap.size (w.alloc o) w2) : Below w.heap.size w w2 := ((Below.refl _ w).alloc (Nat.le_refl _) o).trans (hb.mono (by simp))
theorem bel2 {w w2 : World} {o o' : Obj} (hb : Below ((w.alloc o).alloc o').heap.size ((w.alloc o).alloc o') w2) : Below w.heap.size w w2 := bel1 (bel1 hb)
theorem ret_nat {fn : Func} {p : Tmp} (h : fn.results = #[.cell p 61]) {tmps : Array Value} {w : World} (g : Nat) (v : Value) (hp : tmps.getD p undef = .pointer (some ⟨g, 0, none⟩)) (hg : w.heap[g]? = some (.cells #[v] 61 (0, 0))) :
    (results fn tmps).run Try.prog w = .ok (.agg #[v]) w := results_cell_row h tmps w g 61 #[v] (0, 0) _ hp hg Try.underlying61 rfl (by kernel_rfl)
theorem ret_nat2 {fn : Func} {p q : Tmp} (h : fn.results = #[.cell p 61, .tmp q]) {tmps : Array Value} {w : World} (g : Nat) (v u : Value) (hp : tmps.getD p undef = .pointer (some ⟨g, 0, none⟩)) (hq : tmps.getD q undef = u) (hg : w.heap[g]? = some (.cells #[v] 61 (0, 0))) :
    (results fn tmps).run Try.prog w = .ok (.tuple #[.agg #[v], u]) w := by
  have hp' : tmps[p]?.getD undef = .pointer (some ⟨g, 0, none⟩) := by simpa using hp
  have hq' : tmps[q]?.getD undef = u := by simpa using hq
  simp [results, h, hp', hq', asAddr, run_loadVar_row w g 61 61 #[v] (0, 0) _ hg Try.underlying61 rfl (by kernel_rfl)]
theorem blkB {w w2 : World} {o o' : Obj} (hb : Below ((w.alloc o).alloc o').heap.size ((w.alloc o).alloc o') w2) : w2.heap[w.heap.size + 1]? = some o' :=
  (hb.block (w.heap.size + 1) (by simp)).trans (by have := heap_alloc_new (w.alloc o) o'; simpa using this)
theorem blk3 {w w2 : World} {o1 o2 o3 : Obj} (g : (((w.alloc o1).alloc o2).alloc o3).grownBy w2 none) :
    w2.heap[w.heap.size]? = some o1 ∧ w2.heap[w.heap.size + 1]? = some o2 ∧ w2.heap[w.heap.size + 1 + 1]? = some o3 ∧ Below w.heap.size w w2 := by
  have b1 : Below w.heap.size w (w.alloc o1) := (Below.refl _ w).alloc (Nat.le_refl _) o1
  have b2 : Below w.heap.size w ((w.alloc o1).alloc o2) := b1.alloc (by simp) o2
  have b3 : Below w.heap.size w (((w.alloc o1).alloc o2).alloc o3) := b2.alloc (by simp; omega) o3
  have s1 : (w.alloc o1).heap.size = w.heap.size + 1 := by simp
  have s2 : ((w.alloc o1).alloc o2).heap.size = w.heap.size + 1 + 1 := by simp
  have s3 : (((w.alloc o1).alloc o2).alloc o3).heap.size = w.heap.size + 1 + 1 + 1 := by simp
  have h3 := heap_alloc_new ((w.alloc o1).alloc o2) o3
  have h2 := heap_alloc_new (w.alloc o1) o2
  have h1 := heap_alloc_new w o1
  rw [s2] at h3
  rw [s1] at h2
  refine ⟨?_, ?_, ?_, b3.grown g (by omega) (by simp)⟩
  · rw [g.block _ (by omega) (by simp), Below.heap_alloc _ _ _ (by omega), Below.heap_alloc _ _ _ (by omega)]; exact h1
  · rw [g.block _ (by omega) (by simp), Below.heap_alloc _ _ _ (by omega)]; exact h2
  · rw [g.block _ (by omega) (by simp)]; exact h3
theorem made_cells {w2 : World} {i : TypeInfo} {g n : Nat} (hz1 : i.size = 1) (h9 : w2.heap[g]? = some (.cells (madeCells (Value.int .u32 0).cells (n * i.size)) 43 (0, 0))) :
    w2.heap[g]? = some (.cells (us (List.replicate n 0)).toArray 43 (0, 0)) := by
  have e : (madeCells (Value.int .u32 0).cells (n * i.size)) = (us (List.replicate n 0)).toArray := by
    apply Array.toList_inj.1
    rw [hz1, Nat.mul_one, show (Value.int .u32 0).cells = #[Value.int .u32 0] from rfl, toList_madeCells_one]
    simp [us]
  rw [e] at h9; exact h9
theorem Row.of_cells {w : World} {base g c : Nat} {l rest : List Nat} (hb : base ≤ g) (h : w.heap[g]? = some (.cells (us (l ++ rest)).toArray 43 (0, 0))) (hc : (l ++ rest).length = c) (hm : c ≤ 1099511627776) : Row w base g c l := by
  refine ⟨by simp [us], .inr ⟨g, c, _, rfl, hb, h, by simp at hc; omega, by unfold maxLen; omega, by simp [us]; simpa using hc, ?_⟩⟩
  rw [us_app]; simp [us]
theorem splice_us (n : Nat) (l : List Nat) : splice (us (List.replicate n 0)) 0 (us l) = us (l ++ List.replicate (n - l.length) 0) := by
  unfold splice
  rw [List.take_zero, List.nil_append, Nat.zero_add, us_len, us_app]
  congr 1
  simp [us]
theorem Row.next {w : World} {base g c j x : Nat} {o t : List Nat} (h : Row w base g c (o ++ t.drop j)) (ho : o.length = j) (hj : j < t.length) : Row (w.setCell ⟨g, j, none⟩ (.int .u32 (x : Int))) base g c ((o ++ [x]) ++ t.drop (j + 1)) := by
  have := h.set j x
  have e : (o ++ t.drop j).set j x = (o ++ [x]) ++ t.drop (j + 1) := by
    rw [List.set_append_right _ _ (by omega), ho, Nat.sub_self, List.drop_eq_getElem_cons hj, List.set_cons_zero]; simp
  rw [e] at this; exact this
theorem Rd.above {w : World} {A : Option Addr} {l : List Nat} {B : Nat} (h : Rd w A l) (hB : w.heap.size ≤ B) {w1 w2 : World} (h1 : Rd w1 A l) (hb : Below B w1 w2) : Rd w2 A l := ⟨h.len, fun hl => by
  obtain ⟨ad, e, hc⟩ := h1.at_ hl
  obtain ⟨ad', e', hc'⟩ := h.at_ hl
  rw [e] at e'
  cases e'
  refine ⟨ad, e, fun j x hj => ?_⟩
  have l1 := World.block_lt_of_cell? w _ (hc' j x hj)
  rw [hb.cell (by omega)]
  exact hc j x hj⟩
end Go.Proofs.Ytkgejfokdmdikaa.Nv
end
section
set_option linter.unusedVariables false
set_option linter.unusedSimpArgs false
namespace Go.Proofs.Ytkgejfokdmdikaa.Nv
open Go
theorem ofn (a : Nat) (h : a < 4294967296) : (BitVec.ofInt 32 (a : Int)).toNat = a := by
  rw [BitVec.ofInt_natCast, BitVec.toNat_ofNat]; exact Nat.mod_eq_of_lt (by omega)
theorem u32_wrap (n : Nat) (h : n < 4294967296) : IntKind.u32.wrap (n : Int) = (n : Int) := by rw [IntKind.wrap_u32]; omega
theorem b_and (a b : Nat) (ha : a < 4294967296) (hb : b < 4294967296) : Go.bits .and .u32 (a : Int) (b : Int) = ((a &&& b : Nat) : Int) := by
  show IntKind.u32.wrap (((BitVec.ofInt 32 (a : Int)) &&& (BitVec.ofInt 32 (b : Int))).toNat : Int) = _
  rw [BitVec.toNat_and, ofn a ha, ofn b hb]
  exact u32_wrap _ (Nat.and_lt_two_pow (n := 32) _ (by omega))
theorem b_or (a b : Nat) (ha : a < 4294967296) (hb : b < 4294967296) : Go.bits .or .u32 (a : Int) (b : Int) = ((a ||| b : Nat) : Int) := by
  show IntKind.u32.wrap (((BitVec.ofInt 32 (a : Int)) ||| (BitVec.ofInt 32 (b : Int))).toNat : Int) = _
  rw [BitVec.toNat_or, ofn a ha, ofn b hb]
  exact u32_wrap _ (Nat.or_lt_two_pow (n := 32) (by omega) (by omega))
theorem b_xor (a b : Nat) (ha : a < 4294967296) (hb : b < 4294967296) : Go.bits .xor .u32 (a : Int) (b : Int) = ((a ^^^ b : Nat) : Int) := by
  show IntKind.u32.wrap (((BitVec.ofInt 32 (a : Int)) ^^^ (BitVec.ofInt 32 (b : Int))).toNat : Int) = _
  rw [BitVec.toNat_xor, ofn a ha, ofn b hb]
  exact u32_wrap _ (Nat.xor_lt_two_pow (n := 32) (by omega) (by omega))
def brw (x y b : Nat) : Nat := if x < y + b then 1 else 0
def dif (x y b : Nat) : Nat := (x + 8589934592 - y - b) % 4294967296
theorem top (n : Nat) (h : n < 4294967296) : n / 2147483648 = (n.testBit 31).toNat := by
  rw [Nat.testBit_eq_decide_div_mod_eq]
  by_cases c : n / 2 ^ 31 % 2 = 1
  · rw [decide_eq_true c]; simp only [Bool.toNat_true]; omega
  · rw [decide_eq_false c]; simp only [Bool.toNat_false]; omega
theorem tb (n : Nat) (h : n < 4294967296) : n.testBit 31 = decide (2147483648 ≤ n) := by
  rw [Nat.testBit_eq_decide_div_mod_eq]
  by_cases c : 2147483648 ≤ n
  · rw [decide_eq_true c, decide_eq_true (by omega)]
  · rw [decide_eq_false c, decide_eq_false (by omega)]
theorem borrow (x y b : Nat) (hx : x < 4294967296) (hy : y < 4294967296) (hb : b ≤ 1) :
    (((4294967295 ^^^ x) &&& y) ||| ((4294967295 ^^^ (x ^^^ y)) &&& dif x y b)) / 2147483648 = brw x y b := by
  have d : dif x y b < 4294967296 := Nat.mod_lt _ (by omega)
  have xy : x ^^^ y < 4294967296 := Nat.xor_lt_two_pow (n := 32) (by omega) (by omega)
  have nx : 4294967295 ^^^ x < 4294967296 := Nat.xor_lt_two_pow (n := 32) (by omega) (by omega)
  have a1 : (4294967295 ^^^ x) &&& y < 4294967296 := Nat.and_lt_two_pow (n := 32) _ (by omega)
  have a2 : (4294967295 ^^^ (x ^^^ y)) &&& dif x y b < 4294967296 := Nat.and_lt_two_pow (n := 32) _ (by omega)
  rw [top _ (Nat.or_lt_two_pow (n := 32) (by omega) (by omega)), Nat.testBit_or, Nat.testBit_and, Nat.testBit_and, Nat.testBit_xor, Nat.testBit_xor, Nat.testBit_xor, tb x hx, tb y hy, tb _ d, tb 4294967295 (by omega)]
  unfold brw
  unfold dif at d ⊢
  by_cases c1 : 2147483648 ≤ x <;> by_cases c2 : 2147483648 ≤ y <;> by_cases c3 : 2147483648 ≤ (x + 8589934592 - y - b) % 4294967296 <;> by_cases c4 : x < y + b <;> simp only [c1, c2, c3, c4, decide_true, decide_false, if_true, if_false] <;> first | rfl | (exfalso; omega)
theorem borrow_int (x y b : Nat) (hx : x < 4294967296) (hy : y < 4294967296) (hb : b ≤ 1) :
    Go.bits .or .u32 (Go.bits .and .u32 (Go.bits .xor .u32 4294967295 (x : Int)) (y : Int)) (Go.bits .and .u32 (Go.bits .xor .u32 4294967295 (Go.bits .xor .u32 (x : Int) (y : Int))) (((x : Int) - (y : Int) - (b : Int)) % 4294967296)) / 2147483648 = (brw x y b : Int) := by
  have ed : ((x : Int) - (y : Int) - (b : Int)) % 4294967296 = (dif x y b : Int) := by unfold dif; omega
  have d : dif x y b < 4294967296 := Nat.mod_lt _ (by omega)
  have xy : x ^^^ y < 4294967296 := Nat.xor_lt_two_pow (n := 32) (by omega) (by omega)
  have nx : 4294967295 ^^^ x < 4294967296 := Nat.xor_lt_two_pow (n := 32) (by omega) (by omega)
  have nxy : 4294967295 ^^^ (x ^^^ y) < 4294967296 := Nat.xor_lt_two_pow (n := 32) (by omega) (by omega)
  have a1 : (4294967295 ^^^ x) &&& y < 4294967296 := Nat.and_lt_two_pow (n := 32) _ (by omega)
  have a2 : (4294967295 ^^^ (x ^^^ y)) &&& dif x y b < 4294967296 := Nat.and_lt_two_pow (n := 32) _ (by omega)
  have e1 := b_xor 4294967295 x (by omega) hx
  have e2 := b_xor x y hx hy
  have e3 := b_xor 4294967295 (x ^^^ y) (by omega) xy
  rw [show (((4294967295 : Nat)) : Int) = 4294967295 from rfl] at e1 e3
  rw [ed, e2, e3, e1, b_and _ _ nx hy, b_and _ _ nxy d, b_or _ _ a1 a2, ← borrow x y b hx hy hb]
  omega
end Go.Proofs.Ytkgejfokdmdikaa.Nv
end
section
set_option linter.unusedVariables false
set_option linter.unusedSimpArgs false
namespace Go.Proofs.Ytkgejfokdmdikaa.Nv
open Go Go.RowKit
theorem sub32_calls (x y b : Nat) (w : World) (hx : x < 4294967296) (hy : y < 4294967296) (hb : b ≤ 1) :
    Calls Try.prog 105 #[.int .u32 (x : Int), .int .u32 (y : Int), .int .u32 (b : Int)] w fun e w' =>
      e = .returned (.tuple #[.int .u32 (dif x y b : Int), .int .u32 (brw x y b : Int)]) ∧ w' = w := by
  have sg : IntKind.u32.signed = false := rfl
  have mx : IntKind.u32.max = 4294967295 := rfl
  have ex : (((x : Int) - (y : Int)) % 4294967296 - (b : Int)) % 4294967296 = ((x : Int) - (y : Int) - (b : Int)) % 4294967296 := by omega
  have ed : ((x : Int) - (y : Int) - (b : Int)) % 4294967296 = (dif x y b : Int) := by unfold dif; omega
  have EX := As.mk ex
  have ED := As.mk ed
  have EB := As.mk (borrow_int x y b hx hy hb)
  clear ed ex
  go_enter Try.func105, Try.ntmps105
  go_wp2
  go_ret2
  refine ⟨?_, rfl⟩
  simp only [Array.getD_eq_getD_getElem?]
  simp only [List.getElem?_toArray, List.getElem?_cons_succ, List.getElem?_cons_zero, Option.getD_some, EX.out, ED.out]
  have e := EB.out
  rw [ED.out] at e
  rw [e]
end Go.Proofs.Ytkgejfokdmdikaa.Nv
end
section
set_option linter.unusedVariables false
set_option linter.unusedSimpArgs false
namespace Go.Proofs.Ytkgejfokdmdikaa.Dg
open Go
set_option maxRecDepth 10000
def bl (n : Nat) : Nat := if n = 0 then 0 else n.log2 + 1
theorem bl_le {n k : Nat} : bl n ≤ k ↔ n < 2 ^ k := by
  unfold bl
  by_cases h : n = 0
  · subst h; rw [if_pos rfl]; exact ⟨fun _ => Nat.pow_pos (by omega), fun _ => Nat.zero_le _⟩
  · rw [if_neg h, ← Nat.log2_lt h]; omega
theorem bl_eq {n b : Nat} (h : ∀ k, b ≤ k ↔ n < 2 ^ k) : bl n = b := by
  have h1 := bl_le.2 ((h b).1 (Nat.le_refl _))
  have h2 := (h (bl n)).2 (bl_le.1 (Nat.le_refl _))
  omega
theorem bl_zero {n : Nat} : bl n = 0 ↔ n = 0 := by
  unfold bl
  by_cases h : n = 0
  · simp [h]
  · rw [if_neg h]; omega
theorem bl_lt (n : Nat) : n < 2 ^ bl n := bl_le.1 (Nat.le_refl _)
theorem bl_ge {n : Nat} (h : n ≠ 0) : 2 ^ (bl n - 1) ≤ n := by
  rcases Nat.lt_or_ge n (2 ^ (bl n - 1)) with l | l
  · have := bl_le.2 l
    have : bl n ≠ 0 := fun e => h (bl_zero.1 e)
    omega
  · exact l
theorem lib_bl : ∀ N x : Nat, x ≤ N → x < 18446744073709551616 → Lib.bitLen x = bl x := by
  intro N
  induction N with
  | zero => intro x h _; have : x = 0 := by omega
            subst this; rfl
  | succ N ih =>
    intro x h hx
    by_cases h0 : x = 0
    · subst h0; rfl
    · rw [Lib.bitLen_half x h0 hx, ih (x / 2) (by omega) (by omega)]
      refine (bl_eq fun k => ?_).symm
      cases k with
      | zero => constructor
                · intro h; omega
                · intro h; simp at h; omega
      | succ k =>
        have := bl_le (n := x / 2) (k := k)
        rw [Nat.pow_succ]
        constructor
        · intro h; have := this.1 (by omega); omega
        · intro h; have := this.2 (by omega); omega
theorem bl_digits {r top m : Nat} (hr : r < 4294967296 ^ m) (ht : top ≠ 0) : bl (r + 4294967296 ^ m * top) = 32 * m + bl top := by
  have e : 4294967296 ^ m = 2 ^ (32 * m) := by rw [show (4294967296 : Nat) = 2 ^ 32 from rfl, ← Nat.pow_mul]
  rw [e] at hr ⊢
  refine bl_eq fun k => ?_
  have g := bl_ge ht
  have l := bl_lt top
  have b0 : bl top ≠ 0 := fun h => ht (bl_zero.1 h)
  constructor
  · intro h
    have h1 : 2 ^ (32 * m) * (top + 1) ≤ 2 ^ (32 * m) * 2 ^ bl top := Nat.mul_le_mul_left _ l
    rw [← Nat.pow_add] at h1
    have h2 : 2 ^ (32 * m + bl top) ≤ 2 ^ k := Nat.pow_le_pow_right (by omega) h
    rw [Nat.mul_add] at h1; omega
  · intro h
    rcases Nat.lt_or_ge k (32 * m + bl top) with q | q
    · exfalso
      have h1 : 2 ^ (32 * m) * 2 ^ (bl top - 1) ≤ 2 ^ (32 * m) * top := Nat.mul_le_mul_left _ g
      rw [← Nat.pow_add] at h1
      have h2 : 2 ^ k ≤ 2 ^ (32 * m + (bl top - 1)) := Nat.pow_le_pow_right (by omega) (by omega)
      omega
    · exact q
theorem last_ne {n : Nat} : ∀ h : dg n ≠ [], (dg n).getLast h ≠ 0 := by
  have : ∀ N n : Nat, n ≤ N → ∀ h : dg n ≠ [], (dg n).getLast h ≠ 0 := by
    intro N
    induction N with
    | zero => intro n hn h; have : n = 0 := by omega
              subst this; exact absurd dg_zero h
    | succ N ih =>
      intro n hn h
      have n0 : n ≠ 0 := fun e => h (by rw [e, dg_zero])
      have e := dg_pos n0
      by_cases q : n / 4294967296 = 0
      · simp only [e, q, dg_zero, List.getLast_singleton]; omega
      · have ne : dg (n / 4294967296) ≠ [] := fun e' => q (dg_nil.1 e')
        have := ih (n / 4294967296) (by omega) ne
        simp only [e]
        rw [List.getLast_cons ne]; exact this
  exact this n n (Nat.le_refl _)
theorem bl_dg {n : Nat} (h : 0 < (dg n).length) : bl n = 32 * ((dg n).length - 1) + bl ((dg n)[(dg n).length - 1]'(by omega)) := by
  have ne : dg n ≠ [] := List.length_pos_iff.1 h
  have s := val_take (l := dg n) ((dg n).length - 1) (by omega)
  rw [show (dg n).length - 1 + 1 = (dg n).length by omega, List.take_length, val_dg'] at s
  have r := val_lt (ok_take (dg_ok' n) ((dg n).length - 1))
  rw [List.length_take, Nat.min_eq_left (by omega)] at r
  have t := last_ne ne
  rw [List.getLast_eq_getElem] at t
  conv => lhs; rw [s]
  exact bl_digits r t
end Go.Proofs.Ytkgejfokdmdikaa.Dg
end
section
set_option linter.unusedVariables false
set_option linter.unusedSimpArgs false
namespace Go.Proofs.Ytkgejfokdmdikaa.Dg
set_option maxRecDepth 10000
def cmp (a b : Nat) : Int := if a < b then -1 else if b < a then 1 else 0
theorem len_lt {a b : Nat} (h : (dg a).length < (dg b).length) : a < b := by
  rcases Nat.lt_or_ge a b with l | l
  · exact l
  · have h1 := val_lt (dg_ok' a)
    rw [val_dg'] at h1
    have := dg_len _ b (Nat.lt_of_le_of_lt l h1)
    omega
theorem val_at {l : List Nat} (i : Nat) (hi : i < l.length) : val l = val (l.take i) + 4294967296 ^ i * (l[i] + 4294967296 * val (l.drop (i + 1))) := by
  have := val_split (l := l) i
  rw [List.drop_eq_getElem_cons hi, val, List.length_take, Nat.min_eq_left (by omega)] at this
  exact this
theorem lt_at {a b : List Nat} (ha : ok a) (i : Nat) (hi : i < a.length) (hj : i < b.length) (e : a.drop (i + 1) = b.drop (i + 1)) (lt : a[i] < b[i]) : val a < val b := by
  rw [val_at i hi, val_at i hj, e]
  have h := val_lt (ok_take ha i)
  rw [List.length_take, Nat.min_eq_left (by omega)] at h
  have : 4294967296 ^ i * (a[i] + 1 + 4294967296 * val (b.drop (i + 1))) ≤ 4294967296 ^ i * (b[i] + 4294967296 * val (b.drop (i + 1))) := Nat.mul_le_mul_left _ (by omega)
  rw [show a[i] + 1 + 4294967296 * val (b.drop (i + 1)) = a[i] + 4294967296 * val (b.drop (i + 1)) + 1 by omega, Nat.mul_add, Nat.mul_one] at this
  omega
end Go.Proofs.Ytkgejfokdmdikaa.Dg
end
section
set_option linter.unusedVariables false
set_option linter.unusedSimpArgs false
namespace Go.Proofs.Ytkgejfokdmdikaa.Dg
set_option maxRecDepth 10000
theorem len_of_bl {n k : Nat} (h : bl n ≤ 32 * k) : (dg n).length ≤ k := dg_len k n (by rw [show (4294967296 : Nat) = 2 ^ 32 from rfl, ← Nat.pow_mul]; exact bl_le.1 h)
theorem len128 {n : Nat} (h : bl n ≤ 4096) : (dg n).length ≤ 128 := len_of_bl (k := 128) (by omega)
theorem bl_mono {a b : Nat} (h : a ≤ b) : bl a ≤ bl b := bl_le.2 (Nat.lt_of_le_of_lt h (bl_lt b))
def at0 (l : List Nat) (j : Nat) : Nat := l.getD j 0
theorem at0_lt {l : List Nat} {j : Nat} (h : j < l.length) : at0 l j = l[j] := by simp [at0, h]
theorem at0_ge {l : List Nat} {j : Nat} (h : l.length ≤ j) : at0 l j = 0 := by
  simp [at0, List.getD_eq_getElem?_getD, List.getElem?_eq_none h]
theorem at0_ok {l : List Nat} (h : ok l) (j : Nat) : at0 l j < 4294967296 := by
  by_cases hj : j < l.length
  · rw [at0_lt hj]; exact h _ (List.getElem_mem hj)
  · rw [at0_ge (by omega)]; omega
theorem val_take0 (l : List Nat) (j : Nat) : val (l.take (j + 1)) = val (l.take j) + 4294967296 ^ j * at0 l j := by
  by_cases hj : j < l.length
  · rw [val_take j hj, at0_lt hj]
  · rw [at0_ge (by omega), Nat.mul_zero, List.take_of_length_le (by omega), List.take_of_length_le (by omega)]; rfl
theorem val_snoc (o : List Nat) (x : Nat) : val (o ++ [x]) = val o + 4294967296 ^ o.length * x := by rw [val_append]; simp [val]
theorem ok_snoc {o : List Nat} (h : ok o) {x : Nat} (hx : x < 4294967296) : ok (o ++ [x]) := fun y hy => by
  rcases List.mem_append.1 hy with e | e
  · exact h y e
  · rw [List.mem_singleton] at e; omega
structure SumS (lp lq : List Nat) (j cy : Nat) (o : List Nat) : Prop where
  len : o.length = j
  ok : ok o
  c1 : cy ≤ 1
  eq : val o + 4294967296 ^ j * cy = val (lp.take j) + val (lq.take j)
theorem SumS.start (lp lq : List Nat) : SumS lp lq 0 0 [] := ⟨rfl, fun x hx => absurd hx (by simp), by omega, by simp [val]⟩
theorem SumS.next {lp lq : List Nat} {j cy : Nat} {o : List Nat} (h : SumS lp lq j cy o) (hp : Dg.ok lp) (hq : Dg.ok lq) :
    SumS lp lq (j + 1) ((cy + at0 lp j + at0 lq j) / 4294967296) (o ++ [(cy + at0 lp j + at0 lq j) % 4294967296]) := by
  have x := at0_ok hp j
  have y := at0_ok hq j
  have c := h.c1
  refine ⟨by simp [h.len], ok_snoc h.ok (by omega), by omega, ?_⟩
  rw [val_snoc, h.len, val_take0, val_take0, Nat.pow_succ, Nat.mul_assoc, Nat.add_assoc, ← Nat.mul_add, Nat.mod_add_div]
  have e := h.eq
  rw [Nat.mul_add, Nat.mul_add]
  omega
theorem SumS.stop {a b n cy : Nat} {o : List Nat} (h : SumS (dg a ++ [0]) (dg b) (n + 1) cy o) (ha : (dg a).length = n) (hb : (dg b).length ≤ n) : val o = a + b := by
  have e := h.eq
  rw [List.take_of_length_le (by simp; omega), List.take_of_length_le (by omega), val_snoc, val_dg', val_dg', Nat.mul_zero, Nat.add_zero] at e
  have va := val_lt (dg_ok' a)
  have vb := val_lt (dg_ok' b)
  rw [val_dg', ha] at va
  rw [val_dg'] at vb
  have vb' : 4294967296 ^ (dg b).length ≤ 4294967296 ^ n := Nat.pow_le_pow_right (by omega) hb
  rw [Nat.pow_succ, Nat.mul_assoc] at e
  have c : cy = 0 := by
    rcases Nat.eq_zero_or_pos cy with z | z
    · exact z
    · have : 4294967296 ^ n * 4294967296 ≤ 4294967296 ^ n * (4294967296 * cy) := Nat.mul_le_mul_left _ (by omega)
      omega
  rw [c] at e; simp at e; exact e
end Go.Proofs.Ytkgejfokdmdikaa.Dg
end
section
set_option linter.unusedVariables false
set_option linter.unusedSimpArgs false
namespace Go.Proofs.Ytkgejfokdmdikaa.Dg
open Go.Proofs.Ytkgejfokdmdikaa.Nv
set_option maxRecDepth 10000
theorem dif_eq {x y b : Nat} (hx : x < 4294967296) (hy : y < 4294967296) (hb : b ≤ 1) : dif x y b + y + b = x + 4294967296 * brw x y b ∧ dif x y b < 4294967296 ∧ brw x y b ≤ 1 := by
  unfold dif brw
  by_cases c : x < y + b
  · rw [if_pos c]; omega
  · rw [if_neg c]; omega
structure SubS (lp lq : List Nat) (j b : Nat) (o : List Nat) : Prop where
  len : o.length = j
  ok : ok o
  b1 : b ≤ 1
  eq : val o + val (lq.take j) = val (lp.take j) + 4294967296 ^ j * b
theorem SubS.start (lp lq : List Nat) : SubS lp lq 0 0 [] := ⟨rfl, fun x hx => absurd hx (by simp), by omega, by simp [val]⟩
theorem SubS.next {lp lq : List Nat} {j b : Nat} {o : List Nat} (h : SubS lp lq j b o) (hp : Dg.ok lp) (hq : Dg.ok lq) :
    SubS lp lq (j + 1) (brw (at0 lp j) (at0 lq j) b) (o ++ [dif (at0 lp j) (at0 lq j) b]) := by
  obtain ⟨d1, d2, d3⟩ := dif_eq (at0_ok hp j) (at0_ok hq j) h.b1
  refine ⟨by simp [h.len], ok_snoc h.ok d2, d3, ?_⟩
  have e := h.eq
  rw [val_snoc, h.len, val_take0, val_take0, Nat.pow_succ, Nat.mul_assoc]
  have k : 4294967296 ^ j * dif (at0 lp j) (at0 lq j) b + 4294967296 ^ j * at0 lq j + 4294967296 ^ j * b = 4294967296 ^ j * at0 lp j + 4294967296 ^ j * (4294967296 * brw (at0 lp j) (at0 lq j) b) := by
    rw [← Nat.mul_add, ← Nat.mul_add, ← Nat.mul_add, d1]
  omega
theorem SubS.stop {lp lq : List Nat} {j : Nat} {o : List Nat} (h : SubS lp lq j 0 o) (hq : lq.length ≤ j) (hj : j ≤ lp.length) : val (o ++ lp.drop j) + val lq = val lp := by
  have e := h.eq
  rw [List.take_of_length_le hq, Nat.mul_zero, Nat.add_zero] at e
  have s := val_split (l := lp) j
  rw [List.length_take, Nat.min_eq_left hj] at s
  rw [val_append, h.len]; omega
theorem SubS.last {lp lq : List Nat} {b : Nat} {o : List Nat} (h : SubS lp lq lp.length b o) (hq : lq.length ≤ lp.length) (le : val lq ≤ val lp) : b = 0 ∧ val o + val lq = val lp := by
  have e := h.eq
  rw [List.take_of_length_le hq, List.take_length] at e
  have v := val_lt h.ok
  rw [h.len] at v
  rcases Nat.eq_zero_or_pos b with z | z
  · subst z; exact ⟨rfl, by omega⟩
  · have : 4294967296 ^ lp.length * 1 ≤ 4294967296 ^ lp.length * b := Nat.mul_le_mul_left _ z
    omega
end Go.Proofs.Ytkgejfokdmdikaa.Dg
end
section
set_option linter.unusedVariables false
set_option linter.unusedSimpArgs false
namespace Go.Proofs.Ytkgejfokdmdikaa.Nv
open Go Go.RowKit Dg
theorem grown_set {w wr : World} {g j : Nat} {u : Value} (h : w.grownBy wr (some g)) : w.grownBy (wr.setCell ⟨g, j, none⟩ u) (some g) :=
  ⟨h.os, h.tape, h.output, by simpa using h.size, fun k hk hne => (Below.heap_setCell _ _ _ _ (fun e => hne (by rw [e]))).trans (h.block k hk hne)⟩
set_option maxRecDepth 100000 in
set_option maxHeartbeats 3200000 in
theorem less_calls (base g c c' : Nat) (A : Option Addr) (lp lq : List Nat) (w : World) (hp : Row w base g c lp) (hq : Rd w A lq) (hne : ∀ ad, A = some ad → 0 < lq.length → ad.block ≠ g)
    (okp : ok lp) (okq : ok lq) (hl : lq.length ≤ lp.length) (hl1 : lp.length ≤ 1099511627776) (le : val lq ≤ val lp) :
    Calls Try.prog 104 #[.slice (some ⟨g, 0, none⟩) lp.length c, .slice A lq.length c'] w fun e w' => e = .returned (.tuple #[]) ∧
      ∃ o, Row w' base g c o ∧ o.length = lp.length ∧ ok o ∧ val o + val lq = val lp ∧ w.grownBy w' (some g) := by
  have HP := As.mk hp
  have HQ := As.mk hq
  have NE := As.mk hne
  have LE := As.mk le
  clear hp hq hne le
  go_enter Try.func104, Try.ntmps104
  (go_wp2; repeat (go_step3; go_wp2))
  go_loopg [4, 9] lp.length (fun gk v4 v9 wr => ∃ (j b : Nat) (o : List Nat), v4 = .int .u32 (b : Int) ∧ v9 = .int .i64 (j : Int) ∧ As (j ≤ lp.length ∧ lp.length - j ≤ gk) ∧ As (SubS lp lq j b o) ∧ As (Row wr base g c (o ++ lp.drop j)) ∧ As (w.grownBy wr (some g)) ∧ As (Rd wr A lq))
  case atStart => exact ⟨0, 0, [], rfl, rfl, ⟨by omega⟩, ⟨SubS.start _ _⟩, ⟨HP.out⟩, ⟨World.grownBy.refl _ _⟩, HQ⟩
  case round =>
    clear HP HQ
    obtain ⟨j, b, o, rfl, rfl, J, S, G, W, Q⟩ := hrel
    obtain ⟨jl, jg⟩ := J.out
    have b1 := S.out.b1
    by_cases hj : j < lp.length
    · have jo : j < (o ++ lp.drop j).length := by have := S.out.len; simp; omega
      obtain ⟨x, hx⟩ : ∃ x, x = at0 lp j := ⟨_, rfl⟩
      have xb : x < 4294967296 := by rw [hx]; exact at0_ok okp j
      obtain ⟨cj, fj⟩ := G.out.get jo
      have ej : (o ++ lp.drop j)[j]'jo = x := by
        rw [hx, at0_lt hj, List.getElem_append_right (by have := S.out.len; omega)]
        simp [S.out.len]
      rw [ej] at cj
      have HX := As.mk hx
      clear hx ej jo
      obtain ⟨y, hy⟩ : ∃ y, y = at0 lq j := ⟨_, rfl⟩
      have yb : y < 4294967296 := by rw [hy]; exact at0_ok okq j
      have HY := As.mk hy
      by_cases hq : j < lq.length
      · obtain ⟨ad, hA, cy'⟩ := Q.out.get hq
        have ey : lq[j] = y := by rw [hy, at0_lt hq]
        rw [ey] at cy'
        cases hA
        clear hy ey
        go_wp2_with (first | (go_at_call 105; refine (sub32_calls x y b _ xb yb b1).mono ?_; rintro e w2 ⟨rfl, rfl⟩))
        go_roundg (lp.length - (j + 1))
        case measure => omega
        case rel =>
          have N := S.out.next okp okq
          rw [← HX.out, ← HY.out] at N
          exact ⟨j + 1, _, _, rfl, by simp, ⟨by omega⟩, ⟨N⟩, ⟨G.out.next S.out.len hj⟩, ⟨grown_set W.out⟩, ⟨Q.out.set NE.out j _⟩⟩
      · have y0 : y = 0 := by rw [hy, at0_ge (by omega)]
        clear hy
        by_cases hb : b = 0
        · have B0 := As.mk hb
          have bb : ((b : Int) == 0) = true := by rw [hb]; rfl
          clear hb
          (go_wp2; repeat (go_step3; go_wp2))
          simp only [Exit.noGoto]
          go_end0
          have S0 := S.out
          rw [B0.out] at S0
          have O1 := S0.stop (by omega) jl
          exact ⟨rfl, _, G.out, by simp [S0.len]; omega, fun z hz => by
            rcases List.mem_append.1 hz with h | h
            · exact S0.ok z h
            · exact ok_drop okp j z h, O1, W.out⟩
        · have bb : ((b : Int) == 0) = false := beq_eq_false_iff_ne.mpr (by omega)
          have Y0 := As.mk y0
          have s0 := sub32_calls x 0 b wr xb (by omega) b1
          have S0 := As.mk s0
          clear y0 s0
          go_wp2_with (first | (go_at_call 105; refine S0.out.mono ?_; rintro e w2 ⟨rfl, rfl⟩))
          go_roundg (lp.length - (j + 1))
          case measure => omega
          case rel =>
            have N := S.out.next okp okq
            rw [← HX.out, ← HY.out, Y0.out] at N
            exact ⟨j + 1, _, _, rfl, by simp, ⟨by omega⟩, ⟨N⟩, ⟨G.out.next S.out.len hj⟩, ⟨grown_set W.out⟩, ⟨Q.out.set NE.out j _⟩⟩
    · have je : j = lp.length := by omega
      subst je
      (go_wp2; repeat (go_step3; go_wp2))
      simp only [Exit.noGoto]
      go_end0
      obtain ⟨_, O1⟩ := S.out.last hl LE.out
      have G1 := G.out
      rw [List.drop_length, List.append_nil] at G1
      exact ⟨rfl, o, G1, S.out.len, S.out.ok, O1, W.out⟩
end Go.Proofs.Ytkgejfokdmdikaa.Nv
end
section
set_option linter.unusedVariables false
set_option linter.unusedSimpArgs false
namespace Go.Proofs.Ytkgejfokdmdikaa.Nv
open Go Go.RowKit Dg
set_option maxRecDepth 100000 in
set_option maxHeartbeats 1600000 in
theorem cut_calls (A : Option Addr) (c : Nat) (l : List Nat) (w : World) (hr : Rd w A l) (hok : ok l) (hc : l.length ≤ c) :
    Calls Try.prog 84 #[.slice A (l.length : Nat) c] w fun e w' => ∃ v : Value, e = .returned (.agg #[v]) ∧ Num w' v (val l) ∧ Below w.heap.size w w' := by
  have HB := As.mk (Below.refl w.heap.size w)
  have ll := hr.len
  have HR := As.mk hr
  clear hr
  go_enter Try.func84, Try.ntmps84
  go_wp2
  have hr1 : Rd (w.alloc (.cells #[.slice none 0 0] 61)) A l := HR.out.below ((Below.refl _ w).alloc (Nat.le_refl _) _)
  have HR1 := As.mk hr1
  clear hr1
  go_loopg [3] l.length (fun gk v3 wr => ∃ (j : Nat), v3 = .int .i64 (j : Int) ∧ wr = w.alloc (.cells #[.slice none 0 0] 61) ∧ As (j ≤ gk ∧ j ≤ l.length ∧ val (l.take j) = val l))
  case atStart => exact ⟨l.length, rfl, rfl, ⟨Nat.le_refl _, Nat.le_refl _, by rw [List.take_length]⟩⟩
  case round =>
    obtain ⟨j, rfl, rfl, J⟩ := hrel
    obtain ⟨jg, jl, _⟩ := J.out
    by_cases j0 : j = 0
    · subst j0
      have ev : As (val l = 0) := ⟨by have := J.out.2.2; simpa [val] using this.symm⟩
      go_wp2
      refine bodyPost_ret (ret_nat rfl w.heap.size (.slice A 0 0) rfl (heap_alloc_new w _)) rfl ?_
      refine ⟨.slice A 0 0, rfl, ⟨A, 0, ?_⟩, (HB.out.alloc (Nat.le_refl _) _)⟩
      rw [ev.out, dg_zero]
      exact ⟨rfl, Nat.le_refl _, Rd.nil _ _⟩
    · obtain ⟨x, hx⟩ : ∃ x, x = l[j - 1]'(by omega) := ⟨_, rfl⟩
      obtain ⟨ad, hA, cx⟩ := HR1.out.get (j := j - 1) (by omega)
      rw [← hx] at cx
      cases hA
      have HX := As.mk hx
      clear hx
      by_cases z : x = 0
      · subst z
        go_wp2
        go_roundg (j - 1)
        case measure => omega
        case rel =>
          refine ⟨j - 1, by simp; omega, rfl, ⟨by omega, by omega, ?_⟩⟩
          rw [← J.out.2.2, ← take_zero (j - 1) (by omega) HX.out.symm, show j - 1 + 1 = j by omega]
      · go_wp2
        refine bodyPost_ret (ret_nat rfl w.heap.size (.slice (some ad) (j : Nat) j) rfl (heap_alloc_new w _)) rfl ?_
        refine ⟨.slice (some ad) (j : Nat) j, rfl, ⟨some ad, j, ?_⟩, (HB.out.alloc (Nat.le_refl _) _)⟩
        have e : dg (val l) = l.take j := dg_cut hok j jl J.out.2.2 (fun _ _ => by rw [← HX.out]; exact z)
        have el : (l.take j).length = j := by rw [List.length_take]; omega
        rw [e, el]
        exact ⟨rfl, Nat.le_refl _, (HR.out.below ((Below.refl _ w).alloc (Nat.le_refl _) _)).take j⟩
end Go.Proofs.Ytkgejfokdmdikaa.Nv
end
section
set_option linter.unusedVariables false
set_option linter.unusedSimpArgs false
namespace Go.Proofs.Ytkgejfokdmdikaa.Nv
open Go Go.RowKit Dg
set_option maxRecDepth 100000 in
set_option maxHeartbeats 1600000 in
theorem of_calls (n : Nat) (hn : n < 18446744073709551616) (w : World) :
    Calls Try.prog 62 #[.int .u64 (n : Int)] w fun e w' => ∃ v : Value, e = .returned (.agg #[v]) ∧ Num w' v n ∧ Below w.heap.size w w' := by
  have HB := As.mk (Below.refl w.heap.size w)
  have hr : Rd ((w.alloc (.cells #[.slice none 0 0] 61)).alloc (.cells #[.int .u32 ((n : Int) % 4294967296), .int .u32 ((n : Int) / 4294967296)] 43)) (some ⟨w.heap.size + 1, 0, none⟩) [n % 4294967296, n / 4294967296] := by
    have := Rd.lit (w.alloc (.cells #[.slice none 0 0] 61)) [n % 4294967296, n / 4294967296] 43 (by simp)
    simpa [us] using this
  have hv : val [n % 4294967296, n / 4294967296] = n := by simp only [val]; omega
  have hk : ok [n % 4294967296, n / 4294967296] := by
    intro x hx
    simp only [List.mem_cons, List.not_mem_nil, or_false] at hx
    omega
  have HR := As.mk hr
  have HV := As.mk hv
  clear hr hv
  go_enter Try.func62, Try.ntmps62
  go_wp2_with (go_at_call 84; refine (cut_calls (some ⟨w.heap.size + 1, 0, none⟩) 2 [n % 4294967296, n / 4294967296] _ HR.out hk (Nat.le_refl _)).mono ?_; rintro e w2 ⟨v, rfl, hn2, hb2⟩; rw [HV.out] at hn2; obtain ⟨A2, c2, rfl, hc2, hr2⟩ := hn2; have R2 := As.mk hr2; have B2 := As.mk (bel2 hb2); have K2 := As.mk (blk2 hb2); have c0 := cell_of_one K2.out; have f0 := free_of_one K2.out; clear hr2 hb2)
  refine bodyPost_ret (ret_nat rfl w.heap.size _ rfl (one_setCell K2.out)) rfl ?_
  exact ⟨_, rfl, ⟨A2, c2, rfl, hc2, R2.out.put K2.out (by simp) _⟩, B2.out.setCell (Nat.le_refl _) _⟩
end Go.Proofs.Ytkgejfokdmdikaa.Nv
end
