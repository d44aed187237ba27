/- Whether a number is a prime, as the program (and the law) finds it: what it should be; for numbers from 2 to 2^40. (The lines of the symbols' claim, over this law's printed functions.) -/
import Derived.Test.YtkgejfokdmdikaaPModularFactorsx4
namespace Go.Proofs.Ytkgejfokdmdikaa.RtF
open Go Go.RowKit Go.Proofs.YtkgejfokdmdikaaW.PrintWords Go.Proofs.YtkgejfokdmdikaaW.PrintLast Go.Proofs.YtkgejfokdmdikaaW.PrintMore PModularFactors
set_option maxRecDepth 10000

abbrev Evl {α : Type} (g : Nat → Option α) (r : α) : Prop := Go.Proofs.YtkgejfokdmdikaaW.PrintWords.Ev g r
theorem evl_step {α : Type} {g f : Nat → Option α} {r : α} (h : ∀ k, g (k + 1) = f k) (k : Evl f r) : Evl g r :=
  Go.Proofs.YtkgejfokdmdikaaW.PrintWords.Ev.step h k
theorem evl_congr {α : Type} {g f : Nat → Option α} {r : α} (h : ∀ k, g k = f k) (k : Evl f r) : Evl g r :=
  Go.Proofs.YtkgejfokdmdikaaW.PrintWords.Ev.congr h k
theorem evl_now {α : Type} (r : α) : Evl (fun _ => some r) r := ⟨0, fun _ _ => rfl⟩
theorem w64_id (x : Int) (h0 : -9223372036854775808 ≤ x) (h1 : x ≤ 9223372036854775807) : wrap64 x = x := by unfold wrap64; omega
theorem and1_i64 (x : Int) (h0 : 0 ≤ x) (h1 : x ≤ 9223372036854775807) : Go.bits .and .i64 x 1 = x % 2 := fy_and1 x h0 h1

/-! ### Primes by trial -/
theorem prime_sqrt {n : Nat} (h2 : 2 ≤ n) (h : ∀ d, 2 ≤ d → d * d ≤ n → ¬ d ∣ n) : Nt.isP n := by
  refine ⟨h2, fun d hd => ?_⟩
  obtain ⟨e, he⟩ := hd
  have d0 : d ≠ 0 := by rintro rfl; rw [Nat.zero_mul] at he; omega
  have e0 : e ≠ 0 := by rintro rfl; rw [Nat.mul_zero] at he; omega
  by_cases d1 : d = 1
  · exact .inl d1
  · by_cases e1 : e = 1
    · subst e1; exact .inr (by omega)
    · exfalso
      by_cases l : d ≤ e
      · exact h d (by omega) (by rw [he]; exact Nat.mul_le_mul_left _ l) ⟨e, he⟩
      · exact h e (by omega) (by rw [he]; exact Nat.mul_le_mul_right _ (by omega)) ⟨d, by rw [he, Nat.mul_comm]⟩
theorem not_prime {n d : Nat} (h2 : 2 ≤ d) (hd : d * d ≤ n) (h : d ∣ n) : ¬ Nt.isP n := fun k => by
  have h1 : d * 2 ≤ d * d := Nat.mul_le_mul_left _ h2
  rcases k.2 d h with e | e <;> omega
theorem sq_le {q n : Nat} (hn : n ≤ 1099511627776) (h : q * q ≤ n) : q ≤ 1048576 := by
  rcases Nat.lt_or_ge 1048576 q with l | l
  · have : 1048577 * 1048577 ≤ q * q := Nat.mul_le_mul l l
    omega
  · exact l
theorem sq_small {q : Nat} (h : q ≤ 1048578) : q * q ≤ 1099515822084 := Nat.le_trans (Nat.mul_le_mul h h) (by decide)
theorem dvd_tmod (n q : Nat) : Int.tmod (n : Int) (q : Int) = 0 ↔ q ∣ n := by
  rw [Int.tmod_eq_emod_of_nonneg (by omega), ← Int.natCast_emod]
  constructor
  · intro h; exact Nat.dvd_of_mod_eq_zero (by omega)
  · intro h; rw [Nat.mod_eq_zero_of_dvd h]; rfl

theorem ref_prime (n : Nat) (h2 : 2 ≤ n) (hn : n ≤ 1099511627776) : ∀ (N q : Nat), 1048578 - q ≤ N → 2 ≤ q → q ≤ 1048577 → (∀ d, 2 ≤ d → d < q → ¬ d ∣ n) →
    (Nt.isP n → Evl (fun k => parquetref04_Prime.l0 k n q) (true, 0)) ∧ (¬ Nt.isP n → Evl (fun k => parquetref04_Prime.l0 k n q) (false, 0)) := by
  intro N
  induction N with
  | zero => intro q h0 _ h1; omega
  | succ N ih =>
    intro q hN q2 qM hd
    have sb := sq_small (q := q) (by omega)
    have w : wrap64 ((q : Int) * (q : Int)) = ((q * q : Nat) : Int) := by rw [← Int.natCast_mul, w64_id _ (by omega) (by omega)]
    by_cases le : q * q ≤ n
    · by_cases dv : q ∣ n
      · have np := not_prime q2 le dv
        refine ⟨fun p => (np p).elim, fun _ => evl_step (f := fun _ => some (false, 0)) (fun k => ?_) (evl_now _)⟩
        rw [parquetref04_Prime.l0, w, if_pos (by omega), if_neg (by omega), if_pos ((dvd_tmod n q).2 dv)]
      · have sm := sq_le hn le
        obtain ⟨i1, i2⟩ := ih (q + 1) (by omega) (by omega) (by omega) (fun d a b => by
          by_cases e : d = q
          · subst e; exact dv
          · exact hd d a (by omega))
        have st : ∀ k, parquetref04_Prime.l0 (k + 1) n q = parquetref04_Prime.l0 k n ((q + 1 : Nat) : Int) := fun k => by
          rw [parquetref04_Prime.l0, w, if_pos (by omega), if_neg (by omega), if_neg (fun h => dv ((dvd_tmod n q).1 h)), w64_id _ (by omega) (by omega)]; rfl
        exact ⟨fun p => evl_step st (i1 p), fun p => evl_step st (i2 p)⟩
    · have pr : Nt.isP n := prime_sqrt h2 fun d a b c => by
        rcases Nat.lt_or_ge d q with l | l
        · exact hd d a l c
        · have : q * q ≤ d * d := Nat.mul_le_mul l l
          omega
      refine ⟨fun _ => evl_step (f := fun _ => some (true, 0)) (fun k => ?_) (evl_now _), fun p => (p pr).elim⟩
      rw [parquetref04_Prime.l0, w, if_neg (by omega)]

theorem least_is (n : Nat) (h2 : 2 ≤ n) (hn : n ≤ 1099511627776) : ∀ (N q : Nat), 1048579 - q ≤ N → 2 ≤ q → q ≤ 1048578 → (q = 2 ∨ q % 2 = 1) → (∀ d, 2 ≤ d → d < q → ¬ d ∣ n) →
    ∃ r : Nat, (r = n ↔ Nt.isP n) ∧ Evl (fun k => modular_least.l0 k n q) (r : Int) := by
  intro N
  induction N with
  | zero => intro q h0 _ h1; omega
  | succ N ih =>
    intro q hN q2 qM qo hd
    have sb := sq_small (q := q) (by omega)
    have w : wrap64 ((q : Int) * (q : Int)) = ((q * q : Nat) : Int) := by rw [← Int.natCast_mul, w64_id _ (by omega) (by omega)]
    by_cases le : q * q ≤ n
    · by_cases dv : q ∣ n
      · have np := not_prime q2 le dv
        have l2 : q * 2 ≤ q * q := Nat.mul_le_mul_left _ q2
        refine ⟨q, ⟨fun h => by omega, fun h => (np h).elim⟩, evl_step (f := fun _ => some (q : Int)) (fun k => ?_) (evl_now _)⟩
        rw [modular_least.l0, w, if_pos (by omega), if_neg (by omega), if_pos ((dvd_tmod n q).2 dv), if_neg (by omega)]
      · have sm := sq_le hn le
        have e : wrap64 ((q : Int) + (wrap64 (1 + (Go.bits .and .i64 (q : Int) 1)))) = ((q + (1 + q % 2) : Nat) : Int) := by
          rw [and1_i64 _ (by omega) (by omega), w64_id (1 + (q : Int) % 2) (by omega) (by omega), w64_id _ (by omega) (by omega)]; omega
        obtain ⟨r, i1, i2⟩ := ih (q + (1 + q % 2)) (by omega) (by omega) (by omega) (by omega) (fun d a b => by
          rcases Nat.lt_trichotomy d q with l | l | l
          · exact hd d a l
          · subst l; exact dv
          · have d2 : 2 ∣ d := by omega
            intro hdn
            exact hd 2 (by omega) (by omega) (Nat.dvd_trans d2 hdn))
        refine ⟨r, i1, evl_step (fun k => ?_) i2⟩
        rw [modular_least.l0, w, if_pos (by omega), if_neg (by omega), if_neg (fun h => dv ((dvd_tmod n q).1 h)), e]
    · have pr : Nt.isP n := prime_sqrt h2 fun d a b c => by
        rcases Nat.lt_or_ge d q with l | l
        · exact hd d a l c
        · have : q * q ≤ d * d := Nat.mul_le_mul l l
          omega
      refine ⟨n, ⟨fun _ => pr, fun _ => rfl⟩, evl_step (f := fun _ => some (n : Int)) (fun k => ?_) (evl_now _)⟩
      rw [modular_least.l0, w, if_neg (by omega), if_pos (by omega)]

/-- Whether a number from 2 to 2^40 is a prime -/
theorem prime_both (n : Nat) (h2 : 2 ≤ n) (hn : n ≤ 1099511627776) : ∃ b : Bool, (b = true ↔ Nt.isP n) ∧ Evl (fun k => modular_Prime.f k n) (b, 0) ∧ Evl (fun k => parquetref04_Prime.f k n) (b, 0) := by
  obtain ⟨r, h1, h3⟩ := least_is n h2 hn 1048579 2 (by omega) (by omega) (by omega) (.inl rfl) (fun d a b => by omega)
  obtain ⟨i1, i2⟩ := ref_prime n h2 hn 1048579 2 (by omega) (by omega) (by omega) (fun d a b => by omega)
  have P : Evl (fun k => modular_Prime.f k n) (((r : Int) == (n : Int)), 0) := by
    refine evl_congr (f := fun k => (modular_least.f k n).bind fun t101 => (some ((t101 == (n : Int)), 0))) (fun k => ?_) (Go.Proofs.YtkgejfokdmdikaaW.PrintWords.Ev.bind h3 (evl_now _))
    rw [modular_Prime.f, if_neg (by omega), if_neg (by omega)]
  have R : ∀ b, Evl (fun k => parquetref04_Prime.l0 k n ((2 : Nat) : Int)) (b, 0) → Evl (fun k => parquetref04_Prime.f k n) (b, 0) := fun b h => by
    refine evl_congr (fun k => ?_) h
    rw [parquetref04_Prime.f, if_neg (by omega), if_neg (by omega)]; rfl
  by_cases p : Nt.isP n
  · have e : ((r : Int) == (n : Int)) = true := by rw [h1.2 p]; exact beq_self_eq_true _
    rw [e] at P
    exact ⟨true, ⟨fun _ => p, fun _ => rfl⟩, P, R _ (i1 p)⟩
  · have e : ((r : Int) == (n : Int)) = false := by
      rw [beq_eq_false_iff_ne]; intro h; exact p (h1.1 (by omega))
    rw [e] at P
    exact ⟨false, ⟨fun h => (by cases h), fun h => (p h).elim⟩, P, R _ (i2 p)⟩

end Go.Proofs.Ytkgejfokdmdikaa.RtF
