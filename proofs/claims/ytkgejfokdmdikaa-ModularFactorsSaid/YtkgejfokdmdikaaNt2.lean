/- The symbol of an odd number, with its laws; Euler's criterion at a prime; a number whose symbol is -1. Plain Lean, no program. -/
import Derived.Test.YtkgejfokdmdikaaNt
namespace Go.Proofs.Ytkgejfokdmdikaa.Nt

def sg (k : Nat) : Int := if k % 2 = 0 then 1 else -1
theorem sg_add (a b : Nat) : sg (a + b) = sg a * sg b := by
  unfold sg
  rcases Nat.mod_two_eq_zero_or_one a with h | h <;> rcases Nat.mod_two_eq_zero_or_one b with k | k <;> simp [Nat.add_mod, h, k]
theorem sg_congr {a b : Nat} (h : a % 2 = b % 2) : sg a = sg b := by unfold sg; rw [h]

/-- the symbol of a at an odd n -/
def jac (a n : Nat) : Int := if Nat.Coprime a n then sg (mu a n) else 0

theorem jac_mod (a n : Nat) : jac (a % n) n = jac a n := by
  unfold jac
  rw [mu_mod]
  have : Nat.Coprime (a % n) n ↔ Nat.Coprime a n := by
    unfold Nat.Coprime
    rw [← Nat.gcd_rec, Nat.gcd_comm]
  by_cases h : Nat.Coprime a n
  · rw [if_pos h, if_pos (this.2 h)]
  · rw [if_neg h, if_neg (fun k => h (this.1 k))]

theorem jac_mul {n : Nat} (o : n % 2 = 1) (a b : Nat) : jac (a * b) n = jac a n * jac b n := by
  unfold jac
  by_cases ha : Nat.Coprime a n
  · by_cases hb : Nat.Coprime b n
    · rw [if_pos ha, if_pos hb, if_pos (Nat.Coprime.mul_left ha hb), ← sg_add]
      exact sg_congr (mu_mul o ha hb)
    · rw [if_neg hb, if_neg (fun h => hb (Nat.Coprime.coprime_mul_left h)), Int.mul_zero]
  · rw [if_neg ha, if_neg (fun h => ha (Nat.Coprime.coprime_mul_right h)), Int.zero_mul]

theorem coprime_two {n : Nat} (o : n % 2 = 1) : Nat.Coprime 2 n := by
  unfold Nat.Coprime
  rw [Nat.gcd_rec, o]; exact Nat.gcd_one_left 2
theorem jac_two {n : Nat} (o : n % 2 = 1) : jac 2 n = if n % 8 = 1 ∨ n % 8 = 7 then 1 else -1 := by
  unfold jac
  rw [if_pos (coprime_two o)]
  unfold sg
  rw [mu_two_parity o]
  by_cases h : n % 8 = 1 ∨ n % 8 = 7
  · rw [if_pos h, if_pos h]; rfl
  · rw [if_neg h, if_neg h]; rfl

theorem jac_rec {m n : Nat} (om : m % 2 = 1) (o : n % 2 = 1) : jac m n = (if m % 4 = 3 ∧ n % 4 = 3 then -1 else 1) * jac n m := by
  unfold jac
  by_cases c : Nat.Coprime m n
  · rw [if_pos c, if_pos c.symm]
    have r := reciprocity om o c
    have e : sg (mu m n) = sg (m / 2 * (n / 2)) * sg (mu n m) := by
      rw [← sg_add]; exact sg_congr (by omega)
    rw [e]
    congr 1
    unfold sg
    rw [Nat.mul_mod]
    have h1 : m / 2 % 2 = if m % 4 = 3 then 1 else 0 := by split <;> omega
    have h2 : n / 2 % 2 = if n % 4 = 3 then 1 else 0 := by split <;> omega
    rw [h1, h2]
    by_cases p : m % 4 = 3 <;> by_cases q : n % 4 = 3 <;> simp [p, q]
  · have c' : ¬ Nat.Coprime n m := fun h => c h.symm
    rw [if_neg c, if_neg c', Int.mul_zero]

theorem jac_zero (n : Nat) : jac 0 n = if n = 1 then 1 else 0 := by
  unfold jac
  by_cases h : n = 1
  · subst h; rfl
  · rw [if_neg h, if_neg (by unfold Nat.Coprime; rw [Nat.gcd_zero_left]; exact h)]
theorem jac_one {n : Nat} (o : n % 2 = 1) : jac 1 n = 1 := by
  unfold jac
  rw [if_pos (Nat.coprime_one_left n), mu_one o]; rfl

/-! ### At a prime -/
def isP (p : Nat) : Prop := 2 ≤ p ∧ ∀ d, d ∣ p → d = 1 ∨ d = p
theorem isP.cop {p x : Nat} (hp : isP p) (h : ¬ p ∣ x) : Nat.Coprime x p := by
  rcases hp.2 _ (Nat.gcd_dvd_right x p) with k | k
  · exact k
  · exact (h (k ▸ Nat.gcd_dvd_left x p)).elim
theorem isP.cop_lt {p x : Nat} (hp : isP p) (h0 : 0 < x) (h1 : x < p) : Nat.Coprime x p :=
  hp.cop fun d => by have := Nat.le_of_dvd h0 d; omega
theorem cancel {p : Nat} {x : Int} {F : Nat} (c : Nat.Coprime F p) (h : (p : Int) ∣ x * (F : Int)) : (p : Int) ∣ x := by
  have h1 := Int.natAbs_dvd_natAbs.2 h
  rw [Int.natAbs_mul, Int.natAbs_natCast, Int.natAbs_natCast] at h1
  have h2 := Nat.Coprime.dvd_of_dvd_mul_right c.symm h1
  exact Int.ofNat_dvd_left.2 h2

abbrev pr (f : Nat → Int) (n : Nat) : Int := fd (· * ·) 1 f n
theorem pr_succ (f : Nat → Int) (n : Nat) : pr f (n + 1) = pr f n * f n := rfl
theorem pr_cong (p : Int) {f g : Nat → Int} : ∀ n, (∀ i, i < n → p ∣ f i - g i) → p ∣ pr f n - pr g n
  | 0, _ => by show p ∣ (1 : Int) - 1; exact Int.dvd_zero p
  | n + 1, h => by
    rw [pr_succ, pr_succ]
    have e : pr f n * f n - pr g n * g n = (pr f n - pr g n) * f n + pr g n * (f n - g n) := by
      rw [Int.sub_mul, Int.mul_sub]; omega
    rw [e]
    exact Int.dvd_add (Int.dvd_trans (pr_cong p n fun i hi => h i (by omega)) ⟨_, rfl⟩) (Int.dvd_trans (h n (by omega)) ⟨_, Int.mul_comm _ _⟩)
theorem pr_mul (f g : Nat → Int) (n : Nat) : pr (fun i => f i * g i) n = pr f n * pr g n :=
  fd_op (· * ·) 1 (fun a b c => Int.mul_assoc a b c) (fun a b => Int.mul_comm a b) rfl n
theorem pr_const (a : Int) : ∀ n, pr (fun _ => a) n = a ^ n
  | 0 => (Int.pow_zero a).symm
  | n + 1 => by rw [pr_succ, pr_const a n, Int.pow_succ]
/-- 1 2 .. n -/
def fac : Nat → Nat
  | 0 => 1
  | n + 1 => fac n * (n + 1)
theorem pr_fac : ∀ n, pr (fun i => ((i + 1 : Nat) : Int)) n = (fac n : Int)
  | 0 => rfl
  | n + 1 => by rw [pr_succ, pr_fac n, fac, Int.natCast_mul]
theorem fac_cop {p : Nat} (hp : isP p) : ∀ n, n < p → Nat.Coprime (fac n) p
  | 0, _ => Nat.coprime_one_left p
  | n + 1, h => Nat.Coprime.mul_left (fac_cop hp n (by omega)) (hp.cop_lt (by omega) h)
theorem pr_sg (f : Nat → Nat) : ∀ n, pr (fun i => sg (f i)) n = sg (sm f n)
  | 0 => rfl
  | n + 1 => by rw [pr_succ, pr_sg f n, sm_succ, sg_add]

/-- Gauss's lemma, Euler's criterion -/
theorem euler {p a : Nat} (hp : isP p) (o : p % 2 = 1) (c : Nat.Coprime a p) : (p : Int) ∣ (a : Int) ^ (p / 2) - jac a p := by
  unfold jac
  rw [if_pos c]
  refine cancel (fac_cop hp (p / 2) (by omega)) ?_
  have h1 : (p : Int) ∣ pr (fun i => (a : Int) * ((i + 1 : Nat) : Int)) (p / 2) - pr (fun i => sg (ng a p (i + 1)) * ((av a p (i + 1) : Nat) : Int)) (p / 2) := by
    refine pr_cong _ _ fun i hi => ?_
    have e := Nat.div_add_mod (a * (i + 1)) p
    have lb := Nat.mod_lt (a * (i + 1)) (show 0 < p by omega)
    have e' : (a : Int) * ((i + 1 : Nat) : Int) = (p : Int) * ((a * (i + 1) / p : Nat) : Int) + ((a * (i + 1) % p : Nat) : Int) := by
      rw [← Int.natCast_mul, ← Int.natCast_mul, ← Int.natCast_add, e]
    rw [e']
    unfold ng av
    generalize a * (i + 1) / p = q at *
    generalize a * (i + 1) % p = r at *
    by_cases t : r ≤ p / 2
    · rw [if_pos t, if_pos t]
      refine ⟨(q : Int), ?_⟩
      show _ - (1 : Int) * _ = _
      omega
    · rw [if_neg t, if_neg t]
      refine ⟨(q : Int) + 1, ?_⟩
      show _ - (-1 : Int) * _ = _
      rw [Int.mul_add]
      omega
  rw [pr_mul, pr_mul, pr_const, pr_fac, pr_sg] at h1
  have h2 : pr (fun i => ((av a p (i + 1) : Nat) : Int)) (p / 2) = (fac (p / 2) : Int) := by
    rw [← pr_fac]
    have h := fd_perm (· * ·) (1 : Int) (fun a b c => Int.mul_assoc a b c) (fun a b => Int.mul_comm a b) (fun i => ((i + 1 : Nat) : Int)) (p / 2) (fun i => av a p (i + 1) - 1)
      (fun i hi => by have := av_range o c (x := i + 1) (by omega) (by omega); omega)
      (fun i j hi hj hij => by
        have h1 := av_range o c (x := i + 1) (by omega) (by omega)
        have h2 := av_range o c (x := j + 1) (by omega) (by omega)
        have := av_inj c (x := i + 1) (y := j + 1) (by omega) (by omega) (by omega) (by omega) (by omega)
        omega)
    refine (fd_congr _ _ _ fun i hi => ?_).trans h
    have h1 := av_range o c (x := i + 1) (by omega) (by omega)
    congr 1; omega
  rw [h2] at h1
  rw [Int.sub_mul]
  exact h1

/-! ### Differences: not all symbols at a prime are 1 -/
def dif : Nat → (Nat → Int) → Nat → Int
  | 0, f, x => f x
  | k + 1, f, x => dif k f (x + 1) - dif k f x
theorem dif_mul (g : Nat → Int) : ∀ (k x : Nat), dif (k + 1) (fun x => (x : Int) * g x) x = (x : Int) * dif (k + 1) g x + ((k : Int) + 1) * dif k g (x + 1)
  | 0, x => by
    simp only [dif]
    rw [Int.natCast_add, Int.add_mul, Int.mul_sub]
    omega
  | k + 1, x => by
    have h1 := dif_mul g k (x + 1)
    have h2 := dif_mul g k x
    have e : dif (k + 1 + 1) (fun x => (x : Int) * g x) x = dif (k + 1) (fun x => (x : Int) * g x) (x + 1) - dif (k + 1) (fun x => (x : Int) * g x) x := rfl
    have e2 : dif (k + 1 + 1) g x = dif (k + 1) g (x + 1) - dif (k + 1) g x := rfl
    have e3 : dif (k + 1) g (x + 1) = dif k g (x + 1 + 1) - dif k g (x + 1) := rfl
    rw [e, h1, h2, e2, Int.natCast_add, Int.natCast_add]
    generalize dif (k + 1) g x = A at *
    generalize dif (k + 1) g (x + 1) = B at *
    generalize dif k g (x + 1 + 1) = C at *
    generalize dif k g (x + 1) = D at *
    subst e3
    simp only [Int.mul_sub, Int.add_mul]
    omega
theorem dif_congr {f g : Nat → Int} (h : ∀ x, f x = g x) : ∀ k x, dif k f x = dif k g x
  | 0, x => h x
  | k + 1, x => by simp only [dif]; rw [dif_congr h k, dif_congr h k]
theorem dif_zero {f : Nat → Int} {k : Nat} (h : ∀ x, dif k f x = 0) (x : Nat) : dif (k + 1) f x = 0 := by
  simp only [dif]; rw [h, h]; rfl
theorem dif_pow : ∀ n, (∀ x, dif n (fun x => (x : Int) ^ n) x = (fac n : Int)) ∧ ∀ x, dif (n + 1) (fun x => (x : Int) ^ n) x = 0
  | 0 => ⟨fun x => rfl, fun x => by simp only [dif]; rw [Int.pow_zero, Int.pow_zero]; rfl⟩
  | n + 1 => by
    obtain ⟨h1, h2⟩ := dif_pow n
    have e : ∀ x : Nat, (x : Int) ^ (n + 1) = (x : Int) * (x : Int) ^ n := fun x => by rw [Int.pow_succ, Int.mul_comm]
    constructor
    · intro x
      rw [dif_congr e, dif_mul (fun x => (x : Int) ^ n) n x, h2, h1, Int.mul_zero, Int.zero_add, fac, Int.natCast_mul, Int.mul_comm]
      rfl
    · intro x
      rw [dif_congr e, dif_mul (fun x => (x : Int) ^ n) (n + 1) x, dif_zero h2, h2, Int.mul_zero, Int.mul_zero]; rfl
theorem dif_cong (p : Int) (f : Nat → Int) (c : Int) : ∀ k x, (∀ y, x ≤ y → y ≤ x + k → p ∣ f y - c) → p ∣ dif k f x - (if k = 0 then c else 0)
  | 0, x, h => by
    rw [if_pos rfl]
    exact h x (Nat.le_refl _) (by omega)
  | k + 1, x, h => by
    have h1 := dif_cong p f c k (x + 1) (fun y a b => h y (by omega) (by omega))
    have h2 := dif_cong p f c k x (fun y a b => h y (by omega) (by omega))
    have h3 := Int.dvd_sub h1 h2
    rw [if_neg (by omega)]
    have e : dif (k + 1) f x - 0 = dif k f (x + 1) - (if k = 0 then c else 0) - (dif k f x - (if k = 0 then c else 0)) := by
      simp only [dif]; omega
    rw [e]; exact h3

theorem jac_pm {p a : Nat} (c : Nat.Coprime a p) : jac a p = 1 ∨ jac a p = -1 := by
  unfold jac
  rw [if_pos c]
  unfold sg
  split
  · exact .inl rfl
  · exact .inr rfl

/-- at an odd prime some number has the symbol -1 -/
theorem nonresidue {p : Nat} (hp : isP p) (o : p % 2 = 1) : ∃ z, 2 ≤ z ∧ z < p ∧ jac z p = -1 := by
  have p2 := hp.1
  by_cases q : ∃ z, 2 ≤ z ∧ z < p ∧ jac z p = -1
  · exact q
  · exfalso
    have all : ∀ y, 1 ≤ y → y ≤ 1 + p / 2 → (p : Int) ∣ (fun x : Nat => (x : Int) ^ (p / 2)) y - 1 := by
      intro y h0 h1
      have c := hp.cop_lt (x := y) (by omega) (by omega)
      have e := euler hp o c
      have j : jac y p = 1 := by
        by_cases y1 : y = 1
        · subst y1; exact jac_one o
        · rcases jac_pm c with j | j
          · exact j
          · exact (q ⟨y, by omega, by omega, j⟩).elim
      rw [j] at e
      exact e
    have d := dif_cong (p : Int) (fun x : Nat => (x : Int) ^ (p / 2)) 1 (p / 2) 1 all
    rw [if_neg (by omega), (dif_pow (p / 2)).1 1, Int.sub_zero] at d
    have d2 : p ∣ fac (p / 2) := Int.natCast_dvd_natCast.1 d
    have c := fac_cop hp (p / 2) (by omega)
    have : p ∣ 1 := by
      have := Nat.dvd_gcd d2 (Nat.dvd_refl p)
      rwa [c] at this
    have := Nat.le_of_dvd (by omega) this
    omega

end Go.Proofs.Ytkgejfokdmdikaa.Nt
