/- Number theory for the symbols: the half system's symbol of a modulo an odd n (Gauss's lemma taken as its definition), that it is multiplicative, its values at 2 and -1, reciprocity (Eisenstein's lattice), and that at a prime it is the power to (p - 1)/2. Plain Lean, no program. -/
namespace Go.Proofs.Ytkgejfokdmdikaa.Nt

/-! ### Folds over 0, 1, .., n - 1 -/
section fold
variable {α : Type} (op : α → α → α) (e : α)
def fd (f : Nat → α) : Nat → α
  | 0 => e
  | n + 1 => op (fd f n) (f n)
theorem fd_congr {f g : Nat → α} : ∀ n, (∀ i, i < n → f i = g i) → fd op e f n = fd op e g n
  | 0, _ => rfl
  | n + 1, h => by
    simp only [fd]
    rw [fd_congr n (fun i hi => h i (by omega)), h n (by omega)]
variable (ha : ∀ a b c, op (op a b) c = op a (op b c)) (hc : ∀ a b, op a b = op b a)
include ha hc
theorem op_right (a b c : α) : op (op a b) c = op (op a c) b := by rw [ha, hc b c, ← ha]
theorem fd_swap {f g : Nat → α} {x : Nat} : ∀ n, x < n → (∀ i, i < n → i ≠ x → f i = g i) → op (fd op e f n) (g x) = op (fd op e g n) (f x)
  | 0, h, _ => by omega
  | n + 1, h, k => by
    simp only [fd]
    by_cases q : x = n
    · subst q
      rw [fd_congr op e (f := f) (g := g) x (fun i hi => k i (by omega) (by omega))]
      exact op_right op ha hc _ _ _
    · rw [op_right op ha hc, fd_swap n (by omega) (fun i hi => k i (by omega)), op_right op ha hc, k n (by omega) (fun z => q z.symm)]
theorem fd_op {f g : Nat → α} (he : op e e = e) : ∀ n, fd op e (fun i => op (f i) (g i)) n = op (fd op e f n) (fd op e g n)
  | 0 => he.symm
  | n + 1 => by
    simp only [fd]
    rw [fd_op he n, ha, ha]
    congr 1
    rw [← ha, hc (fd op e g n), ha]
end fold

theorem php : ∀ (n : Nat) (s : Nat → Nat), (∀ i, i < n + 1 → s i < n) → (∀ i j, i < n + 1 → j < n + 1 → s i = s j → i = j) → False
  | 0, s, h, _ => by have := h 0 (by omega); omega
  | n + 1, s, h, k => by
    refine php n (fun i => if s i = n then s (n + 1) else s i) (fun i hi => ?_) (fun i j hi hj hij => ?_)
    · have h1 := h i (by omega)
      have h2 := h (n + 1) (by omega)
      by_cases q : s i = n
      · simp only [q, if_true]
        by_cases r : s (n + 1) = n
        · have := k i (n + 1) (by omega) (by omega) (by omega); omega
        · omega
      · simp only [q, if_false]; omega
    · by_cases q : s i = n
      · by_cases r : s j = n
        · exact k i j (by omega) (by omega) (by omega)
        · simp only [q, r, if_true, if_false] at hij
          have := k (n + 1) j (by omega) (by omega) hij; omega
      · by_cases r : s j = n
        · simp only [q, r, if_true, if_false] at hij
          have := k i (n + 1) (by omega) (by omega) hij; omega
        · simp only [q, r, if_false] at hij
          exact k i j (by omega) (by omega) hij

theorem fd_perm {α : Type} (op : α → α → α) (e : α) (ha : ∀ a b c, op (op a b) c = op a (op b c)) (hc : ∀ a b, op a b = op b a) (f : Nat → α) :
    ∀ (n : Nat) (s : Nat → Nat), (∀ i, i < n → s i < n) → (∀ i j, i < n → j < n → s i = s j → i = j) → fd op e (fun i => f (s i)) n = fd op e f n
  | 0, _, _, _ => rfl
  | n + 1, s, h, k => by
    by_cases q : s n = n
    · simp only [fd]
      rw [fd_perm op e ha hc f n s (fun i hi => ?_) (fun i j hi hj => k i j (by omega) (by omega)), q]
      have h1 := h i (by omega)
      by_cases r : s i = n
      · have := k i n (by omega) (by omega) (by omega); omega
      · omega
    · by_cases x : ∃ x, x < n + 1 ∧ s x = n
      · obtain ⟨x, hx, sx⟩ := x
        have xn : x ≠ n := fun z => q (z ▸ sx)
        have hn := h n (by omega)
        have ih := fd_perm op e ha hc f n (fun i => if i = x then s n else s i) (fun i hi => ?_) (fun i j hi hj hij => ?_)
        · simp only [fd]
          have sw := fd_swap op e ha hc (f := fun i => f (s i)) (g := fun i => f (if i = x then s n else s i)) (x := x) n (by omega) (fun i hi z => by simp only [if_neg z])
          simp only [if_true] at sw
          rw [sw, ih, sx]
        · have h1 := h i (by omega)
          by_cases r : i = x
          · simp only [r, if_true]; omega
          · simp only [r, if_false]
            by_cases t : s i = n
            · have := k i x (by omega) (by omega) (by omega); omega
            · omega
        · by_cases r : i = x
          · by_cases t : j = x
            · omega
            · simp only [r, t, if_true, if_false] at hij
              have := k n j (by omega) (by omega) hij; omega
          · by_cases t : j = x
            · simp only [r, t, if_true, if_false] at hij
              have := k i n (by omega) (by omega) hij; omega
            · simp only [r, t, if_false] at hij
              exact k i j (by omega) (by omega) hij
      · refine (php n s (fun i hi => ?_) k).elim
        have h1 := h i hi
        by_cases t : s i = n
        · exact (x ⟨i, hi, t⟩).elim
        · omega

/-! ### Sums of natural numbers -/
abbrev sm (f : Nat → Nat) (n : Nat) : Nat := fd (· + ·) 0 f n
theorem sm_succ (f : Nat → Nat) (n : Nat) : sm f (n + 1) = sm f n + f n := rfl
theorem sm_congr {f g : Nat → Nat} (n : Nat) (h : ∀ i, i < n → f i = g i) : sm f n = sm g n := fd_congr _ _ n h
theorem sm_mod2 {f g : Nat → Nat} : ∀ n, (∀ i, i < n → f i % 2 = g i % 2) → sm f n % 2 = sm g n % 2
  | 0, _ => rfl
  | n + 1, h => by
    have h1 := sm_mod2 n (fun i hi => h i (by omega))
    have h2 := h n (by omega)
    rw [sm_succ, sm_succ]; omega
theorem sm_add (f g : Nat → Nat) (n : Nat) : sm (fun i => f i + g i) n = sm f n + sm g n :=
  fd_op (· + ·) 0 (fun a b c => by omega) (fun a b => by omega) rfl n
theorem sm_const (c : Nat) : ∀ n, sm (fun _ => c) n = c * n
  | 0 => rfl
  | n + 1 => by rw [sm_succ, sm_const c n, Nat.mul_add, Nat.mul_one]
theorem sm_perm (f : Nat → Nat) (n : Nat) (s : Nat → Nat) (h : ∀ i, i < n → s i < n) (k : ∀ i j, i < n → j < n → s i = s j → i = j) : sm (fun i => f (s i)) n = sm f n :=
  fd_perm (· + ·) 0 (fun a b c => by omega) (fun a b => by omega) f n s h k
theorem sm_zero : ∀ n, sm (fun _ => 0) n = 0
  | 0 => rfl
  | n + 1 => by rw [sm_succ, sm_zero n]
theorem sm_comm (f : Nat → Nat → Nat) (b : Nat) : ∀ a, sm (fun x => sm (fun y => f x y) b) a = sm (fun y => sm (fun x => f x y) a) b
  | 0 => by show 0 = sm (fun y => 0) b; rw [sm_zero]
  | a + 1 => by
    rw [sm_succ, sm_comm f b a, ← sm_add]
    exact sm_congr b fun i _ => rfl
/-- how many of n, 2n, .., kn are N at most -/
theorem sm_count (n N : Nat) (hn : 0 < n) : ∀ k, k ≤ N / n → sm (fun i => if n * (i + 1) ≤ N then 1 else 0) k = k
  | 0, _ => rfl
  | k + 1, h => by
    rw [sm_succ, sm_count n N hn k (by omega), if_pos]
    have := (Nat.le_div_iff_mul_le hn).1 h
    rw [Nat.mul_comm]; exact this
theorem sm_count_all (n N : Nat) (hn : 0 < n) : ∀ k, N / n ≤ k → sm (fun i => if n * (i + 1) ≤ N then 1 else 0) k = N / n := by
  intro k hk
  obtain ⟨j, rfl⟩ := Nat.exists_eq_add_of_le hk
  induction j with
  | zero => exact sm_count n N hn _ (Nat.le_refl _)
  | succ j ih =>
    rw [← Nat.add_assoc, sm_succ, ih (by omega), if_neg]
    · rfl
    · intro h
      have := (Nat.le_div_iff_mul_le hn (x := N / n + j + 1)).2 (by rw [Nat.mul_comm]; exact h)
      omega

/-! ### The half system -/
/-- is a x, modulo n, in the upper half? -/
def ng (a n x : Nat) : Nat := if (a * x) % n ≤ n / 2 then 0 else 1
/-- a x, modulo n, without its sign -/
def av (a n x : Nat) : Nat := if (a * x) % n ≤ n / 2 then (a * x) % n else n - (a * x) % n
def mu (a n : Nat) : Nat := sm (fun i => ng a n (i + 1)) (n / 2)

theorem not_dvd_half {a n x : Nat} (c : Nat.Coprime a n) (h0 : 0 < x) (h1 : x < n) : a * x % n ≠ 0 := fun h => by
  have := Nat.Coprime.dvd_of_dvd_mul_left c.symm (Nat.dvd_of_mod_eq_zero h)
  have := Nat.le_of_dvd h0 this
  omega
theorem av_range {a n x : Nat} (o : n % 2 = 1) (c : Nat.Coprime a n) (h0 : 0 < x) (h1 : x ≤ n / 2) : 0 < av a n x ∧ av a n x ≤ n / 2 := by
  have h := not_dvd_half c h0 (show x < n by omega)
  have l := Nat.mod_lt (a * x) (show 0 < n by omega)
  unfold av
  split <;> omega
theorem av_inj_lt {a n x y : Nat} (c : Nat.Coprime a n) (h0 : 0 < x) (h1 : x < y) (h2 : y ≤ n / 2) : av a n x ≠ av a n y := by
  intro h
  have l1 := Nat.mod_lt (a * x) (show 0 < n by omega)
  have l2 := Nat.mod_lt (a * y) (show 0 < n by omega)
  have key : a * x % n = a * y % n ∨ a * x % n + a * y % n = n := by
    unfold av at h
    split at h <;> split at h <;> omega
  rcases key with k | k
  · have d : (a * y - a * x) % n = 0 := Nat.sub_mod_eq_zero_of_mod_eq k.symm
    rw [← Nat.mul_sub] at d
    exact not_dvd_half c (show 0 < y - x by omega) (by omega) d
  · have d : (a * (x + y)) % n = 0 := by
      rw [Nat.mul_add, Nat.add_mod, k, Nat.mod_self]
    exact not_dvd_half c (show 0 < x + y by omega) (by omega) d
theorem av_inj {a n x y : Nat} (c : Nat.Coprime a n) (x0 : 0 < x) (x1 : x ≤ n / 2) (y0 : 0 < y) (y1 : y ≤ n / 2) (h : av a n x = av a n y) : x = y := by
  by_cases l : x < y
  · exact (av_inj_lt c x0 l y1 h).elim
  · by_cases m : y < x
    · exact (av_inj_lt c y0 m x1 h.symm).elim
    · omega
/-- the half system goes onto itself -/
theorem sm_av {a n : Nat} (o : n % 2 = 1) (c : Nat.Coprime a n) (f : Nat → Nat) : sm (fun i => f (av a n (i + 1))) (n / 2) = sm (fun i => f (i + 1)) (n / 2) := by
  have h := sm_perm (fun i => f (i + 1)) (n / 2) (fun i => av a n (i + 1) - 1)
    (fun i hi => by have := av_range o c (x := i + 1) (by omega) (by omega); omega)
    (fun i j hi hj hij => by
      have h1 := av_range o c (x := i + 1) (by omega) (by omega)
      have h2 := av_range o c (x := j + 1) (by omega) (by omega)
      have := av_inj c (x := i + 1) (y := j + 1) (by omega) (by omega) (by omega) (by omega) (by omega)
      omega)
  rw [← h]
  refine sm_congr _ fun i hi => ?_
  have h1 := av_range o c (x := i + 1) (by omega) (by omega)
  congr 1; omega

/-- multiplicative -/
theorem mu_mul {a b n : Nat} (o : n % 2 = 1) (ca : Nat.Coprime a n) (cb : Nat.Coprime b n) : mu (a * b) n % 2 = (mu a n + mu b n) % 2 := by
  have h : mu (a * b) n % 2 = sm (fun i => ng a n (av b n (i + 1)) + ng b n (i + 1)) (n / 2) % 2 := by
    refine sm_mod2 _ fun i hi => ?_
    have hb := not_dvd_half cb (show 0 < i + 1 by omega) (show i + 1 < n by omega)
    have lb := Nat.mod_lt (b * (i + 1)) (show 0 < n by omega)
    have e : a * b * (i + 1) % n = a * (b * (i + 1) % n) % n := by rw [Nat.mul_assoc, Nat.mul_mod, Nat.mul_mod a (b * (i + 1) % n), Nat.mod_mod]
    unfold ng av
    rw [e]
    generalize b * (i + 1) % n = r at *
    by_cases q : r ≤ n / 2
    · rw [if_pos q, if_pos q]; rfl
    · rw [if_neg q, if_neg q]
      have hr := not_dvd_half ca (show 0 < r by omega) lb
      have lr := Nat.mod_lt (a * r) (show 0 < n by omega)
      have s : (a * (n - r) + a * r) % n = 0 := by rw [← Nat.mul_add, show n - r + r = n by omega, Nat.mul_mod_left]
      rw [Nat.add_mod] at s
      have lq := Nat.mod_lt (a * (n - r)) (show 0 < n by omega)
      have s2 : a * (n - r) % n + a * r % n = n := by
        have d := Nat.dvd_of_mod_eq_zero s
        obtain ⟨k, hk⟩ := d
        have : k < 2 := by
          rcases Nat.lt_or_ge k 2 with h | h
          · exact h
          · have : n * 2 ≤ n * k := Nat.mul_le_mul_left _ h
            omega
        have : k ≠ 0 := by intro z; subst z; omega
        obtain rfl : k = 1 := by omega
        omega
      by_cases t : a * r % n ≤ n / 2
      · rw [if_pos t, if_neg (by omega)]
      · rw [if_neg t, if_pos (by omega)]
  rw [h, sm_add, sm_av o cb (fun x => ng a n x)]
  rfl

theorem mu_mod (a n : Nat) : mu (a % n) n = mu a n := by
  refine sm_congr _ fun i hi => ?_
  unfold ng
  rw [Nat.mod_mul_mod]

theorem mu_one {n : Nat} (o : n % 2 = 1) : mu 1 n = 0 := by
  have : mu 1 n = sm (fun _ => 0) (n / 2) := sm_congr _ fun i hi => by
    unfold ng
    rw [Nat.one_mul, Nat.mod_eq_of_lt (by omega), if_pos (by omega)]
  rw [this, sm_zero]

/-- at 2 -/
theorem mu_two {n : Nat} (o : n % 2 = 1) : mu 2 n = n / 2 - n / 2 / 2 := by
  have h1 : sm (fun i => ng 2 n (i + 1) + (if 2 * (i + 1) ≤ n / 2 then 1 else 0)) (n / 2) = sm (fun _ => 1) (n / 2) := sm_congr _ fun i hi => by
    unfold ng
    rw [Nat.mod_eq_of_lt (by omega)]
    by_cases q : 2 * (i + 1) ≤ n / 2
    · rw [if_pos q, if_pos q]
    · rw [if_neg q, if_neg q]
  rw [sm_add, sm_count_all 2 (n / 2) (by omega) (n / 2) (by omega), sm_const] at h1
  unfold mu
  omega
theorem mu_two_parity {n : Nat} (o : n % 2 = 1) : mu 2 n % 2 = if n % 8 = 1 ∨ n % 8 = 7 then 0 else 1 := by
  rw [mu_two o]
  by_cases q : n % 8 = 1 ∨ n % 8 = 7
  · rw [if_pos q]; omega
  · rw [if_neg q]; omega

/-! ### Reciprocity -/
theorem eisenstein {a n : Nat} (oa : a % 2 = 1) (o : n % 2 = 1) (c : Nat.Coprime a n) : mu a n % 2 = sm (fun i => a * (i + 1) / n) (n / 2) % 2 := by
  have h : sm (fun i => (i + 1) + (a * (i + 1) / n + (av a n (i + 1) + ng a n (i + 1)))) (n / 2) % 2 = sm (fun _ => 0) (n / 2) % 2 := sm_mod2 _ fun i hi => by
    have e := Nat.div_add_mod (a * (i + 1)) n
    have lb := Nat.mod_lt (a * (i + 1)) (show 0 < n by omega)
    have p1 : a * (i + 1) % 2 = (i + 1) % 2 := by rw [Nat.mul_mod, oa, Nat.one_mul, Nat.mod_mod]
    have p2 : n * (a * (i + 1) / n) % 2 = (a * (i + 1) / n) % 2 := by rw [Nat.mul_mod, o, Nat.one_mul, Nat.mod_mod]
    unfold av ng
    generalize a * (i + 1) / n = q at *
    generalize a * (i + 1) % n = r at *
    generalize n * q = nq at *
    generalize a * (i + 1) = ax at *
    by_cases t : r ≤ n / 2
    · rw [if_pos t, if_pos t]; omega
    · rw [if_neg t, if_neg t]; omega
  rw [sm_add (fun i => i + 1) (fun i => a * (i + 1) / n + (av a n (i + 1) + ng a n (i + 1))), sm_add (fun i => a * (i + 1) / n) (fun i => av a n (i + 1) + ng a n (i + 1)),
    sm_add (fun i => av a n (i + 1)) (fun i => ng a n (i + 1)), sm_zero, sm_av o c (fun x => x)] at h
  unfold mu
  omega

theorem lattice {m n : Nat} (om : m % 2 = 1) (o : n % 2 = 1) (c : Nat.Coprime m n) :
    sm (fun i => m * (i + 1) / n) (n / 2) + sm (fun j => n * (j + 1) / m) (m / 2) = (m / 2) * (n / 2) := by
  have half : ∀ m n : Nat, m % 2 = 1 → n % 2 = 1 → ∀ i, i < n / 2 → m * (i + 1) / n ≤ m / 2 := by
    intro m n om o i hi
    have h1 : m * (i + 1) ≤ m * (n / 2) := Nat.mul_le_mul_left _ (by omega)
    have h2 : m * (n / 2) * 2 + m = m * n := by rw [Nat.mul_assoc, ← Nat.mul_succ]; congr 1; omega
    have h3 : (m / 2) * n * 2 + n = m * n := by
      rw [Nat.mul_right_comm, ← Nat.succ_mul]; congr 1; omega
    refine Nat.le_of_lt_succ ((Nat.div_lt_iff_lt_mul (by omega)).2 ?_)
    rw [Nat.succ_mul]
    omega
  have h1 : sm (fun i => m * (i + 1) / n) (n / 2) = sm (fun i => sm (fun j => if n * (j + 1) ≤ m * (i + 1) then 1 else 0) (m / 2)) (n / 2) :=
    sm_congr _ fun i hi => (sm_count_all n (m * (i + 1)) (by omega) (m / 2) (half m n om o i hi)).symm
  have h2 : sm (fun j => n * (j + 1) / m) (m / 2) = sm (fun j => sm (fun i => if m * (i + 1) ≤ n * (j + 1) then 1 else 0) (n / 2)) (m / 2) :=
    sm_congr _ fun j hj => (sm_count_all m (n * (j + 1)) (by omega) (n / 2) (half n m o om j hj)).symm
  rw [h1, h2, sm_comm (fun j i => if m * (i + 1) ≤ n * (j + 1) then 1 else 0), ← sm_add]
  have h3 : sm (fun i => sm (fun j => if n * (j + 1) ≤ m * (i + 1) then 1 else 0) (m / 2) + sm (fun j => if m * (i + 1) ≤ n * (j + 1) then 1 else 0) (m / 2)) (n / 2) = sm (fun _ => m / 2) (n / 2) :=
    sm_congr _ fun i hi => by
      rw [← sm_add]
      have : sm (fun j => (if n * (j + 1) ≤ m * (i + 1) then 1 else 0) + (if m * (i + 1) ≤ n * (j + 1) then 1 else 0)) (m / 2) = sm (fun _ => 1) (m / 2) := sm_congr _ fun j hj => by
        have ne : m * (i + 1) ≠ n * (j + 1) := by
          intro h
          have d : n ∣ m * (i + 1) := ⟨j + 1, h⟩
          have := Nat.Coprime.dvd_of_dvd_mul_left c.symm d
          have := Nat.le_of_dvd (by omega) this
          omega
        by_cases q : n * (j + 1) ≤ m * (i + 1)
        · rw [if_pos q, if_neg (by omega)]
        · rw [if_neg q, if_pos (by omega)]
      rw [this, sm_const, Nat.one_mul]
  rw [h3, sm_const]

theorem reciprocity {m n : Nat} (om : m % 2 = 1) (o : n % 2 = 1) (c : Nat.Coprime m n) : (mu m n + mu n m) % 2 = (m / 2) * (n / 2) % 2 := by
  rw [← lattice om o c]
  have h1 := eisenstein om o c
  have h2 := eisenstein o om c.symm
  omega

end Go.Proofs.Ytkgejfokdmdikaa.Nt
