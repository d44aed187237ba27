/- Derived.Test.YtkgejfokdmdikaaPureModularKroneckers Number theory for the symbols: the half system's symbol of a modulo an odd n (Gauss's lemma taken as its definition), that it is multiplicative, its values at 2 and -1, reciprocity (Eisenstein's lattice), and that at a prime it is the power to (p - 1)/2. Plain Lean, no program. The symbol of an odd number, with its laws; Euler's criterion at a prime; a number whose symbol is -1. Plain Lean, no program. The program's Kronecker symbol is the symbol: of any two numbers of 64 bits. -/
import Derived.Test.YtkgejfokdmdikaaQb
import Derived.Laws.Bits64
section
namespace Go.Proofs.Ytkgejfokdmdikaa.Pure
open Go Go.RowKit Go.Proofs.YtkgejfokdmdikaaW.PrintWords PModularKroneckers
set_option maxRecDepth 10000
abbrev Evl {α : Type} (g : Nat → Option α) (r : α) : Prop := Go.Proofs.YtkgejfokdmdikaaW.PrintWords.Ev g r
theorem evl_step {α : Type} {g f : Nat → Option α} {r : α} (h : ∀ k, g (k + 1) = f k) (k : Evl f r) : Evl g r :=
  Go.Proofs.YtkgejfokdmdikaaW.PrintWords.Ev.step h k
theorem evl_congr {α : Type} {g f : Nat → Option α} {r : α} (h : ∀ k, g k = f k) (k : Evl f r) : Evl g r :=
  Go.Proofs.YtkgejfokdmdikaaW.PrintWords.Ev.congr h k
theorem evl_now {α : Type} (r : α) : Evl (fun _ => some r) r := ⟨0, fun _ _ => rfl⟩
theorem and1 (x : Int) (h0 : 0 ≤ x) (h1 : x < 18446744073709551616) : Go.bits .and .u64 x 1 = x % 2 := by
  obtain ⟨n, rfl⟩ := Int.eq_ofNat_of_zero_le h0
  have h := bits_and_u64_nat n 1 (by omega) (by omega)
  rw [show n &&& 1 = n % 2 from Nat.and_two_pow_sub_one_eq_mod n 1] at h
  rw [show ((1 : Nat) : Int) = 1 from rfl] at h
  rw [h]; omega
theorem and3 (x : Int) (h0 : 0 ≤ x) (h1 : x < 18446744073709551616) : Go.bits .and .u64 x 3 = x % 4 := by
  obtain ⟨n, rfl⟩ := Int.eq_ofNat_of_zero_le h0
  have h := bits_and_u64_nat n 3 (by omega) (by omega)
  rw [show n &&& 3 = n % 4 from Nat.and_two_pow_sub_one_eq_mod n 2] at h
  rw [show ((3 : Nat) : Int) = 3 from rfl] at h
  rw [h]; omega
theorem and7 (x : Int) (h0 : 0 ≤ x) (h1 : x < 18446744073709551616) : Go.bits .and .u64 x 7 = x % 8 := by
  obtain ⟨n, rfl⟩ := Int.eq_ofNat_of_zero_le h0
  have h := bits_and_u64_nat n 7 (by omega) (by omega)
  rw [show n &&& 7 = n % 8 from Nat.and_two_pow_sub_one_eq_mod n 3] at h
  rw [show ((7 : Nat) : Int) = 7 from rfl] at h
  rw [h]; omega
theorem w64_id (x : Int) (h0 : -4 ≤ x) (h1 : x ≤ 4) : wrap64 x = x := by unfold wrap64; omega
theorem u64_id (x : Int) (h0 : 0 ≤ x) (h1 : x < 18446744073709551616) : IntKind.u64.wrap x = x := by
  rw [IntKind.wrap_u64]; omega
theorem tm (x m : Int) (h0 : 0 ≤ x) : Int.tmod x m = x % m := Int.tmod_eq_emod_of_nonneg h0
theorem td (x m : Int) (h0 : 0 ≤ x) : Int.tdiv x m = x / m := Int.tdiv_eq_ediv_of_nonneg h0
theorem two_eq (x : Int) (h0 : 0 ≤ x) (h1 : x < 18446744073709551616) :
    modular_two.f x = some (if x % 8 = 1 ∨ x % 8 = 7 then 1 else if x % 8 = 3 ∨ x % 8 = 5 then -1 else 0) := by
  unfold modular_two.f
  rw [and7 x h0 h1]
  have : x % 8 = 0 ∨ x % 8 = 1 ∨ x % 8 = 2 ∨ x % 8 = 3 ∨ x % 8 = 4 ∨ x % 8 = 5 ∨ x % 8 = 6 ∨ x % 8 = 7 := by omega
  rcases this with h | h | h | h | h | h | h | h <;> rw [h] <;> rfl
def Sg (s : Int) : Prop := s = 1 ∨ s = -1
theorem Sg.mul {s t : Int} (h : Sg s) (k : Sg t) : Sg (s * t) := by
  rcases h with rfl | rfl <;> rcases k with rfl | rfl <;> simp [Sg]
theorem Sg.w {s : Int} (h : Sg s) : wrap64 s = s := by rcases h with rfl | rfl <;> exact w64_id _ (by omega) (by omega)
theorem Sg.wn {s : Int} (h : Sg s) : wrap64 (-s) = -1 * s := by
  rcases h with rfl | rfl <;> rw [w64_id _ (by omega) (by omega)] <;> omega
def Good (g h : Int → Nat → Option Int) : Prop :=
  ∃ r : Int, (r = 0 ∨ r = 1 ∨ r = -1) ∧ ∀ s, Sg s → Evl (g s) (s * r) ∧ Evl (h s) (s * r)
theorem Good.step {g h g' h' : Int → Nat → Option Int} (e : Int) (he : Sg e) (G : Good g h)
    (hg : ∀ s, Sg s → ∀ k, g' s (k + 1) = g (e * s) k) (hh : ∀ s, Sg s → ∀ k, h' s (k + 1) = h (e * s) k) : Good g' h' := by
  obtain ⟨r, hr, G⟩ := G
  refine ⟨e * r, ?_, fun s hs => ?_⟩
  · rcases he with rfl | rfl <;> omega
  · have q : s * (e * r) = (e * s) * r := by rw [← Int.mul_assoc, Int.mul_comm s e]
    rw [q]
    exact ⟨evl_step (hg s hs) (G _ (he.mul hs)).1, evl_step (hh s hs) (G _ (he.mul hs)).2⟩
theorem Good.step1 {g h g' h' : Int → Nat → Option Int} (G : Good g h)
    (hg : ∀ s, Sg s → ∀ k, g' s (k + 1) = g s k) (hh : ∀ s, Sg s → ∀ k, h' s (k + 1) = h s k) : Good g' h' :=
  Good.step 1 (.inl rfl) G (fun s hs k => by rw [Int.one_mul]; exact hg s hs k) (fun s hs k => by rw [Int.one_mul]; exact hh s hs k)
def gl1 (m b : Int) : Int → Nat → Option Int := fun s k => modular_Kronecker.l1 k s m b
def gl2 (m b : Int) : Int → Nat → Option Int := fun s k => modular_Kronecker.l2 k s m b
def hl0 (m b : Int) : Int → Nat → Option Int := fun s k => parquetref04_jacobi.l0 k m b s
def hl1 (m b : Int) : Int → Nat → Option Int := fun s k => parquetref04_jacobi.l1 k m b s
theorem inner (n : Nat) (IH : ∀ m b : Int, 0 < m → m % 2 = 1 → m < 18446744073709551616 → 0 ≤ b → b ≤ n → b < 18446744073709551616 → Good (gl1 m b) (hl0 m b)) :
    ∀ q : Nat, ∀ m c : Int, 0 < m → m % 2 = 1 → m < 18446744073709551616 → 0 < c → c ≤ q → c ≤ n + 1 → c < 18446744073709551616 → Good (gl2 m c) (hl1 m c) := by
  intro q
  induction q with
  | zero => intro m c _ _ _ h1 h2; omega
  | succ q ih =>
    intro m c m0 m1 m2 c0 cq cn c2
    by_cases ev : c % 2 = 0
    · have G := ih m (c / 2) m0 m1 m2 (by omega) (by omega) (by omega) (by omega)
      have hu : IntKind.u64.wrap (Int.tdiv c 2) = c / 2 := by rw [td c 2 (by omega), u64_id _ (by omega) (by omega)]
      by_cases t : m % 8 = 3 ∨ m % 8 = 5
      · refine G.step (-1) (.inr rfl) (fun s hs k => ?_) (fun s hs k => ?_)
        · show modular_Kronecker.l2 (k + 1) s m c = modular_Kronecker.l2 k (-1 * s) m (c / 2)
          rw [modular_Kronecker.l2, and1 c (by omega) c2, if_pos ev, two_eq m (by omega) m2,
            if_neg (by omega), if_pos t, Option.bind_some,
            show s * -1 = -s by omega, hs.wn]
        · show parquetref04_jacobi.l1 (k + 1) m c s = parquetref04_jacobi.l1 k m (c / 2) (-1 * s)
          rw [parquetref04_jacobi.l1, tm c 2 (by omega), if_pos ev, tm m 8 (by omega), hu, hs.wn]
          rcases t with t | t
          · rw [if_pos t]
          · rw [if_neg (by omega), if_pos t]
      · refine G.step1 (fun s hs k => ?_) (fun s hs k => ?_)
        · show modular_Kronecker.l2 (k + 1) s m c = modular_Kronecker.l2 k s m (c / 2)
          rw [modular_Kronecker.l2, and1 c (by omega) c2, if_pos ev, two_eq m (by omega) m2,
            if_pos (by omega), Option.bind_some, Int.mul_one, hs.w]
        · show parquetref04_jacobi.l1 (k + 1) m c s = parquetref04_jacobi.l1 k m (c / 2) s
          rw [parquetref04_jacobi.l1, tm c 2 (by omega), if_pos ev, tm m 8 (by omega), hu]
          rw [if_neg (by omega), if_neg (by omega)]
    · have b0 := Int.emod_nonneg m (b := c) (by omega)
      have b1 := Int.emod_lt_of_pos m c0
      have G := IH c (m % c) c0 (by omega) c2 b0 (by omega) (by omega)
      by_cases t : c % 4 = 3 ∧ m % 4 = 3
      · refine G.step (-1) (.inr rfl) (fun s hs k => ?_) (fun s hs k => ?_)
        · show modular_Kronecker.l2 (k + 1) s m c = modular_Kronecker.l1 k (-1 * s) c (m % c)
          rw [modular_Kronecker.l2, and1 c (by omega) c2, if_neg ev, and3 c (by omega) c2, if_pos t.1, and3 m (by omega) m2, if_pos t.2,
            if_neg (by omega), hs.wn, tm m c (by omega)]
        · show parquetref04_jacobi.l1 (k + 1) m c s = parquetref04_jacobi.l0 k c (m % c) (-1 * s)
          rw [parquetref04_jacobi.l1, tm c 2 (by omega), if_neg ev, tm c 4 (by omega), if_pos t.1, tm m 4 (by omega), if_pos t.2,
            if_neg (by omega), hs.wn, tm m c (by omega)]
      · refine G.step1 (fun s hs k => ?_) (fun s hs k => ?_)
        · show modular_Kronecker.l2 (k + 1) s m c = modular_Kronecker.l1 k s c (m % c)
          rw [modular_Kronecker.l2, and1 c (by omega) c2, if_neg ev, and3 c (by omega) c2, and3 m (by omega) m2, tm m c (by omega)]
          by_cases t1 : c % 4 = 3
          · rw [if_pos t1, if_neg (by omega), if_neg (by omega)]
          · rw [if_neg t1, if_neg (by omega)]
        · show parquetref04_jacobi.l1 (k + 1) m c s = parquetref04_jacobi.l0 k c (m % c) s
          rw [parquetref04_jacobi.l1, tm c 2 (by omega), if_neg ev, tm c 4 (by omega), tm m 4 (by omega), tm m c (by omega)]
          by_cases t1 : c % 4 = 3
          · rw [if_pos t1, if_neg (by omega), if_neg (by omega)]
          · rw [if_neg t1, if_neg (by omega)]
theorem base (m : Int) : Good (gl1 m 0) (hl0 m 0) := by
  refine ⟨if m = 1 then 1 else 0, ?_, fun s hs => ⟨evl_step (f := fun _ => some (s * (if m = 1 then 1 else 0))) (fun k => ?_) (evl_now _),
    evl_step (f := fun _ => some (s * (if m = 1 then 1 else 0))) (fun k => ?_) (evl_now _)⟩⟩
  · by_cases h : m = 1 <;> simp [h]
  · show modular_Kronecker.l1 (k + 1) s m 0 = _
    rw [modular_Kronecker.l1, if_pos rfl]
    by_cases h : m = 1
    · rw [if_pos h, if_pos h, Int.mul_one]
    · rw [if_neg h, if_neg h, Int.mul_zero]
  · show parquetref04_jacobi.l0 (k + 1) m 0 s = _
    rw [parquetref04_jacobi.l0, if_neg (by omega)]
    by_cases h : m = 1
    · rw [if_pos h, if_pos h, Int.mul_one]
    · rw [if_neg h, if_neg h, Int.mul_zero]
theorem outer : ∀ n : Nat, ∀ m b : Int, 0 < m → m % 2 = 1 → m < 18446744073709551616 → 0 ≤ b → b ≤ n → b < 18446744073709551616 → Good (gl1 m b) (hl0 m b) := by
  intro n
  induction n with
  | zero =>
    intro m b m0 m1 m2 b0 bn b2
    obtain rfl : b = 0 := by omega
    exact base m
  | succ n ih =>
    intro m b m0 m1 m2 b0 bn b2
    by_cases z : b = 0
    · subst z; exact base m
    · have G := inner n ih (n + 1) m b m0 m1 m2 (by omega) (by omega) (by omega) b2
      refine G.step1 (fun s hs k => ?_) (fun s hs k => ?_)
      · show modular_Kronecker.l1 (k + 1) s m b = modular_Kronecker.l2 k s m b
        rw [modular_Kronecker.l1, if_neg z]
      · show parquetref04_jacobi.l0 (k + 1) m b s = parquetref04_jacobi.l1 k m b s
        rw [parquetref04_jacobi.l0, if_pos (by omega)]
theorem jac (m b : Int) (m0 : 0 < m) (m1 : m % 2 = 1) (m2 : m < 18446744073709551616) (b0 : 0 ≤ b) (b2 : b < 18446744073709551616) : Good (gl1 m b) (hl0 m b) :=
  outer b.toNat m b m0 m1 m2 b0 (by omega) b2
def gk (a n : Int) : Int → Nat → Option Int := fun s k => modular_Kronecker.l0 k a s n
def hk (a n : Int) : Int → Nat → Option Int := fun s k => parquetref04_Kronecker.l0 k a s n
def resid (a n : Int) : Int :=
  if a < 0 then Int.tmod (IntKind.u64.wrap (n - (Int.tmod (IntKind.u64.wrap (-(IntKind.u64.wrap a))) n))) n else Int.tmod (IntKind.u64.wrap a) n
theorem u64_ge (x : Int) : 0 ≤ IntKind.u64.wrap x ∧ IntKind.u64.wrap x < 18446744073709551616 := by
  rw [IntKind.wrap_u64]; omega
theorem resid_range (a n : Int) (n0 : 0 < n) : 0 ≤ resid a n ∧ resid a n < n := by
  unfold resid
  split
  · rw [tm _ n (u64_ge _).1]; exact ⟨Int.emod_nonneg _ (by omega), Int.emod_lt_of_pos _ n0⟩
  · rw [tm _ n (u64_ge _).1]; exact ⟨Int.emod_nonneg _ (by omega), Int.emod_lt_of_pos _ n0⟩
theorem jacobi_rounds (a n : Int) (n0 : 0 < n) (k : Nat) : parquetref04_jacobi.f (k + 1) a n = parquetref04_jacobi.l0 k n (resid a n) 1 := by
  unfold parquetref04_jacobi.f resid
  rw [if_neg (by omega)]
  by_cases h : a < 0
  · rw [if_pos h, if_pos h, parquetref04_jacobi.j0]
  · rw [if_neg h, if_neg h, parquetref04_jacobi.j0]
theorem odd_n (a n : Int) (n0 : 0 < n) (n1 : n % 2 = 1) (n2 : n < 18446744073709551616) : Good (gk a n) (hk a n) := by
  obtain ⟨r0, r1⟩ := resid_range a n n0
  obtain ⟨r, hr, G⟩ := jac n (resid a n) n0 n1 n2 r0 (by omega)
  refine ⟨r, hr, fun s hs => ⟨?_, ?_⟩⟩
  · refine evl_step (f := fun k => modular_Kronecker.j2 k s n (resid a n)) (fun k => ?_) (evl_step (f := gl1 n (resid a n) s) (fun k => ?_) (G s hs).1)
    · show modular_Kronecker.l0 (k + 1) a s n = _
      rw [modular_Kronecker.l0, and1 n (by omega) n2, if_neg (by omega), if_neg (by rcases hs with h | h <;> omega), if_neg (by omega)]
      unfold resid
      by_cases h : a < 0
      · rw [if_pos h, if_pos h]
      · rw [if_neg h, if_neg h]
    · show modular_Kronecker.j2 (k + 1) s n (resid a n) = modular_Kronecker.l1 k s n (resid a n)
      rw [modular_Kronecker.j2]
  · refine evl_step (f := fun k => (parquetref04_jacobi.f k a n).bind fun t103 => some (wrap64 (s * t103))) (fun k => ?_) ?_
    · show parquetref04_Kronecker.l0 (k + 1) a s n = _
      rw [parquetref04_Kronecker.l0, tm n 2 (by omega), if_neg (by omega)]
    · have e : Evl (fun k => parquetref04_jacobi.f k a n) (1 * r) := evl_step (f := hl0 n (resid a n) 1) (fun k => jacobi_rounds a n n0 k) (G 1 (.inl rfl)).2
      refine Go.Proofs.YtkgejfokdmdikaaW.PrintWords.Ev.bind e ?_
      have w : wrap64 (s * (1 * r)) = s * r := by
        rw [Int.one_mul]
        rcases hs with rfl | rfl <;> rcases hr with rfl | rfl | rfl <;> exact w64_id _ (by omega) (by omega)
      show Evl (fun _ => some (wrap64 (s * (1 * r)))) (s * r)
      rw [w]; exact evl_now _
theorem mod8 (a : Int) : parquetref04_Mod.f a 8 = some (a % 8) := by
  unfold parquetref04_Mod.f
  rw [if_neg (by omega)]
  have h := Int.tmod_eq_emod (a := a) (b := 8)
  by_cases p : 0 ≤ a
  · rw [tm a 8 p, if_neg (by omega)]
  · by_cases d : a % 8 = 0
    · have : Int.tmod a 8 = 0 := by
        have := Int.tmod_eq_zero_of_dvd (Int.dvd_of_emod_eq_zero d); exact this
      rw [this, if_neg (by omega), d]
    · have h : Int.tmod a 8 = a % 8 - 8 := by
        rw [h, if_neg]
        · rfl
        · rintro (h | h)
          · exact p h
          · exact d (Int.emod_eq_zero_of_dvd h)
      rw [h, if_pos (by omega)]
      congr 1
      unfold wrap64; omega
theorem odd_a (a : Int) (a1 : a % 2 = 1) : ∀ q : Nat, ∀ n : Int, 0 < n → n ≤ q → n < 18446744073709551616 → Good (gk a n) (hk a n) := by
  intro q
  induction q with
  | zero => intro n h0 h1; omega
  | succ q ih =>
    intro n n0 nq n2
    by_cases ev : n % 2 = 0
    · have G := ih (n / 2) (by omega) (by omega) (by omega)
      have hu : IntKind.u64.wrap (Int.tdiv n 2) = n / 2 := by rw [td n 2 (by omega), u64_id _ (by omega) (by omega)]
      have w8 : IntKind.u64.wrap a % 8 = a % 8 := by rw [IntKind.wrap_u64]; omega
      by_cases t : a % 8 = 3 ∨ a % 8 = 5
      · refine G.step (-1) (.inr rfl) (fun s hs k => ?_) (fun s hs k => ?_)
        · show modular_Kronecker.l0 (k + 1) a s n = modular_Kronecker.l0 k a (-1 * s) (n / 2)
          rw [modular_Kronecker.l0, and1 n (by omega) n2, if_pos ev, two_eq _ (u64_ge _).1 (u64_ge _).2, w8,
            if_neg (by omega), if_pos t, Option.bind_some, show s * -1 = -s by omega, hs.wn]
        · show parquetref04_Kronecker.l0 (k + 1) a s n = parquetref04_Kronecker.l0 k a (-1 * s) (n / 2)
          rw [parquetref04_Kronecker.l0, tm n 2 (by omega), if_pos ev, mod8, Option.bind_some, tm (a % 8) 2 (by omega), if_neg (by omega), hu, hs.wn]
          rcases t with t | t
          · rw [if_pos t]
          · rw [if_neg (by omega), if_pos t]
      · refine G.step1 (fun s hs k => ?_) (fun s hs k => ?_)
        · show modular_Kronecker.l0 (k + 1) a s n = modular_Kronecker.l0 k a s (n / 2)
          rw [modular_Kronecker.l0, and1 n (by omega) n2, if_pos ev, two_eq _ (u64_ge _).1 (u64_ge _).2, w8,
            if_pos (by omega), Option.bind_some, Int.mul_one, hs.w]
        · show parquetref04_Kronecker.l0 (k + 1) a s n = parquetref04_Kronecker.l0 k a s (n / 2)
          rw [parquetref04_Kronecker.l0, tm n 2 (by omega), if_pos ev, mod8, Option.bind_some, tm (a % 8) 2 (by omega), if_neg (by omega), hu,
            if_neg (by omega), if_neg (by omega)]
    · exact odd_n a n n0 (by omega) n2
theorem zero_s (a : Int) : ∀ q : Nat, ∀ n : Int, 0 < n → n ≤ q → n < 18446744073709551616 → Evl (gk a n 0) 0 := by
  intro q
  induction q with
  | zero => intro n h0 h1; omega
  | succ q ih =>
    intro n n0 nq n2
    by_cases ev : n % 2 = 0
    · refine evl_step (f := gk a (n / 2) 0) (fun k => ?_) (ih (n / 2) (by omega) (by omega) (by omega))
      show modular_Kronecker.l0 (k + 1) a 0 n = modular_Kronecker.l0 k a 0 (n / 2)
      rw [modular_Kronecker.l0, and1 n (by omega) n2, if_pos ev, two_eq _ (u64_ge _).1 (u64_ge _).2, Option.bind_some, Int.zero_mul, w64_id 0 (by omega) (by omega)]
    · refine evl_step (f := fun _ => some 0) (fun k => ?_) (evl_now _)
      show modular_Kronecker.l0 (k + 1) a 0 n = some 0
      rw [modular_Kronecker.l0, and1 n (by omega) n2, if_neg ev, if_pos rfl]
theorem all_n (a n : Int) (n0 : 0 < n) (n2 : n < 18446744073709551616) : Good (gk a n) (hk a n) := by
  by_cases a1 : a % 2 = 1
  · exact odd_a a a1 n.toNat n n0 (by omega) n2
  · by_cases n1 : n % 2 = 1
    · exact odd_n a n n0 n1 n2
    · have w8 : IntKind.u64.wrap a % 8 = a % 8 := by rw [IntKind.wrap_u64]; omega
      refine ⟨0, .inl rfl, fun s hs => ⟨?_, ?_⟩⟩
      · rw [Int.mul_zero]
        refine evl_step (f := gk a (n / 2) 0) (fun k => ?_) (zero_s a (n / 2).toNat (n / 2) (by omega) (by omega) (by omega))
        show modular_Kronecker.l0 (k + 1) a s n = modular_Kronecker.l0 k a 0 (n / 2)
        rw [modular_Kronecker.l0, and1 n (by omega) n2, if_pos (by omega), two_eq _ (u64_ge _).1 (u64_ge _).2, w8,
            if_neg (by omega), if_neg (by omega), Option.bind_some, Int.mul_zero, w64_id 0 (by omega) (by omega)]
      · rw [Int.mul_zero]
        refine evl_step (f := fun _ => some 0) (fun k => ?_) (evl_now _)
        show parquetref04_Kronecker.l0 (k + 1) a s n = some 0
        rw [parquetref04_Kronecker.l0, tm n 2 (by omega), if_pos (by omega), mod8, Option.bind_some, tm (a % 8) 2 (by omega), if_pos (by omega)]
theorem same (a b : Int) (b0 : -9223372036854775808 ≤ b) (b1 : b ≤ 9223372036854775807) :
    ∃ r, Evl (fun k => modular_Kronecker.f k a b) r ∧ Evl (fun k => parquetref04_Kronecker.f k a b) r := by
  by_cases z : b = 0
  · refine ⟨if a = 1 then 1 else if a = -1 then 1 else 0, ?_, ?_⟩
    · refine evl_congr (f := fun _ => some (if a = 1 then 1 else if a = -1 then 1 else 0)) (fun k => ?_) (evl_now _)
      unfold modular_Kronecker.f
      rw [if_pos z]
      by_cases h : a = 1
      · rw [if_pos h, if_pos h]
      · rw [if_neg h, if_neg h]; by_cases h' : a = -1
        · rw [if_pos h', if_pos h']
        · rw [if_neg h', if_neg h']
    · refine evl_congr (f := fun _ => some (if a = 1 then 1 else if a = -1 then 1 else 0)) (fun k => ?_) (evl_now _)
      unfold parquetref04_Kronecker.f
      rw [if_pos z]
      by_cases h : a = 1
      · rw [if_pos h, if_pos h]
      · rw [if_neg h, if_neg h]; by_cases h' : a = -1
        · rw [if_pos h', if_pos h']
        · rw [if_neg h', if_neg h']
  · by_cases neg : b < 0
    · have hb : IntKind.u64.wrap (-(IntKind.u64.wrap b)) = -b := by rw [IntKind.wrap_u64, IntKind.wrap_u64]; omega
      obtain ⟨r, hr, G⟩ := all_n a (-b) (by omega) (by omega)
      by_cases na : a < 0
      · obtain ⟨g, h⟩ := G (-1) (.inr rfl)
        refine ⟨-1 * r, ?_, ?_⟩
        · refine evl_congr (f := fun k => modular_Kronecker.j0 k a (-1) (-b)) (fun k => ?_) (evl_step (f := gk a (-b) (-1)) (fun k => ?_) g)
          · show modular_Kronecker.f k a b = _
            rw [modular_Kronecker.f, if_neg z, if_pos neg, if_pos na, hb]
          · show modular_Kronecker.j0 (k + 1) a (-1) (-b) = modular_Kronecker.l0 k a (-1) (-b)
            rw [modular_Kronecker.j0]
        · refine evl_congr (f := fun k => parquetref04_Kronecker.j0 k a b 1 true) (fun k => ?_) (evl_step (f := fun k => parquetref04_Kronecker.j1 k a b (-1)) (fun k => ?_)
            (evl_step (f := fun k => parquetref04_Kronecker.j2 k a (-1) (-b)) (fun k => ?_) (evl_step (f := hk a (-b) (-1)) (fun k => ?_) h)))
          · show parquetref04_Kronecker.f k a b = _
            rw [parquetref04_Kronecker.f, if_neg z, if_pos neg, decide_eq_true na]
          · show parquetref04_Kronecker.j0 (k + 1) a b 1 true = _
            rw [parquetref04_Kronecker.j0, if_pos rfl]
          · show parquetref04_Kronecker.j1 (k + 1) a b (-1) = _
            rw [parquetref04_Kronecker.j1, if_pos neg, hb]
          · show parquetref04_Kronecker.j2 (k + 1) a (-1) (-b) = parquetref04_Kronecker.l0 k a (-1) (-b)
            rw [parquetref04_Kronecker.j2]
      · obtain ⟨g, h⟩ := G 1 (.inl rfl)
        refine ⟨1 * r, ?_, ?_⟩
        · refine evl_congr (f := fun k => modular_Kronecker.j0 k a 1 (-b)) (fun k => ?_) (evl_step (f := gk a (-b) 1) (fun k => ?_) g)
          · show modular_Kronecker.f k a b = _
            rw [modular_Kronecker.f, if_neg z, if_pos neg, if_neg na, hb]
          · show modular_Kronecker.j0 (k + 1) a 1 (-b) = modular_Kronecker.l0 k a 1 (-b)
            rw [modular_Kronecker.j0]
        · refine evl_congr (f := fun k => parquetref04_Kronecker.j0 k a b 1 false) (fun k => ?_) (evl_step (f := fun k => parquetref04_Kronecker.j1 k a b 1) (fun k => ?_)
            (evl_step (f := fun k => parquetref04_Kronecker.j2 k a 1 (-b)) (fun k => ?_) (evl_step (f := hk a (-b) 1) (fun k => ?_) h)))
          · show parquetref04_Kronecker.f k a b = _
            rw [parquetref04_Kronecker.f, if_neg z, if_pos neg, decide_eq_false na]
          · show parquetref04_Kronecker.j0 (k + 1) a b 1 false = _
            rw [parquetref04_Kronecker.j0, if_neg (by decide)]
          · show parquetref04_Kronecker.j1 (k + 1) a b 1 = _
            rw [parquetref04_Kronecker.j1, if_pos neg, hb]
          · show parquetref04_Kronecker.j2 (k + 1) a 1 (-b) = parquetref04_Kronecker.l0 k a 1 (-b)
            rw [parquetref04_Kronecker.j2]
    · have hb : IntKind.u64.wrap b = b := by rw [IntKind.wrap_u64]; omega
      obtain ⟨r, hr, G⟩ := all_n a b (by omega) (by omega)
      obtain ⟨g, h⟩ := G 1 (.inl rfl)
      refine ⟨1 * r, ?_, ?_⟩
      · refine evl_congr (f := fun k => modular_Kronecker.j0 k a 1 b) (fun k => ?_) (evl_step (f := gk a b 1) (fun k => ?_) g)
        · show modular_Kronecker.f k a b = _
          rw [modular_Kronecker.f, if_neg z, if_neg neg, hb]
        · show modular_Kronecker.j0 (k + 1) a 1 b = modular_Kronecker.l0 k a 1 b
          rw [modular_Kronecker.j0]
      · refine evl_congr (f := fun k => parquetref04_Kronecker.j0 k a b 1 false) (fun k => ?_) (evl_step (f := fun k => parquetref04_Kronecker.j1 k a b 1) (fun k => ?_)
          (evl_step (f := fun k => parquetref04_Kronecker.j2 k a 1 b) (fun k => ?_) (evl_step (f := hk a b 1) (fun k => ?_) h)))
        · show parquetref04_Kronecker.f k a b = _
          rw [parquetref04_Kronecker.f, if_neg z, if_neg neg]
        · show parquetref04_Kronecker.j0 (k + 1) a b 1 false = _
          rw [parquetref04_Kronecker.j0, if_neg (by decide)]
        · show parquetref04_Kronecker.j1 (k + 1) a b 1 = _
          rw [parquetref04_Kronecker.j1, if_neg neg, hb]
        · show parquetref04_Kronecker.j2 (k + 1) a 1 b = parquetref04_Kronecker.l0 k a 1 b
          rw [parquetref04_Kronecker.j2]
end Go.Proofs.Ytkgejfokdmdikaa.Pure
end
section
namespace Go.Proofs.Ytkgejfokdmdikaa.Nt
section fold
variable {α : Type} (op : α → α → α) (e : α)
def fd (f : Nat → α) : Nat → α
  | 0 => e
  | n + 1 => op (fd f n) (f n)
theorem fd_congr {f g : Nat → α} : ∀ n, (∀ i, i < n → f i = g i) → fd op e f n = fd op e g n
  | 0, _ => rfl
  | n + 1, h => by
    simp only [fd]
    rw [fd_congr n (fun i hi => h i (by omega)), h n (by omega)]
variable (ha : ∀ a b c, op (op a b) c = op a (op b c)) (hc : ∀ a b, op a b = op b a)
include ha hc
theorem op_right (a b c : α) : op (op a b) c = op (op a c) b := by rw [ha, hc b c, ← ha]
theorem fd_swap {f g : Nat → α} {x : Nat} : ∀ n, x < n → (∀ i, i < n → i ≠ x → f i = g i) → op (fd op e f n) (g x) = op (fd op e g n) (f x)
  | 0, h, _ => by omega
  | n + 1, h, k => by
    simp only [fd]
    by_cases q : x = n
    · subst q
      rw [fd_congr op e (f := f) (g := g) x (fun i hi => k i (by omega) (by omega))]
      exact op_right op ha hc _ _ _
    · rw [op_right op ha hc, fd_swap n (by omega) (fun i hi => k i (by omega)), op_right op ha hc, k n (by omega) (fun z => q z.symm)]
theorem fd_op {f g : Nat → α} (he : op e e = e) : ∀ n, fd op e (fun i => op (f i) (g i)) n = op (fd op e f n) (fd op e g n)
  | 0 => he.symm
  | n + 1 => by
    simp only [fd]
    rw [fd_op he n, ha, ha]
    congr 1
    rw [← ha, hc (fd op e g n), ha]
end fold
theorem php : ∀ (n : Nat) (s : Nat → Nat), (∀ i, i < n + 1 → s i < n) → (∀ i j, i < n + 1 → j < n + 1 → s i = s j → i = j) → False
  | 0, s, h, _ => by have := h 0 (by omega); omega
  | n + 1, s, h, k => by
    refine php n (fun i => if s i = n then s (n + 1) else s i) (fun i hi => ?_) (fun i j hi hj hij => ?_)
    · have h1 := h i (by omega)
      have h2 := h (n + 1) (by omega)
      by_cases q : s i = n
      · simp only [q, if_true]
        by_cases r : s (n + 1) = n
        · have := k i (n + 1) (by omega) (by omega) (by omega); omega
        · omega
      · simp only [q, if_false]; omega
    · by_cases q : s i = n
      · by_cases r : s j = n
        · exact k i j (by omega) (by omega) (by omega)
        · simp only [q, r, if_true, if_false] at hij
          have := k (n + 1) j (by omega) (by omega) hij; omega
      · by_cases r : s j = n
        · simp only [q, r, if_true, if_false] at hij
          have := k i (n + 1) (by omega) (by omega) hij; omega
        · simp only [q, r, if_false] at hij
          exact k i j (by omega) (by omega) hij
theorem fd_perm {α : Type} (op : α → α → α) (e : α) (ha : ∀ a b c, op (op a b) c = op a (op b c)) (hc : ∀ a b, op a b = op b a) (f : Nat → α) :
    ∀ (n : Nat) (s : Nat → Nat), (∀ i, i < n → s i < n) → (∀ i j, i < n → j < n → s i = s j → i = j) → fd op e (fun i => f (s i)) n = fd op e f n
  | 0, _, _, _ => rfl
  | n + 1, s, h, k => by
    by_cases q : s n = n
    · simp only [fd]
      rw [fd_perm op e ha hc f n s (fun i hi => ?_) (fun i j hi hj => k i j (by omega) (by omega)), q]
      have h1 := h i (by omega)
      by_cases r : s i = n
      · have := k i n (by omega) (by omega) (by omega); omega
      · omega
    · by_cases x : ∃ x, x < n + 1 ∧ s x = n
      · obtain ⟨x, hx, sx⟩ := x
        have xn : x ≠ n := fun z => q (z ▸ sx)
        have hn := h n (by omega)
        have ih := fd_perm op e ha hc f n (fun i => if i = x then s n else s i) (fun i hi => ?_) (fun i j hi hj hij => ?_)
        · simp only [fd]
          have sw := fd_swap op e ha hc (f := fun i => f (s i)) (g := fun i => f (if i = x then s n else s i)) (x := x) n (by omega) (fun i hi z => by simp only [if_neg z])
          simp only [if_true] at sw
          rw [sw, ih, sx]
        · have h1 := h i (by omega)
          by_cases r : i = x
          · simp only [r, if_true]; omega
          · simp only [r, if_false]
            by_cases t : s i = n
            · have := k i x (by omega) (by omega) (by omega); omega
            · omega
        · by_cases r : i = x
          · by_cases t : j = x
            · omega
            · simp only [r, t, if_true, if_false] at hij
              have := k n j (by omega) (by omega) hij; omega
          · by_cases t : j = x
            · simp only [r, t, if_true, if_false] at hij
              have := k i n (by omega) (by omega) hij; omega
            · simp only [r, t, if_false] at hij
              exact k i j (by omega) (by omega) hij
      · refine (php n s (fun i hi => ?_) k).elim
        have h1 := h i hi
        by_cases t : s i = n
        · exact (x ⟨i, hi, t⟩).elim
        · omega
abbrev sm (f : Nat → Nat) (n : Nat) : Nat := fd (· + ·) 0 f n
theorem sm_succ (f : Nat → Nat) (n : Nat) : sm f (n + 1) = sm f n + f n := rfl
theorem sm_congr {f g : Nat → Nat} (n : Nat) (h : ∀ i, i < n → f i = g i) : sm f n = sm g n := fd_congr _ _ n h
theorem sm_mod2 {f g : Nat → Nat} : ∀ n, (∀ i, i < n → f i % 2 = g i % 2) → sm f n % 2 = sm g n % 2
  | 0, _ => rfl
  | n + 1, h => by
    have h1 := sm_mod2 n (fun i hi => h i (by omega))
    have h2 := h n (by omega)
    rw [sm_succ, sm_succ]; omega
theorem sm_add (f g : Nat → Nat) (n : Nat) : sm (fun i => f i + g i) n = sm f n + sm g n :=
  fd_op (· + ·) 0 (fun a b c => by omega) (fun a b => by omega) rfl n
theorem sm_const (c : Nat) : ∀ n, sm (fun _ => c) n = c * n
  | 0 => rfl
  | n + 1 => by rw [sm_succ, sm_const c n, Nat.mul_add, Nat.mul_one]
theorem sm_perm (f : Nat → Nat) (n : Nat) (s : Nat → Nat) (h : ∀ i, i < n → s i < n) (k : ∀ i j, i < n → j < n → s i = s j → i = j) : sm (fun i => f (s i)) n = sm f n :=
  fd_perm (· + ·) 0 (fun a b c => by omega) (fun a b => by omega) f n s h k
theorem sm_zero : ∀ n, sm (fun _ => 0) n = 0
  | 0 => rfl
  | n + 1 => by rw [sm_succ, sm_zero n]
theorem sm_comm (f : Nat → Nat → Nat) (b : Nat) : ∀ a, sm (fun x => sm (fun y => f x y) b) a = sm (fun y => sm (fun x => f x y) a) b
  | 0 => by show 0 = sm (fun y => 0) b; rw [sm_zero]
  | a + 1 => by
    rw [sm_succ, sm_comm f b a, ← sm_add]
    exact sm_congr b fun i _ => rfl
theorem sm_count (n N : Nat) (hn : 0 < n) : ∀ k, k ≤ N / n → sm (fun i => if n * (i + 1) ≤ N then 1 else 0) k = k
  | 0, _ => rfl
  | k + 1, h => by
    rw [sm_succ, sm_count n N hn k (by omega), if_pos]
    have := (Nat.le_div_iff_mul_le hn).1 h
    rw [Nat.mul_comm]; exact this
theorem sm_count_all (n N : Nat) (hn : 0 < n) : ∀ k, N / n ≤ k → sm (fun i => if n * (i + 1) ≤ N then 1 else 0) k = N / n := by
  intro k hk
  obtain ⟨j, rfl⟩ := Nat.exists_eq_add_of_le hk
  induction j with
  | zero => exact sm_count n N hn _ (Nat.le_refl _)
  | succ j ih =>
    rw [← Nat.add_assoc, sm_succ, ih (by omega), if_neg]
    · rfl
    · intro h
      have := (Nat.le_div_iff_mul_le hn (x := N / n + j + 1)).2 (by rw [Nat.mul_comm]; exact h)
      omega
def ng (a n x : Nat) : Nat := if (a * x) % n ≤ n / 2 then 0 else 1
def av (a n x : Nat) : Nat := if (a * x) % n ≤ n / 2 then (a * x) % n else n - (a * x) % n
def mu (a n : Nat) : Nat := sm (fun i => ng a n (i + 1)) (n / 2)
theorem not_dvd_half {a n x : Nat} (c : Nat.Coprime a n) (h0 : 0 < x) (h1 : x < n) : a * x % n ≠ 0 := fun h => by
  have := Nat.Coprime.dvd_of_dvd_mul_left c.symm (Nat.dvd_of_mod_eq_zero h)
  have := Nat.le_of_dvd h0 this
  omega
theorem av_range {a n x : Nat} (o : n % 2 = 1) (c : Nat.Coprime a n) (h0 : 0 < x) (h1 : x ≤ n / 2) : 0 < av a n x ∧ av a n x ≤ n / 2 := by
  have h := not_dvd_half c h0 (show x < n by omega)
  have l := Nat.mod_lt (a * x) (show 0 < n by omega)
  unfold av
  split <;> omega
theorem av_inj_lt {a n x y : Nat} (c : Nat.Coprime a n) (h0 : 0 < x) (h1 : x < y) (h2 : y ≤ n / 2) : av a n x ≠ av a n y := by
  intro h
  have l1 := Nat.mod_lt (a * x) (show 0 < n by omega)
  have l2 := Nat.mod_lt (a * y) (show 0 < n by omega)
  have key : a * x % n = a * y % n ∨ a * x % n + a * y % n = n := by
    unfold av at h
    split at h <;> split at h <;> omega
  rcases key with k | k
  · have d : (a * y - a * x) % n = 0 := Nat.sub_mod_eq_zero_of_mod_eq k.symm
    rw [← Nat.mul_sub] at d
    exact not_dvd_half c (show 0 < y - x by omega) (by omega) d
  · have d : (a * (x + y)) % n = 0 := by
      rw [Nat.mul_add, Nat.add_mod, k, Nat.mod_self]
    exact not_dvd_half c (show 0 < x + y by omega) (by omega) d
theorem av_inj {a n x y : Nat} (c : Nat.Coprime a n) (x0 : 0 < x) (x1 : x ≤ n / 2) (y0 : 0 < y) (y1 : y ≤ n / 2) (h : av a n x = av a n y) : x = y := by
  by_cases l : x < y
  · exact (av_inj_lt c x0 l y1 h).elim
  · by_cases m : y < x
    · exact (av_inj_lt c y0 m x1 h.symm).elim
    · omega
theorem sm_av {a n : Nat} (o : n % 2 = 1) (c : Nat.Coprime a n) (f : Nat → Nat) : sm (fun i => f (av a n (i + 1))) (n / 2) = sm (fun i => f (i + 1)) (n / 2) := by
  have h := sm_perm (fun i => f (i + 1)) (n / 2) (fun i => av a n (i + 1) - 1)
    (fun i hi => by have := av_range o c (x := i + 1) (by omega) (by omega); omega)
    (fun i j hi hj hij => by
      have h1 := av_range o c (x := i + 1) (by omega) (by omega)
      have h2 := av_range o c (x := j + 1) (by omega) (by omega)
      have := av_inj c (x := i + 1) (y := j + 1) (by omega) (by omega) (by omega) (by omega) (by omega)
      omega)
  rw [← h]
  refine sm_congr _ fun i hi => ?_
  have h1 := av_range o c (x := i + 1) (by omega) (by omega)
  congr 1; omega
theorem mu_mul {a b n : Nat} (o : n % 2 = 1) (ca : Nat.Coprime a n) (cb : Nat.Coprime b n) : mu (a * b) n % 2 = (mu a n + mu b n) % 2 := by
  have h : mu (a * b) n % 2 = sm (fun i => ng a n (av b n (i + 1)) + ng b n (i + 1)) (n / 2) % 2 := by
    refine sm_mod2 _ fun i hi => ?_
    have hb := not_dvd_half cb (show 0 < i + 1 by omega) (show i + 1 < n by omega)
    have lb := Nat.mod_lt (b * (i + 1)) (show 0 < n by omega)
    have e : a * b * (i + 1) % n = a * (b * (i + 1) % n) % n := by rw [Nat.mul_assoc, Nat.mul_mod, Nat.mul_mod a (b * (i + 1) % n), Nat.mod_mod]
    unfold ng av
    rw [e]
    generalize b * (i + 1) % n = r at *
    by_cases q : r ≤ n / 2
    · rw [if_pos q, if_pos q]; rfl
    · rw [if_neg q, if_neg q]
      have hr := not_dvd_half ca (show 0 < r by omega) lb
      have lr := Nat.mod_lt (a * r) (show 0 < n by omega)
      have s : (a * (n - r) + a * r) % n = 0 := by rw [← Nat.mul_add, show n - r + r = n by omega, Nat.mul_mod_left]
      rw [Nat.add_mod] at s
      have lq := Nat.mod_lt (a * (n - r)) (show 0 < n by omega)
      have s2 : a * (n - r) % n + a * r % n = n := by
        have d := Nat.dvd_of_mod_eq_zero s
        obtain ⟨k, hk⟩ := d
        have : k < 2 := by
          rcases Nat.lt_or_ge k 2 with h | h
          · exact h
          · have : n * 2 ≤ n * k := Nat.mul_le_mul_left _ h
            omega
        have : k ≠ 0 := by intro z; subst z; omega
        obtain rfl : k = 1 := by omega
        omega
      by_cases t : a * r % n ≤ n / 2
      · rw [if_pos t, if_neg (by omega)]
      · rw [if_neg t, if_pos (by omega)]
  rw [h, sm_add, sm_av o cb (fun x => ng a n x)]
  rfl
theorem mu_mod (a n : Nat) : mu (a % n) n = mu a n := by
  refine sm_congr _ fun i hi => ?_
  unfold ng
  rw [Nat.mod_mul_mod]
theorem mu_one {n : Nat} (o : n % 2 = 1) : mu 1 n = 0 := by
  have : mu 1 n = sm (fun _ => 0) (n / 2) := sm_congr _ fun i hi => by
    unfold ng
    rw [Nat.one_mul, Nat.mod_eq_of_lt (by omega), if_pos (by omega)]
  rw [this, sm_zero]
theorem mu_two {n : Nat} (o : n % 2 = 1) : mu 2 n = n / 2 - n / 2 / 2 := by
  have h1 : sm (fun i => ng 2 n (i + 1) + (if 2 * (i + 1) ≤ n / 2 then 1 else 0)) (n / 2) = sm (fun _ => 1) (n / 2) := sm_congr _ fun i hi => by
    unfold ng
    rw [Nat.mod_eq_of_lt (by omega)]
    by_cases q : 2 * (i + 1) ≤ n / 2
    · rw [if_pos q, if_pos q]
    · rw [if_neg q, if_neg q]
  rw [sm_add, sm_count_all 2 (n / 2) (by omega) (n / 2) (by omega), sm_const] at h1
  unfold mu
  omega
theorem mu_two_parity {n : Nat} (o : n % 2 = 1) : mu 2 n % 2 = if n % 8 = 1 ∨ n % 8 = 7 then 0 else 1 := by
  rw [mu_two o]
  by_cases q : n % 8 = 1 ∨ n % 8 = 7
  · rw [if_pos q]; omega
  · rw [if_neg q]; omega
theorem eisenstein {a n : Nat} (oa : a % 2 = 1) (o : n % 2 = 1) (c : Nat.Coprime a n) : mu a n % 2 = sm (fun i => a * (i + 1) / n) (n / 2) % 2 := by
  have h : sm (fun i => (i + 1) + (a * (i + 1) / n + (av a n (i + 1) + ng a n (i + 1)))) (n / 2) % 2 = sm (fun _ => 0) (n / 2) % 2 := sm_mod2 _ fun i hi => by
    have e := Nat.div_add_mod (a * (i + 1)) n
    have lb := Nat.mod_lt (a * (i + 1)) (show 0 < n by omega)
    have p1 : a * (i + 1) % 2 = (i + 1) % 2 := by rw [Nat.mul_mod, oa, Nat.one_mul, Nat.mod_mod]
    have p2 : n * (a * (i + 1) / n) % 2 = (a * (i + 1) / n) % 2 := by rw [Nat.mul_mod, o, Nat.one_mul, Nat.mod_mod]
    unfold av ng
    generalize a * (i + 1) / n = q at *
    generalize a * (i + 1) % n = r at *
    generalize n * q = nq at *
    generalize a * (i + 1) = ax at *
    by_cases t : r ≤ n / 2
    · rw [if_pos t, if_pos t]; omega
    · rw [if_neg t, if_neg t]; omega
  rw [sm_add (fun i => i + 1) (fun i => a * (i + 1) / n + (av a n (i + 1) + ng a n (i + 1))), sm_add (fun i => a * (i + 1) / n) (fun i => av a n (i + 1) + ng a n (i + 1)),
    sm_add (fun i => av a n (i + 1)) (fun i => ng a n (i + 1)), sm_zero, sm_av o c (fun x => x)] at h
  unfold mu
  omega
theorem lattice {m n : Nat} (om : m % 2 = 1) (o : n % 2 = 1) (c : Nat.Coprime m n) :
    sm (fun i => m * (i + 1) / n) (n / 2) + sm (fun j => n * (j + 1) / m) (m / 2) = (m / 2) * (n / 2) := by
  have half : ∀ m n : Nat, m % 2 = 1 → n % 2 = 1 → ∀ i, i < n / 2 → m * (i + 1) / n ≤ m / 2 := by
    intro m n om o i hi
    have h1 : m * (i + 1) ≤ m * (n / 2) := Nat.mul_le_mul_left _ (by omega)
    have h2 : m * (n / 2) * 2 + m = m * n := by rw [Nat.mul_assoc, ← Nat.mul_succ]; congr 1; omega
    have h3 : (m / 2) * n * 2 + n = m * n := by
      rw [Nat.mul_right_comm, ← Nat.succ_mul]; congr 1; omega
    refine Nat.le_of_lt_succ ((Nat.div_lt_iff_lt_mul (by omega)).2 ?_)
    rw [Nat.succ_mul]
    omega
  have h1 : sm (fun i => m * (i + 1) / n) (n / 2) = sm (fun i => sm (fun j => if n * (j + 1) ≤ m * (i + 1) then 1 else 0) (m / 2)) (n / 2) :=
    sm_congr _ fun i hi => (sm_count_all n (m * (i + 1)) (by omega) (m / 2) (half m n om o i hi)).symm
  have h2 : sm (fun j => n * (j + 1) / m) (m / 2) = sm (fun j => sm (fun i => if m * (i + 1) ≤ n * (j + 1) then 1 else 0) (n / 2)) (m / 2) :=
    sm_congr _ fun j hj => (sm_count_all m (n * (j + 1)) (by omega) (n / 2) (half n m o om j hj)).symm
  rw [h1, h2, sm_comm (fun j i => if m * (i + 1) ≤ n * (j + 1) then 1 else 0), ← sm_add]
  have h3 : sm (fun i => sm (fun j => if n * (j + 1) ≤ m * (i + 1) then 1 else 0) (m / 2) + sm (fun j => if m * (i + 1) ≤ n * (j + 1) then 1 else 0) (m / 2)) (n / 2) = sm (fun _ => m / 2) (n / 2) :=
    sm_congr _ fun i hi => by
      rw [← sm_add]
      have : sm (fun j => (if n * (j + 1) ≤ m * (i + 1) then 1 else 0) + (if m * (i + 1) ≤ n * (j + 1) then 1 else 0)) (m / 2) = sm (fun _ => 1) (m / 2) := sm_congr _ fun j hj => by
        have ne : m * (i + 1) ≠ n * (j + 1) := by
          intro h
          have d : n ∣ m * (i + 1) := ⟨j + 1, h⟩
          have := Nat.Coprime.dvd_of_dvd_mul_left c.symm d
          have := Nat.le_of_dvd (by omega) this
          omega
        by_cases q : n * (j + 1) ≤ m * (i + 1)
        · rw [if_pos q, if_neg (by omega)]
        · rw [if_neg q, if_pos (by omega)]
      rw [this, sm_const, Nat.one_mul]
  rw [h3, sm_const]
theorem reciprocity {m n : Nat} (om : m % 2 = 1) (o : n % 2 = 1) (c : Nat.Coprime m n) : (mu m n + mu n m) % 2 = (m / 2) * (n / 2) % 2 := by
  rw [← lattice om o c]
  have h1 := eisenstein om o c
  have h2 := eisenstein o om c.symm
  omega
end Go.Proofs.Ytkgejfokdmdikaa.Nt
end
section
namespace Go.Proofs.Ytkgejfokdmdikaa.Nt
def sg (k : Nat) : Int := if k % 2 = 0 then 1 else -1
theorem sg_add (a b : Nat) : sg (a + b) = sg a * sg b := by
  unfold sg
  rcases Nat.mod_two_eq_zero_or_one a with h | h <;> rcases Nat.mod_two_eq_zero_or_one b with k | k <;> simp [Nat.add_mod, h, k]
theorem sg_congr {a b : Nat} (h : a % 2 = b % 2) : sg a = sg b := by unfold sg; rw [h]
def jac (a n : Nat) : Int := if Nat.Coprime a n then sg (mu a n) else 0
theorem jac_mod (a n : Nat) : jac (a % n) n = jac a n := by
  unfold jac
  rw [mu_mod]
  have : Nat.Coprime (a % n) n ↔ Nat.Coprime a n := by
    unfold Nat.Coprime
    rw [← Nat.gcd_rec, Nat.gcd_comm]
  by_cases h : Nat.Coprime a n
  · rw [if_pos h, if_pos (this.2 h)]
  · rw [if_neg h, if_neg (fun k => h (this.1 k))]
theorem jac_mul {n : Nat} (o : n % 2 = 1) (a b : Nat) : jac (a * b) n = jac a n * jac b n := by
  unfold jac
  by_cases ha : Nat.Coprime a n
  · by_cases hb : Nat.Coprime b n
    · rw [if_pos ha, if_pos hb, if_pos (Nat.Coprime.mul_left ha hb), ← sg_add]
      exact sg_congr (mu_mul o ha hb)
    · rw [if_neg hb, if_neg (fun h => hb (Nat.Coprime.coprime_mul_left h)), Int.mul_zero]
  · rw [if_neg ha, if_neg (fun h => ha (Nat.Coprime.coprime_mul_right h)), Int.zero_mul]
theorem coprime_two {n : Nat} (o : n % 2 = 1) : Nat.Coprime 2 n := by
  unfold Nat.Coprime
  rw [Nat.gcd_rec, o]; exact Nat.gcd_one_left 2
theorem jac_two {n : Nat} (o : n % 2 = 1) : jac 2 n = if n % 8 = 1 ∨ n % 8 = 7 then 1 else -1 := by
  unfold jac
  rw [if_pos (coprime_two o)]
  unfold sg
  rw [mu_two_parity o]
  by_cases h : n % 8 = 1 ∨ n % 8 = 7
  · rw [if_pos h, if_pos h]; rfl
  · rw [if_neg h, if_neg h]; rfl
theorem jac_rec {m n : Nat} (om : m % 2 = 1) (o : n % 2 = 1) : jac m n = (if m % 4 = 3 ∧ n % 4 = 3 then -1 else 1) * jac n m := by
  unfold jac
  by_cases c : Nat.Coprime m n
  · rw [if_pos c, if_pos c.symm]
    have r := reciprocity om o c
    have e : sg (mu m n) = sg (m / 2 * (n / 2)) * sg (mu n m) := by
      rw [← sg_add]; exact sg_congr (by omega)
    rw [e]
    congr 1
    unfold sg
    rw [Nat.mul_mod]
    have h1 : m / 2 % 2 = if m % 4 = 3 then 1 else 0 := by split <;> omega
    have h2 : n / 2 % 2 = if n % 4 = 3 then 1 else 0 := by split <;> omega
    rw [h1, h2]
    by_cases p : m % 4 = 3 <;> by_cases q : n % 4 = 3 <;> simp [p, q]
  · have c' : ¬ Nat.Coprime n m := fun h => c h.symm
    rw [if_neg c, if_neg c', Int.mul_zero]
theorem jac_zero (n : Nat) : jac 0 n = if n = 1 then 1 else 0 := by
  unfold jac
  by_cases h : n = 1
  · subst h; rfl
  · rw [if_neg h, if_neg (by unfold Nat.Coprime; rw [Nat.gcd_zero_left]; exact h)]
theorem jac_one {n : Nat} (o : n % 2 = 1) : jac 1 n = 1 := by
  unfold jac
  rw [if_pos (Nat.coprime_one_left n), mu_one o]; rfl
def isP (p : Nat) : Prop := 2 ≤ p ∧ ∀ d, d ∣ p → d = 1 ∨ d = p
theorem isP.cop {p x : Nat} (hp : isP p) (h : ¬ p ∣ x) : Nat.Coprime x p := by
  rcases hp.2 _ (Nat.gcd_dvd_right x p) with k | k
  · exact k
  · exact (h (k ▸ Nat.gcd_dvd_left x p)).elim
theorem isP.cop_lt {p x : Nat} (hp : isP p) (h0 : 0 < x) (h1 : x < p) : Nat.Coprime x p :=
  hp.cop fun d => by have := Nat.le_of_dvd h0 d; omega
theorem cancel {p : Nat} {x : Int} {F : Nat} (c : Nat.Coprime F p) (h : (p : Int) ∣ x * (F : Int)) : (p : Int) ∣ x := by
  have h1 := Int.natAbs_dvd_natAbs.2 h
  rw [Int.natAbs_mul, Int.natAbs_natCast, Int.natAbs_natCast] at h1
  have h2 := Nat.Coprime.dvd_of_dvd_mul_right c.symm h1
  exact Int.ofNat_dvd_left.2 h2
abbrev pr (f : Nat → Int) (n : Nat) : Int := fd (· * ·) 1 f n
theorem pr_succ (f : Nat → Int) (n : Nat) : pr f (n + 1) = pr f n * f n := rfl
theorem pr_cong (p : Int) {f g : Nat → Int} : ∀ n, (∀ i, i < n → p ∣ f i - g i) → p ∣ pr f n - pr g n
  | 0, _ => by show p ∣ (1 : Int) - 1; exact Int.dvd_zero p
  | n + 1, h => by
    rw [pr_succ, pr_succ]
    have e : pr f n * f n - pr g n * g n = (pr f n - pr g n) * f n + pr g n * (f n - g n) := by
      rw [Int.sub_mul, Int.mul_sub]; omega
    rw [e]
    exact Int.dvd_add (Int.dvd_trans (pr_cong p n fun i hi => h i (by omega)) ⟨_, rfl⟩) (Int.dvd_trans (h n (by omega)) ⟨_, Int.mul_comm _ _⟩)
theorem pr_mul (f g : Nat → Int) (n : Nat) : pr (fun i => f i * g i) n = pr f n * pr g n :=
  fd_op (· * ·) 1 (fun a b c => Int.mul_assoc a b c) (fun a b => Int.mul_comm a b) rfl n
theorem pr_const (a : Int) : ∀ n, pr (fun _ => a) n = a ^ n
  | 0 => (Int.pow_zero a).symm
  | n + 1 => by rw [pr_succ, pr_const a n, Int.pow_succ]
def fac : Nat → Nat
  | 0 => 1
  | n + 1 => fac n * (n + 1)
theorem pr_fac : ∀ n, pr (fun i => ((i + 1 : Nat) : Int)) n = (fac n : Int)
  | 0 => rfl
  | n + 1 => by rw [pr_succ, pr_fac n, fac, Int.natCast_mul]
theorem fac_cop {p : Nat} (hp : isP p) : ∀ n, n < p → Nat.Coprime (fac n) p
  | 0, _ => Nat.coprime_one_left p
  | n + 1, h => Nat.Coprime.mul_left (fac_cop hp n (by omega)) (hp.cop_lt (by omega) h)
theorem pr_sg (f : Nat → Nat) : ∀ n, pr (fun i => sg (f i)) n = sg (sm f n)
  | 0 => rfl
  | n + 1 => by rw [pr_succ, pr_sg f n, sm_succ, sg_add]
theorem euler {p a : Nat} (hp : isP p) (o : p % 2 = 1) (c : Nat.Coprime a p) : (p : Int) ∣ (a : Int) ^ (p / 2) - jac a p := by
  unfold jac
  rw [if_pos c]
  refine cancel (fac_cop hp (p / 2) (by omega)) ?_
  have h1 : (p : Int) ∣ pr (fun i => (a : Int) * ((i + 1 : Nat) : Int)) (p / 2) - pr (fun i => sg (ng a p (i + 1)) * ((av a p (i + 1) : Nat) : Int)) (p / 2) := by
    refine pr_cong _ _ fun i hi => ?_
    have e := Nat.div_add_mod (a * (i + 1)) p
    have lb := Nat.mod_lt (a * (i + 1)) (show 0 < p by omega)
    have e' : (a : Int) * ((i + 1 : Nat) : Int) = (p : Int) * ((a * (i + 1) / p : Nat) : Int) + ((a * (i + 1) % p : Nat) : Int) := by
      rw [← Int.natCast_mul, ← Int.natCast_mul, ← Int.natCast_add, e]
    rw [e']
    unfold ng av
    generalize a * (i + 1) / p = q at *
    generalize a * (i + 1) % p = r at *
    by_cases t : r ≤ p / 2
    · rw [if_pos t, if_pos t]
      refine ⟨(q : Int), ?_⟩
      show _ - (1 : Int) * _ = _
      omega
    · rw [if_neg t, if_neg t]
      refine ⟨(q : Int) + 1, ?_⟩
      show _ - (-1 : Int) * _ = _
      rw [Int.mul_add]
      omega
  rw [pr_mul, pr_mul, pr_const, pr_fac, pr_sg] at h1
  have h2 : pr (fun i => ((av a p (i + 1) : Nat) : Int)) (p / 2) = (fac (p / 2) : Int) := by
    rw [← pr_fac]
    have h := fd_perm (· * ·) (1 : Int) (fun a b c => Int.mul_assoc a b c) (fun a b => Int.mul_comm a b) (fun i => ((i + 1 : Nat) : Int)) (p / 2) (fun i => av a p (i + 1) - 1)
      (fun i hi => by have := av_range o c (x := i + 1) (by omega) (by omega); omega)
      (fun i j hi hj hij => by
        have h1 := av_range o c (x := i + 1) (by omega) (by omega)
        have h2 := av_range o c (x := j + 1) (by omega) (by omega)
        have := av_inj c (x := i + 1) (y := j + 1) (by omega) (by omega) (by omega) (by omega) (by omega)
        omega)
    refine (fd_congr _ _ _ fun i hi => ?_).trans h
    have h1 := av_range o c (x := i + 1) (by omega) (by omega)
    congr 1; omega
  rw [h2] at h1
  rw [Int.sub_mul]
  exact h1
def dif : Nat → (Nat → Int) → Nat → Int
  | 0, f, x => f x
  | k + 1, f, x => dif k f (x + 1) - dif k f x
theorem dif_mul (g : Nat → Int) : ∀ (k x : Nat), dif (k + 1) (fun x => (x : Int) * g x) x = (x : Int) * dif (k + 1) g x + ((k : Int) + 1) * dif k g (x + 1)
  | 0, x => by
    simp only [dif]
    rw [Int.natCast_add, Int.add_mul, Int.mul_sub]
    omega
  | k + 1, x => by
    have h1 := dif_mul g k (x + 1)
    have h2 := dif_mul g k x
    have e : dif (k + 1 + 1) (fun x => (x : Int) * g x) x = dif (k + 1) (fun x => (x : Int) * g x) (x + 1) - dif (k + 1) (fun x => (x : Int) * g x) x := rfl
    have e2 : dif (k + 1 + 1) g x = dif (k + 1) g (x + 1) - dif (k + 1) g x := rfl
    have e3 : dif (k + 1) g (x + 1) = dif k g (x + 1 + 1) - dif k g (x + 1) := rfl
    rw [e, h1, h2, e2, Int.natCast_add, Int.natCast_add]
    generalize dif (k + 1) g x = A at *
    generalize dif (k + 1) g (x + 1) = B at *
    generalize dif k g (x + 1 + 1) = C at *
    generalize dif k g (x + 1) = D at *
    subst e3
    simp only [Int.mul_sub, Int.add_mul]
    omega
theorem dif_congr {f g : Nat → Int} (h : ∀ x, f x = g x) : ∀ k x, dif k f x = dif k g x
  | 0, x => h x
  | k + 1, x => by simp only [dif]; rw [dif_congr h k, dif_congr h k]
theorem dif_zero {f : Nat → Int} {k : Nat} (h : ∀ x, dif k f x = 0) (x : Nat) : dif (k + 1) f x = 0 := by
  simp only [dif]; rw [h, h]; rfl
theorem dif_pow : ∀ n, (∀ x, dif n (fun x => (x : Int) ^ n) x = (fac n : Int)) ∧ ∀ x, dif (n + 1) (fun x => (x : Int) ^ n) x = 0
  | 0 => ⟨fun x => rfl, fun x => by simp only [dif]; rw [Int.pow_zero, Int.pow_zero]; rfl⟩
  | n + 1 => by
    obtain ⟨h1, h2⟩ := dif_pow n
    have e : ∀ x : Nat, (x : Int) ^ (n + 1) = (x : Int) * (x : Int) ^ n := fun x => by rw [Int.pow_succ, Int.mul_comm]
    constructor
    · intro x
      rw [dif_congr e, dif_mul (fun x => (x : Int) ^ n) n x, h2, h1, Int.mul_zero, Int.zero_add, fac, Int.natCast_mul, Int.mul_comm]
      rfl
    · intro x
      rw [dif_congr e, dif_mul (fun x => (x : Int) ^ n) (n + 1) x, dif_zero h2, h2, Int.mul_zero, Int.mul_zero]; rfl
theorem dif_cong (p : Int) (f : Nat → Int) (c : Int) : ∀ k x, (∀ y, x ≤ y → y ≤ x + k → p ∣ f y - c) → p ∣ dif k f x - (if k = 0 then c else 0)
  | 0, x, h => by
    rw [if_pos rfl]
    exact h x (Nat.le_refl _) (by omega)
  | k + 1, x, h => by
    have h1 := dif_cong p f c k (x + 1) (fun y a b => h y (by omega) (by omega))
    have h2 := dif_cong p f c k x (fun y a b => h y (by omega) (by omega))
    have h3 := Int.dvd_sub h1 h2
    rw [if_neg (by omega)]
    have e : dif (k + 1) f x - 0 = dif k f (x + 1) - (if k = 0 then c else 0) - (dif k f x - (if k = 0 then c else 0)) := by
      simp only [dif]; omega
    rw [e]; exact h3
theorem jac_pm {p a : Nat} (c : Nat.Coprime a p) : jac a p = 1 ∨ jac a p = -1 := by
  unfold jac
  rw [if_pos c]
  unfold sg
  split
  · exact .inl rfl
  · exact .inr rfl
theorem nonresidue {p : Nat} (hp : isP p) (o : p % 2 = 1) : ∃ z, 2 ≤ z ∧ z < p ∧ jac z p = -1 := by
  have p2 := hp.1
  by_cases q : ∃ z, 2 ≤ z ∧ z < p ∧ jac z p = -1
  · exact q
  · exfalso
    have all : ∀ y, 1 ≤ y → y ≤ 1 + p / 2 → (p : Int) ∣ (fun x : Nat => (x : Int) ^ (p / 2)) y - 1 := by
      intro y h0 h1
      have c := hp.cop_lt (x := y) (by omega) (by omega)
      have e := euler hp o c
      have j : jac y p = 1 := by
        by_cases y1 : y = 1
        · subst y1; exact jac_one o
        · rcases jac_pm c with j | j
          · exact j
          · exact (q ⟨y, by omega, by omega, j⟩).elim
      rw [j] at e
      exact e
    have d := dif_cong (p : Int) (fun x : Nat => (x : Int) ^ (p / 2)) 1 (p / 2) 1 all
    rw [if_neg (by omega), (dif_pow (p / 2)).1 1, Int.sub_zero] at d
    have d2 : p ∣ fac (p / 2) := Int.natCast_dvd_natCast.1 d
    have c := fac_cop hp (p / 2) (by omega)
    have : p ∣ 1 := by
      have := Nat.dvd_gcd d2 (Nat.dvd_refl p)
      rwa [c] at this
    have := Nat.le_of_dvd (by omega) this
    omega
end Go.Proofs.Ytkgejfokdmdikaa.Nt
end
section
namespace Go.Proofs.Ytkgejfokdmdikaa.Nt
def two8 (a : Int) : Int := if a % 8 = 1 ∨ a % 8 = 7 then 1 else if a % 8 = 3 ∨ a % 8 = 5 then -1 else 0
def kronN (a : Int) (n : Nat) : Int := if n % 2 = 0 ∧ 0 < n then two8 a * kronN a (n / 2) else jac (a % (n : Int)).toNat n
termination_by n
decreasing_by omega
def kron (a n : Int) : Int := if n = 0 then (if a = 1 ∨ a = -1 then 1 else 0) else (if n < 0 ∧ a < 0 then -1 else 1) * kronN a n.natAbs
theorem kronN_even (a : Int) (n : Nat) (h : n % 2 = 0) (h0 : 0 < n) : kronN a n = two8 a * kronN a (n / 2) := by
  rw [kronN, if_pos ⟨h, h0⟩]
theorem kronN_odd (a : Int) (n : Nat) (h : n % 2 = 1) : kronN a n = jac (a % (n : Int)).toNat n := by
  rw [kronN, if_neg (by omega)]
end Go.Proofs.Ytkgejfokdmdikaa.Nt
namespace Go.Proofs.Ytkgejfokdmdikaa.Kr
open Go Go.RowKit Go.Proofs.YtkgejfokdmdikaaW.PrintWords PModularKroneckers _root_.Go.Proofs.Ytkgejfokdmdikaa.Pure Nt
set_option maxRecDepth 10000
theorem l2_is (N : Nat) (IH : ∀ m b : Nat, m % 2 = 1 → m < 18446744073709551616 → b ≤ N → b < 18446744073709551616 → ∀ s, Sg s → Evl (fun k => modular_Kronecker.l1 k s m b) (s * Nt.jac b m)) :
    ∀ q : Nat, ∀ m c : Nat, m % 2 = 1 → m < 18446744073709551616 → 0 < c → c ≤ q → c ≤ N + 1 → c < 18446744073709551616 → ∀ s, Sg s → Evl (fun k => modular_Kronecker.l2 k s m c) (s * Nt.jac c m) := by
  intro q
  induction q with
  | zero => intro m c _ _ h1 h2; omega
  | succ q ih =>
    intro m c m1 m2 c0 cq cn c2 s hs
    have ec : ((c : Int) / 2) = ((c / 2 : Nat) : Int) := by omega
    have et : Int.tmod (m : Int) (c : Int) = ((m % c : Nat) : Int) := by rw [tm m c (by omega)]; exact (Int.natCast_emod _ _).symm
    by_cases ev : c % 2 = 0
    · have hj : Nt.jac c m = Nt.jac 2 m * Nt.jac (c / 2) m := by rw [← jac_mul m1]; congr 1; omega
      have h2 : Sg (Nt.jac 2 m) := by rw [jac_two m1]; split <;> simp [Sg]
      have e2 : modular_two.f (m : Int) = some (Nt.jac 2 m) := by
        rw [two_eq (m : Int) (by omega) (by omega), jac_two m1]
        congr 1
        by_cases t : m % 8 = 1 ∨ m % 8 = 7
        · rw [if_pos (by omega), if_pos t]
        · rw [if_neg (by omega), if_neg t, if_pos (by omega)]
      have H := ih m (c / 2) m1 m2 (by omega) (by omega) (by omega) (by omega) (s * Nt.jac 2 m) (hs.mul h2)
      rw [Int.mul_assoc, ← hj] at H
      refine evl_step (fun k => ?_) H
      rw [modular_Kronecker.l2, and1 c (by omega) (by omega), if_pos (by omega), e2, Option.bind_some, (hs.mul h2).w, ec]
    · have lt := Nat.mod_lt m c0
      have H := IH c (m % c) (by omega) c2 (by omega) (by omega)
      rw [jac_mod] at H
      have hj := jac_rec (m := c) (n := m) (by omega) m1
      by_cases t : c % 4 = 3 ∧ m % 4 = 3
      · rw [if_pos t] at hj
        have H := H (-1 * s) (Sg.mul (.inr rfl) hs)
        have e : -1 * s * Nt.jac m c = s * Nt.jac c m := by rw [hj, Int.mul_comm (-1) s, Int.mul_assoc]
        rw [e] at H
        refine evl_step (fun k => ?_) H
        rw [modular_Kronecker.l2, and1 c (by omega) (by omega), if_neg (by omega), and3 c (by omega) (by omega), if_pos (by omega), and3 m (by omega) (by omega), if_pos (by omega),
          if_neg (by omega), hs.wn, et]
      · rw [if_neg t, Int.one_mul] at hj
        have H := H s hs
        rw [← hj] at H
        refine evl_step (fun k => ?_) H
        rw [modular_Kronecker.l2, and1 c (by omega) (by omega), if_neg (by omega), and3 c (by omega) (by omega), and3 m (by omega) (by omega), et]
        by_cases t1 : c % 4 = 3
        · rw [if_pos (by omega), if_neg (by omega), if_neg (by omega)]
        · rw [if_neg (by omega), if_neg (by omega)]
theorem l1_is : ∀ N : Nat, ∀ m b : Nat, m % 2 = 1 → m < 18446744073709551616 → b ≤ N → b < 18446744073709551616 → ∀ s, Sg s → Evl (fun k => modular_Kronecker.l1 k s m b) (s * Nt.jac b m) := by
  intro N
  have z : ∀ m : Nat, ∀ s, Evl (fun k => modular_Kronecker.l1 k s m ((0 : Nat) : Int)) (s * Nt.jac 0 m) := by
    intro m s
    refine evl_step (f := fun _ => some (s * Nt.jac 0 m)) (fun k => ?_) (evl_now _)
    rw [modular_Kronecker.l1, if_pos (by rfl), jac_zero]
    by_cases h : m = 1
    · rw [if_pos (by omega), if_pos h, Int.mul_one]
    · rw [if_neg (by omega), if_neg h, Int.mul_zero]
  induction N with
  | zero =>
    intro m b _ _ hb _ s _
    obtain rfl : b = 0 := by omega
    exact z m s
  | succ N ih =>
    intro m b m1 m2 bn b2 s hs
    by_cases h : b = 0
    · subst h; exact z m s
    · refine evl_step (fun k => ?_) (l2_is N ih (N + 1) m b m1 m2 (by omega) bn bn b2 s hs)
      rw [modular_Kronecker.l1, if_neg (by omega)]
theorem resid_is (a : Int) (n : Nat) (n0 : 0 < n) (n2 : n ≤ 9223372036854775808) (a0 : -9223372036854775808 ≤ a) (a1 : a ≤ 9223372036854775807) : resid a n = a % (n : Int) := by
  unfold resid
  by_cases h : a < 0
  · have e1 : IntKind.u64.wrap (-(IntKind.u64.wrap a)) = -a := by rw [IntKind.wrap_u64, IntKind.wrap_u64]; omega
    have r0 := Int.emod_nonneg (-a) (b := (n : Int)) (by omega)
    have r1 := Int.emod_lt_of_pos (-a) (b := (n : Int)) (by omega)
    rw [if_pos h, e1, tm (-a) n (by omega), u64_id _ (by omega) (by omega), tm _ n (by omega)]
    have d := Int.mul_ediv_add_emod (-a) (n : Int)
    have e2 : (n : Int) - (-a) % (n : Int) = a + (n : Int) * ((-a) / (n : Int) + 1) := by rw [Int.mul_add]; omega
    rw [e2]; exact Int.add_mul_emod_self_left _ _ _
  · rw [if_neg h, u64_id a (by omega) (by omega), tm a n (by omega)]
theorem l0_is (a : Int) (a0 : -9223372036854775808 ≤ a) (a1 : a ≤ 9223372036854775807) : ∀ q : Nat, ∀ n : Nat, 0 < n → n ≤ q → n ≤ 9223372036854775808 → ∀ s, Sg s ∨ s = 0 → Evl (fun k => modular_Kronecker.l0 k a s n) (s * kronN a n) := by
  intro q
  induction q with
  | zero => intro n h0 h1; omega
  | succ q ih =>
    intro n n0 nq n2 s hs
    by_cases ev : n % 2 = 0
    · have ht : Sg (two8 a) ∨ two8 a = 0 := by unfold two8 Sg; split; · simp
                                               split <;> simp
      have hst : Sg (s * two8 a) ∨ s * two8 a = 0 := by
        rcases hs with hs | rfl
        · rcases ht with ht | ht
          · exact .inl (hs.mul ht)
          · exact .inr (by rw [ht, Int.mul_zero])
        · exact .inr (Int.zero_mul _)
      have H := ih (n / 2) (by omega) (by omega) (by omega) (s * two8 a) hst
      rw [Int.mul_assoc, ← kronN_even a n ev n0] at H
      have w8 : IntKind.u64.wrap a % 8 = a % 8 := by rw [IntKind.wrap_u64]; omega
      have ww : wrap64 (s * two8 a) = s * two8 a := by
        rcases hst with h | h
        · exact h.w
        · rw [h]; exact w64_id 0 (by omega) (by omega)
      have en : ((n : Int) / 2) = ((n / 2 : Nat) : Int) := by omega
      refine evl_step (fun k => ?_) H
      rw [modular_Kronecker.l0, and1 n (by omega) (by omega), if_pos (by omega), two_eq _ (u64_ge _).1 (u64_ge _).2, w8, Option.bind_some, en]
      show modular_Kronecker.l0 k a (wrap64 (s * two8 a)) ((n / 2 : Nat) : Int) = _
      rw [ww]
    · rcases hs with hs | rfl
      · have r := resid_is a n n0 n2 a0 a1
        have r0 := Int.emod_nonneg a (b := (n : Int)) (by omega)
        have r1 := Int.emod_lt_of_pos a (b := (n : Int)) (by omega)
        have H := l1_is (a % (n : Int)).toNat n (a % (n : Int)).toNat (by omega) (by omega) (Nat.le_refl _) (by omega) s hs
        rw [Int.toNat_of_nonneg r0, ← kronN_odd a n (by omega)] at H
        refine evl_step (f := fun k => modular_Kronecker.j2 k s n (resid a n)) (fun k => ?_) (evl_step (fun k => ?_) H)
        · rw [modular_Kronecker.l0, and1 n (by omega) (by omega), if_neg (by omega), if_neg (by rcases hs with h | h <;> omega), if_neg (by omega)]
          unfold resid
          by_cases h : a < 0
          · rw [if_pos h, if_pos h]
          · rw [if_neg h, if_neg h]
        · rw [modular_Kronecker.j2, r]
      · rw [Int.zero_mul]
        refine evl_step (f := fun _ => some 0) (fun k => ?_) (evl_now _)
        rw [modular_Kronecker.l0, and1 n (by omega) (by omega), if_neg (by omega), if_pos rfl]
theorem kronecker (a n : Int) (a0 : -9223372036854775808 ≤ a) (a1 : a ≤ 9223372036854775807) (n0 : -9223372036854775808 ≤ n) (n1 : n ≤ 9223372036854775807) :
    Evl (fun k => modular_Kronecker.f k a n) (kron a n) := by
  unfold kron
  by_cases z : n = 0
  · rw [if_pos z]
    refine evl_congr (f := fun _ => some (if a = 1 ∨ a = -1 then 1 else 0)) (fun k => ?_) (evl_now _)
    rw [modular_Kronecker.f, if_pos z]
    by_cases h : a = 1
    · rw [if_pos h, if_pos (.inl h)]
    · rw [if_neg h]
      by_cases h' : a = -1
      · rw [if_pos h', if_pos (.inr h')]
      · rw [if_neg h', if_neg (by omega)]
  · rw [if_neg z]
    by_cases neg : n < 0
    · have hb : IntKind.u64.wrap (-(IntKind.u64.wrap n)) = ((n.natAbs : Nat) : Int) := by rw [IntKind.wrap_u64, IntKind.wrap_u64]; omega
      have H := l0_is a a0 a1 n.natAbs n.natAbs (by omega) (Nat.le_refl _) (by omega)
      by_cases na : a < 0
      · rw [if_pos ⟨neg, na⟩]
        refine evl_congr (f := fun k => modular_Kronecker.j0 k a (-1) (n.natAbs : Int)) (fun k => ?_) (evl_step (fun k => ?_) (H (-1) (.inl (.inr rfl))))
        · rw [modular_Kronecker.f, if_neg z, if_pos neg, if_pos na, hb]
        · rw [modular_Kronecker.j0]
      · rw [if_neg (fun h => na h.2)]
        refine evl_congr (f := fun k => modular_Kronecker.j0 k a 1 (n.natAbs : Int)) (fun k => ?_) (evl_step (fun k => ?_) (H 1 (.inl (.inl rfl))))
        · rw [modular_Kronecker.f, if_neg z, if_pos neg, if_neg na, hb]
        · rw [modular_Kronecker.j0]
    · have hb : IntKind.u64.wrap n = ((n.natAbs : Nat) : Int) := by rw [IntKind.wrap_u64]; omega
      have H := l0_is a a0 a1 n.natAbs n.natAbs (by omega) (Nat.le_refl _) (by omega)
      rw [if_neg (fun h => neg h.1)]
      refine evl_congr (f := fun k => modular_Kronecker.j0 k a 1 (n.natAbs : Int)) (fun k => ?_) (evl_step (fun k => ?_) (H 1 (.inl (.inl rfl))))
      · rw [modular_Kronecker.f, if_neg z, if_neg neg, hb]
      · rw [modular_Kronecker.j0]
end Go.Proofs.Ytkgejfokdmdikaa.Kr
namespace Go.Proofs.Ytkgejfokdmdikaa
open Go Go.RowKit Go.Proofs.YtkgejfokdmdikaaW.PrintWords
def modular_Kronecker.f (a0 : Int) (a1 : Int) : Option (Int) :=
  if (-9223372036854775808 ≤ a0 ∧ a0 ≤ 9223372036854775807) ∧ (-9223372036854775808 ≤ a1 ∧ a1 ≤ 9223372036854775807) then some (Nt.kron a0 a1) else none
theorem modular_Kronecker.calls (a0 : Int) (a1 : Int) (r : Int) (w : World) (h : modular_Kronecker.f a0 a1 = some r) :
    Calls Try.prog 12 #[.int .i64 a0, .int .i64 a1] w fun e w' => e = .returned (.int .i64 r) ∧ Drawn0 w w' := by
  unfold modular_Kronecker.f at h
  split at h
  · rename_i q
    obtain rfl := Option.some.inj h
    obtain ⟨k, hk⟩ := Go.Proofs.YtkgejfokdmdikaaW.PrintWords.Ev.rounds (Kr.kronecker a0 a1 q.1.1 q.1.2 q.2.1 q.2.2)
    exact PModularKroneckers.modular_Kronecker.calls k a0 a1 _ w hk
  · cases h
end Go.Proofs.Ytkgejfokdmdikaa
end
