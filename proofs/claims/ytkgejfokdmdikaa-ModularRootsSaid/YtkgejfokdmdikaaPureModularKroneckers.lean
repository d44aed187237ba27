import Derived.Test.YtkgejfokdmdikaaPModularKroneckersx2
import Derived.Laws.Bits64
/- The two Kronecker symbols, the program's and the law's own, run in step. -/
namespace Go.Proofs.Ytkgejfokdmdikaa.Pure
open Go Go.RowKit Go.Proofs.YtkgejfokdmdikaaW.PrintWords PModularKroneckers
set_option maxRecDepth 10000

abbrev Evl {α : Type} (g : Nat → Option α) (r : α) : Prop := Go.Proofs.YtkgejfokdmdikaaW.PrintWords.Ev g r

theorem evl_step {α : Type} {g f : Nat → Option α} {r : α} (h : ∀ k, g (k + 1) = f k) (k : Evl f r) : Evl g r :=
  Go.Proofs.YtkgejfokdmdikaaW.PrintWords.Ev.step h k
theorem evl_congr {α : Type} {g f : Nat → Option α} {r : α} (h : ∀ k, g k = f k) (k : Evl f r) : Evl g r :=
  Go.Proofs.YtkgejfokdmdikaaW.PrintWords.Ev.congr h k
theorem evl_now {α : Type} (r : α) : Evl (fun _ => some r) r := ⟨0, fun _ _ => rfl⟩

theorem and1 (x : Int) (h0 : 0 ≤ x) (h1 : x < 18446744073709551616) : Go.bits .and .u64 x 1 = x % 2 := by
  obtain ⟨n, rfl⟩ := Int.eq_ofNat_of_zero_le h0
  have h := bits_and_u64_nat n 1 (by omega) (by omega)
  rw [show n &&& 1 = n % 2 from Nat.and_two_pow_sub_one_eq_mod n 1] at h
  rw [show ((1 : Nat) : Int) = 1 from rfl] at h
  rw [h]; omega
theorem and3 (x : Int) (h0 : 0 ≤ x) (h1 : x < 18446744073709551616) : Go.bits .and .u64 x 3 = x % 4 := by
  obtain ⟨n, rfl⟩ := Int.eq_ofNat_of_zero_le h0
  have h := bits_and_u64_nat n 3 (by omega) (by omega)
  rw [show n &&& 3 = n % 4 from Nat.and_two_pow_sub_one_eq_mod n 2] at h
  rw [show ((3 : Nat) : Int) = 3 from rfl] at h
  rw [h]; omega
theorem and7 (x : Int) (h0 : 0 ≤ x) (h1 : x < 18446744073709551616) : Go.bits .and .u64 x 7 = x % 8 := by
  obtain ⟨n, rfl⟩ := Int.eq_ofNat_of_zero_le h0
  have h := bits_and_u64_nat n 7 (by omega) (by omega)
  rw [show n &&& 7 = n % 8 from Nat.and_two_pow_sub_one_eq_mod n 3] at h
  rw [show ((7 : Nat) : Int) = 7 from rfl] at h
  rw [h]; omega
theorem w64_id (x : Int) (h0 : -4 ≤ x) (h1 : x ≤ 4) : wrap64 x = x := by unfold wrap64; omega
theorem u64_id (x : Int) (h0 : 0 ≤ x) (h1 : x < 18446744073709551616) : IntKind.u64.wrap x = x := by
  rw [IntKind.wrap_u64]; omega
theorem tm (x m : Int) (h0 : 0 ≤ x) : Int.tmod x m = x % m := Int.tmod_eq_emod_of_nonneg h0
theorem td (x m : Int) (h0 : 0 ≤ x) : Int.tdiv x m = x / m := Int.tdiv_eq_ediv_of_nonneg h0

/-- two(x) by x mod 8 -/
theorem two_eq (x : Int) (h0 : 0 ≤ x) (h1 : x < 18446744073709551616) :
    modular_two.f x = some (if x % 8 = 1 ∨ x % 8 = 7 then 1 else if x % 8 = 3 ∨ x % 8 = 5 then -1 else 0) := by
  unfold modular_two.f
  rw [and7 x h0 h1]
  have : x % 8 = 0 ∨ x % 8 = 1 ∨ x % 8 = 2 ∨ x % 8 = 3 ∨ x % 8 = 4 ∨ x % 8 = 5 ∨ x % 8 = 6 ∨ x % 8 = 7 := by omega
  rcases this with h | h | h | h | h | h | h | h <;> rw [h] <;> rfl

def Sg (s : Int) : Prop := s = 1 ∨ s = -1
theorem Sg.mul {s t : Int} (h : Sg s) (k : Sg t) : Sg (s * t) := by
  rcases h with rfl | rfl <;> rcases k with rfl | rfl <;> simp [Sg]
theorem Sg.w {s : Int} (h : Sg s) : wrap64 s = s := by rcases h with rfl | rfl <;> exact w64_id _ (by omega) (by omega)
theorem Sg.wn {s : Int} (h : Sg s) : wrap64 (-s) = -1 * s := by
  rcases h with rfl | rfl <;> rw [w64_id _ (by omega) (by omega)] <;> omega

/-- For one r out of -1, 0, 1 both computations started at sign s answer s * r. -/
def Good (g h : Int → Nat → Option Int) : Prop :=
  ∃ r : Int, (r = 0 ∨ r = 1 ∨ r = -1) ∧ ∀ s, Sg s → Evl (g s) (s * r) ∧ Evl (h s) (s * r)

theorem Good.step {g h g' h' : Int → Nat → Option Int} (e : Int) (he : Sg e) (G : Good g h)
    (hg : ∀ s, Sg s → ∀ k, g' s (k + 1) = g (e * s) k) (hh : ∀ s, Sg s → ∀ k, h' s (k + 1) = h (e * s) k) : Good g' h' := by
  obtain ⟨r, hr, G⟩ := G
  refine ⟨e * r, ?_, fun s hs => ?_⟩
  · rcases he with rfl | rfl <;> omega
  · have q : s * (e * r) = (e * s) * r := by rw [← Int.mul_assoc, Int.mul_comm s e]
    rw [q]
    exact ⟨evl_step (hg s hs) (G _ (he.mul hs)).1, evl_step (hh s hs) (G _ (he.mul hs)).2⟩

theorem Good.step1 {g h g' h' : Int → Nat → Option Int} (G : Good g h)
    (hg : ∀ s, Sg s → ∀ k, g' s (k + 1) = g s k) (hh : ∀ s, Sg s → ∀ k, h' s (k + 1) = h s k) : Good g' h' :=
  Good.step 1 (.inl rfl) G (fun s hs k => by rw [Int.one_mul]; exact hg s hs k) (fun s hs k => by rw [Int.one_mul]; exact hh s hs k)

def gl1 (m b : Int) : Int → Nat → Option Int := fun s k => modular_Kronecker.l1 k s m b
def gl2 (m b : Int) : Int → Nat → Option Int := fun s k => modular_Kronecker.l2 k s m b
def hl0 (m b : Int) : Int → Nat → Option Int := fun s k => parquetref04_jacobi.l0 k m b s
def hl1 (m b : Int) : Int → Nat → Option Int := fun s k => parquetref04_jacobi.l1 k m b s

theorem inner (n : Nat) (IH : ∀ m b : Int, 0 < m → m % 2 = 1 → m < 18446744073709551616 → 0 ≤ b → b ≤ n → b < 18446744073709551616 → Good (gl1 m b) (hl0 m b)) :
    ∀ q : Nat, ∀ m c : Int, 0 < m → m % 2 = 1 → m < 18446744073709551616 → 0 < c → c ≤ q → c ≤ n + 1 → c < 18446744073709551616 → Good (gl2 m c) (hl1 m c) := by
  intro q
  induction q with
  | zero => intro m c _ _ _ h1 h2; omega
  | succ q ih =>
    intro m c m0 m1 m2 c0 cq cn c2
    by_cases ev : c % 2 = 0
    · have G := ih m (c / 2) m0 m1 m2 (by omega) (by omega) (by omega) (by omega)
      have hu : IntKind.u64.wrap (Int.tdiv c 2) = c / 2 := by rw [td c 2 (by omega), u64_id _ (by omega) (by omega)]
      by_cases t : m % 8 = 3 ∨ m % 8 = 5
      · refine G.step (-1) (.inr rfl) (fun s hs k => ?_) (fun s hs k => ?_)
        · show modular_Kronecker.l2 (k + 1) s m c = modular_Kronecker.l2 k (-1 * s) m (c / 2)
          rw [modular_Kronecker.l2, and1 c (by omega) c2, if_pos ev, two_eq m (by omega) m2,
            if_neg (by omega), if_pos t, Option.bind_some,
            show s * -1 = -s by omega, hs.wn]
        · show parquetref04_jacobi.l1 (k + 1) m c s = parquetref04_jacobi.l1 k m (c / 2) (-1 * s)
          rw [parquetref04_jacobi.l1, tm c 2 (by omega), if_pos ev, tm m 8 (by omega), hu, hs.wn]
          rcases t with t | t
          · rw [if_pos t]
          · rw [if_neg (by omega), if_pos t]
      · refine G.step1 (fun s hs k => ?_) (fun s hs k => ?_)
        · show modular_Kronecker.l2 (k + 1) s m c = modular_Kronecker.l2 k s m (c / 2)
          rw [modular_Kronecker.l2, and1 c (by omega) c2, if_pos ev, two_eq m (by omega) m2,
            if_pos (by omega), Option.bind_some, Int.mul_one, hs.w]
        · show parquetref04_jacobi.l1 (k + 1) m c s = parquetref04_jacobi.l1 k m (c / 2) s
          rw [parquetref04_jacobi.l1, tm c 2 (by omega), if_pos ev, tm m 8 (by omega), hu]
          rw [if_neg (by omega), if_neg (by omega)]
    · have b0 := Int.emod_nonneg m (b := c) (by omega)
      have b1 := Int.emod_lt_of_pos m c0
      have G := IH c (m % c) c0 (by omega) c2 b0 (by omega) (by omega)
      by_cases t : c % 4 = 3 ∧ m % 4 = 3
      · refine G.step (-1) (.inr rfl) (fun s hs k => ?_) (fun s hs k => ?_)
        · show modular_Kronecker.l2 (k + 1) s m c = modular_Kronecker.l1 k (-1 * s) c (m % c)
          rw [modular_Kronecker.l2, and1 c (by omega) c2, if_neg ev, and3 c (by omega) c2, if_pos t.1, and3 m (by omega) m2, if_pos t.2,
            if_neg (by omega), hs.wn, tm m c (by omega)]
        · show parquetref04_jacobi.l1 (k + 1) m c s = parquetref04_jacobi.l0 k c (m % c) (-1 * s)
          rw [parquetref04_jacobi.l1, tm c 2 (by omega), if_neg ev, tm c 4 (by omega), if_pos t.1, tm m 4 (by omega), if_pos t.2,
            if_neg (by omega), hs.wn, tm m c (by omega)]
      · refine G.step1 (fun s hs k => ?_) (fun s hs k => ?_)
        · show modular_Kronecker.l2 (k + 1) s m c = modular_Kronecker.l1 k s c (m % c)
          rw [modular_Kronecker.l2, and1 c (by omega) c2, if_neg ev, and3 c (by omega) c2, and3 m (by omega) m2, tm m c (by omega)]
          by_cases t1 : c % 4 = 3
          · rw [if_pos t1, if_neg (by omega), if_neg (by omega)]
          · rw [if_neg t1, if_neg (by omega)]
        · show parquetref04_jacobi.l1 (k + 1) m c s = parquetref04_jacobi.l0 k c (m % c) s
          rw [parquetref04_jacobi.l1, tm c 2 (by omega), if_neg ev, tm c 4 (by omega), tm m 4 (by omega), tm m c (by omega)]
          by_cases t1 : c % 4 = 3
          · rw [if_pos t1, if_neg (by omega), if_neg (by omega)]
          · rw [if_neg t1, if_neg (by omega)]

theorem base (m : Int) : Good (gl1 m 0) (hl0 m 0) := by
  refine ⟨if m = 1 then 1 else 0, ?_, fun s hs => ⟨evl_step (f := fun _ => some (s * (if m = 1 then 1 else 0))) (fun k => ?_) (evl_now _),
    evl_step (f := fun _ => some (s * (if m = 1 then 1 else 0))) (fun k => ?_) (evl_now _)⟩⟩
  · by_cases h : m = 1 <;> simp [h]
  · show modular_Kronecker.l1 (k + 1) s m 0 = _
    rw [modular_Kronecker.l1, if_pos rfl]
    by_cases h : m = 1
    · rw [if_pos h, if_pos h, Int.mul_one]
    · rw [if_neg h, if_neg h, Int.mul_zero]
  · show parquetref04_jacobi.l0 (k + 1) m 0 s = _
    rw [parquetref04_jacobi.l0, if_neg (by omega)]
    by_cases h : m = 1
    · rw [if_pos h, if_pos h, Int.mul_one]
    · rw [if_neg h, if_neg h, Int.mul_zero]

theorem outer : ∀ n : Nat, ∀ m b : Int, 0 < m → m % 2 = 1 → m < 18446744073709551616 → 0 ≤ b → b ≤ n → b < 18446744073709551616 → Good (gl1 m b) (hl0 m b) := by
  intro n
  induction n with
  | zero =>
    intro m b m0 m1 m2 b0 bn b2
    obtain rfl : b = 0 := by omega
    exact base m
  | succ n ih =>
    intro m b m0 m1 m2 b0 bn b2
    by_cases z : b = 0
    · subst z; exact base m
    · have G := inner n ih (n + 1) m b m0 m1 m2 (by omega) (by omega) (by omega) b2
      refine G.step1 (fun s hs k => ?_) (fun s hs k => ?_)
      · show modular_Kronecker.l1 (k + 1) s m b = modular_Kronecker.l2 k s m b
        rw [modular_Kronecker.l1, if_neg z]
      · show parquetref04_jacobi.l0 (k + 1) m b s = parquetref04_jacobi.l1 k m b s
        rw [parquetref04_jacobi.l0, if_pos (by omega)]

theorem jac (m b : Int) (m0 : 0 < m) (m1 : m % 2 = 1) (m2 : m < 18446744073709551616) (b0 : 0 ≤ b) (b2 : b < 18446744073709551616) : Good (gl1 m b) (hl0 m b) :=
  outer b.toNat m b m0 m1 m2 b0 (by omega) b2

/-! ### The powers of two in front -/
def gk (a n : Int) : Int → Nat → Option Int := fun s k => modular_Kronecker.l0 k a s n
def hk (a n : Int) : Int → Nat → Option Int := fun s k => parquetref04_Kronecker.l0 k a s n

/-- a's rest modulo an odd n, as both sides write it -/
def resid (a n : Int) : Int :=
  if a < 0 then Int.tmod (IntKind.u64.wrap (n - (Int.tmod (IntKind.u64.wrap (-(IntKind.u64.wrap a))) n))) n else Int.tmod (IntKind.u64.wrap a) n
theorem u64_ge (x : Int) : 0 ≤ IntKind.u64.wrap x ∧ IntKind.u64.wrap x < 18446744073709551616 := by
  rw [IntKind.wrap_u64]; omega
theorem resid_range (a n : Int) (n0 : 0 < n) : 0 ≤ resid a n ∧ resid a n < n := by
  unfold resid
  split
  · rw [tm _ n (u64_ge _).1]; exact ⟨Int.emod_nonneg _ (by omega), Int.emod_lt_of_pos _ n0⟩
  · rw [tm _ n (u64_ge _).1]; exact ⟨Int.emod_nonneg _ (by omega), Int.emod_lt_of_pos _ n0⟩

theorem jacobi_rounds (a n : Int) (n0 : 0 < n) (k : Nat) : parquetref04_jacobi.f (k + 1) a n = parquetref04_jacobi.l0 k n (resid a n) 1 := by
  unfold parquetref04_jacobi.f resid
  rw [if_neg (by omega)]
  by_cases h : a < 0
  · rw [if_pos h, if_pos h, parquetref04_jacobi.j0]
  · rw [if_neg h, if_neg h, parquetref04_jacobi.j0]

theorem odd_n (a n : Int) (n0 : 0 < n) (n1 : n % 2 = 1) (n2 : n < 18446744073709551616) : Good (gk a n) (hk a n) := by
  obtain ⟨r0, r1⟩ := resid_range a n n0
  obtain ⟨r, hr, G⟩ := jac n (resid a n) n0 n1 n2 r0 (by omega)
  refine ⟨r, hr, fun s hs => ⟨?_, ?_⟩⟩
  · refine evl_step (f := fun k => modular_Kronecker.j2 k s n (resid a n)) (fun k => ?_) (evl_step (f := gl1 n (resid a n) s) (fun k => ?_) (G s hs).1)
    · show modular_Kronecker.l0 (k + 1) a s n = _
      rw [modular_Kronecker.l0, and1 n (by omega) n2, if_neg (by omega), if_neg (by rcases hs with h | h <;> omega), if_neg (by omega)]
      unfold resid
      by_cases h : a < 0
      · rw [if_pos h, if_pos h]
      · rw [if_neg h, if_neg h]
    · show modular_Kronecker.j2 (k + 1) s n (resid a n) = modular_Kronecker.l1 k s n (resid a n)
      rw [modular_Kronecker.j2]
  · refine evl_step (f := fun k => (parquetref04_jacobi.f k a n).bind fun t103 => some (wrap64 (s * t103))) (fun k => ?_) ?_
    · show parquetref04_Kronecker.l0 (k + 1) a s n = _
      rw [parquetref04_Kronecker.l0, tm n 2 (by omega), if_neg (by omega)]
    · have e : Evl (fun k => parquetref04_jacobi.f k a n) (1 * r) := evl_step (f := hl0 n (resid a n) 1) (fun k => jacobi_rounds a n n0 k) (G 1 (.inl rfl)).2
      refine Go.Proofs.YtkgejfokdmdikaaW.PrintWords.Ev.bind e ?_
      have w : wrap64 (s * (1 * r)) = s * r := by
        rw [Int.one_mul]
        rcases hs with rfl | rfl <;> rcases hr with rfl | rfl | rfl <;> exact w64_id _ (by omega) (by omega)
      show Evl (fun _ => some (wrap64 (s * (1 * r)))) (s * r)
      rw [w]; exact evl_now _

theorem mod8 (a : Int) : parquetref04_Mod.f a 8 = some (a % 8) := by
  unfold parquetref04_Mod.f
  rw [if_neg (by omega)]
  have h := Int.tmod_eq_emod (a := a) (b := 8)
  by_cases p : 0 ≤ a
  · rw [tm a 8 p, if_neg (by omega)]
  · by_cases d : a % 8 = 0
    · have : Int.tmod a 8 = 0 := by
        have := Int.tmod_eq_zero_of_dvd (Int.dvd_of_emod_eq_zero d); exact this
      rw [this, if_neg (by omega), d]
    · have h : Int.tmod a 8 = a % 8 - 8 := by
        rw [h, if_neg]
        · rfl
        · rintro (h | h)
          · exact p h
          · exact d (Int.emod_eq_zero_of_dvd h)
      rw [h, if_pos (by omega)]
      congr 1
      unfold wrap64; omega

theorem odd_a (a : Int) (a1 : a % 2 = 1) : ∀ q : Nat, ∀ n : Int, 0 < n → n ≤ q → n < 18446744073709551616 → Good (gk a n) (hk a n) := by
  intro q
  induction q with
  | zero => intro n h0 h1; omega
  | succ q ih =>
    intro n n0 nq n2
    by_cases ev : n % 2 = 0
    · have G := ih (n / 2) (by omega) (by omega) (by omega)
      have hu : IntKind.u64.wrap (Int.tdiv n 2) = n / 2 := by rw [td n 2 (by omega), u64_id _ (by omega) (by omega)]
      have w8 : IntKind.u64.wrap a % 8 = a % 8 := by rw [IntKind.wrap_u64]; omega
      by_cases t : a % 8 = 3 ∨ a % 8 = 5
      · refine G.step (-1) (.inr rfl) (fun s hs k => ?_) (fun s hs k => ?_)
        · show modular_Kronecker.l0 (k + 1) a s n = modular_Kronecker.l0 k a (-1 * s) (n / 2)
          rw [modular_Kronecker.l0, and1 n (by omega) n2, if_pos ev, two_eq _ (u64_ge _).1 (u64_ge _).2, w8,
            if_neg (by omega), if_pos t, Option.bind_some, show s * -1 = -s by omega, hs.wn]
        · show parquetref04_Kronecker.l0 (k + 1) a s n = parquetref04_Kronecker.l0 k a (-1 * s) (n / 2)
          rw [parquetref04_Kronecker.l0, tm n 2 (by omega), if_pos ev, mod8, Option.bind_some, tm (a % 8) 2 (by omega), if_neg (by omega), hu, hs.wn]
          rcases t with t | t
          · rw [if_pos t]
          · rw [if_neg (by omega), if_pos t]
      · refine G.step1 (fun s hs k => ?_) (fun s hs k => ?_)
        · show modular_Kronecker.l0 (k + 1) a s n = modular_Kronecker.l0 k a s (n / 2)
          rw [modular_Kronecker.l0, and1 n (by omega) n2, if_pos ev, two_eq _ (u64_ge _).1 (u64_ge _).2, w8,
            if_pos (by omega), Option.bind_some, Int.mul_one, hs.w]
        · show parquetref04_Kronecker.l0 (k + 1) a s n = parquetref04_Kronecker.l0 k a s (n / 2)
          rw [parquetref04_Kronecker.l0, tm n 2 (by omega), if_pos ev, mod8, Option.bind_some, tm (a % 8) 2 (by omega), if_neg (by omega), hu,
            if_neg (by omega), if_neg (by omega)]
    · exact odd_n a n n0 (by omega) n2

theorem zero_s (a : Int) : ∀ q : Nat, ∀ n : Int, 0 < n → n ≤ q → n < 18446744073709551616 → Evl (gk a n 0) 0 := by
  intro q
  induction q with
  | zero => intro n h0 h1; omega
  | succ q ih =>
    intro n n0 nq n2
    by_cases ev : n % 2 = 0
    · refine evl_step (f := gk a (n / 2) 0) (fun k => ?_) (ih (n / 2) (by omega) (by omega) (by omega))
      show modular_Kronecker.l0 (k + 1) a 0 n = modular_Kronecker.l0 k a 0 (n / 2)
      rw [modular_Kronecker.l0, and1 n (by omega) n2, if_pos ev, two_eq _ (u64_ge _).1 (u64_ge _).2, Option.bind_some, Int.zero_mul, w64_id 0 (by omega) (by omega)]
    · refine evl_step (f := fun _ => some 0) (fun k => ?_) (evl_now _)
      show modular_Kronecker.l0 (k + 1) a 0 n = some 0
      rw [modular_Kronecker.l0, and1 n (by omega) n2, if_neg ev, if_pos rfl]

theorem all_n (a n : Int) (n0 : 0 < n) (n2 : n < 18446744073709551616) : Good (gk a n) (hk a n) := by
  by_cases a1 : a % 2 = 1
  · exact odd_a a a1 n.toNat n n0 (by omega) n2
  · by_cases n1 : n % 2 = 1
    · exact odd_n a n n0 n1 n2
    · have w8 : IntKind.u64.wrap a % 8 = a % 8 := by rw [IntKind.wrap_u64]; omega
      refine ⟨0, .inl rfl, fun s hs => ⟨?_, ?_⟩⟩
      · rw [Int.mul_zero]
        refine evl_step (f := gk a (n / 2) 0) (fun k => ?_) (zero_s a (n / 2).toNat (n / 2) (by omega) (by omega) (by omega))
        show modular_Kronecker.l0 (k + 1) a s n = modular_Kronecker.l0 k a 0 (n / 2)
        rw [modular_Kronecker.l0, and1 n (by omega) n2, if_pos (by omega), two_eq _ (u64_ge _).1 (u64_ge _).2, w8,
            if_neg (by omega), if_neg (by omega), Option.bind_some, Int.mul_zero, w64_id 0 (by omega) (by omega)]
      · rw [Int.mul_zero]
        refine evl_step (f := fun _ => some 0) (fun k => ?_) (evl_now _)
        show parquetref04_Kronecker.l0 (k + 1) a s n = some 0
        rw [parquetref04_Kronecker.l0, tm n 2 (by omega), if_pos (by omega), mod8, Option.bind_some, tm (a % 8) 2 (by omega), if_pos (by omega)]

/-- Both symbols answer, and alike. -/
theorem same (a b : Int) (b0 : -9223372036854775808 ≤ b) (b1 : b ≤ 9223372036854775807) :
    ∃ r, Evl (fun k => modular_Kronecker.f k a b) r ∧ Evl (fun k => parquetref04_Kronecker.f k a b) r := by
  by_cases z : b = 0
  · refine ⟨if a = 1 then 1 else if a = -1 then 1 else 0, ?_, ?_⟩
    · refine evl_congr (f := fun _ => some (if a = 1 then 1 else if a = -1 then 1 else 0)) (fun k => ?_) (evl_now _)
      unfold modular_Kronecker.f
      rw [if_pos z]
      by_cases h : a = 1
      · rw [if_pos h, if_pos h]
      · rw [if_neg h, if_neg h]; by_cases h' : a = -1
        · rw [if_pos h', if_pos h']
        · rw [if_neg h', if_neg h']
    · refine evl_congr (f := fun _ => some (if a = 1 then 1 else if a = -1 then 1 else 0)) (fun k => ?_) (evl_now _)
      unfold parquetref04_Kronecker.f
      rw [if_pos z]
      by_cases h : a = 1
      · rw [if_pos h, if_pos h]
      · rw [if_neg h, if_neg h]; by_cases h' : a = -1
        · rw [if_pos h', if_pos h']
        · rw [if_neg h', if_neg h']
  · by_cases neg : b < 0
    · have hb : IntKind.u64.wrap (-(IntKind.u64.wrap b)) = -b := by rw [IntKind.wrap_u64, IntKind.wrap_u64]; omega
      obtain ⟨r, hr, G⟩ := all_n a (-b) (by omega) (by omega)
      by_cases na : a < 0
      · obtain ⟨g, h⟩ := G (-1) (.inr rfl)
        refine ⟨-1 * r, ?_, ?_⟩
        · refine evl_congr (f := fun k => modular_Kronecker.j0 k a (-1) (-b)) (fun k => ?_) (evl_step (f := gk a (-b) (-1)) (fun k => ?_) g)
          · show modular_Kronecker.f k a b = _
            rw [modular_Kronecker.f, if_neg z, if_pos neg, if_pos na, hb]
          · show modular_Kronecker.j0 (k + 1) a (-1) (-b) = modular_Kronecker.l0 k a (-1) (-b)
            rw [modular_Kronecker.j0]
        · refine evl_congr (f := fun k => parquetref04_Kronecker.j0 k a b 1 true) (fun k => ?_) (evl_step (f := fun k => parquetref04_Kronecker.j1 k a b (-1)) (fun k => ?_)
            (evl_step (f := fun k => parquetref04_Kronecker.j2 k a (-1) (-b)) (fun k => ?_) (evl_step (f := hk a (-b) (-1)) (fun k => ?_) h)))
          · show parquetref04_Kronecker.f k a b = _
            rw [parquetref04_Kronecker.f, if_neg z, if_pos neg, decide_eq_true na]
          · show parquetref04_Kronecker.j0 (k + 1) a b 1 true = _
            rw [parquetref04_Kronecker.j0, if_pos rfl]
          · show parquetref04_Kronecker.j1 (k + 1) a b (-1) = _
            rw [parquetref04_Kronecker.j1, if_pos neg, hb]
          · show parquetref04_Kronecker.j2 (k + 1) a (-1) (-b) = parquetref04_Kronecker.l0 k a (-1) (-b)
            rw [parquetref04_Kronecker.j2]
      · obtain ⟨g, h⟩ := G 1 (.inl rfl)
        refine ⟨1 * r, ?_, ?_⟩
        · refine evl_congr (f := fun k => modular_Kronecker.j0 k a 1 (-b)) (fun k => ?_) (evl_step (f := gk a (-b) 1) (fun k => ?_) g)
          · show modular_Kronecker.f k a b = _
            rw [modular_Kronecker.f, if_neg z, if_pos neg, if_neg na, hb]
          · show modular_Kronecker.j0 (k + 1) a 1 (-b) = modular_Kronecker.l0 k a 1 (-b)
            rw [modular_Kronecker.j0]
        · refine evl_congr (f := fun k => parquetref04_Kronecker.j0 k a b 1 false) (fun k => ?_) (evl_step (f := fun k => parquetref04_Kronecker.j1 k a b 1) (fun k => ?_)
            (evl_step (f := fun k => parquetref04_Kronecker.j2 k a 1 (-b)) (fun k => ?_) (evl_step (f := hk a (-b) 1) (fun k => ?_) h)))
          · show parquetref04_Kronecker.f k a b = _
            rw [parquetref04_Kronecker.f, if_neg z, if_pos neg, decide_eq_false na]
          · show parquetref04_Kronecker.j0 (k + 1) a b 1 false = _
            rw [parquetref04_Kronecker.j0, if_neg (by decide)]
          · show parquetref04_Kronecker.j1 (k + 1) a b 1 = _
            rw [parquetref04_Kronecker.j1, if_pos neg, hb]
          · show parquetref04_Kronecker.j2 (k + 1) a 1 (-b) = parquetref04_Kronecker.l0 k a 1 (-b)
            rw [parquetref04_Kronecker.j2]
    · have hb : IntKind.u64.wrap b = b := by rw [IntKind.wrap_u64]; omega
      obtain ⟨r, hr, G⟩ := all_n a b (by omega) (by omega)
      obtain ⟨g, h⟩ := G 1 (.inl rfl)
      refine ⟨1 * r, ?_, ?_⟩
      · refine evl_congr (f := fun k => modular_Kronecker.j0 k a 1 b) (fun k => ?_) (evl_step (f := gk a b 1) (fun k => ?_) g)
        · show modular_Kronecker.f k a b = _
          rw [modular_Kronecker.f, if_neg z, if_neg neg, hb]
        · show modular_Kronecker.j0 (k + 1) a 1 b = modular_Kronecker.l0 k a 1 b
          rw [modular_Kronecker.j0]
      · refine evl_congr (f := fun k => parquetref04_Kronecker.j0 k a b 1 false) (fun k => ?_) (evl_step (f := fun k => parquetref04_Kronecker.j1 k a b 1) (fun k => ?_)
          (evl_step (f := fun k => parquetref04_Kronecker.j2 k a 1 b) (fun k => ?_) (evl_step (f := hk a b 1) (fun k => ?_) h)))
        · show parquetref04_Kronecker.f k a b = _
          rw [parquetref04_Kronecker.f, if_neg z, if_neg neg]
        · show parquetref04_Kronecker.j0 (k + 1) a b 1 false = _
          rw [parquetref04_Kronecker.j0, if_neg (by decide)]
        · show parquetref04_Kronecker.j1 (k + 1) a b 1 = _
          rw [parquetref04_Kronecker.j1, if_neg neg, hb]
        · show parquetref04_Kronecker.j2 (k + 1) a 1 b = parquetref04_Kronecker.l0 k a 1 b
          rw [parquetref04_Kronecker.j2]

theorem wf_i64 (a : Int) (h : (Lit.int .i64 a).wf = true) : -9223372036854775808 ≤ a ∧ a ≤ 9223372036854775807 := by
  simp only [Lit.wf, IntKind.min, IntKind.max, IntKind.signed, IntKind.bits, Bool.and_eq_true, decide_eq_true_eq, if_true] at h
  omega

theorem ModularKroneckers : parquetlaw04_ModularKroneckers.Pure := by
  intro a b _ wb
  obtain ⟨b0, b1⟩ := wf_i64 b wb
  obtain ⟨r, ⟨K, g⟩, ⟨K', h⟩⟩ := same a b b0 b1
  refine ⟨max K K', ?_⟩
  have g : ∀ k, K ≤ k → modular_Kronecker.f k a b = some r := g
  have h : ∀ k, K' ≤ k → parquetref04_Kronecker.f k a b = some r := h
  rw [parquetlaw04_ModularKroneckers.f, g _ (Nat.le_max_left _ _), Option.bind_some, h _ (Nat.le_max_right _ _), Option.bind_some, if_pos rfl]
  rfl

end Go.Proofs.Ytkgejfokdmdikaa.Pure
