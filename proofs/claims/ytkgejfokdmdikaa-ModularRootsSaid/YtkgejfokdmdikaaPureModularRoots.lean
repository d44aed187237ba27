/- Roots modulo a prime: the program's and the law's own way answer the same, for any number and any modulus that the law asks about. -/
import Derived.Test.YtkgejfokdmdikaaRtPrime
namespace Go.Proofs.Ytkgejfokdmdikaa.Rt
open Go Go.RowKit Go.Proofs.YtkgejfokdmdikaaW.PrintWords Go.Proofs.YtkgejfokdmdikaaW.PrintLast Go.Proofs.YtkgejfokdmdikaaW.PrintMore PModularRoots Times
set_option maxRecDepth 10000
section root

theorem minus_sq {p : Nat} (_hp : Nt.isP p) (_o : p % 2 = 1) (_p3 : 3 ≤ p) (_pM : p ≤ 1099511627776) : ((p : Int) - 1) * ((p : Int) - 1) % (p : Int) = 1 := by
  have e : ((p : Int) - 1) * ((p : Int) - 1) = 1 + (p : Int) * ((p : Int) - 2) := by
    simp only [Int.sub_mul, Int.mul_sub, Int.one_mul, Int.mul_one]; omega
  rw [e, Int.add_mul_emod_self_left, Int.emod_eq_of_lt (by omega) (by omega)]

theorem root_of_one {p : Nat} (_hp : Nt.isP p) (_o : p % 2 = 1) (_p3 : 3 ≤ p) (_pM : p ≤ 1099511627776) (u : Int) (u0 : 0 ≤ u) (u1 : u < p) (h : u * u % (p : Int) = 1) (h1 : u ≠ 1) : u = p - 1 := by
  obtain ⟨v, rfl⟩ := Int.eq_ofNat_of_zero_le u0
  have v0 : v ≠ 0 := by
    rintro rfl
    rw [show ((0 : Nat) : Int) = 0 from rfl, Int.mul_zero, Int.zero_emod] at h; omega
  have d : (p : Int) ∣ ((v + 1 : Nat) : Int) * ((v - 1 : Nat) : Int) := by
    have e : ((v + 1 : Nat) : Int) * ((v - 1 : Nat) : Int) = (v : Int) * (v : Int) - 1 := by
      rw [show ((v - 1 : Nat) : Int) = (v : Int) - 1 by omega, Int.natCast_add]
      simp only [Int.add_mul, Int.mul_sub, Int.mul_one, show ((1 : Nat) : Int) = 1 from rfl, Int.one_mul]; omega
    rw [e]
    refine Int.dvd_of_emod_eq_zero ?_
    rw [Int.sub_emod, h, Int.emod_eq_of_lt (a := 1) (by omega) (by omega)]
    exact Int.zero_emod _
  have c : Nat.Coprime (v - 1) p := _hp.cop_lt (by omega) (by omega)
  have d2 := Nt.cancel c d
  have d3 : p ∣ v + 1 := Int.natCast_dvd_natCast.1 d2
  have := Nat.le_of_dvd (by omega) d3
  omega

/-- Euler's criterion, as remainders -/
theorem euler_one {p : Nat} (_hp : Nt.isP p) (_o : p % 2 = 1) (_p3 : 3 ≤ p) (_pM : p ≤ 1099511627776) (a : Nat) (c : Nat.Coprime a p) (h : Nt.jac a p = 1) : (a : Int) ^ (p / 2) % (p : Int) = 1 := by
  have e := Nt.euler _hp _o c
  rw [h] at e
  have := Int.emod_emod_of_dvd ((a : Int) ^ (p / 2)) (Int.dvd_refl (p : Int))
  have d := Int.emod_eq_emod_iff_emod_sub_eq_zero.2 (Int.emod_eq_zero_of_dvd e)
  rw [d, Int.emod_eq_of_lt (by omega) (by omega)]
theorem euler_minus {p : Nat} (_hp : Nt.isP p) (_o : p % 2 = 1) (_p3 : 3 ≤ p) (_pM : p ≤ 1099511627776) (a : Nat) (c : Nat.Coprime a p) (h : Nt.jac a p = -1) : (a : Int) ^ (p / 2) % (p : Int) = p - 1 := by
  have e := Nt.euler _hp _o c
  rw [h] at e
  have d := Int.emod_eq_emod_iff_emod_sub_eq_zero.2 (Int.emod_eq_zero_of_dvd e)
  rw [d]
  have : (-1 : Int) = ((p : Int) - 1) + (p : Int) * (-1) := by omega
  rw [this, Int.add_mul_emod_self_left, Int.emod_eq_of_lt (by omega) (by omega)]

theorem mt {p : Nat} (_hp : Nt.isP p) (_o : p % 2 = 1) (_p3 : 3 ≤ p) (_pM : p ≤ 1099511627776) (x y : Int) (x0 : 0 ≤ x) (x1 : x < p) (y0 : 0 ≤ y) (y1 : y < p) : modular_times.f x y p = some (x * y % p) := by
  rw [modular_times.f, if_pos ⟨x0, x1, y0, y1, by omega⟩]
theorem rt {p : Nat} (_hp : Nt.isP p) (_o : p % 2 = 1) (_p3 : 3 ≤ p) (_pM : p ≤ 1099511627776) (x y : Int) (x0 : 0 ≤ x) (x1 : x < p) (y0 : 0 ≤ y) (y1 : y < p) : parquetref04_Times.f x y p = some (x * y % p) := by
  rw [parquetref04_Times.f, if_pos ⟨x0, x1, y0, y1, by omega⟩]
theorem rg {p : Nat} (_hp : Nt.isP p) (_o : p % 2 = 1) (_p3 : 3 ≤ p) (_pM : p ≤ 1099511627776) (x : Int) : 0 ≤ x % (p : Int) ∧ x % (p : Int) < p := ⟨Int.emod_nonneg _ (by omega), Int.emod_lt_of_pos _ (by omega)⟩

/-- the two ways to c to the 2^d -/
theorem l4_both {p : Nat} (_hp : Nt.isP p) (_o : p % 2 = 1) (_p3 : 3 ≤ p) (_pM : p ≤ 1099511627776) (x t i : Int) (s0 : Int) (x0 : 0 ≤ x) (x1 : x < p) (t0 : 0 ≤ t) (t1 : t < p) (i0 : 0 ≤ i) (sM : s0 ≤ 64) : ∀ (d : Nat) (s c kk : Int), s = i + 1 + d → s ≤ 64 → 0 ≤ kk → kk + d = s0 - i - 1 → 0 ≤ c → c < p →
    ∃ b : Int, 0 ≤ b ∧ b < p ∧ b % p = c ^ (2 ^ d) % p ∧ ∀ R,
      Evl (fun k => modular_Root.l2 k p i (b * b % p) (x * b % p) (t * (b * b % p) % p)) R → Evl (fun k => parquetref04_Root.l2 k p i (b * b % p) (x * b % p) (t * (b * b % p) % p)) R →
      Evl (fun k => modular_Root.l4 k p s c x t i) R ∧ Evl (fun k => parquetref04_Root.l4 k p s0 x t i c kk) R := by
  intro d
  induction d with
  | zero =>
    intro s c kk hs sm k0 hk c0 c1
    have g := rg _hp _o _p3 _pM (c * c)
    refine ⟨c, c0, c1, by rw [Nat.pow_zero, Int.pow_succ, Int.pow_zero, Int.one_mul], fun R h1 h2 => ⟨evl_step (fun k => ?_) h1, evl_step (fun k => ?_) h2⟩⟩
    · rw [modular_Root.l4, w64_id (i + 1) (by omega) (by omega), if_neg (by omega), mt _hp _o _p3 _pM x c x0 x1 c0 c1, Option.bind_some, mt _hp _o _p3 _pM c c c0 c1 c0 c1, Option.bind_some,
        mt _hp _o _p3 _pM t _ t0 t1 g.1 g.2, Option.bind_some]
    · rw [parquetref04_Root.l4, w64_id (s0 - i) (by omega) (by omega), w64_id (s0 - i - 1) (by omega) (by omega), if_neg (by omega), rt _hp _o _p3 _pM c c c0 c1 c0 c1, Option.bind_some, rt _hp _o _p3 _pM x c x0 x1 c0 c1, Option.bind_some,
        rt _hp _o _p3 _pM t _ t0 t1 g.1 g.2, Option.bind_some]
  | succ d ih =>
    intro s c kk hs sm k0 hk c0 c1
    have g := rg _hp _o _p3 _pM (c * c)
    obtain ⟨b, b0, b1, b2, H⟩ := ih (s - 1) (c * c % p) (kk + 1) (by omega) (by omega) (by omega) (by omega) g.1 g.2
    refine ⟨b, b0, b1, by rw [b2, sqpow], fun R h1 h2 => ?_⟩
    obtain ⟨q1, q2⟩ := H R h1 h2
    refine ⟨evl_step (fun k => ?_) q1, evl_step (fun k => ?_) q2⟩
    · rw [modular_Root.l4, w64_id (i + 1) (by omega) (by omega), if_pos (by omega), mt _hp _o _p3 _pM c c c0 c1 c0 c1, Option.bind_some, w64_id (s - 1) (by omega) (by omega)]
    · rw [parquetref04_Root.l4, w64_id (s0 - i) (by omega) (by omega), w64_id (s0 - i - 1) (by omega) (by omega), if_pos (by omega), rt _hp _o _p3 _pM c c c0 c1 c0 c1, Option.bind_some, w64_id (kk + 1) (by omega) (by omega)]

/-- the order of t: both count alike -/
theorem l3_both {p : Nat} (_hp : Nt.isP p) (_o : p % 2 = 1) (_p3 : 3 ≤ p) (_pM : p ≤ 1099511627776) (s c x t : Int) : ∀ (d : Nat) (i u : Int), 0 ≤ i → i + d ≤ 64 → 0 ≤ u → u < p → u ^ (2 ^ d) % (p : Int) = 1 →
    ∃ j : Nat, j ≤ d ∧ u ^ (2 ^ j) % (p : Int) = 1 ∧ (j ≠ 0 → u ^ (2 ^ (j - 1)) % (p : Int) = p - 1) ∧ (j = 0 → u = 1) ∧ ∀ R,
      (Evl (fun k => modular_Root.l4 k p s c x t (i + j)) R → Evl (fun k => modular_Root.l3 k p s c x t i u) R) ∧
      (Evl (fun k => parquetref04_Root.l4 k p s x t (i + j) c 0) R → Evl (fun k => parquetref04_Root.l3 k p s c x t i u) R) := by
  intro d
  have stop : ∀ i : Int, ∀ R, (Evl (fun k => modular_Root.l4 k p s c x t (i + ((0 : Nat) : Int))) R → Evl (fun k => modular_Root.l3 k p s c x t i 1) R) ∧
      (Evl (fun k => parquetref04_Root.l4 k p s x t (i + ((0 : Nat) : Int)) c 0) R → Evl (fun k => parquetref04_Root.l3 k p s c x t i 1) R) := by
    intro i R
    rw [show i + ((0 : Nat) : Int) = i from Int.add_zero i]
    refine ⟨fun h => evl_step (fun k => ?_) h, fun h => evl_step (fun k => ?_) h⟩
    · rw [modular_Root.l3, if_pos rfl]
    · rw [parquetref04_Root.l3, if_pos rfl]
  have one : (1 : Int) ^ (2 ^ 0) % (p : Int) = 1 := by rw [Nat.pow_zero, Int.pow_succ, Int.pow_zero, Int.one_mul, Int.emod_eq_of_lt (by omega) (by omega)]
  induction d with
  | zero =>
    intro i u i0 iM u0 u1 h
    rw [Nat.pow_zero, Int.pow_succ, Int.pow_zero, Int.one_mul, Int.emod_eq_of_lt u0 u1] at h
    subst h
    exact ⟨0, Nat.le_refl _, one, fun h => (h rfl).elim, fun _ => rfl, stop i⟩
  | succ d ih =>
    intro i u i0 iM u0 u1 h
    by_cases z : u = 1
    · subst z
      exact ⟨0, by omega, one, fun h => (h rfl).elim, fun _ => rfl, stop i⟩
    · have g := rg _hp _o _p3 _pM (u * u)
      obtain ⟨j, j1, j2, j3, j4, H⟩ := ih (i + 1) (u * u % p) (by omega) (by omega) g.1 g.2 (by rw [sqpow]; exact h)
      refine ⟨j + 1, by omega, by rw [← sqpow]; exact j2, fun _ => ?_, fun h => by omega, fun R => ?_⟩
      · rw [Nat.add_sub_cancel]
        by_cases jz : j = 0
        · have e := root_of_one _hp _o _p3 _pM u u0 u1 (j4 jz) z
          subst jz
          rw [Nat.pow_zero, Int.pow_succ, Int.pow_zero, Int.one_mul, Int.emod_eq_of_lt u0 u1, e]
        · have e := j3 jz
          rw [sqpow, Nat.sub_add_cancel (by omega)] at e
          exact e
      · obtain ⟨H1, H2⟩ := H R
        have ej : i + 1 + (j : Int) = i + ((j + 1 : Nat) : Int) := by omega
        rw [ej] at H1 H2
        refine ⟨fun h => evl_step (fun k => ?_) (H1 h), fun h => evl_step (fun k => ?_) (H2 h)⟩
        · rw [modular_Root.l3, if_neg z, mt _hp _o _p3 _pM u u u0 u1 u0 u1, Option.bind_some, w64_id (i + 1) (by omega) (by omega)]
        · rw [parquetref04_Root.l3, if_neg z, rt _hp _o _p3 _pM u u u0 u1 u0 u1, Option.bind_some, w64_id (i + 1) (by omega) (by omega)]

/-- Tonelli's and Shanks' rounds -/
theorem l2_both {p : Nat} (_hp : Nt.isP p) (_o : p % 2 = 1) (_p3 : 3 ≤ p) (_pM : p ≤ 1099511627776) (a : Int) : ∀ (S s : Nat) (c x t : Int), s ≤ S → 1 ≤ s → s ≤ 64 → 0 ≤ c → c < p → 0 ≤ x → x < p → 0 ≤ t → t < p →
    c ^ (2 ^ (s - 1)) % (p : Int) = p - 1 → t ^ (2 ^ (s - 1)) % (p : Int) = 1 → x * x % p = a * t % p →
    ∃ y : Int, 0 ≤ y ∧ y < p ∧ y * y % p = a % p ∧ Evl (fun k => modular_Root.l2 k p s c x t) (mn y (p - y), 0) ∧ Evl (fun k => parquetref04_Root.l2 k p s c x t) (mn y (p - y), 0) := by
  intro S
  induction S with
  | zero => intro s c x t h1 h2; omega
  | succ S ih =>
    intro s c x t sS s1 sM c0 c1 x0 x1 t0 t1 hc ht hx
    by_cases z : t = 1
    · subst z
      refine ⟨x, x0, x1, by rw [hx, Int.mul_one], evl_step (f := fun _ => some (mn x (p - x), 0)) (fun k => ?_) (evl_now _), evl_step (f := fun _ => some (mn x (p - x), 0)) (fun k => ?_) (evl_now _)⟩
      · rw [modular_Root.l2, if_pos rfl, w64_id _ (by omega) (by omega)]
      · rw [parquetref04_Root.l2, if_pos rfl, w64_id _ (by omega) (by omega)]
    · obtain ⟨j, j1, j2, j3, j4, H3⟩ := l3_both _hp _o _p3 _pM s c x t (s - 1) 0 t (Int.le_refl _) (by omega) t0 t1 ht
      have jz : j ≠ 0 := fun h => z (j4 h)
      have jm := j3 jz
      rw [Int.zero_add] at H3
      obtain ⟨b, b0, b1, b2, H4⟩ := l4_both _hp _o _p3 _pM x t j s x0 x1 t0 t1 (by omega) (by omega) (s - 1 - j) s c 0 (by omega) (by omega) (Int.le_refl _) (by omega) c0 c1
      have gb := rg _hp _o _p3 _pM (b * b)
      have gx := rg _hp _o _p3 _pM (x * b)
      have gt := rg _hp _o _p3 _pM (t * (b * b % p))
      -- b to the 2^j is c to the 2^(s - 1)
      have hb : (b * b % p) ^ (2 ^ (j - 1)) % (p : Int) = p - 1 := by
        rw [sqpow, Nat.sub_add_cancel (by omega), ← pow_mod b, b2, pow_mod, ← Int.pow_mul, ← Nat.pow_add, show s - 1 - j + j = s - 1 by omega]
        exact hc
      obtain ⟨y, y0, y1, y2, y3, y4⟩ := ih j (b * b % p) (x * b % p) (t * (b * b % p) % p) (by omega) (by omega) (by omega) gb.1 gb.2 gx.1 gx.2 gt.1 gt.2 hb
        (by rw [mulpow, jm, hb, minus_sq _hp _o _p3 _pM])
        (by
          rw [mul_mod_l, mul_mod_r, mul_mod_r]
          have e1 : x * b * (x * b) = x * x * (b * b) := by rw [Int.mul_assoc, Int.mul_left_comm b, ← Int.mul_assoc]
          have e2 : a * (t * (b * b % p)) = a * t * (b * b % p) := by rw [Int.mul_assoc]
          rw [e1, e2, mul_mod_r, ← mul_mod_l (x * x), hx, mul_mod_l])
      obtain ⟨P4, R4⟩ := H4 _ y3 y4
      obtain ⟨P3, R3⟩ := H3 (mn y (p - y), 0)
      refine ⟨y, y0, y1, y2, evl_step (fun k => ?_) (P3 P4), evl_step (fun k => ?_) (R3 R4)⟩
      · rw [modular_Root.l2, if_neg z]
      · rw [parquetref04_Root.l2, if_neg z]

theorem kron_p {p : Nat} (_hp : Nt.isP p) (_o : p % 2 = 1) (_p3 : 3 ≤ p) (_pM : p ≤ 1099511627776) (z : Nat) : Nt.kron (z : Int) (p : Int) = Nt.jac z p := by
  unfold Nt.kron
  rw [if_neg (by omega), if_neg (by omega), Int.one_mul, Int.natAbs_natCast, Nt.kronN_odd _ _ _o, ← Int.natCast_emod, Int.toNat_natCast, Nt.jac_mod]
theorem mk {p : Nat} (_hp : Nt.isP p) (_o : p % 2 = 1) (_p3 : 3 ≤ p) (_pM : p ≤ 1099511627776) (z : Nat) (zp : z < p) : modular_Kronecker.f (z : Int) (p : Int) = some (Nt.jac z p) := by
  rw [modular_Kronecker.f, if_pos ⟨⟨by omega, by omega⟩, ⟨by omega, by omega⟩⟩, kron_p _hp _o _p3 _pM]
theorem mto {p : Nat} (_hp : Nt.isP p) (_o : p % 2 = 1) (_p3 : 3 ≤ p) (_pM : p ≤ 1099511627776) (x : Int) (n : Nat) (hn : n ≤ 1099511627776) : modular_to.f x (n : Int) (p : Int) = some (x ^ n % (p : Int)) := by
  rw [modular_to.f, if_pos ⟨by omega, by omega, by omega, by omega⟩, Int.toNat_natCast]
theorem rto {p : Nat} (_hp : Nt.isP p) (_o : p % 2 = 1) (_p3 : 3 ≤ p) (_pM : p ≤ 1099511627776) (x : Int) (n : Nat) (hn : n ≤ 1099511627776) : parquetref04_To.f x (n : Int) (p : Int) = some (x ^ n % (p : Int)) := by
  rw [parquetref04_To.f, if_pos ⟨by omega, by omega, by omega, by omega⟩, Int.toNat_natCast]
theorem half_is {p : Nat} (_hp : Nt.isP p) (_o : p % 2 = 1) (_p3 : 3 ≤ p) (_pM : p ≤ 1099511627776) : wrap64 (Int.tdiv (wrap64 ((p : Int) - 1)) 2) = ((p / 2 : Nat) : Int) := by
  rw [w64_id ((p : Int) - 1) (by omega) (by omega), Int.tdiv_eq_ediv_of_nonneg (by omega), w64_id _ (by omega) (by omega)]; omega

theorem l1_both {p : Nat} (_hp : Nt.isP p) (_o : p % 2 = 1) (_p3 : 3 ≤ p) (_pM : p ≤ 1099511627776) (a q s : Nat) (ca : Nat.Coprime a p) (ja : Nt.jac a p = 1) (qo : q % 2 = 1) (qs : q * 2 ^ s = p - 1) (s1 : 1 ≤ s) (sM : s ≤ 64) (z0 : Nat) (zp : z0 < p) (jz : Nt.jac z0 p = -1) :
    ∀ (d z : Nat), z + d = z0 → 2 ≤ z →
    ∃ y : Int, 0 ≤ y ∧ y < p ∧ y * y % p = (a : Int) % p ∧ Evl (fun k => modular_Root.l1 k a p q s z) (mn y (p - y), 0) ∧ Evl (fun k => parquetref04_Root.l1 k a p q s z) (mn y (p - y), 0) := by
  have qM : q ≤ 1099511627776 := by
    have : q * 1 ≤ q * 2 ^ s := Nat.mul_le_mul_left _ (Nat.two_pow_pos s)
    omega
  have hq : q * 2 ^ (s - 1) = p / 2 := by
    have : q * 2 ^ s = q * 2 ^ (s - 1) * 2 := by rw [Nat.mul_assoc, ← Nat.pow_succ, Nat.succ_eq_add_one, Nat.sub_add_cancel s1]
    omega
  have w : wrap64 (Int.tdiv (wrap64 ((q : Int) + 1)) 2) = (((q + 1) / 2 : Nat) : Int) := by
    rw [w64_id ((q : Int) + 1) (by omega) (by omega), Int.tdiv_eq_ediv_of_nonneg (by omega), w64_id _ (by omega) (by omega)]; omega
  intro d
  induction d with
  | zero =>
    intro z hz z2
    obtain rfl : z = z0 := by omega
    have cz := _hp.cop_lt (x := z) (by omega) zp
    have hM : p / 2 ≤ 1099511627776 := by omega
    have q1M : (q + 1) / 2 ≤ 1099511627776 := by omega
    have pm : ¬ (p : Int) - 1 = 1 := by omega
    have ez := euler_minus _hp _o _p3 _pM z cz jz
    have ea := euler_one _hp _o _p3 _pM a ca ja
    have g1 := rg _hp _o _p3 _pM ((z : Int) ^ q)
    have g2 := rg _hp _o _p3 _pM ((a : Int) ^ ((q + 1) / 2))
    have g3 := rg _hp _o _p3 _pM ((a : Int) ^ q)
    obtain ⟨y, y0, y1, y2, y3, y4⟩ := l2_both _hp _o _p3 _pM (a : Int) s s ((z : Int) ^ q % p) ((a : Int) ^ ((q + 1) / 2) % p) ((a : Int) ^ q % p) (Nat.le_refl _) s1 sM g1.1 g1.2 g2.1 g2.2 g3.1 g3.2
      (by rw [pow_mod, ← Int.pow_mul, hq]; exact ez) (by rw [pow_mod, ← Int.pow_mul, hq]; exact ea)
      (by
        rw [mul_mod_l, mul_mod_r, mul_mod_r, ← Int.pow_add, show (q + 1) / 2 + (q + 1) / 2 = q + 1 by omega, Int.pow_succ, Int.mul_comm])
    refine ⟨y, y0, y1, y2, evl_step (fun k => ?_) y3, evl_step (fun k => ?_) y4⟩
    · rw [modular_Root.l1, mk _hp _o _p3 _pM z zp, Option.bind_some, jz, if_pos rfl, mto _hp _o _p3 _pM z q qM, Option.bind_some, w, mto _hp _o _p3 _pM a _ q1M, Option.bind_some, mto _hp _o _p3 _pM a q qM, Option.bind_some]
    · rw [parquetref04_Root.l1, half_is _hp _o _p3 _pM, rto _hp _o _p3 _pM z _ hM, Option.bind_some, ez, if_neg pm, rto _hp _o _p3 _pM z q qM, Option.bind_some, w, rto _hp _o _p3 _pM a _ q1M, Option.bind_some,
        rto _hp _o _p3 _pM a q qM, Option.bind_some]
  | succ d ih =>
    intro z hz z2
    have cz := _hp.cop_lt (x := z) (by omega) (by omega)
    have zlt : z < p := by omega
    have hM : p / 2 ≤ 1099511627776 := by omega
    have q1M : (q + 1) / 2 ≤ 1099511627776 := by omega
    have pm : ¬ (p : Int) - 1 = 1 := by omega
    have wz : wrap64 ((z : Int) + 1) = ((z + 1 : Nat) : Int) := by rw [w64_id _ (by omega) (by omega)]; rfl
    rcases Nt.jac_pm cz with j | j
    · obtain ⟨y, y0, y1, y2, y3, y4⟩ := ih (z + 1) (by clear wz w; omega) (by clear wz w; omega)
      have ez := euler_one _hp _o _p3 _pM z cz j
      refine ⟨y, y0, y1, y2, evl_step (fun k => ?_) y3, evl_step (fun k => ?_) y4⟩
      · rw [modular_Root.l1, mk _hp _o _p3 _pM z zlt, Option.bind_some, j, if_neg (by decide), wz]
      · rw [parquetref04_Root.l1, half_is _hp _o _p3 _pM, rto _hp _o _p3 _pM z _ hM, Option.bind_some, ez, if_pos rfl, wz]
    · have ez := euler_minus _hp _o _p3 _pM z cz j
      have ea := euler_one _hp _o _p3 _pM a ca ja
      have g1 := rg _hp _o _p3 _pM ((z : Int) ^ q)
      have g2 := rg _hp _o _p3 _pM ((a : Int) ^ ((q + 1) / 2))
      have g3 := rg _hp _o _p3 _pM ((a : Int) ^ q)
      obtain ⟨y, y0, y1, y2, y3, y4⟩ := l2_both _hp _o _p3 _pM (a : Int) s s ((z : Int) ^ q % p) ((a : Int) ^ ((q + 1) / 2) % p) ((a : Int) ^ q % p) (Nat.le_refl _) s1 sM g1.1 g1.2 g2.1 g2.2 g3.1 g3.2
        (by rw [pow_mod, ← Int.pow_mul, hq]; exact ez) (by rw [pow_mod, ← Int.pow_mul, hq]; exact ea)
        (by
          rw [mul_mod_l, mul_mod_r, mul_mod_r, ← Int.pow_add, show (q + 1) / 2 + (q + 1) / 2 = q + 1 by omega, Int.pow_succ, Int.mul_comm])
      refine ⟨y, y0, y1, y2, evl_step (fun k => ?_) y3, evl_step (fun k => ?_) y4⟩
      · rw [modular_Root.l1, mk _hp _o _p3 _pM z zlt, Option.bind_some, j, if_pos rfl, mto _hp _o _p3 _pM z q qM, Option.bind_some, w, mto _hp _o _p3 _pM a _ q1M, Option.bind_some, mto _hp _o _p3 _pM a q qM, Option.bind_some]
      · rw [parquetref04_Root.l1, half_is _hp _o _p3 _pM, rto _hp _o _p3 _pM z _ hM, Option.bind_some, ez, if_neg pm, rto _hp _o _p3 _pM z q qM, Option.bind_some, w, rto _hp _o _p3 _pM a _ q1M, Option.bind_some,
          rto _hp _o _p3 _pM a q qM, Option.bind_some]

theorem l0_both {p : Nat} (_hp : Nt.isP p) (_o : p % 2 = 1) (_p3 : 3 ≤ p) (_pM : p ≤ 1099511627776) (a : Nat) (ca : Nat.Coprime a p) (ja : Nt.jac a p = 1) : ∀ (N q s : Nat), q ≤ N → 0 < q → q * 2 ^ s = p - 1 →
    ∃ y : Int, 0 ≤ y ∧ y < p ∧ y * y % p = (a : Int) % p ∧ Evl (fun k => modular_Root.l0 k a p q s) (mn y (p - y), 0) ∧ Evl (fun k => parquetref04_Root.l0 k a p q s) (mn y (p - y), 0) := by
  intro N
  induction N with
  | zero => intro q s h0 h1; omega
  | succ N ih =>
    intro q s qN q0 qs
    have sM : s ≤ 40 := by
      rcases Nat.lt_or_ge 40 s with l | l
      · have h1 : 2 ^ 41 ≤ 2 ^ s := Nat.pow_le_pow_right (by omega) l
        have h2 : 1 * 2 ^ s ≤ q * 2 ^ s := Nat.mul_le_mul_right _ q0
        have h3 : (2 : Nat) ^ 41 = 2199023255552 := by decide
        omega
      · exact l
    have qM : q ≤ 1099511627776 := by
      have : q * 1 ≤ q * 2 ^ s := Nat.mul_le_mul_left _ (Nat.two_pow_pos s)
      omega
    have n0 : 0 ≤ (q : Int) := by omega
    have n1 : (q : Int) ≤ 9223372036854775807 := by omega
    by_cases ev : q % 2 = 0
    · have h : q / 2 * 2 ^ (s + 1) = p - 1 := by
        rw [Nat.pow_succ, Nat.mul_comm (2 ^ s) 2, ← Nat.mul_assoc, show q / 2 * 2 = q by omega]; exact qs
      have ei : (q : Int) % 2 = 0 := by omega
      have ws : wrap64 ((s : Int) + 1) = ((s + 1 : Nat) : Int) := by rw [w64_id _ (by omega) (by omega)]; rfl
      have eq2 : ((q : Int) / 2) = ((q / 2 : Nat) : Int) := by omega
      have wq : wrap64 (Int.tdiv (q : Int) 2) = ((q / 2 : Nat) : Int) := by rw [Int.tdiv_eq_ediv_of_nonneg (by omega), w64_id _ (by omega) (by omega), eq2]
      obtain ⟨y, y0, y1, y2, y3, y4⟩ := ih (q / 2) (s + 1) (by clear ws wq; omega) (by clear ws wq; omega) h
      refine ⟨y, y0, y1, y2, evl_step (fun k => ?_) y3, evl_step (fun k => ?_) y4⟩
      · rw [modular_Root.l0, and1_i64 _ n0 n1, if_pos ei, ws, eq2]
      · rw [parquetref04_Root.l0, Int.tmod_eq_emod_of_nonneg n0, if_pos ei, ws, wq]
    · have s1 : 1 ≤ s := by
        rcases Nat.eq_zero_or_pos s with h | h
        · subst h; rw [Nat.pow_zero, Nat.mul_one] at qs; omega
        · exact h
      have ei : ¬ (q : Int) % 2 = 0 := by omega
      obtain ⟨z0, h2, h3, h4⟩ := Nt.nonresidue _hp _o
      obtain ⟨y, y0, y1, y2, y3, y4⟩ := l1_both _hp _o _p3 _pM a q s ca ja (by omega) qs s1 (by omega) z0 h3 h4 (z0 - 2) 2 (by omega) (Nat.le_refl _)
      refine ⟨y, y0, y1, y2, evl_step (fun k => ?_) y3, evl_step (fun k => ?_) y4⟩
      · rw [modular_Root.l0, and1_i64 _ n0 n1, if_neg ei]; rfl
      · rw [parquetref04_Root.l0, Int.tmod_eq_emod_of_nonneg n0, if_neg ei]; rfl
end root

/-- What Root answers at an odd prime. -/
theorem root_prime {p : Nat} (hp : Nt.isP p) (o : p % 2 = 1) (p3 : 3 ≤ p) (pM : p ≤ 1099511627776) (a : Int) :
    ∃ r : Int × Int, Evl (fun k => modular_Root.f k a p) r ∧ Evl (fun k => parquetref04_Root.f k a p) r ∧
      ((Nt.jac (a % (p : Int)).toNat p = 0 ∧ a % (p : Int) = 0 ∧ r = (0, 0)) ∨ (Nt.jac (a % (p : Int)).toNat p = -1 ∧ a % (p : Int) ≠ 0 ∧ r = (0, 41)) ∨
        (Nt.jac (a % (p : Int)).toNat p = 1 ∧ a % (p : Int) ≠ 0 ∧ ∃ y : Int, 0 ≤ y ∧ y < p ∧ y * y % p = a % p ∧ r = (mn y (p - y), 0))) := by
  obtain ⟨b, hb, P, R⟩ := prime_both p (by omega) pM
  obtain rfl : b = true := hb.2 hp
  have g := rg hp o p3 pM a
  obtain ⟨A, hA⟩ := Int.eq_ofNat_of_zero_le g.1
  have am : modular_mod.f a (p : Int) = some (A : Int) := by rw [modular_mod.f, if_pos ⟨by omega, by omega⟩, hA]
  have ar : parquetref04_Mod.f a (p : Int) = some (A : Int) := by rw [parquetref04_Mod.f, if_pos ⟨by omega, by omega⟩, hA]
  rw [hA] at g ⊢
  rw [Int.toNat_natCast]
  have Ap : A < p := by omega
  have fP : ∀ X : Nat → Option (Int × Int), ∀ r, (∀ k, modular_Root.f k a p = ((modular_Prime.f k p).bind fun bt102 => (if bt102.2 = 0 then (if bt102.1 = true then X k else (some (0, 40))) else (some (0, bt102.2))))) → Evl X r → Evl (fun k => modular_Root.f k a p) r := by
    intro X r h hX
    refine evl_congr h (Go.Proofs.YtkgejfokdmdikaaW.PrintWords.Ev.bind P (evl_congr (fun k => ?_) hX))
    rw [if_pos rfl, if_pos rfl]
  have fR : ∀ X : Nat → Option (Int × Int), ∀ r, (∀ k, parquetref04_Root.f k a p = ((parquetref04_Prime.f k p).bind fun bt102 => (if bt102.2 = 0 then (if bt102.1 = true then X k else (some (0, 40))) else (some (0, bt102.2))))) → Evl X r → Evl (fun k => parquetref04_Root.f k a p) r := by
    intro X r h hX
    refine evl_congr h (Go.Proofs.YtkgejfokdmdikaaW.PrintWords.Ev.bind R (evl_congr (fun k => ?_) hX))
    rw [if_pos rfl, if_pos rfl]
  have sM : ∀ k, modular_Root.f k a p = ((modular_Prime.f k p).bind fun bt102 => (if bt102.2 = 0 then (if bt102.1 = true then (if Nt.jac A p = 0 then (some (0, 0)) else (if Nt.jac A p = (-1) then (some (0, 41)) else (modular_Root.l0 k (A : Int) p (wrap64 ((p : Int) - 1)) 0))) else (some (0, 40))) else (some (0, bt102.2)))) := by
    intro k
    rw [modular_Root.f, if_neg (by omega), am]
    simp only [Option.bind_some, mk hp o p3 pM A Ap]
  have sR : ∀ k, parquetref04_Root.f k a p = ((parquetref04_Prime.f k p).bind fun bt102 => (if bt102.2 = 0 then (if bt102.1 = true then (if (A : Int) = 0 then (some (0, 0)) else (if (A : Int) ^ (p / 2) % (p : Int) = 1 then (parquetref04_Root.l0 k (A : Int) p (wrap64 ((p : Int) - 1)) 0) else (some (0, 41)))) else (some (0, 40))) else (some (0, bt102.2)))) := by
    intro k
    rw [parquetref04_Root.f, if_neg (by omega), ar]
    simp only [Option.bind_some, half_is hp o p3 pM, rto hp o p3 pM (A : Int) (p / 2) (by omega)]
  by_cases A0 : A = 0
  · subst A0
    have j : Nt.jac 0 p = 0 := by rw [Nt.jac_zero, if_neg (by omega)]
    refine ⟨(0, 0), fP _ _ sM (evl_congr (fun k => ?_) (evl_now _)), fR _ _ sR (evl_congr (fun k => ?_) (evl_now _)), .inl ⟨j, rfl, rfl⟩⟩
    · rw [if_pos j]
    · rw [if_pos (by rfl)]
  · have cA := hp.cop_lt (x := A) (by omega) Ap
    rcases Nt.jac_pm cA with j | j
    · obtain ⟨y, y0, y1, y2, y3, y4⟩ := l0_both hp o p3 pM A cA j (p - 1) (p - 1) 0 (Nat.le_refl _) (by omega) (by rw [Nat.pow_zero, Nat.mul_one])
      have wp : wrap64 ((p : Int) - 1) = ((p - 1 : Nat) : Int) := by rw [w64_id _ (by omega) (by omega)]; omega
      refine ⟨(mn y (p - y), 0), fP _ _ sM (evl_congr (fun k => ?_) y3), fR _ _ sR (evl_congr (fun k => ?_) y4), .inr (.inr ⟨j, by omega, y, y0, y1, ?_, rfl⟩)⟩
      · rw [j, if_neg (by decide), if_neg (by decide), wp]; rfl
      · rw [if_neg (by omega), euler_one hp o p3 pM A cA j, if_pos rfl, wp]; rfl
      · rw [y2, ← hA, Int.emod_emod_of_dvd _ (Int.dvd_refl (p : Int))]
    · have e := euler_minus hp o p3 pM A cA j
      refine ⟨(0, 41), fP _ _ sM (evl_congr (fun k => ?_) (evl_now _)), fR _ _ sR (evl_congr (fun k => ?_) (evl_now _)), .inr (.inl ⟨j, by omega, rfl⟩)⟩
      · rw [j, if_neg (by decide), if_pos rfl]
      · rw [if_neg (by omega), e, if_neg (by omega)]

theorem root_both (a p : Int) : ∃ r : Int × Int, Evl (fun k => modular_Root.f k a p) r ∧ Evl (fun k => parquetref04_Root.f k a p) r := by
  by_cases p3 : p < 3
  · refine ⟨(0, 2), evl_congr (fun k => ?_) (evl_now _), evl_congr (fun k => ?_) (evl_now _)⟩
    · rw [modular_Root.f, if_pos p3]
    · rw [parquetref04_Root.f, if_pos p3]
  · by_cases pM : p > 1099511627776
    · refine ⟨(0, 3), evl_congr (fun k => ?_) (evl_now _), evl_congr (fun k => ?_) (evl_now _)⟩
      · rw [modular_Root.f, if_neg p3, modular_Prime.f, if_pos pM, Option.bind_some, if_neg (by decide)]
      · rw [parquetref04_Root.f, if_neg p3, parquetref04_Prime.f, if_pos pM, Option.bind_some, if_neg (by decide)]
    · obtain ⟨P, rfl⟩ := Int.eq_ofNat_of_zero_le (show 0 ≤ p by omega)
      by_cases pr : Nt.isP P
      · have o : P % 2 = 1 := by
          rcases Nat.mod_two_eq_zero_or_one P with h | h
          · rcases pr.2 2 (Nat.dvd_of_mod_eq_zero h) with e | e <;> omega
          · exact h
        obtain ⟨r, h1, h2, _⟩ := root_prime pr o (by omega) (by omega) a
        exact ⟨r, h1, h2⟩
      · obtain ⟨b, hb, h1, h2⟩ := prime_both P (by omega) (by omega)
        obtain rfl : b = false := by
          cases b with
          | false => rfl
          | true => exact (pr (hb.1 rfl)).elim
        refine ⟨(0, 40), ?_, ?_⟩
        · obtain ⟨K, hK⟩ := h1
          refine ⟨K, fun k hk => ?_⟩
          have e : modular_Prime.f k (P : Int) = some (false, 0) := hK k hk
          show modular_Root.f k a (P : Int) = _
          rw [modular_Root.f, if_neg p3, e, Option.bind_some, if_pos rfl, if_neg (by decide)]
        · obtain ⟨K, hK⟩ := h2
          refine ⟨K, fun k hk => ?_⟩
          have e : parquetref04_Prime.f k (P : Int) = some (false, 0) := hK k hk
          show parquetref04_Root.f k a (P : Int) = _
          rw [parquetref04_Root.f, if_neg p3, e, Option.bind_some, if_pos rfl, if_neg (by decide)]

end Go.Proofs.Ytkgejfokdmdikaa.Rt
namespace Go.Proofs.Ytkgejfokdmdikaa.Pure
open Go Go.RowKit Go.Proofs.YtkgejfokdmdikaaW.PrintWords PModularRoots Times

theorem ModularRoots : parquetlaw04_ModularRoots.Pure := by
  intro a p _ _
  obtain ⟨r, h1, h2⟩ := Rt.root_both a p
  refine Go.Proofs.YtkgejfokdmdikaaW.PrintWords.Ev.rounds (g := fun k => parquetlaw04_ModularRoots.f k a p) ?_
  have t : Evl (fun k => parquetlaw04_ModularRoots.j0 k a p true) true := evl_step (f := fun _ => some true) (fun k => by rw [parquetlaw04_ModularRoots.j0, if_pos rfl]; rfl) (evl_now _)
  have f : Evl (fun k => parquetlaw04_ModularRoots.j0 k a p false) true := by
    refine evl_step (f := fun k => (modular_Root.f k a p).bind fun bt129 => ((parquetref04_Root.f k a p).bind fun bt131 => (if bt129.1 = bt131.1 then (if bt129.2 = bt131.2 then ((parquetlaw04_wakes.f).bind fun t133 => (some t133)) else (some false)) else (some false)))) (fun k => by rw [parquetlaw04_ModularRoots.j0, if_neg (by decide)])
      (Go.Proofs.YtkgejfokdmdikaaW.PrintWords.Ev.bind h1 (Go.Proofs.YtkgejfokdmdikaaW.PrintWords.Ev.bind h2 (evl_congr (fun k => ?_) (evl_now true))))
    rw [if_pos rfl, if_pos rfl]; rfl
  by_cases c : p > 17179869184
  · by_cases d : p ≤ 1099511627776
    · refine evl_congr (fun k => ?_) t
      rw [parquetlaw04_ModularRoots.f, if_pos c, decide_eq_true d]
    · refine evl_congr (fun k => ?_) f
      rw [parquetlaw04_ModularRoots.f, if_pos c, decide_eq_false d]
  · refine evl_congr (fun k => ?_) f
    rw [parquetlaw04_ModularRoots.f, if_neg c]
end Go.Proofs.Ytkgejfokdmdikaa.Pure
