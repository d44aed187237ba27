/- The program's product modulo m, over two words, is the product modulo m: for a and b from 0 to m - 1 and m from 1 to 2^62. Remainders, products and powers modulo m, the program's and the law's own: each is the number's. m from 1 to 2^62. The program's remainders, products and powers, and the law's own, told by what they are: contracts in the printed functions' form. -/
import Derived.Test.YtkgejfokdmdikaaQf
import Derived.Laws.Bits64
import Derived.Lib.Mul64
import Derived.Lib.ItoaNum
section
namespace Go.Proofs.Ytkgejfokdmdikaa.Times
open Go Go.RowKit Go.Proofs.YtkgejfokdmdikaaW.PrintWords Go.Proofs.YtkgejfokdmdikaaW.PrintLast Go.Proofs.YtkgejfokdmdikaaW.PrintMore PModularMuls
set_option maxRecDepth 10000
abbrev Evl {α : Type} (g : Nat → Option α) (r : α) : Prop := Go.Proofs.YtkgejfokdmdikaaW.PrintWords.Ev g r
theorem evl_step {α : Type} {g f : Nat → Option α} {r : α} (h : ∀ k, g (k + 1) = f k) (k : Evl f r) : Evl g r :=
  Go.Proofs.YtkgejfokdmdikaaW.PrintWords.Ev.step h k
theorem evl_congr {α : Type} {g f : Nat → Option α} {r : α} (h : ∀ k, g k = f k) (k : Evl f r) : Evl g r :=
  Go.Proofs.YtkgejfokdmdikaaW.PrintWords.Ev.congr h k
theorem evl_now {α : Type} (r : α) : Evl (fun _ => some r) r := ⟨0, fun _ _ => rfl⟩
theorem w_u64 (n : Int) : IntKind.u64.wrap n = n % 18446744073709551616 := IntKind.wrap_u64 n
theorem u64_id (x : Int) (h0 : 0 ≤ x) (h1 : x < 18446744073709551616) : IntKind.u64.wrap x = x := by rw [w_u64]; omega
theorem and32 (x : Int) (h0 : 0 ≤ x) (h1 : x < 18446744073709551616) : Go.bits .and .u64 x 4294967295 = x % 4294967296 := by
  obtain ⟨n, rfl⟩ := Int.eq_ofNat_of_zero_le h0
  have h := bits_and_u64_nat n 4294967295 (by omega) (by omega)
  rw [show n &&& 4294967295 = n % 4294967296 from Nat.and_two_pow_sub_one_eq_mod n 32] at h
  rw [show ((4294967295 : Nat) : Int) = 4294967295 from rfl] at h
  rw [h]; omega
theorem mul64 (x y : Nat) (hx : x < 18446744073709551616) (hy : y < 18446744073709551616) :
    bits_Mul64.f (x : Int) (y : Int) = some (((x * y / 18446744073709551616 : Nat) : Int), ((x * y % 18446744073709551616 : Nat) : Int)) := by
  obtain ⟨h1, h2, h3, h4⟩ := Lib.mul64_hi x y hx hy
  have a4 : x / 4294967296 * (y / 4294967296) < 18446744073709551616 := by
    have := Lib.half_mul_le (a := x / 4294967296) (b := y / 4294967296) (by omega) (by omega); omega
  have a5 : x / 4294967296 * (y % 4294967296) < 18446744073709551616 := by
    have := Lib.half_mul_le (a := x / 4294967296) (b := y % 4294967296) (by omega) (by omega); omega
  have a6 : x % 4294967296 * (y / 4294967296) < 18446744073709551616 := by
    have := Lib.half_mul_le (a := x % 4294967296) (b := y / 4294967296) (by omega) (by omega); omega
  have a7 : x * y / 18446744073709551616 < 18446744073709551616 := by
    have : x * y < 18446744073709551616 * 18446744073709551616 := Nat.mul_lt_mul'' hx hy
    omega
  unfold bits_Mul64.f
  rw [and32 x (by omega) (by omega), and32 y (by omega) (by omega)]
  have c1 : ((x : Int) / 4294967296) = ((x / 4294967296 : Nat) : Int) := by omega
  have c2 : ((y : Int) / 4294967296) = ((y / 4294967296 : Nat) : Int) := by omega
  have c3 : ((x : Int) % 4294967296) = ((x % 4294967296 : Nat) : Int) := by omega
  have c4 : ((y : Int) % 4294967296) = ((y % 4294967296 : Nat) : Int) := by omega
  rw [c1, c2, c3, c4]
  simp only [← Int.natCast_mul]
  generalize x / 4294967296 * (y / 4294967296) = a at *
  generalize x / 4294967296 * (y % 4294967296) = b at *
  generalize x % 4294967296 * (y / 4294967296) = c at *
  generalize x % 4294967296 * (y % 4294967296) = d at *
  generalize x * y = p at *
  have e1 : IntKind.u64.wrap (d : Int) = (d : Int) := u64_id _ (by omega) (by omega)
  have e2 : IntKind.u64.wrap (b : Int) = (b : Int) := u64_id _ (by omega) (by omega)
  have e3 : IntKind.u64.wrap (a : Int) = (a : Int) := u64_id _ (by omega) (by omega)
  have e4 : IntKind.u64.wrap (c : Int) = (c : Int) := u64_id _ (by omega) (by omega)
  rw [e1, e2, e3, e4]
  have e5 : IntKind.u64.wrap ((b : Int) + (d : Int) / 4294967296) = ((b + d / 4294967296 : Nat) : Int) := by rw [u64_id _ (by omega) (by omega)]; omega
  rw [e5, and32 _ (by omega) (by omega)]
  generalize b + d / 4294967296 = t at *
  have e6 : IntKind.u64.wrap ((t : Int) % 4294967296 + (c : Int)) = ((t % 4294967296 + c : Nat) : Int) := by rw [u64_id _ (by omega) (by omega)]; omega
  rw [e6]
  have e7 : IntKind.u64.wrap ((a : Int) + (t : Int) / 4294967296) = ((a + t / 4294967296 : Nat) : Int) := by rw [u64_id _ (by omega) (by omega)]; omega
  rw [e7]
  have e8 : IntKind.u64.wrap (((a + t / 4294967296 : Nat) : Int) + ((t % 4294967296 + c : Nat) : Int) / 4294967296) = ((p / 18446744073709551616 : Nat) : Int) := by
    rw [u64_id _ (by omega) (by omega)]; omega
  have e9 : IntKind.u64.wrap (p : Int) = ((p % 18446744073709551616 : Nat) : Int) := by rw [w_u64]; omega
  rw [e8, e9]
theorem mulle {a b A B : Int} (h0 : 0 ≤ a) (h1 : a ≤ A) (k0 : 0 ≤ b) (k1 : b ≤ B) : a * b ≤ A * B := Int.mul_le_mul h1 k1 k0 (by omega)
theorem digit {γ : Type} (y y1 y0 n u : Int) (hy : y = 4294967296 * y1 + y0) (a1 : 2147483648 ≤ y1) (a2 : y1 < 4294967296) (b1 : 0 ≤ y0) (b2 : y0 < 4294967296)
    (u1 : 0 ≤ u) (u2 : u < 4294967296) (n0 : 0 ≤ n) (n1 : n < y)
    (L : Int → Int → Nat → Option γ) (E : Int → Nat → Option γ)
    (hT : ∀ q r R, 0 ≤ q → q ≤ 4294967297 → 0 ≤ r → r < 4294967296 → (q ≥ 4294967296 ∨ (q * y0 > 4294967296 * r + u)) → r + y1 ≥ 4294967296 → Evl (E (q - 1)) R → Evl (L q r) R)
    (hL : ∀ q r R, 0 ≤ q → q ≤ 4294967297 → 0 ≤ r → r < 4294967296 → (q ≥ 4294967296 ∨ (q * y0 > 4294967296 * r + u)) → ¬ r + y1 ≥ 4294967296 → Evl (L (q - 1) (r + y1)) R → Evl (L q r) R)
    (hF : ∀ q r R, 0 ≤ q → q ≤ 4294967297 → 0 ≤ r → r < 4294967296 → ¬ (q ≥ 4294967296 ∨ (q * y0 > 4294967296 * r + u)) → Evl (E q) R → Evl (L q r) R) :
    ∀ m : Nat, ∀ q r : Int, 4294967296 - r ≤ m → 0 ≤ q → q ≤ 4294967297 → 0 ≤ r → r < 4294967296 → q * y1 + r = n → n * 4294967296 + u < q * y + y →
      ∃ q', 0 ≤ q' ∧ q' < 4294967296 ∧ q' * y ≤ n * 4294967296 + u ∧ n * 4294967296 + u < q' * y + y ∧ ∀ R, Evl (E q') R → Evl (L q r) R := by
  intro m
  induction m with
  | zero => intro q r h0 h1 h2 h3 h4; omega
  | succ m ih =>
    intro q r hm q0 q1 r0 r1 hq hJ
    have ey : q * y = 4294967296 * (q * y1) + q * y0 := by rw [hy, Int.mul_add, Int.mul_left_comm]
    have d0 : 0 ≤ q * y0 := Int.mul_nonneg q0 b1
    by_cases t : q ≥ 4294967296 ∨ (q * y0 > 4294967296 * r + u)
    · have big : n * 4294967296 + u < q * y := by
        rcases t with t | t
        · have := mulle (a := 4294967296) (b := y) (A := q) (B := y) (by omega) t (by omega) (Int.le_refl _)
          omega
        · omega
      have qpos : 1 ≤ q := by
        by_cases z : q = 0
        · subst z; omega
        · omega
      have ey' : (q - 1) * y = q * y - y := by rw [Int.sub_mul, Int.one_mul]
      have ey1 : (q - 1) * y1 = q * y1 - y1 := by rw [Int.sub_mul, Int.one_mul]
      have ey0 : (q - 1) * y0 = q * y0 - y0 := by rw [Int.sub_mul, Int.one_mul]
      by_cases b : r + y1 ≥ 4294967296
      · have dd : (q - 1) * y0 ≤ 4294967296 * 4294967295 := mulle (by omega) (by omega) b1 (by omega)
        have le : (q - 1) * y ≤ n * 4294967296 + u := by omega
        refine ⟨q - 1, by omega, ?_, le, by omega, fun R hR => hT q r R q0 q1 r0 r1 t b hR⟩
        have := mulle (a := 4294967296) (b := y) (A := q - 1) (B := y)
        by_cases g : q - 1 < 4294967296
        · exact g
        · have := this (by omega) (by omega) (by omega) (Int.le_refl _)
          omega
      · obtain ⟨q', c0, c1, c2, c3, c4⟩ := ih (q - 1) (r + y1) (by omega) (by omega) (by omega) (by omega) (by omega) (by omega) (by omega)
        exact ⟨q', c0, c1, c2, c3, fun R hR => hL q r R q0 q1 r0 r1 t b (c4 R hR)⟩
    · refine ⟨q, q0, by omega, by omega, hJ, fun R hR => hF q r R q0 q1 r0 r1 t hR⟩
theorem guess (y y1 y0 n u : Int) (hy : y = 4294967296 * y1 + y0) (a1 : 2147483648 ≤ y1) (a2 : y1 < 4294967296) (b1 : 0 ≤ y0) (b2 : y0 < 4294967296)
    (u1 : 0 ≤ u) (u2 : u < 4294967296) (n0 : 0 ≤ n) (n1 : n < y) :
    0 ≤ n / y1 ∧ n / y1 ≤ 4294967297 ∧ 0 ≤ n % y1 ∧ n % y1 < 4294967296 ∧ (n / y1) * y1 + n % y1 = n ∧ n * 4294967296 + u < (n / y1) * y + y := by
  have r0 := Int.emod_nonneg n (b := y1) (by omega)
  have r1 := Int.emod_lt_of_pos n (b := y1) (by omega)
  have e := Int.mul_ediv_add_emod n y1
  rw [Int.mul_comm] at e
  have q0 : 0 ≤ n / y1 := Int.ediv_nonneg n0 (by omega)
  generalize n / y1 = q at *
  generalize n % y1 = r at *
  have ey : q * y = 4294967296 * (q * y1) + q * y0 := by rw [hy, Int.mul_add, Int.mul_left_comm]
  have d0 : 0 ≤ q * y0 := Int.mul_nonneg q0 b1
  refine ⟨q0, ?_, r0, by omega, e, by omega⟩
  by_cases g : q ≤ 4294967297
  · exact g
  · have := mulle (a := 4294967298) (b := y1) (A := q) (B := y1) (by omega) (by omega) (by omega) (Int.le_refl _)
    omega
theorem second (x2 x8 x9 x10 x14 x15 n : Int) (hy : x2 = 4294967296 * x9 + x10) (a1 : 2147483648 ≤ x9) (a2 : x9 < 4294967296) (b1 : 0 ≤ x10) (b2 : x10 < 4294967296)
    (u1 : 0 ≤ x14) (u2 : x14 < 4294967296) (n0 : 0 ≤ n) (n1 : n < x2) (h8 : 0 ≤ x8) :
    ∃ q0 Q, 0 ≤ q0 ∧ q0 * x2 ≤ n * 4294967296 + x14 ∧ n * 4294967296 + x14 < q0 * x2 + x2 ∧
      Evl (fun k => bits_Div64.l1 k x2 x8 x9 x10 x14 x15 (n % x9) n (n / x9)) (Q, shr .u64 (n * 4294967296 + x14 - q0 * x2) x8) := by
  obtain ⟨g0, g1, g2, g3, g4, g5⟩ := guess x2 x9 x10 n x14 hy a1 a2 b1 b2 u1 u2 n0 n1
  have key := digit x2 x9 x10 n x14 hy a1 a2 b1 b2 u1 u2 n0 n1
    (L := fun q r k => bits_Div64.l1 k x2 x8 x9 x10 x14 x15 r n q)
    (E := fun q _ => some (IntKind.u64.wrap ((IntKind.u64.wrap (x15 * 4294967296)) + q), shr .u64 (IntKind.u64.wrap ((IntKind.u64.wrap ((IntKind.u64.wrap (n * 4294967296)) + x14)) - (IntKind.u64.wrap (q * x2)))) x8))
    ?_ ?_ ?_ _ (n / x9) (n % x9) (Int.self_le_toNat _) g0 g1 g2 g3 g4 g5
  · obtain ⟨q', c0, c1, c2, c3, c4⟩ := key
    refine ⟨q', IntKind.u64.wrap ((IntKind.u64.wrap (x15 * 4294967296)) + q'), c0, c2, c3, ?_⟩
    have h := c4 _ (evl_now _)
    have e : IntKind.u64.wrap ((IntKind.u64.wrap ((IntKind.u64.wrap (n * 4294967296)) + x14)) - (IntKind.u64.wrap (q' * x2))) = n * 4294967296 + x14 - q' * x2 := by
      simp only [w_u64]
      generalize q' * x2 = z at *
      omega
    rw [e] at h
    exact h
  all_goals intro q r R q0 q1 r0 r1 t
  · intro b hR
    refine evl_step (f := fun k => bits_Div64.j4 k x2 x8 x9 x10 x14 x15 r n q true) (fun k => ?_) (evl_step (fun k => ?_) hR)
    · show bits_Div64.l1 (k + 1) x2 x8 x9 x10 x14 x15 r n q = _
      rw [bits_Div64.l1]
      by_cases c : q ≥ 4294967296
      · rw [if_pos c]
      · rw [if_neg c]
        have d := mulle q0 (show q ≤ 4294967295 by omega) b1 (show x10 ≤ 4294967295 by omega)
        have d0 : 0 ≤ q * x10 := Int.mul_nonneg q0 b1
        rw [u64_id _ d0 (by omega), u64_id (4294967296 * r) (by omega) (by omega), u64_id _ (by omega) (by omega), decide_eq_true (by omega)]
    · show bits_Div64.j4 (k + 1) x2 x8 x9 x10 x14 x15 r n q true = _
      have qpos : 1 ≤ q := by
        by_cases z : q = 0
        · subst z; omega
        · omega
      rw [bits_Div64.j4, if_pos rfl, u64_id _ (by omega) (by omega), if_pos b, if_pos h8, u64_id (q - 1) (by omega) (by omega)]
  · intro b hR
    refine evl_step (f := fun k => bits_Div64.j4 k x2 x8 x9 x10 x14 x15 r n q true) (fun k => ?_) (evl_step (fun k => ?_) hR)
    · show bits_Div64.l1 (k + 1) x2 x8 x9 x10 x14 x15 r n q = _
      rw [bits_Div64.l1]
      by_cases c : q ≥ 4294967296
      · rw [if_pos c]
      · rw [if_neg c]
        have d := mulle q0 (show q ≤ 4294967295 by omega) b1 (show x10 ≤ 4294967295 by omega)
        have d0 : 0 ≤ q * x10 := Int.mul_nonneg q0 b1
        rw [u64_id _ d0 (by omega), u64_id (4294967296 * r) (by omega) (by omega), u64_id _ (by omega) (by omega), decide_eq_true (by omega)]
    · show bits_Div64.j4 (k + 1) x2 x8 x9 x10 x14 x15 r n q true = bits_Div64.l1 k x2 x8 x9 x10 x14 x15 (r + x9) n (q - 1)
      have qpos : 1 ≤ q := by
        by_cases z : q = 0
        · subst z; omega
        · omega
      rw [bits_Div64.j4, if_pos rfl, u64_id _ (by omega) (by omega), if_neg b, u64_id (q - 1) (by omega) (by omega)]
  · intro hR
    refine evl_step (f := fun k => bits_Div64.j4 k x2 x8 x9 x10 x14 x15 r n q false) (fun k => ?_) (evl_step (fun k => ?_) hR)
    · show bits_Div64.l1 (k + 1) x2 x8 x9 x10 x14 x15 r n q = _
      have d := mulle q0 (show q ≤ 4294967295 by omega) b1 (show x10 ≤ 4294967295 by omega)
      have d0 : 0 ≤ q * x10 := Int.mul_nonneg q0 b1
      rw [bits_Div64.l1, if_neg (by omega), u64_id _ d0 (by omega), u64_id (4294967296 * r) (by omega) (by omega), u64_id _ (by omega) (by omega), decide_eq_false (by omega)]
    · show bits_Div64.j4 (k + 1) x2 x8 x9 x10 x14 x15 r n q false = _
      rw [bits_Div64.j4, if_neg (by decide), if_pos h8]
theorem first (x2 x8 x9 x10 n x13 x14 : Int) (hy : x2 = 4294967296 * x9 + x10) (a1 : 2147483648 ≤ x9) (a2 : x9 < 4294967296) (b1 : 0 ≤ x10) (b2 : x10 < 4294967296)
    (u1 : 0 ≤ x13) (u2 : x13 < 4294967296) (v1 : 0 ≤ x14) (v2 : x14 < 4294967296) (n0 : 0 ≤ n) (n1 : n < x2) (h8 : 0 ≤ x8) :
    ∃ q1 q0 Q, let n' := n * 4294967296 + x13 - q1 * x2;
      0 ≤ n' * 4294967296 + x14 - q0 * x2 ∧ n' * 4294967296 + x14 - q0 * x2 < x2 ∧
      Evl (fun k => bits_Div64.l0 k x2 x8 x9 x10 n x13 x14 (n / x9) (n % x9)) (Q, shr .u64 (n' * 4294967296 + x14 - q0 * x2) x8) := by
  obtain ⟨g0, g1, g2, g3, g4, g5⟩ := guess x2 x9 x10 n x13 hy a1 a2 b1 b2 u1 u2 n0 n1
  have key := digit x2 x9 x10 n x13 hy a1 a2 b1 b2 u1 u2 n0 n1
    (L := fun q r k => bits_Div64.l0 k x2 x8 x9 x10 n x13 x14 q r)
    (E := fun q k => bits_Div64.j2 k x2 x8 x9 x10 n x13 x14 q)
    ?_ ?_ ?_ _ (n / x9) (n % x9) (Int.self_le_toNat _) g0 g1 g2 g3 g4 g5
  · obtain ⟨q', c0, c1, c2, c3, c4⟩ := key
    obtain ⟨q0, Q, z0, z1, z2, z3⟩ := second x2 x8 x9 x10 x14 q' (n * 4294967296 + x13 - q' * x2) hy a1 a2 b1 b2 v1 v2 (by omega) (by omega) h8
    refine ⟨q', q0, Q, by omega, by omega, c4 _ (evl_step (fun k => ?_) z3)⟩
    show bits_Div64.j2 (k + 1) x2 x8 x9 x10 n x13 x14 q' = _
    rw [bits_Div64.j2, if_neg (by omega)]
    have e : IntKind.u64.wrap ((IntKind.u64.wrap ((IntKind.u64.wrap (n * 4294967296)) + x13)) - (IntKind.u64.wrap (q' * x2))) = n * 4294967296 + x13 - q' * x2 := by
      simp only [w_u64]
      generalize q' * x2 = z at *
      omega
    rw [e]
    have n'0 : 0 ≤ n * 4294967296 + x13 - q' * x2 := by omega
    have n'1 : n * 4294967296 + x13 - q' * x2 < x2 := by omega
    generalize n * 4294967296 + x13 - q' * x2 = n' at *
    obtain ⟨g0, g1, g2, g3, g4, g5⟩ := guess x2 x9 x10 n' x14 hy a1 a2 b1 b2 v1 v2 n'0 n'1
    have g6 : 0 ≤ n' / x9 * x9 := Int.mul_nonneg g0 (by omega)
    rw [Int.tdiv_eq_ediv_of_nonneg n'0, u64_id (n' / x9) g0 (by omega), u64_id (n' / x9 * x9) (by omega) (by omega)]
    have e2 : IntKind.u64.wrap (n' - n' / x9 * x9) = n' % x9 := by rw [u64_id _ (by omega) (by omega)]; omega
    rw [e2]
  all_goals intro q r R q0 q1 r0 r1 t
  · intro b hR
    refine evl_step (f := fun k => bits_Div64.j1 k x2 x8 x9 x10 n x13 x14 q r true) (fun k => ?_) (evl_step (fun k => ?_) hR)
    · show bits_Div64.l0 (k + 1) x2 x8 x9 x10 n x13 x14 q r = _
      rw [bits_Div64.l0]
      by_cases c : q ≥ 4294967296
      · rw [if_pos c]
      · rw [if_neg c]
        have d := mulle q0 (show q ≤ 4294967295 by omega) b1 (show x10 ≤ 4294967295 by omega)
        have d0 : 0 ≤ q * x10 := Int.mul_nonneg q0 b1
        rw [u64_id _ d0 (by omega), u64_id (4294967296 * r) (by omega) (by omega), u64_id _ (by omega) (by omega), decide_eq_true (by omega)]
    · show bits_Div64.j1 (k + 1) x2 x8 x9 x10 n x13 x14 q r true = bits_Div64.j2 k x2 x8 x9 x10 n x13 x14 (q - 1)
      have qpos : 1 ≤ q := by
        by_cases z : q = 0
        · subst z; omega
        · omega
      rw [bits_Div64.j1, if_pos rfl, u64_id _ (by omega) (by omega), if_pos b, u64_id (q - 1) (by omega) (by omega)]
  · intro b hR
    refine evl_step (f := fun k => bits_Div64.j1 k x2 x8 x9 x10 n x13 x14 q r true) (fun k => ?_) (evl_step (fun k => ?_) hR)
    · show bits_Div64.l0 (k + 1) x2 x8 x9 x10 n x13 x14 q r = _
      rw [bits_Div64.l0]
      by_cases c : q ≥ 4294967296
      · rw [if_pos c]
      · rw [if_neg c]
        have d := mulle q0 (show q ≤ 4294967295 by omega) b1 (show x10 ≤ 4294967295 by omega)
        have d0 : 0 ≤ q * x10 := Int.mul_nonneg q0 b1
        rw [u64_id _ d0 (by omega), u64_id (4294967296 * r) (by omega) (by omega), u64_id _ (by omega) (by omega), decide_eq_true (by omega)]
    · show bits_Div64.j1 (k + 1) x2 x8 x9 x10 n x13 x14 q r true = bits_Div64.l0 k x2 x8 x9 x10 n x13 x14 (q - 1) (r + x9)
      have qpos : 1 ≤ q := by
        by_cases z : q = 0
        · subst z; omega
        · omega
      rw [bits_Div64.j1, if_pos rfl, u64_id _ (by omega) (by omega), if_neg b, u64_id (q - 1) (by omega) (by omega)]
  · intro hR
    refine evl_step (f := fun k => bits_Div64.j1 k x2 x8 x9 x10 n x13 x14 q r false) (fun k => ?_) (evl_step (fun k => ?_) hR)
    · show bits_Div64.l0 (k + 1) x2 x8 x9 x10 n x13 x14 q r = _
      have d := mulle q0 (show q ≤ 4294967295 by omega) b1 (show x10 ≤ 4294967295 by omega)
      have d0 : 0 ≤ q * x10 := Int.mul_nonneg q0 b1
      rw [bits_Div64.l0, if_neg (by omega), u64_id _ d0 (by omega), u64_id (4294967296 * r) (by omega) (by omega), u64_id _ (by omega) (by omega), decide_eq_false (by omega)]
    · show bits_Div64.j1 (k + 1) x2 x8 x9 x10 n x13 x14 q r false = bits_Div64.j2 k x2 x8 x9 x10 n x13 x14 q
      rw [bits_Div64.j1, if_neg (by decide)]
theorem or64 (a b : Nat) (ha : a < 18446744073709551616) (hb : b < 18446744073709551616) :
    bits .or .u64 (a : Int) (b : Int) = ((a ||| b : Nat) : Int) := by
  have hx : a ||| b < 2 ^ 64 := Nat.or_lt_two_pow (by omega) (by omega)
  have h1 : (BitVec.ofInt 64 (a : Int)).toNat = a := by
    rw [BitVec.ofInt_natCast, BitVec.toNat_ofNat]; exact Nat.mod_eq_of_lt (by omega)
  have h2 : (BitVec.ofInt 64 (b : Int)).toNat = b := by
    rw [BitVec.ofInt_natCast, BitVec.toNat_ofNat]; exact Nat.mod_eq_of_lt (by omega)
  show IntKind.u64.wrap ((BitVec.ofInt 64 (a : Int) ||| BitVec.ofInt 64 (b : Int)).toNat : Int) = _
  rw [BitVec.toNat_or, h1, h2, IntKind.wrap_u64]
  omega
theorem shl_nat (x s : Nat) (hs : s ≤ 64) (hx : x * 2 ^ s < 18446744073709551616) : shl .u64 (x : Int) (s : Int) = ((x * 2 ^ s : Nat) : Int) := by
  unfold shl
  rw [Int.toNat_natCast, show IntKind.u64.bits = 64 from rfl, Nat.min_eq_left hs]
  have e : (x : Int) * 2 ^ s = ((x * 2 ^ s : Nat) : Int) := by rw [Int.natCast_mul, Int.natCast_pow]; rfl
  rw [e]
  exact u64_id _ (by omega) (by omega)
theorem shl_mod (x s : Nat) (hs : s ≤ 64) : shl .u64 (x : Int) (s : Int) = ((x * 2 ^ s % 18446744073709551616 : Nat) : Int) := by
  unfold shl
  rw [Int.toNat_natCast, show IntKind.u64.bits = 64 from rfl, Nat.min_eq_left hs]
  have e : (x : Int) * 2 ^ s = ((x * 2 ^ s : Nat) : Int) := by rw [Int.natCast_mul, Int.natCast_pow]; rfl
  rw [e, w_u64]; omega
theorem shr_nat (x s : Nat) (hs : s ≤ 64) : shr .u64 (x : Int) (s : Int) = ((x / 2 ^ s : Nat) : Int) := by
  unfold shr
  rw [Int.toNat_natCast, show IntKind.u64.bits = 64 from rfl, Nat.min_eq_left hs]
  have e : ((2 : Int) ^ s) = ((2 ^ s : Nat) : Int) := by rw [Int.natCast_pow]; rfl
  rw [e]; exact (Int.natCast_ediv _ _).symm
theorem div64 (hi lo y : Nat) (h1 : hi < y) (h2 : lo < 18446744073709551616) (h3 : y < 18446744073709551616) :
    ∃ Q, Evl (fun k => bits_Div64.f k (hi : Int) (lo : Int) (y : Int)) (Q, (((hi * 18446744073709551616 + lo) % y : Nat) : Int)) := by
  by_cases z : hi = 0
  · subst z
    refine ⟨_, evl_congr (f := fun _ => some (IntKind.u64.wrap (Int.tdiv (lo : Int) (y : Int)), (((0 * 18446744073709551616 + lo) % y : Nat) : Int))) (fun k => ?_) (evl_now _)⟩
    rw [bits_Div64.f, if_neg (by omega), if_neg (by omega), if_pos (by rfl), Int.tmod_eq_emod_of_nonneg (by omega), Nat.zero_mul, Nat.zero_add]
    rfl
  · obtain ⟨L0, L1, L2⟩ := Lib.bitLenAux_bounds 64 y h3 (by omega)
    have L3 : Lib.bitLenAux 64 y ≤ 64 := Lib.bitLen_le y 64 (by omega) h3
    have hL : Lib.bitLen y = Lib.bitLenAux 64 y := rfl
    generalize Lib.bitLenAux 64 y = L at *
    obtain ⟨s, hs⟩ : ∃ s, L + s = 64 := ⟨64 - L, by omega⟩
    have tt : 2 ^ L * 2 ^ s = 18446744073709551616 := by rw [← Nat.pow_add, hs]
    have t2 : 2 ^ L = 2 * 2 ^ (L - 1) := by rw [show L = (L - 1) + 1 by omega, Nat.pow_succ, Nat.add_sub_cancel]; omega
    have t3 : 2 ^ (L - 1) * 2 ^ s = 9223372036854775808 := by rw [t2, Nat.mul_assoc] at tt; omega
    have t4 : 2 ^ (L - 1) * 2 ^ s ≤ y * 2 ^ s := Nat.mul_le_mul_right _ L1
    have t5 : (y + 1) * 2 ^ s ≤ 2 ^ L * 2 ^ s := Nat.mul_le_mul_right _ L2
    have t6 : (hi + 1) * 2 ^ s ≤ y * 2 ^ s := Nat.mul_le_mul_right _ h1
    have p0 : 0 < 2 ^ s := Nat.two_pow_pos s
    have p1 : 0 < 2 ^ L := Nat.two_pow_pos L
    rw [Nat.add_mul, Nat.one_mul] at t5 t6
    have lo0 := Nat.mod_lt lo p1
    have lo1 : (lo % 2 ^ L + 1) * 2 ^ s ≤ 2 ^ L * 2 ^ s := Nat.mul_le_mul_right _ lo0
    rw [Nat.add_mul, Nat.one_mul] at lo1
    have lo2 : lo / 2 ^ L < 2 ^ s := by
      rw [Nat.div_lt_iff_lt_mul p1, Nat.mul_comm, tt]; exact h2
    have lo3 : lo * 2 ^ s = lo / 2 ^ L * 18446744073709551616 + lo % 2 ^ L * 2 ^ s := by
      rw [← tt, ← Nat.mul_assoc, ← Nat.add_mul, Nat.mul_comm (lo / 2 ^ L), Nat.div_add_mod]
    have lo4 : lo * 2 ^ s % 18446744073709551616 = lo % 2 ^ L * 2 ^ s := by omega
    have or1 : hi * 2 ^ s ||| lo / 2 ^ L = hi * 2 ^ s + lo / 2 ^ L := by
      rw [Nat.mul_comm hi, Nat.two_pow_add_eq_or_of_lt lo2]
    have y0 : ((y * 2 ^ s : Nat) : Int) = 4294967296 * (((y * 2 ^ s : Nat) : Int) / 4294967296) + ((y * 2 ^ s : Nat) : Int) % 4294967296 := by omega
    have key := first ((y * 2 ^ s : Nat) : Int) (s : Int) (((y * 2 ^ s : Nat) : Int) / 4294967296) (((y * 2 ^ s : Nat) : Int) % 4294967296)
      ((hi * 2 ^ s + lo / 2 ^ L : Nat) : Int) (((lo * 2 ^ s % 18446744073709551616 : Nat) : Int) / 4294967296) (((lo * 2 ^ s % 18446744073709551616 : Nat) : Int) % 4294967296)
      y0 (by omega) (by omega) (by omega) (by omega) (by omega) (by omega) (by omega) (by omega) (by omega) (by omega) (by omega)
    obtain ⟨q1, q0, Q, r0, r1, E⟩ := key
    refine ⟨Q, ?_⟩
    have e0 : ((hi * 2 ^ s + lo / 2 ^ L : Nat) : Int) * 4294967296 + (((lo * 2 ^ s % 18446744073709551616 : Nat) : Int) / 4294967296) - q1 * ((y * 2 ^ s : Nat) : Int) = ((hi * 2 ^ s + lo / 2 ^ L : Nat) : Int) * 4294967296 + (((lo * 2 ^ s % 18446744073709551616 : Nat) : Int) / 4294967296) - q1 * ((y * 2 ^ s : Nat) : Int) := rfl
    have e1 : (((hi * 2 ^ s + lo / 2 ^ L : Nat) : Int) * 4294967296 + (((lo * 2 ^ s % 18446744073709551616 : Nat) : Int) / 4294967296) - q1 * ((y * 2 ^ s : Nat) : Int)) * 4294967296 + (((lo * 2 ^ s % 18446744073709551616 : Nat) : Int) % 4294967296) - q0 * ((y * 2 ^ s : Nat) : Int)
        = (((hi * 18446744073709551616 + lo : Nat) : Int) - (q1 * 4294967296 + q0) * (y : Int)) * ((2 ^ s : Nat) : Int) := by
      have a : ((hi * 2 ^ s + lo / 2 ^ L : Nat) : Int) * 18446744073709551616 + ((lo * 2 ^ s % 18446744073709551616 : Nat) : Int) = (((hi * 18446744073709551616 + lo) * 2 ^ s : Nat) : Int) := by
        rw [lo4, Nat.add_mul, lo3, Nat.mul_right_comm hi]
        omega
      have b : (((hi * 18446744073709551616 + lo : Nat) : Int) - (q1 * 4294967296 + q0) * (y : Int)) * ((2 ^ s : Nat) : Int)
          = (((hi * 18446744073709551616 + lo) * 2 ^ s : Nat) : Int) - (q1 * ((y * 2 ^ s : Nat) : Int) * 4294967296 + q0 * ((y * 2 ^ s : Nat) : Int)) := by
        rw [Int.sub_mul, ← Int.natCast_mul, Int.mul_assoc (q1 * 4294967296 + q0), ← Int.natCast_mul, Int.add_mul, Int.mul_right_comm q1]
      rw [b, ← a]
      generalize q1 * ((y * 2 ^ s : Nat) : Int) = u at *
      generalize q0 * ((y * 2 ^ s : Nat) : Int) = v at *
      omega
    simp only [e1] at r0 r1 E
    have pT : (0 : Int) < ((2 ^ s : Nat) : Int) := by omega
    rw [Int.natCast_mul] at r1
    have r0' := Int.nonneg_of_mul_nonneg_left r0 pT
    have r1' := Int.lt_of_mul_lt_mul_right r1 (Int.le_of_lt pT)
    have rem : ((hi * 18446744073709551616 + lo : Nat) : Int) - (q1 * 4294967296 + q0) * (y : Int) = (((hi * 18446744073709551616 + lo) % y : Nat) : Int) := by
      have := (Int.ediv_emod_unique (a := ((hi * 18446744073709551616 + lo : Nat) : Int)) (b := (y : Int)) (q := q1 * 4294967296 + q0) (r := ((hi * 18446744073709551616 + lo : Nat) : Int) - (q1 * 4294967296 + q0) * (y : Int)) (by omega)).2
        ⟨by rw [Int.mul_comm (y : Int)]; omega, r0', r1'⟩
      rw [← this.2]; exact (Int.natCast_emod _ _).symm
    rw [rem, ← Int.natCast_mul, shr_nat _ _ (by omega), Nat.mul_div_cancel _ p0] at E
    refine evl_congr (f := fun k => bits_Div64.l0 k _ _ _ _ _ _ _ _ _) (fun k => ?_) E
    rw [bits_Div64.f, if_neg (by omega), if_neg (by omega), if_neg (by omega), bits_LeadingZeros64.f, if_pos ⟨by omega, by omega⟩, Option.bind_some, Int.toNat_natCast, hL]
    have w1 : IntKind.u64.wrap (64 - (L : Int)) = (s : Int) := by rw [u64_id _ (by omega) (by omega)]; omega
    have w2 : IntKind.u64.wrap (64 - (s : Int)) = (L : Int) := by rw [u64_id _ (by omega) (by omega)]; omega
    rw [w1, w2, if_pos (by omega), if_pos (by omega), shl_nat y s (by omega) (by omega), if_neg (by omega), shl_nat hi s (by omega) (by omega), shr_nat lo L L3, or64 _ _ (by omega) (by omega), or1, shl_mod lo s (by omega),
      and32 _ (by omega) (by omega), and32 _ (by omega) (by omega)]
    generalize hn : ((hi * 2 ^ s + lo / 2 ^ L : Nat) : Int) = n at *
    generalize hy1 : ((y * 2 ^ s : Nat) : Int) / 4294967296 = y1 at *
    have n0 : 0 ≤ n := by omega
    have y10 : 2147483648 ≤ y1 := by omega
    obtain ⟨g0, g1, g2, g3, g4, g5⟩ := guess ((y * 2 ^ s : Nat) : Int) y1 (((y * 2 ^ s : Nat) : Int) % 4294967296) n 0 y0 y10 (by omega) (by omega) (by omega) (by omega) (by omega) n0 (by omega)
    have g6 : 0 ≤ n / y1 * y1 := Int.mul_nonneg g0 (by omega)
    rw [Int.tdiv_eq_ediv_of_nonneg n0, u64_id (n / y1) g0 (by omega), u64_id (n / y1 * y1) (by omega) (by omega)]
    have e2 : IntKind.u64.wrap (n - n / y1 * y1) = n % y1 := by rw [u64_id _ (by omega) (by omega)]; omega
    rw [e2]
theorem times (a b m : Int) (a0 : 0 ≤ a) (a1 : a < m) (b0 : 0 ≤ b) (b1 : b < m) (m1 : m ≤ 4611686018427387904) :
    Evl (fun k => modular_times.f k a b m) (a * b % m) := by
  obtain ⟨x, rfl⟩ := Int.eq_ofNat_of_zero_le a0
  obtain ⟨y, rfl⟩ := Int.eq_ofNat_of_zero_le b0
  obtain ⟨n, rfl⟩ := Int.eq_ofNat_of_zero_le (show 0 ≤ m by omega)
  have h : x * y < 18446744073709551616 * n := by
    have h1 : x * y ≤ n * y := Nat.mul_le_mul_right _ (by omega)
    have h2 : n * y ≤ n * 18446744073709551616 := Nat.mul_le_mul_left _ (by omega)
    have h3 : n * (y + 1) ≤ n * 18446744073709551616 := Nat.mul_le_mul_left _ (by omega)
    rw [Nat.mul_add] at h3
    omega
  have hh : x * y / 18446744073709551616 < n := by
    rw [Nat.div_lt_iff_lt_mul (by omega), Nat.mul_comm n]; exact h
  obtain ⟨Q, E⟩ := div64 (x * y / 18446744073709551616) (x * y % 18446744073709551616) n hh (Nat.mod_lt _ (by omega)) (by omega)
  rw [Nat.mul_comm _ 18446744073709551616, Nat.div_add_mod] at E
  have hm := Nat.mod_lt (x * y) (show 0 < n by omega)
  refine evl_congr (f := fun k => (bits_Div64.f k ((x * y / 18446744073709551616 : Nat) : Int) ((x * y % 18446744073709551616 : Nat) : Int) (n : Int)).bind fun bt105 => some (wrap64 bt105.2)) (fun k => ?_) ?_
  · rw [modular_times.f, u64_id x (by omega) (by omega), u64_id y (by omega) (by omega), u64_id n (by omega) (by omega), mul64 x y (by omega) (by omega), Option.bind_some]
  · refine Go.Proofs.YtkgejfokdmdikaaW.PrintWords.Ev.bind E ?_
    have w : wrap64 ((x * y % n : Nat) : Int) = (x : Int) * (y : Int) % (n : Int) := by
      rw [← Int.natCast_mul, ← Int.natCast_emod]; unfold wrap64; omega
    show Evl (fun _ => some (wrap64 ((x * y % n : Nat) : Int))) _
    rw [w]; exact evl_now _
end Go.Proofs.Ytkgejfokdmdikaa.Times
end
section
namespace Go.Proofs.Ytkgejfokdmdikaa.Times
open Go Go.RowKit Go.Proofs.YtkgejfokdmdikaaW.PrintWords Go.Proofs.YtkgejfokdmdikaaW.PrintLast Go.Proofs.YtkgejfokdmdikaaW.PrintMore PModularMuls
set_option maxRecDepth 10000
theorem tmod_pos (a m : Int) (hm : 0 < m) : Int.tmod a m = if 0 ≤ a ∨ a % m = 0 then a % m else a % m - m := by
  have h := Int.tmod_eq_emod (a := a) (b := m)
  by_cases p : 0 ≤ a
  · rw [if_pos (.inl p), Int.tmod_eq_emod_of_nonneg p]
  · by_cases d : a % m = 0
    · rw [if_pos (.inr d), d]; exact Int.tmod_eq_zero_of_dvd (Int.dvd_of_emod_eq_zero d)
    · rw [if_neg (by rintro (h | h); exact p h; exact d h), h, if_neg]
      · omega
      · rintro (h | h)
        · exact p h
        · exact d (Int.emod_eq_zero_of_dvd h)
theorem mod_any (a m : Int) (hm : 0 < m) (m1 : m ≤ 4611686018427387904) :
    (if m = 0 then none else (if (Int.tmod a m) < 0 then (some (wrap64 ((Int.tmod a m) + m))) else (some (Int.tmod a m)))) = some (a % m) := by
  have r0 := Int.emod_nonneg a (b := m) (by omega)
  have r1 := Int.emod_lt_of_pos a hm
  rw [if_neg (by omega), tmod_pos a m hm]
  by_cases c : 0 ≤ a ∨ a % m = 0
  · rw [if_pos c, if_neg (by omega)]
  · rw [if_neg c, if_pos (by omega)]
    congr 1
    unfold wrap64; omega
theorem mod_eq (a m : Int) (hm : 0 < m) (m1 : m ≤ 4611686018427387904) : modular_mod.f a m = some (a % m) := mod_any a m hm m1
theorem rmod_eq (a m : Int) (hm : 0 < m) (m1 : m ≤ 4611686018427387904) : parquetref04_Mod.f a m = some (a % m) := mod_any a m hm m1
theorem w64_id (x : Int) (h0 : -9223372036854775808 ≤ x) (h1 : x ≤ 9223372036854775807) : wrap64 x = x := by unfold wrap64; omega
theorem and1_i64 (x : Int) (h0 : 0 ≤ x) (h1 : x ≤ 9223372036854775807) : Go.bits .and .i64 x 1 = x % 2 := by
  obtain ⟨n, rfl⟩ := Int.eq_ofNat_of_zero_le h0
  have e1 : (BitVec.ofInt 64 (n : Int)).toNat = n := by
    rw [BitVec.ofInt_natCast, BitVec.toNat_ofNat]; exact Nat.mod_eq_of_lt (by omega)
  have e2 : (BitVec.ofInt 64 (1 : Int)).toNat = 1 := by decide
  show IntKind.i64.wrap ((BitVec.ofInt 64 (n : Int) &&& BitVec.ofInt 64 (1 : Int)).toNat : Int) = _
  rw [BitVec.toNat_and, e1, e2, Nat.and_one_is_mod, i64_w, w64_id _ (by omega) (by omega)]
  omega
theorem rtimes_loop (m : Int) (hm : 0 < m) (m1 : m ≤ 4611686018427387904) : ∀ n : Nat, ∀ a b s : Int, 0 ≤ b → b ≤ n → b ≤ 9223372036854775807 → 0 ≤ a → a < m → 0 ≤ s → s < m →
    Evl (fun k => parquetref04_Times.l0 k a b m s) ((s + a * b) % m) := by
  intro n
  induction n with
  | zero =>
    intro a b s b0 bn bM a0 a1 s0 s1
    obtain rfl : b = 0 := by omega
    rw [Int.mul_zero, Int.add_zero, Int.emod_eq_of_lt s0 s1]
    refine evl_step (f := fun _ => some s) (fun k => ?_) (evl_now _)
    rw [parquetref04_Times.l0, if_neg (by omega)]
  | succ n ih =>
    intro a b s b0 bn bM a0 a1 s0 s1
    by_cases z : b > 0
    · have g0 := Int.emod_nonneg (a + a) (b := m) (by omega)
      have g1 := Int.emod_lt_of_pos (a + a) hm
      have k0 := Int.emod_nonneg (s + a) (b := m) (by omega)
      have k1 := Int.emod_lt_of_pos (s + a) hm
      have eb : wrap64 (Int.tdiv b 2) = b / 2 := by rw [Int.tdiv_eq_ediv_of_nonneg b0, w64_id _ (by omega) (by omega)]
      have ea : Int.tmod (wrap64 (a + a)) m = (a + a) % m := by rw [w64_id _ (by omega) (by omega), Int.tmod_eq_emod_of_nonneg (by omega)]
      have es : Int.tmod (wrap64 (s + a)) m = (s + a) % m := by rw [w64_id _ (by omega) (by omega), Int.tmod_eq_emod_of_nonneg (by omega)]
      by_cases o : b % 2 = 1
      · have H := ih ((a + a) % m) (b / 2) ((s + a) % m) (by omega) (by omega) (by omega) g0 g1 k0 k1
        have q : ((s + a) % m + (a + a) % m * (b / 2)) % m = (s + a * b) % m := by
          rw [Int.emod_add_emod, Int.add_emod, Int.mul_emod, Int.emod_emod_of_dvd _ (Int.dvd_refl m), ← Int.mul_emod, ← Int.add_emod]
          congr 1
          have : b = 2 * (b / 2) + 1 := by omega
          conv => rhs; rw [this]
          rw [Int.mul_add, Int.mul_one, ← Int.mul_assoc, show a * 2 = a + a by omega]
          omega
        rw [q] at H
        refine evl_step (fun k => ?_) H
        rw [parquetref04_Times.l0, if_pos z, Int.tmod_eq_emod_of_nonneg b0, if_pos o, if_neg (by omega), ea, es, eb]
      · have H := ih ((a + a) % m) (b / 2) s (by omega) (by omega) (by omega) g0 g1 s0 s1
        have q : (s + (a + a) % m * (b / 2)) % m = (s + a * b) % m := by
          rw [Int.add_emod, Int.mul_emod, Int.emod_emod_of_dvd _ (Int.dvd_refl m), ← Int.mul_emod, ← Int.add_emod]
          congr 1
          have : b = 2 * (b / 2) := by omega
          conv => rhs; rw [this]
          rw [← Int.mul_assoc, show a * 2 = a + a by omega]
        rw [q] at H
        refine evl_step (fun k => ?_) H
        rw [parquetref04_Times.l0, if_pos z, Int.tmod_eq_emod_of_nonneg b0, if_neg o, if_neg (by omega), ea, eb]
    · obtain rfl : b = 0 := by omega
      rw [Int.mul_zero, Int.add_zero, Int.emod_eq_of_lt s0 s1]
      refine evl_step (f := fun _ => some s) (fun k => ?_) (evl_now _)
      rw [parquetref04_Times.l0, if_neg (by omega)]
theorem rtimes (a b m : Int) (a0 : 0 ≤ a) (a1 : a < m) (b0 : 0 ≤ b) (b1 : b < m) (m1 : m ≤ 4611686018427387904) :
    Evl (fun k => parquetref04_Times.f k a b m) (a * b % m) := by
  have H := rtimes_loop m (by omega) m1 b.toNat a b 0 b0 (by omega) (by omega) a0 a1 (by omega) (by omega)
  rw [Int.zero_add] at H
  exact H
theorem mul_mod_l (u v m : Int) : (u % m * v) % m = u * v % m := by
  rw [Int.mul_emod, Int.emod_emod_of_dvd _ (Int.dvd_refl m), ← Int.mul_emod]
theorem mul_mod_r (u v m : Int) : (u * (v % m)) % m = u * v % m := by
  rw [Int.mul_emod, Int.emod_emod_of_dvd _ (Int.dvd_refl m), ← Int.mul_emod]
theorem pow_mod (a m : Int) (n : Nat) : (a % m) ^ n % m = a ^ n % m := by
  induction n with
  | zero => rw [Int.pow_zero, Int.pow_zero]
  | succ n ih => rw [Int.pow_succ, Int.pow_succ, Int.mul_emod, ih, Int.emod_emod_of_dvd _ (Int.dvd_refl m), ← Int.mul_emod]
theorem pow_step (s x m : Int) (n : Nat) : (s * x ^ n) % m = if n % 2 = 1 then ((s * x % m) * (x * x % m) ^ (n / 2)) % m else (s * (x * x % m) ^ (n / 2)) % m := by
  have e : (x * x) ^ (n / 2) = x ^ (2 * (n / 2)) := by rw [Int.pow_mul, show x ^ 2 = x * x by rw [Int.pow_succ, Int.pow_succ, Int.pow_zero, Int.one_mul]]
  have c : ∀ (u v : Int) (j : Nat), (u * (v % m) ^ j) % m = (u * v ^ j) % m := by
    intro u v j
    rw [Int.mul_emod, pow_mod, ← Int.mul_emod]
  by_cases o : n % 2 = 1
  · rw [if_pos o, c, mul_mod_l, e, Int.mul_assoc, ← Int.pow_succ', show 2 * (n / 2) + 1 = n by omega]
  · rw [if_neg o, c, e, show 2 * (n / 2) = n by omega]
theorem to_loop (m : Int) (hm : 0 < m) (m1 : m ≤ 4611686018427387904) : ∀ N : Nat, ∀ n : Nat, n ≤ N → n ≤ 9223372036854775807 → ∀ x s : Int, 0 ≤ x → x < m → 0 ≤ s → s < m →
    Evl (fun k => modular_to.l0 k x (n : Int) m s) (s * x ^ n % m) ∧ Evl (fun k => parquetref04_To.l0 k x (n : Int) m s) (s * x ^ n % m) := by
  intro N
  induction N with
  | zero =>
    intro n hn hM x s x0 x1 s0 s1
    obtain rfl : n = 0 := by omega
    rw [Int.pow_zero, Int.mul_one, Int.emod_eq_of_lt s0 s1]
    refine ⟨evl_step (f := fun _ => some s) (fun k => ?_) (evl_now _), evl_step (f := fun _ => some s) (fun k => ?_) (evl_now _)⟩
    · rw [modular_to.l0, if_neg (by omega)]
    · rw [parquetref04_To.l0, if_neg (by omega)]
  | succ N ih =>
    intro n hn hM x s x0 x1 s0 s1
    by_cases z : n = 0
    · subst z
      rw [Int.pow_zero, Int.mul_one, Int.emod_eq_of_lt s0 s1]
      refine ⟨evl_step (f := fun _ => some s) (fun k => ?_) (evl_now _), evl_step (f := fun _ => some s) (fun k => ?_) (evl_now _)⟩
      · rw [modular_to.l0, if_neg (by omega)]
      · rw [parquetref04_To.l0, if_neg (by omega)]
    · have g0 := Int.emod_nonneg (x * x) (b := m) (by omega)
      have g1 := Int.emod_lt_of_pos (x * x) hm
      have k0 := Int.emod_nonneg (s * x) (b := m) (by omega)
      have k1 := Int.emod_lt_of_pos (s * x) hm
      have en : ((n : Int) / 2) = ((n / 2 : Nat) : Int) := by omega
      have ew : wrap64 (Int.tdiv (n : Int) 2) = ((n / 2 : Nat) : Int) := by rw [Int.tdiv_eq_ediv_of_nonneg (by omega), w64_id _ (by omega) (by omega), en]
      rw [pow_step]
      by_cases o : n % 2 = 1
      · rw [if_pos o]
        obtain ⟨h1, h2⟩ := ih (n / 2) (by omega) (by omega) (x * x % m) (s * x % m) g0 g1 k0 k1
        constructor
        · refine evl_step (f := fun k => (modular_times.f k s x m).bind fun t114 => ((modular_times.f k x x m).bind fun t115 => (modular_to.l0 k t115 ((n : Int) / 2) m t114))) (fun k => ?_) ?_
          · rw [modular_to.l0, if_pos (by omega), and1_i64 _ (by omega) (by omega), if_pos (by omega)]
          · refine Go.Proofs.YtkgejfokdmdikaaW.PrintWords.Ev.bind (times s x m s0 s1 x0 x1 m1) (Go.Proofs.YtkgejfokdmdikaaW.PrintWords.Ev.bind (times x x m x0 x1 x0 x1 m1) ?_)
            rw [en]; exact h1
        · refine evl_step (f := fun k => (parquetref04_Times.f k s x m).bind fun t114 => ((parquetref04_Times.f k x x m).bind fun t115 => (parquetref04_To.l0 k t115 (wrap64 (Int.tdiv (n : Int) 2)) m t114))) (fun k => ?_) ?_
          · rw [parquetref04_To.l0, if_pos (by omega), Int.tmod_eq_emod_of_nonneg (by omega), if_pos (by omega)]
          · refine Go.Proofs.YtkgejfokdmdikaaW.PrintWords.Ev.bind (rtimes s x m s0 s1 x0 x1 m1) (Go.Proofs.YtkgejfokdmdikaaW.PrintWords.Ev.bind (rtimes x x m x0 x1 x0 x1 m1) ?_)
            rw [ew]; exact h2
      · rw [if_neg o]
        obtain ⟨h1, h2⟩ := ih (n / 2) (by omega) (by omega) (x * x % m) s g0 g1 s0 s1
        constructor
        · refine evl_step (f := fun k => (modular_times.f k x x m).bind fun t115 => (modular_to.l0 k t115 ((n : Int) / 2) m s)) (fun k => ?_) ?_
          · rw [modular_to.l0, if_pos (by omega), and1_i64 _ (by omega) (by omega), if_neg (by omega)]
          · refine Go.Proofs.YtkgejfokdmdikaaW.PrintWords.Ev.bind (times x x m x0 x1 x0 x1 m1) ?_
            rw [en]; exact h1
        · refine evl_step (f := fun k => (parquetref04_Times.f k x x m).bind fun t115 => (parquetref04_To.l0 k t115 (wrap64 (Int.tdiv (n : Int) 2)) m s)) (fun k => ?_) ?_
          · rw [parquetref04_To.l0, if_pos (by omega), Int.tmod_eq_emod_of_nonneg (by omega), if_neg (by omega)]
          · refine Go.Proofs.YtkgejfokdmdikaaW.PrintWords.Ev.bind (rtimes x x m x0 x1 x0 x1 m1) ?_
            rw [ew]; exact h2
theorem to_both (a n m : Int) (n0 : 0 ≤ n) (n1 : n ≤ 9223372036854775807) (hm : 0 < m) (m1 : m ≤ 4611686018427387904) :
    Evl (fun k => modular_to.f k a n m) (a ^ n.toNat % m) ∧ Evl (fun k => parquetref04_To.f k a n m) (a ^ n.toNat % m) := by
  have r0 := Int.emod_nonneg a (b := m) (by omega)
  have r1 := Int.emod_lt_of_pos a hm
  have s0 := Int.emod_nonneg 1 (b := m) (by omega)
  have s1 := Int.emod_lt_of_pos 1 hm
  obtain ⟨h1, h2⟩ := to_loop m hm m1 n.toNat n.toNat (Nat.le_refl _) (by omega) (a % m) (1 % m) r0 r1 s0 s1
  have e : 1 % m * (a % m) ^ n.toNat % m = a ^ n.toNat % m := by
    rw [Int.mul_emod, Int.emod_emod_of_dvd _ (Int.dvd_refl m), pow_mod, ← Int.mul_emod, Int.one_mul]
  rw [e, Int.toNat_of_nonneg n0] at h1 h2
  constructor
  · refine evl_congr (fun k => ?_) h1
    rw [modular_to.f, if_neg (by omega), mod_eq a m hm m1, Option.bind_some]
  · refine evl_congr (fun k => ?_) h2
    rw [parquetref04_To.f, if_neg (by omega), rmod_eq a m hm m1, Option.bind_some]
end Go.Proofs.Ytkgejfokdmdikaa.Times
end
section
namespace Go.Proofs.Ytkgejfokdmdikaa
open Go Go.RowKit Go.Proofs.YtkgejfokdmdikaaW.PrintWords
def modular_mod.f (a0 : Int) (a1 : Int) : Option (Int) := if 0 < a1 ∧ a1 ≤ 4611686018427387904 then some (a0 % a1) else none
theorem modular_mod.calls (a0 : Int) (a1 : Int) (r : Int) (w : World) (h : modular_mod.f a0 a1 = some r) :
    Calls Try.prog 36 #[.int .i64 a0, .int .i64 a1] w fun e w' => e = .returned (.int .i64 r) ∧ Drawn0 w w' := by
  unfold modular_mod.f at h
  split at h
  · rename_i q
    obtain rfl := Option.some.inj h
    exact PModularMuls.modular_mod.calls a0 a1 _ w (Times.mod_eq a0 a1 q.1 q.2)
  · cases h
def parquetref04_Mod.f (a0 : Int) (a1 : Int) : Option (Int) := if 0 < a1 ∧ a1 ≤ 4611686018427387904 then some (a0 % a1) else none
def modular_times.f (a0 : Int) (a1 : Int) (a2 : Int) : Option (Int) := if 0 ≤ a0 ∧ a0 < a2 ∧ 0 ≤ a1 ∧ a1 < a2 ∧ a2 ≤ 4611686018427387904 then some (a0 * a1 % a2) else none
theorem modular_times.calls (a0 : Int) (a1 : Int) (a2 : Int) (r : Int) (w : World) (h : modular_times.f a0 a1 a2 = some r) :
    Calls Try.prog 38 #[.int .i64 a0, .int .i64 a1, .int .i64 a2] w fun e w' => e = .returned (.int .i64 r) ∧ Drawn0 w w' := by
  unfold modular_times.f at h
  split at h
  · rename_i q
    obtain rfl := Option.some.inj h
    obtain ⟨k, hk⟩ := Go.Proofs.YtkgejfokdmdikaaW.PrintWords.Ev.rounds (Times.times a0 a1 a2 q.1 q.2.1 q.2.2.1 q.2.2.2.1 q.2.2.2.2)
    exact PModularMuls.modular_times.calls k a0 a1 a2 _ w hk
  · cases h
def parquetref04_Times.f (a0 : Int) (a1 : Int) (a2 : Int) : Option (Int) := if 0 ≤ a0 ∧ a0 < a2 ∧ 0 ≤ a1 ∧ a1 < a2 ∧ a2 ≤ 4611686018427387904 then some (a0 * a1 % a2) else none
def modular_to.f (a0 : Int) (a1 : Int) (a2 : Int) : Option (Int) := if 0 ≤ a1 ∧ a1 ≤ 9223372036854775807 ∧ 0 < a2 ∧ a2 ≤ 4611686018427387904 then some (a0 ^ a1.toNat % a2) else none
theorem modular_to.calls (a0 : Int) (a1 : Int) (a2 : Int) (r : Int) (w : World) (h : modular_to.f a0 a1 a2 = some r) :
    Calls Try.prog 37 #[.int .i64 a0, .int .i64 a1, .int .i64 a2] w fun e w' => e = .returned (.int .i64 r) ∧ Drawn0 w w' := by
  unfold modular_to.f at h
  split at h
  · rename_i q
    obtain rfl := Option.some.inj h
    obtain ⟨k, hk⟩ := Go.Proofs.YtkgejfokdmdikaaW.PrintWords.Ev.rounds ((Times.to_both a0 a1 a2 q.1 q.2.1 q.2.2.1 q.2.2.2).1)
    exact PModularMuls.modular_to.calls k a0 a1 a2 _ w hk
  · cases h
def parquetref04_To.f (a0 : Int) (a1 : Int) (a2 : Int) : Option (Int) := if 0 ≤ a1 ∧ a1 ≤ 9223372036854775807 ∧ 0 < a2 ∧ a2 ≤ 4611686018427387904 then some (a0 ^ a1.toNat % a2) else none
end Go.Proofs.Ytkgejfokdmdikaa
end
