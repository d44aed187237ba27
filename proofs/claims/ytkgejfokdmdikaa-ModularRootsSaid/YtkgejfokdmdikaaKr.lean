/- The program's Kronecker symbol is the symbol: of any two numbers of 64 bits. -/
import Derived.Test.YtkgejfokdmdikaaPureModularKroneckers
import Derived.Test.YtkgejfokdmdikaaNt2
namespace Go.Proofs.Ytkgejfokdmdikaa.Nt

/-- the symbol at 2 -/
def two8 (a : Int) : Int := if a % 8 = 1 ∨ a % 8 = 7 then 1 else if a % 8 = 3 ∨ a % 8 = 5 then -1 else 0
/-- the symbol of a at n from 1 on -/
def kronN (a : Int) (n : Nat) : Int := if n % 2 = 0 ∧ 0 < n then two8 a * kronN a (n / 2) else jac (a % (n : Int)).toNat n
termination_by n
decreasing_by omega
/-- the symbol of any two numbers -/
def kron (a n : Int) : Int := if n = 0 then (if a = 1 ∨ a = -1 then 1 else 0) else (if n < 0 ∧ a < 0 then -1 else 1) * kronN a n.natAbs

theorem kronN_even (a : Int) (n : Nat) (h : n % 2 = 0) (h0 : 0 < n) : kronN a n = two8 a * kronN a (n / 2) := by
  rw [kronN, if_pos ⟨h, h0⟩]
theorem kronN_odd (a : Int) (n : Nat) (h : n % 2 = 1) : kronN a n = jac (a % (n : Int)).toNat n := by
  rw [kronN, if_neg (by omega)]
end Go.Proofs.Ytkgejfokdmdikaa.Nt

namespace Go.Proofs.Ytkgejfokdmdikaa.Kr
open Go Go.RowKit Go.Proofs.YtkgejfokdmdikaaW.PrintWords PModularKroneckers _root_.Go.Proofs.Ytkgejfokdmdikaa.Pure Nt
set_option maxRecDepth 10000

theorem l2_is (N : Nat) (IH : ∀ m b : Nat, m % 2 = 1 → m < 18446744073709551616 → b ≤ N → b < 18446744073709551616 → ∀ s, Sg s → Evl (fun k => modular_Kronecker.l1 k s m b) (s * Nt.jac b m)) :
    ∀ q : Nat, ∀ m c : Nat, m % 2 = 1 → m < 18446744073709551616 → 0 < c → c ≤ q → c ≤ N + 1 → c < 18446744073709551616 → ∀ s, Sg s → Evl (fun k => modular_Kronecker.l2 k s m c) (s * Nt.jac c m) := by
  intro q
  induction q with
  | zero => intro m c _ _ h1 h2; omega
  | succ q ih =>
    intro m c m1 m2 c0 cq cn c2 s hs
    have ec : ((c : Int) / 2) = ((c / 2 : Nat) : Int) := by omega
    have et : Int.tmod (m : Int) (c : Int) = ((m % c : Nat) : Int) := by rw [tm m c (by omega)]; exact (Int.natCast_emod _ _).symm
    by_cases ev : c % 2 = 0
    · have hj : Nt.jac c m = Nt.jac 2 m * Nt.jac (c / 2) m := by rw [← jac_mul m1]; congr 1; omega
      have h2 : Sg (Nt.jac 2 m) := by rw [jac_two m1]; split <;> simp [Sg]
      have e2 : modular_two.f (m : Int) = some (Nt.jac 2 m) := by
        rw [two_eq (m : Int) (by omega) (by omega), jac_two m1]
        congr 1
        by_cases t : m % 8 = 1 ∨ m % 8 = 7
        · rw [if_pos (by omega), if_pos t]
        · rw [if_neg (by omega), if_neg t, if_pos (by omega)]
      have H := ih m (c / 2) m1 m2 (by omega) (by omega) (by omega) (by omega) (s * Nt.jac 2 m) (hs.mul h2)
      rw [Int.mul_assoc, ← hj] at H
      refine evl_step (fun k => ?_) H
      rw [modular_Kronecker.l2, and1 c (by omega) (by omega), if_pos (by omega), e2, Option.bind_some, (hs.mul h2).w, ec]
    · have lt := Nat.mod_lt m c0
      have H := IH c (m % c) (by omega) c2 (by omega) (by omega)
      rw [jac_mod] at H
      have hj := jac_rec (m := c) (n := m) (by omega) m1
      by_cases t : c % 4 = 3 ∧ m % 4 = 3
      · rw [if_pos t] at hj
        have H := H (-1 * s) (Sg.mul (.inr rfl) hs)
        have e : -1 * s * Nt.jac m c = s * Nt.jac c m := by rw [hj, Int.mul_comm (-1) s, Int.mul_assoc]
        rw [e] at H
        refine evl_step (fun k => ?_) H
        rw [modular_Kronecker.l2, and1 c (by omega) (by omega), if_neg (by omega), and3 c (by omega) (by omega), if_pos (by omega), and3 m (by omega) (by omega), if_pos (by omega),
          if_neg (by omega), hs.wn, et]
      · rw [if_neg t, Int.one_mul] at hj
        have H := H s hs
        rw [← hj] at H
        refine evl_step (fun k => ?_) H
        rw [modular_Kronecker.l2, and1 c (by omega) (by omega), if_neg (by omega), and3 c (by omega) (by omega), and3 m (by omega) (by omega), et]
        by_cases t1 : c % 4 = 3
        · rw [if_pos (by omega), if_neg (by omega), if_neg (by omega)]
        · rw [if_neg (by omega), if_neg (by omega)]

theorem l1_is : ∀ N : Nat, ∀ m b : Nat, m % 2 = 1 → m < 18446744073709551616 → b ≤ N → b < 18446744073709551616 → ∀ s, Sg s → Evl (fun k => modular_Kronecker.l1 k s m b) (s * Nt.jac b m) := by
  intro N
  have z : ∀ m : Nat, ∀ s, Evl (fun k => modular_Kronecker.l1 k s m ((0 : Nat) : Int)) (s * Nt.jac 0 m) := by
    intro m s
    refine evl_step (f := fun _ => some (s * Nt.jac 0 m)) (fun k => ?_) (evl_now _)
    rw [modular_Kronecker.l1, if_pos (by rfl), jac_zero]
    by_cases h : m = 1
    · rw [if_pos (by omega), if_pos h, Int.mul_one]
    · rw [if_neg (by omega), if_neg h, Int.mul_zero]
  induction N with
  | zero =>
    intro m b _ _ hb _ s _
    obtain rfl : b = 0 := by omega
    exact z m s
  | succ N ih =>
    intro m b m1 m2 bn b2 s hs
    by_cases h : b = 0
    · subst h; exact z m s
    · refine evl_step (fun k => ?_) (l2_is N ih (N + 1) m b m1 m2 (by omega) bn bn b2 s hs)
      rw [modular_Kronecker.l1, if_neg (by omega)]

theorem resid_is (a : Int) (n : Nat) (n0 : 0 < n) (n2 : n ≤ 9223372036854775808) (a0 : -9223372036854775808 ≤ a) (a1 : a ≤ 9223372036854775807) : resid a n = a % (n : Int) := by
  unfold resid
  by_cases h : a < 0
  · have e1 : IntKind.u64.wrap (-(IntKind.u64.wrap a)) = -a := by rw [IntKind.wrap_u64, IntKind.wrap_u64]; omega
    have r0 := Int.emod_nonneg (-a) (b := (n : Int)) (by omega)
    have r1 := Int.emod_lt_of_pos (-a) (b := (n : Int)) (by omega)
    rw [if_pos h, e1, tm (-a) n (by omega), u64_id _ (by omega) (by omega), tm _ n (by omega)]
    have d := Int.mul_ediv_add_emod (-a) (n : Int)
    have e2 : (n : Int) - (-a) % (n : Int) = a + (n : Int) * ((-a) / (n : Int) + 1) := by rw [Int.mul_add]; omega
    rw [e2]; exact Int.add_mul_emod_self_left _ _ _
  · rw [if_neg h, u64_id a (by omega) (by omega), tm a n (by omega)]

theorem l0_is (a : Int) (a0 : -9223372036854775808 ≤ a) (a1 : a ≤ 9223372036854775807) : ∀ q : Nat, ∀ n : Nat, 0 < n → n ≤ q → n ≤ 9223372036854775808 → ∀ s, Sg s ∨ s = 0 → Evl (fun k => modular_Kronecker.l0 k a s n) (s * kronN a n) := by
  intro q
  induction q with
  | zero => intro n h0 h1; omega
  | succ q ih =>
    intro n n0 nq n2 s hs
    by_cases ev : n % 2 = 0
    · have ht : Sg (two8 a) ∨ two8 a = 0 := by unfold two8 Sg; split; · simp
                                               split <;> simp
      have hst : Sg (s * two8 a) ∨ s * two8 a = 0 := by
        rcases hs with hs | rfl
        · rcases ht with ht | ht
          · exact .inl (hs.mul ht)
          · exact .inr (by rw [ht, Int.mul_zero])
        · exact .inr (Int.zero_mul _)
      have H := ih (n / 2) (by omega) (by omega) (by omega) (s * two8 a) hst
      rw [Int.mul_assoc, ← kronN_even a n ev n0] at H
      have w8 : IntKind.u64.wrap a % 8 = a % 8 := by rw [IntKind.wrap_u64]; omega
      have ww : wrap64 (s * two8 a) = s * two8 a := by
        rcases hst with h | h
        · exact h.w
        · rw [h]; exact w64_id 0 (by omega) (by omega)
      have en : ((n : Int) / 2) = ((n / 2 : Nat) : Int) := by omega
      refine evl_step (fun k => ?_) H
      rw [modular_Kronecker.l0, and1 n (by omega) (by omega), if_pos (by omega), two_eq _ (u64_ge _).1 (u64_ge _).2, w8, Option.bind_some, en]
      show modular_Kronecker.l0 k a (wrap64 (s * two8 a)) ((n / 2 : Nat) : Int) = _
      rw [ww]
    · rcases hs with hs | rfl
      · have r := resid_is a n n0 n2 a0 a1
        have r0 := Int.emod_nonneg a (b := (n : Int)) (by omega)
        have r1 := Int.emod_lt_of_pos a (b := (n : Int)) (by omega)
        have H := l1_is (a % (n : Int)).toNat n (a % (n : Int)).toNat (by omega) (by omega) (Nat.le_refl _) (by omega) s hs
        rw [Int.toNat_of_nonneg r0, ← kronN_odd a n (by omega)] at H
        refine evl_step (f := fun k => modular_Kronecker.j2 k s n (resid a n)) (fun k => ?_) (evl_step (fun k => ?_) H)
        · rw [modular_Kronecker.l0, and1 n (by omega) (by omega), if_neg (by omega), if_neg (by rcases hs with h | h <;> omega), if_neg (by omega)]
          unfold resid
          by_cases h : a < 0
          · rw [if_pos h, if_pos h]
          · rw [if_neg h, if_neg h]
        · rw [modular_Kronecker.j2, r]
      · rw [Int.zero_mul]
        refine evl_step (f := fun _ => some 0) (fun k => ?_) (evl_now _)
        rw [modular_Kronecker.l0, and1 n (by omega) (by omega), if_neg (by omega), if_pos rfl]

/-- The program's symbol is the symbol. -/
theorem kronecker (a n : Int) (a0 : -9223372036854775808 ≤ a) (a1 : a ≤ 9223372036854775807) (n0 : -9223372036854775808 ≤ n) (n1 : n ≤ 9223372036854775807) :
    Evl (fun k => modular_Kronecker.f k a n) (kron a n) := by
  unfold kron
  by_cases z : n = 0
  · rw [if_pos z]
    refine evl_congr (f := fun _ => some (if a = 1 ∨ a = -1 then 1 else 0)) (fun k => ?_) (evl_now _)
    rw [modular_Kronecker.f, if_pos z]
    by_cases h : a = 1
    · rw [if_pos h, if_pos (.inl h)]
    · rw [if_neg h]
      by_cases h' : a = -1
      · rw [if_pos h', if_pos (.inr h')]
      · rw [if_neg h', if_neg (by omega)]
  · rw [if_neg z]
    by_cases neg : n < 0
    · have hb : IntKind.u64.wrap (-(IntKind.u64.wrap n)) = ((n.natAbs : Nat) : Int) := by rw [IntKind.wrap_u64, IntKind.wrap_u64]; omega
      have H := l0_is a a0 a1 n.natAbs n.natAbs (by omega) (Nat.le_refl _) (by omega)
      by_cases na : a < 0
      · rw [if_pos ⟨neg, na⟩]
        refine evl_congr (f := fun k => modular_Kronecker.j0 k a (-1) (n.natAbs : Int)) (fun k => ?_) (evl_step (fun k => ?_) (H (-1) (.inl (.inr rfl))))
        · rw [modular_Kronecker.f, if_neg z, if_pos neg, if_pos na, hb]
        · rw [modular_Kronecker.j0]
      · rw [if_neg (fun h => na h.2)]
        refine evl_congr (f := fun k => modular_Kronecker.j0 k a 1 (n.natAbs : Int)) (fun k => ?_) (evl_step (fun k => ?_) (H 1 (.inl (.inl rfl))))
        · rw [modular_Kronecker.f, if_neg z, if_pos neg, if_neg na, hb]
        · rw [modular_Kronecker.j0]
    · have hb : IntKind.u64.wrap n = ((n.natAbs : Nat) : Int) := by rw [IntKind.wrap_u64]; omega
      have H := l0_is a a0 a1 n.natAbs n.natAbs (by omega) (Nat.le_refl _) (by omega)
      rw [if_neg (fun h => neg h.1)]
      refine evl_congr (f := fun k => modular_Kronecker.j0 k a 1 (n.natAbs : Int)) (fun k => ?_) (evl_step (fun k => ?_) (H 1 (.inl (.inl rfl))))
      · rw [modular_Kronecker.f, if_neg z, if_neg neg, hb]
      · rw [modular_Kronecker.j0]
end Go.Proofs.Ytkgejfokdmdikaa.Kr

namespace Go.Proofs.Ytkgejfokdmdikaa
open Go Go.RowKit Go.Proofs.YtkgejfokdmdikaaW.PrintWords
def modular_Kronecker.f (a0 : Int) (a1 : Int) : Option (Int) :=
  if (-9223372036854775808 ≤ a0 ∧ a0 ≤ 9223372036854775807) ∧ (-9223372036854775808 ≤ a1 ∧ a1 ≤ 9223372036854775807) then some (Nt.kron a0 a1) else none
theorem modular_Kronecker.calls (a0 : Int) (a1 : Int) (r : Int) (w : World) (h : modular_Kronecker.f a0 a1 = some r) :
    Calls Try.prog 12 #[.int .i64 a0, .int .i64 a1] w fun e w' => e = .returned (.int .i64 r) ∧ Drawn0 w w' := by
  unfold modular_Kronecker.f at h
  split at h
  · rename_i q
    obtain rfl := Option.some.inj h
    obtain ⟨k, hk⟩ := Go.Proofs.YtkgejfokdmdikaaW.PrintWords.Ev.rounds (Kr.kronecker a0 a1 q.1.1 q.1.2 q.2.1 q.2.2)
    exact PModularKroneckers.modular_Kronecker.calls k a0 a1 _ w hk
  · cases h
end Go.Proofs.Ytkgejfokdmdikaa
