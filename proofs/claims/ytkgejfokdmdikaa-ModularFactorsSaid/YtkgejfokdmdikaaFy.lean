/- What modular.Factor answers: the number's primes with their exponents, by trial (Fc.facs). -/
import Derived.Test.YtkgejfokdmdikaaFw
namespace Go.Proofs.Ytkgejfokdmdikaa
open Go Go.RowKit Go.Proofs.YtkgejfokdmdikaaW.PrintWords Go.Proofs.YtkgejfokdmdikaaW.PrintLast Go.Proofs.YtkgejfokdmdikaaW.PrintMore

def modular_Factor.f (a0 : Int) : Option (List S38 × Int) := if a0 < 1 then some ([], 2) else if 1099511627776 < a0 then some ([], 3) else some (st (Fc.facs a0.toNat), 0)

theorem fy_and1 (x : Int) (h0 : 0 ≤ x) (h1 : x ≤ 9223372036854775807) : Go.bits .and .i64 x 1 = x % 2 := by
  obtain ⟨n, rfl⟩ := Int.eq_ofNat_of_zero_le h0
  have e1 : (BitVec.ofInt 64 (n : Int)).toNat = n := by
    rw [BitVec.ofInt_natCast, BitVec.toNat_ofNat]; exact Nat.mod_eq_of_lt (by omega)
  have e2 : (BitVec.ofInt 64 (1 : Int)).toNat = 1 := by decide
  show IntKind.i64.wrap ((BitVec.ofInt 64 (n : Int) &&& BitVec.ofInt 64 (1 : Int)).toNat : Int) = _
  rw [BitVec.toNat_and, e1, e2, Nat.and_one_is_mod, i64_w]
  unfold wrap64; omega

/-- what holds at the loop's head -/
def At (n p m : Int) (xs : List S38) : Prop := 2 ≤ p ∧ p ≤ 1048580 ∧ 0 < m ∧ m ≤ n ∧ (p = 2 ∨ (p % 2 = 1 ∧ m % 2 = 1)) ∧ xs.length ≤ p.toNat ∧ xs ++ st (Fc.trial p.toNat m.toNat) = st (Fc.facs n.toNat)

theorem st_app (a b : List (Nat × Nat)) : st (a ++ b) = st a ++ st b := List.map_append
theorem one_len (p k : Nat) : (Fc.one p k).length ≤ 1 := by unfold Fc.one; split <;> simp
theorem trial_next {p m : Int} (h2 : 2 ≤ p) (m0 : 0 < m) (mM : m ≤ 1099511627776) (h : p * p ≤ m) (o : p = 2 ∨ (p % 2 = 1 ∧ m % 2 = 1)) :
    (0 : Int) < (Fc.pull p.toNat m.toNat).2 ∧ (p + (1 + p % 2) = 2 ∨ ((p + (1 + p % 2)) % 2 = 1 ∧ ((Fc.pull p.toNat m.toNat).2 : Int) % 2 = 1)) ∧
    ((Fc.pull p.toNat m.toNat).2 : Int) ≤ m ∧ p ≤ 1048576 ∧
      st (Fc.trial p.toNat m.toNat) = st (Fc.one p.toNat (Fc.pull p.toNat m.toNat).1) ++ st (Fc.trial (p + (1 + p % 2)).toNat ((Fc.pull p.toNat m.toNat).2 : Int).toNat) := by
  obtain ⟨P, rfl⟩ : ∃ P : Nat, p = P := ⟨p.toNat, by omega⟩
  obtain ⟨M, rfl⟩ : ∃ M : Nat, m = M := ⟨m.toNat, by omega⟩
  have hM : P * P ≤ M := by rw [← Int.natCast_mul] at h; omega
  have P2 : 2 ≤ P := by omega
  simp only [Int.toNat_natCast]
  obtain ⟨e, nd, k0, le, _⟩ := Fc.pull_is P P2 M M (Nat.le_refl _) (by omega)
  have small : P ≤ 1048576 := by
    rcases Nat.lt_or_ge 1048576 P with l | l
    · have : 1048577 * 1048577 ≤ P * P := Nat.mul_le_mul l l
      omega
    · exact l
  have odd : P = 2 ∨ (P % 2 = 1 ∧ M % 2 = 1) := by omega
  have rest : (Fc.pull P M).2 % 2 = 1 := by
    rcases odd with rfl | ⟨_, o⟩
    · rcases Nat.mod_two_eq_zero_or_one (Fc.pull 2 M).2 with z | z
      · exact (nd (Nat.dvd_of_mod_eq_zero z)).elim
      · exact z
    · rcases Nat.mod_two_eq_zero_or_one (Fc.pull P M).2 with z | z
      · have d : 2 ∣ M := by rw [e]; exact Nat.dvd_trans (Nat.dvd_of_mod_eq_zero z) (Nat.dvd_mul_left _ _)
        have := Nat.mod_eq_zero_of_dvd d; omega
      · exact z
  refine ⟨by omega, by omega, by omega, by omega, ?_⟩
  rw [Fc.trial_step P2 hM, st_app]
  congr 1
  rcases odd with rfl | ⟨o, _⟩
  · rfl
  · have nd2 : ¬ (P + 1) ∣ (Fc.pull P M).2 := fun d => by
      have d2 : 2 ∣ P + 1 := by omega
      have := Nat.mod_eq_zero_of_dvd (Nat.dvd_trans d2 d); omega
    rw [Fc.trial_skip (by omega) nd2, show (((P : Int) + (1 + (P : Int) % 2)).toNat) = P + 1 + 1 by omega]
theorem trial_last {p m : Int} (h2 : 2 ≤ p) (m0 : 0 < m) (h : m < p * p) (hm : 1 < m) : st (Fc.trial p.toNat m.toNat) = st (Fc.one m.toNat (Fc.pull m.toNat m.toNat).1) := by
  obtain ⟨P, rfl⟩ : ∃ P : Nat, p = P := ⟨p.toNat, by omega⟩
  obtain ⟨M, rfl⟩ : ∃ M : Nat, m = M := ⟨m.toNat, by omega⟩
  have hM : M < P * P := by rw [← Int.natCast_mul] at h; omega
  simp only [Int.toNat_natCast]
  have e : M / M = 1 := Nat.div_self (by omega)
  rw [Fc.trial_stop hM, if_pos (by omega), Fc.pull_step (by omega) (by omega) (Nat.mod_self M), e, Fc.pull_stop (by rw [Nat.mod_eq_of_lt (by omega)]; omega)]
  rfl
theorem trial_none {p m : Int} (h2 : 2 ≤ p) (m0 : 0 < m) (h : m < p * p) (hm : m ≤ 1) : st (Fc.trial p.toNat m.toNat) = [] := by
  obtain ⟨P, rfl⟩ : ∃ P : Nat, p = P := ⟨p.toNat, by omega⟩
  obtain ⟨M, rfl⟩ : ∃ M : Nat, m = M := ⟨m.toNat, by omega⟩
  have hM : M < P * P := by rw [← Int.natCast_mul] at h; omega
  simp only [Int.toNat_natCast]
  rw [Fc.trial_stop hM, if_neg (by omega)]
  rfl

set_option maxRecDepth 100000 in
set_option maxHeartbeats 3200000 in
theorem modular_Factor.calls (a0 : Int) (r1 : List S38) (r2 : Int) (w : World) (h : modular_Factor.f a0 = some (r1, r2)) :
    Calls Try.prog 19 #[.int .i64 a0] w fun e w' => ∃ v0_ : Value, e = .returned (.tuple #[v0_, .int .i64 r2]) ∧ Kd.R k38 38 w' w.heap.size (fun _ => True) v0_ r1 ∧ Below w.heap.size w w' := by
  have hmf : ∀ (fn : Fn) (first cap : Array Value) (w : World), (Instr.makeFunc fn first cap).run Try.prog w = .ok (.func fn first cap) w := fun _ _ _ _ => rfl
  have HB := Aside0.mk (Below.refl w.heap.size w)
  unfold modular_Factor.f at h
  by_cases c2 : a0 < 1
  · rw [if_pos c2] at h
    have c2b0 : decide (a0 < 1) = true := decide_eq_true c2
    simp only [Option.some.injEq, Prod.mk.injEq] at h
    obtain ⟨rfl, rfl⟩ := h
    clear c2
    go_enter Try.func19, Try.ntmps19
    go_wp2
    go_ret2
    exact ⟨_, rfl, Kd.R_nil _ _ _ _ _, by repeat (first | (with_reducible first | exact HB.out | apply below_alloc | apply pw_below_drewN | apply below_drew1) | exact HB.out)⟩
  · rw [if_neg c2] at h
    have c2b0 : decide (a0 < 1) = false := decide_eq_false c2
    by_cases c3 : 1099511627776 < a0
    · rw [if_pos c3] at h
      have c3b0 : decide (1099511627776 < a0) = true := decide_eq_true c3
      simp only [Option.some.injEq, Prod.mk.injEq] at h
      obtain ⟨rfl, rfl⟩ := h
      clear c3 c2
      go_enter Try.func19, Try.ntmps19
      go_wp2
      go_ret2
      exact ⟨_, rfl, Kd.R_nil _ _ _ _ _, by repeat (first | (with_reducible first | exact HB.out | apply below_alloc | apply pw_below_drewN | apply below_drew1) | exact HB.out)⟩
    · rw [if_neg c3] at h
      have c3b0 : decide (1099511627776 < a0) = false := decide_eq_false c3
      simp only [Option.some.injEq, Prod.mk.injEq] at h
      obtain ⟨rfl, rfl⟩ := h
      go_enter Try.func19, Try.ntmps19
      have P0 : Aside0 (Put w.heap.size w.heap.size (w.heap.size + 1) w a0 [] ((w.alloc (.cells #[.int .i64 a0] 2)).alloc (.cells #[.slice none 0 0] 30))) :=
        ⟨_, by rw [Below.heap_alloc _ _ _ (by simp)]; exact heap_alloc_new _ _, by have := heap_alloc_new (w.alloc (.cells #[.int .i64 a0] 2)) (.cells #[.slice none 0 0] 30); simpa using this, Kd.R_nil _ _ _ _ _, ((HB.out.alloc (Nat.le_refl _) _).alloc (by simp) _)⟩
      go_wp2
      go_loopg [6] 1048600 (fun gk v6 wr => ∃ (p m : Int) (xs : List S38), v6 = .int .i64 p ∧ Aside0 (At a0 p m xs) ∧ Aside0 (1048600 - p.toNat ≤ gk) ∧ Aside0 (Put w.heap.size w.heap.size (w.heap.size + 1) w m xs wr))
      case atStart => exact ⟨2, a0, [], rfl, ⟨by omega, by omega, by omega, by omega, .inl rfl, by simp, by simp [Fc.facs]⟩, ⟨by omega⟩, P0⟩
      case round =>
        clear P0 HB
        obtain ⟨p, m, xs, rfl, HA, g, P⟩ := hrel
        obtain ⟨a2, pM, m0, mn, odd, xl, eq⟩ := HA.out
        clear HA
        have E := Aside0.mk eq
        have O := Aside0.mk odd
        have X := Aside0.mk xl
        clear eq odd xl
        have sq0 : 0 ≤ p * p := Int.mul_nonneg (by omega) (by omega)
        have sq1 : p * p ≤ 1099520016400 := by have := Int.mul_le_mul pM pM (by omega) (by omega); omega
        obtain ⟨v, cn, cl, ho, hb⟩ := P.out
        have c1 := cell_of_one cn
        have c2' := cell_of_one cl
        have C1 := Aside0.mk cn
        have C2 := Aside0.mk cl
        have C3 := Aside0.mk ho
        have C4 := Aside0.mk hb
        clear cn cl ho hb
        by_cases hpp : p * p ≤ m
        · go_wp2_with (go_at_call 42; refine (put_calls w.heap.size w.heap.size (w.heap.size + 1) p m v xs w wr a2 (by omega) m0 (by omega) (by have := X.out; omega) (Nat.le_refl _) (by omega) (by omega) C1.out C2.out C3.out C4.out).mono ?_; rintro e w2 ⟨rfl, hput⟩; have HP := Aside0.mk hput; clear hput)
          have e : wrap64 (p + wrap64 (1 + Go.bits .and .i64 p 1)) = p + (1 + p % 2) := by
            clear C1 C2 C3 C4 E O X g c2b0 c3b0
            rw [fy_and1 _ (by omega) (by omega)]
            simp only [wrap64]; omega
          rw [e]
          obtain ⟨x1, x2, x4, x5, x3⟩ := trial_next a2 m0 (by omega) hpp O.out
          go_roundg (1048600 - (p + (1 + p % 2)).toNat)
          case measure => have := g.out; omega
          case rel =>
            refine ⟨p + (1 + p % 2), _, _, rfl, ⟨⟨by omega, by omega, x1, by omega, x2, ?_, ?_⟩⟩, ⟨Nat.le_refl _⟩, HP⟩
            · have := X.out; have := one_len p.toNat (Fc.pull p.toNat m.toNat).1; simp [st]; omega
            · rw [← E.out, x3, List.append_assoc]
        · go_wp2_with (go_at_call 42; refine (put_calls w.heap.size w.heap.size (w.heap.size + 1) m m v xs w wr (by omega) (by omega) m0 (by omega) (by have := X.out; omega) (Nat.le_refl _) (by omega) (by omega) C1.out C2.out C3.out C4.out).mono ?_; rintro e w2 ⟨rfl, hput⟩; obtain ⟨v2, cn2, cl2, ho2, hb2⟩ := hput; have c4 := cell_of_one cl2; have D3 := Aside0.mk ho2; have D4 := Aside0.mk hb2; clear cn2 cl2 ho2 hb2)
          · go_ret2
            refine ⟨v2, rfl, ?_, D4.out⟩
            have hm : 1 < m := by assumption
            have t := trial_last a2 m0 hpp hm
            rw [← E.out, t]; exact D3.out
          · go_ret2
            refine ⟨v, rfl, ?_, C4.out⟩
            have hm : m ≤ 1 := by assumption
            have t := trial_none a2 m0 hpp hm
            rw [← E.out, t, List.append_nil]; exact C3.out
end Go.Proofs.Ytkgejfokdmdikaa
