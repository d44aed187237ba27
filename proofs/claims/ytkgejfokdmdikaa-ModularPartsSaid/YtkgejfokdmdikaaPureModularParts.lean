/- The primes of a number make it, and its divisors stand in pairs: the plain law, for every number from 1 to 2^32 (near brings any there). No condition. -/
import Derived.Test.YtkgejfokdmdikaaRtG
namespace Go.Proofs.Ytkgejfokdmdikaa.Pure
open Go Go.RowKit Go.Proofs.Ytkgejfokdmdikaa.PModularParts Go.Proofs.YtkgejfokdmdikaaW.PrintWords Go.Proofs.YtkgejfokdmdikaaW.PrintLast Go.Proofs.Ytkgejfokdmdikaa.RtG Go.Proofs.Ytkgejfokdmdikaa
set_option maxRecDepth 10000

theorem tmod_pos (x y : Int) (hy : 0 < y) : Int.tmod x y = if 0 ≤ x ∨ x % y = 0 then x % y else x % y - y := by
  rw [Int.tmod_eq_emod]
  by_cases c : 0 ≤ x ∨ x % y = 0
  · rw [if_pos c, if_pos (by rcases c with c | c; · exact .inl c
                             · exact .inr (Int.dvd_of_emod_eq_zero c))]; omega
  · rw [if_neg c, if_neg (fun h => c (by rcases h with h | h; · exact .inl h
                                         · exact .inr (Int.emod_eq_zero_of_dvd h)))]
    omega
theorem near_of (n most : Int) (m0 : 0 < most) (m1 : most ≤ 4611686018427387904) :
    parquetlaw04_near.f n most = some (n % most + 1) := by
  have r0 := Int.emod_nonneg n (b := most) (by omega)
  have r1 := Int.emod_lt_of_pos n m0
  have t : Int.tmod (wrap64 ((Int.tmod n most) + most)) most = n % most := by
    rw [tmod_pos n most m0]
    by_cases c : 0 ≤ n ∨ n % most = 0
    · rw [if_pos c, w64_id _ (by omega) (by omega), Int.tmod_eq_emod_of_nonneg (by omega), Int.add_emod_right, Int.emod_eq_of_lt r0 r1]
    · rw [if_neg c, show n % most - most + most = n % most by omega, w64_id _ (by omega) (by omega), Int.tmod_eq_emod_of_nonneg (by omega), Int.emod_eq_of_lt r0 r1]
  rw [parquetlaw04_near.f, if_neg (by omega), t, w64_id _ (by omega) (by omega)]
theorem near_is (a : Int) : ∃ n : Nat, 1 ≤ n ∧ n ≤ 4294967296 ∧ parquetlaw04_near.f a 4294967296 = some (n : Int) := by
  have r0 := Int.emod_nonneg a (b := 4294967296) (by omega)
  have r1 := Int.emod_lt_of_pos a (b := 4294967296) (by omega)
  refine ⟨(a % 4294967296 + 1).toNat, by omega, by omega, ?_⟩
  rw [near_of a 4294967296 (by omega) (by omega)]
  congr 1; omega

theorem wadd1 (i : Nat) (h : i ≤ 1099511627776) : wrap64 ((i : Int) + 1) = ((i + 1 : Nat) : Int) := by rw [w64_id _ (by omega) (by omega)]; rfl
theorem wsub1 (i : Nat) (h0 : 0 < i) (h : i ≤ 1099511627776) : wrap64 ((i : Int) - 1) = ((i - 1 : Nat) : Int) := by rw [w64_id _ (by omega) (by omega)]; omega
theorem wsub (i j : Nat) (h0 : j ≤ i) (h : i ≤ 1099511627776) : wrap64 ((i : Int) - (j : Int)) = ((i - j : Nat) : Int) := by rw [w64_id _ (by omega) (by omega)]; omega
theorem wmul (a b : Nat) (h : a * b ≤ 1099511627776) : wrap64 ((a : Int) * (b : Int)) = ((a * b : Nat) : Int) := by rw [← Int.natCast_mul, w64_id _ (by omega) (by omega)]
theorem wid (n : Nat) (h : n ≤ 1099511627776) : wrap64 (n : Int) = (n : Int) := w64_id _ (by omega) (by omega)

theorem rd_ints (l : List Int) (i : Nat) (x : Int) (h : l[i]? = some x) : rd l (i : Int) = x := by
  simp [rd, List.getD_eq_getElem?_getD, h]
theorem rd_st (l : List (Nat × Nat)) (i q k : Nat) (h : l[i]? = some (q, k)) : rd_T38 (st l) (i : Int) = ⟨(q : Int), (k : Int)⟩ := by
  rw [rd_T38, st, List.getD_eq_getElem?_getD, List.getElem?_map]
  simp [h]

/-- the last loop: pairs -/
theorem l2_is (n : Nat) (s : List Int) (hn : n ≤ 4294967296) (hs : s.length ≤ 4294967296) (pr : ∀ i (hi : i < s.length), s[i] * s[s.length - 1 - i]'(by omega) = (n : Int)) (ri : s.Pairwise (· < ·)) :
    ∀ d i, s.length - i ≤ d → i ≤ s.length → Evl (fun k => parquetlaw04_ModularParts.l2 k n s i) true := by
  intro d
  induction d with
  | zero =>
    intro i h0 h1
    refine evl_step (f := fun _ => some true) (fun k => ?_) (evl_now _)
    rw [parquetlaw04_ModularParts.l2, if_neg (by omega)]; rfl
  | succ d ih =>
    intro i h0 h1
    by_cases hi : i < s.length
    · have r1 : rd s (i : Int) = s[i] := rd_ints s i _ (List.getElem?_eq_getElem hi)
      have r2 : rd s ((s.length - 1 - i : Nat) : Int) = s[s.length - 1 - i]'(by omega) := rd_ints s _ _ (List.getElem?_eq_getElem _)
      have q1 : (0 : Int) ≤ (i : Int) := by omega
      have q2 : (i : Int) < (s.length : Int) := by omega
      have q3 : (0 : Int) ≤ ((s.length - 1 - i : Nat) : Int) := by omega
      have q4 : ((s.length - 1 - i : Nat) : Int) < (s.length : Int) := by omega
      refine evl_step (fun k => ?_) (ih (i + 1) (by omega) (by omega))
      rw [parquetlaw04_ModularParts.l2, if_pos q2, if_pos q1, wsub1 s.length (by omega) (by omega), wsub (s.length - 1) i (by omega) (by omega), if_pos q3, if_pos q4, r1, r2, pr i hi, wid n (by omega), if_pos rfl, wadd1 i (by omega)]
      by_cases z : (i : Int) > 0
      · have r3 : rd s ((i - 1 : Nat) : Int) = s[i - 1]'(by omega) := rd_ints s _ _ (List.getElem?_eq_getElem _)
        have lt : s[i - 1]'(by omega) < s[i] := List.pairwise_iff_getElem.1 ri (i - 1) i (by omega) hi (by omega)
        have q5 : (0 : Int) ≤ ((i - 1 : Nat) : Int) := by omega
        have q6 : ((i - 1 : Nat) : Int) < (s.length : Int) := by omega
        have q7 : ¬ s[i] ≤ s[i - 1]'(by omega) := by omega
        rw [if_pos z, wsub1 i (by omega) (by omega), if_pos q5, if_pos q6, r3, if_neg q7]
      · rw [if_neg z]
    · refine evl_step (f := fun _ => some true) (fun k => ?_) (evl_now _)
      rw [parquetlaw04_ModularParts.l2, if_neg (by omega)]; rfl

structure PL (n : Nat) (l : List (Nat × Nat)) (i N m p X : Nat) : Prop where
  le : i ≤ l.length
  fac : Fc.IsFac p m (l.drop i)
  mul : N * m = n
  prev : 0 < i → ∃ q k, l[i - 1]? = some (q, k) ∧ q < p
  many : X * Fc.many (l.drop i) = Fc.many l

theorem many_pos : ∀ l : List (Nat × Nat), 0 < Fc.many l
  | [] => by simp [Fc.many]
  | (q, k) :: t => by rw [Fc.many]; exact Nat.mul_pos (Nat.succ_pos _) (many_pos t)

theorem PL.next {n i N m p X : Nat} {l : List (Nat × Nat)} (h : PL n l i N m p X) (hi : i < l.length) :
    ∃ q k, l[i]? = some (q, k) ∧ Nt.isP q ∧ 1 ≤ k ∧ p ≤ q ∧ N * q ^ k ≤ n ∧ X * (k + 1) ≤ Fc.many l ∧ ∃ m', PL n l (i + 1) (N * q ^ k) m' (q + 1) (X * (k + 1)) := by
  obtain ⟨q, k, hqk⟩ : ∃ q k, l[i] = (q, k) := ⟨l[i].1, l[i].2, rfl⟩
  have hd : l.drop i = (q, k) :: l.drop (i + 1) := by rw [List.drop_eq_getElem_cons hi, hqk]
  have hf := h.fac
  have hm := h.many
  rw [hd] at hf hm
  obtain ⟨pq, hq, k1, m', e, m0, nd, hf'⟩ := hf
  rw [Fc.many, ← Nat.mul_assoc] at hm
  have gi : l[i]? = some (q, k) := by rw [List.getElem?_eq_getElem hi, hqk]
  refine ⟨q, k, gi, hq, k1, pq, ?_, ?_, m', hi, hf', by rw [Nat.mul_assoc, ← e, h.mul], fun _ => ⟨q, k, by simpa using gi, Nat.lt_succ_self _⟩, hm⟩
  · rw [← h.mul, e, ← Nat.mul_assoc]; exact Nat.le_mul_of_pos_right _ m0
  · rw [← hm]; exact Nat.le_mul_of_pos_right _ (many_pos _)

theorem l1_is (n : Nat) (l : List (Nat × Nat)) (s : List Int) (i N X q k : Nat) (hi : i < l.length) (li : l.length ≤ 4294967296) (gi : l[i]? = some (q, k)) (q2 : 2 ≤ q) (kn : k ≤ 4294967296) (hX : X * (k + 1) ≤ 4294967296) (hN : N * q ^ k ≤ 4294967296) (r : Bool)
    (hr : Evl (fun K => parquetlaw04_ModularParts.l0 K n (st l) s ((N * q ^ k : Nat) : Int) ((X * (k + 1) : Nat) : Int) ((i + 1 : Nat) : Int)) r) :
    ∀ d e, k - e ≤ d → e ≤ k → Evl (fun K => parquetlaw04_ModularParts.l1 K n (st l) s ((N * q ^ e : Nat) : Int) (X : Int) (i : Int) (e : Int)) r := by
  have sl : ((st l).length : Int) = (l.length : Int) := by simp [st]
  have q1 : (0 : Int) ≤ (i : Int) := by omega
  have q2' : (i : Int) < ((st l).length : Int) := by omega
  have last : Evl (fun K => parquetlaw04_ModularParts.l1 K n (st l) s ((N * q ^ k : Nat) : Int) (X : Int) (i : Int) (k : Int)) r := by
    refine evl_step (fun K => ?_) hr
    rw [parquetlaw04_ModularParts.l1, if_pos q1, if_pos q2', rd_st l i q k gi, if_neg (by simp), wadd1 k (by omega), wmul X (k + 1) (by omega), wadd1 i (by omega)]
  intro d
  induction d with
  | zero =>
    intro e h0 h1
    have ek : e = k := by omega
    subst ek
    exact last
  | succ d ih =>
    intro e h0 h1
    by_cases ek : e < k
    · have t2 : q ^ (e + 1) ≤ q ^ k := Nat.pow_le_pow_right (by omega) ek
      have t3 : N * q ^ e * q = N * q ^ (e + 1) := by rw [Nat.pow_succ, Nat.mul_assoc]
      have t4 := Nat.mul_le_mul_left N t2
      have t5 : N * q ^ e * q ≤ 1099511627776 := by omega
      have q3 : (e : Int) < (k : Int) := by omega
      refine evl_step (fun K => ?_) (ih (e + 1) (by omega) (by omega))
      rw [parquetlaw04_ModularParts.l1, if_pos q1, if_pos q2', rd_st l i q k gi, if_pos q3, wmul _ q t5, t3, wadd1 e (by omega)]
    · have ek : e = k := by omega
      subst ek
      exact last

theorem l0_is (n : Nat) (l : List (Nat × Nat)) (s : List Int) (n0 : 1 ≤ n) (hn : n ≤ 4294967296) (li : l.length ≤ 4294967296) (hm : Fc.many l = s.length) (hs : s.length ≤ 4294967296)
    (pr : ∀ i (hi : i < s.length), s[i] * s[s.length - 1 - i]'(by omega) = (n : Int)) (ri : s.Pairwise (· < ·)) :
    ∀ d i N m p X, l.length - i ≤ d → PL n l i N m p X → Evl (fun K => parquetlaw04_ModularParts.l0 K n (st l) s (N : Int) (X : Int) (i : Int)) true := by
  have sl : ((st l).length : Int) = (l.length : Int) := by simp [st]
  have fin : ∀ i N m p X, l.length ≤ i → PL n l i N m p X → Evl (fun K => parquetlaw04_ModularParts.l0 K n (st l) s (N : Int) (X : Int) (i : Int)) true := by
    intro i N m p X hi h
    have hd : l.drop i = [] := List.drop_eq_nil_of_le hi
    have f := h.fac
    have mm := h.many
    rw [hd] at f mm
    have m1 : m = 1 := f
    have eN : N = n := by have := h.mul; rw [m1] at this; omega
    have eX : X = s.length := by rw [← hm, ← mm]; simp [Fc.many]
    subst eN eX
    refine evl_step (f := fun K => parquetlaw04_ModularParts.j4 K N s false) (fun K => ?_) (evl_step (fun K => ?_) (l2_is N s hn hs pr ri s.length 0 (by omega) (by omega)))
    · rw [parquetlaw04_ModularParts.l0, if_neg (by omega), if_pos rfl]; simp
    · show parquetlaw04_ModularParts.j4 (K + 1) N s false = parquetlaw04_ModularParts.l2 K N s ((0 : Nat) : Int)
      rw [parquetlaw04_ModularParts.j4, if_neg (by simp)]; rfl
  intro d
  induction d with
  | zero => intro i N m p X h0 h; exact fin i N m p X (by omega) h
  | succ d ih =>
    intro i N m p X h0 h
    by_cases hi : i < l.length
    · obtain ⟨q, k, gi, hq, k1, pq, bN, bX, m', h'⟩ := h.next hi
      have q2 := hq.1
      have N0 : 0 < N := by
        rcases Nat.eq_zero_or_pos N with z | z
        · have := h.mul; rw [z, Nat.zero_mul] at this; omega
        · exact z
      have X0 : 0 < X := by
        rcases Nat.eq_zero_or_pos X with z | z
        · have := h.many; rw [z, Nat.zero_mul] at this; have := many_pos l; omega
        · exact z
      have qn : q ≤ n := by
        have a1 : q ^ 1 ≤ q ^ k := Nat.pow_le_pow_right (by omega) k1
        have a2 : q ^ k ≤ N * q ^ k := Nat.le_mul_of_pos_left _ N0
        rw [Nat.pow_one] at a1; omega
      have kX : k + 1 ≤ X * (k + 1) := Nat.le_mul_of_pos_left _ X0
      have IH := ih (i + 1) (N * q ^ k) m' (q + 1) (X * (k + 1)) (by omega) h'
      have L1 := l1_is n l s i N X q k hi li gi q2 (by omega) (by omega) (by omega) true IH k 0 (by omega) (by omega)
      rw [Nat.pow_zero, Nat.mul_one] at L1
      have J2 : Evl (fun K => parquetlaw04_ModularParts.j2 K n (st l) s (N : Int) (X : Int) (i : Int) false) true :=
        evl_step (fun K => by
          show parquetlaw04_ModularParts.j2 (K + 1) n (st l) s (N : Int) (X : Int) (i : Int) false = parquetlaw04_ModularParts.l1 K n (st l) s (N : Int) (X : Int) (i : Int) ((0 : Nat) : Int)
          rw [parquetlaw04_ModularParts.j2, if_neg (by simp)]; rfl) L1
      have P := prime_one q q2 (by omega) hq
      refine evl_step (f := fun K => (modular_Prime.f K (q : Int)).bind fun bt112 => if bt112.1 = true then parquetlaw04_ModularParts.j2 K n (st l) s (N : Int) (X : Int) (i : Int) false else parquetlaw04_ModularParts.j2 K n (st l) s (N : Int) (X : Int) (i : Int) true) (fun K => ?_)
        (Go.Proofs.YtkgejfokdmdikaaW.PrintWords.Ev.bind P (evl_congr (fun K => if_pos rfl) J2))
      rw [parquetlaw04_ModularParts.l0, if_pos (by omega), if_pos (by omega), rd_st l i q k gi]
      simp only
      rw [if_neg (by omega)]
      by_cases z : (i : Int) > 0
      · obtain ⟨q', k', g', lt⟩ := h.prev (by omega)
        rw [if_pos z, wsub1 i (by omega) (by omega), if_pos (by omega), if_pos (by omega), rd_st l (i - 1) q' k' g']
        simp only
        rw [decide_eq_false (by omega)]
      · rw [if_neg z]
    · exact fin i N m p X (by omega) h

theorem ModularParts : parquetlaw04_ModularParts.Pure := by
  intro a0 _
  obtain ⟨n, n1, n2, hn⟩ := near_is a0
  have g := Fc.divs_good n n1
  have gl := good_len g
  have F : modular_Factor.f (n : Int) = some (st (Fc.facs n), 0) := by rw [modular_Factor.f, if_neg (by omega), if_neg (by omega), Int.toNat_natCast]
  have D : modular_Divisors.f (n : Int) = some (Fc.srt (Fc.ints (Fc.divs n)), 0) := by rw [modular_Divisors.f, if_neg (by omega), if_neg (by omega), Int.toNat_natCast]
  have sl : (Fc.srt (Fc.ints (Fc.divs n))).length = (Fc.divs n).length := by rw [Fc.srt_length, Fc.ints, List.length_map]
  have hm : Fc.many (Fc.facs n) = (Fc.srt (Fc.ints (Fc.divs n))).length := by rw [sl, Fc.divs_length]
  have fl : (Fc.facs n).length ≤ Fc.many (Fc.facs n) := by
    have : ∀ (l : List (Nat × Nat)) (p m : Nat), Fc.IsFac p m l → l.length ≤ Fc.many l := by
      intro l
      induction l with
      | nil => intro p m _; simp [Fc.many]
      | cons x t ih =>
        obtain ⟨q, k⟩ := x
        intro p m ⟨_, _, k1, m', _, _, _, h⟩
        have := ih _ _ h
        have t1 := many_pos t
        rw [Fc.many, List.length_cons]
        have : 2 * Fc.many t ≤ (k + 1) * Fc.many t := Nat.mul_le_mul_right _ (by omega)
        omega
    exact this _ _ _ (Fc.facs_is n n1)
  have L := l0_is n (Fc.facs n) (Fc.srt (Fc.ints (Fc.divs n))) n1 n2 (by omega) hm (by omega) (Fc.pairs g) (Fc.srt_strict (Fc.ints_nodup g.nodup)) (Fc.facs n).length 0 1 n 2 1 (by omega)
    ⟨Nat.zero_le _, Fc.facs_is n n1, Nat.one_mul _, fun h => by omega, Nat.one_mul _⟩
  have J : Evl (fun K => parquetlaw04_ModularParts.j0 K n (st (Fc.facs n)) (Fc.srt (Fc.ints (Fc.divs n))) false) true :=
    evl_step (fun K => by
      show parquetlaw04_ModularParts.j0 (K + 1) n (st (Fc.facs n)) (Fc.srt (Fc.ints (Fc.divs n))) false = parquetlaw04_ModularParts.l0 K n (st (Fc.facs n)) (Fc.srt (Fc.ints (Fc.divs n))) ((1 : Nat) : Int) ((1 : Nat) : Int) ((0 : Nat) : Int)
      rw [parquetlaw04_ModularParts.j0, if_neg (by simp)]; rfl) L
  have R : Evl (fun K => parquetlaw04_ModularParts.f K a0) true := evl_congr (fun K => by
    rw [parquetlaw04_ModularParts.f, hn]
    simp only [Option.bind_some]
    rw [F]
    simp only [Option.bind_some]
    rw [D]
    simp only [Option.bind_some]
    rw [if_pos trivial]; rfl) J
  exact Go.Proofs.YtkgejfokdmdikaaW.PrintWords.Ev.rounds R

end Go.Proofs.Ytkgejfokdmdikaa.Pure
