/- What a number is made of, by trial; the numbers that divide it, made from its primes: they rise once sorted, stand in pairs, and are as many as the primes say. Plain Lean, no program. -/
import Derived.Test.YtkgejfokdmdikaaNt2
namespace Go.Proofs.Ytkgejfokdmdikaa.Fc
open Go.Proofs.Ytkgejfokdmdikaa
set_option maxRecDepth 10000

/-! ### A prime taken out -/
def pull (p n : Nat) : Nat × Nat :=
  if _h : 2 ≤ p ∧ 0 < n ∧ n % p = 0 then ((pull p (n / p)).1 + 1, (pull p (n / p)).2) else (0, n)
termination_by n
decreasing_by all_goals exact Nat.div_lt_self _h.2.1 _h.1

theorem pull_step {p n : Nat} (h2 : 2 ≤ p) (h0 : 0 < n) (h : n % p = 0) : pull p n = ((pull p (n / p)).1 + 1, (pull p (n / p)).2) := by
  rw [pull, dif_pos ⟨h2, h0, h⟩]
theorem pull_stop {p n : Nat} (h : n % p ≠ 0) : pull p n = (0, n) := by
  rw [pull, dif_neg (fun k => h k.2.2)]

theorem pull_is (p : Nat) (h2 : 2 ≤ p) : ∀ N n : Nat, n ≤ N → 0 < n → n = p ^ (pull p n).1 * (pull p n).2 ∧ ¬ p ∣ (pull p n).2 ∧ 0 < (pull p n).2 ∧ (pull p n).2 ≤ n ∧ (p ∣ n ↔ 0 < (pull p n).1) := by
  intro N
  induction N with
  | zero => intro n a b; omega
  | succ N ih =>
    intro n hn h0
    by_cases h : n % p = 0
    · have lt : n / p < n := Nat.div_lt_self h0 h2
      have m : n / p * p = n := Nat.div_mul_cancel (Nat.dvd_of_mod_eq_zero h)
      have p0 : 0 < n / p := by
        rcases Nat.eq_zero_or_pos (n / p) with e | e
        · rw [e] at m; omega
        · exact e
      obtain ⟨a, b, c, d, e⟩ := ih (n / p) (by omega) p0
      rw [pull_step h2 h0 h]
      refine ⟨?_, b, c, by dsimp only; omega, ⟨fun _ => Nat.succ_pos _, fun _ => Nat.dvd_of_mod_eq_zero h⟩⟩
      dsimp only
      rw [Nat.pow_succ, Nat.mul_assoc, Nat.mul_comm p, ← Nat.mul_assoc, ← a, m]
    · rw [pull_stop h]
      exact ⟨by simp, fun d => h (Nat.mod_eq_zero_of_dvd d), h0, Nat.le_refl _, ⟨fun d => (h (Nat.mod_eq_zero_of_dvd d)).elim, fun d => absurd d (by simp)⟩⟩

theorem pull_le (p n : Nat) (h0 : 0 < n) : (pull p n).2 ≤ n ∧ 0 < (pull p n).2 := by
  by_cases h2 : 2 ≤ p
  · have := pull_is p h2 n n (Nat.le_refl _) h0; exact ⟨this.2.2.2.1, this.2.2.1⟩
  · rw [pull, dif_neg (fun k => h2 k.1)]; exact ⟨Nat.le_refl _, h0⟩

/-! ### By trial -/
def one (p k : Nat) : List (Nat × Nat) := if k = 0 then [] else [(p, k)]
def trial (p n : Nat) : List (Nat × Nat) :=
  if _h : 2 ≤ p ∧ p * p ≤ n then one p (pull p n).1 ++ trial (p + 1) (pull p n).2 else if 1 < n then [(n, 1)] else []
termination_by n + 1 - p
decreasing_by
  have h1 : p * 1 ≤ p * p := Nat.mul_le_mul_left _ (by omega)
  have := (pull_le p n (by omega)).1
  omega

theorem trial_step {p n : Nat} (h2 : 2 ≤ p) (h : p * p ≤ n) : trial p n = one p (pull p n).1 ++ trial (p + 1) (pull p n).2 := by rw [trial, dif_pos ⟨h2, h⟩]
theorem trial_stop {p n : Nat} (h : n < p * p) : trial p n = if 1 < n then [(n, 1)] else [] := by rw [trial, dif_neg (fun k => by omega)]
/-- a number that does not divide is passed by -/
theorem trial_skip {p n : Nat} (h2 : 2 ≤ p) (h : ¬ p ∣ n) : trial p n = trial (p + 1) n := by
  rcases Nat.lt_or_ge n (p * p) with l | l
  · have l2 : n < (p + 1) * (p + 1) := Nat.lt_of_lt_of_le l (Nat.mul_le_mul (Nat.le_succ _) (Nat.le_succ _))
    rw [trial_stop l, trial_stop l2]
  · rw [trial_step h2 l, pull_stop (fun e => h (Nat.dvd_of_mod_eq_zero e))]; rfl

def facs (n : Nat) : List (Nat × Nat) := trial 2 n

/-! ### What it is -/
def IsFac : Nat → Nat → List (Nat × Nat) → Prop
  | _, n, [] => n = 1
  | p, n, (q, k) :: t => p ≤ q ∧ Nt.isP q ∧ 1 ≤ k ∧ ∃ m, n = q ^ k * m ∧ 0 < m ∧ ¬ q ∣ m ∧ IsFac (q + 1) m t

theorem IsFac.mono {p p' n : Nat} (h : p ≤ p') : ∀ {l : List (Nat × Nat)}, IsFac p' n l → IsFac p n l
  | [], h' => h'
  | (_, _) :: _, h' => ⟨Nat.le_trans h h'.1, h'.2⟩

theorem isP_of {p n : Nat} (h2 : 2 ≤ p) (hp : p ∣ n) (hd : ∀ d, 2 ≤ d → d < p → ¬ d ∣ n) : Nt.isP p := by
  refine ⟨h2, fun d dd => ?_⟩
  have le : d ≤ p := Nat.le_of_dvd (by omega) dd
  have d0 : d ≠ 0 := by rintro rfl; have := Nat.eq_zero_of_zero_dvd dd; omega
  by_cases d1 : d = 1
  · exact .inl d1
  · by_cases e : d = p
    · exact .inr e
    · exact (hd d (by omega) (by omega) (Nat.dvd_trans dd hp)).elim

theorem prime_sqrt {n : Nat} (h2 : 2 ≤ n) (h : ∀ d, 2 ≤ d → d * d ≤ n → ¬ d ∣ n) : Nt.isP n := by
  refine ⟨h2, fun d hd => ?_⟩
  obtain ⟨e, he⟩ := hd
  have d0 : d ≠ 0 := by rintro rfl; rw [Nat.zero_mul] at he; omega
  have e0 : e ≠ 0 := by rintro rfl; rw [Nat.mul_zero] at he; omega
  by_cases d1 : d = 1
  · exact .inl d1
  · by_cases e1 : e = 1
    · subst e1; exact .inr (by omega)
    · exfalso
      by_cases l : d ≤ e
      · exact h d (by omega) (by rw [he]; exact Nat.mul_le_mul_left _ l) ⟨e, he⟩
      · exact h e (by omega) (by rw [he]; exact Nat.mul_le_mul_right _ (by omega)) ⟨d, by rw [he, Nat.mul_comm]⟩

theorem trial_is : ∀ N p n : Nat, n + 1 - p ≤ N → 2 ≤ p → 0 < n → (∀ d, 2 ≤ d → d < p → ¬ d ∣ n) → IsFac p n (trial p n) := by
  intro N
  induction N with
  | zero =>
    intro p n h h2 h0 hd
    have : n < p * p := Nat.lt_of_lt_of_le (by omega : n < p * 1) (Nat.mul_le_mul_left _ (by omega))
    rw [trial_stop this]
    by_cases n1 : 1 < n
    · exact (hd n (by omega) (by omega) (Nat.dvd_refl _)).elim
    · rw [if_neg n1]; show n = 1; omega
  | succ N ih =>
    intro p n h h2 h0 hd
    rcases Nat.lt_or_ge n (p * p) with l | l
    · rw [trial_stop l]
      by_cases n1 : 1 < n
      · rw [if_pos n1]
        have pn : p ≤ n := by
          rcases Nat.lt_or_ge n p with k | k
          · exact (hd n (by omega) k (Nat.dvd_refl _)).elim
          · exact k
        refine ⟨pn, prime_sqrt (by omega) fun d a b c => ?_, Nat.le_refl _, 1, by simp, by omega, fun k => by have := Nat.le_of_dvd (by omega) k; omega, rfl⟩
        rcases Nat.lt_or_ge d p with k | k
        · exact hd d a k c
        · have := Nat.mul_le_mul k k; omega
      · rw [if_neg n1]; show n = 1; omega
    · rw [trial_step h2 l]
      obtain ⟨e, nd, m0, le, iff⟩ := pull_is p h2 n n (Nat.le_refl _) h0
      have h1 : p * 1 ≤ p * p := Nat.mul_le_mul_left _ (by omega)
      have IH := ih (p + 1) (pull p n).2 (by omega) (by omega) m0 (fun d a b c => by
        by_cases e' : d = p
        · subst e'; exact nd c
        · exact hd d a (by omega) (by rw [e]; exact Nat.dvd_trans c (Nat.dvd_mul_left _ _)))
      by_cases k0 : (pull p n).1 = 0
      · rw [one, if_pos k0]
        have : (pull p n).2 = n := by rw [k0] at e; simpa using e.symm
        rw [this] at IH ⊢
        exact IH.mono (Nat.le_succ _)
      · rw [one, if_neg k0]
        exact ⟨Nat.le_refl _, isP_of h2 (iff.2 (by omega)) hd, by omega, _, e, m0, nd, IH⟩

theorem facs_is (n : Nat) (h0 : 0 < n) : IsFac 2 n (facs n) := trial_is _ 2 n (Nat.le_refl _) (Nat.le_refl _) h0 (fun d a b => by omega)

/-! ### Its divisors, as they are made -/
def pws (p : Nat) (l : List Nat) : Nat → List Nat
  | 0 => l
  | k + 1 => pws p l k ++ l.map (· * p ^ (k + 1))
/-- made from the front -/
def divsFrom : List Nat → List (Nat × Nat) → List Nat
  | out, [] => out
  | out, (p, k) :: t => divsFrom (pws p out k) t
def divs (n : Nat) : List Nat := divsFrom [1] (facs n)

theorem mem_pws {p : Nat} {l : List Nat} {x : Nat} : ∀ {k : Nat}, x ∈ pws p l k ↔ ∃ e, e ≤ k ∧ ∃ y, y ∈ l ∧ x = y * p ^ e
  | 0 => by
    constructor
    · intro h; exact ⟨0, Nat.le_refl _, x, h, by simp⟩
    · rintro ⟨e, he, y, hy, rfl⟩
      have : e = 0 := by omega
      subst this; simpa [pws] using hy
  | k + 1 => by
    rw [pws, List.mem_append, mem_pws, List.mem_map]
    constructor
    · rintro (⟨e, he, y, hy, rfl⟩ | ⟨y, hy, rfl⟩)
      · exact ⟨e, by omega, y, hy, rfl⟩
      · exact ⟨k + 1, Nat.le_refl _, y, hy, rfl⟩
    · rintro ⟨e, he, y, hy, rfl⟩
      by_cases h : e = k + 1
      · subst h; exact .inr ⟨y, hy, rfl⟩
      · exact .inl ⟨e, by omega, y, hy, rfl⟩

theorem pws_length (p : Nat) (l : List Nat) : ∀ k, (pws p l k).length = l.length * (k + 1)
  | 0 => by simp [pws]
  | k + 1 => by rw [pws, List.length_append, pws_length p l k, List.length_map, Nat.mul_succ _ (k + 1)]

def many : List (Nat × Nat) → Nat
  | [] => 1
  | (_, k) :: t => (k + 1) * many t

theorem divsFrom_length : ∀ (l : List (Nat × Nat)) (out : List Nat), (divsFrom out l).length = out.length * many l
  | [], out => by simp [divsFrom, many]
  | (p, k) :: t, out => by rw [divsFrom, divsFrom_length t, pws_length, many, Nat.mul_assoc]

/-- none twice: where p divides none of l -/
theorem pws_nodup {p : Nat} (h2 : 2 ≤ p) {l : List Nat} (hl : l.Nodup) (h0 : ∀ x ∈ l, 0 < x) (hp : ∀ x ∈ l, ¬ p ∣ x) : ∀ k, (pws p l k).Nodup
  | 0 => hl
  | k + 1 => by
    rw [pws, List.nodup_append]
    refine ⟨pws_nodup h2 hl h0 hp k, ?_, ?_⟩
    · rw [List.nodup_iff_pairwise_ne, List.pairwise_map]
      refine (List.nodup_iff_pairwise_ne.1 hl).imp fun ne e => ne (Nat.eq_of_mul_eq_mul_right (Nat.pow_pos (by omega)) e)
    · intro a ha b hb e
      obtain ⟨i, hi, y, hy, rfl⟩ := mem_pws.1 ha
      obtain ⟨z, hz, rfl⟩ := List.mem_map.1 hb
      have : k + 1 = i + ((k - i) + 1) := by omega
      rw [this, Nat.pow_add, Nat.mul_comm (p ^ i), ← Nat.mul_assoc] at e
      have e2 := Nat.eq_of_mul_eq_mul_right (Nat.pow_pos (by omega)) e
      exact hp y hy ⟨z * p ^ (k - i), by rw [e2, Nat.pow_succ, ← Nat.mul_assoc, Nat.mul_comm p]⟩

/-- each stands over against its pair -/
theorem pws_pair {p N : Nat} (h2 : 2 ≤ p) (N0 : 0 < N) {l : List Nat} (hd : ∀ x ∈ l, x ∣ N) (hp : (l.map (N / ·)).Perm l) (K : Nat) : ∀ k, k ≤ K →
    ((pws p l k).map (N * p ^ K / ·)).Perm (((List.range (k + 1)).flatMap fun e => l.map (· * p ^ (K - e)))) := by
  have aux : ∀ e, e ≤ K → (((l.map (· * p ^ e)).map (N * p ^ K / ·)).Perm (l.map (· * p ^ (K - e)))) := by
    intro e he
    have : (l.map (· * p ^ e)).map (N * p ^ K / ·) = (l.map (N / ·)).map (· * p ^ (K - e)) := by
      rw [List.map_map, List.map_map]
      refine List.map_congr_left fun x hx => ?_
      obtain ⟨c, hc⟩ := hd x hx
      have x0 : 0 < x := by rcases Nat.eq_zero_or_pos x with h | h; · subst h; rw [Nat.zero_mul] at hc; omega
                            · exact h
      have pe : 0 < p ^ e := Nat.pow_pos (by omega)
      show N * p ^ K / (x * p ^ e) = N / x * p ^ (K - e)
      have K' : p ^ K = p ^ e * p ^ (K - e) := by rw [← Nat.pow_add]; congr 1; omega
      rw [K', hc, Nat.mul_div_cancel_left _ x0]
      rw [show x * c * (p ^ e * p ^ (K - e)) = (x * p ^ e) * (c * p ^ (K - e)) by ac_rfl, Nat.mul_div_cancel_left _ (Nat.mul_pos x0 pe)]
    rw [this]; exact hp.map _
  intro k
  induction k with
  | zero => intro _; have := aux 0 (Nat.zero_le _); simpa [pws] using this
  | succ k ih =>
    intro hk
    rw [pws, List.map_append, List.range_succ, List.flatMap_append]
    exact (ih (by omega)).append (by simpa using aux (k + 1) hk)

theorem pws_flat (p : Nat) (l : List Nat) : ∀ k, pws p l k = (List.range (k + 1)).flatMap fun e => l.map (· * p ^ e)
  | 0 => by simp [pws]
  | k + 1 => by rw [pws, pws_flat p l k, List.range_succ (n := k + 1), List.flatMap_append]; simp

theorem range_rev (K : Nat) : ((List.range (K + 1)).map fun e => K - e).Perm (List.range (K + 1)) := by
  have : (List.range (K + 1)).map (fun e => K - e) = (List.range (K + 1)).reverse := by
    apply List.ext_getElem
    · simp
    · intro i h1 h2
      simp at h1 h2 ⊢
      
  rw [this]; exact List.reverse_perm _

theorem pws_paired {p N : Nat} (h2 : 2 ≤ p) (N0 : 0 < N) {l : List Nat} (hd : ∀ x ∈ l, x ∣ N) (hp : (l.map (N / ·)).Perm l) (K : Nat) :
    ((pws p l K).map (N * p ^ K / ·)).Perm (pws p l K) := by
  refine (pws_pair h2 N0 hd hp K K (Nat.le_refl _)).trans ?_
  rw [pws_flat p l K]
  have : ((List.range (K + 1)).flatMap fun e => l.map (· * p ^ (K - e))) = ((List.range (K + 1)).map fun e => K - e).flatMap fun e => l.map (· * p ^ e) := by rw [List.flatMap_map]
  rw [this]
  exact (range_rev K).flatMap_right _

structure Good (N : Nat) (out : List Nat) : Prop where
  pos : 0 < N
  nodup : out.Nodup
  dvd : ∀ x ∈ out, x ∣ N
  pair : (out.map (N / ·)).Perm out

theorem Good.one : Good 1 [1] := ⟨by omega, by simp, by simp, by simp⟩
theorem Good.x0 {N : Nat} {out : List Nat} (h : Good N out) : ∀ x ∈ out, 0 < x := fun x hx => by
  obtain ⟨c, hc⟩ := h.dvd x hx
  rcases Nat.eq_zero_or_pos x with e | e
  · subst e; rw [Nat.zero_mul] at hc; have := h.pos; omega
  · exact e

theorem Good.pws {N p : Nat} {out : List Nat} (h : Good N out) (hp : Nt.isP p) (hc : ¬ p ∣ N) (k : Nat) : Good (N * p ^ k) (pws p out k) where
  pos := Nat.mul_pos h.pos (Nat.pow_pos (by have := hp.1; omega))
  nodup := pws_nodup hp.1 h.nodup h.x0 (fun x hx d => hc (Nat.dvd_trans d (h.dvd x hx))) k
  dvd := fun x hx => by
    obtain ⟨e, he, y, hy, rfl⟩ := mem_pws.1 hx
    exact Nat.mul_dvd_mul (h.dvd y hy) (Nat.pow_dvd_pow _ he)
  pair := pws_paired hp.1 h.pos h.dvd h.pair k

theorem isP.pow {p : Nat} (hp : Nt.isP p) {x : Nat} : ∀ {k : Nat}, p ∣ x ^ k → p ∣ x
  | 0, h => by have := Nat.le_of_dvd (by simp) h; have := hp.1; simp at *; omega
  | k + 1, h => by
    by_cases d : p ∣ x
    · exact d
    · rw [Nat.pow_succ] at h
      exact isP.pow hp ((hp.cop d).symm.dvd_of_dvd_mul_right h)

theorem divsFrom_good : ∀ (l : List (Nat × Nat)) (p N n : Nat) (out : List Nat), Good N out → IsFac p n l → (∀ q, p ≤ q → Nt.isP q → ¬ q ∣ N) → Good (N * n) (divsFrom out l)
  | [], p, N, n, out, g, h, hc => by
    have : n = 1 := h
    subst this; simpa [divsFrom] using g
  | (q, k) :: t, p, N, n, out, g, ⟨pq, hq, k1, m, e, m0, nd, h⟩, hc => by
    rw [divsFrom, e, ← Nat.mul_assoc]
    refine divsFrom_good t (q + 1) (N * q ^ k) m _ (g.pws hq (hc q pq hq) k) h fun r hr pr d => ?_
    by_cases dN : r ∣ N
    · exact hc r (by omega) pr dN
    · have d2 := (pr.cop dN).symm.dvd_of_dvd_mul_left d
      have d3 := isP.pow pr d2
      rcases hq.2 r d3 with a | a
      · have := pr.1; omega
      · omega

theorem divs_good (n : Nat) (h0 : 0 < n) : Good n (divs n) := by
  have := divsFrom_good (facs n) 2 1 n [1] Good.one (facs_is n h0) (fun q _ pq d => by have := Nat.le_of_dvd (by omega) d; have := pq.1; omega)
  simpa [divs] using this
theorem divs_length (n : Nat) : (divs n).length = many (facs n) := by rw [divs, divsFrom_length]; simp

end Go.Proofs.Ytkgejfokdmdikaa.Fc
