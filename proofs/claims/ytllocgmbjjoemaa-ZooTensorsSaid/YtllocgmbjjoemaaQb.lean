/- Digits to the base 2^32: a number's own, and what a list of digits is worth. Plain Lean, no program. How many bits a number has: by its digits. Plain Lean, no program. Euclid's steps with cofactors. Plain Lean, no program. Comparing numbers by their digits. Plain Lean, no program. Sums by digits. Plain Lean, no program. Products by digits. Plain Lean, no program. Digits to the base 2^16. Plain Lean, no program. Written by a program (geneg.py) out of the texts on digits to the base 2^32. Lists of digits as whole numbers. Plain Lean. Natural numbers in the program's memory: a slice of digits that is only read, and a row of digits that the call owns. No statement is proved here. The document's cut (parquetref01.cut), by a walk. The document's product (parquetref01.Mul), by a walk. The document's product (parquetref01.Mul): what it tells, as the printed texts ask it. -/
import Derived.Lib.BitFns
import Derived.Test.YtllocgmbjjoemaaQa
import Derived.Test.YtllocgmbjjoemaaProg
import Derived.Below
import Derived.OwnWalk
import Derived.OneCell
import Derived.WalkKit
import Derived.KernelRfl
import Derived.Deep.LoopGhost
import Derived.BigQuiet
import Derived.Deep.QuietTactic
import Derived.Laws.CopyOwn
import Derived.Laws.OwnMore
import Derived.Laws.MakeOwn
import Derived.Laws.Rows
import Derived.Laws.BitsLemmas
import Derived.RowKit
import Derived.RowKit3
section
set_option linter.unusedVariables false
set_option linter.unusedSimpArgs false
namespace Go.Proofs.Ytllocgmbjjoemaa.Dg
set_option maxRecDepth 10000
def val : List Nat → Nat
 | [] => 0
 | x :: t => x + 4294967296 * val t
def ok (l : List Nat) : Prop := ∀ x ∈ l, x < 4294967296
def dg (n : Nat) : List Nat := if _h : n = 0 then [] else n % 4294967296 :: dg (n / 4294967296)
termination_by n
decreasing_by exact Nat.div_lt_self (by omega) (by omega)
theorem dg_zero : dg 0 = [] := by rw [dg, dif_pos rfl]
theorem dg_pos {n : Nat} (h : n ≠ 0) : dg n = n % 4294967296 :: dg (n / 4294967296) := by rw [dg, dif_neg h]
theorem val_dg : ∀ N n : Nat, n ≤ N → val (dg n) = n := by
 intro N
 induction N with
 | zero => intro n h; have : n = 0 := by omega
           subst this; rw [dg_zero]; rfl
 | succ N ih =>
  intro n h
  by_cases h0 : n = 0
  ·subst h0; rw [dg_zero]; rfl
  ·rw [dg_pos h0, val, ih _ (by omega)]; omega
theorem val_dg' (n : Nat) : val (dg n) = n := val_dg n n (Nat.le_refl _)
theorem dg_ok : ∀ N n : Nat, n ≤ N → ok (dg n) := by
 intro N
 induction N with
 | zero => intro n h x hx; have : n = 0 := by omega
           subst this; rw [dg_zero] at hx; cases hx
 | succ N ih =>
  intro n h x hx
  by_cases h0 : n = 0
  ·subst h0; rw [dg_zero] at hx; cases hx
  ·rw [dg_pos h0] at hx
   rcases List.mem_cons.1 hx with e | e
   ·omega
   ·exact ih _ (by omega) x e
theorem dg_ok' (n : Nat) : ok (dg n) := dg_ok n n (Nat.le_refl _)
theorem val_append : ∀ a b : List Nat, val (a ++ b) = val a + 4294967296 ^ a.length * val b
 | [], b => by simp [val]
 | x :: t, b => by
  rw [List.cons_append, val, val_append t b, val, List.length_cons, Nat.pow_succ, Nat.mul_add, ← Nat.mul_assoc, Nat.mul_comm 4294967296 (4294967296 ^ t.length), Nat.add_assoc]
theorem ok_take {l : List Nat} (h : ok l) (n : Nat) : ok (l.take n) := fun x hx => h x (List.mem_of_mem_take hx)
theorem ok_drop {l : List Nat} (h : ok l) (n : Nat) : ok (l.drop n) := fun x hx => h x (List.mem_of_mem_drop hx)
theorem val_lt : ∀ {l : List Nat}, ok l → val l < 4294967296 ^ l.length
 | [], _ => by simp [val]
 | x :: t, h => by
  have h1 := val_lt (l := t) (fun y hy => h y (List.mem_cons_of_mem _ hy))
  have h2 := h x List.mem_cons_self
  rw [val, List.length_cons, Nat.pow_succ]
  have : 4294967296 * (val t + 1) ≤ 4294967296 * 4294967296 ^ t.length := Nat.mul_le_mul_left _ h1
  rw [Nat.mul_comm (4294967296 ^ t.length)]; omega
theorem val_zero : ∀ {l : List Nat}, val l = 0 → ∀ x ∈ l, x = 0
 | [], _, x, hx => by cases hx
 | y :: t, h, x, hx => by
  rw [val] at h
  rcases List.mem_cons.1 hx with e | e
  ·omega
  ·exact val_zero (l := t) (by omega) x e
theorem dg_val : ∀ {l : List Nat}, ok l → (∀ h : l ≠ [], l.getLast h ≠ 0) → dg (val l) = l
 | [], _, _ => by rw [val, dg_zero]
 | x :: t, h, hl => by
  have h2 := h x List.mem_cons_self
  have ht : dg (val t) = t := dg_val (l := t) (fun y hy => h y (List.mem_cons_of_mem _ hy)) (fun ne => by
   have := hl (by simp); rwa [List.getLast_cons ne] at this)
  have n0 : val (x :: t) ≠ 0 := fun e => by
   have := hl (by simp)
   exact this (val_zero e _ (List.getLast_mem _))
  rw [dg_pos n0, val]
  rw [show (x + 4294967296 * val t) % 4294967296 = x by omega, show (x + 4294967296 * val t) / 4294967296 = val t by omega, ht]
theorem dg_cut {l : List Nat} (h : ok l) (j : Nat) (hj : j ≤ l.length) (e : val (l.take j) = val l) (z : ∀ h : j - 1 < l.length, 0 < j → l[j - 1] ≠ 0) : dg (val l) = l.take j := by
 rw [← e]
 refine dg_val (ok_take h j) fun ne => ?_
 have j0 : 0 < j := by
  rcases Nat.eq_zero_or_pos j with q | q
  ·subst q; simp at ne
  ·exact q
 have len : (l.take j).length = j := by rw [List.length_take]; omega
 rw [List.getLast_eq_getElem]
 simp only [len, List.getElem_take]
 exact z (by omega) j0
theorem take_zero {l : List Nat} (j : Nat) (hj : j < l.length) (h : l[j] = 0) : val (l.take (j + 1)) = val (l.take j) := by
 rw [List.take_succ_eq_append_getElem hj, val_append, h]; simp [val]
theorem val_take {l : List Nat} (j : Nat) (hj : j < l.length) : val (l.take (j + 1)) = val (l.take j) + 4294967296 ^ j * l[j] := by
 rw [List.take_succ_eq_append_getElem hj, val_append, List.length_take, Nat.min_eq_left (by omega)]; simp [val]
theorem val_split {l : List Nat} (j : Nat) : val l = val (l.take j) + 4294967296 ^ (l.take j).length * val (l.drop j) := by
 rw [← val_append, List.take_append_drop]
theorem dg_len : ∀ k n : Nat, n < 4294967296 ^ k → (dg n).length ≤ k := by
 intro k
 induction k with
 | zero => intro n h; have : n = 0 := by simpa using h
           subst this; rw [dg_zero]; simp
 | succ k ih =>
  intro n h
  by_cases h0 : n = 0
  ·subst h0; rw [dg_zero]; simp
  ·rw [dg_pos h0, List.length_cons]
   have : n / 4294967296 < 4294967296 ^ k := by
    rw [Nat.pow_succ] at h
    exact Nat.div_lt_of_lt_mul (by rw [Nat.mul_comm]; exact h)
   have := ih _ this
   omega
theorem dg_ge (n : Nat) : ∀ k, 4294967296 ^ k ≤ n → k < (dg n).length := fun k h => by
 have := val_lt (dg_ok' n)
 rw [val_dg'] at this
 rcases Nat.lt_or_ge k (dg n).length with l | l
 ·exact l
 ·have := Nat.pow_le_pow_right (n := 4294967296) (by omega) l; omega
theorem dg_nil {n : Nat} : dg n = [] ↔ n = 0 := ⟨fun h => by have := val_dg' n; rw [h] at this; exact this.symm, fun h => by rw [h, dg_zero]⟩
end Go.Proofs.Ytllocgmbjjoemaa.Dg
end
section
set_option linter.unusedVariables false
set_option linter.unusedSimpArgs false
namespace Go.Proofs.Ytllocgmbjjoemaa.Dg
open Go
set_option maxRecDepth 10000
def bl (n : Nat) : Nat := if n = 0 then 0 else n.log2 + 1
theorem bl_le {n k : Nat} : bl n ≤ k ↔ n < 2 ^ k := by
 unfold bl
 by_cases h : n = 0
 ·subst h; rw [if_pos rfl]; exact ⟨fun _ => Nat.pow_pos (by omega), fun _ => Nat.zero_le _⟩
 ·rw [if_neg h, ← Nat.log2_lt h]; omega
theorem bl_eq {n b : Nat} (h : ∀ k, b ≤ k ↔ n < 2 ^ k) : bl n = b := by
 have h1 := bl_le.2 ((h b).1 (Nat.le_refl _))
 have h2 := (h (bl n)).2 (bl_le.1 (Nat.le_refl _))
 omega
theorem bl_zero {n : Nat} : bl n = 0 ↔ n = 0 := by
 unfold bl
 by_cases h : n = 0
 ·simp [h]
 ·rw [if_neg h]; omega
theorem bl_lt (n : Nat) : n < 2 ^ bl n := bl_le.1 (Nat.le_refl _)
theorem bl_ge {n : Nat} (h : n ≠ 0) : 2 ^ (bl n - 1) ≤ n := by
 rcases Nat.lt_or_ge n (2 ^ (bl n - 1)) with l | l
 ·have := bl_le.2 l
  have : bl n ≠ 0 := fun e => h (bl_zero.1 e)
  omega
 ·exact l
theorem lib_bl : ∀ N x : Nat, x ≤ N → x < 18446744073709551616 → Lib.bitLen x = bl x := by
 intro N
 induction N with
 | zero => intro x h _; have : x = 0 := by omega
           subst this; rfl
 | succ N ih =>
  intro x h hx
  by_cases h0 : x = 0
  ·subst h0; rfl
  ·rw [Lib.bitLen_half x h0 hx, ih (x / 2) (by omega) (by omega)]
   refine (bl_eq fun k => ?_).symm
   cases k with
   | zero => constructor
             ·intro h; omega
             ·intro h; simp at h; omega
   | succ k =>
    have := bl_le (n := x / 2) (k := k)
    rw [Nat.pow_succ]
    constructor
    ·intro h; have := this.1 (by omega); omega
    ·intro h; have := this.2 (by omega); omega
theorem bl_digits {r top m : Nat} (hr : r < 4294967296 ^ m) (ht : top ≠ 0) : bl (r + 4294967296 ^ m * top) = 32 * m + bl top := by
 have e : 4294967296 ^ m = 2 ^ (32 * m) := by rw [show (4294967296 : Nat) = 2 ^ 32 from rfl, ← Nat.pow_mul]
 rw [e] at hr ⊢
 refine bl_eq fun k => ?_
 have g := bl_ge ht
 have l := bl_lt top
 have b0 : bl top ≠ 0 := fun h => ht (bl_zero.1 h)
 constructor
 ·intro h
  have h1 : 2 ^ (32 * m) * (top + 1) ≤ 2 ^ (32 * m) * 2 ^ bl top := Nat.mul_le_mul_left _ l
  rw [← Nat.pow_add] at h1
  have h2 : 2 ^ (32 * m + bl top) ≤ 2 ^ k := Nat.pow_le_pow_right (by omega) h
  rw [Nat.mul_add] at h1; omega
 ·intro h
  rcases Nat.lt_or_ge k (32 * m + bl top) with q | q
  ·exfalso
   have h1 : 2 ^ (32 * m) * 2 ^ (bl top - 1) ≤ 2 ^ (32 * m) * top := Nat.mul_le_mul_left _ g
   rw [← Nat.pow_add] at h1
   have h2 : 2 ^ k ≤ 2 ^ (32 * m + (bl top - 1)) := Nat.pow_le_pow_right (by omega) (by omega)
   omega
  ·exact q
theorem last_ne {n : Nat} : ∀ h : dg n ≠ [], (dg n).getLast h ≠ 0 := by
 have : ∀ N n : Nat, n ≤ N → ∀ h : dg n ≠ [], (dg n).getLast h ≠ 0 := by
  intro N
  induction N with
  | zero => intro n hn h; have : n = 0 := by omega
            subst this; exact absurd dg_zero h
  | succ N ih =>
   intro n hn h
   have n0 : n ≠ 0 := fun e => h (by rw [e, dg_zero])
   have e := dg_pos n0
   by_cases q : n / 4294967296 = 0
   ·simp only [e, q, dg_zero, List.getLast_singleton]; omega
   ·have ne : dg (n / 4294967296) ≠ [] := fun e' => q (dg_nil.1 e')
    have := ih (n / 4294967296) (by omega) ne
    simp only [e]
    rw [List.getLast_cons ne]; exact this
 exact this n n (Nat.le_refl _)
theorem bl_dg {n : Nat} (h : 0 < (dg n).length) : bl n = 32 * ((dg n).length - 1) + bl ((dg n)[(dg n).length - 1]'(by omega)) := by
 have ne : dg n ≠ [] := List.length_pos_iff.1 h
 have s := val_take (l := dg n) ((dg n).length - 1) (by omega)
 rw [show (dg n).length - 1 + 1 = (dg n).length by omega, List.take_length, val_dg'] at s
 have r := val_lt (ok_take (dg_ok' n) ((dg n).length - 1))
 rw [List.length_take, Nat.min_eq_left (by omega)] at r
 have t := last_ne ne
 rw [List.getLast_eq_getElem] at t
 conv => lhs; rw [s]
 exact bl_digits r t
end Go.Proofs.Ytllocgmbjjoemaa.Dg
end
section
set_option linter.unusedVariables false
set_option linter.unusedSimpArgs false
namespace Go.Proofs.Ytllocgmbjjoemaa.Dg
set_option maxRecDepth 10000
theorem gcd_emod' (c m : Int) : Int.gcd (c % m) m = Int.gcd c m := by
 have d := Int.emod_add_mul_ediv c m
 have h := Int.gcd_add_mul_left_left m (c % m) (c / m)
 rw [d] at h; exact h.symm
structure Cof (c m r s u v w z : Int) : Prop where
 r0 : 0 < r
 s0 : 0 ≤ s
 sr : s < r
 rm : r ≤ m
 er : u * c + w * m = r
 es : v * c + z * m = s
 g : Int.gcd r s = Int.gcd c m
 si : (u ≤ 0 ∧ 0 ≤ v ∧ v * r - u * s = m ∧ -u ≤ v) ∨ (0 ≤ u ∧ v ≤ 0 ∧ u * s - v * r = m ∧ u ≤ -v)
 one : m = 1 → s = 0 ∧ u = 0
theorem Cof.next {c m r s u v w z : Int} (h : Cof c m r s u v w z) (s1 : s ≠ 0) : Cof c m s (r % s) v (u - r / s * v) z (w - r / s * z) := by
 have sp : 0 < s := by have := h.s0; omega
 have e := Int.emod_nonneg r s1
 have l := Int.emod_lt_of_pos r sp
 have d := Int.mul_ediv_add_emod r s
 have q1 : 1 ≤ r / s := by
  rw [Int.le_ediv_iff_mul_le sp]; have := h.sr; omega
 have er := h.er
 have es := h.es
 have gg := h.g
 generalize hq : r / s = q at *
 generalize ht : r % s = t at *
 have dr : r = s * q + t := by omega
 refine ⟨sp, e, l, by have := h.sr; have := h.rm; omega, es, ?_, ?_, ?_, fun m1 => absurd (h.one m1).1 s1⟩
 ·have : (u - q * v) * c + (w - q * z) * m = (u * c + w * m) - q * (v * c + z * m) := by grind
  rw [this, er, es, dr]; grind
 ·rw [← gg, ← ht, Int.gcd_comm s (r % s), gcd_emod']
 ·rcases h.si with ⟨a, b, k, o⟩ | ⟨a, b, k, o⟩
  ·refine .inr ⟨b, ?_, ?_, ?_⟩
   ·have : 0 ≤ q * v := Int.mul_nonneg (by omega) b
    omega
   ·rw [dr] at k; grind
   ·have : 1 * v ≤ q * v := Int.mul_le_mul_of_nonneg_right q1 b
    omega
  ·refine .inl ⟨b, ?_, ?_, ?_⟩
   ·have : q * v ≤ 0 := Int.mul_nonpos_of_nonneg_of_nonpos (by omega) b
    omega
   ·rw [dr] at k; grind
   ·have : 1 * (-v) ≤ q * (-v) := Int.mul_le_mul_of_nonneg_right q1 (by omega)
    simp only [Int.mul_neg] at this
    omega
theorem Cof.vm {c m r s u v w z : Int} (h : Cof c m r s u v w z) : v.natAbs ≤ m.natAbs ∧ u.natAbs ≤ m.natAbs := by
 have r1 := h.r0
 have s1 := h.s0
 have rm := h.rm
 rcases h.si with ⟨a, b, k, o⟩ | ⟨a, b, k, o⟩
 ·have h1 : v * 1 ≤ v * r := Int.mul_le_mul_of_nonneg_left (by omega) b
  have h2 : 0 ≤ (-u) * s := Int.mul_nonneg (by omega) s1
  rw [Int.neg_mul] at h2
  omega
 ·have h1 : (-v) * 1 ≤ (-v) * r := Int.mul_le_mul_of_nonneg_left (by omega) (by omega)
  have h2 : 0 ≤ u * s := Int.mul_nonneg a s1
  rw [Int.neg_mul, Int.neg_mul] at h1
  omega
theorem co_bound {c m r u w : Int} (hm : 0 < m) (r0 : 0 ≤ r) (rm : r ≤ m) (e : u * c + w * m = r) (l : u.natAbs ≤ m.natAbs) : w.natAbs ≤ 1 + c.natAbs := by
 have h1 : w.natAbs * m.natAbs ≤ (1 + c.natAbs) * m.natAbs := by
  have : w * m = r - u * c := by omega
  have h2 : (w * m).natAbs ≤ r.natAbs + (u * c).natAbs := by rw [this]; omega
  rw [Int.natAbs_mul, Int.natAbs_mul] at h2
  have h3 : u.natAbs * c.natAbs ≤ m.natAbs * c.natAbs := Nat.mul_le_mul_right _ l
  rw [Nat.add_mul, Nat.one_mul, Nat.mul_comm c.natAbs]
  omega
 exact Nat.le_of_mul_le_mul_right h1 (by omega)
theorem Cof.wz {c m r s u v w z : Int} (h : Cof c m r s u v w z) : w.natAbs ≤ 1 + c.natAbs ∧ z.natAbs ≤ 1 + c.natAbs := by
 have hv := h.vm
 have m0 : 0 < m := by have := h.r0; have := h.rm; omega
 have := h.sr
 exact ⟨co_bound m0 (by have := h.r0; omega) h.rm h.er hv.2, co_bound m0 h.s0 (by have := h.rm; omega) h.es hv.1⟩
theorem Cof.stop {c m r u v w z : Int} (h : Cof c m r 0 u v w z) (g : Int.gcd c m = 1) : r = 1 ∧
    (u < 0 → 0 ≤ u + m ∧ u + m < m ∧ c * (u + m) + m * (w - c) = 1) ∧ (¬ u < 0 → 0 ≤ u ∧ u < m ∧ c * u + m * w = 1) := by
 have e := h.g
 rw [g, Int.gcd_zero_right] at e
 have r1 : r = 1 := by have := h.r0; omega
 subst r1
 have er := h.er
 have vm := h.vm
 refine ⟨rfl, fun n => ⟨by have := h.rm; omega, by omega, by grind⟩, fun n => ⟨by omega, ?_, by grind⟩⟩
 have := h.rm
 rcases Int.lt_or_le u m with l | l
 ·exact l
 ·have um : u = m := by omega
  subst um
  have d : u ∣ 1 := ⟨c + w, by rw [← er]; grind⟩
  have := Int.eq_one_of_dvd_one (by omega) d
  have := (h.one this).2
  omega
theorem bl_succ' (q : Nat) : bl (q + 1) ≤ bl q + 1 := bl_le.2 (by
 have := bl_lt q
 rw [Nat.pow_succ]; omega)
theorem bl_mono' {a b : Nat} (h : a ≤ b) : bl a ≤ bl b := bl_le.2 (Nat.lt_of_le_of_lt h (bl_lt b))
theorem bl_addk {a b k : Nat} (ha : bl a ≤ k) (hb : bl b ≤ k) : bl (a + b) ≤ k + 1 := bl_le.2 (by
 have h1 := bl_le.1 ha
 have h2 := bl_le.1 hb
 rw [Nat.pow_succ]; omega)
theorem bl_mulk {a b j k : Nat} (ha : bl a ≤ j) (hb : bl b ≤ k) : bl (a * b) ≤ j + k := bl_le.2 (by
 have h1 := bl_le.1 ha
 have h2 := bl_le.1 hb
 rw [Nat.pow_add]
 rcases Nat.eq_zero_or_pos b with z | z
 ·subst z; rw [Nat.mul_zero]; exact Nat.mul_pos (Nat.pow_pos (by omega)) (Nat.pow_pos (by omega))
 ·exact Nat.lt_of_lt_of_le ((Nat.mul_lt_mul_right z).2 h1) (Nat.mul_le_mul_left _ (by omega)))
structure CofBits (c m r s u v w z : Int) : Prop where
 br : bl r.natAbs ≤ 1000
 bs : bl s.natAbs ≤ 1000
 bq : bl (r / s).natAbs ≤ 1000
 bv : bl v.natAbs ≤ 1000
 bz : bl z.natAbs ≤ 1001
 uv : bl (u.natAbs + (r / s * v).natAbs) ≤ 4000
 wz : bl (w.natAbs + (r / s * z).natAbs) ≤ 4000
 um : bl (u.natAbs + m.natAbs) ≤ 4000
 wc : bl (w.natAbs + c.natAbs) ≤ 4000
theorem Cof.bits {c m r s u v w z : Int} (h : Cof c m r s u v w z) (lc : bl c.natAbs ≤ 1000) (lm : bl m.natAbs ≤ 1000) : CofBits c m r s u v w z := by
 obtain ⟨hv, hu⟩ := h.vm
 obtain ⟨hw, hz⟩ := h.wz
 have r0 := h.r0
 have s0 := h.s0
 have sr := h.sr
 have rm := h.rm
 have br : bl r.natAbs ≤ 1000 := Nat.le_trans (bl_mono' (by omega)) lm
 have bs : bl s.natAbs ≤ 1000 := Nat.le_trans (bl_mono' (by omega)) lm
 have bu : bl u.natAbs ≤ 1000 := Nat.le_trans (bl_mono' hu) lm
 have bv : bl v.natAbs ≤ 1000 := Nat.le_trans (bl_mono' hv) lm
 have c1 : bl (1 + c.natAbs) ≤ 1001 := by have := bl_succ' c.natAbs; rw [Nat.add_comm]; omega
 have bw : bl w.natAbs ≤ 1001 := Nat.le_trans (bl_mono' hw) c1
 have bz : bl z.natAbs ≤ 1001 := Nat.le_trans (bl_mono' hz) c1
 have q0 : (r / s).natAbs ≤ r.natAbs := by
  have h1 := Int.ediv_le_self s (show 0 ≤ r by omega)
  have h2 : 0 ≤ r / s := Int.ediv_nonneg (by omega) s0
  omega
 have bq : bl (r / s).natAbs ≤ 1000 := Nat.le_trans (bl_mono' q0) br
 refine ⟨br, bs, bq, bv, bz, ?_, ?_, ?_, ?_⟩
 ·rw [Int.natAbs_mul]
  have := bl_addk (k := 2001) (show bl u.natAbs ≤ 2001 by omega) (Nat.le_trans (bl_mulk bq bv) (by omega)); omega
 ·rw [Int.natAbs_mul]
  have := bl_addk (k := 2001) (show bl w.natAbs ≤ 2001 by omega) (Nat.le_trans (bl_mulk bq bz) (by omega)); omega
 ·have := bl_addk (k := 1000) bu lm; omega
 ·have := bl_addk (k := 1001) bw (show bl c.natAbs ≤ 1001 by omega); omega
end Go.Proofs.Ytllocgmbjjoemaa.Dg
end
section
set_option linter.unusedVariables false
set_option linter.unusedSimpArgs false
namespace Go.Proofs.Ytllocgmbjjoemaa.Dg
set_option maxRecDepth 10000
def cmp (a b : Nat) : Int := if a < b then -1 else if b < a then 1 else 0
theorem len_lt {a b : Nat} (h : (dg a).length < (dg b).length) : a < b := by
 rcases Nat.lt_or_ge a b with l | l
 ·exact l
 ·have h1 := val_lt (dg_ok' a)
  rw [val_dg'] at h1
  have := dg_len _ b (Nat.lt_of_le_of_lt l h1)
  omega
theorem val_at {l : List Nat} (i : Nat) (hi : i < l.length) : val l = val (l.take i) + 4294967296 ^ i * (l[i] + 4294967296 * val (l.drop (i + 1))) := by
 have := val_split (l := l) i
 rw [List.drop_eq_getElem_cons hi, val, List.length_take, Nat.min_eq_left (by omega)] at this
 exact this
theorem lt_at {a b : List Nat} (ha : ok a) (i : Nat) (hi : i < a.length) (hj : i < b.length) (e : a.drop (i + 1) = b.drop (i + 1)) (lt : a[i] < b[i]) : val a < val b := by
 rw [val_at i hi, val_at i hj, e]
 have h := val_lt (ok_take ha i)
 rw [List.length_take, Nat.min_eq_left (by omega)] at h
 have : 4294967296 ^ i * (a[i] + 1 + 4294967296 * val (b.drop (i + 1))) ≤ 4294967296 ^ i * (b[i] + 4294967296 * val (b.drop (i + 1))) := Nat.mul_le_mul_left _ (by omega)
 rw [show a[i] + 1 + 4294967296 * val (b.drop (i + 1)) = a[i] + 4294967296 * val (b.drop (i + 1)) + 1 by omega, Nat.mul_add, Nat.mul_one] at this
 omega
end Go.Proofs.Ytllocgmbjjoemaa.Dg
end
section
set_option linter.unusedVariables false
set_option linter.unusedSimpArgs false
namespace Go.Proofs.Ytllocgmbjjoemaa.Dg
set_option maxRecDepth 10000
theorem len_of_bl {n k : Nat} (h : bl n ≤ 32 * k) : (dg n).length ≤ k := dg_len k n (by rw [show (4294967296 : Nat) = 2 ^ 32 from rfl, ← Nat.pow_mul]; exact bl_le.1 h)
theorem len128 {n : Nat} (h : bl n ≤ 4096) : (dg n).length ≤ 128 := len_of_bl (k := 128) (by omega)
theorem bl_mono {a b : Nat} (h : a ≤ b) : bl a ≤ bl b := bl_le.2 (Nat.lt_of_le_of_lt h (bl_lt b))
def at0 (l : List Nat) (j : Nat) : Nat := l.getD j 0
theorem at0_lt {l : List Nat} {j : Nat} (h : j < l.length) : at0 l j = l[j] := by simp [at0, h]
theorem at0_ge {l : List Nat} {j : Nat} (h : l.length ≤ j) : at0 l j = 0 := by
 simp [at0, List.getD_eq_getElem?_getD, List.getElem?_eq_none h]
theorem at0_ok {l : List Nat} (h : ok l) (j : Nat) : at0 l j < 4294967296 := by
 by_cases hj : j < l.length
 ·rw [at0_lt hj]; exact h _ (List.getElem_mem hj)
 ·rw [at0_ge (by omega)]; omega
theorem val_take0 (l : List Nat) (j : Nat) : val (l.take (j + 1)) = val (l.take j) + 4294967296 ^ j * at0 l j := by
 by_cases hj : j < l.length
 ·rw [val_take j hj, at0_lt hj]
 ·rw [at0_ge (by omega), Nat.mul_zero, List.take_of_length_le (by omega), List.take_of_length_le (by omega)]; rfl
theorem val_snoc (o : List Nat) (x : Nat) : val (o ++ [x]) = val o + 4294967296 ^ o.length * x := by rw [val_append]; simp [val]
theorem ok_snoc {o : List Nat} (h : ok o) {x : Nat} (hx : x < 4294967296) : ok (o ++ [x]) := fun y hy => by
 rcases List.mem_append.1 hy with e | e
 ·exact h y e
 ·rw [List.mem_singleton] at e; omega
structure SumS (lp lq : List Nat) (j cy : Nat) (o : List Nat) : Prop where
 len : o.length = j
 ok : ok o
 c1 : cy ≤ 1
 eq : val o + 4294967296 ^ j * cy = val (lp.take j) + val (lq.take j)
theorem SumS.start (lp lq : List Nat) : SumS lp lq 0 0 [] := ⟨rfl, fun x hx => absurd hx (by simp), by omega, by simp [val]⟩
theorem SumS.next {lp lq : List Nat} {j cy : Nat} {o : List Nat} (h : SumS lp lq j cy o) (hp : Dg.ok lp) (hq : Dg.ok lq) :
    SumS lp lq (j + 1) ((cy + at0 lp j + at0 lq j) / 4294967296) (o ++ [(cy + at0 lp j + at0 lq j) % 4294967296]) := by
 have x := at0_ok hp j
 have y := at0_ok hq j
 have c := h.c1
 refine ⟨by simp [h.len], ok_snoc h.ok (by omega), by omega, ?_⟩
 rw [val_snoc, h.len, val_take0, val_take0, Nat.pow_succ, Nat.mul_assoc, Nat.add_assoc, ← Nat.mul_add, Nat.mod_add_div]
 have e := h.eq
 rw [Nat.mul_add, Nat.mul_add]
 omega
theorem SumS.stop {a b n cy : Nat} {o : List Nat} (h : SumS (dg a ++ [0]) (dg b) (n + 1) cy o) (ha : (dg a).length = n) (hb : (dg b).length ≤ n) : val o = a + b := by
 have e := h.eq
 rw [List.take_of_length_le (by simp; omega), List.take_of_length_le (by omega), val_snoc, val_dg', val_dg', Nat.mul_zero, Nat.add_zero] at e
 have va := val_lt (dg_ok' a)
 have vb := val_lt (dg_ok' b)
 rw [val_dg', ha] at va
 rw [val_dg'] at vb
 have vb' : 4294967296 ^ (dg b).length ≤ 4294967296 ^ n := Nat.pow_le_pow_right (by omega) hb
 rw [Nat.pow_succ, Nat.mul_assoc] at e
 have c : cy = 0 := by
  rcases Nat.eq_zero_or_pos cy with z | z
  ·exact z
  ·have : 4294967296 ^ n * 4294967296 ≤ 4294967296 ^ n * (4294967296 * cy) := Nat.mul_le_mul_left _ (by omega)
   omega
 rw [c] at e; simp at e; exact e
end Go.Proofs.Ytllocgmbjjoemaa.Dg
end
section
set_option linter.unusedVariables false
set_option linter.unusedSimpArgs false
namespace Go.Proofs.Ytllocgmbjjoemaa.Dg
set_option maxRecDepth 10000
theorem val_set {l : List Nat} {k : Nat} (hk : k < l.length) (y : Nat) : val (l.set k y) + 4294967296 ^ k * l[k] = val l + 4294967296 ^ k * y := by
 have h1 := val_at (l := l) k hk
 have h2 := val_at (l := l.set k y) k (by simpa using hk)
 rw [List.getElem_set_self, List.take_set_of_le (Nat.le_refl _), List.drop_set_of_lt (by omega)] at h2
 rw [h2]
 rw [h1]
 simp only [Nat.mul_add]
 omega
theorem ok_set {l : List Nat} (h : ok l) (k : Nat) {y : Nat} (hy : y < 4294967296) : ok (l.set k y) := fun x hx => by
 rcases List.mem_or_eq_of_mem_set hx with e | e
 ·exact h x e
 ·omega
def Z (l : List Nat) (k : Nat) : Prop := ∀ t, k ≤ t → at0 l t = 0
theorem Z_set {l : List Nat} {k j y : Nat} (h : Z l k) (hj : j < k) : Z (l.set j y) k := fun t ht => by
 have := h t ht
 simp only [at0, List.getD_eq_getElem?_getD] at this ⊢
 rw [List.getElem?_set_ne (by omega)]; exact this
structure Pro (lp lq : List Nat) (i : Nat) (out : List Nat) : Prop where
 len : out.length = lp.length + lq.length
 ok : ok out
 eq : val out = val (lp.take i) * val lq
 z : Z out (i + lq.length)
structure Row1 (lp lq : List Nat) (i x j cy : Nat) (out : List Nat) : Prop where
 len : out.length = lp.length + lq.length
 ok : Dg.ok out
 c1 : cy < 4294967296
 eq : val out + 4294967296 ^ (i + j) * cy = val (lp.take i) * val lq + 4294967296 ^ i * (x * val (lq.take j))
 z : Z out (i + lq.length)
theorem Pro.start (lp lq : List Nat) : Pro lp lq 0 (List.replicate (lp.length + lq.length) 0) := by
 refine ⟨by simp, fun x hx => by rw [(List.mem_replicate.1 hx).2]; omega, ?_, fun t _ => ?_⟩
 ·rw [List.take_zero]
  have : ∀ n, val (List.replicate n 0) = 0 := by
   intro n
   induction n with
   | zero => rfl
   | succ n ih => rw [List.replicate_succ, val, ih]
  rw [this]; simp [val]
 ·simp only [at0, List.getD_eq_getElem?_getD, List.getElem?_replicate]
  split <;> rfl
theorem Pro.row {lp lq : List Nat} {i : Nat} {out : List Nat} (h : Pro lp lq i out) (x : Nat) : Row1 lp lq i x 0 0 out :=
 ⟨h.len, h.ok, by omega, by rw [List.take_zero]; simp [val, h.eq], h.z⟩
theorem bound {x y o c : Nat} (hx : x < 4294967296) (hy : y < 4294967296) (ho : o < 4294967296) (hc : c < 4294967296) : x * y ≤ 18446744065119617025 ∧ (c + (x * y + o)) / 4294967296 < 4294967296 := by
 have : x * y ≤ 4294967295 * 4294967295 := Nat.mul_le_mul (by omega) (by omega)
 omega
theorem Row1.next {lp lq : List Nat} {i x j cy : Nat} {out : List Nat} (h : Row1 lp lq i x j cy out) (hi : i < lp.length) (hj : j < lq.length) (hx : x < 4294967296) (okq : Dg.ok lq) :
    Row1 lp lq i x (j + 1) ((cy + (x * lq[j] + out[i + j]'(by have := h.len; omega))) / 4294967296) (out.set (i + j) ((cy + (x * lq[j] + out[i + j]'(by have := h.len; omega))) % 4294967296)) := by
 have hk : i + j < out.length := by have := h.len; omega
 have y := okq _ (List.getElem_mem hj)
 have o := h.ok _ (List.getElem_mem hk)
 have b := bound hx y o h.c1
 refine ⟨by rw [List.length_set]; exact h.len, ok_set h.ok _ (Nat.mod_lt _ (by omega)), b.2, ?_, Z_set h.z (by omega)⟩
 have s := val_set hk ((cy + (x * lq[j] + out[i + j])) % 4294967296)
 have e := h.eq
 have t := val_take j hj
 generalize out[i + j] = o' at *
 generalize lq[j] = y' at *
 generalize hS : cy + (x * y' + o') = S at *
 have d : 4294967296 ^ (i + j) * (S % 4294967296) + 4294967296 ^ (i + (j + 1)) * (S / 4294967296) = 4294967296 ^ (i + j) * S := by
  rw [show i + (j + 1) = i + j + 1 by omega, Nat.pow_succ, Nat.mul_assoc, ← Nat.mul_add, Nat.mod_add_div]
 have f : 4294967296 ^ (i + j) * S = 4294967296 ^ (i + j) * cy + (4294967296 ^ i * (x * (4294967296 ^ j * y')) + 4294967296 ^ (i + j) * o') := by
  rw [← hS, Nat.mul_add, Nat.mul_add]
  congr 2
  rw [Nat.pow_add]; ac_rfl
 rw [t, Nat.mul_add x, Nat.mul_add (4294967296 ^ i)]
 omega
theorem Row1.stop {lp lq : List Nat} {i x cy : Nat} {out : List Nat} (h : Row1 lp lq i x lq.length cy out) (hi : i < lp.length) (hx : x = lp[i]) : Pro lp lq (i + 1) (out.set (i + lq.length) cy) := by
 have hk : i + lq.length < out.length := by have := h.len; omega
 have s := val_set hk cy
 have z : out[i + lq.length] = 0 := by have := h.z _ (Nat.le_refl _); rwa [at0_lt hk] at this
 rw [z, Nat.mul_zero, Nat.add_zero] at s
 have e := h.eq
 rw [List.take_length] at e
 refine ⟨by rw [List.length_set]; exact h.len, ok_set h.ok _ h.c1, ?_, fun t ht => ?_⟩
 ·rw [s, e, val_take i hi, ← hx, Nat.add_mul, Nat.mul_assoc]
 ·have := h.z t (by omega)
  simp only [at0, List.getD_eq_getElem?_getD] at this ⊢
  rw [List.getElem?_set_ne (by omega)]; exact this
end Go.Proofs.Ytllocgmbjjoemaa.Dg
end
section
set_option linter.unusedVariables false
set_option linter.unusedSimpArgs false
namespace Go.Proofs.Ytllocgmbjjoemaa.Eg
set_option maxRecDepth 10000
def val : List Nat → Nat
 | [] => 0
 | x :: t => x + 65536 * val t
def ok (l : List Nat) : Prop := ∀ x ∈ l, x < 65536
def dg (n : Nat) : List Nat := if _h : n = 0 then [] else n % 65536 :: dg (n / 65536)
termination_by n
decreasing_by exact Nat.div_lt_self (by omega) (by omega)
theorem dg_zero : dg 0 = [] := by rw [dg, dif_pos rfl]
theorem dg_pos {n : Nat} (h : n ≠ 0) : dg n = n % 65536 :: dg (n / 65536) := by rw [dg, dif_neg h]
theorem val_dg : ∀ N n : Nat, n ≤ N → val (dg n) = n := by
 intro N
 induction N with
 | zero => intro n h; have : n = 0 := by omega
           subst this; rw [dg_zero]; rfl
 | succ N ih =>
  intro n h
  by_cases h0 : n = 0
  ·subst h0; rw [dg_zero]; rfl
  ·rw [dg_pos h0, val, ih _ (by omega)]; omega
theorem val_dg' (n : Nat) : val (dg n) = n := val_dg n n (Nat.le_refl _)
theorem dg_ok : ∀ N n : Nat, n ≤ N → ok (dg n) := by
 intro N
 induction N with
 | zero => intro n h x hx; have : n = 0 := by omega
           subst this; rw [dg_zero] at hx; cases hx
 | succ N ih =>
  intro n h x hx
  by_cases h0 : n = 0
  ·subst h0; rw [dg_zero] at hx; cases hx
  ·rw [dg_pos h0] at hx
   rcases List.mem_cons.1 hx with e | e
   ·omega
   ·exact ih _ (by omega) x e
theorem dg_ok' (n : Nat) : ok (dg n) := dg_ok n n (Nat.le_refl _)
theorem val_append : ∀ a b : List Nat, val (a ++ b) = val a + 65536 ^ a.length * val b
 | [], b => by simp [val]
 | x :: t, b => by
  rw [List.cons_append, val, val_append t b, val, List.length_cons, Nat.pow_succ, Nat.mul_add, ← Nat.mul_assoc, Nat.mul_comm 65536 (65536 ^ t.length), Nat.add_assoc]
theorem ok_take {l : List Nat} (h : ok l) (n : Nat) : ok (l.take n) := fun x hx => h x (List.mem_of_mem_take hx)
theorem ok_drop {l : List Nat} (h : ok l) (n : Nat) : ok (l.drop n) := fun x hx => h x (List.mem_of_mem_drop hx)
theorem val_lt : ∀ {l : List Nat}, ok l → val l < 65536 ^ l.length
 | [], _ => by simp [val]
 | x :: t, h => by
  have h1 := val_lt (l := t) (fun y hy => h y (List.mem_cons_of_mem _ hy))
  have h2 := h x List.mem_cons_self
  rw [val, List.length_cons, Nat.pow_succ]
  have : 65536 * (val t + 1) ≤ 65536 * 65536 ^ t.length := Nat.mul_le_mul_left _ h1
  rw [Nat.mul_comm (65536 ^ t.length)]; omega
theorem val_zero : ∀ {l : List Nat}, val l = 0 → ∀ x ∈ l, x = 0
 | [], _, x, hx => by cases hx
 | y :: t, h, x, hx => by
  rw [val] at h
  rcases List.mem_cons.1 hx with e | e
  ·omega
  ·exact val_zero (l := t) (by omega) x e
theorem dg_val : ∀ {l : List Nat}, ok l → (∀ h : l ≠ [], l.getLast h ≠ 0) → dg (val l) = l
 | [], _, _ => by rw [val, dg_zero]
 | x :: t, h, hl => by
  have h2 := h x List.mem_cons_self
  have ht : dg (val t) = t := dg_val (l := t) (fun y hy => h y (List.mem_cons_of_mem _ hy)) (fun ne => by
   have := hl (by simp); rwa [List.getLast_cons ne] at this)
  have n0 : val (x :: t) ≠ 0 := fun e => by
   have := hl (by simp)
   exact this (val_zero e _ (List.getLast_mem _))
  rw [dg_pos n0, val]
  rw [show (x + 65536 * val t) % 65536 = x by omega, show (x + 65536 * val t) / 65536 = val t by omega, ht]
theorem dg_cut {l : List Nat} (h : ok l) (j : Nat) (hj : j ≤ l.length) (e : val (l.take j) = val l) (z : ∀ h : j - 1 < l.length, 0 < j → l[j - 1] ≠ 0) : dg (val l) = l.take j := by
 rw [← e]
 refine dg_val (ok_take h j) fun ne => ?_
 have j0 : 0 < j := by
  rcases Nat.eq_zero_or_pos j with q | q
  ·subst q; simp at ne
  ·exact q
 have len : (l.take j).length = j := by rw [List.length_take]; omega
 rw [List.getLast_eq_getElem]
 simp only [len, List.getElem_take]
 exact z (by omega) j0
theorem take_zero {l : List Nat} (j : Nat) (hj : j < l.length) (h : l[j] = 0) : val (l.take (j + 1)) = val (l.take j) := by
 rw [List.take_succ_eq_append_getElem hj, val_append, h]; simp [val]
theorem val_take {l : List Nat} (j : Nat) (hj : j < l.length) : val (l.take (j + 1)) = val (l.take j) + 65536 ^ j * l[j] := by
 rw [List.take_succ_eq_append_getElem hj, val_append, List.length_take, Nat.min_eq_left (by omega)]; simp [val]
theorem val_split {l : List Nat} (j : Nat) : val l = val (l.take j) + 65536 ^ (l.take j).length * val (l.drop j) := by
 rw [← val_append, List.take_append_drop]
theorem dg_len : ∀ k n : Nat, n < 65536 ^ k → (dg n).length ≤ k := by
 intro k
 induction k with
 | zero => intro n h; have : n = 0 := by simpa using h
           subst this; rw [dg_zero]; simp
 | succ k ih =>
  intro n h
  by_cases h0 : n = 0
  ·subst h0; rw [dg_zero]; simp
  ·rw [dg_pos h0, List.length_cons]
   have : n / 65536 < 65536 ^ k := by
    rw [Nat.pow_succ] at h
    exact Nat.div_lt_of_lt_mul (by rw [Nat.mul_comm]; exact h)
   have := ih _ this
   omega
theorem dg_ge (n : Nat) : ∀ k, 65536 ^ k ≤ n → k < (dg n).length := fun k h => by
 have := val_lt (dg_ok' n)
 rw [val_dg'] at this
 rcases Nat.lt_or_ge k (dg n).length with l | l
 ·exact l
 ·have := Nat.pow_le_pow_right (n := 65536) (by omega) l; omega
theorem dg_nil {n : Nat} : dg n = [] ↔ n = 0 := ⟨fun h => by have := val_dg' n; rw [h] at this; exact this.symm, fun h => by rw [h, dg_zero]⟩
open Dg (bl bl_le bl_eq bl_zero bl_lt bl_ge bl_succ' bl_mono' bl_addk bl_mulk)
theorem bl_digits {r top m : Nat} (hr : r < 65536 ^ m) (ht : top ≠ 0) : bl (r + 65536 ^ m * top) = 16 * m + bl top := by
 have e : 65536 ^ m = 2 ^ (16 * m) := by rw [show (65536 : Nat) = 2 ^ 16 from rfl, ← Nat.pow_mul]
 rw [e] at hr ⊢
 refine bl_eq fun k => ?_
 have g := bl_ge ht
 have l := bl_lt top
 have b0 : bl top ≠ 0 := fun h => ht (bl_zero.1 h)
 constructor
 ·intro h
  have h1 : 2 ^ (16 * m) * (top + 1) ≤ 2 ^ (16 * m) * 2 ^ bl top := Nat.mul_le_mul_left _ l
  rw [← Nat.pow_add] at h1
  have h2 : 2 ^ (16 * m + bl top) ≤ 2 ^ k := Nat.pow_le_pow_right (by omega) h
  rw [Nat.mul_add] at h1; omega
 ·intro h
  rcases Nat.lt_or_ge k (16 * m + bl top) with q | q
  ·exfalso
   have h1 : 2 ^ (16 * m) * 2 ^ (bl top - 1) ≤ 2 ^ (16 * m) * top := Nat.mul_le_mul_left _ g
   rw [← Nat.pow_add] at h1
   have h2 : 2 ^ k ≤ 2 ^ (16 * m + (bl top - 1)) := Nat.pow_le_pow_right (by omega) (by omega)
   omega
  ·exact q
theorem last_ne {n : Nat} : ∀ h : dg n ≠ [], (dg n).getLast h ≠ 0 := by
 have : ∀ N n : Nat, n ≤ N → ∀ h : dg n ≠ [], (dg n).getLast h ≠ 0 := by
  intro N
  induction N with
  | zero => intro n hn h; have : n = 0 := by omega
            subst this; exact absurd dg_zero h
  | succ N ih =>
   intro n hn h
   have n0 : n ≠ 0 := fun e => h (by rw [e, dg_zero])
   have e := dg_pos n0
   by_cases q : n / 65536 = 0
   ·simp only [e, q, dg_zero, List.getLast_singleton]; omega
   ·have ne : dg (n / 65536) ≠ [] := fun e' => q (dg_nil.1 e')
    have := ih (n / 65536) (by omega) ne
    simp only [e]
    rw [List.getLast_cons ne]; exact this
 exact this n n (Nat.le_refl _)
theorem bl_dg {n : Nat} (h : 0 < (dg n).length) : bl n = 16 * ((dg n).length - 1) + bl ((dg n)[(dg n).length - 1]'(by omega)) := by
 have ne : dg n ≠ [] := List.length_pos_iff.1 h
 have s := val_take (l := dg n) ((dg n).length - 1) (by omega)
 rw [show (dg n).length - 1 + 1 = (dg n).length by omega, List.take_length, val_dg'] at s
 have r := val_lt (ok_take (dg_ok' n) ((dg n).length - 1))
 rw [List.length_take, Nat.min_eq_left (by omega)] at r
 have t := last_ne ne
 rw [List.getLast_eq_getElem] at t
 conv => lhs; rw [s]
 exact bl_digits r t
theorem len_lt {a b : Nat} (h : (dg a).length < (dg b).length) : a < b := by
 rcases Nat.lt_or_ge a b with l | l
 ·exact l
 ·have h1 := val_lt (dg_ok' a)
  rw [val_dg'] at h1
  have := dg_len _ b (Nat.lt_of_le_of_lt l h1)
  omega
theorem val_at {l : List Nat} (i : Nat) (hi : i < l.length) : val l = val (l.take i) + 65536 ^ i * (l[i] + 65536 * val (l.drop (i + 1))) := by
 have := val_split (l := l) i
 rw [List.drop_eq_getElem_cons hi, val, List.length_take, Nat.min_eq_left (by omega)] at this
 exact this
theorem lt_at {a b : List Nat} (ha : ok a) (i : Nat) (hi : i < a.length) (hj : i < b.length) (e : a.drop (i + 1) = b.drop (i + 1)) (lt : a[i] < b[i]) : val a < val b := by
 rw [val_at i hi, val_at i hj, e]
 have h := val_lt (ok_take ha i)
 rw [List.length_take, Nat.min_eq_left (by omega)] at h
 have : 65536 ^ i * (a[i] + 1 + 65536 * val (b.drop (i + 1))) ≤ 65536 ^ i * (b[i] + 65536 * val (b.drop (i + 1))) := Nat.mul_le_mul_left _ (by omega)
 rw [show a[i] + 1 + 65536 * val (b.drop (i + 1)) = a[i] + 65536 * val (b.drop (i + 1)) + 1 by omega, Nat.mul_add, Nat.mul_one] at this
 omega
theorem len_of_bl {n k : Nat} (h : bl n ≤ 16 * k) : (dg n).length ≤ k := dg_len k n (by rw [show (65536 : Nat) = 2 ^ 16 from rfl, ← Nat.pow_mul]; exact bl_le.1 h)
def at0 (l : List Nat) (j : Nat) : Nat := l.getD j 0
theorem at0_lt {l : List Nat} {j : Nat} (h : j < l.length) : at0 l j = l[j] := by simp [at0, h]
theorem at0_ge {l : List Nat} {j : Nat} (h : l.length ≤ j) : at0 l j = 0 := by
 simp [at0, List.getD_eq_getElem?_getD, List.getElem?_eq_none h]
theorem at0_ok {l : List Nat} (h : ok l) (j : Nat) : at0 l j < 65536 := by
 by_cases hj : j < l.length
 ·rw [at0_lt hj]; exact h _ (List.getElem_mem hj)
 ·rw [at0_ge (by omega)]; omega
theorem val_take0 (l : List Nat) (j : Nat) : val (l.take (j + 1)) = val (l.take j) + 65536 ^ j * at0 l j := by
 by_cases hj : j < l.length
 ·rw [val_take j hj, at0_lt hj]
 ·rw [at0_ge (by omega), Nat.mul_zero, List.take_of_length_le (by omega), List.take_of_length_le (by omega)]; rfl
theorem val_snoc (o : List Nat) (x : Nat) : val (o ++ [x]) = val o + 65536 ^ o.length * x := by rw [val_append]; simp [val]
theorem ok_snoc {o : List Nat} (h : ok o) {x : Nat} (hx : x < 65536) : ok (o ++ [x]) := fun y hy => by
 rcases List.mem_append.1 hy with e | e
 ·exact h y e
 ·rw [List.mem_singleton] at e; omega
structure SumS (lp lq : List Nat) (j cy : Nat) (o : List Nat) : Prop where
 len : o.length = j
 ok : ok o
 c1 : cy ≤ 1
 eq : val o + 65536 ^ j * cy = val (lp.take j) + val (lq.take j)
theorem SumS.start (lp lq : List Nat) : SumS lp lq 0 0 [] := ⟨rfl, fun x hx => absurd hx (by simp), by omega, by simp [val]⟩
theorem SumS.next {lp lq : List Nat} {j cy : Nat} {o : List Nat} (h : SumS lp lq j cy o) (hp : Eg.ok lp) (hq : Eg.ok lq) :
    SumS lp lq (j + 1) ((cy + at0 lp j + at0 lq j) / 65536) (o ++ [(cy + at0 lp j + at0 lq j) % 65536]) := by
 have x := at0_ok hp j
 have y := at0_ok hq j
 have c := h.c1
 refine ⟨by simp [h.len], ok_snoc h.ok (by omega), by omega, ?_⟩
 rw [val_snoc, h.len, val_take0, val_take0, Nat.pow_succ, Nat.mul_assoc, Nat.add_assoc, ← Nat.mul_add, Nat.mod_add_div]
 have e := h.eq
 rw [Nat.mul_add, Nat.mul_add]
 omega
theorem SumS.stop {a b n cy : Nat} {o : List Nat} (h : SumS (dg a ++ [0]) (dg b) (n + 1) cy o) (ha : (dg a).length = n) (hb : (dg b).length ≤ n) : val o = a + b := by
 have e := h.eq
 rw [List.take_of_length_le (by simp; omega), List.take_of_length_le (by omega), val_snoc, val_dg', val_dg', Nat.mul_zero, Nat.add_zero] at e
 have va := val_lt (dg_ok' a)
 have vb := val_lt (dg_ok' b)
 rw [val_dg', ha] at va
 rw [val_dg'] at vb
 have vb' : 65536 ^ (dg b).length ≤ 65536 ^ n := Nat.pow_le_pow_right (by omega) hb
 rw [Nat.pow_succ, Nat.mul_assoc] at e
 have c : cy = 0 := by
  rcases Nat.eq_zero_or_pos cy with z | z
  ·exact z
  ·have : 65536 ^ n * 65536 ≤ 65536 ^ n * (65536 * cy) := Nat.mul_le_mul_left _ (by omega)
   omega
 rw [c] at e; simp at e; exact e
theorem val_set {l : List Nat} {k : Nat} (hk : k < l.length) (y : Nat) : val (l.set k y) + 65536 ^ k * l[k] = val l + 65536 ^ k * y := by
 have h1 := val_at (l := l) k hk
 have h2 := val_at (l := l.set k y) k (by simpa using hk)
 rw [List.getElem_set_self, List.take_set_of_le (Nat.le_refl _), List.drop_set_of_lt (by omega)] at h2
 rw [h2]
 rw [h1]
 simp only [Nat.mul_add]
 omega
theorem ok_set {l : List Nat} (h : ok l) (k : Nat) {y : Nat} (hy : y < 65536) : ok (l.set k y) := fun x hx => by
 rcases List.mem_or_eq_of_mem_set hx with e | e
 ·exact h x e
 ·omega
def Z (l : List Nat) (k : Nat) : Prop := ∀ t, k ≤ t → at0 l t = 0
theorem Z_set {l : List Nat} {k j y : Nat} (h : Z l k) (hj : j < k) : Z (l.set j y) k := fun t ht => by
 have := h t ht
 simp only [at0, List.getD_eq_getElem?_getD] at this ⊢
 rw [List.getElem?_set_ne (by omega)]; exact this
structure Pro (lp lq : List Nat) (i : Nat) (out : List Nat) : Prop where
 len : out.length = lp.length + lq.length
 ok : ok out
 eq : val out = val (lp.take i) * val lq
 z : Z out (i + lq.length)
structure Row1 (lp lq : List Nat) (i x j cy : Nat) (out : List Nat) : Prop where
 len : out.length = lp.length + lq.length
 ok : Eg.ok out
 c1 : cy < 65536
 eq : val out + 65536 ^ (i + j) * cy = val (lp.take i) * val lq + 65536 ^ i * (x * val (lq.take j))
 z : Z out (i + lq.length)
theorem Pro.start (lp lq : List Nat) : Pro lp lq 0 (List.replicate (lp.length + lq.length) 0) := by
 refine ⟨by simp, fun x hx => by rw [(List.mem_replicate.1 hx).2]; omega, ?_, fun t _ => ?_⟩
 ·rw [List.take_zero]
  have : ∀ n, val (List.replicate n 0) = 0 := by
   intro n
   induction n with
   | zero => rfl
   | succ n ih => rw [List.replicate_succ, val, ih]
  rw [this]; simp [val]
 ·simp only [at0, List.getD_eq_getElem?_getD, List.getElem?_replicate]
  split <;> rfl
theorem Pro.row {lp lq : List Nat} {i : Nat} {out : List Nat} (h : Pro lp lq i out) (x : Nat) : Row1 lp lq i x 0 0 out :=
 ⟨h.len, h.ok, by omega, by rw [List.take_zero]; simp [val, h.eq], h.z⟩
theorem bound {x y o c : Nat} (hx : x < 65536) (hy : y < 65536) (ho : o < 65536) (hc : c < 65536) : x * y ≤ 4294836225 ∧ (c + (x * y + o)) / 65536 < 65536 := by
 have : x * y ≤ 65535 * 65535 := Nat.mul_le_mul (by omega) (by omega)
 omega
theorem Row1.next {lp lq : List Nat} {i x j cy : Nat} {out : List Nat} (h : Row1 lp lq i x j cy out) (hi : i < lp.length) (hj : j < lq.length) (hx : x < 65536) (okq : Eg.ok lq) :
    Row1 lp lq i x (j + 1) ((cy + (x * lq[j] + out[i + j]'(by have := h.len; omega))) / 65536) (out.set (i + j) ((cy + (x * lq[j] + out[i + j]'(by have := h.len; omega))) % 65536)) := by
 have hk : i + j < out.length := by have := h.len; omega
 have y := okq _ (List.getElem_mem hj)
 have o := h.ok _ (List.getElem_mem hk)
 have b := bound hx y o h.c1
 refine ⟨by rw [List.length_set]; exact h.len, ok_set h.ok _ (Nat.mod_lt _ (by omega)), b.2, ?_, Z_set h.z (by omega)⟩
 have s := val_set hk ((cy + (x * lq[j] + out[i + j])) % 65536)
 have e := h.eq
 have t := val_take j hj
 generalize out[i + j] = o' at *
 generalize lq[j] = y' at *
 generalize hS : cy + (x * y' + o') = S at *
 have d : 65536 ^ (i + j) * (S % 65536) + 65536 ^ (i + (j + 1)) * (S / 65536) = 65536 ^ (i + j) * S := by
  rw [show i + (j + 1) = i + j + 1 by omega, Nat.pow_succ, Nat.mul_assoc, ← Nat.mul_add, Nat.mod_add_div]
 have f : 65536 ^ (i + j) * S = 65536 ^ (i + j) * cy + (65536 ^ i * (x * (65536 ^ j * y')) + 65536 ^ (i + j) * o') := by
  rw [← hS, Nat.mul_add, Nat.mul_add]
  congr 2
  rw [Nat.pow_add]; ac_rfl
 rw [t, Nat.mul_add x, Nat.mul_add (65536 ^ i)]
 omega
theorem Row1.stop {lp lq : List Nat} {i x cy : Nat} {out : List Nat} (h : Row1 lp lq i x lq.length cy out) (hi : i < lp.length) (hx : x = lp[i]) : Pro lp lq (i + 1) (out.set (i + lq.length) cy) := by
 have hk : i + lq.length < out.length := by have := h.len; omega
 have s := val_set hk cy
 have z : out[i + lq.length] = 0 := by have := h.z _ (Nat.le_refl _); rwa [at0_lt hk] at this
 rw [z, Nat.mul_zero, Nat.add_zero] at s
 have e := h.eq
 rw [List.take_length] at e
 refine ⟨by rw [List.length_set]; exact h.len, ok_set h.ok _ h.c1, ?_, fun t ht => ?_⟩
 ·rw [s, e, val_take i hi, ← hx, Nat.add_mul, Nat.mul_assoc]
 ·have := h.z t (by omega)
  simp only [at0, List.getD_eq_getElem?_getD] at this ⊢
  rw [List.getElem?_set_ne (by omega)]; exact this
end Go.Proofs.Ytllocgmbjjoemaa.Eg
end
section
set_option linter.unusedVariables false
set_option linter.unusedSimpArgs false
namespace Go.Proofs.Ytllocgmbjjoemaa.Rq
open Go.RowKit Go.Proofs.YtllocgmbjjoemaaW.PrintWords
def I (l : List Nat) : List Int := l.map fun (x : Nat) => (x : Int)
theorem I_len (l : List Nat) : (I l).length = l.length := by simp [I]
theorem I_app (a b : List Nat) : I (a ++ b) = I a ++ I b := List.map_append
theorem I_take (l : List Nat) (n : Nat) : (I l).take n = I (l.take n) := by simp [I]
theorem I_set (l : List Nat) (n x : Nat) : (I l).set n (x : Int) = I (l.set n x) := by simp [I, List.map_set]
theorem I_rd {l : List Nat} {j : Nat} (h : j < l.length) : rd (I l) (j : Int) = (l[j] : Int) := by
 simp [rd, I, h]
end Go.Proofs.Ytllocgmbjjoemaa.Rq
end
section
set_option linter.unusedVariables false
set_option linter.unusedSimpArgs false
namespace Go.Proofs.Ytllocgmbjjoemaa.Nv
open Go Go.RowKit Dg
theorem drewN_below {B : Nat} {a w : World} (h : Below B a w) (n : Nat) : Below B a (w.drewN n) := ⟨h.os, h.tape, h.output, h.size, h.block⟩
structure As (p : Prop) : Prop where mk :: (out : p)
theorem gate_b {P : Program} {ops : Array Oper} {rest : List Oper} {o : Oper} {a : Act} {w : World} {Q : Exit → Act → World → Prop} {b : Builtin} {xs : Array Operand} {ts : Array TypeId} (_ho : o.op = .call { callee := .builtin b, args := xs, argTypes := ts }) (h : wpList P ops Q (o :: rest) a w) : wpList P ops Q (o :: rest) a w := h
theorem info_u32 : (Try.prog.info? 92).map (fun i => (i.zero, i.size, i.bytes)) = some (some (.int .u32 0), 1, 4) := by kernel_rfl
def us (l : List Nat) : List Value := l.map fun (x : Nat) => .int .u32 (x : Int)
theorem us_len (l : List Nat) : (us l).length = l.length := by simp [us]
theorem us_one (l : List Nat) : ∀ u ∈ us l, u.oneCell' = true := by
 intro u hu
 obtain ⟨x, _, rfl⟩ := List.mem_map.1 hu
 rfl
theorem us_app (a b : List Nat) : us (a ++ b) = us a ++ us b := List.map_append
theorem us_set (l : List Nat) (j x : Nat) : us (l.set j x) = (us l).set j (.int .u32 (x : Int)) := List.map_set
theorem add_block (a : Addr) (j : Nat) : (a.add j).block = a.block := by unfold Addr.add; split <;> rfl
structure Rd (w : World) (A : Option Addr) (l : List Nat) : Prop where
 len : l.length ≤ 1099511627776
 at_ : 0 < l.length → ∃ ad, A = some ad ∧ ∀ (j x : Nat), l[j]? = some x → w.cell? (ad.add j) = some (.int .u32 (x : Int))
theorem Rd.below {w w' : World} {A : Option Addr} {l : List Nat} (h : Rd w A l) (hb : Below w.heap.size w w') : Rd w' A l := ⟨h.len, fun hl => by
 obtain ⟨ad, e, hc⟩ := h.at_ hl
 exact ⟨ad, e, fun j x hj => by
  have := hc j x hj
  rw [hb.cell (World.block_lt_of_cell? w _ this)]; exact this⟩⟩
theorem Rd.drew {w : World} {A : Option Addr} {l : List Nat} (h : Rd w A l) : Rd w.drew A l := h.below (Below.refl _ _).drew
theorem Rd.drewN {w : World} {A : Option Addr} {l : List Nat} (h : Rd w A l) (n : Nat) : Rd (w.drewN n) A l := h.below (drewN_below (Below.refl _ _) n)
theorem Rd.nil (w : World) (A : Option Addr) : Rd w A [] := ⟨by simp, fun h => by simp at h⟩
theorem Rd.take {w : World} {A : Option Addr} {l : List Nat} (h : Rd w A l) (n : Nat) : Rd w A (l.take n) := ⟨by have := h.len; rw [List.length_take]; omega, fun hl => by
 obtain ⟨ad, e, hc⟩ := h.at_ (by rw [List.length_take] at hl; omega)
 exact ⟨ad, e, fun j x hj => hc j x (by
  rw [List.getElem?_take] at hj
  split at hj
  ·exact hj
  ·cases hj)⟩⟩
theorem Rd.get {w : World} {A : Option Addr} {l : List Nat} (h : Rd w A l) {j : Nat} (hj : j < l.length) : ∃ ad, A = some ad ∧ w.cell? (ad.add j) = some (.int .u32 (l[j] : Int)) := by
 obtain ⟨ad, e, hc⟩ := h.at_ (by omega)
 exact ⟨ad, e, hc j _ (List.getElem?_eq_getElem hj)⟩
theorem Rd.lit (w : World) (l : List Nat) (t : TypeId) (hl : l.length ≤ 1099511627776) : Rd (w.alloc (.cells (us l).toArray t)) (some ⟨w.heap.size, 0, none⟩) l := ⟨hl, fun _ => ⟨_, rfl, fun j x hj => by
 rw [Addr.add_lit, Nat.zero_add, cell_of_row _ _ _ _ _ _ (heap_alloc_new w _)]
 simp [us, hj]⟩⟩
def Num (w : World) (v : Value) (n : Nat) : Prop := ∃ A c, v = .slice A ((dg n).length : Nat) c ∧ (dg n).length ≤ c ∧ Rd w A (dg n)
theorem Num.below {w w' : World} {v : Value} {n : Nat} (h : Num w v n) (hb : Below w.heap.size w w') : Num w' v n := by
 obtain ⟨A, c, e, hc, hr⟩ := h
 exact ⟨A, c, e, hc, hr.below hb⟩
theorem Num.zero (w : World) : Num w (.slice none 0 0) 0 := ⟨none, 0, by rw [dg_zero]; rfl, by rw [dg_zero]; exact Nat.le_refl _, by rw [dg_zero]; exact Rd.nil _ _⟩
def Row (w : World) (base g c : Nat) (l : List Nat) : Prop := w.ownsRow base 92 1 (.slice (some ⟨g, 0, none⟩) l.length c) l.length (us l)
theorem grown_of_below {w w' : World} (hb : Below w.heap.size w w') (row : Option Nat) : w.grownBy w' row := ⟨hb.os, hb.tape, hb.output, hb.size, fun k hk _ => hb.block k hk⟩
theorem Row.below {w w' : World} {base g c : Nat} {l : List Nat} (h : Row w base g c l) (hb : Below w.heap.size w w') : Row w' base g c l :=
 World.ownsRow.kept h (grown_of_below hb none) (.inr (by simp [Value.ownBlock]))
theorem Row.drew {w : World} {base g c : Nat} {l : List Nat} (h : Row w base g c l) : Row w.drew base g c l := h
theorem Row.block {w : World} {base g c : Nat} {l : List Nat} (h : Row w base g c l) : base ≤ g ∧ l.length ≤ c ∧ ∃ cur : Array Value, w.heap[g]? = some (.cells cur 92 (0, 0)) := by
 rcases h.2 with ⟨e, _⟩ | ⟨g', c', cur, e, hb, hg, hn, _⟩
 ·cases e
 ·cases e; exact ⟨hb, hn, cur, hg⟩
theorem Row.lt {w : World} {base g c : Nat} {l : List Nat} (h : Row w base g c l) : g < w.heap.size := by
 obtain ⟨_, _, _, e⟩ := h.block
 exact lt_of_block e
theorem Row.get {w : World} {base g c : Nat} {l : List Nat} (h : Row w base g c l) {j : Nat} (hj : j < l.length) : w.cell? ⟨g, j, none⟩ = some (.int .u32 (l[j] : Int)) ∧ w.frozen? ⟨g, j, none⟩ = false := by
 refine ⟨?_, World.ownsRow.frozenAt h j⟩
 rw [World.ownsRow.cellAt h j (by omega), us, List.getElem?_map, List.getElem?_eq_getElem hj]; rfl
theorem Row.kept {w w' : World} {base g c r : Nat} {l : List Nat} (h : Row w base g c l) (hg : w.grownBy w' (some r)) (ne : g ≠ r) : Row w' base g c l :=
 World.ownsRow.kept h hg (.inr (by simp [Value.ownBlock]; exact ne))
theorem Row.set {w : World} {base g c : Nat} {l : List Nat} (h : Row w base g c l) (j x : Nat) : Row (w.setCell ⟨g, j, none⟩ (.int .u32 (x : Int))) base g c (l.set j x) := by
 obtain ⟨a, _⟩ := World.ownsRow.stored h j (.int .u32 (x : Int))
 unfold Row
 rw [List.length_set, us_set]; exact a
theorem Rd.set {w : World} {A : Option Addr} {l : List Nat} (h : Rd w A l) {g : Nat} (hg : ∀ ad, A = some ad → 0 < l.length → ad.block ≠ g) (j : Nat) (u : Value) : Rd (w.setCell ⟨g, j, none⟩ u) A l := ⟨h.len, fun hl => by
 obtain ⟨ad, e, hc⟩ := h.at_ hl
 exact ⟨ad, e, fun i x hi => by
  have hb := Below.heap_setCell w ⟨g, j, none⟩ u (ad.add i).block (by rw [add_block]; exact hg ad e hl)
  rw [World.cell?_of_block hb]; exact hc i x hi⟩⟩
theorem Rd.far {w : World} {A : Option Addr} {l : List Nat} (h : Rd w A l) {g : Nat} (hg : w.heap.size ≤ g) : ∀ ad, A = some ad → 0 < l.length → ad.block ≠ g := fun ad e hl => by
 obtain ⟨ad', e', hc⟩ := h.at_ hl
 rw [e] at e'
 cases e'
 have := World.block_lt_of_cell? w _ (hc 0 _ (List.getElem?_eq_getElem hl))
 have hb : (ad.add 0).block = ad.block := add_block _ _
 omega
theorem Row.read {w : World} {base g c : Nat} {l : List Nat} (h : Row w base g c l) (hl : l.length ≤ 1099511627776) : Rd w (some ⟨g, 0, none⟩) l := ⟨hl, fun _ => ⟨_, rfl, fun j x hj => by
 have lt : j < l.length := (List.getElem?_eq_some_iff.1 hj).1
 have := (h.get lt).1
 rw [(List.getElem?_eq_some_iff.1 hj).2] at this
 rw [Addr.add_lit, Nat.zero_add]; exact this⟩⟩
theorem wpList_make_lc {P : Program} (w : World) {ops : Array Oper} {rest : List Oper} {o : Oper} {a : Act} {Q : Exit → Act → World → Prop}
    (hg : o.guard = none) (l c : Operand) (t : TypeId) (hop : o.op = Op.makeSlice t l c)
    (e : TypeId) (i : TypeInfo) (z : Value) (h1 : P.underlying t = some (.slice e)) (h2 : P.info? e = some i) (h3 : i.zero = some z)
    (kl kc : IntKind) (L C : Int) (n m : Nat) (hl : a.eval l = .int kl L) (hc : a.eval c = .int kc C) (hL : L = (n : Int)) (hC : C = (m : Int)) (nm : n ≤ m) (b2 : i.bytes * m ≤ 281474976710656) (b3 : m ≤ maxLen)
    (hK : ∀ w', w'.heap[w.heap.size]? = some (.cells (madeCells z.cells (m * i.size)) e (0, 0)) → w.grownBy w' none → wpList P ops Q rest (a.put o.dst (.slice (some ⟨w.heap.size, 0, none⟩) n m)) w') :
    wpList P ops Q (o :: rest) a w := by
 refine wpList_plain hg fun K hK' => ?_
 have h63' : (m : Int) ≤ 9223372036854775807 := by
  have h := b3
  simp [maxLen] at h
  omega
 have hb' : (i.bytes : Int) * (m : Int) ≤ 281474976710656 := by
  have h : ((i.bytes * m : Nat) : Int) ≤ 281474976710656 := by omega
  rwa [Int.natCast_mul] at h
 have hr := run_make (P := P) w t e i z h1 h2 h3 kl kc n m (by omega) (by omega) hb' h63'
 simp only [Int.toNat_natCast] at hr
 subst hL
 subst hC
 unfold Oper.wp
 simp [execOp, hop, hl, hc, hr, Result.andThen]
 exact hK' _ _ (hK _ (heap_alloc_new w _) (World.grownBy_alloc w _ none))
theorem Row.made {w w2 : World} {i : TypeInfo} {n base : Nat} (hz1 : i.size = 1) (hb : base ≤ w.heap.size) (hn : n ≤ 1099511627776)
    (h9 : w2.heap[w.heap.size]? = some (.cells (madeCells (Value.int .u32 0).cells (n * i.size)) 92 (0, 0))) : Row w2 base w.heap.size n (List.replicate n 0) := by
 have e : (madeCells (Value.int .u32 0).cells (n * i.size)) = (us (List.replicate n 0)).toArray := by
  apply Array.toList_inj.1
  rw [hz1, Nat.mul_one, show (Value.int .u32 0).cells = #[Value.int .u32 0] from rfl, toList_madeCells_one]
  simp [us]
 rw [e] at h9
 refine ⟨by simp [us], .inr ⟨w.heap.size, n, _, by simp, hb, h9, by simp, by unfold maxLen; omega, by simp [us], by simp [us]⟩⟩
theorem made_below {w w2 : World} (g2 : w.grownBy w2 none) : Below w.heap.size w w2 := (Below.refl _ w).grown g2 (Nat.le_refl _) (by simp)
theorem Rd.ne {w : World} {A : Option Addr} {l : List Nat} (h : Rd w A l) {g : Nat} {v : Value} {t : TypeId} (hg : w.heap[g]? = some (.cells #[v] t (0, 0))) (hv : ∀ x, v ≠ .int .u32 x) : ∀ ad, A = some ad → 0 < l.length → ad.block ≠ g := fun ad e hl eg => by
 obtain ⟨ad', e', hc⟩ := h.at_ hl
 rw [e] at e'
 cases e'
 have h1 := hc 0 _ (List.getElem?_eq_getElem hl)
 have hb : (ad.add 0).block = ad.block := add_block _ _
 have h2 : w.heap[(ad.add 0).block]? = some (.cells #[v] t (0, 0)) := by rw [hb, eg]; exact hg
 simp only [World.cell?, h2] at h1
 split at h1
 ·cases h1
 ·rw [Array.getElem?_eq_some_iff] at h1
  obtain ⟨hlt, h3⟩ := h1
  have z : (ad.add 0).off = 0 := by simpa using hlt
  simp only [z] at h3
  exact hv _ h3
theorem Rd.put {w : World} {A : Option Addr} {l : List Nat} (h : Rd w A l) {g : Nat} {v : Value} {t : TypeId} (hg : w.heap[g]? = some (.cells #[v] t (0, 0))) (hv : ∀ x, v ≠ .int .u32 x) (u : Value) : Rd (w.setCell ⟨g, 0, none⟩ u) A l := h.set (h.ne hg hv) 0 u
theorem blk2 {w w2 : World} {o o' : Obj} (hb : Below ((w.alloc o).alloc o').heap.size ((w.alloc o).alloc o') w2) : w2.heap[w.heap.size]? = some o :=
 (hb.block w.heap.size (by simp; omega)).trans ((Below.heap_alloc _ _ _ (by simp)).trans (heap_alloc_new w o))
theorem bel1 {w w2 : World} {o : Obj} (hb : Below (w.alloc o).heap.size (w.alloc o) w2) : Below w.heap.size w w2 := ((Below.refl _ w).alloc (Nat.le_refl _) o).trans (hb.mono (by simp))
theorem bel2 {w w2 : World} {o o' : Obj} (hb : Below ((w.alloc o).alloc o').heap.size ((w.alloc o).alloc o') w2) : Below w.heap.size w w2 := bel1 (bel1 hb)
theorem ret_nat {fn : Func} {p : Tmp} (h : fn.results = #[.cell p 66]) {tmps : Array Value} {w : World} (g : Nat) (v : Value) (hp : tmps.getD p undef = .pointer (some ⟨g, 0, none⟩)) (hg : w.heap[g]? = some (.cells #[v] 66 (0, 0))) :
    (results fn tmps).run Try.prog w = .ok (.agg #[v]) w := results_cell_row h tmps w g 66 #[v] (0, 0) _ hp hg Try.underlying66 rfl (by kernel_rfl)
theorem ret_nat2 {fn : Func} {p q : Tmp} (h : fn.results = #[.cell p 66, .tmp q]) {tmps : Array Value} {w : World} (g : Nat) (v u : Value) (hp : tmps.getD p undef = .pointer (some ⟨g, 0, none⟩)) (hq : tmps.getD q undef = u) (hg : w.heap[g]? = some (.cells #[v] 66 (0, 0))) :
    (results fn tmps).run Try.prog w = .ok (.tuple #[.agg #[v], u]) w := by
 have hp' : tmps[p]?.getD undef = .pointer (some ⟨g, 0, none⟩) := by simpa using hp
 have hq' : tmps[q]?.getD undef = u := by simpa using hq
 simp [results, h, hp', hq', asAddr, run_loadVar_row w g 66 66 #[v] (0, 0) _ hg Try.underlying66 rfl (by kernel_rfl)]
theorem blkB {w w2 : World} {o o' : Obj} (hb : Below ((w.alloc o).alloc o').heap.size ((w.alloc o).alloc o') w2) : w2.heap[w.heap.size + 1]? = some o' :=
 (hb.block (w.heap.size + 1) (by simp)).trans (by have := heap_alloc_new (w.alloc o) o'; simpa using this)
theorem blk3 {w w2 : World} {o1 o2 o3 : Obj} (g : (((w.alloc o1).alloc o2).alloc o3).grownBy w2 none) :
    w2.heap[w.heap.size]? = some o1 ∧ w2.heap[w.heap.size + 1]? = some o2 ∧ w2.heap[w.heap.size + 1 + 1]? = some o3 ∧ Below w.heap.size w w2 := by
 have b1 : Below w.heap.size w (w.alloc o1) := (Below.refl _ w).alloc (Nat.le_refl _) o1
 have b2 : Below w.heap.size w ((w.alloc o1).alloc o2) := b1.alloc (by simp) o2
 have b3 : Below w.heap.size w (((w.alloc o1).alloc o2).alloc o3) := b2.alloc (by simp; omega) o3
 have s1 : (w.alloc o1).heap.size = w.heap.size + 1 := by simp
 have s2 : ((w.alloc o1).alloc o2).heap.size = w.heap.size + 1 + 1 := by simp
 have s3 : (((w.alloc o1).alloc o2).alloc o3).heap.size = w.heap.size + 1 + 1 + 1 := by simp
 have h3 := heap_alloc_new ((w.alloc o1).alloc o2) o3
 have h2 := heap_alloc_new (w.alloc o1) o2
 have h1 := heap_alloc_new w o1
 rw [s2] at h3
 rw [s1] at h2
 refine ⟨?_, ?_, ?_, b3.grown g (by omega) (by simp)⟩
 ·rw [g.block _ (by omega) (by simp), Below.heap_alloc _ _ _ (by omega), Below.heap_alloc _ _ _ (by omega)]; exact h1
 ·rw [g.block _ (by omega) (by simp), Below.heap_alloc _ _ _ (by omega)]; exact h2
 ·rw [g.block _ (by omega) (by simp)]; exact h3
theorem made_cells {w2 : World} {i : TypeInfo} {g n : Nat} (hz1 : i.size = 1) (h9 : w2.heap[g]? = some (.cells (madeCells (Value.int .u32 0).cells (n * i.size)) 92 (0, 0))) :
    w2.heap[g]? = some (.cells (us (List.replicate n 0)).toArray 92 (0, 0)) := by
 have e : (madeCells (Value.int .u32 0).cells (n * i.size)) = (us (List.replicate n 0)).toArray := by
  apply Array.toList_inj.1
  rw [hz1, Nat.mul_one, show (Value.int .u32 0).cells = #[Value.int .u32 0] from rfl, toList_madeCells_one]
  simp [us]
 rw [e] at h9; exact h9
theorem Row.of_cells {w : World} {base g c : Nat} {l rest : List Nat} (hb : base ≤ g) (h : w.heap[g]? = some (.cells (us (l ++ rest)).toArray 92 (0, 0))) (hc : (l ++ rest).length = c) (hm : c ≤ 1099511627776) : Row w base g c l := by
 refine ⟨by simp [us], .inr ⟨g, c, _, rfl, hb, h, by simp at hc; omega, by unfold maxLen; omega, by simp [us]; simpa using hc, ?_⟩⟩
 rw [us_app]; simp [us]
theorem splice_us (n : Nat) (l : List Nat) : splice (us (List.replicate n 0)) 0 (us l) = us (l ++ List.replicate (n - l.length) 0) := by
 unfold splice
 rw [List.take_zero, List.nil_append, Nat.zero_add, us_len, us_app]
 congr 1
 simp [us]
theorem Row.next {w : World} {base g c j x : Nat} {o t : List Nat} (h : Row w base g c (o ++ t.drop j)) (ho : o.length = j) (hj : j < t.length) : Row (w.setCell ⟨g, j, none⟩ (.int .u32 (x : Int))) base g c ((o ++ [x]) ++ t.drop (j + 1)) := by
 have := h.set j x
 have e : (o ++ t.drop j).set j x = (o ++ [x]) ++ t.drop (j + 1) := by
  rw [List.set_append_right _ _ (by omega), ho, Nat.sub_self, List.drop_eq_getElem_cons hj, List.set_cons_zero]; simp
 rw [e] at this; exact this
theorem Rd.above {w : World} {A : Option Addr} {l : List Nat} {B : Nat} (h : Rd w A l) (hB : w.heap.size ≤ B) {w1 w2 : World} (h1 : Rd w1 A l) (hb : Below B w1 w2) : Rd w2 A l := ⟨h.len, fun hl => by
 obtain ⟨ad, e, hc⟩ := h1.at_ hl
 obtain ⟨ad', e', hc'⟩ := h.at_ hl
 rw [e] at e'
 cases e'
 refine ⟨ad, e, fun j x hj => ?_⟩
 have l1 := World.block_lt_of_cell? w _ (hc' j x hj)
 rw [hb.cell (by omega)]
 exact hc j x hj⟩
end Go.Proofs.Ytllocgmbjjoemaa.Nv
end
section
set_option linter.unusedVariables false
set_option linter.unusedSimpArgs false
namespace Go.Proofs.Ytllocgmbjjoemaa.Nv
open Go Go.RowKit Go.Proofs.YtllocgmbjjoemaaW.PrintWords Rq
open Eg (dg ok val dg_ok' val_dg' dg_len take_zero dg_cut dg_zero)
theorem Rd.of_C {w : World} {A : Option Addr} {l : List Nat} (h : Kd.C (Kd.int .u32) w A (I l).length (I l)) (hl : l.length ≤ 1099511627776) : Rd w A l := ⟨hl, fun h0 => by
 obtain ⟨ad, e, _⟩ := Kd.at_int h 0 (by omega) (by rw [I_len]; omega)
 refine ⟨ad, e, fun j x hj => ?_⟩
 have lt : j < l.length := (List.getElem?_eq_some_iff.1 hj).1
 obtain ⟨ad', e', hc⟩ := Kd.at_int h (j : Int) (by omega) (by rw [I_len]; omega)
 rw [e] at e'
 cases e'
 rw [I_rd lt, (List.getElem?_eq_some_iff.1 hj).2, Int.toNat_natCast] at hc
 exact hc⟩
theorem Row.R {w : World} {base g c : Nat} {l : List Nat} (h : Row w base g c l) : Kd.R (Kd.int .u32) 92 w base (fun _ => True) (.slice (some ⟨g, 0, none⟩) l.length c) (I l) :=
 Kd.R_of_own (by
  have e : encs (Value.int .u32) (I l) = us l := by simp [encs, I, us]
  rw [e, I_len]; exact h) (fun _ _ => trivial)
theorem Row.take {w : World} {base g c : Nat} {l : List Nat} (h : Row w base g c l) (j : Nat) (hj : j ≤ l.length) : Row w base g c (l.take j) := by
 have el : (l.take j).length = j := by rw [List.length_take]; omega
 obtain ⟨h1, h2⟩ := h
 unfold Row
 rw [el]
 refine ⟨by rw [us_len, el]; omega, ?_⟩
 rcases h2 with ⟨e, _⟩ | ⟨g', c', cur, e, hb, hg, hn, hm, hs, ht⟩
 ·cases e
 ·cases e
  refine .inr ⟨g, c, cur, rfl, hb, hg, by omega, hm, hs, ?_⟩
  rw [Nat.mul_one] at ht ⊢
  rw [us, List.map_take, ← us, ← ht, List.take_take, Nat.min_eq_left hj]
set_option maxRecDepth 100000 in
set_option maxHeartbeats 1600000 in
theorem rcut_calls (A : Option Addr) (c : Nat) (l : List Nat) (w : World) (hr : Rd w A l) (hok : ok l) (hc : l.length ≤ c) :
    Calls Try.prog 82 #[.slice A (l.length : Nat) c] w fun e w' => ∃ j : Nat, e = .returned (.slice A j c) ∧ As (j ≤ l.length ∧ dg (val l) = l.take j) ∧ w' = w := by
 have ll := hr.len
 have HR := As.mk hr
 clear hr
 go_enter Try.func82, Try.ntmps82
 go_wp2
 go_loopg [3] l.length (fun gk v3 wr => ∃ (j : Nat), v3 = .int .i64 (j : Int) ∧ wr = w ∧ As (j ≤ gk ∧ j ≤ l.length ∧ val (l.take j) = val l))
 case atStart => exact ⟨l.length, rfl, rfl, ⟨Nat.le_refl _, Nat.le_refl _, by rw [List.take_length]⟩⟩
 case round =>
  obtain ⟨j, rfl, rfl, J⟩ := hrel
  obtain ⟨jg, jl, _⟩ := J.out
  by_cases j0 : j = 0
  ·subst j0
   have ev : As (val l = 0) := ⟨by have := J.out.2.2; simpa [val] using this.symm⟩
   go_wp2
   go_ret
   exact ⟨0, rfl, ⟨Nat.zero_le _, by rw [ev.out, dg_zero, List.take_zero]⟩, rfl⟩
  ·obtain ⟨x, hx⟩ : ∃ x, x = l[j - 1]'(by omega) := ⟨_, rfl⟩
   obtain ⟨ad, hA, cx⟩ := HR.out.get (j := j - 1) (by omega)
   rw [← hx] at cx
   cases hA
   have HX := As.mk hx
   clear hx
   by_cases z : x = 0
   ·subst z
    go_wp2
    go_roundg (j - 1)
    case measure => omega
    case rel =>
     refine ⟨j - 1, by simp; omega, rfl, ⟨by omega, by omega, ?_⟩⟩
     rw [← J.out.2.2, ← take_zero (j - 1) (by omega) HX.out.symm, show j - 1 + 1 = j by omega]
   ·go_wp2
    go_ret
    exact ⟨j, rfl, ⟨jl, dg_cut hok j jl J.out.2.2 (fun _ _ => by rw [← HX.out]; exact z)⟩, rfl⟩
end Go.Proofs.Ytllocgmbjjoemaa.Nv
end
section
set_option linter.unusedVariables false
set_option linter.unusedSimpArgs false
namespace Go.Proofs.Ytllocgmbjjoemaa.Nv
open Go Go.RowKit Go.Proofs.YtllocgmbjjoemaaW.PrintWords Rq
open Eg (dg ok val Pro Row1 dg_ok' val_dg' bound dg_len)
structure Inn (la lb : List Nat) (i x j cy : Nat) (o : List Nat) : Prop where
 jl : j ≤ lb.length + 1
 a : j ≤ lb.length → Row1 la lb i x j cy o
 b : j = lb.length + 1 → cy = 0 ∧ Pro la lb (i + 1) o
 len : o.length = la.length + lb.length
 ok : ok o
 c1 : cy < 65536
theorem Inn.start {la lb : List Nat} {i x : Nat} {o : List Nat} (h : Pro la lb i o) : Inn la lb i x 0 0 o :=
 ⟨by omega, fun _ => h.row x, fun e => by omega, h.len, h.ok, by omega⟩
theorem Inn.over {la lb : List Nat} {i x cy : Nat} {o : List Nat} (h : Inn la lb i x lb.length cy o) (hi : i < la.length) (hx : x = la[i]) : Inn la lb i x (lb.length + 1) 0 (o.set (i + lb.length) cy) := by
 have r := h.a (Nat.le_refl _)
 have p := r.stop hi hx
 exact ⟨Nat.le_refl _, fun e => by omega, fun _ => ⟨rfl, p⟩, p.len, p.ok, by omega⟩
theorem Inn.done {la lb : List Nat} {i x j : Nat} {o : List Nat} (h : Inn la lb i x j 0 o) (hi : i < la.length) (hx : x = la[i]) (hj : lb.length ≤ j) : Pro la lb (i + 1) o := by
 by_cases e : j = lb.length + 1
 ·exact (h.b e).2
 ·have e2 : j = lb.length := by have := h.jl; omega
  subst e2
  have r := h.a (Nat.le_refl _)
  have p := r.stop hi hx
  have lt : i + lb.length < o.length := by rw [h.len]; omega
  have z : o[i + lb.length] = 0 := by have := r.z _ (Nat.le_refl _); rwa [Eg.at0_lt lt] at this
  have e3 : o.set (i + lb.length) 0 = o := by
   rw [← z]; exact List.set_getElem_self lt
  rwa [e3] at p
theorem Inn.next {la lb : List Nat} {i x j cy : Nat} {o : List Nat} (h : Inn la lb i x j cy o) (hi : i < la.length) (hj : j < lb.length) (hx : x < 65536) (okq : Eg.ok lb) :
    Inn la lb i x (j + 1) ((cy + (x * lb[j] + o[i + j]'(by have := h.len; omega))) / 65536) (o.set (i + j) ((cy + (x * lb[j] + o[i + j]'(by have := h.len; omega))) % 65536)) := by
 have r := (h.a (by omega)).next hi hj hx okq
 exact ⟨by omega, fun _ => r, fun e => by omega, r.len, r.ok, r.c1⟩
set_option maxRecDepth 100000 in
set_option maxHeartbeats 6400000 in
theorem mul16_calls (a b : Nat) (A A' : Option Addr) (c c' : Nat) (w : World) (h0 : Kd.C (Kd.int .u32) w A (I (dg a)).length (I (dg a))) (hc : (I (dg a)).length ≤ c) (h1 : Kd.C (Kd.int .u32) w A' (I (dg b)).length (I (dg b))) (hc' : (I (dg b)).length ≤ c') (la : (dg a).length ≤ 100000) (lb : (dg b).length ≤ 100000) :
    Calls Try.prog 72 #[.slice A (I (dg a)).length c, .slice A' (I (dg b)).length c'] w fun e w' => ∃ v0 : Value, e = .returned v0 ∧ Kd.R (Kd.int .u32) 92 w' w.heap.size (fun _ => True) v0 (I (dg (a * b))) ∧ Below w.heap.size w w' := by
 have R1 := As.mk (Rd.of_C h0 (by omega))
 have R2 := As.mk (Rd.of_C h1 (by omega))
 rw [I_len] at hc hc' ⊢
 rw [I_len]
 clear h0 h1
 obtain ⟨i0, hi0, hz0, hz1, hz2⟩ := info_parts info_u32
 have B0 := As.mk (Below.refl w.heap.size w)
 go_enter Try.func72, Try.ntmps72
 go_wp2_with (first
  | (at_make; refine wpList_make_lc _ rfl (.tmp 14) (.tmp 14) 57 rfl 92 i0 (.int .u32 0) Try.underlying57 hi0 hz0 .i64 .i64 _ _ ((dg a).length + (dg b).length) ((dg a).length + (dg b).length) rfl rfl (by simp) (by simp) (Nat.le_refl _) (by rw [hz2]; omega) (by unfold maxLen; omega) ?_; intro w2 h9 g2; have G2 := As.mk (Row.made hz1 (Nat.le_refl _) (by omega) h9); have B2 := As.mk (made_below g2); clear h9 g2))
 clear hi0 hz0 hz1 hz2 B0
 go_loopg [6] (dg a).length (fun gk v6 wr => ∃ (i : Nat) (out : List Nat), v6 = .int .i64 (i : Int) ∧ As (i ≤ (dg a).length ∧ (dg a).length - i ≤ gk) ∧ As (Pro (dg a) (dg b) i out) ∧ As (Row wr w.heap.size w.heap.size ((dg a).length + (dg b).length) out) ∧ As (Below w.heap.size w wr))
 case atStart => exact ⟨0, _, rfl, ⟨by omega⟩, ⟨Pro.start _ _⟩, G2, B2⟩
 case round =>
  clear G2 B2
  obtain ⟨i, out, rfl, I', S, G, B⟩ := hrel
  obtain ⟨il, ig⟩ := I'.out
  have ol := S.out.len
  by_cases hi : i < (dg a).length
  ·obtain ⟨x, hx⟩ : ∃ x, x = (dg a)[i] := ⟨_, rfl⟩
   have xb : x < 65536 := by rw [hx]; exact dg_ok' a _ (List.getElem_mem hi)
   have HX := As.mk hx
   clear hx
   go_wp2
   go_loopg [7, 8] ((dg b).length + 1) (fun gk v7 v8 wx => ∃ (j cy : Nat) (o : List Nat), v7 = .int .u64 (cy : Int) ∧ v8 = .int .i64 (j : Int) ∧ As ((dg b).length + 1 - j ≤ gk) ∧ As (Inn (dg a) (dg b) i x j cy o) ∧ As (Row wx w.heap.size w.heap.size ((dg a).length + (dg b).length) o) ∧ As (Below w.heap.size w wx))
   case atStart => exact ⟨0, 0, out, rfl, rfl, ⟨by omega⟩, ⟨Inn.start S.out⟩, G, B⟩
   case round =>
    clear S G B ol
    obtain ⟨j, cy, o, rfl, rfl, J, S, G, B⟩ := hrel
    have jg := J.out
    have cyb := S.out.c1
    have ol := S.out.len
    have jl := S.out.jl
    obtain ⟨ad, hA, cx⟩ := (R1.out.below B.out).get hi
    rw [← HX.out] at cx
    cases hA
    by_cases hj : j < (dg b).length
    ·obtain ⟨ad', hA', cy'⟩ := (R2.out.below B.out).get hj
     obtain ⟨y, hy⟩ : ∃ y, y = (dg b)[j] := ⟨_, rfl⟩
     have yb : y < 65536 := by rw [hy]; exact dg_ok' b _ (List.getElem_mem hj)
     rw [← hy] at cy'
     have HY := As.mk hy
     cases hA'
     clear hy
     have ko : i + j < o.length := by omega
     obtain ⟨z, hz⟩ : ∃ z, z = o[i + j] := ⟨_, rfl⟩
     have zb : z < 65536 := by rw [hz]; exact S.out.ok _ (List.getElem_mem ko)
     obtain ⟨cz, fz⟩ := G.out.get ko
     rw [← hz] at cz
     have HZ := As.mk hz
     clear hz
     have bd := bound xb yb zb cyb
     have xy : (x : Int) * (y : Int) = ((x * y : Nat) : Int) := (Int.natCast_mul _ _).symm
     have xy0 : 0 ≤ (x : Int) * (y : Int) := by rw [xy]; omega
     have xy1 : (x : Int) * (y : Int) ≤ 4294836225 := by rw [xy]; omega
     have XY := As.mk xy
     have BD := As.mk bd
     clear xy bd
     go_wp2
     go_quiet (fail)
     go_wp2
     go_roundg ((dg b).length + 1 - (j + 1))
     case measure => omega
     case rel =>
      have N := S.out.next hi hj xb (dg_ok' b)
      rw [← HY.out, ← HZ.out] at N
      have e1 : (((cy + (x * y + z)) / 65536 : Nat) : Int) = ((z : Int) + (cy : Int) + (x : Int) * (y : Int)) / 65536 := by rw [XY.out]; omega
      have e2 : (((cy + (x * y + z)) % 65536 : Nat) : Int) = ((z : Int) + (cy : Int) + (x : Int) * (y : Int)) % 65536 := by rw [XY.out]; omega
      have G' := fun nq => (G.out.below (drewN_below (Below.refl _ _) nq)).set (i + j) ((cy + (x * y + z)) % 65536)
      rw [e2] at G'
      refine ⟨j + 1, _, _, ?_, by simp, ⟨by omega⟩, ⟨N⟩, ⟨G' _⟩, ⟨(drewN_below B.out _).setCell (Nat.le_refl _) _⟩⟩
      rw [e1]
    ·by_cases cz0 : cy = 0
     ·subst cz0
      have P := As.mk (S.out.done hi HX.out (by omega))
      go_wp2
      go_roundg ((dg a).length - (i + 1))
      case measure => omega
      case rel => exact ⟨i + 1, o, by simp, ⟨by omega⟩, P, G, B⟩
     ·have je : j = (dg b).length := by
        rcases Nat.lt_or_ge (dg b).length j with l | l
        ·exact absurd (S.out.b (by omega)).1 cz0
        ·omega
      have cyp : 0 < cy := by omega
      have ko : i + j < o.length := by omega
      have z0 : As (o[i + j] = 0) := ⟨by
       subst je
       have r := S.out.a (Nat.le_refl _)
       have := r.z _ (Nat.le_refl _)
       rwa [Eg.at0_lt ko] at this⟩
      obtain ⟨cz, fz⟩ := G.out.get ko
      rw [z0.out] at cz
      have ov := As.mk (show Inn (dg a) (dg b) i x ((dg b).length + 1) 0 (o.set (i + j) cy) by
       subst je
       exact S.out.over hi HX.out)
      have JE := As.mk je
      have jn : ¬ ((j : Int) < ((dg b).length : Int)) := by omega
      clear z0 cz0 je
      go_wp2
      go_roundg 0
      case measure => have := JE.out; omega
      case rel =>
       have e1 : ((0 : Nat) : Int) = ((cy : Int)) / 65536 := by omega
       have e2 : ((cy : Nat) : Int) = ((cy : Int)) % 65536 := by omega
       have G' := G.out.set (i + j) cy
       have O := ov.out
       rw [← JE.out] at O
       refine ⟨j + 1, 0, _, ?_, by simp, ⟨by have := JE.out; omega⟩, ⟨O⟩, ⟨?_⟩, ⟨B.out.setCell (Nat.le_refl _) _⟩⟩
       ·simp; omega
       ·first | exact G' | (rw [e2] at G'; simpa using G')
  ·have ie : i = (dg a).length := by omega
   have ev : val out = a * b := by
    have := S.out.eq
    rw [ie, List.take_length, val_dg', val_dg'] at this; exact this
   have CC := rcut_calls (some ⟨w.heap.size, 0, none⟩) ((dg a).length + (dg b).length) out wr (G.out.read (by omega)) S.out.ok (by omega)
   rw [ol, ev] at CC
   have CO := As.mk CC
   clear CC ev
   go_wp2_with (first
    | (go_at_call 82; (with_reducible refine CO.out.mono ?_); rintro e w5 ⟨j, rfl, hj, rfl⟩))
   go_ret
   have RT := G.out.take j (by rw [ol]; exact hj.out.1)
   rw [← hj.out.2] at RT
   have RR := RT.R
   rw [hj.out.2, List.length_take, Nat.min_eq_left (by rw [ol]; exact hj.out.1), ← hj.out.2] at RR
   exact ⟨_, rfl, RR, B.out⟩
end Go.Proofs.Ytllocgmbjjoemaa.Nv
end
section
set_option linter.unusedVariables false
set_option linter.unusedSimpArgs false
namespace Go.Proofs.Ytllocgmbjjoemaa
open Go Go.RowKit Go.Proofs.YtllocgmbjjoemaaW.PrintWords Rq Eg
def nv (l : List Int) : Nat := val (l.map Int.toNat)
theorem nv_I (n : Nat) : nv (I (dg n)) = n := by
 have e : (I (dg n)).map Int.toNat = dg n := by
  rw [I, List.map_map]
  conv => rhs; rw [← List.map_id (dg n)]
  exact List.map_congr_left fun x _ => by simp
 rw [nv, e, val_dg']
def parquetref01_Mul.f (l0 l1 : List Int) : Option (List Int) := if l0 = I (dg (nv l0)) ∧ l1 = I (dg (nv l1)) ∧ l0.length ≤ 100000 ∧ l1.length ≤ 100000 then some (I (dg (nv l0 * nv l1))) else none
theorem parquetref01_Mul.calls (A0 : Option Addr) (c0 : Nat) (l0 : List Int) (A1 : Option Addr) (c1 : Nat) (l1 : List Int) (r : List Int) (w : World) (hr0 : Kd.C (Kd.int .u32) w A0 l0.length l0) (hc0 : l0.length ≤ c0) (hr1 : Kd.C (Kd.int .u32) w A1 l1.length l1) (hc1 : l1.length ≤ c1) (h : parquetref01_Mul.f l0 l1 = some r) :
    Calls Try.prog 72 #[.slice A0 l0.length c0, .slice A1 l1.length c1] w fun e w' => ∃ v0_ : Value, e = .returned (v0_) ∧ Kd.R (Kd.int .u32) 92 w' w.heap.size (fun _ => True) v0_ r ∧ Below w.heap.size w w' := by
 unfold parquetref01_Mul.f at h
 split at h
 ·next hh =>
  obtain ⟨h1, h2, h3, h4⟩ := hh
  injection h with h
  subst h
  generalize nv l0 = a at *
  generalize nv l1 = b at *
  subst h1
  subst h2
  rw [I_len] at h3 h4
  exact Nv.mul16_calls a b A0 A1 c0 c1 w hr0 hc0 hr1 hc1 h3 h4
 ·cases h
theorem mul_f (a b : Nat) (ha : (dg a).length ≤ 100000) (hb : (dg b).length ≤ 100000) : parquetref01_Mul.f (I (dg a)) (I (dg b)) = some (I (dg (a * b))) := by
 unfold parquetref01_Mul.f
 rw [nv_I, nv_I, if_pos ⟨rfl, rfl, by rw [I_len]; exact ha, by rw [I_len]; exact hb⟩]
end Go.Proofs.Ytllocgmbjjoemaa
end
