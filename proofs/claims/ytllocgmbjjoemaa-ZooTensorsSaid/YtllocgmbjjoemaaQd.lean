/- The document's natural numbers (parquetref01), printed: what cut, Of, Cmp tell. Plain Lean over printed functions. The document's natural numbers, printed: Cmp. The document's natural numbers, printed: Bits, Sub, Add, Small. Plain Lean over printed functions. The document's natural numbers, printed: Add, Small. Plain Lean over printed functions. The document's natural numbers, printed: Div, Gcd. Plain Lean over printed functions. The borrow of a difference of 32 bits, as the library's text reckons it. bits.Sub32, by a walk: the difference and the borrow. Differences by digits. Plain Lean, no program. Natural numbers: less (the digits of a number taken away, in place), by a walk. Natural numbers: cut (no noughts at the end) and Of, by walks. Natural numbers: Of (a number of 64 bits), by a walk. -/
import Derived.Test.YtllocgmbjjoemaaQc
import Derived.Test.YtllocgmbjjoemaaQb
import Derived.RowKit
import Derived.Laws.BitsLemmas
import Derived.WalkMore
section
set_option linter.unusedVariables false
set_option linter.unusedSimpArgs false
namespace Go.Proofs.Ytllocgmbjjoemaa.Rq
open Go.RowKit Go.Proofs.YtllocgmbjjoemaaW.PrintWords Go.Proofs.YtllocgmbjjoemaaW.PrintLast Go.Proofs.YtllocgmbjjoemaaW.PrintMore Go.Proofs.Ytllocgmbjjoemaa.PDet
open Eg
open Dg (bl cmp)
theorem wrap_sub1 {j : Nat} (h : j < 1099511627776) : wrap64 (((j + 1 : Nat) : Int) - 1) = (j : Int) := by unfold wrap64; omega
theorem wrap_add1 {j : Nat} (h : j < 1099511627776) : wrap64 ((j : Int) + 1) = ((j + 1 : Nat) : Int) := by unfold wrap64; omega
theorem cut_l0 {l : List Nat} (ok : ok l) (hl : l.length < 1099511627776) : ∀ j, j ≤ l.length → val (l.take j) = val l → Ev (fun k => parquetref01_cut.l0 k (I l) (j : Int)) (I (dg (val l)))
 | 0, _, e => by
  refine Ev.step (f := fun _ => some (I (dg (val l)))) (fun k => ?_) (Ev.now _)
  simp only [parquetref01_cut.l0]
  rw [if_neg (by omega), if_pos (by omega), if_pos (by omega)]
  rw [← e, List.take_zero]; simp [val, dg_zero, I]
 | j + 1, h, e => by
  have hj : j < l.length := by omega
  by_cases z : l[j] = 0
  ·refine Ev.step (f := fun k => parquetref01_cut.l0 k (I l) (j : Int)) (fun k => ?_) (cut_l0 ok hl j (by omega) (by rw [← take_zero j hj z]; exact e))
   simp only [parquetref01_cut.l0]
   rw [if_pos (by omega), wrap_sub1 (by omega), if_pos (by omega), if_pos (by rw [I_len]; omega), I_rd hj, if_pos (by omega)]
  ·refine Ev.step (f := fun _ => some (I (dg (val l)))) (fun k => ?_) (Ev.now _)
   simp only [parquetref01_cut.l0]
   rw [if_pos (by omega), wrap_sub1 (by omega), if_pos (by omega), if_pos (by rw [I_len]; omega), I_rd hj, if_neg (by omega), if_pos (by omega), if_pos (by rw [I_len]; omega), Int.toNat_natCast, I_take]
   rw [dg_cut ok (j + 1) h e (fun _ _ => by simpa using z)]
theorem cut_ev {l : List Nat} (ok : ok l) (hl : l.length < 1099511627776) : Ev (fun k => parquetref01_cut.f k (I l)) (I (dg (val l))) := by
 have h := cut_l0 ok hl l.length (Nat.le_refl _) (by rw [List.take_length])
 refine Ev.congr (fun k => ?_) h
 simp only [parquetref01_cut.f]
 rw [I_len]
theorem of_l0 : ∀ (N n : Nat) (o : List Nat), n ≤ N → n < 18446744073709551616 → o.length + (dg n).length < 1000 → Ev (fun k => parquetref01_Of.l0 k (n : Int) (I o)) (I (o ++ dg n))
 | N, n, o, hN, hn, hl => by
  by_cases z : n = 0
  ·subst z
   refine Ev.step (f := fun _ => some (I (o ++ dg 0))) (fun k => ?_) (Ev.now _)
   simp only [parquetref01_Of.l0]
   rw [if_neg (by omega), dg_zero, List.append_nil]
  ·cases N with
   | zero => omega
   | succ N =>
    rw [dg_pos z] at hl ⊢
    rw [List.length_cons] at hl
    have ih := of_l0 N (n / 65536) (o ++ [n % 65536]) (by omega) (by omega) (by simp; omega)
    rw [List.append_assoc] at ih
    refine Ev.step (f := fun k => parquetref01_Of.l0 k ((n / 65536 : Nat) : Int) (I (o ++ [n % 65536]))) (fun k => ?_) ih
    simp only [parquetref01_Of.l0]
    rw [if_pos (by omega), if_pos (by rw [I_len]; omega)]
    have e1 : IntKind.u64.wrap (Int.tdiv (n : Int) 65536) = ((n / 65536 : Nat) : Int) := by
     rw [Int.tdiv_eq_ediv_of_nonneg (by omega), IntKind.wrap_u64]; omega
    have e2 : (Int.tmod (n : Int) 65536) % 4294967296 = ((n % 65536 : Nat) : Int) := by
     rw [Int.tmod_eq_emod_of_nonneg (by omega)]; omega
    rw [e1, e2, I_app]; rfl
theorem of_ev (n : Nat) (hn : n < 18446744073709551616) : Ev (fun k => parquetref01_Of.f k (n : Int)) (I (dg n)) := by
 have h := of_l0 n n [] (Nat.le_refl _) hn (by have := dg_len 4 n (by omega); simp; omega)
 exact Ev.congr (fun k => rfl) h
end Go.Proofs.Ytllocgmbjjoemaa.Rq
end
section
set_option linter.unusedVariables false
set_option linter.unusedSimpArgs false
namespace Go.Proofs.Ytllocgmbjjoemaa.Rq
open Go.RowKit Go.Proofs.YtllocgmbjjoemaaW.PrintWords Go.Proofs.YtllocgmbjjoemaaW.PrintLast Go.Proofs.YtllocgmbjjoemaaW.PrintMore Go.Proofs.Ytllocgmbjjoemaa.PDet
open Eg
open Dg (bl cmp)
theorem cmp_l0 {a b : List Nat} (oa : ok a) (ob : ok b) (e : a.length = b.length) (hl : a.length < 1099511627776) : ∀ j, j ≤ a.length → a.drop j = b.drop j → Ev (fun k => parquetref01_Cmp.l0 k (I a) (I b) ((j : Int) - 1)) (cmp (val a) (val b))
 | 0, _, h => by
  rw [List.drop_zero, List.drop_zero] at h
  subst h
  refine Ev.step (f := fun _ => some (cmp (val a) (val a))) (fun k => ?_) (Ev.now _)
  simp only [parquetref01_Cmp.l0]
  rw [if_neg (by omega)]
  simp [cmp]
 | j + 1, hj, h => by
  have ja : j < a.length := by omega
  have jb : j < b.length := by omega
  have ej : ((j + 1 : Nat) : Int) - 1 = (j : Int) := by omega
  rw [ej]
  rcases Nat.lt_trichotomy a[j] b[j] with lt | eq | gt
  ·refine Ev.step (f := fun _ => some (cmp (val a) (val b))) (fun k => ?_) (Ev.now _)
   simp only [parquetref01_Cmp.l0]
   rw [if_pos (by omega), if_pos (by omega), if_pos (by rw [I_len]; omega), if_pos (by rw [I_len]; omega), I_rd ja, I_rd jb, if_pos (by omega)]
   have := lt_at oa j ja jb h lt
   simp [cmp, this]
  ·refine Ev.step (f := fun k => parquetref01_Cmp.l0 k (I a) (I b) ((j : Int) - 1)) (fun k => ?_) (cmp_l0 oa ob e hl j (by omega) (by rw [List.drop_eq_getElem_cons ja, List.drop_eq_getElem_cons jb, h, eq]))
   simp only [parquetref01_Cmp.l0]
   rw [if_pos (by omega), if_pos (by omega), if_pos (by rw [I_len]; omega), if_pos (by rw [I_len]; omega), I_rd ja, I_rd jb, if_neg (by omega), if_neg (by omega)]
   congr 1
   unfold wrap64; omega
  ·refine Ev.step (f := fun _ => some (cmp (val a) (val b))) (fun k => ?_) (Ev.now _)
   simp only [parquetref01_Cmp.l0]
   rw [if_pos (by omega), if_pos (by omega), if_pos (by rw [I_len]; omega), if_pos (by rw [I_len]; omega), I_rd ja, I_rd jb, if_neg (by omega), if_pos (by omega)]
   have := lt_at ob j jb ja h.symm gt
   simp [cmp, this, Nat.lt_asymm this]
theorem cmp_ev (a b : Nat) (ha : (dg a).length < 1099511627776) : Ev (fun k => parquetref01_Cmp.f k (I (dg a)) (I (dg b))) (cmp a b) := by
 by_cases e : (dg a).length = (dg b).length
 ·have h := cmp_l0 (dg_ok' a) (dg_ok' b) e ha (dg a).length (Nat.le_refl _) (by rw [List.drop_length, e, List.drop_length])
  rw [val_dg', val_dg'] at h
  refine Ev.congr (fun k => ?_) h
  simp only [parquetref01_Cmp.f]
  rw [I_len, I_len, if_pos (by omega)]
  congr 1
  unfold wrap64; omega
 ·refine Ev.congr (f := fun _ => some (cmp a b)) (fun k => ?_) (Ev.now _)
  simp only [parquetref01_Cmp.f]
  rw [I_len, I_len, if_neg (by omega)]
  by_cases lt : (dg a).length < (dg b).length
  ·rw [if_pos (by omega)]
   simp [cmp, len_lt lt]
  ·rw [if_neg (by omega)]
   have := len_lt (a := b) (b := a) (by omega)
   simp [cmp, this, Nat.lt_asymm this]
end Go.Proofs.Ytllocgmbjjoemaa.Rq
end
section
set_option linter.unusedVariables false
set_option linter.unusedSimpArgs false
namespace Go.Proofs.Ytllocgmbjjoemaa.Rq
open Go.RowKit Go.Proofs.YtllocgmbjjoemaaW.PrintWords Go.Proofs.YtllocgmbjjoemaaW.PrintLast Go.Proofs.YtllocgmbjjoemaaW.PrintMore Go.Proofs.Ytllocgmbjjoemaa.PDet
open Eg
open Dg (bl cmp)
structure SubS (lp lq : List Nat) (j b : Nat) (o : List Nat) : Prop where
 len : o.length = j
 ok : Eg.ok o
 b1 : b ≤ 1
 eq : val o + val (lq.take j) = val (lp.take j) + 65536 ^ j * b
theorem SubS.start (lp lq : List Nat) : SubS lp lq 0 0 [] := ⟨rfl, fun x hx => absurd hx (by simp), by omega, by simp [val]⟩
theorem SubS.next {lp lq : List Nat} {j b : Nat} {o : List Nat} (h : SubS lp lq j b o) (hp : Eg.ok lp) (hq : Eg.ok lq) :
    SubS lp lq (j + 1) (1 - (at0 lp j + 65536 - b - at0 lq j) / 65536) (o ++ [(at0 lp j + 65536 - b - at0 lq j) % 65536]) := by
 have x := at0_ok hp j
 have y := at0_ok hq j
 have b1 := h.b1
 have e := h.eq
 refine ⟨by simp [h.len], ok_snoc h.ok (by omega), by omega, ?_⟩
 have d : (at0 lp j + 65536 - b - at0 lq j) % 65536 + at0 lq j + b = at0 lp j + 65536 * (1 - (at0 lp j + 65536 - b - at0 lq j) / 65536) := by omega
 rw [val_snoc, h.len, val_take0, val_take0, Nat.pow_succ, Nat.mul_assoc]
 have k : 65536 ^ j * ((at0 lp j + 65536 - b - at0 lq j) % 65536) + 65536 ^ j * at0 lq j + 65536 ^ j * b = 65536 ^ j * at0 lp j + 65536 ^ j * (65536 * (1 - (at0 lp j + 65536 - b - at0 lq j) / 65536)) := by
  rw [← Nat.mul_add, ← Nat.mul_add, ← Nat.mul_add, d]
 omega
theorem SubS.last {lp lq : List Nat} {b : Nat} {o : List Nat} (h : SubS lp lq lp.length b o) (hq : lq.length ≤ lp.length) (le : val lq ≤ val lp) : b = 0 ∧ val o + val lq = val lp := by
 have e := h.eq
 rw [List.take_of_length_le hq, List.take_length] at e
 have v := val_lt h.ok
 rw [h.len] at v
 rcases Nat.eq_zero_or_pos b with z | z
 ·subst z; exact ⟨rfl, by omega⟩
 ·have : 65536 ^ lp.length * 1 ≤ 65536 ^ lp.length * b := Nat.mul_le_mul_left _ z
  omega
theorem sub_l0 {lp lq : List Nat} (hp : Eg.ok lp) (hq : Eg.ok lq) (ll : lp.length < 1000000) (lle : lq.length ≤ lp.length) (le : val lq ≤ val lp) : ∀ (n j b : Nat) (o : List Nat), lp.length - j = n → j ≤ lp.length → SubS lp lq j b o →
    Ev (fun k => parquetref01_Sub.l0 k (I lp) (I lq) (I o) (b : Int) (j : Int)) (I (dg (val lp - val lq)))
 | 0, j, b, o, hn, hj, h => by
  have je : j = lp.length := by omega
  subst je
  obtain ⟨_, hv⟩ := h.last lle le
  have c := cut_ev h.ok (by rw [h.len]; omega)
  rw [show val o = val lp - val lq by omega] at c
  refine Ev.step (f := fun k => (parquetref01_cut.f k (I o)).bind fun t => some t) (fun k => ?_) (Ev.bind c (Ev.now _))
  simp only [parquetref01_Sub.l0]
  rw [I_len, if_neg (by omega)]
 | n + 1, j, b, o, hn, hj, h => by
  have hj' : j < lp.length := by omega
  have ih := sub_l0 hp hq ll lle le n (j + 1) _ _ (by omega) (by omega) (h.next hp hq)
  have b1 := h.b1
  have ol := h.len
  have x := hp _ (List.getElem_mem hj')
  by_cases hq' : j < lq.length
  ·have y := hq _ (List.getElem_mem hq')
   rw [at0_lt hj', at0_lt hq'] at ih
   refine Ev.step (fun k => ?_) ih
   simp only [parquetref01_Sub.l0]
   rw [I_len, I_len, I_len, if_pos (by omega), if_pos (by omega), if_pos (by omega), if_pos (by omega), I_rd hj', I_rd hq', wrap_add1 (by omega), I_app]
   have e1 : ((((lp[j] : Int) + 65536) - (b : Int)) - (lq[j] : Int)) % 65536 = (((lp[j] + 65536 - b - lq[j]) % 65536 : Nat) : Int) := by omega
   have e2 : (1 - ((((((lp[j] : Int) + 65536) - (b : Int)) - (lq[j] : Int)) % 4294967296) / 65536)) % 4294967296 = ((1 - (lp[j] + 65536 - b - lq[j]) / 65536 : Nat) : Int) := by omega
   rw [e1, e2]; rfl
  ·rw [at0_lt hj', at0_ge (by omega)] at ih
   refine Ev.step (fun k => ?_) ih
   simp only [parquetref01_Sub.l0]
   rw [I_len, I_len, I_len, if_pos (by omega), if_pos (by omega), if_neg (by omega), if_pos (by omega), I_rd hj', wrap_add1 (by omega), I_app]
   have e1 : (((lp[j] : Int) + 65536) - (b : Int)) % 65536 = (((lp[j] + 65536 - b - 0) % 65536 : Nat) : Int) := by omega
   have e2 : (1 - (((((lp[j] : Int) + 65536) - (b : Int)) % 4294967296) / 65536)) % 4294967296 = ((1 - (lp[j] + 65536 - b - 0) / 65536 : Nat) : Int) := by omega
   rw [e1, e2]; rfl
theorem len_mono {a b : Nat} (h : b ≤ a) : (dg b).length ≤ (dg a).length := by
 rcases Nat.lt_or_ge (dg a).length (dg b).length with l | l
 ·have := len_lt l; omega
 ·exact l
theorem sub_ev (a b : Nat) (h : b ≤ a) (hl : (dg a).length < 1000000) : Ev (fun k => parquetref01_Sub.f k (I (dg a)) (I (dg b))) (I (dg (a - b))) := by
 have s := sub_l0 (dg_ok' a) (dg_ok' b) hl (len_mono h) (by rw [val_dg', val_dg']; exact h) _ 0 0 [] rfl (by omega) (SubS.start _ _)
 rw [val_dg', val_dg'] at s
 exact Ev.congr (fun k => rfl) s
end Go.Proofs.Ytllocgmbjjoemaa.Rq
end
section
set_option linter.unusedVariables false
set_option linter.unusedSimpArgs false
namespace Go.Proofs.Ytllocgmbjjoemaa.Rq
open Go.RowKit Go.Proofs.YtllocgmbjjoemaaW.PrintWords Go.Proofs.YtllocgmbjjoemaaW.PrintLast Go.Proofs.YtllocgmbjjoemaaW.PrintMore Go.Proofs.Ytllocgmbjjoemaa.PDet
open Eg
open Dg (bl cmp)
theorem add_step {lp lq : List Nat} (hp : Eg.ok lp) (hq : Eg.ok lq) (ll : lp.length < 1000000) (lm : lq.length < 1000000) {j cy : Nat} {o : List Nat} (hj : j ≤ 1000000) (h : SumS lp lq j cy o) (go : j < lp.length ∨ j < lq.length ∨ 0 < cy) {r : List Int}
    (ih : Ev (fun k => parquetref01_Add.l0 k (I lp) (I lq) (I (o ++ [(cy + at0 lp j + at0 lq j) % 65536])) (((cy + at0 lp j + at0 lq j) / 65536 : Nat) : Int) ((j + 1 : Nat) : Int)) r) :
    Ev (fun k => parquetref01_Add.l0 k (I lp) (I lq) (I o) (cy : Int) (j : Int)) r := by
 have c1 := h.c1
 have ol := h.len
 have x := at0_ok hp j
 have y := at0_ok hq j
 refine Ev.step (f := fun k => parquetref01_Add.j1 k (I lp) (I lq) (I o) (cy : Int) (j : Int) true) (fun k => ?_) (Ev.step (fun k => ?_) ih)
 ·simp only [parquetref01_Add.l0]
  rw [I_len, I_len]
  by_cases h1 : j < lp.length
  ·rw [if_pos (by omega)]
  ·rw [if_neg (by omega)]
   by_cases h2 : j < lq.length
   ·rw [if_pos (by omega)]
   ·rw [if_neg (by omega), decide_eq_true (by omega)]
 ·simp only [parquetref01_Add.j1]
  rw [I_len, I_len, I_len, if_pos trivial, I_app]
  by_cases h1 : j < lp.length
  ·rw [at0_lt h1] at x ⊢
   rw [if_pos (by omega), if_pos (by omega)]
   by_cases h2 : j < lq.length
   ·rw [at0_lt h2] at y ⊢
    rw [if_pos (by omega), if_pos (by omega), I_rd h1, I_rd h2, wrap_add1 (by omega)]
    have e1 : (((cy : Int) + (lp[j] : Int)) + (lq[j] : Int)) % 65536 = (((cy + lp[j] + lq[j]) % 65536 : Nat) : Int) := by omega
    have e2 : ((((cy : Int) + (lp[j] : Int)) + (lq[j] : Int)) % 4294967296) / 65536 = (((cy + lp[j] + lq[j]) / 65536 : Nat) : Int) := by omega
    rw [e1, e2]; rfl
   ·rw [at0_ge (by omega)] at y ⊢
    rw [if_neg (by omega), if_pos (by omega), I_rd h1, wrap_add1 (by omega)]
    have e1 : ((cy : Int) + (lp[j] : Int)) % 65536 = (((cy + lp[j] + 0) % 65536 : Nat) : Int) := by omega
    have e2 : (((cy : Int) + (lp[j] : Int)) % 4294967296) / 65536 = (((cy + lp[j] + 0) / 65536 : Nat) : Int) := by omega
    rw [e1, e2]; rfl
  ·rw [at0_ge (by omega)] at x ⊢
   rw [if_neg (by omega)]
   by_cases h2 : j < lq.length
   ·rw [at0_lt h2] at y ⊢
    rw [if_pos (by omega), if_pos (by omega), if_pos (by omega), I_rd h2, wrap_add1 (by omega)]
    have e1 : ((cy : Int) + (lq[j] : Int)) % 65536 = (((cy + 0 + lq[j]) % 65536 : Nat) : Int) := by omega
    have e2 : (((cy : Int) + (lq[j] : Int)) % 4294967296) / 65536 = (((cy + 0 + lq[j]) / 65536 : Nat) : Int) := by omega
    rw [e1, e2]; rfl
   ·rw [at0_ge (by omega)] at y ⊢
    rw [if_neg (by omega), if_pos (by omega), wrap_add1 (by omega), Int.tmod_eq_emod_of_nonneg (by omega), Int.tdiv_eq_ediv_of_nonneg (by omega)]
    have e1 : (cy : Int) % 65536 = (((cy + 0 + 0) % 65536 : Nat) : Int) := by omega
    have e2 : ((cy : Int) / 65536) % 4294967296 = (((cy + 0 + 0) / 65536 : Nat) : Int) := by omega
    rw [e1, e2]; rfl
theorem add_l0 {lp lq : List Nat} (hp : Eg.ok lp) (hq : Eg.ok lq) (ll : lp.length < 1000000) (lm : lq.length < 1000000) : ∀ (n j cy : Nat) (o : List Nat), j + n = max lp.length lq.length + 1 → (max lp.length lq.length < j → cy = 0) → SumS lp lq j cy o →
    Ev (fun k => parquetref01_Add.l0 k (I lp) (I lq) (I o) (cy : Int) (j : Int)) (I (dg (val lp + val lq)))
 | n, j, cy, o, hn, hc, h => by
  by_cases go : j < lp.length ∨ j < lq.length ∨ 0 < cy
  ·cases n with
   | zero =>
    exfalso
    have := hc (by omega)
    omega
   | succ n =>
    have hj : j ≤ max lp.length lq.length := by omega
    refine add_step hp hq ll lm (by omega) h go ?_
    refine add_l0 hp hq ll lm n (j + 1) _ _ (by omega) (fun hm => ?_) (h.next hp hq)
    have e : j = max lp.length lq.length := by omega
    rw [at0_ge (by omega), at0_ge (by omega)]
    have := h.c1
    omega
  ·have c0 : cy = 0 := by omega
   subst c0
   have e := h.eq
   rw [List.take_of_length_le (by omega), List.take_of_length_le (by omega), Nat.mul_zero, Nat.add_zero] at e
   have c := cut_ev h.ok (by rw [h.len]; omega)
   rw [e] at c
   refine Ev.step (f := fun k => parquetref01_Add.j1 k (I lp) (I lq) (I o) ((0 : Nat) : Int) (j : Int) false) (fun k => ?_) (Ev.step (f := fun k => (parquetref01_cut.f k (I o)).bind fun t => some t) (fun k => ?_) (Ev.bind c (Ev.now _)))
   ·simp only [parquetref01_Add.l0]
    rw [I_len, I_len, if_neg (by omega), if_neg (by omega)]
    simp
   ·simp only [parquetref01_Add.j1]
    simp
theorem add_ev (a b : Nat) (ha : (dg a).length < 1000000) (hb : (dg b).length < 1000000) : Ev (fun k => parquetref01_Add.f k (I (dg a)) (I (dg b))) (I (dg (a + b))) := by
 have s := add_l0 (dg_ok' a) (dg_ok' b) ha hb (max (dg a).length (dg b).length + 1) 0 0 [] (by omega) (by omega) (SumS.start _ _)
 rw [val_dg', val_dg'] at s
 exact Ev.congr (fun k => rfl) s
end Go.Proofs.Ytllocgmbjjoemaa.Rq
end
section
set_option linter.unusedVariables false
set_option linter.unusedSimpArgs false
namespace Go.Proofs.Ytllocgmbjjoemaa.Rq
open Go.RowKit Go.Proofs.YtllocgmbjjoemaaW.PrintWords Go.Proofs.YtllocgmbjjoemaaW.PrintLast Go.Proofs.YtllocgmbjjoemaaW.PrintMore Go.Proofs.Ytllocgmbjjoemaa.PDet
open Eg
open Dg (bl cmp)
structure DivS (la : List Nat) (b i r : Nat) (qs : List Nat) : Prop where
 len : qs.length = la.length
 ok : Eg.ok qs
 eq : val (qs.drop i) * b + r = val (la.drop i)
 z : ∀ t, t < i → at0 qs t = 0
 rb : r < b
theorem DivS.next {la : List Nat} {b i r d : Nat} {qs : List Nat} (h : DivS la b (i + 1) r qs) (hi : i < la.length) (d1 : d * b ≤ la[i] + 65536 * r) (d2 : la[i] + 65536 * r < (d + 1) * b) (d3 : d < 65536) :
    DivS la b i (la[i] + 65536 * r - d * b) (qs.set i d) := by
 have hq : i < qs.length := by rw [h.len]; exact hi
 refine ⟨by rw [List.length_set]; exact h.len, ok_set h.ok i d3, ?_, fun t ht => ?_, ?_⟩
 ·have e : (qs.set i d).drop i = d :: qs.drop (i + 1) := by
    rw [List.drop_eq_getElem_cons (by simpa using hq), List.getElem_set_self, List.drop_set_of_lt (by omega)]
  rw [e, val, List.drop_eq_getElem_cons hi, val, ← h.eq, Nat.add_mul, Nat.mul_assoc, Nat.mul_add]
  omega
 ·have := h.z t (by omega)
  simp only [at0, List.getD_eq_getElem?_getD] at this ⊢
  rw [List.getElem?_set_ne (by omega)]; exact this
 ·rw [Nat.add_mul] at d2; omega
theorem cut_dg {x r : Nat} (hx : x < 65536) (hl : (dg r).length < 1000000) : Ev (fun k => parquetref01_cut.f k ([(x : Int)] ++ I (dg r))) (I (dg (x + 65536 * r))) := by
 have c := cut_ev (l := x :: dg r) (fun y hy => by
  rcases List.mem_cons.1 hy with e | e
  ·omega
  ·exact dg_ok' r y e) (by simp; omega)
 rw [val, val_dg'] at c
 exact c
theorem div_l1 {la : List Nat} (ok : Eg.ok la) {b : Nat} (b0 : 0 < b) (ll : la.length ≤ 50000) (lb : (dg b).length ≤ 50000) (i r : Nat) (qs : List Nat) (hi : i < la.length) (h : DivS la b (i + 1) r qs)
    (ih0 : ∀ (r : Nat) (qs : List Nat), DivS la b i r qs → Ev (fun k => parquetref01_Div.l0 k (I la) (I (dg b)) (I qs) (I (dg r)) ((i : Int) - 1)) (I (dg (val la / b)), I (dg (val la % b)))) : ∀ (n low high : Nat), high - low ≤ n → low < high → high ≤ 65536 → low * b ≤ la[i] + 65536 * r → la[i] + 65536 * r < high * b →
    Ev (fun k => parquetref01_Div.l1 k (I la) (I (dg b)) (I qs) (I (dg (la[i] + 65536 * r))) (i : Int) (low : Int) (high : Int)) (I (dg (val la / b)), I (dg (val la % b)))
 | 0, low, high, hn, h1, _, _, _ => by omega
 | n + 1, low, high, hn, h1, h2, h3, h4 => by
  have x := ok _ (List.getElem_mem hi)
  have lr : (dg (la[i] + 65536 * r)).length ≤ (dg b).length + 1 := by
   refine dg_len _ _ ?_
   have := h.rb
   have v := val_lt (dg_ok' b)
   rw [val_dg'] at v
   rw [Nat.pow_succ]
   have : 65536 * (r + 1) ≤ 65536 * 65536 ^ (dg b).length := Nat.mul_le_mul_left _ (by omega)
   rw [Nat.mul_comm (65536 ^ (dg b).length)]; omega
  by_cases g : 1 < high - low
  ·have m1 : low < (low + high) / 2 := by omega
   have m2 : (low + high) / 2 < high := by omega
   have of := of_ev ((low + high) / 2) (by omega)
   have lm : (dg ((low + high) / 2)).length ≤ 2 := dg_len 2 _ (by omega)
   have mf := mul_f ((low + high) / 2) b (by omega) (by omega)
   have lp : (dg ((low + high) / 2 * b)).length ≤ (dg b).length + 2 := by
    refine dg_len _ _ ?_
    have v := val_lt (dg_ok' b)
    rw [val_dg'] at v
    rw [Nat.pow_add]
    have a1 : (low + high) / 2 < 65536 ^ 2 := by omega
    rw [Nat.mul_comm]
    exact Nat.mul_lt_mul'' v a1
   have cm := cmp_ev ((low + high) / 2 * b) (la[i] + 65536 * r) (by omega)
   have eh : IntKind.u64.wrap ((high : Int) - (low : Int)) = ((high - low : Nat) : Int) := by rw [IntKind.wrap_u64]; omega
   have em : IntKind.u64.wrap (Int.tdiv (IntKind.u64.wrap ((low : Int) + (high : Int))) 2) = (((low + high) / 2 : Nat) : Int) := by
    simp only [IntKind.wrap_u64]
    rw [Int.tdiv_eq_ediv_of_nonneg (by omega)]; omega
   have step : ∀ {res : List Int × List Int}, Ev (fun k => if cmp ((low + high) / 2 * b) (la[i] + 65536 * r) ≤ 0 then parquetref01_Div.l1 k (I la) (I (dg b)) (I qs) (I (dg (la[i] + 65536 * r))) (i : Int) (((low + high) / 2 : Nat) : Int) (high : Int) else parquetref01_Div.l1 k (I la) (I (dg b)) (I qs) (I (dg (la[i] + 65536 * r))) (i : Int) (low : Int) (((low + high) / 2 : Nat) : Int)) res →
       Ev (fun k => parquetref01_Div.l1 k (I la) (I (dg b)) (I qs) (I (dg (la[i] + 65536 * r))) (i : Int) (low : Int) (high : Int)) res := fun ih => by
    refine Ev.step (fun k => ?_) (Ev.bind (f := fun k t174 => (parquetref01_Mul.f t174 (I (dg b))).bind fun t177 => (parquetref01_Cmp.f k t177 (I (dg (la[i] + 65536 * r)))).bind fun c => if c ≤ 0 then parquetref01_Div.l1 k (I la) (I (dg b)) (I qs) (I (dg (la[i] + 65536 * r))) (i : Int) (((low + high) / 2 : Nat) : Int) (high : Int) else parquetref01_Div.l1 k (I la) (I (dg b)) (I qs) (I (dg (la[i] + 65536 * r))) (i : Int) (low : Int) (((low + high) / 2 : Nat) : Int)) of (Ev.congr (fun k => ?_) (Ev.bind (f := fun k (c : Int) => if c ≤ 0 then parquetref01_Div.l1 k (I la) (I (dg b)) (I qs) (I (dg (la[i] + 65536 * r))) (i : Int) (((low + high) / 2 : Nat) : Int) (high : Int) else parquetref01_Div.l1 k (I la) (I (dg b)) (I qs) (I (dg (la[i] + 65536 * r))) (i : Int) (low : Int) (((low + high) / 2 : Nat) : Int)) cm ih)))
    ·simp only [parquetref01_Div.l1]
     rw [eh, if_pos (by omega), em]
    ·rw [mf, Option.bind_some]
   refine step ?_
   by_cases c : (low + high) / 2 * b ≤ la[i] + 65536 * r
   ·refine Ev.congr (fun k => ?_) (div_l1 ok b0 ll lb i r qs hi h ih0 n ((low + high) / 2) high (by omega) m2 h2 c h4)
    rw [if_pos (by unfold cmp; split; omega; split <;> omega)]
   ·refine Ev.congr (fun k => ?_) (div_l1 ok b0 ll lb i r qs hi h ih0 n low ((low + high) / 2) (by omega) m1 (by omega) h3 (by omega))
    rw [if_neg (by unfold cmp; split; omega; split <;> omega)]
  ·have eh : high = low + 1 := by omega
   subst eh
   have lq : low < 65536 := by omega
   have of := of_ev low (by omega)
   have lm : (dg low).length ≤ 2 := dg_len 2 _ (by omega)
   have mf := mul_f low b (by omega) (by omega)
   have sb := sub_ev (la[i] + 65536 * r) (low * b) h3 (by omega)
   have ih := ih0 _ _ (h.next hi h3 h4 lq)
   have el : IntKind.u64.wrap (((low + 1 : Nat) : Int) - (low : Int)) = 1 := by rw [IntKind.wrap_u64]; omega
   refine Ev.step (f := fun k => (parquetref01_Of.f k (low : Int)).bind fun t165 => ((parquetref01_Mul.f t165 (I (dg b))).bind fun t168 => ((parquetref01_Sub.f k (I (dg (la[i] + 65536 * r))) t168).bind fun t171 => (parquetref01_Div.l0 k (I la) (I (dg b)) (I (qs.set i low)) t171 ((i : Int) - 1))))) (fun k => ?_) (Ev.bind (f := fun k t165 => ((parquetref01_Mul.f t165 (I (dg b))).bind fun t168 => ((parquetref01_Sub.f k (I (dg (la[i] + 65536 * r))) t168).bind fun t171 => (parquetref01_Div.l0 k (I la) (I (dg b)) (I (qs.set i low)) t171 ((i : Int) - 1))))) of (Ev.congr (fun k => ?_) (Ev.bind (f := fun k t171 => parquetref01_Div.l0 k (I la) (I (dg b)) (I (qs.set i low)) t171 ((i : Int) - 1)) sb ih)))
   ·simp only [parquetref01_Div.l1]
    rw [el, if_neg (by omega), if_pos (by omega), if_pos (by rw [I_len, h.len]; omega)]
    have e1 : (low : Int) % 4294967296 = (low : Int) := by omega
    have e2 : wrap64 ((i : Int) - 1) = (i : Int) - 1 := by unfold wrap64; omega
    rw [e1, e2, Int.toNat_natCast, I_set]
   ·rw [mf, Option.bind_some]
theorem div_l0 {la : List Nat} (ok : Eg.ok la) {b : Nat} (b0 : 0 < b) (ll : la.length ≤ 50000) (lb : (dg b).length ≤ 50000) : ∀ (i r : Nat) (qs : List Nat), i ≤ la.length → DivS la b i r qs →
    Ev (fun k => parquetref01_Div.l0 k (I la) (I (dg b)) (I qs) (I (dg r)) ((i : Int) - 1)) (I (dg (val la / b)), I (dg (val la % b)))
 | 0, r, qs, _, h => by
  have e := h.eq
  rw [List.drop_zero, List.drop_zero] at e
  have u := (Nat.div_mod_unique (a := val la) (b := b) (c := r) (d := val qs) b0).2 ⟨by rw [Nat.mul_comm]; omega, h.rb⟩
  have c := cut_ev h.ok (by rw [h.len]; omega)
  rw [← u.1] at c
  refine Ev.step (f := fun k => (parquetref01_cut.f k (I qs)).bind fun t => some (t, I (dg r))) (fun k => ?_) (Ev.bind (f := fun _ t => some (t, I (dg r))) c ?_)
  ·simp only [parquetref01_Div.l0]
   rw [if_neg (by omega)]
  ·rw [u.2]; exact Ev.now _
 | i + 1, r, qs, hi, h => by
  have hi' : i < la.length := by omega
  have x := ok _ (List.getElem_mem hi')
  have lr : (dg r).length ≤ (dg b).length := len_mono (Nat.le_of_lt h.rb)
  have c := cut_dg (r := r) x (by omega)
  refine Ev.step (f := fun k => (parquetref01_cut.f k ([(la[i] : Int)] ++ I (dg r))).bind fun t => parquetref01_Div.l1 k (I la) (I (dg b)) (I qs) t (i : Int) 0 65536) (fun k => ?_) (Ev.bind (f := fun k t => parquetref01_Div.l1 k (I la) (I (dg b)) (I qs) t (i : Int) 0 65536) c ?_)
  ·simp only [parquetref01_Div.l0]
   have ej : ((i + 1 : Nat) : Int) - 1 = (i : Int) := by omega
   rw [ej, I_len, if_pos (by omega), if_pos (by omega), if_pos (by omega), I_rd hi', Option.bind_some, if_pos (by rw [I_len]; simp; omega)]
  ·exact div_l1 ok b0 ll lb i r qs hi' h (fun r qs h' => div_l0 ok b0 ll lb i r qs (by omega) h') 65536 0 65536 (by omega) (by omega) (by omega) (by omega) (by
     have := h.rb
     have : 65536 * (r + 1) ≤ 65536 * b := Nat.mul_le_mul_left _ (by omega)
     omega)
theorem div_ev (a b : Nat) (b0 : 0 < b) (la : (dg a).length ≤ 50000) (lb : (dg b).length ≤ 50000) : Ev (fun k => parquetref01_Div.f k (I (dg a)) (I (dg b))) (I (dg (a / b)), I (dg (a % b))) := by
 have s := div_l0 (dg_ok' a) b0 la lb (dg a).length 0 (List.replicate (dg a).length 0) (Nat.le_refl _) ⟨by simp, fun x hx => by rw [(List.mem_replicate.1 hx).2]; omega, by
  rw [List.drop_length, List.drop_eq_nil_of_le (by simp)]; simp [val], fun t ht => by simp [at0, List.getD_eq_getElem?_getD, List.getElem?_replicate, ht], b0⟩
 rw [val_dg'] at s
 refine Ev.congr (fun k => ?_) s
 simp only [parquetref01_Div.f]
 rw [I_len, if_pos (by omega), if_pos (by omega), Int.toNat_natCast, dg_zero]
 have e : wrap64 (((dg a).length : Int) - 1) = ((dg a).length : Int) - 1 := by unfold wrap64; omega
 rw [e]
 simp [I]
end Go.Proofs.Ytllocgmbjjoemaa.Rq
end
section
set_option linter.unusedVariables false
set_option linter.unusedSimpArgs false
namespace Go.Proofs.Ytllocgmbjjoemaa.Nv
open Go
theorem ofn (a : Nat) (h : a < 4294967296) : (BitVec.ofInt 32 (a : Int)).toNat = a := by
 rw [BitVec.ofInt_natCast, BitVec.toNat_ofNat]; exact Nat.mod_eq_of_lt (by omega)
theorem u32_wrap (n : Nat) (h : n < 4294967296) : IntKind.u32.wrap (n : Int) = (n : Int) := by rw [IntKind.wrap_u32]; omega
theorem b_and (a b : Nat) (ha : a < 4294967296) (hb : b < 4294967296) : Go.bits .and .u32 (a : Int) (b : Int) = ((a &&& b : Nat) : Int) := by
 show IntKind.u32.wrap (((BitVec.ofInt 32 (a : Int)) &&& (BitVec.ofInt 32 (b : Int))).toNat : Int) = _
 rw [BitVec.toNat_and, ofn a ha, ofn b hb]
 exact u32_wrap _ (Nat.and_lt_two_pow (n := 32) _ (by omega))
theorem b_or (a b : Nat) (ha : a < 4294967296) (hb : b < 4294967296) : Go.bits .or .u32 (a : Int) (b : Int) = ((a ||| b : Nat) : Int) := by
 show IntKind.u32.wrap (((BitVec.ofInt 32 (a : Int)) ||| (BitVec.ofInt 32 (b : Int))).toNat : Int) = _
 rw [BitVec.toNat_or, ofn a ha, ofn b hb]
 exact u32_wrap _ (Nat.or_lt_two_pow (n := 32) (by omega) (by omega))
theorem b_xor (a b : Nat) (ha : a < 4294967296) (hb : b < 4294967296) : Go.bits .xor .u32 (a : Int) (b : Int) = ((a ^^^ b : Nat) : Int) := by
 show IntKind.u32.wrap (((BitVec.ofInt 32 (a : Int)) ^^^ (BitVec.ofInt 32 (b : Int))).toNat : Int) = _
 rw [BitVec.toNat_xor, ofn a ha, ofn b hb]
 exact u32_wrap _ (Nat.xor_lt_two_pow (n := 32) (by omega) (by omega))
def brw (x y b : Nat) : Nat := if x < y + b then 1 else 0
def dif (x y b : Nat) : Nat := (x + 8589934592 - y - b) % 4294967296
theorem top (n : Nat) (h : n < 4294967296) : n / 2147483648 = (n.testBit 31).toNat := by
 rw [Nat.testBit_eq_decide_div_mod_eq]
 by_cases c : n / 2 ^ 31 % 2 = 1
 ·rw [decide_eq_true c]; simp only [Bool.toNat_true]; omega
 ·rw [decide_eq_false c]; simp only [Bool.toNat_false]; omega
theorem tb (n : Nat) (h : n < 4294967296) : n.testBit 31 = decide (2147483648 ≤ n) := by
 rw [Nat.testBit_eq_decide_div_mod_eq]
 by_cases c : 2147483648 ≤ n
 ·rw [decide_eq_true c, decide_eq_true (by omega)]
 ·rw [decide_eq_false c, decide_eq_false (by omega)]
theorem borrow (x y b : Nat) (hx : x < 4294967296) (hy : y < 4294967296) (hb : b ≤ 1) :
    (((4294967295 ^^^ x) &&& y) ||| ((4294967295 ^^^ (x ^^^ y)) &&& dif x y b)) / 2147483648 = brw x y b := by
 have d : dif x y b < 4294967296 := Nat.mod_lt _ (by omega)
 have xy : x ^^^ y < 4294967296 := Nat.xor_lt_two_pow (n := 32) (by omega) (by omega)
 have nx : 4294967295 ^^^ x < 4294967296 := Nat.xor_lt_two_pow (n := 32) (by omega) (by omega)
 have a1 : (4294967295 ^^^ x) &&& y < 4294967296 := Nat.and_lt_two_pow (n := 32) _ (by omega)
 have a2 : (4294967295 ^^^ (x ^^^ y)) &&& dif x y b < 4294967296 := Nat.and_lt_two_pow (n := 32) _ (by omega)
 rw [top _ (Nat.or_lt_two_pow (n := 32) (by omega) (by omega)), Nat.testBit_or, Nat.testBit_and, Nat.testBit_and, Nat.testBit_xor, Nat.testBit_xor, Nat.testBit_xor, tb x hx, tb y hy, tb _ d, tb 4294967295 (by omega)]
 unfold brw
 unfold dif at d ⊢
 by_cases c1 : 2147483648 ≤ x <;> by_cases c2 : 2147483648 ≤ y <;> by_cases c3 : 2147483648 ≤ (x + 8589934592 - y - b) % 4294967296 <;> by_cases c4 : x < y + b <;> simp only [c1, c2, c3, c4, decide_true, decide_false, if_true, if_false] <;> first | rfl | (exfalso; omega)
theorem borrow_int (x y b : Nat) (hx : x < 4294967296) (hy : y < 4294967296) (hb : b ≤ 1) :
    Go.bits .or .u32 (Go.bits .and .u32 (Go.bits .xor .u32 4294967295 (x : Int)) (y : Int)) (Go.bits .and .u32 (Go.bits .xor .u32 4294967295 (Go.bits .xor .u32 (x : Int) (y : Int))) (((x : Int) - (y : Int) - (b : Int)) % 4294967296)) / 2147483648 = (brw x y b : Int) := by
 have ed : ((x : Int) - (y : Int) - (b : Int)) % 4294967296 = (dif x y b : Int) := by unfold dif; omega
 have d : dif x y b < 4294967296 := Nat.mod_lt _ (by omega)
 have xy : x ^^^ y < 4294967296 := Nat.xor_lt_two_pow (n := 32) (by omega) (by omega)
 have nx : 4294967295 ^^^ x < 4294967296 := Nat.xor_lt_two_pow (n := 32) (by omega) (by omega)
 have nxy : 4294967295 ^^^ (x ^^^ y) < 4294967296 := Nat.xor_lt_two_pow (n := 32) (by omega) (by omega)
 have a1 : (4294967295 ^^^ x) &&& y < 4294967296 := Nat.and_lt_two_pow (n := 32) _ (by omega)
 have a2 : (4294967295 ^^^ (x ^^^ y)) &&& dif x y b < 4294967296 := Nat.and_lt_two_pow (n := 32) _ (by omega)
 have e1 := b_xor 4294967295 x (by omega) hx
 have e2 := b_xor x y hx hy
 have e3 := b_xor 4294967295 (x ^^^ y) (by omega) xy
 rw [show (((4294967295 : Nat)) : Int) = 4294967295 from rfl] at e1 e3
 rw [ed, e2, e3, e1, b_and _ _ nx hy, b_and _ _ nxy d, b_or _ _ a1 a2, ← borrow x y b hx hy hb]
 omega
end Go.Proofs.Ytllocgmbjjoemaa.Nv
end
section
set_option linter.unusedVariables false
set_option linter.unusedSimpArgs false
namespace Go.Proofs.Ytllocgmbjjoemaa.Nv
open Go Go.RowKit
theorem sub32_calls (x y b : Nat) (w : World) (hx : x < 4294967296) (hy : y < 4294967296) (hb : b ≤ 1) :
    Calls Try.prog 77 #[.int .u32 (x : Int), .int .u32 (y : Int), .int .u32 (b : Int)] w fun e w' =>
     e = .returned (.tuple #[.int .u32 (dif x y b : Int), .int .u32 (brw x y b : Int)]) ∧ w' = w := by
 have sg : IntKind.u32.signed = false := rfl
 have mx : IntKind.u32.max = 4294967295 := rfl
 have ex : (((x : Int) - (y : Int)) % 4294967296 - (b : Int)) % 4294967296 = ((x : Int) - (y : Int) - (b : Int)) % 4294967296 := by omega
 have ed : ((x : Int) - (y : Int) - (b : Int)) % 4294967296 = (dif x y b : Int) := by unfold dif; omega
 have EX := As.mk ex
 have ED := As.mk ed
 have EB := As.mk (borrow_int x y b hx hy hb)
 clear ed ex
 go_enter Try.func77, Try.ntmps77
 go_wp2
 go_ret2
 refine ⟨?_, rfl⟩
 simp only [Array.getD_eq_getD_getElem?]
 simp only [List.getElem?_toArray, List.getElem?_cons_succ, List.getElem?_cons_zero, Option.getD_some, EX.out, ED.out]
 have e := EB.out
 rw [ED.out] at e
 rw [e]
end Go.Proofs.Ytllocgmbjjoemaa.Nv
end
section
set_option linter.unusedVariables false
set_option linter.unusedSimpArgs false
namespace Go.Proofs.Ytllocgmbjjoemaa.Dg
open Go.Proofs.Ytllocgmbjjoemaa.Nv
set_option maxRecDepth 10000
theorem dif_eq {x y b : Nat} (hx : x < 4294967296) (hy : y < 4294967296) (hb : b ≤ 1) : dif x y b + y + b = x + 4294967296 * brw x y b ∧ dif x y b < 4294967296 ∧ brw x y b ≤ 1 := by
 unfold dif brw
 by_cases c : x < y + b
 ·rw [if_pos c]; omega
 ·rw [if_neg c]; omega
structure SubS (lp lq : List Nat) (j b : Nat) (o : List Nat) : Prop where
 len : o.length = j
 ok : ok o
 b1 : b ≤ 1
 eq : val o + val (lq.take j) = val (lp.take j) + 4294967296 ^ j * b
theorem SubS.start (lp lq : List Nat) : SubS lp lq 0 0 [] := ⟨rfl, fun x hx => absurd hx (by simp), by omega, by simp [val]⟩
theorem SubS.next {lp lq : List Nat} {j b : Nat} {o : List Nat} (h : SubS lp lq j b o) (hp : Dg.ok lp) (hq : Dg.ok lq) :
    SubS lp lq (j + 1) (brw (at0 lp j) (at0 lq j) b) (o ++ [dif (at0 lp j) (at0 lq j) b]) := by
 obtain ⟨d1, d2, d3⟩ := dif_eq (at0_ok hp j) (at0_ok hq j) h.b1
 refine ⟨by simp [h.len], ok_snoc h.ok d2, d3, ?_⟩
 have e := h.eq
 rw [val_snoc, h.len, val_take0, val_take0, Nat.pow_succ, Nat.mul_assoc]
 have k : 4294967296 ^ j * dif (at0 lp j) (at0 lq j) b + 4294967296 ^ j * at0 lq j + 4294967296 ^ j * b = 4294967296 ^ j * at0 lp j + 4294967296 ^ j * (4294967296 * brw (at0 lp j) (at0 lq j) b) := by
  rw [← Nat.mul_add, ← Nat.mul_add, ← Nat.mul_add, d1]
 omega
theorem SubS.stop {lp lq : List Nat} {j : Nat} {o : List Nat} (h : SubS lp lq j 0 o) (hq : lq.length ≤ j) (hj : j ≤ lp.length) : val (o ++ lp.drop j) + val lq = val lp := by
 have e := h.eq
 rw [List.take_of_length_le hq, Nat.mul_zero, Nat.add_zero] at e
 have s := val_split (l := lp) j
 rw [List.length_take, Nat.min_eq_left hj] at s
 rw [val_append, h.len]; omega
theorem SubS.last {lp lq : List Nat} {b : Nat} {o : List Nat} (h : SubS lp lq lp.length b o) (hq : lq.length ≤ lp.length) (le : val lq ≤ val lp) : b = 0 ∧ val o + val lq = val lp := by
 have e := h.eq
 rw [List.take_of_length_le hq, List.take_length] at e
 have v := val_lt h.ok
 rw [h.len] at v
 rcases Nat.eq_zero_or_pos b with z | z
 ·subst z; exact ⟨rfl, by omega⟩
 ·have : 4294967296 ^ lp.length * 1 ≤ 4294967296 ^ lp.length * b := Nat.mul_le_mul_left _ z
  omega
end Go.Proofs.Ytllocgmbjjoemaa.Dg
end
section
set_option linter.unusedVariables false
set_option linter.unusedSimpArgs false
namespace Go.Proofs.Ytllocgmbjjoemaa.Nv
open Go Go.RowKit Dg
theorem grown_set {w wr : World} {g j : Nat} {u : Value} (h : w.grownBy wr (some g)) : w.grownBy (wr.setCell ⟨g, j, none⟩ u) (some g) :=
 ⟨h.os, h.tape, h.output, by simpa using h.size, fun k hk hne => (Below.heap_setCell _ _ _ _ (fun e => hne (by rw [e]))).trans (h.block k hk hne)⟩
set_option maxRecDepth 100000 in
set_option maxHeartbeats 3200000 in
theorem less_calls (base g c c' : Nat) (A : Option Addr) (lp lq : List Nat) (w : World) (hp : Row w base g c lp) (hq : Rd w A lq) (hne : ∀ ad, A = some ad → 0 < lq.length → ad.block ≠ g)
    (okp : ok lp) (okq : ok lq) (hl : lq.length ≤ lp.length) (hl1 : lp.length ≤ 1099511627776) (le : val lq ≤ val lp) :
    Calls Try.prog 69 #[.slice (some ⟨g, 0, none⟩) lp.length c, .slice A lq.length c'] w fun e w' => e = .returned (.tuple #[]) ∧
     ∃ o, Row w' base g c o ∧ o.length = lp.length ∧ ok o ∧ val o + val lq = val lp ∧ w.grownBy w' (some g) := by
 have HP := As.mk hp
 have HQ := As.mk hq
 have NE := As.mk hne
 have LE := As.mk le
 clear hp hq hne le
 go_enter Try.func69, Try.ntmps69
 (go_wp2; repeat (go_step3; go_wp2))
 go_loopg [4, 9] lp.length (fun gk v4 v9 wr => ∃ (j b : Nat) (o : List Nat), v4 = .int .u32 (b : Int) ∧ v9 = .int .i64 (j : Int) ∧ As (j ≤ lp.length ∧ lp.length - j ≤ gk) ∧ As (SubS lp lq j b o) ∧ As (Row wr base g c (o ++ lp.drop j)) ∧ As (w.grownBy wr (some g)) ∧ As (Rd wr A lq))
 case atStart => exact ⟨0, 0, [], rfl, rfl, ⟨by omega⟩, ⟨SubS.start _ _⟩, ⟨HP.out⟩, ⟨World.grownBy.refl _ _⟩, HQ⟩
 case round =>
  clear HP HQ
  obtain ⟨j, b, o, rfl, rfl, J, S, G, W, Q⟩ := hrel
  obtain ⟨jl, jg⟩ := J.out
  have b1 := S.out.b1
  by_cases hj : j < lp.length
  ·have jo : j < (o ++ lp.drop j).length := by have := S.out.len; simp; omega
   obtain ⟨x, hx⟩ : ∃ x, x = at0 lp j := ⟨_, rfl⟩
   have xb : x < 4294967296 := by rw [hx]; exact at0_ok okp j
   obtain ⟨cj, fj⟩ := G.out.get jo
   have ej : (o ++ lp.drop j)[j]'jo = x := by
    rw [hx, at0_lt hj, List.getElem_append_right (by have := S.out.len; omega)]
    simp [S.out.len]
   rw [ej] at cj
   have HX := As.mk hx
   clear hx ej jo
   obtain ⟨y, hy⟩ : ∃ y, y = at0 lq j := ⟨_, rfl⟩
   have yb : y < 4294967296 := by rw [hy]; exact at0_ok okq j
   have HY := As.mk hy
   by_cases hq : j < lq.length
   ·obtain ⟨ad, hA, cy'⟩ := Q.out.get hq
    have ey : lq[j] = y := by rw [hy, at0_lt hq]
    rw [ey] at cy'
    cases hA
    clear hy ey
    go_wp2_with (first | (go_at_call 77; refine (sub32_calls x y b _ xb yb b1).mono ?_; rintro e w2 ⟨rfl, rfl⟩))
    go_roundg (lp.length - (j + 1))
    case measure => omega
    case rel =>
     have N := S.out.next okp okq
     rw [← HX.out, ← HY.out] at N
     exact ⟨j + 1, _, _, rfl, by simp, ⟨by omega⟩, ⟨N⟩, ⟨G.out.next S.out.len hj⟩, ⟨grown_set W.out⟩, ⟨Q.out.set NE.out j _⟩⟩
   ·have y0 : y = 0 := by rw [hy, at0_ge (by omega)]
    clear hy
    by_cases hb : b = 0
    ·have B0 := As.mk hb
     have bb : ((b : Int) == 0) = true := by rw [hb]; rfl
     clear hb
     (go_wp2; repeat (go_step3; go_wp2))
     simp only [Exit.noGoto]
     go_end0
     have S0 := S.out
     rw [B0.out] at S0
     have O1 := S0.stop (by omega) jl
     exact ⟨rfl, _, G.out, by simp [S0.len]; omega, fun z hz => by
      rcases List.mem_append.1 hz with h | h
      ·exact S0.ok z h
      ·exact ok_drop okp j z h, O1, W.out⟩
    ·have bb : ((b : Int) == 0) = false := beq_eq_false_iff_ne.mpr (by omega)
     have Y0 := As.mk y0
     have s0 := sub32_calls x 0 b wr xb (by omega) b1
     have S0 := As.mk s0
     clear y0 s0
     go_wp2_with (first | (go_at_call 77; refine S0.out.mono ?_; rintro e w2 ⟨rfl, rfl⟩))
     go_roundg (lp.length - (j + 1))
     case measure => omega
     case rel =>
      have N := S.out.next okp okq
      rw [← HX.out, ← HY.out, Y0.out] at N
      exact ⟨j + 1, _, _, rfl, by simp, ⟨by omega⟩, ⟨N⟩, ⟨G.out.next S.out.len hj⟩, ⟨grown_set W.out⟩, ⟨Q.out.set NE.out j _⟩⟩
  ·have je : j = lp.length := by omega
   subst je
   (go_wp2; repeat (go_step3; go_wp2))
   simp only [Exit.noGoto]
   go_end0
   obtain ⟨_, O1⟩ := S.out.last hl LE.out
   have G1 := G.out
   rw [List.drop_length, List.append_nil] at G1
   exact ⟨rfl, o, G1, S.out.len, S.out.ok, O1, W.out⟩
end Go.Proofs.Ytllocgmbjjoemaa.Nv
end
section
set_option linter.unusedVariables false
set_option linter.unusedSimpArgs false
namespace Go.Proofs.Ytllocgmbjjoemaa.Nv
open Go Go.RowKit Dg
set_option maxRecDepth 100000 in
set_option maxHeartbeats 1600000 in
theorem cut_calls (A : Option Addr) (c : Nat) (l : List Nat) (w : World) (hr : Rd w A l) (hok : ok l) (hc : l.length ≤ c) :
    Calls Try.prog 55 #[.slice A (l.length : Nat) c] w fun e w' => ∃ v : Value, e = .returned (.agg #[v]) ∧ Num w' v (val l) ∧ Below w.heap.size w w' := by
 have HB := As.mk (Below.refl w.heap.size w)
 have ll := hr.len
 have HR := As.mk hr
 clear hr
 go_enter Try.func55, Try.ntmps55
 go_wp2
 have hr1 : Rd (w.alloc (.cells #[.slice none 0 0] 66)) A l := HR.out.below ((Below.refl _ w).alloc (Nat.le_refl _) _)
 have HR1 := As.mk hr1
 clear hr1
 go_loopg [3] l.length (fun gk v3 wr => ∃ (j : Nat), v3 = .int .i64 (j : Int) ∧ wr = w.alloc (.cells #[.slice none 0 0] 66) ∧ As (j ≤ gk ∧ j ≤ l.length ∧ val (l.take j) = val l))
 case atStart => exact ⟨l.length, rfl, rfl, ⟨Nat.le_refl _, Nat.le_refl _, by rw [List.take_length]⟩⟩
 case round =>
  obtain ⟨j, rfl, rfl, J⟩ := hrel
  obtain ⟨jg, jl, _⟩ := J.out
  by_cases j0 : j = 0
  ·subst j0
   have ev : As (val l = 0) := ⟨by have := J.out.2.2; simpa [val] using this.symm⟩
   go_wp2
   refine bodyPost_ret (ret_nat rfl w.heap.size (.slice A 0 0) rfl (heap_alloc_new w _)) rfl ?_
   refine ⟨.slice A 0 0, rfl, ⟨A, 0, ?_⟩, (HB.out.alloc (Nat.le_refl _) _)⟩
   rw [ev.out, dg_zero]
   exact ⟨rfl, Nat.le_refl _, Rd.nil _ _⟩
  ·obtain ⟨x, hx⟩ : ∃ x, x = l[j - 1]'(by omega) := ⟨_, rfl⟩
   obtain ⟨ad, hA, cx⟩ := HR1.out.get (j := j - 1) (by omega)
   rw [← hx] at cx
   cases hA
   have HX := As.mk hx
   clear hx
   by_cases z : x = 0
   ·subst z
    go_wp2
    go_roundg (j - 1)
    case measure => omega
    case rel =>
     refine ⟨j - 1, by simp; omega, rfl, ⟨by omega, by omega, ?_⟩⟩
     rw [← J.out.2.2, ← take_zero (j - 1) (by omega) HX.out.symm, show j - 1 + 1 = j by omega]
   ·go_wp2
    refine bodyPost_ret (ret_nat rfl w.heap.size (.slice (some ad) (j : Nat) j) rfl (heap_alloc_new w _)) rfl ?_
    refine ⟨.slice (some ad) (j : Nat) j, rfl, ⟨some ad, j, ?_⟩, (HB.out.alloc (Nat.le_refl _) _)⟩
    have e : dg (val l) = l.take j := dg_cut hok j jl J.out.2.2 (fun _ _ => by rw [← HX.out]; exact z)
    have el : (l.take j).length = j := by rw [List.length_take]; omega
    rw [e, el]
    exact ⟨rfl, Nat.le_refl _, (HR.out.below ((Below.refl _ w).alloc (Nat.le_refl _) _)).take j⟩
end Go.Proofs.Ytllocgmbjjoemaa.Nv
end
section
set_option linter.unusedVariables false
set_option linter.unusedSimpArgs false
namespace Go.Proofs.Ytllocgmbjjoemaa.Nv
open Go Go.RowKit Dg
set_option maxRecDepth 100000 in
set_option maxHeartbeats 1600000 in
theorem of_calls (n : Nat) (hn : n < 18446744073709551616) (w : World) :
    Calls Try.prog 46 #[.int .u64 (n : Int)] w fun e w' => ∃ v : Value, e = .returned (.agg #[v]) ∧ Num w' v n ∧ Below w.heap.size w w' := by
 have HB := As.mk (Below.refl w.heap.size w)
 have hr : Rd ((w.alloc (.cells #[.slice none 0 0] 66)).alloc (.cells #[.int .u32 ((n : Int) % 4294967296), .int .u32 ((n : Int) / 4294967296)] 92)) (some ⟨w.heap.size + 1, 0, none⟩) [n % 4294967296, n / 4294967296] := by
  have := Rd.lit (w.alloc (.cells #[.slice none 0 0] 66)) [n % 4294967296, n / 4294967296] 92 (by simp)
  simpa [us] using this
 have hv : val [n % 4294967296, n / 4294967296] = n := by simp only [val]; omega
 have hk : ok [n % 4294967296, n / 4294967296] := by
  intro x hx
  simp only [List.mem_cons, List.not_mem_nil, or_false] at hx
  omega
 have HR := As.mk hr
 have HV := As.mk hv
 clear hr hv
 go_enter Try.func46, Try.ntmps46
 go_wp2_with (go_at_call 55; refine (cut_calls (some ⟨w.heap.size + 1, 0, none⟩) 2 [n % 4294967296, n / 4294967296] _ HR.out hk (Nat.le_refl _)).mono ?_; rintro e w2 ⟨v, rfl, hn2, hb2⟩; rw [HV.out] at hn2; obtain ⟨A2, c2, rfl, hc2, hr2⟩ := hn2; have R2 := As.mk hr2; have B2 := As.mk (bel2 hb2); have K2 := As.mk (blk2 hb2); have c0 := cell_of_one K2.out; have f0 := free_of_one K2.out; clear hr2 hb2)
 refine bodyPost_ret (ret_nat rfl w.heap.size _ rfl (one_setCell K2.out)) rfl ?_
 exact ⟨_, rfl, ⟨A2, c2, rfl, hc2, R2.out.put K2.out (by simp) _⟩, B2.out.setCell (Nat.le_refl _) _⟩
end Go.Proofs.Ytllocgmbjjoemaa.Nv
end
