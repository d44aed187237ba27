/- What a number is made of and what divides it, as the program and as the law find them: the same lists, for every number up to 2^40. No condition. -/
import Derived.Test.YtkgejfokdmdikaaRtF
namespace Go.Proofs.Ytkgejfokdmdikaa.Pure
open Go Go.RowKit Go.Proofs.Ytkgejfokdmdikaa.PModularFactors Go.Proofs.YtkgejfokdmdikaaW.PrintWords Go.Proofs.YtkgejfokdmdikaaW.PrintLast Go.Proofs.Ytkgejfokdmdikaa.RtF Go.Proofs.Ytkgejfokdmdikaa
set_option maxRecDepth 10000

theorem wadd1 (i : Nat) (h : i ≤ 1099511627776) : wrap64 ((i : Int) + 1) = ((i + 1 : Nat) : Int) := by rw [w64_id _ (by omega) (by omega)]; rfl
theorem wmul (a b : Nat) (h : a * b ≤ 1099515822084) : wrap64 ((a : Int) * (b : Int)) = ((a * b : Nat) : Int) := by rw [← Int.natCast_mul, w64_id _ (by omega) (by omega)]
theorem wid (n : Nat) (h : n ≤ 1099511627776) : wrap64 (n : Int) = (n : Int) := w64_id _ (by omega) (by omega)
theorem wdiv (m q : Nat) (h : m ≤ 1099511627776) : wrap64 (Int.tdiv (m : Int) (q : Int)) = ((m / q : Nat) : Int) := by
  have h2 := Nat.div_le_self m q
  rw [Int.tdiv_eq_ediv_of_nonneg (by omega), ← Int.natCast_ediv]
  exact wid _ (by omega)
theorem rd_ints (l : List Int) (i : Nat) (x : Int) (h : l[i]? = some x) : rd l (i : Int) = x := by
  simp [rd, List.getD_eq_getElem?_getD, h]
theorem rd_st (l : List (Nat × Nat)) (i q k : Nat) (h : l[i]? = some (q, k)) : rd_T38 (st l) (i : Int) = ⟨(q : Int), (k : Int)⟩ := by
  rw [rd_T38, st, List.getD_eq_getElem?_getD, List.getElem?_map]
  simp [h]
theorem st_len (l : List (Nat × Nat)) : (st l).length = l.length := by simp [st]
theorem ints_len (l : List Nat) : (Fc.ints l).length = l.length := by simp [Fc.ints]

/-! ### The law's own factors -/
def hit (q c : Nat) : List S38 := if c = 0 then [] else [⟨(q : Int), (c : Int)⟩]
theorem hit_st (q c : Nat) : hit q c = st (Fc.one q c) := by
  unfold hit Fc.one
  split <;> rfl

theorem rf1 (q : Nat) (q2 : 2 ≤ q) (qM : q ≤ 1048577) (xs : List S38) (xl : xs.length < 8796093022208) (R : List S38 × Int) : ∀ N m j : Nat, m ≤ N → 0 < m → j + m ≤ 1099511627776 →
    Evl (fun k => parquetref04_Factor.l0 k (((Fc.pull q m).2 : Nat) : Int) (xs ++ hit q (j + (Fc.pull q m).1)) ((q + 1 : Nat) : Int)) R →
    Evl (fun k => parquetref04_Factor.l1 k (m : Int) xs (q : Int) (j : Int)) R := by
  intro N
  induction N with
  | zero => intro m j a b; omega
  | succ N ih =>
    intro m j hm m0 jm hR
    have q0 : ¬ (q : Int) = 0 := by omega
    by_cases h : m % q = 0
    · have lt : m / q < m := Nat.div_lt_self m0 q2
      have mm : m / q * q = m := Nat.div_mul_cancel (Nat.dvd_of_mod_eq_zero h)
      have p0 : 0 < m / q := by
        rcases Nat.eq_zero_or_pos (m / q) with e | e
        · rw [e] at mm; omega
        · exact e
      rw [Fc.pull_step q2 m0 h] at hR
      have ej : j + ((Fc.pull q (m / q)).1 + 1) = j + 1 + (Fc.pull q (m / q)).1 := by omega
      simp only [ej] at hR
      have t : Int.tmod (m : Int) (q : Int) = 0 := (dvd_tmod m q).2 (Nat.dvd_of_mod_eq_zero h)
      refine evl_step (fun k => ?_) (ih (m / q) (j + 1) (by omega) p0 (by omega) hR)
      rw [parquetref04_Factor.l1, if_neg q0, if_pos t, wdiv m q (by omega), wadd1 j (by omega)]
    · rw [Fc.pull_stop h] at hR
      simp only [Nat.add_zero] at hR
      have t : ¬ Int.tmod (m : Int) (q : Int) = 0 := fun e => h (Nat.mod_eq_zero_of_dvd ((dvd_tmod m q).1 e))
      refine evl_step (fun k => ?_) hR
      rw [parquetref04_Factor.l1, if_neg q0, if_neg t]
      by_cases z : j = 0
      · subst z
        rw [if_neg (by omega), wadd1 q (by omega), hit, if_pos rfl, List.append_nil]
      · rw [if_pos (by omega), if_pos xl, wadd1 q (by omega), hit, if_neg z]

theorem rf0 : ∀ d p m : Nat, ∀ xs : List S38, 1048578 - p ≤ d → 2 ≤ p → p ≤ 1048577 → 0 < m → m ≤ 1099511627776 → xs.length ≤ p →
    Evl (fun k => parquetref04_Factor.l0 k (m : Int) xs (p : Int)) (xs ++ st (Fc.trial p m), 0) := by
  intro d
  induction d with
  | zero => intro p m xs h0 _ h1; omega
  | succ d ih =>
    intro p m xs h0 p2 pM m0 mM xl
    have sb := sq_small (q := p) (by omega)
    by_cases le : p * p ≤ m
    · have sm := sq_le mM le
      obtain ⟨e, nd, k0, ple, _⟩ := Fc.pull_is p p2 m m (Nat.le_refl _) m0
      have hl : (xs ++ hit p (0 + (Fc.pull p m).1)).length ≤ p + 1 := by
        rw [List.length_append]; unfold hit; split
        · simp only [List.length_nil]; omega
        · simp only [List.length_cons, List.length_nil]; omega
      have I := ih (p + 1) (Fc.pull p m).2 (xs ++ hit p (0 + (Fc.pull p m).1)) (by omega) (by omega) (by omega) k0 (by omega) hl
      rw [List.append_assoc, Nat.zero_add, hit_st, ← st_app, ← Fc.trial_step p2 le] at I
      have L := rf1 p p2 pM xs (by omega) _ m m 0 (Nat.le_refl _) m0 (by omega) (by rw [Nat.zero_add, hit_st]; exact I)
      refine evl_step (fun k => ?_) L
      rw [parquetref04_Factor.l0, wmul p p sb, if_pos (by omega)]; rfl
    · rw [Fc.trial_stop (by omega)]
      by_cases m1 : 1 < m
      · rw [if_pos m1]
        refine evl_step (f := fun _ => some (xs ++ st [(m, 1)], 0)) (fun k => ?_) (evl_now _)
        rw [parquetref04_Factor.l0, wmul p p sb, if_neg (by omega), if_pos (by omega), if_pos (by omega)]; rfl
      · rw [if_neg m1]
        refine evl_step (f := fun _ => some (xs ++ st [], 0)) (fun k => ?_) (evl_now _)
        rw [parquetref04_Factor.l0, wmul p p sb, if_neg (by omega), if_neg (by omega)]; simp [st]

theorem ref_factor (n : Nat) (n0 : 1 ≤ n) (nM : n ≤ 1099511627776) : Evl (fun k => parquetref04_Factor.f k (n : Int)) (st (Fc.facs n), 0) := by
  have L := rf0 1048576 2 n [] (by omega) (by omega) (by omega) (by omega) nM (by simp)
  refine evl_congr (fun k => ?_) L
  rw [parquetref04_Factor.f, if_neg (by omega), if_neg (by omega)]; rfl

/-! ### Numbers in order -/
theorem mg (a b : List Int) (la : a.length ≤ 1099511627776) (lb : b.length ≤ 1099511627776) : ∀ d i j : Nat, ∀ acc : List Int, (a.length - i) + (b.length - j) ≤ d → i ≤ a.length → j ≤ b.length → acc.length ≤ 2199023255552 - ((a.length - i) + (b.length - j)) →
    (j < b.length → Evl (fun k => parquetref04_Rising.l1 k a b acc i j) (acc ++ List.merge (a.drop i) (b.drop j) (fun x y => decide (x ≤ y)))) ∧
    Evl (fun k => parquetref04_Rising.l0 k a b acc i j) (acc ++ List.merge (a.drop i) (b.drop j) (fun x y => decide (x ≤ y))) := by
  intro d
  induction d with
  | zero =>
    intro i j acc hd ia jb al
    refine ⟨fun h => by omega, ?_⟩
    have e1 : b.drop j = [] := List.drop_eq_nil_of_le (by omega)
    rw [e1, List.merge_right]
    refine evl_step (f := fun _ => some (acc ++ a.drop i)) (fun k => ?_) (evl_now _)
    rw [parquetref04_Rising.l0, if_neg (by omega), if_pos (by omega), if_pos (by omega), Int.toNat_natCast, Option.bind_some, if_pos (by rw [List.length_drop]; omega)]
  | succ d ih =>
    intro i j acc hd ia jb al
    have A : j < b.length → Evl (fun k => parquetref04_Rising.l1 k a b acc i j) (acc ++ List.merge (a.drop i) (b.drop j) (fun x y => decide (x ≤ y))) := by
      intro hj
      have rb : rd b (j : Int) = b[j] := rd_ints b j _ (List.getElem?_eq_getElem hj)
      have db : b.drop j = b[j] :: b.drop (j + 1) := List.drop_eq_getElem_cons hj
      by_cases hi : i < a.length
      · have ra : rd a (i : Int) = a[i] := rd_ints a i _ (List.getElem?_eq_getElem hi)
        have da : a.drop i = a[i] :: a.drop (i + 1) := List.drop_eq_getElem_cons hi
        by_cases c : a[i] ≤ b[j]
        · have I := (ih (i + 1) j (acc ++ [a[i]]) (by omega) (by omega) jb (by rw [List.length_append, List.length_singleton]; omega)).1 hj
          rw [da, db, List.cons_merge_cons, if_pos (decide_eq_true c), ← db]
          rw [List.append_assoc, List.singleton_append] at I
          refine evl_step (fun k => ?_) I
          rw [parquetref04_Rising.l1, if_pos (by omega), if_pos (by omega), if_pos (by omega), if_pos (by omega), ra, rb, if_pos c, if_pos (by omega), wadd1 i (by omega)]
        · have I := (ih i (j + 1) (acc ++ [b[j]]) (by omega) ia (by omega) (by rw [List.length_append, List.length_singleton]; omega)).2
          rw [da, db, List.cons_merge_cons, if_neg (by simpa using c), ← da]
          rw [List.append_assoc, List.singleton_append] at I
          refine evl_step (fun k => ?_) I
          rw [parquetref04_Rising.l1, if_pos (by omega), if_pos (by omega), if_pos (by omega), if_pos (by omega), ra, rb, if_neg c, if_pos (by omega), wadd1 j (by omega)]
      · have I := (ih i (j + 1) (acc ++ [b[j]]) (by omega) ia (by omega) (by rw [List.length_append, List.length_singleton]; omega)).2
        have e1 : a.drop i = [] := List.drop_eq_nil_of_le (by omega)
        rw [e1, List.nil_merge, List.append_assoc, List.singleton_append, ← db] at I
        rw [e1, List.nil_merge]
        refine evl_step (fun k => ?_) I
        rw [parquetref04_Rising.l1, if_neg (by omega), if_pos (by omega), if_pos (by omega), rb, if_pos (by omega), wadd1 j (by omega)]
    refine ⟨A, ?_⟩
    by_cases hj : j < b.length
    · refine evl_step (fun k => ?_) (A hj)
      rw [parquetref04_Rising.l0, if_pos (by omega)]
    · have e1 : b.drop j = [] := List.drop_eq_nil_of_le (by omega)
      rw [e1, List.merge_right]
      refine evl_step (f := fun _ => some (acc ++ a.drop i)) (fun k => ?_) (evl_now _)
      rw [parquetref04_Rising.l0, if_neg (by omega), if_pos (by omega), if_pos (by omega), Int.toNat_natCast, Option.bind_some, if_pos (by rw [List.length_drop]; omega)]

theorem rising_is : ∀ N : Nat, ∀ l : List Int, l.length ≤ N → l.length ≤ 1099511627776 → Evl (fun k => parquetref04_Rising.f k l) (Fc.srt l) := by
  intro N
  induction N with
  | zero =>
    intro l h0 h1
    obtain rfl : l = [] := List.length_eq_zero_iff.1 (by omega)
    refine evl_step (f := fun _ => some (Fc.srt [])) (fun k => ?_) (evl_now _)
    rw [parquetref04_Rising.f, if_pos (by simp), Option.bind_some, if_pos (by simp)]; simp [Fc.srt]
  | succ N ih =>
    intro l h0 h1
    by_cases s : l.length < 2
    · have e : l = Fc.srt l := Fc.srt_eq (List.Perm.refl _) (by
        match l, s with
        | [], _ => exact List.Pairwise.nil
        | [x], _ => simp
        | x :: y :: t, s => simp at s; omega)
      rw [← e]
      refine evl_step (f := fun _ => some l) (fun k => ?_) (evl_now _)
      rw [parquetref04_Rising.f, if_pos (by omega), Option.bind_some, if_pos (by simp; omega), List.nil_append]
    · have hh : wrap64 ((l.length : Int) / 2) = ((l.length / 2 : Nat) : Int) := by rw [w64_id _ (by omega) (by omega)]; omega
      have l1 : (l.take (l.length / 2)).length = l.length / 2 := by rw [List.length_take]; omega
      have l2 : (l.drop (l.length / 2)).length = l.length - l.length / 2 := by rw [List.length_drop]
      have I1 := ih (l.take (l.length / 2)) (by omega) (by omega)
      have I2 := ih (l.drop (l.length / 2)) (by omega) (by omega)
      have s1 := Fc.srt_length (l.take (l.length / 2))
      have s2 := Fc.srt_length (l.drop (l.length / 2))
      have M := (mg (Fc.srt (l.take (l.length / 2))) (Fc.srt (l.drop (l.length / 2))) (by omega) (by omega) _ 0 0 [] (Nat.le_refl _) (by omega) (by omega) (by simp only [List.length_nil]; omega)).2
      rw [List.drop_zero, List.drop_zero, List.nil_append] at M
      have e : List.merge (Fc.srt (l.take (l.length / 2))) (Fc.srt (l.drop (l.length / 2))) (fun x y => decide (x ≤ y)) = Fc.srt l := by
        refine Fc.srt_eq (((List.merge_perm_append _).trans ((Fc.srt_perm _).append (Fc.srt_perm _))).trans (by rw [List.take_append_drop])) ?_
        refine (List.pairwise_merge (le := fun x y : Int => decide (x ≤ y)) (fun a b c h1 h2 => by simp at *; omega) (fun a b => by simp; omega) _ _ ?_ ?_).imp fun h => by simpa using h
        · exact (Fc.srt_sorted _).imp fun h => by simpa using h
        · exact (Fc.srt_sorted _).imp fun h => by simpa using h
      rw [e] at M
      refine evl_step (f := fun k => (parquetref04_Rising.f k (l.take (l.length / 2))).bind fun t115 => (parquetref04_Rising.f k (l.drop (l.length / 2))).bind fun t119 => parquetref04_Rising.l0 k t115 t119 [] 0 0) (fun k => ?_)
        (Go.Proofs.YtkgejfokdmdikaaW.PrintWords.Ev.bind I1 (Go.Proofs.YtkgejfokdmdikaaW.PrintWords.Ev.bind I2 M))
      rw [parquetref04_Rising.f, if_neg (by omega)]
      simp only [hh, Int.toNat_natCast]
      rw [if_pos (by clear hh; omega), if_pos (by clear hh; omega)]

/-! ### The law's own divisors -/
def pre (q : Nat) (out : List Nat) : Nat → List Nat
  | 0 => []
  | e + 1 => pre q out e ++ out.map (· * q ^ e)
theorem pre_pws (q : Nat) (out : List Nat) : ∀ k, pre q out (k + 1) = Fc.pws q out k
  | 0 => by simp [pre, Fc.pws]
  | k + 1 => by rw [pre, pre_pws q out k, Fc.pws]
theorem pre_len (q : Nat) (out : List Nat) : ∀ e, (pre q out e).length = out.length * e
  | 0 => rfl
  | e + 1 => by rw [pre, List.length_append, pre_len q out e, List.length_map, Nat.mul_succ]
theorem ints_app (a b : List Nat) : Fc.ints (a ++ b) = Fc.ints a ++ Fc.ints b := List.map_append

theorem rd2 (l : List (Nat × Nat)) (out all : List Nat) (i q k P e : Nat) (gi : l[i]? = some (q, k)) (eM : e ≤ 1099511627776) (ob : ∀ x ∈ out, x * P ≤ 1099511627776) (ol : all.length + out.length ≤ 1099511627776) (R : List Int × Int)
    (hR : Evl (fun K => parquetref04_Divisors.l1 K (st l) (Fc.ints out) (i : Int) (Fc.ints (all ++ out.map (· * P))) (wrap64 ((P : Int) * (q : Int))) ((e + 1 : Nat) : Int)) R) :
    ∀ d j, out.length - j ≤ d → j ≤ out.length → Evl (fun K => parquetref04_Divisors.l2 K (st l) (Fc.ints out) (i : Int) (Fc.ints (all ++ (out.take j).map (· * P))) (P : Int) (e : Int) (j : Int)) R := by
  have ii : i < l.length := (List.getElem?_eq_some_iff.1 gi).1
  have sl := st_len l
  have il := ints_len out
  have fin : Evl (fun K => parquetref04_Divisors.l2 K (st l) (Fc.ints out) (i : Int) (Fc.ints (all ++ (out.take out.length).map (· * P))) (P : Int) (e : Int) ((out.length : Nat) : Int)) R := by
    refine evl_step (fun K => ?_) hR
    rw [parquetref04_Divisors.l2, if_neg (by omega), if_pos (by omega), if_pos (by omega), rd_st l i q k gi, wadd1 e eM, List.take_length]
  intro d
  induction d with
  | zero =>
    intro j h0 h1
    have : j = out.length := by omega
    subst this; exact fin
  | succ d ih =>
    intro j h0 h1
    by_cases hj : j < out.length
    · have rj : rd (Fc.ints out) (j : Int) = (out[j] : Int) := rd_ints _ j _ (by rw [Fc.ints, List.getElem?_map, List.getElem?_eq_getElem hj]; rfl)
      have ob' := ob _ (List.getElem_mem hj)
      have nl : (Fc.ints (all ++ (out.take j).map (· * P))).length < 17592186044416 := by
        rw [ints_len, List.length_append, List.length_map, List.length_take]; omega
      have en : Fc.ints (all ++ (out.take j).map (· * P)) ++ [((out[j] * P : Nat) : Int)] = Fc.ints (all ++ (out.take (j + 1)).map (· * P)) := by
        rw [List.take_succ_eq_append_getElem hj, List.map_append, ← List.append_assoc, ints_app (all ++ _)]; rfl
      refine evl_step (fun K => ?_) (ih (j + 1) (by omega) (by omega))
      rw [parquetref04_Divisors.l2, if_pos (by omega), if_pos (by omega), if_pos nl, rj, wmul _ P (by omega), en, wadd1 j (by omega)]
    · have : j = out.length := by omega
      subst this; exact fin

theorem rd1 (l : List (Nat × Nat)) (out : List Nat) (i q k : Nat) (gi : l[i]? = some (q, k)) (q2 : 2 ≤ q) (li : l.length ≤ 1099511627776) (kM : k < 1099511627776) (qk : q ^ k ≤ 1099511627776) (ob : ∀ x ∈ out, x * q ^ k ≤ 1099511627776) (ol : out.length * (k + 1) ≤ 1099511627776) (R : List Int × Int)
    (hR : Evl (fun K => parquetref04_Divisors.l0 K (st l) (Fc.ints (Fc.pws q out k)) ((i + 1 : Nat) : Int)) R) :
    ∀ d e, ∀ x9 : Int, k + 1 - e ≤ d → e ≤ k + 1 → (e ≤ k → x9 = ((q ^ e : Nat) : Int)) → Evl (fun K => parquetref04_Divisors.l1 K (st l) (Fc.ints out) (i : Int) (Fc.ints (pre q out e)) x9 (e : Int)) R := by
  have ii : i < l.length := (List.getElem?_eq_some_iff.1 gi).1
  have sl := st_len l
  have fin : ∀ x9 : Int, Evl (fun K => parquetref04_Divisors.l1 K (st l) (Fc.ints out) (i : Int) (Fc.ints (pre q out (k + 1))) x9 ((k + 1 : Nat) : Int)) R := fun x9 => by
    rw [pre_pws]
    refine evl_step (fun K => ?_) hR
    rw [parquetref04_Divisors.l1, if_pos (by omega), if_pos (by omega), rd_st l i q k gi, if_neg (by simp only; omega), wadd1 i (by omega)]
  intro d
  induction d with
  | zero =>
    intro e x9 h0 h1 _
    have : e = k + 1 := by omega
    subst this; exact fin x9
  | succ d ih =>
    intro e x9 h0 h1 hx
    by_cases he : e ≤ k
    · have hx' := hx he
      subst hx'
      have pm : q ^ e ≤ q ^ k := Nat.pow_le_pow_right (by omega) he
      have nx : e + 1 ≤ k → wrap64 (((q ^ e : Nat) : Int) * (q : Int)) = ((q ^ (e + 1) : Nat) : Int) := fun h => by
        have p1 : q ^ (e + 1) ≤ q ^ k := Nat.pow_le_pow_right (by omega) h
        have e2 : q ^ e * q = q ^ (e + 1) := (Nat.pow_succ ..).symm
        rw [wmul _ q (by omega), e2]
      have I := ih (e + 1) (wrap64 (((q ^ e : Nat) : Int) * (q : Int))) (by omega) (by omega) nx
      rw [pre] at I
      have bl : (pre q out e).length + out.length ≤ 1099511627776 := by
        have : out.length * (e + 1) ≤ out.length * (k + 1) := Nat.mul_le_mul_left _ (by omega)
        rw [pre_len, show out.length * e + out.length = out.length * (e + 1) from (Nat.mul_succ ..).symm]; omega
      have L := rd2 l out (pre q out e) i q k (q ^ e) e gi (by omega) (fun x hx => Nat.le_trans (Nat.mul_le_mul_left _ pm) (ob x hx)) bl R I out.length 0 (by omega) (by omega)
      rw [List.take_zero, List.map_nil, List.append_nil] at L
      refine evl_step (fun K => ?_) L
      rw [parquetref04_Divisors.l1, if_pos (by omega), if_pos (by omega), rd_st l i q k gi, if_pos (by simp only; omega)]; rfl
    · have : e = k + 1 := by omega
      subst this; exact fin x9

theorem facs_len (n : Nat) (n1 : 1 ≤ n) : (Fc.facs n).length ≤ n := by
  have mp : ∀ l : List (Nat × Nat), 0 < Fc.many l := by
    intro l
    induction l with
    | nil => simp [Fc.many]
    | cons x t ih => obtain ⟨q, k⟩ := x; rw [Fc.many]; exact Nat.mul_pos (Nat.succ_pos _) ih
  have : ∀ (l : List (Nat × Nat)) (p m : Nat), Fc.IsFac p m l → l.length ≤ Fc.many l := by
    intro l
    induction l with
    | nil => intro p m _; simp [Fc.many]
    | cons x t ih =>
      obtain ⟨q, k⟩ := x
      intro p m ⟨_, _, k1, m', _, _, _, h⟩
      have := ih _ _ h
      have t1 := mp t
      rw [Fc.many, List.length_cons]
      have : 2 * Fc.many t ≤ (k + 1) * Fc.many t := Nat.mul_le_mul_right _ (by omega)
      omega
  have h := this _ _ _ (Fc.facs_is n n1)
  rw [← Fc.divs_length] at h
  exact Nat.le_trans h (good_len (Fc.divs_good n n1))

theorem rd0 (n : Nat) (n1 : 1 ≤ n) (nM : n ≤ 1099511627776) : ∀ d i N m p : Nat, ∀ out : List Nat, (Fc.facs n).length - i ≤ d → DvOut n (Fc.facs n) i out N m p →
    Evl (fun K => parquetref04_Divisors.l0 K (st (Fc.facs n)) (Fc.ints out) (i : Int)) (Fc.srt (Fc.ints (Fc.divs n)), 0) := by
  have fl := facs_len n n1
  have sl := st_len (Fc.facs n)
  have fin : ∀ i N m p : Nat, ∀ out : List Nat, (Fc.facs n).length ≤ i → DvOut n (Fc.facs n) i out N m p →
      Evl (fun K => parquetref04_Divisors.l0 K (st (Fc.facs n)) (Fc.ints out) (i : Int)) (Fc.srt (Fc.ints (Fc.divs n)), 0) := by
    intro i N m p out hi h
    have e := h.stop hi
    subst e
    have gl := good_len (Fc.divs_good n n1)
    have rs := rising_is _ (Fc.ints (Fc.divs n)) (Nat.le_refl _) (by rw [ints_len]; omega)
    refine evl_step (f := fun K => (parquetref04_Rising.f K (Fc.ints (Fc.divs n))).bind fun t150 => some (t150, 0)) (fun K => ?_) (Go.Proofs.YtkgejfokdmdikaaW.PrintWords.Ev.bind rs (evl_now _))
    rw [parquetref04_Divisors.l0, if_neg (by omega)]
  intro d
  induction d with
  | zero => intro i N m p out h0 h; exact fin i N m p out (by omega) h
  | succ d ih =>
    intro i N m p out h0 h
    by_cases hi : i < (Fc.facs n).length
    · obtain ⟨q, k, gi, q2, k1, bN, m', p', h'⟩ := h.next hi
      have I := ih (i + 1) _ m' p' _ (by omega) h'
      have N0 := h.good.pos
      have qk : q ^ k ≤ N * q ^ k := Nat.le_mul_of_pos_left _ N0
      have k2 : k < q ^ k := Nat.lt_pow_self (by omega)
      have ol : out.length * (k + 1) ≤ 1099511627776 := by have := good_len h'.good; rw [Fc.pws_length] at this; omega
      have L := rd1 (Fc.facs n) out i q k gi q2 (by omega) (by omega) (by omega) (fun x hx => by
        have := Nat.mul_le_mul_right (q ^ k) (good_le h.good hx); omega) ol _ I (k + 1) 0 1 (by omega) (by omega) (fun _ => by simp)
      refine evl_step (fun K => ?_) L
      rw [parquetref04_Divisors.l0, if_pos (by omega)]; rfl
    · exact fin i N m p out (by omega) h

theorem ref_divisors (n : Nat) (n1 : 1 ≤ n) (nM : n ≤ 1099511627776) : Evl (fun k => parquetref04_Divisors.f k (n : Int)) (Fc.srt (Fc.ints (Fc.divs n)), 0) := by
  have L := rd0 n n1 nM _ 0 1 n 2 [1] (Nat.le_refl _) (DvOut.start n1)
  refine evl_congr (f := fun k => (parquetref04_Factor.f k (n : Int)).bind fun bt143 => if bt143.2 = 0 then parquetref04_Divisors.l0 k bt143.1 [1] 0 else some ([], bt143.2)) (fun k => rfl)
    (Go.Proofs.YtkgejfokdmdikaaW.PrintWords.Ev.bind (ref_factor n n1 nM) (evl_congr (fun k => if_pos rfl) L))

/-! ### The law -/
theorem same_is (l : List Int) (ll : l.length ≤ 1099511627776) : Evl (fun k => parquetref04_Same.f k l l) true := by
  have h : ∀ d i : Nat, l.length - i ≤ d → i ≤ l.length → Evl (fun k => parquetref04_Same.l0 k l l i) true := by
    intro d
    induction d with
    | zero =>
      intro i h0 h1
      refine evl_step (f := fun _ => some true) (fun k => ?_) (evl_now _)
      rw [parquetref04_Same.l0, if_neg (by omega)]
    | succ d ih =>
      intro i h0 h1
      by_cases hi : i < l.length
      · refine evl_step (fun k => ?_) (ih (i + 1) (by omega) (by omega))
        rw [parquetref04_Same.l0, if_pos (by omega), if_pos (by omega), if_pos (by omega), if_pos rfl, wadd1 i (by omega)]
      · refine evl_step (f := fun _ => some true) (fun k => ?_) (evl_now _)
        rw [parquetref04_Same.l0, if_neg (by omega)]
  refine evl_congr (fun k => ?_) (h l.length 0 (by omega) (by omega))
  rw [parquetref04_Same.f, if_pos rfl]; rfl

theorem law_l1 (a0 : Int) (d : List Int) (e : Int) (dl : d.length ≤ 1099511627776) (D : modular_Divisors.f a0 = some (d, e)) : ∀ s i : Nat, ∀ x : List Int, d.length - i ≤ s → i ≤ d.length → x.length = d.length →
    Evl (fun k => parquetlaw04_ModularFactors.l1 k a0 x d i) true := by
  have fin : ∀ i : Nat, ∀ x : List Int, d.length ≤ i → x.length = d.length → Evl (fun k => parquetlaw04_ModularFactors.l1 k a0 x d i) true := by
    intro i x h0 h1
    refine evl_step (f := fun k => (parquetref04_Same.f k d d).bind fun t191 => if t191 = true then (parquetlaw04_wakes.f).bind fun t192 => some t192 else some false) (fun k => ?_)
      (Go.Proofs.YtkgejfokdmdikaaW.PrintWords.Ev.bind (same_is d dl) (evl_congr (fun k => if_pos rfl) (evl_now true)))
    rw [parquetlaw04_ModularFactors.l1, if_neg (by omega), D, Option.bind_some]
  intro s
  induction s with
  | zero => intro i x h0 h1 h2; exact fin i x (by omega) h2
  | succ s ih =>
    intro i x h0 h1 h2
    by_cases hi : i < d.length
    · refine evl_step (fun k => ?_) (ih (i + 1) (x.set i 0) (by omega) (by omega) (by rw [List.length_set]; exact h2))
      rw [parquetlaw04_ModularFactors.l1, if_pos (by omega), if_pos (by omega), Int.toNat_natCast, wadd1 i (by omega)]
    · exact fin i x (by omega) h2

theorem law_l0 (a0 : Int) (L : List S38) (d : List Int) (Ll : L.length ≤ 1099511627776) (R : Evl (fun k => parquetlaw04_ModularFactors.l1 k a0 d d 0) true) : ∀ s i : Nat, ∀ x : List S38, L.length - i ≤ s → i ≤ L.length → x.length = L.length →
    (∀ y, i ≤ y → x[y]? = L[y]?) → Evl (fun k => parquetlaw04_ModularFactors.l0 k a0 x L d d i) true := by
  have fin : ∀ i : Nat, ∀ x : List S38, L.length ≤ i → x.length = L.length → Evl (fun k => parquetlaw04_ModularFactors.l0 k a0 x L d d i) true := by
    intro i x h0 h1
    refine evl_step (fun k => ?_) R
    rw [parquetlaw04_ModularFactors.l0, if_neg (by omega)]
  intro s
  induction s with
  | zero => intro i x h0 h1 h2 _; exact fin i x (by omega) h2
  | succ s ih =>
    intro i x h0 h1 h2 h3
    by_cases hi : i < L.length
    · have e : rd_T38 x (i : Int) = rd_T38 L (i : Int) := by
        simp only [rd_T38, List.getD_eq_getElem?_getD, Int.toNat_natCast, h3 i (Nat.le_refl _)]
      refine evl_step (fun k => ?_) (ih (i + 1) (x.set i ⟨0, 0⟩) (by omega) (by omega) (by rw [List.length_set]; exact h2) (fun y hy => by
        rw [List.getElem?_set_ne (by omega)]; exact h3 y (by omega)))
      rw [parquetlaw04_ModularFactors.l0, if_pos (by omega), if_pos (by omega), if_pos (by omega), e, if_neg (by simp), Int.toNat_natCast, wadd1 i (by omega)]
    · exact fin i x (by omega) h2

theorem law_core (a0 : Int) (b1 : Bool) (b2 : Int) (L : List S38) (d : List Int) (e : Int) (e2 : Int) (Ll : L.length ≤ 1099511627776) (dl : d.length ≤ 1099511627776)
    (P : Evl (fun k => modular_Prime.f k a0) (b1, b2)) (RP : Evl (fun k => parquetref04_Prime.f k a0) (b1, b2)) (F : modular_Factor.f a0 = some (L, e)) (RF : Evl (fun k => parquetref04_Factor.f k a0) (L, e))
    (D : modular_Divisors.f a0 = some (d, e2)) (RD : Evl (fun k => parquetref04_Divisors.f k a0) (d, e2)) : Evl (fun k => parquetlaw04_ModularFactors.j0 k a0 false) true := by
  have R1 : Evl (fun k => parquetlaw04_ModularFactors.l1 k a0 d d 0) true := law_l1 a0 d e2 dl D d.length 0 d (by omega) (by omega) rfl
  have R0 : Evl (fun k => parquetlaw04_ModularFactors.l0 k a0 L L d d 0) true := law_l0 a0 L d Ll R1 L.length 0 L (by omega) (by omega) rfl (fun _ _ => rfl)
  have J1 : Evl (fun k => parquetlaw04_ModularFactors.j1 k a0 L L d d (!true)) true := evl_step (fun k => by
    rw [parquetlaw04_ModularFactors.j1, if_neg (by simp)]) R0
  have S := Go.Proofs.YtkgejfokdmdikaaW.PrintWords.Ev.bind (f := fun k t182 => parquetlaw04_ModularFactors.j1 k a0 L L d d (!t182)) (same_is d dl) J1
  refine evl_step (fun k => ?_) (Go.Proofs.YtkgejfokdmdikaaW.PrintWords.Ev.bind (f := fun k (p : Bool × Int) => (parquetref04_Prime.f k a0).bind fun q => (parquetref04_Factor.f k a0).bind fun r => (parquetref04_Divisors.f k a0).bind fun t =>
      (if (p.1 != q.1) = true then (parquetlaw04_ModularFactors.j1 k a0 L r.1 d t.1 true) else (if p.2 = q.2 then (if e = r.2 then (if e2 = t.2 then (if (L.length : Int) = (r.1.length : Int) then ((parquetref04_Same.f k d t.1).bind fun t182 => (parquetlaw04_ModularFactors.j1 k a0 L r.1 d t.1 (!t182))) else (parquetlaw04_ModularFactors.j1 k a0 L r.1 d t.1 true)) else (parquetlaw04_ModularFactors.j1 k a0 L r.1 d t.1 true)) else (parquetlaw04_ModularFactors.j1 k a0 L r.1 d t.1 true)) else (parquetlaw04_ModularFactors.j1 k a0 L r.1 d t.1 true)))) P
    (Go.Proofs.YtkgejfokdmdikaaW.PrintWords.Ev.bind RP (Go.Proofs.YtkgejfokdmdikaaW.PrintWords.Ev.bind RF (Go.Proofs.YtkgejfokdmdikaaW.PrintWords.Ev.bind RD (evl_congr (fun k => ?_) S)))))
  · rw [parquetlaw04_ModularFactors.j0, if_neg (by simp), F, D]
    simp only [Option.bind_some]
  · simp only [bne_self_eq_false, Bool.false_eq_true, if_false, if_true]

theorem ModularFactors : parquetlaw04_ModularFactors.Pure := by
  intro a0 _
  have R : Evl (fun K => parquetlaw04_ModularFactors.f K a0) true := by
    by_cases c1 : a0 < 1
    · have C := law_core a0 false 0 [] [] 2 2 (by simp) (by simp) (evl_congr (fun k => by rw [modular_Prime.f, if_neg (by omega), if_pos (by omega)]) (evl_now _)) (evl_congr (fun k => by rw [parquetref04_Prime.f, if_neg (by omega), if_pos (by omega)]) (evl_now _))
        (by rw [modular_Factor.f, if_pos c1]) (evl_congr (fun k => by rw [parquetref04_Factor.f, if_pos c1]) (evl_now _)) (by rw [modular_Divisors.f, if_pos c1]) (evl_congr (fun k => by rw [parquetref04_Divisors.f, parquetref04_Factor.f, if_pos c1]; rfl) (evl_now _))
      exact evl_congr (fun K => by rw [parquetlaw04_ModularFactors.f, if_neg (by omega)]) C
    · by_cases c2 : 1099511627776 < a0
      · have C := law_core a0 false 3 [] [] 3 3 (by simp) (by simp) (evl_congr (fun k => by rw [modular_Prime.f, if_pos (by omega)]) (evl_now _)) (evl_congr (fun k => by rw [parquetref04_Prime.f, if_pos (by omega)]) (evl_now _))
          (by rw [modular_Factor.f, if_neg c1, if_pos c2]) (evl_congr (fun k => by rw [parquetref04_Factor.f, if_neg c1, if_pos (by omega)]) (evl_now _)) (by rw [modular_Divisors.f, if_neg c1, if_pos c2]) (evl_congr (fun k => by rw [parquetref04_Divisors.f, parquetref04_Factor.f, if_neg c1, if_pos (by omega)]; rfl) (evl_now _))
        exact evl_congr (fun K => by rw [parquetlaw04_ModularFactors.f, if_pos (by omega), decide_eq_false (by omega)]) C
      · by_cases c3 : 17179869184 < a0
        · refine evl_congr (f := fun K => parquetlaw04_ModularFactors.j0 K a0 true) (fun K => by rw [parquetlaw04_ModularFactors.f, if_pos (by omega), decide_eq_true (by omega)]) (evl_step (f := fun _ => some true) (fun K => ?_) (evl_now _))
          rw [parquetlaw04_ModularFactors.j0, if_pos rfl]; rfl
        · obtain ⟨n, rfl⟩ : ∃ n : Nat, a0 = n := ⟨a0.toNat, by omega⟩
          have n1 : 1 ≤ n := by omega
          have nM : n ≤ 1099511627776 := by omega
          have F : modular_Factor.f (n : Int) = some (st (Fc.facs n), 0) := by rw [modular_Factor.f, if_neg c1, if_neg c2, Int.toNat_natCast]
          have D : modular_Divisors.f (n : Int) = some (Fc.srt (Fc.ints (Fc.divs n)), 0) := by rw [modular_Divisors.f, if_neg c1, if_neg c2, Int.toNat_natCast]
          have fl : (st (Fc.facs n)).length ≤ 1099511627776 := by have := facs_len n n1; rw [st_len]; omega
          have dl : (Fc.srt (Fc.ints (Fc.divs n))).length ≤ 1099511627776 := by have := good_len (Fc.divs_good n n1); rw [Fc.srt_length, ints_len]; omega
          have fin : ∀ b, Evl (fun k => modular_Prime.f k (n : Int)) (b, 0) → Evl (fun k => parquetref04_Prime.f k (n : Int)) (b, 0) → Evl (fun K => parquetlaw04_ModularFactors.f K (n : Int)) true := fun b P RP =>
            evl_congr (fun K => by rw [parquetlaw04_ModularFactors.f, if_neg (by omega)]) (law_core n b 0 _ _ 0 0 fl dl P RP F (ref_factor n n1 nM) D (ref_divisors n n1 nM))
          by_cases n2 : 2 ≤ n
          · obtain ⟨b, _, P, RP⟩ := prime_both n n2 nM
            exact fin b P RP
          · exact fin false (evl_congr (fun k => by rw [modular_Prime.f, if_neg (by omega), if_pos (by omega)]) (evl_now _)) (evl_congr (fun k => by rw [parquetref04_Prime.f, if_neg (by omega), if_pos (by omega)]) (evl_now _))
  exact Go.Proofs.YtkgejfokdmdikaaW.PrintWords.Ev.rounds R

end Go.Proofs.Ytkgejfokdmdikaa.Pure
