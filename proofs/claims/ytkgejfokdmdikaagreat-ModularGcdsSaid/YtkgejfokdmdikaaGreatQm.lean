/- Remainders, common divisors, inverses: the program's and the document's, in whole numbers of 64 bits. modular.Gcd: what it answers. The document's Gcd: what it answers. ModularGcds: what the two sides answer. -/
import Derived.Test.YtkgejfokdmdikaaGreatQl
import Derived.Laws.BitsLemmas
import Derived.KernelRfl
section
set_option maxHeartbeats 4000000
set_option linter.unusedVariables false
set_option linter.unusedSimpArgs false
set_option maxRecDepth 10000
namespace Go.Proofs.YtkgejfokdmdikaaGreat.Iv
open Go Go.Iv
theorem emod_of (a m : Int) (hm : 0 < m) : a % m = if Int.tmod a m < 0 then Int.tmod a m + m else Int.tmod a m := by
  have h1 := Int.emod_nonneg a (show m ≠ 0 by omega)
  have h2 := Int.emod_lt_of_pos a hm
  have e := Int.tmod_eq_emod (a := a) (b := m)
  split at e <;> split <;> omega
theorem tmod_bd (a m : Int) (hm : 0 < m) : -m < Int.tmod a m ∧ Int.tmod a m < m := by
  have h1 := Int.emod_nonneg a (show m ≠ 0 by omega)
  have h2 := Int.emod_lt_of_pos a hm
  have e := Int.tmod_eq_emod (a := a) (b := m)
  by_cases hd : 0 ≤ a ∨ m ∣ a
  · rw [if_pos hd] at e; omega
  · rw [if_neg hd] at e
    have : a % m ≠ 0 := fun h => hd (.inr (Int.dvd_of_emod_eq_zero h))
    omega
theorem mod_sem (a m : Int) (hm : 0 < m) (hm2 : m ≤ 4611686018427387904) (h : Hp) : SemCall Tryz.prog 18 [.flat (.int .i64 a), .flat (.int .i64 m)] h (.ret (.flat (.int .i64 (a % m)))) h := by
  refine sem_pure tables.ok Tryz.func18 rfl rfl rfl rfl rfl rfl ?_ h
  have B := base0
  have hb := tmod_bd a m hm
  have he := emod_of a m hm
  unfold Tryz.f18 bodyOf entry; simp only [Option.getD_some, List.length_cons, List.length_nil, Nat.reduceAdd, Nat.reduceSub]
  repeat (first
    | refine wp_seqQ ?_ | refine wp_blockQ ?_ | refine wp_scopeQ ?_
    | ((first | refine wp_skipQ ?_ | refine wp_labelQ ?_ | refine wp_exitQ ?_ | refine wp_retQ ?_); simp only [kQ, Nat.reduceEqDiff, reduceIte])
    | (refine wp_reg B ?_; simp (disch := omega) only [kW, Nat.reduceEqDiff, reduceIte, Nat.reduceLT, Nat.reduceLeDiff, Nat.reduceAdd, Nat.reduceSub, Nat.reduceMul, Nat.reducePow, Nat.reduceDiv, Nat.reduceMod, evIndexAddr, TD.agg, evFieldAddr, ty2])
    | refine wp_condT rfl ?_ | refine wp_condF rfl ?_)
  refine wp_if rfl (fun hlt => ?_) (fun hge => ?_)
  · repeat (first
      | refine wp_seqQ ?_ | refine wp_blockQ ?_ | refine wp_scopeQ ?_
      | ((first | refine wp_skipQ ?_ | refine wp_labelQ ?_ | refine wp_exitQ ?_ | refine wp_retQ ?_); simp only [kQ, Nat.reduceEqDiff, reduceIte])
      | (refine wp_reg B ?_; simp (disch := omega) only [kW, Nat.reduceEqDiff, reduceIte, Nat.reduceLT, Nat.reduceLeDiff, Nat.reduceAdd, Nat.reduceSub, Nat.reduceMul, Nat.reducePow, Nat.reduceDiv, Nat.reduceMod, evIndexAddr, TD.agg, evFieldAddr, ty2])
      | refine wp_condT rfl ?_ | refine wp_condF rfl ?_)
    simp (disch := omega) only [kS, Nat.reduceEqDiff, reduceIte, Nat.reduceLT, Nat.reduceLeDiff, Nat.reduceAdd, Nat.reduceSub, Nat.reduceMul, Nat.reducePow, Nat.reduceDiv, Nat.reduceMod, evIndexAddr, TD.agg, evFieldAddr, ty2]
    rw [he, if_pos hlt]
  · repeat (first
      | refine wp_seqQ ?_ | refine wp_blockQ ?_ | refine wp_scopeQ ?_
      | ((first | refine wp_skipQ ?_ | refine wp_labelQ ?_ | refine wp_exitQ ?_ | refine wp_retQ ?_); simp only [kQ, Nat.reduceEqDiff, reduceIte])
      | (refine wp_reg B ?_; simp (disch := omega) only [kW, Nat.reduceEqDiff, reduceIte, Nat.reduceLT, Nat.reduceLeDiff, Nat.reduceAdd, Nat.reduceSub, Nat.reduceMul, Nat.reducePow, Nat.reduceDiv, Nat.reduceMod, evIndexAddr, TD.agg, evFieldAddr, ty2])
      | refine wp_condT rfl ?_ | refine wp_condF rfl ?_)
    simp (disch := omega) only [kS, Nat.reduceEqDiff, reduceIte, Nat.reduceLT, Nat.reduceLeDiff, Nat.reduceAdd, Nat.reduceSub, Nat.reduceMul, Nat.reducePow, Nat.reduceDiv, Nat.reduceMod, evIndexAddr, TD.agg, evFieldAddr, ty2]
    rw [he, if_neg hge]
theorem Mod_sem (a m : Int) (hm : 0 < m) (hm2 : m ≤ 4611686018427387904) (h : Hp) : SemCall Tryz.prog 21 [.flat (.int .i64 a), .flat (.int .i64 m)] h (.ret (.flat (.int .i64 (a % m)))) h := by
  refine sem_pure tables.ok Tryz.func21 rfl rfl rfl rfl rfl rfl ?_ h
  have B := base0
  have hb := tmod_bd a m hm
  have he := emod_of a m hm
  unfold Tryz.f21 bodyOf entry; simp only [Option.getD_some, List.length_cons, List.length_nil, Nat.reduceAdd, Nat.reduceSub]
  repeat (first
    | refine wp_seqQ ?_ | refine wp_blockQ ?_ | refine wp_scopeQ ?_
    | ((first | refine wp_skipQ ?_ | refine wp_labelQ ?_ | refine wp_exitQ ?_ | refine wp_retQ ?_); simp only [kQ, Nat.reduceEqDiff, reduceIte])
    | (refine wp_reg B ?_; simp (disch := omega) only [kW, Nat.reduceEqDiff, reduceIte, Nat.reduceLT, Nat.reduceLeDiff, Nat.reduceAdd, Nat.reduceSub, Nat.reduceMul, Nat.reducePow, Nat.reduceDiv, Nat.reduceMod, evIndexAddr, TD.agg, evFieldAddr, ty2])
    | refine wp_condT rfl ?_ | refine wp_condF rfl ?_)
  refine wp_if rfl (fun hlt => ?_) (fun hge => ?_)
  · repeat (first
      | refine wp_seqQ ?_ | refine wp_blockQ ?_ | refine wp_scopeQ ?_
      | ((first | refine wp_skipQ ?_ | refine wp_labelQ ?_ | refine wp_exitQ ?_ | refine wp_retQ ?_); simp only [kQ, Nat.reduceEqDiff, reduceIte])
      | (refine wp_reg B ?_; simp (disch := omega) only [kW, Nat.reduceEqDiff, reduceIte, Nat.reduceLT, Nat.reduceLeDiff, Nat.reduceAdd, Nat.reduceSub, Nat.reduceMul, Nat.reducePow, Nat.reduceDiv, Nat.reduceMod, evIndexAddr, TD.agg, evFieldAddr, ty2])
      | refine wp_condT rfl ?_ | refine wp_condF rfl ?_)
    simp (disch := omega) only [kS, Nat.reduceEqDiff, reduceIte, Nat.reduceLT, Nat.reduceLeDiff, Nat.reduceAdd, Nat.reduceSub, Nat.reduceMul, Nat.reducePow, Nat.reduceDiv, Nat.reduceMod, evIndexAddr, TD.agg, evFieldAddr, ty2]
    rw [he, if_pos hlt]
  · repeat (first
      | refine wp_seqQ ?_ | refine wp_blockQ ?_ | refine wp_scopeQ ?_
      | ((first | refine wp_skipQ ?_ | refine wp_labelQ ?_ | refine wp_exitQ ?_ | refine wp_retQ ?_); simp only [kQ, Nat.reduceEqDiff, reduceIte])
      | (refine wp_reg B ?_; simp (disch := omega) only [kW, Nat.reduceEqDiff, reduceIte, Nat.reduceLT, Nat.reduceLeDiff, Nat.reduceAdd, Nat.reduceSub, Nat.reduceMul, Nat.reducePow, Nat.reduceDiv, Nat.reduceMod, evIndexAddr, TD.agg, evFieldAddr, ty2])
      | refine wp_condT rfl ?_ | refine wp_condF rfl ?_)
    simp (disch := omega) only [kS, Nat.reduceEqDiff, reduceIte, Nat.reduceLT, Nat.reduceLeDiff, Nat.reduceAdd, Nat.reduceSub, Nat.reduceMul, Nat.reducePow, Nat.reduceDiv, Nat.reduceMod, evIndexAddr, TD.agg, evFieldAddr, ty2]
    rw [he, if_neg hge]
theorem gcd_sem (a b : Nat) (ha : a ≤ 4611686018427387904) (hb : b ≤ 4611686018427387904) (h : Hp) : SemCall Tryz.prog 17 [.flat (.int .i64 (a : Int)), .flat (.int .i64 (b : Int))] h (.ret (.flat (.int .i64 (Nat.gcd a b : Nat)))) h := by
  refine sem_pure tables.ok Tryz.func17 rfl rfl rfl rfl rfl rfl ?_ h
  have B := base0
  unfold Tryz.f17 bodyOf entry; simp only [Option.getD_some, List.length_cons, List.length_nil, Nat.reduceAdd, Nat.reduceSub]
  repeat (first
    | refine wp_seqQ ?_ | refine wp_blockQ ?_ | refine wp_scopeQ ?_
    | ((first | refine wp_skipQ ?_ | refine wp_labelQ ?_ | refine wp_exitQ ?_ | refine wp_retQ ?_); simp only [kQ, Nat.reduceEqDiff, reduceIte])
    | ((first | refine wp_dreg B (id := 2) [0, 0, 0, 6, 3, 31] (by kernel_rfl) ?_ | refine wp_reg B ?_); simp (disch := omega) only [kW, kG, Nat.reduceEqDiff, reduceIte, Nat.reduceLT, Nat.reduceLeDiff, Nat.reduceAdd, Nat.reduceSub, Nat.reduceMul, Nat.reducePow, Nat.reduceDiv, Nat.reduceMod, evIndexAddr, TD.agg, evFieldAddr, ty2])
    | refine wp_condT rfl ?_ | refine wp_condF rfl ?_)
  refine wp_loopQ (fun k s => ∃ (x y : Nat) (tm : Nat → Option AV) (h : Hp), s = ⟨tm, 12, h, []⟩ ∧ y = k ∧ Nat.gcd x y = Nat.gcd a b ∧ x ≤ 4611686018427387904 ∧ y ≤ 4611686018427387904 ∧ tm 0 = some (.flat (.int .i64 (x : Int))) ∧ tm 1 = some (.flat (.int .i64 (y : Int)))) b ?_ ?_
  · exact ⟨a, b, _, _, rfl, rfl, rfl, ha, hb, rfl, rfl⟩
  · rintro k s ⟨x, y, tm, h, rfl, rfl, hg, hx, hy, t0, t1⟩
    have hm := Nat.mod_lt x (y := y)
    have hm2 := Nat.mod_le x y
    have et : Int.tmod (x : Int) (y : Int) = ((x % y : Nat) : Int) := by rw [Int.tmod_eq_emod_of_nonneg (by omega)]; rfl
    repeat (first
      | refine wp_seqQ ?_ | refine wp_blockQ ?_ | refine wp_scopeQ ?_
      | ((first | refine wp_skipQ ?_ | refine wp_labelQ ?_ | refine wp_exitQ ?_ | refine wp_retQ ?_); simp only [kQ, Nat.reduceEqDiff, reduceIte])
      | ((first | refine wp_dreg B (id := 2) [0, 0, 0, 6, 3, 31] (by kernel_rfl) ?_ | refine wp_reg B ?_); simp (disch := omega) only [kW, kG, Nat.reduceEqDiff, reduceIte, Nat.reduceLT, Nat.reduceLeDiff, Nat.reduceAdd, Nat.reduceSub, Nat.reduceMul, Nat.reducePow, Nat.reduceDiv, Nat.reduceMod, evIndexAddr, TD.agg, evFieldAddr, ty2, t0, t1])
      | refine wp_condT rfl ?_ | refine wp_condF rfl ?_)
    refine wp_ifn rfl (fun y0 => ?_) (fun y0 => ?_)
    · repeat (first
        | refine wp_seqQ ?_ | refine wp_blockQ ?_ | refine wp_scopeQ ?_
        | ((first | refine wp_skipQ ?_ | refine wp_labelQ ?_ | refine wp_exitQ ?_ | refine wp_retQ ?_); simp only [kQ, Nat.reduceEqDiff, reduceIte])
        | ((first | refine wp_dreg B (id := 2) [0, 0, 0, 6, 3, 31] (by kernel_rfl) ?_ | refine wp_reg B ?_); simp (disch := omega) only [kW, kG, Nat.reduceEqDiff, reduceIte, Nat.reduceLT, Nat.reduceLeDiff, Nat.reduceAdd, Nat.reduceSub, Nat.reduceMul, Nat.reducePow, Nat.reduceDiv, Nat.reduceMod, evIndexAddr, TD.agg, evFieldAddr, ty2, t0, t1, et])
        | refine wp_condT rfl ?_ | refine wp_condF rfl ?_)
      exact ⟨x % y, hm (by omega), y, x % y, _, _, rfl, rfl, by rw [← hg, Nat.gcd_comm y, ← Nat.gcd_rec, Nat.gcd_comm], by omega, by omega, rfl, rfl⟩
    · repeat (first
        | refine wp_seqQ ?_ | refine wp_blockQ ?_ | refine wp_scopeQ ?_
        | ((first | refine wp_skipQ ?_ | refine wp_labelQ ?_ | refine wp_exitQ ?_ | refine wp_retQ ?_); simp only [kQ, Nat.reduceEqDiff, reduceIte])
        | ((first | refine wp_dreg B (id := 2) [0, 0, 0, 6, 3, 31] (by kernel_rfl) ?_ | refine wp_reg B ?_); simp (disch := omega) only [kW, kG, Nat.reduceEqDiff, reduceIte, Nat.reduceLT, Nat.reduceLeDiff, Nat.reduceAdd, Nat.reduceSub, Nat.reduceMul, Nat.reducePow, Nat.reduceDiv, Nat.reduceMod, evIndexAddr, TD.agg, evFieldAddr, ty2, t0, t1])
        | refine wp_condT rfl ?_ | refine wp_condF rfl ?_)
      simp (disch := omega) only [kS, Nat.reduceEqDiff, reduceIte, Nat.reduceLT, Nat.reduceLeDiff, Nat.reduceAdd, Nat.reduceSub, Nat.reduceMul, Nat.reducePow, Nat.reduceDiv, Nat.reduceMod, evIndexAddr, TD.agg, evFieldAddr, ty2, t0, t1]
      obtain rfl : y = 0 := by omega
      rw [Nat.gcd_zero_right] at hg
      rw [hg]
theorem Common_sem (a b : Nat) (ha : a ≤ 4611686018427387904) (hb : b ≤ 4611686018427387904) (h : Hp) : SemCall Tryz.prog 20 [.flat (.int .i64 (a : Int)), .flat (.int .i64 (b : Int))] h (.ret (.flat (.int .i64 (Nat.gcd a b : Nat)))) h := by
  refine sem_pure tables.ok Tryz.func20 rfl rfl rfl rfl rfl rfl ?_ h
  have B := base0
  unfold Tryz.f20 bodyOf entry; simp only [Option.getD_some, List.length_cons, List.length_nil, Nat.reduceAdd, Nat.reduceSub]
  have m1 : max (a : Int) (0 - (a : Int)) = a := by omega
  have m2 : max (b : Int) (0 - (b : Int)) = b := by omega
  repeat (first
    | refine wp_seqQ ?_ | refine wp_blockQ ?_ | refine wp_scopeQ ?_
    | ((first | refine wp_skipQ ?_ | refine wp_labelQ ?_ | refine wp_exitQ ?_ | refine wp_retQ ?_); simp only [kQ, Nat.reduceEqDiff, reduceIte])
    | (refine wp_reg B ?_; simp (disch := omega) only [kW, Nat.reduceEqDiff, reduceIte, Nat.reduceLT, Nat.reduceLeDiff, Nat.reduceAdd, Nat.reduceSub, Nat.reduceMul, Nat.reducePow, Nat.reduceDiv, Nat.reduceMod, evIndexAddr, TD.agg, evFieldAddr, ty2, m1, m2])
    | refine wp_condT rfl ?_ | refine wp_condF rfl ?_)
  refine wp_loopQ (fun k s => ∃ (x y : Nat) (tm : Nat → Option AV) (h : Hp), s = ⟨tm, 22, h, []⟩ ∧ y = k ∧ Nat.gcd x y = Nat.gcd a b ∧ x ≤ 4611686018427387904 ∧ y ≤ 4611686018427387904 ∧ tm 0 = some (.flat (.int .i64 (x : Int))) ∧ tm 1 = some (.flat (.int .i64 (y : Int)))) b ?_ ?_
  · exact ⟨a, b, _, _, rfl, rfl, rfl, ha, hb, rfl, rfl⟩
  · rintro k s ⟨x, y, tm, h, rfl, rfl, hg, hx, hy, t0, t1⟩
    have hm := Nat.mod_lt x (y := y)
    have hm2 := Nat.mod_le x y
    have et : Int.tmod (x : Int) (y : Int) = ((x % y : Nat) : Int) := by rw [Int.tmod_eq_emod_of_nonneg (by omega)]; rfl
    repeat (first
      | refine wp_seqQ ?_ | refine wp_blockQ ?_ | refine wp_scopeQ ?_
      | ((first | refine wp_skipQ ?_ | refine wp_labelQ ?_ | refine wp_exitQ ?_ | refine wp_retQ ?_); simp only [kQ, Nat.reduceEqDiff, reduceIte])
      | (refine wp_reg B ?_; simp (disch := omega) only [kW, Nat.reduceEqDiff, reduceIte, Nat.reduceLT, Nat.reduceLeDiff, Nat.reduceAdd, Nat.reduceSub, Nat.reduceMul, Nat.reducePow, Nat.reduceDiv, Nat.reduceMod, evIndexAddr, TD.agg, evFieldAddr, ty2, t0, t1])
      | refine wp_condT rfl ?_ | refine wp_condF rfl ?_)
    refine wp_if rfl (fun y0 => ?_) (fun y0 => ?_)
    · repeat (first
        | refine wp_seqQ ?_ | refine wp_blockQ ?_ | refine wp_scopeQ ?_
        | ((first | refine wp_skipQ ?_ | refine wp_labelQ ?_ | refine wp_exitQ ?_ | refine wp_retQ ?_); simp only [kQ, Nat.reduceEqDiff, reduceIte])
        | (refine wp_reg B ?_; simp (disch := omega) only [kW, Nat.reduceEqDiff, reduceIte, Nat.reduceLT, Nat.reduceLeDiff, Nat.reduceAdd, Nat.reduceSub, Nat.reduceMul, Nat.reducePow, Nat.reduceDiv, Nat.reduceMod, evIndexAddr, TD.agg, evFieldAddr, ty2, t0, t1, et])
        | refine wp_condT rfl ?_ | refine wp_condF rfl ?_)
      exact ⟨x % y, hm (by omega), y, x % y, _, _, rfl, rfl, by rw [← hg, Nat.gcd_comm y, ← Nat.gcd_rec, Nat.gcd_comm], by omega, by omega, rfl, rfl⟩
    · repeat (first
        | refine wp_seqQ ?_ | refine wp_blockQ ?_ | refine wp_scopeQ ?_
        | ((first | refine wp_skipQ ?_ | refine wp_labelQ ?_ | refine wp_exitQ ?_ | refine wp_retQ ?_); simp only [kQ, Nat.reduceEqDiff, reduceIte])
        | (refine wp_reg B ?_; simp (disch := omega) only [kW, Nat.reduceEqDiff, reduceIte, Nat.reduceLT, Nat.reduceLeDiff, Nat.reduceAdd, Nat.reduceSub, Nat.reduceMul, Nat.reducePow, Nat.reduceDiv, Nat.reduceMod, evIndexAddr, TD.agg, evFieldAddr, ty2, t0, t1])
        | refine wp_condT rfl ?_ | refine wp_condF rfl ?_)
      simp (disch := omega) only [kS, Nat.reduceEqDiff, reduceIte, Nat.reduceLT, Nat.reduceLeDiff, Nat.reduceAdd, Nat.reduceSub, Nat.reduceMul, Nat.reducePow, Nat.reduceDiv, Nat.reduceMod, evIndexAddr, TD.agg, evFieldAddr, ty2, t0, t1]
      obtain rfl : y = 0 := by omega
      rw [Nat.gcd_zero_right] at hg
      rw [hg]
def invU : Nat → Nat → Nat → Int → Int → Int
  | 0, _, _, u, _ => u
  | f + 1, r, s, u, v => if s = 0 then u else invU f s (r % s) v (fwrap .i64 (u - fwrap .i64 (((r / s : Nat) : Int) * v)))
theorem invU_more : ∀ (f g r s : Nat) (u v : Int), s < f → s < g → invU f r s u v = invU g r s u v
  | f + 1, g + 1, r, s, u, v, hf, hg => by
    simp only [invU]
    split
    · rfl
    · have := Nat.mod_lt r (show 0 < s by omega)
      exact invU_more f g s (r % s) v _ (by omega) (by omega)
def inv (r s : Nat) (u v : Int) : Int := invU (s + 1) r s u v
theorem inv_zero (r : Nat) (u v : Int) : inv r 0 u v = u := rfl
theorem inv_step (r s : Nat) (u v : Int) (h : s ≠ 0) : inv r s u v = inv s (r % s) v (fwrap .i64 (u - fwrap .i64 (((r / s : Nat) : Int) * v))) := by
  have := Nat.mod_lt r (show 0 < s by omega)
  unfold inv
  rw [invU, if_neg h]
  exact invU_more _ _ _ _ _ _ (by omega) (by omega)
noncomputable def E18 : Entry Tryz.prog := Entry.pure 18 (fun (x : Int × Int) => [.flat (.int .i64 x.1), .flat (.int .i64 x.2)]) (fun x => 0 < x.2 ∧ x.2 ≤ 4611686018427387904) (fun x => .flat (.int .i64 (x.1 % x.2))) fun x hx h => mod_sem x.1 x.2 hx.1 hx.2 h
theorem E18_ans (l : List (Entry Tryz.prog)) (a m : Int) (h : Hp) (h1 : 0 < m) (h2 : m ≤ 4611686018427387904) : tabL (E18 :: l) 18 [.flat (.int .i64 a), .flat (.int .i64 m)] h = some (.ret (.flat (.int .i64 (a % m))), h) := by
  refine (tabL_hit E18 l _ _ _ rfl).trans ?_
  exact Entry.pure_ans (fun x y hxy => by simp at hxy; rw [hxy.1, hxy.2]) (a, m) ⟨h1, h2⟩ h
theorem inverse_sem (a : Int) (m : Nat) (hm : 0 < m) (hm2 : m ≤ 4611686018427387904) (h : Hp) : SemCall Tryz.prog 19 [.flat (.int .i64 a), .flat (.int .i64 (m : Int))] h (.ret (.flat (.int .i64 (inv m (a % m).toNat 0 1 % m)))) h := by
  refine sem_pure tables.ok Tryz.func19 rfl rfl rfl rfl rfl rfl ?_ h
  have B : Base Tryz.prog tab _ := tabL_base [E18] tables.ok mixed
  have b1 := Int.emod_nonneg a (show (m : Int) ≠ 0 by omega)
  have b2 := Int.emod_lt_of_pos a (show 0 < (m : Int) by omega)
  unfold Tryz.f19 bodyOf entry; simp only [Option.getD_some, List.length_cons, List.length_nil, Nat.reduceAdd, Nat.reduceSub]
  repeat (first
    | refine wp_seqQ ?_ | refine wp_blockQ ?_ | refine wp_scopeQ ?_
    | ((first | refine wp_skipQ ?_ | refine wp_labelQ ?_ | refine wp_exitQ ?_ | refine wp_retQ ?_); simp only [kQ, Nat.reduceEqDiff, reduceIte])
    | (refine wp_reg B ?_; simp (disch := omega) only [kW, Nat.reduceEqDiff, reduceIte, Nat.reduceLT, Nat.reduceLeDiff, Nat.reduceAdd, Nat.reduceSub, Nat.reduceMul, Nat.reducePow, Nat.reduceDiv, Nat.reduceMod, evIndexAddr, TD.agg, evFieldAddr, ty2, fn18, E18_ans])
    | refine wp_condT rfl ?_ | refine wp_condF rfl ?_)
  refine wp_loopQ (fun k s => ∃ (x y : Nat) (u v : Int) (tm : Nat → Option AV) (h : Hp), s = ⟨tm, 34, h, []⟩ ∧ y = k ∧ inv x y u v = inv m (a % m).toNat 0 1 ∧ x ≤ 4611686018427387904 ∧ y ≤ 4611686018427387904 ∧ tm 1 = some (.flat (.int .i64 (m : Int))) ∧ tm 5 = some (.flat (.int .i64 (x : Int))) ∧ tm 6 = some (.flat (.int .i64 (y : Int))) ∧ tm 7 = some (.flat (.int .i64 u)) ∧ tm 8 = some (.flat (.int .i64 v))) (a % m).toNat ?_ ?_
  · exact ⟨m, (a % m).toNat, 0, 1, _, _, rfl, rfl, rfl, hm2, by omega, rfl, rfl, by rw [Int.toNat_of_nonneg b1]; rfl, rfl, rfl⟩
  · rintro k s ⟨x, y, u, v, tm, h, rfl, rfl, hg, hx, hy, t1, tr, ts, tu, tv⟩
    have d1 := Nat.mod_lt x (y := y)
    have d2 := Nat.mod_le x y
    have d3 := Nat.div_le_self x y
    have d4 := Nat.div_mul_le_self x y
    have d5 := Nat.div_add_mod' x y
    have ed : Int.tdiv (x : Int) (y : Int) = ((x / y : Nat) : Int) := by rw [Int.tdiv_eq_ediv_of_nonneg (by omega)]; rfl
    have hi := inv_step x y u v
    generalize x / y = q at d3 d4 d5 ed hi
    generalize x % y = r at d1 d2 d5 hi
    have er : (x : Int) - (q : Int) * (y : Int) = (r : Int) := by
      rw [show (q : Int) * (y : Int) = ((q * y : Nat) : Int) from (Int.natCast_mul _ _).symm]; omega
    repeat (first
      | refine wp_seqQ ?_ | refine wp_blockQ ?_ | refine wp_scopeQ ?_
      | ((first | refine wp_skipQ ?_ | refine wp_labelQ ?_ | refine wp_exitQ ?_ | refine wp_retQ ?_); simp only [kQ, Nat.reduceEqDiff, reduceIte])
      | (refine wp_reg B ?_; simp (disch := omega) only [kW, Nat.reduceEqDiff, reduceIte, Nat.reduceLT, Nat.reduceLeDiff, Nat.reduceAdd, Nat.reduceSub, Nat.reduceMul, Nat.reducePow, Nat.reduceDiv, Nat.reduceMod, evIndexAddr, TD.agg, evFieldAddr, ty2, fn18, t1, tr, ts, tu, tv])
      | refine wp_condT rfl ?_ | refine wp_condF rfl ?_)
    refine wp_ifn rfl (fun y0 => ?_) (fun y0 => ?_)
    · repeat (first
        | refine wp_seqQ ?_ | refine wp_blockQ ?_ | refine wp_scopeQ ?_
        | ((first | refine wp_skipQ ?_ | refine wp_labelQ ?_ | refine wp_exitQ ?_ | refine wp_retQ ?_); simp only [kQ, Nat.reduceEqDiff, reduceIte])
        | (refine wp_reg B ?_; simp (disch := omega) only [kW, Nat.reduceEqDiff, reduceIte, Nat.reduceLT, Nat.reduceLeDiff, Nat.reduceAdd, Nat.reduceSub, Nat.reduceMul, Nat.reducePow, Nat.reduceDiv, Nat.reduceMod, evIndexAddr, TD.agg, evFieldAddr, ty2, fn18, t1, tr, ts, tu, tv, ed, er])
        | refine wp_condT rfl ?_ | refine wp_condF rfl ?_)
      exact ⟨r, d1 (by omega), y, r, v, _, _, _, rfl, rfl, by rw [← hg, hi (by omega)], by omega, by omega, t1, rfl, rfl, rfl, rfl⟩
    · repeat (first
        | refine wp_seqQ ?_ | refine wp_blockQ ?_ | refine wp_scopeQ ?_
        | ((first | refine wp_skipQ ?_ | refine wp_labelQ ?_ | refine wp_exitQ ?_ | refine wp_retQ ?_); simp only [kQ, Nat.reduceEqDiff, reduceIte])
        | (refine wp_reg B ?_; simp (disch := omega) only [kW, Nat.reduceEqDiff, reduceIte, Nat.reduceLT, Nat.reduceLeDiff, Nat.reduceAdd, Nat.reduceSub, Nat.reduceMul, Nat.reducePow, Nat.reduceDiv, Nat.reduceMod, evIndexAddr, TD.agg, evFieldAddr, ty2, fn18, t1, tr, ts, tu, tv, E18_ans])
        | refine wp_condT rfl ?_ | refine wp_condF rfl ?_)
      simp (disch := omega) only [kS, Nat.reduceEqDiff, reduceIte, Nat.reduceLT, Nat.reduceLeDiff, Nat.reduceAdd, Nat.reduceSub, Nat.reduceMul, Nat.reducePow, Nat.reduceDiv, Nat.reduceMod, evIndexAddr, TD.agg, evFieldAddr, ty2, fn18]
      obtain rfl : y = 0 := by omega
      rw [← hg, inv_zero]
noncomputable def E21 : Entry Tryz.prog := Entry.pure 21 (fun (x : Int × Int) => [.flat (.int .i64 x.1), .flat (.int .i64 x.2)]) (fun x => 0 < x.2 ∧ x.2 ≤ 4611686018427387904) (fun x => .flat (.int .i64 (x.1 % x.2))) fun x hx h => Mod_sem x.1 x.2 hx.1 hx.2 h
theorem E21_ans (l : List (Entry Tryz.prog)) (a m : Int) (h : Hp) (h1 : 0 < m) (h2 : m ≤ 4611686018427387904) : tabL (E21 :: l) 21 [.flat (.int .i64 a), .flat (.int .i64 m)] h = some (.ret (.flat (.int .i64 (a % m))), h) := by
  refine (tabL_hit E21 l _ _ _ rfl).trans ?_
  exact Entry.pure_ans (fun x y hxy => by simp at hxy; rw [hxy.1, hxy.2]) (a, m) ⟨h1, h2⟩ h
theorem turned_sem (a : Int) (m : Nat) (hm : 0 < m) (hm2 : m ≤ 4611686018427387904) (h : Hp) : SemCall Tryz.prog 22 [.flat (.int .i64 a), .flat (.int .i64 (m : Int))] h (.ret (.flat (.int .i64 (inv m (a % m).toNat 0 1 % m)))) h := by
  refine sem_pure tables.ok Tryz.func22 rfl rfl rfl rfl rfl rfl ?_ h
  have B : Base Tryz.prog tab _ := tabL_base [E21] tables.ok mixed
  have b1 := Int.emod_nonneg a (show (m : Int) ≠ 0 by omega)
  have b2 := Int.emod_lt_of_pos a (show 0 < (m : Int) by omega)
  unfold Tryz.f22 bodyOf entry; simp only [Option.getD_some, List.length_cons, List.length_nil, Nat.reduceAdd, Nat.reduceSub]
  repeat (first
    | refine wp_seqQ ?_ | refine wp_blockQ ?_ | refine wp_scopeQ ?_
    | ((first | refine wp_skipQ ?_ | refine wp_labelQ ?_ | refine wp_exitQ ?_ | refine wp_retQ ?_); simp only [kQ, Nat.reduceEqDiff, reduceIte])
    | (refine wp_reg B ?_; simp (disch := omega) only [kW, Nat.reduceEqDiff, reduceIte, Nat.reduceLT, Nat.reduceLeDiff, Nat.reduceAdd, Nat.reduceSub, Nat.reduceMul, Nat.reducePow, Nat.reduceDiv, Nat.reduceMod, evIndexAddr, TD.agg, evFieldAddr, ty2, fn21, E21_ans])
    | refine wp_condT rfl ?_ | refine wp_condF rfl ?_)
  refine wp_loopQ (fun k s => ∃ (x y : Nat) (u v : Int) (tm : Nat → Option AV) (h : Hp), s = ⟨tm, 38, h, []⟩ ∧ y = k ∧ inv x y u v = inv m (a % m).toNat 0 1 ∧ x ≤ 4611686018427387904 ∧ y ≤ 4611686018427387904 ∧ tm 1 = some (.flat (.int .i64 (m : Int))) ∧ tm 5 = some (.flat (.int .i64 (x : Int))) ∧ tm 6 = some (.flat (.int .i64 (y : Int))) ∧ tm 7 = some (.flat (.int .i64 u)) ∧ tm 8 = some (.flat (.int .i64 v))) (a % m).toNat ?_ ?_
  · exact ⟨m, (a % m).toNat, 0, 1, _, _, rfl, rfl, rfl, hm2, by omega, rfl, rfl, by rw [Int.toNat_of_nonneg b1]; rfl, rfl, rfl⟩
  · rintro k s ⟨x, y, u, v, tm, h, rfl, rfl, hg, hx, hy, t1, tr, ts, tu, tv⟩
    have d1 := Nat.mod_lt x (y := y)
    have d2 := Nat.mod_le x y
    have d3 := Nat.div_le_self x y
    have d4 := Nat.div_mul_le_self x y
    have d5 := Nat.div_add_mod' x y
    have ed : Int.tdiv (x : Int) (y : Int) = ((x / y : Nat) : Int) := by rw [Int.tdiv_eq_ediv_of_nonneg (by omega)]; rfl
    have hi := inv_step x y u v
    generalize x / y = q at d3 d4 d5 ed hi
    generalize x % y = r at d1 d2 d5 hi
    have er : (x : Int) - (q : Int) * (y : Int) = (r : Int) := by
      rw [show (q : Int) * (y : Int) = ((q * y : Nat) : Int) from (Int.natCast_mul _ _).symm]; omega
    repeat (first
      | refine wp_seqQ ?_ | refine wp_blockQ ?_ | refine wp_scopeQ ?_
      | ((first | refine wp_skipQ ?_ | refine wp_labelQ ?_ | refine wp_exitQ ?_ | refine wp_retQ ?_); simp only [kQ, Nat.reduceEqDiff, reduceIte])
      | (refine wp_reg B ?_; simp (disch := omega) only [kW, Nat.reduceEqDiff, reduceIte, Nat.reduceLT, Nat.reduceLeDiff, Nat.reduceAdd, Nat.reduceSub, Nat.reduceMul, Nat.reducePow, Nat.reduceDiv, Nat.reduceMod, evIndexAddr, TD.agg, evFieldAddr, ty2, fn21, t1, tr, ts, tu, tv])
      | refine wp_condT rfl ?_ | refine wp_condF rfl ?_)
    refine wp_if rfl (fun y0 => ?_) (fun y0 => ?_)
    · repeat (first
        | refine wp_seqQ ?_ | refine wp_blockQ ?_ | refine wp_scopeQ ?_
        | ((first | refine wp_skipQ ?_ | refine wp_labelQ ?_ | refine wp_exitQ ?_ | refine wp_retQ ?_); simp only [kQ, Nat.reduceEqDiff, reduceIte])
        | (refine wp_reg B ?_; simp (disch := omega) only [kW, Nat.reduceEqDiff, reduceIte, Nat.reduceLT, Nat.reduceLeDiff, Nat.reduceAdd, Nat.reduceSub, Nat.reduceMul, Nat.reducePow, Nat.reduceDiv, Nat.reduceMod, evIndexAddr, TD.agg, evFieldAddr, ty2, fn21, t1, tr, ts, tu, tv, ed, er])
        | refine wp_condT rfl ?_ | refine wp_condF rfl ?_)
      exact ⟨r, d1 (by omega), y, r, v, _, _, _, rfl, rfl, by rw [← hg, hi (by omega)], by omega, by omega, t1, rfl, rfl, rfl, rfl⟩
    · repeat (first
        | refine wp_seqQ ?_ | refine wp_blockQ ?_ | refine wp_scopeQ ?_
        | ((first | refine wp_skipQ ?_ | refine wp_labelQ ?_ | refine wp_exitQ ?_ | refine wp_retQ ?_); simp only [kQ, Nat.reduceEqDiff, reduceIte])
        | (refine wp_reg B ?_; simp (disch := omega) only [kW, Nat.reduceEqDiff, reduceIte, Nat.reduceLT, Nat.reduceLeDiff, Nat.reduceAdd, Nat.reduceSub, Nat.reduceMul, Nat.reducePow, Nat.reduceDiv, Nat.reduceMod, evIndexAddr, TD.agg, evFieldAddr, ty2, fn21, t1, tr, ts, tu, tv, E21_ans])
        | refine wp_condT rfl ?_ | refine wp_condF rfl ?_)
      simp (disch := omega) only [kS, Nat.reduceEqDiff, reduceIte, Nat.reduceLT, Nat.reduceLeDiff, Nat.reduceAdd, Nat.reduceSub, Nat.reduceMul, Nat.reducePow, Nat.reduceDiv, Nat.reduceMod, evIndexAddr, TD.agg, evFieldAddr, ty2, fn21]
      obtain rfl : y = 0 := by omega
      rw [← hg, inv_zero]
end Go.Proofs.YtkgejfokdmdikaaGreat.Iv
end
section
set_option maxHeartbeats 4000000
set_option linter.unusedVariables false
set_option linter.unusedSimpArgs false
set_option maxRecDepth 10000
namespace Go.Proofs.YtkgejfokdmdikaaGreat.Iv
open Go Go.Iv Go.RowKit Go.Proofs.YtkgejfokdmdikaaGreat.Nv
open Dg (bl)
theorem fwrap_u64 {z : Int} (h1 : 0 ≤ z) (h2 : z < 18446744073709551616) : fwrap .u64 z = z := by
  rw [fwrap_eq, IntKind.wrap_u64]; omega
theorem dcell_one (x : Nat) : AV.one (dcell x) = true := rfl
theorem dg0 : Dg.dg 0 = [] := Dg.dg_zero
theorem dg1 {n : Nat} (h0 : 0 < n) (h1 : n < 4294967296) : Dg.dg n = [n] := by
  rw [Dg.dg_pos (by omega), Nat.mod_eq_of_lt h1, Nat.div_eq_of_lt h1, dg0]
theorem dg2 {n : Nat} (h0 : 4294967296 ≤ n) (h1 : n < 18446744073709551616) : Dg.dg n = [n % 4294967296, n / 4294967296] := by
  rw [Dg.dg_pos (by omega), dg1 (by omega) (by omega)]
theorem or_words (a b : Nat) (ha : a < 4294967296) (hb : b < 4294967296) : iop .or .u64 ((b : Int) * 4294967296) (a : Int) = some (.int .u64 ((b * 4294967296 + a : Nat) : Int)) := by
  simp only [iop]
  congr 1
  congr 1
  rw [show ((b : Int) * 4294967296) = ((b * 4294967296 : Nat) : Int) by omega]
  rw [show IntKind.u64.bits = 64 from rfl, BitVec.ofInt_natCast, BitVec.ofInt_natCast, BitVec.toNat_or, BitVec.toNat_ofNat, BitVec.toNat_ofNat, Nat.mod_eq_of_lt (show b * 4294967296 < 2 ^ 64 by omega), Nat.mod_eq_of_lt (show a < 2 ^ 64 by omega)]
  have : b * 4294967296 ||| a = b * 4294967296 + a := by
    have := Nat.shiftLeft_add_eq_or_of_lt (i := 32) (b := a) (by omega) b
    rw [Nat.shiftLeft_eq] at this
    exact this.symm
  rw [this, ← fwrap_eq, fwrap_u64 (by omega) (by omega)]
theorem Uint64_sem (n : Nat) (hn : n < 18446744073709551616) (h : Hp) : SemCall Tryz.prog 34 [.agg [nav n]] h (.ret (.tuple [.flat (.int .u64 (n : Int)), .flat (.bool true)])) h := by
  refine sem_pure tables.ok Tryz.func34 rfl rfl rfl rfl (by simp [pureL, AV.pure, nav_pure]) rfl ?_ h
  have B := base0
  rcases (show n = 0 ∨ (0 < n ∧ n < 4294967296) ∨ 4294967296 ≤ n by omega) with rfl | ⟨h1, h2⟩ | h1
  · simp only [nav, dgs, dg0, List.map_nil, List.length_nil]
    unfold Tryz.f34 bodyOf entry; simp only [Option.getD_some, List.length_cons, List.length_nil, Nat.reduceAdd, Nat.reduceSub]
    repeat (first
      | refine wp_seqQ ?_ | refine wp_blockQ ?_ | refine wp_scopeQ ?_
      | ((first | refine wp_skipQ ?_ | refine wp_labelQ ?_ | refine wp_exitQ ?_ | refine wp_retQ ?_); simp only [kQ, Nat.reduceEqDiff, reduceIte])
      | ((first | refine wp_dreg B (id := 7) [0, 1, 3, 7, 15, 31, 0, 64, 192, 448, 960, 2047, 4095, 8191] (by kernel_rfl) ?_ | refine wp_reg B ?_); simp (disch := omega) only [kW, kG, Nat.reduceEqDiff, reduceIte, Nat.reduceLT, Nat.reduceLeDiff, Nat.reduceAdd, Nat.reduceSub, Nat.reduceMul, Nat.reducePow, Nat.reduceDiv, Nat.reduceMod, evIndexAddr, TD.agg, evFieldAddr, ty3, ty29, ty31, ty62, ty77, ty92])
      | refine wp_condT rfl ?_ | refine wp_condF rfl ?_)
    simp (disch := omega) only [kS, Nat.reduceEqDiff, reduceIte, Nat.reduceLT, Nat.reduceLeDiff, Nat.reduceAdd, Nat.reduceSub, Nat.reduceMul, Nat.reducePow, Nat.reduceDiv, Nat.reduceMod, evIndexAddr, TD.agg, evFieldAddr, ty3, ty29, ty31, ty62, ty77, ty92]
    rfl
  · simp only [nav, dgs, dg1 h1 h2, List.map_cons, List.map_nil, List.length_cons, List.length_nil]
    unfold Tryz.f34 bodyOf entry; simp only [Option.getD_some, List.length_cons, List.length_nil, Nat.reduceAdd, Nat.reduceSub]
    repeat (first
      | refine wp_seqQ ?_ | refine wp_blockQ ?_ | refine wp_scopeQ ?_
      | ((first | refine wp_skipQ ?_ | refine wp_labelQ ?_ | refine wp_exitQ ?_ | refine wp_retQ ?_); simp only [kQ, Nat.reduceEqDiff, reduceIte])
      | ((first | refine wp_dreg B (id := 7) [0, 1, 3, 7, 15, 31, 0, 64, 192, 448, 960, 2047, 4095, 8191] (by kernel_rfl) ?_ | refine wp_reg B ?_); simp (disch := omega) only [kW, kG, Nat.reduceEqDiff, reduceIte, Nat.reduceLT, Nat.reduceLeDiff, Nat.reduceAdd, Nat.reduceSub, Nat.reduceMul, Nat.reducePow, Nat.reduceDiv, Nat.reduceMod, evIndexAddr, TD.agg, evFieldAddr, ty3, ty29, ty31, ty62, ty77, ty92, dcell, dcell_one, fwrap_u64, inRange])
      | refine wp_condT rfl ?_ | refine wp_condF rfl ?_)
    simp (disch := omega) only [kS, Nat.reduceEqDiff, reduceIte, Nat.reduceLT, Nat.reduceLeDiff, Nat.reduceAdd, Nat.reduceSub, Nat.reduceMul, Nat.reducePow, Nat.reduceDiv, Nat.reduceMod, evIndexAddr, TD.agg, evFieldAddr, ty3, ty29, ty31, ty62, ty77, ty92]
  · simp only [nav, dgs, dg2 h1 hn, List.map_cons, List.map_nil, List.length_cons, List.length_nil]
    unfold Tryz.f34 bodyOf entry; simp only [Option.getD_some, List.length_cons, List.length_nil, Nat.reduceAdd, Nat.reduceSub]
    repeat (first
      | refine wp_seqQ ?_ | refine wp_blockQ ?_ | refine wp_scopeQ ?_
      | ((first | refine wp_skipQ ?_ | refine wp_labelQ ?_ | refine wp_exitQ ?_ | refine wp_retQ ?_); simp only [kQ, Nat.reduceEqDiff, reduceIte])
      | ((first | refine wp_dreg B (id := 7) [0, 1, 3, 7, 15, 31, 0, 64, 192, 448, 960, 2047, 4095, 8191] (by kernel_rfl) ?_ | refine wp_reg B ?_); simp (disch := omega) only [kW, kG, Nat.reduceEqDiff, reduceIte, Nat.reduceLT, Nat.reduceLeDiff, Nat.reduceAdd, Nat.reduceSub, Nat.reduceMul, Nat.reducePow, Nat.reduceDiv, Nat.reduceMod, evIndexAddr, TD.agg, evFieldAddr, ty3, ty29, ty31, ty62, ty77, ty92, dcell, dcell_one, fwrap_u64, inRange])
      | refine wp_condT rfl ?_ | refine wp_condF rfl ?_)
    simp (disch := omega) only [kS, Nat.reduceEqDiff, reduceIte, Nat.reduceLT, Nat.reduceLeDiff, Nat.reduceAdd, Nat.reduceSub, Nat.reduceMul, Nat.reducePow, Nat.reduceDiv, Nat.reduceMod, evIndexAddr, TD.agg, evFieldAddr, ty3, ty29, ty31, ty62, ty77, ty92]
    have hw := or_words (n % 4294967296) (n / 4294967296) (by omega) (by omega)
    simp only [iop, Option.some.injEq, Value.int.injEq, true_and] at hw
    have e1 : ((2 ^ (if Int.toNat 32 ≤ IntKind.u64.bits then Int.toNat 32 else IntKind.u64.bits) : Nat) : Int) = 4294967296 := rfl
    have e2 : n / 4294967296 < 4294967296 := by omega
    rw [e1, fwrap_u64 (by omega) (by omega), hw, show n / 4294967296 * 4294967296 + n % 4294967296 = n by omega]
noncomputable def EnU64 : Entry Tryz.prog := ⟨34, fun args h e h' => h' = h ∧ ∃ (n : Nat), args = [.agg [nav n]] ∧ (n < 18446744073709551616) ∧ e = .ret (.tuple [.flat (.int .u64 (n : Int)), .flat (.bool true)]), by
  rintro args h e h' ⟨rfl, n, rfl, h1, rfl⟩
  exact ⟨Uint64_sem n h1 _, Hp.Le.refl _⟩⟩
theorem EnU64_ans (n : Nat) (h : Hp) (h1 : n < 18446744073709551616) : EnU64.ans [.agg [nav n]] h = some (.ret (.tuple [.flat (.int .u64 (n : Int)), .flat (.bool true)]), h) :=
  Entry.one ⟨rfl, n, rfl, h1, rfl⟩ fun e h' ⟨hh, n', ha, _, he⟩ => by simp only [kI, nav_eq, zav_eq] at ha; subst ha; exact ⟨he, hh⟩
theorem Int64_sem (z : Int) (h1 : -9223372036854775808 < z) (h2 : z < 9223372036854775808) (h : Hp) : SemCall Tryz.prog 12 [zav z] h (.ret (.tuple [.flat (.int .i64 z), .flat (.bool true)])) h := by
  refine sem_pure tables.ok Tryz.func12 rfl rfl rfl rfl (by simp [pureL, zav_pure]) rfl ?_ h
  have B : Base Tryz.prog tab _ := tabL_base [EnU64] tables.ok mixed
  generalize hL : tabL [EnU64] = call at B
  have c_EnU64 : ∀ a h, call 34 a h = EnU64.ans a h := fun _ _ => hL ▸ rfl
  clear hL
  unfold Tryz.f12 bodyOf entry; simp only [Option.getD_some, List.length_cons, List.length_nil, Nat.reduceAdd, Nat.reduceSub]
  repeat (first
    | refine wp_seqQ ?_ | refine wp_blockQ ?_ | refine wp_scopeQ ?_
    | ((first | refine wp_skipQ ?_ | refine wp_labelQ ?_ | refine wp_exitQ ?_ | refine wp_retQ ?_); simp only [kQ, Nat.reduceEqDiff, reduceIte])
    | (refine wp_reg B ?_; simp (disch := omega) only [kW, Nat.reduceEqDiff, reduceIte, Nat.reduceLT, Nat.reduceLeDiff, Nat.reduceAdd, Nat.reduceSub, Nat.reduceMul, Nat.reducePow, Nat.reduceDiv, Nat.reduceMod, evIndexAddr, TD.agg, evFieldAddr, binA_eqB ty4, binA_neB ty4, ty2, ty4, ty29, ty31, ty33, ty62, ty92, fn34, c_EnU64, EnU64_ans, zav_cells, nav_one, nav_clean, zav_fold])
    | refine wp_condT rfl ?_ | refine wp_condF rfl ?_)
  refine wp_if (p := z < 0) rfl (fun hz => ?_) (fun hz => ?_)
  · have e1 : fwrap .i64 (fwrap .u64 (0 - (z.natAbs : Int))) = z := by
      rw [fwrap_eq, fwrap_eq, IntKind.wrap_u64, IntKind.wrap_i64]; omega
    repeat (first
      | refine wp_seqQ ?_ | refine wp_blockQ ?_ | refine wp_scopeQ ?_
      | ((first | refine wp_skipQ ?_ | refine wp_labelQ ?_ | refine wp_exitQ ?_ | refine wp_retQ ?_); simp only [kQ, Nat.reduceEqDiff, reduceIte])
      | (refine wp_reg B ?_; simp (disch := omega) only [kW, Nat.reduceEqDiff, reduceIte, Nat.reduceLT, Nat.reduceLeDiff, Nat.reduceAdd, Nat.reduceSub, Nat.reduceMul, Nat.reducePow, Nat.reduceDiv, Nat.reduceMod, evIndexAddr, TD.agg, evFieldAddr, binA_eqB ty4, binA_neB ty4, ty2, ty4, ty29, ty31, ty33, ty62, ty92, fn34, c_EnU64, EnU64_ans, e1])
      | refine wp_condT rfl ?_ | refine wp_condF rfl ?_)
    simp (disch := omega) only [kS, Nat.reduceEqDiff, reduceIte, Nat.reduceLT, Nat.reduceLeDiff, Nat.reduceAdd, Nat.reduceSub, Nat.reduceMul, Nat.reducePow, Nat.reduceDiv, Nat.reduceMod, evIndexAddr, TD.agg, evFieldAddr, binA_eqB ty4, binA_neB ty4, ty2, ty4, ty29, ty31, ty33, ty62, ty92, fn34, c_EnU64, EnU64_ans]
  · have e1 : (z.natAbs : Int) = z := by omega
    repeat (first
      | refine wp_seqQ ?_ | refine wp_blockQ ?_ | refine wp_scopeQ ?_
      | ((first | refine wp_skipQ ?_ | refine wp_labelQ ?_ | refine wp_exitQ ?_ | refine wp_retQ ?_); simp only [kQ, Nat.reduceEqDiff, reduceIte])
      | (refine wp_reg B ?_; simp (disch := omega) only [kW, Nat.reduceEqDiff, reduceIte, Nat.reduceLT, Nat.reduceLeDiff, Nat.reduceAdd, Nat.reduceSub, Nat.reduceMul, Nat.reducePow, Nat.reduceDiv, Nat.reduceMod, evIndexAddr, TD.agg, evFieldAddr, binA_eqB ty4, binA_neB ty4, ty2, ty4, ty29, ty31, ty33, ty62, ty92, fn34, c_EnU64, EnU64_ans, e1])
      | refine wp_condT rfl ?_ | refine wp_condF rfl ?_)
    simp (disch := omega) only [kS, Nat.reduceEqDiff, reduceIte, Nat.reduceLT, Nat.reduceLeDiff, Nat.reduceAdd, Nat.reduceSub, Nat.reduceMul, Nat.reducePow, Nat.reduceDiv, Nat.reduceMod, evIndexAddr, TD.agg, evFieldAddr, binA_eqB ty4, binA_neB ty4, ty2, ty4, ty29, ty31, ty33, ty62, ty92, fn34, c_EnU64, EnU64_ans]
noncomputable def EzInt64 : Entry Tryz.prog := ⟨12, fun args h e h' => h' = h ∧ ∃ (z : Int), args = [zav z] ∧ (-9223372036854775808 < z) ∧ (z < 9223372036854775808) ∧ e = .ret (.tuple [.flat (.int .i64 z), .flat (.bool true)]), by
  rintro args h e h' ⟨rfl, z, rfl, h1, h2, rfl⟩
  exact ⟨Int64_sem z h1 h2 _, Hp.Le.refl _⟩⟩
theorem EzInt64_ans (z : Int) (h : Hp) (h1 : -9223372036854775808 < z) (h2 : z < 9223372036854775808) : EzInt64.ans [zav z] h = some (.ret (.tuple [.flat (.int .i64 z), .flat (.bool true)]), h) :=
  Entry.one ⟨rfl, z, rfl, h1, h2, rfl⟩ fun e h' ⟨hh, z', ha, _, _, he⟩ => by simp only [kI, nav_eq, zav_eq] at ha; subst ha; exact ⟨he, hh⟩
def inR (a b : Int) : Prop := (-4611686018427387904 ≤ a ∧ a ≤ 4611686018427387904) ∧ -4611686018427387904 ≤ b ∧ b ≤ 4611686018427387904
open Classical in
noncomputable def gcdOut (a b : Int) : AV := if inR a b then .tuple [.flat (.int .i64 (Int.gcd a b : Nat)), .flat (.int .i64 (gX a b)), .flat (.int .i64 (gY a b))] else .tuple [.flat (.int .i64 0), .flat (.int .i64 0), .flat (.int .i64 0)]
theorem gcdOut_pure (a b : Int) : (gcdOut a b).pure = true := by
  unfold gcdOut; split <;> rfl
theorem Gcd_sem (a b : Int) (h : Hp) : SemCall Tryz.prog 4 [.flat (.int .i64 a), .flat (.int .i64 b)] h (.ret (gcdOut a b)) h := by
  refine sem_pure tables.ok Tryz.func4 rfl rfl rfl rfl rfl (gcdOut_pure a b) ?_ h
  have B : Base Tryz.prog tab _ := tabL_base [EzOf, EzGcd, EzMake, EzInt64] tables.ok mixed
  generalize hL : tabL [EzOf, EzGcd, EzMake, EzInt64] = call at B
  have c_EzOf : ∀ a h, call 10 a h = EzOf.ans a h := fun _ _ => hL ▸ rfl
  have c_EzGcd : ∀ a h, call 9 a h = EzGcd.ans a h := fun _ _ => hL ▸ rfl
  have c_EzMake : ∀ a h, call 11 a h = EzMake.ans a h := fun _ _ => hL ▸ rfl
  have c_EzInt64 : ∀ a h, call 12 a h = EzInt64.ans a h := fun _ _ => hL ▸ rfl
  clear hL
  by_cases hR : inR a b
  · rw [gcdOut, if_pos hR]
    unfold inR at hR
    obtain ⟨⟨r1, r2⟩, r3, r4⟩ := hR
    obtain ⟨g1, g2, g3⟩ := gcd_bd a b (by omega) (by omega)
    have b1 := bl63 (n := a.natAbs) (by omega)
    have b2 := bl63 (n := b.natAbs) (by omega)
    have b3 := bl63 (n := Int.gcd a b) (by omega)
    unfold Tryz.f4 bodyOf entry; simp only [Option.getD_some, List.length_cons, List.length_nil, Nat.reduceAdd, Nat.reduceSub]
    have k1 : ∀ h, EzMake.ans [.flat (.bool false), .agg [nav (Int.gcd a b)]] h = some (.ret (zav ((Int.gcd a b : Nat) : Int)), h) := fun h => EzMake_ans false (Int.gcd a b) h (by omega)
    repeat (first
      | refine wp_seqQ ?_ | refine wp_blockQ ?_ | refine wp_scopeQ ?_
      | ((first | refine wp_skipQ ?_ | refine wp_labelQ ?_ | refine wp_exitQ ?_ | refine wp_retQ ?_); simp only [kQ, Nat.reduceEqDiff, reduceIte])
      | (refine wp_reg B ?_; simp (disch := omega) only [kW, Nat.reduceEqDiff, reduceIte, Nat.reduceLT, Nat.reduceLeDiff, Nat.reduceAdd, Nat.reduceSub, Nat.reduceMul, Nat.reducePow, Nat.reduceDiv, Nat.reduceMod, evIndexAddr, TD.agg, evFieldAddr, binA_eqB ty4, binA_neB ty4, ty2, ty4, ty29, ty31, ty33, ty92, fn10, fn9, fn11, fn12, c_EzOf, EzOf_ans, c_EzGcd, EzGcd_ans, c_EzMake, EzMake_ans, c_EzInt64, EzInt64_ans, k1, zav_cells, nav_one, nav_clean, zav_fold])
      | refine wp_condT rfl ?_ | refine wp_condF rfl ?_)
    simp (disch := omega) only [kS, Nat.reduceEqDiff, reduceIte, Nat.reduceLT, Nat.reduceLeDiff, Nat.reduceAdd, Nat.reduceSub, Nat.reduceMul, Nat.reducePow, Nat.reduceDiv, Nat.reduceMod, evIndexAddr, TD.agg, evFieldAddr, binA_eqB ty4, binA_neB ty4, ty2, ty4, ty29, ty31, ty33, ty92, fn10, fn9, fn11, fn12, c_EzOf, EzOf_ans, c_EzGcd, EzGcd_ans, c_EzMake, EzMake_ans, c_EzInt64, EzInt64_ans]
  · rw [gcdOut, if_neg hR]
    unfold inR at hR
    unfold Tryz.f4 bodyOf entry; simp only [Option.getD_some, List.length_cons, List.length_nil, Nat.reduceAdd, Nat.reduceSub]
    by_cases hm : 4611686018427387904 < max a b
    · repeat (first
        | refine wp_seqQ ?_ | refine wp_blockQ ?_ | refine wp_scopeQ ?_
        | ((first | refine wp_skipQ ?_ | refine wp_labelQ ?_ | refine wp_exitQ ?_ | refine wp_retQ ?_); simp only [kQ, Nat.reduceEqDiff, reduceIte])
        | (refine wp_reg B ?_; simp (disch := omega) only [kW, Nat.reduceEqDiff, reduceIte, Nat.reduceLT, Nat.reduceLeDiff, Nat.reduceAdd, Nat.reduceSub, Nat.reduceMul, Nat.reducePow, Nat.reduceDiv, Nat.reduceMod, evIndexAddr, TD.agg, evFieldAddr, binA_eqB ty4, binA_neB ty4, ty2, ty4, ty29, ty31, ty33, ty92, fn10, fn9, fn11, fn12, c_EzOf, EzOf_ans, c_EzGcd, EzGcd_ans, c_EzMake, EzMake_ans, c_EzInt64, EzInt64_ans])
        | refine wp_condT rfl ?_ | refine wp_condF rfl ?_)
      simp (disch := omega) only [kS, Nat.reduceEqDiff, reduceIte, Nat.reduceLT, Nat.reduceLeDiff, Nat.reduceAdd, Nat.reduceSub, Nat.reduceMul, Nat.reducePow, Nat.reduceDiv, Nat.reduceMod, evIndexAddr, TD.agg, evFieldAddr, binA_eqB ty4, binA_neB ty4, ty2, ty4, ty29, ty31, ty33, ty92, fn10, fn9, fn11, fn12, c_EzOf, EzOf_ans, c_EzGcd, EzGcd_ans, c_EzMake, EzMake_ans, c_EzInt64, EzInt64_ans]
    · repeat (first
        | refine wp_seqQ ?_ | refine wp_blockQ ?_ | refine wp_scopeQ ?_
        | ((first | refine wp_skipQ ?_ | refine wp_labelQ ?_ | refine wp_exitQ ?_ | refine wp_retQ ?_); simp only [kQ, Nat.reduceEqDiff, reduceIte])
        | (refine wp_reg B ?_; simp (disch := omega) only [kW, Nat.reduceEqDiff, reduceIte, Nat.reduceLT, Nat.reduceLeDiff, Nat.reduceAdd, Nat.reduceSub, Nat.reduceMul, Nat.reducePow, Nat.reduceDiv, Nat.reduceMod, evIndexAddr, TD.agg, evFieldAddr, binA_eqB ty4, binA_neB ty4, ty2, ty4, ty29, ty31, ty33, ty92, fn10, fn9, fn11, fn12, c_EzOf, EzOf_ans, c_EzGcd, EzGcd_ans, c_EzMake, EzMake_ans, c_EzInt64, EzInt64_ans])
        | refine wp_condT rfl ?_ | refine wp_condF rfl ?_)
      simp (disch := omega) only [kS, Nat.reduceEqDiff, reduceIte, Nat.reduceLT, Nat.reduceLeDiff, Nat.reduceAdd, Nat.reduceSub, Nat.reduceMul, Nat.reducePow, Nat.reduceDiv, Nat.reduceMod, evIndexAddr, TD.agg, evFieldAddr, binA_eqB ty4, binA_neB ty4, ty2, ty4, ty29, ty31, ty33, ty92, fn10, fn9, fn11, fn12, c_EzOf, EzOf_ans, c_EzGcd, EzGcd_ans, c_EzMake, EzMake_ans, c_EzInt64, EzInt64_ans]
end Go.Proofs.YtkgejfokdmdikaaGreat.Iv
end
section
set_option maxHeartbeats 4000000
set_option linter.unusedVariables false
set_option linter.unusedSimpArgs false
set_option maxRecDepth 10000
namespace Go.Proofs.YtkgejfokdmdikaaGreat.Iv
open Go Go.Iv Go.RowKit Go.Proofs.YtkgejfokdmdikaaGreat.Nv
open Dg (bl Cof)
theorem rGcd_sem0 (a : Int) (ha : a.natAbs ≤ 4611686018427387904) (h : Hp) : SemCall Tryz.prog 13 [rzav a, rzav 0] h (.ret (.tuple [rnav a.natAbs, rzav (gX a 0), .agg [.flat (.bool false), nilA]])) h := by
  have b1 := bl63 (n := a.natAbs) (by omega)
  have b2 := bl63 (n := (0 : Int).natAbs) (by omega)
  refine sem_pure tables.ok Tryz.func13 rfl rfl rfl rfl (by simp [pureL, rzav_pure]) (by simp [AV.pure, pureL, rzav_pure, rnav_pure, nilA]) ?_ h
  have B : Base Tryz.prog tab _ := tabL_base [ErOf, ErZero, ErSign, EsGcd, ErMake, ErQuo, ErTurned, ErMul, ErSub] tables.ok mixed
  generalize hL : tabL [ErOf, ErZero, ErSign, EsGcd, ErMake, ErQuo, ErTurned, ErMul, ErSub] = call at B
  have c_ErOf : ∀ a h, call 14 a h = ErOf.ans a h := fun _ _ => hL ▸ rfl
  have c_ErZero : ∀ a h, call 35 a h = ErZero.ans a h := fun _ _ => hL ▸ rfl
  have c_ErSign : ∀ a h, call 36 a h = ErSign.ans a h := fun _ _ => hL ▸ rfl
  have c_EsGcd : ∀ a h, call 37 a h = EsGcd.ans a h := fun _ _ => hL ▸ rfl
  have c_ErMake : ∀ a h, call 16 a h = ErMake.ans a h := fun _ _ => hL ▸ rfl
  have c_ErQuo : ∀ a h, call 38 a h = ErQuo.ans a h := fun _ _ => hL ▸ rfl
  have c_ErTurned : ∀ a h, call 39 a h = ErTurned.ans a h := fun _ _ => hL ▸ rfl
  have c_ErMul : ∀ a h, call 41 a h = ErMul.ans a h := fun _ _ => hL ▸ rfl
  have c_ErSub : ∀ a h, call 40 a h = ErSub.ans a h := fun _ _ => hL ▸ rfl
  clear hL
  simp only [gX, if_true]
  unfold Tryz.f13 bodyOf entry; simp only [Option.getD_some, List.length_cons, List.length_nil, Nat.reduceAdd, Nat.reduceSub]
  repeat (first
    | refine wp_seqQ ?_ | refine wp_blockQ ?_ | refine wp_scopeQ ?_
    | ((first | refine wp_skipQ ?_ | refine wp_labelQ ?_ | refine wp_exitQ ?_ | refine wp_retQ ?_); simp only [kQ, Nat.reduceEqDiff, reduceIte])
    | ((first | refine wp_dreg B (id := 2) [0, 1, 0, 4, 12, 0, 31, 95, 255] (by kernel_rfl) ?_ | refine wp_dreg B (id := 5) [0, 1, 3, 0, 15, 31, 63, 63, 0, 0, 895, 2047] (by kernel_rfl) ?_ | refine wp_dreg B (id := 8) [0, 0, 0, 6, 15, 0, 63, 127, 255, 255, 0, 0, 3583, 8191] (by kernel_rfl) ?_ | refine wp_dreg B (id := 9) [0, 0, 0, 1, 11, 31] (by kernel_rfl) ?_ | refine wp_reg B ?_); simp (disch := omega) only [kW, kG, Nat.reduceEqDiff, reduceIte, Nat.reduceLT, Nat.reduceLeDiff, Nat.reduceAdd, Nat.reduceSub, Nat.reduceMul, Nat.reducePow, Nat.reduceDiv, Nat.reduceMod, evIndexAddr, TD.agg, evFieldAddr, binA_eqB ty4, binA_neB ty4, ty2, ty4, ty40, ty42, ty92, fn35, fn36, fn14, fn37, fn16, fn38, fn39, fn41, fn40, c_ErOf, ErOf_ans, c_ErZero, ErZero_ans, c_ErSign, ErSign_ans, c_EsGcd, EsGcd_ans, c_ErMake, ErMake_ans, c_ErQuo, ErQuo_ans, c_ErTurned, ErTurned_ans, c_ErMul, ErMul_ans, c_ErSub, ErSub_ans, rzav_cells, rzav_fold, rnav_one, rnav_clean])
    | refine wp_condT rfl ?_ | refine wp_condF rfl ?_)
  simp (disch := omega) only [kS, Nat.reduceEqDiff, reduceIte, Nat.reduceLT, Nat.reduceLeDiff, Nat.reduceAdd, Nat.reduceSub, Nat.reduceMul, Nat.reducePow, Nat.reduceDiv, Nat.reduceMod, evIndexAddr, TD.agg, evFieldAddr, binA_eqB ty4, binA_neB ty4, ty2, ty4, ty40, ty42, ty92, fn35, fn36, fn14, fn37, fn16, fn38, fn39, fn41, fn40, c_ErOf, ErOf_ans, c_ErZero, ErZero_ans, c_ErSign, ErSign_ans, c_EsGcd, EsGcd_ans, c_ErMake, ErMake_ans, c_ErQuo, ErQuo_ans, c_ErTurned, ErTurned_ans, c_ErMul, ErMul_ans, c_ErSub, ErSub_ans, nilA, rzav, rzm]
theorem rGcd_sem1 (a b : Int) (ha : a.natAbs ≤ 4611686018427387904) (hb : b.natAbs ≤ 4611686018427387904) (b0 : b ≠ 0) (h : Hp) : SemCall Tryz.prog 13 [rzav a, rzav b] h (.ret (.tuple [rnav (Int.gcd a b), rzav (gX a b), rzav (gY a b)])) h := by
  obtain ⟨g1, g2, g3⟩ := gcd_bd a b ha hb
  have b1 := bl63 (n := a.natAbs) (by omega)
  have b2 := bl63 (n := b.natAbs) (by omega)
  have b3 := bl63 (n := Int.gcd a b) (by omega)
  refine sem_pure tables.ok Tryz.func13 rfl rfl rfl rfl (by simp [pureL, rzav_pure]) (by simp [AV.pure, pureL, rzav_pure, rnav_pure]) ?_ h
  have B : Base Tryz.prog tab _ := tabL_base [ErOf, ErZero, ErSign, EsGcd, ErMake, ErQuo, ErTurned, ErMul, ErSub] tables.ok mixed
  generalize hL : tabL [ErOf, ErZero, ErSign, EsGcd, ErMake, ErQuo, ErTurned, ErMul, ErSub] = call at B
  have c_ErOf : ∀ a h, call 14 a h = ErOf.ans a h := fun _ _ => hL ▸ rfl
  have c_ErZero : ∀ a h, call 35 a h = ErZero.ans a h := fun _ _ => hL ▸ rfl
  have c_ErSign : ∀ a h, call 36 a h = ErSign.ans a h := fun _ _ => hL ▸ rfl
  have c_EsGcd : ∀ a h, call 37 a h = EsGcd.ans a h := fun _ _ => hL ▸ rfl
  have c_ErMake : ∀ a h, call 16 a h = ErMake.ans a h := fun _ _ => hL ▸ rfl
  have c_ErQuo : ∀ a h, call 38 a h = ErQuo.ans a h := fun _ _ => hL ▸ rfl
  have c_ErTurned : ∀ a h, call 39 a h = ErTurned.ans a h := fun _ _ => hL ▸ rfl
  have c_ErMul : ∀ a h, call 41 a h = ErMul.ans a h := fun _ _ => hL ▸ rfl
  have c_ErSub : ∀ a h, call 40 a h = ErSub.ans a h := fun _ _ => hL ▸ rfl
  clear hL
  have k1 : ∀ h, EsGcd.ans [rzm a, rzm b] h = some (.ret (rnav (Int.gcd a b)), h) := fun h => EsGcd_ans a.natAbs b.natAbs h (by omega) (by omega)
  have k2 : ∀ h, ErMake.ans [.flat (.bool false), rzm b] h = some (.ret (rzav (b.natAbs : Int)), h) := fun h => ErMake_ans false b.natAbs h (by omega)
  have k9 : ∀ h, ErMake.ans [.flat (.bool false), rnav (Int.gcd a b)] h = some (.ret (rzav ((Int.gcd a b : Nat) : Int)), h) := fun h => ErMake_ans false (Int.gcd a b) h (by omega)
  have k := GcdK.mk' a b b0
  obtain ⟨x0, x1, xe, yb⟩ := cof_ex k.m0 k.g1
  have gz : ((Int.gcd a b : Nat) : Int) ≠ 0 := by have := k.g0; omega
  have l1 := k.lc
  have l2 := k.lm
  have k3 : ∀ h, ErQuo.ans [rzav (b.natAbs : Int), rzav ((Int.gcd a b : Nat) : Int)] h = some (.ret (.tuple [rzav ((b.natAbs : Int) / ((Int.gcd a b : Nat) : Int)), rzav ((b.natAbs : Int) % ((Int.gcd a b : Nat) : Int))]), h) := fun h => ErQuo_ans _ _ h (by rw [Int.natAbs_natCast]; omega) (by rw [Int.natAbs_natCast]; omega) gz
  have k4 : ∀ h, ErQuo.ans [rzav a, rzav ((Int.gcd a b : Nat) : Int)] h = some (.ret (.tuple [rzav (a / ((Int.gcd a b : Nat) : Int)), rzav (a % ((Int.gcd a b : Nat) : Int))]), h) := fun h => ErQuo_ans _ _ h (by omega) (by rw [Int.natAbs_natCast]; omega) gz
  have bc := bl63 (n := (a / ((Int.gcd a b : Nat) : Int)).natAbs) (by omega)
  have bm := bl63 (n := ((b.natAbs : Int) / ((Int.gcd a b : Nat) : Int)).natAbs) (by omega)
  have k5 := fun h => ErTurned_ans _ _ h (by omega : bl (a / ((Int.gcd a b : Nat) : Int)).natAbs ≤ 1000) (by omega : bl ((b.natAbs : Int) / ((Int.gcd a b : Nat) : Int)).natAbs ≤ 1000) k.m0 k.g1
  have ea := Int.mul_ediv_cancel' (Int.dvd_of_emod_eq_zero k.da)
  have eb := Int.mul_ediv_cancel' (Int.dvd_of_emod_eq_zero k.db)
  have ry := ry_law b0 ea eb xe
  generalize hc : a / ((Int.gcd a b : Nat) : Int) = c at *
  generalize hm : (b.natAbs : Int) / ((Int.gcd a b : Nat) : Int) = m at *
  have bx := bl63 (n := (cofX c m).natAbs) (by omega)
  have bmul : bl (a * cofX c m).natAbs ≤ 126 := by
    rw [Int.natAbs_mul]
    exact Dg.bl_mulk b1 bx
  have bsub : bl (((Int.gcd a b : Nat) : Int) - a * cofX c m).natAbs ≤ 127 := by
    have e1 : a.natAbs * (cofX c m).natAbs ≤ 4611686018427387904 * 4611686018427387905 := Nat.mul_le_mul ha (by omega)
    rw [← Int.natAbs_mul] at e1
    refine Dg.bl_le.2 ?_
    simp only [Nat.reduceMul, Nat.reducePow] at e1 ⊢
    omega
  have k6 := fun h => ErMul_ans a (cofX c m) h (by omega) (by omega)
  have k7 := fun h => ErSub_ans ((Int.gcd a b : Nat) : Int) (a * cofX c m) h (by rw [Int.natAbs_natCast]; omega) (by omega)
  have k8 := fun h => ErQuo_ans (((Int.gcd a b : Nat) : Int) - a * cofX c m) b h (by omega) (by omega) b0
  rw [ry] at k8
  simp only [gX, gY, if_neg b0, hc, hm]
  clear ry xe x0 x1 yb
  unfold Tryz.f13 bodyOf entry; simp only [Option.getD_some, List.length_cons, List.length_nil, Nat.reduceAdd, Nat.reduceSub]
  repeat (first
    | refine wp_seqQ ?_ | refine wp_blockQ ?_ | refine wp_scopeQ ?_
    | ((first | refine wp_skipQ ?_ | refine wp_labelQ ?_ | refine wp_exitQ ?_ | refine wp_retQ ?_); simp only [kQ, Nat.reduceEqDiff, reduceIte])
    | ((first | refine wp_dreg B (id := 2) [0, 1, 0, 4, 12, 0, 31, 95, 255] (by kernel_rfl) ?_ | refine wp_dreg B (id := 5) [0, 1, 3, 0, 15, 31, 63, 63, 0, 0, 895, 2047] (by kernel_rfl) ?_ | refine wp_dreg B (id := 8) [0, 0, 0, 6, 15, 0, 63, 127, 255, 255, 0, 0, 3583, 8191] (by kernel_rfl) ?_ | refine wp_dreg B (id := 9) [0, 0, 0, 1, 11, 31] (by kernel_rfl) ?_ | refine wp_reg B ?_); simp (disch := omega) only [kW, kG, Nat.reduceEqDiff, reduceIte, Nat.reduceLT, Nat.reduceLeDiff, Nat.reduceAdd, Nat.reduceSub, Nat.reduceMul, Nat.reducePow, Nat.reduceDiv, Nat.reduceMod, evIndexAddr, TD.agg, evFieldAddr, binA_eqB ty4, binA_neB ty4, ty2, ty4, ty40, ty42, ty92, fn35, fn36, fn14, fn37, fn16, fn38, fn39, fn41, fn40, c_ErOf, ErOf_ans, c_ErZero, ErZero_ans, c_ErSign, ErSign_ans, c_EsGcd, EsGcd_ans, c_ErMake, ErMake_ans, c_ErQuo, ErQuo_ans, c_ErTurned, ErTurned_ans, c_ErMul, ErMul_ans, c_ErSub, ErSub_ans, k9, k1, k2, k3, k4, k5, k6, k7, k8, rzav_cells, rzav_fold, rnav_one, rnav_clean])
    | refine wp_condT rfl ?_ | refine wp_condF rfl ?_)
  simp (disch := omega) only [kS, Nat.reduceEqDiff, reduceIte, Nat.reduceLT, Nat.reduceLeDiff, Nat.reduceAdd, Nat.reduceSub, Nat.reduceMul, Nat.reducePow, Nat.reduceDiv, Nat.reduceMod, evIndexAddr, TD.agg, evFieldAddr, binA_eqB ty4, binA_neB ty4, ty2, ty4, ty40, ty42, ty92, fn35, fn36, fn14, fn37, fn16, fn38, fn39, fn41, fn40, c_ErOf, ErOf_ans, c_ErZero, ErZero_ans, c_ErSign, ErSign_ans, c_EsGcd, EsGcd_ans, c_ErMake, ErMake_ans, c_ErQuo, ErQuo_ans, c_ErTurned, ErTurned_ans, c_ErMul, ErMul_ans, c_ErSub, ErSub_ans, sgn, rzav_fold]
theorem rGcd_sem (a b : Int) (ha : a.natAbs ≤ 4611686018427387904) (hb : b.natAbs ≤ 4611686018427387904) (h : Hp) : SemCall Tryz.prog 13 [rzav a, rzav b] h (.ret (.tuple [rnav (Int.gcd a b), rzav (gX a b), rzav (gY a b)])) h := by
  by_cases b0 : b = 0
  · subst b0
    refine SemCall.weak (rGcd_sem0 a ha h) fun ρ x hx => ?_
    simp only [AV.rel] at hx
    obtain ⟨l, rfl, hl⟩ := hx
    obtain ⟨V1, l1, rfl, h1, hl1⟩ := relL_cons.1 hl
    obtain ⟨V2, l2, rfl, h2, hl2⟩ := relL_cons.1 hl1
    obtain ⟨V3, rfl, h3⟩ := relL1 hl2
    simp only [gY, if_true, Int.gcd_zero_right]
    simp only [AV.rel]
    refine rel_tuple3 h1 h2 (rzero_rel ρ V3 h3)
  · exact rGcd_sem1 a b ha hb b0 h
noncomputable def ErGcd : Entry Tryz.prog := ⟨13, fun args h e h' => h' = h ∧ ∃ (a b : Int), args = [rzav a, rzav b] ∧ (a.natAbs ≤ 4611686018427387904) ∧ (b.natAbs ≤ 4611686018427387904) ∧ e = .ret (.tuple [rnav (Int.gcd a b), rzav (gX a b), rzav (gY a b)]), by
  rintro args h e h' ⟨rfl, a, b, rfl, h1, h2, rfl⟩
  exact ⟨rGcd_sem a b h1 h2 _, Hp.Le.refl _⟩⟩
theorem ErGcd_ans (a b : Int) (h : Hp) (h1 : a.natAbs ≤ 4611686018427387904) (h2 : b.natAbs ≤ 4611686018427387904) : ErGcd.ans [rzav a, rzav b] h = some (.ret (.tuple [rnav (Int.gcd a b), rzav (gX a b), rzav (gY a b)]), h) :=
  Entry.one ⟨rfl, a, b, rfl, h1, h2, rfl⟩ fun e h' ⟨hh, a', b', ha, _, _, he⟩ => by simp only [kI, rnav_eq, rzav_eq] at ha; obtain ⟨rfl, rfl⟩ := ha; exact ⟨he, hh⟩
end Go.Proofs.YtkgejfokdmdikaaGreat.Iv
end
section
set_option maxHeartbeats 4000000
set_option linter.unusedVariables false
set_option linter.unusedSimpArgs false
set_option maxRecDepth 100000
namespace Go.Proofs.YtkgejfokdmdikaaGreat.Iv
open Go Go.Iv Go.RowKit Go.Proofs.YtkgejfokdmdikaaGreat.Nv Go.Proofs
open Dg (bl)
theorem refGcd_sem (a b : Int) (h : Hp) : SemCall Tryz.prog 5 [.flat (.int .i64 a), .flat (.int .i64 b)] h (.ret (gcdOut a b)) h := by
  refine sem_pure tables.ok Tryz.func5 rfl rfl rfl rfl rfl (gcdOut_pure a b) ?_ h
  have B : Base Tryz.prog tab _ := tabL_base [ErOf, ErGcd, ErMake, ErInt64] tables.ok mixed
  generalize hL : tabL [ErOf, ErGcd, ErMake, ErInt64] = call at B
  have c_ErOf : ∀ a h, call 14 a h = ErOf.ans a h := fun _ _ => hL ▸ rfl
  have c_ErGcd : ∀ a h, call 13 a h = ErGcd.ans a h := fun _ _ => hL ▸ rfl
  have c_ErMake : ∀ a h, call 16 a h = ErMake.ans a h := fun _ _ => hL ▸ rfl
  have c_ErInt64 : ∀ a h, call 15 a h = ErInt64.ans a h := fun _ _ => hL ▸ rfl
  clear hL
  by_cases hR : inR a b
  · rw [gcdOut, if_pos hR]
    unfold inR at hR
    obtain ⟨⟨r1, r2⟩, r3, r4⟩ := hR
    obtain ⟨g1, g2, g3⟩ := gcd_bd a b (by omega) (by omega)
    have b1 := bl63 (n := a.natAbs) (by omega)
    have b2 := bl63 (n := b.natAbs) (by omega)
    have b3 := bl63 (n := Int.gcd a b) (by omega)
    unfold Tryz.f5 bodyOf entry; simp only [Option.getD_some, List.length_cons, List.length_nil, Nat.reduceAdd, Nat.reduceSub]
    have k1 : ∀ h, ErMake.ans [.flat (.bool false), rnav (Int.gcd a b)] h = some (.ret (rzav ((Int.gcd a b : Nat) : Int)), h) := fun h => ErMake_ans false (Int.gcd a b) h (by omega)
    repeat (first
      | refine wp_seqQ ?_ | refine wp_blockQ ?_ | refine wp_scopeQ ?_
      | ((first | refine wp_skipQ ?_ | refine wp_labelQ ?_ | refine wp_exitQ ?_ | refine wp_retQ ?_); simp only [kQ, Nat.reduceEqDiff, reduceIte])
      | (refine wp_reg B ?_; simp (disch := omega) only [kW, Nat.reduceEqDiff, reduceIte, Nat.reduceLT, Nat.reduceLeDiff, Nat.reduceAdd, Nat.reduceSub, Nat.reduceMul, Nat.reducePow, Nat.reduceDiv, Nat.reduceMod, evIndexAddr, TD.agg, evFieldAddr, binA_eqB ty4, binA_neB ty4, ty2, ty4, ty40, ty42, ty92, fn14, fn13, fn16, fn15, c_ErOf, ErOf_ans, c_ErGcd, ErGcd_ans, c_ErMake, ErMake_ans, c_ErInt64, ErInt64_ans, k1, rzav_cells, rzav_fold, rnav_one, rnav_clean])
      | refine wp_condT rfl ?_ | refine wp_condF rfl ?_)
    simp (disch := omega) only [kS, Nat.reduceEqDiff, reduceIte, Nat.reduceLT, Nat.reduceLeDiff, Nat.reduceAdd, Nat.reduceSub, Nat.reduceMul, Nat.reducePow, Nat.reduceDiv, Nat.reduceMod, evIndexAddr, TD.agg, evFieldAddr, binA_eqB ty4, binA_neB ty4, ty2, ty4, ty40, ty42, ty92, fn14, fn13, fn16, fn15, c_ErOf, ErOf_ans, c_ErGcd, ErGcd_ans, c_ErMake, ErMake_ans, c_ErInt64, ErInt64_ans]
  · rw [gcdOut, if_neg hR]
    unfold inR at hR
    unfold Tryz.f5 bodyOf entry; simp only [Option.getD_some, List.length_cons, List.length_nil, Nat.reduceAdd, Nat.reduceSub]
    rcases (show a < -4611686018427387904 ∨ (-4611686018427387904 ≤ a ∧ 4611686018427387904 < a) ∨ (-4611686018427387904 ≤ a ∧ a ≤ 4611686018427387904 ∧ b < -4611686018427387904) ∨ (-4611686018427387904 ≤ a ∧ a ≤ 4611686018427387904 ∧ -4611686018427387904 ≤ b ∧ 4611686018427387904 < b) by omega) with r | ⟨r, r'⟩ | ⟨r, r', r2⟩ | ⟨r, r', r2, r3⟩
    · repeat (first
        | refine wp_seqQ ?_ | refine wp_blockQ ?_ | refine wp_scopeQ ?_
        | ((first | refine wp_skipQ ?_ | refine wp_labelQ ?_ | refine wp_exitQ ?_ | refine wp_retQ ?_); simp only [kQ, Nat.reduceEqDiff, reduceIte])
        | (refine wp_reg B ?_; simp (disch := omega) only [kW, Nat.reduceEqDiff, reduceIte, Nat.reduceLT, Nat.reduceLeDiff, Nat.reduceAdd, Nat.reduceSub, Nat.reduceMul, Nat.reducePow, Nat.reduceDiv, Nat.reduceMod, evIndexAddr, TD.agg, evFieldAddr, binA_eqB ty4, binA_neB ty4, ty2, ty4, ty40, ty42, ty92, fn14, fn13, fn16, fn15, c_ErOf, ErOf_ans, c_ErGcd, ErGcd_ans, c_ErMake, ErMake_ans, c_ErInt64, ErInt64_ans])
        | refine wp_condT rfl ?_ | refine wp_condF rfl ?_)
      simp (disch := omega) only [kS, Nat.reduceEqDiff, reduceIte, Nat.reduceLT, Nat.reduceLeDiff, Nat.reduceAdd, Nat.reduceSub, Nat.reduceMul, Nat.reducePow, Nat.reduceDiv, Nat.reduceMod, evIndexAddr, TD.agg, evFieldAddr, binA_eqB ty4, binA_neB ty4, ty2, ty4, ty40, ty42, ty92, fn14, fn13, fn16, fn15, c_ErOf, ErOf_ans, c_ErGcd, ErGcd_ans, c_ErMake, ErMake_ans, c_ErInt64, ErInt64_ans]
    · repeat (first
        | refine wp_seqQ ?_ | refine wp_blockQ ?_ | refine wp_scopeQ ?_
        | ((first | refine wp_skipQ ?_ | refine wp_labelQ ?_ | refine wp_exitQ ?_ | refine wp_retQ ?_); simp only [kQ, Nat.reduceEqDiff, reduceIte])
        | (refine wp_reg B ?_; simp (disch := omega) only [kW, Nat.reduceEqDiff, reduceIte, Nat.reduceLT, Nat.reduceLeDiff, Nat.reduceAdd, Nat.reduceSub, Nat.reduceMul, Nat.reducePow, Nat.reduceDiv, Nat.reduceMod, evIndexAddr, TD.agg, evFieldAddr, binA_eqB ty4, binA_neB ty4, ty2, ty4, ty40, ty42, ty92, fn14, fn13, fn16, fn15, c_ErOf, ErOf_ans, c_ErGcd, ErGcd_ans, c_ErMake, ErMake_ans, c_ErInt64, ErInt64_ans])
        | refine wp_condT rfl ?_ | refine wp_condF rfl ?_)
      simp (disch := omega) only [kS, Nat.reduceEqDiff, reduceIte, Nat.reduceLT, Nat.reduceLeDiff, Nat.reduceAdd, Nat.reduceSub, Nat.reduceMul, Nat.reducePow, Nat.reduceDiv, Nat.reduceMod, evIndexAddr, TD.agg, evFieldAddr, binA_eqB ty4, binA_neB ty4, ty2, ty4, ty40, ty42, ty92, fn14, fn13, fn16, fn15, c_ErOf, ErOf_ans, c_ErGcd, ErGcd_ans, c_ErMake, ErMake_ans, c_ErInt64, ErInt64_ans]
    · repeat (first
        | refine wp_seqQ ?_ | refine wp_blockQ ?_ | refine wp_scopeQ ?_
        | ((first | refine wp_skipQ ?_ | refine wp_labelQ ?_ | refine wp_exitQ ?_ | refine wp_retQ ?_); simp only [kQ, Nat.reduceEqDiff, reduceIte])
        | (refine wp_reg B ?_; simp (disch := omega) only [kW, Nat.reduceEqDiff, reduceIte, Nat.reduceLT, Nat.reduceLeDiff, Nat.reduceAdd, Nat.reduceSub, Nat.reduceMul, Nat.reducePow, Nat.reduceDiv, Nat.reduceMod, evIndexAddr, TD.agg, evFieldAddr, binA_eqB ty4, binA_neB ty4, ty2, ty4, ty40, ty42, ty92, fn14, fn13, fn16, fn15, c_ErOf, ErOf_ans, c_ErGcd, ErGcd_ans, c_ErMake, ErMake_ans, c_ErInt64, ErInt64_ans])
        | refine wp_condT rfl ?_ | refine wp_condF rfl ?_)
      simp (disch := omega) only [kS, Nat.reduceEqDiff, reduceIte, Nat.reduceLT, Nat.reduceLeDiff, Nat.reduceAdd, Nat.reduceSub, Nat.reduceMul, Nat.reducePow, Nat.reduceDiv, Nat.reduceMod, evIndexAddr, TD.agg, evFieldAddr, binA_eqB ty4, binA_neB ty4, ty2, ty4, ty40, ty42, ty92, fn14, fn13, fn16, fn15, c_ErOf, ErOf_ans, c_ErGcd, ErGcd_ans, c_ErMake, ErMake_ans, c_ErInt64, ErInt64_ans]
    · repeat (first
        | refine wp_seqQ ?_ | refine wp_blockQ ?_ | refine wp_scopeQ ?_
        | ((first | refine wp_skipQ ?_ | refine wp_labelQ ?_ | refine wp_exitQ ?_ | refine wp_retQ ?_); simp only [kQ, Nat.reduceEqDiff, reduceIte])
        | (refine wp_reg B ?_; simp (disch := omega) only [kW, Nat.reduceEqDiff, reduceIte, Nat.reduceLT, Nat.reduceLeDiff, Nat.reduceAdd, Nat.reduceSub, Nat.reduceMul, Nat.reducePow, Nat.reduceDiv, Nat.reduceMod, evIndexAddr, TD.agg, evFieldAddr, binA_eqB ty4, binA_neB ty4, ty2, ty4, ty40, ty42, ty92, fn14, fn13, fn16, fn15, c_ErOf, ErOf_ans, c_ErGcd, ErGcd_ans, c_ErMake, ErMake_ans, c_ErInt64, ErInt64_ans])
        | refine wp_condT rfl ?_ | refine wp_condF rfl ?_)
      simp (disch := omega) only [kS, Nat.reduceEqDiff, reduceIte, Nat.reduceLT, Nat.reduceLeDiff, Nat.reduceAdd, Nat.reduceSub, Nat.reduceMul, Nat.reducePow, Nat.reduceDiv, Nat.reduceMod, evIndexAddr, TD.agg, evFieldAddr, binA_eqB ty4, binA_neB ty4, ty2, ty4, ty40, ty42, ty92, fn14, fn13, fn16, fn15, c_ErOf, ErOf_ans, c_ErGcd, ErGcd_ans, c_ErMake, ErMake_ans, c_ErInt64, ErInt64_ans]
open Classical in
noncomputable def invOut (a m : Int) : AV := if m < 1 ∨ 4611686018427387904 < m then .tuple [.flat (.int .i64 0), .flat (.int .i64 2)] else if Nat.gcd (a % m).toNat m.toNat ≠ 1 then .tuple [.flat (.int .i64 0), .flat (.int .i64 41)] else .tuple [.flat (.int .i64 (inv m.toNat (a % m).toNat 0 1 % m)), .flat (.int .i64 0)]
theorem invOut_pure (a m : Int) : (invOut a m).pure = true := by
  unfold invOut; repeat (first | rfl | split)
noncomputable def EMod1 : Entry Tryz.prog := ⟨18, fun args h e h' => h' = h ∧ ∃ (a m : Int), args = [.flat (.int .i64 a), .flat (.int .i64 m)] ∧ (0 < m) ∧ (m ≤ 4611686018427387904) ∧ e = .ret (.flat (.int .i64 (a % m))), by
  rintro args h e h' ⟨rfl, a, m, rfl, h1, h2, rfl⟩
  exact ⟨mod_sem a m h1 h2 _, Hp.Le.refl _⟩⟩
theorem EMod1_ans (a m : Int) (h : Hp) (h1 : 0 < m) (h2 : m ≤ 4611686018427387904) : EMod1.ans [.flat (.int .i64 a), .flat (.int .i64 m)] h = some (.ret (.flat (.int .i64 (a % m))), h) :=
  Entry.one ⟨rfl, a, m, rfl, h1, h2, rfl⟩ fun e h' ⟨hh, a', m', ha, _, _, he⟩ => by simp only [kI, nav_eq] at ha; obtain ⟨rfl, rfl⟩ := ha; exact ⟨he, hh⟩
noncomputable def EMod2 : Entry Tryz.prog := ⟨21, fun args h e h' => h' = h ∧ ∃ (a m : Int), args = [.flat (.int .i64 a), .flat (.int .i64 m)] ∧ (0 < m) ∧ (m ≤ 4611686018427387904) ∧ e = .ret (.flat (.int .i64 (a % m))), by
  rintro args h e h' ⟨rfl, a, m, rfl, h1, h2, rfl⟩
  exact ⟨Mod_sem a m h1 h2 _, Hp.Le.refl _⟩⟩
theorem EMod2_ans (a m : Int) (h : Hp) (h1 : 0 < m) (h2 : m ≤ 4611686018427387904) : EMod2.ans [.flat (.int .i64 a), .flat (.int .i64 m)] h = some (.ret (.flat (.int .i64 (a % m))), h) :=
  Entry.one ⟨rfl, a, m, rfl, h1, h2, rfl⟩ fun e h' ⟨hh, a', m', ha, _, _, he⟩ => by simp only [kI, nav_eq] at ha; obtain ⟨rfl, rfl⟩ := ha; exact ⟨he, hh⟩
noncomputable def EGcd1 : Entry Tryz.prog := ⟨17, fun args h e h' => h' = h ∧ ∃ (a b : Nat), args = [.flat (.int .i64 (a : Int)), .flat (.int .i64 (b : Int))] ∧ (a ≤ 4611686018427387904) ∧ (b ≤ 4611686018427387904) ∧ e = .ret (.flat (.int .i64 (Nat.gcd a b : Nat))), by
  rintro args h e h' ⟨rfl, a, b, rfl, h1, h2, rfl⟩
  exact ⟨gcd_sem a b h1 h2 _, Hp.Le.refl _⟩⟩
theorem EGcd1_ans (a b : Nat) (h : Hp) (h1 : a ≤ 4611686018427387904) (h2 : b ≤ 4611686018427387904) : EGcd1.ans [.flat (.int .i64 (a : Int)), .flat (.int .i64 (b : Int))] h = some (.ret (.flat (.int .i64 (Nat.gcd a b : Nat))), h) :=
  Entry.one ⟨rfl, a, b, rfl, h1, h2, rfl⟩ fun e h' ⟨hh, a', b', ha, _, _, he⟩ => by simp only [kI, nav_eq] at ha; obtain ⟨rfl, rfl⟩ := ha; exact ⟨he, hh⟩
noncomputable def EGcd2 : Entry Tryz.prog := ⟨20, fun args h e h' => h' = h ∧ ∃ (a b : Nat), args = [.flat (.int .i64 (a : Int)), .flat (.int .i64 (b : Int))] ∧ (a ≤ 4611686018427387904) ∧ (b ≤ 4611686018427387904) ∧ e = .ret (.flat (.int .i64 (Nat.gcd a b : Nat))), by
  rintro args h e h' ⟨rfl, a, b, rfl, h1, h2, rfl⟩
  exact ⟨Common_sem a b h1 h2 _, Hp.Le.refl _⟩⟩
theorem EGcd2_ans (a b : Nat) (h : Hp) (h1 : a ≤ 4611686018427387904) (h2 : b ≤ 4611686018427387904) : EGcd2.ans [.flat (.int .i64 (a : Int)), .flat (.int .i64 (b : Int))] h = some (.ret (.flat (.int .i64 (Nat.gcd a b : Nat))), h) :=
  Entry.one ⟨rfl, a, b, rfl, h1, h2, rfl⟩ fun e h' ⟨hh, a', b', ha, _, _, he⟩ => by simp only [kI, nav_eq] at ha; obtain ⟨rfl, rfl⟩ := ha; exact ⟨he, hh⟩
noncomputable def EInv1 : Entry Tryz.prog := ⟨19, fun args h e h' => h' = h ∧ ∃ (a : Int) (m : Nat), args = [.flat (.int .i64 a), .flat (.int .i64 (m : Int))] ∧ (0 < m) ∧ (m ≤ 4611686018427387904) ∧ e = .ret (.flat (.int .i64 (inv m (a % m).toNat 0 1 % m))), by
  rintro args h e h' ⟨rfl, a, m, rfl, h1, h2, rfl⟩
  exact ⟨inverse_sem a m h1 h2 _, Hp.Le.refl _⟩⟩
theorem EInv1_ans (a : Int) (m : Nat) (h : Hp) (h1 : 0 < m) (h2 : m ≤ 4611686018427387904) : EInv1.ans [.flat (.int .i64 a), .flat (.int .i64 (m : Int))] h = some (.ret (.flat (.int .i64 (inv m (a % m).toNat 0 1 % m))), h) :=
  Entry.one ⟨rfl, a, m, rfl, h1, h2, rfl⟩ fun e h' ⟨hh, a', m', ha, _, _, he⟩ => by simp only [kI, nav_eq] at ha; obtain ⟨rfl, rfl⟩ := ha; exact ⟨he, hh⟩
noncomputable def EInv2 : Entry Tryz.prog := ⟨22, fun args h e h' => h' = h ∧ ∃ (a : Int) (m : Nat), args = [.flat (.int .i64 a), .flat (.int .i64 (m : Int))] ∧ (0 < m) ∧ (m ≤ 4611686018427387904) ∧ e = .ret (.flat (.int .i64 (inv m (a % m).toNat 0 1 % m))), by
  rintro args h e h' ⟨rfl, a, m, rfl, h1, h2, rfl⟩
  exact ⟨turned_sem a m h1 h2 _, Hp.Le.refl _⟩⟩
theorem EInv2_ans (a : Int) (m : Nat) (h : Hp) (h1 : 0 < m) (h2 : m ≤ 4611686018427387904) : EInv2.ans [.flat (.int .i64 a), .flat (.int .i64 (m : Int))] h = some (.ret (.flat (.int .i64 (inv m (a % m).toNat 0 1 % m))), h) :=
  Entry.one ⟨rfl, a, m, rfl, h1, h2, rfl⟩ fun e h' ⟨hh, a', m', ha, _, _, he⟩ => by simp only [kI, nav_eq] at ha; obtain ⟨rfl, rfl⟩ := ha; exact ⟨he, hh⟩
theorem Inverse_sem (a m : Int) (h : Hp) : SemCall Tryz.prog 6 [.flat (.int .i64 a), .flat (.int .i64 m)] h (.ret (invOut a m)) h := by
  refine sem_pure tables.ok Tryz.func6 rfl rfl rfl rfl rfl (invOut_pure a m) ?_ h
  have B : Base Tryz.prog tab _ := tabL_base [EMod1, EGcd1, EInv1] tables.ok mixed
  generalize hL : tabL [EMod1, EGcd1, EInv1] = call at B
  have c_EMod1 : ∀ a h, call 18 a h = EMod1.ans a h := fun _ _ => hL ▸ rfl
  have c_EGcd1 : ∀ a h, call 17 a h = EGcd1.ans a h := fun _ _ => hL ▸ rfl
  have c_EInv1 : ∀ a h, call 19 a h = EInv1.ans a h := fun _ _ => hL ▸ rfl
  clear hL
  rcases (show m < 1 ∨ (1 ≤ m ∧ 4611686018427387904 < m) ∨ (1 ≤ m ∧ m ≤ 4611686018427387904) by omega) with r | ⟨r, r'⟩ | ⟨r, r'⟩
  · rw [invOut, if_pos (by omega)]
    unfold Tryz.f6 bodyOf entry; simp only [Option.getD_some, List.length_cons, List.length_nil, Nat.reduceAdd, Nat.reduceSub]
    repeat (first
      | refine wp_seqQ ?_ | refine wp_blockQ ?_ | refine wp_scopeQ ?_
      | ((first | refine wp_skipQ ?_ | refine wp_labelQ ?_ | refine wp_exitQ ?_ | refine wp_retQ ?_); simp only [kQ, Nat.reduceEqDiff, reduceIte])
      | (refine wp_reg B ?_; simp (disch := omega) only [kW, Nat.reduceEqDiff, reduceIte, Nat.reduceLT, Nat.reduceLeDiff, Nat.reduceAdd, Nat.reduceSub, Nat.reduceMul, Nat.reducePow, Nat.reduceDiv, Nat.reduceMod, evIndexAddr, TD.agg, evFieldAddr, ty2, fn18, fn17, fn19, c_EMod1, EMod1_ans, c_EGcd1, EGcd1_ans, c_EInv1, EInv1_ans])
      | refine wp_condT rfl ?_ | refine wp_condF rfl ?_)
    simp (disch := omega) only [kS, Nat.reduceEqDiff, reduceIte, Nat.reduceLT, Nat.reduceLeDiff, Nat.reduceAdd, Nat.reduceSub, Nat.reduceMul, Nat.reducePow, Nat.reduceDiv, Nat.reduceMod, evIndexAddr, TD.agg, evFieldAddr, ty2, fn18, fn17, fn19, c_EMod1, EMod1_ans, c_EGcd1, EGcd1_ans, c_EInv1, EInv1_ans]
  · rw [invOut, if_pos (by omega)]
    unfold Tryz.f6 bodyOf entry; simp only [Option.getD_some, List.length_cons, List.length_nil, Nat.reduceAdd, Nat.reduceSub]
    repeat (first
      | refine wp_seqQ ?_ | refine wp_blockQ ?_ | refine wp_scopeQ ?_
      | ((first | refine wp_skipQ ?_ | refine wp_labelQ ?_ | refine wp_exitQ ?_ | refine wp_retQ ?_); simp only [kQ, Nat.reduceEqDiff, reduceIte])
      | (refine wp_reg B ?_; simp (disch := omega) only [kW, Nat.reduceEqDiff, reduceIte, Nat.reduceLT, Nat.reduceLeDiff, Nat.reduceAdd, Nat.reduceSub, Nat.reduceMul, Nat.reducePow, Nat.reduceDiv, Nat.reduceMod, evIndexAddr, TD.agg, evFieldAddr, ty2, fn18, fn17, fn19, c_EMod1, EMod1_ans, c_EGcd1, EGcd1_ans, c_EInv1, EInv1_ans])
      | refine wp_condT rfl ?_ | refine wp_condF rfl ?_)
    simp (disch := omega) only [kS, Nat.reduceEqDiff, reduceIte, Nat.reduceLT, Nat.reduceLeDiff, Nat.reduceAdd, Nat.reduceSub, Nat.reduceMul, Nat.reducePow, Nat.reduceDiv, Nat.reduceMod, evIndexAddr, TD.agg, evFieldAddr, ty2, fn18, fn17, fn19, c_EMod1, EMod1_ans, c_EGcd1, EGcd1_ans, c_EInv1, EInv1_ans]
  · rw [invOut, if_neg (by omega)]
    have b1 := Int.emod_nonneg a (show m ≠ 0 by omega)
    have b2 := Int.emod_lt_of_pos a (show 0 < m by omega)
    have c1 : ∀ h, EGcd1.ans [.flat (.int .i64 (a % m)), .flat (.int .i64 m)] h = some (.ret (.flat (.int .i64 (Nat.gcd (a % m).toNat m.toNat : Nat))), h) := fun h => by
      have := EGcd1_ans (a % m).toNat m.toNat h (by omega) (by omega)
      rwa [Int.toNat_of_nonneg b1, Int.toNat_of_nonneg (by omega)] at this
    have c2 : ∀ h, EInv1.ans [.flat (.int .i64 a), .flat (.int .i64 m)] h = some (.ret (.flat (.int .i64 (inv m.toNat (a % m).toNat 0 1 % m))), h) := fun h => by
      have := EInv1_ans a m.toNat h (by omega) (by omega)
      rwa [Int.toNat_of_nonneg (show 0 ≤ m by omega)] at this
    unfold Tryz.f6 bodyOf entry; simp only [Option.getD_some, List.length_cons, List.length_nil, Nat.reduceAdd, Nat.reduceSub]
    by_cases g : Nat.gcd (a % m).toNat m.toNat = 1
    · rw [if_neg (by omega)]
      repeat (first
        | refine wp_seqQ ?_ | refine wp_blockQ ?_ | refine wp_scopeQ ?_
        | ((first | refine wp_skipQ ?_ | refine wp_labelQ ?_ | refine wp_exitQ ?_ | refine wp_retQ ?_); simp only [kQ, Nat.reduceEqDiff, reduceIte])
        | (refine wp_reg B ?_; simp (disch := omega) only [kW, Nat.reduceEqDiff, reduceIte, Nat.reduceLT, Nat.reduceLeDiff, Nat.reduceAdd, Nat.reduceSub, Nat.reduceMul, Nat.reducePow, Nat.reduceDiv, Nat.reduceMod, evIndexAddr, TD.agg, evFieldAddr, ty2, fn18, fn17, fn19, c_EMod1, EMod1_ans, c_EGcd1, EGcd1_ans, c_EInv1, EInv1_ans, c1, c2, g])
        | refine wp_condT rfl ?_ | refine wp_condF rfl ?_)
      simp (disch := omega) only [kS, Nat.reduceEqDiff, reduceIte, Nat.reduceLT, Nat.reduceLeDiff, Nat.reduceAdd, Nat.reduceSub, Nat.reduceMul, Nat.reducePow, Nat.reduceDiv, Nat.reduceMod, evIndexAddr, TD.agg, evFieldAddr, ty2, fn18, fn17, fn19, c_EMod1, EMod1_ans, c_EGcd1, EGcd1_ans, c_EInv1, EInv1_ans]
    · rw [if_pos g]
      generalize Nat.gcd (a % m).toNat m.toNat = g1 at *
      repeat (first
        | refine wp_seqQ ?_ | refine wp_blockQ ?_ | refine wp_scopeQ ?_
        | ((first | refine wp_skipQ ?_ | refine wp_labelQ ?_ | refine wp_exitQ ?_ | refine wp_retQ ?_); simp only [kQ, Nat.reduceEqDiff, reduceIte])
        | (refine wp_reg B ?_; simp (disch := omega) only [kW, Nat.reduceEqDiff, reduceIte, Nat.reduceLT, Nat.reduceLeDiff, Nat.reduceAdd, Nat.reduceSub, Nat.reduceMul, Nat.reducePow, Nat.reduceDiv, Nat.reduceMod, evIndexAddr, TD.agg, evFieldAddr, ty2, fn18, fn17, fn19, c_EMod1, EMod1_ans, c_EGcd1, EGcd1_ans, c_EInv1, EInv1_ans, c1, c2])
        | refine wp_condT rfl ?_ | refine wp_condF rfl ?_)
      simp (disch := omega) only [kS, Nat.reduceEqDiff, reduceIte, Nat.reduceLT, Nat.reduceLeDiff, Nat.reduceAdd, Nat.reduceSub, Nat.reduceMul, Nat.reducePow, Nat.reduceDiv, Nat.reduceMod, evIndexAddr, TD.agg, evFieldAddr, ty2, fn18, fn17, fn19, c_EMod1, EMod1_ans, c_EGcd1, EGcd1_ans, c_EInv1, EInv1_ans]
theorem refInverse_sem (a m : Int) (h : Hp) : SemCall Tryz.prog 7 [.flat (.int .i64 a), .flat (.int .i64 m)] h (.ret (invOut a m)) h := by
  refine sem_pure tables.ok Tryz.func7 rfl rfl rfl rfl rfl (invOut_pure a m) ?_ h
  have B : Base Tryz.prog tab _ := tabL_base [EMod2, EGcd2, EInv2] tables.ok mixed
  generalize hL : tabL [EMod2, EGcd2, EInv2] = call at B
  have c_EMod2 : ∀ a h, call 21 a h = EMod2.ans a h := fun _ _ => hL ▸ rfl
  have c_EGcd2 : ∀ a h, call 20 a h = EGcd2.ans a h := fun _ _ => hL ▸ rfl
  have c_EInv2 : ∀ a h, call 22 a h = EInv2.ans a h := fun _ _ => hL ▸ rfl
  clear hL
  rcases (show m < 1 ∨ (1 ≤ m ∧ 4611686018427387904 < m) ∨ (1 ≤ m ∧ m ≤ 4611686018427387904) by omega) with r | ⟨r, r'⟩ | ⟨r, r'⟩
  · rw [invOut, if_pos (by omega)]
    unfold Tryz.f7 bodyOf entry; simp only [Option.getD_some, List.length_cons, List.length_nil, Nat.reduceAdd, Nat.reduceSub]
    repeat (first
      | refine wp_seqQ ?_ | refine wp_blockQ ?_ | refine wp_scopeQ ?_
      | ((first | refine wp_skipQ ?_ | refine wp_labelQ ?_ | refine wp_exitQ ?_ | refine wp_retQ ?_); simp only [kQ, Nat.reduceEqDiff, reduceIte])
      | (refine wp_reg B ?_; simp (disch := omega) only [kW, Nat.reduceEqDiff, reduceIte, Nat.reduceLT, Nat.reduceLeDiff, Nat.reduceAdd, Nat.reduceSub, Nat.reduceMul, Nat.reducePow, Nat.reduceDiv, Nat.reduceMod, evIndexAddr, TD.agg, evFieldAddr, ty2, fn21, fn20, fn22, c_EMod2, EMod2_ans, c_EGcd2, EGcd2_ans, c_EInv2, EInv2_ans])
      | refine wp_condT rfl ?_ | refine wp_condF rfl ?_)
    simp (disch := omega) only [kS, Nat.reduceEqDiff, reduceIte, Nat.reduceLT, Nat.reduceLeDiff, Nat.reduceAdd, Nat.reduceSub, Nat.reduceMul, Nat.reducePow, Nat.reduceDiv, Nat.reduceMod, evIndexAddr, TD.agg, evFieldAddr, ty2, fn21, fn20, fn22, c_EMod2, EMod2_ans, c_EGcd2, EGcd2_ans, c_EInv2, EInv2_ans]
  · rw [invOut, if_pos (by omega)]
    unfold Tryz.f7 bodyOf entry; simp only [Option.getD_some, List.length_cons, List.length_nil, Nat.reduceAdd, Nat.reduceSub]
    repeat (first
      | refine wp_seqQ ?_ | refine wp_blockQ ?_ | refine wp_scopeQ ?_
      | ((first | refine wp_skipQ ?_ | refine wp_labelQ ?_ | refine wp_exitQ ?_ | refine wp_retQ ?_); simp only [kQ, Nat.reduceEqDiff, reduceIte])
      | (refine wp_reg B ?_; simp (disch := omega) only [kW, Nat.reduceEqDiff, reduceIte, Nat.reduceLT, Nat.reduceLeDiff, Nat.reduceAdd, Nat.reduceSub, Nat.reduceMul, Nat.reducePow, Nat.reduceDiv, Nat.reduceMod, evIndexAddr, TD.agg, evFieldAddr, ty2, fn21, fn20, fn22, c_EMod2, EMod2_ans, c_EGcd2, EGcd2_ans, c_EInv2, EInv2_ans])
      | refine wp_condT rfl ?_ | refine wp_condF rfl ?_)
    simp (disch := omega) only [kS, Nat.reduceEqDiff, reduceIte, Nat.reduceLT, Nat.reduceLeDiff, Nat.reduceAdd, Nat.reduceSub, Nat.reduceMul, Nat.reducePow, Nat.reduceDiv, Nat.reduceMod, evIndexAddr, TD.agg, evFieldAddr, ty2, fn21, fn20, fn22, c_EMod2, EMod2_ans, c_EGcd2, EGcd2_ans, c_EInv2, EInv2_ans]
  · rw [invOut, if_neg (by omega)]
    have b1 := Int.emod_nonneg a (show m ≠ 0 by omega)
    have b2 := Int.emod_lt_of_pos a (show 0 < m by omega)
    have c1 : ∀ h, EGcd2.ans [.flat (.int .i64 (a % m)), .flat (.int .i64 m)] h = some (.ret (.flat (.int .i64 (Nat.gcd (a % m).toNat m.toNat : Nat))), h) := fun h => by
      have := EGcd2_ans (a % m).toNat m.toNat h (by omega) (by omega)
      rwa [Int.toNat_of_nonneg b1, Int.toNat_of_nonneg (by omega)] at this
    have c2 : ∀ h, EInv2.ans [.flat (.int .i64 a), .flat (.int .i64 m)] h = some (.ret (.flat (.int .i64 (inv m.toNat (a % m).toNat 0 1 % m))), h) := fun h => by
      have := EInv2_ans a m.toNat h (by omega) (by omega)
      rwa [Int.toNat_of_nonneg (show 0 ≤ m by omega)] at this
    unfold Tryz.f7 bodyOf entry; simp only [Option.getD_some, List.length_cons, List.length_nil, Nat.reduceAdd, Nat.reduceSub]
    by_cases g : Nat.gcd (a % m).toNat m.toNat = 1
    · rw [if_neg (by omega)]
      repeat (first
        | refine wp_seqQ ?_ | refine wp_blockQ ?_ | refine wp_scopeQ ?_
        | ((first | refine wp_skipQ ?_ | refine wp_labelQ ?_ | refine wp_exitQ ?_ | refine wp_retQ ?_); simp only [kQ, Nat.reduceEqDiff, reduceIte])
        | (refine wp_reg B ?_; simp (disch := omega) only [kW, Nat.reduceEqDiff, reduceIte, Nat.reduceLT, Nat.reduceLeDiff, Nat.reduceAdd, Nat.reduceSub, Nat.reduceMul, Nat.reducePow, Nat.reduceDiv, Nat.reduceMod, evIndexAddr, TD.agg, evFieldAddr, ty2, fn21, fn20, fn22, c_EMod2, EMod2_ans, c_EGcd2, EGcd2_ans, c_EInv2, EInv2_ans, c1, c2, g])
        | refine wp_condT rfl ?_ | refine wp_condF rfl ?_)
      simp (disch := omega) only [kS, Nat.reduceEqDiff, reduceIte, Nat.reduceLT, Nat.reduceLeDiff, Nat.reduceAdd, Nat.reduceSub, Nat.reduceMul, Nat.reducePow, Nat.reduceDiv, Nat.reduceMod, evIndexAddr, TD.agg, evFieldAddr, ty2, fn21, fn20, fn22, c_EMod2, EMod2_ans, c_EGcd2, EGcd2_ans, c_EInv2, EInv2_ans]
    · rw [if_pos g]
      generalize Nat.gcd (a % m).toNat m.toNat = g1 at *
      repeat (first
        | refine wp_seqQ ?_ | refine wp_blockQ ?_ | refine wp_scopeQ ?_
        | ((first | refine wp_skipQ ?_ | refine wp_labelQ ?_ | refine wp_exitQ ?_ | refine wp_retQ ?_); simp only [kQ, Nat.reduceEqDiff, reduceIte])
        | (refine wp_reg B ?_; simp (disch := omega) only [kW, Nat.reduceEqDiff, reduceIte, Nat.reduceLT, Nat.reduceLeDiff, Nat.reduceAdd, Nat.reduceSub, Nat.reduceMul, Nat.reducePow, Nat.reduceDiv, Nat.reduceMod, evIndexAddr, TD.agg, evFieldAddr, ty2, fn21, fn20, fn22, c_EMod2, EMod2_ans, c_EGcd2, EGcd2_ans, c_EInv2, EInv2_ans, c1, c2])
        | refine wp_condT rfl ?_ | refine wp_condF rfl ?_)
      simp (disch := omega) only [kS, Nat.reduceEqDiff, reduceIte, Nat.reduceLT, Nat.reduceLeDiff, Nat.reduceAdd, Nat.reduceSub, Nat.reduceMul, Nat.reducePow, Nat.reduceDiv, Nat.reduceMod, evIndexAddr, TD.agg, evFieldAddr, ty2, fn21, fn20, fn22, c_EMod2, EMod2_ans, c_EGcd2, EGcd2_ans, c_EInv2, EInv2_ans]
theorem wakes_run : (match evCall noSum tab (maskOf tabMasks) 1000000 200 8 [] Hp.empty with | some (.ret (.flat (.bool c)), _) => cond true c (!c) | _ => false) = true := by kernel_rfl
theorem wakes_sem (h : Hp) : SemCall Tryz.prog 8 [] h (.ret (.flat (.bool true))) h := by
  refine semcall_of fun D ρ w args' hr ha => ?_
  rw [relL_nil.1 ha]
  refine (closed_call tables mixed 1000000 200 8 true wakes_run w).mono ?_
  rintro e w' ⟨rfl, hb⟩
  exact ⟨_, rfl, hb, fun ρ1 hr1 hle => ⟨ρ1, Step.refl hr1, by simp [AV.rel]⟩⟩
noncomputable def EWk : Entry Tryz.prog := Entry.pure 8 (fun (x : Unit) => []) (fun _ => True) (fun _ => .flat (.bool true)) fun _ _ h => wakes_sem h
theorem EWk_ans (h : Hp) : EWk.ans [] h = some (.ret (.flat (.bool true)), h) := Entry.pure_ans (fun _ _ _ => rfl) () trivial h
noncomputable def EA : Entry Tryz.prog := ⟨4, fun args h e h' => h' = h ∧ ∃ (a b : Int), args = [.flat (.int .i64 a), .flat (.int .i64 b)] ∧ e = .ret (gcdOut a b), by
  rintro args h e h' ⟨rfl, a, b, rfl, rfl⟩
  exact ⟨Gcd_sem a b _, Hp.Le.refl _⟩⟩
theorem EA_ans (a b : Int) (h : Hp)  : EA.ans [.flat (.int .i64 a), .flat (.int .i64 b)] h = some (.ret (gcdOut a b), h) :=
  Entry.one ⟨rfl, a, b, rfl, rfl⟩ fun e h' ⟨hh, a', b', ha, he⟩ => by simp only [kI, nav_eq] at ha; obtain ⟨rfl, rfl⟩ := ha; exact ⟨he, hh⟩
noncomputable def EB : Entry Tryz.prog := ⟨5, fun args h e h' => h' = h ∧ ∃ (a b : Int), args = [.flat (.int .i64 a), .flat (.int .i64 b)] ∧ e = .ret (gcdOut a b), by
  rintro args h e h' ⟨rfl, a, b, rfl, rfl⟩
  exact ⟨refGcd_sem a b _, Hp.Le.refl _⟩⟩
theorem EB_ans (a b : Int) (h : Hp)  : EB.ans [.flat (.int .i64 a), .flat (.int .i64 b)] h = some (.ret (gcdOut a b), h) :=
  Entry.one ⟨rfl, a, b, rfl, rfl⟩ fun e h' ⟨hh, a', b', ha, he⟩ => by simp only [kI, nav_eq] at ha; obtain ⟨rfl, rfl⟩ := ha; exact ⟨he, hh⟩
noncomputable def EC : Entry Tryz.prog := ⟨6, fun args h e h' => h' = h ∧ ∃ (a b : Int), args = [.flat (.int .i64 a), .flat (.int .i64 b)] ∧ e = .ret (invOut a b), by
  rintro args h e h' ⟨rfl, a, b, rfl, rfl⟩
  exact ⟨Inverse_sem a b _, Hp.Le.refl _⟩⟩
theorem EC_ans (a b : Int) (h : Hp)  : EC.ans [.flat (.int .i64 a), .flat (.int .i64 b)] h = some (.ret (invOut a b), h) :=
  Entry.one ⟨rfl, a, b, rfl, rfl⟩ fun e h' ⟨hh, a', b', ha, he⟩ => by simp only [kI, nav_eq] at ha; obtain ⟨rfl, rfl⟩ := ha; exact ⟨he, hh⟩
noncomputable def ED : Entry Tryz.prog := ⟨7, fun args h e h' => h' = h ∧ ∃ (a b : Int), args = [.flat (.int .i64 a), .flat (.int .i64 b)] ∧ e = .ret (invOut a b), by
  rintro args h e h' ⟨rfl, a, b, rfl, rfl⟩
  exact ⟨refInverse_sem a b _, Hp.Le.refl _⟩⟩
theorem ED_ans (a b : Int) (h : Hp)  : ED.ans [.flat (.int .i64 a), .flat (.int .i64 b)] h = some (.ret (invOut a b), h) :=
  Entry.one ⟨rfl, a, b, rfl, rfl⟩ fun e h' ⟨hh, a', b', ha, he⟩ => by simp only [kI, nav_eq] at ha; obtain ⟨rfl, rfl⟩ := ha; exact ⟨he, hh⟩
theorem law_sem (a b : Int) (h : Hp) : SemCall Tryz.prog 3 [.flat (.int .i64 a), .flat (.int .i64 b)] h (.ret (.flat (.bool true))) h := by
  refine sem_pure tables.ok Tryz.func3 rfl rfl rfl rfl rfl rfl ?_ h
  obtain ⟨x, y, z, e1⟩ : ∃ x y z, gcdOut a b = .tuple [.flat (.int .i64 x), .flat (.int .i64 y), .flat (.int .i64 z)] := by
    unfold gcdOut; split <;> exact ⟨_, _, _, rfl⟩
  obtain ⟨u, v, e2⟩ : ∃ u v, invOut a b = .tuple [.flat (.int .i64 u), .flat (.int .i64 v)] := by
    unfold invOut; repeat (first | exact ⟨_, _, rfl⟩ | split)
  have B : Base Tryz.prog tab _ := tabL_base [EWk, EA, EB, EC, ED] tables.ok mixed
  generalize hL : tabL [EWk, EA, EB, EC, ED] = call at B
  have c_EWk : ∀ a h, call 8 a h = EWk.ans a h := fun _ _ => hL ▸ rfl
  have c_EA : ∀ a h, call 4 a h = EA.ans a h := fun _ _ => hL ▸ rfl
  have c_EB : ∀ a h, call 5 a h = EB.ans a h := fun _ _ => hL ▸ rfl
  have c_EC : ∀ a h, call 6 a h = EC.ans a h := fun _ _ => hL ▸ rfl
  have c_ED : ∀ a h, call 7 a h = ED.ans a h := fun _ _ => hL ▸ rfl
  clear hL
  unfold Tryz.f3 bodyOf entry; simp only [Option.getD_some, List.length_cons, List.length_nil, Nat.reduceAdd, Nat.reduceSub]
  repeat (first
    | refine wp_seqQ ?_ | refine wp_blockQ ?_ | refine wp_scopeQ ?_
    | ((first | refine wp_skipQ ?_ | refine wp_labelQ ?_ | refine wp_exitQ ?_ | refine wp_retQ ?_); simp only [kQ, Nat.reduceEqDiff, reduceIte])
    | (refine wp_reg B ?_; simp (disch := omega) only [kW, Nat.reduceEqDiff, reduceIte, Nat.reduceLT, Nat.reduceLeDiff, Nat.reduceAdd, Nat.reduceSub, Nat.reduceMul, Nat.reducePow, Nat.reduceDiv, Nat.reduceMod, evIndexAddr, TD.agg, evFieldAddr, ty2, ty24, fn4, fn5, fn6, fn7, fn8, c_EWk, EWk_ans, c_EA, EA_ans, c_EB, EB_ans, c_EC, EC_ans, c_ED, ED_ans, e1, e2])
    | refine wp_condT rfl ?_ | refine wp_condF rfl ?_)
  simp (disch := omega) only [kS, Nat.reduceEqDiff, reduceIte, Nat.reduceLT, Nat.reduceLeDiff, Nat.reduceAdd, Nat.reduceSub, Nat.reduceMul, Nat.reducePow, Nat.reduceDiv, Nat.reduceMod, evIndexAddr, TD.agg, evFieldAddr, ty2, ty24, fn4, fn5, fn6, fn7, fn8, c_EWk, EWk_ans, c_EA, EA_ans, c_EB, EB_ans, c_EC, EC_ans, c_ED, ED_ans]
theorem law_calls (a0 a1 : Int) (w : World) : Calls Tryz.prog 3 #[.int .i64 a0, .int .i64 a1] w fun e w' => e = .returned (.bool true) ∧ RowKit.Below w.heap.size w w' := by
  have k : Stood w (fun _ _ => False) := ⟨fun _ _ h => h.elim, fun _ _ h => h.elim⟩
  refine (k.call (args' := [.int .i64 a0, .int .i64 a1]) (law_sem a0 a1 Hp.empty) (relL2mk (rel_flat _) (rel_flat _))).mono ?_
  rintro e w' ⟨v', ρ', rfl, hv, hb⟩
  simp only [AV.rel] at hv
  exact ⟨by rw [hv], hb⟩
end Go.Proofs.YtkgejfokdmdikaaGreat.Iv
end
