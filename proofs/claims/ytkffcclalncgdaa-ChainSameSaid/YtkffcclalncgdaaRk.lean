/- The law's same and lists. Chains that are not there, chains of no points; the chain's answers, in one. Groups reckoned out; the law's works. The law's works. perm.checked, Mul, Inverse of permutations; the law's beyond; New's errors; what the group alone tells. perm.Mul, Inverse of permutations; New's errors. Arguments of rows of numbers, opened; ChainNil out to the world. ChainSame: the law, walked. ChainSame: permutations that make a group. ChainSame, joined and out to the world. -/
import Derived.Test.YtkffcclalncgdaaRi
import Derived.Test.YtkffcclalncgdaaRj
import Derived.Deep.Matrix
section
set_option maxHeartbeats 8000000
set_option linter.unusedVariables false
set_option linter.unusedSimpArgs false
set_option maxRecDepth 10000
namespace Go.Proofs.Ytkffcclalncgdaa.Iv
open Go Go.Iv Go.RowKit Pg Ch
theorem len_irow (p : List Int) : evLen tab 23 (irow p) = some (.flat (.int .i64 (p.length : Int))) := by simp only [irow, len_isl, ty23]
theorem same_sem (p q : List Int) (hp : p.length ≤ 1000000) (hq : q.length ≤ 1000000) (h : Hp) : SemCall Try.prog 21 [irow p, irow q] h (.ret (.flat (.bool (decide (p = q))))) h := by
 refine sem_pure tables.ok Try.func21 rfl rfl rfl rfl (by simp [pureL, irow_pure]) rfl ?_ h
 have B := base0
 have lp : irow p = .isl (p.map ic) 1 0 p.length := rfl
 have lq : irow q = .isl (q.map ic) 1 0 q.length := rfl
 by_cases hl : p.length = q.length
 ·obtain ⟨m, hm⟩ : ∃ m, m = p.length := ⟨_, rfl⟩
  rw [lp, lq, ← hl, ← hm]
  unfold Try.f21 bodyOf entry; simp only [Option.getD_some, List.length_cons, List.length_nil, Nat.reduceAdd, Nat.reduceSub]
  repeat (first
   | refine wp_seqQ ?_ | refine wp_blockQ ?_ | refine wp_scopeQ ?_
   | ((first | refine wp_skipQ ?_ | refine wp_labelQ ?_ | refine wp_exitQ ?_ | refine wp_retQ ?_); simp only [kQ, Nat.reduceEqDiff, reduceIte])
   | ((first | refine wp_dreg B (id := 6) [0, 0, 3, 7, 0, 0, 48, 112, 255] (by kernel_rfl) ?_ | refine wp_reg B ?_); simp (disch := omega) only [kW, kG, Nat.reduceEqDiff, reduceIte, Nat.reduceLT, Nat.reduceLeDiff, Nat.reduceAdd, Nat.reduceSub, Nat.reduceMul, Nat.reducePow, Nat.reduceDiv, Nat.reduceMod, evIndexAddr, TD.agg, evFieldAddr, ty3, ty23])
   | refine wp_condT rfl ?_ | refine wp_condF rfl ?_)
  refine wp_loopQ (fun k s => ∃ (i : Nat) (tm : Nat → Option AV) (h : Hp), s = ⟨tm, 26, h, []⟩ ∧ k = m - i ∧ i ≤ m ∧ tm 0 = some (.isl (p.map ic) 1 0 m) ∧ tm 1 = some (.isl (q.map ic) 1 0 m) ∧ tm 12 = some (.flat (.int .i64 (m : Int))) ∧ tm 13 = some (.flat (.int .i64 (i : Int))) ∧ p.take i = q.take i) m ?_ ?_
  ·exact ⟨0, _, _, rfl, rfl, Nat.zero_le _, rfl, rfl, rfl, rfl, rfl⟩
  ·rintro k s ⟨i, tm, h, rfl, rfl, hi, t0, t1, t12, t13, he⟩
   repeat (first
    | refine wp_seqQ ?_ | refine wp_blockQ ?_ | refine wp_scopeQ ?_
    | ((first | refine wp_skipQ ?_ | refine wp_labelQ ?_ | refine wp_exitQ ?_ | refine wp_retQ ?_); simp only [kQ, Nat.reduceEqDiff, reduceIte])
    | ((first | refine wp_dreg B (id := 6) [0, 0, 3, 7, 0, 0, 48, 112, 255] (by kernel_rfl) ?_ | refine wp_reg B ?_); simp (disch := omega) only [kW, kG, Nat.reduceEqDiff, reduceIte, Nat.reduceLT, Nat.reduceLeDiff, Nat.reduceAdd, Nat.reduceSub, Nat.reduceMul, Nat.reducePow, Nat.reduceDiv, Nat.reduceMod, evIndexAddr, TD.agg, evFieldAddr, ty3, ty23, t0, t1, t12, t13])
    | refine wp_condT rfl ?_ | refine wp_condF rfl ?_)
   refine wp_if rfl (fun ilt => ?_) (fun ige => ?_)
   ·obtain ⟨x, hx⟩ : ∃ x, p[i]? = some x := ⟨_, List.getElem?_eq_getElem (by omega)⟩
    obtain ⟨y, hy⟩ : ∃ y, q[i]? = some y := ⟨_, List.getElem?_eq_getElem (by omega)⟩
    have g1 := ir_get hx
    have g2 := ir_get hy
    by_cases e : x = y
    ·subst e
     repeat (first
      | refine wp_seqQ ?_ | refine wp_blockQ ?_ | refine wp_scopeQ ?_
      | ((first | refine wp_skipQ ?_ | refine wp_labelQ ?_ | refine wp_exitQ ?_ | refine wp_retQ ?_); simp only [kQ, Nat.reduceEqDiff, reduceIte])
      | ((first | refine wp_dreg B (id := 6) [0, 0, 3, 7, 0, 0, 48, 112, 255] (by kernel_rfl) ?_ | refine wp_reg B ?_); simp (disch := omega) only [kW, kG, Nat.reduceEqDiff, reduceIte, Nat.reduceLT, Nat.reduceLeDiff, Nat.reduceAdd, Nat.reduceSub, Nat.reduceMul, Nat.reducePow, Nat.reduceDiv, Nat.reduceMod, evIndexAddr, TD.agg, evFieldAddr, ty3, ty23, t0, t1, t12, t13, g1, g2])
      | refine wp_condT rfl ?_ | refine wp_condF rfl ?_)
     refine ⟨_, ?_, i + 1, _, _, rfl, rfl, by omega, t0, t1, t12, rfl, by rw [List.take_add_one, List.take_add_one, he, hx, hy]⟩
     omega
    ·have hne : ¬ p = q := fun c => e (by rw [c] at hx; rw [hx] at hy; simpa using hy)
     rw [decide_eq_false hne]
     repeat (first
      | refine wp_seqQ ?_ | refine wp_blockQ ?_ | refine wp_scopeQ ?_
      | ((first | refine wp_skipQ ?_ | refine wp_labelQ ?_ | refine wp_exitQ ?_ | refine wp_retQ ?_); simp only [kQ, Nat.reduceEqDiff, reduceIte])
      | ((first | refine wp_dreg B (id := 6) [0, 0, 3, 7, 0, 0, 48, 112, 255] (by kernel_rfl) ?_ | refine wp_reg B ?_); simp (disch := omega) only [kW, kG, Nat.reduceEqDiff, reduceIte, Nat.reduceLT, Nat.reduceLeDiff, Nat.reduceAdd, Nat.reduceSub, Nat.reduceMul, Nat.reducePow, Nat.reduceDiv, Nat.reduceMod, evIndexAddr, TD.agg, evFieldAddr, ty3, ty23, t0, t1, t12, t13, g1, g2])
      | refine wp_condT rfl ?_ | refine wp_condF rfl ?_)
     simp (disch := omega) only [kS, Nat.reduceEqDiff, reduceIte, Nat.reduceLT, Nat.reduceLeDiff, Nat.reduceAdd, Nat.reduceSub, Nat.reduceMul, Nat.reducePow, Nat.reduceDiv, Nat.reduceMod, evIndexAddr, TD.agg, evFieldAddr, ty3, ty23]
   ·have e : m = i := by omega
    subst e
    rw [hm, List.take_of_length_le (Nat.le_refl _), hl, List.take_of_length_le (Nat.le_refl _)] at he
    rw [decide_eq_true he]
    repeat (first
     | refine wp_seqQ ?_ | refine wp_blockQ ?_ | refine wp_scopeQ ?_
     | ((first | refine wp_skipQ ?_ | refine wp_labelQ ?_ | refine wp_exitQ ?_ | refine wp_retQ ?_); simp only [kQ, Nat.reduceEqDiff, reduceIte])
     | ((first | refine wp_dreg B (id := 6) [0, 0, 3, 7, 0, 0, 48, 112, 255] (by kernel_rfl) ?_ | refine wp_reg B ?_); simp (disch := omega) only [kW, kG, Nat.reduceEqDiff, reduceIte, Nat.reduceLT, Nat.reduceLeDiff, Nat.reduceAdd, Nat.reduceSub, Nat.reduceMul, Nat.reducePow, Nat.reduceDiv, Nat.reduceMod, evIndexAddr, TD.agg, evFieldAddr, ty3, ty23, t0])
     | refine wp_condT rfl ?_ | refine wp_condF rfl ?_)
    simp (disch := omega) only [kS, Nat.reduceEqDiff, reduceIte, Nat.reduceLT, Nat.reduceLeDiff, Nat.reduceAdd, Nat.reduceSub, Nat.reduceMul, Nat.reducePow, Nat.reduceDiv, Nat.reduceMod, evIndexAddr, TD.agg, evFieldAddr, ty3, ty23]
 ·rw [decide_eq_false (fun c => hl (by rw [c]))]
  rw [lp, lq]
  unfold Try.f21 bodyOf entry; simp only [Option.getD_some, List.length_cons, List.length_nil, Nat.reduceAdd, Nat.reduceSub]
  repeat (first
   | refine wp_seqQ ?_ | refine wp_blockQ ?_ | refine wp_scopeQ ?_
   | ((first | refine wp_skipQ ?_ | refine wp_labelQ ?_ | refine wp_exitQ ?_ | refine wp_retQ ?_); simp only [kQ, Nat.reduceEqDiff, reduceIte])
   | ((first | refine wp_dreg B (id := 6) [0, 0, 3, 7, 0, 0, 48, 112, 255] (by kernel_rfl) ?_ | refine wp_reg B ?_); simp (disch := omega) only [kW, kG, Nat.reduceEqDiff, reduceIte, Nat.reduceLT, Nat.reduceLeDiff, Nat.reduceAdd, Nat.reduceSub, Nat.reduceMul, Nat.reducePow, Nat.reduceDiv, Nat.reduceMod, evIndexAddr, TD.agg, evFieldAddr, ty3, ty23])
   | refine wp_condT rfl ?_ | refine wp_condF rfl ?_)
  simp (disch := omega) only [kS, Nat.reduceEqDiff, reduceIte, Nat.reduceLT, Nat.reduceLeDiff, Nat.reduceAdd, Nat.reduceSub, Nat.reduceMul, Nat.reducePow, Nat.reduceDiv, Nat.reduceMod, evIndexAddr, TD.agg, evFieldAddr, ty3, ty23]
theorem irow_inj {p q : List Int} (h : irow p = irow q) : p = q := by
 simp only [irow, AV.isl.injEq] at h
 have := congrArg (List.map unj) h.1
 rw [List.map_map, List.map_map] at this
 have e : ∀ l : List Int, l.map (unj ∘ ic) = l := fun l => by
  conv => rhs; rw [← List.map_id l]
  exact List.map_congr_left fun _ _ => rfl
 rwa [e, e] at this
theorem irow_eq {p q : List Int} : irow p = irow q ↔ p = q := ⟨irow_inj, fun h => by rw [h]⟩
noncomputable def ElSame : Entry Try.prog := ⟨21, fun args h e h' => h' = h ∧ ∃ (p q : List Int), args = [irow p, irow q] ∧ (p.length ≤ 1000000) ∧ (q.length ≤ 1000000) ∧ e = .ret (.flat (.bool (decide (p = q)))), by
 rintro args h e h' ⟨rfl, p, q, rfl, h1, h2, rfl⟩
 exact ⟨same_sem p q h1 h2 _, Hp.Le.refl _⟩⟩
theorem ElSame_ans (p q : List Int) (h : Hp) (h1 : p.length ≤ 1000000) (h2 : q.length ≤ 1000000) : ElSame.ans [irow p, irow q] h = some (.ret (.flat (.bool (decide (p = q)))), h) :=
 Entry.one ⟨rfl, p, q, rfl, h1, h2, rfl⟩ fun e h' ⟨hh, p', q', ha, _, _, he⟩ => by simp only [kI, irow_eq] at ha; obtain ⟨rfl, rfl⟩ := ha; exact ⟨he, hh⟩
def irows (a : List (List Int)) : AV := .isl (a.map irow) 1 0 a.length
theorem irows_pure (a : List (List Int)) : (irows a).pure = true := by simp only [irows, AV.pure]; exact pureL_map irow_pure a
theorem lists_sem (a b : List (List Int)) (ha : a.length ≤ 1000000) (hb : b.length ≤ 1000000) (ha2 : ∀ p ∈ a, p.length ≤ 1000000) (hb2 : ∀ p ∈ b, p.length ≤ 1000000) (h : Hp) : SemCall Try.prog 15 [irows a, irows b] h (.ret (.flat (.bool (decide (a = b))))) h := by
 refine sem_pure tables.ok Try.func15 rfl rfl rfl rfl (by simp [pureL, irows_pure]) rfl ?_ h
 have B : Base Try.prog tab _ := tabL_base [ElSame] tables.ok mixed
 generalize hL : tabL [ElSame] = call at B
 have c_ElSame : ∀ a h, call 21 a h = ElSame.ans a h := fun _ _ => hL ▸ rfl
 clear hL
 have lp : irows a = .isl (a.map irow) 1 0 a.length := rfl
 have lq : irows b = .isl (b.map irow) 1 0 b.length := rfl
 by_cases hl : a.length = b.length
 ·obtain ⟨m, hm⟩ : ∃ m, m = a.length := ⟨_, rfl⟩
  rw [lp, lq, ← hl, ← hm]
  unfold Try.f15 bodyOf entry; simp only [Option.getD_some, List.length_cons, List.length_nil, Nat.reduceAdd, Nat.reduceSub]
  repeat (first
   | refine wp_seqQ ?_ | refine wp_blockQ ?_ | refine wp_scopeQ ?_
   | ((first | refine wp_skipQ ?_ | refine wp_labelQ ?_ | refine wp_exitQ ?_ | refine wp_retQ ?_); simp only [kQ, Nat.reduceEqDiff, reduceIte])
   | ((first | refine wp_dreg B (id := 6) [0, 0, 3, 7, 0, 0, 48, 112, 255, 511] (by kernel_rfl) ?_ | refine wp_reg B ?_); simp (disch := omega) only [kW, kG, Nat.reduceEqDiff, reduceIte, Nat.reduceLT, Nat.reduceLeDiff, Nat.reduceAdd, Nat.reduceSub, Nat.reduceMul, Nat.reducePow, Nat.reduceDiv, Nat.reduceMod, evIndexAddr, TD.agg, evFieldAddr, binA_eqB ty4, binA_neB ty4, ty3, ty4, ty22, ty23, fn21, c_ElSame, ElSame_ans])
   | refine wp_condT rfl ?_ | refine wp_condF rfl ?_)
  refine wp_loopQ (fun k s => ∃ (i : Nat) (tm : Nat → Option AV) (h : Hp), s = ⟨tm, 27, h, []⟩ ∧ k = m - i ∧ i ≤ m ∧ tm 0 = some (.isl (a.map irow) 1 0 m) ∧ tm 1 = some (.isl (b.map irow) 1 0 m) ∧ tm 12 = some (.flat (.int .i64 (m : Int))) ∧ tm 13 = some (.flat (.int .i64 (i : Int))) ∧ a.take i = b.take i) m ?_ ?_
  ·exact ⟨0, _, _, rfl, rfl, Nat.zero_le _, rfl, rfl, rfl, rfl, rfl⟩
  ·rintro k s ⟨i, tm, h, rfl, rfl, hi, t0, t1, t12, t13, he⟩
   repeat (first
    | refine wp_seqQ ?_ | refine wp_blockQ ?_ | refine wp_scopeQ ?_
    | ((first | refine wp_skipQ ?_ | refine wp_labelQ ?_ | refine wp_exitQ ?_ | refine wp_retQ ?_); simp only [kQ, Nat.reduceEqDiff, reduceIte])
    | ((first | refine wp_dreg B (id := 6) [0, 0, 3, 7, 0, 0, 48, 112, 255, 511] (by kernel_rfl) ?_ | refine wp_reg B ?_); simp (disch := omega) only [kW, kG, Nat.reduceEqDiff, reduceIte, Nat.reduceLT, Nat.reduceLeDiff, Nat.reduceAdd, Nat.reduceSub, Nat.reduceMul, Nat.reducePow, Nat.reduceDiv, Nat.reduceMod, evIndexAddr, TD.agg, evFieldAddr, binA_eqB ty4, binA_neB ty4, ty3, ty4, ty22, ty23, fn21, c_ElSame, ElSame_ans, t0, t1, t12, t13])
    | refine wp_condT rfl ?_ | refine wp_condF rfl ?_)
   refine wp_if rfl (fun ilt => ?_) (fun ige => ?_)
   ·obtain ⟨x, hx⟩ : ∃ x, a[i]? = some x := ⟨_, List.getElem?_eq_getElem (by omega)⟩
    obtain ⟨y, hy⟩ : ∃ y, b[i]? = some y := ⟨_, List.getElem?_eq_getElem (by omega)⟩
    have g1 := rows_get hx
    have g2 := rows_get hy
    have k1 := fun h => ElSame_ans x y h (ha2 x (List.mem_of_getElem? hx)) (hb2 y (List.mem_of_getElem? hy))
    by_cases e : x = y
    ·subst e
     rw [decide_eq_true rfl] at k1
     repeat (first
      | refine wp_seqQ ?_ | refine wp_blockQ ?_ | refine wp_scopeQ ?_
      | ((first | refine wp_skipQ ?_ | refine wp_labelQ ?_ | refine wp_exitQ ?_ | refine wp_retQ ?_); simp only [kQ, Nat.reduceEqDiff, reduceIte])
      | ((first | refine wp_dreg B (id := 6) [0, 0, 3, 7, 0, 0, 48, 112, 255, 511] (by kernel_rfl) ?_ | refine wp_reg B ?_); simp (disch := omega) only [kW, kG, Nat.reduceEqDiff, reduceIte, Nat.reduceLT, Nat.reduceLeDiff, Nat.reduceAdd, Nat.reduceSub, Nat.reduceMul, Nat.reducePow, Nat.reduceDiv, Nat.reduceMod, evIndexAddr, TD.agg, evFieldAddr, binA_eqB ty4, binA_neB ty4, ty3, ty4, ty22, ty23, fn21, c_ElSame, ElSame_ans, t0, t1, t12, t13, g1, g2, k1])
      | refine wp_condT rfl ?_ | refine wp_condF rfl ?_)
     refine ⟨_, ?_, i + 1, _, _, rfl, rfl, by omega, t0, t1, t12, rfl, by rw [List.take_add_one, List.take_add_one, he, hx, hy]⟩
     omega
    ·rw [decide_eq_false e] at k1
     have hne : ¬ a = b := fun c => e (by rw [c] at hx; rw [hx] at hy; simpa using hy)
     rw [decide_eq_false hne]
     repeat (first
      | refine wp_seqQ ?_ | refine wp_blockQ ?_ | refine wp_scopeQ ?_
      | ((first | refine wp_skipQ ?_ | refine wp_labelQ ?_ | refine wp_exitQ ?_ | refine wp_retQ ?_); simp only [kQ, Nat.reduceEqDiff, reduceIte])
      | ((first | refine wp_dreg B (id := 6) [0, 0, 3, 7, 0, 0, 48, 112, 255, 511] (by kernel_rfl) ?_ | refine wp_reg B ?_); simp (disch := omega) only [kW, kG, Nat.reduceEqDiff, reduceIte, Nat.reduceLT, Nat.reduceLeDiff, Nat.reduceAdd, Nat.reduceSub, Nat.reduceMul, Nat.reducePow, Nat.reduceDiv, Nat.reduceMod, evIndexAddr, TD.agg, evFieldAddr, binA_eqB ty4, binA_neB ty4, ty3, ty4, ty22, ty23, fn21, c_ElSame, ElSame_ans, t0, t1, t12, t13, g1, g2, k1])
      | refine wp_condT rfl ?_ | refine wp_condF rfl ?_)
     simp (disch := omega) only [kS, Nat.reduceEqDiff, reduceIte, Nat.reduceLT, Nat.reduceLeDiff, Nat.reduceAdd, Nat.reduceSub, Nat.reduceMul, Nat.reducePow, Nat.reduceDiv, Nat.reduceMod, evIndexAddr, TD.agg, evFieldAddr, binA_eqB ty4, binA_neB ty4, ty3, ty4, ty22, ty23, fn21, c_ElSame, ElSame_ans]
   ·have e : m = i := by omega
    subst e
    rw [hm, List.take_of_length_le (Nat.le_refl _), hl, List.take_of_length_le (Nat.le_refl _)] at he
    rw [decide_eq_true he]
    repeat (first
     | refine wp_seqQ ?_ | refine wp_blockQ ?_ | refine wp_scopeQ ?_
     | ((first | refine wp_skipQ ?_ | refine wp_labelQ ?_ | refine wp_exitQ ?_ | refine wp_retQ ?_); simp only [kQ, Nat.reduceEqDiff, reduceIte])
     | ((first | refine wp_dreg B (id := 6) [0, 0, 3, 7, 0, 0, 48, 112, 255, 511] (by kernel_rfl) ?_ | refine wp_reg B ?_); simp (disch := omega) only [kW, kG, Nat.reduceEqDiff, reduceIte, Nat.reduceLT, Nat.reduceLeDiff, Nat.reduceAdd, Nat.reduceSub, Nat.reduceMul, Nat.reducePow, Nat.reduceDiv, Nat.reduceMod, evIndexAddr, TD.agg, evFieldAddr, binA_eqB ty4, binA_neB ty4, ty3, ty4, ty22, ty23, fn21, c_ElSame, ElSame_ans, t0])
     | refine wp_condT rfl ?_ | refine wp_condF rfl ?_)
    simp (disch := omega) only [kS, Nat.reduceEqDiff, reduceIte, Nat.reduceLT, Nat.reduceLeDiff, Nat.reduceAdd, Nat.reduceSub, Nat.reduceMul, Nat.reducePow, Nat.reduceDiv, Nat.reduceMod, evIndexAddr, TD.agg, evFieldAddr, binA_eqB ty4, binA_neB ty4, ty3, ty4, ty22, ty23, fn21, c_ElSame, ElSame_ans]
 ·rw [decide_eq_false (fun c => hl (by rw [c]))]
  rw [lp, lq]
  unfold Try.f15 bodyOf entry; simp only [Option.getD_some, List.length_cons, List.length_nil, Nat.reduceAdd, Nat.reduceSub]
  repeat (first
   | refine wp_seqQ ?_ | refine wp_blockQ ?_ | refine wp_scopeQ ?_
   | ((first | refine wp_skipQ ?_ | refine wp_labelQ ?_ | refine wp_exitQ ?_ | refine wp_retQ ?_); simp only [kQ, Nat.reduceEqDiff, reduceIte])
   | ((first | refine wp_dreg B (id := 6) [0, 0, 3, 7, 0, 0, 48, 112, 255, 511] (by kernel_rfl) ?_ | refine wp_reg B ?_); simp (disch := omega) only [kW, kG, Nat.reduceEqDiff, reduceIte, Nat.reduceLT, Nat.reduceLeDiff, Nat.reduceAdd, Nat.reduceSub, Nat.reduceMul, Nat.reducePow, Nat.reduceDiv, Nat.reduceMod, evIndexAddr, TD.agg, evFieldAddr, binA_eqB ty4, binA_neB ty4, ty3, ty4, ty22, ty23, fn21, c_ElSame, ElSame_ans])
   | refine wp_condT rfl ?_ | refine wp_condF rfl ?_)
  simp (disch := omega) only [kS, Nat.reduceEqDiff, reduceIte, Nat.reduceLT, Nat.reduceLeDiff, Nat.reduceAdd, Nat.reduceSub, Nat.reduceMul, Nat.reducePow, Nat.reduceDiv, Nat.reduceMod, evIndexAddr, TD.agg, evFieldAddr, binA_eqB ty4, binA_neB ty4, ty3, ty4, ty22, ty23, fn21, c_ElSame, ElSame_ans]
def gP (h : Hp) (i : Nat) : Option (List AV) := match h.m i with
 | some (.cells l _ _) => if pureL l = true then some l else none
 | _ => none
theorem gP_at {h : Hp} {b : Nat} {l : List AV} {e : TypeId} {x : Bool} (hb : h.m b = some (.cells l e x)) (hp : pureL l = true) : gP h b = some l := by simp [gP, hb, hp]
theorem gP_gone {h : Hp} {i : Nat} {l : List AV} (hg : gP h i = some l) : pureL l = true ∧ ∃ l0 e x, h.m i = some (.cells l0 e x) ∧ FzL (gP h) l0 l := by
 unfold gP at hg
 split at hg
 ·rename_i l0 e x hm
  split at hg
  ·rename_i hp
   simp only [Option.some.injEq] at hg
   subst hg
   exact ⟨hp, _, e, x, hm, FzL.refl _ _⟩
  ·cases hg
 ·cases hg
theorem pure_ics (p : List Int) : pureL (p.map ic) = true := pureL_map (fun _ => rfl) p
theorem RowAt.fz {h : Hp} {r : AV} {p : List Int} (k : RowAt h r p) {g : Nat → Option (List AV)} (hg : ∀ b e x, h.m b = some (.cells (p.map ic) e x) → g b = some (p.map ic)) : Fz g r (irow p) := by
 rcases k with rfl | ⟨rfl, rfl⟩ | ⟨b, c, x, rfl, hc, hb⟩
 ·exact Fz.refl _ _
 ·exact Fz.nil (Nat.le_refl _) Nat.one_pos
 ·exact fz_slice (hg b _ x hb) hc (by simp)
theorem same_at {h : Hp} {r1 r2 : AV} {p q : List Int} (k1 : RowAt h r1 p) (k2 : RowAt h r2 q) (hp : p.length ≤ 1000000) (hq : q.length ≤ 1000000) : SemCall Try.prog 21 [r1, r2] h (.ret (.flat (.bool (decide (p = q))))) h :=
 sem_read (gP h) (same_sem p q hp hq _) (fun i l hi => gP_gone hi) (FzL.cons (k1.fz fun b e x hb => gP_at hb (pure_ics p)) (FzL.cons (k2.fz fun b e x hb => gP_at hb (pure_ics q)) (FzL.nil _))) (by simp [pureL, irow_pure])
theorem SlAt.row {base : Nat} {h : Hp} {v : AV} {l : List Nat} (k : SlAt base 3 h v (l.map pc)) : RowAt h v (l.map fun (x : Nat) => (x : Int)) := by
 have e : l.map pc = (l.map fun (x : Nat) => (x : Int)).map ic := by rw [List.map_map]; rfl
 rcases k with ⟨h1, rfl⟩ | ⟨B, rfl, h2, _⟩
 ·have := congrArg List.length h1
  simp only [List.length_map, List.length_nil] at this
  exact .inr (.inl ⟨rfl, by rw [List.eq_nil_of_length_eq_zero this]; rfl⟩)
 ·exact .inr (.inr ⟨B, .toEnd 1, true, by simp, rfl, by rw [← e]; exact h2⟩)
theorem OrbAt.rows {base : Nat} {h : Hp} {v : AV} {ls : List (List Nat)} (k : OrbAt base h v ls) : RowsAt h v (ls.map fun l => l.map fun (x : Nat) => (x : Int)) := by
 obtain ⟨rs, h1, h2, h3⟩ := k
 rcases h1 with ⟨rfl, rfl⟩ | ⟨B, rfl, hB, _⟩
 ·refine .inr (.inl ⟨rfl, ?_⟩)
  rw [List.eq_nil_of_length_eq_zero (l := ls) (by rw [← h2]; rfl)]; rfl
 ·refine .inr (.inr ⟨B, .toEnd 1, true, rs, by rw [List.length_map, h2], rfl, hB, by rw [List.length_map, h2], fun i p hp => ?_⟩)
  rw [List.getElem?_map] at hp
  obtain ⟨l, hl, rfl⟩ := Option.map_eq_some_iff.1 hp
  obtain ⟨B', q1, q2, _⟩ := h3 i l hl
  refine ⟨_, q1, .inr (.inr ⟨B', .toEnd 1, true, by simp, rfl, ?_⟩)⟩
  rw [q2, List.map_map]; rfl
def topOf : AV → Option Nat
 | .slice b _ _ _ => some b
 | _ => none
theorem lists_at {h : Hp} {v1 v2 : AV} {a b : List (List Int)} (k1 : RowsAt h v1 a) (k2 : RowsAt h v2 b) (hne : ∀ x, topOf v1 = some x → topOf v2 ≠ some x) (ha : a.length ≤ 1000000) (hb : b.length ≤ 1000000) (ha2 : ∀ p ∈ a, p.length ≤ 1000000) (hb2 : ∀ p ∈ b, p.length ≤ 1000000) :
    SemCall Try.prog 15 [v1, v2] h (.ret (.flat (.bool (decide (a = b))))) h := by
 obtain ⟨g, hg⟩ : ∃ g : Nat → Option (List AV), g = fun i => if topOf v1 = some i then some (a.map irow) else if topOf v2 = some i then some (b.map irow) else gP h i := ⟨_, rfl⟩
 have top : ∀ {v : AV} {a : List (List Int)} {i : Nat}, RowsAt h v a → topOf v = some i → ∃ l0 x, h.m i = some (.cells l0 23 x) ∧ l0.length = a.length ∧ ∀ (j : Nat) (p : List Int), a[j]? = some p → ∃ r, l0[j]? = some r ∧ RowAt h r p := fun k ht => by
  rcases k with rfl | ⟨rfl, rfl⟩ | ⟨B, c, x, rs, rfl, hc, hB, hl, hr⟩
  ·cases ht
  ·cases ht
  ·cases ht; exact ⟨rs, x, hB, hl, hr⟩
 have gi : ∀ {p : List Int} {i : Nat} {x : Bool}, h.m i = some (.cells (p.map ic) 3 x) → g i = some (p.map ic) := fun {p i x} hi => by
  have n1 : topOf v1 ≠ some i := fun c => by
   obtain ⟨l0, x', h1, _⟩ := top k1 c
   exact neT h1 hi (by decide) rfl
  have n2 : topOf v2 ≠ some i := fun c => by
   obtain ⟨l0, x', h1, _⟩ := top k2 c
   exact neT h1 hi (by decide) rfl
  rw [hg]
  simp only [if_neg n1, if_neg n2]
  exact gP_at hi (pure_ics p)
 have rowfz : ∀ {r : AV} {p : List Int}, RowAt h r p → Fz g r (irow p) := fun k => by
  rcases k with rfl | ⟨rfl, rfl⟩ | ⟨b, c, x, rfl, hc, hb⟩
  ·exact Fz.refl _ _
  ·exact Fz.nil (Nat.le_refl _) Nat.one_pos
  ·exact fz_slice (gi hb) hc (by simp)
 have rowsfz : ∀ {l0 : List AV} {a : List (List Int)}, l0.length = a.length → (∀ (j : Nat) (p : List Int), a[j]? = some p → ∃ r, l0[j]? = some r ∧ RowAt h r p) → FzL g l0 (a.map irow) := fun {l0 a} hl hr =>
  FzL.get (by rw [List.length_map, hl]) fun j x x' hx hx' => by
   rw [List.getElem?_map] at hx'
   obtain ⟨p, hp, rfl⟩ := Option.map_eq_some_iff.1 hx'
   obtain ⟨r, h1, h2⟩ := hr j p hp
   rw [hx] at h1
   simp only [Option.some.injEq] at h1
   subst h1
   exact rowfz h2
 have vfz : ∀ {v : AV} {a : List (List Int)}, RowsAt h v a → (∀ i, topOf v = some i → g i = some (a.map irow)) → Fz g v (irows a) := fun k hgt => by
  rcases k with rfl | ⟨rfl, rfl⟩ | ⟨B, c, x, rs, rfl, hc, hB, hl, hr⟩
  ·exact Fz.refl _ _
  ·exact Fz.nil (Nat.le_refl _) Nat.one_pos
  ·exact fz_slice (hgt B rfl) hc (by simp)
 refine sem_read g (lists_sem a b ha hb ha2 hb2 _) (fun i l hi => ?_) (FzL.cons (vfz k1 fun i hi => by rw [hg]; simp [hi]) (FzL.cons (vfz k2 fun i hi => by rw [hg]; simp only [if_neg (fun c => hne i c hi), if_pos hi]) (FzL.nil _))) (by simp [pureL, irows_pure])
 rw [hg] at hi
 dsimp only at hi
 split at hi
 ·rename_i c
  simp only [Option.some.injEq] at hi
  subst hi
  obtain ⟨l0, x, h1, h2, h3⟩ := top k1 c
  exact ⟨pureL_map irow_pure a, l0, _, x, h1, rowsfz h2 h3⟩
 ·split at hi
  ·rename_i c
   simp only [Option.some.injEq] at hi
   subst hi
   obtain ⟨l0, x, h1, h2, h3⟩ := top k2 c
   exact ⟨pureL_map irow_pure b, l0, _, x, h1, rowsfz h2 h3⟩
  ·obtain ⟨h1, l0, e, x, h2, _⟩ := gP_gone hi
   unfold gP at hi
   rw [h2] at hi
   dsimp only at hi
   split at hi
   ·simp only [Option.some.injEq] at hi
    subst hi
    exact ⟨h1, _, e, x, h2, FzL.refl _ _⟩
   ·cases hi
end Go.Proofs.Ytkffcclalncgdaa.Iv
end
section
set_option maxHeartbeats 8000000
set_option linter.unusedVariables false
set_option linter.unusedSimpArgs false
set_option maxRecDepth 10000
namespace Go.Proofs.Ytkffcclalncgdaa.Iv
open Go Go.Iv Go.RowKit Pg Ch
theorem base_zero {h : Hp} {C : Nat} {G a : AV} (hC : h.m C = some (.cells [a, G, nilS] 73 false)) (lC : C < h.next) : SemCall Try.prog 40 [.ptr C 0] h (.ret nilS) h := by
 refine sem_still tables.ok Try.func40 rfl rfl rfl rfl ?_
 have B := base0
 unfold nilS at *
 unfold Try.f40 bodyOf entry; simp only [Option.getD_some, List.length_cons, List.length_nil, Nat.reduceAdd, Nat.reduceSub]
 repeat (first
  | refine wp_seqQ ?_ | refine wp_blockQ ?_ | refine wp_scopeQ ?_
  | ((first | refine wp_skipQ ?_ | refine wp_labelQ ?_ | refine wp_exitQ ?_ | refine wp_retQ ?_); simp only [kQ, Nat.reduceEqDiff, reduceIte])
  | (refine wp_reg B ?_; simp (disch := omega) only [kW, Nat.reduceEqDiff, reduceIte, Nat.reduceLT, Nat.reduceLeDiff, Nat.reduceAdd, Nat.reduceSub, Nat.reduceMul, Nat.reducePow, Nat.reduceDiv, Nat.reduceMod, evIndexAddr, TD.agg, evFieldAddr, ty3, ty22, ty23, ty27, ty65, ty67, ty68, ty70, ty73, hC])
  | refine wp_condT rfl ?_ | refine wp_condF rfl ?_)
 refine wp_loopQ (fun k z => ∃ tm : Nat → Option AV, z = ⟨tm, 29, h, []⟩ ∧ tm 3 = some (.flat (.slice none 0 0)) ∧ tm 12 = some (.flat (.int .i64 0)) ∧ tm 13 = some (.flat (.int .i64 0))) 0 ?_ ?_
 ·exact ⟨_, rfl, rfl, rfl, rfl⟩
 ·rintro k z ⟨tm, rfl, t3, t12, t13⟩
  repeat (first
   | refine wp_seqQ ?_ | refine wp_blockQ ?_ | refine wp_scopeQ ?_
   | ((first | refine wp_skipQ ?_ | refine wp_labelQ ?_ | refine wp_exitQ ?_ | refine wp_retQ ?_); simp only [kQ, Nat.reduceEqDiff, reduceIte])
   | (refine wp_reg B ?_; simp (disch := omega) only [kW, Nat.reduceEqDiff, reduceIte, Nat.reduceLT, Nat.reduceLeDiff, Nat.reduceAdd, Nat.reduceSub, Nat.reduceMul, Nat.reducePow, Nat.reduceDiv, Nat.reduceMod, evIndexAddr, TD.agg, evFieldAddr, ty3, ty22, ty23, ty27, ty65, ty67, ty68, ty70, ty73, t3, t12, t13])
   | refine wp_condT rfl ?_ | refine wp_condF rfl ?_)
  simp (disch := omega) only [kS, Nat.reduceEqDiff, reduceIte, Nat.reduceLT, Nat.reduceLeDiff, Nat.reduceAdd, Nat.reduceSub, Nat.reduceMul, Nat.reducePow, Nat.reduceDiv, Nat.reduceMod, evIndexAddr, TD.agg, evFieldAddr, ty3, ty22, ty23, ty27, ty65, ty67, ty68, ty70, ty73]
theorem Base_none {h : Hp} {x : AV} (hb : SemCall Try.prog 40 [x] h (.ret nilS) h) : SemCall Try.prog 16 [x] h (.ret nilS) h := by
 refine sem_still tables.ok Try.func16 rfl rfl rfl rfl ?_
 obtain ⟨call, B, c1, _⟩ := call_at tables.ok mixed [] hb (Hp.Le.refl _)
 unfold nilS at *
 unfold Try.f16 bodyOf entry; simp only [Option.getD_some, List.length_cons, List.length_nil, Nat.reduceAdd, Nat.reduceSub]
 repeat (first
  | refine wp_seqQ ?_ | refine wp_blockQ ?_ | refine wp_scopeQ ?_
  | ((first | refine wp_skipQ ?_ | refine wp_labelQ ?_ | refine wp_exitQ ?_ | refine wp_retQ ?_); simp only [kQ, Nat.reduceEqDiff, reduceIte])
  | (refine wp_reg B ?_; simp (disch := omega) only [kW, Nat.reduceEqDiff, reduceIte, Nat.reduceLT, Nat.reduceLeDiff, Nat.reduceAdd, Nat.reduceSub, Nat.reduceMul, Nat.reducePow, Nat.reduceDiv, Nat.reduceMod, evIndexAddr, TD.agg, evFieldAddr, ty3, ty22, ty23, ty27, ty65, ty67, ty68, ty70, ty73, fn40, c1])
  | refine wp_condT rfl ?_ | refine wp_condF rfl ?_)
 refine wp_loopQ (fun k z => ∃ tm : Nat → Option AV, z = ⟨tm, 22, h, []⟩ ∧ tm 3 = some (.flat (.slice none 0 0)) ∧ tm 8 = some (.flat (.int .i64 0)) ∧ tm 9 = some (.flat (.int .i64 0))) 0 ?_ ?_
 ·exact ⟨_, rfl, rfl, rfl, rfl⟩
 ·rintro k z ⟨tm, rfl, t3, t8, t9⟩
  repeat (first
   | refine wp_seqQ ?_ | refine wp_blockQ ?_ | refine wp_scopeQ ?_
   | ((first | refine wp_skipQ ?_ | refine wp_labelQ ?_ | refine wp_exitQ ?_ | refine wp_retQ ?_); simp only [kQ, Nat.reduceEqDiff, reduceIte])
   | (refine wp_reg B ?_; simp (disch := omega) only [kW, Nat.reduceEqDiff, reduceIte, Nat.reduceLT, Nat.reduceLeDiff, Nat.reduceAdd, Nat.reduceSub, Nat.reduceMul, Nat.reducePow, Nat.reduceDiv, Nat.reduceMod, evIndexAddr, TD.agg, evFieldAddr, ty3, ty22, ty23, ty27, ty65, ty67, ty68, ty70, ty73, fn40, t3, t8, t9])
   | refine wp_condT rfl ?_ | refine wp_condF rfl ?_)
  simp (disch := omega) only [kS, Nat.reduceEqDiff, reduceIte, Nat.reduceLT, Nat.reduceLeDiff, Nat.reduceAdd, Nat.reduceSub, Nat.reduceMul, Nat.reducePow, Nat.reduceDiv, Nat.reduceMod, evIndexAddr, TD.agg, evFieldAddr, ty3, ty22, ty23, ty27, ty65, ty67, ty68, ty70, ty73, fn40]
theorem Orbits_none {h : Hp} {x : AV} (hb : SemCall Try.prog 40 [x] h (.ret nilS) h) : SemCall Try.prog 17 [x] h (.ret nilS) h := by
 refine sem_still tables.ok Try.func17 rfl rfl rfl rfl ?_
 obtain ⟨call, B, c1, _⟩ := call_at tables.ok mixed [] hb (Hp.Le.refl _)
 unfold nilS at *
 unfold Try.f17 bodyOf entry; simp only [Option.getD_some, List.length_cons, List.length_nil, Nat.reduceAdd, Nat.reduceSub]
 repeat (first
  | refine wp_seqQ ?_ | refine wp_blockQ ?_ | refine wp_scopeQ ?_
  | ((first | refine wp_skipQ ?_ | refine wp_labelQ ?_ | refine wp_exitQ ?_ | refine wp_retQ ?_); simp only [kQ, Nat.reduceEqDiff, reduceIte])
  | (refine wp_reg B ?_; simp (disch := omega) only [kW, Nat.reduceEqDiff, reduceIte, Nat.reduceLT, Nat.reduceLeDiff, Nat.reduceAdd, Nat.reduceSub, Nat.reduceMul, Nat.reducePow, Nat.reduceDiv, Nat.reduceMod, evIndexAddr, TD.agg, evFieldAddr, ty3, ty22, ty23, ty27, ty65, ty67, ty68, ty70, ty73, fn40, fn41, c1])
  | refine wp_condT rfl ?_ | refine wp_condF rfl ?_)
 refine wp_loopQ (fun k z => ∃ tm : Nat → Option AV, z = ⟨tm, 36, h, []⟩ ∧ tm 3 = some (.flat (.slice none 0 0)) ∧ tm 10 = some (.flat (.int .i64 0)) ∧ tm 11 = some (.flat (.int .i64 0))) 0 ?_ ?_
 ·exact ⟨_, rfl, rfl, rfl, rfl⟩
 ·rintro k z ⟨tm, rfl, t3, t8, t9⟩
  repeat (first
   | refine wp_seqQ ?_ | refine wp_blockQ ?_ | refine wp_scopeQ ?_
   | ((first | refine wp_skipQ ?_ | refine wp_labelQ ?_ | refine wp_exitQ ?_ | refine wp_retQ ?_); simp only [kQ, Nat.reduceEqDiff, reduceIte])
   | (refine wp_reg B ?_; simp (disch := omega) only [kW, Nat.reduceEqDiff, reduceIte, Nat.reduceLT, Nat.reduceLeDiff, Nat.reduceAdd, Nat.reduceSub, Nat.reduceMul, Nat.reducePow, Nat.reduceDiv, Nat.reduceMod, evIndexAddr, TD.agg, evFieldAddr, ty3, ty22, ty23, ty27, ty65, ty67, ty68, ty70, ty73, fn40, fn41, t3, t8, t9])
   | refine wp_condT rfl ?_ | refine wp_condF rfl ?_)
  simp (disch := omega) only [kS, Nat.reduceEqDiff, reduceIte, Nat.reduceLT, Nat.reduceLeDiff, Nat.reduceAdd, Nat.reduceSub, Nat.reduceMul, Nat.reducePow, Nat.reduceDiv, Nat.reduceMod, evIndexAddr, TD.agg, evFieldAddr, ty3, ty22, ty23, ty27, ty65, ty67, ty68, ty70, ty73, fn40, fn41]
theorem Order_zero {h : Hp} (born : ∀ i, h.next ≤ i → h.m i = none) {C : Nat} {G a : AV} (hC : h.m C = some (.cells [a, G, nilS] 73 false)) (lC : C < h.next) :
    ∃ e h', SemCall Try.prog 19 [.ptr C 0] h e h' ∧ Hp.Le h h' ∧ e = .ret (.flat (.string (decS 1))) ∧ (∀ i, i < h.next → h'.m i = h.m i) ∧ (∀ i, h'.next ≤ i → h'.m i = none) ∧ h.next ≤ h'.next := by
 refine sem_heap tables.ok Try.func19 rfl rfl rfl rfl ?_
 have B : Base Try.prog tab _ := tabL_base [EtOf, EtMul, EtText] tables.ok mixed
 generalize hL : tabL [EtOf, EtMul, EtText] = call at B
 have c_EtOf : ∀ a h, call 29 a h = EtOf.ans a h := fun _ _ => hL ▸ rfl
 have c_EtMul : ∀ a h, call 34 a h = EtMul.ans a h := fun _ _ => hL ▸ rfl
 have c_EtText : ∀ a h, call 30 a h = EtText.ans a h := fun _ _ => hL ▸ rfl
 clear hL
 have k0 : ∀ h, EtOf.ans [.flat (.int .u64 1)] h = some (.ret (.agg [nav 1]), h) := fun h => EtOf_ans 1 h (by decide)
 have k3 : ∀ h, EtText.ans [.agg [nav 1]] h = some (.ret (.flat (.string (decS 1))), h) := fun h => EtText_ans 1 h (by decide)
 unfold nilS at *
 unfold Try.f19 bodyOf entry; simp only [Option.getD_some, List.length_cons, List.length_nil, Nat.reduceAdd, Nat.reduceSub]
 repeat (first
  | refine wp_seqQ ?_ | refine wp_blockQ ?_ | refine wp_scopeQ ?_
  | ((first | refine wp_skipQ ?_ | refine wp_labelQ ?_ | refine wp_exitQ ?_ | refine wp_retQ ?_); simp only [kQ, Nat.reduceEqDiff, reduceIte])
  | ((first | refine wp_dreg B (id := 7) [0, 0, 2, 6, 14, 30, 62, 126, 255, 511, 1023, 1023, 2047] (by kernel_rfl) ?_ | refine wp_reg B ?_); simp (disch := omega) only [kW, kG, Nat.reduceEqDiff, reduceIte, Nat.reduceLT, Nat.reduceLeDiff, Nat.reduceAdd, Nat.reduceSub, Nat.reduceMul, Nat.reducePow, Nat.reduceDiv, Nat.reduceMod, evIndexAddr, TD.agg, evFieldAddr, ty3, ty22, ty23, ty27, ty50, ty52, ty54, ty65, ty67, ty68, ty70, ty73, ty86, fn29, fn34, fn30, c_EtOf, EtOf_ans, c_EtMul, EtMul_ans, c_EtText, EtText_ans, hC, k0])
  | refine wp_condT rfl ?_ | refine wp_condF rfl ?_)
 refine wp_loopQ (fun k z => ∃ (tm : Nat → Option AV) (hh : Hp), z = ⟨tm, 33, hh, []⟩ ∧ tm 3 = some (.ptr h.next 0) ∧ tm 13 = some (.flat (.int .i64 0)) ∧ tm 14 = some (.flat (.int .i64 0)) ∧ hh.m h.next = some (.cells [nav 1] 52 false) ∧ (∀ j, j < h.next → hh.m j = h.m j) ∧ (∀ j, hh.next ≤ j → hh.m j = none) ∧ h.next < hh.next) 0 ?_ ?_
 ·refine ⟨_, _, rfl, rfl, rfl, rfl, ?_, fun j hj => ?_, fun j hj => ?_, ?_⟩
  ·dsimp only; rw [upd_eq]
  ·dsimp only; rw [upd_ne _ _ (by omega), upd_ne _ _ (by omega)]
  ·dsimp only at hj ⊢; rw [upd_ne _ _ (by omega), upd_ne _ _ (by omega)]; exact born j (by omega)
  ·dsimp only; omega
 ·rintro k z ⟨tm, hh, rfl, t3, t13, t14, hcell, hold, hborn, hnx⟩
  repeat (first
   | refine wp_seqQ ?_ | refine wp_blockQ ?_ | refine wp_scopeQ ?_
   | ((first | refine wp_skipQ ?_ | refine wp_labelQ ?_ | refine wp_exitQ ?_ | refine wp_retQ ?_); simp only [kQ, Nat.reduceEqDiff, reduceIte])
   | ((first | refine wp_dreg B (id := 7) [0, 0, 2, 6, 14, 30, 62, 126, 255, 511, 1023, 1023, 2047] (by kernel_rfl) ?_ | refine wp_reg B ?_); simp (disch := omega) only [kW, kG, Nat.reduceEqDiff, reduceIte, Nat.reduceLT, Nat.reduceLeDiff, Nat.reduceAdd, Nat.reduceSub, Nat.reduceMul, Nat.reducePow, Nat.reduceDiv, Nat.reduceMod, evIndexAddr, TD.agg, evFieldAddr, ty3, ty22, ty23, ty27, ty50, ty52, ty54, ty65, ty67, ty68, ty70, ty73, ty86, fn29, fn34, fn30, c_EtOf, EtOf_ans, c_EtMul, EtMul_ans, c_EtText, EtText_ans, t3, t13, t14, hcell, k3])
   | refine wp_condT rfl ?_ | refine wp_condF rfl ?_)
  simp (disch := omega) only [kS, Nat.reduceEqDiff, reduceIte, Nat.reduceLT, Nat.reduceLeDiff, Nat.reduceAdd, Nat.reduceSub, Nat.reduceMul, Nat.reducePow, Nat.reduceDiv, Nat.reduceMod, evIndexAddr, TD.agg, evFieldAddr, ty3, ty22, ty23, ty27, ty50, ty52, ty54, ty65, ty67, ty68, ty70, ty73, ty86, fn29, fn34, fn30, c_EtOf, EtOf_ans, c_EtMul, EtMul_ans, c_EtText, EtText_ans]
  exact ⟨hold, hborn, by omega⟩
def bet (n : Nat) : Nat → Nat := fun k => ap (List.range n) k
theorem bet_id (n k : Nat) : bet n k = k := ap_range n k
structure Chained {n : Nat} (gens : List (Pm n)) (C : Nat) (h : Hp) : Prop where
 ch : IsChain (List.range n) gens C h
 lt : C < h.next
 born : ∀ i, h.next ≤ i → h.m i = none
theorem Chained.mono {n : Nat} {gens : List (Pm n)} {C : Nat} {h h' : Hp} (k : Chained gens C h) (hr : ∀ i, i < h.next → h'.m i = h.m i) (hb : ∀ i, h'.next ≤ i → h'.m i = none) (hn : h.next ≤ h'.next) : Chained gens C h' := by
 obtain ⟨⟨y, G, gb, st, rfl, h1, h2, h3⟩, lt, born⟩ := k
 refine ⟨⟨y, G, gb, st, rfl, fun h0 => ⟨(h1 h0).1.mono hr hb, (h1 h0).2⟩, fun h0 => by rw [hr _ lt]; exact h2 h0, ?_⟩, by omega, hb⟩
 rcases h3 with h3 | ⟨b, e, hG⟩
 ·exact .inl h3
 ·exact .inr ⟨b, e, by rw [hr b (lt_next born hG)]; exact hG⟩
theorem chBase {n : Nat} (hn : n ≤ 64) {gens : List (Pm n)} {C : Nat} {h : Hp} (k : Chained gens C h) :
    ∃ v h', SemCall Try.prog 16 [.ptr C 0] h (.ret v) h' ∧ Hp.Le h h' ∧ SlAt h.next 3 h' v ((baseK (bet n) gens).map pc) ∧ (∀ i, i < h.next → h'.m i = h.m i) ∧ (∀ i, h'.next ≤ i → h'.m i = none) ∧ h.next ≤ h'.next := by
 obtain ⟨⟨y, G, gb, st, rfl, h1, h2, h3⟩, lt, born⟩ := k
 rcases Nat.eq_zero_or_pos n with h0 | h0
 ·subst h0
  refine ⟨nilS, h, Base_none (base_zero (h2 rfl) lt), Hp.Le.refl _, .inl ⟨rfl, rfl⟩, fun _ _ => rfl, born, Nat.le_refl _⟩
 ·obtain ⟨s, o⟩ := h1 h0
  obtain ⟨e, h', sc, le, v, rfl, q1, q2, q3, q4⟩ := Base_sem hn h0 (fun k hk => (is_range n).lt k hk) s o
  refine ⟨v, h', sc, le, ?_, q2, q3, q4⟩
  have e1 : (baseK (fun k => ap (List.range n) k) gens).map (fun k => ap (List.range n) k) = baseK (bet n) gens := by
   conv => rhs; rw [← List.map_id (baseK (bet n) gens)]
   exact List.map_congr_left fun x _ => ap_range n x
  rw [e1] at q1
  exact q1
theorem chOrbits {n : Nat} (hn : n ≤ 64) {gens : List (Pm n)} {C : Nat} {h : Hp} (k : Chained gens C h) :
    ∃ v h', SemCall Try.prog 17 [.ptr C 0] h (.ret v) h' ∧ Hp.Le h h' ∧ OrbAt h.next h' v ((baseK (bet n) gens).map (orbK (bet n) gens)) ∧ (∀ i, i < h.next → h'.m i = h.m i) ∧ (∀ i, h'.next ≤ i → h'.m i = none) ∧ h.next ≤ h'.next := by
 obtain ⟨⟨y, G, gb, st, rfl, h1, h2, h3⟩, lt, born⟩ := k
 rcases Nat.eq_zero_or_pos n with h0 | h0
 ·subst h0
  exact ⟨nilS, h, Orbits_none (base_zero (h2 rfl) lt), Hp.Le.refl _, ⟨[], .inl ⟨rfl, rfl⟩, rfl, fun i l hl => by simp [baseK] at hl⟩, fun _ _ => rfl, born, Nat.le_refl _⟩
 ·obtain ⟨s, o⟩ := h1 h0
  obtain ⟨e, h', sc, le, v, rfl, q1, q2, q3, q4⟩ := Orbits_sem hn h0 (fun k hk => (is_range n).lt k hk) s o
  exact ⟨v, h', sc, le, q1, q2, q3, q4⟩
theorem chOrder {n : Nat} (hn : n ≤ 64) {gens : List (Pm n)} {C : Nat} {h : Hp} (k : Chained gens C h) :
    ∃ h', SemCall Try.prog 19 [.ptr C 0] h (.ret (.flat (.string (decS (ordK (bet n) gens))))) h' ∧ Hp.Le h h' ∧ (∀ i, i < h.next → h'.m i = h.m i) ∧ (∀ i, h'.next ≤ i → h'.m i = none) ∧ h.next ≤ h'.next := by
 obtain ⟨⟨y, G, gb, st, rfl, h1, h2, h3⟩, lt, born⟩ := k
 rcases Nat.eq_zero_or_pos n with h0 | h0
 ·subst h0
  obtain ⟨e, h', sc, le, rfl, q2, q3, q4⟩ := Order_zero born (h2 rfl) lt
  exact ⟨h', sc, le, q2, q3, q4⟩
 ·obtain ⟨s, o⟩ := h1 h0
  obtain ⟨e, h', sc, le, rfl, q2, q3, q4⟩ := Order_sem hn h0 s o
  exact ⟨h', sc, le, q2, q3, q4⟩
theorem chHas {n : Nat} (hn : n ≤ 64) {gens : List (Pm n)} {C : Nat} {h : Hp} (k : Chained gens C h) (q : Pm n) :
    SemCall Try.prog 23 [.ptr C 0, pl q.l] h (.ret (.tuple [.flat (.bool (hasB gens q)), .flat (.int .i64 0)])) h := has_ok (is_range n) k.ch k.lt q hn
end Go.Proofs.Ytkffcclalncgdaa.Iv
end
section
set_option maxHeartbeats 8000000
set_option linter.unusedVariables false
set_option linter.unusedSimpArgs false
set_option maxRecDepth 100000
namespace Go.Proofs.Ytkffcclalncgdaa.Iv
open Go Go.Iv Go.RowKit Pg Ch
theorem bet_ok (n : Nat) : (∀ k, k < n → bet n k < n) ∧ ∀ j k, j < n → k < n → bet n j = bet n k → j = k := ⟨fun k hk => by rw [bet_id]; exact hk, fun j k _ _ e => by rwa [bet_id, bet_id] at e⟩
theorem calc_of {n : Nat} (hn : 0 < n) (gens : List (Pm n)) (F : Nat) (st0 : St n) (h : addAll false (bet n) F gens (begin_ n (bet n)) = some st0) : Of (bet n) gens st0 := by
 obtain ⟨f, st, h1, h2⟩ := group_ok (bet_ok n).1 (bet_ok n).2 false hn gens
 have e1 := addAll_mono false (Nat.le_add_right f F) gens _ _ h1
 have e2 := addAll_mono false (Nat.le_add_left F f) gens _ _ h
 rw [e1] at e2
 simp only [Option.some.injEq] at e2
 rw [← e2]; exact h2
def tabK {n : Nat} (st : St n) : List (List Nat) := (List.range n).map fun k => keys (st.T k)
theorem calc_orb {n : Nat} (hn : 0 < n) (gens : List (Pm n)) (F : Nat) (tb : List (List Nat)) (h : (addAll false (bet n) F gens (begin_ n (bet n))).map tabK = some tb) : (∀ k, k < n → orbK (bet n) gens k = tb.getD k []) := by
 obtain ⟨st0, h0, rfl⟩ := Option.map_eq_some_iff.1 h
 have o := calc_of hn gens F st0 h0
 intro k hk
 rw [← orbK_keys o hk, tabK, List.getD_eq_getElem?_getD, List.getElem?_map, List.getElem?_range hk]; rfl
theorem calc_base {n : Nat} {gens : List (Pm n)} {tb : List (List Nat)} (h : ∀ k, k < n → orbK (bet n) gens k = tb.getD k []) : baseK (bet n) gens = (List.range n).filter fun k => decide (1 < (tb.getD k []).length) := by
 unfold baseK
 refine List.filter_congr fun k hk => ?_
 rw [h k (List.mem_range.1 hk)]
theorem prodTo_congr {f g : Nat → Nat} : ∀ n, (∀ k, k < n → f k = g k) → prodTo f n = prodTo g n
 | 0, _ => rfl
 | n + 1, h => by rw [prodTo, prodTo, prodTo_congr n fun k hk => h k (by omega), h n (by omega)]
theorem calc_ord {n : Nat} {gens : List (Pm n)} {tb : List (List Nat)} (h : ∀ k, k < n → orbK (bet n) gens k = tb.getD k []) : ordK (bet n) gens = prodTo (fun k => (tb.getD k []).length) n := by
 unfold ordK
 exact prodTo_congr n fun k hk => by rw [h k hk]
theorem calc_has {n : Nat} (hn : 0 < n) (gens : List (Pm n)) (q : Pm n) (F : Nat) (b : Bool) (h : (addAll false (bet n) F gens (begin_ n (bet n))).map (fun st => (sift (bet n) st n 0 q).isSome) = some b) : hasB gens q = b := by
 obtain ⟨st0, h0, rfl⟩ := Option.map_eq_some_iff.1 h
 have o := (calc_of hn gens F st0 h0).mem 0 (Nat.zero_le _) q fun j hj => absurd hj (Nat.not_lt_zero j)
 unfold In at o
 rw [Nat.sub_zero] at o
 cases hs : (sift (bet n) st0 n 0 q).isSome with
 | true => exact hasB_true (o.1 hs)
 | false => exact hasB_false fun c => by have := o.2 c; rw [hs] at this; cases this
def w1 : Pm 4 := ⟨[1, 0, 2, 3], ⟨rfl, by decide, fun i j hi hj => (by decide : ∀ i, i < 4 → ∀ j, j < 4 → ap [1, 0, 2, 3] i = ap [1, 0, 2, 3] j → i = j) i hi j hj⟩⟩
def w2 : Pm 4 := ⟨[1, 2, 3, 0], ⟨rfl, by decide, fun i j hi hj => (by decide : ∀ i, i < 4 → ∀ j, j < 4 → ap [1, 2, 3, 0] i = ap [1, 2, 3, 0] j → i = j) i hi j hj⟩⟩
def w3 : Pm 3 := ⟨[1, 2, 0], ⟨rfl, by decide, fun i j hi hj => (by decide : ∀ i, i < 3 → ∀ j, j < 3 → ap [1, 2, 0] i = ap [1, 2, 0] j → i = j) i hi j hj⟩⟩
def w4 : Pm 3 := ⟨[1, 0, 2], ⟨rfl, by decide, fun i j hi hj => (by decide : ∀ i, i < 3 → ∀ j, j < 3 → ap [1, 0, 2] i = ap [1, 0, 2] j → i = j) i hi j hj⟩⟩
theorem s4_orb : ∀ k, k < 4 → orbK (bet 4) [w1, w2] k = [[0, 1, 2, 3], [1, 2, 3], [2, 3], [3]].getD k [] := calc_orb (by decide) _ 60 _ (by kernel_rfl)
theorem a3_has : hasB [w3] w4 = false := calc_has (by decide) _ _ 60 _ (by kernel_rfl)
theorem s4_base : baseK (bet 4) [w1, w2] = [0, 1, 2] := by rw [calc_base s4_orb]; rfl
theorem s4_ord : ordK (bet 4) [w1, w2] = 24 := by rw [calc_ord s4_orb]; rfl
theorem s4_orbs : (baseK (bet 4) [w1, w2]).map (orbK (bet 4) [w1, w2]) = [[0, 1, 2, 3], [1, 2, 3], [2, 3]] := by
 rw [s4_base]
 simp only [List.map_cons, List.map_nil]
 rw [s4_orb 0 (by decide), s4_orb 1 (by decide), s4_orb 2 (by decide)]; rfl
theorem dec24 : Go.Proofs.Ytkffcclalncgdaa.Iv.decS 24 = ⟨#[50, 52]⟩ := by
 have e1 : Tx.decL 24 = [4, 2] := by rw [Tx.decL_pos (by decide), Tx.decL_pos (by decide)]; simp [Tx.decL_zero]
 unfold decS
 rw [if_neg (by decide), e1]; rfl
theorem nums_inj {n : Nat} {p q : Pm n} (h : nums p = nums q) : p = q := pm_ext (by
 have := congrArg (List.map Int.toNat) h
 unfold nums at this
 rw [List.map_map, List.map_map] at this
 have e : ∀ l : List Nat, l.map (Int.toNat ∘ fun (x : Nat) => (x : Int)) = l := fun l => by
  conv => rhs; rw [← List.map_id l]
  exact List.map_congr_left fun _ _ => rfl
 rwa [e, e] at this)
theorem nums_map_inj {n : Nat} : ∀ {ps qs : List (Pm n)}, ps.map nums = qs.map nums → ps = qs
 | [], [], _ => rfl
 | [], _ :: _, h => by simp at h
 | _ :: _, [], h => by simp at h
 | p :: ps, q :: qs, h => by
  simp only [List.map_cons, List.cons.injEq] at h
  rw [nums_inj h.1, nums_map_inj h.2]
end Go.Proofs.Ytkffcclalncgdaa.Iv
end
section
set_option maxHeartbeats 16000000
set_option linter.unusedVariables false
set_option linter.unusedSimpArgs false
set_option maxRecDepth 100000
namespace Go.Proofs.Ytkffcclalncgdaa.Iv
open Go Go.Iv Go.RowKit Pg Ch
theorem rowLit {h : Hp} {b n : Nat} {p : List Int} {x : Bool} (hl : p.length = n) (hb : h.m b = some (.cells (p.map ic) 3 x)) : RowAt h (.slice b 0 n (.exact n)) p := by
 subst hl
 exact .inr (.inr ⟨b, .exact p.length, x, rfl, Nat.le_refl _, hb⟩)
theorem ok_pm {n : Nat} (hn : n ≤ 64) (qs : List (Pm n)) : ∀ p ∈ qs.map nums, OkRow n p := fun p hp => by
 obtain ⟨q, _, rfl⟩ := List.mem_map.1 hp
 exact ⟨nums_len q, check_pm hn q⟩
theorem new_good {n : Nat} (hn : n ≤ 64) (qs : List (Pm n)) (hq : qs.length ≤ 16) (h : Hp) (born : ∀ i, h.next ≤ i → h.m i = none) (v : AV) (hv : RowsAt h v (qs.map nums)) :
    ∃ C h', SemCall Try.prog 13 [pc n, v] h (.ret (.tuple [.ptr C 0, .flat (.int .i64 0)])) h' ∧ Hp.Le h h' ∧ h.next ≤ C ∧ Chained qs C h' ∧ (∀ i, i < h.next → h'.m i = h.m i) ∧ h.next ≤ h'.next := by
 obtain ⟨e, h', sc, le, k⟩ := new_sem hn (qs.map nums) (by rw [List.length_map]; exact hq) (fun p hp => by rw [(ok_pm hn qs p hp).1]; omega) h born v hv
 rcases k with ⟨h1, _⟩ | ⟨qs', C, e1, rfl, hC, hch, hold, hb⟩
 ·exact absurd (ok_pm hn qs) h1
 ·have := nums_map_inj e1
  subst this
  obtain ⟨G, kv, hh⟩ := hch.head
  exact ⟨C, h', sc, le, hC, ⟨hch, lt_next hb hh, hb⟩, hold, le.next⟩
theorem RunF.tms {P : Program} {ops : Array Oper} {k : Nat} {T : Nat → Option AV} {n : Nat} {h : Hp} {ds : List ADef} {Q : AExit → St → Prop} (S : Nat → Prop) (j : ∀ tm, (∀ u, S u → tm u = T u) → RunF P ops k ⟨tm, n, h, ds⟩ Q) : RunF P ops k ⟨T, n, h, ds⟩ Q := j T fun _ _ => rfl
theorem RowAt.below {h h' : Hp} {r : AV} {p : List Int} (k : RowAt h r p) (born : ∀ i, h.next ≤ i → h.m i = none) (hs : ∀ i, i < h.next → h'.m i = h.m i) : RowAt h' r p := k.mono fun i hi => hs i (Decidable.byContradiction fun c => hi (born i (by omega)))
theorem RowsAt.below {h h' : Hp} {v : AV} {ps : List (List Int)} (k : RowsAt h v ps) (born : ∀ i, h.next ≤ i → h.m i = none) (hs : ∀ i, i < h.next → h'.m i = h.m i) : RowsAt h' v ps := k.mono fun i hi => hs i (Decidable.byContradiction fun c => hi (born i (by omega)))
theorem RowsAt.top {h : Hp} {v : AV} {ps : List (List Int)} (k : RowsAt h v ps) (born : ∀ i, h.next ≤ i → h.m i = none) : ∀ x, topOf v = some x → x < h.next := fun x hx => by
 rcases k with rfl | ⟨rfl, rfl⟩ | ⟨b, c, x', rs, rfl, _, hb, _⟩
 ·cases hx
 ·cases hx
 ·cases hx; exact lt_next born hb
theorem works_sem (h : Hp) : SemCall Try.prog 10 [] h (.ret (.flat (.bool true))) h := by
 refine sem_pure tables.ok Try.func10 rfl rfl rfl rfl rfl rfl ?_ h
 have B := base0
 unfold Try.f10 bodyOf entry; simp only [Option.getD_some, List.length_cons, List.length_nil, Nat.reduceAdd, Nat.reduceSub]
 repeat (first
  | refine wp_seqQ ?_ | refine wp_blockQ ?_ | refine wp_scopeQ ?_
  | ((first | refine wp_skipQ ?_ | refine wp_labelQ ?_ | refine wp_exitQ ?_ | refine wp_retQ ?_); simp only [kQ, Nat.reduceEqDiff, reduceIte])
  | ((fail_if_success refine wp_reg (id := 1) B ?_); refine wp_reg B ?_; simp (disch := omega) only [kW, Nat.reduceEqDiff, reduceIte, Nat.reduceLT, Nat.reduceLeDiff, Nat.reduceAdd, Nat.reduceSub, Nat.reduceMul, Nat.reducePow, Nat.reduceDiv, Nat.reduceMod, evIndexAddr, TD.agg, evFieldAddr, binA_eqB ty4, binA_neB ty4, ty3, ty4, ty9, ty22, ty23, ty27, ty28, ty65, ty67, ty68, ty70, ty73, fn13, fn16, fn17, fn23, fn19, fn21, fn15])
  | refine wp_condT rfl ?_ | refine wp_condF rfl ?_)
 refine RunF.wp ?_
 refine RunF.ops B 3 (by decide) ?_
 simp (disch := omega) only [kW, kG, Nat.reduceEqDiff, reduceIte, Nat.reduceLT, Nat.reduceLeDiff, Nat.reduceAdd, Nat.reduceSub, Nat.reduceMul, Nat.reducePow, Nat.reduceDiv, Nat.reduceMod, evIndexAddr, TD.agg, evFieldAddr, binA_eqB ty4, binA_neB ty4, ty3, ty4, ty9, ty22, ty23, ty27, ty28, ty65, ty67, ty68, ty70, ty73, fn13, fn16, fn17, fn23, fn19, fn21, fn15, cleanI, cleanN]
 refine goN_name fun h1 hh1 => ?_
 have r0 : h1.m 0 = some (.cells ([1, 0, 2, 3].map ic) 3 false) := by rw [hh1]; rfl
 have r1 : h1.m 1 = some (.cells ([1, 2, 3, 0].map ic) 3 false) := by rw [hh1]; rfl
 have r2 : h1.m 2 = some (.cells [.slice 0 0 4 (.exact 4), .slice 1 0 4 (.exact 4)] 23 false) := by rw [hh1]; rfl
 have n1 : h1.next = 3 := by rw [hh1]; rfl
 have born1 : ∀ i, h1.next ≤ i → h1.m i = none := fun i hi => by
  rw [n1] at hi
  rw [hh1]
  show upd (upd (upd Hp.empty.m 0 _) 1 _) 2 _ i = none
  rw [upd_ne _ _ (by omega), upd_ne _ _ (by omega), upd_ne _ _ (by omega)]; rfl
 have hv1 : RowsAt h1 (.slice 2 0 2 (.exact 2)) ([w1, w2].map nums) := .inr (.inr ⟨2, .exact 2, false, _, rfl, Nat.le_refl 2, r2, rfl, fun i p hp => by
  match i, hp with
  | 0, hp => cases hp; exact ⟨_, rfl, rowLit rfl r0⟩
  | 1, hp => cases hp; exact ⟨_, rfl, rowLit rfl r1⟩
  | i + 2, hp => simp at hp⟩)
 clear hh1
 refine RunF.tms (fun u => u = 12) fun tm hT => ?_
 have t12 : tm 12 = some (.slice 2 0 2 (.exact 2)) := (hT 12 rfl).trans rfl
 clear hT
 obtain ⟨C, h2, sc, le, hC, ch2, hold2, hn2⟩ := new_good (n := 4) (by decide) [w1, w2] (by decide) h1 born1 _ hv1
 obtain ⟨call, B1, c1, _⟩ := call_at tables.ok mixed [] sc le
 have z4 : ((4 : Nat) : Int) = 4 := rfl
 have z3 : ((3 : Nat) : Int) = 3 := rfl
 simp only [pc, z4] at c1
 clear r0 r1 r2 hv1 sc le
 refine RunF.ops B1 6 (by decide) ?_
 simp (disch := omega) only [kW, kG, Nat.reduceEqDiff, reduceIte, Nat.reduceLT, Nat.reduceLeDiff, Nat.reduceAdd, Nat.reduceSub, Nat.reduceMul, Nat.reducePow, Nat.reduceDiv, Nat.reduceMod, evIndexAddr, TD.agg, evFieldAddr, binA_eqB ty4, binA_neB ty4, ty3, ty4, ty9, ty22, ty23, ty27, ty28, ty65, ty67, ty68, ty70, ty73, fn13, fn16, fn17, fn23, fn19, fn21, fn15, t12, c1]
 simp only [goN_some]
 refine RunF.done (by decide) ?_
 simp only [thenQ_normal]
 refine WP.tms (fun u => u = 1 ∨ u = 2) fun tm2 hT => ?_
 have u1 : tm2 1 = some (.ptr C 0) := (hT 1 (by simp)).trans rfl
 have u2 : tm2 2 = some (.flat (.int .i64 0)) := (hT 2 (by simp)).trans rfl
 clear hT t12 tm c1 B1
 repeat (first
  | refine wp_seqQ ?_ | refine wp_blockQ ?_ | refine wp_scopeQ ?_
  | ((first | refine wp_skipQ ?_ | refine wp_labelQ ?_ | refine wp_exitQ ?_ | refine wp_retQ ?_); simp only [kQ, Nat.reduceEqDiff, reduceIte])
  | ((fail_if_success refine wp_reg (id := 4) B ?_); refine wp_reg B ?_; simp (disch := omega) only [kW, Nat.reduceEqDiff, reduceIte, Nat.reduceLT, Nat.reduceLeDiff, Nat.reduceAdd, Nat.reduceSub, Nat.reduceMul, Nat.reducePow, Nat.reduceDiv, Nat.reduceMod, evIndexAddr, TD.agg, evFieldAddr, binA_eqB ty4, binA_neB ty4, ty3, ty4, ty9, ty22, ty23, ty27, ty28, ty65, ty67, ty68, ty70, ty73, fn13, fn16, fn17, fn23, fn19, fn21, fn15, u1, u2])
  | refine wp_condT rfl ?_ | refine wp_condF rfl ?_)
 refine WP.tms (fun u => u = 1) fun tm3 hT => ?_
 have v1 : tm3 1 = some (.ptr C 0) := (hT 1 (by simp)).trans u1
 clear hT u1 u2 tm2
 obtain ⟨vb, h3, sb, leb, hvb, hold3, hb3, hn3⟩ := chBase (by decide) ch2
 have ch3 := ch2.mono hold3 hb3 hn3
 obtain ⟨vo, h4, so, leo, hvo, hold4, hb4, hn4⟩ := chOrbits (by decide) ch3
 have ch4 := ch3.mono hold4 hb4 hn4
 rw [s4_base] at hvb
 rw [s4_orbs] at hvo
 have hb' := (hvb.below hb3 hold4).row
 have ho' := hvo.rows
 obtain ⟨call, B2, c1, c2⟩ := call_at2 tables.ok mixed sb leb so leo (by decide)
 clear B sb leb so leo hvb hvo
 refine wp_reg B2 ?_
 simp (disch := omega) only [kW, kG, Nat.reduceEqDiff, reduceIte, Nat.reduceLT, Nat.reduceLeDiff, Nat.reduceAdd, Nat.reduceSub, Nat.reduceMul, Nat.reducePow, Nat.reduceDiv, Nat.reduceMod, evIndexAddr, TD.agg, evFieldAddr, binA_eqB ty4, binA_neB ty4, ty3, ty4, ty9, ty22, ty23, ty27, ty28, ty65, ty67, ty68, ty70, ty73, fn13, fn16, fn17, fn23, fn19, fn21, fn15, v1, c1, c2]
 refine WP.tms (fun u => u = 1 ∨ u = 3 ∨ u = 4) fun tm4 hT => ?_
 have u1 : tm4 1 = some (.ptr C 0) := (hT 1 (by simp)).trans v1
 have u3 : tm4 3 = some vb := (hT 3 (by simp)).trans rfl
 have u4 : tm4 4 = some vo := (hT 4 (by simp)).trans rfl
 clear hT v1 tm3 c1 c2 B2
 have B := base0
 refine wp_seqQ ?_
 refine RunF.wp ?_
 refine RunF.ops B 2 (by decide) ?_
 simp (disch := omega) only [kW, kG, Nat.reduceEqDiff, reduceIte, Nat.reduceLT, Nat.reduceLeDiff, Nat.reduceAdd, Nat.reduceSub, Nat.reduceMul, Nat.reducePow, Nat.reduceDiv, Nat.reduceMod, evIndexAddr, TD.agg, evFieldAddr, binA_eqB ty4, binA_neB ty4, ty3, ty4, ty9, ty22, ty23, ty27, ty28, ty65, ty67, ty68, ty70, ty73, fn13, fn16, fn17, fn23, fn19, fn21, fn15, cleanI, cleanN]
 refine goN_name fun h5 hh5 => ?_
 have s0 : h5.m h4.next = some (.cells ([1, 2, 0].map ic) 3 false) := by rw [hh5]; dsimp only; rw [upd_ne _ _ (by omega), upd_eq]; rfl
 have s1 : h5.m (h4.next + 1) = some (.cells [.slice h4.next 0 3 (.exact 3)] 23 false) := by rw [hh5]; dsimp only; rw [upd_eq]
 have n5 : h5.next = h4.next + 2 := by rw [hh5]
 have hold5 : ∀ i, i < h4.next → h5.m i = h4.m i := fun i hi => by rw [hh5]; dsimp only; rw [upd_ne _ _ (by omega), upd_ne _ _ (by omega)]
 have hb5 : ∀ i, h5.next ≤ i → h5.m i = none := fun i hi => by rw [n5] at hi; rw [hh5]; dsimp only; rw [upd_ne _ _ (by omega), upd_ne _ _ (by omega)]; exact hb4 i (by omega)
 clear hh5
 have ch5 := ch4.mono hold5 hb5 (by omega)
 have hb5' := hb'.below hb4 hold5
 have ho5 := ho'.below hb4 hold5
 have hv5 : RowsAt h5 (.slice (h4.next + 1) 0 1 (.exact 1)) ([w3].map nums) := .inr (.inr ⟨_, .exact 1, false, _, rfl, Nat.le_refl 1, s1, rfl, fun i p hp => by
  match i, hp with
  | 0, hp => cases hp; exact ⟨_, rfl, rowLit rfl s0⟩
  | i + 1, hp => simp at hp⟩)
 obtain ⟨D, h6, sc, le, hD, cd6, hold6, hn6⟩ := new_good (n := 3) (by decide) [w3] (by decide) h5 hb5 _ hv5
 have ch6 := ch5.mono hold6 cd6.born hn6
 have hb6' := hb5'.below hb5 hold6
 have ho6 := ho5.below hb5 hold6
 obtain ⟨call, B3, c1, _⟩ := call_at tables.ok mixed [] sc le
 simp only [pc, z3] at c1
 clear s0 s1 hv5 sc le hb' ho'
 refine RunF.tms (fun u => u = 28 ∨ u = 1 ∨ u = 3 ∨ u = 4) fun tm5 hT => ?_
 have w28 : tm5 28 = some (.slice (h4.next + 1) 0 1 (.exact 1)) := (hT 28 (by simp)).trans rfl
 have w1' : tm5 1 = some (.ptr C 0) := (hT 1 (by simp)).trans u1
 have w3' : tm5 3 = some vb := (hT 3 (by simp)).trans u3
 have w4' : tm5 4 = some vo := (hT 4 (by simp)).trans u4
 clear hT u1 u3 u4 tm4
 refine RunF.ops B3 6 (by decide) ?_
 simp (disch := omega) only [kW, kG, Nat.reduceEqDiff, reduceIte, Nat.reduceLT, Nat.reduceLeDiff, Nat.reduceAdd, Nat.reduceSub, Nat.reduceMul, Nat.reducePow, Nat.reduceDiv, Nat.reduceMod, evIndexAddr, TD.agg, evFieldAddr, binA_eqB ty4, binA_neB ty4, ty3, ty4, ty9, ty22, ty23, ty27, ty28, ty65, ty67, ty68, ty70, ty73, fn13, fn16, fn17, fn23, fn19, fn21, fn15, w28, c1]
 simp only [goN_some]
 refine RunF.done (by decide) ?_
 simp only [thenQ_normal]
 refine WP.tms (fun u => u = 1 ∨ u = 3 ∨ u = 4 ∨ u = 5 ∨ u = 6) fun tm6 hT => ?_
 have u1 : tm6 1 = some (.ptr C 0) := (hT 1 (by simp)).trans w1'
 have u3 : tm6 3 = some vb := (hT 3 (by simp)).trans w3'
 have u4 : tm6 4 = some vo := (hT 4 (by simp)).trans w4'
 have u5 : tm6 5 = some (.ptr D 0) := (hT 5 (by simp)).trans rfl
 have u6 : tm6 6 = some (.flat (.int .i64 0)) := (hT 6 (by simp)).trans rfl
 clear hT w28 w1' w3' w4' tm5 c1 B3
 repeat (first
  | refine wp_seqQ ?_ | refine wp_blockQ ?_ | refine wp_scopeQ ?_
  | ((first | refine wp_skipQ ?_ | refine wp_labelQ ?_ | refine wp_exitQ ?_ | refine wp_retQ ?_); simp only [kQ, Nat.reduceEqDiff, reduceIte])
  | ((fail_if_success refine wp_reg (id := 8) B ?_); refine wp_reg B ?_; simp (disch := omega) only [kW, Nat.reduceEqDiff, reduceIte, Nat.reduceLT, Nat.reduceLeDiff, Nat.reduceAdd, Nat.reduceSub, Nat.reduceMul, Nat.reducePow, Nat.reduceDiv, Nat.reduceMod, evIndexAddr, TD.agg, evFieldAddr, binA_eqB ty4, binA_neB ty4, ty3, ty4, ty9, ty22, ty23, ty27, ty28, ty65, ty67, ty68, ty70, ty73, fn13, fn16, fn17, fn23, fn19, fn21, fn15, u5, u6])
  | refine wp_condT rfl ?_ | refine wp_condF rfl ?_)
 refine WP.tms (fun u => u = 1 ∨ u = 3 ∨ u = 4 ∨ u = 5) fun tm7 hT => ?_
 have v1 : tm7 1 = some (.ptr C 0) := (hT 1 (by simp)).trans u1
 have v3 : tm7 3 = some vb := (hT 3 (by simp)).trans u3
 have v4 : tm7 4 = some vo := (hT 4 (by simp)).trans u4
 have v5 : tm7 5 = some (.ptr D 0) := (hT 5 (by simp)).trans u5
 clear hT u1 u3 u4 u5 u6 tm6
 refine RunF.wp ?_
 refine RunF.ops B 2 (by decide) ?_
 simp (disch := omega) only [kW, kG, Nat.reduceEqDiff, reduceIte, Nat.reduceLT, Nat.reduceLeDiff, Nat.reduceAdd, Nat.reduceSub, Nat.reduceMul, Nat.reducePow, Nat.reduceDiv, Nat.reduceMod, evIndexAddr, TD.agg, evFieldAddr, binA_eqB ty4, binA_neB ty4, ty3, ty4, ty9, ty22, ty23, ty27, ty28, ty65, ty67, ty68, ty70, ty73, fn13, fn16, fn17, fn23, fn19, fn21, fn15, v5, cleanI]
 refine goN_name fun h7 hh7 => ?_
 have s0 : h7.m h6.next = some (.cells ([1, 0, 2].map ic) 3 false) := by rw [hh7]; dsimp only; rw [upd_eq]; rfl
 have n7 : h7.next = h6.next + 1 := by rw [hh7]
 have hold7 : ∀ i, i < h6.next → h7.m i = h6.m i := fun i hi => by rw [hh7]; dsimp only; rw [upd_ne _ _ (by omega)]
 have hb7 : ∀ i, h7.next ≤ i → h7.m i = none := fun i hi => by rw [n7] at hi; rw [hh7]; dsimp only; rw [upd_ne _ _ (by omega)]; exact cd6.born i (by omega)
 clear hh7
 refine RunF.view (view1 (t := 40) (b := h6.next) (x := .slice h6.next 0 3 (.exact 3)) (x' := irow [1, 0, 2]) rfl s0 (pure_ics _) fun g hg => fz_slice hg (Nat.le_refl 3) (by decide)) ?_
 obtain ⟨h8, hh8⟩ : ∃ h8 : Hp, h8 = ⟨h7.next, h7.low, upd h7.m h6.next none⟩ := ⟨_, rfl⟩
 rw [← hh8]
 have n8 : h8.next = h7.next := by rw [hh8]
 have hold8 : ∀ i, i < h6.next → h8.m i = h6.m i := fun i hi => by rw [hh8]; dsimp only; rw [upd_ne _ _ (by omega)]; exact hold7 i hi
 have hb8 : ∀ i, h8.next ≤ i → h8.m i = none := fun i hi => by rw [n8, n7] at hi; rw [hh8]; dsimp only; rw [upd_ne _ _ (by omega)]; exact hb7 i (by omega)
 clear hh8
 have ch8 := ch6.mono hold8 hb8 (by omega)
 have cd8 := cd6.mono hold8 hb8 (by omega)
 have hb8' := hb6'.below cd6.born hold8
 have ho8 := ho6.below cd6.born hold8
 have sh := chHas (by decide) cd8 w4
 rw [a3_has, ← nums_irow] at sh
 obtain ⟨call, B4, c1, _⟩ := call_at tables.ok mixed [] sh (Hp.Le.refl _)
 refine RunF.tms (fun u => u = 1 ∨ u = 3 ∨ u = 4 ∨ u = 39 ∨ u = 40) fun tm8 hT => ?_
 have u1 : tm8 1 = some (.ptr C 0) := (hT 1 (by simp)).trans v1
 have u3 : tm8 3 = some vb := (hT 3 (by simp)).trans v3
 have u4 : tm8 4 = some vo := (hT 4 (by simp)).trans v4
 have u39 : tm8 39 = some (.ptr D 0) := (hT 39 (by simp)).trans rfl
 have u40 : tm8 40 = some (irow (nums w4)) := (hT 40 (by simp)).trans rfl
 clear hT v1 v3 v4 v5 tm7 s0
 refine RunF.ops B4 6 (by decide) ?_
 simp (disch := omega) only [kW, kG, Nat.reduceEqDiff, reduceIte, Nat.reduceLT, Nat.reduceLeDiff, Nat.reduceAdd, Nat.reduceSub, Nat.reduceMul, Nat.reducePow, Nat.reduceDiv, Nat.reduceMod, evIndexAddr, TD.agg, evFieldAddr, binA_eqB ty4, binA_neB ty4, ty3, ty4, ty9, ty22, ty23, ty27, ty28, ty65, ty67, ty68, ty70, ty73, fn13, fn16, fn17, fn23, fn19, fn21, fn15, u39, u40, c1]
 simp only [goN_some]
 refine RunF.done (by decide) ?_
 simp only [thenQ_normal]
 refine WP.tms (fun u => u = 1 ∨ u = 3 ∨ u = 4 ∨ u = 7 ∨ u = 8) fun tm9 hT => ?_
 have v1 : tm9 1 = some (.ptr C 0) := (hT 1 (by simp)).trans u1
 have v3 : tm9 3 = some vb := (hT 3 (by simp)).trans u3
 have v4 : tm9 4 = some vo := (hT 4 (by simp)).trans u4
 have v7 : tm9 7 = some (.flat (.bool false)) := (hT 7 (by simp)).trans rfl
 have v8 : tm9 8 = some (.flat (.int .i64 0)) := (hT 8 (by simp)).trans rfl
 clear hT u1 u3 u4 u39 u40 tm8 c1 B4
 obtain ⟨h9, so, leo, hold9, hb9, hn9⟩ := chOrder (by decide) ch8
 rw [s4_ord, dec24] at so
 have hb9' := hb8'.below hb8 hold9
 have ho9 := ho8.below hb8 hold9
 obtain ⟨call, B5, c1, _⟩ := call_at tables.ok mixed [] so leo
 refine wp_seqQ ?_
 refine RunF.wp ?_
 refine RunF.ops B5 6 (by decide) ?_
 have e24 : decide ((⟨#[50, 52]⟩ : ByteArray) = ⟨#[50, 52]⟩) = true := by simp
 simp (disch := omega) only [kW, kG, Nat.reduceEqDiff, reduceIte, Nat.reduceLT, Nat.reduceLeDiff, Nat.reduceAdd, Nat.reduceSub, Nat.reduceMul, Nat.reducePow, Nat.reduceDiv, Nat.reduceMod, evIndexAddr, TD.agg, evFieldAddr, binA_eqB ty4, binA_neB ty4, ty3, ty4, ty9, ty22, ty23, ty27, ty28, ty65, ty67, ty68, ty70, ty73, fn13, fn16, fn17, fn23, fn19, fn21, fn15, v1, v3, c1, cleanI, binA_strE, e24]
 refine goN_name fun h10 hh10 => ?_
 have s0 : h10.m h9.next = some (.cells ([0, 1, 2].map ic) 3 false) := by rw [hh10]; dsimp only; rw [upd_eq]; rfl
 have n10 : h10.next = h9.next + 1 := by rw [hh10]
 have hold10 : ∀ i, i < h9.next → h10.m i = h9.m i := fun i hi => by rw [hh10]; dsimp only; rw [upd_ne _ _ (by omega)]
 have hb10 : ∀ i, h10.next ≤ i → h10.m i = none := fun i hi => by rw [n10] at hi; rw [hh10]; dsimp only; rw [upd_ne _ _ (by omega)]; exact hb9 i (by omega)
 clear hh10
 have hb10' := hb9'.below hb9 hold10
 have ho10 := ho9.below hb9 hold10
 have ss := same_at hb10' (rowLit (n := 3) rfl s0) (by decide) (by decide)
 rw [decide_eq_true (show ([0, 1, 2].map fun (x : Nat) => (x : Int)) = [0, 1, 2] by decide)] at ss
 obtain ⟨call, B6, c1, _⟩ := call_at tables.ok mixed [] ss (Hp.Le.refl _)
 refine RunF.tms (fun u => u = 4 ∨ u = 7 ∨ u = 8 ∨ u = 47 ∨ u = 48 ∨ u = 49) fun tm10 hT => ?_
 have u4 : tm10 4 = some vo := (hT 4 (by simp)).trans v4
 have u7 : tm10 7 = some (.flat (.bool false)) := (hT 7 (by simp)).trans v7
 have u8 : tm10 8 = some (.flat (.int .i64 0)) := (hT 8 (by simp)).trans v8
 have u47 : tm10 47 = some (.flat (.bool true)) := (hT 47 (by simp)).trans rfl
 have u48 : tm10 48 = some vb := (hT 48 (by simp)).trans rfl
 have u49 : tm10 49 = some (.slice h9.next 0 3 (.exact 3)) := (hT 49 (by simp)).trans rfl
 clear hT v1 v3 v4 v7 v8 tm9
 refine RunF.ops B6 8 (by decide) ?_
 simp (disch := omega) only [kW, kG, Nat.reduceEqDiff, reduceIte, Nat.reduceLT, Nat.reduceLeDiff, Nat.reduceAdd, Nat.reduceSub, Nat.reduceMul, Nat.reducePow, Nat.reduceDiv, Nat.reduceMod, evIndexAddr, TD.agg, evFieldAddr, binA_eqB ty4, binA_neB ty4, ty3, ty4, ty9, ty22, ty23, ty27, ty28, ty65, ty67, ty68, ty70, ty73, fn13, fn16, fn17, fn23, fn19, fn21, fn15, u4, u47, u48, u49, c1, cleanI, cleanN]
 refine goN_name fun h11 hh11 => ?_
 obtain ⟨b, hb⟩ : ∃ b, b = h10.next := ⟨_, rfl⟩
 rw [← hb] at hh11
 have q0 : h11.m b = some (.cells ([0, 1, 2, 3].map ic) 3 false) := by rw [hh11]; dsimp only; rw [upd_ne _ _ (by omega), upd_ne _ _ (by omega), upd_ne _ _ (by omega), upd_eq]; rfl
 have q1 : h11.m (b + 1) = some (.cells ([1, 2, 3].map ic) 3 false) := by rw [hh11]; dsimp only; rw [upd_ne _ _ (by omega), upd_ne _ _ (by omega), upd_eq]; rfl
 have q2 : h11.m (b + 2) = some (.cells ([2, 3].map ic) 3 false) := by rw [hh11]; dsimp only; rw [upd_ne _ _ (by omega), upd_eq]; rfl
 have q3 : h11.m (b + 3) = some (.cells [.slice b 0 4 (.exact 4), .slice (b + 1) 0 3 (.exact 3), .slice (b + 2) 0 2 (.exact 2)] 23 false) := by rw [hh11]; dsimp only; rw [upd_eq]
 have n11 : h11.next = b + 4 := by rw [hh11]
 have hold11 : ∀ i, i < h10.next → h11.m i = h10.m i := fun i hi => by rw [hh11]; dsimp only; rw [upd_ne _ _ (by omega), upd_ne _ _ (by omega), upd_ne _ _ (by omega), upd_ne _ _ (by omega)]
 clear hh11
 have ho11 := ho10.below hb10 hold11
 have hlit : RowsAt h11 (.slice (b + 3) 0 3 (.exact 3)) [[0, 1, 2, 3], [1, 2, 3], [2, 3]] := .inr (.inr ⟨_, .exact 3, false, _, rfl, Nat.le_refl 3, q3, rfl, fun i p hp => by
  match i, hp with
  | 0, hp => cases hp; exact ⟨_, rfl, rowLit rfl q0⟩
  | 1, hp => cases hp; exact ⟨_, rfl, rowLit rfl q1⟩
  | 2, hp => cases hp; exact ⟨_, rfl, rowLit rfl q2⟩
  | i + 3, hp => simp at hp⟩)
 have ll := lists_at ho11 hlit (fun x hx c => by
  have h1 := ho10.top hb10 x hx
  simp only [topOf, Option.some.injEq] at c
  omega) (by decide) (by decide) (by decide) (by decide)
 rw [decide_eq_true (show ([[0, 1, 2, 3], [1, 2, 3], [2, 3]].map fun l => l.map fun (x : Nat) => (x : Int)) = [[0, 1, 2, 3], [1, 2, 3], [2, 3]] by decide)] at ll
 obtain ⟨call, B7, c1, _⟩ := call_at tables.ok mixed [] ll (Hp.Le.refl _)
 refine RunF.tms (fun u => u = 7 ∨ u = 8 ∨ u = 52 ∨ u = 53 ∨ u = 57) fun tm11 hT => ?_
 have v7 : tm11 7 = some (.flat (.bool false)) := (hT 7 (by simp)).trans u7
 have v8 : tm11 8 = some (.flat (.int .i64 0)) := (hT 8 (by simp)).trans u8
 have v52 : tm11 52 = some (.flat (.bool true)) := (hT 52 (by simp)).trans rfl
 have v53 : tm11 53 = some vo := (hT 53 (by simp)).trans rfl
 have v57 : tm11 57 = some (.slice (b + 3) 0 3 (.exact 3)) := by rw [hb]; exact (hT 57 (by simp)).trans rfl
 clear hT u4 u7 u8 u47 u48 u49 tm10
 refine RunF.ops B7 11 (by decide) ?_
 simp (disch := omega) only [kW, kG, Nat.reduceEqDiff, reduceIte, Nat.reduceLT, Nat.reduceLeDiff, Nat.reduceAdd, Nat.reduceSub, Nat.reduceMul, Nat.reducePow, Nat.reduceDiv, Nat.reduceMod, evIndexAddr, TD.agg, evFieldAddr, binA_eqB ty4, binA_neB ty4, ty3, ty4, ty9, ty22, ty23, ty27, ty28, ty65, ty67, ty68, ty70, ty73, fn13, fn16, fn17, fn23, fn19, fn21, fn15, v7, v8, v52, v53, v57, c1]
 simp only [goN_some]
 refine RunF.done (by decide) ?_
 simp only [thenQ_normal]
 repeat (first
  | refine wp_seqQ ?_ | refine wp_blockQ ?_ | refine wp_scopeQ ?_
  | ((first | refine wp_skipQ ?_ | refine wp_labelQ ?_ | refine wp_exitQ ?_ | refine wp_retQ ?_); simp only [kQ, Nat.reduceEqDiff, reduceIte])
  | (refine wp_reg B ?_; simp (disch := omega) only [kW, Nat.reduceEqDiff, reduceIte, Nat.reduceLT, Nat.reduceLeDiff, Nat.reduceAdd, Nat.reduceSub, Nat.reduceMul, Nat.reducePow, Nat.reduceDiv, Nat.reduceMod, evIndexAddr, TD.agg, evFieldAddr, binA_eqB ty4, binA_neB ty4, ty3, ty4, ty9, ty22, ty23, ty27, ty28, ty65, ty67, ty68, ty70, ty73, fn13, fn16, fn17, fn23, fn19, fn21, fn15])
  | refine wp_condT rfl ?_ | refine wp_condF rfl ?_)
 simp (disch := omega) only [kS, Nat.reduceEqDiff, reduceIte, Nat.reduceLT, Nat.reduceLeDiff, Nat.reduceAdd, Nat.reduceSub, Nat.reduceMul, Nat.reducePow, Nat.reduceDiv, Nat.reduceMod, evIndexAddr, TD.agg, evFieldAddr, binA_eqB ty4, binA_neB ty4, ty3, ty4, ty9, ty22, ty23, ty27, ty28, ty65, ty67, ty68, ty70, ty73, fn13, fn16, fn17, fn23, fn19, fn21, fn15]
end Go.Proofs.Ytkffcclalncgdaa.Iv
end
section
set_option maxHeartbeats 16000000
set_option linter.unusedVariables false
set_option linter.unusedSimpArgs false
set_option maxRecDepth 10000
namespace Go.Proofs.Ytkffcclalncgdaa.Iv
open Go Go.Iv Go.RowKit Pg Ch
section
variable {n : Nat} {g1 g2 : List (Pm n)} (h : ∀ q, Mon g1 q ↔ Mon g2 q) {β : Nat → Nat}
include h
theorem orb_same {k x : Nat} : Orb β g1 k x ↔ Orb β g2 k x := by
 unfold Orb
 exact ⟨fun ⟨p, a, b⟩ => ⟨p, (h p).1 a, b⟩, fun ⟨p, a, b⟩ => ⟨p, (h p).2 a, b⟩⟩
theorem orbK_same : orbK β g1 = orbK β g2 := by
 funext k
 unfold orbK
 exact List.filter_congr fun x _ => decide_eq_decide.2 (orb_same h)
theorem baseK_same : baseK β g1 = baseK β g2 := by
 unfold baseK
 rw [orbK_same h]
theorem ordK_same : ordK β g1 = ordK β g2 := by
 unfold ordK
 rw [orbK_same h]
theorem hasB_same (q : Pm n) : hasB g1 q = hasB g2 q := by
 unfold hasB
 exact decide_eq_decide.2 (h q)
end
theorem mon_same {n : Nat} {g1 g2 : List (Pm n)} (h1 : ∀ g ∈ g1, Mon g2 g) (h2 : ∀ g ∈ g2, Mon g1 g) (q : Pm n) : Mon g1 q ↔ Mon g2 q := ⟨fun k => k.into h1, fun k => k.into h2⟩
theorem checked_at {h : Hp} {v : AV} {ps : List (List Int)} (hv : RowsAt h v ps) (hps : ps.length ≤ 1000000) (hok : ∀ p ∈ ps, p.length ≤ 1000000 ∧ checkP p = 0) : SemCall Try.prog 48 [v] h (.ret (.flat (.int .i64 0))) h := by
 refine sem_still tables.ok Try.func48 rfl rfl rfl rfl ?_
 have B := base0
 have hl0 := rows_len hv
 obtain ⟨m, hm⟩ : ∃ m, m = ps.length := ⟨_, rfl⟩
 rw [← hm] at hl0
 unfold Try.f48 bodyOf entry; simp only [Option.getD_some, List.length_cons, List.length_nil, Nat.reduceAdd, Nat.reduceSub]
 repeat (first
  | refine wp_seqQ ?_ | refine wp_blockQ ?_ | refine wp_scopeQ ?_
  | ((first | refine wp_skipQ ?_ | refine wp_labelQ ?_ | refine wp_exitQ ?_ | refine wp_retQ ?_); simp only [kQ, Nat.reduceEqDiff, reduceIte])
  | (refine wp_reg B ?_; simp (disch := omega) only [kW, Nat.reduceEqDiff, reduceIte, Nat.reduceLT, Nat.reduceLeDiff, Nat.reduceAdd, Nat.reduceSub, Nat.reduceMul, Nat.reducePow, Nat.reduceDiv, Nat.reduceMod, evIndexAddr, TD.agg, evFieldAddr, ty3, ty22, ty23, ty28, fn28, hl0])
  | refine wp_condT rfl ?_ | refine wp_condF rfl ?_)
 refine wp_loopQ (fun f' z => ∃ (i : Nat) (tm : Nat → Option AV), z = ⟨tm, 18, h, []⟩ ∧ f' = m - i ∧ i ≤ m ∧ tm 6 = some v ∧ tm 7 = some (.flat (.int .i64 (m : Int))) ∧ tm 8 = some (.flat (.int .i64 (i : Int)))) m ?_ ?_
 ·exact ⟨0, _, rfl, rfl, Nat.zero_le _, rfl, rfl, rfl⟩
 ·rintro f' z ⟨i, tm, rfl, rfl, hi, t6, t7, t8⟩
  repeat (first
   | refine wp_seqQ ?_ | refine wp_blockQ ?_ | refine wp_scopeQ ?_
   | ((first | refine wp_skipQ ?_ | refine wp_labelQ ?_ | refine wp_exitQ ?_ | refine wp_retQ ?_); simp only [kQ, Nat.reduceEqDiff, reduceIte])
   | (refine wp_reg B ?_; simp (disch := omega) only [kW, Nat.reduceEqDiff, reduceIte, Nat.reduceLT, Nat.reduceLeDiff, Nat.reduceAdd, Nat.reduceSub, Nat.reduceMul, Nat.reducePow, Nat.reduceDiv, Nat.reduceMod, evIndexAddr, TD.agg, evFieldAddr, ty3, ty22, ty23, ty28, fn28, t6, t7, t8])
   | refine wp_condT rfl ?_ | refine wp_condF rfl ?_)
  refine wp_if rfl (fun ilt => ?_) (fun ige => ?_)
  ·obtain ⟨p, hp⟩ : ∃ p, ps[i]? = some p := ⟨_, List.getElem?_eq_getElem (by omega)⟩
   have hpm := List.mem_of_getElem? hp
   repeat (first
    | refine wp_seqQ ?_ | refine wp_blockQ ?_ | refine wp_scopeQ ?_
    | ((first | refine wp_skipQ ?_ | refine wp_labelQ ?_ | refine wp_exitQ ?_ | refine wp_retQ ?_); simp only [kQ, Nat.reduceEqDiff, reduceIte])
    | ((fail_if_success refine wp_reg (id := 3) B ?_); refine wp_reg B ?_; simp (disch := omega) only [kW, Nat.reduceEqDiff, reduceIte, Nat.reduceLT, Nat.reduceLeDiff, Nat.reduceAdd, Nat.reduceSub, Nat.reduceMul, Nat.reducePow, Nat.reduceDiv, Nat.reduceMod, evIndexAddr, TD.agg, evFieldAddr, ty3, ty22, ty23, ty28, fn28, t6, t7, t8])
    | refine wp_condT rfl ?_ | refine wp_condF rfl ?_)
   refine WP.mono (Q := fun e s' => e = .normal ∧ ∃ (tm : Nat → Option AV) (r : AV), s' = ⟨tm, 18, h, []⟩ ∧ tm 6 = some v ∧ tm 7 = some (.flat (.int .i64 (m : Int))) ∧ tm 8 = some (.flat (.int .i64 (i : Int))) ∧ tm 4 = some r ∧ RowAt h r p) ?_ ?_
   ·rcases hv with e | ⟨_, e⟩ | ⟨b, cp, x, rs, e, hcp, hb, hl, hr⟩
    ·rw [e, ← hm] at t6
     have hpi := rows_get hp
     repeat (first
      | refine wp_seqQ ?_ | refine wp_blockQ ?_ | refine wp_scopeQ ?_
      | ((first | refine wp_skipQ ?_ | refine wp_labelQ ?_ | refine wp_exitQ ?_ | refine wp_retQ ?_); simp only [kQ, Nat.reduceEqDiff, reduceIte])
      | (refine wp_reg B ?_; simp (disch := omega) only [kW, Nat.reduceEqDiff, reduceIte, Nat.reduceLT, Nat.reduceLeDiff, Nat.reduceAdd, Nat.reduceSub, Nat.reduceMul, Nat.reducePow, Nat.reduceDiv, Nat.reduceMod, evIndexAddr, TD.agg, evFieldAddr, ty3, ty22, ty23, ty28, fn28, t6, t7, t8, hpi])
      | refine wp_condT rfl ?_ | refine wp_condF rfl ?_)
     exact ⟨_, _, rfl, by rw [e, ← hm]; exact t6, t7, t8, rfl, .inl rfl⟩
    ·rw [e] at hm; simp at hm; omega
    ·obtain ⟨r, h1, h2⟩ := hr i p hp
     rw [e, ← hm] at t6
     rw [← hm] at hl
     repeat (first
      | refine wp_seqQ ?_ | refine wp_blockQ ?_ | refine wp_scopeQ ?_
      | ((first | refine wp_skipQ ?_ | refine wp_labelQ ?_ | refine wp_exitQ ?_ | refine wp_retQ ?_); simp only [kQ, Nat.reduceEqDiff, reduceIte])
      | (refine wp_reg B ?_; simp (disch := omega) only [kW, Nat.reduceEqDiff, reduceIte, Nat.reduceLT, Nat.reduceLeDiff, Nat.reduceAdd, Nat.reduceSub, Nat.reduceMul, Nat.reducePow, Nat.reduceDiv, Nat.reduceMod, evIndexAddr, TD.agg, evFieldAddr, ty3, ty22, ty23, ty28, fn28, t6, t7, t8, hb, h1, hl])
      | refine wp_condT rfl ?_ | refine wp_condF rfl ?_)
     exact ⟨_, _, rfl, by rw [e, ← hm]; exact t6, t7, t8, rfl, h2⟩
   ·rintro e s' ⟨rfl, tm, r, rfl, t6, t7, t8, t4, hr⟩
    simp only [thenQ_normal]
    have sc := check_at hr (by have := (hok p hpm).1; omega)
    rw [(hok p hpm).2] at sc
    obtain ⟨call, B, c1, _⟩ := call_at tables.ok mixed [] sc (Hp.Le.refl _)
    repeat (first
     | refine wp_seqQ ?_ | refine wp_blockQ ?_ | refine wp_scopeQ ?_
     | ((first | refine wp_skipQ ?_ | refine wp_labelQ ?_ | refine wp_exitQ ?_ | refine wp_retQ ?_); simp only [kQ, Nat.reduceEqDiff, reduceIte])
     | (refine wp_reg B ?_; simp (disch := omega) only [kW, Nat.reduceEqDiff, reduceIte, Nat.reduceLT, Nat.reduceLeDiff, Nat.reduceAdd, Nat.reduceSub, Nat.reduceMul, Nat.reducePow, Nat.reduceDiv, Nat.reduceMod, evIndexAddr, TD.agg, evFieldAddr, ty3, ty22, ty23, ty28, fn28, t6, t7, t8, t4, c1])
     | refine wp_condT rfl ?_ | refine wp_condF rfl ?_)
    refine ⟨_, ?_, i + 1, _, rfl, rfl, by omega, t6, t7, rfl⟩
    omega
  ·repeat (first
     | refine wp_seqQ ?_ | refine wp_blockQ ?_ | refine wp_scopeQ ?_
     | ((first | refine wp_skipQ ?_ | refine wp_labelQ ?_ | refine wp_exitQ ?_ | refine wp_retQ ?_); simp only [kQ, Nat.reduceEqDiff, reduceIte])
     | (refine wp_reg B ?_; simp (disch := omega) only [kW, Nat.reduceEqDiff, reduceIte, Nat.reduceLT, Nat.reduceLeDiff, Nat.reduceAdd, Nat.reduceSub, Nat.reduceMul, Nat.reducePow, Nat.reduceDiv, Nat.reduceMod, evIndexAddr, TD.agg, evFieldAddr, ty3, ty22, ty23, ty28, fn28, t6, t7, t8])
     | refine wp_condT rfl ?_ | refine wp_condF rfl ?_)
   simp (disch := omega) only [kS, Nat.reduceEqDiff, reduceIte, Nat.reduceLT, Nat.reduceLeDiff, Nat.reduceAdd, Nat.reduceSub, Nat.reduceMul, Nat.reducePow, Nat.reduceDiv, Nat.reduceMod, evIndexAddr, TD.agg, evFieldAddr, ty3, ty22, ty23, ty28, fn28]
def beyondB (n : Int) (gs : List (List Int)) : Bool := gs.any (fun g => decide (g.length > 100)) || (decide (n > 40) && decide (n ≤ 64) || (decide (gs.length > 8) && decide (gs.length ≤ 16) || decide (gs.length > 100)))
theorem beyond_sem (n : Int) (gs : List (List Int)) (hg : gs.length ≤ 4611686018427387904) (h : Hp) : SemCall Try.prog 11 [.flat (.int .i64 n), irows gs] h (.ret (.flat (.bool (beyondB n gs)))) h := by
 refine sem_pure tables.ok Try.func11 rfl rfl rfl rfl (by simp [pureL, irows_pure, AV.pure]) rfl ?_ h
 have B := base0
 obtain ⟨m, hm⟩ : ∃ m, m = gs.length := ⟨_, rfl⟩
 have lp : irows gs = .isl (gs.map irow) 1 0 m := by rw [hm]; rfl
 rw [lp]
 unfold Try.f11 bodyOf entry; simp only [Option.getD_some, List.length_cons, List.length_nil, Nat.reduceAdd, Nat.reduceSub]
 repeat (first
  | refine wp_seqQ ?_ | refine wp_blockQ ?_ | refine wp_scopeQ ?_
  | ((first | refine wp_skipQ ?_ | refine wp_labelQ ?_ | refine wp_exitQ ?_ | refine wp_retQ ?_); simp only [kQ, Nat.reduceEqDiff, reduceIte])
  | (refine wp_reg B ?_; simp (disch := omega) only [kW, Nat.reduceEqDiff, reduceIte, Nat.reduceLT, Nat.reduceLeDiff, Nat.reduceAdd, Nat.reduceSub, Nat.reduceMul, Nat.reducePow, Nat.reduceDiv, Nat.reduceMod, evIndexAddr, TD.agg, evFieldAddr, ty3, ty22, ty23])
  | refine wp_condT rfl ?_ | refine wp_condF rfl ?_)
 refine wp_loopQ (fun f' z => ∃ (i : Nat) (tm : Nat → Option AV) (h : Hp), z = ⟨tm, 39, h, []⟩ ∧ f' = m - i ∧ i ≤ m ∧ tm 0 = some (.flat (.int .i64 n)) ∧ tm 1 = some (.isl (gs.map irow) 1 0 m) ∧ tm 7 = some (.flat (.int .i64 (m : Int))) ∧ tm 8 = some (.flat (.int .i64 (i : Int))) ∧ ∀ g ∈ gs.take i, g.length ≤ 100) m ?_ ?_
 ·exact ⟨0, _, _, rfl, rfl, Nat.zero_le _, rfl, rfl, rfl, rfl, fun g hg => by simp at hg⟩
 ·rintro f' z ⟨i, tm, h, rfl, rfl, hi, t0, t1, t7, t8, hok⟩
  repeat (first
   | refine wp_seqQ ?_ | refine wp_blockQ ?_ | refine wp_scopeQ ?_
   | ((first | refine wp_skipQ ?_ | refine wp_labelQ ?_ | refine wp_exitQ ?_ | refine wp_retQ ?_); simp only [kQ, Nat.reduceEqDiff, reduceIte])
   | (refine wp_reg B ?_; simp (disch := omega) only [kW, Nat.reduceEqDiff, reduceIte, Nat.reduceLT, Nat.reduceLeDiff, Nat.reduceAdd, Nat.reduceSub, Nat.reduceMul, Nat.reducePow, Nat.reduceDiv, Nat.reduceMod, evIndexAddr, TD.agg, evFieldAddr, ty3, ty22, ty23, t0, t1, t7, t8])
   | refine wp_condT rfl ?_ | refine wp_condF rfl ?_)
  refine wp_if rfl (fun ilt => ?_) (fun ige => ?_)
  ·obtain ⟨g, hp⟩ : ∃ g, gs[i]? = some g := ⟨_, List.getElem?_eq_getElem (by omega)⟩
   have hgm := List.mem_of_getElem? hp
   have g1 := rows_get hp
   have lr := len_irow g
   by_cases e : g.length > 100
   ·have hb : beyondB n gs = true := by
      unfold beyondB
      rw [List.any_eq_true.2 ⟨g, hgm, decide_eq_true e⟩]; rfl
    rw [hb]
    repeat (first
     | refine wp_seqQ ?_ | refine wp_blockQ ?_ | refine wp_scopeQ ?_
     | ((first | refine wp_skipQ ?_ | refine wp_labelQ ?_ | refine wp_exitQ ?_ | refine wp_retQ ?_); simp only [kQ, Nat.reduceEqDiff, reduceIte])
     | (refine wp_reg B ?_; simp (disch := omega) only [kW, Nat.reduceEqDiff, reduceIte, Nat.reduceLT, Nat.reduceLeDiff, Nat.reduceAdd, Nat.reduceSub, Nat.reduceMul, Nat.reducePow, Nat.reduceDiv, Nat.reduceMod, evIndexAddr, TD.agg, evFieldAddr, ty3, ty22, ty23, t0, t1, t7, t8, g1, lr])
     | refine wp_condT rfl ?_ | refine wp_condF rfl ?_)
    simp (disch := omega) only [kS, Nat.reduceEqDiff, reduceIte, Nat.reduceLT, Nat.reduceLeDiff, Nat.reduceAdd, Nat.reduceSub, Nat.reduceMul, Nat.reducePow, Nat.reduceDiv, Nat.reduceMod, evIndexAddr, TD.agg, evFieldAddr, ty3, ty22, ty23]
   ·repeat (first
      | refine wp_seqQ ?_ | refine wp_blockQ ?_ | refine wp_scopeQ ?_
      | ((first | refine wp_skipQ ?_ | refine wp_labelQ ?_ | refine wp_exitQ ?_ | refine wp_retQ ?_); simp only [kQ, Nat.reduceEqDiff, reduceIte])
      | (refine wp_reg B ?_; simp (disch := omega) only [kW, Nat.reduceEqDiff, reduceIte, Nat.reduceLT, Nat.reduceLeDiff, Nat.reduceAdd, Nat.reduceSub, Nat.reduceMul, Nat.reducePow, Nat.reduceDiv, Nat.reduceMod, evIndexAddr, TD.agg, evFieldAddr, ty3, ty22, ty23, t0, t1, t7, t8, g1, lr])
      | refine wp_condT rfl ?_ | refine wp_condF rfl ?_)
    refine ⟨_, ?_, i + 1, _, _, rfl, rfl, by omega, t0, t1, t7, rfl, fun q hq => ?_⟩
    ·omega
    ·rw [List.take_add_one, hp] at hq
     rcases List.mem_append.1 hq with hq | hq
     ·exact hok q hq
     ·simp only [Option.toList_some, List.mem_singleton] at hq
      subst hq; omega
  ·have e : m = i := by omega
   subst e
   rw [hm, List.take_of_length_le (Nat.le_refl _)] at hok
   have ha : gs.any (fun g => decide (g.length > 100)) = false := by
    rw [List.any_eq_false]
    intro g hg c
    have := hok g hg
    have := of_decide_eq_true c
    omega
   have e2 : beyondB n gs = (decide (n > 40) && decide (n ≤ 64) || (decide (m > 8) && decide (m ≤ 16) || decide (m > 100))) := by unfold beyondB; rw [ha, Bool.false_or, hm]
   clear ha hok
   rw [e2]
   generalize hv : (decide (n > 40) && decide (n ≤ 64) || (decide (m > 8) && decide (m ≤ 16) || decide (m > 100))) = v
   clear e2
   by_cases a1 : n > 40 <;> by_cases a2 : n ≤ 64 <;> by_cases a3 : m > 8 <;> by_cases a4 : m ≤ 16 <;> by_cases a5 : m > 100 <;> (try omega) <;> (simp [a1, a2, a3, a4, a5] at hv; subst hv)
   all_goals
    repeat (first
     | refine wp_seqQ ?_ | refine wp_blockQ ?_ | refine wp_scopeQ ?_
     | ((first | refine wp_skipQ ?_ | refine wp_labelQ ?_ | refine wp_exitQ ?_ | refine wp_retQ ?_); simp only [kQ, Nat.reduceEqDiff, reduceIte])
     | (refine wp_reg B ?_; simp (disch := omega) only [kW, Nat.reduceEqDiff, reduceIte, Nat.reduceLT, Nat.reduceLeDiff, Nat.reduceAdd, Nat.reduceSub, Nat.reduceMul, Nat.reducePow, Nat.reduceDiv, Nat.reduceMod, evIndexAddr, TD.agg, evFieldAddr, ty3, ty22, ty23, t0, t1, t7])
     | refine wp_condT rfl ?_ | refine wp_condF rfl ?_)
    simp (disch := omega) only [kS, Nat.reduceEqDiff, reduceIte, Nat.reduceLT, Nat.reduceLeDiff, Nat.reduceAdd, Nat.reduceSub, Nat.reduceMul, Nat.reducePow, Nat.reduceDiv, Nat.reduceMod, evIndexAddr, TD.agg, evFieldAddr, ty3, ty22, ty23]
end Go.Proofs.Ytkffcclalncgdaa.Iv
end
section
set_option maxHeartbeats 16000000
set_option linter.unusedVariables false
set_option linter.unusedSimpArgs false
set_option maxRecDepth 10000
namespace Go.Proofs.Ytkffcclalncgdaa.Iv
open Go Go.Iv Go.RowKit Pg Ch
theorem lt_all {n : Nat} (p : Pm n) : ∀ x ∈ p.l, x < n := fun x hx => by
 obtain ⟨i, h1, h2⟩ := List.mem_iff_getElem.1 hx
 have := p.ok.lt i (by have := p.ok.len; omega)
 rwa [ap_get h1, h2] at this
theorem pmul_sem {n : Nat} (hn : n ≤ 64) (p q : Pm n) (h : Hp) : SemCall Try.prog 27 [pl p.l, pl q.l] h (.ret (.tuple [pl (p.mul q).l, .flat (.int .i64 0)])) h := by
 refine sem_pure tables.ok Try.func27 rfl rfl rfl rfl (by simp [pureL, pl_pure]) (by simp [AV.pure, pureL, pl_pure]) ?_ h
 have B := base0
 have lp := p.ok.len
 have lq := q.ok.len
 have cp : (pl p.l).clean = true := by simp only [pl, clean_isl1]
 have cq : (pl q.l).clean = true := by simp only [pl, clean_isl1]
 have pp : pl p.l = .isl (p.l.map pc) 1 0 n := by rw [pl, lp]
 have pq : pl q.l = .isl (q.l.map pc) 1 0 n := by rw [pl, lq]
 unfold Try.f27 bodyOf entry; simp only [Option.getD_some, List.length_cons, List.length_nil, Nat.reduceAdd, Nat.reduceSub]
 repeat (first
  | refine wp_seqQ ?_ | refine wp_blockQ ?_ | refine wp_scopeQ ?_
  | ((first | refine wp_skipQ ?_ | refine wp_labelQ ?_ | refine wp_exitQ ?_ | refine wp_retQ ?_); simp only [kQ, Nat.reduceEqDiff, reduceIte])
  | ((fail_if_success refine wp_reg (id := 1) B ?_); refine wp_reg B ?_; simp (disch := omega) only [kW, Nat.reduceEqDiff, reduceIte, Nat.reduceLT, Nat.reduceLeDiff, Nat.reduceAdd, Nat.reduceSub, Nat.reduceMul, Nat.reducePow, Nat.reduceDiv, Nat.reduceMod, evIndexAddr, TD.agg, evFieldAddr, ty3, ty22, ty23, ty28, fn48])
  | refine wp_condT rfl ?_ | refine wp_condF rfl ?_)
 refine RunF.wp ?_
 refine RunF.ops B 3 (by decide) ?_
 simp (disch := omega) only [kW, kG, Nat.reduceEqDiff, reduceIte, Nat.reduceLT, Nat.reduceLeDiff, Nat.reduceAdd, Nat.reduceSub, Nat.reduceMul, Nat.reducePow, Nat.reduceDiv, Nat.reduceMod, evIndexAddr, TD.agg, evFieldAddr, ty3, ty22, ty23, ty28, fn48, cp, cq]
 refine goN_name fun h1 hh1 => ?_
 have r0 : h1.m 0 = some (.cells [pl p.l, pl q.l] 23 false) := by rw [hh1]; rfl
 have n1 : h1.next = 1 := by rw [hh1]; rfl
 clear hh1
 have hv1 : RowsAt h1 (.slice 0 0 2 (.exact 2)) ([p, q].map nums) := .inr (.inr ⟨0, .exact 2, false, _, rfl, Nat.le_refl 2, r0, rfl, fun i p' hp => by
  match i, hp with
  | 0, hp => cases hp; exact ⟨_, rfl, .inl (nums_irow p).symm⟩
  | 1, hp => cases hp; exact ⟨_, rfl, .inl (nums_irow q).symm⟩
  | i + 2, hp => simp at hp⟩)
 have sc := checked_at hv1 (by simp) fun p' hp => by have := ok_pm hn _ p' hp; exact ⟨by rw [this.1]; omega, this.2⟩
 obtain ⟨call, B1, c1, _⟩ := call_at tables.ok mixed [] sc (Hp.Le.refl _)
 refine RunF.tms (fun u => u = 0 ∨ u = 1 ∨ u = 12) fun tm hT => ?_
 have u0 : tm 0 = some (.isl (p.l.map pc) 1 0 n) := ((hT 0 (by simp)).trans rfl).trans (congrArg some pp)
 have u1 : tm 1 = some (.isl (q.l.map pc) 1 0 n) := ((hT 1 (by simp)).trans rfl).trans (congrArg some pq)
 have u12 : tm 12 = some (.slice 0 0 2 (.exact 2)) := (hT 12 (by simp)).trans rfl
 clear hT
 refine RunF.ops B1 2 (by decide) ?_
 simp (disch := omega) only [kW, kG, Nat.reduceEqDiff, reduceIte, Nat.reduceLT, Nat.reduceLeDiff, Nat.reduceAdd, Nat.reduceSub, Nat.reduceMul, Nat.reducePow, Nat.reduceDiv, Nat.reduceMod, evIndexAddr, TD.agg, evFieldAddr, ty3, ty22, ty23, ty28, fn48, u12, c1]
 simp only [goN_some]
 refine RunF.done (by decide) ?_
 simp only [thenQ_normal]
 refine WP.tms (fun u => u = 0 ∨ u = 1 ∨ u = 6) fun tm2 hT => ?_
 have v0 : tm2 0 = some (.isl (p.l.map pc) 1 0 n) := (hT 0 (by simp)).trans u0
 have v1 : tm2 1 = some (.isl (q.l.map pc) 1 0 n) := (hT 1 (by simp)).trans u1
 have v6 : tm2 6 = some (.flat (.int .i64 0)) := (hT 6 (by simp)).trans rfl
 clear hT u0 u1 u12 tm c1 B1 sc hv1 r0
 repeat (first
  | refine wp_seqQ ?_ | refine wp_blockQ ?_ | refine wp_scopeQ ?_
  | ((first | refine wp_skipQ ?_ | refine wp_labelQ ?_ | refine wp_exitQ ?_ | refine wp_retQ ?_); simp only [kQ, Nat.reduceEqDiff, reduceIte])
  | (refine wp_reg B ?_; simp (disch := omega) only [kW, Nat.reduceEqDiff, reduceIte, Nat.reduceLT, Nat.reduceLeDiff, Nat.reduceAdd, Nat.reduceSub, Nat.reduceMul, Nat.reducePow, Nat.reduceDiv, Nat.reduceMod, evIndexAddr, TD.agg, evFieldAddr, ty3, ty22, ty23, ty28, fn48, v0, v1, v6, n1])
  | refine wp_condT rfl ?_ | refine wp_condF rfl ?_)
 refine wp_loopQ (fun k s => ∃ (i : Nat) (tm : Nat → Option AV) (h : Hp) (C : List AV), s = ⟨tm, 41, h, []⟩ ∧ k = n - i ∧ i ≤ n ∧ tm 1 = some (.isl (q.l.map pc) 1 0 n) ∧ tm 25 = some (.isl (p.l.map pc) 1 0 n) ∧ tm 7 = some (.slice 1 0 n (.exact n)) ∧ tm 26 = some (.flat (.int .i64 (n : Int))) ∧ tm 27 = some (.flat (.int .i64 (i : Int))) ∧ h.next = 2 ∧ h.m 1 = some (.cells C 3 false) ∧ C.length = n ∧ ∀ x, x < i → C[x]? = some (pc ((Pg.mulL p.l q.l).getD x 0))) n ?_ ?_
 ·refine ⟨0, _, _, List.replicate n (.flat (.int .i64 0)), rfl, rfl, Nat.zero_le _, v1, rfl, rfl, rfl, rfl, rfl, ?_, by simp, fun x hx => by omega⟩
  dsimp only; rw [upd_eq]
 ·rintro k s ⟨i, tm, h, C, rfl, rfl, hi, t1, t11, t5, t12, t13, hnx, hm, hC, hCx⟩
  repeat (first
   | refine wp_seqQ ?_ | refine wp_blockQ ?_ | refine wp_scopeQ ?_
   | ((first | refine wp_skipQ ?_ | refine wp_labelQ ?_ | refine wp_exitQ ?_ | refine wp_retQ ?_); simp only [kQ, Nat.reduceEqDiff, reduceIte])
   | (refine wp_reg B ?_; simp (disch := omega) only [kW, Nat.reduceEqDiff, reduceIte, Nat.reduceLT, Nat.reduceLeDiff, Nat.reduceAdd, Nat.reduceSub, Nat.reduceMul, Nat.reducePow, Nat.reduceDiv, Nat.reduceMod, evIndexAddr, TD.agg, evFieldAddr, ty3, ty22, ty23, ty28, fn48, t1, t11, t5, t12, t13])
   | refine wp_condT rfl ?_ | refine wp_condF rfl ?_)
  refine wp_if rfl (fun ilt => ?_) (fun ige => ?_)
  ·obtain ⟨x, hx⟩ : ∃ x, p.l[i]? = some x := ⟨p.l[i], List.getElem?_eq_getElem (by omega)⟩
   have hxq := lt_all p x (List.mem_of_getElem? hx)
   obtain ⟨y, hy⟩ : ∃ y, q.l[x]? = some y := ⟨q.l[x], List.getElem?_eq_getElem (by omega)⟩
   have g1 := pl_get hx
   have g2 := pl_get hy
   repeat (first
    | refine wp_seqQ ?_ | refine wp_blockQ ?_ | refine wp_scopeQ ?_
    | ((first | refine wp_skipQ ?_ | refine wp_labelQ ?_ | refine wp_exitQ ?_ | refine wp_retQ ?_); simp only [kQ, Nat.reduceEqDiff, reduceIte])
    | (refine wp_reg B ?_; simp (disch := omega) only [kW, Nat.reduceEqDiff, reduceIte, Nat.reduceLT, Nat.reduceLeDiff, Nat.reduceAdd, Nat.reduceSub, Nat.reduceMul, Nat.reducePow, Nat.reduceDiv, Nat.reduceMod, evIndexAddr, TD.agg, evFieldAddr, ty3, ty22, ty23, ty28, fn48, t1, t11, t5, t12, t13, hm, hC, pl, g1, g2])
    | refine wp_condT rfl ?_ | refine wp_condF rfl ?_)
   refine ⟨_, ?_, i + 1, _, _, C.set i (pc y), rfl, rfl, by omega, t1, t11, t5, t12, rfl, hnx, ?_, by simp [hC], fun z hz => ?_⟩
   ·omega
   ·simp only [upd_eq, pc]
   ·by_cases e : z = i
    ·subst e
     rw [List.getElem?_set_self (by omega)]
     simp [Pg.mulL, List.getD_eq_getElem?_getD, List.getElem?_map, hx, Pg.ap, hy]
    ·rw [List.getElem?_set_ne (by omega)]; exact hCx z (by omega)
  ·have hml : (Pg.mulL p.l q.l).length = n := by simp [Pg.mulL, lp]
   obtain rfl := cells_tab (p := Pg.mulL p.l q.l) hC hml fun x hx => hCx x (by omega)
   obtain ⟨g, q1, q2⟩ := pl_freeze (n := n) hm hml
   repeat (first
    | refine wp_seqQ ?_ | refine wp_blockQ ?_ | refine wp_scopeQ ?_
    | ((first | refine wp_skipQ ?_ | refine wp_labelQ ?_ | refine wp_exitQ ?_ | refine wp_retQ ?_); simp only [kQ, Nat.reduceEqDiff, reduceIte])
    | ((fail_if_success refine wp_reg (id := 12) B ?_); refine wp_reg B ?_; simp (disch := omega) only [kW, Nat.reduceEqDiff, reduceIte, Nat.reduceLT, Nat.reduceLeDiff, Nat.reduceAdd, Nat.reduceSub, Nat.reduceMul, Nat.reducePow, Nat.reduceDiv, Nat.reduceMod, evIndexAddr, TD.agg, evFieldAddr, ty3, ty22, ty23, ty28, fn48, t1, t11, t5, t12, t13])
    | refine wp_condT rfl ?_ | refine wp_condF rfl ?_)
   refine WP.freeze 7 g t5 q1 q2 ?_
   repeat (first
    | refine wp_seqQ ?_ | refine wp_blockQ ?_ | refine wp_scopeQ ?_
    | ((first | refine wp_skipQ ?_ | refine wp_labelQ ?_ | refine wp_exitQ ?_ | refine wp_retQ ?_); simp only [kQ, Nat.reduceEqDiff, reduceIte])
    | (refine wp_reg B ?_; simp (disch := omega) only [kW, Nat.reduceEqDiff, reduceIte, Nat.reduceLT, Nat.reduceLeDiff, Nat.reduceAdd, Nat.reduceSub, Nat.reduceMul, Nat.reducePow, Nat.reduceDiv, Nat.reduceMod, evIndexAddr, TD.agg, evFieldAddr, ty3, ty22, ty23, ty28, fn48])
    | refine wp_condT rfl ?_ | refine wp_condF rfl ?_)
   simp (disch := omega) only [kS, Nat.reduceEqDiff, reduceIte, Nat.reduceLT, Nat.reduceLeDiff, Nat.reduceAdd, Nat.reduceSub, Nat.reduceMul, Nat.reducePow, Nat.reduceDiv, Nat.reduceMod, evIndexAddr, TD.agg, evFieldAddr, ty3, ty22, ty23, ty28, fn48]
   rfl
def errV (e : Int) : AEnd := .ret (.tuple [nilP, .flat (.int .i64 e)])
theorem new_neg (n : Int) (hn : n < 0) (v : AV) (h : Hp) : SemCall Try.prog 13 [.flat (.int .i64 n), v] h (errV 2) h := by
 refine sem_still tables.ok Try.func13 rfl rfl rfl rfl ?_
 have B := base0
 unfold nilP
 unfold Try.f13 bodyOf entry; simp only [Option.getD_some, List.length_cons, List.length_nil, Nat.reduceAdd, Nat.reduceSub]
 repeat (first
  | refine wp_seqQ ?_ | refine wp_blockQ ?_ | refine wp_scopeQ ?_
  | ((first | refine wp_skipQ ?_ | refine wp_labelQ ?_ | refine wp_exitQ ?_ | refine wp_retQ ?_); simp only [kQ, Nat.reduceEqDiff, reduceIte])
  | (refine wp_reg B ?_; simp (disch := omega) only [kW, Nat.reduceEqDiff, reduceIte, Nat.reduceLT, Nat.reduceLeDiff, Nat.reduceAdd, Nat.reduceSub, Nat.reduceMul, Nat.reducePow, Nat.reduceDiv, Nat.reduceMod, evIndexAddr, TD.agg, evFieldAddr, ty3, ty22, ty23, ty28, fn28, fn38, fn37])
  | refine wp_condT rfl ?_ | refine wp_condF rfl ?_)
 simp (disch := omega) only [kS, Nat.reduceEqDiff, reduceIte, Nat.reduceLT, Nat.reduceLeDiff, Nat.reduceAdd, Nat.reduceSub, Nat.reduceMul, Nat.reducePow, Nat.reduceDiv, Nat.reduceMod, evIndexAddr, TD.agg, evFieldAddr, ty3, ty22, ty23, ty28, fn28, fn38, fn37]
theorem new_long (n : Int) (hn : 64 < n) (v : AV) (h : Hp) : SemCall Try.prog 13 [.flat (.int .i64 n), v] h (errV 3) h := by
 refine sem_still tables.ok Try.func13 rfl rfl rfl rfl ?_
 have B := base0
 unfold nilP
 unfold Try.f13 bodyOf entry; simp only [Option.getD_some, List.length_cons, List.length_nil, Nat.reduceAdd, Nat.reduceSub]
 repeat (first
  | refine wp_seqQ ?_ | refine wp_blockQ ?_ | refine wp_scopeQ ?_
  | ((first | refine wp_skipQ ?_ | refine wp_labelQ ?_ | refine wp_exitQ ?_ | refine wp_retQ ?_); simp only [kQ, Nat.reduceEqDiff, reduceIte])
  | (refine wp_reg B ?_; simp (disch := omega) only [kW, Nat.reduceEqDiff, reduceIte, Nat.reduceLT, Nat.reduceLeDiff, Nat.reduceAdd, Nat.reduceSub, Nat.reduceMul, Nat.reducePow, Nat.reduceDiv, Nat.reduceMod, evIndexAddr, TD.agg, evFieldAddr, ty3, ty22, ty23, ty28, fn28, fn38, fn37])
  | refine wp_condT rfl ?_ | refine wp_condF rfl ?_)
 simp (disch := omega) only [kS, Nat.reduceEqDiff, reduceIte, Nat.reduceLT, Nat.reduceLeDiff, Nat.reduceAdd, Nat.reduceSub, Nat.reduceMul, Nat.reducePow, Nat.reduceDiv, Nat.reduceMod, evIndexAddr, TD.agg, evFieldAddr, ty3, ty22, ty23, ty28, fn28, fn38, fn37]
end Go.Proofs.Ytkffcclalncgdaa.Iv
end
section
set_option maxHeartbeats 16000000
set_option linter.unusedVariables false
set_option linter.unusedSimpArgs false
set_option maxRecDepth 10000
namespace Go.Proofs.Ytkffcclalncgdaa.Iv
open Go Go.Iv Go.RowKit Pg Ch
def WRow (w : World) (row : List Int) (v : Value) : Prop := ∃ B C, v = .slice B row.length C ∧ row.length ≤ C ∧ (0 < row.length → ∃ bd, B = some bd ∧ ∀ (j : Nat) (x : Int), row[j]? = some x → w.cell? (bd.add j) = some (.int .i64 x))
def WRows (w : World) (a : List (List Int)) (v : Value) : Prop := ∃ A C, v = .slice A a.length C ∧ a.length ≤ C ∧ (0 < a.length → ∃ ad, A = some ad ∧ ∀ (r : Nat) (row : List Int), a[r]? = some row → ∃ y, w.cell? (ad.add r) = some y ∧ WRow w row y)
def WR (w : World) (ad : Addr) (l : List AV) : Prop := (∃ row : List Int, l = row.map ic ∧ ∀ (j : Nat) (x : Int), row[j]? = some x → w.cell? (ad.add j) = some (.int .i64 x)) ∨
 ∃ a : List (List Int), l = a.map irow ∧ ∀ (r : Nat) (row : List Int), a[r]? = some row → ∃ y, w.cell? (ad.add r) = some y ∧ WRow w row y
theorem wadd_zero (ad : Addr) : ad.add 0 = ad := by
 cases ad; rfl
theorem WRow.rel {w : World} {row : List Int} {v : Value} (h : WRow w row v) : AV.rel ⟨fun _ => none, WR w⟩ (irow row) v := by
 obtain ⟨B, C, rfl, h1, h2⟩ := h
 simp only [irow, AV.rel]
 refine ⟨B, C, rfl, h1, by simp, Nat.one_pos, fun hn => ?_⟩
 obtain ⟨bd, e, h3⟩ := h2 hn
 exact ⟨bd, by rw [e, wadd_zero], .inl ⟨row, rfl, h3⟩⟩
theorem WRows.rel {w : World} {a : List (List Int)} {v : Value} (h : WRows w a v) : AV.rel ⟨fun _ => none, WR w⟩ (irows a) v := by
 obtain ⟨B, C, rfl, h1, h2⟩ := h
 simp only [irows, AV.rel]
 refine ⟨B, C, rfl, h1, by simp, Nat.one_pos, fun hn => ?_⟩
 obtain ⟨bd, e, h3⟩ := h2 hn
 exact ⟨bd, by rw [e, wadd_zero], .inr ⟨a, rfl, h3⟩⟩
theorem wr_stood (w : World) : Stood w (WR w) := by
 refine ⟨fun ad l h j x hx => ?_, fun ad l h => ?_⟩
 ·rcases h with ⟨row, rfl, h⟩ | ⟨a, rfl, h⟩
  ·rw [List.getElem?_map] at hx
   obtain ⟨z, h1, rfl⟩ := Option.map_eq_some_iff.1 hx
   exact ⟨_, h j z h1, rel_flat _⟩
  ·rw [List.getElem?_map] at hx
   obtain ⟨z, h1, rfl⟩ := Option.map_eq_some_iff.1 hx
   obtain ⟨y, h2, h3⟩ := h j z h1
   exact ⟨y, h2, h3.rel⟩
 ·rcases h with ⟨row, rfl, _⟩ | ⟨a, rfl, _⟩
  ·exact pureL_map (fun _ => rfl) row
  ·exact pureL_map irow_pure a
theorem wrow_open {H : Type} {enc : TypeId × Value → H} {P : Program} {w : World} {base : Nat} {held : Bool} {t e : TypeId} {v : Value} {d : DataW H} {ps : List MemPlace} (ht : P.underlying t = some (.slice e)) (he : P.underlying e = some (.int .i64))
    (ce : P.cellsOf e = 1) (hv : ∃ a len cap, v = .slice a len cap) (h : DataW.Trod enc P w base (fun _ => true) held t v d ps) : ∃ a : List Int, WRow w a v ∧ (d = .nil ∧ a = [] ∨ ∃ es sp, d = .slice es sp ∧ es.length = a.length) := by
 obtain ⟨A0, n0, c0, rfl⟩ := hv
 obtain ⟨fuel, hf⟩ := h
 rcases Go.ChangeShapes.open_ints ht he ce hf with ⟨hcs, hx⟩ | ⟨ad, len, cap, zs, hcs, _, hl, hm, hz, hx, hcell, hwf⟩
 ·simp [Value.cells] at hcs
  obtain ⟨rfl, rfl, rfl⟩ := hcs
  simp only [Prod.mk.injEq] at hx
  exact ⟨[], ⟨none, 0, rfl, Nat.le_refl _, fun h => absurd h (by simp)⟩, .inl ⟨hx.1, rfl⟩⟩
 ·simp [Value.cells] at hcs
  obtain ⟨rfl, rfl, rfl⟩ := hcs
  simp only [Prod.mk.injEq] at hx
  simp only [if_true] at hz
  have hlen : (zs.take n0).length = n0 := by rw [List.length_take]; omega
  refine ⟨zs.take n0, ⟨_, c0, by rw [hlen], by omega, fun _ => ⟨ad, rfl, fun j x hj => ?_⟩⟩, .inr ⟨_, _, hx.1, by simp [Go.ChangeShapes.lits]⟩⟩
  obtain ⟨h4, h5⟩ := List.getElem?_eq_some_iff.1 hj
  rw [hlen] at h4
  have := hcell j (by omega)
  rw [this, ← h5, List.getElem_take, List.getD_eq_getElem?_getD, List.getElem?_eq_getElem (by omega), Option.getD_some]
theorem wrows_open {H : Type} {enc : TypeId × Value → H} {P : Program} {w : World} {base : Nat} {held : Bool} {t e q : TypeId} {v : Value} {d : DataW H} {ps : List MemPlace} (ht : P.underlying t = some (.slice e)) (he : P.underlying e = some (.slice q)) (hq : P.underlying q = some (.int .i64))
    (ce : P.cellsOf e = 1) (cq : P.cellsOf q = 1) (hv : ∃ a len cap, v = .slice a len cap) (h : DataW.Trod enc P w base (fun _ => true) held t v d ps) : ∃ a : List (List Int), WRows w a v ∧ (d = .nil ∧ a = [] ∨ ∃ es sp, d = .slice es sp ∧ es.length = a.length) := by
 obtain ⟨A0, n0, c0, rfl⟩ := hv
 obtain ⟨fuel, hf⟩ := h
 rcases Go.Deep.open_int_rows ht he hq ce cq hf with ⟨hcs, hx⟩ | ⟨ad, len, cap, A, L, C, Z, hcs, _, hl, hm, hx, hrows⟩
 ·simp [Value.cells] at hcs
  obtain ⟨rfl, rfl, rfl⟩ := hcs
  simp only [Prod.mk.injEq] at hx
  exact ⟨[], ⟨none, 0, rfl, Nat.le_refl _, fun h => absurd h (by simp)⟩, .inl ⟨hx.1, rfl⟩⟩
 ·simp [Value.cells] at hcs
  obtain ⟨rfl, rfl, rfl⟩ := hcs
  simp only [Prod.mk.injEq] at hx
  refine ⟨(List.range n0).map fun r => (Z r).take (L r), ⟨_, c0, by simp, by simpa using hl, fun _ => ⟨ad, rfl, fun r row hr => ?_⟩⟩, .inr ⟨_, _, hx.1, by simp⟩⟩
  rw [List.getElem?_map] at hr
  obtain ⟨i, h1, rfl⟩ := Option.map_eq_some_iff.1 hr
  obtain ⟨h2, h3⟩ := List.getElem?_eq_some_iff.1 h1
  simp only [List.length_range] at h2
  simp only [List.getElem_range] at h3
  subst h3
  obtain ⟨k1, k2, k3, k4, k5, k6, k7⟩ := hrows r (by omega)
  have hlen : ((Z r).take (L r)).length = L r := by rw [List.length_take]; omega
  refine ⟨_, k1, A r, C r, by rw [hlen], by omega, fun hn => ?_⟩
  rw [hlen] at hn
  cases hA : A r with
  | none => have := k6 hA; omega
  | some bd =>
   refine ⟨bd, rfl, fun j x hx => ?_⟩
   obtain ⟨h4, h5⟩ := List.getElem?_eq_some_iff.1 hx
   rw [hlen] at h4
   have := (k7 bd hA).2 j (by omega)
   rw [this, ← h5, List.getElem_take, List.getD_eq_getElem?_getD, List.getElem?_eq_getElem (by omega), Option.getD_some]
end Go.Proofs.Ytkffcclalncgdaa.Iv
end
section
set_option maxHeartbeats 16000000
set_option linter.unusedVariables false
set_option linter.unusedSimpArgs false
set_option maxRecDepth 100000
namespace Go.Proofs.Ytkffcclalncgdaa.Iv
open Go Go.Iv Go.RowKit Pg Ch
noncomputable def EWorks : Entry Try.prog := Entry.pure 10 (fun (x : Unit) => []) (fun _ => True) (fun _ => .flat (.bool true)) fun _ _ h => works_sem h
theorem EWorks_ans (h : Hp) : EWorks.ans [] h = some (.ret (.flat (.bool true)), h) := Entry.pure_ans (fun _ _ _ => rfl) () trivial h
theorem irows_inj {p q : List (List Int)} (h : irows p = irows q) : p = q := by
 simp only [irows, AV.isl.injEq] at h
 have h := h.1
 have hl : p.length = q.length := by simpa using congrArg List.length h
 apply List.ext_getElem hl
 intro i h1 h2
 have := congrArg (fun l => l[i]?) h
 simp only [List.getElem?_map, List.getElem?_eq_getElem h1, List.getElem?_eq_getElem h2, Option.map_some, Option.some.injEq] at this
 exact irow_inj this
theorem irows_eq {p q : List (List Int)} : irows p = irows q ↔ p = q := ⟨irows_inj, fun h => by rw [h]⟩
noncomputable def EBeyond : Entry Try.prog := ⟨11, fun args h e h' => h' = h ∧ ∃ (n : Int) (gs : List (List Int)), args = [.flat (.int .i64 n), irows gs] ∧ (gs.length ≤ 4611686018427387904) ∧ e = .ret (.flat (.bool (beyondB n gs))), by
 rintro args h e h' ⟨rfl, n, gs, rfl, h2, rfl⟩
 exact ⟨beyond_sem n gs h2 _, Hp.Le.refl _⟩⟩
theorem EBeyond_ans (n : Int) (gs : List (List Int)) (h : Hp) (h2 : gs.length ≤ 4611686018427387904) : EBeyond.ans [.flat (.int .i64 n), irows gs] h = some (.ret (.flat (.bool (beyondB n gs))), h) :=
 Entry.one ⟨rfl, n, gs, rfl, h2, rfl⟩ fun e h' ⟨hh, n', gs', ha, _, he⟩ => by simp only [kI, irow_eq, irows_eq] at ha; obtain ⟨rfl, rfl⟩ := ha; exact ⟨he, hh⟩
theorem has_bad2 {n : Nat} {ord : List Nat} {gens : List (Pm n)} {C : Nat} {h : Hp} (s : IsChain ord gens C h) (hC : C < h.next) (p : List Int) (hp : p.length < 4611686018427387904) (hn : n ≤ 64) (hb : ¬ OkRow n p) :
    SemCall Try.prog 23 [.ptr C 0, irow p] h (.ret (.tuple [.flat (.bool false), .flat (.int .i64 180)])) h := by
 refine sem_still tables.ok Try.func23 rfl rfl rfl rfl ?_
 have sc := pcheck_sem p hp h
 obtain ⟨call, B, c1, _⟩ := call_at tables.ok mixed [] sc (Hp.Le.refl _)
 obtain ⟨G, kv, hh⟩ := s.head
 have hrl : evLen tab 23 (irow p) = some (.flat (.int .i64 (p.length : Int))) := row_len (h := h) (.inl rfl)
 unfold Try.f23 bodyOf entry; simp only [Option.getD_some, List.length_cons, List.length_nil, Nat.reduceAdd, Nat.reduceSub]
 by_cases e1 : p.length = n
 ·have e2 : checkP p ≠ 0 := fun c => hb ⟨e1, c⟩
  rw [e1] at hrl
  repeat (first
   | refine wp_seqQ ?_ | refine wp_blockQ ?_ | refine wp_scopeQ ?_
   | ((first | refine wp_skipQ ?_ | refine wp_labelQ ?_ | refine wp_exitQ ?_ | refine wp_retQ ?_); simp only [kQ, Nat.reduceEqDiff, reduceIte])
   | (refine wp_reg B ?_; simp (disch := omega) only [kW, Nat.reduceEqDiff, reduceIte, Nat.reduceLT, Nat.reduceLeDiff, Nat.reduceAdd, Nat.reduceSub, Nat.reduceMul, Nat.reducePow, Nat.reduceDiv, Nat.reduceMod, evIndexAddr, TD.agg, evFieldAddr, ty3, ty22, ty23, ty27, ty28, ty65, ty67, ty68, ty70, ty73, fn28, fn46, hh, pc, hrl, c1])
   | refine wp_condT rfl ?_ | refine wp_condF rfl ?_)
  simp (disch := omega) only [kS, Nat.reduceEqDiff, reduceIte, Nat.reduceLT, Nat.reduceLeDiff, Nat.reduceAdd, Nat.reduceSub, Nat.reduceMul, Nat.reducePow, Nat.reduceDiv, Nat.reduceMod, evIndexAddr, TD.agg, evFieldAddr, ty3, ty22, ty23, ty27, ty28, ty65, ty67, ty68, ty70, ty73, fn28, fn46]
 ·repeat (first
    | refine wp_seqQ ?_ | refine wp_blockQ ?_ | refine wp_scopeQ ?_
    | ((first | refine wp_skipQ ?_ | refine wp_labelQ ?_ | refine wp_exitQ ?_ | refine wp_retQ ?_); simp only [kQ, Nat.reduceEqDiff, reduceIte])
    | (refine wp_reg B ?_; simp (disch := omega) only [kW, Nat.reduceEqDiff, reduceIte, Nat.reduceLT, Nat.reduceLeDiff, Nat.reduceAdd, Nat.reduceSub, Nat.reduceMul, Nat.reducePow, Nat.reduceDiv, Nat.reduceMod, evIndexAddr, TD.agg, evFieldAddr, ty3, ty22, ty23, ty27, ty28, ty65, ty67, ty68, ty70, ty73, fn28, fn46, hh, pc, hrl, c1])
    | refine wp_condT rfl ?_ | refine wp_condF rfl ?_)
  simp (disch := omega) only [kS, Nat.reduceEqDiff, reduceIte, Nat.reduceLT, Nat.reduceLeDiff, Nat.reduceAdd, Nat.reduceSub, Nat.reduceMul, Nat.reducePow, Nat.reduceDiv, Nat.reduceMod, evIndexAddr, TD.agg, evFieldAddr, ty3, ty22, ty23, ty27, ty28, ty65, ty67, ty68, ty70, ty73, fn28, fn46]
theorem chHas_bad2 {n : Nat} (hn : n ≤ 64) {gens : List (Pm n)} {C : Nat} {h : Hp} (k : Chained gens C h) (p : List Int) (hp : p.length < 4611686018427387904) (hb : ¬ OkRow n p) :
    SemCall Try.prog 23 [.ptr C 0, irow p] h (.ret (.tuple [.flat (.bool false), .flat (.int .i64 180)])) h := has_bad2 k.ch k.lt p hp hn hb
theorem same_far (n : Int) (gs : List (List Int)) (p : List Int) (hg : gs.length ≤ 4611686018427387904) (hf : beyondB n gs = true ∨ 6 < gs.length) (h : Hp) : SemCall Try.prog 5 [.flat (.int .i64 n), irows gs, irow p] h (.ret (.flat (.bool true))) h := by
 refine sem_pure tables.ok Try.func5 rfl rfl rfl rfl (by simp [pureL, irows_pure, irow_pure, AV.pure]) rfl ?_ h
 have B : Base Try.prog tab _ := tabL_base [EWorks, EBeyond] tables.ok mixed
 generalize hL : tabL [EWorks, EBeyond] = call at B
 have c_EWorks : ∀ a h, call 10 a h = EWorks.ans a h := fun _ _ => hL ▸ rfl
 have c_EBeyond : ∀ a h, call 11 a h = EBeyond.ans a h := fun _ _ => hL ▸ rfl
 clear hL
 have k1 := fun h => EWorks_ans h
 have k2 := fun h => EBeyond_ans n gs h hg
 have lg : evLen tab 22 (irows gs) = some (.flat (.int .i64 (gs.length : Int))) := by simp only [irows, len_isl, ty22]
 unfold Try.f5 bodyOf entry; simp only [Option.getD_some, List.length_cons, List.length_nil, Nat.reduceAdd, Nat.reduceSub]
 cases hb : beyondB n gs with
 | true =>
  rw [hb] at k2
  repeat (first
   | refine wp_seqQ ?_ | refine wp_blockQ ?_ | refine wp_scopeQ ?_
   | ((first | refine wp_skipQ ?_ | refine wp_labelQ ?_ | refine wp_exitQ ?_ | refine wp_retQ ?_); simp only [kQ, Nat.reduceEqDiff, reduceIte])
   | ((first | refine wp_dreg B (id := 11) [0, 1, 3, 0, 0, 16, 48, 120, 248, 511, 1023, 2047, 2047, 4095, 16383] (by kernel_rfl) ?_ | refine wp_reg B ?_); simp (disch := omega) only [kW, kG, Nat.reduceEqDiff, reduceIte, Nat.reduceLT, Nat.reduceLeDiff, Nat.reduceAdd, Nat.reduceSub, Nat.reduceMul, Nat.reducePow, Nat.reduceDiv, Nat.reduceMod, evIndexAddr, TD.agg, evFieldAddr, binA_eqB ty4, binA_neB ty4, ty3, ty4, ty9, ty22, ty23, ty27, ty28, ty65, ty67, ty68, ty70, ty73, fn10, fn11, fn13, fn27, fn19, fn16, fn21, fn17, fn15, fn23, c_EWorks, EWorks_ans, c_EBeyond, EBeyond_ans, k1, k2])
   | refine wp_condT rfl ?_ | refine wp_condF rfl ?_)
  simp (disch := omega) only [kS, Nat.reduceEqDiff, reduceIte, Nat.reduceLT, Nat.reduceLeDiff, Nat.reduceAdd, Nat.reduceSub, Nat.reduceMul, Nat.reducePow, Nat.reduceDiv, Nat.reduceMod, evIndexAddr, TD.agg, evFieldAddr, binA_eqB ty4, binA_neB ty4, ty3, ty4, ty9, ty22, ty23, ty27, ty28, ty65, ty67, ty68, ty70, ty73, fn10, fn11, fn13, fn27, fn19, fn16, fn21, fn17, fn15, fn23, c_EWorks, EWorks_ans, c_EBeyond, EBeyond_ans]
 | false =>
  rw [hb] at k2
  have hf : 6 < gs.length := by rcases hf with h | h; · rw [hb] at h; cases h
                                ·exact h
  repeat (first
   | refine wp_seqQ ?_ | refine wp_blockQ ?_ | refine wp_scopeQ ?_
   | ((first | refine wp_skipQ ?_ | refine wp_labelQ ?_ | refine wp_exitQ ?_ | refine wp_retQ ?_); simp only [kQ, Nat.reduceEqDiff, reduceIte])
   | ((first | refine wp_dreg B (id := 11) [0, 1, 3, 0, 0, 16, 48, 120, 248, 511, 1023, 2047, 2047, 4095, 16383] (by kernel_rfl) ?_ | refine wp_reg B ?_); simp (disch := omega) only [kW, kG, Nat.reduceEqDiff, reduceIte, Nat.reduceLT, Nat.reduceLeDiff, Nat.reduceAdd, Nat.reduceSub, Nat.reduceMul, Nat.reducePow, Nat.reduceDiv, Nat.reduceMod, evIndexAddr, TD.agg, evFieldAddr, binA_eqB ty4, binA_neB ty4, ty3, ty4, ty9, ty22, ty23, ty27, ty28, ty65, ty67, ty68, ty70, ty73, fn10, fn11, fn13, fn27, fn19, fn16, fn21, fn17, fn15, fn23, c_EWorks, EWorks_ans, c_EBeyond, EBeyond_ans, k1, k2, lg])
   | refine wp_condT rfl ?_ | refine wp_condF rfl ?_)
  simp (disch := omega) only [kS, Nat.reduceEqDiff, reduceIte, Nat.reduceLT, Nat.reduceLeDiff, Nat.reduceAdd, Nat.reduceSub, Nat.reduceMul, Nat.reducePow, Nat.reduceDiv, Nat.reduceMod, evIndexAddr, TD.agg, evFieldAddr, binA_eqB ty4, binA_neB ty4, ty3, ty4, ty9, ty22, ty23, ty27, ty28, ty65, ty67, ty68, ty70, ty73, fn10, fn11, fn13, fn27, fn19, fn16, fn21, fn17, fn15, fn23, c_EWorks, EWorks_ans, c_EBeyond, EBeyond_ans]
theorem same_err (n : Int) (gs : List (List Int)) (p : List Int) (hb : beyondB n gs = false) (hg : gs.length ≤ 6) (e : Int) (he : e ≠ 0) (he2 : 0 ≤ e ∧ e ≤ 1000) (hN : SemCall Try.prog 13 [.flat (.int .i64 n), irows gs] Hp.empty (errV e) Hp.empty) (h : Hp) : SemCall Try.prog 5 [.flat (.int .i64 n), irows gs, irow p] h (.ret (.flat (.bool true))) h := by
 refine sem_pure tables.ok Try.func5 rfl rfl rfl rfl (by simp [pureL, irows_pure, irow_pure, AV.pure]) rfl ?_ h
 obtain ⟨h0, hh0⟩ : ∃ h0, h0 = Hp.empty := ⟨_, rfl⟩
 rw [← hh0] at hN ⊢
 obtain ⟨call, B, c1, c2⟩ := call_at tables.ok mixed [EWorks, EBeyond] hN (Hp.Le.refl _)
 have k1 : call 10 [] h0 = some (.ret (.flat (.bool true)), h0) := (c2 _ _ _ (by decide)).trans ((tabL_hit EWorks _ _ _ _ rfl).trans (EWorks_ans h0))
 have k2 : call 11 [.flat (.int .i64 n), irows gs] h0 = some (.ret (.flat (.bool false)), h0) := ((c2 _ _ _ (by decide)).trans ((tabL_miss EWorks _ _ _ _ (Nat.ne_of_beq_eq_false rfl)).trans ((tabL_hit EBeyond _ _ _ _ rfl).trans (EBeyond_ans n gs h0 (by omega))))).trans (by rw [hb])
 have lg : evLen tab 22 (irows gs) = some (.flat (.int .i64 (gs.length : Int))) := by simp only [irows, len_isl, ty22]
 unfold errV nilP at c1
 unfold Try.f5 bodyOf entry; simp only [Option.getD_some, List.length_cons, List.length_nil, Nat.reduceAdd, Nat.reduceSub]
 repeat (first
  | refine wp_seqQ ?_ | refine wp_blockQ ?_ | refine wp_scopeQ ?_
  | ((first | refine wp_skipQ ?_ | refine wp_labelQ ?_ | refine wp_exitQ ?_ | refine wp_retQ ?_); simp only [kQ, Nat.reduceEqDiff, reduceIte])
  | ((first | refine wp_dreg B (id := 11) [0, 1, 3, 0, 0, 16, 48, 120, 248, 511, 1023, 2047, 2047, 4095, 16383] (by kernel_rfl) ?_ | refine wp_reg B ?_); simp (disch := omega) only [kW, kG, Nat.reduceEqDiff, reduceIte, Nat.reduceLT, Nat.reduceLeDiff, Nat.reduceAdd, Nat.reduceSub, Nat.reduceMul, Nat.reducePow, Nat.reduceDiv, Nat.reduceMod, evIndexAddr, TD.agg, evFieldAddr, binA_eqB ty4, binA_neB ty4, ty3, ty4, ty9, ty22, ty23, ty27, ty28, ty65, ty67, ty68, ty70, ty73, fn10, fn11, fn13, fn27, fn19, fn16, fn21, fn17, fn15, fn23, k1, k2, lg, c1])
  | refine wp_condT rfl ?_ | refine wp_condF rfl ?_)
 simp (disch := omega) only [kS, Nat.reduceEqDiff, reduceIte, Nat.reduceLT, Nat.reduceLeDiff, Nat.reduceAdd, Nat.reduceSub, Nat.reduceMul, Nat.reducePow, Nat.reduceDiv, Nat.reduceMod, evIndexAddr, TD.agg, evFieldAddr, binA_eqB ty4, binA_neB ty4, ty3, ty4, ty9, ty22, ty23, ty27, ty28, ty65, ty67, ty68, ty70, ty73, fn10, fn11, fn13, fn27, fn19, fn16, fn21, fn17, fn15, fn23]
end Go.Proofs.Ytkffcclalncgdaa.Iv
end
section
set_option maxHeartbeats 16000000
set_option linter.unusedVariables false
set_option linter.unusedSimpArgs false
set_option maxRecDepth 100000
namespace Go.Proofs.Ytkffcclalncgdaa.Iv
open Go Go.Iv Go.RowKit Pg Ch
theorem len_irows (gs : List (List Int)) : evLen tab 22 (irows gs) = some (.flat (.int .i64 (gs.length : Int))) := by simp only [irows, len_isl, ty22]
theorem clean_irow (p : List Int) : (irow p).clean = true := rfl
theorem cells_irow (p : List Int) : (irow p).cells = [irow p] := rfl
theorem clean_pl (p : List Nat) : (pl p).clean = true := rfl
theorem cells_pl (p : List Nat) : (pl p).cells = [pl p] := rfl
theorem lenFp_isl (l : List AV) (z o n : Nat) : lenFp [.isl l z o n] = .none := rfl
theorem one_pl (p : List Nat) : (pl p).one = true := rfl
theorem eq_nilP (ox oy : Operand) (D : Nat) : binA tab .eql 27 ox oy (.ptr D 0) (.flat (.pointer none)) = some (.flat (.bool false)) := rfl
theorem ne_nilP (ox oy : Operand) (D : Nat) : binA tab .neq 27 ox oy (.ptr D 0) (.flat (.pointer none)) = some (.flat (.bool true)) := rfl
theorem inR0 {n : Nat} (h : 0 < n) : inRange 0 n = some 0 := by
 have := inRange_nat (i := 0) (n := n) h
 simpa using this
theorem rev_step {α : Type} {l : List α} {i : Nat} {x : α} (h : l[i]? = some x) : (l.drop i).reverse = (l.drop (i + 1)).reverse ++ [x] := by
 obtain ⟨h1, rfl⟩ := List.getElem?_eq_some_iff.1 h
 rw [List.drop_eq_getElem_cons h1, List.reverse_cons]
theorem OrbAt.top_ge {base : Nat} {h : Hp} {v : AV} {ls : List (List Nat)} (k : OrbAt base h v ls) {x : Nat} (hx : topOf v = some x) : base ≤ x := by
 obtain ⟨rs, h1, _⟩ := k
 rcases h1 with ⟨_, rfl⟩ | ⟨B, rfl, _, hb⟩
 ·cases hx
 ·cases hx; exact hb
theorem same_good {n : Nat} (hn : n ≤ 64) (qs : List (Pm n)) (hq0 : 0 < qs.length) (hq : qs.length ≤ 6) (p : List Int) (hp : p.length < 4611686018427387904) (hb : beyondB n (qs.map nums) = false) (h : Hp) : SemCall Try.prog 5 [pc n, irows (qs.map nums), irow p] h (.ret (.flat (.bool true))) h := by
 refine sem_pure tables.ok Try.func5 rfl rfl rfl rfl (by simp [pureL, irows_pure, irow_pure, AV.pure, pc]) rfl ?_ h
 obtain ⟨h0, hh0⟩ : ∃ h0, h0 = Hp.empty := ⟨_, rfl⟩
 rw [← hh0]
 have born0 : ∀ i, h0.next ≤ i → h0.m i = none := fun i _ => by rw [hh0]; rfl
 obtain ⟨gs, hgs⟩ : ∃ gs, gs = qs.map nums := ⟨_, rfl⟩
 obtain ⟨L, hL⟩ : ∃ L, L = gs.length := ⟨_, rfl⟩
 have hL1 : L = qs.length := by rw [hL, hgs, List.length_map]
 have hgl : ∀ g ∈ gs, g.length ≤ 4611686018427387904 := fun g hg => by rw [hgs] at hg; have := (ok_pm hn qs g hg).1; omega
 rw [← hgs] at hb ⊢
 obtain ⟨C, h2, sc, le, hC, ch2, hold2, hn2⟩ := new_good hn qs (by omega) h0 born0 (irows gs) (by rw [← hgs]; exact .inl rfl)
 obtain ⟨call, B, c1, c2⟩ := call_at tables.ok mixed [EWorks, EBeyond] sc le
 have k1 : call 10 [] h0 = some (.ret (.flat (.bool true)), h0) := (c2 _ _ _ (by decide)).trans ((tabL_hit EWorks _ _ _ _ rfl).trans (EWorks_ans h0))
 have k2 : call 11 [.flat (.int .i64 (n : Int)), irows gs] h0 = some (.ret (.flat (.bool false)), h0) := ((c2 _ _ _ (by decide)).trans ((tabL_miss EWorks _ _ _ _ (Nat.ne_of_beq_eq_false rfl)).trans ((tabL_hit EBeyond _ _ _ _ rfl).trans (EBeyond_ans n gs h0 (by omega))))).trans (by rw [hb])
 have lg := len_irows gs
 rw [← hL] at lg
 have ig : irows gs = .isl (gs.map irow) 1 0 L := by rw [hL]; rfl
 have igl : (gs.map irow).length = L := by rw [List.length_map, hL]
 simp only [pc] at c1
 unfold Try.f5 bodyOf entry; simp only [Option.getD_some, List.length_cons, List.length_nil, Nat.reduceAdd, Nat.reduceSub]
 repeat (first
  | refine wp_seqQ ?_ | refine wp_blockQ ?_ | refine wp_scopeQ ?_
  | ((first | refine wp_skipQ ?_ | refine wp_labelQ ?_ | refine wp_exitQ ?_ | refine wp_retQ ?_); simp only [kQ, Nat.reduceEqDiff, reduceIte])
  | ((fail_if_success refine wp_reg (id := 7) B ?_); (first | refine wp_dreg B (id := 11) [0, 1, 3, 0, 0, 16, 48, 120, 248, 511, 1023, 2047, 2047, 4095, 16383] (by kernel_rfl) ?_ | refine wp_reg B ?_); simp (disch := omega) only [kW, kG, Nat.reduceEqDiff, reduceIte, Nat.reduceLT, Nat.reduceLeDiff, Nat.reduceAdd, Nat.reduceSub, Nat.reduceMul, Nat.reducePow, Nat.reduceDiv, Nat.reduceMod, evIndexAddr, TD.agg, evFieldAddr, binA_eqB ty4, binA_neB ty4, ty3, ty4, ty9, ty22, ty23, ty27, ty28, ty65, ty67, ty68, ty70, ty73, fn10, fn11, fn13, fn27, fn19, fn16, fn21, fn17, fn15, fn23, k1, k2, lg, c1, pc])
  | refine wp_condT rfl ?_ | refine wp_condF rfl ?_)
 refine WP.tms (fun u => u = 0 ∨ u = 1 ∨ u = 2 ∨ u = 7 ∨ u = 9) fun tm hT => ?_
 have t0 : tm 0 = some (.flat (.int .i64 (n : Int))) := (hT 0 (by simp)).trans rfl
 have t1 : tm 1 = some (.isl (gs.map irow) 1 0 L) := ((hT 1 (by simp)).trans rfl).trans (congrArg some ig)
 have t2 : tm 2 = some (irow p) := (hT 2 (by simp)).trans rfl
 have t7 : tm 7 = some (.ptr C 0) := (hT 7 (by simp)).trans rfl
 have t9 : tm 9 = some (.flat (.slice none 0 0)) := (hT 9 (by simp)).trans rfl
 clear hT k1 k2 c1 c2 B sc le
 have B := base0
 repeat (first
  | refine wp_seqQ ?_ | refine wp_blockQ ?_ | refine wp_scopeQ ?_
  | ((first | refine wp_skipQ ?_ | refine wp_labelQ ?_ | refine wp_exitQ ?_ | refine wp_retQ ?_); simp only [kQ, Nat.reduceEqDiff, reduceIte])
  | ((first | refine wp_dreg B (id := 11) [0, 1, 3, 0, 0, 16, 48, 120, 248, 511, 1023, 2047, 2047, 4095, 16383] (by kernel_rfl) ?_ | refine wp_reg B ?_); simp (disch := omega) only [kW, kG, Nat.reduceEqDiff, reduceIte, Nat.reduceLT, Nat.reduceLeDiff, Nat.reduceAdd, Nat.reduceSub, Nat.reduceMul, Nat.reducePow, Nat.reduceDiv, Nat.reduceMod, evIndexAddr, TD.agg, evFieldAddr, binA_eqB ty4, binA_neB ty4, ty3, ty4, ty9, ty22, ty23, ty27, ty28, ty65, ty67, ty68, ty70, ty73, fn10, fn11, fn13, fn27, fn19, fn16, fn21, fn17, fn15, fn23, t1])
  | refine wp_condT rfl ?_ | refine wp_condF rfl ?_)
 refine wp_loopQ (fun f' z => ∃ (j : Nat) (tm : Nat → Option AV) (hh : Hp) (v : AV), z = ⟨tm, 138, hh, []⟩ ∧ f' = j ∧ j ≤ L ∧ tm 0 = some (.flat (.int .i64 (n : Int))) ∧ tm 1 = some (.isl (gs.map irow) 1 0 L) ∧ tm 2 = some (irow p) ∧ tm 7 = some (.ptr C 0) ∧ tm 9 = some v ∧ tm 10 = some (.flat (.int .i64 ((j : Int) - 1))) ∧
  SlAt h2.next 23 hh v ((gs.drop j).reverse.map irow) ∧ (∀ i, i < h2.next → hh.m i = h2.m i) ∧ (∀ i, hh.next ≤ i → hh.m i = none) ∧ h2.next ≤ hh.next) L ?_ ?_
 ·exact ⟨L, _, _, _, rfl, rfl, Nat.le_refl _, t0, t1, t2, t7, t9, rfl, .inl ⟨by rw [hL, List.drop_length]; rfl, rfl⟩, fun _ _ => rfl, ch2.born, Nat.le_refl _⟩
 ·clear t0 t1 t2 t7 t9
  rintro f' z ⟨j, tm, hh, v, rfl, rfl, hj, t0, t1, t2, t7, t9, t10, hv, hold, hborn, hnx⟩
  rcases Nat.eq_zero_or_pos f' with hf | hf
  ·subst hf
   simp only [Int.ofNat_eq_natCast, Int.natCast_zero, Int.zero_sub] at t10
   obtain ⟨q0, hq0'⟩ : ∃ q0, qs[0]? = some q0 := ⟨_, List.getElem?_eq_getElem (by omega)⟩
   obtain ⟨ql, hql⟩ : ∃ ql, qs[L - 1]? = some ql := ⟨_, List.getElem?_eq_getElem (by omega)⟩
   have g0 : (gs.map irow)[0]? = some (pl q0.l) := by rw [hgs, List.getElem?_map, List.getElem?_map, hq0']; simp only [Option.map_some, nums_irow]
   have gl : (gs.map irow)[L - 1]? = some (pl ql.l) := by rw [hgs, List.getElem?_map, List.getElem?_map, hql]; simp only [Option.map_some, nums_irow]
   have sm := pmul_sem hn q0 ql ⟨hh.next, hh.next, hh.m⟩
   obtain ⟨call, B, c1, _⟩ := call_at tables.ok mixed [] sm (Hp.Le.refl _)
   have iz := inR0 (n := L) (by omega)
   have hLm : ((L : Int) - 1) = ((L - 1 : Nat) : Int) := by omega
   repeat (first
    | refine wp_seqQ ?_ | refine wp_blockQ ?_ | refine wp_scopeQ ?_
    | ((first | refine wp_skipQ ?_ | refine wp_labelQ ?_ | refine wp_exitQ ?_ | refine wp_retQ ?_); simp only [kQ, Nat.reduceEqDiff, reduceIte])
    | ((fail_if_success refine wp_reg (id := 14) B ?_); (first | refine wp_dreg B (id := 11) [0, 1, 3, 0, 0, 16, 48, 120, 248, 511, 1023, 2047, 2047, 4095, 16383] (by kernel_rfl) ?_ | refine wp_reg B ?_); simp (disch := omega) only [kW, kG, Nat.reduceEqDiff, reduceIte, Nat.reduceLT, Nat.reduceLeDiff, Nat.reduceAdd, Nat.reduceSub, Nat.reduceMul, Nat.reducePow, Nat.reduceDiv, Nat.reduceMod, evIndexAddr, TD.agg, evFieldAddr, binA_eqB ty4, binA_neB ty4, ty3, ty4, ty9, ty22, ty23, ty27, ty28, ty65, ty67, ty68, ty70, ty73, fn10, fn11, fn13, fn27, fn19, fn16, fn21, fn17, fn15, fn23, t0, t1, t2, t7, t9, t10, g0, gl, c1, hLm, iz, lenFp_isl])
    | refine wp_condT rfl ?_ | refine wp_condF rfl ?_)
   obtain ⟨h3, hh3⟩ : ∃ h3 : Hp, h3 = ⟨hh.next, lowP hh.next hh.low, hh.m⟩ := ⟨_, rfl⟩
   rw [← hh3]
   have n3 : h3.next = hh.next := by rw [hh3]
   have m3 : h3.m = hh.m := by rw [hh3]
   refine WP.tms (fun u => u = 0 ∨ u = 1 ∨ u = 2 ∨ u = 7 ∨ u = 9 ∨ u = 11) fun tm2 hT => ?_
   have u0 : tm2 0 = some (.flat (.int .i64 (n : Int))) := (hT 0 (by simp)).trans t0
   have u1 : tm2 1 = some (.isl (gs.map irow) 1 0 L) := (hT 1 (by simp)).trans t1
   have u2 : tm2 2 = some (irow p) := (hT 2 (by simp)).trans t2
   have u7 : tm2 7 = some (.ptr C 0) := (hT 7 (by simp)).trans t7
   have u9 : tm2 9 = some v := (hT 9 (by simp)).trans t9
   have u11 : tm2 11 = some (pl (q0.mul ql).l) := (hT 11 (by simp)).trans rfl
   clear hT t0 t1 t2 t7 t9 t10 tm c1 B sm hh3
   have B := base0
   have hcl : ((gs.drop 0).reverse.map irow).length = L := by simp only [List.length_map, List.length_reverse, List.drop_zero, hL]
   rcases hv with ⟨e0, _⟩ | ⟨B0, rfl, hB0, hbB⟩
   ·rw [e0] at hcl; simp at hcl; omega
   rw [hcl] at u9
   rw [← m3] at hB0
   have lb := lt_next hborn (by rw [← m3]; exact hB0)
   have cl := clean_irows gs.reverse
   have hrl : gs.reverse.length = L := by rw [List.length_reverse, hL]
   rw [List.drop_zero] at hB0 hcl
   refine RunF.wp ?_
   refine RunF.ops B 8 (by decide) ?_
   simp (disch := omega) only [kW, kG, Nat.reduceEqDiff, reduceIte, Nat.reduceLT, Nat.reduceLeDiff, Nat.reduceAdd, Nat.reduceSub, Nat.reduceMul, Nat.reducePow, Nat.reduceDiv, Nat.reduceMod, evIndexAddr, TD.agg, evFieldAddr, binA_eqB ty4, binA_neB ty4, ty3, ty4, ty9, ty22, ty23, ty27, ty28, ty65, ty67, ty68, ty70, ty73, fn10, fn11, fn13, fn27, fn19, fn16, fn21, fn17, fn15, fn23, u0, u1, u9, u11, g0, iz, hB0, hcl, hrl, cl, cells_pl, clean_pl, one_pl, cleanN, n3]
   refine goN_name fun h4 hh4 => ?_
   obtain ⟨r, hr⟩ : ∃ r, r = q0.mul ql := ⟨_, rfl⟩
   rw [← hr] at hh4
   obtain ⟨b, hb'⟩ : ∃ b, b = hh.next + 1 := ⟨_, rfl⟩
   have n4 : h4.next = b + 1 := by rw [hh4, hb']
   have b4 : h4.m b = some (.cells (gs.reverse.map irow ++ [pl r.l, pl q0.l]) 23 true) := by rw [hh4, hb']; dsimp only; rw [upd_eq]
   have hold4 : ∀ i, i < h2.next → h4.m i = h2.m i := fun i hi => by rw [hh4]; dsimp only; rw [upd_ne _ _ (by omega), upd_ne _ _ (by omega), upd_ne _ _ (by omega), m3]; exact hold i hi
   have born4 : ∀ i, h4.next ≤ i → h4.m i = none := fun i hi => by rw [n4, hb'] at hi; rw [hh4]; dsimp only; rw [upd_ne _ _ (by omega), upd_ne _ _ (by omega), upd_ne _ _ (by omega), m3]; exact hborn i (by omega)
   clear hh4
   have ch4 := ch2.mono hold4 born4 (by omega)
   obtain ⟨qs2, hqs2⟩ : ∃ qs2 : List (Pm n), qs2 = qs.reverse ++ [r, q0] := ⟨_, rfl⟩
   have hm2 : qs2.map nums = gs.reverse ++ [nums r, nums q0] := by rw [hqs2, List.map_append, List.map_reverse, ← hgs]; rfl
   have hl2 : qs2.length = L + 2 := by rw [hqs2, List.length_append, List.length_reverse, hL1]; rfl
   have hq0m : q0 ∈ qs := List.mem_of_getElem? hq0'
   have same : ∀ q, Mon qs q ↔ Mon qs2 q := mon_same (fun g hg => .of (by rw [hqs2]; exact List.mem_append_left _ (List.mem_reverse.2 hg))) fun g hg => by
    rw [hqs2] at hg
    rcases List.mem_append.1 hg with hg | hg
    ·exact .of (List.mem_reverse.1 hg)
    ·simp only [List.mem_cons, List.not_mem_nil, or_false] at hg
     rcases hg with rfl | rfl
     ·rw [hr]; exact (Mon.of hq0m).mul (.of (List.mem_of_getElem? hql))
     ·exact .of hq0m
   have hv4 : RowsAt h4 (.slice b 0 (L + 2) (.toEnd 1)) (qs2.map nums) := .inr (.inr ⟨b, .toEnd 1, true, _, by rw [List.length_map, hl2], rfl, b4, by simp only [List.length_append, List.length_map, List.length_reverse, ← hL, hl2]; rfl, fun i p' hp' => ⟨irow p', by
    rw [hm2] at hp'
    have := congrArg (Option.map irow) hp'
    rw [← List.getElem?_map, List.map_append] at this
    simpa only [List.map_cons, List.map_nil, nums_irow, Option.map_some] using this, .inl rfl⟩⟩)
   obtain ⟨D, h5, sn, ln, hD, cd5, hold5, hn5⟩ := new_good hn qs2 (by omega) h4 born4 _ hv4
   have ch5 := ch4.mono hold5 cd5.born hn5
   obtain ⟨call, B1, c1, _⟩ := call_at tables.ok mixed [] sn ln
   refine RunF.tms (fun u => u = 0 ∨ u = 2 ∨ u = 7 ∨ u = 78 ∨ u = 85) fun tm3 hT => ?_
   have v2 : tm3 2 = some (irow p) := (hT 2 (by simp)).trans u2
   have v7 : tm3 7 = some (.ptr C 0) := (hT 7 (by simp)).trans u7
   have v78 : tm3 78 = some (pc n) := (hT 78 (by simp)).trans rfl
   have v85 : tm3 85 = some (.slice b 0 (L + 2) (.toEnd 1)) := by rw [hb']; exact (hT 85 (by simp)).trans rfl
   clear hT u0 u1 u2 u7 u9 u11 tm2 sn ln
   refine RunF.ops B1 6 (by decide) ?_
   simp (disch := omega) only [kW, kG, Nat.reduceEqDiff, reduceIte, Nat.reduceLT, Nat.reduceLeDiff, Nat.reduceAdd, Nat.reduceSub, Nat.reduceMul, Nat.reducePow, Nat.reduceDiv, Nat.reduceMod, evIndexAddr, TD.agg, evFieldAddr, binA_eqB ty4, binA_neB ty4, ty3, ty4, ty9, ty22, ty23, ty27, ty28, ty65, ty67, ty68, ty70, ty73, fn10, fn11, fn13, fn27, fn19, fn16, fn21, fn17, fn15, fn23, v78, v85, c1]
   simp only [goN_some]
   refine RunF.done (by decide) ?_
   simp only [thenQ_normal]
   refine WP.tms (fun u => u = 2 ∨ u = 7 ∨ u = 8 ∨ u = 12) fun tm4 hT => ?_
   have u2 : tm4 2 = some (irow p) := (hT 2 (by simp)).trans v2
   have u7 : tm4 7 = some (.ptr C 0) := (hT 7 (by simp)).trans v7
   have u8 : tm4 8 = some (.flat (.int .i64 0)) := (hT 8 (by simp)).trans rfl
   have u12 : tm4 12 = some (.ptr D 0) := (hT 12 (by simp)).trans rfl
   clear hT v2 v7 v78 v85 tm3 c1 B1
   clear hB0 hbB hborn hold hcl hrl cl ch4 hm2 hv4 b4 hold4 born4 hold5
   obtain ⟨h6, so, lo, hold6, hb6, hn6⟩ := chOrder hn ch5
   have ch6 := ch5.mono hold6 hb6 hn6
   have cd6 := cd5.mono hold6 hb6 hn6
   obtain ⟨S, hS⟩ : ∃ S, S = decS (ordK (bet n) qs) := ⟨_, rfl⟩
   rw [← hS] at so
   obtain ⟨call, B1, c1, _⟩ := call_at tables.ok mixed [] so lo
   refine wp_seqQ ?_
   refine wp_seqQ ?_
   refine RunF.wp ?_
   refine RunF.ops B1 9 (by decide) ?_
   simp (disch := omega) only [kW, kG, Nat.reduceEqDiff, reduceIte, Nat.reduceLT, Nat.reduceLeDiff, Nat.reduceAdd, Nat.reduceSub, Nat.reduceMul, Nat.reducePow, Nat.reduceDiv, Nat.reduceMod, evIndexAddr, TD.agg, evFieldAddr, binA_eqB ty4, binA_neB ty4, ty3, ty4, ty9, ty22, ty23, ty27, ty28, ty65, ty67, ty68, ty70, ty73, fn10, fn11, fn13, fn27, fn19, fn16, fn21, fn17, fn15, fn23, u7, u8, u12, c1, eq_nilP]
   simp only [goN_some]
   refine RunF.tms (fun u => u = 2 ∨ u = 7 ∨ u = 12 ∨ u = 95 ∨ u = 97) fun tm5 hT => ?_
   have v2 : tm5 2 = some (irow p) := (hT 2 (by simp)).trans u2
   have v7 : tm5 7 = some (.ptr C 0) := (hT 7 (by simp)).trans u7
   have v12 : tm5 12 = some (.ptr D 0) := (hT 12 (by simp)).trans u12
   have v95 : tm5 95 = some (.flat (.bool false)) := (hT 95 (by simp)).trans rfl
   have v97 : tm5 97 = some (.flat (.string S)) := (hT 97 (by simp)).trans rfl
   clear hT u2 u7 u8 u12 tm4 c1 B1 so lo
   obtain ⟨h7, so, lo, hold7, hb7, hn7⟩ := chOrder hn cd6
   have ch7 := ch6.mono hold7 hb7 hn7
   have cd7 := cd6.mono hold7 hb7 hn7
   rw [← ordK_same same, ← hS] at so
   obtain ⟨call, B1, c1, _⟩ := call_at tables.ok mixed [] so lo
   refine RunF.ops B1 2 (by decide) ?_
   simp (disch := omega) only [kW, kG, Nat.reduceEqDiff, reduceIte, Nat.reduceLT, Nat.reduceLeDiff, Nat.reduceAdd, Nat.reduceSub, Nat.reduceMul, Nat.reducePow, Nat.reduceDiv, Nat.reduceMod, evIndexAddr, TD.agg, evFieldAddr, binA_eqB ty4, binA_neB ty4, ty3, ty4, ty9, ty22, ty23, ty27, ty28, ty65, ty67, ty68, ty70, ty73, fn10, fn11, fn13, fn27, fn19, fn16, fn21, fn17, fn15, fn23, v95, v12, c1]
   simp only [goN_some]
   refine RunF.tms (fun u => u = 2 ∨ u = 7 ∨ u = 12 ∨ u = 95 ∨ u = 97 ∨ u = 99) fun tm6 hT => ?_
   have u2 : tm6 2 = some (irow p) := (hT 2 (by simp)).trans v2
   have u7 : tm6 7 = some (.ptr C 0) := (hT 7 (by simp)).trans v7
   have u12 : tm6 12 = some (.ptr D 0) := (hT 12 (by simp)).trans v12
   have u95 : tm6 95 = some (.flat (.bool false)) := (hT 95 (by simp)).trans v95
   have u97 : tm6 97 = some (.flat (.string S)) := (hT 97 (by simp)).trans v97
   have u99 : tm6 99 = some (.flat (.string S)) := (hT 99 (by simp)).trans rfl
   clear hT v2 v7 v12 v95 v97 tm5 c1 B1 so lo hold6 hold7
   obtain ⟨vb, h8, sb, leb, hvb, hold8, hb8, hn8⟩ := chBase hn ch7
   have ch8 := ch7.mono hold8 hb8 hn8
   have cd8 := cd7.mono hold8 hb8 hn8
   obtain ⟨call, B1, c1, _⟩ := call_at tables.ok mixed [] sb leb
   have e0 : decide (S = S) = true := decide_eq_true rfl
   refine RunF.ops B1 5 (by decide) ?_
   simp (disch := omega) only [kW, kG, Nat.reduceEqDiff, reduceIte, Nat.reduceLT, Nat.reduceLeDiff, Nat.reduceAdd, Nat.reduceSub, Nat.reduceMul, Nat.reducePow, Nat.reduceDiv, Nat.reduceMod, evIndexAddr, TD.agg, evFieldAddr, binA_eqB ty4, binA_neB ty4, ty3, ty4, ty9, ty22, ty23, ty27, ty28, ty65, ty67, ty68, ty70, ty73, fn10, fn11, fn13, fn27, fn19, fn16, fn21, fn17, fn15, fn23, u7, u95, u97, u99, c1, binA_strN, e0]
   simp only [goN_some]
   refine RunF.tms (fun u => u = 2 ∨ u = 7 ∨ u = 12 ∨ u = 102 ∨ u = 104) fun tm7 hT => ?_
   have v2 : tm7 2 = some (irow p) := (hT 2 (by simp)).trans u2
   have v7 : tm7 7 = some (.ptr C 0) := (hT 7 (by simp)).trans u7
   have v12 : tm7 12 = some (.ptr D 0) := (hT 12 (by simp)).trans u12
   have v102 : tm7 102 = some (.flat (.bool false)) := (hT 102 (by simp)).trans rfl
   have v104 : tm7 104 = some vb := (hT 104 (by simp)).trans rfl
   clear hT u2 u7 u12 u95 u97 u99 tm6 c1 B1 sb leb
   obtain ⟨vd, h9, sb, leb, hvd, hold9, hb9, hn9⟩ := chBase hn cd8
   have ch9 := ch8.mono hold9 hb9 hn9
   have cd9 := cd8.mono hold9 hb9 hn9
   obtain ⟨call, B1, c1, _⟩ := call_at tables.ok mixed [] sb leb
   refine RunF.ops B1 2 (by decide) ?_
   simp (disch := omega) only [kW, kG, Nat.reduceEqDiff, reduceIte, Nat.reduceLT, Nat.reduceLeDiff, Nat.reduceAdd, Nat.reduceSub, Nat.reduceMul, Nat.reducePow, Nat.reduceDiv, Nat.reduceMod, evIndexAddr, TD.agg, evFieldAddr, binA_eqB ty4, binA_neB ty4, ty3, ty4, ty9, ty22, ty23, ty27, ty28, ty65, ty67, ty68, ty70, ty73, fn10, fn11, fn13, fn27, fn19, fn16, fn21, fn17, fn15, fn23, v102, v12, c1]
   simp only [goN_some]
   refine RunF.tms (fun u => u = 2 ∨ u = 7 ∨ u = 12 ∨ u = 102 ∨ u = 104 ∨ u = 106) fun tm8 hT => ?_
   have u2 : tm8 2 = some (irow p) := (hT 2 (by simp)).trans v2
   have u7 : tm8 7 = some (.ptr C 0) := (hT 7 (by simp)).trans v7
   have u12 : tm8 12 = some (.ptr D 0) := (hT 12 (by simp)).trans v12
   have u102 : tm8 102 = some (.flat (.bool false)) := (hT 102 (by simp)).trans v102
   have u104 : tm8 104 = some vb := (hT 104 (by simp)).trans v104
   have u106 : tm8 106 = some vd := (hT 106 (by simp)).trans rfl
   clear hT v2 v7 v12 v102 v104 tm7 c1 B1 sb leb
   rw [← baseK_same same] at hvd
   have hbl := baseK_len (n := n) (β := bet n) (gens := qs)
   have hr1 := (hvb.below hb8 hold9).row
   have hr2 := hvd.row
   have ss := same_at hr1 hr2 (by rw [List.length_map]; omega) (by rw [List.length_map]; omega)
   rw [decide_eq_true rfl] at ss
   obtain ⟨vo, h10, so, leo, hvo, hold10, hb10, hn10⟩ := chOrbits hn ch9
   have ch10 := ch9.mono hold10 hb10 hn10
   have cd10 := cd9.mono hold10 hb10 hn10
   obtain ⟨call, B1, c1, c2⟩ := call_at2 tables.ok mixed ss (Hp.Le.refl _) so leo (by decide)
   refine RunF.ops B1 6 (by decide) ?_
   simp (disch := omega) only [kW, kG, Nat.reduceEqDiff, reduceIte, Nat.reduceLT, Nat.reduceLeDiff, Nat.reduceAdd, Nat.reduceSub, Nat.reduceMul, Nat.reducePow, Nat.reduceDiv, Nat.reduceMod, evIndexAddr, TD.agg, evFieldAddr, binA_eqB ty4, binA_neB ty4, ty3, ty4, ty9, ty22, ty23, ty27, ty28, ty65, ty67, ty68, ty70, ty73, fn10, fn11, fn13, fn27, fn19, fn16, fn21, fn17, fn15, fn23, u7, u102, u104, u106, c1, c2]
   simp only [goN_some]
   refine RunF.tms (fun u => u = 2 ∨ u = 7 ∨ u = 12 ∨ u = 110 ∨ u = 112) fun tm9 hT => ?_
   have v2 : tm9 2 = some (irow p) := (hT 2 (by simp)).trans u2
   have v7 : tm9 7 = some (.ptr C 0) := (hT 7 (by simp)).trans u7
   have v12 : tm9 12 = some (.ptr D 0) := (hT 12 (by simp)).trans u12
   have v110 : tm9 110 = some (.flat (.bool false)) := (hT 110 (by simp)).trans rfl
   have v112 : tm9 112 = some vo := (hT 112 (by simp)).trans rfl
   clear hT u2 u7 u12 u102 u104 u106 tm8 c1 c2 B1 so leo ss hr1 hr2 hvb hvd
   obtain ⟨ve, h11, so, leo, hve, hold11, hb11, hn11⟩ := chOrbits hn cd10
   have ch11 := ch10.mono hold11 hb11 hn11
   have cd11 := cd10.mono hold11 hb11 hn11
   obtain ⟨call, B1, c1, _⟩ := call_at tables.ok mixed [] so leo
   refine RunF.ops B1 2 (by decide) ?_
   simp (disch := omega) only [kW, kG, Nat.reduceEqDiff, reduceIte, Nat.reduceLT, Nat.reduceLeDiff, Nat.reduceAdd, Nat.reduceSub, Nat.reduceMul, Nat.reducePow, Nat.reduceDiv, Nat.reduceMod, evIndexAddr, TD.agg, evFieldAddr, binA_eqB ty4, binA_neB ty4, ty3, ty4, ty9, ty22, ty23, ty27, ty28, ty65, ty67, ty68, ty70, ty73, fn10, fn11, fn13, fn27, fn19, fn16, fn21, fn17, fn15, fn23, v110, v12, c1]
   simp only [goN_some]
   refine RunF.tms (fun u => u = 2 ∨ u = 7 ∨ u = 12 ∨ u = 110 ∨ u = 112 ∨ u = 114) fun tm10 hT => ?_
   have u2 : tm10 2 = some (irow p) := (hT 2 (by simp)).trans v2
   have u7 : tm10 7 = some (.ptr C 0) := (hT 7 (by simp)).trans v7
   have u12 : tm10 12 = some (.ptr D 0) := (hT 12 (by simp)).trans v12
   have u110 : tm10 110 = some (.flat (.bool false)) := (hT 110 (by simp)).trans v110
   have u112 : tm10 112 = some vo := (hT 112 (by simp)).trans v112
   have u114 : tm10 114 = some ve := (hT 114 (by simp)).trans rfl
   clear hT v2 v7 v12 v110 v112 tm9 c1 B1 so leo
   rw [← baseK_same same, ← orbK_same same] at hve
   have ho1 := hvo.rows.below hb10 hold11
   have ho2 := hve.rows
   have hol : ∀ l ∈ ((baseK (bet n) qs).map (orbK (bet n) qs)).map (fun l => l.map fun (x : Nat) => (x : Int)), l.length ≤ 1000000 := fun l hl => by
    rw [List.map_map] at hl
    obtain ⟨k, _, rfl⟩ := List.mem_map.1 hl
    have := orbK_le (bet n) qs k
    simp only [Function.comp, List.length_map]
    omega
   have ll := lists_at ho1 ho2 (fun x hx c => ?_) (by rw [List.length_map, List.length_map]; omega) (by rw [List.length_map, List.length_map]; omega) hol hol
   rotate_left
   ·have h1 := hvo.rows.top hb10 x hx
    have h2 := hve.top_ge c
    omega
   rw [decide_eq_true rfl] at ll
   obtain ⟨call, B1, c1, _⟩ := call_at tables.ok mixed [] ll (Hp.Le.refl _)
   refine RunF.ops B1 3 (by decide) ?_
   simp (disch := omega) only [kW, kG, Nat.reduceEqDiff, reduceIte, Nat.reduceLT, Nat.reduceLeDiff, Nat.reduceAdd, Nat.reduceSub, Nat.reduceMul, Nat.reducePow, Nat.reduceDiv, Nat.reduceMod, evIndexAddr, TD.agg, evFieldAddr, binA_eqB ty4, binA_neB ty4, ty3, ty4, ty9, ty22, ty23, ty27, ty28, ty65, ty67, ty68, ty70, ty73, fn10, fn11, fn13, fn27, fn19, fn16, fn21, fn17, fn15, fn23, u110, u112, u114, c1]
   simp only [goN_some]
   refine RunF.done (by decide) ?_
   simp only [thenQ_normal]
   refine wp_condF rfl ?_
   refine WP.tms (fun u => u = 2 ∨ u = 7 ∨ u = 12) fun tm11 hT => ?_
   have v2 : tm11 2 = some (irow p) := (hT 2 (by simp)).trans u2
   have v7 : tm11 7 = some (.ptr C 0) := (hT 7 (by simp)).trans u7
   have v12 : tm11 12 = some (.ptr D 0) := (hT 12 (by simp)).trans u12
   clear hT u2 u7 u12 u110 u112 u114 tm10 c1 B1 ll
   obtain ⟨x, e, s1, s2⟩ : ∃ (x : Bool) (e : Int), SemCall Try.prog 23 [.ptr C 0, irow p] h11 (.ret (.tuple [.flat (.bool x), .flat (.int .i64 e)])) h11 ∧ SemCall Try.prog 23 [.ptr D 0, irow p] h11 (.ret (.tuple [.flat (.bool x), .flat (.int .i64 e)])) h11 := by
    by_cases hk : OkRow n p
    ·obtain ⟨q, rfl⟩ := check_ok hk.1 hk.2
     have a1 := chHas hn ch11 q
     have a2 := chHas hn cd11 q
     rw [← hasB_same same] at a2
     rw [nums_irow]
     exact ⟨_, _, a1, a2⟩
    ·exact ⟨_, _, chHas_bad2 hn ch11 p hp hk, chHas_bad2 hn cd11 p hp hk⟩
   obtain ⟨call, B1, c1, _⟩ := call_at tables.ok mixed [] s1 (Hp.Le.refl _)
   clear B
   have B := B1
   repeat (first
    | refine wp_seqQ ?_ | refine wp_blockQ ?_ | refine wp_scopeQ ?_
    | ((first | refine wp_skipQ ?_ | refine wp_labelQ ?_ | refine wp_exitQ ?_ | refine wp_retQ ?_); simp only [kQ, Nat.reduceEqDiff, reduceIte])
    | ((fail_if_success refine wp_reg (id := 18) B ?_); (first | refine wp_dreg B (id := 11) [0, 1, 3, 0, 0, 16, 48, 120, 248, 511, 1023, 2047, 2047, 4095, 16383] (by kernel_rfl) ?_ | refine wp_reg B ?_); simp (disch := omega) only [kW, kG, Nat.reduceEqDiff, reduceIte, Nat.reduceLT, Nat.reduceLeDiff, Nat.reduceAdd, Nat.reduceSub, Nat.reduceMul, Nat.reducePow, Nat.reduceDiv, Nat.reduceMod, evIndexAddr, TD.agg, evFieldAddr, binA_eqB ty4, binA_neB ty4, ty3, ty4, ty9, ty22, ty23, ty27, ty28, ty65, ty67, ty68, ty70, ty73, fn10, fn11, fn13, fn27, fn19, fn16, fn21, fn17, fn15, fn23, v2, v7, v12, c1])
    | refine wp_condT rfl ?_ | refine wp_condF rfl ?_)
   obtain ⟨call, B2, c2, _⟩ := call_at tables.ok mixed [] s2 (Hp.Le.refl _)
   clear B B1 c1
   have B := B2
   cases x
   all_goals
    repeat (first
     | refine wp_seqQ ?_ | refine wp_blockQ ?_ | refine wp_scopeQ ?_
     | ((first | refine wp_skipQ ?_ | refine wp_labelQ ?_ | refine wp_exitQ ?_ | refine wp_retQ ?_); simp only [kQ, Nat.reduceEqDiff, reduceIte])
     | ((first | refine wp_dreg B (id := 11) [0, 1, 3, 0, 0, 16, 48, 120, 248, 511, 1023, 2047, 2047, 4095, 16383] (by kernel_rfl) ?_ | refine wp_reg B ?_); simp (disch := omega) only [kW, kG, Nat.reduceEqDiff, reduceIte, Nat.reduceLT, Nat.reduceLeDiff, Nat.reduceAdd, Nat.reduceSub, Nat.reduceMul, Nat.reducePow, Nat.reduceDiv, Nat.reduceMod, evIndexAddr, TD.agg, evFieldAddr, binA_eqB ty4, binA_neB ty4, ty3, ty4, ty9, ty22, ty23, ty27, ty28, ty65, ty67, ty68, ty70, ty73, fn10, fn11, fn13, fn27, fn19, fn16, fn21, fn17, fn15, fn23, v2, v7, v12, c2])
     | refine wp_condT rfl ?_ | refine wp_condF rfl ?_)
    simp (disch := omega) only [kS, Nat.reduceEqDiff, reduceIte, Nat.reduceLT, Nat.reduceLeDiff, Nat.reduceAdd, Nat.reduceSub, Nat.reduceMul, Nat.reducePow, Nat.reduceDiv, Nat.reduceMod, evIndexAddr, TD.agg, evFieldAddr, binA_eqB ty4, binA_neB ty4, ty3, ty4, ty9, ty22, ty23, ty27, ty28, ty65, ty67, ty68, ty70, ty73, fn10, fn11, fn13, fn27, fn19, fn16, fn21, fn17, fn15, fn23]
    rfl
  ·obtain ⟨i, rfl⟩ : ∃ i, f' = i + 1 := ⟨f' - 1, by omega⟩
   rw [show (((i + 1 : Nat) : Int) - 1) = (i : Int) by omega] at t10
   obtain ⟨g, hg⟩ : ∃ g, gs[i]? = some g := ⟨_, List.getElem?_eq_getElem (by omega)⟩
   have g1 := rows_get hg
   have hts : (gs.drop i).reverse.map irow = (gs.drop (i + 1)).reverse.map irow ++ [irow g] := by rw [rev_step hg, List.map_append]; rfl
   have ci := clean_irow g
   rcases hv with ⟨e0, rfl⟩ | ⟨B0, rfl, hB0, hbB⟩
   ·simp only [nilS] at t9
    repeat (first
     | refine wp_seqQ ?_ | refine wp_blockQ ?_ | refine wp_scopeQ ?_
     | ((first | refine wp_skipQ ?_ | refine wp_labelQ ?_ | refine wp_exitQ ?_ | refine wp_retQ ?_); simp only [kQ, Nat.reduceEqDiff, reduceIte])
     | ((first | refine wp_dreg B (id := 11) [0, 1, 3, 0, 0, 16, 48, 120, 248, 511, 1023, 2047, 2047, 4095, 16383] (by kernel_rfl) ?_ | refine wp_reg B ?_); simp (disch := omega) only [kW, kG, Nat.reduceEqDiff, reduceIte, Nat.reduceLT, Nat.reduceLeDiff, Nat.reduceAdd, Nat.reduceSub, Nat.reduceMul, Nat.reducePow, Nat.reduceDiv, Nat.reduceMod, evIndexAddr, TD.agg, evFieldAddr, binA_eqB ty4, binA_neB ty4, ty3, ty4, ty9, ty22, ty23, ty27, ty28, ty65, ty67, ty68, ty70, ty73, fn10, fn11, fn13, fn27, fn19, fn16, fn21, fn17, fn15, fn23, t0, t1, t2, t7, t9, t10, g1, ci, cells_irow])
     | refine wp_condT rfl ?_ | refine wp_condF rfl ?_)
    refine ⟨_, ?_, i, _, _, _, rfl, rfl, by omega, t0, t1, t2, t7, rfl, rfl, .inr ⟨hh.next + 1, ?_, ?_, by omega⟩, fun j hj => ?_, fun j hj => ?_, ?_⟩
    ·omega
    ·rw [hts, e0]; rfl
    ·dsimp only; rw [upd_eq, hts, e0]; rfl
    ·dsimp only; rw [upd_ne _ _ (by omega), upd_ne _ _ (by omega)]; exact hold j hj
    ·dsimp only at hj ⊢; rw [upd_ne _ _ (by omega), upd_ne _ _ (by omega)]; exact hborn j (by omega)
    ·dsimp only; omega
   ·have lb := lt_next hborn hB0
    obtain ⟨m, hm⟩ : ∃ m, m = ((gs.drop (i + 1)).reverse.map irow).length := ⟨_, rfl⟩
    have hm1 : m ≤ 6 := by rw [hm]; simp only [List.length_map, List.length_reverse, List.length_drop]; omega
    rw [← hm] at t9
    have hll := hm.symm
    have cl := clean_irows (gs.drop (i + 1)).reverse
    repeat (first
     | refine wp_seqQ ?_ | refine wp_blockQ ?_ | refine wp_scopeQ ?_
     | ((first | refine wp_skipQ ?_ | refine wp_labelQ ?_ | refine wp_exitQ ?_ | refine wp_retQ ?_); simp only [kQ, Nat.reduceEqDiff, reduceIte])
     | ((first | refine wp_dreg B (id := 11) [0, 1, 3, 0, 0, 16, 48, 120, 248, 511, 1023, 2047, 2047, 4095, 16383] (by kernel_rfl) ?_ | refine wp_reg B ?_); simp (disch := omega) only [kW, kG, Nat.reduceEqDiff, reduceIte, Nat.reduceLT, Nat.reduceLeDiff, Nat.reduceAdd, Nat.reduceSub, Nat.reduceMul, Nat.reducePow, Nat.reduceDiv, Nat.reduceMod, evIndexAddr, TD.agg, evFieldAddr, binA_eqB ty4, binA_neB ty4, ty3, ty4, ty9, ty22, ty23, ty27, ty28, ty65, ty67, ty68, ty70, ty73, fn10, fn11, fn13, fn27, fn19, fn16, fn21, fn17, fn15, fn23, t0, t1, t2, t7, t9, t10, g1, ci, cells_irow, hB0, hll, cl])
     | refine wp_condT rfl ?_ | refine wp_condF rfl ?_)
    refine ⟨_, ?_, i, _, _, _, rfl, rfl, by omega, t0, t1, t2, t7, rfl, rfl, .inr ⟨hh.next + 1, ?_, ?_, by omega⟩, fun j hj => ?_, fun j hj => ?_, ?_⟩
    ·omega
    ·rw [hts, List.length_append, hll]; rfl
    ·dsimp only; rw [upd_eq, hts]
    ·dsimp only; rw [upd_ne _ _ (by omega), upd_ne _ _ (by omega), upd_ne _ _ (by omega)]; exact hold j hj
    ·dsimp only at hj ⊢; rw [upd_ne _ _ (by omega), upd_ne _ _ (by omega), upd_ne _ _ (by omega)]; exact hborn j (by omega)
    ·dsimp only; omega
end Go.Proofs.Ytkffcclalncgdaa.Iv
end
section
set_option maxHeartbeats 16000000
set_option linter.unusedVariables false
set_option linter.unusedSimpArgs false
set_option maxRecDepth 10000
namespace Go.Proofs.Ytkffcclalncgdaa.Iv
open Go Go.Iv Go.RowKit Pg Ch
theorem same_none {n : Nat} (hn : n ≤ 64) (p : List Int) (hb : beyondB n [] = false) (h : Hp) : SemCall Try.prog 5 [pc n, irows [], irow p] h (.ret (.flat (.bool true))) h := by
 refine sem_pure tables.ok Try.func5 rfl rfl rfl rfl (by simp [pureL, irows_pure, irow_pure, AV.pure, pc]) rfl ?_ h
 obtain ⟨h0, hh0⟩ : ∃ h0, h0 = Hp.empty := ⟨_, rfl⟩
 rw [← hh0]
 have born0 : ∀ i, h0.next ≤ i → h0.m i = none := fun i _ => by rw [hh0]; rfl
 obtain ⟨C, h2, sc, le, hC, ch2, hold2, hn2⟩ := new_good hn [] (by simp) h0 born0 (irows []) (.inl rfl)
 obtain ⟨call, B, c1, c2⟩ := call_at tables.ok mixed [EWorks, EBeyond] sc le
 have k1 : call 10 [] h0 = some (.ret (.flat (.bool true)), h0) := (c2 _ _ _ (by decide)).trans ((tabL_hit EWorks _ _ _ _ rfl).trans (EWorks_ans h0))
 have k2 : call 11 [.flat (.int .i64 (n : Int)), irows []] h0 = some (.ret (.flat (.bool false)), h0) := ((c2 _ _ _ (by decide)).trans ((tabL_miss EWorks _ _ _ _ (Nat.ne_of_beq_eq_false rfl)).trans ((tabL_hit EBeyond _ _ _ _ rfl).trans (EBeyond_ans n [] h0 (by simp))))).trans (by rw [hb])
 have lg := len_irows []
 simp only [pc] at c1
 simp only [List.length_nil] at lg
 unfold Try.f5 bodyOf entry; simp only [Option.getD_some, List.length_cons, List.length_nil, Nat.reduceAdd, Nat.reduceSub]
 repeat (first
  | refine wp_seqQ ?_ | refine wp_blockQ ?_ | refine wp_scopeQ ?_
  | ((first | refine wp_skipQ ?_ | refine wp_labelQ ?_ | refine wp_exitQ ?_ | refine wp_retQ ?_); simp only [kQ, Nat.reduceEqDiff, reduceIte])
  | ((first | refine wp_dreg B (id := 11) [0, 1, 3, 0, 0, 16, 48, 120, 248, 511, 1023, 2047, 2047, 4095, 16383] (by kernel_rfl) ?_ | refine wp_reg B ?_); simp (disch := omega) only [kW, kG, Nat.reduceEqDiff, reduceIte, Nat.reduceLT, Nat.reduceLeDiff, Nat.reduceAdd, Nat.reduceSub, Nat.reduceMul, Nat.reducePow, Nat.reduceDiv, Nat.reduceMod, evIndexAddr, TD.agg, evFieldAddr, binA_eqB ty4, binA_neB ty4, ty3, ty4, ty9, ty22, ty23, ty27, ty28, ty65, ty67, ty68, ty70, ty73, fn10, fn11, fn13, fn27, fn19, fn16, fn21, fn17, fn15, fn23, k1, k2, lg, c1, pc, ne_nilP])
  | refine wp_condT rfl ?_ | refine wp_condF rfl ?_)
 simp (disch := omega) only [kS, Nat.reduceEqDiff, reduceIte, Nat.reduceLT, Nat.reduceLeDiff, Nat.reduceAdd, Nat.reduceSub, Nat.reduceMul, Nat.reducePow, Nat.reduceDiv, Nat.reduceMod, evIndexAddr, TD.agg, evFieldAddr, binA_eqB ty4, binA_neB ty4, ty3, ty4, ty9, ty22, ty23, ty27, ty28, ty65, ty67, ty68, ty70, ty73, fn10, fn11, fn13, fn27, fn19, fn16, fn21, fn17, fn15, fn23]
theorem new_err (n : Int) (gs : List (List Int)) (hg : gs.length ≤ 16) (hgl : ∀ g ∈ gs, g.length ≤ 1000000) (h : Hp) (hbad : n < 0 ∨ 64 < n ∨ ∃ m : Nat, n = m ∧ ¬ ∀ p ∈ gs, OkRow m p) (born : ∀ i, h.next ≤ i → h.m i = none) :
    ∃ e : Int, e ≠ 0 ∧ (0 ≤ e ∧ e ≤ 1000) ∧ SemCall Try.prog 13 [.flat (.int .i64 n), irows gs] h (errV e) h := by
 by_cases h1 : n < 0
 ·exact ⟨2, by decide, by decide, new_neg n h1 _ h⟩
 by_cases h2 : 64 < n
 ·exact ⟨3, by decide, by decide, new_long n h2 _ h⟩
 obtain ⟨m, rfl, hm⟩ := (hbad.resolve_left h1).resolve_left h2
 obtain ⟨e, h', sc, le, k⟩ := new_sem (n := m) (by omega) gs hg hgl h born (irows gs) (.inl rfl)
 rcases k with ⟨_, rfl, rfl⟩ | ⟨qs, C, rfl, _⟩
 ·exact ⟨180, by decide, by decide, sc⟩
 ·exact absurd (ok_pm (by omega) qs) hm
theorem beyond_len {n : Int} {gs : List (List Int)} (h : beyondB n gs = false) : ∀ g ∈ gs, g.length ≤ 100 := fun g hg => by
 unfold beyondB at h
 rw [Bool.or_eq_false_iff] at h
 have := List.any_eq_false.1 h.1 g hg
 simpa using this
theorem chainSame_sem (n : Int) (gs : List (List Int)) (p : List Int)  (hg : gs.length < 4611686018427387904) (hp : p.length < 4611686018427387904) (h : Hp) : SemCall Try.prog 5 [.flat (.int .i64 n), irows gs, irow p] h (.ret (.flat (.bool true))) h := by
 cases hb : beyondB n gs with
 | true => exact same_far n gs p (by omega) (.inl hb) h
 | false =>
  by_cases h6 : 6 < gs.length
  ·exact same_far n gs p (by omega) (.inr h6) h
  have hl := beyond_len hb
  by_cases hbad : n < 0 ∨ 64 < n ∨ ∃ m : Nat, n = m ∧ ¬ ∀ p ∈ gs, OkRow m p
  ·obtain ⟨e, e0, e1, k⟩ := new_err n gs (by omega) (fun g k => by have := hl g k; omega) Hp.empty hbad (fun _ _ => rfl)
   exact same_err n gs p hb (by omega) e e0 e1 k h
  ·have h0 : ¬ n < 0 := fun c => hbad (.inl c)
   have h64 : ¬ 64 < n := fun c => hbad (.inr (.inl c))
   obtain ⟨m, rfl⟩ : ∃ m : Nat, n = m := ⟨n.toNat, by omega⟩
   have hok : ∀ p ∈ gs, OkRow m p := Classical.byContradiction fun c => hbad (.inr (.inr ⟨m, rfl, c⟩))
   obtain ⟨qs, rfl⟩ := all_pm gs hok
   rw [List.length_map] at h6
   rcases Nat.eq_zero_or_pos qs.length with hz | hz
   ·rw [List.eq_nil_of_length_eq_zero hz] at hb ⊢
    exact same_none (by omega) p hb h
   ·exact same_good (by omega) qs hz (by omega) p hp hb h
theorem same_calls (n : Int) (gs : List (List Int)) (p : List Int) (v1 v2 : Value) (w : World) (h1 : WRows w gs v1) (h2 : WRow w p v2) (lg : gs.length < 4611686018427387904) (lp : p.length < 4611686018427387904) : Calls Try.prog 5 #[.int .i64 n, v1, v2] w fun e w' => e = .returned (.bool true) ∧ RowKit.Below w.heap.size w w' := by
 refine ((wr_stood w).call (args' := [.int .i64 n, v1, v2]) (chainSame_sem n gs p lg lp Hp.empty) (relL_cons.2 ⟨_, _, rfl, rel_flat _, relL_cons.2 ⟨_, _, rfl, h1.rel, relL_cons.2 ⟨_, _, rfl, h2.rel, by simp [AV.relL]⟩⟩⟩)).mono ?_
 rintro e w' ⟨v', ρ', rfl, hv, hb⟩
 simp only [AV.rel] at hv
 exact ⟨by rw [hv], hb⟩
end Go.Proofs.Ytkffcclalncgdaa.Iv
end
