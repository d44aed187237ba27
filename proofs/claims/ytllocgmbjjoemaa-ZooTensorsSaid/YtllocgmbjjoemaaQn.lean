/- Rows of numbers; gram's small parts: small, Check's closures, each. gram.positive: Bareiss's rule on a matrix of whole numbers in memory. gram.positive, walked: all leading minors above 0. gram.Check, walked. The document's whole numbers (parquetref05): Of, Mul, Add, Neg, exact, walked. The document's leading minors (parquetref07.Minor): corner, walked. -/
import Derived.Test.YtllocgmbjjoemaaQl
import Derived.Test.YtllocgmbjjoemaaQm
section
set_option maxHeartbeats 4000000
set_option linter.unusedVariables false
set_option linter.unusedSimpArgs false
set_option maxRecDepth 10000
namespace Go.Proofs.Ytllocgmbjjoemaa.Iv
open Go Go.Iv Go.RowKit Go.Proofs.Ytllocgmbjjoemaa.Nv
open Dg (bl)
def ic (x : Int) : AV := .flat (.int .i64 x)
def irow (r : List Int) : AV := .isl (r.map ic) 1 0 r.length
def irows (a : List (List Int)) : AV := .isl (a.map irow) 1 0 a.length
theorem ic_pure (x : Int) : (ic x).pure = true := rfl
theorem irow_pure (r : List Int) : (irow r).pure = true := by simp only [irow, AV.pure]; exact pureL_map ic_pure r
theorem irows_pure (a : List (List Int)) : (irows a).pure = true := by simp only [irows, AV.pure]; exact pureL_map irow_pure a
theorem irows_one (r : List (List Int)) : AV.one (irows r) = true := rfl
theorem irows_clean (r : List (List Int)) : AV.clean (irows r) = true := rfl
theorem irows_cells (r : List (List Int)) : AV.cells (irows r) = [irows r] := rfl
theorem map_inj {α : Type} {f : α → AV} (hf : ∀ x y, f x = f y → x = y) : ∀ {l m : List α}, l.map f = m.map f → l = m
 | [], [], _ => rfl
 | [], _ :: _, h => by simp at h
 | _ :: _, [], h => by simp at h
 | x :: l, y :: m, h => by
  simp only [List.map_cons, List.cons.injEq] at h
  rw [hf _ _ h.1, map_inj hf h.2]
theorem irow_inj {r s : List Int} (h : irow r = irow s) : r = s := by
 simp only [irow, AV.isl.injEq] at h
 exact map_inj (fun x y e => by simpa [ic] using e) h.1
theorem irows_inj {a b : List (List Int)} (h : irows a = irows b) : a = b := by
 simp only [irows, AV.isl.injEq] at h
 exact map_inj (fun x y e => irow_inj e) h.1
theorem irows_eq {a b : List (List Int)} : irows a = irows b ↔ a = b := ⟨irows_inj, fun h => by rw [h]⟩
theorem irows_len (a : List (List Int)) : evLen tab 22 (irows a) = some (.flat (.int .i64 (a.length : Int))) := by
 simp only [irows, evLen, ty22, ofNat_is]
theorem irows_get {a : List (List Int)} {i : Nat} {r : List Int} (h : a[i]? = some r) : (a.map irow)[i]? = some (irow r) := by rw [List.getElem?_map, h]; rfl
theorem irow_get {r : List Int} {i : Nat} {x : Int} (h : r[i]? = some x) : (r.map ic)[i]? = some (.flat (.int .i64 x)) := by rw [List.getElem?_map, h]; rfl
def smallB (x : Int) : Bool := decide (-16384 ≤ x ∧ x ≤ 16384)
theorem small_sem (x : Int) (h : Hp) : SemCall Try.prog 29 [.flat (.int .i64 x)] h (.ret (.flat (.bool (smallB x)))) h := by
 refine sem_pure tables.ok Try.func29 rfl rfl rfl rfl rfl rfl ?_ h
 have B := base0
 unfold smallB
 unfold Try.f29 bodyOf entry; simp only [Option.getD_some, List.length_cons, List.length_nil, Nat.reduceAdd, Nat.reduceSub]
 by_cases h1 : -16384 ≤ x
 ·by_cases h2 : x ≤ 16384
  ·rw [decide_eq_true ⟨h1, h2⟩]
   repeat (first
    | refine wp_seqQ ?_ | refine wp_blockQ ?_ | refine wp_scopeQ ?_
    | ((first | refine wp_skipQ ?_ | refine wp_labelQ ?_ | refine wp_exitQ ?_ | refine wp_retQ ?_); simp only [kQ, Nat.reduceEqDiff, reduceIte])
    | (refine wp_reg B ?_; simp (disch := omega) only [kW, Nat.reduceEqDiff, reduceIte, Nat.reduceLT, Nat.reduceLeDiff, Nat.reduceAdd, Nat.reduceSub, Nat.reduceMul, Nat.reducePow, Nat.reduceDiv, Nat.reduceMod, evIndexAddr, TD.agg, evFieldAddr, ty2])
    | refine wp_condT rfl ?_ | refine wp_condF rfl ?_)
   simp (disch := omega) only [kS, Nat.reduceEqDiff, reduceIte, Nat.reduceLT, Nat.reduceLeDiff, Nat.reduceAdd, Nat.reduceSub, Nat.reduceMul, Nat.reducePow, Nat.reduceDiv, Nat.reduceMod, evIndexAddr, TD.agg, evFieldAddr, ty2]
  ·rw [decide_eq_false (fun k => h2 k.2)]
   repeat (first
    | refine wp_seqQ ?_ | refine wp_blockQ ?_ | refine wp_scopeQ ?_
    | ((first | refine wp_skipQ ?_ | refine wp_labelQ ?_ | refine wp_exitQ ?_ | refine wp_retQ ?_); simp only [kQ, Nat.reduceEqDiff, reduceIte])
    | (refine wp_reg B ?_; simp (disch := omega) only [kW, Nat.reduceEqDiff, reduceIte, Nat.reduceLT, Nat.reduceLeDiff, Nat.reduceAdd, Nat.reduceSub, Nat.reduceMul, Nat.reducePow, Nat.reduceDiv, Nat.reduceMod, evIndexAddr, TD.agg, evFieldAddr, ty2])
    | refine wp_condT rfl ?_ | refine wp_condF rfl ?_)
   simp (disch := omega) only [kS, Nat.reduceEqDiff, reduceIte, Nat.reduceLT, Nat.reduceLeDiff, Nat.reduceAdd, Nat.reduceSub, Nat.reduceMul, Nat.reducePow, Nat.reduceDiv, Nat.reduceMod, evIndexAddr, TD.agg, evFieldAddr, ty2]
 ·rw [decide_eq_false (fun k => h1 k.1)]
  repeat (first
   | refine wp_seqQ ?_ | refine wp_blockQ ?_ | refine wp_scopeQ ?_
   | ((first | refine wp_skipQ ?_ | refine wp_labelQ ?_ | refine wp_exitQ ?_ | refine wp_retQ ?_); simp only [kQ, Nat.reduceEqDiff, reduceIte])
   | (refine wp_reg B ?_; simp (disch := omega) only [kW, Nat.reduceEqDiff, reduceIte, Nat.reduceLT, Nat.reduceLeDiff, Nat.reduceAdd, Nat.reduceSub, Nat.reduceMul, Nat.reducePow, Nat.reduceDiv, Nat.reduceMod, evIndexAddr, TD.agg, evFieldAddr, ty2])
   | refine wp_condT rfl ?_ | refine wp_condF rfl ?_)
  simp (disch := omega) only [kS, Nat.reduceEqDiff, reduceIte, Nat.reduceLT, Nat.reduceLeDiff, Nat.reduceAdd, Nat.reduceSub, Nat.reduceMul, Nat.reducePow, Nat.reduceDiv, Nat.reduceMod, evIndexAddr, TD.agg, evFieldAddr, ty2]
noncomputable def EgSmall : Entry Try.prog := ⟨29, fun args h e h' => h' = h ∧ ∃ (x : Int), args = [.flat (.int .i64 x)] ∧ e = .ret (.flat (.bool (smallB x))), by
 rintro args h e h' ⟨rfl, x, rfl, rfl⟩
 exact ⟨small_sem x _, Hp.Le.refl _⟩⟩
theorem EgSmall_ans (x : Int) (h : Hp)  : EgSmall.ans [.flat (.int .i64 x)] h = some (.ret (.flat (.bool (smallB x))), h) :=
 Entry.one ⟨rfl, x, rfl, rfl⟩ fun e h' ⟨hh, x', ha, he⟩ => by simp only [kI] at ha; subst ha; exact ⟨he, hh⟩
theorem check1_sem (i j x : Int) (h : Hp) : SemCall Try.prog 28 [.flat (.int .i64 i), .flat (.int .i64 j), .flat (.int .i64 x)] h (.ret (.flat (.bool (smallB x)))) h := by
 refine sem_pure tables.ok Try.func28 rfl rfl rfl rfl rfl rfl ?_ h
 have B : Base Try.prog tab _ := tabL_base [EgSmall] tables.ok mixed
 generalize hL : tabL [EgSmall] = call at B
 have c_EgSmall : ∀ a h, call 29 a h = EgSmall.ans a h := fun _ _ => hL ▸ rfl
 clear hL
 have k1 := fun h => EgSmall_ans x h
 unfold Try.f28 bodyOf entry; simp only [Option.getD_some, List.length_cons, List.length_nil, Nat.reduceAdd, Nat.reduceSub]
 repeat (first
  | refine wp_seqQ ?_ | refine wp_blockQ ?_ | refine wp_scopeQ ?_
  | ((first | refine wp_skipQ ?_ | refine wp_labelQ ?_ | refine wp_exitQ ?_ | refine wp_retQ ?_); simp only [kQ, Nat.reduceEqDiff, reduceIte])
  | (refine wp_reg B ?_; simp (disch := omega) only [kW, Nat.reduceEqDiff, reduceIte, Nat.reduceLT, Nat.reduceLeDiff, Nat.reduceAdd, Nat.reduceSub, Nat.reduceMul, Nat.reducePow, Nat.reduceDiv, Nat.reduceMod, evIndexAddr, TD.agg, evFieldAddr, ty2, fn29, c_EgSmall, EgSmall_ans, k1])
  | refine wp_condT rfl ?_ | refine wp_condF rfl ?_)
 simp (disch := omega) only [kS, Nat.reduceEqDiff, reduceIte, Nat.reduceLT, Nat.reduceLeDiff, Nat.reduceAdd, Nat.reduceSub, Nat.reduceMul, Nat.reducePow, Nat.reduceDiv, Nat.reduceMod, evIndexAddr, TD.agg, evFieldAddr, ty2, fn29, c_EgSmall, EgSmall_ans]
noncomputable def EgC1 : Entry Try.prog := ⟨28, fun args h e h' => h' = h ∧ ∃ (i j x : Int), args = [.flat (.int .i64 i), .flat (.int .i64 j), .flat (.int .i64 x)] ∧ e = .ret (.flat (.bool (smallB x))), by
 rintro args h e h' ⟨rfl, i, j, x, rfl, rfl⟩
 exact ⟨check1_sem i j x _, Hp.Le.refl _⟩⟩
theorem EgC1_ans (i j x : Int) (h : Hp)  : EgC1.ans [.flat (.int .i64 i), .flat (.int .i64 j), .flat (.int .i64 x)] h = some (.ret (.flat (.bool (smallB x))), h) :=
 Entry.one ⟨rfl, i, j, x, rfl, rfl⟩ fun e h' ⟨hh, i', j', x', ha, he⟩ => by simp only [kI] at ha; obtain ⟨rfl, rfl, rfl⟩ := ha; exact ⟨he, hh⟩
def ent (a : List (List Int)) (i j : Nat) : Int := (a.getD i []).getD j 0
theorem ent_is {a : List (List Int)} {i j : Nat} {r : List Int} {x : Int} (hi : a[i]? = some r) (hj : r[j]? = some x) : ent a i j = x := by
 simp only [ent, List.getD_eq_getElem?_getD, hi, hj, Option.getD_some]
def Sq (a : List (List Int)) : Prop := ∀ r ∈ a, r.length = a.length
theorem Sq.row {a : List (List Int)} (h : Sq a) {i : Nat} (hi : i < a.length) : ∃ r, a[i]? = some r ∧ r.length = a.length := ⟨a[i], List.getElem?_eq_getElem hi, h _ (List.getElem_mem hi)⟩
theorem Sq.get {a : List (List Int)} (h : Sq a) {i j : Nat} (hi : i < a.length) (hj : j < a.length) : ∃ r, a[i]? = some r ∧ r.length = a.length ∧ r[j]? = some (ent a i j) := by
 obtain ⟨r, h1, h2⟩ := h.row hi
 have h3 : r[j]? = some r[j] := List.getElem?_eq_getElem (by omega)
 exact ⟨r, h1, h2, by rw [ent_is h1 h3]; exact h3⟩
theorem check2_wp {call : CallF} (B : Base Try.prog tab call) (a : List (List Int)) (sq : Sq a) (i j : Nat) (x : Int) (hi : i < a.length) (hj : j < a.length) (ab : Nat) (h : Hp) (hm : h.m ab = some (.cells [irows a] 22 false)) :
    WP False Try.prog (bodyOf Try.f30) (entry [.flat (.int .i64 (i : Int)), .flat (.int .i64 (j : Int)), .flat (.int .i64 x), .ptr ab 0] 17 h (upd (upd (upd (upd noTmp 0 (some (.flat (.int .i64 (i : Int))))) 1 (some (.flat (.int .i64 (j : Int))))) 2 (some (.flat (.int .i64 x)))) 3 (some (.ptr ab 0)))) (endQ tab [.tmp 7] fun e h' => e = .ret (.flat (.bool (decide (x = ent a j i)))) ∧ h' = h) := by
 obtain ⟨r, h1, h2, h3⟩ := sq.get hj hi
 have g1 := irows_get h1
 have g2 := irow_get h3
 unfold Try.f30 bodyOf entry; simp only [Option.getD_some, List.length_cons, List.length_nil, Nat.reduceAdd, Nat.reduceSub]
 repeat (first
  | refine wp_seqQ ?_ | refine wp_blockQ ?_ | refine wp_scopeQ ?_
  | ((first | refine wp_skipQ ?_ | refine wp_labelQ ?_ | refine wp_exitQ ?_ | refine wp_retQ ?_); simp only [kQ, Nat.reduceEqDiff, reduceIte])
  | (refine wp_reg B ?_; simp (disch := omega) only [kW, Nat.reduceEqDiff, reduceIte, Nat.reduceLT, Nat.reduceLeDiff, Nat.reduceAdd, Nat.reduceSub, Nat.reduceMul, Nat.reducePow, Nat.reduceDiv, Nat.reduceMod, evIndexAddr, TD.agg, evFieldAddr, ty2, ty22, ty36, hm, irows, irow, g1, g2])
  | refine wp_condT rfl ?_ | refine wp_condF rfl ?_)
 simp (disch := omega) only [kS, Nat.reduceEqDiff, reduceIte, Nat.reduceLT, Nat.reduceLeDiff, Nat.reduceAdd, Nat.reduceSub, Nat.reduceMul, Nat.reducePow, Nat.reduceDiv, Nat.reduceMod, evIndexAddr, TD.agg, evFieldAddr, ty2, ty22, ty36]
theorem check2_sem (a : List (List Int)) (sq : Sq a) (i j : Nat) (x : Int) (hi : i < a.length) (hj : j < a.length) (ab : Nat) (h : Hp) (hm : h.m ab = some (.cells [irows a] 22 false)) :
    SemCall Try.prog 30 [.flat (.int .i64 (i : Int)), .flat (.int .i64 (j : Int)), .flat (.int .i64 x), .ptr ab 0] h (.ret (.flat (.bool (decide (x = ent a j i))))) h :=
 sem_still tables.ok Try.func30 rfl rfl rfl rfl (check2_wp base0 a sq i j x hi hj ab h hm)
noncomputable def EgC2 : Entry Try.prog := ⟨30, fun args h e h' => h' = h ∧ ∃ (a : List (List Int)) (i j : Nat) (x : Int) (ab : Nat), Sq a ∧ i < a.length ∧ j < a.length ∧ args = [.flat (.int .i64 (i : Int)), .flat (.int .i64 (j : Int)), .flat (.int .i64 x), .ptr ab 0] ∧ h.m ab = some (.cells [irows a] 22 false) ∧ e = .ret (.flat (.bool (decide (x = ent a j i)))), by
 rintro args h e h' ⟨rfl, a, i, j, x, ab, sq, hi, hj, rfl, hm, rfl⟩
 exact ⟨check2_sem a sq i j x hi hj ab h' hm, Hp.Le.refl _⟩⟩
theorem EgC2_ans {a : List (List Int)} (sq : Sq a) {i j : Nat} {x : Int} (hi : i < a.length) (hj : j < a.length) {ab : Nat} {h : Hp} (hm : h.m ab = some (.cells [irows a] 22 false)) :
    EgC2.ans [.flat (.int .i64 (i : Int)), .flat (.int .i64 (j : Int)), .flat (.int .i64 x), .ptr ab 0] h = some (.ret (.flat (.bool (decide (x = ent a j i)))), h) := by
 refine Entry.one ⟨rfl, a, i, j, x, ab, sq, hi, hj, rfl, hm, rfl⟩ ?_
 rintro e h' ⟨hh, a', i', j', x', ab', _, _, _, ha, hm', he⟩
 simp only [List.cons.injEq, AV.flat.injEq, Value.int.injEq, AV.ptr.injEq, true_and, and_true, Int.natCast_inj] at ha
 obtain ⟨rfl, rfl, rfl, rfl⟩ := ha
 rw [hm] at hm'
 simp only [Option.some.injEq, AO.cells.injEq, List.cons.injEq, and_true] at hm'
 rw [irows_inj hm'] at *
 exact ⟨he, hh⟩
def allP (a : List (List Int)) (p : Nat → Nat → Int → Bool) : Prop := ∀ i r, a[i]? = some r → ∀ j x, r[j]? = some x → p i j x = true
open Classical in
noncomputable def allB (a : List (List Int)) (p : Nat → Nat → Int → Bool) : Bool := decide (allP a p)
theorem allB_true {a : List (List Int)} {p : Nat → Nat → Int → Bool} (h : allP a p) : allB a p = true := by simp [allB, h]
theorem allB_false {a : List (List Int)} {p : Nat → Nat → Int → Bool} (h : ¬ allP a p) : allB a p = false := by simp [allB, h]
theorem each_wp {call : CallF} (B : Base Try.prog tab call) (G : Nat) (caps : List AV) (hG : ∃ fn, tab.funs.get G = some fn) (a : List (List Int)) (ha : a.length ≤ 1000000) (hs : ∀ r ∈ a, r.length ≤ 1000000) (p : Nat → Nat → Int → Bool) (h : Hp)
    (hc : ∀ (i : Nat) r, a[i]? = some r → ∀ (j : Nat) x, r[j]? = some x → call G (.flat (.int .i64 (i : Int)) :: .flat (.int .i64 (j : Int)) :: .flat (.int .i64 x) :: caps) h = some (.ret (.flat (.bool (p i j x))), h)) :
    WP False Try.prog (bodyOf Try.f27) (entry [irows a, .func (.func G) [] caps] 31 h (upd (upd noTmp 0 (some (irows a))) 1 (some (.func (.func G) [] caps)))) (endQ tab [.tmp 4] fun e h' => e = .ret (.flat (.bool (allB a p))) ∧ h' = h) := by
 obtain ⟨fn, hfn⟩ := hG
 unfold Try.f27 bodyOf entry; simp only [Option.getD_some, List.length_cons, List.length_nil, Nat.reduceAdd, Nat.reduceSub]
 repeat (first
  | refine wp_seqQ ?_ | refine wp_blockQ ?_ | refine wp_scopeQ ?_
  | ((first | refine wp_skipQ ?_ | refine wp_labelQ ?_ | refine wp_exitQ ?_ | refine wp_retQ ?_); simp only [kQ, Nat.reduceEqDiff, reduceIte])
  | (refine wp_reg B ?_; simp (disch := omega) only [kW, Nat.reduceEqDiff, reduceIte, Nat.reduceLT, Nat.reduceLeDiff, Nat.reduceAdd, Nat.reduceSub, Nat.reduceMul, Nat.reducePow, Nat.reduceDiv, Nat.reduceMod, evIndexAddr, TD.agg, evFieldAddr, binA_eqB ty4, binA_neB ty4, ty2, ty3, ty4, ty22, ty36, irows_len])
  | refine wp_condT rfl ?_ | refine wp_condF rfl ?_)
 refine wp_loopQ (fun k s => ∃ (i : Nat) (tm : Nat → Option AV), s = ⟨tm, 31, h, []⟩ ∧ k = a.length - i ∧ i ≤ a.length ∧ tm 0 = some (irows a) ∧ tm 1 = some (.func (.func G) [] caps) ∧ tm 9 = some (.flat (.int .i64 (a.length : Int))) ∧ tm 10 = some (.flat (.int .i64 (i : Int))) ∧
  ∀ i', i' < i → ∀ r, a[i']? = some r → ∀ j x, r[j]? = some x → p i' j x = true) a.length ?_ ?_
 ·exact ⟨0, _, rfl, rfl, Nat.zero_le _, rfl, rfl, rfl, rfl, fun i' hi' => by omega⟩
 ·rintro k s ⟨i, tm, rfl, rfl, hi, t0, t1, t9, t10, hall⟩
  repeat (first
   | refine wp_seqQ ?_ | refine wp_blockQ ?_ | refine wp_scopeQ ?_
   | ((first | refine wp_skipQ ?_ | refine wp_labelQ ?_ | refine wp_exitQ ?_ | refine wp_retQ ?_); simp only [kQ, Nat.reduceEqDiff, reduceIte])
   | (refine wp_reg B ?_; simp (disch := omega) only [kW, Nat.reduceEqDiff, reduceIte, Nat.reduceLT, Nat.reduceLeDiff, Nat.reduceAdd, Nat.reduceSub, Nat.reduceMul, Nat.reducePow, Nat.reduceDiv, Nat.reduceMod, evIndexAddr, TD.agg, evFieldAddr, binA_eqB ty4, binA_neB ty4, ty2, ty3, ty4, ty22, ty36, t0, t1, t9, t10])
   | refine wp_condT rfl ?_ | refine wp_condF rfl ?_)
  refine wp_if rfl (fun hlt => ?_) (fun hge => ?_)
  ·obtain ⟨r, hr⟩ : ∃ r, a[i]? = some r := ⟨a[i], List.getElem?_eq_getElem (by omega)⟩
   have g1 := irows_get hr
   have hrl := hs r (List.mem_of_getElem? hr)
   repeat (first
    | refine wp_seqQ ?_ | refine wp_blockQ ?_ | refine wp_scopeQ ?_
    | ((first | refine wp_skipQ ?_ | refine wp_labelQ ?_ | refine wp_exitQ ?_ | refine wp_retQ ?_); simp only [kQ, Nat.reduceEqDiff, reduceIte])
    | (refine wp_reg B ?_; simp (disch := omega) only [kW, Nat.reduceEqDiff, reduceIte, Nat.reduceLT, Nat.reduceLeDiff, Nat.reduceAdd, Nat.reduceSub, Nat.reduceMul, Nat.reducePow, Nat.reduceDiv, Nat.reduceMod, evIndexAddr, TD.agg, evFieldAddr, binA_eqB ty4, binA_neB ty4, ty2, ty3, ty4, ty22, ty36, t0, t1, t9, t10, irows, irow, g1])
    | refine wp_condT rfl ?_ | refine wp_condF rfl ?_)
   refine wp_loopQ (fun k s => ∃ (j : Nat) (tm : Nat → Option AV), s = ⟨tm, 31, h, []⟩ ∧ k = r.length - j ∧ j ≤ r.length ∧ tm 0 = some (irows a) ∧ tm 1 = some (.func (.func G) [] caps) ∧ tm 9 = some (.flat (.int .i64 (a.length : Int))) ∧ tm 10 = some (.flat (.int .i64 (i : Int))) ∧ tm 5 = some (.flat (.int .i64 (i : Int))) ∧
    tm 16 = some (irow r) ∧ tm 17 = some (.flat (.int .i64 (r.length : Int))) ∧ tm 18 = some (.flat (.int .i64 (j : Int))) ∧ ∀ j' x, j' < j → r[j']? = some x → p i j' x = true) r.length ?_ ?_
   ·exact ⟨0, _, rfl, rfl, Nat.zero_le _, t0, t1, t9, t10, rfl, rfl, rfl, rfl, fun j' x hj' => by omega⟩
   ·rintro k s ⟨j, tm', rfl, rfl, hj, u0, u1, u9, u10, u5, u16, u17, u18, hin⟩
    repeat (first
     | refine wp_seqQ ?_ | refine wp_blockQ ?_ | refine wp_scopeQ ?_
     | ((first | refine wp_skipQ ?_ | refine wp_labelQ ?_ | refine wp_exitQ ?_ | refine wp_retQ ?_); simp only [kQ, Nat.reduceEqDiff, reduceIte])
     | (refine wp_reg B ?_; simp (disch := omega) only [kW, Nat.reduceEqDiff, reduceIte, Nat.reduceLT, Nat.reduceLeDiff, Nat.reduceAdd, Nat.reduceSub, Nat.reduceMul, Nat.reducePow, Nat.reduceDiv, Nat.reduceMod, evIndexAddr, TD.agg, evFieldAddr, binA_eqB ty4, binA_neB ty4, ty2, ty3, ty4, ty22, ty36, u0, u1, u9, u10, u5, u16, u17, u18])
     | refine wp_condT rfl ?_ | refine wp_condF rfl ?_)
    refine wp_if rfl (fun jlt => ?_) (fun jge => ?_)
    ·obtain ⟨x, hx⟩ : ∃ x, r[j]? = some x := ⟨r[j], List.getElem?_eq_getElem (by omega)⟩
     have g2 := irow_get hx
     have k1 := hc i r hr j x hx
     cases hp : p i j x with
     | true =>
      rw [hp] at k1
      repeat (first
       | refine wp_seqQ ?_ | refine wp_blockQ ?_ | refine wp_scopeQ ?_
       | ((first | refine wp_skipQ ?_ | refine wp_labelQ ?_ | refine wp_exitQ ?_ | refine wp_retQ ?_); simp only [kQ, Nat.reduceEqDiff, reduceIte])
       | (refine wp_reg B ?_; simp (disch := omega) only [kW, Nat.reduceEqDiff, reduceIte, Nat.reduceLT, Nat.reduceLeDiff, Nat.reduceAdd, Nat.reduceSub, Nat.reduceMul, Nat.reducePow, Nat.reduceDiv, Nat.reduceMod, evIndexAddr, TD.agg, evFieldAddr, binA_eqB ty4, binA_neB ty4, ty2, ty3, ty4, ty22, ty36, u0, u1, u9, u10, u5, u16, u17, u18, irow, g2, hfn, k1])
       | refine wp_condT rfl ?_ | refine wp_condF rfl ?_)
      refine ⟨_, ?_, j + 1, _, rfl, rfl, by omega, u0, u1, u9, u10, u5, u16, u17, rfl, fun j' y hj' hy => ?_⟩
      ·omega
      ·by_cases e : j' = j
       ·subst e
        rw [hx] at hy
        simp only [Option.some.injEq] at hy
        subst hy; exact hp
       ·exact hin j' y (by omega) hy
     | false =>
      rw [hp] at k1
      repeat (first
       | refine wp_seqQ ?_ | refine wp_blockQ ?_ | refine wp_scopeQ ?_
       | ((first | refine wp_skipQ ?_ | refine wp_labelQ ?_ | refine wp_exitQ ?_ | refine wp_retQ ?_); simp only [kQ, Nat.reduceEqDiff, reduceIte])
       | (refine wp_reg B ?_; simp (disch := omega) only [kW, Nat.reduceEqDiff, reduceIte, Nat.reduceLT, Nat.reduceLeDiff, Nat.reduceAdd, Nat.reduceSub, Nat.reduceMul, Nat.reducePow, Nat.reduceDiv, Nat.reduceMod, evIndexAddr, TD.agg, evFieldAddr, binA_eqB ty4, binA_neB ty4, ty2, ty3, ty4, ty22, ty36, u0, u1, u9, u10, u5, u16, u17, u18, irow, g2, hfn, k1])
       | refine wp_condT rfl ?_ | refine wp_condF rfl ?_)
      simp (disch := omega) only [kS, Nat.reduceEqDiff, reduceIte, Nat.reduceLT, Nat.reduceLeDiff, Nat.reduceAdd, Nat.reduceSub, Nat.reduceMul, Nat.reducePow, Nat.reduceDiv, Nat.reduceMod, evIndexAddr, TD.agg, evFieldAddr, binA_eqB ty4, binA_neB ty4, ty2, ty3, ty4, ty22, ty36]
      rw [allB_false fun k => by have := k i r hr j x hx; rw [hp] at this; cases this]
    ·repeat (first
       | refine wp_seqQ ?_ | refine wp_blockQ ?_ | refine wp_scopeQ ?_
       | ((first | refine wp_skipQ ?_ | refine wp_labelQ ?_ | refine wp_exitQ ?_ | refine wp_retQ ?_); simp only [kQ, Nat.reduceEqDiff, reduceIte])
       | (refine wp_reg B ?_; simp (disch := omega) only [kW, Nat.reduceEqDiff, reduceIte, Nat.reduceLT, Nat.reduceLeDiff, Nat.reduceAdd, Nat.reduceSub, Nat.reduceMul, Nat.reducePow, Nat.reduceDiv, Nat.reduceMod, evIndexAddr, TD.agg, evFieldAddr, binA_eqB ty4, binA_neB ty4, ty2, ty3, ty4, ty22, ty36, u0, u1, u9, u10, u5, u16, u17, u18])
       | refine wp_condT rfl ?_ | refine wp_condF rfl ?_)
     refine ⟨_, ?_, i + 1, _, rfl, rfl, by omega, u0, u1, u9, rfl, fun i' hi' r' hr' j' x' hx' => ?_⟩
     ·omega
     ·by_cases e : i' = i
      ·subst e
       rw [hr] at hr'
       simp only [Option.some.injEq] at hr'
       subst hr'
       have := (List.getElem?_eq_some_iff.1 hx').1
       exact hin j' x' (by omega) hx'
      ·exact hall i' (by omega) r' hr' j' x' hx'
  ·repeat (first
     | refine wp_seqQ ?_ | refine wp_blockQ ?_ | refine wp_scopeQ ?_
     | ((first | refine wp_skipQ ?_ | refine wp_labelQ ?_ | refine wp_exitQ ?_ | refine wp_retQ ?_); simp only [kQ, Nat.reduceEqDiff, reduceIte])
     | (refine wp_reg B ?_; simp (disch := omega) only [kW, Nat.reduceEqDiff, reduceIte, Nat.reduceLT, Nat.reduceLeDiff, Nat.reduceAdd, Nat.reduceSub, Nat.reduceMul, Nat.reducePow, Nat.reduceDiv, Nat.reduceMod, evIndexAddr, TD.agg, evFieldAddr, binA_eqB ty4, binA_neB ty4, ty2, ty3, ty4, ty22, ty36, t0, t1, t9, t10])
     | refine wp_condT rfl ?_ | refine wp_condF rfl ?_)
   simp (disch := omega) only [kS, Nat.reduceEqDiff, reduceIte, Nat.reduceLT, Nat.reduceLeDiff, Nat.reduceAdd, Nat.reduceSub, Nat.reduceMul, Nat.reducePow, Nat.reduceDiv, Nat.reduceMod, evIndexAddr, TD.agg, evFieldAddr, binA_eqB ty4, binA_neB ty4, ty2, ty3, ty4, ty22, ty36]
   rw [allB_true fun i' r hr j x hx => by
    have := (List.getElem?_eq_some_iff.1 hr).1
    exact hall i' (by omega) r hr j x hx]
end Go.Proofs.Ytllocgmbjjoemaa.Iv
end
section
set_option maxHeartbeats 8000000
set_option linter.unusedVariables false
set_option linter.unusedSimpArgs false
set_option maxRecDepth 10000
namespace Go.Proofs.Ytllocgmbjjoemaa.Iv
open Go Go.Iv Go.RowKit Go.Proofs.Ytllocgmbjjoemaa.Nv
open Dg (bl)
structure Grow (h h' : Hp) : Prop where
 next : h.next ≤ h'.next
 old : ∀ b, b < h.next → h'.m b = h.m b
theorem Grow.refl (h : Hp) : Grow h h := ⟨Nat.le_refl _, fun _ _ => rfl⟩
theorem Grow.trans {a b c : Hp} (h : Grow a b) (k : Grow b c) : Grow a c := ⟨Nat.le_trans h.next k.next, fun i hi => (k.old i (Nat.lt_of_lt_of_le hi h.next)).trans (h.old i hi)⟩
structure Mt (h0 h : Hp) (tr te : TypeId) (n m : Nat) (B : Nat) (ρ : Nat → Nat) (L : Nat → List AV) : Prop where
 top : h.m B = some (.cells ((List.range m).map fun i => .slice (ρ i) 0 n (.exact n)) tr true)
 row : ∀ i, i < m → h.m (ρ i) = some (.cells (L i) te false)
 len : ∀ i, i < m → (L i).length = n * 2
 rlt : ∀ i, i < m → h0.next ≤ ρ i ∧ ρ i < h.next
 blt : h0.next ≤ B ∧ B < h.next
 inj : ∀ i j, i < m → j < m → ρ i = ρ j → i = j
 ne : ∀ i, i < m → ρ i ≠ B
theorem reps_length (z : List AV) : ∀ n, (reps z n).length = n * z.length
 | 0 => by simp [reps]
 | n + 1 => by rw [reps, List.length_append, reps_length z n, Nat.succ_mul]; omega
theorem reps_clean {z : List AV} (h : allClean z = true) : ∀ n, allClean (reps z n) = true
 | 0 => rfl
 | n + 1 => by rw [reps, allClean_append, h, reps_clean h n]; rfl
theorem reps2_clean (n : Nat) : allClean (reps [.flat (.bool false), .flat (.slice none 0 0)] n) = true := reps_clean rfl n
theorem reps2_length (n : Nat) : (reps [AV.flat (.bool false), .flat (.slice none 0 0)] n).length = n * 2 := reps_length _ n
theorem Mt.snoc {h0 h h' : Hp} {tr te : TypeId} {n i B B' R : Nat} {ρ : Nat → Nat} {L : Nat → List AV} {Lr : List AV} (M : i = 0 ∨ Mt h0 h tr te n i B ρ L) (hkeep : ∀ x, x < i → h'.m (ρ x) = h.m (ρ x)) (hR0 : h.next ≤ R) (hB0 : R < B') (hB1 : B' < h'.next) (hh : h0.next ≤ h.next)
    (hRow : h'.m R = some (.cells Lr te false)) (hl : Lr.length = n * 2) (htop : h'.m B' = some (.cells (((List.range i).map fun x => .slice (ρ x) 0 n (.exact n)) ++ [.slice R 0 n (.exact n)]) tr true)) :
    Mt h0 h' tr te n (i + 1) B' (fun x => if x = i then R else ρ x) (fun x => if x = i then Lr else L x) := by
 have old : ∀ x, x < i → Mt h0 h tr te n i B ρ L := fun x hx => by
  rcases M with M | M
  ·omega
  ·exact M
 refine ⟨?_, fun x hx => ?_, fun x hx => ?_, fun x hx => ?_, ⟨by omega, hB1⟩, fun x y hx hy e => ?_, fun x hx => ?_⟩
 ·rw [htop, List.range_succ, List.map_append]
  congr 3
  ·refine List.map_congr_left fun x hx => ?_
   have := List.mem_range.1 hx
   rw [if_neg (by omega)]
  ·simp
 ·by_cases e : x = i
  ·rw [if_pos e, if_pos e]; exact hRow
  ·rw [if_neg e, if_neg e, hkeep x (by omega)]; exact (old x (by omega)).row x (by omega)
 ·by_cases e : x = i
  ·rw [if_pos e]; exact hl
  ·rw [if_neg e]; exact (old x (by omega)).len x (by omega)
 ·by_cases e : x = i
  ·rw [if_pos e]; omega
  ·rw [if_neg e]
   have := (old x (by omega)).rlt x (by omega)
   omega
 ·by_cases e1 : x = i
  ·by_cases e2 : y = i
   ·omega
   ·rw [if_pos e1, if_neg e2] at e
    have := (old y (by omega)).rlt y (by omega)
    omega
  ·by_cases e2 : y = i
   ·rw [if_neg e1, if_pos e2] at e
    have := (old x (by omega)).rlt x (by omega)
    omega
   ·rw [if_neg e1, if_neg e2] at e
    exact (old x (by omega)).inj x y (by omega) (by omega) e
 ·by_cases e : x = i
  ·rw [if_pos e]; omega
  ·rw [if_neg e]
   have := (old x (by omega)).rlt x (by omega)
   omega
theorem pos1_sem (a : List (List Int)) (sq : Sq a) (i j : Nat) (hi : i < a.length) (hj : j < a.length) (h1 : -16384 ≤ ent a i j) (h2 : ent a i j ≤ 16384) (ab : Nat) (h : Hp) (hm : h.m ab = some (.cells [irows a] 22 false)) (hab : ab < h.next) :
    ∃ e h', SemCall Try.prog 38 [.flat (.int .i64 (i : Int)), .flat (.int .i64 (j : Int)), .ptr ab 0] h e h' ∧ Hp.Le h h' ∧ (e = .ret (zav (ent a i j)) ∧ Grow h h') := by
 refine sem_heap tables.ok Try.func38 rfl rfl rfl rfl ?_
 have B : Base Try.prog tab _ := tabL_base [EzOf] tables.ok mixed
 generalize hL : tabL [EzOf] = call at B
 have c_EzOf : ∀ a h, call 39 a h = EzOf.ans a h := fun _ _ => hL ▸ rfl
 clear hL
 obtain ⟨r, g1, g2, g3⟩ := sq.get hi hj
 have g1 := irows_get g1
 have g3 := irow_get g3
 have k1 := fun h => EzOf_ans (ent a i j) h (by omega) (by omega)
 unfold Try.f38 bodyOf entry; simp only [Option.getD_some, List.length_cons, List.length_nil, Nat.reduceAdd, Nat.reduceSub]
 repeat (first
  | refine wp_seqQ ?_ | refine wp_blockQ ?_ | refine wp_scopeQ ?_
  | ((first | refine wp_skipQ ?_ | refine wp_labelQ ?_ | refine wp_exitQ ?_ | refine wp_retQ ?_); simp only [kQ, Nat.reduceEqDiff, reduceIte])
  | (refine wp_reg B ?_; simp (disch := omega) only [kW, Nat.reduceEqDiff, reduceIte, Nat.reduceLT, Nat.reduceLeDiff, Nat.reduceAdd, Nat.reduceSub, Nat.reduceMul, Nat.reducePow, Nat.reduceDiv, Nat.reduceMod, evIndexAddr, TD.agg, evFieldAddr, binA_eqB ty4, binA_neB ty4, ty2, ty4, ty22, ty36, ty56, ty66, ty68, ty92, fn39, c_EzOf, EzOf_ans, hm, irows, irow, g1, g3, k1, zav_cells, nav_one, nav_clean])
  | refine wp_condT rfl ?_ | refine wp_condF rfl ?_)
 simp (disch := omega) only [kS, Nat.reduceEqDiff, reduceIte, Nat.reduceLT, Nat.reduceLeDiff, Nat.reduceAdd, Nat.reduceSub, Nat.reduceMul, Nat.reducePow, Nat.reduceDiv, Nat.reduceMod, evIndexAddr, TD.agg, evFieldAddr, binA_eqB ty4, binA_neB ty4, ty2, ty4, ty22, ty36, ty56, ty66, ty68, ty92, fn39, c_EzOf, EzOf_ans, zav_fold]
 exact ⟨by simp, fun b hb => by simp (disch := omega) only [upd_ne]⟩
noncomputable def EgP1 : Entry Try.prog := Entry.heap 38 fun args h e h' => ∀ (a : List (List Int)) (i j ab : Nat), args = [.flat (.int .i64 (i : Int)), .flat (.int .i64 (j : Int)), .ptr ab 0] → h.m ab = some (.cells [irows a] 22 false) → e = .ret (zav (ent a i j)) ∧ Grow h h'
theorem EgP1_ans (a : List (List Int)) (sq : Sq a) (i j : Nat) (hi : i < a.length) (hj : j < a.length) (h1 : -16384 ≤ ent a i j) (h2 : ent a i j ≤ 16384) (ab : Nat) (h : Hp) (hm : h.m ab = some (.cells [irows a] 22 false)) (hab : ab < h.next) :
    ∃ h', EgP1.ans [.flat (.int .i64 (i : Int)), .flat (.int .i64 (j : Int)), .ptr ab 0] h = some (.ret (zav (ent a i j)), h') ∧ Grow h h' := by
 obtain ⟨e, h', k1, k2, rfl, k4⟩ := pos1_sem a sq i j hi hj h1 h2 ab h hm hab
 obtain ⟨e2, h2', k5, k6⟩ := Entry.heap_ans (P := Try.prog) (f := 38) (Q := fun args h e h' => ∀ (a : List (List Int)) (i j ab : Nat), args = [.flat (.int .i64 (i : Int)), .flat (.int .i64 (j : Int)), .ptr ab 0] → h.m ab = some (.cells [irows a] 22 false) → e = .ret (zav (ent a i j)) ∧ Grow h h') ⟨_, h', k1, k2, fun a' i' j' ab' ha hm' => by
  simp only [List.cons.injEq, AV.flat.injEq, Value.int.injEq, AV.ptr.injEq, true_and, and_true, Int.natCast_inj] at ha
  obtain ⟨rfl, rfl, rfl⟩ := ha
  rw [hm] at hm'
  simp only [Option.some.injEq, AO.cells.injEq, List.cons.injEq, and_true] at hm'
  rw [irows_inj hm']
  exact ⟨rfl, k4⟩⟩
 obtain ⟨rfl, k7⟩ := k6 a i j ab rfl hm
 exact ⟨h2', k5, k7⟩
def Out (h0 h : Hp) (n i : Nat) (v : AV) (f : Nat → Nat → Int) : Prop := ∃ (B : Nat) (ρ : Nat → Nat) (L : Nat → List AV), (i = 0 ∧ v = .flat (.slice none 0 0) ∨ 0 < i ∧ v = .slice B 0 i (.toEnd 1) ∧ Mt h0 h 71 68 n i B ρ L) ∧
 ∀ x y, x < i → y < n → Ml.At (L x) y (zs (f x y)) (zm (f x y))
theorem square_sem (a : List (List Int)) (sq : Sq a) (hn : a.length ≤ 8) (hs : ∀ i j, i < a.length → j < a.length → -16384 ≤ ent a i j ∧ ent a i j ≤ 16384) (ab : Nat) (h0 : Hp) (hm0 : h0.m ab = some (.cells [irows a] 22 false)) (hab : ab < h0.next) :
    ∃ e h', SemCall Try.prog 37 [.flat (.int .i64 (a.length : Int)), .func (.func 38) [] [.ptr ab 0]] h0 e h' ∧ Hp.Le h0 h' ∧ (∃ v, e = .ret v ∧ Grow h0 h' ∧ Out h0 h' a.length a.length v (ent a)) := by
 refine sem_heap tables.ok Try.func37 rfl rfl rfl rfl ?_
 have B : Base Try.prog tab _ := tabL_base [EgP1] tables.ok mixed
 generalize hL : tabL [EgP1] = call at B
 have c_EgP1 : ∀ a h, call 38 a h = EgP1.ans a h := fun _ _ => hL ▸ rfl
 clear hL
 unfold Try.f37 bodyOf entry; simp only [Option.getD_some, List.length_cons, List.length_nil, Nat.reduceAdd, Nat.reduceSub]
 repeat (first
  | refine wp_seqQ ?_ | refine wp_blockQ ?_ | refine wp_scopeQ ?_
  | ((first | refine wp_skipQ ?_ | refine wp_labelQ ?_ | refine wp_exitQ ?_ | refine wp_retQ ?_); simp only [kQ, Nat.reduceEqDiff, reduceIte])
  | (refine wp_reg B ?_; simp (disch := omega) only [kW, Nat.reduceEqDiff, reduceIte, Nat.reduceLT, Nat.reduceLeDiff, Nat.reduceAdd, Nat.reduceSub, Nat.reduceMul, Nat.reducePow, Nat.reduceDiv, Nat.reduceMod, evIndexAddr, TD.agg, evFieldAddr, binA_eqB ty4, binA_neB ty4, ty3, ty4, ty56, ty63, ty66, ty68, ty71, ty92, c_EgP1, EgP1_ans])
  | refine wp_condT rfl ?_ | refine wp_condF rfl ?_)
 refine wp_loopQ (fun k s => ∃ (i : Nat) (v : AV) (tm : Nat → Option AV) (h : Hp), s = ⟨tm, 34, h, []⟩ ∧ k = a.length - i ∧ i ≤ a.length ∧ tm 0 = some (.flat (.int .i64 (a.length : Int))) ∧ tm 1 = some (.func (.func 38) [] [.ptr ab 0]) ∧
  tm 9 = some (.flat (.int .i64 (a.length : Int))) ∧ tm 10 = some (.flat (.int .i64 (i : Int))) ∧ tm 5 = some v ∧ Grow h0 h ∧ Out h0 h a.length i v (ent a)) a.length ?_ ?_
 ·exact ⟨0, _, _, _, rfl, rfl, Nat.zero_le _, rfl, rfl, rfl, rfl, rfl, Grow.refl _, 0, fun _ => 0, fun _ => [], .inl ⟨rfl, rfl⟩, fun x y hx => by omega⟩
 ·rintro k s ⟨i, v, tm, h, rfl, rfl, hi, t0, t1, t9, t10, t5, hg, hO⟩
  repeat (first
   | refine wp_seqQ ?_ | refine wp_blockQ ?_ | refine wp_scopeQ ?_
   | ((first | refine wp_skipQ ?_ | refine wp_labelQ ?_ | refine wp_exitQ ?_ | refine wp_retQ ?_); simp only [kQ, Nat.reduceEqDiff, reduceIte])
   | (refine wp_reg B ?_; simp (disch := omega) only [kW, Nat.reduceEqDiff, reduceIte, Nat.reduceLT, Nat.reduceLeDiff, Nat.reduceAdd, Nat.reduceSub, Nat.reduceMul, Nat.reducePow, Nat.reduceDiv, Nat.reduceMod, evIndexAddr, TD.agg, evFieldAddr, binA_eqB ty4, binA_neB ty4, ty3, ty4, ty56, ty63, ty66, ty68, ty71, ty92, c_EgP1, EgP1_ans, t0, t1, t9, t10])
   | refine wp_condT rfl ?_ | refine wp_condF rfl ?_)
  refine wp_if rfl (fun hlt => ?_) (fun hge => ?_)
  ·repeat (first
     | refine wp_seqQ ?_ | refine wp_blockQ ?_ | refine wp_scopeQ ?_
     | ((first | refine wp_skipQ ?_ | refine wp_labelQ ?_ | refine wp_exitQ ?_ | refine wp_retQ ?_); simp only [kQ, Nat.reduceEqDiff, reduceIte])
     | (refine wp_reg B ?_; simp (disch := omega) only [kW, Nat.reduceEqDiff, reduceIte, Nat.reduceLT, Nat.reduceLeDiff, Nat.reduceAdd, Nat.reduceSub, Nat.reduceMul, Nat.reducePow, Nat.reduceDiv, Nat.reduceMod, evIndexAddr, TD.agg, evFieldAddr, binA_eqB ty4, binA_neB ty4, ty3, ty4, ty56, ty63, ty66, ty68, ty71, ty92, c_EgP1, EgP1_ans, t0, t1, t9, t10, reps2_clean, reps2_length, reps_length])
     | refine wp_condT rfl ?_ | refine wp_condF rfl ?_)
   refine wp_loopQ (fun k s => ∃ (j : Nat) (tm : Nat → Option AV) (h1 : Hp) (Lr : List AV), s = ⟨tm, 34, h1, []⟩ ∧ k = a.length - j ∧ j ≤ a.length ∧ tm 0 = some (.flat (.int .i64 (a.length : Int))) ∧ tm 1 = some (.func (.func 38) [] [.ptr ab 0]) ∧
    tm 9 = some (.flat (.int .i64 (a.length : Int))) ∧ tm 10 = some (.flat (.int .i64 (i : Int))) ∧ tm 5 = some v ∧ tm 6 = some (.flat (.int .i64 (i : Int))) ∧ tm 7 = some (.slice h.next 0 a.length (.exact a.length)) ∧ tm 16 = some (.flat (.int .i64 (a.length : Int))) ∧ tm 17 = some (.flat (.int .i64 (j : Int))) ∧
    Grow h h1 ∧ h.next < h1.next ∧ h1.m h.next = some (.cells Lr 68 false) ∧ Lr.length = a.length * 2 ∧ ∀ y, y < j → Ml.At Lr y (zs (ent a i y)) (zm (ent a i y))) a.length ?_ ?_
   ·refine ⟨0, _, _, _, rfl, rfl, Nat.zero_le _, t0, t1, t9, t10, t5, rfl, rfl, rfl, rfl, ⟨by simp, fun b hb => ?_⟩, by simp, ?_, reps2_length _, fun y hy => by omega⟩
    ·simp (disch := omega) only [upd_ne]
    ·simp only [upd_eq]
   ·rintro k s ⟨j, tm', h1, Lr, rfl, rfl, hj, u0, u1, u9, u10, u5, u6, u7, u16, u17, hg1, hnx, hR, hLr, hAt⟩
    repeat (first
     | refine wp_seqQ ?_ | refine wp_blockQ ?_ | refine wp_scopeQ ?_
     | ((first | refine wp_skipQ ?_ | refine wp_labelQ ?_ | refine wp_exitQ ?_ | refine wp_retQ ?_); simp only [kQ, Nat.reduceEqDiff, reduceIte])
     | (refine wp_reg B ?_; simp (disch := omega) only [kW, Nat.reduceEqDiff, reduceIte, Nat.reduceLT, Nat.reduceLeDiff, Nat.reduceAdd, Nat.reduceSub, Nat.reduceMul, Nat.reducePow, Nat.reduceDiv, Nat.reduceMod, evIndexAddr, TD.agg, evFieldAddr, binA_eqB ty4, binA_neB ty4, ty3, ty4, ty56, ty63, ty66, ty68, ty71, ty92, c_EgP1, EgP1_ans, u0, u1, u9, u10, u5, u6, u7, u16, u17])
     | refine wp_condT rfl ?_ | refine wp_condF rfl ?_)
    refine wp_if rfl (fun jlt => ?_) (fun jge => ?_)
    ·have hb := hs i j (by omega) (by omega)
     have hm1 : h1.m ab = some (.cells [irows a] 22 false) := by rw [hg1.old ab (Nat.lt_of_lt_of_le hab hg.next), hg.old ab hab]; exact hm0
     obtain ⟨h2, k1, hg2⟩ := EgP1_ans a sq i j (by omega) (by omega) hb.1 hb.2 ab h1 hm1 (by have := hg.next; omega)
     have hR2 : h2.m h.next = some (.cells Lr 68 false) := by rw [hg2.old _ hnx]; exact hR
     have hnx2 := hg2.next
     repeat (first
      | refine wp_seqQ ?_ | refine wp_blockQ ?_ | refine wp_scopeQ ?_
      | ((first | refine wp_skipQ ?_ | refine wp_labelQ ?_ | refine wp_exitQ ?_ | refine wp_retQ ?_); simp only [kQ, Nat.reduceEqDiff, reduceIte])
      | (refine wp_reg B ?_; simp (disch := omega) only [kW, Nat.reduceEqDiff, reduceIte, Nat.reduceLT, Nat.reduceLeDiff, Nat.reduceAdd, Nat.reduceSub, Nat.reduceMul, Nat.reducePow, Nat.reduceDiv, Nat.reduceMod, evIndexAddr, TD.agg, evFieldAddr, binA_eqB ty4, binA_neB ty4, ty3, ty4, ty56, ty63, ty66, ty68, ty71, ty92, c_EgP1, EgP1_ans, u0, u1, u9, u10, u5, u6, u7, u16, u17, fn38, k1, hR2, hLr, zav_cells, nav_one, nav_clean])
      | refine wp_condT rfl ?_ | refine wp_condF rfl ?_)
     refine ⟨_, ?_, j + 1, _, _, (Lr.set (j * 2) (zs (ent a i j))).set (j * 2 + 1) (zm (ent a i j)), rfl, rfl, by omega, u0, u1, u9, u10, u5, u6, u7, u16, rfl, ⟨by simp only; have := hg1.next; omega, fun b hb' => ?_⟩, by simp only; omega, by simp only [upd_eq], by simp [hLr], fun y hy => ?_⟩
     ·omega
     ·simp (disch := omega) only [upd_ne]
      rw [hg2.old b (by omega)]; exact hg1.old b hb'
     ·by_cases e : y = j
      ·subst e
       exact Ml.At.set (by omega) _ _
      ·exact Ml.At.other e (hAt y (by omega)) _ _
    ·obtain ⟨Bk, ρ, L, hO1, hO2⟩ := hO
     have jn : j = a.length := by omega
     subst jn
     rcases hO1 with ⟨rfl, rfl⟩ | ⟨hi0, rfl, M⟩
     ·repeat (first
        | refine wp_seqQ ?_ | refine wp_blockQ ?_ | refine wp_scopeQ ?_
        | ((first | refine wp_skipQ ?_ | refine wp_labelQ ?_ | refine wp_exitQ ?_ | refine wp_retQ ?_); simp only [kQ, Nat.reduceEqDiff, reduceIte])
        | (refine wp_reg B ?_; simp (disch := omega) only [kW, Nat.reduceEqDiff, reduceIte, Nat.reduceLT, Nat.reduceLeDiff, Nat.reduceAdd, Nat.reduceSub, Nat.reduceMul, Nat.reducePow, Nat.reduceDiv, Nat.reduceMod, evIndexAddr, TD.agg, evFieldAddr, binA_eqB ty4, binA_neB ty4, ty3, ty4, ty56, ty63, ty66, ty68, ty71, ty92, c_EgP1, EgP1_ans, u0, u1, u9, u10, u5, u6, u7, u16, u17])
        | refine wp_condT rfl ?_ | refine wp_condF rfl ?_)
      have gn := hg.next
      refine ⟨_, ?_, 1, _, _, _, rfl, rfl, by omega, u0, u1, u9, rfl, rfl, ⟨by simp only; omega, fun b hb => ?_⟩, h1.next + 1, _, _, .inr ⟨by omega, rfl, Mt.snoc (i := 0) (B := 0) (ρ := fun _ => 0) (L := fun _ => []) (h := h) (R := h.next) (Lr := Lr) (.inl rfl) (fun x hx => by omega) (Nat.le_refl _) (by omega) (by simp only; omega) gn ?_ hLr ?_⟩, fun x y hx hy => ?_⟩
      ·omega
      ·simp (disch := omega) only [upd_ne]
       rw [hg1.old b (by omega)]; exact hg.old b hb
      ·simp (disch := omega) only [upd_ne]; exact hR
      ·simp only [upd_eq]; rfl
      ·obtain rfl : x = 0 := by omega
       rw [if_pos rfl]; exact hAt y hy
     ·have hB1 : h1.m Bk = _ := (hg1.old Bk M.blt.2).trans M.top
      have hB2 := M.blt.2
      have gn := hg.next
      repeat (first
       | refine wp_seqQ ?_ | refine wp_blockQ ?_ | refine wp_scopeQ ?_
       | ((first | refine wp_skipQ ?_ | refine wp_labelQ ?_ | refine wp_exitQ ?_ | refine wp_retQ ?_); simp only [kQ, Nat.reduceEqDiff, reduceIte])
       | (refine wp_reg B ?_; simp (disch := omega) only [kW, Nat.reduceEqDiff, reduceIte, Nat.reduceLT, Nat.reduceLeDiff, Nat.reduceAdd, Nat.reduceSub, Nat.reduceMul, Nat.reducePow, Nat.reduceDiv, Nat.reduceMod, evIndexAddr, TD.agg, evFieldAddr, binA_eqB ty4, binA_neB ty4, ty3, ty4, ty56, ty63, ty66, ty68, ty71, ty92, c_EgP1, EgP1_ans, u0, u1, u9, u10, u5, u6, u7, u16, u17, hB1])
       | refine wp_condT rfl ?_ | refine wp_condF rfl ?_)
      refine ⟨_, ?_, i + 1, _, _, _, rfl, rfl, by omega, u0, u1, u9, rfl, rfl, ⟨by simp only; omega, fun b hb => ?_⟩, h1.next + 1, _, _, .inr ⟨by omega, rfl, Mt.snoc (h := h) (R := h.next) (Lr := Lr) (.inr M) (fun x hx => ?_) (Nat.le_refl _) (by omega) (by simp only; omega) gn ?_ hLr ?_⟩, fun x y hx hy => ?_⟩
      ·omega
      ·have := M.blt.1
       simp (disch := omega) only [upd_ne]
       rw [hg1.old b (by omega)]; exact hg.old b hb
      ·have h3 := M.ne x hx
       have h4 := M.rlt x hx
       simp (disch := omega) only [upd_ne]
       exact hg1.old _ h4.2
      ·simp (disch := omega) only [upd_ne]; exact hR
      ·simp only [upd_eq]
      ·by_cases e : x = i
       ·subst e; rw [if_pos rfl]; exact hAt y hy
       ·rw [if_neg e]; exact hO2 x y (by omega) hy
  ·repeat (first
     | refine wp_seqQ ?_ | refine wp_blockQ ?_ | refine wp_scopeQ ?_
     | ((first | refine wp_skipQ ?_ | refine wp_labelQ ?_ | refine wp_exitQ ?_ | refine wp_retQ ?_); simp only [kQ, Nat.reduceEqDiff, reduceIte])
     | (refine wp_reg B ?_; simp (disch := omega) only [kW, Nat.reduceEqDiff, reduceIte, Nat.reduceLT, Nat.reduceLeDiff, Nat.reduceAdd, Nat.reduceSub, Nat.reduceMul, Nat.reducePow, Nat.reduceDiv, Nat.reduceMod, evIndexAddr, TD.agg, evFieldAddr, binA_eqB ty4, binA_neB ty4, ty3, ty4, ty56, ty63, ty66, ty68, ty71, ty92, c_EgP1, EgP1_ans, t5])
     | refine wp_condT rfl ?_ | refine wp_condF rfl ?_)
   simp (disch := omega) only [kS, Nat.reduceEqDiff, reduceIte, Nat.reduceLT, Nat.reduceLeDiff, Nat.reduceAdd, Nat.reduceSub, Nat.reduceMul, Nat.reducePow, Nat.reduceDiv, Nat.reduceMod, evIndexAddr, TD.agg, evFieldAddr, binA_eqB ty4, binA_neB ty4, ty3, ty4, ty56, ty63, ty66, ty68, ty71, ty92, c_EgP1, EgP1_ans, t5]
   refine ⟨_, rfl, hg, ?_⟩
   rwa [show i = a.length by omega] at hO
end Go.Proofs.Ytllocgmbjjoemaa.Iv
end
section
set_option maxHeartbeats 16000000
set_option linter.unusedVariables false
set_option linter.unusedSimpArgs false
set_option maxRecDepth 10000
namespace Go.Proofs.Ytllocgmbjjoemaa.Iv
open Go Go.Iv Go.RowKit Go.Proofs.Ytllocgmbjjoemaa.Nv
open Dg (bl)
open Dt (det mi)
def SqQ (args : List AV) (h : Hp) (e : AEnd) (h' : Hp) : Prop := ∀ (a : List (List Int)) (ab : Nat), args = [.flat (.int .i64 (a.length : Int)), .func (.func 38) [] [.ptr ab 0]] → h.m ab = some (.cells [irows a] 22 false) →
 ∃ v, e = .ret v ∧ Grow h h' ∧ Out h h' a.length a.length v (ent a)
noncomputable def EgSq : Entry Try.prog := Entry.heap 37 SqQ
theorem EgSq_ans (a : List (List Int)) (sq : Sq a) (hn : a.length ≤ 8) (hs : ∀ i j, i < a.length → j < a.length → -16384 ≤ ent a i j ∧ ent a i j ≤ 16384) (ab : Nat) (h : Hp) (hm : h.m ab = some (.cells [irows a] 22 false)) (hab : ab < h.next) :
    ∃ v h', EgSq.ans [.flat (.int .i64 (a.length : Int)), .func (.func 38) [] [.ptr ab 0]] h = some (.ret v, h') ∧ Grow h h' ∧ Out h h' a.length a.length v (ent a) := by
 obtain ⟨e, h', k1, k2, k3⟩ := square_sem a sq hn hs ab h hm hab
 obtain ⟨e2, h2', k5, k6⟩ := Entry.heap_ans (P := Try.prog) (f := 37) (Q := SqQ) ⟨e, h', k1, k2, fun a' ab' ha hm' => by
  simp only [List.cons.injEq, AV.flat.injEq, Value.int.injEq, AV.ptr.injEq, AV.func.injEq, true_and, and_true, Int.natCast_inj] at ha
  obtain ⟨_, rfl⟩ := ha
  rw [hm] at hm'
  simp only [Option.some.injEq, AO.cells.injEq, List.cons.injEq, and_true] at hm'
  rw [← irows_inj hm']
  exact k3⟩
 obtain ⟨v, rfl, k7, k8⟩ := k6 a ab rfl hm
 exact ⟨v, h2', k5, k7, k8⟩
theorem Mt.turn {h0 h h' : Hp} {tr te : TypeId} {n m B i : Nat} {ρ : Nat → Nat} {L : Nat → List AV} {Li : List AV} (M : Mt h0 h tr te n m B ρ L) (hi : i < m) (hn : h.next ≤ h'.next) (hk : ∀ b, b < h.next → b ≠ ρ i → h'.m b = h.m b) (hr : h'.m (ρ i) = some (.cells Li te false)) (hl : Li.length = n * 2) :
    Mt h0 h' tr te n m B ρ (fun x => if x = i then Li else L x) := by
 refine ⟨?_, fun x hx => ?_, fun x hx => ?_, fun x hx => ?_, ?_, M.inj, M.ne⟩
 ·rw [hk B M.blt.2 (fun e => M.ne i hi e.symm)]; exact M.top
 ·by_cases e : x = i
  ·subst e; rw [if_pos rfl]; exact hr
  ·rw [if_neg e, hk (ρ x) (M.rlt x hx).2 fun k => e (M.inj x i hx hi k)]; exact M.row x hx
 ·by_cases e : x = i
  ·rw [if_pos e]; exact hl
  ·rw [if_neg e]; exact M.len x hx
 ·have := M.rlt x hx
  omega
 ·have := M.blt
  omega
theorem Mt.grow {h0 h h' : Hp} {tr te : TypeId} {n m B : Nat} {ρ : Nat → Nat} {L : Nat → List AV} (M : Mt h0 h tr te n m B ρ L) (hn : h.next ≤ h'.next) (hk : ∀ b, b < h.next → (b = B ∨ ∃ i, i < m ∧ b = ρ i) → h'.m b = h.m b) : Mt h0 h' tr te n m B ρ L := by
 refine ⟨?_, fun x hx => ?_, M.len, fun x hx => ?_, ?_, M.inj, M.ne⟩
 ·rw [hk B M.blt.2 (.inl rfl)]; exact M.top
 ·rw [hk (ρ x) (M.rlt x hx).2 (.inr ⟨x, hx, rfl⟩)]; exact M.row x hx
 ·have := M.rlt x hx
  omega
 ·have := M.blt
  omega
theorem small_minors : ∀ r, r < 8 → El.fac (r + 1) * 16384 ^ (r + 1) < 2 ^ 128 := by decide
theorem mi_bl {A : Nat → Nat → Int} {n r x y : Nat} (hA : ∀ i j, i < n → j < n → -16384 ≤ A i j ∧ A i j ≤ 16384) (hn : n ≤ 8) (hr : r < n) (hx : x < n) (hy : y < n) : bl (mi A r x y).natAbs ≤ 128 := by
 refine Dg.bl_le.2 (Nat.lt_of_le_of_lt (El.det_le (M := 16384) (r + 1) _ fun i j hi hj => ?_) (small_minors r (by omega)))
 have := hA (Dt.sel r x i) (Dt.sel r y j) (by unfold Dt.sel; split <;> omega) (by unfold Dt.sel; split <;> omega)
 omega
theorem det_bl {A : Nat → Nat → Int} {n r : Nat} (hA : ∀ i j, i < n → j < n → -16384 ≤ A i j ∧ A i j ≤ 16384) (hn : n ≤ 8) (hr : r ≤ n) : bl (det r A).natAbs ≤ 128 := by
 cases r with
 | zero => exact Dg.bl_le.2 (by show (1 : Int).natAbs < 2 ^ 128; decide)
 | succ r => rw [← Dt.mi_lead]; exact mi_bl hA hn hr hr hr
theorem bl_prod {x y : Int} {k l : Nat} (hx : bl x.natAbs ≤ k) (hy : bl y.natAbs ≤ l) : bl (x * y).natAbs ≤ k + l := by
 rw [Int.natAbs_mul]; exact Dg.bl_mulk hx hy
theorem bl_add2 {x y k : Nat} (hx : bl x ≤ k) (hy : bl y ≤ k) : bl (x + y) ≤ k + 1 := by
 rw [Dg.bl_le] at *
 rw [Nat.pow_succ]; omega
theorem bl_sub2 {x y : Int} {k : Nat} (hx : bl x.natAbs ≤ k) (hy : bl y.natAbs ≤ k) : bl (x - y).natAbs ≤ k + 1 :=
 Nat.le_trans (Dg.bl_mono' (by omega)) (bl_add2 hx hy)
open Classical in
noncomputable def posB (n : Nat) (A : Nat → Nat → Int) : Bool := decide (∀ k, k < n → 0 < det (k + 1) A)
theorem posB_true {n : Nat} {A : Nat → Nat → Int} (h : ∀ k, k < n → 0 < det (k + 1) A) : posB n A = true := by unfold posB; simpa using h
theorem posB_false {n : Nat} {A : Nat → Nat → Int} {k : Nat} (hk : k < n) (h : ¬ 0 < det (k + 1) A) : posB n A = false := by unfold posB; simp only [decide_eq_false_iff_not]; exact fun k' => h (k' k hk)
theorem Mt.base {h0 h : Hp} {tr te : TypeId} {n m B : Nat} {ρ : Nat → Nat} {L : Nat → List AV} (M : Mt h0 h tr te n m B ρ L) : Mt Hp.empty h tr te n m B ρ L :=
 ⟨M.top, M.row, M.len, fun i hi => ⟨Nat.zero_le _, (M.rlt i hi).2⟩, ⟨Nat.zero_le _, M.blt.2⟩, M.inj, M.ne⟩
structure Ps (h : Hp) (n q Bk : Nat) (ρ : Nat → Nat) (L : Nat → List AV) (last : Int) (f : Nat → Nat → Int) (r : Nat) : Prop where
 M : Mt Hp.empty h 71 68 n n Bk ρ L
 lb : h.m q = some (.cells [zs last, zm last] 68 false)
 lt : q < h.next
 nb : q ≠ Bk
 nr : ∀ i, i < n → q ≠ ρ i
 val : ∀ x y, r ≤ x → x < n → r ≤ y → y < n → Ml.At (L x) y (zs (f x y)) (zm (f x y))
theorem range_get {α : Type} {n i : Nat} (f : Nat → α) (h : i < n) : ((List.range n).map f)[i]? = some (f i) := by
 rw [List.getElem?_map, List.getElem?_range h]; rfl
def mid (A : Nat → Nat → Int) (r i k x y : Nat) : Int := if r < x ∧ r < y ∧ (x < i ∨ x = i ∧ y < k) then mi A (r + 1) x y else mi A r x y
theorem positive_sem (a : List (List Int)) (sq : Sq a) (h0 : 0 < a.length) (hn : a.length ≤ 8) (hs : ∀ i j, i < a.length → j < a.length → -16384 ≤ ent a i j ∧ ent a i j ≤ 16384) (h : Hp) : SemCall Try.prog 31 [irows a] h (.ret (.flat (.bool (posB a.length (ent a))))) h := by
 refine sem_pure tables.ok Try.func31 rfl rfl rfl rfl (by simp [pureL, irows_pure]) rfl ?_ h
 have B : Base Try.prog tab _ := tabL_base [EgSq, EzOf, EzSign, EzMul, EzSub, EzExact] tables.ok mixed
 generalize hL : tabL [EgSq, EzOf, EzSign, EzMul, EzSub, EzExact] = call at B
 have c_EgSq : ∀ a h, call 37 a h = EgSq.ans a h := fun _ _ => hL ▸ rfl
 have c_EzOf : ∀ a h, call 39 a h = EzOf.ans a h := fun _ _ => hL ▸ rfl
 have c_EzSign : ∀ a h, call 40 a h = EzSign.ans a h := fun _ _ => hL ▸ rfl
 have c_EzMul : ∀ a h, call 41 a h = EzMul.ans a h := fun _ _ => hL ▸ rfl
 have c_EzSub : ∀ a h, call 42 a h = EzSub.ans a h := fun _ _ => hL ▸ rfl
 have c_EzExact : ∀ a h, call 43 a h = EzExact.ans a h := fun _ _ => hL ▸ rfl
 clear hL
 have kOf := fun h => EzOf_ans 1 h (by omega) (by omega)
 generalize hA : ent a = A at *
 have hs' : ∀ i j, i < a.length → j < a.length → -16384 ≤ ent a i j ∧ ent a i j ≤ 16384 := by rw [hA]; exact hs
 unfold Try.f31 bodyOf entry; simp only [Option.getD_some, List.length_cons, List.length_nil, Nat.reduceAdd, Nat.reduceSub]
 repeat (first
  | refine wp_seqQ ?_ | refine wp_blockQ ?_ | refine wp_scopeQ ?_
  | ((first | refine wp_skipQ ?_ | refine wp_labelQ ?_ | refine wp_exitQ ?_ | refine wp_retQ ?_); simp only [kQ, Nat.reduceEqDiff, reduceIte])
  | ((fail_if_success refine wp_reg (id := 2) B ?_); (first | refine wp_dreg B (id := 15) [0, 0, 3, 7, 0, 31, 63, 0, 0, 384, 896, 0, 3968, 8064, 16383, 32767, 65535, 65535, 0, 393215, 1048575] (by kernel_rfl) ?_ | refine wp_dreg B (id := 16) [0, 0, 3, 7, 0, 31, 63, 0, 0, 384, 896, 0, 3968, 8064, 16383, 32767, 65535, 65535, 0, 393215, 1048575] (by kernel_rfl) ?_ | refine wp_dreg B (id := 18) [0, 0, 3, 7, 0, 0, 0, 96, 224, 480, 480, 1023, 3071] (by kernel_rfl) ?_ | refine wp_reg B ?_); simp (disch := omega) only [kW, kG, Nat.reduceEqDiff, reduceIte, Nat.reduceLT, Nat.reduceLeDiff, Nat.reduceAdd, Nat.reduceSub, Nat.reduceMul, Nat.reducePow, Nat.reduceDiv, Nat.reduceMod, evIndexAddr, TD.agg, evFieldAddr, binA_eqB ty4, binA_neB ty4, ty2, ty3, ty4, ty22, ty36, ty56, ty63, ty66, ty68, ty70, ty71, ty92, fn38, fn37, fn39, fn40, fn41, fn42, fn43, c_EgSq, EgSq_ans, c_EzOf, EzOf_ans, c_EzSign, EzSign_ans, c_EzMul, EzMul_ans, c_EzSub, EzSub_ans, c_EzExact, EzExact_ans, irows_len, irows_cells, irows_one, irows_clean])
  | refine wp_condT rfl ?_ | refine wp_condF rfl ?_)
 generalize hH : Hp.mk _ _ _ = H
 have hm : H.m 0 = some (.cells [irows a] 22 false) := by rw [← hH]; simp only [upd_eq, Hp.empty]
 have hnx : H.next = 1 := by rw [← hH]; rfl
 obtain ⟨v, h1, kSq, hg, Bk, ρ, L, hO1, hO2⟩ := EgSq_ans a sq hn hs' Hp.empty.next H hm (by rw [hnx]; exact Nat.zero_lt_one)
 rw [hA] at hO2
 rcases hO1 with ⟨e, _⟩ | ⟨_, rfl, M0⟩
 ·omega
 have M1 := M0.base
 have b1 := M1.blt.2
 repeat (first
  | refine wp_seqQ ?_ | refine wp_blockQ ?_ | refine wp_scopeQ ?_
  | ((first | refine wp_skipQ ?_ | refine wp_labelQ ?_ | refine wp_exitQ ?_ | refine wp_retQ ?_); simp only [kQ, Nat.reduceEqDiff, reduceIte])
  | ((first | refine wp_dreg B (id := 15) [0, 0, 3, 7, 0, 31, 63, 0, 0, 384, 896, 0, 3968, 8064, 16383, 32767, 65535, 65535, 0, 393215, 1048575] (by kernel_rfl) ?_ | refine wp_dreg B (id := 16) [0, 0, 3, 7, 0, 31, 63, 0, 0, 384, 896, 0, 3968, 8064, 16383, 32767, 65535, 65535, 0, 393215, 1048575] (by kernel_rfl) ?_ | refine wp_dreg B (id := 18) [0, 0, 3, 7, 0, 0, 0, 96, 224, 480, 480, 1023, 3071] (by kernel_rfl) ?_ | refine wp_reg B ?_); simp (disch := omega) only [kW, kG, Nat.reduceEqDiff, reduceIte, Nat.reduceLT, Nat.reduceLeDiff, Nat.reduceAdd, Nat.reduceSub, Nat.reduceMul, Nat.reducePow, Nat.reduceDiv, Nat.reduceMod, evIndexAddr, TD.agg, evFieldAddr, binA_eqB ty4, binA_neB ty4, ty2, ty3, ty4, ty22, ty36, ty56, ty63, ty66, ty68, ty70, ty71, ty92, fn38, fn37, fn39, fn40, fn41, fn42, fn43, c_EgSq, EgSq_ans, c_EzOf, EzOf_ans, c_EzSign, EzSign_ans, c_EzMul, EzMul_ans, c_EzSub, EzSub_ans, c_EzExact, EzExact_ans, kSq, kOf, zav_cells, nav_one, nav_clean])
  | refine wp_condT rfl ?_ | refine wp_condF rfl ?_)
 refine wp_loopQ (fun k s => ∃ (r : Nat) (tm : Nat → Option AV) (h : Hp) (L : Nat → List AV), s = ⟨tm, 110, h, []⟩ ∧ k = a.length - r ∧ r ≤ a.length ∧ tm 3 = some (.flat (.int .i64 (a.length : Int))) ∧ tm 4 = some (.slice Bk 0 a.length (.toEnd 1)) ∧ tm 5 = some (.ptr h1.next 0) ∧
  tm 21 = some (.flat (.int .i64 (a.length : Int))) ∧ tm 22 = some (.flat (.int .i64 (r : Int))) ∧ Ps h a.length h1.next Bk ρ L (det r A) (mi A r) r ∧ ∀ s, s ≤ r → 0 < det s A) a.length ?_ ?_
 ·refine ⟨0, _, _, L, rfl, rfl, Nat.zero_le _, rfl, rfl, rfl, rfl, rfl, ⟨M1.grow (by simp) (fun b hb _ => ?_), ?_, by simp, by omega, fun i hi => ?_, fun x y _ hx _ hy => ?_⟩, fun s hs => ?_⟩
  ·simp (disch := omega) only [upd_ne]
  ·simp only [upd_eq]; rfl
  ·have := (M1.rlt i hi).2
   omega
  ·rw [Dt.mi_zero]; exact hO2 x y hx hy
  ·obtain rfl : s = 0 := by omega
   simp [Dt.det]
 ·rintro k s ⟨r, tm, h, L, rfl, rfl, hr, t3, t4, t5, t21, t22, P, hD⟩
  repeat (first
   | refine wp_seqQ ?_ | refine wp_blockQ ?_ | refine wp_scopeQ ?_
   | ((first | refine wp_skipQ ?_ | refine wp_labelQ ?_ | refine wp_exitQ ?_ | refine wp_retQ ?_); simp only [kQ, Nat.reduceEqDiff, reduceIte])
   | ((first | refine wp_dreg B (id := 15) [0, 0, 3, 7, 0, 31, 63, 0, 0, 384, 896, 0, 3968, 8064, 16383, 32767, 65535, 65535, 0, 393215, 1048575] (by kernel_rfl) ?_ | refine wp_dreg B (id := 16) [0, 0, 3, 7, 0, 31, 63, 0, 0, 384, 896, 0, 3968, 8064, 16383, 32767, 65535, 65535, 0, 393215, 1048575] (by kernel_rfl) ?_ | refine wp_dreg B (id := 18) [0, 0, 3, 7, 0, 0, 0, 96, 224, 480, 480, 1023, 3071] (by kernel_rfl) ?_ | refine wp_reg B ?_); simp (disch := omega) only [kW, kG, Nat.reduceEqDiff, reduceIte, Nat.reduceLT, Nat.reduceLeDiff, Nat.reduceAdd, Nat.reduceSub, Nat.reduceMul, Nat.reducePow, Nat.reduceDiv, Nat.reduceMod, evIndexAddr, TD.agg, evFieldAddr, binA_eqB ty4, binA_neB ty4, ty2, ty3, ty4, ty22, ty36, ty56, ty63, ty66, ty68, ty70, ty71, ty92, fn38, fn37, fn39, fn40, fn41, fn42, fn43, c_EgSq, EgSq_ans, c_EzOf, EzOf_ans, c_EzSign, EzSign_ans, c_EzMul, EzMul_ans, c_EzSub, EzSub_ans, c_EzExact, EzExact_ans, t3, t4, t5, t21, t22])
   | refine wp_condT rfl ?_ | refine wp_condF rfl ?_)
  refine wp_if rfl (fun hlt => ?_) (fun hge => ?_)
  ·have hrn : r < a.length := by omega
   have gB := P.M.top
   have gr := range_get (fun i => AV.slice (ρ i) 0 a.length (.exact a.length)) hrn
   have gR := P.M.row r hrn
   have gl := P.M.len r hrn
   have gv : ((L r).drop (r * 2)).take 2 = [zs (mi A r r r), zm (mi A r r r)] := P.val r r (Nat.le_refl _) hrn (Nat.le_refl _) hrn
   have bS := mi_bl hs hn hrn hrn hrn
   have kSg := fun h => EzSign_ans (mi A r r r) h (by omega)
   have hlead := Dt.mi_lead A r
   by_cases hpos : 0 < mi A r r r
   ·rw [if_neg (by omega), if_neg (by omega)] at kSg
    repeat (first
     | refine wp_seqQ ?_ | refine wp_blockQ ?_ | refine wp_scopeQ ?_
     | ((first | refine wp_skipQ ?_ | refine wp_labelQ ?_ | refine wp_exitQ ?_ | refine wp_retQ ?_); simp only [kQ, Nat.reduceEqDiff, reduceIte])
     | ((first | refine wp_dreg B (id := 15) [0, 0, 3, 7, 0, 31, 63, 0, 0, 384, 896, 0, 3968, 8064, 16383, 32767, 65535, 65535, 0, 393215, 1048575] (by kernel_rfl) ?_ | refine wp_dreg B (id := 16) [0, 0, 3, 7, 0, 31, 63, 0, 0, 384, 896, 0, 3968, 8064, 16383, 32767, 65535, 65535, 0, 393215, 1048575] (by kernel_rfl) ?_ | refine wp_dreg B (id := 18) [0, 0, 3, 7, 0, 0, 0, 96, 224, 480, 480, 1023, 3071] (by kernel_rfl) ?_ | refine wp_reg B ?_); simp (disch := omega) only [kW, kG, Nat.reduceEqDiff, reduceIte, Nat.reduceLT, Nat.reduceLeDiff, Nat.reduceAdd, Nat.reduceSub, Nat.reduceMul, Nat.reducePow, Nat.reduceDiv, Nat.reduceMod, evIndexAddr, TD.agg, evFieldAddr, binA_eqB ty4, binA_neB ty4, ty2, ty3, ty4, ty22, ty36, ty56, ty63, ty66, ty68, ty70, ty71, ty92, fn38, fn37, fn39, fn40, fn41, fn42, fn43, c_EgSq, EgSq_ans, c_EzOf, EzOf_ans, c_EzSign, EzSign_ans, c_EzMul, EzMul_ans, c_EzSub, EzSub_ans, c_EzExact, EzExact_ans, t3, t4, t5, t21, t22, gB, gr, gR, gl, gv, zav_fold, kSg])
     | refine wp_condT rfl ?_ | refine wp_condF rfl ?_)
    have hD1 : ∀ s, s ≤ r + 1 → det s A ≠ 0 := fun s hs => by
     by_cases e : s ≤ r
     ·have := hD s e
      omega
     ·obtain rfl : s = r + 1 := by omega
      rw [← hlead]; omega
    have sy := (Dt.syl (A := A) r hD1).step
    have bL := det_bl hs hn (show r ≤ a.length by omega)
    have hL0 := hD1 r (by omega)
    clear gv gl gR gr gB kSg
    refine wp_loopQ (fun k s => ∃ (i : Nat) (tm : Nat → Option AV) (h : Hp) (L : Nat → List AV), s = ⟨tm, 110, h, []⟩ ∧ k = a.length - i ∧ r < i ∧ i ≤ a.length ∧ tm 3 = some (.flat (.int .i64 (a.length : Int))) ∧ tm 4 = some (.slice Bk 0 a.length (.toEnd 1)) ∧ tm 5 = some (.ptr h1.next 0) ∧
     tm 21 = some (.flat (.int .i64 (a.length : Int))) ∧ tm 22 = some (.flat (.int .i64 (r : Int))) ∧ tm 6 = some (.flat (.int .i64 (r : Int))) ∧ tm 7 = some (.flat (.int .i64 (i : Int))) ∧ Ps h a.length h1.next Bk ρ L (det r A) (mid A r i 0) r) (a.length - (r + 1)) ?_ ?_
    ·refine ⟨r + 1, _, h, L, rfl, rfl, by omega, by omega, t3, t4, t5, t21, t22, rfl, rfl, P.M, P.lb, P.lt, P.nb, P.nr, fun x y hx hx' hy hy' => ?_⟩
     rw [show mid A r (r + 1) 0 x y = mi A r x y by unfold mid; rw [if_neg (by omega)]]
     exact P.val x y hx hx' hy hy'
    ·rintro k s ⟨i, tm, h, L, rfl, rfl, hi0, hi, t3, t4, t5, t21, t22, t6, t7, P⟩
     repeat (first
      | refine wp_seqQ ?_ | refine wp_blockQ ?_ | refine wp_scopeQ ?_
      | ((first | refine wp_skipQ ?_ | refine wp_labelQ ?_ | refine wp_exitQ ?_ | refine wp_retQ ?_); simp only [kQ, Nat.reduceEqDiff, reduceIte])
      | ((first | refine wp_dreg B (id := 15) [0, 0, 3, 7, 0, 31, 63, 0, 0, 384, 896, 0, 3968, 8064, 16383, 32767, 65535, 65535, 0, 393215, 1048575] (by kernel_rfl) ?_ | refine wp_dreg B (id := 16) [0, 0, 3, 7, 0, 31, 63, 0, 0, 384, 896, 0, 3968, 8064, 16383, 32767, 65535, 65535, 0, 393215, 1048575] (by kernel_rfl) ?_ | refine wp_dreg B (id := 18) [0, 0, 3, 7, 0, 0, 0, 96, 224, 480, 480, 1023, 3071] (by kernel_rfl) ?_ | refine wp_reg B ?_); simp (disch := omega) only [kW, kG, Nat.reduceEqDiff, reduceIte, Nat.reduceLT, Nat.reduceLeDiff, Nat.reduceAdd, Nat.reduceSub, Nat.reduceMul, Nat.reducePow, Nat.reduceDiv, Nat.reduceMod, evIndexAddr, TD.agg, evFieldAddr, binA_eqB ty4, binA_neB ty4, ty2, ty3, ty4, ty22, ty36, ty56, ty63, ty66, ty68, ty70, ty71, ty92, fn38, fn37, fn39, fn40, fn41, fn42, fn43, c_EgSq, EgSq_ans, c_EzOf, EzOf_ans, c_EzSign, EzSign_ans, c_EzMul, EzMul_ans, c_EzSub, EzSub_ans, c_EzExact, EzExact_ans, t3, t4, t5, t21, t22, t6, t7])
      | refine wp_condT rfl ?_ | refine wp_condF rfl ?_)
     refine wp_if rfl (fun ilt => ?_) (fun ige => ?_)
     ·have hin : i < a.length := by omega
      repeat (first
       | refine wp_seqQ ?_ | refine wp_blockQ ?_ | refine wp_scopeQ ?_
       | ((first | refine wp_skipQ ?_ | refine wp_labelQ ?_ | refine wp_exitQ ?_ | refine wp_retQ ?_); simp only [kQ, Nat.reduceEqDiff, reduceIte])
       | ((first | refine wp_dreg B (id := 15) [0, 0, 3, 7, 0, 31, 63, 0, 0, 384, 896, 0, 3968, 8064, 16383, 32767, 65535, 65535, 0, 393215, 1048575] (by kernel_rfl) ?_ | refine wp_dreg B (id := 16) [0, 0, 3, 7, 0, 31, 63, 0, 0, 384, 896, 0, 3968, 8064, 16383, 32767, 65535, 65535, 0, 393215, 1048575] (by kernel_rfl) ?_ | refine wp_dreg B (id := 18) [0, 0, 3, 7, 0, 0, 0, 96, 224, 480, 480, 1023, 3071] (by kernel_rfl) ?_ | refine wp_reg B ?_); simp (disch := omega) only [kW, kG, Nat.reduceEqDiff, reduceIte, Nat.reduceLT, Nat.reduceLeDiff, Nat.reduceAdd, Nat.reduceSub, Nat.reduceMul, Nat.reducePow, Nat.reduceDiv, Nat.reduceMod, evIndexAddr, TD.agg, evFieldAddr, binA_eqB ty4, binA_neB ty4, ty2, ty3, ty4, ty22, ty36, ty56, ty63, ty66, ty68, ty70, ty71, ty92, fn38, fn37, fn39, fn40, fn41, fn42, fn43, c_EgSq, EgSq_ans, c_EzOf, EzOf_ans, c_EzSign, EzSign_ans, c_EzMul, EzMul_ans, c_EzSub, EzSub_ans, c_EzExact, EzExact_ans, t3, t4, t5, t21, t22, t6, t7])
       | refine wp_condT rfl ?_ | refine wp_condF rfl ?_)
      refine wp_loopQ (fun k' s => ∃ (k : Nat) (tm : Nat → Option AV) (h : Hp) (L : Nat → List AV), s = ⟨tm, 110, h, []⟩ ∧ k' = a.length - k ∧ r < k ∧ k ≤ a.length ∧ tm 3 = some (.flat (.int .i64 (a.length : Int))) ∧ tm 4 = some (.slice Bk 0 a.length (.toEnd 1)) ∧ tm 5 = some (.ptr h1.next 0) ∧
       tm 21 = some (.flat (.int .i64 (a.length : Int))) ∧ tm 22 = some (.flat (.int .i64 (r : Int))) ∧ tm 6 = some (.flat (.int .i64 (r : Int))) ∧ tm 7 = some (.flat (.int .i64 (i : Int))) ∧ tm 8 = some (.flat (.int .i64 (k : Int))) ∧ Ps h a.length h1.next Bk ρ L (det r A) (mid A r i k) r) (a.length - (r + 1)) ?_ ?_
      ·refine ⟨r + 1, _, h, L, rfl, rfl, by omega, by omega, t3, t4, t5, t21, t22, t6, t7, rfl, P.M, P.lb, P.lt, P.nb, P.nr, fun x y hx hx' hy hy' => ?_⟩
       rw [show mid A r i (r + 1) x y = mid A r i 0 x y by
        unfold mid
        by_cases c : r < x ∧ r < y ∧ x < i
        ·rw [if_pos ⟨c.1, c.2.1, .inl c.2.2⟩, if_pos ⟨c.1, c.2.1, .inl c.2.2⟩]
        ·rw [if_neg (by omega), if_neg (by omega)]]
       exact P.val x y hx hx' hy hy'
      ·rintro k' s ⟨k, tm, h, L, rfl, rfl, hk0, hk, t3, t4, t5, t21, t22, t6, t7, t8, P⟩
       repeat (first
        | refine wp_seqQ ?_ | refine wp_blockQ ?_ | refine wp_scopeQ ?_
        | ((first | refine wp_skipQ ?_ | refine wp_labelQ ?_ | refine wp_exitQ ?_ | refine wp_retQ ?_); simp only [kQ, Nat.reduceEqDiff, reduceIte])
        | ((first | refine wp_dreg B (id := 15) [0, 0, 3, 7, 0, 31, 63, 0, 0, 384, 896, 0, 3968, 8064, 16383, 32767, 65535, 65535, 0, 393215, 1048575] (by kernel_rfl) ?_ | refine wp_dreg B (id := 16) [0, 0, 3, 7, 0, 31, 63, 0, 0, 384, 896, 0, 3968, 8064, 16383, 32767, 65535, 65535, 0, 393215, 1048575] (by kernel_rfl) ?_ | refine wp_dreg B (id := 18) [0, 0, 3, 7, 0, 0, 0, 96, 224, 480, 480, 1023, 3071] (by kernel_rfl) ?_ | refine wp_reg B ?_); simp (disch := omega) only [kW, kG, Nat.reduceEqDiff, reduceIte, Nat.reduceLT, Nat.reduceLeDiff, Nat.reduceAdd, Nat.reduceSub, Nat.reduceMul, Nat.reducePow, Nat.reduceDiv, Nat.reduceMod, evIndexAddr, TD.agg, evFieldAddr, binA_eqB ty4, binA_neB ty4, ty2, ty3, ty4, ty22, ty36, ty56, ty63, ty66, ty68, ty70, ty71, ty92, fn38, fn37, fn39, fn40, fn41, fn42, fn43, c_EgSq, EgSq_ans, c_EzOf, EzOf_ans, c_EzSign, EzSign_ans, c_EzMul, EzMul_ans, c_EzSub, EzSub_ans, c_EzExact, EzExact_ans, t3, t4, t5, t21, t22, t6, t7, t8])
        | refine wp_condT rfl ?_ | refine wp_condF rfl ?_)
       refine wp_if rfl (fun klt => ?_) (fun kge => ?_)
       ·have hkn : k < a.length := by omega
        have gB := P.M.top
        have gr := range_get (fun i => AV.slice (ρ i) 0 a.length (.exact a.length)) hrn
        have gi := range_get (fun i => AV.slice (ρ i) 0 a.length (.exact a.length)) hin
        have gR := P.M.row r hrn
        have gI := P.M.row i hin
        have glr := P.M.len r hrn
        have gli := P.M.len i hin
        have m1 : mid A r i k r r = mi A r r r := by unfold mid; rw [if_neg (by omega)]
        have m2 : mid A r i k i k = mi A r i k := by unfold mid; rw [if_neg (by omega)]
        have m3 : mid A r i k i r = mi A r i r := by unfold mid; rw [if_neg (by omega)]
        have m4 : mid A r i k r k = mi A r r k := by unfold mid; rw [if_neg (by omega)]
        have v1 : ((L r).drop (r * 2)).take 2 = [zs (mi A r r r), zm (mi A r r r)] := m1 ▸ P.val r r (Nat.le_refl _) hrn (Nat.le_refl _) hrn
        have v2 : ((L i).drop (k * 2)).take 2 = [zs (mi A r i k), zm (mi A r i k)] := m2 ▸ P.val i k (by omega) hin (by omega) hkn
        have v3 : ((L i).drop (r * 2)).take 2 = [zs (mi A r i r), zm (mi A r i r)] := m3 ▸ P.val i r (by omega) hin (Nat.le_refl _) hrn
        have v4 : ((L r).drop (k * 2)).take 2 = [zs (mi A r r k), zm (mi A r r k)] := m4 ▸ P.val r k (Nat.le_refl _) hrn (by omega) hkn
        have c1 := mi_bl hs hn hrn hrn hrn
        have c2 := mi_bl hs hn hrn hin hkn
        have c3 := mi_bl hs hn hrn hin hrn
        have c4 := mi_bl hs hn hrn hrn hkn
        have d1 := bl_prod c1 c2
        have d2 := bl_prod c3 c4
        have d3 := bl_add2 d1 d2
        have d4 := bl_sub2 d1 d2
        have sk := sy i k
        rw [← hlead] at sk
        have hE : (mi A r r r * mi A r i k - mi A r i r * mi A r r k) % det r A = 0 := by rw [← sk]; exact Int.mul_emod_right _ _
        have hQ : (mi A r r r * mi A r i k - mi A r i r * mi A r r k) / det r A = mi A (r + 1) i k := by rw [← sk]; exact Int.mul_ediv_cancel_left _ hL0
        have k1 := fun h => EzMul_ans (mi A r r r) (mi A r i k) h (by omega)
        have k2 := fun h => EzMul_ans (mi A r i r) (mi A r r k) h (by omega)
        have k3 := fun h => EzSub_ans (mi A r r r * mi A r i k) (mi A r i r * mi A r r k) h (by omega)
        have k4 := fun h => EzExact_ans (mi A r r r * mi A r i k - mi A r i r * mi A r r k) (det r A) h (by omega) (by omega) hL0 hE
        rw [hQ] at k4
        have lB := P.M.blt.2
        have lR := (P.M.rlt r hrn).2
        have lI := (P.M.rlt i hin).2
        have lq := P.lb
        have lt := P.lt
        clear sk hE hQ d1 d2 d3 d4 c1 c2 c3 c4
        repeat (first
         | refine wp_seqQ ?_ | refine wp_blockQ ?_ | refine wp_scopeQ ?_
         | ((first | refine wp_skipQ ?_ | refine wp_labelQ ?_ | refine wp_exitQ ?_ | refine wp_retQ ?_); simp only [kQ, Nat.reduceEqDiff, reduceIte])
         | ((first | refine wp_dreg B (id := 15) [0, 0, 3, 7, 0, 31, 63, 0, 0, 384, 896, 0, 3968, 8064, 16383, 32767, 65535, 65535, 0, 393215, 1048575] (by kernel_rfl) ?_ | refine wp_dreg B (id := 16) [0, 0, 3, 7, 0, 31, 63, 0, 0, 384, 896, 0, 3968, 8064, 16383, 32767, 65535, 65535, 0, 393215, 1048575] (by kernel_rfl) ?_ | refine wp_dreg B (id := 18) [0, 0, 3, 7, 0, 0, 0, 96, 224, 480, 480, 1023, 3071] (by kernel_rfl) ?_ | refine wp_reg B ?_); simp (disch := omega) only [kW, kG, Nat.reduceEqDiff, reduceIte, Nat.reduceLT, Nat.reduceLeDiff, Nat.reduceAdd, Nat.reduceSub, Nat.reduceMul, Nat.reducePow, Nat.reduceDiv, Nat.reduceMod, evIndexAddr, TD.agg, evFieldAddr, binA_eqB ty4, binA_neB ty4, ty2, ty3, ty4, ty22, ty36, ty56, ty63, ty66, ty68, ty70, ty71, ty92, fn38, fn37, fn39, fn40, fn41, fn42, fn43, c_EgSq, EgSq_ans, c_EzOf, EzOf_ans, c_EzSign, EzSign_ans, c_EzMul, EzMul_ans, c_EzSub, EzSub_ans, c_EzExact, EzExact_ans, t3, t4, t5, t21, t22, t6, t7, t8, gB, gr, gi, gR, gI, glr, gli, v1, v2, v3, v4, zav_fold, zav_cells, nav_one, nav_clean, k1, k2, k3, k4, lq])
         | refine wp_condT rfl ?_ | refine wp_condF rfl ?_)
        have nI := P.nr i hin
        refine ⟨_, ?_, k + 1, _, _, (fun x => if x = i then ((L i).set (k * 2) (zs (mi A (r + 1) i k))).set (k * 2 + 1) (zm (mi A (r + 1) i k)) else L x), rfl, rfl, by omega, by omega, t3, t4, t5, t21, t22, t6, t7, rfl,
         ⟨P.M.turn hin (by simp only; omega) (fun b hb hne => ?_) ?_ (by simp [gli]), ?_, by simp only; omega, P.nb, P.nr, fun x y hx hx' hy hy' => ?_⟩⟩
        ·omega
        ·simp (disch := omega) only [upd_ne]
        ·simp only [upd_eq]
        ·simp (disch := omega) only [upd_ne]; exact lq
        ·by_cases e : x = i
         ·subst e
          rw [if_pos rfl]
          by_cases e2 : y = k
          ·subst e2
           rw [show mid A r x (y + 1) x y = mi A (r + 1) x y by unfold mid; rw [if_pos (by omega)]]
           exact Ml.At.set (by omega) _ _
          ·rw [show mid A r x (k + 1) x y = mid A r x k x y by
             unfold mid
             by_cases c : r < x ∧ r < y ∧ (x < x ∨ x = x ∧ y < k)
             ·rw [if_pos c, if_pos (by omega)]
             ·rw [if_neg c, if_neg (by omega)]]
           exact Ml.At.other e2 (P.val x y hx hx' hy hy') _ _
         ·rw [if_neg e, show mid A r i (k + 1) x y = mid A r i k x y by
            unfold mid
            by_cases c : r < x ∧ r < y ∧ (x < i ∨ x = i ∧ y < k)
            ·rw [if_pos c, if_pos (by omega)]
            ·rw [if_neg c, if_neg (by omega)]]
          exact P.val x y hx hx' hy hy'
       ·repeat (first
          | refine wp_seqQ ?_ | refine wp_blockQ ?_ | refine wp_scopeQ ?_
          | ((first | refine wp_skipQ ?_ | refine wp_labelQ ?_ | refine wp_exitQ ?_ | refine wp_retQ ?_); simp only [kQ, Nat.reduceEqDiff, reduceIte])
          | ((first | refine wp_dreg B (id := 15) [0, 0, 3, 7, 0, 31, 63, 0, 0, 384, 896, 0, 3968, 8064, 16383, 32767, 65535, 65535, 0, 393215, 1048575] (by kernel_rfl) ?_ | refine wp_dreg B (id := 16) [0, 0, 3, 7, 0, 31, 63, 0, 0, 384, 896, 0, 3968, 8064, 16383, 32767, 65535, 65535, 0, 393215, 1048575] (by kernel_rfl) ?_ | refine wp_dreg B (id := 18) [0, 0, 3, 7, 0, 0, 0, 96, 224, 480, 480, 1023, 3071] (by kernel_rfl) ?_ | refine wp_reg B ?_); simp (disch := omega) only [kW, kG, Nat.reduceEqDiff, reduceIte, Nat.reduceLT, Nat.reduceLeDiff, Nat.reduceAdd, Nat.reduceSub, Nat.reduceMul, Nat.reducePow, Nat.reduceDiv, Nat.reduceMod, evIndexAddr, TD.agg, evFieldAddr, binA_eqB ty4, binA_neB ty4, ty2, ty3, ty4, ty22, ty36, ty56, ty63, ty66, ty68, ty70, ty71, ty92, fn38, fn37, fn39, fn40, fn41, fn42, fn43, c_EgSq, EgSq_ans, c_EzOf, EzOf_ans, c_EzSign, EzSign_ans, c_EzMul, EzMul_ans, c_EzSub, EzSub_ans, c_EzExact, EzExact_ans, t3, t4, t5, t21, t22, t6, t7, t8])
          | refine wp_condT rfl ?_ | refine wp_condF rfl ?_)
        refine ⟨_, ?_, i + 1, _, h, L, rfl, rfl, by omega, by omega, t3, t4, t5, t21, t22, t6, rfl, P.M, P.lb, P.lt, P.nb, P.nr, fun x y hx hx' hy hy' => ?_⟩
        ·omega
        ·rw [show mid A r (i + 1) 0 x y = mid A r i k x y by
           unfold mid
           by_cases c : r < x ∧ r < y ∧ (x < i ∨ x = i ∧ y < k)
           ·rw [if_pos c, if_pos (by omega)]
           ·rw [if_neg c, if_neg (by omega)]]
         exact P.val x y hx hx' hy hy'
     ·have gB := P.M.top
      have gr := range_get (fun i => AV.slice (ρ i) 0 a.length (.exact a.length)) hrn
      have gR := P.M.row r hrn
      have glr := P.M.len r hrn
      have m1 : mid A r i 0 r r = mi A r r r := by unfold mid; rw [if_neg (by omega)]
      have v1 : ((L r).drop (r * 2)).take 2 = [zs (mi A r r r), zm (mi A r r r)] := m1 ▸ P.val r r (Nat.le_refl _) hrn (Nat.le_refl _) hrn
      have lq := P.lb
      have lt := P.lt
      have nb := P.nb
      repeat (first
       | refine wp_seqQ ?_ | refine wp_blockQ ?_ | refine wp_scopeQ ?_
       | ((first | refine wp_skipQ ?_ | refine wp_labelQ ?_ | refine wp_exitQ ?_ | refine wp_retQ ?_); simp only [kQ, Nat.reduceEqDiff, reduceIte])
       | ((first | refine wp_dreg B (id := 15) [0, 0, 3, 7, 0, 31, 63, 0, 0, 384, 896, 0, 3968, 8064, 16383, 32767, 65535, 65535, 0, 393215, 1048575] (by kernel_rfl) ?_ | refine wp_dreg B (id := 16) [0, 0, 3, 7, 0, 31, 63, 0, 0, 384, 896, 0, 3968, 8064, 16383, 32767, 65535, 65535, 0, 393215, 1048575] (by kernel_rfl) ?_ | refine wp_dreg B (id := 18) [0, 0, 3, 7, 0, 0, 0, 96, 224, 480, 480, 1023, 3071] (by kernel_rfl) ?_ | refine wp_reg B ?_); simp (disch := omega) only [kW, kG, Nat.reduceEqDiff, reduceIte, Nat.reduceLT, Nat.reduceLeDiff, Nat.reduceAdd, Nat.reduceSub, Nat.reduceMul, Nat.reducePow, Nat.reduceDiv, Nat.reduceMod, evIndexAddr, TD.agg, evFieldAddr, binA_eqB ty4, binA_neB ty4, ty2, ty3, ty4, ty22, ty36, ty56, ty63, ty66, ty68, ty70, ty71, ty92, fn38, fn37, fn39, fn40, fn41, fn42, fn43, c_EgSq, EgSq_ans, c_EzOf, EzOf_ans, c_EzSign, EzSign_ans, c_EzMul, EzMul_ans, c_EzSub, EzSub_ans, c_EzExact, EzExact_ans, t3, t4, t5, t21, t22, t6, t7, gB, gr, gR, glr, v1, lq, zav_fold, zav_cells, nav_one, nav_clean])
       | refine wp_condT rfl ?_ | refine wp_condF rfl ?_)
      refine ⟨_, ?_, r + 1, _, _, L, rfl, rfl, by omega, t3, t4, t5, t21, rfl, ⟨P.M.grow (Nat.le_refl _) (fun b hb hc => ?_), ?_, by simp only; omega, P.nb, P.nr, fun x y hx hx' hy hy' => ?_⟩, fun s hs => ?_⟩
      ·omega
      ·have hne : b ≠ h1.next := by
         rcases hc with rfl | ⟨x, hx, rfl⟩
         ·exact fun e => P.nb e.symm
         ·exact fun e => P.nr x hx e.symm
       simp (disch := omega) only [upd_ne]
      ·rw [← hlead]
       simp only [upd_eq]
      ·rw [show mi A (r + 1) x y = mid A r i 0 x y by unfold mid; rw [if_pos (by omega)]]
       exact P.val x y (by omega) hx' (by omega) hy'
      ·by_cases e : s ≤ r
       ·exact hD s e
       ·obtain rfl : s = r + 1 := by omega
        rw [← hlead]; exact hpos
   ·have hf : posB a.length A = false := posB_false hrn (by rw [← hlead]; exact hpos)
    have kSn : ∃ z : Int, z ≤ 0 ∧ ∀ h, EzSign.ans [zav (mi A r r r)] h = some (.ret (.flat (.int .i64 z)), h) := by
     by_cases hz : mi A r r r < 0
     ·rw [if_pos hz] at kSg; exact ⟨-1, by omega, kSg⟩
     ·rw [if_neg hz, if_pos (by omega)] at kSg; exact ⟨0, by omega, kSg⟩
    obtain ⟨z, hz, kZ⟩ := kSn
    repeat (first
     | refine wp_seqQ ?_ | refine wp_blockQ ?_ | refine wp_scopeQ ?_
     | ((first | refine wp_skipQ ?_ | refine wp_labelQ ?_ | refine wp_exitQ ?_ | refine wp_retQ ?_); simp only [kQ, Nat.reduceEqDiff, reduceIte])
     | ((first | refine wp_dreg B (id := 15) [0, 0, 3, 7, 0, 31, 63, 0, 0, 384, 896, 0, 3968, 8064, 16383, 32767, 65535, 65535, 0, 393215, 1048575] (by kernel_rfl) ?_ | refine wp_dreg B (id := 16) [0, 0, 3, 7, 0, 31, 63, 0, 0, 384, 896, 0, 3968, 8064, 16383, 32767, 65535, 65535, 0, 393215, 1048575] (by kernel_rfl) ?_ | refine wp_dreg B (id := 18) [0, 0, 3, 7, 0, 0, 0, 96, 224, 480, 480, 1023, 3071] (by kernel_rfl) ?_ | refine wp_reg B ?_); simp (disch := omega) only [kW, kG, Nat.reduceEqDiff, reduceIte, Nat.reduceLT, Nat.reduceLeDiff, Nat.reduceAdd, Nat.reduceSub, Nat.reduceMul, Nat.reducePow, Nat.reduceDiv, Nat.reduceMod, evIndexAddr, TD.agg, evFieldAddr, binA_eqB ty4, binA_neB ty4, ty2, ty3, ty4, ty22, ty36, ty56, ty63, ty66, ty68, ty70, ty71, ty92, fn38, fn37, fn39, fn40, fn41, fn42, fn43, c_EgSq, EgSq_ans, c_EzOf, EzOf_ans, c_EzSign, EzSign_ans, c_EzMul, EzMul_ans, c_EzSub, EzSub_ans, c_EzExact, EzExact_ans, t3, t4, t5, t21, t22, gB, gr, gR, gl, gv, zav_fold, kZ])
     | refine wp_condT rfl ?_ | refine wp_condF rfl ?_)
    rw [hf]
    simp (disch := omega) only [kS, Nat.reduceEqDiff, reduceIte, Nat.reduceLT, Nat.reduceLeDiff, Nat.reduceAdd, Nat.reduceSub, Nat.reduceMul, Nat.reducePow, Nat.reduceDiv, Nat.reduceMod, evIndexAddr, TD.agg, evFieldAddr, binA_eqB ty4, binA_neB ty4, ty2, ty3, ty4, ty22, ty36, ty56, ty63, ty66, ty68, ty70, ty71, ty92, fn38, fn37, fn39, fn40, fn41, fn42, fn43, c_EgSq, EgSq_ans, c_EzOf, EzOf_ans, c_EzSign, EzSign_ans, c_EzMul, EzMul_ans, c_EzSub, EzSub_ans, c_EzExact, EzExact_ans]
  ·repeat (first
     | refine wp_seqQ ?_ | refine wp_blockQ ?_ | refine wp_scopeQ ?_
     | ((first | refine wp_skipQ ?_ | refine wp_labelQ ?_ | refine wp_exitQ ?_ | refine wp_retQ ?_); simp only [kQ, Nat.reduceEqDiff, reduceIte])
     | ((first | refine wp_dreg B (id := 15) [0, 0, 3, 7, 0, 31, 63, 0, 0, 384, 896, 0, 3968, 8064, 16383, 32767, 65535, 65535, 0, 393215, 1048575] (by kernel_rfl) ?_ | refine wp_dreg B (id := 16) [0, 0, 3, 7, 0, 31, 63, 0, 0, 384, 896, 0, 3968, 8064, 16383, 32767, 65535, 65535, 0, 393215, 1048575] (by kernel_rfl) ?_ | refine wp_dreg B (id := 18) [0, 0, 3, 7, 0, 0, 0, 96, 224, 480, 480, 1023, 3071] (by kernel_rfl) ?_ | refine wp_reg B ?_); simp (disch := omega) only [kW, kG, Nat.reduceEqDiff, reduceIte, Nat.reduceLT, Nat.reduceLeDiff, Nat.reduceAdd, Nat.reduceSub, Nat.reduceMul, Nat.reducePow, Nat.reduceDiv, Nat.reduceMod, evIndexAddr, TD.agg, evFieldAddr, binA_eqB ty4, binA_neB ty4, ty2, ty3, ty4, ty22, ty36, ty56, ty63, ty66, ty68, ty70, ty71, ty92, fn38, fn37, fn39, fn40, fn41, fn42, fn43, c_EgSq, EgSq_ans, c_EzOf, EzOf_ans, c_EzSign, EzSign_ans, c_EzMul, EzMul_ans, c_EzSub, EzSub_ans, c_EzExact, EzExact_ans, t3, t4, t5, t21, t22])
     | refine wp_condT rfl ?_ | refine wp_condF rfl ?_)
   simp (disch := omega) only [kS, Nat.reduceEqDiff, reduceIte, Nat.reduceLT, Nat.reduceLeDiff, Nat.reduceAdd, Nat.reduceSub, Nat.reduceMul, Nat.reducePow, Nat.reduceDiv, Nat.reduceMod, evIndexAddr, TD.agg, evFieldAddr, binA_eqB ty4, binA_neB ty4, ty2, ty3, ty4, ty22, ty36, ty56, ty63, ty66, ty68, ty70, ty71, ty92, fn38, fn37, fn39, fn40, fn41, fn42, fn43, c_EgSq, EgSq_ans, c_EzOf, EzOf_ans, c_EzSign, EzSign_ans, c_EzMul, EzMul_ans, c_EzSub, EzSub_ans, c_EzExact, EzExact_ans]
   rw [posB_true fun k hk => hD (k + 1) (by omega)]
end Go.Proofs.Ytllocgmbjjoemaa.Iv
end
section
set_option maxHeartbeats 8000000
set_option linter.unusedVariables false
set_option linter.unusedSimpArgs false
set_option maxRecDepth 10000
namespace Go.Proofs.Ytllocgmbjjoemaa.Iv
open Go Go.Iv Go.RowKit Go.Proofs.Ytllocgmbjjoemaa.Nv
open Dg (bl)
open Dt (det mi)
noncomputable def EgPos : Entry Try.prog := ⟨31, fun args h e h' => h' = h ∧ ∃ (a : List (List Int)), args = [irows a] ∧ (Sq a) ∧ (0 < a.length) ∧ (a.length ≤ 8) ∧ (∀ i j, i < a.length → j < a.length → -16384 ≤ ent a i j ∧ ent a i j ≤ 16384) ∧ e = .ret (.flat (.bool (posB a.length (ent a)))), by
 rintro args h e h' ⟨rfl, a, rfl, h1, h2, h3, h4, rfl⟩
 exact ⟨positive_sem a h1 h2 h3 h4 _, Hp.Le.refl _⟩⟩
theorem EgPos_ans (a : List (List Int)) (h : Hp) (h1 : Sq a) (h2 : 0 < a.length) (h3 : a.length ≤ 8) (h4 : ∀ i j, i < a.length → j < a.length → -16384 ≤ ent a i j ∧ ent a i j ≤ 16384) : EgPos.ans [irows a] h = some (.ret (.flat (.bool (posB a.length (ent a)))), h) :=
 Entry.one ⟨rfl, a, rfl, h1, h2, h3, h4, rfl⟩ fun e h' ⟨hh, a', ha, _, _, _, _, he⟩ => by simp only [kI, irows_eq] at ha; subst ha; exact ⟨he, hh⟩
def symP (a : List (List Int)) : Nat → Nat → Int → Bool := fun i j x => decide (x = ent a j i)
theorem each1_sem (a : List (List Int)) (ha : a.length ≤ 1000000) (hs : ∀ r ∈ a, r.length ≤ 1000000) (h : Hp) : SemCall Try.prog 27 [irows a, .func (.func 28) [] []] h (.ret (.flat (.bool (allB a fun _ _ x => smallB x)))) h := by
 have B : Base Try.prog tab _ := tabL_base [EgC1] tables.ok mixed
 generalize hL : tabL [EgC1] = call at B
 have c_EgC1 : ∀ a h, call 28 a h = EgC1.ans a h := fun _ _ => hL ▸ rfl
 clear hL
 exact sem_still tables.ok Try.func27 rfl rfl rfl rfl (each_wp B 28 [] ⟨_, fn28⟩ a ha hs _ h fun i r hr j x hx => by rw [c_EgC1]; exact EgC1_ans i j x h)
theorem each2_sem (a : List (List Int)) (sq : Sq a) (ha : a.length ≤ 1000000) (ab : Nat) (h : Hp) (hm : h.m ab = some (.cells [irows a] 22 false)) : SemCall Try.prog 27 [irows a, .func (.func 30) [] [.ptr ab 0]] h (.ret (.flat (.bool (allB a (symP a))))) h := by
 have B : Base Try.prog tab _ := tabL_base [EgC2] tables.ok mixed
 generalize hL : tabL [EgC2] = call at B
 have c_EgC2 : ∀ a h, call 30 a h = EgC2.ans a h := fun _ _ => hL ▸ rfl
 clear hL
 exact sem_still tables.ok Try.func27 rfl rfl rfl rfl (each_wp B 30 [.ptr ab 0] ⟨_, fn30⟩ a ha (fun r hr => by rw [sq r hr]; exact ha) _ h fun i r hr j x hx => by
  rw [c_EgC2]
  have h1 := (List.getElem?_eq_some_iff.1 hr).1
  have h2 := (List.getElem?_eq_some_iff.1 hx).1
  rw [sq r (List.mem_of_getElem? hr)] at h2
  exact EgC2_ans sq h1 h2 hm)
noncomputable def EgEach : Entry Try.prog := ⟨27, fun args h e h' => h' = h ∧ ∃ a : List (List Int), a.length ≤ 1000000 ∧
    ((∀ r ∈ a, r.length ≤ 1000000) ∧ args = [irows a, .func (.func 28) [] []] ∧ e = .ret (.flat (.bool (allB a fun _ _ x => smallB x))) ∨
     ∃ ab, Sq a ∧ h.m ab = some (.cells [irows a] 22 false) ∧ args = [irows a, .func (.func 30) [] [.ptr ab 0]] ∧ e = .ret (.flat (.bool (allB a (symP a))))), by
 rintro args h e h' ⟨rfl, a, ha, ⟨hs, rfl, rfl⟩ | ⟨ab, sq, hm, rfl, rfl⟩⟩
 ·exact ⟨each1_sem a ha hs h', Hp.Le.refl _⟩
 ·exact ⟨each2_sem a sq ha ab h' hm, Hp.Le.refl _⟩⟩
theorem EgEach_ans1 (a : List (List Int)) (ha : a.length ≤ 1000000) (hs : ∀ r ∈ a, r.length ≤ 1000000) (h : Hp) : EgEach.ans [irows a, .func (.func 28) [] []] h = some (.ret (.flat (.bool (allB a fun _ _ x => smallB x))), h) := by
 refine Entry.one ⟨rfl, a, ha, .inl ⟨hs, rfl, rfl⟩⟩ ?_
 rintro e h' ⟨hh, a', _, ⟨_, h1, h2⟩ | ⟨ab, _, _, h1, _⟩⟩
 ·simp only [List.cons.injEq, and_true] at h1
  rw [irows_inj h1]; exact ⟨h2, hh⟩
 ·simp only [List.cons.injEq, AV.func.injEq, Fn.func.injEq, and_true] at h1
  have := h1.2.1
  cases this
theorem EgEach_ans2 (a : List (List Int)) (sq : Sq a) (ha : a.length ≤ 1000000) (ab : Nat) (h : Hp) (hm : h.m ab = some (.cells [irows a] 22 false)) : EgEach.ans [irows a, .func (.func 30) [] [.ptr ab 0]] h = some (.ret (.flat (.bool (allB a (symP a)))), h) := by
 refine Entry.one ⟨rfl, a, ha, .inr ⟨ab, sq, hm, rfl, rfl⟩⟩ ?_
 rintro e h' ⟨hh, a', _, ⟨_, h1, h2⟩ | ⟨ab', _, _, h1, h2⟩⟩
 ·simp only [List.cons.injEq, AV.func.injEq, Fn.func.injEq, and_true] at h1
  have := h1.2.1
  cases this
 ·simp only [List.cons.injEq, and_true] at h1
  rw [irows_inj h1.1]; exact ⟨h2, hh⟩
theorem EgEach_ans (a : List (List Int)) (ha : a.length ≤ 1000000) (hs : ∀ r ∈ a, r.length ≤ 1000000) (h : Hp) : EgEach.ans [irows a, .func (.func 28) [] []] h = some (.ret (.flat (.bool (allB a fun _ _ x => smallB x))), h) := EgEach_ans1 a ha hs h
open Classical in
noncomputable def checkV (a : List (List Int)) : Int := if a.length < 1 ∨ 8 < a.length then 5 else if ¬ Sq a then 5 else if ¬ allP a (fun _ _ x => smallB x) then 3 else if allP a (symP a) ∧ posB a.length (ent a) = true then 0 else 6
theorem small_ent {a : List (List Int)} (sq : Sq a) (h : allP a fun _ _ x => smallB x) : ∀ i j, i < a.length → j < a.length → -16384 ≤ ent a i j ∧ ent a i j ≤ 16384 := fun i j hi hj => by
 obtain ⟨r, h1, _, h3⟩ := sq.get hi hj
 have := h i r h1 j _ h3
 unfold smallB at this
 exact of_decide_eq_true this
theorem gCheck_sem (a : List (List Int)) (hn : a.length < 4611686018427387904) (h : Hp) : SemCall Try.prog 18 [irows a] h (.ret (.flat (.int .i64 (checkV a)))) h := by
 refine sem_pure tables.ok Try.func18 rfl rfl rfl rfl (by simp [pureL, irows_pure]) rfl ?_ h
 have B : Base Try.prog tab _ := tabL_base [EgEach, EgPos] tables.ok mixed
 generalize hL : tabL [EgEach, EgPos] = call at B
 have c_EgEach : ∀ a h, call 27 a h = EgEach.ans a h := fun _ _ => hL ▸ rfl
 have c_EgPos : ∀ a h, call 31 a h = EgPos.ans a h := fun _ _ => hL ▸ rfl
 clear hL
 unfold Try.f18 bodyOf entry; simp only [Option.getD_some, List.length_cons, List.length_nil, Nat.reduceAdd, Nat.reduceSub]
 repeat (first
  | refine wp_seqQ ?_ | refine wp_blockQ ?_ | refine wp_scopeQ ?_
  | ((first | refine wp_skipQ ?_ | refine wp_labelQ ?_ | refine wp_exitQ ?_ | refine wp_retQ ?_); simp only [kQ, Nat.reduceEqDiff, reduceIte])
  | ((fail_if_success refine wp_reg (id := 1) B ?_); refine wp_reg B ?_; simp (disch := omega) only [kW, Nat.reduceEqDiff, reduceIte, Nat.reduceLT, Nat.reduceLeDiff, Nat.reduceAdd, Nat.reduceSub, Nat.reduceMul, Nat.reducePow, Nat.reduceDiv, Nat.reduceMod, evIndexAddr, TD.agg, evFieldAddr, binA_eqB ty4, binA_neB ty4, ty2, ty3, ty4, ty22, ty36, ty54, fn27, fn28, fn30, fn31, c_EgEach, EgEach_ans, c_EgPos, EgPos_ans, irows_cells, irows_one, irows_clean])
  | refine wp_condT rfl ?_ | refine wp_condF rfl ?_)
 generalize hH : Hp.mk _ _ _ = H
 have hm : H.m Hp.empty.next = some (.cells [irows a] 22 false) := by rw [← hH]; simp only [upd_eq]
 by_cases h1 : a.length < 1
 ·rw [show checkV a = 5 by unfold checkV; rw [if_pos (.inl h1)]]
  repeat (first
   | refine wp_seqQ ?_ | refine wp_blockQ ?_ | refine wp_scopeQ ?_
   | ((first | refine wp_skipQ ?_ | refine wp_labelQ ?_ | refine wp_exitQ ?_ | refine wp_retQ ?_); simp only [kQ, Nat.reduceEqDiff, reduceIte])
   | (refine wp_reg B ?_; simp (disch := omega) only [kW, Nat.reduceEqDiff, reduceIte, Nat.reduceLT, Nat.reduceLeDiff, Nat.reduceAdd, Nat.reduceSub, Nat.reduceMul, Nat.reducePow, Nat.reduceDiv, Nat.reduceMod, evIndexAddr, TD.agg, evFieldAddr, binA_eqB ty4, binA_neB ty4, ty2, ty3, ty4, ty22, ty36, ty54, fn27, fn28, fn30, fn31, c_EgEach, EgEach_ans, c_EgPos, EgPos_ans, hm, irows_len])
   | refine wp_condT rfl ?_ | refine wp_condF rfl ?_)
  simp (disch := omega) only [kS, Nat.reduceEqDiff, reduceIte, Nat.reduceLT, Nat.reduceLeDiff, Nat.reduceAdd, Nat.reduceSub, Nat.reduceMul, Nat.reducePow, Nat.reduceDiv, Nat.reduceMod, evIndexAddr, TD.agg, evFieldAddr, binA_eqB ty4, binA_neB ty4, ty2, ty3, ty4, ty22, ty36, ty54, fn27, fn28, fn30, fn31, c_EgEach, EgEach_ans, c_EgPos, EgPos_ans]
 ·by_cases h2 : 8 < a.length
  ·rw [show checkV a = 5 by unfold checkV; rw [if_pos (.inr h2)]]
   repeat (first
    | refine wp_seqQ ?_ | refine wp_blockQ ?_ | refine wp_scopeQ ?_
    | ((first | refine wp_skipQ ?_ | refine wp_labelQ ?_ | refine wp_exitQ ?_ | refine wp_retQ ?_); simp only [kQ, Nat.reduceEqDiff, reduceIte])
    | (refine wp_reg B ?_; simp (disch := omega) only [kW, Nat.reduceEqDiff, reduceIte, Nat.reduceLT, Nat.reduceLeDiff, Nat.reduceAdd, Nat.reduceSub, Nat.reduceMul, Nat.reducePow, Nat.reduceDiv, Nat.reduceMod, evIndexAddr, TD.agg, evFieldAddr, binA_eqB ty4, binA_neB ty4, ty2, ty3, ty4, ty22, ty36, ty54, fn27, fn28, fn30, fn31, c_EgEach, EgEach_ans, c_EgPos, EgPos_ans, hm, irows_len])
    | refine wp_condT rfl ?_ | refine wp_condF rfl ?_)
   simp (disch := omega) only [kS, Nat.reduceEqDiff, reduceIte, Nat.reduceLT, Nat.reduceLeDiff, Nat.reduceAdd, Nat.reduceSub, Nat.reduceMul, Nat.reducePow, Nat.reduceDiv, Nat.reduceMod, evIndexAddr, TD.agg, evFieldAddr, binA_eqB ty4, binA_neB ty4, ty2, ty3, ty4, ty22, ty36, ty54, fn27, fn28, fn30, fn31, c_EgEach, EgEach_ans, c_EgPos, EgPos_ans]
  ·repeat (first
     | refine wp_seqQ ?_ | refine wp_blockQ ?_ | refine wp_scopeQ ?_
     | ((first | refine wp_skipQ ?_ | refine wp_labelQ ?_ | refine wp_exitQ ?_ | refine wp_retQ ?_); simp only [kQ, Nat.reduceEqDiff, reduceIte])
     | (refine wp_reg B ?_; simp (disch := omega) only [kW, Nat.reduceEqDiff, reduceIte, Nat.reduceLT, Nat.reduceLeDiff, Nat.reduceAdd, Nat.reduceSub, Nat.reduceMul, Nat.reducePow, Nat.reduceDiv, Nat.reduceMod, evIndexAddr, TD.agg, evFieldAddr, binA_eqB ty4, binA_neB ty4, ty2, ty3, ty4, ty22, ty36, ty54, fn27, fn28, fn30, fn31, c_EgEach, EgEach_ans, c_EgPos, EgPos_ans, hm, irows_len])
     | refine wp_condT rfl ?_ | refine wp_condF rfl ?_)
   refine wp_loopQ (fun k s => ∃ (i : Nat) (tm : Nat → Option AV), s = ⟨tm, 38, H, []⟩ ∧ k = a.length - i ∧ i ≤ a.length ∧ tm 1 = some (.ptr Hp.empty.next 0) ∧ tm 3 = some (.flat (.int .i64 (a.length : Int))) ∧ tm 14 = some (.flat (.int .i64 (a.length : Int))) ∧ tm 15 = some (.flat (.int .i64 (i : Int))) ∧
    ∀ x r, x < i → a[x]? = some r → r.length = a.length) a.length ?_ ?_
   ·exact ⟨0, _, rfl, rfl, Nat.zero_le _, rfl, rfl, rfl, rfl, fun x r hx => by omega⟩
   ·rintro k s ⟨i, tm, rfl, rfl, hi, t1, t3, t14, t15, hall⟩
    repeat (first
     | refine wp_seqQ ?_ | refine wp_blockQ ?_ | refine wp_scopeQ ?_
     | ((first | refine wp_skipQ ?_ | refine wp_labelQ ?_ | refine wp_exitQ ?_ | refine wp_retQ ?_); simp only [kQ, Nat.reduceEqDiff, reduceIte])
     | (refine wp_reg B ?_; simp (disch := omega) only [kW, Nat.reduceEqDiff, reduceIte, Nat.reduceLT, Nat.reduceLeDiff, Nat.reduceAdd, Nat.reduceSub, Nat.reduceMul, Nat.reducePow, Nat.reduceDiv, Nat.reduceMod, evIndexAddr, TD.agg, evFieldAddr, binA_eqB ty4, binA_neB ty4, ty2, ty3, ty4, ty22, ty36, ty54, fn27, fn28, fn30, fn31, c_EgEach, EgEach_ans, c_EgPos, EgPos_ans, t1, t3, t14, t15])
     | refine wp_condT rfl ?_ | refine wp_condF rfl ?_)
    refine wp_if rfl (fun ilt => ?_) (fun ige => ?_)
    ·obtain ⟨r, hr⟩ : ∃ r, a[i]? = some r := ⟨a[i], List.getElem?_eq_getElem (by omega)⟩
     have g1 := irows_get hr
     by_cases hrl : r.length = a.length
     ·repeat (first
        | refine wp_seqQ ?_ | refine wp_blockQ ?_ | refine wp_scopeQ ?_
        | ((first | refine wp_skipQ ?_ | refine wp_labelQ ?_ | refine wp_exitQ ?_ | refine wp_retQ ?_); simp only [kQ, Nat.reduceEqDiff, reduceIte])
        | (refine wp_reg B ?_; simp (disch := omega) only [kW, Nat.reduceEqDiff, reduceIte, Nat.reduceLT, Nat.reduceLeDiff, Nat.reduceAdd, Nat.reduceSub, Nat.reduceMul, Nat.reducePow, Nat.reduceDiv, Nat.reduceMod, evIndexAddr, TD.agg, evFieldAddr, binA_eqB ty4, binA_neB ty4, ty2, ty3, ty4, ty22, ty36, ty54, fn27, fn28, fn30, fn31, c_EgEach, EgEach_ans, c_EgPos, EgPos_ans, t1, t3, t14, t15, hm, irows, irow, g1, hrl])
        | refine wp_condT rfl ?_ | refine wp_condF rfl ?_)
      refine ⟨_, ?_, i + 1, _, rfl, rfl, by omega, t1, t3, t14, rfl, fun x r' hx hr' => ?_⟩
      ·omega
      ·by_cases e : x = i
       ·subst e
        rw [hr] at hr'
        simp only [Option.some.injEq] at hr'
        subst hr'; exact hrl
       ·exact hall x r' (by omega) hr'
     ·rw [show checkV a = 5 by unfold checkV; rw [if_neg (by omega), if_pos fun sq => hrl (sq r (List.mem_of_getElem? hr))]]
      have hrb : ((r.length : Int) = (a.length : Int)) ↔ False := ⟨fun e => hrl (by omega), fun e => e.elim⟩
      repeat (first
       | refine wp_seqQ ?_ | refine wp_blockQ ?_ | refine wp_scopeQ ?_
       | ((first | refine wp_skipQ ?_ | refine wp_labelQ ?_ | refine wp_exitQ ?_ | refine wp_retQ ?_); simp only [kQ, Nat.reduceEqDiff, reduceIte])
       | (refine wp_reg B ?_; simp (disch := omega) only [kW, Nat.reduceEqDiff, reduceIte, Nat.reduceLT, Nat.reduceLeDiff, Nat.reduceAdd, Nat.reduceSub, Nat.reduceMul, Nat.reducePow, Nat.reduceDiv, Nat.reduceMod, evIndexAddr, TD.agg, evFieldAddr, binA_eqB ty4, binA_neB ty4, ty2, ty3, ty4, ty22, ty36, ty54, fn27, fn28, fn30, fn31, c_EgEach, EgEach_ans, c_EgPos, EgPos_ans, t1, t3, t14, t15, hm, irows, irow, g1])
       | refine wp_condT rfl ?_ | refine wp_condF rfl ?_)
      trace_state
      simp (disch := omega) only [kS, Nat.reduceEqDiff, reduceIte, Nat.reduceLT, Nat.reduceLeDiff, Nat.reduceAdd, Nat.reduceSub, Nat.reduceMul, Nat.reducePow, Nat.reduceDiv, Nat.reduceMod, evIndexAddr, TD.agg, evFieldAddr, binA_eqB ty4, binA_neB ty4, ty2, ty3, ty4, ty22, ty36, ty54, fn27, fn28, fn30, fn31, c_EgEach, EgEach_ans, c_EgPos, EgPos_ans]
    ·have sq : Sq a := fun r hr => by
       obtain ⟨x, hx⟩ := List.mem_iff_getElem?.1 hr
       have := (List.getElem?_eq_some_iff.1 hx).1
       exact hall x r (by omega) hx
     have hs1 : ∀ r ∈ a, r.length ≤ 1000000 := fun r hr => by rw [sq r hr]; omega
     have k1 := EgEach_ans1 a (by omega) hs1 H
     have k2 := EgEach_ans2 a sq (by omega) Hp.empty.next H hm
     by_cases h3 : allP a fun _ _ x => smallB x
     ·have k3 := fun h => EgPos_ans a h sq (by omega) (by omega) (small_ent sq h3)
      rw [allB_true h3] at k1
      by_cases h4 : allP a (symP a)
      ·rw [allB_true h4] at k2
       cases h5 : posB a.length (ent a) with
       | true =>
        rw [h5] at k3
        rw [show checkV a = 0 by unfold checkV; rw [if_neg (by omega), if_neg (fun k => k sq), if_neg (fun k => k h3), if_pos ⟨h4, h5⟩]]
        repeat (first
         | refine wp_seqQ ?_ | refine wp_blockQ ?_ | refine wp_scopeQ ?_
         | ((first | refine wp_skipQ ?_ | refine wp_labelQ ?_ | refine wp_exitQ ?_ | refine wp_retQ ?_); simp only [kQ, Nat.reduceEqDiff, reduceIte])
         | (refine wp_reg B ?_; simp (disch := omega) only [kW, Nat.reduceEqDiff, reduceIte, Nat.reduceLT, Nat.reduceLeDiff, Nat.reduceAdd, Nat.reduceSub, Nat.reduceMul, Nat.reducePow, Nat.reduceDiv, Nat.reduceMod, evIndexAddr, TD.agg, evFieldAddr, binA_eqB ty4, binA_neB ty4, ty2, ty3, ty4, ty22, ty36, ty54, fn27, fn28, fn30, fn31, c_EgEach, EgEach_ans, c_EgPos, EgPos_ans, t1, t3, t14, t15, hm, k1, k2, k3])
         | refine wp_condT rfl ?_ | refine wp_condF rfl ?_)
        simp (disch := omega) only [kS, Nat.reduceEqDiff, reduceIte, Nat.reduceLT, Nat.reduceLeDiff, Nat.reduceAdd, Nat.reduceSub, Nat.reduceMul, Nat.reducePow, Nat.reduceDiv, Nat.reduceMod, evIndexAddr, TD.agg, evFieldAddr, binA_eqB ty4, binA_neB ty4, ty2, ty3, ty4, ty22, ty36, ty54, fn27, fn28, fn30, fn31, c_EgEach, EgEach_ans, c_EgPos, EgPos_ans]
       | false =>
        rw [h5] at k3
        rw [show checkV a = 6 by unfold checkV; rw [if_neg (by omega), if_neg (fun k => k sq), if_neg (fun k => k h3), if_neg (fun k => by rw [h5] at k; exact absurd k.2 (by simp))]]
        repeat (first
         | refine wp_seqQ ?_ | refine wp_blockQ ?_ | refine wp_scopeQ ?_
         | ((first | refine wp_skipQ ?_ | refine wp_labelQ ?_ | refine wp_exitQ ?_ | refine wp_retQ ?_); simp only [kQ, Nat.reduceEqDiff, reduceIte])
         | (refine wp_reg B ?_; simp (disch := omega) only [kW, Nat.reduceEqDiff, reduceIte, Nat.reduceLT, Nat.reduceLeDiff, Nat.reduceAdd, Nat.reduceSub, Nat.reduceMul, Nat.reducePow, Nat.reduceDiv, Nat.reduceMod, evIndexAddr, TD.agg, evFieldAddr, binA_eqB ty4, binA_neB ty4, ty2, ty3, ty4, ty22, ty36, ty54, fn27, fn28, fn30, fn31, c_EgEach, EgEach_ans, c_EgPos, EgPos_ans, t1, t3, t14, t15, hm, k1, k2, k3])
         | refine wp_condT rfl ?_ | refine wp_condF rfl ?_)
        simp (disch := omega) only [kS, Nat.reduceEqDiff, reduceIte, Nat.reduceLT, Nat.reduceLeDiff, Nat.reduceAdd, Nat.reduceSub, Nat.reduceMul, Nat.reducePow, Nat.reduceDiv, Nat.reduceMod, evIndexAddr, TD.agg, evFieldAddr, binA_eqB ty4, binA_neB ty4, ty2, ty3, ty4, ty22, ty36, ty54, fn27, fn28, fn30, fn31, c_EgEach, EgEach_ans, c_EgPos, EgPos_ans]
      ·rw [allB_false h4] at k2
       rw [show checkV a = 6 by unfold checkV; rw [if_neg (by omega), if_neg (fun k => k sq), if_neg (fun k => k h3), if_neg (fun k => h4 k.1)]]
       repeat (first
        | refine wp_seqQ ?_ | refine wp_blockQ ?_ | refine wp_scopeQ ?_
        | ((first | refine wp_skipQ ?_ | refine wp_labelQ ?_ | refine wp_exitQ ?_ | refine wp_retQ ?_); simp only [kQ, Nat.reduceEqDiff, reduceIte])
        | (refine wp_reg B ?_; simp (disch := omega) only [kW, Nat.reduceEqDiff, reduceIte, Nat.reduceLT, Nat.reduceLeDiff, Nat.reduceAdd, Nat.reduceSub, Nat.reduceMul, Nat.reducePow, Nat.reduceDiv, Nat.reduceMod, evIndexAddr, TD.agg, evFieldAddr, binA_eqB ty4, binA_neB ty4, ty2, ty3, ty4, ty22, ty36, ty54, fn27, fn28, fn30, fn31, c_EgEach, EgEach_ans, c_EgPos, EgPos_ans, t1, t3, t14, t15, hm, k1, k2])
        | refine wp_condT rfl ?_ | refine wp_condF rfl ?_)
       simp (disch := omega) only [kS, Nat.reduceEqDiff, reduceIte, Nat.reduceLT, Nat.reduceLeDiff, Nat.reduceAdd, Nat.reduceSub, Nat.reduceMul, Nat.reducePow, Nat.reduceDiv, Nat.reduceMod, evIndexAddr, TD.agg, evFieldAddr, binA_eqB ty4, binA_neB ty4, ty2, ty3, ty4, ty22, ty36, ty54, fn27, fn28, fn30, fn31, c_EgEach, EgEach_ans, c_EgPos, EgPos_ans]
     ·rw [allB_false h3] at k1
      rw [show checkV a = 3 by unfold checkV; rw [if_neg (by omega), if_neg (fun k => k sq), if_pos h3]]
      repeat (first
       | refine wp_seqQ ?_ | refine wp_blockQ ?_ | refine wp_scopeQ ?_
       | ((first | refine wp_skipQ ?_ | refine wp_labelQ ?_ | refine wp_exitQ ?_ | refine wp_retQ ?_); simp only [kQ, Nat.reduceEqDiff, reduceIte])
       | (refine wp_reg B ?_; simp (disch := omega) only [kW, Nat.reduceEqDiff, reduceIte, Nat.reduceLT, Nat.reduceLeDiff, Nat.reduceAdd, Nat.reduceSub, Nat.reduceMul, Nat.reducePow, Nat.reduceDiv, Nat.reduceMod, evIndexAddr, TD.agg, evFieldAddr, binA_eqB ty4, binA_neB ty4, ty2, ty3, ty4, ty22, ty36, ty54, fn27, fn28, fn30, fn31, c_EgEach, EgEach_ans, c_EgPos, EgPos_ans, t1, t3, t14, t15, hm, k1])
       | refine wp_condT rfl ?_ | refine wp_condF rfl ?_)
      simp (disch := omega) only [kS, Nat.reduceEqDiff, reduceIte, Nat.reduceLT, Nat.reduceLeDiff, Nat.reduceAdd, Nat.reduceSub, Nat.reduceMul, Nat.reducePow, Nat.reduceDiv, Nat.reduceMod, evIndexAddr, TD.agg, evFieldAddr, binA_eqB ty4, binA_neB ty4, ty2, ty3, ty4, ty22, ty36, ty54, fn27, fn28, fn30, fn31, c_EgEach, EgEach_ans, c_EgPos, EgPos_ans]
noncomputable def EgCheck : Entry Try.prog := ⟨18, fun args h e h' => h' = h ∧ ∃ (a : List (List Int)), args = [irows a] ∧ (a.length < 4611686018427387904) ∧ e = .ret (.flat (.int .i64 (checkV a))), by
 rintro args h e h' ⟨rfl, a, rfl, h1, rfl⟩
 exact ⟨gCheck_sem a h1 _, Hp.Le.refl _⟩⟩
theorem EgCheck_ans (a : List (List Int)) (h : Hp) (h1 : a.length < 4611686018427387904) : EgCheck.ans [irows a] h = some (.ret (.flat (.int .i64 (checkV a))), h) :=
 Entry.one ⟨rfl, a, rfl, h1, rfl⟩ fun e h' ⟨hh, a', ha, _, he⟩ => by simp only [kI, irows_eq] at ha; subst ha; exact ⟨he, hh⟩
end Go.Proofs.Ytllocgmbjjoemaa.Iv
end
section
set_option maxHeartbeats 8000000
set_option linter.unusedVariables false
set_option linter.unusedSimpArgs false
set_option maxRecDepth 10000
namespace Go.Proofs.Ytllocgmbjjoemaa.Iv
open Go Go.Iv Go.RowKit Go.Proofs.Ytllocgmbjjoemaa.Nv
open Dg (bl)
noncomputable def EsOf : Entry Try.prog := ⟨68, fun args h e h' => h' = h ∧ ∃ (n : Nat), args = [.flat (.int .u64 (n : Int))] ∧ (n < 18446744073709551616) ∧ e = .ret (rnav n), by
 rintro args h e h' ⟨rfl, n, rfl, h1, rfl⟩
 exact ⟨sOf_sem n h1 _, Hp.Le.refl _⟩⟩
theorem EsOf_ans (n : Nat) (h : Hp) (h1 : n < 18446744073709551616) : EsOf.ans [.flat (.int .u64 (n : Int))] h = some (.ret (rnav n), h) :=
 Entry.one ⟨rfl, n, rfl, h1, rfl⟩ fun e h' ⟨hh, n', ha, _, he⟩ => by simp only [kI, rnav_eq, rzav_eq] at ha; subst ha; exact ⟨he, hh⟩
noncomputable def EsCmp : Entry Try.prog := ⟨75, fun args h e h' => h' = h ∧ ∃ (a b : Nat), args = [rnav a, rnav b] ∧ (bl a ≤ 16000) ∧ (bl b ≤ 16000) ∧ e = .ret (.flat (.int .i64 (Dg.cmp a b))), by
 rintro args h e h' ⟨rfl, a, b, rfl, h1, h2, rfl⟩
 exact ⟨sCmp_sem a b h1 h2 _, Hp.Le.refl _⟩⟩
theorem EsCmp_ans (a b : Nat) (h : Hp) (h1 : bl a ≤ 16000) (h2 : bl b ≤ 16000) : EsCmp.ans [rnav a, rnav b] h = some (.ret (.flat (.int .i64 (Dg.cmp a b))), h) :=
 Entry.one ⟨rfl, a, b, rfl, h1, h2, rfl⟩ fun e h' ⟨hh, a', b', ha, _, _, he⟩ => by simp only [kI, rnav_eq, rzav_eq] at ha; obtain ⟨rfl, rfl⟩ := ha; exact ⟨he, hh⟩
noncomputable def EsAdd : Entry Try.prog := ⟨74, fun args h e h' => h' = h ∧ ∃ (a b : Nat), args = [rnav a, rnav b] ∧ (bl a ≤ 16000) ∧ (bl b ≤ 16000) ∧ e = .ret (rnav (a + b)), by
 rintro args h e h' ⟨rfl, a, b, rfl, h1, h2, rfl⟩
 exact ⟨sAdd_sem a b h1 h2 _, Hp.Le.refl _⟩⟩
theorem EsAdd_ans (a b : Nat) (h : Hp) (h1 : bl a ≤ 16000) (h2 : bl b ≤ 16000) : EsAdd.ans [rnav a, rnav b] h = some (.ret (rnav (a + b)), h) :=
 Entry.one ⟨rfl, a, b, rfl, h1, h2, rfl⟩ fun e h' ⟨hh, a', b', ha, _, _, he⟩ => by simp only [kI, rnav_eq, rzav_eq] at ha; obtain ⟨rfl, rfl⟩ := ha; exact ⟨he, hh⟩
noncomputable def EsSub : Entry Try.prog := ⟨76, fun args h e h' => h' = h ∧ ∃ (a b : Nat), args = [rnav a, rnav b] ∧ (bl a ≤ 16000) ∧ (bl b ≤ 16000) ∧ (b ≤ a) ∧ e = .ret (rnav (a - b)), by
 rintro args h e h' ⟨rfl, a, b, rfl, h1, h2, h3, rfl⟩
 exact ⟨sSub_sem a b h1 h2 h3 _, Hp.Le.refl _⟩⟩
theorem EsSub_ans (a b : Nat) (h : Hp) (h1 : bl a ≤ 16000) (h2 : bl b ≤ 16000) (h3 : b ≤ a) : EsSub.ans [rnav a, rnav b] h = some (.ret (rnav (a - b)), h) :=
 Entry.one ⟨rfl, a, b, rfl, h1, h2, h3, rfl⟩ fun e h' ⟨hh, a', b', ha, _, _, _, he⟩ => by simp only [kI, rnav_eq, rzav_eq] at ha; obtain ⟨rfl, rfl⟩ := ha; exact ⟨he, hh⟩
noncomputable def EsMul : Entry Try.prog := ⟨72, fun args h e h' => h' = h ∧ ∃ (a b : Nat), args = [rnav a, rnav b] ∧ (bl a ≤ 10000) ∧ (bl b ≤ 10000) ∧ e = .ret (rnav (a * b)), by
 rintro args h e h' ⟨rfl, a, b, rfl, h1, h2, rfl⟩
 exact ⟨sMul_sem a b h1 h2 _, Hp.Le.refl _⟩⟩
theorem EsMul_ans (a b : Nat) (h : Hp) (h1 : bl a ≤ 10000) (h2 : bl b ≤ 10000) : EsMul.ans [rnav a, rnav b] h = some (.ret (rnav (a * b)), h) :=
 Entry.one ⟨rfl, a, b, rfl, h1, h2, rfl⟩ fun e h' ⟨hh, a', b', ha, _, _, he⟩ => by simp only [kI, rnav_eq, rzav_eq] at ha; obtain ⟨rfl, rfl⟩ := ha; exact ⟨he, hh⟩
noncomputable def EsDiv : Entry Try.prog := ⟨73, fun args h e h' => h' = h ∧ ∃ (a b : Nat), args = [rnav a, rnav b] ∧ (bl a ≤ 4000) ∧ (bl b ≤ 4000) ∧ (0 < b) ∧ e = .ret (.tuple [rnav (a / b), rnav (a % b)]), by
 rintro args h e h' ⟨rfl, a, b, rfl, h1, h2, h3, rfl⟩
 exact ⟨sDiv_sem a b h1 h2 h3 _, Hp.Le.refl _⟩⟩
theorem EsDiv_ans (a b : Nat) (h : Hp) (h1 : bl a ≤ 4000) (h2 : bl b ≤ 4000) (h3 : 0 < b) : EsDiv.ans [rnav a, rnav b] h = some (.ret (.tuple [rnav (a / b), rnav (a % b)]), h) :=
 Entry.one ⟨rfl, a, b, rfl, h1, h2, h3, rfl⟩ fun e h' ⟨hh, a', b', ha, _, _, _, he⟩ => by simp only [kI, rnav_eq, rzav_eq] at ha; obtain ⟨rfl, rfl⟩ := ha; exact ⟨he, hh⟩
theorem rnav_cells (n : Nat) : AV.cells (rnav n) = [rnav n] := rfl
theorem edg_pos (n : Nat) : (0 : Int) < ((Eg.dg n).length : Int) ↔ n ≠ 0 := by
 constructor
 ·intro h e
  subst e
  simp [Eg.dg_zero] at h
 ·intro h
  have := Eg.dg_ge n 0 (by simp; omega)
  omega
theorem rnav_len (n : Nat) : evLen tab 57 (rnav n) = some (.flat (.int .i64 ((Eg.dg n).length : Int))) := by
 simp only [rnav, dgs, len_isl, ty57]
theorem fOf_sem (n : Int) (h1 : -9223372036854775808 ≤ n) (h2 : n < 9223372036854775808) (h : Hp) : SemCall Try.prog 54 [.flat (.int .i64 n)] h (.ret (rzav n)) h := by
 refine sem_pure tables.ok Try.func54 rfl rfl rfl rfl rfl (rzav_pure _) ?_ h
 have B : Base Try.prog tab _ := tabL_base [EsOf] tables.ok mixed
 generalize hL : tabL [EsOf] = call at B
 have c_EsOf : ∀ a h, call 68 a h = EsOf.ans a h := fun _ _ => hL ▸ rfl
 clear hL
 unfold Try.f54 bodyOf entry; simp only [Option.getD_some, List.length_cons, List.length_nil, Nat.reduceAdd, Nat.reduceSub]
 by_cases hn : n < 0
 ·have e1 : fwrap .u64 (0 - fwrap .u64 n) = (n.natAbs : Int) := by
    rw [fwrap_eq, fwrap_eq, IntKind.wrap_u64, IntKind.wrap_u64]; omega
  have d1 : decide (n < 0) = true := decide_eq_true hn
  repeat (first
   | refine wp_seqQ ?_ | refine wp_blockQ ?_ | refine wp_scopeQ ?_
   | ((first | refine wp_skipQ ?_ | refine wp_labelQ ?_ | refine wp_exitQ ?_ | refine wp_retQ ?_); simp only [kQ, Nat.reduceEqDiff, reduceIte])
   | (refine wp_reg B ?_; simp (disch := omega) only [kW, Nat.reduceEqDiff, reduceIte, Nat.reduceLT, Nat.reduceLeDiff, Nat.reduceAdd, Nat.reduceSub, Nat.reduceMul, Nat.reducePow, Nat.reduceDiv, Nat.reduceMod, evIndexAddr, TD.agg, evFieldAddr, binA_eqB ty4, binA_neB ty4, ty2, ty4, ty57, ty59, ty80, ty92, fn68, c_EsOf, EsOf_ans, e1, rzav_cells, rnav_one, rnav_clean])
   | refine wp_condT rfl ?_ | refine wp_condF rfl ?_)
  simp (disch := omega) only [kS, Nat.reduceEqDiff, reduceIte, Nat.reduceLT, Nat.reduceLeDiff, Nat.reduceAdd, Nat.reduceSub, Nat.reduceMul, Nat.reducePow, Nat.reduceDiv, Nat.reduceMod, evIndexAddr, TD.agg, evFieldAddr, binA_eqB ty4, binA_neB ty4, ty2, ty4, ty57, ty59, ty80, ty92, fn68, c_EsOf, EsOf_ans]
  first | rw [rzav] | skip
  all_goals simp [rzav, zs, rzm, hn]
 ·have e1 : fwrap .u64 n = (n.natAbs : Int) := by
    rw [fwrap_eq, IntKind.wrap_u64]; omega
  repeat (first
   | refine wp_seqQ ?_ | refine wp_blockQ ?_ | refine wp_scopeQ ?_
   | ((first | refine wp_skipQ ?_ | refine wp_labelQ ?_ | refine wp_exitQ ?_ | refine wp_retQ ?_); simp only [kQ, Nat.reduceEqDiff, reduceIte])
   | (refine wp_reg B ?_; simp (disch := omega) only [kW, Nat.reduceEqDiff, reduceIte, Nat.reduceLT, Nat.reduceLeDiff, Nat.reduceAdd, Nat.reduceSub, Nat.reduceMul, Nat.reducePow, Nat.reduceDiv, Nat.reduceMod, evIndexAddr, TD.agg, evFieldAddr, binA_eqB ty4, binA_neB ty4, ty2, ty4, ty57, ty59, ty80, ty92, fn68, c_EsOf, EsOf_ans, e1, rzav_cells, rnav_one, rnav_clean])
   | refine wp_condT rfl ?_ | refine wp_condF rfl ?_)
  simp (disch := omega) only [kS, Nat.reduceEqDiff, reduceIte, Nat.reduceLT, Nat.reduceLeDiff, Nat.reduceAdd, Nat.reduceSub, Nat.reduceMul, Nat.reducePow, Nat.reduceDiv, Nat.reduceMod, evIndexAddr, TD.agg, evFieldAddr, binA_eqB ty4, binA_neB ty4, ty2, ty4, ty57, ty59, ty80, ty92, fn68, c_EsOf, EsOf_ans]
  all_goals simp [rzav, zs, rzm, hn]
noncomputable def EfOf : Entry Try.prog := ⟨54, fun args h e h' => h' = h ∧ ∃ (n : Int), args = [.flat (.int .i64 n)] ∧ (-9223372036854775808 ≤ n) ∧ (n < 9223372036854775808) ∧ e = .ret (rzav n), by
 rintro args h e h' ⟨rfl, n, rfl, h1, h2, rfl⟩
 exact ⟨fOf_sem n h1 h2 _, Hp.Le.refl _⟩⟩
theorem EfOf_ans (n : Int) (h : Hp) (h1 : -9223372036854775808 ≤ n) (h2 : n < 9223372036854775808) : EfOf.ans [.flat (.int .i64 n)] h = some (.ret (rzav n), h) :=
 Entry.one ⟨rfl, n, rfl, h1, h2, rfl⟩ fun e h' ⟨hh, n', ha, _, _, he⟩ => by simp only [kI, rnav_eq, rzav_eq] at ha; subst ha; exact ⟨he, hh⟩
theorem rz_eq {s : Bool} {n : Nat} {z : Int} (h1 : z.natAbs = n) (h2 : s = decide (z < 0)) : AV.agg [.flat (.bool s), rnav n] = rzav z := by
 subst h1 h2; rfl
theorem fNeg_sem (x : Int) (h : Hp) : SemCall Try.prog 67 [rzav x] h (.ret (rzav (-x))) h := by
 refine sem_pure tables.ok Try.func67 rfl rfl rfl rfl (by simp [pureL, rzav_pure]) (rzav_pure _) ?_ h
 have B := base0
 unfold Try.f67 bodyOf entry; simp only [Option.getD_some, List.length_cons, List.length_nil, Nat.reduceAdd, Nat.reduceSub]
 have hp := edg_pos x.natAbs
 by_cases hx : x < 0
 ·repeat (first
    | refine wp_seqQ ?_ | refine wp_blockQ ?_ | refine wp_scopeQ ?_
    | ((first | refine wp_skipQ ?_ | refine wp_labelQ ?_ | refine wp_exitQ ?_ | refine wp_retQ ?_); simp only [kQ, Nat.reduceEqDiff, reduceIte])
    | (refine wp_reg B ?_; simp (disch := omega) only [kW, Nat.reduceEqDiff, reduceIte, Nat.reduceLT, Nat.reduceLeDiff, Nat.reduceAdd, Nat.reduceSub, Nat.reduceMul, Nat.reducePow, Nat.reduceDiv, Nat.reduceMod, evIndexAddr, TD.agg, evFieldAddr, binA_eqB ty4, binA_neB ty4, ty3, ty4, ty57, ty59, ty92, rzav_cells, rnav_one, rnav_clean, rnav_len])
    | refine wp_condT rfl ?_ | refine wp_condF rfl ?_)
  simp (disch := omega) only [kS, Nat.reduceEqDiff, reduceIte, Nat.reduceLT, Nat.reduceLeDiff, Nat.reduceAdd, Nat.reduceSub, Nat.reduceMul, Nat.reducePow, Nat.reduceDiv, Nat.reduceMod, evIndexAddr, TD.agg, evFieldAddr, binA_eqB ty4, binA_neB ty4, ty3, ty4, ty57, ty59, ty92]
  rw [rz_eq (z := -x) (by omega) (by rw [decide_eq_false (by omega)])]
 ·by_cases h0 : x = 0
  ·have hl : ¬ (0 : Int) < ((Eg.dg x.natAbs).length : Int) := by rw [hp]; omega
   repeat (first
    | refine wp_seqQ ?_ | refine wp_blockQ ?_ | refine wp_scopeQ ?_
    | ((first | refine wp_skipQ ?_ | refine wp_labelQ ?_ | refine wp_exitQ ?_ | refine wp_retQ ?_); simp only [kQ, Nat.reduceEqDiff, reduceIte])
    | (refine wp_reg B ?_; simp (disch := omega) only [kW, Nat.reduceEqDiff, reduceIte, Nat.reduceLT, Nat.reduceLeDiff, Nat.reduceAdd, Nat.reduceSub, Nat.reduceMul, Nat.reducePow, Nat.reduceDiv, Nat.reduceMod, evIndexAddr, TD.agg, evFieldAddr, binA_eqB ty4, binA_neB ty4, ty3, ty4, ty57, ty59, ty92, rzav_cells, rnav_one, rnav_clean, rnav_len])
    | refine wp_condT rfl ?_ | refine wp_condF rfl ?_)
   simp (disch := omega) only [kS, Nat.reduceEqDiff, reduceIte, Nat.reduceLT, Nat.reduceLeDiff, Nat.reduceAdd, Nat.reduceSub, Nat.reduceMul, Nat.reducePow, Nat.reduceDiv, Nat.reduceMod, evIndexAddr, TD.agg, evFieldAddr, binA_eqB ty4, binA_neB ty4, ty3, ty4, ty57, ty59, ty92]
   rw [rz_eq (z := -x) (by omega) (by rw [decide_eq_false (by omega)])]
  ·have hl : (0 : Int) < ((Eg.dg x.natAbs).length : Int) := by rw [hp]; omega
   repeat (first
    | refine wp_seqQ ?_ | refine wp_blockQ ?_ | refine wp_scopeQ ?_
    | ((first | refine wp_skipQ ?_ | refine wp_labelQ ?_ | refine wp_exitQ ?_ | refine wp_retQ ?_); simp only [kQ, Nat.reduceEqDiff, reduceIte])
    | (refine wp_reg B ?_; simp (disch := omega) only [kW, Nat.reduceEqDiff, reduceIte, Nat.reduceLT, Nat.reduceLeDiff, Nat.reduceAdd, Nat.reduceSub, Nat.reduceMul, Nat.reducePow, Nat.reduceDiv, Nat.reduceMod, evIndexAddr, TD.agg, evFieldAddr, binA_eqB ty4, binA_neB ty4, ty3, ty4, ty57, ty59, ty92, rzav_cells, rnav_one, rnav_clean, rnav_len])
    | refine wp_condT rfl ?_ | refine wp_condF rfl ?_)
   simp (disch := omega) only [kS, Nat.reduceEqDiff, reduceIte, Nat.reduceLT, Nat.reduceLeDiff, Nat.reduceAdd, Nat.reduceSub, Nat.reduceMul, Nat.reducePow, Nat.reduceDiv, Nat.reduceMod, evIndexAddr, TD.agg, evFieldAddr, binA_eqB ty4, binA_neB ty4, ty3, ty4, ty57, ty59, ty92]
   rw [rz_eq (z := -x) (by omega) (by rw [decide_eq_true (by omega)])]
noncomputable def EfNeg : Entry Try.prog := ⟨67, fun args h e h' => h' = h ∧ ∃ (x : Int), args = [rzav x] ∧ e = .ret (rzav (-x)), by
 rintro args h e h' ⟨rfl, x, rfl, rfl⟩
 exact ⟨fNeg_sem x _, Hp.Le.refl _⟩⟩
theorem EfNeg_ans (x : Int) (h : Hp)  : EfNeg.ans [rzav x] h = some (.ret (rzav (-x)), h) :=
 Entry.one ⟨rfl, x, rfl, rfl⟩ fun e h' ⟨hh, x', ha, he⟩ => by simp only [kI, rnav_eq, rzav_eq] at ha; subst ha; exact ⟨he, hh⟩
theorem fMul_sem (x y : Int) (lx : bl x.natAbs ≤ 10000) (ly : bl y.natAbs ≤ 10000) (h : Hp) : SemCall Try.prog 64 [rzav x, rzav y] h (.ret (rzav (x * y))) h := by
 refine sem_pure tables.ok Try.func64 rfl rfl rfl rfl (by simp [pureL, rzav_pure]) (rzav_pure _) ?_ h
 have B : Base Try.prog tab _ := tabL_base [EsMul] tables.ok mixed
 generalize hL : tabL [EsMul] = call at B
 have c_EsMul : ∀ a h, call 72 a h = EsMul.ans a h := fun _ _ => hL ▸ rfl
 clear hL
 unfold Try.f64 bodyOf entry; simp only [Option.getD_some, List.length_cons, List.length_nil, Nat.reduceAdd, Nat.reduceSub]
 have hp := edg_pos (x.natAbs * y.natAbs)
 have hm := Int.natAbs_mul x y
 by_cases hs : (x < 0 ↔ y < 0)
 ·have e1 : (decide (x < 0) == decide (y < 0)) = true := by rw [beq_iff_eq, decide_eq_decide]; exact hs
  have hz : ¬ x * y < 0 := by
   by_cases hx : x < 0
   ·have := Int.mul_pos_of_neg_of_neg hx (hs.1 hx); omega
   ·have := Int.mul_nonneg (show 0 ≤ x by omega) (show 0 ≤ y by omega); omega
  repeat (first
   | refine wp_seqQ ?_ | refine wp_blockQ ?_ | refine wp_scopeQ ?_
   | ((first | refine wp_skipQ ?_ | refine wp_labelQ ?_ | refine wp_exitQ ?_ | refine wp_retQ ?_); simp only [kQ, Nat.reduceEqDiff, reduceIte])
   | (refine wp_reg B ?_; simp (disch := omega) only [kW, Nat.reduceEqDiff, reduceIte, Nat.reduceLT, Nat.reduceLeDiff, Nat.reduceAdd, Nat.reduceSub, Nat.reduceMul, Nat.reducePow, Nat.reduceDiv, Nat.reduceMod, evIndexAddr, TD.agg, evFieldAddr, binA_eqB ty4, binA_neB ty4, ty3, ty4, ty57, ty59, ty92, fn72, c_EsMul, EsMul_ans, e1, rzav_cells, rnav_one, rnav_clean, rnav_len])
   | refine wp_condT rfl ?_ | refine wp_condF rfl ?_)
  simp (disch := omega) only [kS, Nat.reduceEqDiff, reduceIte, Nat.reduceLT, Nat.reduceLeDiff, Nat.reduceAdd, Nat.reduceSub, Nat.reduceMul, Nat.reducePow, Nat.reduceDiv, Nat.reduceMod, evIndexAddr, TD.agg, evFieldAddr, binA_eqB ty4, binA_neB ty4, ty3, ty4, ty57, ty59, ty92, fn72, c_EsMul, EsMul_ans]
  rw [rz_eq (z := x * y) hm (by rw [decide_eq_false hz])]
 ·have e1 : (decide (x < 0) == decide (y < 0)) = false := by rw [beq_eq_false_iff_ne, ne_eq, decide_eq_decide]; exact hs
  by_cases h0 : x.natAbs * y.natAbs = 0
  ·have hl : ¬ (0 : Int) < ((Eg.dg (x.natAbs * y.natAbs)).length : Int) := by rw [hp]; omega
   repeat (first
    | refine wp_seqQ ?_ | refine wp_blockQ ?_ | refine wp_scopeQ ?_
    | ((first | refine wp_skipQ ?_ | refine wp_labelQ ?_ | refine wp_exitQ ?_ | refine wp_retQ ?_); simp only [kQ, Nat.reduceEqDiff, reduceIte])
    | (refine wp_reg B ?_; simp (disch := omega) only [kW, Nat.reduceEqDiff, reduceIte, Nat.reduceLT, Nat.reduceLeDiff, Nat.reduceAdd, Nat.reduceSub, Nat.reduceMul, Nat.reducePow, Nat.reduceDiv, Nat.reduceMod, evIndexAddr, TD.agg, evFieldAddr, binA_eqB ty4, binA_neB ty4, ty3, ty4, ty57, ty59, ty92, fn72, c_EsMul, EsMul_ans, e1, rzav_cells, rnav_one, rnav_clean, rnav_len])
    | refine wp_condT rfl ?_ | refine wp_condF rfl ?_)
   simp (disch := omega) only [kS, Nat.reduceEqDiff, reduceIte, Nat.reduceLT, Nat.reduceLeDiff, Nat.reduceAdd, Nat.reduceSub, Nat.reduceMul, Nat.reducePow, Nat.reduceDiv, Nat.reduceMod, evIndexAddr, TD.agg, evFieldAddr, binA_eqB ty4, binA_neB ty4, ty3, ty4, ty57, ty59, ty92, fn72, c_EsMul, EsMul_ans]
   rw [rz_eq (z := x * y) hm (by rw [decide_eq_false (by omega)])]
  ·have hl : (0 : Int) < ((Eg.dg (x.natAbs * y.natAbs)).length : Int) := by rw [hp]; exact h0
   have hz : x * y < 0 := by
    have h1 : x * y ≤ 0 := by
     by_cases hx : x < 0
     ·exact Int.mul_nonpos_of_nonpos_of_nonneg (by omega) (by omega)
     ·exact Int.mul_nonpos_of_nonneg_of_nonpos (by omega) (by omega)
    omega
   repeat (first
    | refine wp_seqQ ?_ | refine wp_blockQ ?_ | refine wp_scopeQ ?_
    | ((first | refine wp_skipQ ?_ | refine wp_labelQ ?_ | refine wp_exitQ ?_ | refine wp_retQ ?_); simp only [kQ, Nat.reduceEqDiff, reduceIte])
    | (refine wp_reg B ?_; simp (disch := omega) only [kW, Nat.reduceEqDiff, reduceIte, Nat.reduceLT, Nat.reduceLeDiff, Nat.reduceAdd, Nat.reduceSub, Nat.reduceMul, Nat.reducePow, Nat.reduceDiv, Nat.reduceMod, evIndexAddr, TD.agg, evFieldAddr, binA_eqB ty4, binA_neB ty4, ty3, ty4, ty57, ty59, ty92, fn72, c_EsMul, EsMul_ans, e1, rzav_cells, rnav_one, rnav_clean, rnav_len])
    | refine wp_condT rfl ?_ | refine wp_condF rfl ?_)
   simp (disch := omega) only [kS, Nat.reduceEqDiff, reduceIte, Nat.reduceLT, Nat.reduceLeDiff, Nat.reduceAdd, Nat.reduceSub, Nat.reduceMul, Nat.reducePow, Nat.reduceDiv, Nat.reduceMod, evIndexAddr, TD.agg, evFieldAddr, binA_eqB ty4, binA_neB ty4, ty3, ty4, ty57, ty59, ty92, fn72, c_EsMul, EsMul_ans]
   rw [rz_eq (z := x * y) hm (by rw [decide_eq_true hz])]
noncomputable def EfMul : Entry Try.prog := ⟨64, fun args h e h' => h' = h ∧ ∃ (x y : Int), args = [rzav x, rzav y] ∧ (bl x.natAbs ≤ 10000) ∧ (bl y.natAbs ≤ 10000) ∧ e = .ret (rzav (x * y)), by
 rintro args h e h' ⟨rfl, x, y, rfl, h1, h2, rfl⟩
 exact ⟨fMul_sem x y h1 h2 _, Hp.Le.refl _⟩⟩
theorem EfMul_ans (x y : Int) (h : Hp) (h1 : bl x.natAbs ≤ 10000) (h2 : bl y.natAbs ≤ 10000) : EfMul.ans [rzav x, rzav y] h = some (.ret (rzav (x * y)), h) :=
 Entry.one ⟨rfl, x, y, rfl, h1, h2, rfl⟩ fun e h' ⟨hh, x', y', ha, _, _, he⟩ => by simp only [kI, rnav_eq, rzav_eq] at ha; obtain ⟨rfl, rfl⟩ := ha; exact ⟨he, hh⟩
theorem fAdd_sem (x y : Int) (lx : bl x.natAbs ≤ 10000) (ly : bl y.natAbs ≤ 10000) (h : Hp) : SemCall Try.prog 66 [rzav x, rzav y] h (.ret (rzav (x + y))) h := by
 refine sem_pure tables.ok Try.func66 rfl rfl rfl rfl (by simp [pureL, rzav_pure]) (rzav_pure _) ?_ h
 have B : Base Try.prog tab _ := tabL_base [EsAdd, EsCmp, EsSub] tables.ok mixed
 generalize hL : tabL [EsAdd, EsCmp, EsSub] = call at B
 have c_EsAdd : ∀ a h, call 74 a h = EsAdd.ans a h := fun _ _ => hL ▸ rfl
 have c_EsCmp : ∀ a h, call 75 a h = EsCmp.ans a h := fun _ _ => hL ▸ rfl
 have c_EsSub : ∀ a h, call 76 a h = EsSub.ans a h := fun _ _ => hL ▸ rfl
 clear hL
 unfold Try.f66 bodyOf entry; simp only [Option.getD_some, List.length_cons, List.length_nil, Nat.reduceAdd, Nat.reduceSub]
 by_cases hs : (x < 0 ↔ y < 0)
 ·have e1 : (decide (x < 0) == decide (y < 0)) = true := by rw [beq_iff_eq, decide_eq_decide]; exact hs
  repeat (first
   | refine wp_seqQ ?_ | refine wp_blockQ ?_ | refine wp_scopeQ ?_
   | ((first | refine wp_skipQ ?_ | refine wp_labelQ ?_ | refine wp_exitQ ?_ | refine wp_retQ ?_); simp only [kQ, Nat.reduceEqDiff, reduceIte])
   | ((first | refine wp_dreg B (id := 2) [0, 1, 0, 4, 0, 16, 60, 127, 255] (by kernel_rfl) ?_ | refine wp_dreg B (id := 6) [0, 1, 0, 4, 0, 16, 60, 127, 255] (by kernel_rfl) ?_ | refine wp_reg B ?_); simp (disch := omega) only [kW, kG, Nat.reduceEqDiff, reduceIte, Nat.reduceLT, Nat.reduceLeDiff, Nat.reduceAdd, Nat.reduceSub, Nat.reduceMul, Nat.reducePow, Nat.reduceDiv, Nat.reduceMod, evIndexAddr, TD.agg, evFieldAddr, binA_eqB ty4, binA_neB ty4, ty3, ty4, ty57, ty59, ty92, fn74, fn75, fn76, c_EsAdd, EsAdd_ans, c_EsCmp, EsCmp_ans, c_EsSub, EsSub_ans, e1, rzav_cells, rnav_cells, rnav_one, rnav_clean])
   | refine wp_condT rfl ?_ | refine wp_condF rfl ?_)
  simp (disch := omega) only [kS, Nat.reduceEqDiff, reduceIte, Nat.reduceLT, Nat.reduceLeDiff, Nat.reduceAdd, Nat.reduceSub, Nat.reduceMul, Nat.reducePow, Nat.reduceDiv, Nat.reduceMod, evIndexAddr, TD.agg, evFieldAddr, binA_eqB ty4, binA_neB ty4, ty3, ty4, ty57, ty59, ty92, fn74, fn75, fn76, c_EsAdd, EsAdd_ans, c_EsCmp, EsCmp_ans, c_EsSub, EsSub_ans]
  by_cases h0 : x < 0 ∧ x + y = 0
  ·omega
  ·rw [rz_eq (z := x + y) (by omega) (by rw [decide_eq_decide]; omega)]
 ·have e1 : (decide (x < 0) == decide (y < 0)) = false := by rw [beq_eq_false_iff_ne, ne_eq, decide_eq_decide]; exact hs
  have hc : (0 : Int) ≤ Dg.cmp x.natAbs y.natAbs ↔ y.natAbs ≤ x.natAbs := by
   unfold Dg.cmp
   split
   ·omega
   ·split <;> omega
  by_cases hge : y.natAbs ≤ x.natAbs
  ·have hp := edg_pos (x.natAbs - y.natAbs)
   have hcg := hc.2 hge
   by_cases hx : x < 0
   ·by_cases h0 : x.natAbs = y.natAbs
    ·have hl : ¬ (0 : Int) < ((Eg.dg (x.natAbs - y.natAbs)).length : Int) := by rw [hp]; omega
     repeat (first
      | refine wp_seqQ ?_ | refine wp_blockQ ?_ | refine wp_scopeQ ?_
      | ((first | refine wp_skipQ ?_ | refine wp_labelQ ?_ | refine wp_exitQ ?_ | refine wp_retQ ?_); simp only [kQ, Nat.reduceEqDiff, reduceIte])
      | ((first | refine wp_dreg B (id := 2) [0, 1, 0, 4, 0, 16, 60, 127, 255] (by kernel_rfl) ?_ | refine wp_dreg B (id := 6) [0, 1, 0, 4, 0, 16, 60, 127, 255] (by kernel_rfl) ?_ | refine wp_reg B ?_); simp (disch := omega) only [kW, kG, Nat.reduceEqDiff, reduceIte, Nat.reduceLT, Nat.reduceLeDiff, Nat.reduceAdd, Nat.reduceSub, Nat.reduceMul, Nat.reducePow, Nat.reduceDiv, Nat.reduceMod, evIndexAddr, TD.agg, evFieldAddr, binA_eqB ty4, binA_neB ty4, ty3, ty4, ty57, ty59, ty92, fn74, fn75, fn76, c_EsAdd, EsAdd_ans, c_EsCmp, EsCmp_ans, c_EsSub, EsSub_ans, e1, rzav_cells, rnav_cells, rnav_one, rnav_clean, rnav_len])
      | refine wp_condT rfl ?_ | refine wp_condF rfl ?_)
     simp (disch := omega) only [kS, Nat.reduceEqDiff, reduceIte, Nat.reduceLT, Nat.reduceLeDiff, Nat.reduceAdd, Nat.reduceSub, Nat.reduceMul, Nat.reducePow, Nat.reduceDiv, Nat.reduceMod, evIndexAddr, TD.agg, evFieldAddr, binA_eqB ty4, binA_neB ty4, ty3, ty4, ty57, ty59, ty92, fn74, fn75, fn76, c_EsAdd, EsAdd_ans, c_EsCmp, EsCmp_ans, c_EsSub, EsSub_ans]
     rw [rz_eq (z := x + y) (by omega) (by rw [decide_eq_false (by omega)])]
    ·have hl : (0 : Int) < ((Eg.dg (x.natAbs - y.natAbs)).length : Int) := by rw [hp]; omega
     repeat (first
      | refine wp_seqQ ?_ | refine wp_blockQ ?_ | refine wp_scopeQ ?_
      | ((first | refine wp_skipQ ?_ | refine wp_labelQ ?_ | refine wp_exitQ ?_ | refine wp_retQ ?_); simp only [kQ, Nat.reduceEqDiff, reduceIte])
      | ((first | refine wp_dreg B (id := 2) [0, 1, 0, 4, 0, 16, 60, 127, 255] (by kernel_rfl) ?_ | refine wp_dreg B (id := 6) [0, 1, 0, 4, 0, 16, 60, 127, 255] (by kernel_rfl) ?_ | refine wp_reg B ?_); simp (disch := omega) only [kW, kG, Nat.reduceEqDiff, reduceIte, Nat.reduceLT, Nat.reduceLeDiff, Nat.reduceAdd, Nat.reduceSub, Nat.reduceMul, Nat.reducePow, Nat.reduceDiv, Nat.reduceMod, evIndexAddr, TD.agg, evFieldAddr, binA_eqB ty4, binA_neB ty4, ty3, ty4, ty57, ty59, ty92, fn74, fn75, fn76, c_EsAdd, EsAdd_ans, c_EsCmp, EsCmp_ans, c_EsSub, EsSub_ans, e1, rzav_cells, rnav_cells, rnav_one, rnav_clean, rnav_len])
      | refine wp_condT rfl ?_ | refine wp_condF rfl ?_)
     simp (disch := omega) only [kS, Nat.reduceEqDiff, reduceIte, Nat.reduceLT, Nat.reduceLeDiff, Nat.reduceAdd, Nat.reduceSub, Nat.reduceMul, Nat.reducePow, Nat.reduceDiv, Nat.reduceMod, evIndexAddr, TD.agg, evFieldAddr, binA_eqB ty4, binA_neB ty4, ty3, ty4, ty57, ty59, ty92, fn74, fn75, fn76, c_EsAdd, EsAdd_ans, c_EsCmp, EsCmp_ans, c_EsSub, EsSub_ans]
     rw [rz_eq (z := x + y) (by omega) (by rw [decide_eq_true (by omega)])]
   ·repeat (first
      | refine wp_seqQ ?_ | refine wp_blockQ ?_ | refine wp_scopeQ ?_
      | ((first | refine wp_skipQ ?_ | refine wp_labelQ ?_ | refine wp_exitQ ?_ | refine wp_retQ ?_); simp only [kQ, Nat.reduceEqDiff, reduceIte])
      | ((first | refine wp_dreg B (id := 2) [0, 1, 0, 4, 0, 16, 60, 127, 255] (by kernel_rfl) ?_ | refine wp_dreg B (id := 6) [0, 1, 0, 4, 0, 16, 60, 127, 255] (by kernel_rfl) ?_ | refine wp_reg B ?_); simp (disch := omega) only [kW, kG, Nat.reduceEqDiff, reduceIte, Nat.reduceLT, Nat.reduceLeDiff, Nat.reduceAdd, Nat.reduceSub, Nat.reduceMul, Nat.reducePow, Nat.reduceDiv, Nat.reduceMod, evIndexAddr, TD.agg, evFieldAddr, binA_eqB ty4, binA_neB ty4, ty3, ty4, ty57, ty59, ty92, fn74, fn75, fn76, c_EsAdd, EsAdd_ans, c_EsCmp, EsCmp_ans, c_EsSub, EsSub_ans, e1, rzav_cells, rnav_cells, rnav_one, rnav_clean, rnav_len])
      | refine wp_condT rfl ?_ | refine wp_condF rfl ?_)
    simp (disch := omega) only [kS, Nat.reduceEqDiff, reduceIte, Nat.reduceLT, Nat.reduceLeDiff, Nat.reduceAdd, Nat.reduceSub, Nat.reduceMul, Nat.reducePow, Nat.reduceDiv, Nat.reduceMod, evIndexAddr, TD.agg, evFieldAddr, binA_eqB ty4, binA_neB ty4, ty3, ty4, ty57, ty59, ty92, fn74, fn75, fn76, c_EsAdd, EsAdd_ans, c_EsCmp, EsCmp_ans, c_EsSub, EsSub_ans]
    rw [rz_eq (z := x + y) (by omega) (by rw [decide_eq_false (by omega)])]
  ·have hcg : ¬ (0 : Int) ≤ Dg.cmp x.natAbs y.natAbs := fun k => hge (hc.1 k)
   repeat (first
    | refine wp_seqQ ?_ | refine wp_blockQ ?_ | refine wp_scopeQ ?_
    | ((first | refine wp_skipQ ?_ | refine wp_labelQ ?_ | refine wp_exitQ ?_ | refine wp_retQ ?_); simp only [kQ, Nat.reduceEqDiff, reduceIte])
    | ((first | refine wp_dreg B (id := 2) [0, 1, 0, 4, 0, 16, 60, 127, 255] (by kernel_rfl) ?_ | refine wp_dreg B (id := 6) [0, 1, 0, 4, 0, 16, 60, 127, 255] (by kernel_rfl) ?_ | refine wp_reg B ?_); simp (disch := omega) only [kW, kG, Nat.reduceEqDiff, reduceIte, Nat.reduceLT, Nat.reduceLeDiff, Nat.reduceAdd, Nat.reduceSub, Nat.reduceMul, Nat.reducePow, Nat.reduceDiv, Nat.reduceMod, evIndexAddr, TD.agg, evFieldAddr, binA_eqB ty4, binA_neB ty4, ty3, ty4, ty57, ty59, ty92, fn74, fn75, fn76, c_EsAdd, EsAdd_ans, c_EsCmp, EsCmp_ans, c_EsSub, EsSub_ans, e1, rzav_cells, rnav_cells, rnav_one, rnav_clean, rnav_len])
    | refine wp_condT rfl ?_ | refine wp_condF rfl ?_)
   simp (disch := omega) only [kS, Nat.reduceEqDiff, reduceIte, Nat.reduceLT, Nat.reduceLeDiff, Nat.reduceAdd, Nat.reduceSub, Nat.reduceMul, Nat.reducePow, Nat.reduceDiv, Nat.reduceMod, evIndexAddr, TD.agg, evFieldAddr, binA_eqB ty4, binA_neB ty4, ty3, ty4, ty57, ty59, ty92, fn74, fn75, fn76, c_EsAdd, EsAdd_ans, c_EsCmp, EsCmp_ans, c_EsSub, EsSub_ans]
   rw [rz_eq (z := x + y) (by omega) (by rw [decide_eq_decide]; omega)]
noncomputable def EfAdd : Entry Try.prog := ⟨66, fun args h e h' => h' = h ∧ ∃ (x y : Int), args = [rzav x, rzav y] ∧ (bl x.natAbs ≤ 10000) ∧ (bl y.natAbs ≤ 10000) ∧ e = .ret (rzav (x + y)), by
 rintro args h e h' ⟨rfl, x, y, rfl, h1, h2, rfl⟩
 exact ⟨fAdd_sem x y h1 h2 _, Hp.Le.refl _⟩⟩
theorem EfAdd_ans (x y : Int) (h : Hp) (h1 : bl x.natAbs ≤ 10000) (h2 : bl y.natAbs ≤ 10000) : EfAdd.ans [rzav x, rzav y] h = some (.ret (rzav (x + y)), h) :=
 Entry.one ⟨rfl, x, y, rfl, h1, h2, rfl⟩ fun e h' ⟨hh, x', y', ha, _, _, he⟩ => by simp only [kI, rnav_eq, rzav_eq] at ha; obtain ⟨rfl, rfl⟩ := ha; exact ⟨he, hh⟩
theorem fExact_sem (x y z : Int) (lx : bl x.natAbs ≤ 4000) (ly : bl y.natAbs ≤ 4000) (y0 : y ≠ 0) (e : x = y * z) (h : Hp) : SemCall Try.prog 65 [rzav x, rzav y] h (.ret (rzav z)) h := by
 refine sem_pure tables.ok Try.func65 rfl rfl rfl rfl (by simp [pureL, rzav_pure]) (rzav_pure _) ?_ h
 have B : Base Try.prog tab _ := tabL_base [EsDiv] tables.ok mixed
 generalize hL : tabL [EsDiv] = call at B
 have c_EsDiv : ∀ a h, call 73 a h = EsDiv.ans a h := fun _ _ => hL ▸ rfl
 clear hL
 have k0 := fun h => EsDiv_ans x.natAbs y.natAbs h lx ly (by omega)
 have hq : x.natAbs / y.natAbs = z.natAbs := by
  rw [e, Int.natAbs_mul]
  exact Nat.mul_div_cancel_left _ (by omega)
 rw [hq] at k0
 generalize x.natAbs % y.natAbs = R at k0
 unfold Try.f65 bodyOf entry; simp only [Option.getD_some, List.length_cons, List.length_nil, Nat.reduceAdd, Nat.reduceSub]
 have hp := edg_pos z.natAbs
 by_cases h0 : z = 0
 ·have hl : ¬ (0 : Int) < ((Eg.dg z.natAbs).length : Int) := by rw [hp]; omega
  cases e1 : (decide (x < 0) == decide (y < 0)) with
  | true =>
   repeat (first
    | refine wp_seqQ ?_ | refine wp_blockQ ?_ | refine wp_scopeQ ?_
    | ((first | refine wp_skipQ ?_ | refine wp_labelQ ?_ | refine wp_exitQ ?_ | refine wp_retQ ?_); simp only [kQ, Nat.reduceEqDiff, reduceIte])
    | (refine wp_reg B ?_; simp (disch := omega) only [kW, Nat.reduceEqDiff, reduceIte, Nat.reduceLT, Nat.reduceLeDiff, Nat.reduceAdd, Nat.reduceSub, Nat.reduceMul, Nat.reducePow, Nat.reduceDiv, Nat.reduceMod, evIndexAddr, TD.agg, evFieldAddr, binA_eqB ty4, binA_neB ty4, ty3, ty4, ty57, ty59, ty92, fn73, c_EsDiv, EsDiv_ans, e1, k0, rzav_cells, rnav_one, rnav_clean, rnav_len])
    | refine wp_condT rfl ?_ | refine wp_condF rfl ?_)
   simp (disch := omega) only [kS, Nat.reduceEqDiff, reduceIte, Nat.reduceLT, Nat.reduceLeDiff, Nat.reduceAdd, Nat.reduceSub, Nat.reduceMul, Nat.reducePow, Nat.reduceDiv, Nat.reduceMod, evIndexAddr, TD.agg, evFieldAddr, binA_eqB ty4, binA_neB ty4, ty3, ty4, ty57, ty59, ty92, fn73, c_EsDiv, EsDiv_ans]
   rw [rz_eq (z := z) rfl (by rw [decide_eq_false (by omega)])]
  | false =>
   repeat (first
    | refine wp_seqQ ?_ | refine wp_blockQ ?_ | refine wp_scopeQ ?_
    | ((first | refine wp_skipQ ?_ | refine wp_labelQ ?_ | refine wp_exitQ ?_ | refine wp_retQ ?_); simp only [kQ, Nat.reduceEqDiff, reduceIte])
    | (refine wp_reg B ?_; simp (disch := omega) only [kW, Nat.reduceEqDiff, reduceIte, Nat.reduceLT, Nat.reduceLeDiff, Nat.reduceAdd, Nat.reduceSub, Nat.reduceMul, Nat.reducePow, Nat.reduceDiv, Nat.reduceMod, evIndexAddr, TD.agg, evFieldAddr, binA_eqB ty4, binA_neB ty4, ty3, ty4, ty57, ty59, ty92, fn73, c_EsDiv, EsDiv_ans, e1, k0, rzav_cells, rnav_one, rnav_clean, rnav_len])
    | refine wp_condT rfl ?_ | refine wp_condF rfl ?_)
   simp (disch := omega) only [kS, Nat.reduceEqDiff, reduceIte, Nat.reduceLT, Nat.reduceLeDiff, Nat.reduceAdd, Nat.reduceSub, Nat.reduceMul, Nat.reducePow, Nat.reduceDiv, Nat.reduceMod, evIndexAddr, TD.agg, evFieldAddr, binA_eqB ty4, binA_neB ty4, ty3, ty4, ty57, ty59, ty92, fn73, c_EsDiv, EsDiv_ans]
   rw [rz_eq (z := z) rfl (by rw [decide_eq_false (by omega)])]
 ·have hl : (0 : Int) < ((Eg.dg z.natAbs).length : Int) := by rw [hp]; omega
  have hsg : (x < 0 ↔ y < 0) ↔ 0 < z := by
   rcases Int.lt_or_gt_of_ne y0 with hy | hy
   ·rcases Int.lt_or_gt_of_ne h0 with hz | hz
    ·have := Int.mul_pos_of_neg_of_neg hy hz
     rw [← e] at this; omega
    ·have := Int.mul_neg_of_neg_of_pos hy hz
     rw [← e] at this; omega
   ·rcases Int.lt_or_gt_of_ne h0 with hz | hz
    ·have := Int.mul_neg_of_pos_of_neg hy hz
     rw [← e] at this; omega
    ·have := Int.mul_pos hy hz
     rw [← e] at this; omega
  by_cases hs : (x < 0 ↔ y < 0)
  ·have e1 : (decide (x < 0) == decide (y < 0)) = true := by rw [beq_iff_eq, decide_eq_decide]; exact hs
   have := hsg.1 hs
   repeat (first
    | refine wp_seqQ ?_ | refine wp_blockQ ?_ | refine wp_scopeQ ?_
    | ((first | refine wp_skipQ ?_ | refine wp_labelQ ?_ | refine wp_exitQ ?_ | refine wp_retQ ?_); simp only [kQ, Nat.reduceEqDiff, reduceIte])
    | (refine wp_reg B ?_; simp (disch := omega) only [kW, Nat.reduceEqDiff, reduceIte, Nat.reduceLT, Nat.reduceLeDiff, Nat.reduceAdd, Nat.reduceSub, Nat.reduceMul, Nat.reducePow, Nat.reduceDiv, Nat.reduceMod, evIndexAddr, TD.agg, evFieldAddr, binA_eqB ty4, binA_neB ty4, ty3, ty4, ty57, ty59, ty92, fn73, c_EsDiv, EsDiv_ans, e1, k0, rzav_cells, rnav_one, rnav_clean, rnav_len])
    | refine wp_condT rfl ?_ | refine wp_condF rfl ?_)
   simp (disch := omega) only [kS, Nat.reduceEqDiff, reduceIte, Nat.reduceLT, Nat.reduceLeDiff, Nat.reduceAdd, Nat.reduceSub, Nat.reduceMul, Nat.reducePow, Nat.reduceDiv, Nat.reduceMod, evIndexAddr, TD.agg, evFieldAddr, binA_eqB ty4, binA_neB ty4, ty3, ty4, ty57, ty59, ty92, fn73, c_EsDiv, EsDiv_ans]
   rw [rz_eq (z := z) rfl (by rw [decide_eq_false (by omega)])]
  ·have e1 : (decide (x < 0) == decide (y < 0)) = false := by rw [beq_eq_false_iff_ne, ne_eq, decide_eq_decide]; exact hs
   have : ¬ 0 < z := fun k => hs (hsg.2 k)
   repeat (first
    | refine wp_seqQ ?_ | refine wp_blockQ ?_ | refine wp_scopeQ ?_
    | ((first | refine wp_skipQ ?_ | refine wp_labelQ ?_ | refine wp_exitQ ?_ | refine wp_retQ ?_); simp only [kQ, Nat.reduceEqDiff, reduceIte])
    | (refine wp_reg B ?_; simp (disch := omega) only [kW, Nat.reduceEqDiff, reduceIte, Nat.reduceLT, Nat.reduceLeDiff, Nat.reduceAdd, Nat.reduceSub, Nat.reduceMul, Nat.reducePow, Nat.reduceDiv, Nat.reduceMod, evIndexAddr, TD.agg, evFieldAddr, binA_eqB ty4, binA_neB ty4, ty3, ty4, ty57, ty59, ty92, fn73, c_EsDiv, EsDiv_ans, e1, k0, rzav_cells, rnav_one, rnav_clean, rnav_len])
    | refine wp_condT rfl ?_ | refine wp_condF rfl ?_)
   simp (disch := omega) only [kS, Nat.reduceEqDiff, reduceIte, Nat.reduceLT, Nat.reduceLeDiff, Nat.reduceAdd, Nat.reduceSub, Nat.reduceMul, Nat.reducePow, Nat.reduceDiv, Nat.reduceMod, evIndexAddr, TD.agg, evFieldAddr, binA_eqB ty4, binA_neB ty4, ty3, ty4, ty57, ty59, ty92, fn73, c_EsDiv, EsDiv_ans]
   rw [rz_eq (z := z) rfl (by rw [decide_eq_true (by omega)])]
theorem ex_is {x y : Int} (h : x % y = 0) : x = y * (x / y) := (Int.mul_ediv_cancel' (Int.dvd_of_emod_eq_zero h)).symm
noncomputable def EfExact : Entry Try.prog := ⟨65, fun args h e h' => h' = h ∧ ∃ (x y : Int), args = [rzav x, rzav y] ∧ (bl x.natAbs ≤ 4000) ∧ (bl y.natAbs ≤ 4000) ∧ (y ≠ 0) ∧ (x % y = 0) ∧ e = .ret (rzav (x / y)), by
 rintro args h e h' ⟨rfl, x, y, rfl, h1, h2, h3, h4, rfl⟩
 exact ⟨fExact_sem x y (x / y) h1 h2 h3 (ex_is h4) _, Hp.Le.refl _⟩⟩
theorem EfExact_ans (x y : Int) (h : Hp) (h1 : bl x.natAbs ≤ 4000) (h2 : bl y.natAbs ≤ 4000) (h3 : y ≠ 0) (h4 : x % y = 0) : EfExact.ans [rzav x, rzav y] h = some (.ret (rzav (x / y)), h) :=
 Entry.one ⟨rfl, x, y, rfl, h1, h2, h3, h4, rfl⟩ fun e h' ⟨hh, x', y', ha, _, _, _, _, he⟩ => by simp only [kI, rnav_eq, rzav_eq] at ha; obtain ⟨rfl, rfl⟩ := ha; exact ⟨he, hh⟩
end Go.Proofs.Ytllocgmbjjoemaa.Iv
end
section
set_option maxHeartbeats 8000000
set_option linter.unusedVariables false
set_option linter.unusedSimpArgs false
set_option maxRecDepth 10000
namespace Go.Proofs.Ytllocgmbjjoemaa.Iv
open Go Go.Iv Go.RowKit Go.Proofs.Ytllocgmbjjoemaa.Nv
open Dg (bl)
open Dt (det mi)
def rl (n : Nat) (f : Nat → Int) : List AV := (List.range n).flatMap fun j => [zs (f j), rzm (f j)]
def rmat (n : Nat) (A : Nat → Nat → Int) : AV := .isl ((List.range n).map fun i => .isl (rl n (A i)) 2 0 n) 1 0 n
theorem rl_length (f : Nat → Int) : ∀ n, (rl n f).length = n * 2
 | 0 => rfl
 | n + 1 => by
  have := rl_length f n
  unfold rl at this ⊢
  rw [List.range_succ, List.flatMap_append, List.length_append, this]
  simp; omega
theorem rl_succ (f : Nat → Int) (n : Nat) : rl (n + 1) f = rl n f ++ [zs (f n), rzm (f n)] := by
 unfold rl
 rw [List.range_succ, List.flatMap_append]
 simp
theorem rl_at (f : Nat → Int) : ∀ n k, k < n → Ml.At (rl n f) k (zs (f k)) (rzm (f k))
 | 0, k, h => by omega
 | n + 1, k, h => by
  rw [rl_succ]
  by_cases e : k = n
  ·subst e
   exact Ml.At.last (rl_length f k) _ _
  ·exact (rl_at f n k (by omega)).append _
theorem rl_pure (f : Nat → Int) : ∀ n, pureL (rl n f) = true
 | 0 => rfl
 | n + 1 => by
  rw [rl_succ]
  have : ∀ (l m : List AV), pureL (l ++ m) = (pureL l && pureL m) := by
   intro l m
   induction l with
   | nil => rfl
   | cons x l ih => simp [pureL, ih, Bool.and_assoc]
  rw [this, rl_pure f n]
  simp [pureL, AV.pure, rnav_pure]
theorem rl_clean (f : Nat → Int) : ∀ n, allClean (rl n f) = true
 | 0 => rfl
 | n + 1 => by
  rw [rl_succ, allClean_append, rl_clean f n]
  rfl
theorem rmat_pure (n : Nat) (A : Nat → Nat → Int) : (rmat n A).pure = true := by
 simp only [rmat, AV.pure]
 exact pureL_map (fun i => by simp only [AV.pure]; exact rl_pure _ _) _
def Rws (h : Hp) (n i : Nat) (v : AV) (B : Nat) (ρ : Nat → Nat) (A : Nat → Nat → Int) : Prop := (i = 0 ∧ v = .flat (.slice none 0 0)) ∨
 (0 < i ∧ v = .slice B 0 i (.toEnd 1) ∧ h.m B = some (.cells ((List.range i).map fun x => .slice (ρ x) 0 n (.toEnd 2)) 89 true) ∧ B < h.next ∧
  (∀ x, x < i → h.m (ρ x) = some (.cells (rl n (A x)) 59 true) ∧ ρ x < h.next ∧ ρ x ≠ B) ∧ ∀ x y, x < i → y < i → ρ x = ρ y → x = y)
theorem Rws.keep {h h' : Hp} {n i : Nat} {v : AV} {B : Nat} {ρ : Nat → Nat} {A : Nat → Nat → Int} (k : Rws h n i v B ρ A) (hn : h.next ≤ h'.next) (hk : v = .slice B 0 i (.toEnd 1) → ∀ b, b < h.next → (b = B ∨ ∃ x, x < i ∧ b = ρ x) → h'.m b = h.m b) : Rws h' n i v B ρ A := by
 rcases k with k | ⟨h0, hv, h1, h2, h3, h4⟩
 ·exact .inl k
 ·refine .inr ⟨h0, hv, ?_, by omega, fun x hx => ?_, h4⟩
  ·rw [hk hv B h2 (.inl rfl)]; exact h1
  ·obtain ⟨a1, a2, a3⟩ := h3 x hx
   exact ⟨by rw [hk hv (ρ x) a2 (.inr ⟨x, hx, rfl⟩)]; exact a1, by omega, a3⟩
theorem Rws.lt {h : Hp} {n i : Nat} {v : AV} {B : Nat} {ρ : Nat → Nat} {A : Nat → Nat → Int} (k : Rws h n i v B ρ A) (hv : v = .slice B 0 i (.toEnd 1)) : B < h.next ∧ ∀ x, x < i → ρ x < h.next := by
 rcases k with ⟨_, k⟩ | ⟨_, _, _, h2, h3, _⟩
 ·rw [hv] at k; cases k
 ·exact ⟨h2, fun x hx => (h3 x hx).2.1⟩
theorem Rws.snoc {h h' : Hp} {n i : Nat} {v : AV} {B B' R : Nat} {ρ : Nat → Nat} {A : Nat → Nat → Int} (k : Rws h n i v B ρ A) (hn : h.next ≤ h'.next) (hR : h'.m R = some (.cells (rl n (A i)) 59 true)) (hR' : R < h'.next) (hB : B' < h'.next) (hRB : R ≠ B')
    (hne : v = .slice B 0 i (.toEnd 1) → ∀ x, x < i → R ≠ ρ x ∧ ρ x ≠ B') (hk : v = .slice B 0 i (.toEnd 1) → ∀ x, x < i → h'.m (ρ x) = h.m (ρ x))
    (top : h'.m B' = some (.cells (((List.range i).map fun x => .slice (ρ x) 0 n (.toEnd 2)) ++ [.slice R 0 n (.toEnd 2)]) 89 true)) : Rws h' n (i + 1) (.slice B' 0 (i + 1) (.toEnd 1)) B' (fun x => if x = i then R else ρ x) A := by
 have hx0 : ∀ x, x < i → v = .slice B 0 i (.toEnd 1) ∧ h.m (ρ x) = some (.cells (rl n (A x)) 59 true) ∧ ρ x < h.next := fun x hx => by
  rcases k with ⟨h0, _⟩ | ⟨_, hv, _, _, h3, _⟩
  ·omega
  ·exact ⟨hv, (h3 x hx).1, (h3 x hx).2.1⟩
 have hinj : ∀ x y, x < i → y < i → ρ x = ρ y → x = y := fun x y hx hy => by
  rcases k with ⟨h0, _⟩ | ⟨_, _, _, _, _, h4⟩
  ·omega
  ·exact h4 x y hx hy
 refine .inr ⟨by omega, rfl, ?_, hB, fun x hx => ?_, fun x y hx hy e => ?_⟩
 ·rw [top, List.range_succ, List.map_append]
  congr 3
  ·refine List.map_congr_left fun x hx => ?_
   have := List.mem_range.1 hx
   dsimp only
   rw [if_neg (by omega)]
  ·simp
 ·dsimp only
  by_cases e : x = i
  ·subst e; rw [if_pos rfl]; exact ⟨hR, hR', hRB⟩
  ·obtain ⟨a1, a2, a3⟩ := hx0 x (by omega)
   rw [if_neg e]
   exact ⟨by rw [hk a1 x (by omega)]; exact a2, by omega, (hne a1 x (by omega)).2⟩
 ·simp only at e
  by_cases e1 : x = i
  ·by_cases e2 : y = i
   ·omega
   ·rw [if_pos e1, if_neg e2] at e
    exact absurd e (hne (hx0 y (by omega)).1 y (by omega)).1
  ·by_cases e2 : y = i
   ·rw [if_neg e1, if_pos e2] at e
    exact absurd e.symm (hne (hx0 x (by omega)).1 x (by omega)).1
   ·rw [if_neg e1, if_neg e2] at e
    exact hinj x y (by omega) (by omega) e
def Rw1 (h : Hp) (j : Nat) (w : AV) (R : Nat) (f : Nat → Int) : Prop := (j = 0 ∧ w = .flat (.slice none 0 0)) ∨ (0 < j ∧ w = .slice R 0 j (.toEnd 2) ∧ h.m R = some (.cells (rl j f) 59 true) ∧ R < h.next)
theorem corner_sem (a : List (List Int)) (sq : Sq a) (hn : a.length ≤ 8) (hs : ∀ i j, i < a.length → j < a.length → -16384 ≤ ent a i j ∧ ent a i j ≤ 16384) (n : Nat) (hk : n ≤ a.length) (hk0 : 0 < n) (h : Hp) : SemCall Try.prog 45 [irows a, .flat (.int .i64 (n : Int))] h (.ret (rmat n (ent a))) h := by
 refine sem_pure tables.ok Try.func45 rfl rfl rfl rfl (by simp [pureL, irows_pure, AV.pure]) (rmat_pure _ _) ?_ h
 have B : Base Try.prog tab _ := tabL_base [EfOf] tables.ok mixed
 generalize hL : tabL [EfOf] = call at B
 have c_EfOf : ∀ a h, call 54 a h = EfOf.ans a h := fun _ _ => hL ▸ rfl
 clear hL
 unfold Try.f45 bodyOf entry; simp only [Option.getD_some, List.length_cons, List.length_nil, Nat.reduceAdd, Nat.reduceSub]
 repeat (first
  | refine wp_seqQ ?_ | refine wp_blockQ ?_ | refine wp_scopeQ ?_
  | ((first | refine wp_skipQ ?_ | refine wp_labelQ ?_ | refine wp_exitQ ?_ | refine wp_retQ ?_); simp only [kQ, Nat.reduceEqDiff, reduceIte])
  | (refine wp_reg B ?_; simp (disch := omega) only [kW, Nat.reduceEqDiff, reduceIte, Nat.reduceLT, Nat.reduceLeDiff, Nat.reduceAdd, Nat.reduceSub, Nat.reduceMul, Nat.reducePow, Nat.reduceDiv, Nat.reduceMod, evIndexAddr, TD.agg, evFieldAddr, binA_eqB ty4, binA_neB ty4, ty2, ty3, ty4, ty22, ty36, ty57, ty59, ty77, ty89, ty92, fn54, c_EfOf, EfOf_ans])
  | refine wp_condT rfl ?_ | refine wp_condF rfl ?_)
 refine wp_loopQ (fun k s => ∃ (i : Nat) (v : AV) (tm : Nat → Option AV) (h : Hp) (B : Nat) (ρ : Nat → Nat), s = ⟨tm, 35, h, []⟩ ∧ k = n - i ∧ i ≤ n ∧ tm 0 = some (irows a) ∧ tm 1 = some (.flat (.int .i64 (n : Int))) ∧ tm 5 = some v ∧ tm 6 = some (.flat (.int .i64 (i : Int))) ∧ Rws h n i v B ρ (ent a)) n ?_ ?_
 ·exact ⟨0, _, _, _, 0, fun _ => 0, rfl, rfl, Nat.zero_le _, rfl, rfl, rfl, rfl, .inl ⟨rfl, rfl⟩⟩
 ·rintro k s ⟨i, v, tm, h, Bk, ρ, rfl, rfl, hi, t0, t1, t5, t6, hR⟩
  repeat (first
   | refine wp_seqQ ?_ | refine wp_blockQ ?_ | refine wp_scopeQ ?_
   | ((first | refine wp_skipQ ?_ | refine wp_labelQ ?_ | refine wp_exitQ ?_ | refine wp_retQ ?_); simp only [kQ, Nat.reduceEqDiff, reduceIte])
   | (refine wp_reg B ?_; simp (disch := omega) only [kW, Nat.reduceEqDiff, reduceIte, Nat.reduceLT, Nat.reduceLeDiff, Nat.reduceAdd, Nat.reduceSub, Nat.reduceMul, Nat.reducePow, Nat.reduceDiv, Nat.reduceMod, evIndexAddr, TD.agg, evFieldAddr, binA_eqB ty4, binA_neB ty4, ty2, ty3, ty4, ty22, ty36, ty57, ty59, ty77, ty89, ty92, fn54, c_EfOf, EfOf_ans, t0, t1, t5, t6])
   | refine wp_condT rfl ?_ | refine wp_condF rfl ?_)
  refine wp_if rfl (fun ilt => ?_) (fun ige => ?_)
  ·have hin : i < n := by omega
   obtain ⟨r, g1, g2, _⟩ := sq.get (i := i) (j := 0) (by omega) (by omega)
   have g1 := irows_get g1
   repeat (first
    | refine wp_seqQ ?_ | refine wp_blockQ ?_ | refine wp_scopeQ ?_
    | ((first | refine wp_skipQ ?_ | refine wp_labelQ ?_ | refine wp_exitQ ?_ | refine wp_retQ ?_); simp only [kQ, Nat.reduceEqDiff, reduceIte])
    | (refine wp_reg B ?_; simp (disch := omega) only [kW, Nat.reduceEqDiff, reduceIte, Nat.reduceLT, Nat.reduceLeDiff, Nat.reduceAdd, Nat.reduceSub, Nat.reduceMul, Nat.reducePow, Nat.reduceDiv, Nat.reduceMod, evIndexAddr, TD.agg, evFieldAddr, binA_eqB ty4, binA_neB ty4, ty2, ty3, ty4, ty22, ty36, ty57, ty59, ty77, ty89, ty92, fn54, c_EfOf, EfOf_ans, t0, t1, t5, t6])
    | refine wp_condT rfl ?_ | refine wp_condF rfl ?_)
   refine wp_loopQ (fun k s => ∃ (j : Nat) (w : AV) (tm : Nat → Option AV) (h : Hp) (R : Nat), s = ⟨tm, 35, h, []⟩ ∧ k = n - j ∧ j ≤ n ∧ tm 0 = some (irows a) ∧ tm 1 = some (.flat (.int .i64 (n : Int))) ∧ tm 5 = some v ∧ tm 6 = some (.flat (.int .i64 (i : Int))) ∧ tm 7 = some w ∧ tm 8 = some (.flat (.int .i64 (j : Int))) ∧
    Rws h n i v Bk ρ (ent a) ∧ Rw1 h j w R (ent a i) ∧ (0 < j → v = .slice Bk 0 i (.toEnd 1) → R ≠ Bk ∧ ∀ x, x < i → R ≠ ρ x)) n ?_ ?_
   ·exact ⟨0, _, _, h, 0, rfl, rfl, Nat.zero_le _, t0, t1, t5, t6, rfl, rfl, hR, .inl ⟨rfl, rfl⟩, fun k => by omega⟩
   ·rintro k s ⟨j, w, tm, h, R, rfl, rfl, hj, t0, t1, t5, t6, t7, t8, hR, hw, hne⟩
    repeat (first
     | refine wp_seqQ ?_ | refine wp_blockQ ?_ | refine wp_scopeQ ?_
     | ((first | refine wp_skipQ ?_ | refine wp_labelQ ?_ | refine wp_exitQ ?_ | refine wp_retQ ?_); simp only [kQ, Nat.reduceEqDiff, reduceIte])
     | (refine wp_reg B ?_; simp (disch := omega) only [kW, Nat.reduceEqDiff, reduceIte, Nat.reduceLT, Nat.reduceLeDiff, Nat.reduceAdd, Nat.reduceSub, Nat.reduceMul, Nat.reducePow, Nat.reduceDiv, Nat.reduceMod, evIndexAddr, TD.agg, evFieldAddr, binA_eqB ty4, binA_neB ty4, ty2, ty3, ty4, ty22, ty36, ty57, ty59, ty77, ty89, ty92, fn54, c_EfOf, EfOf_ans, t0, t1, t5, t6, t7, t8])
     | refine wp_condT rfl ?_ | refine wp_condF rfl ?_)
    refine wp_if rfl (fun jlt => ?_) (fun jge => ?_)
    ·have hjn : j < n := by omega
     have hb := hs i j (by omega) (by omega)
     have g3 : r[j]? = some (ent a i j) := by
      obtain ⟨r', q1, _, q3⟩ := sq.get (i := i) (j := j) (by omega) (by omega)
      have := irows_get q1
      rw [g1] at this
      simp only [Option.some.injEq] at this
      rw [irow_inj this]; exact q3
     have g4 := irow_get g3
     have k1 := fun h => EfOf_ans (ent a i j) h (by omega) (by omega)
     rcases hw with ⟨rfl, rfl⟩ | ⟨hj0, rfl, hRm, hRl⟩
     ·repeat (first
        | refine wp_seqQ ?_ | refine wp_blockQ ?_ | refine wp_scopeQ ?_
        | ((first | refine wp_skipQ ?_ | refine wp_labelQ ?_ | refine wp_exitQ ?_ | refine wp_retQ ?_); simp only [kQ, Nat.reduceEqDiff, reduceIte])
        | (refine wp_reg B ?_; simp (disch := omega) only [kW, Nat.reduceEqDiff, reduceIte, Nat.reduceLT, Nat.reduceLeDiff, Nat.reduceAdd, Nat.reduceSub, Nat.reduceMul, Nat.reducePow, Nat.reduceDiv, Nat.reduceMod, evIndexAddr, TD.agg, evFieldAddr, binA_eqB ty4, binA_neB ty4, ty2, ty3, ty4, ty22, ty36, ty57, ty59, ty77, ty89, ty92, fn54, c_EfOf, EfOf_ans, t0, t1, t5, t6, t7, t8, irows, irow, g1, g4, k1, rzav_cells, rnav_one, rnav_clean, rnav_cells])
        | refine wp_condT rfl ?_ | refine wp_condF rfl ?_)
      refine ⟨_, ?_, 1, _, _, _, h.next + 1, rfl, rfl, by omega, t0, t1, t5, t6, rfl, rfl, hR.keep (by simp only; omega) (fun _ b hb _ => ?_), .inr ⟨by omega, rfl, ?_, by simp only; omega⟩, fun _ hv => ?_⟩
      ·omega
      ·simp (disch := omega) only [upd_ne]
      ·simp only [upd_eq]; rfl
      ·have l1 := hR.lt hv
       exact ⟨by have := l1.1; omega, fun x hx => by have := l1.2 x hx; omega⟩
     ·have hcl := rl_clean (ent a i) j
      have hll := rl_length (ent a i) j
      repeat (first
       | refine wp_seqQ ?_ | refine wp_blockQ ?_ | refine wp_scopeQ ?_
       | ((first | refine wp_skipQ ?_ | refine wp_labelQ ?_ | refine wp_exitQ ?_ | refine wp_retQ ?_); simp only [kQ, Nat.reduceEqDiff, reduceIte])
       | (refine wp_reg B ?_; simp (disch := omega) only [kW, Nat.reduceEqDiff, reduceIte, Nat.reduceLT, Nat.reduceLeDiff, Nat.reduceAdd, Nat.reduceSub, Nat.reduceMul, Nat.reducePow, Nat.reduceDiv, Nat.reduceMod, evIndexAddr, TD.agg, evFieldAddr, binA_eqB ty4, binA_neB ty4, ty2, ty3, ty4, ty22, ty36, ty57, ty59, ty77, ty89, ty92, fn54, c_EfOf, EfOf_ans, t0, t1, t5, t6, t7, t8, irows, irow, g1, g4, k1, rzav_cells, rnav_one, rnav_clean, rnav_cells, hRm, hcl, hll])
       | refine wp_condT rfl ?_ | refine wp_condF rfl ?_)
      refine ⟨_, ?_, j + 1, _, _, _, h.next + 1, rfl, rfl, by omega, t0, t1, t5, t6, rfl, rfl, hR.keep (by simp only; omega) (fun e b hb hv => ?_), .inr ⟨by omega, rfl, ?_, by simp only; omega⟩, fun _ hv => ?_⟩
      ·omega
      ·have hbR : b ≠ R := by
         obtain ⟨q1, q2⟩ := hne hj0 e
         rcases hv with rfl | ⟨x, hx, rfl⟩
         ·exact fun e => q1 e.symm
         ·exact fun e => q2 x hx e.symm
       simp (disch := omega) only [upd_ne]
      ·simp only [upd_eq]; rw [rl_succ]
      ·have l1 := hR.lt hv
       exact ⟨by have := l1.1; omega, fun x hx => by have := l1.2 x hx; omega⟩
    ·have jn : j = n := by omega
     subst jn
     rcases hw with ⟨e, _⟩ | ⟨_, rfl, hRm, hRl⟩
     ·omega
     have hR0 := hR
     rcases hR with ⟨rfl, rfl⟩ | ⟨hi0, rfl, hB, hBl, hrow, hinj⟩
     ·repeat (first
        | refine wp_seqQ ?_ | refine wp_blockQ ?_ | refine wp_scopeQ ?_
        | ((first | refine wp_skipQ ?_ | refine wp_labelQ ?_ | refine wp_exitQ ?_ | refine wp_retQ ?_); simp only [kQ, Nat.reduceEqDiff, reduceIte])
        | (refine wp_reg B ?_; simp (disch := omega) only [kW, Nat.reduceEqDiff, reduceIte, Nat.reduceLT, Nat.reduceLeDiff, Nat.reduceAdd, Nat.reduceSub, Nat.reduceMul, Nat.reducePow, Nat.reduceDiv, Nat.reduceMod, evIndexAddr, TD.agg, evFieldAddr, binA_eqB ty4, binA_neB ty4, ty2, ty3, ty4, ty22, ty36, ty57, ty59, ty77, ty89, ty92, fn54, c_EfOf, EfOf_ans, t0, t1, t5, t6, t7, t8])
        | refine wp_condT rfl ?_ | refine wp_condF rfl ?_)
      refine ⟨_, ?_, 1, _, _, _, h.next + 1, _, rfl, rfl, by omega, t0, t1, rfl, rfl, hR0.snoc (R := R) (by simp only; omega) ?_ (by simp only; omega) (by simp only; omega) (by omega) (fun e => by cases e) (fun e => by cases e) ?_⟩
      ·omega
      ·simp (disch := omega) only [upd_ne]; exact hRm
      ·simp only [upd_eq]; rfl
     ·obtain ⟨q1, q2⟩ := hne (by omega) rfl
      repeat (first
       | refine wp_seqQ ?_ | refine wp_blockQ ?_ | refine wp_scopeQ ?_
       | ((first | refine wp_skipQ ?_ | refine wp_labelQ ?_ | refine wp_exitQ ?_ | refine wp_retQ ?_); simp only [kQ, Nat.reduceEqDiff, reduceIte])
       | (refine wp_reg B ?_; simp (disch := omega) only [kW, Nat.reduceEqDiff, reduceIte, Nat.reduceLT, Nat.reduceLeDiff, Nat.reduceAdd, Nat.reduceSub, Nat.reduceMul, Nat.reducePow, Nat.reduceDiv, Nat.reduceMod, evIndexAddr, TD.agg, evFieldAddr, binA_eqB ty4, binA_neB ty4, ty2, ty3, ty4, ty22, ty36, ty57, ty59, ty77, ty89, ty92, fn54, c_EfOf, EfOf_ans, t0, t1, t5, t6, t7, t8, hB])
       | refine wp_condT rfl ?_ | refine wp_condF rfl ?_)
      refine ⟨_, ?_, i + 1, _, _, _, h.next + 1, _, rfl, rfl, by omega, t0, t1, rfl, rfl, hR0.snoc (R := R) (by simp only; omega) ?_ (by simp only; omega) (by simp only; omega) (by omega) (fun _ x hx => ⟨q2 x hx, ?_⟩) (fun _ x hx => ?_) ?_⟩
      ·omega
      ·simp (disch := omega) only [upd_ne]; exact hRm
      ·have := (hrow x hx).2.1
       omega
      ·obtain ⟨_, w1, w2⟩ := hrow x hx
       simp (disch := omega) only [upd_ne]
      ·simp only [upd_eq]
  ·have ien : i = n := by omega
   subst ien
   rcases hR with ⟨e, _⟩ | ⟨_, rfl, hB, hBl, hrow, hinj⟩
   ·omega
   obtain ⟨g, hg1, hg2⟩ := rows_freeze (n := i) (z := 2) (v := .slice Bk 0 i (.toEnd 1)) hB (fun x hx => (hrow x hx).1) (fun x hx => rl_pure _ _) hinj (fun x hx => (hrow x hx).2.2)
    (fun g x hx hg => Fz.sliceE hg (by rw [rl_length]; omega) (by omega)) (fun g l hg hl => Fz.sliceE hg (by omega) (by omega))
   repeat (first
    | refine wp_seqQ ?_ | refine wp_blockQ ?_ | refine wp_scopeQ ?_
    | ((first | refine wp_skipQ ?_ | refine wp_labelQ ?_ | refine wp_exitQ ?_ | refine wp_retQ ?_); simp only [kQ, Nat.reduceEqDiff, reduceIte])
    | ((fail_if_success refine wp_reg (id := 11) B ?_); refine wp_reg B ?_; simp (disch := omega) only [kW, Nat.reduceEqDiff, reduceIte, Nat.reduceLT, Nat.reduceLeDiff, Nat.reduceAdd, Nat.reduceSub, Nat.reduceMul, Nat.reducePow, Nat.reduceDiv, Nat.reduceMod, evIndexAddr, TD.agg, evFieldAddr, binA_eqB ty4, binA_neB ty4, ty2, ty3, ty4, ty22, ty36, ty57, ty59, ty77, ty89, ty92, fn54, c_EfOf, EfOf_ans, t0, t1, t5, t6])
    | refine wp_condT rfl ?_ | refine wp_condF rfl ?_)
   refine WP.freeze 5 g t5 hg1 hg2 ?_
   repeat (first
    | refine wp_seqQ ?_ | refine wp_blockQ ?_ | refine wp_scopeQ ?_
    | ((first | refine wp_skipQ ?_ | refine wp_labelQ ?_ | refine wp_exitQ ?_ | refine wp_retQ ?_); simp only [kQ, Nat.reduceEqDiff, reduceIte])
    | (refine wp_reg B ?_; simp (disch := omega) only [kW, Nat.reduceEqDiff, reduceIte, Nat.reduceLT, Nat.reduceLeDiff, Nat.reduceAdd, Nat.reduceSub, Nat.reduceMul, Nat.reducePow, Nat.reduceDiv, Nat.reduceMod, evIndexAddr, TD.agg, evFieldAddr, binA_eqB ty4, binA_neB ty4, ty2, ty3, ty4, ty22, ty36, ty57, ty59, ty77, ty89, ty92, fn54, c_EfOf, EfOf_ans])
    | refine wp_condT rfl ?_ | refine wp_condF rfl ?_)
   simp (disch := omega) only [kS, Nat.reduceEqDiff, reduceIte, Nat.reduceLT, Nat.reduceLeDiff, Nat.reduceAdd, Nat.reduceSub, Nat.reduceMul, Nat.reducePow, Nat.reduceDiv, Nat.reduceMod, evIndexAddr, TD.agg, evFieldAddr, binA_eqB ty4, binA_neB ty4, ty2, ty3, ty4, ty22, ty36, ty57, ty59, ty77, ty89, ty92, fn54, c_EfOf, EfOf_ans]
   rfl
end Go.Proofs.Ytllocgmbjjoemaa.Iv
end
