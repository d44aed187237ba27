/- The document's determinant (parquetref05.steps, Det) of a matrix whose smaller leading minors are not 0, walked. The document's Check (parquetref07), walked: it tells what gram's does. The tensor product, both ways, walked. The document's tensor product (parquetref26.Tensor), Same, walked. -/
import Derived.Test.YtllocgmbjjoemaaQn
section
set_option maxHeartbeats 16000000
set_option linter.unusedVariables false
set_option linter.unusedSimpArgs false
set_option maxRecDepth 10000
namespace Go.Proofs.Ytllocgmbjjoemaa.Iv
open Go Go.Iv Go.RowKit Go.Proofs.Ytllocgmbjjoemaa.Nv
open Dg (bl)
open Dt (det mi)
theorem cv2 : cleanV [Value.bool false, .slice none 0 0] = true := rfl
theorem rrow_get {n i : Nat} (A : Nat → Nat → Int) (h : i < n) : ((List.range n).map fun i => AV.isl (rl n (A i)) 2 0 n)[i]? = some (.isl (rl n (A i)) 2 0 n) := range_get _ h
theorem fCols_sem (n : Nat) (hn : 0 < n) (A : Nat → Nat → Int) (h : Hp) : SemCall Try.prog 63 [rmat n A] h (.ret (.flat (.int .i64 (n : Int)))) h := by
 refine sem_pure tables.ok Try.func63 rfl rfl rfl rfl (by simp [pureL, rmat_pure]) rfl ?_ h
 have B := base0
 have g1 := rrow_get A hn
 have r0 : inRange 0 n = some 0 := inRange_nat hn
 unfold Try.f63 bodyOf entry; simp only [Option.getD_some, List.length_cons, List.length_nil, Nat.reduceAdd, Nat.reduceSub]
 repeat (first
  | refine wp_seqQ ?_ | refine wp_blockQ ?_ | refine wp_scopeQ ?_
  | ((first | refine wp_skipQ ?_ | refine wp_labelQ ?_ | refine wp_exitQ ?_ | refine wp_retQ ?_); simp only [kQ, Nat.reduceEqDiff, reduceIte])
  | (refine wp_reg B ?_; simp (disch := omega) only [kW, Nat.reduceEqDiff, reduceIte, Nat.reduceLT, Nat.reduceLeDiff, Nat.reduceAdd, Nat.reduceSub, Nat.reduceMul, Nat.reducePow, Nat.reduceDiv, Nat.reduceMod, evIndexAddr, TD.agg, evFieldAddr, binA_eqB ty4, binA_neB ty4, ty3, ty4, ty57, ty59, ty77, ty89, ty92, rmat, g1, r0])
  | refine wp_condT rfl ?_ | refine wp_condF rfl ?_)
 simp (disch := omega) only [kS, Nat.reduceEqDiff, reduceIte, Nat.reduceLT, Nat.reduceLeDiff, Nat.reduceAdd, Nat.reduceSub, Nat.reduceMul, Nat.reducePow, Nat.reduceDiv, Nat.reduceMod, evIndexAddr, TD.agg, evFieldAddr, binA_eqB ty4, binA_neB ty4, ty3, ty4, ty57, ty59, ty77, ty89, ty92]
theorem rmat_inj {n m : Nat} {A B : Nat → Nat → Int} (h : rmat n A = rmat m B) : n = m := by
 simp only [rmat, AV.isl.injEq] at h
 exact h.2.2.2
noncomputable def EfCols : Entry Try.prog := ⟨63, fun args h e h' => h' = h ∧ ∃ (n : Nat) (A : Nat → Nat → Int), args = [rmat n A] ∧ 0 < n ∧ e = .ret (.flat (.int .i64 (n : Int))), by
 rintro args h e h' ⟨rfl, n, A, rfl, hn, rfl⟩
 exact ⟨fCols_sem n hn A h', Hp.Le.refl _⟩⟩
theorem EfCols_ans (n : Nat) (A : Nat → Nat → Int) (hn : 0 < n) (h : Hp) : EfCols.ans [rmat n A] h = some (.ret (.flat (.int .i64 (n : Int))), h) := by
 refine Entry.one ⟨rfl, n, A, rfl, hn, rfl⟩ ?_
 rintro e h' ⟨hh, m, B, ha, _, he⟩
 simp only [List.cons.injEq, and_true] at ha
 rw [rmat_inj ha]; exact ⟨he, hh⟩
structure Me (h : Hp) (n B : Nat) (ρ : Nat → Nat) (L : Nat → List AV) : Prop where
 top : h.m B = some (.cells ((List.range n).map fun i => .slice (ρ i) 0 n (.toEnd 2)) 89 true)
 row : ∀ i, i < n → h.m (ρ i) = some (.cells (L i) 59 true)
 len : ∀ i, i < n → (L i).length = n * 2
 rlt : ∀ i, i < n → ρ i < h.next
 blt : B < h.next
 inj : ∀ i j, i < n → j < n → ρ i = ρ j → i = j
 ne : ∀ i, i < n → ρ i ≠ B
theorem Me.turn {h h' : Hp} {n B i : Nat} {ρ : Nat → Nat} {L : Nat → List AV} {Li : List AV} (M : Me h n B ρ L) (hi : i < n) (hn : h.next ≤ h'.next) (hk : ∀ b, b < h.next → b ≠ ρ i → h'.m b = h.m b) (hr : h'.m (ρ i) = some (.cells Li 59 true)) (hl : Li.length = n * 2) :
    Me h' n B ρ (fun x => if x = i then Li else L x) := by
 refine ⟨?_, fun x hx => ?_, fun x hx => ?_, fun x hx => ?_, ?_, M.inj, M.ne⟩
 ·rw [hk B M.blt (fun e => M.ne i hi e.symm)]; exact M.top
 ·by_cases e : x = i
  ·subst e; rw [if_pos rfl]; exact hr
  ·rw [if_neg e, hk (ρ x) (M.rlt x hx) fun k => e (M.inj x i hx hi k)]; exact M.row x hx
 ·by_cases e : x = i
  ·rw [if_pos e]; exact hl
  ·rw [if_neg e]; exact M.len x hx
 ·have := M.rlt x hx
  omega
 ·have := M.blt
  omega
theorem Me.grow {h h' : Hp} {n B : Nat} {ρ : Nat → Nat} {L : Nat → List AV} (M : Me h n B ρ L) (hn : h.next ≤ h'.next) (hk : ∀ b, b < h.next → (b = B ∨ ∃ i, i < n ∧ b = ρ i) → h'.m b = h.m b) : Me h' n B ρ L := by
 refine ⟨?_, fun x hx => ?_, M.len, fun x hx => ?_, ?_, M.inj, M.ne⟩
 ·rw [hk B M.blt (.inl rfl)]; exact M.top
 ·rw [hk (ρ x) (M.rlt x hx) (.inr ⟨x, hx, rfl⟩)]; exact M.row x hx
 ·have := M.rlt x hx
  omega
 ·have := M.blt
  omega
structure Pe (h : Hp) (n q q3 Bk : Nat) (ρ : Nat → Nat) (L : Nat → List AV) (last : Int) (f : Nat → Nat → Int) (lv : Nat → Nat → Prop) : Prop where
 M : Me h n Bk ρ L
 lb : h.m q = some (.cells [zs last, rzm last] 59 false)
 l3 : h.m q3 = some (.cells [.flat (.bool false), .flat (.slice none 0 0)] 59 false)
 lt : q < h.next ∧ q3 < h.next
 nb : q ≠ Bk ∧ q3 ≠ Bk ∧ q3 ≠ q
 nr : ∀ i, i < n → q ≠ ρ i ∧ q3 ≠ ρ i
 val : ∀ x y, x < n → y < n → lv x y → Ml.At (L x) y (zs (f x y)) (rzm (f x y))
theorem steps_sem (n : Nat) (hn0 : 0 < n) (hn : n ≤ 8) (A : Nat → Nat → Int) (hs : ∀ i j, i < n → j < n → -16384 ≤ A i j ∧ A i j ≤ 16384) (hD : ∀ s, s < n → det s A ≠ 0) (h : Hp) :
    SemCall Try.prog 53 [rmat n A] h (.ret (.tuple [.flat (.int .i64 (if det n A = 0 then (n : Int) - 1 else n)), if det n A = 0 then .agg [.flat (.bool false), .flat (.slice none 0 0)] else rzav (det n A)])) h := by
 refine sem_pure tables.ok Try.func53 rfl rfl rfl rfl (by simp [pureL, rmat_pure]) (by simp only [AV.pure, pureL, Bool.true_and, Bool.and_true]; split <;> simp [AV.pure, pureL, rzav_pure]) ?_ h
 have B : Base Try.prog tab _ := tabL_base [EfOf, EfCols, EfMul, EfNeg, EfAdd, EfExact] tables.ok mixed
 generalize hL : tabL [EfOf, EfCols, EfMul, EfNeg, EfAdd, EfExact] = call at B
 have c_EfOf : ∀ a h, call 54 a h = EfOf.ans a h := fun _ _ => hL ▸ rfl
 have c_EfCols : ∀ a h, call 63 a h = EfCols.ans a h := fun _ _ => hL ▸ rfl
 have c_EfMul : ∀ a h, call 64 a h = EfMul.ans a h := fun _ _ => hL ▸ rfl
 have c_EfNeg : ∀ a h, call 67 a h = EfNeg.ans a h := fun _ _ => hL ▸ rfl
 have c_EfAdd : ∀ a h, call 66 a h = EfAdd.ans a h := fun _ _ => hL ▸ rfl
 have c_EfExact : ∀ a h, call 65 a h = EfExact.ans a h := fun _ _ => hL ▸ rfl
 clear hL
 have kOf := fun h => EfOf_ans 1 h (by omega) (by omega)
 have kCol := fun h => EfCols_ans n A hn0 h
 unfold Try.f53 bodyOf entry; simp only [Option.getD_some, List.length_cons, List.length_nil, Nat.reduceAdd, Nat.reduceSub]
 repeat (first
  | refine wp_seqQ ?_ | refine wp_blockQ ?_ | refine wp_scopeQ ?_
  | ((first | refine wp_skipQ ?_ | refine wp_labelQ ?_ | refine wp_exitQ ?_ | refine wp_retQ ?_); simp only [kQ, Nat.reduceEqDiff, reduceIte])
  | ((first | refine wp_dreg B (id := 17) [0, 0, 0, 0, 0, 0, 48, 112, 0, 0, 768, 1792, 4083, 8179, 16383, 32767] (by kernel_rfl) ?_ | refine wp_dreg B (id := 25) [0, 0, 3, 7, 0, 31, 63, 0, 0, 384, 896, 0, 3968, 8064, 16383, 0, 65535] (by kernel_rfl) ?_ | refine wp_dreg B (id := 26) [0, 0, 3, 7, 0, 31, 63, 0, 0, 384, 896, 0, 3968, 8064, 16383, 0, 65535] (by kernel_rfl) ?_ | refine wp_dreg B (id := 27) [0, 0, 3, 7, 0, 0, 0, 64, 224, 0, 992, 2047, 4095] (by kernel_rfl) ?_ | refine wp_dreg B (id := 35) [0, 0, 1, 7] (by kernel_rfl) ?_ | refine wp_reg B ?_); simp (disch := omega) only [kW, kG, Nat.reduceEqDiff, reduceIte, Nat.reduceLT, Nat.reduceLeDiff, Nat.reduceAdd, Nat.reduceSub, Nat.reduceMul, Nat.reducePow, Nat.reduceDiv, Nat.reduceMod, evIndexAddr, TD.agg, evFieldAddr, binA_eqB ty4, binA_neB ty4, ty2, ty3, ty4, ty57, ty59, ty77, ty89, ty92, fn54, fn63, fn64, fn67, fn66, fn65, c_EfOf, EfOf_ans, c_EfCols, EfCols_ans, c_EfMul, EfMul_ans, c_EfNeg, EfNeg_ans, c_EfAdd, EfAdd_ans, c_EfExact, EfExact_ans])
  | refine wp_condT rfl ?_ | refine wp_condF rfl ?_)
 refine wp_loopQ (fun k s => ∃ (i : Nat) (v : AV) (tm : Nat → Option AV) (h : Hp) (B : Nat) (ρ : Nat → Nat), s = ⟨tm, 174, h, []⟩ ∧ k = n - i ∧ i ≤ n ∧ tm 0 = some (rmat n A) ∧ tm 3 = some (.ptr Hp.empty.next 0) ∧ tm 4 = some v ∧ tm 5 = some (.flat (.int .i64 (i : Int))) ∧ Rws h n i v B ρ A ∧
  h.m Hp.empty.next = some (.cells [.flat (.bool false), .flat (.slice none 0 0)] 59 false) ∧ Hp.empty.next < h.next ∧ (v = .slice B 0 i (.toEnd 1) → Hp.empty.next ≠ B ∧ ∀ x, x < i → Hp.empty.next ≠ ρ x)) n ?_ ?_
 ·refine ⟨0, _, _, _, 0, fun _ => 0, rfl, rfl, Nat.zero_le _, rfl, rfl, rfl, rfl, .inl ⟨rfl, rfl⟩, ?_, by simp, fun e => by cases e⟩
  simp only [upd_eq]
 ·rintro k s ⟨i, v, tm, h, Bk, ρ, rfl, rfl, hi, t0, t3, t4, t5, hR, h3, h3', hne⟩
  repeat (first
   | refine wp_seqQ ?_ | refine wp_blockQ ?_ | refine wp_scopeQ ?_
   | ((first | refine wp_skipQ ?_ | refine wp_labelQ ?_ | refine wp_exitQ ?_ | refine wp_retQ ?_); simp only [kQ, Nat.reduceEqDiff, reduceIte])
   | ((first | refine wp_dreg B (id := 17) [0, 0, 0, 0, 0, 0, 48, 112, 0, 0, 768, 1792, 4083, 8179, 16383, 32767] (by kernel_rfl) ?_ | refine wp_dreg B (id := 25) [0, 0, 3, 7, 0, 31, 63, 0, 0, 384, 896, 0, 3968, 8064, 16383, 0, 65535] (by kernel_rfl) ?_ | refine wp_dreg B (id := 26) [0, 0, 3, 7, 0, 31, 63, 0, 0, 384, 896, 0, 3968, 8064, 16383, 0, 65535] (by kernel_rfl) ?_ | refine wp_dreg B (id := 27) [0, 0, 3, 7, 0, 0, 0, 64, 224, 0, 992, 2047, 4095] (by kernel_rfl) ?_ | refine wp_dreg B (id := 35) [0, 0, 1, 7] (by kernel_rfl) ?_ | refine wp_reg B ?_); simp (disch := omega) only [kW, kG, Nat.reduceEqDiff, reduceIte, Nat.reduceLT, Nat.reduceLeDiff, Nat.reduceAdd, Nat.reduceSub, Nat.reduceMul, Nat.reducePow, Nat.reduceDiv, Nat.reduceMod, evIndexAddr, TD.agg, evFieldAddr, binA_eqB ty4, binA_neB ty4, ty2, ty3, ty4, ty57, ty59, ty77, ty89, ty92, fn54, fn63, fn64, fn67, fn66, fn65, c_EfOf, EfOf_ans, c_EfCols, EfCols_ans, c_EfMul, EfMul_ans, c_EfNeg, EfNeg_ans, c_EfAdd, EfAdd_ans, c_EfExact, EfExact_ans, t0, t3, t4, t5, rmat])
   | refine wp_condT rfl ?_ | refine wp_condF rfl ?_)
  refine wp_if rfl (fun ilt => ?_) (fun ige => ?_)
  ·have hin : i < n := by omega
   have g1 := rrow_get A hin
   have gt : List.take (n * 2) (rl n (A i)) = rl n (A i) := List.take_of_length_le (by rw [rl_length]; omega)
   have gl := rl_length (A i) n
   have gc := rl_clean (A i) n
   have hR0 := hR
   rcases hR with ⟨rfl, rfl⟩ | ⟨hi0, rfl, hB, hBl, hrow, hinj⟩
   ·repeat (first
      | refine wp_seqQ ?_ | refine wp_blockQ ?_ | refine wp_scopeQ ?_
      | ((first | refine wp_skipQ ?_ | refine wp_labelQ ?_ | refine wp_exitQ ?_ | refine wp_retQ ?_); simp only [kQ, Nat.reduceEqDiff, reduceIte])
      | ((first | refine wp_dreg B (id := 17) [0, 0, 0, 0, 0, 0, 48, 112, 0, 0, 768, 1792, 4083, 8179, 16383, 32767] (by kernel_rfl) ?_ | refine wp_dreg B (id := 25) [0, 0, 3, 7, 0, 31, 63, 0, 0, 384, 896, 0, 3968, 8064, 16383, 0, 65535] (by kernel_rfl) ?_ | refine wp_dreg B (id := 26) [0, 0, 3, 7, 0, 31, 63, 0, 0, 384, 896, 0, 3968, 8064, 16383, 0, 65535] (by kernel_rfl) ?_ | refine wp_dreg B (id := 27) [0, 0, 3, 7, 0, 0, 0, 64, 224, 0, 992, 2047, 4095] (by kernel_rfl) ?_ | refine wp_dreg B (id := 35) [0, 0, 1, 7] (by kernel_rfl) ?_ | refine wp_reg B ?_); simp (disch := omega) only [kW, kG, Nat.reduceEqDiff, reduceIte, Nat.reduceLT, Nat.reduceLeDiff, Nat.reduceAdd, Nat.reduceSub, Nat.reduceMul, Nat.reducePow, Nat.reduceDiv, Nat.reduceMod, evIndexAddr, TD.agg, evFieldAddr, binA_eqB ty4, binA_neB ty4, ty2, ty3, ty4, ty57, ty59, ty77, ty89, ty92, fn54, fn63, fn64, fn67, fn66, fn65, c_EfOf, EfOf_ans, c_EfCols, EfCols_ans, c_EfMul, EfMul_ans, c_EfNeg, EfNeg_ans, c_EfAdd, EfAdd_ans, c_EfExact, EfExact_ans, t0, t3, t4, t5, rmat, g1, gt, gl, gc, cv2])
      | refine wp_condT rfl ?_ | refine wp_condF rfl ?_)
    refine ⟨_, ?_, 1, _, _, _, h.next + 1 + 1 + 1, _, rfl, rfl, by omega, t0, t3, rfl, rfl, hR0.snoc (R := h.next + 1) (by simp only; omega) ?_ (by simp only; omega) (by simp only; omega) (by omega) (fun e => by cases e) (fun e => by cases e) ?_, ?_, by simp only; omega, fun _ => ⟨by omega, fun x hx => ?_⟩⟩
    ·omega
    ·simp (disch := omega) only [upd_ne, upd_eq]
    ·simp only [upd_eq]; rfl
    ·simp (disch := omega) only [upd_ne]; exact h3
    ·obtain rfl : x = 0 := by omega
     simp only [if_true]; omega
   ·obtain ⟨q1, q2⟩ := hne rfl
    repeat (first
     | refine wp_seqQ ?_ | refine wp_blockQ ?_ | refine wp_scopeQ ?_
     | ((first | refine wp_skipQ ?_ | refine wp_labelQ ?_ | refine wp_exitQ ?_ | refine wp_retQ ?_); simp only [kQ, Nat.reduceEqDiff, reduceIte])
     | ((first | refine wp_dreg B (id := 17) [0, 0, 0, 0, 0, 0, 48, 112, 0, 0, 768, 1792, 4083, 8179, 16383, 32767] (by kernel_rfl) ?_ | refine wp_dreg B (id := 25) [0, 0, 3, 7, 0, 31, 63, 0, 0, 384, 896, 0, 3968, 8064, 16383, 0, 65535] (by kernel_rfl) ?_ | refine wp_dreg B (id := 26) [0, 0, 3, 7, 0, 31, 63, 0, 0, 384, 896, 0, 3968, 8064, 16383, 0, 65535] (by kernel_rfl) ?_ | refine wp_dreg B (id := 27) [0, 0, 3, 7, 0, 0, 0, 64, 224, 0, 992, 2047, 4095] (by kernel_rfl) ?_ | refine wp_dreg B (id := 35) [0, 0, 1, 7] (by kernel_rfl) ?_ | refine wp_reg B ?_); simp (disch := omega) only [kW, kG, Nat.reduceEqDiff, reduceIte, Nat.reduceLT, Nat.reduceLeDiff, Nat.reduceAdd, Nat.reduceSub, Nat.reduceMul, Nat.reducePow, Nat.reduceDiv, Nat.reduceMod, evIndexAddr, TD.agg, evFieldAddr, binA_eqB ty4, binA_neB ty4, ty2, ty3, ty4, ty57, ty59, ty77, ty89, ty92, fn54, fn63, fn64, fn67, fn66, fn65, c_EfOf, EfOf_ans, c_EfCols, EfCols_ans, c_EfMul, EfMul_ans, c_EfNeg, EfNeg_ans, c_EfAdd, EfAdd_ans, c_EfExact, EfExact_ans, t0, t3, t4, t5, rmat, g1, gt, gl, gc, hB, cv2])
     | refine wp_condT rfl ?_ | refine wp_condF rfl ?_)
    refine ⟨_, ?_, i + 1, _, _, _, h.next + 1 + 1 + 1, _, rfl, rfl, by omega, t0, t3, rfl, rfl, hR0.snoc (R := h.next + 1) (by simp only; omega) ?_ (by simp only; omega) (by simp only; omega) (by omega) (fun _ x hx => ⟨?_, ?_⟩) (fun _ x hx => ?_) ?_, ?_, by simp only; omega, fun _ => ⟨by omega, fun x hx => ?_⟩⟩
    ·omega
    ·simp (disch := omega) only [upd_ne, upd_eq]
    ·have := (hrow x hx).2.1
     omega
    ·have := (hrow x hx).2.1
     omega
    ·obtain ⟨_, w1, w2⟩ := hrow x hx
     simp (disch := omega) only [upd_ne]
    ·simp only [upd_eq]
    ·simp (disch := omega) only [upd_ne]; exact h3
    ·by_cases e : x = i
     ·subst e; simp only [if_true]; omega
     ·rw [if_neg e]; exact q2 x (by omega)
  ·have ien : n = i := by omega
   subst ien
   rcases hR with ⟨e, _⟩ | ⟨_, rfl, hB, hBl, hrow, hinj⟩
   ·omega
   obtain ⟨q1, q2⟩ := hne rfl
   generalize hq3 : Hp.empty.next = q3 at *
   have M0 : Me h n Bk ρ (fun x => rl n (A x)) := ⟨hB, fun x hx => (hrow x hx).1, fun x _ => rl_length _ _, fun x hx => (hrow x hx).2.1, hBl, hinj, fun x hx => (hrow x hx).2.2⟩
   repeat (first
    | refine wp_seqQ ?_ | refine wp_blockQ ?_ | refine wp_scopeQ ?_
    | ((first | refine wp_skipQ ?_ | refine wp_labelQ ?_ | refine wp_exitQ ?_ | refine wp_retQ ?_); simp only [kQ, Nat.reduceEqDiff, reduceIte])
    | ((first | refine wp_dreg B (id := 17) [0, 0, 0, 0, 0, 0, 48, 112, 0, 0, 768, 1792, 4083, 8179, 16383, 32767] (by kernel_rfl) ?_ | refine wp_dreg B (id := 25) [0, 0, 3, 7, 0, 31, 63, 0, 0, 384, 896, 0, 3968, 8064, 16383, 0, 65535] (by kernel_rfl) ?_ | refine wp_dreg B (id := 26) [0, 0, 3, 7, 0, 31, 63, 0, 0, 384, 896, 0, 3968, 8064, 16383, 0, 65535] (by kernel_rfl) ?_ | refine wp_dreg B (id := 27) [0, 0, 3, 7, 0, 0, 0, 64, 224, 0, 992, 2047, 4095] (by kernel_rfl) ?_ | refine wp_dreg B (id := 35) [0, 0, 1, 7] (by kernel_rfl) ?_ | refine wp_reg B ?_); simp (disch := omega) only [kW, kG, Nat.reduceEqDiff, reduceIte, Nat.reduceLT, Nat.reduceLeDiff, Nat.reduceAdd, Nat.reduceSub, Nat.reduceMul, Nat.reducePow, Nat.reduceDiv, Nat.reduceMod, evIndexAddr, TD.agg, evFieldAddr, binA_eqB ty4, binA_neB ty4, ty2, ty3, ty4, ty57, ty59, ty77, ty89, ty92, fn54, fn63, fn64, fn67, fn66, fn65, c_EfOf, EfOf_ans, c_EfCols, EfCols_ans, c_EfMul, EfMul_ans, c_EfNeg, EfNeg_ans, c_EfAdd, EfAdd_ans, c_EfExact, EfExact_ans, t0, t3, t4, t5, kOf, rzav_cells, rnav_one, rnav_clean])
    | refine wp_condT rfl ?_ | refine wp_condF rfl ?_)
   refine wp_loopQ (fun k s => ∃ (j r : Nat) (tm : Nat → Option AV) (h' : Hp) (L : Nat → List AV), s = ⟨tm, 174, h', []⟩ ∧ k = n - j ∧ j ≤ n ∧ tm 0 = some (rmat n A) ∧ tm 3 = some (.ptr q3 0) ∧ tm 4 = some (.slice Bk 0 n (.toEnd 1)) ∧ tm 6 = some (.ptr h.next 0) ∧ tm 7 = some (.flat (.bool false)) ∧
    tm 8 = some (.flat (.int .i64 (r : Int))) ∧ tm 9 = some (.flat (.int .i64 (j : Int))) ∧ Pe h' n h.next q3 Bk ρ L (det r A) (mi A r) (fun x y => r ≤ x ∧ r ≤ y) ∧ ((r = j ∧ ∀ s, s ≤ j → det s A ≠ 0) ∨ (j = n ∧ r + 1 = n ∧ det n A = 0))) n ?_ ?_
   ·refine ⟨0, 0, _, _, _, rfl, rfl, Nat.zero_le _, t0, t3, t4, rfl, rfl, rfl, rfl, ⟨M0.grow (by simp) (fun b hb _ => ?_), ?_, ?_, by simp only; omega, by omega, fun x hx => ?_, fun x y hx hy _ => ?_⟩, .inl ⟨rfl, fun s hs => ?_⟩⟩
    ·simp (disch := omega) only [upd_ne]
    ·simp only [upd_eq]; rfl
    ·simp (disch := omega) only [upd_ne]; exact h3
    ·have := (hrow x hx).2.1
     exact ⟨by omega, q2 x hx⟩
    ·rw [Dt.mi_zero]; exact rl_at (A x) n y hy
    ·obtain rfl : s = 0 := by omega
     simp [Dt.det]
   ·rintro k s ⟨j, r, tm, h', L, rfl, rfl, hj, t0, t3, t4, t6, t7, t8, t9, P, hrj⟩
    by_cases jlt : j < n
    ·obtain ⟨rfl, hD1⟩ : r = j ∧ ∀ s, s ≤ j → det s A ≠ 0 := by
       rcases hrj with h | h
       ·exact h
       ·omega
     have gB := P.M.top
     have gr := range_get (fun x => AV.slice (ρ x) 0 n (.toEnd 2)) jlt
     have gR := P.M.row r jlt
     have glr := P.M.len r jlt
     have gv := P.val r r jlt jlt ⟨Nat.le_refl _, Nat.le_refl _⟩
     have gm := (Ml.at_iff.1 gv).2
     have hlead := Dt.mi_lead A r
     have gB1 := P.M.blt
     have gR1 := P.M.rlt r jlt
     repeat (first
      | refine wp_seqQ ?_ | refine wp_blockQ ?_ | refine wp_scopeQ ?_
      | ((first | refine wp_skipQ ?_ | refine wp_labelQ ?_ | refine wp_exitQ ?_ | refine wp_retQ ?_); simp only [kQ, Nat.reduceEqDiff, reduceIte])
      | ((fail_if_success refine wp_reg (id := 13) B ?_); (first | refine wp_dreg B (id := 17) [0, 0, 0, 0, 0, 0, 48, 112, 0, 0, 768, 1792, 4083, 8179, 16383, 32767] (by kernel_rfl) ?_ | refine wp_dreg B (id := 25) [0, 0, 3, 7, 0, 31, 63, 0, 0, 384, 896, 0, 3968, 8064, 16383, 0, 65535] (by kernel_rfl) ?_ | refine wp_dreg B (id := 26) [0, 0, 3, 7, 0, 31, 63, 0, 0, 384, 896, 0, 3968, 8064, 16383, 0, 65535] (by kernel_rfl) ?_ | refine wp_dreg B (id := 27) [0, 0, 3, 7, 0, 0, 0, 64, 224, 0, 992, 2047, 4095] (by kernel_rfl) ?_ | refine wp_dreg B (id := 35) [0, 0, 1, 7] (by kernel_rfl) ?_ | refine wp_reg B ?_); simp (disch := omega) only [kW, kG, Nat.reduceEqDiff, reduceIte, Nat.reduceLT, Nat.reduceLeDiff, Nat.reduceAdd, Nat.reduceSub, Nat.reduceMul, Nat.reducePow, Nat.reduceDiv, Nat.reduceMod, evIndexAddr, TD.agg, evFieldAddr, binA_eqB ty4, binA_neB ty4, ty2, ty3, ty4, ty57, ty59, ty77, ty89, ty92, fn54, fn63, fn64, fn67, fn66, fn65, c_EfOf, EfOf_ans, c_EfCols, EfCols_ans, c_EfMul, EfMul_ans, c_EfNeg, EfNeg_ans, c_EfAdd, EfAdd_ans, c_EfExact, EfExact_ans, t0, t3, t4, t6, t7, t8, t9, kCol])
      | refine wp_condT rfl ?_ | refine wp_condF rfl ?_)
     by_cases hz : mi A r r r = 0
     ·have hl : ¬ (0 : Int) < ((Eg.dg (mi A r r r).natAbs).length : Int) := by rw [edg_pos]; omega
      have hrn : r + 1 = n := by
       by_cases e : r + 1 < n
       ·exact absurd (hlead ▸ hz) (hD (r + 1) e)
       ·omega
      refine wp_loopQ (fun k s => ∃ (p : Nat) (tm : Nat → Option AV), s = ⟨tm, 174, h', []⟩ ∧ ((p = r ∧ k = 1) ∨ (p = n ∧ k = 0)) ∧ tm 0 = some (rmat n A) ∧ tm 3 = some (.ptr q3 0) ∧ tm 4 = some (.slice Bk 0 n (.toEnd 1)) ∧ tm 6 = some (.ptr h.next 0) ∧ tm 7 = some (.flat (.bool false)) ∧
       tm 8 = some (.flat (.int .i64 (r : Int))) ∧ tm 9 = some (.flat (.int .i64 (r : Int))) ∧ tm 10 = some (.flat (.int .i64 (p : Int)))) 1 ?_ ?_
      ·exact ⟨r, _, rfl, .inl ⟨rfl, rfl⟩, t0, t3, t4, t6, t7, t8, t9, rfl⟩
      ·rintro k s ⟨p, tm, rfl, hp, t0, t3, t4, t6, t7, t8, t9, t10⟩
       rcases hp with ⟨rfl, rfl⟩ | ⟨rfl, rfl⟩
       ·repeat (first
          | refine wp_seqQ ?_ | refine wp_blockQ ?_ | refine wp_scopeQ ?_
          | ((first | refine wp_skipQ ?_ | refine wp_labelQ ?_ | refine wp_exitQ ?_ | refine wp_retQ ?_); simp only [kQ, Nat.reduceEqDiff, reduceIte])
          | ((first | refine wp_dreg B (id := 17) [0, 0, 0, 0, 0, 0, 48, 112, 0, 0, 768, 1792, 4083, 8179, 16383, 32767] (by kernel_rfl) ?_ | refine wp_dreg B (id := 25) [0, 0, 3, 7, 0, 31, 63, 0, 0, 384, 896, 0, 3968, 8064, 16383, 0, 65535] (by kernel_rfl) ?_ | refine wp_dreg B (id := 26) [0, 0, 3, 7, 0, 31, 63, 0, 0, 384, 896, 0, 3968, 8064, 16383, 0, 65535] (by kernel_rfl) ?_ | refine wp_dreg B (id := 27) [0, 0, 3, 7, 0, 0, 0, 64, 224, 0, 992, 2047, 4095] (by kernel_rfl) ?_ | refine wp_dreg B (id := 35) [0, 0, 1, 7] (by kernel_rfl) ?_ | refine wp_reg B ?_); simp (disch := omega) only [kW, kG, Nat.reduceEqDiff, reduceIte, Nat.reduceLT, Nat.reduceLeDiff, Nat.reduceAdd, Nat.reduceSub, Nat.reduceMul, Nat.reducePow, Nat.reduceDiv, Nat.reduceMod, evIndexAddr, TD.agg, evFieldAddr, binA_eqB ty4, binA_neB ty4, ty2, ty3, ty4, ty57, ty59, ty77, ty89, ty92, fn54, fn63, fn64, fn67, fn66, fn65, c_EfOf, EfOf_ans, c_EfCols, EfCols_ans, c_EfMul, EfMul_ans, c_EfNeg, EfNeg_ans, c_EfAdd, EfAdd_ans, c_EfExact, EfExact_ans, t0, t3, t4, t6, t7, t8, t9, t10, gB, gr, gR, glr, gm, rnav_len])
          | refine wp_condT rfl ?_ | refine wp_condF rfl ?_)
        refine ⟨0, by omega, p + 1, _, rfl, .inr ⟨hrn, rfl⟩, t0, t3, t4, t6, t7, t8, t9, rfl⟩
       ·repeat (first
          | refine wp_seqQ ?_ | refine wp_blockQ ?_ | refine wp_scopeQ ?_
          | ((first | refine wp_skipQ ?_ | refine wp_labelQ ?_ | refine wp_exitQ ?_ | refine wp_retQ ?_); simp only [kQ, Nat.reduceEqDiff, reduceIte])
          | ((first | refine wp_dreg B (id := 17) [0, 0, 0, 0, 0, 0, 48, 112, 0, 0, 768, 1792, 4083, 8179, 16383, 32767] (by kernel_rfl) ?_ | refine wp_dreg B (id := 25) [0, 0, 3, 7, 0, 31, 63, 0, 0, 384, 896, 0, 3968, 8064, 16383, 0, 65535] (by kernel_rfl) ?_ | refine wp_dreg B (id := 26) [0, 0, 3, 7, 0, 31, 63, 0, 0, 384, 896, 0, 3968, 8064, 16383, 0, 65535] (by kernel_rfl) ?_ | refine wp_dreg B (id := 27) [0, 0, 3, 7, 0, 0, 0, 64, 224, 0, 992, 2047, 4095] (by kernel_rfl) ?_ | refine wp_dreg B (id := 35) [0, 0, 1, 7] (by kernel_rfl) ?_ | refine wp_reg B ?_); simp (disch := omega) only [kW, kG, Nat.reduceEqDiff, reduceIte, Nat.reduceLT, Nat.reduceLeDiff, Nat.reduceAdd, Nat.reduceSub, Nat.reduceMul, Nat.reducePow, Nat.reduceDiv, Nat.reduceMod, evIndexAddr, TD.agg, evFieldAddr, binA_eqB ty4, binA_neB ty4, ty2, ty3, ty4, ty57, ty59, ty77, ty89, ty92, fn54, fn63, fn64, fn67, fn66, fn65, c_EfOf, EfOf_ans, c_EfCols, EfCols_ans, c_EfMul, EfMul_ans, c_EfNeg, EfNeg_ans, c_EfAdd, EfAdd_ans, c_EfExact, EfExact_ans, t0, t3, t4, t6, t7, t8, t9, t10])
          | refine wp_condT rfl ?_ | refine wp_condF rfl ?_)
        refine ⟨_, ?_, r + 1, r, _, h', L, rfl, rfl, by omega, t0, t3, t4, t6, t7, t8, rfl, P, .inr ⟨hrn, hrn, by rw [← hrn, ← hlead]; exact hz⟩⟩
        omega
     ·have hl : (0 : Int) < ((Eg.dg (mi A r r r).natAbs).length : Int) := by rw [edg_pos]; omega
      refine wp_loopQ (fun k s => ∃ (tm : Nat → Option AV), s = ⟨tm, 174, h', []⟩ ∧ tm 0 = some (rmat n A) ∧ tm 3 = some (.ptr q3 0) ∧ tm 4 = some (.slice Bk 0 n (.toEnd 1)) ∧ tm 6 = some (.ptr h.next 0) ∧ tm 7 = some (.flat (.bool false)) ∧
       tm 8 = some (.flat (.int .i64 (r : Int))) ∧ tm 9 = some (.flat (.int .i64 (r : Int))) ∧ tm 10 = some (.flat (.int .i64 (r : Int)))) 1 ?_ ?_
      ·exact ⟨_, rfl, t0, t3, t4, t6, t7, t8, t9, rfl⟩
      ·rintro k s ⟨tm, rfl, t0, t3, t4, t6, t7, t8, t9, t10⟩
       have hD2 : ∀ s, s ≤ r + 1 → det s A ≠ 0 := fun s hs => by
        by_cases e : s ≤ r
        ·exact hD1 s e
        ·obtain rfl : s = r + 1 := by omega
         rw [← hlead]; exact hz
       have sy := (Dt.syl (A := A) r hD2).step
       have bL := det_bl hs hn (show r ≤ n by omega)
       have hL0 := hD2 r (by omega)
       repeat (first
        | refine wp_seqQ ?_ | refine wp_blockQ ?_ | refine wp_scopeQ ?_
        | ((first | refine wp_skipQ ?_ | refine wp_labelQ ?_ | refine wp_exitQ ?_ | refine wp_retQ ?_); simp only [kQ, Nat.reduceEqDiff, reduceIte])
        | ((fail_if_success refine wp_reg (id := 20) B ?_); (first | refine wp_dreg B (id := 17) [0, 0, 0, 0, 0, 0, 48, 112, 0, 0, 768, 1792, 4083, 8179, 16383, 32767] (by kernel_rfl) ?_ | refine wp_dreg B (id := 25) [0, 0, 3, 7, 0, 31, 63, 0, 0, 384, 896, 0, 3968, 8064, 16383, 0, 65535] (by kernel_rfl) ?_ | refine wp_dreg B (id := 26) [0, 0, 3, 7, 0, 31, 63, 0, 0, 384, 896, 0, 3968, 8064, 16383, 0, 65535] (by kernel_rfl) ?_ | refine wp_dreg B (id := 27) [0, 0, 3, 7, 0, 0, 0, 64, 224, 0, 992, 2047, 4095] (by kernel_rfl) ?_ | refine wp_dreg B (id := 35) [0, 0, 1, 7] (by kernel_rfl) ?_ | refine wp_reg B ?_); simp (disch := omega) only [kW, kG, Nat.reduceEqDiff, reduceIte, Nat.reduceLT, Nat.reduceLeDiff, Nat.reduceAdd, Nat.reduceSub, Nat.reduceMul, Nat.reducePow, Nat.reduceDiv, Nat.reduceMod, evIndexAddr, TD.agg, evFieldAddr, binA_eqB ty4, binA_neB ty4, ty2, ty3, ty4, ty57, ty59, ty77, ty89, ty92, fn54, fn63, fn64, fn67, fn66, fn65, c_EfOf, EfOf_ans, c_EfCols, EfCols_ans, c_EfMul, EfMul_ans, c_EfNeg, EfNeg_ans, c_EfAdd, EfAdd_ans, c_EfExact, EfExact_ans, t0, t3, t4, t6, t7, t8, t9, t10, gB, gr, gR, glr, gm, rnav_len])
        | refine wp_condT rfl ?_ | refine wp_condF rfl ?_)
       clear gv gm glr gR gr gB
       refine wp_loopQ (fun k s => ∃ (i : Nat) (tm : Nat → Option AV) (h' : Hp) (L : Nat → List AV), s = ⟨tm, 174, h', []⟩ ∧ k = n - i ∧ r < i ∧ i ≤ n ∧ tm 0 = some (rmat n A) ∧ tm 3 = some (.ptr q3 0) ∧ tm 4 = some (.slice Bk 0 n (.toEnd 1)) ∧ tm 6 = some (.ptr h.next 0) ∧ tm 7 = some (.flat (.bool false)) ∧
        tm 8 = some (.flat (.int .i64 (r : Int))) ∧ tm 9 = some (.flat (.int .i64 (r : Int))) ∧ tm 11 = some (.flat (.int .i64 (i : Int))) ∧ Pe h' n h.next q3 Bk ρ L (det r A) (mid A r i 0) (fun x y => r ≤ x ∧ r ≤ y ∧ (r < x → x < i → r < y))) (n - (r + 1)) ?_ ?_
       ·refine ⟨r + 1, _, h', L, rfl, rfl, by omega, by omega, t0, t3, t4, t6, t7, t8, t9, rfl, P.M, P.lb, P.l3, P.lt, P.nb, P.nr, fun x y hx hy hl => ?_⟩
        rw [show mid A r (r + 1) 0 x y = mi A r x y by unfold mid; rw [if_neg (by omega)]]
        exact P.val x y hx hy ⟨hl.1, hl.2.1⟩
       ·rintro k s ⟨i, tm, h', L, rfl, rfl, hi0, hi, t0, t3, t4, t6, t7, t8, t9, t11, P⟩
        repeat (first
         | refine wp_seqQ ?_ | refine wp_blockQ ?_ | refine wp_scopeQ ?_
         | ((first | refine wp_skipQ ?_ | refine wp_labelQ ?_ | refine wp_exitQ ?_ | refine wp_retQ ?_); simp only [kQ, Nat.reduceEqDiff, reduceIte])
         | ((first | refine wp_dreg B (id := 17) [0, 0, 0, 0, 0, 0, 48, 112, 0, 0, 768, 1792, 4083, 8179, 16383, 32767] (by kernel_rfl) ?_ | refine wp_dreg B (id := 25) [0, 0, 3, 7, 0, 31, 63, 0, 0, 384, 896, 0, 3968, 8064, 16383, 0, 65535] (by kernel_rfl) ?_ | refine wp_dreg B (id := 26) [0, 0, 3, 7, 0, 31, 63, 0, 0, 384, 896, 0, 3968, 8064, 16383, 0, 65535] (by kernel_rfl) ?_ | refine wp_dreg B (id := 27) [0, 0, 3, 7, 0, 0, 0, 64, 224, 0, 992, 2047, 4095] (by kernel_rfl) ?_ | refine wp_dreg B (id := 35) [0, 0, 1, 7] (by kernel_rfl) ?_ | refine wp_reg B ?_); simp (disch := omega) only [kW, kG, Nat.reduceEqDiff, reduceIte, Nat.reduceLT, Nat.reduceLeDiff, Nat.reduceAdd, Nat.reduceSub, Nat.reduceMul, Nat.reducePow, Nat.reduceDiv, Nat.reduceMod, evIndexAddr, TD.agg, evFieldAddr, binA_eqB ty4, binA_neB ty4, ty2, ty3, ty4, ty57, ty59, ty77, ty89, ty92, fn54, fn63, fn64, fn67, fn66, fn65, c_EfOf, EfOf_ans, c_EfCols, EfCols_ans, c_EfMul, EfMul_ans, c_EfNeg, EfNeg_ans, c_EfAdd, EfAdd_ans, c_EfExact, EfExact_ans, t0, t3, t4, t6, t7, t8, t9, t11])
         | refine wp_condT rfl ?_ | refine wp_condF rfl ?_)
        refine wp_if rfl (fun ilt => ?_) (fun ige => ?_)
        ·have hin : i < n := by omega
         repeat (first
          | refine wp_seqQ ?_ | refine wp_blockQ ?_ | refine wp_scopeQ ?_
          | ((first | refine wp_skipQ ?_ | refine wp_labelQ ?_ | refine wp_exitQ ?_ | refine wp_retQ ?_); simp only [kQ, Nat.reduceEqDiff, reduceIte])
          | ((first | refine wp_dreg B (id := 17) [0, 0, 0, 0, 0, 0, 48, 112, 0, 0, 768, 1792, 4083, 8179, 16383, 32767] (by kernel_rfl) ?_ | refine wp_dreg B (id := 25) [0, 0, 3, 7, 0, 31, 63, 0, 0, 384, 896, 0, 3968, 8064, 16383, 0, 65535] (by kernel_rfl) ?_ | refine wp_dreg B (id := 26) [0, 0, 3, 7, 0, 31, 63, 0, 0, 384, 896, 0, 3968, 8064, 16383, 0, 65535] (by kernel_rfl) ?_ | refine wp_dreg B (id := 27) [0, 0, 3, 7, 0, 0, 0, 64, 224, 0, 992, 2047, 4095] (by kernel_rfl) ?_ | refine wp_dreg B (id := 35) [0, 0, 1, 7] (by kernel_rfl) ?_ | refine wp_reg B ?_); simp (disch := omega) only [kW, kG, Nat.reduceEqDiff, reduceIte, Nat.reduceLT, Nat.reduceLeDiff, Nat.reduceAdd, Nat.reduceSub, Nat.reduceMul, Nat.reducePow, Nat.reduceDiv, Nat.reduceMod, evIndexAddr, TD.agg, evFieldAddr, binA_eqB ty4, binA_neB ty4, ty2, ty3, ty4, ty57, ty59, ty77, ty89, ty92, fn54, fn63, fn64, fn67, fn66, fn65, c_EfOf, EfOf_ans, c_EfCols, EfCols_ans, c_EfMul, EfMul_ans, c_EfNeg, EfNeg_ans, c_EfAdd, EfAdd_ans, c_EfExact, EfExact_ans, t0, t3, t4, t6, t7, t8, t9, t11])
          | refine wp_condT rfl ?_ | refine wp_condF rfl ?_)
         refine wp_loopQ (fun k' s => ∃ (k : Nat) (tm : Nat → Option AV) (h' : Hp) (L : Nat → List AV), s = ⟨tm, 174, h', []⟩ ∧ k' = n - k ∧ r < k ∧ k ≤ n ∧ tm 0 = some (rmat n A) ∧ tm 3 = some (.ptr q3 0) ∧ tm 4 = some (.slice Bk 0 n (.toEnd 1)) ∧ tm 6 = some (.ptr h.next 0) ∧ tm 7 = some (.flat (.bool false)) ∧
          tm 8 = some (.flat (.int .i64 (r : Int))) ∧ tm 9 = some (.flat (.int .i64 (r : Int))) ∧ tm 11 = some (.flat (.int .i64 (i : Int))) ∧ tm 12 = some (.flat (.int .i64 (k : Int))) ∧ Pe h' n h.next q3 Bk ρ L (det r A) (mid A r i k) (fun x y => r ≤ x ∧ r ≤ y ∧ (r < x → x < i → r < y))) (n - (r + 1)) ?_ ?_
         ·refine ⟨r + 1, _, h', L, rfl, rfl, by omega, by omega, t0, t3, t4, t6, t7, t8, t9, t11, rfl, P.M, P.lb, P.l3, P.lt, P.nb, P.nr, fun x y hx hy hl => ?_⟩
          rw [show mid A r i (r + 1) x y = mid A r i 0 x y by
           unfold mid
           by_cases c : r < x ∧ r < y ∧ x < i
           ·rw [if_pos ⟨c.1, c.2.1, .inl c.2.2⟩, if_pos ⟨c.1, c.2.1, .inl c.2.2⟩]
           ·rw [if_neg (by omega), if_neg (by omega)]]
          exact P.val x y hx hy hl
         ·rintro k' s ⟨k, tm, h', L, rfl, rfl, hk0, hk, t0, t3, t4, t6, t7, t8, t9, t11, t12, P⟩
          have gB := P.M.top
          have gi := range_get (fun x => AV.slice (ρ x) 0 n (.toEnd 2)) hin
          repeat (first
           | refine wp_seqQ ?_ | refine wp_blockQ ?_ | refine wp_scopeQ ?_
           | ((first | refine wp_skipQ ?_ | refine wp_labelQ ?_ | refine wp_exitQ ?_ | refine wp_retQ ?_); simp only [kQ, Nat.reduceEqDiff, reduceIte])
           | ((first | refine wp_dreg B (id := 17) [0, 0, 0, 0, 0, 0, 48, 112, 0, 0, 768, 1792, 4083, 8179, 16383, 32767] (by kernel_rfl) ?_ | refine wp_dreg B (id := 25) [0, 0, 3, 7, 0, 31, 63, 0, 0, 384, 896, 0, 3968, 8064, 16383, 0, 65535] (by kernel_rfl) ?_ | refine wp_dreg B (id := 26) [0, 0, 3, 7, 0, 31, 63, 0, 0, 384, 896, 0, 3968, 8064, 16383, 0, 65535] (by kernel_rfl) ?_ | refine wp_dreg B (id := 27) [0, 0, 3, 7, 0, 0, 0, 64, 224, 0, 992, 2047, 4095] (by kernel_rfl) ?_ | refine wp_dreg B (id := 35) [0, 0, 1, 7] (by kernel_rfl) ?_ | refine wp_reg B ?_); simp (disch := omega) only [kW, kG, Nat.reduceEqDiff, reduceIte, Nat.reduceLT, Nat.reduceLeDiff, Nat.reduceAdd, Nat.reduceSub, Nat.reduceMul, Nat.reducePow, Nat.reduceDiv, Nat.reduceMod, evIndexAddr, TD.agg, evFieldAddr, binA_eqB ty4, binA_neB ty4, ty2, ty3, ty4, ty57, ty59, ty77, ty89, ty92, fn54, fn63, fn64, fn67, fn66, fn65, c_EfOf, EfOf_ans, c_EfCols, EfCols_ans, c_EfMul, EfMul_ans, c_EfNeg, EfNeg_ans, c_EfAdd, EfAdd_ans, c_EfExact, EfExact_ans, t0, t3, t4, t6, t7, t8, t9, t11, t12, gB, gi])
           | refine wp_condT rfl ?_ | refine wp_condF rfl ?_)
          refine wp_if rfl (fun klt => ?_) (fun kge => ?_)
          ·have hkn : k < n := by omega
           have gr := range_get (fun x => AV.slice (ρ x) 0 n (.toEnd 2)) jlt
           have gR := P.M.row r jlt
           have gI := P.M.row i hin
           have glr := P.M.len r jlt
           have gli := P.M.len i hin
           have m1 : mid A r i k r r = mi A r r r := by unfold mid; rw [if_neg (by omega)]
           have m2 : mid A r i k i k = mi A r i k := by unfold mid; rw [if_neg (by omega)]
           have m3 : mid A r i k i r = mi A r i r := by unfold mid; rw [if_neg (by omega)]
           have m4 : mid A r i k r k = mi A r r k := by unfold mid; rw [if_neg (by omega)]
           have v1 : ((L r).drop (r * 2)).take 2 = [zs (mi A r r r), rzm (mi A r r r)] := m1 ▸ P.val r r jlt jlt (by omega)
           have v2 : ((L i).drop (k * 2)).take 2 = [zs (mi A r i k), rzm (mi A r i k)] := m2 ▸ P.val i k hin hkn (by omega)
           have v3 : ((L i).drop (r * 2)).take 2 = [zs (mi A r i r), rzm (mi A r i r)] := m3 ▸ P.val i r hin jlt (by omega)
           have v4 : ((L r).drop (k * 2)).take 2 = [zs (mi A r r k), rzm (mi A r r k)] := m4 ▸ P.val r k jlt hkn (by omega)
           have c1 := mi_bl hs hn jlt jlt jlt
           have c2 := mi_bl hs hn jlt hin hkn
           have c3 := mi_bl hs hn jlt hin jlt
           have c4 := mi_bl hs hn jlt jlt hkn
           have d1 := bl_prod c1 c2
           have d2 := bl_prod c3 c4
           have d4 := bl_sub2 d1 d2
           have sk := sy i k
           rw [← hlead] at sk
           rw [Int.sub_eq_add_neg] at sk d4
           have d5 : bl (-(mi A r i r * mi A r r k)).natAbs ≤ 128 + 128 := by rw [Int.natAbs_neg]; exact d2
           have hE : (mi A r r r * mi A r i k + -(mi A r i r * mi A r r k)) % det r A = 0 := by rw [← sk]; exact Int.mul_emod_right _ _
           have hQ : (mi A r r r * mi A r i k + -(mi A r i r * mi A r r k)) / det r A = mi A (r + 1) i k := by rw [← sk]; exact Int.mul_ediv_cancel_left _ hL0
           have k1 := fun h => EfMul_ans (mi A r r r) (mi A r i k) h (by omega) (by omega)
           have k2 := fun h => EfMul_ans (mi A r i r) (mi A r r k) h (by omega) (by omega)
           have k3 := fun h => EfAdd_ans (mi A r r r * mi A r i k) (-(mi A r i r * mi A r r k)) h (by omega) (by omega)
           have k4 := fun h => EfExact_ans (mi A r r r * mi A r i k + -(mi A r i r * mi A r r k)) (det r A) h (by omega) (by omega) hL0 hE
           rw [hQ] at k4
           have lB := P.M.blt
           have lR := P.M.rlt r jlt
           have lI := P.M.rlt i hin
           have lq := P.lb
           have l3 := P.l3
           have lt := P.lt
           have nb := P.nb
           clear sk hE hQ d1 d2 d4 d5 c1 c2 c3 c4
           repeat (first
            | refine wp_seqQ ?_ | refine wp_blockQ ?_ | refine wp_scopeQ ?_
            | ((first | refine wp_skipQ ?_ | refine wp_labelQ ?_ | refine wp_exitQ ?_ | refine wp_retQ ?_); simp only [kQ, Nat.reduceEqDiff, reduceIte])
            | ((first | refine wp_dreg B (id := 17) [0, 0, 0, 0, 0, 0, 48, 112, 0, 0, 768, 1792, 4083, 8179, 16383, 32767] (by kernel_rfl) ?_ | refine wp_dreg B (id := 25) [0, 0, 3, 7, 0, 31, 63, 0, 0, 384, 896, 0, 3968, 8064, 16383, 0, 65535] (by kernel_rfl) ?_ | refine wp_dreg B (id := 26) [0, 0, 3, 7, 0, 31, 63, 0, 0, 384, 896, 0, 3968, 8064, 16383, 0, 65535] (by kernel_rfl) ?_ | refine wp_dreg B (id := 27) [0, 0, 3, 7, 0, 0, 0, 64, 224, 0, 992, 2047, 4095] (by kernel_rfl) ?_ | refine wp_dreg B (id := 35) [0, 0, 1, 7] (by kernel_rfl) ?_ | refine wp_reg B ?_); simp (disch := omega) only [kW, kG, Nat.reduceEqDiff, reduceIte, Nat.reduceLT, Nat.reduceLeDiff, Nat.reduceAdd, Nat.reduceSub, Nat.reduceMul, Nat.reducePow, Nat.reduceDiv, Nat.reduceMod, evIndexAddr, TD.agg, evFieldAddr, binA_eqB ty4, binA_neB ty4, ty2, ty3, ty4, ty57, ty59, ty77, ty89, ty92, fn54, fn63, fn64, fn67, fn66, fn65, c_EfOf, EfOf_ans, c_EfCols, EfCols_ans, c_EfMul, EfMul_ans, c_EfNeg, EfNeg_ans, c_EfAdd, EfAdd_ans, c_EfExact, EfExact_ans, t0, t3, t4, t6, t7, t8, t9, t11, t12, gB, gr, gi, gR, gI, glr, gli, v1, v2, v3, v4, rzav_fold, rzav_cells, rnav_one, rnav_clean, rnav_cells, k1, k2, k3, k4, lq])
            | refine wp_condT rfl ?_ | refine wp_condF rfl ?_)
           have nI := P.nr i hin
           refine ⟨_, ?_, k + 1, _, _, (fun x => if x = i then ((L i).set (k * 2) (zs (mi A (r + 1) i k))).set (k * 2 + 1) (rzm (mi A (r + 1) i k)) else L x), rfl, rfl, by omega, by omega, t0, t3, t4, t6, t7, t8, t9, t11, rfl,
            ⟨P.M.turn hin (by simp only; omega) (fun b hb hne => ?_) ?_ (by simp [gli]), ?_, ?_, by simp only; omega, P.nb, P.nr, fun x y hx hy hl => ?_⟩⟩
           ·omega
           ·simp (disch := omega) only [upd_ne]
           ·simp only [upd_eq]
           ·simp (disch := omega) only [upd_ne]; exact lq
           ·simp (disch := omega) only [upd_ne]; exact l3
           ·by_cases e : x = i
            ·subst e
             rw [if_pos rfl]
             by_cases e2 : y = k
             ·subst e2
              rw [show mid A r x (y + 1) x y = mi A (r + 1) x y by unfold mid; rw [if_pos (by omega)]]
              exact Ml.At.set (by omega) _ _
             ·rw [show mid A r x (k + 1) x y = mid A r x k x y by
                unfold mid
                by_cases c : r < x ∧ r < y ∧ (x < x ∨ x = x ∧ y < k)
                ·rw [if_pos c, if_pos (by omega)]
                ·rw [if_neg c, if_neg (by omega)]]
              exact Ml.At.other e2 (P.val x y hx hy hl) _ _
            ·rw [if_neg e, show mid A r i (k + 1) x y = mid A r i k x y by
               unfold mid
               by_cases c : r < x ∧ r < y ∧ (x < i ∨ x = i ∧ y < k)
               ·rw [if_pos c, if_pos (by omega)]
               ·rw [if_neg c, if_neg (by omega)]]
             exact P.val x y hx hy hl
          ·have gI := P.M.row i hin
           have gli := P.M.len i hin
           have lB := P.M.blt
           have lI := P.M.rlt i hin
           have lt := P.lt
           have nI := P.nr i hin
           repeat (first
            | refine wp_seqQ ?_ | refine wp_blockQ ?_ | refine wp_scopeQ ?_
            | ((first | refine wp_skipQ ?_ | refine wp_labelQ ?_ | refine wp_exitQ ?_ | refine wp_retQ ?_); simp only [kQ, Nat.reduceEqDiff, reduceIte])
            | ((first | refine wp_dreg B (id := 17) [0, 0, 0, 0, 0, 0, 48, 112, 0, 0, 768, 1792, 4083, 8179, 16383, 32767] (by kernel_rfl) ?_ | refine wp_dreg B (id := 25) [0, 0, 3, 7, 0, 31, 63, 0, 0, 384, 896, 0, 3968, 8064, 16383, 0, 65535] (by kernel_rfl) ?_ | refine wp_dreg B (id := 26) [0, 0, 3, 7, 0, 31, 63, 0, 0, 384, 896, 0, 3968, 8064, 16383, 0, 65535] (by kernel_rfl) ?_ | refine wp_dreg B (id := 27) [0, 0, 3, 7, 0, 0, 0, 64, 224, 0, 992, 2047, 4095] (by kernel_rfl) ?_ | refine wp_dreg B (id := 35) [0, 0, 1, 7] (by kernel_rfl) ?_ | refine wp_reg B ?_); simp (disch := omega) only [kW, kG, Nat.reduceEqDiff, reduceIte, Nat.reduceLT, Nat.reduceLeDiff, Nat.reduceAdd, Nat.reduceSub, Nat.reduceMul, Nat.reducePow, Nat.reduceDiv, Nat.reduceMod, evIndexAddr, TD.agg, evFieldAddr, binA_eqB ty4, binA_neB ty4, ty2, ty3, ty4, ty57, ty59, ty77, ty89, ty92, fn54, fn63, fn64, fn67, fn66, fn65, c_EfOf, EfOf_ans, c_EfCols, EfCols_ans, c_EfMul, EfMul_ans, c_EfNeg, EfNeg_ans, c_EfAdd, EfAdd_ans, c_EfExact, EfExact_ans, t0, t3, t4, t6, t7, t8, t9, t11, t12, gB, gi, gI, gli])
            | refine wp_condT rfl ?_ | refine wp_condF rfl ?_)
           refine ⟨_, ?_, i + 1, _, _, (fun x => if x = i then ((L i).set (r * 2) (.flat (.bool false))).set (r * 2 + 1) (.flat (.slice none 0 0)) else L x), rfl, rfl, by omega, by omega, t0, t3, t4, t6, t7, t8, t9, rfl,
            ⟨P.M.turn hin (Nat.le_refl _) (fun b hb hne => ?_) ?_ (by simp [gli]), ?_, ?_, lt, P.nb, P.nr, fun x y hx hy hl => ?_⟩⟩
           ·omega
           ·simp (disch := omega) only [upd_ne]
           ·simp only [upd_eq]
           ·simp (disch := omega) only [upd_ne]; exact P.lb
           ·simp (disch := omega) only [upd_ne]; exact P.l3
           ·rw [show mid A r (i + 1) 0 x y = mid A r i k x y by
              unfold mid
              by_cases c : r < x ∧ r < y ∧ (x < i ∨ x = i ∧ y < k)
              ·rw [if_pos c, if_pos (by omega)]
              ·rw [if_neg c, if_neg (by omega)]]
            by_cases e : x = i
            ·subst e
             rw [if_pos rfl]
             exact Ml.At.other (show y ≠ r by omega) (P.val x y hx hy (by omega)) _ _
            ·rw [if_neg e]
             exact P.val x y hx hy (by omega)
        ·have gB := P.M.top
         have gr := range_get (fun x => AV.slice (ρ x) 0 n (.toEnd 2)) jlt
         have gR := P.M.row r jlt
         have glr := P.M.len r jlt
         have m1 : mid A r i 0 r r = mi A r r r := by unfold mid; rw [if_neg (by omega)]
         have v1 : ((L r).drop (r * 2)).take 2 = [zs (mi A r r r), rzm (mi A r r r)] := m1 ▸ P.val r r jlt jlt (by omega)
         have lq := P.lb
         have lt := P.lt
         have nb := P.nb
         repeat (first
          | refine wp_seqQ ?_ | refine wp_blockQ ?_ | refine wp_scopeQ ?_
          | ((first | refine wp_skipQ ?_ | refine wp_labelQ ?_ | refine wp_exitQ ?_ | refine wp_retQ ?_); simp only [kQ, Nat.reduceEqDiff, reduceIte])
          | ((first | refine wp_dreg B (id := 17) [0, 0, 0, 0, 0, 0, 48, 112, 0, 0, 768, 1792, 4083, 8179, 16383, 32767] (by kernel_rfl) ?_ | refine wp_dreg B (id := 25) [0, 0, 3, 7, 0, 31, 63, 0, 0, 384, 896, 0, 3968, 8064, 16383, 0, 65535] (by kernel_rfl) ?_ | refine wp_dreg B (id := 26) [0, 0, 3, 7, 0, 31, 63, 0, 0, 384, 896, 0, 3968, 8064, 16383, 0, 65535] (by kernel_rfl) ?_ | refine wp_dreg B (id := 27) [0, 0, 3, 7, 0, 0, 0, 64, 224, 0, 992, 2047, 4095] (by kernel_rfl) ?_ | refine wp_dreg B (id := 35) [0, 0, 1, 7] (by kernel_rfl) ?_ | refine wp_reg B ?_); simp (disch := omega) only [kW, kG, Nat.reduceEqDiff, reduceIte, Nat.reduceLT, Nat.reduceLeDiff, Nat.reduceAdd, Nat.reduceSub, Nat.reduceMul, Nat.reducePow, Nat.reduceDiv, Nat.reduceMod, evIndexAddr, TD.agg, evFieldAddr, binA_eqB ty4, binA_neB ty4, ty2, ty3, ty4, ty57, ty59, ty77, ty89, ty92, fn54, fn63, fn64, fn67, fn66, fn65, c_EfOf, EfOf_ans, c_EfCols, EfCols_ans, c_EfMul, EfMul_ans, c_EfNeg, EfNeg_ans, c_EfAdd, EfAdd_ans, c_EfExact, EfExact_ans, t0, t3, t4, t6, t7, t8, t9, t11, gB, gr, gR, glr, v1, lq, rzav_fold, rzav_cells, rnav_one, rnav_clean, rnav_cells])
          | refine wp_condT rfl ?_ | refine wp_condF rfl ?_)
         refine ⟨_, ?_, r + 1, r + 1, _, _, L, rfl, rfl, by omega, t0, t3, t4, t6, t7, rfl, rfl, ⟨P.M.grow (Nat.le_refl _) (fun b hb hc => ?_), ?_, ?_, lt, P.nb, P.nr, fun x y hx hy hl => ?_⟩, .inl ⟨rfl, hD2⟩⟩
         ·omega
         ·have hne : b ≠ h.next := by
            rcases hc with rfl | ⟨x, hx, rfl⟩
            ·exact fun e => P.nb.1 e.symm
            ·exact fun e => (P.nr x hx).1 e.symm
          simp (disch := omega) only [upd_ne]
         ·rw [← hlead]
          simp only [upd_eq]
         ·have := P.nb.2.2
          simp (disch := omega) only [upd_ne]; exact P.l3
         ·rw [show mi A (r + 1) x y = mid A r i 0 x y by unfold mid; rw [if_pos (by omega)]]
          exact P.val x y hx hy (by omega)
    ·have lq := P.lb
     have l3 := P.l3
     have lt := P.lt
     have nb := P.nb
     rcases hrj with ⟨rfl, hD1⟩ | ⟨rfl, hrn, hz⟩
     ·have ern : r = n := by omega
      subst ern
      rw [if_neg (hD1 r (Nat.le_refl _)), if_neg (hD1 r (Nat.le_refl _))]
      repeat (first
       | refine wp_seqQ ?_ | refine wp_blockQ ?_ | refine wp_scopeQ ?_
       | ((first | refine wp_skipQ ?_ | refine wp_labelQ ?_ | refine wp_exitQ ?_ | refine wp_retQ ?_); simp only [kQ, Nat.reduceEqDiff, reduceIte])
       | ((first | refine wp_dreg B (id := 17) [0, 0, 0, 0, 0, 0, 48, 112, 0, 0, 768, 1792, 4083, 8179, 16383, 32767] (by kernel_rfl) ?_ | refine wp_dreg B (id := 25) [0, 0, 3, 7, 0, 31, 63, 0, 0, 384, 896, 0, 3968, 8064, 16383, 0, 65535] (by kernel_rfl) ?_ | refine wp_dreg B (id := 26) [0, 0, 3, 7, 0, 31, 63, 0, 0, 384, 896, 0, 3968, 8064, 16383, 0, 65535] (by kernel_rfl) ?_ | refine wp_dreg B (id := 27) [0, 0, 3, 7, 0, 0, 0, 64, 224, 0, 992, 2047, 4095] (by kernel_rfl) ?_ | refine wp_dreg B (id := 35) [0, 0, 1, 7] (by kernel_rfl) ?_ | refine wp_reg B ?_); simp (disch := omega) only [kW, kG, Nat.reduceEqDiff, reduceIte, Nat.reduceLT, Nat.reduceLeDiff, Nat.reduceAdd, Nat.reduceSub, Nat.reduceMul, Nat.reducePow, Nat.reduceDiv, Nat.reduceMod, evIndexAddr, TD.agg, evFieldAddr, binA_eqB ty4, binA_neB ty4, ty2, ty3, ty4, ty57, ty59, ty77, ty89, ty92, fn54, fn63, fn64, fn67, fn66, fn65, c_EfOf, EfOf_ans, c_EfCols, EfCols_ans, c_EfMul, EfMul_ans, c_EfNeg, EfNeg_ans, c_EfAdd, EfAdd_ans, c_EfExact, EfExact_ans, t0, t3, t4, t6, t7, t8, t9, kCol, lq, l3, rzav_fold, rzav_cells, rnav_one, rnav_clean, rnav_cells])
       | refine wp_condT rfl ?_ | refine wp_condF rfl ?_)
      simp (disch := omega) only [kS, Nat.reduceEqDiff, reduceIte, Nat.reduceLT, Nat.reduceLeDiff, Nat.reduceAdd, Nat.reduceSub, Nat.reduceMul, Nat.reducePow, Nat.reduceDiv, Nat.reduceMod, evIndexAddr, TD.agg, evFieldAddr, binA_eqB ty4, binA_neB ty4, ty2, ty3, ty4, ty57, ty59, ty77, ty89, ty92, fn54, fn63, fn64, fn67, fn66, fn65, c_EfOf, EfOf_ans, c_EfCols, EfCols_ans, c_EfMul, EfMul_ans, c_EfNeg, EfNeg_ans, c_EfAdd, EfAdd_ans, c_EfExact, EfExact_ans, t3, rzav_fold]
     ·rw [if_pos hz, if_pos hz]
      have e1 : (j : Int) - 1 = (r : Int) := by omega
      repeat (first
       | refine wp_seqQ ?_ | refine wp_blockQ ?_ | refine wp_scopeQ ?_
       | ((first | refine wp_skipQ ?_ | refine wp_labelQ ?_ | refine wp_exitQ ?_ | refine wp_retQ ?_); simp only [kQ, Nat.reduceEqDiff, reduceIte])
       | ((first | refine wp_dreg B (id := 17) [0, 0, 0, 0, 0, 0, 48, 112, 0, 0, 768, 1792, 4083, 8179, 16383, 32767] (by kernel_rfl) ?_ | refine wp_dreg B (id := 25) [0, 0, 3, 7, 0, 31, 63, 0, 0, 384, 896, 0, 3968, 8064, 16383, 0, 65535] (by kernel_rfl) ?_ | refine wp_dreg B (id := 26) [0, 0, 3, 7, 0, 31, 63, 0, 0, 384, 896, 0, 3968, 8064, 16383, 0, 65535] (by kernel_rfl) ?_ | refine wp_dreg B (id := 27) [0, 0, 3, 7, 0, 0, 0, 64, 224, 0, 992, 2047, 4095] (by kernel_rfl) ?_ | refine wp_dreg B (id := 35) [0, 0, 1, 7] (by kernel_rfl) ?_ | refine wp_reg B ?_); simp (disch := omega) only [kW, kG, Nat.reduceEqDiff, reduceIte, Nat.reduceLT, Nat.reduceLeDiff, Nat.reduceAdd, Nat.reduceSub, Nat.reduceMul, Nat.reducePow, Nat.reduceDiv, Nat.reduceMod, evIndexAddr, TD.agg, evFieldAddr, binA_eqB ty4, binA_neB ty4, ty2, ty3, ty4, ty57, ty59, ty77, ty89, ty92, fn54, fn63, fn64, fn67, fn66, fn65, c_EfOf, EfOf_ans, c_EfCols, EfCols_ans, c_EfMul, EfMul_ans, c_EfNeg, EfNeg_ans, c_EfAdd, EfAdd_ans, c_EfExact, EfExact_ans, t0, t3, t4, t6, t7, t8, t9, kCol, lq, l3, rzav_fold, rzav_cells, rnav_one, rnav_clean, rnav_cells])
       | refine wp_condT rfl ?_ | refine wp_condF rfl ?_)
      simp (disch := omega) only [kS, Nat.reduceEqDiff, reduceIte, Nat.reduceLT, Nat.reduceLeDiff, Nat.reduceAdd, Nat.reduceSub, Nat.reduceMul, Nat.reducePow, Nat.reduceDiv, Nat.reduceMod, evIndexAddr, TD.agg, evFieldAddr, binA_eqB ty4, binA_neB ty4, ty2, ty3, ty4, ty57, ty59, ty77, ty89, ty92, fn54, fn63, fn64, fn67, fn66, fn65, c_EfOf, EfOf_ans, c_EfCols, EfCols_ans, c_EfMul, EfMul_ans, c_EfNeg, EfNeg_ans, c_EfAdd, EfAdd_ans, c_EfExact, EfExact_ans, t3, e1]
end Go.Proofs.Ytllocgmbjjoemaa.Iv
end
section
set_option maxHeartbeats 16000000
set_option linter.unusedVariables false
set_option linter.unusedSimpArgs false
set_option maxRecDepth 10000
namespace Go.Proofs.Ytllocgmbjjoemaa.Iv
open Go Go.Iv Go.RowKit Go.Proofs.Ytllocgmbjjoemaa.Nv
open Dg (bl)
open Dt (det mi)
theorem steps_sem' (n : Nat) (hn0 : 0 < n) (hn : n ≤ 8) (A : Nat → Nat → Int) (hs : ∀ i j, i < n → j < n → -16384 ≤ A i j ∧ A i j ≤ 16384) (hD : ∀ s, s < n → det s A ≠ 0) (h : Hp) :
    SemCall Try.prog 53 [rmat n A] h (.ret (.tuple [.flat (.int .i64 (if det n A = 0 then (n : Int) - 1 else n)), rzav (det n A)])) h := by
 refine SemCall.weak (steps_sem n hn0 hn A hs hD h) fun ρ x hx => ?_
 by_cases hz : det n A = 0
 ·rw [if_pos hz, if_pos hz] at hx
  rw [if_pos hz, hz]
  simp only [AV.rel] at hx ⊢
  obtain ⟨l, rfl, hl⟩ := hx
  obtain ⟨V1, V2, rfl, h1, h2⟩ := relL2 hl
  exact ⟨_, rfl, relL2mk h1 (rzero_rel ρ V2 h2)⟩
 ·rw [if_neg hz, if_neg hz] at hx
  rw [if_neg hz]; exact hx
noncomputable def EfSteps : Entry Try.prog := Entry.heap 53 fun args h e h' => ∀ (n : Nat) (A : Nat → Nat → Int), args = [rmat n A] → (∀ s, s < n → det s A ≠ 0) → h' = h ∧ ∃ r : Int, e = .ret (.tuple [.flat (.int .i64 r), rzav (det n A)])
theorem flat2_inj {f g : Nat → Int} : ∀ {n : Nat}, rl n f = rl n g → ∀ j, j < n → f j = g j
 | 0, _, j, hj => by omega
 | n + 1, h, j, hj => by
  rw [rl_succ, rl_succ] at h
  have hl : (rl n f).length = (rl n g).length := by rw [rl_length, rl_length]
  obtain ⟨h1, h2⟩ := List.append_inj h hl
  by_cases e : j = n
  ·subst e
   simp only [List.cons.injEq, and_true] at h2
   have : rzav (f j) = rzav (g j) := by simp only [rzav, h2.1, h2.2]
   exact rzav_inj this
  ·exact flat2_inj h1 j (by omega)
theorem rmat_inj2 {n : Nat} {A B : Nat → Nat → Int} (h : rmat n A = rmat n B) : ∀ i j, i < n → j < n → A i j = B i j := fun i j hi hj => by
 simp only [rmat, AV.isl.injEq] at h
 have h1 := congrArg (fun l => l[i]?) h.1
 simp only [rrow_get A hi, rrow_get B hi, Option.some.injEq, AV.isl.injEq] at h1
 exact flat2_inj h1.1 j hj
theorem EfSteps_ans (n : Nat) (hn0 : 0 < n) (hn : n ≤ 8) (A : Nat → Nat → Int) (hs : ∀ i j, i < n → j < n → -16384 ≤ A i j ∧ A i j ≤ 16384) (hD : ∀ s, s < n → det s A ≠ 0) (h : Hp) :
    ∃ r : Int, EfSteps.ans [rmat n A] h = some (.ret (.tuple [.flat (.int .i64 r), rzav (det n A)]), h) := by
 obtain ⟨e2, h2', k5, k6⟩ := Entry.heap_ans (P := Try.prog) (f := 53) (Q := fun args h e h' => ∀ (n : Nat) (A : Nat → Nat → Int), args = [rmat n A] → (∀ s, s < n → det s A ≠ 0) → h' = h ∧ ∃ r : Int, e = .ret (.tuple [.flat (.int .i64 r), rzav (det n A)])) (args := [rmat n A]) (h := h)
  ⟨_, h, steps_sem' n hn0 hn A hs hD h, Hp.Le.refl _, fun m B ha _ => by
   simp only [List.cons.injEq, and_true] at ha
   obtain rfl := rmat_inj ha
   exact ⟨rfl, _, by rw [Dt.det_congr (B := B) fun i j hi hj => rmat_inj2 ha i j hi hj]⟩⟩
 obtain ⟨rfl, r, rfl⟩ := k6 n A rfl hD
 exact ⟨r, k5⟩
theorem fDet_sem (n : Nat) (hn0 : 0 < n) (hn : n ≤ 8) (A : Nat → Nat → Int) (hs : ∀ i j, i < n → j < n → -16384 ≤ A i j ∧ A i j ≤ 16384) (hD : ∀ s, s < n → det s A ≠ 0) (h : Hp) : SemCall Try.prog 44 [rmat n A] h (.ret (rzav (det n A))) h := by
 refine sem_pure tables.ok Try.func44 rfl rfl rfl rfl (by simp [pureL, rmat_pure]) (rzav_pure _) ?_ h
 have B : Base Try.prog tab _ := tabL_base [EfSteps] tables.ok mixed
 generalize hL : tabL [EfSteps] = call at B
 have c_EfSteps : ∀ a h, call 53 a h = EfSteps.ans a h := fun _ _ => hL ▸ rfl
 clear hL
 unfold Try.f44 bodyOf entry; simp only [Option.getD_some, List.length_cons, List.length_nil, Nat.reduceAdd, Nat.reduceSub]
 repeat (first
  | refine wp_seqQ ?_ | refine wp_blockQ ?_ | refine wp_scopeQ ?_
  | ((first | refine wp_skipQ ?_ | refine wp_labelQ ?_ | refine wp_exitQ ?_ | refine wp_retQ ?_); simp only [kQ, Nat.reduceEqDiff, reduceIte])
  | ((fail_if_success refine wp_reg (id := 1) B ?_); refine wp_reg B ?_; simp (disch := omega) only [kW, Nat.reduceEqDiff, reduceIte, Nat.reduceLT, Nat.reduceLeDiff, Nat.reduceAdd, Nat.reduceSub, Nat.reduceMul, Nat.reducePow, Nat.reduceDiv, Nat.reduceMod, evIndexAddr, TD.agg, evFieldAddr, binA_eqB ty4, binA_neB ty4, ty4, ty57, ty59, ty77, ty89, ty92, fn53, c_EfSteps, EfSteps_ans])
  | refine wp_condT rfl ?_ | refine wp_condF rfl ?_)
 generalize hH : Hp.mk _ _ _ = H
 obtain ⟨r, k1⟩ := EfSteps_ans n hn0 hn A hs hD H
 have hm : H.m Hp.empty.next = some (.cells [.flat (.bool false), .flat (.slice none 0 0)] 59 false) := by rw [← hH]; simp only [upd_eq]
 have hx : H.next = Hp.empty.next + 1 := by rw [← hH]
 repeat (first
  | refine wp_seqQ ?_ | refine wp_blockQ ?_ | refine wp_scopeQ ?_
  | ((first | refine wp_skipQ ?_ | refine wp_labelQ ?_ | refine wp_exitQ ?_ | refine wp_retQ ?_); simp only [kQ, Nat.reduceEqDiff, reduceIte])
  | (refine wp_reg B ?_; simp (disch := omega) only [kW, Nat.reduceEqDiff, reduceIte, Nat.reduceLT, Nat.reduceLeDiff, Nat.reduceAdd, Nat.reduceSub, Nat.reduceMul, Nat.reducePow, Nat.reduceDiv, Nat.reduceMod, evIndexAddr, TD.agg, evFieldAddr, binA_eqB ty4, binA_neB ty4, ty4, ty57, ty59, ty77, ty89, ty92, fn53, c_EfSteps, EfSteps_ans, k1, hm, rzav_cells, rnav_one, rnav_clean, rnav_cells, rzav_fold])
  | refine wp_condT rfl ?_ | refine wp_condF rfl ?_)
 simp (disch := omega) only [kS, Nat.reduceEqDiff, reduceIte, Nat.reduceLT, Nat.reduceLeDiff, Nat.reduceAdd, Nat.reduceSub, Nat.reduceMul, Nat.reducePow, Nat.reduceDiv, Nat.reduceMod, evIndexAddr, TD.agg, evFieldAddr, binA_eqB ty4, binA_neB ty4, ty4, ty57, ty59, ty77, ty89, ty92, fn53, c_EfSteps, EfSteps_ans, rzav_fold]
def DetQ (args : List AV) (h : Hp) (e : AEnd) (h' : Hp) : Prop := ∀ (n : Nat) (A : Nat → Nat → Int), args = [rmat n A] → (∀ s, s < n → det s A ≠ 0) → h' = h ∧ e = .ret (rzav (det n A))
noncomputable def EfDet : Entry Try.prog := Entry.heap 44 DetQ
theorem EfDet_ans (n : Nat) (hn0 : 0 < n) (hn : n ≤ 8) (A : Nat → Nat → Int) (hs : ∀ i j, i < n → j < n → -16384 ≤ A i j ∧ A i j ≤ 16384) (hD : ∀ s, s < n → det s A ≠ 0) (h : Hp) : EfDet.ans [rmat n A] h = some (.ret (rzav (det n A)), h) := by
 obtain ⟨e2, h2', k5, k6⟩ := Entry.heap_ans (P := Try.prog) (f := 44) (Q := DetQ) (args := [rmat n A]) (h := h)
  ⟨_, h, fDet_sem n hn0 hn A hs hD h, Hp.Le.refl _, fun m B ha _ => by
   simp only [List.cons.injEq, and_true] at ha
   obtain rfl := rmat_inj ha
   exact ⟨rfl, by rw [Dt.det_congr (B := B) fun i j hi hj => rmat_inj2 ha i j hi hj]⟩⟩
 obtain ⟨rfl, rfl⟩ := k6 n A rfl hD
 exact k5
noncomputable def EcCorner : Entry Try.prog := ⟨45, fun args h e h' => h' = h ∧ ∃ (a : List (List Int)) (n : Nat), args = [irows a, .flat (.int .i64 (n : Int))] ∧ (Sq a) ∧ (a.length ≤ 8) ∧ (∀ i j, i < a.length → j < a.length → -16384 ≤ ent a i j ∧ ent a i j ≤ 16384) ∧ (n ≤ a.length) ∧ (0 < n) ∧ e = .ret (rmat n (ent a)), by
 rintro args h e h' ⟨rfl, a, n, rfl, h1, h2, h3, h4, h5, rfl⟩
 exact ⟨corner_sem a h1 h2 h3 n h4 h5 _, Hp.Le.refl _⟩⟩
theorem EcCorner_ans (a : List (List Int)) (n : Nat) (h : Hp) (h1 : Sq a) (h2 : a.length ≤ 8) (h3 : ∀ i j, i < a.length → j < a.length → -16384 ≤ ent a i j ∧ ent a i j ≤ 16384) (h4 : n ≤ a.length) (h5 : 0 < n) : EcCorner.ans [irows a, .flat (.int .i64 (n : Int))] h = some (.ret (rmat n (ent a)), h) :=
 Entry.one ⟨rfl, a, n, rfl, h1, h2, h3, h4, h5, rfl⟩ fun e h' ⟨hh, a', n', ha, _, _, _, _, _, he⟩ => by simp only [kI, irows_eq] at ha; obtain ⟨rfl, rfl⟩ := ha; exact ⟨he, hh⟩
theorem minor_sem (a : List (List Int)) (n : Nat) (sq : Sq a) (hn : a.length ≤ 8) (hs : ∀ i j, i < a.length → j < a.length → -16384 ≤ ent a i j ∧ ent a i j ≤ 16384) (hk : n ≤ a.length) (hk0 : 0 < n) (hD : ∀ s, s < n → det s (ent a) ≠ 0) (h : Hp) : SemCall Try.prog 32 [irows a, .flat (.int .i64 (n : Int))] h (.ret (rzav (det n (ent a)))) h := by
 refine sem_pure tables.ok Try.func32 rfl rfl rfl rfl (by simp [pureL, irows_pure, AV.pure]) (rzav_pure _) ?_ h
 have B : Base Try.prog tab _ := tabL_base [EcCorner, EfDet] tables.ok mixed
 generalize hL : tabL [EcCorner, EfDet] = call at B
 have c_EcCorner : ∀ a h, call 45 a h = EcCorner.ans a h := fun _ _ => hL ▸ rfl
 have c_EfDet : ∀ a h, call 44 a h = EfDet.ans a h := fun _ _ => hL ▸ rfl
 clear hL
 have k1 := fun h => EcCorner_ans a n h sq hn hs hk hk0
 have k2 := fun h => EfDet_ans n hk0 (by omega) (ent a) (fun i j hi hj => hs i j (by omega) (by omega)) hD h
 unfold Try.f32 bodyOf entry; simp only [Option.getD_some, List.length_cons, List.length_nil, Nat.reduceAdd, Nat.reduceSub]
 repeat (first
  | refine wp_seqQ ?_ | refine wp_blockQ ?_ | refine wp_scopeQ ?_
  | ((first | refine wp_skipQ ?_ | refine wp_labelQ ?_ | refine wp_exitQ ?_ | refine wp_retQ ?_); simp only [kQ, Nat.reduceEqDiff, reduceIte])
  | (refine wp_reg B ?_; simp (disch := omega) only [kW, Nat.reduceEqDiff, reduceIte, Nat.reduceLT, Nat.reduceLeDiff, Nat.reduceAdd, Nat.reduceSub, Nat.reduceMul, Nat.reducePow, Nat.reduceDiv, Nat.reduceMod, evIndexAddr, TD.agg, evFieldAddr, binA_eqB ty4, binA_neB ty4, ty2, ty3, ty4, ty22, ty36, ty57, ty59, ty77, ty89, ty92, fn45, fn44, c_EcCorner, EcCorner_ans, c_EfDet, EfDet_ans, k1, k2, rzav_cells, rnav_one, rnav_clean, rnav_cells])
  | refine wp_condT rfl ?_ | refine wp_condF rfl ?_)
 simp (disch := omega) only [kS, Nat.reduceEqDiff, reduceIte, Nat.reduceLT, Nat.reduceLeDiff, Nat.reduceAdd, Nat.reduceSub, Nat.reduceMul, Nat.reducePow, Nat.reduceDiv, Nat.reduceMod, evIndexAddr, TD.agg, evFieldAddr, binA_eqB ty4, binA_neB ty4, ty2, ty3, ty4, ty22, ty36, ty57, ty59, ty77, ty89, ty92, fn45, fn44, c_EcCorner, EcCorner_ans, c_EfDet, EfDet_ans, rzav_fold]
noncomputable def EcMinor : Entry Try.prog := ⟨32, fun args h e h' => h' = h ∧ ∃ (a : List (List Int)) (n : Nat), args = [irows a, .flat (.int .i64 (n : Int))] ∧ (Sq a) ∧ (a.length ≤ 8) ∧ (∀ i j, i < a.length → j < a.length → -16384 ≤ ent a i j ∧ ent a i j ≤ 16384) ∧ (n ≤ a.length) ∧ (0 < n) ∧ (∀ s, s < n → det s (ent a) ≠ 0) ∧ e = .ret (rzav (det n (ent a))), by
 rintro args h e h' ⟨rfl, a, n, rfl, h1, h2, h3, h4, h5, h6, rfl⟩
 exact ⟨minor_sem a n h1 h2 h3 h4 h5 h6 _, Hp.Le.refl _⟩⟩
theorem EcMinor_ans (a : List (List Int)) (n : Nat) (h : Hp) (h1 : Sq a) (h2 : a.length ≤ 8) (h3 : ∀ i j, i < a.length → j < a.length → -16384 ≤ ent a i j ∧ ent a i j ≤ 16384) (h4 : n ≤ a.length) (h5 : 0 < n) (h6 : ∀ s, s < n → det s (ent a) ≠ 0) : EcMinor.ans [irows a, .flat (.int .i64 (n : Int))] h = some (.ret (rzav (det n (ent a))), h) :=
 Entry.one ⟨rfl, a, n, rfl, h1, h2, h3, h4, h5, h6, rfl⟩ fun e h' ⟨hh, a', n', ha, _, _, _, _, _, _, he⟩ => by simp only [kI, irows_eq] at ha; obtain ⟨rfl, rfl⟩ := ha; exact ⟨he, hh⟩
theorem allP_iff {a : List (List Int)} (sq : Sq a) {p : Nat → Nat → Int → Bool} : allP a p ↔ ∀ i j, i < a.length → j < a.length → p i j (ent a i j) = true := by
 constructor
 ·intro h i j hi hj
  obtain ⟨r, h1, _, h3⟩ := sq.get hi hj
  exact h i r h1 j _ h3
 ·intro h i r hr j x hx
  have h1 := (List.getElem?_eq_some_iff.1 hr).1
  have h2 := (List.getElem?_eq_some_iff.1 hx).1
  rw [sq r (List.mem_of_getElem? hr)] at h2
  rw [← ent_is hr hx]; exact h i j h1 h2
theorem sym_iff {a : List (List Int)} (sq : Sq a) : allP a (symP a) ↔ ∀ i j, i < a.length → j < i → ent a i j = ent a j i := by
 rw [allP_iff sq]
 unfold symP
 simp only [decide_eq_true_eq]
 constructor
 ·exact fun h i j hi hj => h i j hi (by omega)
 ·intro h i j hi hj
  rcases Nat.lt_trichotomy i j with c | c | c
  ·exact (h j i hj c).symm
  ·rw [c]
  ·exact h i j hi c
theorem checkV_3 {a : List (List Int)} (h1 : ¬ a.length < 1) (h2 : ¬ 8 < a.length) (sq : Sq a) (h : ¬ allP a (fun _ _ x => smallB x)) : checkV a = 3 := by
 unfold checkV
 rw [if_neg (by omega), if_neg (fun k => k sq), if_pos h]
theorem checkV_0 {a : List (List Int)} (h1 : ¬ a.length < 1) (h2 : ¬ 8 < a.length) (sq : Sq a) (h : allP a (fun _ _ x => smallB x)) (k : allP a (symP a) ∧ posB a.length (ent a) = true) : checkV a = 0 := by
 unfold checkV
 rw [if_neg (by omega), if_neg (fun k => k sq), if_neg (fun k => k h), if_pos k]
theorem checkV_6 {a : List (List Int)} (h1 : ¬ a.length < 1) (h2 : ¬ 8 < a.length) (sq : Sq a) (h : allP a (fun _ _ x => smallB x)) (k : ¬ (allP a (symP a) ∧ posB a.length (ent a) = true)) : checkV a = 6 := by
 unfold checkV
 rw [if_neg (by omega), if_neg (fun k => k sq), if_neg (fun k => k h), if_neg k]
theorem fCheck_sem (a : List (List Int)) (hn : a.length < 4611686018427387904) (h : Hp) : SemCall Try.prog 20 [irows a] h (.ret (.flat (.int .i64 (checkV a)))) h := by
 refine sem_pure tables.ok Try.func20 rfl rfl rfl rfl (by simp [pureL, irows_pure]) rfl ?_ h
 have B : Base Try.prog tab _ := tabL_base [EcMinor] tables.ok mixed
 generalize hL : tabL [EcMinor] = call at B
 have c_EcMinor : ∀ a h, call 32 a h = EcMinor.ans a h := fun _ _ => hL ▸ rfl
 clear hL
 unfold Try.f20 bodyOf entry; simp only [Option.getD_some, List.length_cons, List.length_nil, Nat.reduceAdd, Nat.reduceSub]
 by_cases h1 : a.length < 1
 ·rw [show checkV a = 5 by unfold checkV; rw [if_pos (.inl h1)]]
  repeat (first
   | refine wp_seqQ ?_ | refine wp_blockQ ?_ | refine wp_scopeQ ?_
   | ((first | refine wp_skipQ ?_ | refine wp_labelQ ?_ | refine wp_exitQ ?_ | refine wp_retQ ?_); simp only [kQ, Nat.reduceEqDiff, reduceIte])
   | ((first | refine wp_dreg B (id := 22) [0, 0, 3, 7, 0, 31, 63, 0, 0, 384, 896, 0, 3968, 8064, 16383] (by kernel_rfl) ?_ | refine wp_reg B ?_); simp (disch := omega) only [kW, kG, Nat.reduceEqDiff, reduceIte, Nat.reduceLT, Nat.reduceLeDiff, Nat.reduceAdd, Nat.reduceSub, Nat.reduceMul, Nat.reducePow, Nat.reduceDiv, Nat.reduceMod, evIndexAddr, TD.agg, evFieldAddr, binA_eqB ty4, binA_neB ty4, ty2, ty3, ty4, ty22, ty36, ty57, ty59, ty92, fn32, c_EcMinor, EcMinor_ans, irows_len])
   | refine wp_condT rfl ?_ | refine wp_condF rfl ?_)
  simp (disch := omega) only [kS, Nat.reduceEqDiff, reduceIte, Nat.reduceLT, Nat.reduceLeDiff, Nat.reduceAdd, Nat.reduceSub, Nat.reduceMul, Nat.reducePow, Nat.reduceDiv, Nat.reduceMod, evIndexAddr, TD.agg, evFieldAddr, binA_eqB ty4, binA_neB ty4, ty2, ty3, ty4, ty22, ty36, ty57, ty59, ty92, fn32, c_EcMinor, EcMinor_ans]
 ·by_cases h2 : 8 < a.length
  ·rw [show checkV a = 5 by unfold checkV; rw [if_pos (.inr h2)]]
   repeat (first
    | refine wp_seqQ ?_ | refine wp_blockQ ?_ | refine wp_scopeQ ?_
    | ((first | refine wp_skipQ ?_ | refine wp_labelQ ?_ | refine wp_exitQ ?_ | refine wp_retQ ?_); simp only [kQ, Nat.reduceEqDiff, reduceIte])
    | ((first | refine wp_dreg B (id := 22) [0, 0, 3, 7, 0, 31, 63, 0, 0, 384, 896, 0, 3968, 8064, 16383] (by kernel_rfl) ?_ | refine wp_reg B ?_); simp (disch := omega) only [kW, kG, Nat.reduceEqDiff, reduceIte, Nat.reduceLT, Nat.reduceLeDiff, Nat.reduceAdd, Nat.reduceSub, Nat.reduceMul, Nat.reducePow, Nat.reduceDiv, Nat.reduceMod, evIndexAddr, TD.agg, evFieldAddr, binA_eqB ty4, binA_neB ty4, ty2, ty3, ty4, ty22, ty36, ty57, ty59, ty92, fn32, c_EcMinor, EcMinor_ans, irows_len])
    | refine wp_condT rfl ?_ | refine wp_condF rfl ?_)
   simp (disch := omega) only [kS, Nat.reduceEqDiff, reduceIte, Nat.reduceLT, Nat.reduceLeDiff, Nat.reduceAdd, Nat.reduceSub, Nat.reduceMul, Nat.reducePow, Nat.reduceDiv, Nat.reduceMod, evIndexAddr, TD.agg, evFieldAddr, binA_eqB ty4, binA_neB ty4, ty2, ty3, ty4, ty22, ty36, ty57, ty59, ty92, fn32, c_EcMinor, EcMinor_ans]
  ·repeat (first
     | refine wp_seqQ ?_ | refine wp_blockQ ?_ | refine wp_scopeQ ?_
     | ((first | refine wp_skipQ ?_ | refine wp_labelQ ?_ | refine wp_exitQ ?_ | refine wp_retQ ?_); simp only [kQ, Nat.reduceEqDiff, reduceIte])
     | ((first | refine wp_dreg B (id := 22) [0, 0, 3, 7, 0, 31, 63, 0, 0, 384, 896, 0, 3968, 8064, 16383] (by kernel_rfl) ?_ | refine wp_reg B ?_); simp (disch := omega) only [kW, kG, Nat.reduceEqDiff, reduceIte, Nat.reduceLT, Nat.reduceLeDiff, Nat.reduceAdd, Nat.reduceSub, Nat.reduceMul, Nat.reducePow, Nat.reduceDiv, Nat.reduceMod, evIndexAddr, TD.agg, evFieldAddr, binA_eqB ty4, binA_neB ty4, ty2, ty3, ty4, ty22, ty36, ty57, ty59, ty92, fn32, c_EcMinor, EcMinor_ans, irows_len])
     | refine wp_condT rfl ?_ | refine wp_condF rfl ?_)
   refine wp_loopQ (fun k s => ∃ (i : Nat) (tm : Nat → Option AV), s = ⟨tm, 105, Hp.empty, []⟩ ∧ k = a.length - i ∧ i ≤ a.length ∧ tm 0 = some (irows a) ∧ tm 3 = some (.flat (.int .i64 (i : Int))) ∧ ∀ x r, x < i → a[x]? = some r → r.length = a.length) a.length ?_ ?_
   ·exact ⟨0, _, rfl, rfl, Nat.zero_le _, rfl, rfl, fun x r hx => by omega⟩
   ·rintro k s ⟨i, tm, rfl, rfl, hi, t0, t3, hall⟩
    repeat (first
     | refine wp_seqQ ?_ | refine wp_blockQ ?_ | refine wp_scopeQ ?_
     | ((first | refine wp_skipQ ?_ | refine wp_labelQ ?_ | refine wp_exitQ ?_ | refine wp_retQ ?_); simp only [kQ, Nat.reduceEqDiff, reduceIte])
     | ((first | refine wp_dreg B (id := 22) [0, 0, 3, 7, 0, 31, 63, 0, 0, 384, 896, 0, 3968, 8064, 16383] (by kernel_rfl) ?_ | refine wp_reg B ?_); simp (disch := omega) only [kW, kG, Nat.reduceEqDiff, reduceIte, Nat.reduceLT, Nat.reduceLeDiff, Nat.reduceAdd, Nat.reduceSub, Nat.reduceMul, Nat.reducePow, Nat.reduceDiv, Nat.reduceMod, evIndexAddr, TD.agg, evFieldAddr, binA_eqB ty4, binA_neB ty4, ty2, ty3, ty4, ty22, ty36, ty57, ty59, ty92, fn32, c_EcMinor, EcMinor_ans, t0, t3, irows_len])
     | refine wp_condT rfl ?_ | refine wp_condF rfl ?_)
    refine wp_if rfl (fun ilt => ?_) (fun ige => ?_)
    ·obtain ⟨r, hr⟩ : ∃ r, a[i]? = some r := ⟨a[i], List.getElem?_eq_getElem (by omega)⟩
     have g1 := irows_get hr
     by_cases hrl : r.length = a.length
     ·repeat (first
        | refine wp_seqQ ?_ | refine wp_blockQ ?_ | refine wp_scopeQ ?_
        | ((first | refine wp_skipQ ?_ | refine wp_labelQ ?_ | refine wp_exitQ ?_ | refine wp_retQ ?_); simp only [kQ, Nat.reduceEqDiff, reduceIte])
        | ((first | refine wp_dreg B (id := 22) [0, 0, 3, 7, 0, 31, 63, 0, 0, 384, 896, 0, 3968, 8064, 16383] (by kernel_rfl) ?_ | refine wp_reg B ?_); simp (disch := omega) only [kW, kG, Nat.reduceEqDiff, reduceIte, Nat.reduceLT, Nat.reduceLeDiff, Nat.reduceAdd, Nat.reduceSub, Nat.reduceMul, Nat.reducePow, Nat.reduceDiv, Nat.reduceMod, evIndexAddr, TD.agg, evFieldAddr, binA_eqB ty4, binA_neB ty4, ty2, ty3, ty4, ty22, ty36, ty57, ty59, ty92, fn32, c_EcMinor, EcMinor_ans, t0, t3, irows, irow, g1, hrl])
        | refine wp_condT rfl ?_ | refine wp_condF rfl ?_)
      refine ⟨_, ?_, i + 1, _, rfl, rfl, by omega, t0, rfl, fun x r' hx hr' => ?_⟩
      ·omega
      ·by_cases e : x = i
       ·subst e
        rw [hr] at hr'
        simp only [Option.some.injEq] at hr'
        subst hr'; exact hrl
       ·exact hall x r' (by omega) hr'
     ·rw [show checkV a = 5 by unfold checkV; rw [if_neg (by omega), if_pos fun sq => hrl (sq r (List.mem_of_getElem? hr))]]
      repeat (first
       | refine wp_seqQ ?_ | refine wp_blockQ ?_ | refine wp_scopeQ ?_
       | ((first | refine wp_skipQ ?_ | refine wp_labelQ ?_ | refine wp_exitQ ?_ | refine wp_retQ ?_); simp only [kQ, Nat.reduceEqDiff, reduceIte])
       | ((first | refine wp_dreg B (id := 22) [0, 0, 3, 7, 0, 31, 63, 0, 0, 384, 896, 0, 3968, 8064, 16383] (by kernel_rfl) ?_ | refine wp_reg B ?_); simp (disch := omega) only [kW, kG, Nat.reduceEqDiff, reduceIte, Nat.reduceLT, Nat.reduceLeDiff, Nat.reduceAdd, Nat.reduceSub, Nat.reduceMul, Nat.reducePow, Nat.reduceDiv, Nat.reduceMod, evIndexAddr, TD.agg, evFieldAddr, binA_eqB ty4, binA_neB ty4, ty2, ty3, ty4, ty22, ty36, ty57, ty59, ty92, fn32, c_EcMinor, EcMinor_ans, t0, t3, irows, irow, g1])
       | refine wp_condT rfl ?_ | refine wp_condF rfl ?_)
      simp (disch := omega) only [kS, Nat.reduceEqDiff, reduceIte, Nat.reduceLT, Nat.reduceLeDiff, Nat.reduceAdd, Nat.reduceSub, Nat.reduceMul, Nat.reducePow, Nat.reduceDiv, Nat.reduceMod, evIndexAddr, TD.agg, evFieldAddr, binA_eqB ty4, binA_neB ty4, ty2, ty3, ty4, ty22, ty36, ty57, ty59, ty92, fn32, c_EcMinor, EcMinor_ans]
    ·have sq : Sq a := fun r hr => by
       obtain ⟨x, hx⟩ := List.mem_iff_getElem?.1 hr
       have := (List.getElem?_eq_some_iff.1 hx).1
       exact hall x r (by omega) hx
     clear hall
     repeat (first
      | refine wp_seqQ ?_ | refine wp_blockQ ?_ | refine wp_scopeQ ?_
      | ((first | refine wp_skipQ ?_ | refine wp_labelQ ?_ | refine wp_exitQ ?_ | refine wp_retQ ?_); simp only [kQ, Nat.reduceEqDiff, reduceIte])
      | ((first | refine wp_dreg B (id := 22) [0, 0, 3, 7, 0, 31, 63, 0, 0, 384, 896, 0, 3968, 8064, 16383] (by kernel_rfl) ?_ | refine wp_reg B ?_); simp (disch := omega) only [kW, kG, Nat.reduceEqDiff, reduceIte, Nat.reduceLT, Nat.reduceLeDiff, Nat.reduceAdd, Nat.reduceSub, Nat.reduceMul, Nat.reducePow, Nat.reduceDiv, Nat.reduceMod, evIndexAddr, TD.agg, evFieldAddr, binA_eqB ty4, binA_neB ty4, ty2, ty3, ty4, ty22, ty36, ty57, ty59, ty92, fn32, c_EcMinor, EcMinor_ans, t0, t3, irows_len])
      | refine wp_condT rfl ?_ | refine wp_condF rfl ?_)
     refine wp_loopQ (fun k s => ∃ (i : Nat) (tm : Nat → Option AV), s = ⟨tm, 105, Hp.empty, []⟩ ∧ k = a.length - i ∧ i ≤ a.length ∧ tm 0 = some (irows a) ∧ tm 4 = some (.flat (.int .i64 (i : Int))) ∧ ∀ x y, x < i → y < a.length → -16384 ≤ ent a x y ∧ ent a x y ≤ 16384) a.length ?_ ?_
     ·exact ⟨0, _, rfl, rfl, Nat.zero_le _, t0, rfl, fun x y hx => by omega⟩
     ·rintro k s ⟨i, tm, rfl, rfl, hi, t0, t4, hsm⟩
      repeat (first
       | refine wp_seqQ ?_ | refine wp_blockQ ?_ | refine wp_scopeQ ?_
       | ((first | refine wp_skipQ ?_ | refine wp_labelQ ?_ | refine wp_exitQ ?_ | refine wp_retQ ?_); simp only [kQ, Nat.reduceEqDiff, reduceIte])
       | ((first | refine wp_dreg B (id := 22) [0, 0, 3, 7, 0, 31, 63, 0, 0, 384, 896, 0, 3968, 8064, 16383] (by kernel_rfl) ?_ | refine wp_reg B ?_); simp (disch := omega) only [kW, kG, Nat.reduceEqDiff, reduceIte, Nat.reduceLT, Nat.reduceLeDiff, Nat.reduceAdd, Nat.reduceSub, Nat.reduceMul, Nat.reducePow, Nat.reduceDiv, Nat.reduceMod, evIndexAddr, TD.agg, evFieldAddr, binA_eqB ty4, binA_neB ty4, ty2, ty3, ty4, ty22, ty36, ty57, ty59, ty92, fn32, c_EcMinor, EcMinor_ans, t0, t4, irows_len])
       | refine wp_condT rfl ?_ | refine wp_condF rfl ?_)
      refine wp_if rfl (fun ilt => ?_) (fun ige => ?_)
      ·repeat (first
         | refine wp_seqQ ?_ | refine wp_blockQ ?_ | refine wp_scopeQ ?_
         | ((first | refine wp_skipQ ?_ | refine wp_labelQ ?_ | refine wp_exitQ ?_ | refine wp_retQ ?_); simp only [kQ, Nat.reduceEqDiff, reduceIte])
         | ((first | refine wp_dreg B (id := 22) [0, 0, 3, 7, 0, 31, 63, 0, 0, 384, 896, 0, 3968, 8064, 16383] (by kernel_rfl) ?_ | refine wp_reg B ?_); simp (disch := omega) only [kW, kG, Nat.reduceEqDiff, reduceIte, Nat.reduceLT, Nat.reduceLeDiff, Nat.reduceAdd, Nat.reduceSub, Nat.reduceMul, Nat.reducePow, Nat.reduceDiv, Nat.reduceMod, evIndexAddr, TD.agg, evFieldAddr, binA_eqB ty4, binA_neB ty4, ty2, ty3, ty4, ty22, ty36, ty57, ty59, ty92, fn32, c_EcMinor, EcMinor_ans, t0, t4, irows_len])
         | refine wp_condT rfl ?_ | refine wp_condF rfl ?_)
       refine wp_loopQ (fun k s => ∃ (j : Nat) (tm : Nat → Option AV), s = ⟨tm, 105, Hp.empty, []⟩ ∧ k = a.length - j ∧ j ≤ a.length ∧ tm 0 = some (irows a) ∧ tm 4 = some (.flat (.int .i64 (i : Int))) ∧ tm 5 = some (.flat (.int .i64 (j : Int))) ∧ ∀ y, y < j → -16384 ≤ ent a i y ∧ ent a i y ≤ 16384) a.length ?_ ?_
       ·exact ⟨0, _, rfl, rfl, Nat.zero_le _, t0, t4, rfl, fun y hy => by omega⟩
       ·rintro k s ⟨j, tm, rfl, rfl, hj, t0, t4, t5, hrow⟩
        repeat (first
         | refine wp_seqQ ?_ | refine wp_blockQ ?_ | refine wp_scopeQ ?_
         | ((first | refine wp_skipQ ?_ | refine wp_labelQ ?_ | refine wp_exitQ ?_ | refine wp_retQ ?_); simp only [kQ, Nat.reduceEqDiff, reduceIte])
         | ((first | refine wp_dreg B (id := 22) [0, 0, 3, 7, 0, 31, 63, 0, 0, 384, 896, 0, 3968, 8064, 16383] (by kernel_rfl) ?_ | refine wp_reg B ?_); simp (disch := omega) only [kW, kG, Nat.reduceEqDiff, reduceIte, Nat.reduceLT, Nat.reduceLeDiff, Nat.reduceAdd, Nat.reduceSub, Nat.reduceMul, Nat.reducePow, Nat.reduceDiv, Nat.reduceMod, evIndexAddr, TD.agg, evFieldAddr, binA_eqB ty4, binA_neB ty4, ty2, ty3, ty4, ty22, ty36, ty57, ty59, ty92, fn32, c_EcMinor, EcMinor_ans, t0, t4, t5, irows_len])
         | refine wp_condT rfl ?_ | refine wp_condF rfl ?_)
        refine wp_if rfl (fun jlt => ?_) (fun jge => ?_)
        ·obtain ⟨r, g1, g2, g3⟩ := sq.get (i := i) (j := j) (by omega) (by omega)
         have g1 := irows_get g1
         have g3 := irow_get g3
         have bad : ¬ (-16384 ≤ ent a i j ∧ ent a i j ≤ 16384) → checkV a = 3 := fun k => by
          exact checkV_3 h1 h2 sq fun k2 => k (small_ent sq k2 i j (by omega) (by omega))
         by_cases b1 : ent a i j ≤ 16384
         ·by_cases b2 : -16384 ≤ ent a i j
          ·repeat (first
             | refine wp_seqQ ?_ | refine wp_blockQ ?_ | refine wp_scopeQ ?_
             | ((first | refine wp_skipQ ?_ | refine wp_labelQ ?_ | refine wp_exitQ ?_ | refine wp_retQ ?_); simp only [kQ, Nat.reduceEqDiff, reduceIte])
             | ((first | refine wp_dreg B (id := 22) [0, 0, 3, 7, 0, 31, 63, 0, 0, 384, 896, 0, 3968, 8064, 16383] (by kernel_rfl) ?_ | refine wp_reg B ?_); simp (disch := omega) only [kW, kG, Nat.reduceEqDiff, reduceIte, Nat.reduceLT, Nat.reduceLeDiff, Nat.reduceAdd, Nat.reduceSub, Nat.reduceMul, Nat.reducePow, Nat.reduceDiv, Nat.reduceMod, evIndexAddr, TD.agg, evFieldAddr, binA_eqB ty4, binA_neB ty4, ty2, ty3, ty4, ty22, ty36, ty57, ty59, ty92, fn32, c_EcMinor, EcMinor_ans, t0, t4, t5, irows, irow, g1, g3])
             | refine wp_condT rfl ?_ | refine wp_condF rfl ?_)
           refine ⟨_, ?_, j + 1, _, rfl, rfl, by omega, t0, t4, rfl, fun y hy => ?_⟩
           ·omega
           ·by_cases e : y = j
            ·subst e; exact ⟨b2, b1⟩
            ·exact hrow y (by omega)
          ·rw [bad fun k => b2 k.1]
           repeat (first
            | refine wp_seqQ ?_ | refine wp_blockQ ?_ | refine wp_scopeQ ?_
            | ((first | refine wp_skipQ ?_ | refine wp_labelQ ?_ | refine wp_exitQ ?_ | refine wp_retQ ?_); simp only [kQ, Nat.reduceEqDiff, reduceIte])
            | ((first | refine wp_dreg B (id := 22) [0, 0, 3, 7, 0, 31, 63, 0, 0, 384, 896, 0, 3968, 8064, 16383] (by kernel_rfl) ?_ | refine wp_reg B ?_); simp (disch := omega) only [kW, kG, Nat.reduceEqDiff, reduceIte, Nat.reduceLT, Nat.reduceLeDiff, Nat.reduceAdd, Nat.reduceSub, Nat.reduceMul, Nat.reducePow, Nat.reduceDiv, Nat.reduceMod, evIndexAddr, TD.agg, evFieldAddr, binA_eqB ty4, binA_neB ty4, ty2, ty3, ty4, ty22, ty36, ty57, ty59, ty92, fn32, c_EcMinor, EcMinor_ans, t0, t4, t5, irows, irow, g1, g3])
            | refine wp_condT rfl ?_ | refine wp_condF rfl ?_)
           simp (disch := omega) only [kS, Nat.reduceEqDiff, reduceIte, Nat.reduceLT, Nat.reduceLeDiff, Nat.reduceAdd, Nat.reduceSub, Nat.reduceMul, Nat.reducePow, Nat.reduceDiv, Nat.reduceMod, evIndexAddr, TD.agg, evFieldAddr, binA_eqB ty4, binA_neB ty4, ty2, ty3, ty4, ty22, ty36, ty57, ty59, ty92, fn32, c_EcMinor, EcMinor_ans]
         ·rw [bad fun k => b1 k.2]
          repeat (first
           | refine wp_seqQ ?_ | refine wp_blockQ ?_ | refine wp_scopeQ ?_
           | ((first | refine wp_skipQ ?_ | refine wp_labelQ ?_ | refine wp_exitQ ?_ | refine wp_retQ ?_); simp only [kQ, Nat.reduceEqDiff, reduceIte])
           | ((first | refine wp_dreg B (id := 22) [0, 0, 3, 7, 0, 31, 63, 0, 0, 384, 896, 0, 3968, 8064, 16383] (by kernel_rfl) ?_ | refine wp_reg B ?_); simp (disch := omega) only [kW, kG, Nat.reduceEqDiff, reduceIte, Nat.reduceLT, Nat.reduceLeDiff, Nat.reduceAdd, Nat.reduceSub, Nat.reduceMul, Nat.reducePow, Nat.reduceDiv, Nat.reduceMod, evIndexAddr, TD.agg, evFieldAddr, binA_eqB ty4, binA_neB ty4, ty2, ty3, ty4, ty22, ty36, ty57, ty59, ty92, fn32, c_EcMinor, EcMinor_ans, t0, t4, t5, irows, irow, g1, g3])
           | refine wp_condT rfl ?_ | refine wp_condF rfl ?_)
          simp (disch := omega) only [kS, Nat.reduceEqDiff, reduceIte, Nat.reduceLT, Nat.reduceLeDiff, Nat.reduceAdd, Nat.reduceSub, Nat.reduceMul, Nat.reducePow, Nat.reduceDiv, Nat.reduceMod, evIndexAddr, TD.agg, evFieldAddr, binA_eqB ty4, binA_neB ty4, ty2, ty3, ty4, ty22, ty36, ty57, ty59, ty92, fn32, c_EcMinor, EcMinor_ans]
        ·repeat (first
           | refine wp_seqQ ?_ | refine wp_blockQ ?_ | refine wp_scopeQ ?_
           | ((first | refine wp_skipQ ?_ | refine wp_labelQ ?_ | refine wp_exitQ ?_ | refine wp_retQ ?_); simp only [kQ, Nat.reduceEqDiff, reduceIte])
           | ((first | refine wp_dreg B (id := 22) [0, 0, 3, 7, 0, 31, 63, 0, 0, 384, 896, 0, 3968, 8064, 16383] (by kernel_rfl) ?_ | refine wp_reg B ?_); simp (disch := omega) only [kW, kG, Nat.reduceEqDiff, reduceIte, Nat.reduceLT, Nat.reduceLeDiff, Nat.reduceAdd, Nat.reduceSub, Nat.reduceMul, Nat.reducePow, Nat.reduceDiv, Nat.reduceMod, evIndexAddr, TD.agg, evFieldAddr, binA_eqB ty4, binA_neB ty4, ty2, ty3, ty4, ty22, ty36, ty57, ty59, ty92, fn32, c_EcMinor, EcMinor_ans, t0, t4, t5, irows_len])
           | refine wp_condT rfl ?_ | refine wp_condF rfl ?_)
         refine ⟨_, ?_, i + 1, _, rfl, rfl, by omega, t0, rfl, fun x y hx hy => ?_⟩
         ·omega
         ·by_cases e : x = i
          ·subst e; exact hrow y (by omega)
          ·exact hsm x y (by omega) hy
      ·have hsmall : ∀ i j, i < a.length → j < a.length → -16384 ≤ ent a i j ∧ ent a i j ≤ 16384 := fun x y hx hy => hsm x y (by omega) hy
       have hall : allP a (fun _ _ x => smallB x) := (allP_iff sq).2 fun x y hx hy => by unfold smallB; exact decide_eq_true (hsmall x y hx hy)
       clear hsm
       repeat (first
        | refine wp_seqQ ?_ | refine wp_blockQ ?_ | refine wp_scopeQ ?_
        | ((first | refine wp_skipQ ?_ | refine wp_labelQ ?_ | refine wp_exitQ ?_ | refine wp_retQ ?_); simp only [kQ, Nat.reduceEqDiff, reduceIte])
        | ((first | refine wp_dreg B (id := 22) [0, 0, 3, 7, 0, 31, 63, 0, 0, 384, 896, 0, 3968, 8064, 16383] (by kernel_rfl) ?_ | refine wp_reg B ?_); simp (disch := omega) only [kW, kG, Nat.reduceEqDiff, reduceIte, Nat.reduceLT, Nat.reduceLeDiff, Nat.reduceAdd, Nat.reduceSub, Nat.reduceMul, Nat.reducePow, Nat.reduceDiv, Nat.reduceMod, evIndexAddr, TD.agg, evFieldAddr, binA_eqB ty4, binA_neB ty4, ty2, ty3, ty4, ty22, ty36, ty57, ty59, ty92, fn32, c_EcMinor, EcMinor_ans, t0, t4, irows_len])
        | refine wp_condT rfl ?_ | refine wp_condF rfl ?_)
       refine wp_loopQ (fun k s => ∃ (i : Nat) (tm : Nat → Option AV), s = ⟨tm, 105, Hp.empty, []⟩ ∧ k = a.length - i ∧ i ≤ a.length ∧ tm 0 = some (irows a) ∧ tm 6 = some (.flat (.int .i64 (i : Int))) ∧ ∀ x y, x < i → y < x → ent a x y = ent a y x) a.length ?_ ?_
       ·exact ⟨0, _, rfl, rfl, Nat.zero_le _, t0, rfl, fun x y hx => by omega⟩
       ·rintro k s ⟨i, tm, rfl, rfl, hi, t0, t6, hsy⟩
        repeat (first
         | refine wp_seqQ ?_ | refine wp_blockQ ?_ | refine wp_scopeQ ?_
         | ((first | refine wp_skipQ ?_ | refine wp_labelQ ?_ | refine wp_exitQ ?_ | refine wp_retQ ?_); simp only [kQ, Nat.reduceEqDiff, reduceIte])
         | ((first | refine wp_dreg B (id := 22) [0, 0, 3, 7, 0, 31, 63, 0, 0, 384, 896, 0, 3968, 8064, 16383] (by kernel_rfl) ?_ | refine wp_reg B ?_); simp (disch := omega) only [kW, kG, Nat.reduceEqDiff, reduceIte, Nat.reduceLT, Nat.reduceLeDiff, Nat.reduceAdd, Nat.reduceSub, Nat.reduceMul, Nat.reducePow, Nat.reduceDiv, Nat.reduceMod, evIndexAddr, TD.agg, evFieldAddr, binA_eqB ty4, binA_neB ty4, ty2, ty3, ty4, ty22, ty36, ty57, ty59, ty92, fn32, c_EcMinor, EcMinor_ans, t0, t6, irows_len])
         | refine wp_condT rfl ?_ | refine wp_condF rfl ?_)
        refine wp_if rfl (fun ilt => ?_) (fun ige => ?_)
        ·repeat (first
           | refine wp_seqQ ?_ | refine wp_blockQ ?_ | refine wp_scopeQ ?_
           | ((first | refine wp_skipQ ?_ | refine wp_labelQ ?_ | refine wp_exitQ ?_ | refine wp_retQ ?_); simp only [kQ, Nat.reduceEqDiff, reduceIte])
           | ((first | refine wp_dreg B (id := 22) [0, 0, 3, 7, 0, 31, 63, 0, 0, 384, 896, 0, 3968, 8064, 16383] (by kernel_rfl) ?_ | refine wp_reg B ?_); simp (disch := omega) only [kW, kG, Nat.reduceEqDiff, reduceIte, Nat.reduceLT, Nat.reduceLeDiff, Nat.reduceAdd, Nat.reduceSub, Nat.reduceMul, Nat.reducePow, Nat.reduceDiv, Nat.reduceMod, evIndexAddr, TD.agg, evFieldAddr, binA_eqB ty4, binA_neB ty4, ty2, ty3, ty4, ty22, ty36, ty57, ty59, ty92, fn32, c_EcMinor, EcMinor_ans, t0, t6])
           | refine wp_condT rfl ?_ | refine wp_condF rfl ?_)
         refine wp_loopQ (fun k s => ∃ (j : Nat) (tm : Nat → Option AV), s = ⟨tm, 105, Hp.empty, []⟩ ∧ k = i - j ∧ j ≤ i ∧ tm 0 = some (irows a) ∧ tm 6 = some (.flat (.int .i64 (i : Int))) ∧ tm 7 = some (.flat (.int .i64 (j : Int))) ∧ ∀ y, y < j → ent a i y = ent a y i) i ?_ ?_
         ·exact ⟨0, _, rfl, rfl, Nat.zero_le _, t0, t6, rfl, fun y hy => by omega⟩
         ·rintro k s ⟨j, tm, rfl, rfl, hj, t0, t6, t7, hrow⟩
          repeat (first
           | refine wp_seqQ ?_ | refine wp_blockQ ?_ | refine wp_scopeQ ?_
           | ((first | refine wp_skipQ ?_ | refine wp_labelQ ?_ | refine wp_exitQ ?_ | refine wp_retQ ?_); simp only [kQ, Nat.reduceEqDiff, reduceIte])
           | ((first | refine wp_dreg B (id := 22) [0, 0, 3, 7, 0, 31, 63, 0, 0, 384, 896, 0, 3968, 8064, 16383] (by kernel_rfl) ?_ | refine wp_reg B ?_); simp (disch := omega) only [kW, kG, Nat.reduceEqDiff, reduceIte, Nat.reduceLT, Nat.reduceLeDiff, Nat.reduceAdd, Nat.reduceSub, Nat.reduceMul, Nat.reducePow, Nat.reduceDiv, Nat.reduceMod, evIndexAddr, TD.agg, evFieldAddr, binA_eqB ty4, binA_neB ty4, ty2, ty3, ty4, ty22, ty36, ty57, ty59, ty92, fn32, c_EcMinor, EcMinor_ans, t0, t6, t7])
           | refine wp_condT rfl ?_ | refine wp_condF rfl ?_)
          refine wp_if rfl (fun jlt => ?_) (fun jge => ?_)
          ·obtain ⟨r, g1, g2, g3⟩ := sq.get (i := i) (j := j) (by omega) (by omega)
           obtain ⟨r', g4, g5, g6⟩ := sq.get (i := j) (j := i) (by omega) (by omega)
           have g1 := irows_get g1
           have g3 := irow_get g3
           have g4 := irows_get g4
           have g6 := irow_get g6
           by_cases hb : ent a i j = ent a j i
           ·repeat (first
              | refine wp_seqQ ?_ | refine wp_blockQ ?_ | refine wp_scopeQ ?_
              | ((first | refine wp_skipQ ?_ | refine wp_labelQ ?_ | refine wp_exitQ ?_ | refine wp_retQ ?_); simp only [kQ, Nat.reduceEqDiff, reduceIte])
              | ((first | refine wp_dreg B (id := 22) [0, 0, 3, 7, 0, 31, 63, 0, 0, 384, 896, 0, 3968, 8064, 16383] (by kernel_rfl) ?_ | refine wp_reg B ?_); simp (disch := omega) only [kW, kG, Nat.reduceEqDiff, reduceIte, Nat.reduceLT, Nat.reduceLeDiff, Nat.reduceAdd, Nat.reduceSub, Nat.reduceMul, Nat.reducePow, Nat.reduceDiv, Nat.reduceMod, evIndexAddr, TD.agg, evFieldAddr, binA_eqB ty4, binA_neB ty4, ty2, ty3, ty4, ty22, ty36, ty57, ty59, ty92, fn32, c_EcMinor, EcMinor_ans, t0, t6, t7, irows, irow, g1, g3, g4, g6, hb])
              | refine wp_condT rfl ?_ | refine wp_condF rfl ?_)
            refine ⟨_, ?_, j + 1, _, rfl, rfl, by omega, t0, t6, rfl, fun y hy => ?_⟩
            ·omega
            ·by_cases e : y = j
             ·subst e; exact hb
             ·exact hrow y (by omega)
           ·rw [show checkV a = 6 from checkV_6 h1 h2 sq hall fun k => hb ((sym_iff sq).1 k.1 i j (by omega) (by omega))]
            generalize ent a i j = X at *
            generalize ent a j i = Y at *
            repeat (first
             | refine wp_seqQ ?_ | refine wp_blockQ ?_ | refine wp_scopeQ ?_
             | ((first | refine wp_skipQ ?_ | refine wp_labelQ ?_ | refine wp_exitQ ?_ | refine wp_retQ ?_); simp only [kQ, Nat.reduceEqDiff, reduceIte])
             | ((first | refine wp_dreg B (id := 22) [0, 0, 3, 7, 0, 31, 63, 0, 0, 384, 896, 0, 3968, 8064, 16383] (by kernel_rfl) ?_ | refine wp_reg B ?_); simp (disch := omega) only [kW, kG, Nat.reduceEqDiff, reduceIte, Nat.reduceLT, Nat.reduceLeDiff, Nat.reduceAdd, Nat.reduceSub, Nat.reduceMul, Nat.reducePow, Nat.reduceDiv, Nat.reduceMod, evIndexAddr, TD.agg, evFieldAddr, binA_eqB ty4, binA_neB ty4, ty2, ty3, ty4, ty22, ty36, ty57, ty59, ty92, fn32, c_EcMinor, EcMinor_ans, t0, t6, t7, irows, irow, g1, g3, g4, g6])
             | refine wp_condT rfl ?_ | refine wp_condF rfl ?_)
            simp (disch := omega) only [kS, Nat.reduceEqDiff, reduceIte, Nat.reduceLT, Nat.reduceLeDiff, Nat.reduceAdd, Nat.reduceSub, Nat.reduceMul, Nat.reducePow, Nat.reduceDiv, Nat.reduceMod, evIndexAddr, TD.agg, evFieldAddr, binA_eqB ty4, binA_neB ty4, ty2, ty3, ty4, ty22, ty36, ty57, ty59, ty92, fn32, c_EcMinor, EcMinor_ans]
          ·repeat (first
             | refine wp_seqQ ?_ | refine wp_blockQ ?_ | refine wp_scopeQ ?_
             | ((first | refine wp_skipQ ?_ | refine wp_labelQ ?_ | refine wp_exitQ ?_ | refine wp_retQ ?_); simp only [kQ, Nat.reduceEqDiff, reduceIte])
             | ((first | refine wp_dreg B (id := 22) [0, 0, 3, 7, 0, 31, 63, 0, 0, 384, 896, 0, 3968, 8064, 16383] (by kernel_rfl) ?_ | refine wp_reg B ?_); simp (disch := omega) only [kW, kG, Nat.reduceEqDiff, reduceIte, Nat.reduceLT, Nat.reduceLeDiff, Nat.reduceAdd, Nat.reduceSub, Nat.reduceMul, Nat.reducePow, Nat.reduceDiv, Nat.reduceMod, evIndexAddr, TD.agg, evFieldAddr, binA_eqB ty4, binA_neB ty4, ty2, ty3, ty4, ty22, ty36, ty57, ty59, ty92, fn32, c_EcMinor, EcMinor_ans, t0, t6, t7])
             | refine wp_condT rfl ?_ | refine wp_condF rfl ?_)
           refine ⟨_, ?_, i + 1, _, rfl, rfl, by omega, t0, rfl, fun x y hx hy => ?_⟩
           ·omega
           ·by_cases e : x = i
            ·subst e; exact hrow y (by omega)
            ·exact hsy x y (by omega) hy
        ·have hsym : allP a (symP a) := (sym_iff sq).2 fun x y hx hy => hsy x y (by omega) hy
         clear hsy
         repeat (first
          | refine wp_seqQ ?_ | refine wp_blockQ ?_ | refine wp_scopeQ ?_
          | ((first | refine wp_skipQ ?_ | refine wp_labelQ ?_ | refine wp_exitQ ?_ | refine wp_retQ ?_); simp only [kQ, Nat.reduceEqDiff, reduceIte])
          | ((first | refine wp_dreg B (id := 22) [0, 0, 3, 7, 0, 31, 63, 0, 0, 384, 896, 0, 3968, 8064, 16383] (by kernel_rfl) ?_ | refine wp_reg B ?_); simp (disch := omega) only [kW, kG, Nat.reduceEqDiff, reduceIte, Nat.reduceLT, Nat.reduceLeDiff, Nat.reduceAdd, Nat.reduceSub, Nat.reduceMul, Nat.reducePow, Nat.reduceDiv, Nat.reduceMod, evIndexAddr, TD.agg, evFieldAddr, binA_eqB ty4, binA_neB ty4, ty2, ty3, ty4, ty22, ty36, ty57, ty59, ty92, fn32, c_EcMinor, EcMinor_ans, t0, t6])
          | refine wp_condT rfl ?_ | refine wp_condF rfl ?_)
         refine wp_loopQ (fun k s => ∃ (i : Nat) (tm : Nat → Option AV) (h : Hp), s = ⟨tm, 105, h, []⟩ ∧ k = a.length + 1 - i ∧ 0 < i ∧ i ≤ a.length + 1 ∧ tm 0 = some (irows a) ∧ tm 8 = some (.flat (.int .i64 (i : Int))) ∧ ∀ s, s < i → 0 < det s (ent a)) (a.length + 1 - 1) ?_ ?_
         ·refine ⟨1, _, _, rfl, rfl, by omega, by omega, t0, rfl, fun s hs => ?_⟩
          ·obtain rfl : s = 0 := by omega
           simp [Dt.det]
         ·rintro k s ⟨i, tm, h, rfl, rfl, hi0, hi, t0, t8, hD⟩
          repeat (first
           | refine wp_seqQ ?_ | refine wp_blockQ ?_ | refine wp_scopeQ ?_
           | ((first | refine wp_skipQ ?_ | refine wp_labelQ ?_ | refine wp_exitQ ?_ | refine wp_retQ ?_); simp only [kQ, Nat.reduceEqDiff, reduceIte])
           | ((first | refine wp_dreg B (id := 22) [0, 0, 3, 7, 0, 31, 63, 0, 0, 384, 896, 0, 3968, 8064, 16383] (by kernel_rfl) ?_ | refine wp_reg B ?_); simp (disch := omega) only [kW, kG, Nat.reduceEqDiff, reduceIte, Nat.reduceLT, Nat.reduceLeDiff, Nat.reduceAdd, Nat.reduceSub, Nat.reduceMul, Nat.reducePow, Nat.reduceDiv, Nat.reduceMod, evIndexAddr, TD.agg, evFieldAddr, binA_eqB ty4, binA_neB ty4, ty2, ty3, ty4, ty22, ty36, ty57, ty59, ty92, fn32, c_EcMinor, EcMinor_ans, t0, t8, irows_len])
           | refine wp_condT rfl ?_ | refine wp_condF rfl ?_)
          refine wp_ifn rfl (fun ilt => ?_) (fun ige => ?_)
          ·have k1 := fun h => EcMinor_ans a i h sq (by omega) hsmall (by omega) hi0 (fun s hs => by have := hD s hs; omega)
           have hp := edg_pos (det i (ent a)).natAbs
           by_cases hpos : 0 < det i (ent a)
           ·have hl : (0 : Int) < ((Eg.dg (det i (ent a)).natAbs).length : Int) := by rw [hp]; omega
            repeat (first
             | refine wp_seqQ ?_ | refine wp_blockQ ?_ | refine wp_scopeQ ?_
             | ((first | refine wp_skipQ ?_ | refine wp_labelQ ?_ | refine wp_exitQ ?_ | refine wp_retQ ?_); simp only [kQ, Nat.reduceEqDiff, reduceIte])
             | ((first | refine wp_dreg B (id := 22) [0, 0, 3, 7, 0, 31, 63, 0, 0, 384, 896, 0, 3968, 8064, 16383] (by kernel_rfl) ?_ | refine wp_reg B ?_); simp (disch := omega) only [kW, kG, Nat.reduceEqDiff, reduceIte, Nat.reduceLT, Nat.reduceLeDiff, Nat.reduceAdd, Nat.reduceSub, Nat.reduceMul, Nat.reducePow, Nat.reduceDiv, Nat.reduceMod, evIndexAddr, TD.agg, evFieldAddr, binA_eqB ty4, binA_neB ty4, ty2, ty3, ty4, ty22, ty36, ty57, ty59, ty92, fn32, c_EcMinor, EcMinor_ans, t0, t8, k1, rzav_cells, rnav_one, rnav_clean, rnav_cells, rnav_len])
             | refine wp_condT rfl ?_ | refine wp_condF rfl ?_)
            refine ⟨_, ?_, i + 1, _, _, rfl, rfl, by omega, by omega, t0, rfl, fun s hs => ?_⟩
            ·omega
            ·by_cases e : s = i
             ·subst e; exact hpos
             ·exact hD s (by omega)
           ·rw [show checkV a = 6 by
              refine checkV_6 h1 h2 sq hall fun k => ?_
              have := posB_false (n := a.length) (A := ent a) (k := i - 1) (by omega) (by rw [show i - 1 + 1 = i by omega]; exact hpos)
              rw [this] at k
              exact absurd k.2 (by simp)]
            by_cases hneg : det i (ent a) < 0
            ·repeat (first
               | refine wp_seqQ ?_ | refine wp_blockQ ?_ | refine wp_scopeQ ?_
               | ((first | refine wp_skipQ ?_ | refine wp_labelQ ?_ | refine wp_exitQ ?_ | refine wp_retQ ?_); simp only [kQ, Nat.reduceEqDiff, reduceIte])
               | ((first | refine wp_dreg B (id := 22) [0, 0, 3, 7, 0, 31, 63, 0, 0, 384, 896, 0, 3968, 8064, 16383] (by kernel_rfl) ?_ | refine wp_reg B ?_); simp (disch := omega) only [kW, kG, Nat.reduceEqDiff, reduceIte, Nat.reduceLT, Nat.reduceLeDiff, Nat.reduceAdd, Nat.reduceSub, Nat.reduceMul, Nat.reducePow, Nat.reduceDiv, Nat.reduceMod, evIndexAddr, TD.agg, evFieldAddr, binA_eqB ty4, binA_neB ty4, ty2, ty3, ty4, ty22, ty36, ty57, ty59, ty92, fn32, c_EcMinor, EcMinor_ans, t0, t8, k1, rzav_cells, rnav_one, rnav_clean, rnav_cells, rnav_len])
               | refine wp_condT rfl ?_ | refine wp_condF rfl ?_)
             simp (disch := omega) only [kS, Nat.reduceEqDiff, reduceIte, Nat.reduceLT, Nat.reduceLeDiff, Nat.reduceAdd, Nat.reduceSub, Nat.reduceMul, Nat.reducePow, Nat.reduceDiv, Nat.reduceMod, evIndexAddr, TD.agg, evFieldAddr, binA_eqB ty4, binA_neB ty4, ty2, ty3, ty4, ty22, ty36, ty57, ty59, ty92, fn32, c_EcMinor, EcMinor_ans]
            ·have hl : ¬ (0 : Int) < ((Eg.dg (det i (ent a)).natAbs).length : Int) := by rw [hp]; omega
             repeat (first
              | refine wp_seqQ ?_ | refine wp_blockQ ?_ | refine wp_scopeQ ?_
              | ((first | refine wp_skipQ ?_ | refine wp_labelQ ?_ | refine wp_exitQ ?_ | refine wp_retQ ?_); simp only [kQ, Nat.reduceEqDiff, reduceIte])
              | ((first | refine wp_dreg B (id := 22) [0, 0, 3, 7, 0, 31, 63, 0, 0, 384, 896, 0, 3968, 8064, 16383] (by kernel_rfl) ?_ | refine wp_reg B ?_); simp (disch := omega) only [kW, kG, Nat.reduceEqDiff, reduceIte, Nat.reduceLT, Nat.reduceLeDiff, Nat.reduceAdd, Nat.reduceSub, Nat.reduceMul, Nat.reducePow, Nat.reduceDiv, Nat.reduceMod, evIndexAddr, TD.agg, evFieldAddr, binA_eqB ty4, binA_neB ty4, ty2, ty3, ty4, ty22, ty36, ty57, ty59, ty92, fn32, c_EcMinor, EcMinor_ans, t0, t8, k1, rzav_cells, rnav_one, rnav_clean, rnav_cells, rnav_len])
              | refine wp_condT rfl ?_ | refine wp_condF rfl ?_)
             simp (disch := omega) only [kS, Nat.reduceEqDiff, reduceIte, Nat.reduceLT, Nat.reduceLeDiff, Nat.reduceAdd, Nat.reduceSub, Nat.reduceMul, Nat.reducePow, Nat.reduceDiv, Nat.reduceMod, evIndexAddr, TD.agg, evFieldAddr, binA_eqB ty4, binA_neB ty4, ty2, ty3, ty4, ty22, ty36, ty57, ty59, ty92, fn32, c_EcMinor, EcMinor_ans]
          ·rw [show checkV a = 0 from checkV_0 h1 h2 sq hall ⟨hsym, posB_true fun k hk => hD (k + 1) (by omega)⟩]
           repeat (first
            | refine wp_seqQ ?_ | refine wp_blockQ ?_ | refine wp_scopeQ ?_
            | ((first | refine wp_skipQ ?_ | refine wp_labelQ ?_ | refine wp_exitQ ?_ | refine wp_retQ ?_); simp only [kQ, Nat.reduceEqDiff, reduceIte])
            | ((first | refine wp_dreg B (id := 22) [0, 0, 3, 7, 0, 31, 63, 0, 0, 384, 896, 0, 3968, 8064, 16383] (by kernel_rfl) ?_ | refine wp_reg B ?_); simp (disch := omega) only [kW, kG, Nat.reduceEqDiff, reduceIte, Nat.reduceLT, Nat.reduceLeDiff, Nat.reduceAdd, Nat.reduceSub, Nat.reduceMul, Nat.reducePow, Nat.reduceDiv, Nat.reduceMod, evIndexAddr, TD.agg, evFieldAddr, binA_eqB ty4, binA_neB ty4, ty2, ty3, ty4, ty22, ty36, ty57, ty59, ty92, fn32, c_EcMinor, EcMinor_ans, t0, t8])
            | refine wp_condT rfl ?_ | refine wp_condF rfl ?_)
           simp (disch := omega) only [kS, Nat.reduceEqDiff, reduceIte, Nat.reduceLT, Nat.reduceLeDiff, Nat.reduceAdd, Nat.reduceSub, Nat.reduceMul, Nat.reducePow, Nat.reduceDiv, Nat.reduceMod, evIndexAddr, TD.agg, evFieldAddr, binA_eqB ty4, binA_neB ty4, ty2, ty3, ty4, ty22, ty36, ty57, ty59, ty92, fn32, c_EcMinor, EcMinor_ans]
noncomputable def EfCheck : Entry Try.prog := ⟨20, fun args h e h' => h' = h ∧ ∃ (a : List (List Int)), args = [irows a] ∧ (a.length < 4611686018427387904) ∧ e = .ret (.flat (.int .i64 (checkV a))), by
 rintro args h e h' ⟨rfl, a, rfl, h1, rfl⟩
 exact ⟨fCheck_sem a h1 _, Hp.Le.refl _⟩⟩
theorem EfCheck_ans (a : List (List Int)) (h : Hp) (h1 : a.length < 4611686018427387904) : EfCheck.ans [irows a] h = some (.ret (.flat (.int .i64 (checkV a))), h) :=
 Entry.one ⟨rfl, a, rfl, h1, rfl⟩ fun e h' ⟨hh, a', ha, _, he⟩ => by simp only [kI, irows_eq] at ha; subst ha; exact ⟨he, hh⟩
end Go.Proofs.Ytllocgmbjjoemaa.Iv
end
section
set_option maxHeartbeats 16000000
set_option linter.unusedVariables false
set_option linter.unusedSimpArgs false
set_option maxRecDepth 10000
namespace Go.Proofs.Ytllocgmbjjoemaa.Iv
open Go Go.Iv Go.RowKit Go.Proofs.Ytllocgmbjjoemaa.Nv
structure Mi (h : Hp) (k B : Nat) (ρ : Nat → Nat) (R : Nat → List AV) (xt : Bool) : Prop where
 top : ∃ C, h.m B = some (.cells C 36 xt) ∧ C.length = k ∧ ∀ x, x < k → C[x]? = some (.slice (ρ x) 0 k (.exact k))
 row : ∀ x, x < k → h.m (ρ x) = some (.cells (R x) 2 false)
 len : ∀ x, x < k → (R x).length = k
 lt : B < h.next ∧ ∀ x, x < k → ρ x < h.next
 inj : ∀ x y, x < k → y < k → ρ x = ρ y → x = y
 ne : ∀ x, x < k → ρ x ≠ B
theorem Mi.turn {h h' : Hp} {k B i : Nat} {ρ : Nat → Nat} {R : Nat → List AV} {xt : Bool} {Ri : List AV} (M : Mi h k B ρ R xt) (hi : i < k) (hn : h.next ≤ h'.next) (hk : ∀ b, b < h.next → b ≠ ρ i → h'.m b = h.m b) (hr : h'.m (ρ i) = some (.cells Ri 2 false)) (hl : Ri.length = k) :
    Mi h' k B ρ (fun x => if x = i then Ri else R x) xt := by
 refine ⟨?_, fun x hx => ?_, fun x hx => ?_, ?_, M.inj, M.ne⟩
 ·obtain ⟨C, h1, h2⟩ := M.top
  exact ⟨C, by rw [hk B M.lt.1 (fun e => M.ne i hi e.symm)]; exact h1, h2⟩
 ·by_cases e : x = i
  ·subst e; rw [if_pos rfl]; exact hr
  ·rw [if_neg e, hk (ρ x) (M.lt.2 x hx) fun q => e (M.inj x i hx hi q)]; exact M.row x hx
 ·by_cases e : x = i
  ·rw [if_pos e]; exact hl
  ·rw [if_neg e]; exact M.len x hx
 ·exact ⟨by have := M.lt.1; omega, fun x hx => by have := M.lt.2 x hx; omega⟩
def tab2 (k : Nat) (f : Nat → Nat → Int) : List (List Int) := (List.range k).map fun x => (List.range k).map (f x)
theorem tab2_len (k : Nat) (f : Nat → Nat → Int) : (tab2 k f).length = k := by simp [tab2]
theorem irow_tab (k : Nat) (f : Nat → Int) : irow ((List.range k).map f) = .isl ((List.range k).map fun y => .flat (.int .i64 (f y))) 1 0 k := by
 simp only [irow, List.map_map, List.length_map, List.length_range]
 rfl
theorem irows_tab (k : Nat) (f : Nat → Nat → Int) : irows (tab2 k f) = .isl ((List.range k).map fun x => .isl ((List.range k).map fun y => .flat (.int .i64 (f x y))) 1 0 k) 1 0 k := by
 simp only [irows, tab2, List.map_map, List.length_map, List.length_range]
 congr 1
 refine List.map_congr_left fun x _ => ?_
 simp only [Function.comp, irow_tab]
theorem list_tab {k : Nat} {l : List AV} {f : Nat → AV} (hl : l.length = k) (h : ∀ x, x < k → l[x]? = some (f x)) : l = (List.range k).map f := by
 apply List.ext_getElem?
 intro i
 by_cases hi : i < k
 ·rw [h i hi, List.getElem?_map, List.getElem?_range hi]; rfl
 ·rw [List.getElem?_eq_none (by omega), List.getElem?_eq_none (by simp; omega)]
theorem Mi.freeze {h : Hp} {k B : Nat} {ρ : Nat → Nat} {R : Nat → List AV} {xt : Bool} (M : Mi h k B ρ R xt) (f : Nat → Nat → Int) (hf : ∀ x y, x < k → y < k → (R x)[y]? = some (.flat (.int .i64 (f x y)))) {c : Cap} (hc : c = .exact k ∨ c = .toEnd 1) :
    ∃ g, Fz g (.slice B 0 k c) (irows (tab2 k f)) ∧ ∀ i l, g i = some l → pureL l = true ∧ ∃ l0 e b, h.m i = some (.cells l0 e b) ∧ FzL g l0 l := by
 obtain ⟨C, h1, h2, h3⟩ := M.top
 rw [list_tab h2 h3] at h1
 have hrow : ∀ x, x < k → R x = (List.range k).map fun y => .flat (.int .i64 (f x y)) := fun x hx => list_tab (M.len x hx) fun y hy => hf x y hx hy
 obtain ⟨g, g1, g2⟩ := rows_freeze (m := k) (z := 1) (n := k) (v := .slice B 0 k c) (L := fun x => (List.range k).map fun y => .flat (.int .i64 (f x y))) h1 (fun x hx => by rw [M.row x hx, hrow x hx]) (fun x hx => pureL_map (fun y => rfl) _) M.inj M.ne
  (fun g x hx hg => Fz.slice hg (Nat.le_refl _) (by simp) (by omega)) (fun g l hg hl => by
   rcases hc with rfl | rfl
   ·exact Fz.slice hg (Nat.le_refl _) (by omega) (by omega)
   ·exact Fz.sliceE hg (by omega) (by omega))
 exact ⟨g, by rw [irows_tab]; exact g1, g2⟩
theorem chained_sem (k : Nat) (hk : k ≤ 8) (hk0 : 0 < k) (h0 : Hp) : ∃ e h', SemCall Try.prog 19 [.flat (.int .i64 (k : Int)), .flat (.int .i64 0), .flat (.slice none 0 0)] h0 e h' ∧ Hp.Le h0 h' ∧
    (∃ B ρ R, e = .ret (.slice B 0 k (.exact k)) ∧ Grow h0 h' ∧ Mi h' k B ρ R false) := by
 refine sem_heap tables.ok Try.func19 rfl rfl rfl rfl ?_
 have B := base0
 unfold Try.f19 bodyOf entry; simp only [Option.getD_some, List.length_cons, List.length_nil, Nat.reduceAdd, Nat.reduceSub]
 repeat (first
  | refine wp_seqQ ?_ | refine wp_blockQ ?_ | refine wp_scopeQ ?_
  | ((first | refine wp_skipQ ?_ | refine wp_labelQ ?_ | refine wp_exitQ ?_ | refine wp_retQ ?_); simp only [kQ, Nat.reduceEqDiff, reduceIte])
  | ((first | refine wp_dreg B (id := 11) [0, 0, 2, 7, 15, 0, 32, 0, 0, 256, 896, 1920, 0, 4096, 4095, 20479, 65535, 131071] (by kernel_rfl) ?_ | refine wp_reg B ?_); simp (disch := omega) only [kW, kG, Nat.reduceEqDiff, reduceIte, Nat.reduceLT, Nat.reduceLeDiff, Nat.reduceAdd, Nat.reduceSub, Nat.reduceMul, Nat.reducePow, Nat.reduceDiv, Nat.reduceMod, evIndexAddr, TD.agg, evFieldAddr, ty2, ty3, ty22, ty36, ty43, ty44])
  | refine wp_condT rfl ?_ | refine wp_condF rfl ?_)
 refine wp_loopQ (fun q s => ∃ (i : Nat) (tm : Nat → Option AV) (h : Hp) (C : List AV) (R : Nat → List AV), s = ⟨tm, 55, h, []⟩ ∧ q = k - i ∧ i ≤ k ∧ tm 0 = some (.flat (.int .i64 (k : Int))) ∧ tm 1 = some (.flat (.int .i64 0)) ∧ tm 2 = some (.flat (.slice none 0 0)) ∧ tm 7 = some (.slice h0.next 0 k (.exact k)) ∧ tm 14 = some (.flat (.int .i64 (k : Int))) ∧ tm 15 = some (.flat (.int .i64 (i : Int))) ∧
  Grow h0 h ∧ h.next = h0.next + 1 + i ∧ h.m h0.next = some (.cells C 36 false) ∧ C.length = k ∧ (∀ x, x < i → C[x]? = some (.slice (h0.next + 1 + x) 0 k (.exact k))) ∧ ∀ x, x < i → h.m (h0.next + 1 + x) = some (.cells (R x) 2 false) ∧ (R x).length = k) k ?_ ?_
 ·refine ⟨0, _, _, List.replicate k (.flat (.slice none 0 0)), fun _ => [], rfl, rfl, Nat.zero_le _, rfl, rfl, rfl, rfl, rfl, rfl, ⟨by simp, fun b hb => ?_⟩, rfl, ?_, ?_, fun x hx => by omega, fun x hx => by omega⟩
  ·simp (disch := omega) only [upd_ne]
  ·simp only [upd_eq]
  ·simp [reps_one]
 ·rintro q s ⟨i, tm, h, C, R, rfl, rfl, hi, t0, t1, t2, t7, t14, t15, hg, hnx, hm, hC, hCx, hRx⟩
  repeat (first
   | refine wp_seqQ ?_ | refine wp_blockQ ?_ | refine wp_scopeQ ?_
   | ((first | refine wp_skipQ ?_ | refine wp_labelQ ?_ | refine wp_exitQ ?_ | refine wp_retQ ?_); simp only [kQ, Nat.reduceEqDiff, reduceIte])
   | ((first | refine wp_dreg B (id := 11) [0, 0, 2, 7, 15, 0, 32, 0, 0, 256, 896, 1920, 0, 4096, 4095, 20479, 65535, 131071] (by kernel_rfl) ?_ | refine wp_reg B ?_); simp (disch := omega) only [kW, kG, Nat.reduceEqDiff, reduceIte, Nat.reduceLT, Nat.reduceLeDiff, Nat.reduceAdd, Nat.reduceSub, Nat.reduceMul, Nat.reducePow, Nat.reduceDiv, Nat.reduceMod, evIndexAddr, TD.agg, evFieldAddr, ty2, ty3, ty22, ty36, ty43, ty44, t0, t1, t2, t7, t14, t15])
   | refine wp_condT rfl ?_ | refine wp_condF rfl ?_)
  refine wp_if rfl (fun ilt => ?_) (fun ige => ?_)
  ·have hik : i < k := by omega
   have gn := hg.next
   have g0 : (C.set i (.slice h.next 0 k (.exact k)))[i]? = some (.slice h.next 0 k (.exact k)) := List.getElem?_set_self (by omega)
   repeat (first
    | refine wp_seqQ ?_ | refine wp_blockQ ?_ | refine wp_scopeQ ?_
    | ((first | refine wp_skipQ ?_ | refine wp_labelQ ?_ | refine wp_exitQ ?_ | refine wp_retQ ?_); simp only [kQ, Nat.reduceEqDiff, reduceIte])
    | ((first | refine wp_dreg B (id := 11) [0, 0, 2, 7, 15, 0, 32, 0, 0, 256, 896, 1920, 0, 4096, 4095, 20479, 65535, 131071] (by kernel_rfl) ?_ | refine wp_reg B ?_); simp (disch := omega) only [kW, kG, Nat.reduceEqDiff, reduceIte, Nat.reduceLT, Nat.reduceLeDiff, Nat.reduceAdd, Nat.reduceSub, Nat.reduceMul, Nat.reducePow, Nat.reduceDiv, Nat.reduceMod, evIndexAddr, TD.agg, evFieldAddr, ty2, ty3, ty22, ty36, ty43, ty44, t0, t1, t2, t7, t14, t15, hm, hC, g0])
    | refine wp_condT rfl ?_ | refine wp_condF rfl ?_)
   refine ⟨_, ?_, i + 1, _, _, C.set i (.slice h.next 0 k (.exact k)), (fun x => if x = i then (List.replicate k (AV.flat (.int .i64 0))).set i (.flat (.int .i64 0)) else R x), rfl, rfl, by omega, t0, t1, t2, t7, t14, rfl, ⟨by simp only; omega, fun b hb => ?_⟩, by simp only; omega, ?_, by simp [hC], fun x hx => ?_, fun x hx => ?_⟩
   ·omega
   ·simp (disch := omega) only [upd_ne]
    exact hg.old b hb
   ·simp (disch := omega) only [upd_ne, upd_eq]
   ·by_cases e : x = i
    ·subst e
     rw [List.getElem?_set_self (by omega), hnx]
    ·rw [List.getElem?_set_ne (by omega)]; exact hCx x (by omega)
   ·dsimp only
    by_cases e : x = i
    ·subst e
     rw [← hnx, if_pos rfl]
     exact ⟨by simp only [upd_eq], by simp⟩
    ·rw [if_neg e]
     obtain ⟨w1, w2⟩ := hRx x (by omega)
     simp (disch := omega) only [upd_ne]
     exact ⟨w1, w2⟩
  ·have ik : i = k := by omega
   subst ik
   repeat (first
    | refine wp_seqQ ?_ | refine wp_blockQ ?_ | refine wp_scopeQ ?_
    | ((first | refine wp_skipQ ?_ | refine wp_labelQ ?_ | refine wp_exitQ ?_ | refine wp_retQ ?_); simp only [kQ, Nat.reduceEqDiff, reduceIte])
    | ((first | refine wp_dreg B (id := 11) [0, 0, 2, 7, 15, 0, 32, 0, 0, 256, 896, 1920, 0, 4096, 4095, 20479, 65535, 131071] (by kernel_rfl) ?_ | refine wp_reg B ?_); simp (disch := omega) only [kW, kG, Nat.reduceEqDiff, reduceIte, Nat.reduceLT, Nat.reduceLeDiff, Nat.reduceAdd, Nat.reduceSub, Nat.reduceMul, Nat.reducePow, Nat.reduceDiv, Nat.reduceMod, evIndexAddr, TD.agg, evFieldAddr, ty2, ty3, ty22, ty36, ty43, ty44, t0, t1, t2, t7, t14, t15])
    | refine wp_condT rfl ?_ | refine wp_condF rfl ?_)
   refine wp_loopQ (fun q s => ∃ (tm : Nat → Option AV), s = ⟨tm, 55, h, []⟩ ∧ tm 7 = some (.slice h0.next 0 i (.exact i)) ∧ tm 32 = some (.flat (.int .i64 0)) ∧ tm 33 = some (.flat (.int .i64 0))) 0 ?_ ?_
   ·exact ⟨_, rfl, t7, rfl, rfl⟩
   ·rintro q s ⟨tm, rfl, t7, t32, t33⟩
    repeat (first
     | refine wp_seqQ ?_ | refine wp_blockQ ?_ | refine wp_scopeQ ?_
     | ((first | refine wp_skipQ ?_ | refine wp_labelQ ?_ | refine wp_exitQ ?_ | refine wp_retQ ?_); simp only [kQ, Nat.reduceEqDiff, reduceIte])
     | ((first | refine wp_dreg B (id := 11) [0, 0, 2, 7, 15, 0, 32, 0, 0, 256, 896, 1920, 0, 4096, 4095, 20479, 65535, 131071] (by kernel_rfl) ?_ | refine wp_reg B ?_); simp (disch := omega) only [kW, kG, Nat.reduceEqDiff, reduceIte, Nat.reduceLT, Nat.reduceLeDiff, Nat.reduceAdd, Nat.reduceSub, Nat.reduceMul, Nat.reducePow, Nat.reduceDiv, Nat.reduceMod, evIndexAddr, TD.agg, evFieldAddr, ty2, ty3, ty22, ty36, ty43, ty44, t7, t32, t33])
     | refine wp_condT rfl ?_ | refine wp_condF rfl ?_)
    simp (disch := omega) only [kS, Nat.reduceEqDiff, reduceIte, Nat.reduceLT, Nat.reduceLeDiff, Nat.reduceAdd, Nat.reduceSub, Nat.reduceMul, Nat.reducePow, Nat.reduceDiv, Nat.reduceMod, evIndexAddr, TD.agg, evFieldAddr, ty2, ty3, ty22, ty36, ty43, ty44, t7]
    exact ⟨_, fun x => h0.next + 1 + x, R, rfl, hg, ⟨C, hm, hC, hCx⟩, fun x hx => (hRx x hx).1, fun x hx => (hRx x hx).2, ⟨by omega, fun x hx => by omega⟩, fun x y _ _ e => by omega, fun x hx => by omega⟩
def ChQ (args : List AV) (h0 : Hp) (e : AEnd) (h' : Hp) : Prop := ∀ k : Nat, args = [.flat (.int .i64 (k : Int)), .flat (.int .i64 0), .flat (.slice none 0 0)] → ∃ B ρ R, e = .ret (.slice B 0 k (.exact k)) ∧ Grow h0 h' ∧ Mi h' k B ρ R false
noncomputable def EtCh : Entry Try.prog := Entry.heap 19 ChQ
theorem EtCh_ans (k : Nat) (hk : k ≤ 8) (hk0 : 0 < k) (h : Hp) : ∃ B ρ R h', EtCh.ans [.flat (.int .i64 (k : Int)), .flat (.int .i64 0), .flat (.slice none 0 0)] h = some (.ret (.slice B 0 k (.exact k)), h') ∧ Mi h' k B ρ R false := by
 obtain ⟨e, h', k1, k2, k3⟩ := chained_sem k hk hk0 h
 obtain ⟨e2, h2', k5, k6⟩ := Entry.heap_ans (P := Try.prog) (f := 19) (Q := ChQ) ⟨e, h', k1, k2, fun k' ha => by
  simp only [List.cons.injEq, AV.flat.injEq, Value.int.injEq, true_and, and_true, Int.natCast_inj] at ha
  subst ha
  exact k3⟩
 obtain ⟨B, ρ, R, rfl, _, M⟩ := k6 k rfl
 exact ⟨B, ρ, R, h2', k5, M⟩
def tens (a b : List (List Int)) (i j : Nat) : Int := ent a (i / b.length) (j / b.length) * ent b (i % b.length) (j % b.length)
open Classical in
noncomputable def tensOk (a b : List (List Int)) : Prop := ∀ i j, i < a.length * b.length → j < a.length * b.length → -16384 ≤ tens a b i j ∧ tens a b i j ≤ 16384
open Classical in
noncomputable def tensE (a b : List (List Int)) : Int := if checkV a ≠ 0 then checkV a else if checkV b ≠ 0 then checkV b else if 8 < a.length * b.length then 5 else if tensOk a b then 0 else 3
open Classical in
noncomputable def tensR (a b : List (List Int)) : List (List Int) := if tensE a b = 0 then tab2 (a.length * b.length) (tens a b) else []
theorem checkV_ok {a : List (List Int)} (h : checkV a = 0) : 0 < a.length ∧ a.length ≤ 8 ∧ Sq a ∧ ∀ i j, i < a.length → j < a.length → -16384 ≤ ent a i j ∧ ent a i j ≤ 16384 := by
 unfold checkV at h
 split at h
 ·omega
 ·split at h
  ·omega
  ·split at h
   ·omega
   ·rename_i h1 h2 h3
    have sq : Sq a := Classical.not_not.1 h2
    exact ⟨by omega, by omega, sq, small_ent sq (Classical.not_not.1 h3)⟩
theorem nil_rows (ρ : Ren) (x : Value) (h : AV.rel ρ (.flat (.slice none 0 0)) x) : AV.rel ρ (irows []) x := by
 simp only [AV.rel] at h
 subst h
 simp only [irows, List.map_nil, List.length_nil, AV.rel]
 exact ⟨none, 0, rfl, Nat.le_refl _, by simp, by omega, fun h => by omega⟩
theorem nil_rows2 (e : Int) (ρ : Ren) (x : Value) (h : AV.rel ρ (.tuple [.flat (.slice none 0 0), .flat (.int .i64 e)]) x) : AV.rel ρ (.tuple [irows [], .flat (.int .i64 e)]) x := by
 simp only [AV.rel] at h ⊢
 obtain ⟨l, rfl, hl⟩ := h
 obtain ⟨V1, V2, rfl, h1, h2⟩ := relL2 hl
 exact ⟨_, rfl, relL2mk (nil_rows ρ V1 h1) h2⟩
open Classical in
noncomputable def tensV (a b : List (List Int)) : AV := if tensE a b = 0 then irows (tab2 (a.length * b.length) (tens a b)) else .flat (.slice none 0 0)
theorem tensV_err {a b : List (List Int)} {e : Int} (he : e ≠ 0) (h : tensE a b = e) : AV.tuple [tensV a b, .flat (.int .i64 (tensE a b))] = .tuple [.flat (.slice none 0 0), .flat (.int .i64 e)] := by
 unfold tensV
 rw [if_neg (by rw [h]; exact he), h]
theorem tensV_weak (a b : List (List Int)) (ρ : Ren) (x : Value) (h : AV.rel ρ (.tuple [tensV a b, .flat (.int .i64 (tensE a b))]) x) : AV.rel ρ (.tuple [irows (tensR a b), .flat (.int .i64 (tensE a b))]) x := by
 unfold tensV at h
 unfold tensR
 split at h
 ·rename_i h0; rw [if_pos h0]; exact h
 ·rename_i h0; rw [if_neg h0]; exact nil_rows2 _ ρ x h
theorem tensV_pure (a b : List (List Int)) : (AV.tuple [tensV a b, .flat (.int .i64 (tensE a b))]).pure = true := by
 unfold tensV
 split <;> simp [AV.pure, pureL, irows_pure]
theorem tensE_1 {a b : List (List Int)} (h : checkV a ≠ 0) : tensE a b = checkV a := by unfold tensE; rw [if_pos h]
theorem tensE_2 {a b : List (List Int)} (h1 : checkV a = 0) (h : checkV b ≠ 0) : tensE a b = checkV b := by unfold tensE; rw [if_neg (by simp [h1]), if_pos h]
theorem tensE_3 {a b : List (List Int)} (h1 : checkV a = 0) (h2 : checkV b = 0) (h : 8 < a.length * b.length) : tensE a b = 5 := by unfold tensE; rw [if_neg (by simp [h1]), if_neg (by simp [h2]), if_pos h]
theorem tensE_4 {a b : List (List Int)} (h1 : checkV a = 0) (h2 : checkV b = 0) (h3 : ¬ 8 < a.length * b.length) (h : tensOk a b) : tensE a b = 0 := by unfold tensE; rw [if_neg (by simp [h1]), if_neg (by simp [h2]), if_neg h3, if_pos h]
theorem tensE_5 {a b : List (List Int)} (h1 : checkV a = 0) (h2 : checkV b = 0) (h3 : ¬ 8 < a.length * b.length) (h : ¬ tensOk a b) : tensE a b = 3 := by unfold tensE; rw [if_neg (by simp [h1]), if_neg (by simp [h2]), if_neg h3, if_neg h]
theorem tens_bd {a b : List (List Int)} (sa : ∀ i j, i < a.length → j < a.length → -16384 ≤ ent a i j ∧ ent a i j ≤ 16384) (sb : ∀ i j, i < b.length → j < b.length → -16384 ≤ ent b i j ∧ ent b i j ≤ 16384) {i j p q : Nat} (h1 : i < a.length) (h2 : j < a.length) (h3 : p < b.length) (h4 : q < b.length) :
    -268435456 ≤ ent a i j * ent b p q ∧ ent a i j * ent b p q ≤ 268435456 := by
 have e : (ent a i j * ent b p q).natAbs ≤ 16384 * 16384 := by
  rw [Int.natAbs_mul]
  have := sa i j h1 h2
  have := sb p q h3 h4
  exact Nat.mul_le_mul (by omega) (by omega)
 simp only [Nat.reduceMul] at e
 omega
theorem tens_at {a b : List (List Int)} (sqa : Sq a) (sqb : Sq b) (b1 : 0 < b.length) {i j : Nat} (hi : i < a.length * b.length) (hj : j < a.length * b.length) :
    ∃ i1 j1 i2 j2 : Nat, ∃ ra rb : List Int, i1 < a.length ∧ j1 < a.length ∧ i2 < b.length ∧ j2 < b.length ∧ Int.tdiv (i : Int) (b.length : Int) = (i1 : Int) ∧ Int.tdiv (j : Int) (b.length : Int) = (j1 : Int) ∧ Int.tmod (i : Int) (b.length : Int) = (i2 : Int) ∧ Int.tmod (j : Int) (b.length : Int) = (j2 : Int) ∧
     a[i1]? = some ra ∧ ra.length = a.length ∧ ra[j1]? = some (ent a i1 j1) ∧ b[i2]? = some rb ∧ rb.length = b.length ∧ rb[j2]? = some (ent b i2 j2) ∧ tens a b i j = ent a i1 j1 * ent b i2 j2 := by
 have h1 : i / b.length < a.length := Nat.div_lt_of_lt_mul (by rw [Nat.mul_comm]; exact hi)
 have h2 : j / b.length < a.length := Nat.div_lt_of_lt_mul (by rw [Nat.mul_comm]; exact hj)
 have h3 := Nat.mod_lt i b1
 have h4 := Nat.mod_lt j b1
 obtain ⟨ra, g1, g2, g3⟩ := sqa.get h1 h2
 obtain ⟨rb, g4, g5, g6⟩ := sqb.get h3 h4
 exact ⟨i / b.length, j / b.length, i % b.length, j % b.length, ra, rb, h1, h2, h3, h4, rfl, rfl, rfl, rfl, g1, g2, g3, g4, g5, g6, rfl⟩
theorem tensor_sem (a b : List (List Int)) (la : a.length < 4611686018427387904) (lb : b.length < 4611686018427387904) (h : Hp) :
    SemCall Try.prog 12 [irows a, irows b] h (.ret (.tuple [irows (tensR a b), .flat (.int .i64 (tensE a b))])) h := by
 refine SemCall.weak (v := .tuple [tensV a b, .flat (.int .i64 (tensE a b))]) (sem_pure tables.ok Try.func12 rfl rfl rfl rfl (by simp [pureL, irows_pure]) (tensV_pure a b) ?_ h) (tensV_weak a b)
 have B : Base Try.prog tab _ := tabL_base [EgCheck, EtCh] tables.ok mixed
 generalize hL : tabL [EgCheck, EtCh] = call at B
 have c_EgCheck : ∀ a h, call 18 a h = EgCheck.ans a h := fun _ _ => hL ▸ rfl
 have c_EtCh : ∀ a h, call 19 a h = EtCh.ans a h := fun _ _ => hL ▸ rfl
 clear hL
 have ka := fun h => EgCheck_ans a h la
 have kb := fun h => EgCheck_ans b h lb
 unfold Try.f12 bodyOf entry; simp only [Option.getD_some, List.length_cons, List.length_nil, Nat.reduceAdd, Nat.reduceSub]
 by_cases ha : checkV a = 0
 ·rw [ha] at ka
  by_cases hb : checkV b = 0
  ·rw [hb] at kb
   obtain ⟨a1, a2, sqa, sa⟩ := checkV_ok ha
   obtain ⟨b1, b2, sqb, sb⟩ := checkV_ok hb
   have hk0 : 0 < a.length * b.length := Nat.mul_pos a1 b1
   have hk9 : a.length * b.length ≤ 8 * 8 := Nat.mul_le_mul a2 b2
   have em : (a.length : Int) * (b.length : Int) = ((a.length * b.length : Nat) : Int) := (Int.natCast_mul _ _).symm
   by_cases h8 : 8 < a.length * b.length
   ·rw [tensV_err (by omega) (tensE_3 ha hb h8)]
    repeat (first
     | refine wp_seqQ ?_ | refine wp_blockQ ?_ | refine wp_scopeQ ?_
     | ((first | refine wp_skipQ ?_ | refine wp_labelQ ?_ | refine wp_exitQ ?_ | refine wp_retQ ?_); simp only [kQ, Nat.reduceEqDiff, reduceIte])
     | ((first | refine wp_dreg B (id := 17) [0, 0, 0, 6, 15, 31, 0, 0, 192, 511, 1023, 0, 0, 0, 12288, 30720, 63488, 0, 0, 393216, 1046528, 2095104, 4194303, 8388607] (by kernel_rfl) ?_ | refine wp_reg B ?_); simp (disch := omega) only [kW, kG, Nat.reduceEqDiff, reduceIte, Nat.reduceLT, Nat.reduceLeDiff, Nat.reduceAdd, Nat.reduceSub, Nat.reduceMul, Nat.reducePow, Nat.reduceDiv, Nat.reduceMod, evIndexAddr, TD.agg, evFieldAddr, ty2, ty3, ty22, ty23, ty36, ty43, ty44, fn18, fn19, c_EgCheck, EgCheck_ans, c_EtCh, EtCh_ans, ka, kb, irows_len, em])
     | refine wp_condT rfl ?_ | refine wp_condF rfl ?_)
    simp (disch := omega) only [kS, Nat.reduceEqDiff, reduceIte, Nat.reduceLT, Nat.reduceLeDiff, Nat.reduceAdd, Nat.reduceSub, Nat.reduceMul, Nat.reducePow, Nat.reduceDiv, Nat.reduceMod, evIndexAddr, TD.agg, evFieldAddr, ty2, ty3, ty22, ty23, ty36, ty43, ty44, fn18, fn19, c_EgCheck, EgCheck_ans, c_EtCh, EtCh_ans]
   ·obtain ⟨Bk, ρ, R, h1, kc, M⟩ := EtCh_ans (a.length * b.length) (by omega) hk0 Hp.empty
    obtain ⟨C, hC, hCl, hCx⟩ := M.top
    repeat (first
     | refine wp_seqQ ?_ | refine wp_blockQ ?_ | refine wp_scopeQ ?_
     | ((first | refine wp_skipQ ?_ | refine wp_labelQ ?_ | refine wp_exitQ ?_ | refine wp_retQ ?_); simp only [kQ, Nat.reduceEqDiff, reduceIte])
     | ((first | refine wp_dreg B (id := 17) [0, 0, 0, 6, 15, 31, 0, 0, 192, 511, 1023, 0, 0, 0, 12288, 30720, 63488, 0, 0, 393216, 1046528, 2095104, 4194303, 8388607] (by kernel_rfl) ?_ | refine wp_reg B ?_); simp (disch := omega) only [kW, kG, Nat.reduceEqDiff, reduceIte, Nat.reduceLT, Nat.reduceLeDiff, Nat.reduceAdd, Nat.reduceSub, Nat.reduceMul, Nat.reducePow, Nat.reduceDiv, Nat.reduceMod, evIndexAddr, TD.agg, evFieldAddr, ty2, ty3, ty22, ty23, ty36, ty43, ty44, fn18, fn19, c_EgCheck, EgCheck_ans, c_EtCh, EtCh_ans, ka, kb, irows_len, em, kc])
     | refine wp_condT rfl ?_ | refine wp_condF rfl ?_)
    obtain ⟨K, hK⟩ : ∃ K, K = a.length * b.length := ⟨_, rfl⟩
    rw [← hK] at hk0 hk9 h8 M hCl hCx em
    refine wp_loopQ (fun q s => ∃ (i : Nat) (tm : Nat → Option AV) (h : Hp) (R : Nat → List AV), s = ⟨tm, 84, h, []⟩ ∧ q = K - i ∧ i ≤ K ∧ tm 0 = some (irows a) ∧ tm 1 = some (irows b) ∧ tm 9 = some (.flat (.int .i64 (b.length : Int))) ∧ tm 10 = some (.slice Bk 0 K (.exact K)) ∧ tm 37 = some (.flat (.int .i64 (K : Int))) ∧ tm 38 = some (.flat (.int .i64 (i : Int))) ∧
     Mi h K Bk ρ R false ∧ ∀ x y, x < i → y < K → (-16384 ≤ tens a b x y ∧ tens a b x y ≤ 16384) ∧ (R x)[y]? = some (.flat (.int .i64 (tens a b x y)))) K ?_ ?_
    ·subst hK
     exact ⟨0, _, _, R, rfl, rfl, Nat.zero_le _, rfl, rfl, rfl, rfl, rfl, rfl, M, fun x y hx => by omega⟩
    ·rintro q s ⟨i, tm, h, R, rfl, rfl, hi, t0, t1, t9, t10, t37, t38, M, hall⟩
     repeat (first
      | refine wp_seqQ ?_ | refine wp_blockQ ?_ | refine wp_scopeQ ?_
      | ((first | refine wp_skipQ ?_ | refine wp_labelQ ?_ | refine wp_exitQ ?_ | refine wp_retQ ?_); simp only [kQ, Nat.reduceEqDiff, reduceIte])
      | ((first | refine wp_dreg B (id := 17) [0, 0, 0, 6, 15, 31, 0, 0, 192, 511, 1023, 0, 0, 0, 12288, 30720, 63488, 0, 0, 393216, 1046528, 2095104, 4194303, 8388607] (by kernel_rfl) ?_ | refine wp_reg B ?_); simp (disch := omega) only [kW, kG, Nat.reduceEqDiff, reduceIte, Nat.reduceLT, Nat.reduceLeDiff, Nat.reduceAdd, Nat.reduceSub, Nat.reduceMul, Nat.reducePow, Nat.reduceDiv, Nat.reduceMod, evIndexAddr, TD.agg, evFieldAddr, ty2, ty3, ty22, ty23, ty36, ty43, ty44, fn18, fn19, c_EgCheck, EgCheck_ans, c_EtCh, EtCh_ans, t0, t1, t9, t10, t37, t38])
      | refine wp_condT rfl ?_ | refine wp_condF rfl ?_)
     refine wp_if rfl (fun ilt => ?_) (fun ige => ?_)
     ·have hik : i < K := by omega
      repeat (first
       | refine wp_seqQ ?_ | refine wp_blockQ ?_ | refine wp_scopeQ ?_
       | ((first | refine wp_skipQ ?_ | refine wp_labelQ ?_ | refine wp_exitQ ?_ | refine wp_retQ ?_); simp only [kQ, Nat.reduceEqDiff, reduceIte])
       | ((first | refine wp_dreg B (id := 17) [0, 0, 0, 6, 15, 31, 0, 0, 192, 511, 1023, 0, 0, 0, 12288, 30720, 63488, 0, 0, 393216, 1046528, 2095104, 4194303, 8388607] (by kernel_rfl) ?_ | refine wp_reg B ?_); simp (disch := omega) only [kW, kG, Nat.reduceEqDiff, reduceIte, Nat.reduceLT, Nat.reduceLeDiff, Nat.reduceAdd, Nat.reduceSub, Nat.reduceMul, Nat.reducePow, Nat.reduceDiv, Nat.reduceMod, evIndexAddr, TD.agg, evFieldAddr, ty2, ty3, ty22, ty23, ty36, ty43, ty44, fn18, fn19, c_EgCheck, EgCheck_ans, c_EtCh, EtCh_ans, t0, t1, t9, t10, t37, t38])
       | refine wp_condT rfl ?_ | refine wp_condF rfl ?_)
      refine wp_loopQ (fun q s => ∃ (j : Nat) (tm : Nat → Option AV) (h : Hp) (R : Nat → List AV), s = ⟨tm, 84, h, []⟩ ∧ q = K - j ∧ j ≤ K ∧ tm 0 = some (irows a) ∧ tm 1 = some (irows b) ∧ tm 9 = some (.flat (.int .i64 (b.length : Int))) ∧ tm 10 = some (.slice Bk 0 K (.exact K)) ∧ tm 37 = some (.flat (.int .i64 (K : Int))) ∧ tm 38 = some (.flat (.int .i64 (i : Int))) ∧ tm 11 = some (.flat (.int .i64 (i : Int))) ∧ tm 42 = some (.flat (.int .i64 (K : Int))) ∧ tm 43 = some (.flat (.int .i64 (j : Int))) ∧
       Mi h K Bk ρ R false ∧ (∀ x y, x < i → y < K → (-16384 ≤ tens a b x y ∧ tens a b x y ≤ 16384) ∧ (R x)[y]? = some (.flat (.int .i64 (tens a b x y)))) ∧ ∀ y, y < j → (-16384 ≤ tens a b i y ∧ tens a b i y ≤ 16384) ∧ (R i)[y]? = some (.flat (.int .i64 (tens a b i y)))) K ?_ ?_
      ·exact ⟨0, _, h, R, rfl, rfl, Nat.zero_le _, t0, t1, t9, t10, t37, t38, rfl, rfl, rfl, M, hall, fun y hy => by omega⟩
      ·rintro q s ⟨j, tm, h, R, rfl, rfl, hj, t0, t1, t9, t10, t37, t38, t11, t42, t43, M, hall, hrow⟩
       repeat (first
        | refine wp_seqQ ?_ | refine wp_blockQ ?_ | refine wp_scopeQ ?_
        | ((first | refine wp_skipQ ?_ | refine wp_labelQ ?_ | refine wp_exitQ ?_ | refine wp_retQ ?_); simp only [kQ, Nat.reduceEqDiff, reduceIte])
        | ((first | refine wp_dreg B (id := 17) [0, 0, 0, 6, 15, 31, 0, 0, 192, 511, 1023, 0, 0, 0, 12288, 30720, 63488, 0, 0, 393216, 1046528, 2095104, 4194303, 8388607] (by kernel_rfl) ?_ | refine wp_reg B ?_); simp (disch := omega) only [kW, kG, Nat.reduceEqDiff, reduceIte, Nat.reduceLT, Nat.reduceLeDiff, Nat.reduceAdd, Nat.reduceSub, Nat.reduceMul, Nat.reducePow, Nat.reduceDiv, Nat.reduceMod, evIndexAddr, TD.agg, evFieldAddr, ty2, ty3, ty22, ty23, ty36, ty43, ty44, fn18, fn19, c_EgCheck, EgCheck_ans, c_EtCh, EtCh_ans, t0, t1, t9, t10, t37, t38, t11, t42, t43])
        | refine wp_condT rfl ?_ | refine wp_condF rfl ?_)
       refine wp_if rfl (fun jlt => ?_) (fun jge => ?_)
       ·have hjk : j < K := by omega
        obtain ⟨i1, j1, i2, j2, ra, rb, l1, l2, l3, l4, e1, e2, e3, e4, g1, g2, g3, g4, g5, g6, hT⟩ := tens_at sqa sqb b1 (i := i) (j := j) (by omega) (by omega)
        have g1 := irows_get g1
        have g3 := irow_get g3
        have g4 := irows_get g4
        have g6 := irow_get g6
        obtain ⟨p1, p2⟩ := tens_bd sa sb l1 l2 l3 l4
        obtain ⟨C, hC, hCl, hCx⟩ := M.top
        have gC := hCx i hik
        have gR := M.row i hik
        have gL := M.len i hik
        have lB := M.lt.1
        have lR := M.lt.2 i hik
        rw [← hT] at p1 p2
        by_cases hP : -16384 ≤ tens a b i j ∧ tens a b i j ≤ 16384
        ·repeat (first
           | refine wp_seqQ ?_ | refine wp_blockQ ?_ | refine wp_scopeQ ?_
           | ((first | refine wp_skipQ ?_ | refine wp_labelQ ?_ | refine wp_exitQ ?_ | refine wp_retQ ?_); simp only [kQ, Nat.reduceEqDiff, reduceIte])
           | ((first | refine wp_dreg B (id := 17) [0, 0, 0, 6, 15, 31, 0, 0, 192, 511, 1023, 0, 0, 0, 12288, 30720, 63488, 0, 0, 393216, 1046528, 2095104, 4194303, 8388607] (by kernel_rfl) ?_ | refine wp_reg B ?_); simp (disch := omega) only [kW, kG, Nat.reduceEqDiff, reduceIte, Nat.reduceLT, Nat.reduceLeDiff, Nat.reduceAdd, Nat.reduceSub, Nat.reduceMul, Nat.reducePow, Nat.reduceDiv, Nat.reduceMod, evIndexAddr, TD.agg, evFieldAddr, ty2, ty3, ty22, ty23, ty36, ty43, ty44, fn18, fn19, c_EgCheck, EgCheck_ans, c_EtCh, EtCh_ans, t0, t1, t9, t10, t37, t38, t11, t42, t43, irows, irow, e1, e2, e3, e4, g1, g3, g4, g6, ← hT, hC, gC, gR, gL, hCl])
           | refine wp_condT rfl ?_ | refine wp_condF rfl ?_)
         refine ⟨_, ?_, j + 1, _, _, (fun x => if x = i then (R i).set j (.flat (.int .i64 (tens a b i j))) else R x), rfl, rfl, by omega, t0, t1, t9, t10, t37, t38, t11, t42, rfl, M.turn hik (Nat.le_refl _) (fun b hb hne => ?_) ?_ (by simp [gL]), fun x y hx hy => ?_, fun y hy => ?_⟩
         ·omega
         ·simp (disch := omega) only [upd_ne]
         ·simp only [upd_eq]
         ·dsimp only
          rw [if_neg (show ¬ x = i by omega)]; exact hall x y hx hy
         ·dsimp only
          rw [if_pos rfl]
          by_cases e : y = j
          ·subst e; exact ⟨hP, List.getElem?_set_self (by omega)⟩
          ·rw [List.getElem?_set_ne (by omega)]; exact hrow y (by omega)
        ·rw [tensV_err (by omega) (tensE_5 ha hb (by omega) fun k => hP (k i j (by omega) (by omega)))]
         repeat (first
          | refine wp_seqQ ?_ | refine wp_blockQ ?_ | refine wp_scopeQ ?_
          | ((first | refine wp_skipQ ?_ | refine wp_labelQ ?_ | refine wp_exitQ ?_ | refine wp_retQ ?_); simp only [kQ, Nat.reduceEqDiff, reduceIte])
          | ((first | refine wp_dreg B (id := 17) [0, 0, 0, 6, 15, 31, 0, 0, 192, 511, 1023, 0, 0, 0, 12288, 30720, 63488, 0, 0, 393216, 1046528, 2095104, 4194303, 8388607] (by kernel_rfl) ?_ | refine wp_reg B ?_); simp (disch := omega) only [kW, kG, Nat.reduceEqDiff, reduceIte, Nat.reduceLT, Nat.reduceLeDiff, Nat.reduceAdd, Nat.reduceSub, Nat.reduceMul, Nat.reducePow, Nat.reduceDiv, Nat.reduceMod, evIndexAddr, TD.agg, evFieldAddr, ty2, ty3, ty22, ty23, ty36, ty43, ty44, fn18, fn19, c_EgCheck, EgCheck_ans, c_EtCh, EtCh_ans, t0, t1, t9, t10, t37, t38, t11, t42, t43, irows, irow, e1, e2, e3, e4, g1, g3, g4, g6, ← hT])
          | refine wp_condT rfl ?_ | refine wp_condF rfl ?_)
         simp (disch := omega) only [kS, Nat.reduceEqDiff, reduceIte, Nat.reduceLT, Nat.reduceLeDiff, Nat.reduceAdd, Nat.reduceSub, Nat.reduceMul, Nat.reducePow, Nat.reduceDiv, Nat.reduceMod, evIndexAddr, TD.agg, evFieldAddr, ty2, ty3, ty22, ty23, ty36, ty43, ty44, fn18, fn19, c_EgCheck, EgCheck_ans, c_EtCh, EtCh_ans]
       ·repeat (first
          | refine wp_seqQ ?_ | refine wp_blockQ ?_ | refine wp_scopeQ ?_
          | ((first | refine wp_skipQ ?_ | refine wp_labelQ ?_ | refine wp_exitQ ?_ | refine wp_retQ ?_); simp only [kQ, Nat.reduceEqDiff, reduceIte])
          | ((first | refine wp_dreg B (id := 17) [0, 0, 0, 6, 15, 31, 0, 0, 192, 511, 1023, 0, 0, 0, 12288, 30720, 63488, 0, 0, 393216, 1046528, 2095104, 4194303, 8388607] (by kernel_rfl) ?_ | refine wp_reg B ?_); simp (disch := omega) only [kW, kG, Nat.reduceEqDiff, reduceIte, Nat.reduceLT, Nat.reduceLeDiff, Nat.reduceAdd, Nat.reduceSub, Nat.reduceMul, Nat.reducePow, Nat.reduceDiv, Nat.reduceMod, evIndexAddr, TD.agg, evFieldAddr, ty2, ty3, ty22, ty23, ty36, ty43, ty44, fn18, fn19, c_EgCheck, EgCheck_ans, c_EtCh, EtCh_ans, t0, t1, t9, t10, t37, t38, t11, t42, t43])
          | refine wp_condT rfl ?_ | refine wp_condF rfl ?_)
        refine ⟨_, ?_, i + 1, _, h, R, rfl, rfl, by omega, t0, t1, t9, t10, t37, rfl, M, fun x y hx hy => ?_⟩
        ·omega
        ·by_cases e : x = i
         ·subst e; exact hrow y (by omega)
         ·exact hall x y (by omega) hy
     ·have hok : tensOk a b := fun x y hx hy => (hall x y (by omega) (by omega)).1
      have hE := tensE_4 ha hb (by omega) hok
      rw [show AV.tuple [tensV a b, .flat (.int .i64 (tensE a b))] = .tuple [irows (tab2 K (tens a b)), .flat (.int .i64 0)] by unfold tensV; rw [if_pos hE, hE, hK]]
      obtain ⟨g, q1, q2⟩ := M.freeze (tens a b) (fun x y hx hy => (hall x y (by omega) hy).2) (c := .exact K) (.inl rfl)
      repeat (first
       | refine wp_seqQ ?_ | refine wp_blockQ ?_ | refine wp_scopeQ ?_
       | ((first | refine wp_skipQ ?_ | refine wp_labelQ ?_ | refine wp_exitQ ?_ | refine wp_retQ ?_); simp only [kQ, Nat.reduceEqDiff, reduceIte])
       | ((fail_if_success refine wp_reg (id := 23) B ?_); (first | refine wp_dreg B (id := 17) [0, 0, 0, 6, 15, 31, 0, 0, 192, 511, 1023, 0, 0, 0, 12288, 30720, 63488, 0, 0, 393216, 1046528, 2095104, 4194303, 8388607] (by kernel_rfl) ?_ | refine wp_reg B ?_); simp (disch := omega) only [kW, kG, Nat.reduceEqDiff, reduceIte, Nat.reduceLT, Nat.reduceLeDiff, Nat.reduceAdd, Nat.reduceSub, Nat.reduceMul, Nat.reducePow, Nat.reduceDiv, Nat.reduceMod, evIndexAddr, TD.agg, evFieldAddr, ty2, ty3, ty22, ty23, ty36, ty43, ty44, fn18, fn19, c_EgCheck, EgCheck_ans, c_EtCh, EtCh_ans, t0, t1, t9, t10, t37, t38])
       | refine wp_condT rfl ?_ | refine wp_condF rfl ?_)
      refine WP.freeze 10 g t10 q1 q2 ?_
      repeat (first
       | refine wp_seqQ ?_ | refine wp_blockQ ?_ | refine wp_scopeQ ?_
       | ((first | refine wp_skipQ ?_ | refine wp_labelQ ?_ | refine wp_exitQ ?_ | refine wp_retQ ?_); simp only [kQ, Nat.reduceEqDiff, reduceIte])
       | ((first | refine wp_dreg B (id := 17) [0, 0, 0, 6, 15, 31, 0, 0, 192, 511, 1023, 0, 0, 0, 12288, 30720, 63488, 0, 0, 393216, 1046528, 2095104, 4194303, 8388607] (by kernel_rfl) ?_ | refine wp_reg B ?_); simp (disch := omega) only [kW, kG, Nat.reduceEqDiff, reduceIte, Nat.reduceLT, Nat.reduceLeDiff, Nat.reduceAdd, Nat.reduceSub, Nat.reduceMul, Nat.reducePow, Nat.reduceDiv, Nat.reduceMod, evIndexAddr, TD.agg, evFieldAddr, ty2, ty3, ty22, ty23, ty36, ty43, ty44, fn18, fn19, c_EgCheck, EgCheck_ans, c_EtCh, EtCh_ans])
       | refine wp_condT rfl ?_ | refine wp_condF rfl ?_)
      simp (disch := omega) only [kS, Nat.reduceEqDiff, reduceIte, Nat.reduceLT, Nat.reduceLeDiff, Nat.reduceAdd, Nat.reduceSub, Nat.reduceMul, Nat.reducePow, Nat.reduceDiv, Nat.reduceMod, evIndexAddr, TD.agg, evFieldAddr, ty2, ty3, ty22, ty23, ty36, ty43, ty44, fn18, fn19, c_EgCheck, EgCheck_ans, c_EtCh, EtCh_ans]
  ·rw [tensV_err hb (tensE_2 ha hb)]
   generalize checkV b = E at *
   repeat (first
    | refine wp_seqQ ?_ | refine wp_blockQ ?_ | refine wp_scopeQ ?_
    | ((first | refine wp_skipQ ?_ | refine wp_labelQ ?_ | refine wp_exitQ ?_ | refine wp_retQ ?_); simp only [kQ, Nat.reduceEqDiff, reduceIte])
    | ((first | refine wp_dreg B (id := 17) [0, 0, 0, 6, 15, 31, 0, 0, 192, 511, 1023, 0, 0, 0, 12288, 30720, 63488, 0, 0, 393216, 1046528, 2095104, 4194303, 8388607] (by kernel_rfl) ?_ | refine wp_reg B ?_); simp (disch := omega) only [kW, kG, Nat.reduceEqDiff, reduceIte, Nat.reduceLT, Nat.reduceLeDiff, Nat.reduceAdd, Nat.reduceSub, Nat.reduceMul, Nat.reducePow, Nat.reduceDiv, Nat.reduceMod, evIndexAddr, TD.agg, evFieldAddr, ty2, ty3, ty22, ty23, ty36, ty43, ty44, fn18, fn19, c_EgCheck, EgCheck_ans, c_EtCh, EtCh_ans, ka, kb])
    | refine wp_condT rfl ?_ | refine wp_condF rfl ?_)
   simp (disch := omega) only [kS, Nat.reduceEqDiff, reduceIte, Nat.reduceLT, Nat.reduceLeDiff, Nat.reduceAdd, Nat.reduceSub, Nat.reduceMul, Nat.reducePow, Nat.reduceDiv, Nat.reduceMod, evIndexAddr, TD.agg, evFieldAddr, ty2, ty3, ty22, ty23, ty36, ty43, ty44, fn18, fn19, c_EgCheck, EgCheck_ans, c_EtCh, EtCh_ans]
 ·rw [tensV_err ha (tensE_1 ha)]
  generalize checkV a = E at *
  repeat (first
   | refine wp_seqQ ?_ | refine wp_blockQ ?_ | refine wp_scopeQ ?_
   | ((first | refine wp_skipQ ?_ | refine wp_labelQ ?_ | refine wp_exitQ ?_ | refine wp_retQ ?_); simp only [kQ, Nat.reduceEqDiff, reduceIte])
   | ((first | refine wp_dreg B (id := 17) [0, 0, 0, 6, 15, 31, 0, 0, 192, 511, 1023, 0, 0, 0, 12288, 30720, 63488, 0, 0, 393216, 1046528, 2095104, 4194303, 8388607] (by kernel_rfl) ?_ | refine wp_reg B ?_); simp (disch := omega) only [kW, kG, Nat.reduceEqDiff, reduceIte, Nat.reduceLT, Nat.reduceLeDiff, Nat.reduceAdd, Nat.reduceSub, Nat.reduceMul, Nat.reducePow, Nat.reduceDiv, Nat.reduceMod, evIndexAddr, TD.agg, evFieldAddr, ty2, ty3, ty22, ty23, ty36, ty43, ty44, fn18, fn19, c_EgCheck, EgCheck_ans, c_EtCh, EtCh_ans, ka])
   | refine wp_condT rfl ?_ | refine wp_condF rfl ?_)
  simp (disch := omega) only [kS, Nat.reduceEqDiff, reduceIte, Nat.reduceLT, Nat.reduceLeDiff, Nat.reduceAdd, Nat.reduceSub, Nat.reduceMul, Nat.reducePow, Nat.reduceDiv, Nat.reduceMod, evIndexAddr, TD.agg, evFieldAddr, ty2, ty3, ty22, ty23, ty36, ty43, ty44, fn18, fn19, c_EgCheck, EgCheck_ans, c_EtCh, EtCh_ans]
noncomputable def EtTensor : Entry Try.prog := ⟨12, fun args h e h' => h' = h ∧ ∃ (a b : List (List Int)), args = [irows a, irows b] ∧ (a.length < 4611686018427387904) ∧ (b.length < 4611686018427387904) ∧ e = .ret (.tuple [irows (tensR a b), .flat (.int .i64 (tensE a b))]), by
 rintro args h e h' ⟨rfl, a, b, rfl, h1, h2, rfl⟩
 exact ⟨tensor_sem a b h1 h2 _, Hp.Le.refl _⟩⟩
theorem EtTensor_ans (a b : List (List Int)) (h : Hp) (h1 : a.length < 4611686018427387904) (h2 : b.length < 4611686018427387904) : EtTensor.ans [irows a, irows b] h = some (.ret (.tuple [irows (tensR a b), .flat (.int .i64 (tensE a b))]), h) :=
 Entry.one ⟨rfl, a, b, rfl, h1, h2, rfl⟩ fun e h' ⟨hh, a', b', ha, _, _, he⟩ => by simp only [kI, irows_eq] at ha; obtain ⟨rfl, rfl⟩ := ha; exact ⟨he, hh⟩
def Rwi (h : Hp) (n i : Nat) (v : AV) (B : Nat) (ρ : Nat → Nat) (R : Nat → List AV) : Prop := (i = 0 ∧ v = .flat (.slice none 0 0)) ∨
 (0 < i ∧ v = .slice B 0 i (.toEnd 1) ∧ h.m B = some (.cells ((List.range i).map fun x => .slice (ρ x) 0 n (.exact n)) 36 true) ∧ B < h.next ∧
  (∀ x, x < i → h.m (ρ x) = some (.cells (R x) 2 false) ∧ (R x).length = n ∧ ρ x < h.next ∧ ρ x ≠ B) ∧ ∀ x y, x < i → y < i → ρ x = ρ y → x = y)
theorem empty_sem (n : Nat) (hn : n ≤ 8) (hn0 : 0 < n) (h0 : Hp) : ∃ e h', SemCall Try.prog 15 [.flat (.int .i64 (n : Int)), .flat (.int .i64 0)] h0 e h' ∧ Hp.Le h0 h' ∧ (∃ B ρ R, e = .ret (.slice B 0 n (.toEnd 1)) ∧ Mi h' n B ρ R true) := by
 refine sem_heap tables.ok Try.func15 rfl rfl rfl rfl ?_
 have B := base0
 unfold Try.f15 bodyOf entry; simp only [Option.getD_some, List.length_cons, List.length_nil, Nat.reduceAdd, Nat.reduceSub]
 repeat (first
  | refine wp_seqQ ?_ | refine wp_blockQ ?_ | refine wp_scopeQ ?_
  | ((first | refine wp_skipQ ?_ | refine wp_labelQ ?_ | refine wp_exitQ ?_ | refine wp_retQ ?_); simp only [kQ, Nat.reduceEqDiff, reduceIte])
  | (refine wp_reg B ?_; simp (disch := omega) only [kW, Nat.reduceEqDiff, reduceIte, Nat.reduceLT, Nat.reduceLeDiff, Nat.reduceAdd, Nat.reduceSub, Nat.reduceMul, Nat.reducePow, Nat.reduceDiv, Nat.reduceMod, evIndexAddr, TD.agg, evFieldAddr, ty2, ty3, ty22, ty36])
  | refine wp_condT rfl ?_ | refine wp_condF rfl ?_)
 refine wp_loopQ (fun k s => ∃ (i : Nat) (v : AV) (tm : Nat → Option AV) (h : Hp) (Bk : Nat) (ρ : Nat → Nat) (R : Nat → List AV), s = ⟨tm, 24, h, []⟩ ∧ k = n - i ∧ i ≤ n ∧ tm 0 = some (.flat (.int .i64 (n : Int))) ∧ tm 1 = some (.flat (.int .i64 0)) ∧ tm 6 = some (.flat (.int .i64 (i : Int))) ∧ tm 5 = some v ∧ Rwi h n i v Bk ρ R) n ?_ ?_
 ·exact ⟨0, _, _, _, 0, fun _ => 0, fun _ => [], rfl, rfl, Nat.zero_le _, rfl, rfl, rfl, rfl, .inl ⟨rfl, rfl⟩⟩
 ·rintro k s ⟨i, v, tm, h, Bk, ρ, R, rfl, rfl, hi, t0, t1, t6, t5, hR⟩
  repeat (first
   | refine wp_seqQ ?_ | refine wp_blockQ ?_ | refine wp_scopeQ ?_
   | ((first | refine wp_skipQ ?_ | refine wp_labelQ ?_ | refine wp_exitQ ?_ | refine wp_retQ ?_); simp only [kQ, Nat.reduceEqDiff, reduceIte])
   | (refine wp_reg B ?_; simp (disch := omega) only [kW, Nat.reduceEqDiff, reduceIte, Nat.reduceLT, Nat.reduceLeDiff, Nat.reduceAdd, Nat.reduceSub, Nat.reduceMul, Nat.reducePow, Nat.reduceDiv, Nat.reduceMod, evIndexAddr, TD.agg, evFieldAddr, ty2, ty3, ty22, ty36, t0, t1, t6, t5])
   | refine wp_condT rfl ?_ | refine wp_condF rfl ?_)
  refine wp_if rfl (fun ilt => ?_) (fun ige => ?_)
  ·have hin : i < n := by omega
   rcases hR with ⟨rfl, rfl⟩ | ⟨hi0, rfl, hB, hBl, hrow, hinj⟩
   ·repeat (first
      | refine wp_seqQ ?_ | refine wp_blockQ ?_ | refine wp_scopeQ ?_
      | ((first | refine wp_skipQ ?_ | refine wp_labelQ ?_ | refine wp_exitQ ?_ | refine wp_retQ ?_); simp only [kQ, Nat.reduceEqDiff, reduceIte])
      | (refine wp_reg B ?_; simp (disch := omega) only [kW, Nat.reduceEqDiff, reduceIte, Nat.reduceLT, Nat.reduceLeDiff, Nat.reduceAdd, Nat.reduceSub, Nat.reduceMul, Nat.reducePow, Nat.reduceDiv, Nat.reduceMod, evIndexAddr, TD.agg, evFieldAddr, ty2, ty3, ty22, ty36, t0, t1, t6, t5])
      | refine wp_condT rfl ?_ | refine wp_condF rfl ?_)
    refine ⟨_, ?_, 1, _, _, _, h.next + 2, (fun _ => h.next), (fun _ => (List.replicate n (AV.flat (.int .i64 0))).set 0 (.flat (.int .i64 0))), rfl, rfl, by omega, t0, t1, rfl, rfl, .inr ⟨by omega, rfl, ?_, by simp only; omega, fun x hx => ⟨?_, by simp, by simp only; omega, by show h.next ≠ h.next + 2; omega⟩, fun x y hx hy _ => by omega⟩⟩
    ·omega
    ·simp only [upd_eq]; rfl
    ·simp (disch := omega) only [upd_ne, upd_eq]
   ·repeat (first
      | refine wp_seqQ ?_ | refine wp_blockQ ?_ | refine wp_scopeQ ?_
      | ((first | refine wp_skipQ ?_ | refine wp_labelQ ?_ | refine wp_exitQ ?_ | refine wp_retQ ?_); simp only [kQ, Nat.reduceEqDiff, reduceIte])
      | (refine wp_reg B ?_; simp (disch := omega) only [kW, Nat.reduceEqDiff, reduceIte, Nat.reduceLT, Nat.reduceLeDiff, Nat.reduceAdd, Nat.reduceSub, Nat.reduceMul, Nat.reducePow, Nat.reduceDiv, Nat.reduceMod, evIndexAddr, TD.agg, evFieldAddr, ty2, ty3, ty22, ty36, t0, t1, t6, t5, hB])
      | refine wp_condT rfl ?_ | refine wp_condF rfl ?_)
    refine ⟨_, ?_, i + 1, _, _, _, h.next + 2, (fun x => if x = i then h.next else ρ x), (fun x => if x = i then (List.replicate n (AV.flat (.int .i64 0))).set i (.flat (.int .i64 0)) else R x), rfl, rfl, by omega, t0, t1, rfl, rfl, .inr ⟨by omega, rfl, ?_, by simp only; omega, fun x hx => ?_, fun x y hx hy e => ?_⟩⟩
    ·omega
    ·simp only [upd_eq]
     rw [List.range_succ, List.map_append]
     congr 3
     ·refine List.map_congr_left fun x hx => ?_
      have := List.mem_range.1 hx
      rw [if_neg (by omega)]
     ·simp
    ·dsimp only
     by_cases e : x = i
     ·rw [if_pos e, if_pos e]
      exact ⟨by simp (disch := omega) only [upd_ne, upd_eq], by simp, by omega, by omega⟩
     ·obtain ⟨w1, w2, w3, w4⟩ := hrow x (by omega)
      rw [if_neg e, if_neg e]
      exact ⟨by simp (disch := omega) only [upd_ne]; exact w1, w2, by omega, by omega⟩
    ·dsimp only at e
     by_cases e1 : x = i
     ·by_cases e2 : y = i
      ·omega
      ·rw [if_pos e1, if_neg e2] at e
       have := (hrow y (by omega)).2.2.1
       omega
     ·by_cases e2 : y = i
      ·rw [if_neg e1, if_pos e2] at e
       have := (hrow x (by omega)).2.2.1
       omega
      ·rw [if_neg e1, if_neg e2] at e
       exact hinj x y (by omega) (by omega) e
  ·have ien : i = n := by omega
   rcases hR with ⟨e, _⟩ | ⟨hi0, rfl, hB, hBl, hrow, hinj⟩
   ·omega
   subst ien
   repeat (first
    | refine wp_seqQ ?_ | refine wp_blockQ ?_ | refine wp_scopeQ ?_
    | ((first | refine wp_skipQ ?_ | refine wp_labelQ ?_ | refine wp_exitQ ?_ | refine wp_retQ ?_); simp only [kQ, Nat.reduceEqDiff, reduceIte])
    | (refine wp_reg B ?_; simp (disch := omega) only [kW, Nat.reduceEqDiff, reduceIte, Nat.reduceLT, Nat.reduceLeDiff, Nat.reduceAdd, Nat.reduceSub, Nat.reduceMul, Nat.reducePow, Nat.reduceDiv, Nat.reduceMod, evIndexAddr, TD.agg, evFieldAddr, ty2, ty3, ty22, ty36, t0, t1, t6, t5])
    | refine wp_condT rfl ?_ | refine wp_condF rfl ?_)
   simp (disch := omega) only [kS, Nat.reduceEqDiff, reduceIte, Nat.reduceLT, Nat.reduceLeDiff, Nat.reduceAdd, Nat.reduceSub, Nat.reduceMul, Nat.reducePow, Nat.reduceDiv, Nat.reduceMod, evIndexAddr, TD.agg, evFieldAddr, ty2, ty3, ty22, ty36, t5]
   exact ⟨Bk, ρ, R, rfl, ⟨_, hB, by simp, fun x hx => range_get _ hx⟩, fun x hx => (hrow x hx).1, fun x hx => (hrow x hx).2.1, ⟨hBl, fun x hx => (hrow x hx).2.2.1⟩, hinj, fun x hx => (hrow x hx).2.2.2⟩
def EmQ (args : List AV) (h0 : Hp) (e : AEnd) (h' : Hp) : Prop := ∀ k : Nat, args = [.flat (.int .i64 (k : Int)), .flat (.int .i64 0)] → ∃ B ρ R, e = .ret (.slice B 0 k (.toEnd 1)) ∧ Mi h' k B ρ R true
noncomputable def EtEm : Entry Try.prog := Entry.heap 15 EmQ
theorem EtEm_ans (k : Nat) (hk : k ≤ 8) (hk0 : 0 < k) (h : Hp) : ∃ B ρ R h', EtEm.ans [.flat (.int .i64 (k : Int)), .flat (.int .i64 0)] h = some (.ret (.slice B 0 k (.toEnd 1)), h') ∧ Mi h' k B ρ R true := by
 obtain ⟨e, h', k1, k2, k3⟩ := empty_sem k hk hk0 h
 obtain ⟨e2, h2', k5, k6⟩ := Entry.heap_ans (P := Try.prog) (f := 15) (Q := EmQ) ⟨e, h', k1, k2, fun k' ha => by
  simp only [List.cons.injEq, AV.flat.injEq, Value.int.injEq, true_and, and_true, Int.natCast_inj] at ha
  subst ha
  exact k3⟩
 obtain ⟨B, ρ, R, rfl, M⟩ := k6 k rfl
 exact ⟨B, ρ, R, h2', k5, M⟩
end Go.Proofs.Ytllocgmbjjoemaa.Iv
end
section
set_option maxHeartbeats 16000000
set_option linter.unusedVariables false
set_option linter.unusedSimpArgs false
set_option maxRecDepth 10000
namespace Go.Proofs.Ytllocgmbjjoemaa.Iv
open Go Go.Iv Go.RowKit Go.Proofs.Ytllocgmbjjoemaa.Nv
theorem rtensor_sem (a b : List (List Int)) (la : a.length < 4611686018427387904) (lb : b.length < 4611686018427387904) (h : Hp) :
    SemCall Try.prog 13 [irows a, irows b] h (.ret (.tuple [irows (tensR a b), .flat (.int .i64 (tensE a b))])) h := by
 refine SemCall.weak (v := .tuple [tensV a b, .flat (.int .i64 (tensE a b))]) (sem_pure tables.ok Try.func13 rfl rfl rfl rfl (by simp [pureL, irows_pure]) (tensV_pure a b) ?_ h) (tensV_weak a b)
 have B : Base Try.prog tab _ := tabL_base [EfCheck, EtEm] tables.ok mixed
 generalize hL : tabL [EfCheck, EtEm] = call at B
 have c_EfCheck : ∀ a h, call 20 a h = EfCheck.ans a h := fun _ _ => hL ▸ rfl
 have c_EtEm : ∀ a h, call 15 a h = EtEm.ans a h := fun _ _ => hL ▸ rfl
 clear hL
 have ka := fun h => EfCheck_ans a h la
 have kb := fun h => EfCheck_ans b h lb
 unfold Try.f13 bodyOf entry; simp only [Option.getD_some, List.length_cons, List.length_nil, Nat.reduceAdd, Nat.reduceSub]
 by_cases ha : checkV a = 0
 ·rw [ha] at ka
  by_cases hb : checkV b = 0
  ·rw [hb] at kb
   obtain ⟨a1, a2, sqa, sa⟩ := checkV_ok ha
   obtain ⟨b1, b2, sqb, sb⟩ := checkV_ok hb
   have hk0 : 0 < a.length * b.length := Nat.mul_pos a1 b1
   have hk9 : a.length * b.length ≤ 8 * 8 := Nat.mul_le_mul a2 b2
   have em : (a.length : Int) * (b.length : Int) = ((a.length * b.length : Nat) : Int) := (Int.natCast_mul _ _).symm
   by_cases h8 : 8 < a.length * b.length
   ·rw [tensV_err (by omega) (tensE_3 ha hb h8)]
    repeat (first
     | refine wp_seqQ ?_ | refine wp_blockQ ?_ | refine wp_scopeQ ?_
     | ((first | refine wp_skipQ ?_ | refine wp_labelQ ?_ | refine wp_exitQ ?_ | refine wp_retQ ?_); simp only [kQ, Nat.reduceEqDiff, reduceIte])
     | ((first | refine wp_dreg B (id := 18) [0, 0, 0, 6, 15, 31, 0, 0, 192, 511, 1023, 0, 0, 0, 12288, 30720, 63488, 0, 0, 393216, 1046528, 2095104, 4194303, 8388607] (by kernel_rfl) ?_ | refine wp_reg B ?_); simp (disch := omega) only [kW, kG, Nat.reduceEqDiff, reduceIte, Nat.reduceLT, Nat.reduceLeDiff, Nat.reduceAdd, Nat.reduceSub, Nat.reduceMul, Nat.reducePow, Nat.reduceDiv, Nat.reduceMod, evIndexAddr, TD.agg, evFieldAddr, ty2, ty3, ty22, ty23, ty36, fn20, fn15, c_EfCheck, EfCheck_ans, c_EtEm, EtEm_ans, ka, kb, irows_len, em])
     | refine wp_condT rfl ?_ | refine wp_condF rfl ?_)
    simp (disch := omega) only [kS, Nat.reduceEqDiff, reduceIte, Nat.reduceLT, Nat.reduceLeDiff, Nat.reduceAdd, Nat.reduceSub, Nat.reduceMul, Nat.reducePow, Nat.reduceDiv, Nat.reduceMod, evIndexAddr, TD.agg, evFieldAddr, ty2, ty3, ty22, ty23, ty36, fn20, fn15, c_EfCheck, EfCheck_ans, c_EtEm, EtEm_ans]
   ·obtain ⟨Bk, ρ, R, h1, kc, M⟩ := EtEm_ans (a.length * b.length) (by omega) hk0 Hp.empty
    repeat (first
     | refine wp_seqQ ?_ | refine wp_blockQ ?_ | refine wp_scopeQ ?_
     | ((first | refine wp_skipQ ?_ | refine wp_labelQ ?_ | refine wp_exitQ ?_ | refine wp_retQ ?_); simp only [kQ, Nat.reduceEqDiff, reduceIte])
     | ((first | refine wp_dreg B (id := 18) [0, 0, 0, 6, 15, 31, 0, 0, 192, 511, 1023, 0, 0, 0, 12288, 30720, 63488, 0, 0, 393216, 1046528, 2095104, 4194303, 8388607] (by kernel_rfl) ?_ | refine wp_reg B ?_); simp (disch := omega) only [kW, kG, Nat.reduceEqDiff, reduceIte, Nat.reduceLT, Nat.reduceLeDiff, Nat.reduceAdd, Nat.reduceSub, Nat.reduceMul, Nat.reducePow, Nat.reduceDiv, Nat.reduceMod, evIndexAddr, TD.agg, evFieldAddr, ty2, ty3, ty22, ty23, ty36, fn20, fn15, c_EfCheck, EfCheck_ans, c_EtEm, EtEm_ans, ka, kb, irows_len, em, kc])
     | refine wp_condT rfl ?_ | refine wp_condF rfl ?_)
    obtain ⟨K, hK⟩ : ∃ K, K = a.length * b.length := ⟨_, rfl⟩
    rw [← hK] at hk0 hk9 h8 M em
    refine wp_loopQ (fun q s => ∃ (i : Nat) (tm : Nat → Option AV) (h : Hp) (R : Nat → List AV), s = ⟨tm, 86, h, []⟩ ∧ q = K - i ∧ i ≤ K ∧ tm 0 = some (irows a) ∧ tm 1 = some (irows b) ∧ tm 7 = some (.flat (.int .i64 (a.length : Int))) ∧ tm 8 = some (.flat (.int .i64 (b.length : Int))) ∧ tm 9 = some (.slice Bk 0 K (.toEnd 1)) ∧ tm 10 = some (.flat (.int .i64 (i : Int))) ∧
     Mi h K Bk ρ R true ∧ ∀ x y, x < i → y < K → (-16384 ≤ tens a b x y ∧ tens a b x y ≤ 16384) ∧ (R x)[y]? = some (.flat (.int .i64 (tens a b x y)))) K ?_ ?_
    ·subst hK
     exact ⟨0, _, _, R, rfl, rfl, Nat.zero_le _, rfl, rfl, rfl, rfl, rfl, rfl, M, fun x y hx => by omega⟩
    ·rintro q s ⟨i, tm, h, R, rfl, rfl, hi, t0, t1, t7, t8, t9, t10, M, hall⟩
     repeat (first
      | refine wp_seqQ ?_ | refine wp_blockQ ?_ | refine wp_scopeQ ?_
      | ((first | refine wp_skipQ ?_ | refine wp_labelQ ?_ | refine wp_exitQ ?_ | refine wp_retQ ?_); simp only [kQ, Nat.reduceEqDiff, reduceIte])
      | ((first | refine wp_dreg B (id := 18) [0, 0, 0, 6, 15, 31, 0, 0, 192, 511, 1023, 0, 0, 0, 12288, 30720, 63488, 0, 0, 393216, 1046528, 2095104, 4194303, 8388607] (by kernel_rfl) ?_ | refine wp_reg B ?_); simp (disch := omega) only [kW, kG, Nat.reduceEqDiff, reduceIte, Nat.reduceLT, Nat.reduceLeDiff, Nat.reduceAdd, Nat.reduceSub, Nat.reduceMul, Nat.reducePow, Nat.reduceDiv, Nat.reduceMod, evIndexAddr, TD.agg, evFieldAddr, ty2, ty3, ty22, ty23, ty36, fn20, fn15, c_EfCheck, EfCheck_ans, c_EtEm, EtEm_ans, t0, t1, t7, t8, t9, t10, em])
      | refine wp_condT rfl ?_ | refine wp_condF rfl ?_)
     refine wp_if rfl (fun ilt => ?_) (fun ige => ?_)
     ·have hik : i < K := by omega
      repeat (first
       | refine wp_seqQ ?_ | refine wp_blockQ ?_ | refine wp_scopeQ ?_
       | ((first | refine wp_skipQ ?_ | refine wp_labelQ ?_ | refine wp_exitQ ?_ | refine wp_retQ ?_); simp only [kQ, Nat.reduceEqDiff, reduceIte])
       | ((first | refine wp_dreg B (id := 18) [0, 0, 0, 6, 15, 31, 0, 0, 192, 511, 1023, 0, 0, 0, 12288, 30720, 63488, 0, 0, 393216, 1046528, 2095104, 4194303, 8388607] (by kernel_rfl) ?_ | refine wp_reg B ?_); simp (disch := omega) only [kW, kG, Nat.reduceEqDiff, reduceIte, Nat.reduceLT, Nat.reduceLeDiff, Nat.reduceAdd, Nat.reduceSub, Nat.reduceMul, Nat.reducePow, Nat.reduceDiv, Nat.reduceMod, evIndexAddr, TD.agg, evFieldAddr, ty2, ty3, ty22, ty23, ty36, fn20, fn15, c_EfCheck, EfCheck_ans, c_EtEm, EtEm_ans, t0, t1, t7, t8, t9, t10])
       | refine wp_condT rfl ?_ | refine wp_condF rfl ?_)
      refine wp_loopQ (fun q s => ∃ (j : Nat) (tm : Nat → Option AV) (h : Hp) (R : Nat → List AV), s = ⟨tm, 86, h, []⟩ ∧ q = K - j ∧ j ≤ K ∧ tm 0 = some (irows a) ∧ tm 1 = some (irows b) ∧ tm 7 = some (.flat (.int .i64 (a.length : Int))) ∧ tm 8 = some (.flat (.int .i64 (b.length : Int))) ∧ tm 9 = some (.slice Bk 0 K (.toEnd 1)) ∧ tm 10 = some (.flat (.int .i64 (i : Int))) ∧ tm 11 = some (.flat (.int .i64 (j : Int))) ∧
       Mi h K Bk ρ R true ∧ (∀ x y, x < i → y < K → (-16384 ≤ tens a b x y ∧ tens a b x y ≤ 16384) ∧ (R x)[y]? = some (.flat (.int .i64 (tens a b x y)))) ∧ ∀ y, y < j → (-16384 ≤ tens a b i y ∧ tens a b i y ≤ 16384) ∧ (R i)[y]? = some (.flat (.int .i64 (tens a b i y)))) K ?_ ?_
      ·exact ⟨0, _, h, R, rfl, rfl, Nat.zero_le _, t0, t1, t7, t8, t9, t10, rfl, M, hall, fun y hy => by omega⟩
      ·rintro q s ⟨j, tm, h, R, rfl, rfl, hj, t0, t1, t7, t8, t9, t10, t11, M, hall, hrow⟩
       repeat (first
        | refine wp_seqQ ?_ | refine wp_blockQ ?_ | refine wp_scopeQ ?_
        | ((first | refine wp_skipQ ?_ | refine wp_labelQ ?_ | refine wp_exitQ ?_ | refine wp_retQ ?_); simp only [kQ, Nat.reduceEqDiff, reduceIte])
        | ((first | refine wp_dreg B (id := 18) [0, 0, 0, 6, 15, 31, 0, 0, 192, 511, 1023, 0, 0, 0, 12288, 30720, 63488, 0, 0, 393216, 1046528, 2095104, 4194303, 8388607] (by kernel_rfl) ?_ | refine wp_reg B ?_); simp (disch := omega) only [kW, kG, Nat.reduceEqDiff, reduceIte, Nat.reduceLT, Nat.reduceLeDiff, Nat.reduceAdd, Nat.reduceSub, Nat.reduceMul, Nat.reducePow, Nat.reduceDiv, Nat.reduceMod, evIndexAddr, TD.agg, evFieldAddr, ty2, ty3, ty22, ty23, ty36, fn20, fn15, c_EfCheck, EfCheck_ans, c_EtEm, EtEm_ans, t0, t1, t7, t8, t9, t10, t11, em])
        | refine wp_condT rfl ?_ | refine wp_condF rfl ?_)
       refine wp_if rfl (fun jlt => ?_) (fun jge => ?_)
       ·have hjk : j < K := by omega
        obtain ⟨i1, j1, i2, j2, ra, rb, l1, l2, l3, l4, e1, e2, e3, e4, g1, g2, g3, g4, g5, g6, hT⟩ := tens_at sqa sqb b1 (i := i) (j := j) (by omega) (by omega)
        have g1 := irows_get g1
        have g3 := irow_get g3
        have g4 := irows_get g4
        have g6 := irow_get g6
        obtain ⟨p1, p2⟩ := tens_bd sa sb l1 l2 l3 l4
        obtain ⟨C, hC, hCl, hCx⟩ := M.top
        have gC := hCx i hik
        have gR := M.row i hik
        have gL := M.len i hik
        have lB := M.lt.1
        have lR := M.lt.2 i hik
        rw [← hT] at p1 p2
        by_cases hP1 : tens a b i j ≤ 16384
        ·by_cases hP2 : -16384 ≤ tens a b i j
         ·repeat (first
            | refine wp_seqQ ?_ | refine wp_blockQ ?_ | refine wp_scopeQ ?_
            | ((first | refine wp_skipQ ?_ | refine wp_labelQ ?_ | refine wp_exitQ ?_ | refine wp_retQ ?_); simp only [kQ, Nat.reduceEqDiff, reduceIte])
            | ((first | refine wp_dreg B (id := 18) [0, 0, 0, 6, 15, 31, 0, 0, 192, 511, 1023, 0, 0, 0, 12288, 30720, 63488, 0, 0, 393216, 1046528, 2095104, 4194303, 8388607] (by kernel_rfl) ?_ | refine wp_reg B ?_); simp (disch := omega) only [kW, kG, Nat.reduceEqDiff, reduceIte, Nat.reduceLT, Nat.reduceLeDiff, Nat.reduceAdd, Nat.reduceSub, Nat.reduceMul, Nat.reducePow, Nat.reduceDiv, Nat.reduceMod, evIndexAddr, TD.agg, evFieldAddr, ty2, ty3, ty22, ty23, ty36, fn20, fn15, c_EfCheck, EfCheck_ans, c_EtEm, EtEm_ans, t0, t1, t7, t8, t9, t10, t11, irows, irow, e1, e2, e3, e4, g1, g3, g4, g6, ← hT, hC, gC, gR, gL, hCl])
            | refine wp_condT rfl ?_ | refine wp_condF rfl ?_)
          refine ⟨_, ?_, j + 1, _, _, (fun x => if x = i then (R i).set j (.flat (.int .i64 (tens a b i j))) else R x), rfl, rfl, by omega, t0, t1, t7, t8, t9, t10, rfl, M.turn hik (Nat.le_refl _) (fun b hb hne => ?_) ?_ (by simp [gL]), fun x y hx hy => ?_, fun y hy => ?_⟩
          ·omega
          ·simp (disch := omega) only [upd_ne]
          ·simp only [upd_eq]
          ·dsimp only
           rw [if_neg (show ¬ x = i by omega)]; exact hall x y hx hy
          ·dsimp only
           rw [if_pos rfl]
           by_cases e : y = j
           ·subst e; exact ⟨⟨hP2, hP1⟩, List.getElem?_set_self (by omega)⟩
           ·rw [List.getElem?_set_ne (by omega)]; exact hrow y (by omega)
         ·rw [tensV_err (by omega) (tensE_5 ha hb (by omega) fun k => hP2 (k i j (by omega) (by omega)).1)]
          repeat (first
           | refine wp_seqQ ?_ | refine wp_blockQ ?_ | refine wp_scopeQ ?_
           | ((first | refine wp_skipQ ?_ | refine wp_labelQ ?_ | refine wp_exitQ ?_ | refine wp_retQ ?_); simp only [kQ, Nat.reduceEqDiff, reduceIte])
           | ((first | refine wp_dreg B (id := 18) [0, 0, 0, 6, 15, 31, 0, 0, 192, 511, 1023, 0, 0, 0, 12288, 30720, 63488, 0, 0, 393216, 1046528, 2095104, 4194303, 8388607] (by kernel_rfl) ?_ | refine wp_reg B ?_); simp (disch := omega) only [kW, kG, Nat.reduceEqDiff, reduceIte, Nat.reduceLT, Nat.reduceLeDiff, Nat.reduceAdd, Nat.reduceSub, Nat.reduceMul, Nat.reducePow, Nat.reduceDiv, Nat.reduceMod, evIndexAddr, TD.agg, evFieldAddr, ty2, ty3, ty22, ty23, ty36, fn20, fn15, c_EfCheck, EfCheck_ans, c_EtEm, EtEm_ans, t0, t1, t7, t8, t9, t10, t11, irows, irow, e1, e2, e3, e4, g1, g3, g4, g6, ← hT])
           | refine wp_condT rfl ?_ | refine wp_condF rfl ?_)
          simp (disch := omega) only [kS, Nat.reduceEqDiff, reduceIte, Nat.reduceLT, Nat.reduceLeDiff, Nat.reduceAdd, Nat.reduceSub, Nat.reduceMul, Nat.reducePow, Nat.reduceDiv, Nat.reduceMod, evIndexAddr, TD.agg, evFieldAddr, ty2, ty3, ty22, ty23, ty36, fn20, fn15, c_EfCheck, EfCheck_ans, c_EtEm, EtEm_ans]
        ·rw [tensV_err (by omega) (tensE_5 ha hb (by omega) fun k => hP1 (k i j (by omega) (by omega)).2)]
         repeat (first
          | refine wp_seqQ ?_ | refine wp_blockQ ?_ | refine wp_scopeQ ?_
          | ((first | refine wp_skipQ ?_ | refine wp_labelQ ?_ | refine wp_exitQ ?_ | refine wp_retQ ?_); simp only [kQ, Nat.reduceEqDiff, reduceIte])
          | ((first | refine wp_dreg B (id := 18) [0, 0, 0, 6, 15, 31, 0, 0, 192, 511, 1023, 0, 0, 0, 12288, 30720, 63488, 0, 0, 393216, 1046528, 2095104, 4194303, 8388607] (by kernel_rfl) ?_ | refine wp_reg B ?_); simp (disch := omega) only [kW, kG, Nat.reduceEqDiff, reduceIte, Nat.reduceLT, Nat.reduceLeDiff, Nat.reduceAdd, Nat.reduceSub, Nat.reduceMul, Nat.reducePow, Nat.reduceDiv, Nat.reduceMod, evIndexAddr, TD.agg, evFieldAddr, ty2, ty3, ty22, ty23, ty36, fn20, fn15, c_EfCheck, EfCheck_ans, c_EtEm, EtEm_ans, t0, t1, t7, t8, t9, t10, t11, irows, irow, e1, e2, e3, e4, g1, g3, g4, g6, ← hT])
          | refine wp_condT rfl ?_ | refine wp_condF rfl ?_)
         simp (disch := omega) only [kS, Nat.reduceEqDiff, reduceIte, Nat.reduceLT, Nat.reduceLeDiff, Nat.reduceAdd, Nat.reduceSub, Nat.reduceMul, Nat.reducePow, Nat.reduceDiv, Nat.reduceMod, evIndexAddr, TD.agg, evFieldAddr, ty2, ty3, ty22, ty23, ty36, fn20, fn15, c_EfCheck, EfCheck_ans, c_EtEm, EtEm_ans]
       ·repeat (first
          | refine wp_seqQ ?_ | refine wp_blockQ ?_ | refine wp_scopeQ ?_
          | ((first | refine wp_skipQ ?_ | refine wp_labelQ ?_ | refine wp_exitQ ?_ | refine wp_retQ ?_); simp only [kQ, Nat.reduceEqDiff, reduceIte])
          | ((first | refine wp_dreg B (id := 18) [0, 0, 0, 6, 15, 31, 0, 0, 192, 511, 1023, 0, 0, 0, 12288, 30720, 63488, 0, 0, 393216, 1046528, 2095104, 4194303, 8388607] (by kernel_rfl) ?_ | refine wp_reg B ?_); simp (disch := omega) only [kW, kG, Nat.reduceEqDiff, reduceIte, Nat.reduceLT, Nat.reduceLeDiff, Nat.reduceAdd, Nat.reduceSub, Nat.reduceMul, Nat.reducePow, Nat.reduceDiv, Nat.reduceMod, evIndexAddr, TD.agg, evFieldAddr, ty2, ty3, ty22, ty23, ty36, fn20, fn15, c_EfCheck, EfCheck_ans, c_EtEm, EtEm_ans, t0, t1, t7, t8, t9, t10, t11])
          | refine wp_condT rfl ?_ | refine wp_condF rfl ?_)
        refine ⟨_, ?_, i + 1, _, h, R, rfl, rfl, by omega, t0, t1, t7, t8, t9, rfl, M, fun x y hx hy => ?_⟩
        ·omega
        ·by_cases e : x = i
         ·subst e; exact hrow y (by omega)
         ·exact hall x y (by omega) hy
     ·have hok : tensOk a b := fun x y hx hy => (hall x y (by omega) (by omega)).1
      have hE := tensE_4 ha hb (by omega) hok
      rw [show AV.tuple [tensV a b, .flat (.int .i64 (tensE a b))] = .tuple [irows (tab2 K (tens a b)), .flat (.int .i64 0)] by unfold tensV; rw [if_pos hE, hE, hK]]
      obtain ⟨g, q1, q2⟩ := M.freeze (tens a b) (fun x y hx hy => (hall x y (by omega) hy).2) (c := .toEnd 1) (.inr rfl)
      repeat (first
       | refine wp_seqQ ?_ | refine wp_blockQ ?_ | refine wp_scopeQ ?_
       | ((first | refine wp_skipQ ?_ | refine wp_labelQ ?_ | refine wp_exitQ ?_ | refine wp_retQ ?_); simp only [kQ, Nat.reduceEqDiff, reduceIte])
       | ((fail_if_success refine wp_reg (id := 22) B ?_); (first | refine wp_dreg B (id := 18) [0, 0, 0, 6, 15, 31, 0, 0, 192, 511, 1023, 0, 0, 0, 12288, 30720, 63488, 0, 0, 393216, 1046528, 2095104, 4194303, 8388607] (by kernel_rfl) ?_ | refine wp_reg B ?_); simp (disch := omega) only [kW, kG, Nat.reduceEqDiff, reduceIte, Nat.reduceLT, Nat.reduceLeDiff, Nat.reduceAdd, Nat.reduceSub, Nat.reduceMul, Nat.reducePow, Nat.reduceDiv, Nat.reduceMod, evIndexAddr, TD.agg, evFieldAddr, ty2, ty3, ty22, ty23, ty36, fn20, fn15, c_EfCheck, EfCheck_ans, c_EtEm, EtEm_ans, t0, t1, t7, t8, t9, t10])
       | refine wp_condT rfl ?_ | refine wp_condF rfl ?_)
      refine WP.freeze 9 g t9 q1 q2 ?_
      repeat (first
       | refine wp_seqQ ?_ | refine wp_blockQ ?_ | refine wp_scopeQ ?_
       | ((first | refine wp_skipQ ?_ | refine wp_labelQ ?_ | refine wp_exitQ ?_ | refine wp_retQ ?_); simp only [kQ, Nat.reduceEqDiff, reduceIte])
       | ((first | refine wp_dreg B (id := 18) [0, 0, 0, 6, 15, 31, 0, 0, 192, 511, 1023, 0, 0, 0, 12288, 30720, 63488, 0, 0, 393216, 1046528, 2095104, 4194303, 8388607] (by kernel_rfl) ?_ | refine wp_reg B ?_); simp (disch := omega) only [kW, kG, Nat.reduceEqDiff, reduceIte, Nat.reduceLT, Nat.reduceLeDiff, Nat.reduceAdd, Nat.reduceSub, Nat.reduceMul, Nat.reducePow, Nat.reduceDiv, Nat.reduceMod, evIndexAddr, TD.agg, evFieldAddr, ty2, ty3, ty22, ty23, ty36, fn20, fn15, c_EfCheck, EfCheck_ans, c_EtEm, EtEm_ans])
       | refine wp_condT rfl ?_ | refine wp_condF rfl ?_)
      simp (disch := omega) only [kS, Nat.reduceEqDiff, reduceIte, Nat.reduceLT, Nat.reduceLeDiff, Nat.reduceAdd, Nat.reduceSub, Nat.reduceMul, Nat.reducePow, Nat.reduceDiv, Nat.reduceMod, evIndexAddr, TD.agg, evFieldAddr, ty2, ty3, ty22, ty23, ty36, fn20, fn15, c_EfCheck, EfCheck_ans, c_EtEm, EtEm_ans]
  ·rw [tensV_err hb (tensE_2 ha hb)]
   generalize checkV b = E at *
   repeat (first
    | refine wp_seqQ ?_ | refine wp_blockQ ?_ | refine wp_scopeQ ?_
    | ((first | refine wp_skipQ ?_ | refine wp_labelQ ?_ | refine wp_exitQ ?_ | refine wp_retQ ?_); simp only [kQ, Nat.reduceEqDiff, reduceIte])
    | ((first | refine wp_dreg B (id := 18) [0, 0, 0, 6, 15, 31, 0, 0, 192, 511, 1023, 0, 0, 0, 12288, 30720, 63488, 0, 0, 393216, 1046528, 2095104, 4194303, 8388607] (by kernel_rfl) ?_ | refine wp_reg B ?_); simp (disch := omega) only [kW, kG, Nat.reduceEqDiff, reduceIte, Nat.reduceLT, Nat.reduceLeDiff, Nat.reduceAdd, Nat.reduceSub, Nat.reduceMul, Nat.reducePow, Nat.reduceDiv, Nat.reduceMod, evIndexAddr, TD.agg, evFieldAddr, ty2, ty3, ty22, ty23, ty36, fn20, fn15, c_EfCheck, EfCheck_ans, c_EtEm, EtEm_ans, ka, kb])
    | refine wp_condT rfl ?_ | refine wp_condF rfl ?_)
   simp (disch := omega) only [kS, Nat.reduceEqDiff, reduceIte, Nat.reduceLT, Nat.reduceLeDiff, Nat.reduceAdd, Nat.reduceSub, Nat.reduceMul, Nat.reducePow, Nat.reduceDiv, Nat.reduceMod, evIndexAddr, TD.agg, evFieldAddr, ty2, ty3, ty22, ty23, ty36, fn20, fn15, c_EfCheck, EfCheck_ans, c_EtEm, EtEm_ans]
 ·rw [tensV_err ha (tensE_1 ha)]
  generalize checkV a = E at *
  repeat (first
   | refine wp_seqQ ?_ | refine wp_blockQ ?_ | refine wp_scopeQ ?_
   | ((first | refine wp_skipQ ?_ | refine wp_labelQ ?_ | refine wp_exitQ ?_ | refine wp_retQ ?_); simp only [kQ, Nat.reduceEqDiff, reduceIte])
   | ((first | refine wp_dreg B (id := 18) [0, 0, 0, 6, 15, 31, 0, 0, 192, 511, 1023, 0, 0, 0, 12288, 30720, 63488, 0, 0, 393216, 1046528, 2095104, 4194303, 8388607] (by kernel_rfl) ?_ | refine wp_reg B ?_); simp (disch := omega) only [kW, kG, Nat.reduceEqDiff, reduceIte, Nat.reduceLT, Nat.reduceLeDiff, Nat.reduceAdd, Nat.reduceSub, Nat.reduceMul, Nat.reducePow, Nat.reduceDiv, Nat.reduceMod, evIndexAddr, TD.agg, evFieldAddr, ty2, ty3, ty22, ty23, ty36, fn20, fn15, c_EfCheck, EfCheck_ans, c_EtEm, EtEm_ans, ka])
   | refine wp_condT rfl ?_ | refine wp_condF rfl ?_)
  simp (disch := omega) only [kS, Nat.reduceEqDiff, reduceIte, Nat.reduceLT, Nat.reduceLeDiff, Nat.reduceAdd, Nat.reduceSub, Nat.reduceMul, Nat.reducePow, Nat.reduceDiv, Nat.reduceMod, evIndexAddr, TD.agg, evFieldAddr, ty2, ty3, ty22, ty23, ty36, fn20, fn15, c_EfCheck, EfCheck_ans, c_EtEm, EtEm_ans]
noncomputable def EfTensor : Entry Try.prog := ⟨13, fun args h e h' => h' = h ∧ ∃ (a b : List (List Int)), args = [irows a, irows b] ∧ (a.length < 4611686018427387904) ∧ (b.length < 4611686018427387904) ∧ e = .ret (.tuple [irows (tensR a b), .flat (.int .i64 (tensE a b))]), by
 rintro args h e h' ⟨rfl, a, b, rfl, h1, h2, rfl⟩
 exact ⟨rtensor_sem a b h1 h2 _, Hp.Le.refl _⟩⟩
theorem EfTensor_ans (a b : List (List Int)) (h : Hp) (h1 : a.length < 4611686018427387904) (h2 : b.length < 4611686018427387904) : EfTensor.ans [irows a, irows b] h = some (.ret (.tuple [irows (tensR a b), .flat (.int .i64 (tensE a b))]), h) :=
 Entry.one ⟨rfl, a, b, rfl, h1, h2, rfl⟩ fun e h' ⟨hh, a', b', ha, _, _, he⟩ => by simp only [kI, irows_eq] at ha; obtain ⟨rfl, rfl⟩ := ha; exact ⟨he, hh⟩
theorem lenFp_isl (l : List AV) (z o n : Nat) (t : List AV) : lenFp (.isl l z o n :: t) = .none := rfl
theorem same_sem (a : List (List Int)) (ha : a.length ≤ 1000000) (hs : ∀ r ∈ a, r.length ≤ 1000000) (h : Hp) : SemCall Try.prog 10 [irows a, irows a] h (.ret (.flat (.bool true))) h := by
 refine sem_pure tables.ok Try.func10 rfl rfl rfl rfl (by simp [pureL, irows_pure]) rfl ?_ h
 have B := base0
 unfold Try.f10 bodyOf entry; simp only [Option.getD_some, List.length_cons, List.length_nil, Nat.reduceAdd, Nat.reduceSub]
 repeat (first
  | refine wp_seqQ ?_ | refine wp_blockQ ?_ | refine wp_scopeQ ?_
  | ((first | refine wp_skipQ ?_ | refine wp_labelQ ?_ | refine wp_exitQ ?_ | refine wp_retQ ?_); simp only [kQ, Nat.reduceEqDiff, reduceIte])
  | ((first | refine wp_dreg B (id := 6) [0, 0, 3, 7, 15, 0, 0, 96, 224, 480, 1023] (by kernel_rfl) ?_ | refine wp_dreg B (id := 11) [0, 0, 3, 7, 0, 31, 63, 0, 0, 384, 896, 0, 3968, 8064, 16383] (by kernel_rfl) ?_ | refine wp_reg B ?_); simp (disch := omega) only [kW, kG, Nat.reduceEqDiff, reduceIte, Nat.reduceLT, Nat.reduceLeDiff, Nat.reduceAdd, Nat.reduceSub, Nat.reduceMul, Nat.reducePow, Nat.reduceDiv, Nat.reduceMod, evIndexAddr, TD.agg, evFieldAddr, ty2, ty3, ty22, ty36, irows_len])
  | refine wp_condT rfl ?_ | refine wp_condF rfl ?_)
 refine wp_loopQ (fun k s => ∃ (i : Nat) (tm : Nat → Option AV), s = ⟨tm, 53, Hp.empty, []⟩ ∧ k = a.length - i ∧ i ≤ a.length ∧ tm 0 = some (irows a) ∧ tm 1 = some (irows a) ∧ tm 5 = some (.flat (.int .i64 (i : Int)))) a.length ?_ ?_
 ·exact ⟨0, _, rfl, rfl, Nat.zero_le _, rfl, rfl, rfl⟩
 ·rintro k s ⟨i, tm, rfl, rfl, hi, t0, t1, t5⟩
  repeat (first
   | refine wp_seqQ ?_ | refine wp_blockQ ?_ | refine wp_scopeQ ?_
   | ((first | refine wp_skipQ ?_ | refine wp_labelQ ?_ | refine wp_exitQ ?_ | refine wp_retQ ?_); simp only [kQ, Nat.reduceEqDiff, reduceIte])
   | ((first | refine wp_dreg B (id := 6) [0, 0, 3, 7, 15, 0, 0, 96, 224, 480, 1023] (by kernel_rfl) ?_ | refine wp_dreg B (id := 11) [0, 0, 3, 7, 0, 31, 63, 0, 0, 384, 896, 0, 3968, 8064, 16383] (by kernel_rfl) ?_ | refine wp_reg B ?_); simp (disch := omega) only [kW, kG, Nat.reduceEqDiff, reduceIte, Nat.reduceLT, Nat.reduceLeDiff, Nat.reduceAdd, Nat.reduceSub, Nat.reduceMul, Nat.reducePow, Nat.reduceDiv, Nat.reduceMod, evIndexAddr, TD.agg, evFieldAddr, ty2, ty3, ty22, ty36, t0, t1, t5, irows_len])
   | refine wp_condT rfl ?_ | refine wp_condF rfl ?_)
  refine wp_if rfl (fun ilt => ?_) (fun ige => ?_)
  ·obtain ⟨r, hr⟩ : ∃ r, a[i]? = some r := ⟨a[i], List.getElem?_eq_getElem (by omega)⟩
   have g1 := irows_get hr
   have hrl := hs r (List.mem_of_getElem? hr)
   repeat (first
    | refine wp_seqQ ?_ | refine wp_blockQ ?_ | refine wp_scopeQ ?_
    | ((first | refine wp_skipQ ?_ | refine wp_labelQ ?_ | refine wp_exitQ ?_ | refine wp_retQ ?_); simp only [kQ, Nat.reduceEqDiff, reduceIte])
    | ((first | refine wp_dreg B (id := 6) [0, 0, 3, 7, 15, 0, 0, 96, 224, 480, 1023] (by kernel_rfl) ?_ | refine wp_dreg B (id := 11) [0, 0, 3, 7, 0, 31, 63, 0, 0, 384, 896, 0, 3968, 8064, 16383] (by kernel_rfl) ?_ | refine wp_reg B ?_); simp (disch := omega) only [kW, kG, Nat.reduceEqDiff, reduceIte, Nat.reduceLT, Nat.reduceLeDiff, Nat.reduceAdd, Nat.reduceSub, Nat.reduceMul, Nat.reducePow, Nat.reduceDiv, Nat.reduceMod, evIndexAddr, TD.agg, evFieldAddr, ty2, ty3, ty22, ty36, t0, t1, t5, irows, irow, g1, lenFp_isl])
    | refine wp_condT rfl ?_ | refine wp_condF rfl ?_)
   refine wp_loopQ (fun k s => ∃ (j : Nat) (tm : Nat → Option AV), s = ⟨tm, 53, Hp.empty, []⟩ ∧ k = r.length - j ∧ j ≤ r.length ∧ tm 0 = some (irows a) ∧ tm 1 = some (irows a) ∧ tm 5 = some (.flat (.int .i64 (i : Int))) ∧ tm 6 = some (.flat (.int .i64 (j : Int)))) r.length ?_ ?_
   ·exact ⟨0, _, rfl, rfl, Nat.zero_le _, t0, t1, t5, rfl⟩
   ·rintro k s ⟨j, tm, rfl, rfl, hj, t0, t1, t5, t6⟩
    repeat (first
     | refine wp_seqQ ?_ | refine wp_blockQ ?_ | refine wp_scopeQ ?_
     | ((first | refine wp_skipQ ?_ | refine wp_labelQ ?_ | refine wp_exitQ ?_ | refine wp_retQ ?_); simp only [kQ, Nat.reduceEqDiff, reduceIte])
     | ((first | refine wp_dreg B (id := 6) [0, 0, 3, 7, 15, 0, 0, 96, 224, 480, 1023] (by kernel_rfl) ?_ | refine wp_dreg B (id := 11) [0, 0, 3, 7, 0, 31, 63, 0, 0, 384, 896, 0, 3968, 8064, 16383] (by kernel_rfl) ?_ | refine wp_reg B ?_); simp (disch := omega) only [kW, kG, Nat.reduceEqDiff, reduceIte, Nat.reduceLT, Nat.reduceLeDiff, Nat.reduceAdd, Nat.reduceSub, Nat.reduceMul, Nat.reducePow, Nat.reduceDiv, Nat.reduceMod, evIndexAddr, TD.agg, evFieldAddr, ty2, ty3, ty22, ty36, t0, t1, t5, t6, irows, irow, g1])
     | refine wp_condT rfl ?_ | refine wp_condF rfl ?_)
    refine wp_if rfl (fun jlt => ?_) (fun jge => ?_)
    ·obtain ⟨x, hx⟩ : ∃ x, r[j]? = some x := ⟨r[j], List.getElem?_eq_getElem (by omega)⟩
     have g2 := irow_get hx
     repeat (first
      | refine wp_seqQ ?_ | refine wp_blockQ ?_ | refine wp_scopeQ ?_
      | ((first | refine wp_skipQ ?_ | refine wp_labelQ ?_ | refine wp_exitQ ?_ | refine wp_retQ ?_); simp only [kQ, Nat.reduceEqDiff, reduceIte])
      | ((first | refine wp_dreg B (id := 6) [0, 0, 3, 7, 15, 0, 0, 96, 224, 480, 1023] (by kernel_rfl) ?_ | refine wp_dreg B (id := 11) [0, 0, 3, 7, 0, 31, 63, 0, 0, 384, 896, 0, 3968, 8064, 16383] (by kernel_rfl) ?_ | refine wp_reg B ?_); simp (disch := omega) only [kW, kG, Nat.reduceEqDiff, reduceIte, Nat.reduceLT, Nat.reduceLeDiff, Nat.reduceAdd, Nat.reduceSub, Nat.reduceMul, Nat.reducePow, Nat.reduceDiv, Nat.reduceMod, evIndexAddr, TD.agg, evFieldAddr, ty2, ty3, ty22, ty36, t0, t1, t5, t6, irows, irow, g1, g2])
      | refine wp_condT rfl ?_ | refine wp_condF rfl ?_)
     exact ⟨_, by omega, j + 1, _, rfl, rfl, by omega, t0, t1, t5, rfl⟩
    ·repeat (first
       | refine wp_seqQ ?_ | refine wp_blockQ ?_ | refine wp_scopeQ ?_
       | ((first | refine wp_skipQ ?_ | refine wp_labelQ ?_ | refine wp_exitQ ?_ | refine wp_retQ ?_); simp only [kQ, Nat.reduceEqDiff, reduceIte])
       | ((first | refine wp_dreg B (id := 6) [0, 0, 3, 7, 15, 0, 0, 96, 224, 480, 1023] (by kernel_rfl) ?_ | refine wp_dreg B (id := 11) [0, 0, 3, 7, 0, 31, 63, 0, 0, 384, 896, 0, 3968, 8064, 16383] (by kernel_rfl) ?_ | refine wp_reg B ?_); simp (disch := omega) only [kW, kG, Nat.reduceEqDiff, reduceIte, Nat.reduceLT, Nat.reduceLeDiff, Nat.reduceAdd, Nat.reduceSub, Nat.reduceMul, Nat.reducePow, Nat.reduceDiv, Nat.reduceMod, evIndexAddr, TD.agg, evFieldAddr, ty2, ty3, ty22, ty36, t0, t1, t5, t6])
       | refine wp_condT rfl ?_ | refine wp_condF rfl ?_)
     exact ⟨_, by omega, i + 1, _, rfl, rfl, by omega, t0, t1, rfl⟩
  ·repeat (first
     | refine wp_seqQ ?_ | refine wp_blockQ ?_ | refine wp_scopeQ ?_
     | ((first | refine wp_skipQ ?_ | refine wp_labelQ ?_ | refine wp_exitQ ?_ | refine wp_retQ ?_); simp only [kQ, Nat.reduceEqDiff, reduceIte])
     | ((first | refine wp_dreg B (id := 6) [0, 0, 3, 7, 15, 0, 0, 96, 224, 480, 1023] (by kernel_rfl) ?_ | refine wp_dreg B (id := 11) [0, 0, 3, 7, 0, 31, 63, 0, 0, 384, 896, 0, 3968, 8064, 16383] (by kernel_rfl) ?_ | refine wp_reg B ?_); simp (disch := omega) only [kW, kG, Nat.reduceEqDiff, reduceIte, Nat.reduceLT, Nat.reduceLeDiff, Nat.reduceAdd, Nat.reduceSub, Nat.reduceMul, Nat.reducePow, Nat.reduceDiv, Nat.reduceMod, evIndexAddr, TD.agg, evFieldAddr, ty2, ty3, ty22, ty36, t0, t1, t5])
     | refine wp_condT rfl ?_ | refine wp_condF rfl ?_)
   simp (disch := omega) only [kS, Nat.reduceEqDiff, reduceIte, Nat.reduceLT, Nat.reduceLeDiff, Nat.reduceAdd, Nat.reduceSub, Nat.reduceMul, Nat.reducePow, Nat.reduceDiv, Nat.reduceMod, evIndexAddr, TD.agg, evFieldAddr, ty2, ty3, ty22, ty36]
noncomputable def EfSame : Entry Try.prog := ⟨10, fun args h e h' => h' = h ∧ ∃ (a : List (List Int)), args = [irows a, irows a] ∧ (a.length ≤ 1000000) ∧ (∀ r ∈ a, r.length ≤ 1000000) ∧ e = .ret (.flat (.bool true)), by
 rintro args h e h' ⟨rfl, a, rfl, h1, h2, rfl⟩
 exact ⟨same_sem a h1 h2 _, Hp.Le.refl _⟩⟩
theorem EfSame_ans (a : List (List Int)) (h : Hp) (h1 : a.length ≤ 1000000) (h2 : ∀ r ∈ a, r.length ≤ 1000000) : EfSame.ans [irows a, irows a] h = some (.ret (.flat (.bool true)), h) :=
 Entry.one ⟨rfl, a, rfl, h1, h2, rfl⟩ fun e h' ⟨hh, a', ha, _, _, he⟩ => by simp only [kI, irows_eq, and_self] at ha; subst ha; exact ⟨he, hh⟩
end Go.Proofs.Ytllocgmbjjoemaa.Iv
end
