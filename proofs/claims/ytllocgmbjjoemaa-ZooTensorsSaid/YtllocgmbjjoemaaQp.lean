/- The facts of chapter 26 that a program of nothing would miss (wakes), by a run that is told what gram.Check answers. ZooTensors: the law, walked. -/
import Derived.Test.YtllocgmbjjoemaaQo
import Derived.Deep.Matrix
section
set_option maxHeartbeats 16000000
set_option linter.unusedVariables false
set_option linter.unusedSimpArgs false
set_option maxRecDepth 10000
namespace Go.Proofs.Ytllocgmbjjoemaa.Iv
open Go Go.Iv Go.RowKit Go.Proofs.Ytllocgmbjjoemaa.Nv
def flatL : List AV → Bool
 | [] => true
 | .flat _ :: l => flatL l
 | _ :: _ => false
def okL : List AV → Bool
 | [] => true
 | .flat _ :: l => okL l
 | .isl r _ _ _ :: l => cond (flatL r) (okL l) false
 | _ :: _ => false
theorem flatL_pure : ∀ l, flatL l = true → pureL l = true
 | [], _ => rfl
 | .flat _ :: l, h => by simp only [flatL] at h; simp only [pureL, AV.pure, Bool.true_and]; exact flatL_pure l h
 | .ptr _ _ :: _, h => by simp [flatL] at h
 | .slice _ _ _ _ :: _, h => by simp [flatL] at h
 | .map _ :: _, h => by simp [flatL] at h
 | .func _ _ _ :: _, h => by simp [flatL] at h
 | .iface _ _ :: _, h => by simp [flatL] at h
 | .agg _ :: _, h => by simp [flatL] at h
 | .tuple _ :: _, h => by simp [flatL] at h
 | .iptr _ _ :: _, h => by simp [flatL] at h
 | .isl _ _ _ _ :: _, h => by simp [flatL] at h
theorem okL_pure : ∀ l, okL l = true → pureL l = true
 | [], _ => rfl
 | .flat _ :: l, h => by simp only [okL] at h; simp only [pureL, AV.pure, Bool.true_and]; exact okL_pure l h
 | .isl r _ _ _ :: l, h => by
  simp only [okL] at h
  cases k : flatL r with
  | false => rw [k] at h; cases h
  | true => rw [k] at h; simp only [pureL, AV.pure, flatL_pure r k, Bool.true_and]; exact okL_pure l h
 | .ptr _ _ :: _, h => by simp [okL] at h
 | .slice _ _ _ _ :: _, h => by simp [okL] at h
 | .map _ :: _, h => by simp [okL] at h
 | .func _ _ _ :: _, h => by simp [okL] at h
 | .iface _ _ :: _, h => by simp [okL] at h
 | .agg _ :: _, h => by simp [okL] at h
 | .tuple _ :: _, h => by simp [okL] at h
 | .iptr _ _ :: _, h => by simp [okL] at h
theorem flatL_ok : ∀ l, flatL l = true → okL l = true
 | [], _ => rfl
 | .flat _ :: l, h => by simp only [flatL] at h; simp only [okL]; exact flatL_ok l h
 | .ptr _ _ :: _, h => by simp [flatL] at h
 | .slice _ _ _ _ :: _, h => by simp [flatL] at h
 | .map _ :: _, h => by simp [flatL] at h
 | .func _ _ _ :: _, h => by simp [flatL] at h
 | .iface _ _ :: _, h => by simp [flatL] at h
 | .agg _ :: _, h => by simp [flatL] at h
 | .tuple _ :: _, h => by simp [flatL] at h
 | .iptr _ _ :: _, h => by simp [flatL] at h
 | .isl _ _ _ _ :: _, h => by simp [flatL] at h
def fitC (l : List AV) (o n : Nat) : Cap → Bool
 | .exact c => cond (Nat.ble n c) (Nat.ble (o + n) l.length) false
 | .toEnd _ => Nat.ble (o + n) l.length
def z1 (h : Hp) : AV → AV
 | .slice b o n c => match h.m b with
  | some (.cells l _ _) => cond (flatL l) (cond (fitC l o n c) (.isl l 1 o n) (.slice b o n c)) (.slice b o n c)
  | _ => .slice b o n c
 | x => x
def z2 (h : Hp) : AV → AV
 | .slice b o n c => match h.m b with
  | some (.cells l _ _) => cond (okL (l.map (z1 h))) (cond (fitC (l.map (z1 h)) o n c) (.isl (l.map (z1 h)) 1 o n) (.slice b o n c)) (.slice b o n c)
  | _ => .slice b o n c
 | x => x
def zg (h : Hp) (b : Nat) : Option (List AV) := match h.m b with
 | some (.cells l _ _) => cond (okL (l.map (z1 h))) (some (l.map (z1 h))) none
 | _ => none
theorem z1_flat (h : Hp) : ∀ l, flatL l = true → l.map (z1 h) = l
 | [], _ => rfl
 | .flat _ :: l, k => by simp only [flatL] at k; rw [List.map_cons, z1_flat h l k]; rfl
 | .ptr _ _ :: _, h => by simp [flatL] at h
 | .slice _ _ _ _ :: _, h => by simp [flatL] at h
 | .map _ :: _, h => by simp [flatL] at h
 | .func _ _ _ :: _, h => by simp [flatL] at h
 | .iface _ _ :: _, h => by simp [flatL] at h
 | .agg _ :: _, h => by simp [flatL] at h
 | .tuple _ :: _, h => by simp [flatL] at h
 | .iptr _ _ :: _, h => by simp [flatL] at h
 | .isl _ _ _ _ :: _, h => by simp [flatL] at h
theorem fit_fz {g : Nat → Option (List AV)} {b o n : Nat} {c : Cap} {l : List AV} (hg : g b = some l) (h : fitC l o n c = true) : Fz g (.slice b o n c) (.isl l 1 o n) := by
 cases c with
 | exact c =>
  simp only [fitC] at h
  cases k : Nat.ble n c with
  | false => rw [k] at h; cases h
  | true => rw [k] at h; exact Fz.slice hg (Nat.le_of_ble_eq_true k) (by rw [Nat.mul_one]; exact Nat.le_of_ble_eq_true h) Nat.one_pos
 | toEnd e => exact Fz.sliceE hg (by rw [Nat.mul_one]; exact Nat.le_of_ble_eq_true h) Nat.one_pos
theorem zg_flat {h : Hp} {b : Nat} {l : List AV} {te : TypeId} {x : Bool} (k : h.m b = some (.cells l te x)) (f : flatL l = true) : zg h b = some l := by
 unfold zg
 rw [k]
 simp only [z1_flat h l f, flatL_ok l f, cond_true]
theorem z1_fz (h : Hp) (x : AV) : Fz (zg h) x (z1 h x) := by
 unfold z1
 split
 ·rename_i b o n c
  split
  ·rename_i l te e k
   cases f : flatL l with
   | false => exact Fz.refl _ _
   | true =>
    cases f2 : fitC l o n c with
    | false => exact Fz.refl _ _
    | true => exact fit_fz (zg_flat k f) f2
  ·exact Fz.refl _ _
 ·exact Fz.refl _ _
theorem z2_fz (h : Hp) (x : AV) : Fz (zg h) x (z2 h x) := by
 unfold z2
 split
 ·rename_i b o n c
  split
  ·rename_i l te e k
   cases f : okL (l.map (z1 h)) with
   | false => exact Fz.refl _ _
   | true =>
    cases f2 : fitC (l.map (z1 h)) o n c with
    | false => exact Fz.refl _ _
    | true => exact fit_fz (by unfold zg; rw [k]; simp only [f, cond_true]) f2
  ·exact Fz.refl _ _
 ·exact Fz.refl _ _
theorem zg_gone (h : Hp) (i : Nat) (l : List AV) (k : zg h i = some l) : pureL l = true ∧ ∃ l0 e x, h.get i = some (.cells l0 e x) ∧ FzL (zg h) l0 l := by
 unfold zg at k
 split at k
 ·rename_i l0 te e hm
  cases f : okL (l0.map (z1 h)) with
  | false => rw [f] at k; cases k
  | true =>
   rw [f] at k
   simp only [cond_true, Option.some.injEq] at k
   subst k
   refine ⟨okL_pure _ f, l0, te, e, hm, ?_⟩
   have := FzL.map (g := zg h) (f := id) (f' := z1 h) l0 fun x _ => z1_fz h x
   rwa [List.map_id] at this
 ·cases k
def decI : List AV → Option (List Int)
 | [] => some []
 | .flat (.int .i64 x) :: l => match decI l with
  | some r => some (x :: r)
  | none => none
 | _ :: _ => none
theorem decI_ok : ∀ {l : List AV} {r : List Int}, decI l = some r → l = r.map ic ∧ r.length = l.length
 | [], r, h => by simp only [decI, Option.some.injEq] at h; subst h; exact ⟨rfl, rfl⟩
 | x :: l, r, h => by
  unfold decI at h
  split at h
  ·rename_i e; cases e
  ·rename_i y l' e
   cases e
   split at h
   ·rename_i r' hr
    simp only [Option.some.injEq] at h
    subst h
    obtain ⟨h1, h2⟩ := decI_ok hr
    exact ⟨by rw [List.map_cons, ← h1]; rfl, by simp [h2]⟩
   ·cases h
  ·cases h
def decR : List AV → Option (List (List Int))
 | [] => some []
 | .isl l 1 0 n :: t => match decI l with
  | some r => cond (Nat.beq n l.length) (match decR t with
   | some s => some (r :: s)
   | none => none) none
  | none => none
 | _ :: _ => none
theorem decR_ok : ∀ {l : List AV} {a : List (List Int)}, decR l = some a → l = a.map irow ∧ a.length = l.length
 | [], r, h => by simp only [decR, Option.some.injEq] at h; subst h; exact ⟨rfl, rfl⟩
 | x :: l, a, h => by
  unfold decR at h
  split at h
  ·rename_i e; cases e
  ·rename_i y n t e
   cases e
   split at h
   ·rename_i r hr
    cases hn : Nat.beq n y.length with
    | false => rw [hn] at h; cases h
    | true =>
     rw [hn, cond_true] at h
     have hn := Nat.eq_of_beq_eq_true hn
     split at h
     ·rename_i s hs
      simp only [Option.some.injEq] at h
      subst h
      obtain ⟨h1, h2⟩ := decI_ok hr
      obtain ⟨h3, h4⟩ := decR_ok hs
      refine ⟨?_, by simp [h4]⟩
      rw [List.map_cons, ← h3, irow, ← h1, h2, ← hn]
     ·cases h
   ·cases h
  ·cases h
def dec : AV → Option (List (List Int))
 | .isl l 1 0 n => match decR l with
  | some a => cond (Nat.beq n l.length) (some a) none
  | none => none
 | _ => none
theorem dec_ok {x : AV} {a : List (List Int)} (h : dec x = some a) : x = irows a := by
 unfold dec at h
 split at h
 ·rename_i l n
  split at h
  ·rename_i a' ha
   cases hn : Nat.beq n l.length with
   | false => rw [hn] at h; cases h
   | true =>
    rw [hn] at h
    simp only [cond_true, Option.some.injEq] at h
    subst h
    obtain ⟨h1, h2⟩ := decR_ok ha
    rw [irows, ← h1, h2, ← Nat.eq_of_beq_eq_true hn]
  ·cases h
 ·cases h
def chkSum : CallF := fun f args h => cond (Nat.beq f 18) (match args with
 | [x] => match dec (z2 h x) with
  | some a => cond (a == [[1]] || a == [[2, -1], [-1, 2]] || a == [[4, -2], [-2, 4]]) (some (.ret (.flat (.int .i64 0)), h)) none
  | none => none
 | _ => none) none
theorem checkV_zero {a : List (List Int)} (h1 : 1 ≤ a.length) (h2 : a.length ≤ 8) (sq : Sq a) (sm : allP a fun _ _ x => smallB x) (sy : allP a (symP a)) (po : ∀ k, k < a.length → 0 < Dt.det (k + 1) (ent a)) : checkV a = 0 := by
 unfold checkV
 rw [if_neg (by omega), if_neg (fun k => k sq), if_neg (fun k => k sm), if_pos ⟨sy, posB_true po⟩]
theorem allP_of {a : List (List Int)} {p : Nat → Nat → Int → Bool} (h : ∀ i, i < a.length → ∀ j, j < (a.getD i []).length → p i j ((a.getD i []).getD j 0) = true) : allP a p := by
 intro i r hi j x hj
 have l1 := (List.getElem?_eq_some_iff.1 hi).1
 have l2 := (List.getElem?_eq_some_iff.1 hj).1
 have e1 : a.getD i [] = r := by rw [List.getD_eq_getElem?_getD, hi]; rfl
 have := h i l1 j (by rw [e1]; exact l2)
 rw [e1, List.getD_eq_getElem?_getD, hj] at this
 exact this
theorem chk1 : checkV [[1]] = 0 := checkV_zero (by decide) (by decide) (by unfold Sq; decide) (allP_of (by decide)) (allP_of (by decide)) (by decide)
theorem chk2 : checkV [[2, -1], [-1, 2]] = 0 := checkV_zero (by decide) (by decide) (by unfold Sq; decide) (allP_of (by decide)) (allP_of (by decide)) (by decide)
theorem chk3 : checkV [[4, -2], [-2, 4]] = 0 := checkV_zero (by decide) (by decide) (by unfold Sq; decide) (allP_of (by decide)) (allP_of (by decide)) (by decide)
theorem chkSum_some {f : FuncId} {args : List AV} {h h' : Hp} {e : AEnd} (k : chkSum f args h = some (e, h')) : f = 18 ∧ e = .ret (.flat (.int .i64 0)) ∧ h' = h ∧ ∃ x a, args = [x] ∧ z2 h x = irows a ∧ checkV a = 0 ∧ a.length ≤ 8 := by
 unfold chkSum at k
 cases f0 : Nat.beq f 18 with
 | false => rw [f0] at k; cases k
 | true =>
  rw [f0, cond_true] at k
  split at k
  ·rename_i x
   split at k
   ·rename_i a ha
    cases c : (a == [[1]] || a == [[2, -1], [-1, 2]] || a == [[4, -2], [-2, 4]]) with
    | false => rw [c] at k; cases k
    | true =>
     rw [c] at k
     simp only [cond_true, Option.some.injEq, Prod.mk.injEq] at k
     obtain ⟨rfl, rfl⟩ := k
     refine ⟨Nat.eq_of_beq_eq_true f0, rfl, rfl, x, a, rfl, dec_ok ha, ?_⟩
     simp only [Bool.or_eq_true, beq_iff_eq] at c
     rcases c with (rfl | rfl) | rfl
     ·exact ⟨chk1, by decide⟩
     ·exact ⟨chk2, by decide⟩
     ·exact ⟨chk3, by decide⟩
   ·cases k
  ·cases k
theorem chkSum_ok : CallOk Try.prog chkSum := fun f args h e h' k => by
 obtain ⟨rfl, rfl, rfl, x, a, rfl, h1, h2, h3⟩ := chkSum_some k
 have k0 := gCheck_sem a (by omega) Hp.empty
 rw [h2] at k0
 have fz := z2_fz h' x
 rw [h1] at fz
 exact sem_read (zg h') k0 (zg_gone h') (FzL.cons fz (FzL.nil _)) (by simp [pureL, irows_pure])
theorem chkSum_le : CallLe chkSum := fun f args h e h' k => by
 obtain ⟨_, _, rfl, _⟩ := chkSum_some k
 exact Hp.Le.refl _
theorem wakes_run : (match evCall chkSum tab (maskOf tabMasks) 1000000 200 11 [] Hp.empty with | some (.ret (.flat (.bool c)), _) => cond true c (!c) | _ => false) = true := by kernel_rfl
theorem wakes_sem (h : Hp) : SemCall Try.prog 11 [] h (.ret (.flat (.bool true))) h := by
 refine semcall_of fun D ρ w args' hr ha => ?_
 rw [relL_nil.1 ha]
 refine (closed_callA tables mixed chkSum_ok chkSum_le 1000000 200 11 [] true wakes_run w).mono ?_
 rintro e w' ⟨rfl, hb⟩
 exact ⟨_, rfl, hb, fun ρ1 hr1 hle => ⟨ρ1, Step.refl hr1, by simp [AV.rel]⟩⟩
noncomputable def EWk : Entry Try.prog := Entry.pure 11 (fun (x : Unit) => []) (fun _ => True) (fun _ => .flat (.bool true)) fun _ _ h => wakes_sem h
theorem EWk_ans (h : Hp) : EWk.ans [] h = some (.ret (.flat (.bool true)), h) := Entry.pure_ans (fun _ _ _ => rfl) () trivial h
end Go.Proofs.Ytllocgmbjjoemaa.Iv
end
section
set_option maxHeartbeats 16000000
set_option linter.unusedVariables false
set_option linter.unusedSimpArgs false
set_option maxRecDepth 10000
namespace Go.Proofs.Ytllocgmbjjoemaa.Iv
open Go Go.Iv Go.RowKit Go.Proofs.Ytllocgmbjjoemaa.Nv
def RowAt (w : World) (row : List Int) (v : Value) : Prop := ∃ B C, v = .slice B row.length C ∧ row.length ≤ C ∧ (0 < row.length → ∃ bd, B = some bd ∧ ∀ (j : Nat) (x : Int), row[j]? = some x → w.cell? (bd.add j) = some (.int .i64 x))
def RowsAt (w : World) (a : List (List Int)) (v : Value) : Prop := ∃ A C, v = .slice A a.length C ∧ a.length ≤ C ∧ (0 < a.length → ∃ ad, A = some ad ∧ ∀ (r : Nat) (row : List Int), a[r]? = some row → ∃ y, w.cell? (ad.add r) = some y ∧ RowAt w row y)
def RR (w : World) (ad : Addr) (l : List AV) : Prop := (∃ row : List Int, l = row.map ic ∧ ∀ (j : Nat) (x : Int), row[j]? = some x → w.cell? (ad.add j) = some (.int .i64 x)) ∨
 ∃ a : List (List Int), l = a.map irow ∧ ∀ (r : Nat) (row : List Int), a[r]? = some row → ∃ y, w.cell? (ad.add r) = some y ∧ RowAt w row y
theorem add_zero (ad : Addr) : ad.add 0 = ad := by
 cases ad; rfl
theorem RowAt.rel {w : World} {row : List Int} {v : Value} (h : RowAt w row v) : AV.rel ⟨fun _ => none, RR w⟩ (irow row) v := by
 obtain ⟨B, C, rfl, h1, h2⟩ := h
 simp only [irow, AV.rel]
 refine ⟨B, C, rfl, h1, by simp, Nat.one_pos, fun hn => ?_⟩
 obtain ⟨bd, e, h3⟩ := h2 hn
 exact ⟨bd, by rw [e, add_zero], .inl ⟨row, rfl, h3⟩⟩
theorem RowsAt.rel {w : World} {a : List (List Int)} {v : Value} (h : RowsAt w a v) : AV.rel ⟨fun _ => none, RR w⟩ (irows a) v := by
 obtain ⟨B, C, rfl, h1, h2⟩ := h
 simp only [irows, AV.rel]
 refine ⟨B, C, rfl, h1, by simp, Nat.one_pos, fun hn => ?_⟩
 obtain ⟨bd, e, h3⟩ := h2 hn
 exact ⟨bd, by rw [e, add_zero], .inr ⟨a, rfl, h3⟩⟩
theorem rr_stood (w : World) : Stood w (RR w) := by
 refine ⟨fun ad l h j x hx => ?_, fun ad l h => ?_⟩
 ·rcases h with ⟨row, rfl, h⟩ | ⟨a, rfl, h⟩
  ·rw [List.getElem?_map] at hx
   obtain ⟨z, h1, rfl⟩ := Option.map_eq_some_iff.1 hx
   exact ⟨_, h j z h1, rel_flat _⟩
  ·rw [List.getElem?_map] at hx
   obtain ⟨z, h1, rfl⟩ := Option.map_eq_some_iff.1 hx
   obtain ⟨y, h2, h3⟩ := h j z h1
   exact ⟨y, h2, h3.rel⟩
 ·rcases h with ⟨row, rfl, _⟩ | ⟨a, rfl, _⟩
  ·exact pureL_map ic_pure row
  ·exact pureL_map irow_pure a
theorem rows_open {H : Type} {enc : TypeId × Value → H} {P : Program} {w : World} {base : Nat} {held : Bool} {t e q : TypeId} {v : Value} {d : DataW H} {ps : List MemPlace} (ht : P.underlying t = some (.slice e)) (he : P.underlying e = some (.slice q)) (hq : P.underlying q = some (.int .i64))
    (ce : P.cellsOf e = 1) (cq : P.cellsOf q = 1) (hv : ∃ a len cap, v = .slice a len cap) (h : DataW.Trod enc P w base (fun _ => true) held t v d ps) : ∃ a : List (List Int), RowsAt w a v ∧ (d = .nil ∧ a = [] ∨ ∃ es sp, d = .slice es sp ∧ es.length = a.length) := by
 obtain ⟨A0, n0, c0, rfl⟩ := hv
 obtain ⟨fuel, hf⟩ := h
 rcases Go.Deep.open_int_rows ht he hq ce cq hf with ⟨hcs, hx⟩ | ⟨ad, len, cap, A, L, C, Z, hcs, _, hl, hm, hx, hrows⟩
 ·simp [Value.cells] at hcs
  obtain ⟨rfl, rfl, rfl⟩ := hcs
  simp only [Prod.mk.injEq] at hx
  exact ⟨[], ⟨none, 0, rfl, Nat.le_refl _, fun h => absurd h (by simp)⟩, .inl ⟨hx.1, rfl⟩⟩
 ·simp [Value.cells] at hcs
  obtain ⟨rfl, rfl, rfl⟩ := hcs
  simp only [Prod.mk.injEq] at hx
  refine ⟨(List.range n0).map fun r => (Z r).take (L r), ⟨_, c0, by simp, by simpa using hl, fun _ => ⟨ad, rfl, fun r row hr => ?_⟩⟩, .inr ⟨_, _, hx.1, by simp⟩⟩
  rw [List.getElem?_map] at hr
  obtain ⟨i, h1, rfl⟩ := Option.map_eq_some_iff.1 hr
  obtain ⟨h2, h3⟩ := List.getElem?_eq_some_iff.1 h1
  simp only [List.length_range] at h2
  simp only [List.getElem_range] at h3
  subst h3
  obtain ⟨k1, k2, k3, k4, k5, k6, k7⟩ := hrows r (by omega)
  have hlen : ((Z r).take (L r)).length = L r := by rw [List.length_take]; omega
  refine ⟨_, k1, A r, C r, by rw [hlen], by omega, fun hn => ?_⟩
  rw [hlen] at hn
  cases hA : A r with
  | none => have := k6 hA; omega
  | some bd =>
   refine ⟨bd, rfl, fun j x hx => ?_⟩
   obtain ⟨h4, h5⟩ := List.getElem?_eq_some_iff.1 hx
   rw [hlen] at h4
   have := (k7 bd hA).2 j (by omega)
   rw [this, ← h5, List.getElem_take, List.getD_eq_getElem?_getD, List.getElem?_eq_getElem (by omega), Option.getD_some]
theorem tensR_small (a b : List (List Int)) : (tensR a b).length ≤ 1000000 ∧ ∀ r ∈ tensR a b, r.length ≤ 1000000 := by
 unfold tensR
 split
 ·rename_i h
  have h8 : a.length * b.length ≤ 8 := by
   unfold tensE at h
   split at h
   ·rename_i k; exact absurd h k
   ·split at h
    ·rename_i k; exact absurd h k
    ·split at h
     ·omega
     ·omega
  refine ⟨by rw [tab2_len]; omega, fun r hr => ?_⟩
  simp only [tab2, List.mem_map] at hr
  obtain ⟨x, _, rfl⟩ := hr
  simp only [List.length_map, List.length_range]
  omega
 ·exact ⟨by simp, by simp⟩
theorem law_sem (a b : List (List Int)) (la : a.length < 4611686018427387904) (lb : b.length < 4611686018427387904) (h : Hp) : SemCall Try.prog 4 [irows a, irows b] h (.ret (.flat (.bool true))) h := by
 refine sem_pure tables.ok Try.func4 rfl rfl rfl rfl (by simp [pureL, irows_pure]) rfl ?_ h
 have B : Base Try.prog tab _ := tabL_base [EWk, EtTensor, EfTensor, EfSame] tables.ok mixed
 generalize hL : tabL [EWk, EtTensor, EfTensor, EfSame] = call at B
 have c_EWk : ∀ a h, call 11 a h = EWk.ans a h := fun _ _ => hL ▸ rfl
 have c_EtTensor : ∀ a h, call 12 a h = EtTensor.ans a h := fun _ _ => hL ▸ rfl
 have c_EfTensor : ∀ a h, call 13 a h = EfTensor.ans a h := fun _ _ => hL ▸ rfl
 have c_EfSame : ∀ a h, call 10 a h = EfSame.ans a h := fun _ _ => hL ▸ rfl
 clear hL
 have k1 := fun h => EtTensor_ans a b h la lb
 have k2 := fun h => EfTensor_ans a b h la lb
 have k3 := fun h => EfSame_ans (tensR a b) h (tensR_small a b).1 (tensR_small a b).2
 unfold Try.f4 bodyOf entry; simp only [Option.getD_some, List.length_cons, List.length_nil, Nat.reduceAdd, Nat.reduceSub]
 generalize tensR a b = T at *
 generalize tensE a b = E at *
 repeat (first
  | refine wp_seqQ ?_ | refine wp_blockQ ?_ | refine wp_scopeQ ?_
  | ((first | refine wp_skipQ ?_ | refine wp_labelQ ?_ | refine wp_exitQ ?_ | refine wp_retQ ?_); simp only [kQ, Nat.reduceEqDiff, reduceIte])
  | (refine wp_reg B ?_; simp (disch := omega) only [kW, Nat.reduceEqDiff, reduceIte, Nat.reduceLT, Nat.reduceLeDiff, Nat.reduceAdd, Nat.reduceSub, Nat.reduceMul, Nat.reducePow, Nat.reduceDiv, Nat.reduceMod, evIndexAddr, TD.agg, evFieldAddr, ty2, ty22, ty23, ty36, fn12, fn13, fn10, fn11, c_EWk, EWk_ans, c_EtTensor, EtTensor_ans, c_EfTensor, EfTensor_ans, c_EfSame, EfSame_ans, k1, k2, k3])
  | refine wp_condT rfl ?_ | refine wp_condF rfl ?_)
 simp (disch := omega) only [kS, Nat.reduceEqDiff, reduceIte, Nat.reduceLT, Nat.reduceLeDiff, Nat.reduceAdd, Nat.reduceSub, Nat.reduceMul, Nat.reducePow, Nat.reduceDiv, Nat.reduceMod, evIndexAddr, TD.agg, evFieldAddr, ty2, ty22, ty23, ty36, fn12, fn13, fn10, fn11, c_EWk, EWk_ans, c_EtTensor, EtTensor_ans, c_EfTensor, EfTensor_ans, c_EfSame, EfSame_ans]
theorem law_calls (a b : List (List Int)) (v0 v1 : Value) (w : World) (h0 : RowsAt w a v0) (h1 : RowsAt w b v1) (la : a.length < 4611686018427387904) (lb : b.length < 4611686018427387904) : Calls Try.prog 4 #[v0, v1] w fun e w' => e = .returned (.bool true) ∧ RowKit.Below w.heap.size w w' := by
 refine ((rr_stood w).call (args' := [v0, v1]) (law_sem a b la lb Hp.empty) (relL2mk h0.rel h1.rel)).mono ?_
 rintro e w' ⟨v', ρ', rfl, hv, hb⟩
 simp only [AV.rel] at hv
 exact ⟨by rw [hv], hb⟩
end Go.Proofs.Ytllocgmbjjoemaa.Iv
end
