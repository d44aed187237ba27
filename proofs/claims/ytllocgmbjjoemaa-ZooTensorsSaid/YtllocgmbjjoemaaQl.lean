/- Natural numbers as lists that nobody turns: what the walks of nat say, said to the evaluator. The document's natural numbers (parquetref01) as lists that nobody turns: what its functions tell, said to the evaluator. Whole numbers: Sign, Make, Of, Neg, must, Add, Sub, Mul: the evaluator's walks over the contracts of nat. Determinants by their last column, and why Bareiss's divisions leave nothing. Elimination by Bareiss's rule, with rows changing places: its divisions leave nothing, its numbers stay small. Elimination as the programs do it, column by column; leading minors. Rows of things of two cells. -/
import Derived.Test.YtllocgmbjjoemaaQf
import Derived.Test.YtllocgmbjjoemaaQj
import Derived.Test.YtllocgmbjjoemaaQk
import Derived.Test.YtllocgmbjjoemaaQd
section
set_option maxHeartbeats 4000000
set_option linter.unusedVariables false
set_option linter.unusedSimpArgs false
namespace Go.Proofs.Ytllocgmbjjoemaa.Iv
open Go Go.Iv Go.RowKit Go.Proofs.Ytllocgmbjjoemaa.Nv
open Dg (bl)
def nav (n : Nat) : AV := dgs (Dg.dg n)
abbrev zs (x : Int) : AV := .flat (.bool (decide (x < 0)))
abbrev zm (x : Int) : AV := nav x.natAbs
def zav (x : Int) : AV := .agg [zs x, zm x]
abbrev nilA : AV := .flat (.slice none 0 0)
theorem zav_cells (x : Int) : AV.cells (zav x) = [zs x, zm x] := rfl
theorem zav_fold (x : Int) : AV.agg [zs x, zm x] = zav x := rfl
theorem nav_one (n : Nat) : AV.one (nav n) = true := rfl
theorem nav_clean (n : Nat) : AV.clean (nav n) = true := rfl
theorem nav_pure (n : Nat) : (nav n).pure = true := dgs_pure _
theorem zav_pure (x : Int) : (zav x).pure = true := by simp [zav, AV.pure, pureL, nav_pure]
theorem dgs_inj {l m : List Nat} (h : dgs l = dgs m) : l = m := by
 simp only [dgs, AV.isl.injEq] at h
 have h1 := h.1
 have : ∀ {l m : List Nat}, l.map dcell = m.map dcell → l = m := by
  intro l
  induction l with
  | nil => intro m h; cases m with
   | nil => rfl
   | cons x m => simp at h
  | cons x l ih => intro m h; cases m with
   | nil => simp at h
   | cons y m =>
    simp only [List.map_cons, List.cons.injEq, dcell, AV.flat.injEq, Value.int.injEq, true_and] at h
    rw [ih h.2, show x = y by omega]
 exact this h1
theorem nav_inj {n m : Nat} (h : nav n = nav m) : n = m := by
 have := dgs_inj h
 rw [← Dg.val_dg' n, ← Dg.val_dg' m, this]
theorem zav_inj {x y : Int} (h : zav x = zav y) : x = y := by
 simp only [zav, zs, zm, AV.agg.injEq, List.cons.injEq, AV.flat.injEq, Value.bool.injEq, and_true] at h
 have h1 := nav_inj h.2
 have h2 := h.1
 by_cases hx : x < 0
 ·by_cases hy : y < 0
  ·omega
  ·simp [hx, hy] at h2
 ·by_cases hy : y < 0
  ·simp [hx, hy] at h2
  ·omega
theorem nav_eq {n m : Nat} : nav n = nav m ↔ n = m := ⟨nav_inj, fun h => by rw [h]⟩
theorem zav_eq {x y : Int} : zav x = zav y ↔ x = y := ⟨zav_inj, fun h => by rw [h]⟩
variable {D : Nat → Prop} {ρ : Ren} {h : Hp} {w : World}
theorem nav_open (k : HR D ρ h w) {n : Nat} (hl : bl n ≤ 100000) {v : Value} (hv : (nav n).rel ρ v) : Num w v n := by
 obtain ⟨A, c, rfl, h1, h2⟩ := dgs_open k hv
 have := Dg.len_of_bl (n := n) (k := 3125) (by omega)
 exact ⟨A, c, rfl, h1, by omega, h2⟩
theorem nav_shut (k : HR D ρ h w) {n : Nat} {v : Value} (hn : Num w v n) : ∃ ρ', Step D ρ h w ρ' h w ∧ (nav n).rel ρ' v := by
 obtain ⟨A, c, rfl, h1, h2⟩ := hn
 exact dgs_shut k h1 h2.at_
theorem relL1 {a : AV} {l : List Value} (h : AV.relL ρ [a] l) : ∃ x, l = [x] ∧ a.rel ρ x := by
 obtain ⟨x, xs, rfl, h1, h2⟩ := relL_cons.1 h
 rw [relL_nil.1 h2]; exact ⟨x, rfl, h1⟩
theorem relL2 {a b : AV} {l : List Value} (h : AV.relL ρ [a, b] l) : ∃ x y, l = [x, y] ∧ a.rel ρ x ∧ b.rel ρ y := by
 obtain ⟨x, xs, rfl, h1, h2⟩ := relL_cons.1 h
 obtain ⟨y, rfl, h3⟩ := relL1 h2
 exact ⟨x, y, rfl, h1, h3⟩
theorem SemCall.weak {P : Program} {f : FuncId} {args : List AV} {v v' : AV} {h : Hp} (k : SemCall P f args h (.ret v) h) (hv : ∀ ρ x, v.rel ρ x → v'.rel ρ x) : SemCall P f args h (.ret v') h := fun D ρ w args' hr fr ha => by
 refine (k D ρ w args' hr fr ha).mono ?_
 rintro e w' ⟨ρ', st, x, he, hx⟩
 exact ⟨ρ', st, x, he, hv ρ' x hx⟩
theorem nil_dgs (ρ : Ren) (x : Value) (h : nilA.rel ρ x) : (dgs []).rel ρ x := by
 simp only [nilA, AV.rel] at h
 subst h
 simp only [dgs, AV.rel]
 exact ⟨none, 0, rfl, by simp, by simp, by omega, fun h => by simp at h⟩
theorem an_open (k : HR D ρ h w) {n : Nat} (hl : bl n ≤ 100000) {V : Value} (hv : (AV.agg [nav n]).rel ρ V) : ∃ v, V = .agg #[v] ∧ Num w v n := by
 simp only [AV.rel] at hv
 obtain ⟨l, rfl, h1⟩ := hv
 obtain ⟨v, rfl, h2⟩ := relL1 h1
 exact ⟨v, rfl, nav_open k hl h2⟩
theorem an_shut (k : HR D ρ h w) {n : Nat} {v : Value} (hn : Num w v n) : ∃ ρ', Step D ρ h w ρ' h w ∧ (AV.agg [nav n]).rel ρ' (.agg #[v]) := by
 obtain ⟨ρ', st, hv⟩ := nav_shut k hn
 refine ⟨ρ', st, ?_⟩
 simp only [AV.rel]
 exact ⟨[v], rfl, relL_cons.2 ⟨_, _, rfl, hv, relL_nil.2 rfl⟩⟩
theorem relL2mk {a b : AV} {V1 V2 : Value} (h1 : a.rel ρ V1) (h2 : b.rel ρ V2) : AV.relL ρ [a, b] [V1, V2] := relL_cons.2 ⟨_, _, rfl, h1, relL_cons.2 ⟨_, _, rfl, h2, relL_nil.2 rfl⟩⟩
theorem relL3mk {a b c : AV} {V1 V2 V3 : Value} (h1 : a.rel ρ V1) (h2 : b.rel ρ V2) (h3 : c.rel ρ V3) : AV.relL ρ [a, b, c] [V1, V2, V3] := relL_cons.2 ⟨_, _, rfl, h1, relL2mk h2 h3⟩
theorem rel_tuple2 {a b : AV} {V1 V2 : Value} (h1 : a.rel ρ V1) (h2 : b.rel ρ V2) : (AV.tuple [a, b]).rel ρ (.tuple #[V1, V2]) := by
 simp only [AV.rel]; exact ⟨_, rfl, relL2mk h1 h2⟩
theorem rel_tuple3 {a b c : AV} {V1 V2 V3 : Value} (h1 : a.rel ρ V1) (h2 : b.rel ρ V2) (h3 : c.rel ρ V3) : (AV.tuple [a, b, c]).rel ρ (.tuple #[V1, V2, V3]) := by
 simp only [AV.rel]; exact ⟨_, rfl, relL3mk h1 h2 h3⟩
theorem rel_flat (v : Value) : (AV.flat v).rel ρ v := by simp [AV.rel]
theorem base0 : Base Try.prog tab noSum := ⟨tables.ok, mixed, noSum_ok, noSum_le⟩
section
variable {P : Program} {f : FuncId}
theorem nn_ne {a b c : Nat} (la : bl a ≤ 100000) (lb : bl b ≤ 100000) (k : ∀ (v u : Value) (w : World), Num w v a → Num w u b → Calls P f #[.agg #[v], .agg #[u]] w fun e w' => ∃ v', e = .returned (.tuple #[.agg #[v'], .int .i64 0]) ∧ Num w' v' c ∧ Below w.heap.size w w') (h : Hp) :
    SemCall P f [.agg [nav a], .agg [nav b]] h (.ret (.tuple [.agg [nav c], .flat (.int .i64 0)])) h := by
 refine semcall_of fun D ρ w args' hr ha => ?_
 obtain ⟨V, U, rfl, h1, h2⟩ := relL2 ha
 obtain ⟨v, rfl, hv⟩ := an_open hr la h1
 obtain ⟨u, rfl, hu⟩ := an_open hr lb h2
 refine (k v u w hv hu).mono ?_
 rintro e w' ⟨v', rfl, hz, hb⟩
 refine ⟨_, rfl, hb, fun ρ1 hr1 hle => ?_⟩
 obtain ⟨ρ2, st, r2⟩ := an_shut hr1 hz
 exact ⟨ρ2, st, rel_tuple2 r2 (rel_flat _)⟩
end
theorem nOf_sem (n : Nat) (hn : n < 18446744073709551616) (h : Hp) : SemCall Try.prog 46 [.flat (.int .u64 (n : Int))] h (.ret (.agg [nav n])) h := by
 refine semcall_of fun D ρ w args' hr ha => ?_
 obtain ⟨V, rfl, h1⟩ := relL1 ha
 simp only [AV.rel] at h1
 subst h1
 refine (of_calls n hn w).mono ?_
 rintro e w' ⟨v, rfl, hz, hb⟩
 exact ⟨_, rfl, hb, fun ρ1 hr1 hle => an_shut hr1 hz⟩
theorem nBits_sem (n : Nat) (hl : bl n ≤ 100000) (h : Hp) : SemCall Try.prog 47 [.agg [nav n]] h (.ret (.flat (.int .i64 (bl n : Int)))) h := by
 refine semcall_of fun D ρ w args' hr ha => ?_
 obtain ⟨V, rfl, h1⟩ := relL1 ha
 obtain ⟨v, rfl, hv⟩ := an_open hr hl h1
 refine (bits_calls v n w hv).mono ?_
 rintro e w' ⟨rfl, hb⟩
 exact ⟨_, rfl, hb, fun ρ1 hr1 hle => ⟨ρ1, Step.refl hr1, rel_flat _⟩⟩
theorem nCmp_sem (a b : Nat) (la : bl a ≤ 100000) (lb : bl b ≤ 100000) (h : Hp) : SemCall Try.prog 60 [.agg [nav a], .agg [nav b]] h (.ret (.flat (.int .i64 (Dg.cmp a b)))) h := by
 refine semcall_of fun D ρ w args' hr ha => ?_
 obtain ⟨V, U, rfl, h1, h2⟩ := relL2 ha
 obtain ⟨v, rfl, hv⟩ := an_open hr la h1
 obtain ⟨u, rfl, hu⟩ := an_open hr lb h2
 refine (cmp_calls v u a b w hv hu).mono ?_
 rintro e w' ⟨rfl, hb⟩
 exact ⟨_, rfl, hb, fun ρ1 hr1 hle => ⟨ρ1, Step.refl hr1, rel_flat _⟩⟩
theorem nAdd_sem (a b : Nat) (la : bl a ≤ 100000) (lb : bl b ≤ 100000) (hs : bl (a + b) ≤ 4096) (h : Hp) : SemCall Try.prog 59 [.agg [nav a], .agg [nav b]] h (.ret (.tuple [.agg [nav (a + b)], .flat (.int .i64 0)])) h :=
 nn_ne la lb (fun v u w h1 h2 => add_calls v u a b w h1 h2 hs) h
theorem nSub_sem (a b : Nat) (hs : bl a ≤ 4096) (le : b ≤ a) (h : Hp) : SemCall Try.prog 61 [.agg [nav a], .agg [nav b]] h (.ret (.tuple [.agg [nav (a - b)], .flat (.int .i64 0)])) h :=
 nn_ne (by omega) (by have := Dg.bl_mono' le; omega) (fun v u w h1 h2 => sub_calls v u a b w h1 h2 hs le) h
theorem nMul_sem (a b : Nat) (hs : bl a + bl b ≤ 4096) (h : Hp) : SemCall Try.prog 48 [.agg [nav a], .agg [nav b]] h (.ret (.tuple [.agg [nav (a * b)], .flat (.int .i64 0)])) h :=
 nn_ne (by omega) (by omega) (fun v u w h1 h2 => mul_calls v u a b w h1 h2 hs) h
theorem nDiv_sem (a b : Nat) (la : bl a ≤ 10000) (lb : bl b ≤ 10000) (b0 : b ≠ 0) (h : Hp) : SemCall Try.prog 62 [.agg [nav a], .agg [nav b]] h (.ret (.tuple [.agg [nav (a / b)], .agg [nav (a % b)], .flat (.int .i64 0)])) h := by
 refine semcall_of fun D ρ w args' hr ha => ?_
 obtain ⟨V, U, rfl, h1, h2⟩ := relL2 ha
 obtain ⟨v, rfl, hv⟩ := an_open hr (by omega) h1
 obtain ⟨u, rfl, hu⟩ := an_open hr (by omega) h2
 refine (div_calls v u a b w hv hu (by have := Dg.len_of_bl (n := a) (k := 313) (by omega); omega) b0).mono ?_
 rintro e w' ⟨v1, v2, rfl, z1, z2, hb⟩
 refine ⟨_, rfl, hb, fun ρ1 hr1 hle => ?_⟩
 obtain ⟨ρ2, st2, r2⟩ := an_shut hr1 z1
 obtain ⟨ρ3, st3, r3⟩ := an_shut st2.hr z2
 exact ⟨ρ3, st2.trans st3, rel_tuple3 (AV.rel_mono st3.le _ _ r2) r3 (rel_flat _)⟩
end Go.Proofs.Ytllocgmbjjoemaa.Iv
end
section
set_option maxHeartbeats 4000000
set_option linter.unusedVariables false
set_option linter.unusedSimpArgs false
namespace Go.Proofs.Ytllocgmbjjoemaa.Nv
open Go Go.RowKit Go.Proofs.YtllocgmbjjoemaaW.PrintWords Go.Proofs.YtllocgmbjjoemaaW.PrintLast Go.Proofs.YtllocgmbjjoemaaW.PrintMore Rq Go.Proofs.Ytllocgmbjjoemaa.PDet
open Dg (bl cmp)
def RN (w : World) (v : Value) (n : Nat) : Prop := ∃ A c, v = .slice A ((Eg.dg n).length : Nat) c ∧ (Eg.dg n).length ≤ c ∧ Rd w A (Eg.dg n)
theorem RN.below {w w' : World} {v : Value} {n : Nat} (h : RN w v n) (hb : Below w.heap.size w w') : RN w' v n := by
 obtain ⟨A, c, e, hc, hr⟩ := h
 exact ⟨A, c, e, hc, hr.below hb⟩
theorem Rd.C {w : World} {A : Option Addr} {l : List Nat} (h : Rd w A l) : Kd.C (Kd.int .u32) w A (I l).length (I l) := by
 refine ⟨rfl, by have := h.len; rw [I_len]; omega, fun hn => ?_⟩
 obtain ⟨ad, e, hc⟩ := h.at_ (by rw [I_len] at hn; omega)
 refine ⟨ad, e, fun j p hj => ?_⟩
 rw [I, List.getElem?_map] at hj
 obtain ⟨x, hx, rfl⟩ := Option.map_eq_some_iff.1 hj
 refine ⟨[.int .u32 (x : Int)], rfl, rfl, fun i u hi => ?_⟩
 cases i with
 | zero =>
  simp at hi
  subst hi
  have e1 : j * (Kd.int .u32).sz + 0 = j := Nat.mul_one j
  rw [e1]; exact hc j x hx
 | succ i => simp at hi
theorem RN.of_C {w : World} {A : Option Addr} {c n : Nat} (hl : (I (Eg.dg n)).length ≤ c) (h : Kd.C (Kd.int .u32) w A (I (Eg.dg n)).length (I (Eg.dg n))) (hm : (Eg.dg n).length ≤ 1000000) : RN w (.slice A (I (Eg.dg n)).length c) n := by
 have r := Rd.of_C h (by omega)
 rw [I_len] at hl ⊢
 exact ⟨A, c, rfl, hl, r⟩
theorem RN.of_R {w : World} {e base n : Nat} {ok : Nat → Prop} {v : Value} (h : Kd.R (Kd.int .u32) e w base ok v (I (Eg.dg n))) (hm : (Eg.dg n).length ≤ 1000000) : RN w v n := by
 obtain ⟨A, c, rfl, hl, hC⟩ := Kd.R_reads h
 exact RN.of_C hl hC hm
theorem len250 {n : Nat} (h : bl n ≤ 4000) : (Eg.dg n).length ≤ 250 := Eg.len_of_bl (k := 250) (by omega)
theorem elen {n : Nat} (h : bl n ≤ 20000) : (Eg.dg n).length ≤ 1250 := Eg.len_of_bl (k := 1250) (by omega)
theorem rdiv_calls (v u : Value) (a b : Nat) (w : World) (ha : RN w v a) (hb : RN w u b) (la : bl a ≤ 4000) (lb : bl b ≤ 4000) (b0 : 0 < b) :
    Calls Try.prog 73 #[v, u] w fun e w' => ∃ v1 v2, e = .returned (.tuple #[v1, v2]) ∧ RN w' v1 (a / b) ∧ RN w' v2 (a % b) ∧ Below w.heap.size w w' := by
 obtain ⟨A, c, rfl, hc, hr⟩ := ha
 obtain ⟨A', c', rfl, hc', hr'⟩ := hb
 have l1 := len250 la
 have l2 := len250 lb
 obtain ⟨k, hk⟩ := (div_ev a b b0 (by omega) (by omega)).rounds
 have h := parquetref01_Div.calls k A c _ A' c' _ _ _ w hr.C (by rw [I_len]; exact hc) hr'.C (by rw [I_len]; exact hc') hk
 rw [I_len, I_len] at h
 have m1 := len_mono (Nat.div_le_self a b)
 have m2 := len_mono (Nat.le_of_lt (Nat.mod_lt a b0))
 exact h.mono fun e w' ⟨v1, v2, he, h1, h2, hb⟩ => ⟨v1, v2, he, RN.of_R h1 (by omega), RN.of_R h2 (by omega), hb⟩
theorem rofn_calls (n : Nat) (w : World) (hn : n < 18446744073709551616) :
    Calls Try.prog 68 #[.int .u64 (n : Int)] w fun e w' => ∃ v1, e = .returned v1 ∧ RN w' v1 n ∧ Below w.heap.size w w' := by
 obtain ⟨k, hk⟩ := (of_ev n hn).rounds
 have l : (Eg.dg n).length ≤ 4 := Eg.dg_len 4 _ (by simpa using hn)
 exact (parquetref01_Of.calls k n _ w hk).mono fun e w' ⟨v1, he, h1, hb⟩ => ⟨v1, he, RN.of_R h1 (by omega), hb⟩
theorem rcmpn_calls (v u : Value) (a b : Nat) (w : World) (ha : RN w v a) (hb : RN w u b) (la : bl a ≤ 16000) :
    Calls Try.prog 75 #[v, u] w fun e w' => e = .returned (.int .i64 (cmp a b)) ∧ Below w.heap.size w w' := by
 obtain ⟨A, c, rfl, hc, hr⟩ := ha
 obtain ⟨A', c', rfl, hc', hr'⟩ := hb
 have l1 := elen (n := a) (by omega)
 obtain ⟨k, hk⟩ := (cmp_ev a b (by omega)).rounds
 have h := parquetref01_Cmp.calls k A c _ A' c' _ _ w hr.C (by rw [I_len]; exact hc) hr'.C (by rw [I_len]; exact hc') hk
 rw [I_len, I_len] at h
 exact h.mono fun e w' ⟨he, hd⟩ => ⟨he, hd.below⟩
theorem raddn_calls (v u : Value) (a b : Nat) (w : World) (ha : RN w v a) (hb : RN w u b) (la : bl a ≤ 16000) (lb : bl b ≤ 16000) :
    Calls Try.prog 74 #[v, u] w fun e w' => ∃ v1, e = .returned v1 ∧ RN w' v1 (a + b) ∧ Below w.heap.size w w' := by
 obtain ⟨A, c, rfl, hc, hr⟩ := ha
 obtain ⟨A', c', rfl, hc', hr'⟩ := hb
 have l1 := elen (n := a) (by omega)
 have l2 := elen (n := b) (by omega)
 obtain ⟨k, hk⟩ := (add_ev a b (by omega) (by omega)).rounds
 have h := parquetref01_Add.calls k A c _ A' c' _ _ w hr.C (by rw [I_len]; exact hc) hr'.C (by rw [I_len]; exact hc') hk
 rw [I_len, I_len] at h
 have l3 := elen (n := a + b) (Nat.le_trans (Dg.bl_addk la lb) (by omega))
 exact h.mono fun e w' ⟨v1, he, h1, hb⟩ => ⟨v1, he, RN.of_R h1 (by omega), hb⟩
theorem rsubn_calls (v u : Value) (a b : Nat) (w : World) (ha : RN w v a) (hb : RN w u b) (la : bl a ≤ 16000) (lb : bl b ≤ 16000) (le : b ≤ a) :
    Calls Try.prog 76 #[v, u] w fun e w' => ∃ v1, e = .returned v1 ∧ RN w' v1 (a - b) ∧ Below w.heap.size w w' := by
 obtain ⟨A, c, rfl, hc, hr⟩ := ha
 obtain ⟨A', c', rfl, hc', hr'⟩ := hb
 have l1 := elen (n := a) (by omega)
 have l2 := elen (n := b) (by omega)
 obtain ⟨k, hk⟩ := (sub_ev a b le (by omega)).rounds
 have h := parquetref01_Sub.calls k A c _ A' c' _ _ w hr.C (by rw [I_len]; exact hc) hr'.C (by rw [I_len]; exact hc') hk
 rw [I_len, I_len] at h
 have l3 := len_mono (Nat.sub_le a b)
 exact h.mono fun e w' ⟨v1, he, h1, hb⟩ => ⟨v1, he, RN.of_R h1 (by omega), hb⟩
theorem rmuln_calls (v u : Value) (a b : Nat) (w : World) (ha : RN w v a) (hb : RN w u b) (la : bl a ≤ 10000) (lb : bl b ≤ 10000) :
    Calls Try.prog 72 #[v, u] w fun e w' => ∃ v1, e = .returned v1 ∧ RN w' v1 (a * b) ∧ Below w.heap.size w w' := by
 obtain ⟨A, c, rfl, hc, hr⟩ := ha
 obtain ⟨A', c', rfl, hc', hr'⟩ := hb
 have l1 := elen (n := a) (by omega)
 have l2 := elen (n := b) (by omega)
 have l3 := elen (n := a * b) (Nat.le_trans (Dg.bl_mulk la lb) (by omega))
 have h := mul16_calls a b A A' c c' w hr.C (by rw [I_len]; exact hc) hr'.C (by rw [I_len]; exact hc') (by omega) (by omega)
 rw [I_len, I_len] at h
 exact h.mono fun e w' ⟨v1, he, h1, hb⟩ => ⟨v1, he, RN.of_R h1 (by omega), hb⟩
end Go.Proofs.Ytllocgmbjjoemaa.Nv
namespace Go.Proofs.Ytllocgmbjjoemaa.Iv
open Go Go.Iv Go.RowKit Go.Proofs.Ytllocgmbjjoemaa.Nv
open Dg (bl)
def rnav (n : Nat) : AV := dgs (Eg.dg n)
abbrev rzm (x : Int) : AV := rnav x.natAbs
def rzav (x : Int) : AV := .agg [zs x, rzm x]
theorem rzav_cells (x : Int) : AV.cells (rzav x) = [zs x, rzm x] := rfl
theorem rzav_fold (x : Int) : AV.agg [zs x, rzm x] = rzav x := rfl
theorem rnav_one (n : Nat) : AV.one (rnav n) = true := rfl
theorem rnav_clean (n : Nat) : AV.clean (rnav n) = true := rfl
theorem rnav_pure (n : Nat) : (rnav n).pure = true := dgs_pure _
theorem rzav_pure (x : Int) : (rzav x).pure = true := by simp [rzav, AV.pure, pureL, rnav_pure]
theorem rnav_inj {n m : Nat} (h : rnav n = rnav m) : n = m := by
 have := dgs_inj h
 rw [← Eg.val_dg' n, ← Eg.val_dg' m, this]
theorem rzav_inj {x y : Int} (h : rzav x = rzav y) : x = y := by
 simp only [rzav, zs, rzm, AV.agg.injEq, List.cons.injEq, AV.flat.injEq, Value.bool.injEq, and_true] at h
 have h1 := rnav_inj h.2
 have h2 := h.1
 by_cases hx : x < 0
 ·by_cases hy : y < 0
  ·omega
  ·simp [hx, hy] at h2
 ·by_cases hy : y < 0
  ·simp [hx, hy] at h2
  ·omega
theorem rnav_eq {n m : Nat} : rnav n = rnav m ↔ n = m := ⟨rnav_inj, fun h => by rw [h]⟩
theorem rzav_eq {x y : Int} : rzav x = rzav y ↔ x = y := ⟨rzav_inj, fun h => by rw [h]⟩
variable {D : Nat → Prop} {ρ : Ren} {h : Hp} {w : World}
theorem rnav_open (k : HR D ρ h w) {n : Nat} (hl : bl n ≤ 100000) {v : Value} (hv : (rnav n).rel ρ v) : RN w v n := by
 obtain ⟨A, c, rfl, h1, h2⟩ := dgs_open k hv
 have := Eg.len_of_bl (n := n) (k := 6250) (by omega)
 exact ⟨A, c, rfl, h1, by omega, h2⟩
theorem rnav_shut (k : HR D ρ h w) {n : Nat} {v : Value} (hn : RN w v n) : ∃ ρ', Step D ρ h w ρ' h w ∧ (rnav n).rel ρ' v := by
 obtain ⟨A, c, rfl, h1, h2⟩ := hn
 exact dgs_shut k h1 h2.at_
theorem rzero_rel (ρ : Ren) (x : Value) (h : (AV.agg [.flat (.bool false), nilA]).rel ρ x) : (rzav 0).rel ρ x := by
 simp only [rzav, AV.rel] at h ⊢
 obtain ⟨l, rfl, hl⟩ := h
 obtain ⟨V1, V2, rfl, h1, h2⟩ := relL2 hl
 refine ⟨_, rfl, relL2mk (by simpa [zs, AV.rel] using h1) ?_⟩
 have e : rzm 0 = dgs [] := by simp only [rzm, rnav, Int.natAbs_zero, Eg.dg_zero]
 rw [e]
 exact nil_dgs ρ V2 h2
section
variable {P : Program} {f : FuncId}
theorem rr_r {a b c : Nat} (la : bl a ≤ 100000) (lb : bl b ≤ 100000) (k : ∀ (v u : Value) (w : World), RN w v a → RN w u b → Calls P f #[v, u] w fun e w' => ∃ v', e = .returned v' ∧ RN w' v' c ∧ Below w.heap.size w w') (h : Hp) :
    SemCall P f [rnav a, rnav b] h (.ret (rnav c)) h := by
 refine semcall_of fun D ρ w args' hr ha => ?_
 obtain ⟨V, U, rfl, h1, h2⟩ := relL2 ha
 refine (k V U w (rnav_open hr la h1) (rnav_open hr lb h2)).mono ?_
 rintro e w' ⟨v', rfl, hz, hb⟩
 exact ⟨_, rfl, hb, fun ρ1 hr1 hle => rnav_shut hr1 hz⟩
end
theorem sOf_sem (n : Nat) (hn : n < 18446744073709551616) (h : Hp) : SemCall Try.prog 68 [.flat (.int .u64 (n : Int))] h (.ret (rnav n)) h := by
 refine semcall_of fun D ρ w args' hr ha => ?_
 obtain ⟨V, rfl, h1⟩ := relL1 ha
 simp only [AV.rel] at h1
 subst h1
 refine (rofn_calls n w hn).mono ?_
 rintro e w' ⟨v, rfl, hz, hb⟩
 exact ⟨_, rfl, hb, fun ρ1 hr1 hle => rnav_shut hr1 hz⟩
theorem sCmp_sem (a b : Nat) (la : bl a ≤ 16000) (lb : bl b ≤ 16000) (h : Hp) : SemCall Try.prog 75 [rnav a, rnav b] h (.ret (.flat (.int .i64 (Dg.cmp a b)))) h := by
 refine semcall_of fun D ρ w args' hr ha => ?_
 obtain ⟨V, U, rfl, h1, h2⟩ := relL2 ha
 refine (rcmpn_calls V U a b w (rnav_open hr (by omega) h1) (rnav_open hr (by omega) h2) la).mono ?_
 rintro e w' ⟨rfl, hb⟩
 exact ⟨_, rfl, hb, fun ρ1 hr1 hle => ⟨ρ1, Step.refl hr1, rel_flat _⟩⟩
theorem sAdd_sem (a b : Nat) (la : bl a ≤ 16000) (lb : bl b ≤ 16000) (h : Hp) : SemCall Try.prog 74 [rnav a, rnav b] h (.ret (rnav (a + b))) h := rr_r (by omega) (by omega) (fun v u w h1 h2 => raddn_calls v u a b w h1 h2 la lb) h
theorem sSub_sem (a b : Nat) (la : bl a ≤ 16000) (lb : bl b ≤ 16000) (le : b ≤ a) (h : Hp) : SemCall Try.prog 76 [rnav a, rnav b] h (.ret (rnav (a - b))) h := rr_r (by omega) (by omega) (fun v u w h1 h2 => rsubn_calls v u a b w h1 h2 la lb le) h
theorem sMul_sem (a b : Nat) (la : bl a ≤ 10000) (lb : bl b ≤ 10000) (h : Hp) : SemCall Try.prog 72 [rnav a, rnav b] h (.ret (rnav (a * b))) h := rr_r (by omega) (by omega) (fun v u w h1 h2 => rmuln_calls v u a b w h1 h2 la lb) h
theorem sDiv_sem (a b : Nat) (la : bl a ≤ 4000) (lb : bl b ≤ 4000) (b0 : 0 < b) (h : Hp) : SemCall Try.prog 73 [rnav a, rnav b] h (.ret (.tuple [rnav (a / b), rnav (a % b)])) h := by
 refine semcall_of fun D ρ w args' hr ha => ?_
 obtain ⟨V, U, rfl, h1, h2⟩ := relL2 ha
 refine (rdiv_calls V U a b w (rnav_open hr (by omega) h1) (rnav_open hr (by omega) h2) la lb b0).mono ?_
 rintro e w' ⟨v1, v2, rfl, z1, z2, hb⟩
 refine ⟨_, rfl, hb, fun ρ1 hr1 hle => ?_⟩
 obtain ⟨ρ2, st2, r2⟩ := rnav_shut hr1 z1
 obtain ⟨ρ3, st3, r3⟩ := rnav_shut st2.hr z2
 exact ⟨ρ3, st2.trans st3, rel_tuple2 (AV.rel_mono st3.le _ _ r2) r3⟩
end Go.Proofs.Ytllocgmbjjoemaa.Iv
end
section
set_option maxHeartbeats 4000000
set_option linter.unusedVariables false
set_option linter.unusedSimpArgs false
set_option maxRecDepth 10000
namespace Go.Proofs.Ytllocgmbjjoemaa.Iv
open Go Go.Iv Go.RowKit Go.Proofs.Ytllocgmbjjoemaa.Nv
open Dg (bl)
noncomputable def EnOf : Entry Try.prog := ⟨46, fun args h e h' => h' = h ∧ ∃ (n : Nat), args = [.flat (.int .u64 (n : Int))] ∧ (n < 18446744073709551616) ∧ e = .ret (.agg [nav n]), by
 rintro args h e h' ⟨rfl, n, rfl, h1, rfl⟩
 exact ⟨nOf_sem n h1 _, Hp.Le.refl _⟩⟩
theorem EnOf_ans (n : Nat) (h : Hp) (h1 : n < 18446744073709551616) : EnOf.ans [.flat (.int .u64 (n : Int))] h = some (.ret (.agg [nav n]), h) :=
 Entry.one ⟨rfl, n, rfl, h1, rfl⟩ fun e h' ⟨hh, n', ha, _, he⟩ => by simp only [kI, nav_eq, zav_eq] at ha; subst ha; exact ⟨he, hh⟩
noncomputable def EnBits : Entry Try.prog := ⟨47, fun args h e h' => h' = h ∧ ∃ (n : Nat), args = [.agg [nav n]] ∧ (bl n ≤ 100000) ∧ e = .ret (.flat (.int .i64 (bl n : Int))), by
 rintro args h e h' ⟨rfl, n, rfl, h1, rfl⟩
 exact ⟨nBits_sem n h1 _, Hp.Le.refl _⟩⟩
theorem EnBits_ans (n : Nat) (h : Hp) (h1 : bl n ≤ 100000) : EnBits.ans [.agg [nav n]] h = some (.ret (.flat (.int .i64 (bl n : Int))), h) :=
 Entry.one ⟨rfl, n, rfl, h1, rfl⟩ fun e h' ⟨hh, n', ha, _, he⟩ => by simp only [kI, nav_eq, zav_eq] at ha; subst ha; exact ⟨he, hh⟩
noncomputable def EnCmp : Entry Try.prog := ⟨60, fun args h e h' => h' = h ∧ ∃ (a b : Nat), args = [.agg [nav a], .agg [nav b]] ∧ (bl a ≤ 100000) ∧ (bl b ≤ 100000) ∧ e = .ret (.flat (.int .i64 (Dg.cmp a b))), by
 rintro args h e h' ⟨rfl, a, b, rfl, h1, h2, rfl⟩
 exact ⟨nCmp_sem a b h1 h2 _, Hp.Le.refl _⟩⟩
theorem EnCmp_ans (a b : Nat) (h : Hp) (h1 : bl a ≤ 100000) (h2 : bl b ≤ 100000) : EnCmp.ans [.agg [nav a], .agg [nav b]] h = some (.ret (.flat (.int .i64 (Dg.cmp a b))), h) :=
 Entry.one ⟨rfl, a, b, rfl, h1, h2, rfl⟩ fun e h' ⟨hh, a', b', ha, _, _, he⟩ => by simp only [kI, nav_eq, zav_eq] at ha; obtain ⟨rfl, rfl⟩ := ha; exact ⟨he, hh⟩
noncomputable def EnAdd : Entry Try.prog := ⟨59, fun args h e h' => h' = h ∧ ∃ (a b : Nat), args = [.agg [nav a], .agg [nav b]] ∧ (bl a ≤ 100000) ∧ (bl b ≤ 100000) ∧ (bl (a + b) ≤ 4096) ∧ e = .ret (.tuple [.agg [nav (a + b)], .flat (.int .i64 0)]), by
 rintro args h e h' ⟨rfl, a, b, rfl, h1, h2, h3, rfl⟩
 exact ⟨nAdd_sem a b h1 h2 h3 _, Hp.Le.refl _⟩⟩
theorem EnAdd_ans (a b : Nat) (h : Hp) (h1 : bl a ≤ 100000) (h2 : bl b ≤ 100000) (h3 : bl (a + b) ≤ 4096) : EnAdd.ans [.agg [nav a], .agg [nav b]] h = some (.ret (.tuple [.agg [nav (a + b)], .flat (.int .i64 0)]), h) :=
 Entry.one ⟨rfl, a, b, rfl, h1, h2, h3, rfl⟩ fun e h' ⟨hh, a', b', ha, _, _, _, he⟩ => by simp only [kI, nav_eq, zav_eq] at ha; obtain ⟨rfl, rfl⟩ := ha; exact ⟨he, hh⟩
noncomputable def EnSub : Entry Try.prog := ⟨61, fun args h e h' => h' = h ∧ ∃ (a b : Nat), args = [.agg [nav a], .agg [nav b]] ∧ (bl a ≤ 4096) ∧ (b ≤ a) ∧ e = .ret (.tuple [.agg [nav (a - b)], .flat (.int .i64 0)]), by
 rintro args h e h' ⟨rfl, a, b, rfl, h1, h2, rfl⟩
 exact ⟨nSub_sem a b h1 h2 _, Hp.Le.refl _⟩⟩
theorem EnSub_ans (a b : Nat) (h : Hp) (h1 : bl a ≤ 4096) (h2 : b ≤ a) : EnSub.ans [.agg [nav a], .agg [nav b]] h = some (.ret (.tuple [.agg [nav (a - b)], .flat (.int .i64 0)]), h) :=
 Entry.one ⟨rfl, a, b, rfl, h1, h2, rfl⟩ fun e h' ⟨hh, a', b', ha, _, _, he⟩ => by simp only [kI, nav_eq, zav_eq] at ha; obtain ⟨rfl, rfl⟩ := ha; exact ⟨he, hh⟩
noncomputable def EnMul : Entry Try.prog := ⟨48, fun args h e h' => h' = h ∧ ∃ (a b : Nat), args = [.agg [nav a], .agg [nav b]] ∧ (bl a + bl b ≤ 4096) ∧ e = .ret (.tuple [.agg [nav (a * b)], .flat (.int .i64 0)]), by
 rintro args h e h' ⟨rfl, a, b, rfl, h1, rfl⟩
 exact ⟨nMul_sem a b h1 _, Hp.Le.refl _⟩⟩
theorem EnMul_ans (a b : Nat) (h : Hp) (h1 : bl a + bl b ≤ 4096) : EnMul.ans [.agg [nav a], .agg [nav b]] h = some (.ret (.tuple [.agg [nav (a * b)], .flat (.int .i64 0)]), h) :=
 Entry.one ⟨rfl, a, b, rfl, h1, rfl⟩ fun e h' ⟨hh, a', b', ha, _, he⟩ => by simp only [kI, nav_eq, zav_eq] at ha; obtain ⟨rfl, rfl⟩ := ha; exact ⟨he, hh⟩
noncomputable def EnDiv : Entry Try.prog := ⟨62, fun args h e h' => h' = h ∧ ∃ (a b : Nat), args = [.agg [nav a], .agg [nav b]] ∧ (bl a ≤ 10000) ∧ (bl b ≤ 10000) ∧ (b ≠ 0) ∧ e = .ret (.tuple [.agg [nav (a / b)], .agg [nav (a % b)], .flat (.int .i64 0)]), by
 rintro args h e h' ⟨rfl, a, b, rfl, h1, h2, h3, rfl⟩
 exact ⟨nDiv_sem a b h1 h2 h3 _, Hp.Le.refl _⟩⟩
theorem EnDiv_ans (a b : Nat) (h : Hp) (h1 : bl a ≤ 10000) (h2 : bl b ≤ 10000) (h3 : b ≠ 0) : EnDiv.ans [.agg [nav a], .agg [nav b]] h = some (.ret (.tuple [.agg [nav (a / b)], .agg [nav (a % b)], .flat (.int .i64 0)]), h) :=
 Entry.one ⟨rfl, a, b, rfl, h1, h2, h3, rfl⟩ fun e h' ⟨hh, a', b', ha, _, _, _, he⟩ => by simp only [kI, nav_eq, zav_eq] at ha; obtain ⟨rfl, rfl⟩ := ha; exact ⟨he, hh⟩
theorem Sign_sem (x : Int) (hl : bl x.natAbs ≤ 100000) (h : Hp) : SemCall Try.prog 40 [zav x] h (.ret (.flat (.int .i64 (if x < 0 then -1 else if x = 0 then 0 else 1)))) h := by
 refine sem_pure tables.ok Try.func40 rfl rfl rfl rfl (by simp [pureL, zav_pure]) rfl ?_ h
 have B : Base Try.prog tab _ := tabL_base [EnBits] tables.ok mixed
 generalize hL : tabL [EnBits] = call at B
 have c_EnBits : ∀ a h, call 47 a h = EnBits.ans a h := fun _ _ => hL ▸ rfl
 clear hL
 have hz := Dg.bl_zero (n := x.natAbs)
 unfold Try.f40 bodyOf entry; simp only [Option.getD_some, List.length_cons, List.length_nil, Nat.reduceAdd, Nat.reduceSub]
 rcases (show x < 0 ∨ x = 0 ∨ 0 < x by omega) with hx | hx | hx
 ·rw [if_pos hx]
  have : bl x.natAbs ≠ 0 := fun e => by have := hz.1 e; omega
  repeat (first
   | refine wp_seqQ ?_ | refine wp_blockQ ?_ | refine wp_scopeQ ?_
   | ((first | refine wp_skipQ ?_ | refine wp_labelQ ?_ | refine wp_exitQ ?_ | refine wp_retQ ?_); simp only [kQ, Nat.reduceEqDiff, reduceIte])
   | (refine wp_reg B ?_; simp (disch := omega) only [kW, Nat.reduceEqDiff, reduceIte, Nat.reduceLT, Nat.reduceLeDiff, Nat.reduceAdd, Nat.reduceSub, Nat.reduceMul, Nat.reducePow, Nat.reduceDiv, Nat.reduceMod, evIndexAddr, TD.agg, evFieldAddr, binA_eqB ty4, binA_neB ty4, ty3, ty4, ty56, ty66, ty68, ty92, fn47, c_EnBits, EnBits_ans, zav_cells, nav_one, nav_clean])
   | refine wp_condT rfl ?_ | refine wp_condF rfl ?_)
  refine wp_if (p := x < 0) rfl (fun _ => ?_) (fun k => absurd hx k)
  repeat (first
   | refine wp_seqQ ?_ | refine wp_blockQ ?_ | refine wp_scopeQ ?_
   | ((first | refine wp_skipQ ?_ | refine wp_labelQ ?_ | refine wp_exitQ ?_ | refine wp_retQ ?_); simp only [kQ, Nat.reduceEqDiff, reduceIte])
   | (refine wp_reg B ?_; simp (disch := omega) only [kW, Nat.reduceEqDiff, reduceIte, Nat.reduceLT, Nat.reduceLeDiff, Nat.reduceAdd, Nat.reduceSub, Nat.reduceMul, Nat.reducePow, Nat.reduceDiv, Nat.reduceMod, evIndexAddr, TD.agg, evFieldAddr, binA_eqB ty4, binA_neB ty4, ty3, ty4, ty56, ty66, ty68, ty92, fn47, c_EnBits, EnBits_ans])
   | refine wp_condT rfl ?_ | refine wp_condF rfl ?_)
  simp (disch := omega) only [kS, Nat.reduceEqDiff, reduceIte, Nat.reduceLT, Nat.reduceLeDiff, Nat.reduceAdd, Nat.reduceSub, Nat.reduceMul, Nat.reducePow, Nat.reduceDiv, Nat.reduceMod, evIndexAddr, TD.agg, evFieldAddr, binA_eqB ty4, binA_neB ty4, ty3, ty4, ty56, ty66, ty68, ty92, fn47, c_EnBits, EnBits_ans]
 ·rw [if_neg (by omega), if_pos hx]
  have : bl x.natAbs = 0 := hz.2 (by omega)
  repeat (first
   | refine wp_seqQ ?_ | refine wp_blockQ ?_ | refine wp_scopeQ ?_
   | ((first | refine wp_skipQ ?_ | refine wp_labelQ ?_ | refine wp_exitQ ?_ | refine wp_retQ ?_); simp only [kQ, Nat.reduceEqDiff, reduceIte])
   | (refine wp_reg B ?_; simp (disch := omega) only [kW, Nat.reduceEqDiff, reduceIte, Nat.reduceLT, Nat.reduceLeDiff, Nat.reduceAdd, Nat.reduceSub, Nat.reduceMul, Nat.reducePow, Nat.reduceDiv, Nat.reduceMod, evIndexAddr, TD.agg, evFieldAddr, binA_eqB ty4, binA_neB ty4, ty3, ty4, ty56, ty66, ty68, ty92, fn47, c_EnBits, EnBits_ans, zav_cells, nav_one, nav_clean])
   | refine wp_condT rfl ?_ | refine wp_condF rfl ?_)
  simp (disch := omega) only [kS, Nat.reduceEqDiff, reduceIte, Nat.reduceLT, Nat.reduceLeDiff, Nat.reduceAdd, Nat.reduceSub, Nat.reduceMul, Nat.reducePow, Nat.reduceDiv, Nat.reduceMod, evIndexAddr, TD.agg, evFieldAddr, binA_eqB ty4, binA_neB ty4, ty3, ty4, ty56, ty66, ty68, ty92, fn47, c_EnBits, EnBits_ans]
 ·rw [if_neg (by omega), if_neg (by omega)]
  have : bl x.natAbs ≠ 0 := fun e => by have := hz.1 e; omega
  repeat (first
   | refine wp_seqQ ?_ | refine wp_blockQ ?_ | refine wp_scopeQ ?_
   | ((first | refine wp_skipQ ?_ | refine wp_labelQ ?_ | refine wp_exitQ ?_ | refine wp_retQ ?_); simp only [kQ, Nat.reduceEqDiff, reduceIte])
   | (refine wp_reg B ?_; simp (disch := omega) only [kW, Nat.reduceEqDiff, reduceIte, Nat.reduceLT, Nat.reduceLeDiff, Nat.reduceAdd, Nat.reduceSub, Nat.reduceMul, Nat.reducePow, Nat.reduceDiv, Nat.reduceMod, evIndexAddr, TD.agg, evFieldAddr, binA_eqB ty4, binA_neB ty4, ty3, ty4, ty56, ty66, ty68, ty92, fn47, c_EnBits, EnBits_ans, zav_cells, nav_one, nav_clean])
   | refine wp_condT rfl ?_ | refine wp_condF rfl ?_)
  refine wp_if (p := x < 0) rfl (fun k => absurd k (by omega)) (fun _ => ?_)
  repeat (first
   | refine wp_seqQ ?_ | refine wp_blockQ ?_ | refine wp_scopeQ ?_
   | ((first | refine wp_skipQ ?_ | refine wp_labelQ ?_ | refine wp_exitQ ?_ | refine wp_retQ ?_); simp only [kQ, Nat.reduceEqDiff, reduceIte])
   | (refine wp_reg B ?_; simp (disch := omega) only [kW, Nat.reduceEqDiff, reduceIte, Nat.reduceLT, Nat.reduceLeDiff, Nat.reduceAdd, Nat.reduceSub, Nat.reduceMul, Nat.reducePow, Nat.reduceDiv, Nat.reduceMod, evIndexAddr, TD.agg, evFieldAddr, binA_eqB ty4, binA_neB ty4, ty3, ty4, ty56, ty66, ty68, ty92, fn47, c_EnBits, EnBits_ans])
   | refine wp_condT rfl ?_ | refine wp_condF rfl ?_)
  simp (disch := omega) only [kS, Nat.reduceEqDiff, reduceIte, Nat.reduceLT, Nat.reduceLeDiff, Nat.reduceAdd, Nat.reduceSub, Nat.reduceMul, Nat.reducePow, Nat.reduceDiv, Nat.reduceMod, evIndexAddr, TD.agg, evFieldAddr, binA_eqB ty4, binA_neB ty4, ty3, ty4, ty56, ty66, ty68, ty92, fn47, c_EnBits, EnBits_ans]
noncomputable def EzSign : Entry Try.prog := ⟨40, fun args h e h' => h' = h ∧ ∃ (x : Int), args = [zav x] ∧ (bl x.natAbs ≤ 100000) ∧ e = .ret (.flat (.int .i64 (if x < 0 then -1 else if x = 0 then 0 else 1))), by
 rintro args h e h' ⟨rfl, x, rfl, h1, rfl⟩
 exact ⟨Sign_sem x h1 _, Hp.Le.refl _⟩⟩
theorem EzSign_ans (x : Int) (h : Hp) (h1 : bl x.natAbs ≤ 100000) : EzSign.ans [zav x] h = some (.ret (.flat (.int .i64 (if x < 0 then -1 else if x = 0 then 0 else 1))), h) :=
 Entry.one ⟨rfl, x, rfl, h1, rfl⟩ fun e h' ⟨hh, x', ha, _, he⟩ => by simp only [kI, nav_eq, zav_eq] at ha; subst ha; exact ⟨he, hh⟩
theorem zMake_sem (s : Bool) (n : Nat) (hl : bl n ≤ 100000) (h : Hp) : SemCall Try.prog 49 [.flat (.bool s), .agg [nav n]] h (.ret (zav (if s = true then -(n : Int) else (n : Int)))) h := by
 refine sem_pure tables.ok Try.func49 rfl rfl rfl rfl (by simp [pureL, AV.pure, nav_pure]) (zav_pure _) ?_ h
 have B : Base Try.prog tab _ := tabL_base [EnBits] tables.ok mixed
 generalize hL : tabL [EnBits] = call at B
 have c_EnBits : ∀ a h, call 47 a h = EnBits.ans a h := fun _ _ => hL ▸ rfl
 clear hL
 have hz := Dg.bl_zero (n := n)
 unfold Try.f49 bodyOf entry; simp only [Option.getD_some, List.length_cons, List.length_nil, Nat.reduceAdd, Nat.reduceSub]
 cases s with
 | false =>
  simp only [Bool.false_eq_true, if_false]
  repeat (first
   | refine wp_seqQ ?_ | refine wp_blockQ ?_ | refine wp_scopeQ ?_
   | ((first | refine wp_skipQ ?_ | refine wp_labelQ ?_ | refine wp_exitQ ?_ | refine wp_retQ ?_); simp only [kQ, Nat.reduceEqDiff, reduceIte])
   | ((first | refine wp_dreg B (id := 1) [0, 1, 3, 7, 15, 31, 0, 127, 255] (by kernel_rfl) ?_ | refine wp_reg B ?_); simp (disch := omega) only [kW, kG, Nat.reduceEqDiff, reduceIte, Nat.reduceLT, Nat.reduceLeDiff, Nat.reduceAdd, Nat.reduceSub, Nat.reduceMul, Nat.reducePow, Nat.reduceDiv, Nat.reduceMod, evIndexAddr, TD.agg, evFieldAddr, binA_eqB ty4, binA_neB ty4, ty3, ty4, ty56, ty66, ty68, ty92, fn47, c_EnBits, EnBits_ans, nav_one, nav_clean])
   | refine wp_condT rfl ?_ | refine wp_condF rfl ?_)
  simp (disch := omega) only [kS, Nat.reduceEqDiff, reduceIte, Nat.reduceLT, Nat.reduceLeDiff, Nat.reduceAdd, Nat.reduceSub, Nat.reduceMul, Nat.reducePow, Nat.reduceDiv, Nat.reduceMod, evIndexAddr, TD.agg, evFieldAddr, binA_eqB ty4, binA_neB ty4, ty3, ty4, ty56, ty66, ty68, ty92, fn47, c_EnBits, EnBits_ans, zav, zs, zm, Int.natAbs_natCast]
 | true =>
  have e1 : decide ((0 : Int) < (bl n : Int)) = decide (-(n : Int) < 0) := by rw [decide_eq_decide]; omega
  repeat (first
   | refine wp_seqQ ?_ | refine wp_blockQ ?_ | refine wp_scopeQ ?_
   | ((first | refine wp_skipQ ?_ | refine wp_labelQ ?_ | refine wp_exitQ ?_ | refine wp_retQ ?_); simp only [kQ, Nat.reduceEqDiff, reduceIte])
   | ((first | refine wp_dreg B (id := 1) [0, 1, 3, 7, 15, 31, 0, 127, 255] (by kernel_rfl) ?_ | refine wp_reg B ?_); simp (disch := omega) only [kW, kG, Nat.reduceEqDiff, reduceIte, Nat.reduceLT, Nat.reduceLeDiff, Nat.reduceAdd, Nat.reduceSub, Nat.reduceMul, Nat.reducePow, Nat.reduceDiv, Nat.reduceMod, evIndexAddr, TD.agg, evFieldAddr, binA_eqB ty4, binA_neB ty4, ty3, ty4, ty56, ty66, ty68, ty92, fn47, c_EnBits, EnBits_ans, nav_one, nav_clean])
   | refine wp_condT rfl ?_ | refine wp_condF rfl ?_)
  simp (disch := omega) only [kS, Nat.reduceEqDiff, reduceIte, Nat.reduceLT, Nat.reduceLeDiff, Nat.reduceAdd, Nat.reduceSub, Nat.reduceMul, Nat.reducePow, Nat.reduceDiv, Nat.reduceMod, evIndexAddr, TD.agg, evFieldAddr, binA_eqB ty4, binA_neB ty4, ty3, ty4, ty56, ty66, ty68, ty92, fn47, c_EnBits, EnBits_ans, zav, zs, zm, Int.natAbs_neg, Int.natAbs_natCast, e1]
noncomputable def EzMake : Entry Try.prog := ⟨49, fun args h e h' => h' = h ∧ ∃ (s : Bool) (n : Nat), args = [.flat (.bool s), .agg [nav n]] ∧ (bl n ≤ 100000) ∧ e = .ret (zav (if s = true then -(n : Int) else (n : Int))), by
 rintro args h e h' ⟨rfl, s, n, rfl, h1, rfl⟩
 exact ⟨zMake_sem s n h1 _, Hp.Le.refl _⟩⟩
theorem EzMake_ans (s : Bool) (n : Nat) (h : Hp) (h1 : bl n ≤ 100000) : EzMake.ans [.flat (.bool s), .agg [nav n]] h = some (.ret (zav (if s = true then -(n : Int) else (n : Int))), h) :=
 Entry.one ⟨rfl, s, n, rfl, h1, rfl⟩ fun e h' ⟨hh, s', n', ha, _, he⟩ => by simp only [kI, nav_eq, zav_eq] at ha; obtain ⟨rfl, rfl⟩ := ha; exact ⟨he, hh⟩
theorem zOf_sem (n : Int) (h1 : -9223372036854775808 ≤ n) (h2 : n < 9223372036854775808) (h : Hp) : SemCall Try.prog 39 [.flat (.int .i64 n)] h (.ret (zav n)) h := by
 refine sem_pure tables.ok Try.func39 rfl rfl rfl rfl rfl (zav_pure _) ?_ h
 have B : Base Try.prog tab _ := tabL_base [EnOf] tables.ok mixed
 generalize hL : tabL [EnOf] = call at B
 have c_EnOf : ∀ a h, call 46 a h = EnOf.ans a h := fun _ _ => hL ▸ rfl
 clear hL
 unfold Try.f39 bodyOf entry; simp only [Option.getD_some, List.length_cons, List.length_nil, Nat.reduceAdd, Nat.reduceSub]
 by_cases hn : n < 0
 ·have e1 : fwrap .u64 (0 - fwrap .u64 n) = (n.natAbs : Int) := by
    rw [fwrap_eq, fwrap_eq, IntKind.wrap_u64, IntKind.wrap_u64]; omega
  repeat (first
   | refine wp_seqQ ?_ | refine wp_blockQ ?_ | refine wp_scopeQ ?_
   | ((first | refine wp_skipQ ?_ | refine wp_labelQ ?_ | refine wp_exitQ ?_ | refine wp_retQ ?_); simp only [kQ, Nat.reduceEqDiff, reduceIte])
   | (refine wp_reg B ?_; simp (disch := omega) only [kW, Nat.reduceEqDiff, reduceIte, Nat.reduceLT, Nat.reduceLeDiff, Nat.reduceAdd, Nat.reduceSub, Nat.reduceMul, Nat.reducePow, Nat.reduceDiv, Nat.reduceMod, evIndexAddr, TD.agg, evFieldAddr, binA_eqB ty4, binA_neB ty4, ty2, ty4, ty56, ty66, ty68, ty80, ty92, fn46, c_EnOf, EnOf_ans, e1, nav_one, nav_clean])
   | refine wp_condT rfl ?_ | refine wp_condF rfl ?_)
  simp (disch := omega) only [kS, Nat.reduceEqDiff, reduceIte, Nat.reduceLT, Nat.reduceLeDiff, Nat.reduceAdd, Nat.reduceSub, Nat.reduceMul, Nat.reducePow, Nat.reduceDiv, Nat.reduceMod, evIndexAddr, TD.agg, evFieldAddr, binA_eqB ty4, binA_neB ty4, ty2, ty4, ty56, ty66, ty68, ty80, ty92, fn46, c_EnOf, EnOf_ans, zav, zs, zm]
 ·have e1 : fwrap .u64 n = (n.natAbs : Int) := by
    rw [fwrap_eq, IntKind.wrap_u64]; omega
  repeat (first
   | refine wp_seqQ ?_ | refine wp_blockQ ?_ | refine wp_scopeQ ?_
   | ((first | refine wp_skipQ ?_ | refine wp_labelQ ?_ | refine wp_exitQ ?_ | refine wp_retQ ?_); simp only [kQ, Nat.reduceEqDiff, reduceIte])
   | (refine wp_reg B ?_; simp (disch := omega) only [kW, Nat.reduceEqDiff, reduceIte, Nat.reduceLT, Nat.reduceLeDiff, Nat.reduceAdd, Nat.reduceSub, Nat.reduceMul, Nat.reducePow, Nat.reduceDiv, Nat.reduceMod, evIndexAddr, TD.agg, evFieldAddr, binA_eqB ty4, binA_neB ty4, ty2, ty4, ty56, ty66, ty68, ty80, ty92, fn46, c_EnOf, EnOf_ans, e1, nav_one, nav_clean])
   | refine wp_condT rfl ?_ | refine wp_condF rfl ?_)
  simp (disch := omega) only [kS, Nat.reduceEqDiff, reduceIte, Nat.reduceLT, Nat.reduceLeDiff, Nat.reduceAdd, Nat.reduceSub, Nat.reduceMul, Nat.reducePow, Nat.reduceDiv, Nat.reduceMod, evIndexAddr, TD.agg, evFieldAddr, binA_eqB ty4, binA_neB ty4, ty2, ty4, ty56, ty66, ty68, ty80, ty92, fn46, c_EnOf, EnOf_ans, zav, zs, zm]
noncomputable def EzOf : Entry Try.prog := ⟨39, fun args h e h' => h' = h ∧ ∃ (n : Int), args = [.flat (.int .i64 n)] ∧ (-9223372036854775808 ≤ n) ∧ (n < 9223372036854775808) ∧ e = .ret (zav n), by
 rintro args h e h' ⟨rfl, n, rfl, h1, h2, rfl⟩
 exact ⟨zOf_sem n h1 h2 _, Hp.Le.refl _⟩⟩
theorem EzOf_ans (n : Int) (h : Hp) (h1 : -9223372036854775808 ≤ n) (h2 : n < 9223372036854775808) : EzOf.ans [.flat (.int .i64 n)] h = some (.ret (zav n), h) :=
 Entry.one ⟨rfl, n, rfl, h1, h2, rfl⟩ fun e h' ⟨hh, n', ha, _, _, he⟩ => by simp only [kI, nav_eq, zav_eq] at ha; subst ha; exact ⟨he, hh⟩
theorem zNeg_sem (x : Int) (hl : bl x.natAbs ≤ 100000) (h : Hp) : SemCall Try.prog 51 [zav x] h (.ret (zav (-x))) h := by
 refine sem_pure tables.ok Try.func51 rfl rfl rfl rfl (by simp [pureL, zav_pure]) (zav_pure _) ?_ h
 have B : Base Try.prog tab _ := tabL_base [EzMake] tables.ok mixed
 generalize hL : tabL [EzMake] = call at B
 have c_EzMake : ∀ a h, call 49 a h = EzMake.ans a h := fun _ _ => hL ▸ rfl
 clear hL
 have k1 : ∀ h, EzMake.ans [.flat (.bool (!decide (x < 0))), .agg [nav x.natAbs]] h = some (.ret (zav (-x)), h) := fun h => by
  have := EzMake_ans (!decide (x < 0)) x.natAbs h hl
  rwa [show (if (!decide (x < 0)) = true then -(x.natAbs : Int) else (x.natAbs : Int)) = -x by by_cases hx : x < 0 <;> simp [hx] <;> omega] at this
 unfold Try.f51 bodyOf entry; simp only [Option.getD_some, List.length_cons, List.length_nil, Nat.reduceAdd, Nat.reduceSub]
 repeat (first
  | refine wp_seqQ ?_ | refine wp_blockQ ?_ | refine wp_scopeQ ?_
  | ((first | refine wp_skipQ ?_ | refine wp_labelQ ?_ | refine wp_exitQ ?_ | refine wp_retQ ?_); simp only [kQ, Nat.reduceEqDiff, reduceIte])
  | (refine wp_reg B ?_; simp (disch := omega) only [kW, Nat.reduceEqDiff, reduceIte, Nat.reduceLT, Nat.reduceLeDiff, Nat.reduceAdd, Nat.reduceSub, Nat.reduceMul, Nat.reducePow, Nat.reduceDiv, Nat.reduceMod, evIndexAddr, TD.agg, evFieldAddr, binA_eqB ty4, binA_neB ty4, ty4, ty56, ty66, ty68, ty92, fn49, c_EzMake, EzMake_ans, k1, zav_cells, nav_one, nav_clean, zav_fold])
  | refine wp_condT rfl ?_ | refine wp_condF rfl ?_)
 simp (disch := omega) only [kS, Nat.reduceEqDiff, reduceIte, Nat.reduceLT, Nat.reduceLeDiff, Nat.reduceAdd, Nat.reduceSub, Nat.reduceMul, Nat.reducePow, Nat.reduceDiv, Nat.reduceMod, evIndexAddr, TD.agg, evFieldAddr, binA_eqB ty4, binA_neB ty4, ty4, ty56, ty66, ty68, ty92, fn49, c_EzMake, EzMake_ans, zav_fold]
noncomputable def EzNeg : Entry Try.prog := ⟨51, fun args h e h' => h' = h ∧ ∃ (x : Int), args = [zav x] ∧ (bl x.natAbs ≤ 100000) ∧ e = .ret (zav (-x)), by
 rintro args h e h' ⟨rfl, x, rfl, h1, rfl⟩
 exact ⟨zNeg_sem x h1 _, Hp.Le.refl _⟩⟩
theorem EzNeg_ans (x : Int) (h : Hp) (h1 : bl x.natAbs ≤ 100000) : EzNeg.ans [zav x] h = some (.ret (zav (-x)), h) :=
 Entry.one ⟨rfl, x, rfl, h1, rfl⟩ fun e h' ⟨hh, x', ha, _, he⟩ => by simp only [kI, nav_eq, zav_eq] at ha; subst ha; exact ⟨he, hh⟩
theorem mul_sign (x y : Int) : (if (!(decide (x < 0) == decide (y < 0))) = true then -((x.natAbs * y.natAbs : Nat) : Int) else ((x.natAbs * y.natAbs : Nat) : Int)) = x * y := by
 rw [Int.natCast_mul]
 by_cases hx : x < 0 <;> by_cases hy : y < 0
 ·simp only [hx, hy, decide_true, beq_self_eq_true, Bool.not_true, Bool.false_eq_true, if_false]
  rw [show (x.natAbs : Int) = -x by omega, show (y.natAbs : Int) = -y by omega, Int.neg_mul_neg]
 ·simp only [hx, hy, decide_true, decide_false]
  rw [show (x.natAbs : Int) = -x by omega, show (y.natAbs : Int) = y by omega, Int.neg_mul]
  simp
 ·simp only [hx, hy, decide_true, decide_false]
  rw [show (x.natAbs : Int) = x by omega, show (y.natAbs : Int) = -y by omega, Int.mul_neg]
  simp
 ·simp only [hx, hy, decide_false, beq_self_eq_true, Bool.not_true, Bool.false_eq_true, if_false]
  rw [show (x.natAbs : Int) = x by omega, show (y.natAbs : Int) = y by omega]
theorem zMul_sem (x y : Int) (hl : bl x.natAbs + bl y.natAbs ≤ 4096) (h : Hp) : SemCall Try.prog 41 [zav x, zav y] h (.ret (.tuple [zav (x * y), .flat (.int .i64 0)])) h := by
 refine sem_pure tables.ok Try.func41 rfl rfl rfl rfl (by simp [pureL, zav_pure]) (by simp [AV.pure, pureL, zav_pure]) ?_ h
 have B : Base Try.prog tab _ := tabL_base [EzMake, EnMul] tables.ok mixed
 generalize hL : tabL [EzMake, EnMul] = call at B
 have c_EzMake : ∀ a h, call 49 a h = EzMake.ans a h := fun _ _ => hL ▸ rfl
 have c_EnMul : ∀ a h, call 48 a h = EnMul.ans a h := fun _ _ => hL ▸ rfl
 clear hL
 have k1 : ∀ h, EzMake.ans [.flat (.bool (!(decide (x < 0) == decide (y < 0)))), .agg [nav (x.natAbs * y.natAbs)]] h = some (.ret (zav (x * y)), h) := fun h => by
  have := EzMake_ans (!(decide (x < 0) == decide (y < 0))) (x.natAbs * y.natAbs) h (by have := Dg.bl_mulk (Nat.le_refl (bl x.natAbs)) (Nat.le_refl (bl y.natAbs)); omega)
  rwa [mul_sign] at this
 unfold Try.f41 bodyOf entry; simp only [Option.getD_some, List.length_cons, List.length_nil, Nat.reduceAdd, Nat.reduceSub]
 repeat (first
  | refine wp_seqQ ?_ | refine wp_blockQ ?_ | refine wp_scopeQ ?_
  | ((first | refine wp_skipQ ?_ | refine wp_labelQ ?_ | refine wp_exitQ ?_ | refine wp_retQ ?_); simp only [kQ, Nat.reduceEqDiff, reduceIte])
  | (refine wp_reg B ?_; simp (disch := omega) only [kW, Nat.reduceEqDiff, reduceIte, Nat.reduceLT, Nat.reduceLeDiff, Nat.reduceAdd, Nat.reduceSub, Nat.reduceMul, Nat.reducePow, Nat.reduceDiv, Nat.reduceMod, evIndexAddr, TD.agg, evFieldAddr, binA_eqB ty4, binA_neB ty4, ty4, ty56, ty66, ty68, ty92, fn48, fn49, c_EzMake, EzMake_ans, c_EnMul, EnMul_ans, k1, zav_cells, nav_one, nav_clean, zav_fold])
  | refine wp_condT rfl ?_ | refine wp_condF rfl ?_)
 simp (disch := omega) only [kS, Nat.reduceEqDiff, reduceIte, Nat.reduceLT, Nat.reduceLeDiff, Nat.reduceAdd, Nat.reduceSub, Nat.reduceMul, Nat.reducePow, Nat.reduceDiv, Nat.reduceMod, evIndexAddr, TD.agg, evFieldAddr, binA_eqB ty4, binA_neB ty4, ty4, ty56, ty66, ty68, ty92, fn48, fn49, c_EzMake, EzMake_ans, c_EnMul, EnMul_ans, zav_fold]
noncomputable def EzMul : Entry Try.prog := ⟨41, fun args h e h' => h' = h ∧ ∃ (x y : Int), args = [zav x, zav y] ∧ (bl x.natAbs + bl y.natAbs ≤ 4096) ∧ e = .ret (.tuple [zav (x * y), .flat (.int .i64 0)]), by
 rintro args h e h' ⟨rfl, x, y, rfl, h1, rfl⟩
 exact ⟨zMul_sem x y h1 _, Hp.Le.refl _⟩⟩
theorem EzMul_ans (x y : Int) (h : Hp) (h1 : bl x.natAbs + bl y.natAbs ≤ 4096) : EzMul.ans [zav x, zav y] h = some (.ret (.tuple [zav (x * y), .flat (.int .i64 0)]), h) :=
 Entry.one ⟨rfl, x, y, rfl, h1, rfl⟩ fun e h' ⟨hh, x', y', ha, _, he⟩ => by simp only [kI, nav_eq, zav_eq] at ha; obtain ⟨rfl, rfl⟩ := ha; exact ⟨he, hh⟩
theorem cmp_lt (a b : Nat) : Dg.cmp a b < 0 ↔ a < b := by
 unfold Dg.cmp
 split
 ·omega
 ·split <;> omega
theorem zAdd_sem (x y : Int) (hl : bl (x.natAbs + y.natAbs) ≤ 4096) (h : Hp) : SemCall Try.prog 50 [zav x, zav y] h (.ret (.tuple [zav (x + y), .flat (.int .i64 0)])) h := by
 refine sem_pure tables.ok Try.func50 rfl rfl rfl rfl (by simp [pureL, zav_pure]) (by simp [AV.pure, pureL, zav_pure]) ?_ h
 have B : Base Try.prog tab _ := tabL_base [EzMake, EnAdd, EnCmp, EnSub] tables.ok mixed
 generalize hL : tabL [EzMake, EnAdd, EnCmp, EnSub] = call at B
 have c_EzMake : ∀ a h, call 49 a h = EzMake.ans a h := fun _ _ => hL ▸ rfl
 have c_EnAdd : ∀ a h, call 59 a h = EnAdd.ans a h := fun _ _ => hL ▸ rfl
 have c_EnCmp : ∀ a h, call 60 a h = EnCmp.ans a h := fun _ _ => hL ▸ rfl
 have c_EnSub : ∀ a h, call 61 a h = EnSub.ans a h := fun _ _ => hL ▸ rfl
 clear hL
 have bx : bl x.natAbs ≤ 4096 := Nat.le_trans (Dg.bl_mono' (by omega)) hl
 have bY : bl y.natAbs ≤ 4096 := Nat.le_trans (Dg.bl_mono' (by omega)) hl
 unfold Try.f50 bodyOf entry; simp only [Option.getD_some, List.length_cons, List.length_nil, Nat.reduceAdd, Nat.reduceSub]
 by_cases hs : (x < 0 ↔ y < 0)
 ·have e1 : (decide (x < 0) == decide (y < 0)) = true := by rw [beq_iff_eq, decide_eq_decide]; exact hs
  have k1 : ∀ h, EzMake.ans [.flat (.bool (decide (x < 0))), .agg [nav (x.natAbs + y.natAbs)]] h = some (.ret (zav (x + y)), h) := fun h => by
   have := EzMake_ans (decide (x < 0)) (x.natAbs + y.natAbs) h (by omega)
   rwa [show (if decide (x < 0) = true then -((x.natAbs + y.natAbs : Nat) : Int) else ((x.natAbs + y.natAbs : Nat) : Int)) = x + y by by_cases hx : x < 0 <;> simp [hx] <;> omega] at this
  repeat (first
   | refine wp_seqQ ?_ | refine wp_blockQ ?_ | refine wp_scopeQ ?_
   | ((first | refine wp_skipQ ?_ | refine wp_labelQ ?_ | refine wp_exitQ ?_ | refine wp_retQ ?_); simp only [kQ, Nat.reduceEqDiff, reduceIte])
   | (refine wp_reg B ?_; simp (disch := omega) only [kW, Nat.reduceEqDiff, reduceIte, Nat.reduceLT, Nat.reduceLeDiff, Nat.reduceAdd, Nat.reduceSub, Nat.reduceMul, Nat.reducePow, Nat.reduceDiv, Nat.reduceMod, evIndexAddr, TD.agg, evFieldAddr, binA_eqB ty4, binA_neB ty4, ty3, ty4, ty56, ty66, ty68, ty92, fn59, fn49, fn60, fn61, c_EzMake, EzMake_ans, c_EnAdd, EnAdd_ans, c_EnCmp, EnCmp_ans, c_EnSub, EnSub_ans, e1, k1, zav_cells, nav_one, nav_clean, zav_fold])
   | refine wp_condT rfl ?_ | refine wp_condF rfl ?_)
  simp (disch := omega) only [kS, Nat.reduceEqDiff, reduceIte, Nat.reduceLT, Nat.reduceLeDiff, Nat.reduceAdd, Nat.reduceSub, Nat.reduceMul, Nat.reducePow, Nat.reduceDiv, Nat.reduceMod, evIndexAddr, TD.agg, evFieldAddr, binA_eqB ty4, binA_neB ty4, ty3, ty4, ty56, ty66, ty68, ty92, fn59, fn49, fn60, fn61, c_EzMake, EzMake_ans, c_EnAdd, EnAdd_ans, c_EnCmp, EnCmp_ans, c_EnSub, EnSub_ans, zav_fold]
 ·have e1 : (decide (x < 0) == decide (y < 0)) = false := by rw [beq_eq_false_iff_ne, ne_eq, decide_eq_decide]; exact hs
  have hc := cmp_lt x.natAbs y.natAbs
  by_cases hlt : x.natAbs < y.natAbs
  ·have e2 : Dg.cmp x.natAbs y.natAbs < 0 := hc.2 hlt
   have k1 : ∀ h, EzMake.ans [.flat (.bool (decide (y < 0))), .agg [nav (y.natAbs - x.natAbs)]] h = some (.ret (zav (x + y)), h) := fun h => by
    have := EzMake_ans (decide (y < 0)) (y.natAbs - x.natAbs) h (by have := Dg.bl_mono' (show y.natAbs - x.natAbs ≤ y.natAbs by omega); omega)
    rwa [show (if decide (y < 0) = true then -((y.natAbs - x.natAbs : Nat) : Int) else ((y.natAbs - x.natAbs : Nat) : Int)) = x + y by by_cases hy : y < 0 <;> simp [hy] <;> omega] at this
   have k2 := fun h => EnSub_ans y.natAbs x.natAbs h bY (by omega)
   have k3 := fun h => EnCmp_ans x.natAbs y.natAbs h (by omega) (by omega)
   generalize Dg.cmp x.natAbs y.natAbs = cm at *
   repeat (first
    | refine wp_seqQ ?_ | refine wp_blockQ ?_ | refine wp_scopeQ ?_
    | ((first | refine wp_skipQ ?_ | refine wp_labelQ ?_ | refine wp_exitQ ?_ | refine wp_retQ ?_); simp only [kQ, Nat.reduceEqDiff, reduceIte])
    | (refine wp_reg B ?_; simp (disch := omega) only [kW, Nat.reduceEqDiff, reduceIte, Nat.reduceLT, Nat.reduceLeDiff, Nat.reduceAdd, Nat.reduceSub, Nat.reduceMul, Nat.reducePow, Nat.reduceDiv, Nat.reduceMod, evIndexAddr, TD.agg, evFieldAddr, binA_eqB ty4, binA_neB ty4, ty3, ty4, ty56, ty66, ty68, ty92, fn59, fn49, fn60, fn61, c_EzMake, EzMake_ans, c_EnAdd, EnAdd_ans, c_EnCmp, EnCmp_ans, c_EnSub, EnSub_ans, e1, k1, k2, k3, zav_cells, nav_one, nav_clean, zav_fold])
    | refine wp_condT rfl ?_ | refine wp_condF rfl ?_)
   simp (disch := omega) only [kS, Nat.reduceEqDiff, reduceIte, Nat.reduceLT, Nat.reduceLeDiff, Nat.reduceAdd, Nat.reduceSub, Nat.reduceMul, Nat.reducePow, Nat.reduceDiv, Nat.reduceMod, evIndexAddr, TD.agg, evFieldAddr, binA_eqB ty4, binA_neB ty4, ty3, ty4, ty56, ty66, ty68, ty92, fn59, fn49, fn60, fn61, c_EzMake, EzMake_ans, c_EnAdd, EnAdd_ans, c_EnCmp, EnCmp_ans, c_EnSub, EnSub_ans, zav_fold]
  ·have e2 : ¬ Dg.cmp x.natAbs y.natAbs < 0 := fun k => hlt (hc.1 k)
   have k1 : ∀ h, EzMake.ans [.flat (.bool (decide (x < 0))), .agg [nav (x.natAbs - y.natAbs)]] h = some (.ret (zav (x + y)), h) := fun h => by
    have := EzMake_ans (decide (x < 0)) (x.natAbs - y.natAbs) h (by have := Dg.bl_mono' (show x.natAbs - y.natAbs ≤ x.natAbs by omega); omega)
    rwa [show (if decide (x < 0) = true then -((x.natAbs - y.natAbs : Nat) : Int) else ((x.natAbs - y.natAbs : Nat) : Int)) = x + y by by_cases hx : x < 0 <;> simp [hx] <;> omega] at this
   have k2 := fun h => EnSub_ans x.natAbs y.natAbs h bx (by omega)
   have k3 := fun h => EnCmp_ans x.natAbs y.natAbs h (by omega) (by omega)
   generalize Dg.cmp x.natAbs y.natAbs = cm at *
   repeat (first
    | refine wp_seqQ ?_ | refine wp_blockQ ?_ | refine wp_scopeQ ?_
    | ((first | refine wp_skipQ ?_ | refine wp_labelQ ?_ | refine wp_exitQ ?_ | refine wp_retQ ?_); simp only [kQ, Nat.reduceEqDiff, reduceIte])
    | (refine wp_reg B ?_; simp (disch := omega) only [kW, Nat.reduceEqDiff, reduceIte, Nat.reduceLT, Nat.reduceLeDiff, Nat.reduceAdd, Nat.reduceSub, Nat.reduceMul, Nat.reducePow, Nat.reduceDiv, Nat.reduceMod, evIndexAddr, TD.agg, evFieldAddr, binA_eqB ty4, binA_neB ty4, ty3, ty4, ty56, ty66, ty68, ty92, fn59, fn49, fn60, fn61, c_EzMake, EzMake_ans, c_EnAdd, EnAdd_ans, c_EnCmp, EnCmp_ans, c_EnSub, EnSub_ans, e1, k1, k2, k3, zav_cells, nav_one, nav_clean, zav_fold])
    | refine wp_condT rfl ?_ | refine wp_condF rfl ?_)
   simp (disch := omega) only [kS, Nat.reduceEqDiff, reduceIte, Nat.reduceLT, Nat.reduceLeDiff, Nat.reduceAdd, Nat.reduceSub, Nat.reduceMul, Nat.reducePow, Nat.reduceDiv, Nat.reduceMod, evIndexAddr, TD.agg, evFieldAddr, binA_eqB ty4, binA_neB ty4, ty3, ty4, ty56, ty66, ty68, ty92, fn59, fn49, fn60, fn61, c_EzMake, EzMake_ans, c_EnAdd, EnAdd_ans, c_EnCmp, EnCmp_ans, c_EnSub, EnSub_ans, zav_fold]
noncomputable def EzAdd : Entry Try.prog := ⟨50, fun args h e h' => h' = h ∧ ∃ (x y : Int), args = [zav x, zav y] ∧ (bl (x.natAbs + y.natAbs) ≤ 4096) ∧ e = .ret (.tuple [zav (x + y), .flat (.int .i64 0)]), by
 rintro args h e h' ⟨rfl, x, y, rfl, h1, rfl⟩
 exact ⟨zAdd_sem x y h1 _, Hp.Le.refl _⟩⟩
theorem EzAdd_ans (x y : Int) (h : Hp) (h1 : bl (x.natAbs + y.natAbs) ≤ 4096) : EzAdd.ans [zav x, zav y] h = some (.ret (.tuple [zav (x + y), .flat (.int .i64 0)]), h) :=
 Entry.one ⟨rfl, x, y, rfl, h1, rfl⟩ fun e h' ⟨hh, x', y', ha, _, he⟩ => by simp only [kI, nav_eq, zav_eq] at ha; obtain ⟨rfl, rfl⟩ := ha; exact ⟨he, hh⟩
theorem zSub_sem (x y : Int) (hl : bl (x.natAbs + y.natAbs) ≤ 4096) (h : Hp) : SemCall Try.prog 42 [zav x, zav y] h (.ret (.tuple [zav (x - y), .flat (.int .i64 0)])) h := by
 refine sem_pure tables.ok Try.func42 rfl rfl rfl rfl (by simp [pureL, zav_pure]) (by simp [AV.pure, pureL, zav_pure]) ?_ h
 have B : Base Try.prog tab _ := tabL_base [EzNeg, EzAdd] tables.ok mixed
 generalize hL : tabL [EzNeg, EzAdd] = call at B
 have c_EzNeg : ∀ a h, call 51 a h = EzNeg.ans a h := fun _ _ => hL ▸ rfl
 have c_EzAdd : ∀ a h, call 50 a h = EzAdd.ans a h := fun _ _ => hL ▸ rfl
 clear hL
 have bY : bl y.natAbs ≤ 4096 := Nat.le_trans (Dg.bl_mono' (by omega)) hl
 have k1 : ∀ h, EzAdd.ans [zav x, zav (-y)] h = some (.ret (.tuple [zav (x - y), .flat (.int .i64 0)]), h) := fun h => by
  have := EzAdd_ans x (-y) h (by rw [Int.natAbs_neg]; exact hl)
  rwa [← Int.sub_eq_add_neg] at this
 unfold Try.f42 bodyOf entry; simp only [Option.getD_some, List.length_cons, List.length_nil, Nat.reduceAdd, Nat.reduceSub]
 repeat (first
  | refine wp_seqQ ?_ | refine wp_blockQ ?_ | refine wp_scopeQ ?_
  | ((first | refine wp_skipQ ?_ | refine wp_labelQ ?_ | refine wp_exitQ ?_ | refine wp_retQ ?_); simp only [kQ, Nat.reduceEqDiff, reduceIte])
  | ((first | refine wp_dreg B (id := 1) [0, 0, 2, 7, 15, 15, 63, 127] (by kernel_rfl) ?_ | refine wp_reg B ?_); simp (disch := omega) only [kW, kG, Nat.reduceEqDiff, reduceIte, Nat.reduceLT, Nat.reduceLeDiff, Nat.reduceAdd, Nat.reduceSub, Nat.reduceMul, Nat.reducePow, Nat.reduceDiv, Nat.reduceMod, evIndexAddr, TD.agg, evFieldAddr, binA_eqB ty4, binA_neB ty4, ty4, ty56, ty66, ty68, ty92, fn51, fn50, c_EzNeg, EzNeg_ans, c_EzAdd, EzAdd_ans, k1, zav_cells, nav_one, nav_clean, zav_fold])
  | refine wp_condT rfl ?_ | refine wp_condF rfl ?_)
 simp (disch := omega) only [kS, Nat.reduceEqDiff, reduceIte, Nat.reduceLT, Nat.reduceLeDiff, Nat.reduceAdd, Nat.reduceSub, Nat.reduceMul, Nat.reducePow, Nat.reduceDiv, Nat.reduceMod, evIndexAddr, TD.agg, evFieldAddr, binA_eqB ty4, binA_neB ty4, ty4, ty56, ty66, ty68, ty92, fn51, fn50, c_EzNeg, EzNeg_ans, c_EzAdd, EzAdd_ans, zav_fold]
noncomputable def EzSub : Entry Try.prog := ⟨42, fun args h e h' => h' = h ∧ ∃ (x y : Int), args = [zav x, zav y] ∧ (bl (x.natAbs + y.natAbs) ≤ 4096) ∧ e = .ret (.tuple [zav (x - y), .flat (.int .i64 0)]), by
 rintro args h e h' ⟨rfl, x, y, rfl, h1, rfl⟩
 exact ⟨zSub_sem x y h1 _, Hp.Le.refl _⟩⟩
theorem EzSub_ans (x y : Int) (h : Hp) (h1 : bl (x.natAbs + y.natAbs) ≤ 4096) : EzSub.ans [zav x, zav y] h = some (.ret (.tuple [zav (x - y), .flat (.int .i64 0)]), h) :=
 Entry.one ⟨rfl, x, y, rfl, h1, rfl⟩ fun e h' ⟨hh, x', y', ha, _, he⟩ => by simp only [kI, nav_eq, zav_eq] at ha; obtain ⟨rfl, rfl⟩ := ha; exact ⟨he, hh⟩
theorem zQuo_sem (x y : Int) (lx : bl x.natAbs ≤ 4000) (ly : bl y.natAbs ≤ 4000) (y0 : y ≠ 0) (h : Hp) : SemCall Try.prog 52 [zav x, zav y] h (.ret (.tuple [zav (x / y), zav (x % y), .flat (.int .i64 0)])) h := by
 refine sem_pure tables.ok Try.func52 rfl rfl rfl rfl (by simp [pureL, zav_pure]) (by simp [AV.pure, pureL, zav_pure]) ?_ h
 have B : Base Try.prog tab _ := tabL_base [EzMake, EnDiv, EnBits, EnOf, EnAdd, EnSub] tables.ok mixed
 generalize hL : tabL [EzMake, EnDiv, EnBits, EnOf, EnAdd, EnSub] = call at B
 have c_EzMake : ∀ a h, call 49 a h = EzMake.ans a h := fun _ _ => hL ▸ rfl
 have c_EnDiv : ∀ a h, call 62 a h = EnDiv.ans a h := fun _ _ => hL ▸ rfl
 have c_EnBits : ∀ a h, call 47 a h = EnBits.ans a h := fun _ _ => hL ▸ rfl
 have c_EnOf : ∀ a h, call 46 a h = EnOf.ans a h := fun _ _ => hL ▸ rfl
 have c_EnAdd : ∀ a h, call 59 a h = EnAdd.ans a h := fun _ _ => hL ▸ rfl
 have c_EnSub : ∀ a h, call 61 a h = EnSub.ans a h := fun _ _ => hL ▸ rfl
 clear hL
 obtain ⟨q1, q2⟩ := quo_law x y y0
 have b0 := Dg.bl_zero (n := x.natAbs % y.natAbs)
 have bq := Dg.bl_mono' (Nat.div_le_self x.natAbs y.natAbs)
 have hr := Nat.mod_lt x.natAbs (y := y.natAbs) (by omega)
 have br := Dg.bl_mono' (Nat.le_of_lt hr)
 have kd := fun h => EnDiv_ans x.natAbs y.natAbs h (by omega) (by omega) (by omega)
 generalize hq : x.natAbs / y.natAbs = q at *
 generalize hm : x.natAbs % y.natAbs = r at *
 have kb := fun h => EnBits_ans r h (by omega)
 unfold Try.f52 bodyOf entry; simp only [Option.getD_some, List.length_cons, List.length_nil, Nat.reduceAdd, Nat.reduceSub]
 by_cases hc : 0 ≤ x ∨ r = 0
 ·obtain ⟨e1, e2⟩ := q1 hc
  have k1 : ∀ h, EzMake.ans [.flat (.bool (!(decide (x < 0) == decide (y < 0)))), .agg [nav q]] h = some (.ret (zav (x / y)), h) := fun h => by
   have := EzMake_ans (!(decide (x < 0) == decide (y < 0))) q h (by omega)
   rwa [e1] at this
  have k2 : ∀ h, EzMake.ans [.flat (.bool false), .agg [nav r]] h = some (.ret (zav (x % y)), h) := fun h => by
   have := EzMake_ans false r h (by omega)
   rwa [if_neg (by simp), e2] at this
  clear q1 q2 e1 e2
  by_cases hx : x < 0
  ·have hb0 : bl r = 0 := b0.2 (by omega)
   rw [decide_eq_true hx] at k1
   repeat (first
    | refine wp_seqQ ?_ | refine wp_blockQ ?_ | refine wp_scopeQ ?_
    | ((first | refine wp_skipQ ?_ | refine wp_labelQ ?_ | refine wp_exitQ ?_ | refine wp_retQ ?_); simp only [kQ, Nat.reduceEqDiff, reduceIte])
    | ((first | refine wp_dreg B (id := 5) [0, 0, 3, 7, 15, 15, 31] (by kernel_rfl) ?_ | refine wp_dreg B (id := 7) [0, 1, 0, 4, 15, 0, 63, 0, 255, 511, 1023, 2047] (by kernel_rfl) ?_ | refine wp_reg B ?_); simp (disch := omega) only [kW, kG, Nat.reduceEqDiff, reduceIte, Nat.reduceLT, Nat.reduceLeDiff, Nat.reduceAdd, Nat.reduceSub, Nat.reduceMul, Nat.reducePow, Nat.reduceDiv, Nat.reduceMod, evIndexAddr, TD.agg, evFieldAddr, binA_eqB ty4, binA_neB ty4, ty3, ty4, ty23, ty56, ty66, ty68, ty80, ty92, fn62, fn47, fn46, fn59, fn61, fn49, c_EzMake, EzMake_ans, c_EnDiv, EnDiv_ans, c_EnBits, EnBits_ans, c_EnOf, EnOf_ans, c_EnAdd, EnAdd_ans, c_EnSub, EnSub_ans, k1, k2, kd, kb, hb0, zav_cells, nav_one, nav_clean, zav_fold])
    | refine wp_condT rfl ?_ | refine wp_condF rfl ?_)
   simp (disch := omega) only [kS, Nat.reduceEqDiff, reduceIte, Nat.reduceLT, Nat.reduceLeDiff, Nat.reduceAdd, Nat.reduceSub, Nat.reduceMul, Nat.reducePow, Nat.reduceDiv, Nat.reduceMod, evIndexAddr, TD.agg, evFieldAddr, binA_eqB ty4, binA_neB ty4, ty3, ty4, ty23, ty56, ty66, ty68, ty80, ty92, fn62, fn47, fn46, fn59, fn61, fn49, c_EzMake, EzMake_ans, c_EnDiv, EnDiv_ans, c_EnBits, EnBits_ans, c_EnOf, EnOf_ans, c_EnAdd, EnAdd_ans, c_EnSub, EnSub_ans, zav_fold]
  ·rw [decide_eq_false hx] at k1
   repeat (first
    | refine wp_seqQ ?_ | refine wp_blockQ ?_ | refine wp_scopeQ ?_
    | ((first | refine wp_skipQ ?_ | refine wp_labelQ ?_ | refine wp_exitQ ?_ | refine wp_retQ ?_); simp only [kQ, Nat.reduceEqDiff, reduceIte])
    | ((first | refine wp_dreg B (id := 5) [0, 0, 3, 7, 15, 15, 31] (by kernel_rfl) ?_ | refine wp_dreg B (id := 7) [0, 1, 0, 4, 15, 0, 63, 0, 255, 511, 1023, 2047] (by kernel_rfl) ?_ | refine wp_reg B ?_); simp (disch := omega) only [kW, kG, Nat.reduceEqDiff, reduceIte, Nat.reduceLT, Nat.reduceLeDiff, Nat.reduceAdd, Nat.reduceSub, Nat.reduceMul, Nat.reducePow, Nat.reduceDiv, Nat.reduceMod, evIndexAddr, TD.agg, evFieldAddr, binA_eqB ty4, binA_neB ty4, ty3, ty4, ty23, ty56, ty66, ty68, ty80, ty92, fn62, fn47, fn46, fn59, fn61, fn49, c_EzMake, EzMake_ans, c_EnDiv, EnDiv_ans, c_EnBits, EnBits_ans, c_EnOf, EnOf_ans, c_EnAdd, EnAdd_ans, c_EnSub, EnSub_ans, k1, k2, kd, kb, zav_cells, nav_one, nav_clean, zav_fold])
    | refine wp_condT rfl ?_ | refine wp_condF rfl ?_)
   simp (disch := omega) only [kS, Nat.reduceEqDiff, reduceIte, Nat.reduceLT, Nat.reduceLeDiff, Nat.reduceAdd, Nat.reduceSub, Nat.reduceMul, Nat.reducePow, Nat.reduceDiv, Nat.reduceMod, evIndexAddr, TD.agg, evFieldAddr, binA_eqB ty4, binA_neB ty4, ty3, ty4, ty23, ty56, ty66, ty68, ty80, ty92, fn62, fn47, fn46, fn59, fn61, fn49, c_EzMake, EzMake_ans, c_EnDiv, EnDiv_ans, c_EnBits, EnBits_ans, c_EnOf, EnOf_ans, c_EnAdd, EnAdd_ans, c_EnSub, EnSub_ans, zav_fold]
 ·obtain ⟨e1, e2⟩ := q2 (by omega) (by omega)
  have hx : x < 0 := by omega
  have bq1 := Dg.bl_succ' q
  have k1 : ∀ h, EzMake.ans [.flat (.bool (!(decide (x < 0) == decide (y < 0)))), .agg [nav (q + 1)]] h = some (.ret (zav (x / y)), h) := fun h => by
   have := EzMake_ans (!(decide (x < 0) == decide (y < 0))) (q + 1) h (by omega)
   rwa [e1] at this
  have k2 : ∀ h, EzMake.ans [.flat (.bool false), .agg [nav (y.natAbs - r)]] h = some (.ret (zav (x % y)), h) := fun h => by
   have := EzMake_ans false (y.natAbs - r) h (by have := Dg.bl_mono' (show y.natAbs - r ≤ y.natAbs by omega); omega)
   rwa [if_neg (by simp), e2] at this
  have k3 : ∀ h, EnOf.ans [.flat (.int .u64 1)] h = some (.ret (.agg [nav 1]), h) := fun h => EnOf_ans 1 h (by omega)
  have k4 := fun h => EnAdd_ans q 1 h (by omega) (by have := Dg.bl_mono' (show 1 ≤ q + 1 by omega); omega) (by omega)
  have k5 := fun h => EnSub_ans y.natAbs r h (by omega) (by omega)
  have hb0 : bl r ≠ 0 := fun e => by have := b0.1 e; omega
  clear q1 q2 e1 e2
  rw [decide_eq_true hx] at k1
  repeat (first
   | refine wp_seqQ ?_ | refine wp_blockQ ?_ | refine wp_scopeQ ?_
   | ((first | refine wp_skipQ ?_ | refine wp_labelQ ?_ | refine wp_exitQ ?_ | refine wp_retQ ?_); simp only [kQ, Nat.reduceEqDiff, reduceIte])
   | ((first | refine wp_dreg B (id := 5) [0, 0, 3, 7, 15, 15, 31] (by kernel_rfl) ?_ | refine wp_dreg B (id := 7) [0, 1, 0, 4, 15, 0, 63, 0, 255, 511, 1023, 2047] (by kernel_rfl) ?_ | refine wp_reg B ?_); simp (disch := omega) only [kW, kG, Nat.reduceEqDiff, reduceIte, Nat.reduceLT, Nat.reduceLeDiff, Nat.reduceAdd, Nat.reduceSub, Nat.reduceMul, Nat.reducePow, Nat.reduceDiv, Nat.reduceMod, evIndexAddr, TD.agg, evFieldAddr, binA_eqB ty4, binA_neB ty4, ty3, ty4, ty23, ty56, ty66, ty68, ty80, ty92, fn62, fn47, fn46, fn59, fn61, fn49, c_EzMake, EzMake_ans, c_EnDiv, EnDiv_ans, c_EnBits, EnBits_ans, c_EnOf, EnOf_ans, c_EnAdd, EnAdd_ans, c_EnSub, EnSub_ans, k1, k2, k3, k4, k5, kd, kb, zav_cells, nav_one, nav_clean, zav_fold])
   | refine wp_condT rfl ?_ | refine wp_condF rfl ?_)
  simp (disch := omega) only [kS, Nat.reduceEqDiff, reduceIte, Nat.reduceLT, Nat.reduceLeDiff, Nat.reduceAdd, Nat.reduceSub, Nat.reduceMul, Nat.reducePow, Nat.reduceDiv, Nat.reduceMod, evIndexAddr, TD.agg, evFieldAddr, binA_eqB ty4, binA_neB ty4, ty3, ty4, ty23, ty56, ty66, ty68, ty80, ty92, fn62, fn47, fn46, fn59, fn61, fn49, c_EzMake, EzMake_ans, c_EnDiv, EnDiv_ans, c_EnBits, EnBits_ans, c_EnOf, EnOf_ans, c_EnAdd, EnAdd_ans, c_EnSub, EnSub_ans, zav_fold]
noncomputable def EzQuo : Entry Try.prog := ⟨52, fun args h e h' => h' = h ∧ ∃ (x y : Int), args = [zav x, zav y] ∧ (bl x.natAbs ≤ 4000) ∧ (bl y.natAbs ≤ 4000) ∧ (y ≠ 0) ∧ e = .ret (.tuple [zav (x / y), zav (x % y), .flat (.int .i64 0)]), by
 rintro args h e h' ⟨rfl, x, y, rfl, h1, h2, h3, rfl⟩
 exact ⟨zQuo_sem x y h1 h2 h3 _, Hp.Le.refl _⟩⟩
theorem EzQuo_ans (x y : Int) (h : Hp) (h1 : bl x.natAbs ≤ 4000) (h2 : bl y.natAbs ≤ 4000) (h3 : y ≠ 0) : EzQuo.ans [zav x, zav y] h = some (.ret (.tuple [zav (x / y), zav (x % y), .flat (.int .i64 0)]), h) :=
 Entry.one ⟨rfl, x, y, rfl, h1, h2, h3, rfl⟩ fun e h' ⟨hh, x', y', ha, _, _, _, he⟩ => by simp only [kI, nav_eq, zav_eq] at ha; obtain ⟨rfl, rfl⟩ := ha; exact ⟨he, hh⟩
theorem zExact_sem (x y : Int) (lx : bl x.natAbs ≤ 4000) (ly : bl y.natAbs ≤ 4000) (y0 : y ≠ 0) (dv : x % y = 0) (h : Hp) : SemCall Try.prog 43 [zav x, zav y] h (.ret (.tuple [zav (x / y), .flat (.int .i64 0)])) h := by
 refine sem_pure tables.ok Try.func43 rfl rfl rfl rfl (by simp [pureL, zav_pure]) (by simp [AV.pure, pureL, zav_pure]) ?_ h
 have B : Base Try.prog tab _ := tabL_base [EzQuo, EzSign] tables.ok mixed
 generalize hL : tabL [EzQuo, EzSign] = call at B
 have c_EzQuo : ∀ a h, call 52 a h = EzQuo.ans a h := fun _ _ => hL ▸ rfl
 have c_EzSign : ∀ a h, call 40 a h = EzSign.ans a h := fun _ _ => hL ▸ rfl
 clear hL
 have k1 := fun h => EzQuo_ans x y h lx ly y0
 rw [dv] at k1
 have k2 : ∀ h, EzSign.ans [zav 0] h = some (.ret (.flat (.int .i64 0)), h) := fun h => by
  have := EzSign_ans 0 h (by have := Dg.bl_zero.2 (show (0 : Int).natAbs = 0 from rfl); omega)
  rwa [if_neg (by omega), if_pos rfl] at this
 unfold Try.f43 bodyOf entry; simp only [Option.getD_some, List.length_cons, List.length_nil, Nat.reduceAdd, Nat.reduceSub]
 repeat (first
  | refine wp_seqQ ?_ | refine wp_blockQ ?_ | refine wp_scopeQ ?_
  | ((first | refine wp_skipQ ?_ | refine wp_labelQ ?_ | refine wp_exitQ ?_ | refine wp_retQ ?_); simp only [kQ, Nat.reduceEqDiff, reduceIte])
  | (refine wp_reg B ?_; simp (disch := omega) only [kW, Nat.reduceEqDiff, reduceIte, Nat.reduceLT, Nat.reduceLeDiff, Nat.reduceAdd, Nat.reduceSub, Nat.reduceMul, Nat.reducePow, Nat.reduceDiv, Nat.reduceMod, evIndexAddr, TD.agg, evFieldAddr, binA_eqB ty4, binA_neB ty4, ty3, ty4, ty23, ty56, ty66, ty68, ty92, fn52, fn40, c_EzQuo, EzQuo_ans, c_EzSign, EzSign_ans, k1, k2, zav_cells, nav_one, nav_clean, zav_fold])
  | refine wp_condT rfl ?_ | refine wp_condF rfl ?_)
 simp (disch := omega) only [kS, Nat.reduceEqDiff, reduceIte, Nat.reduceLT, Nat.reduceLeDiff, Nat.reduceAdd, Nat.reduceSub, Nat.reduceMul, Nat.reducePow, Nat.reduceDiv, Nat.reduceMod, evIndexAddr, TD.agg, evFieldAddr, binA_eqB ty4, binA_neB ty4, ty3, ty4, ty23, ty56, ty66, ty68, ty92, fn52, fn40, c_EzQuo, EzQuo_ans, c_EzSign, EzSign_ans, zav_fold]
noncomputable def EzExact : Entry Try.prog := ⟨43, fun args h e h' => h' = h ∧ ∃ (x y : Int), args = [zav x, zav y] ∧ (bl x.natAbs ≤ 4000) ∧ (bl y.natAbs ≤ 4000) ∧ (y ≠ 0) ∧ (x % y = 0) ∧ e = .ret (.tuple [zav (x / y), .flat (.int .i64 0)]), by
 rintro args h e h' ⟨rfl, x, y, rfl, h1, h2, h3, h4, rfl⟩
 exact ⟨zExact_sem x y h1 h2 h3 h4 _, Hp.Le.refl _⟩⟩
theorem EzExact_ans (x y : Int) (h : Hp) (h1 : bl x.natAbs ≤ 4000) (h2 : bl y.natAbs ≤ 4000) (h3 : y ≠ 0) (h4 : x % y = 0) : EzExact.ans [zav x, zav y] h = some (.ret (.tuple [zav (x / y), .flat (.int .i64 0)]), h) :=
 Entry.one ⟨rfl, x, y, rfl, h1, h2, h3, h4, rfl⟩ fun e h' ⟨hh, x', y', ha, _, _, _, _, he⟩ => by simp only [kI, nav_eq, zav_eq] at ha; obtain ⟨rfl, rfl⟩ := ha; exact ⟨he, hh⟩
end Go.Proofs.Ytllocgmbjjoemaa.Iv
end
section
set_option linter.unusedVariables false
set_option linter.unusedSimpArgs false
namespace Dt
def skip (i r : Nat) : Nat := if r < i then r else r + 1
def sum : Nat → (Nat → Int) → Int
 | 0, _ => 0
 | n + 1, f => sum n f + f n
def sgn (k : Nat) : Int := if k % 2 = 0 then 1 else -1
def det : Nat → (Nat → Nat → Int) → Int
 | 0, _ => 1
 | n + 1, A => sum (n + 1) fun i => sgn (n + i) * (A i n * det n fun r c => A (skip i r) c)
theorem sum_congr : ∀ {n : Nat} {f g : Nat → Int}, (∀ i, i < n → f i = g i) → sum n f = sum n g
 | 0, _, _, _ => rfl
 | n + 1, f, g, h => by rw [sum, sum, sum_congr fun i hi => h i (by omega), h n (by omega)]
theorem sum_add : ∀ (n : Nat) (f g : Nat → Int), sum n (fun i => f i + g i) = sum n f + sum n g
 | 0, _, _ => rfl
 | n + 1, f, g => by simp only [sum]; rw [sum_add n f g]; omega
theorem sum_mul (c : Int) : ∀ (n : Nat) (f : Nat → Int), sum n (fun i => c * f i) = c * sum n f
 | 0, _ => by simp [sum]
 | n + 1, f => by simp only [sum]; rw [sum_mul c n f, Int.mul_add]
theorem sum_zero : ∀ (n : Nat) (f : Nat → Int), (∀ i, i < n → f i = 0) → sum n f = 0
 | 0, _, _ => rfl
 | n + 1, f, h => by rw [sum, sum_zero n f fun i hi => h i (by omega), h n (by omega)]; rfl
theorem sum_one : ∀ (n : Nat) (f : Nat → Int) (t : Nat), t < n → (∀ i, i < n → i ≠ t → f i = 0) → sum n f = f t
 | 0, _, t, h, _ => by omega
 | n + 1, f, t, h, k => by
  rw [sum]
  by_cases e : t = n
  ·subst e; rw [sum_zero t f fun i hi => k i (by omega) (by omega)]; omega
  ·rw [sum_one n f t (by omega) fun i hi hn => k i (by omega) hn, k n (by omega) (by omega)]; omega
theorem sum_two : ∀ (n : Nat) (f : Nat → Int) (s t : Nat), s < t → t < n → (∀ i, i < n → i ≠ s → i ≠ t → f i = 0) → sum n f = f s + f t
 | 0, _, s, t, _, h, _ => by omega
 | n + 1, f, s, t, hs, h, k => by
  rw [sum]
  by_cases e : t = n
  ·subst e; rw [sum_one t f s hs fun i hi hn => k i (by omega) hn (by omega)]
  ·rw [sum_two n f s t hs (by omega) fun i hi h1 h2 => k i (by omega) h1 h2, k n (by omega) (by omega) (by omega)]; omega
theorem sgn_succ (k : Nat) : sgn (k + 1) = - sgn k := by
 unfold sgn
 split <;> split <;> omega
theorem sgn_two (n : Nat) : sgn (n + n) = 1 := by
 unfold sgn
 rw [if_pos (by omega)]
theorem det_congr : ∀ {n : Nat} {A B : Nat → Nat → Int}, (∀ i j, i < n → j < n → A i j = B i j) → det n A = det n B
 | 0, _, _, _ => rfl
 | n + 1, A, B, h => by
  rw [det, det]
  refine sum_congr fun i hi => ?_
  rw [h i n hi (by omega), det_congr fun r c hr hc => h _ _ (by unfold skip; split <;> omega) (by omega)]
def put (A : Nat → Nat → Int) (t : Nat) (v : Nat → Int) : Nat → Nat → Int := fun i j => if i = t then v j else A i j
theorem put_skip_same (A : Nat → Nat → Int) (t : Nat) (v : Nat → Int) : (fun r c => put A t v (skip t r) c) = fun r c => A (skip t r) c := by
 funext r c
 unfold put skip
 split
 ·rw [if_neg (by omega)]
 ·rw [if_neg (by omega)]
def low (i t : Nat) : Nat := if t < i then t else t - 1
theorem skip_low {i t r : Nat} (h : i ≠ t) : skip i r = t ↔ r = low i t := by
 unfold skip low
 split <;> split <;> omega
theorem put_skip (A : Nat → Nat → Int) {i t : Nat} (h : i ≠ t) (v : Nat → Int) : (fun r c => put A t v (skip i r) c) = put (fun r c => A (skip i r) c) (low i t) v := by
 funext r c
 unfold put
 by_cases e : skip i r = t
 ·rw [if_pos e, if_pos ((skip_low h).1 e)]
 ·rw [if_neg e, if_neg fun k => e ((skip_low h).2 k)]
theorem low_lt {i t n : Nat} (h : i ≠ t) (hi : i < n + 1) (ht : t < n + 1) : low i t < n := by
 unfold low
 split <;> omega
theorem det_lin : ∀ (n : Nat) (A : Nat → Nat → Int) (t : Nat) (u v : Nat → Int) (a b : Int), t < n → det n (put A t fun j => a * u j + b * v j) = a * det n (put A t u) + b * det n (put A t v)
 | 0, _, _, _, _, _, _, h => by omega
 | n + 1, A, t, u, v, a, b, h => by
  simp only [det]
  rw [← sum_mul, ← sum_mul, ← sum_add]
  refine sum_congr fun i hi => ?_
  by_cases e : i = t
  ·subst e
   simp only [put_skip_same]
   simp only [put, if_true]
   generalize det n _ = d
   rw [Int.add_mul, Int.mul_add, Int.mul_assoc, Int.mul_assoc, Int.mul_left_comm (sgn _) a, Int.mul_left_comm (sgn _) b]
  ·simp only [put_skip A e]
   rw [det_lin n _ _ u v a b (low_lt e hi h)]
   have e1 : ∀ w, put A t w i n = A i n := fun w => by unfold put; rw [if_neg e]
   simp only [e1]
   generalize det n (put _ _ u) = x
   generalize det n (put _ _ v) = y
   rw [Int.mul_add, Int.mul_add, Int.mul_left_comm (A i n) a, Int.mul_left_comm (A i n) b, Int.mul_left_comm (sgn _) a, Int.mul_left_comm (sgn _) b]
theorem put_self (A : Nat → Nat → Int) (t : Nat) : put A t (A t) = A := by
 funext i j
 unfold put
 split
 ·rename_i e; rw [e]
 ·rfl
theorem det_nought {n : Nat} {A : Nat → Nat → Int} {t : Nat} (h : t < n) (hz : ∀ j, j < n → A t j = 0) : det n A = 0 := by
 have e : det n A = det n (put A t fun j => 0 * A t j + 0 * A t j) := det_congr fun i j hi hj => by
  unfold put
  split
  ·rename_i e; simp only [e, hz j hj]; omega
  ·rfl
 rw [e, det_lin n A t _ _ 0 0 h]
 omega
theorem det_twin1 : ∀ (n : Nat) (A : Nat → Nat → Int) (t : Nat), t + 1 < n → (∀ j, j < n → A t j = A (t + 1) j) → det n A = 0
 | 0, _, _, h, _ => by omega
 | n + 1, A, t, h, k => by
  rw [det, sum_two (n + 1) _ t (t + 1) (by omega) h]
  ·have e : det n (fun r c => A (skip t r) c) = det n fun r c => A (skip (t + 1) r) c := det_congr fun i j hi hj => by
     unfold skip
     by_cases h1 : i < t
     ·rw [if_pos h1, if_pos (by omega)]
     ·rw [if_neg h1]
      by_cases h2 : i = t
      ·subst h2; rw [if_pos (by omega)]; exact (k j (by omega)).symm
      ·rw [if_neg (by omega)]
   rw [e, k n (by omega), ← Nat.add_assoc, sgn_succ, Int.neg_mul]
   omega
  ·intro i hi h1 h2
   have hz : det n (fun r c => A (skip i r) c) = 0 := by
    rcases Nat.lt_or_ge i t with h3 | h3
    ·refine det_twin1 n _ (t - 1) (by omega) fun j hj => ?_
     rw [show skip i (t - 1) = t by unfold skip; rw [if_neg (by omega)]; omega, show skip i (t - 1 + 1) = t + 1 by unfold skip; rw [if_neg (by omega)]; omega]
     exact k j (by omega)
    ·refine det_twin1 n _ t (by omega) fun j hj => ?_
     rw [show skip i t = t by unfold skip; rw [if_pos (by omega)], show skip i (t + 1) = t + 1 by unfold skip; rw [if_pos (by omega)]]
     exact k j (by omega)
   rw [hz]; omega
theorem put_put_ne (A : Nat → Nat → Int) {s t : Nat} (h : s ≠ t) (u v : Nat → Int) : put (put A s u) t v = put (put A t v) s u := by
 funext i j
 unfold put
 by_cases h1 : i = t
 ·rw [if_pos h1, if_neg (by omega), if_pos h1]
 ·rw [if_neg h1]
  by_cases h2 : i = s
  ·rw [if_pos h2, if_pos h2]
  ·rw [if_neg h2, if_neg h2, if_neg h1]
theorem det_twinP (n : Nat) (A : Nat → Nat → Int) (t : Nat) (h : t + 1 < n) (u : Nat → Int) : det n (put (put A t u) (t + 1) u) = 0 := by
 refine det_twin1 n _ t h fun j _ => ?_
 unfold put
 rw [if_neg (by omega), if_pos rfl, if_pos rfl]
theorem lin11 (u v : Nat → Int) : (fun j => u j + v j) = fun j => 1 * u j + 1 * v j := by funext j; omega
theorem det_swap1 (n : Nat) (A : Nat → Nat → Int) (t : Nat) (h : t + 1 < n) (u v : Nat → Int) : det n (put (put A t u) (t + 1) v) = - det n (put (put A t v) (t + 1) u) := by
 have h0 := det_twinP n A t h fun j => u j + v j
 have e : ∀ w, det n (put (put A t fun j => 1 * u j + 1 * v j) (t + 1) w) = det n (put (put A t u) (t + 1) w) + det n (put (put A t v) (t + 1) w) := fun w => by
  have ne : t ≠ t + 1 := by omega
  rw [put_put_ne A ne, det_lin n _ t u v 1 1 (by omega), ← put_put_ne A ne u w, ← put_put_ne A ne v w]
  omega
 rw [lin11, det_lin n _ (t + 1) u v 1 1 h, e, e, det_twinP n A t h u, det_twinP n A t h v] at h0
 omega
theorem det_twin : ∀ (d n : Nat) (A : Nat → Nat → Int) (s : Nat), s + d + 1 < n → (∀ j, j < n → A s j = A (s + d + 1) j) → det n A = 0
 | 0, n, A, s, h, k => det_twin1 n A s h k
 | d + 1, n, A, s, h, k => by
  have e : det n A = det n (put (put A (s + d + 1) (A (s + d + 1))) (s + d + 1 + 1) (A (s + d + 1 + 1))) := by rw [put_self, put_self]
  rw [e, det_swap1 n A (s + d + 1) h]
  have z : det n (put (put A (s + d + 1) (A (s + d + 1 + 1))) (s + d + 1 + 1) (A (s + d + 1))) = 0 := det_twin d n _ s (by omega) fun j hj => by
   unfold put
   rw [if_neg (by omega), if_neg (by omega), if_neg (by omega), if_pos rfl]
   exact k j hj
  omega
theorem det_row {n : Nat} (A : Nat → Nat → Int) {s t : Nat} (hs : s < t) (ht : t < n) (a b : Int) (u : Nat → Int) : det n (put A t fun j => a * u j + b * A s j) = a * det n (put A t u) := by
 rw [det_lin n A t u (A s) a b ht]
 have z : det n (put A t (A s)) = 0 := by
  obtain ⟨d, rfl⟩ : ∃ d, t = s + d + 1 := ⟨t - s - 1, by omega⟩
  refine det_twin d n _ s ht fun j _ => ?_
  unfold put
  rw [if_neg (by omega), if_pos rfl]
 rw [z]; omega
def prod : Nat → (Nat → Int) → Int
 | 0, _ => 1
 | n + 1, f => prod n f * f n
theorem prod_congr : ∀ {n : Nat} {f g : Nat → Int}, (∀ i, i < n → f i = g i) → prod n f = prod n g
 | 0, _, _, _ => rfl
 | n + 1, f, g, h => by rw [prod, prod, prod_congr fun i hi => h i (by omega), h n (by omega)]
theorem det_tri : ∀ (n : Nat) (A : Nat → Nat → Int), (∀ i j, j < i → i < n → A i j = 0) → det n A = prod n fun i => A i i
 | 0, _, _ => rfl
 | n + 1, A, h => by
  rw [det, sum_one (n + 1) _ n (by omega)]
  ·rw [sgn_two, Int.one_mul, prod, Int.mul_comm]
   congr 1
   have e : det n (fun r c => A (skip n r) c) = det n A := det_congr fun i j hi hj => by unfold skip; rw [if_pos hi]
   rw [e, det_tri n A fun i j hj hi => h i j hj (by omega)]
  ·intro i hi hn
   have z : det n (fun r c => A (skip i r) c) = 0 := by
    refine det_nought (t := n - 1) (by omega) fun j hj => ?_
    rw [show skip i (n - 1) = n by unfold skip; rw [if_neg (by omega)]; omega]
    exact h n j hj (by omega)
   rw [z]; omega
def sel (r i x : Nat) : Nat := if x < r then x else i
def mi (A : Nat → Nat → Int) (r i k : Nat) : Int := det (r + 1) fun x y => A (sel r i x) (sel r k y)
theorem mi_zero (A : Nat → Nat → Int) (i k : Nat) : mi A 0 i k = A i k := by
 simp [mi, det, sum, sel, sgn]
theorem mi_lead (A : Nat → Nat → Int) (r : Nat) : mi A r r r = det (r + 1) A := det_congr fun i j hi hj => by
 rw [show sel r r i = i by unfold sel; split <;> omega, show sel r r j = j by unfold sel; split <;> omega]
theorem prod_shift (D : Nat → Int) : ∀ n, prod (n + 1) D = D 0 * prod n fun s => D (s + 1)
 | 0 => by simp [prod]
 | n + 1 => by rw [prod, prod_shift D n, prod, Int.mul_assoc]
theorem prod_ne : ∀ {n : Nat} {D : Nat → Int}, (∀ s, s < n → D s ≠ 0) → prod n D ≠ 0
 | 0, _, _ => by simp [prod]
 | n + 1, D, h => by
  rw [prod]
  exact Int.mul_ne_zero (prod_ne fun s hs => h s (by omega)) (h n (by omega))
def piv (A : Nat → Nat → Int) (X : Nat → Nat → Int) (w : Nat → Nat) (j : Nat) : Nat → Nat → Int := fun x y => if x < j then mi A x x (w y) else X x y
theorem chain {A : Nat → Nat → Int} {n : Nat} (Y : Nat → Nat → Int) (w : Nat → Nat) (j t i : Nat) (ht : t < n) (hj : j ≤ t) (hD : ∀ s, s ≤ j → det s A ≠ 0) (hY : ∀ s, s < j → ∀ y, Y s y = mi A s s (w y)) (h0 : ∀ y, Y t y = A i (w y))
    (syl : ∀ s, s < j → ∀ i k, det s A * mi A (s + 1) i k = det (s + 1) A * mi A s i k - mi A s i s * mi A s s k) :
    ∀ s, s ≤ j → det n (put Y t fun y => mi A s i (w y)) = det s A * det n Y
 | 0, _ => by
  rw [show (fun y => mi A 0 i (w y)) = Y t by funext y; rw [mi_zero, h0], put_self]
  simp [det]
 | s + 1, hs => by
  have ih := chain Y w j t i ht hj hD hY h0 syl s (by omega)
  have e1 : det n (put Y t fun y => det (s + 1) A * mi A s i (w y) + (- mi A s i s) * Y s y) = det (s + 1) A * det n (put Y t fun y => mi A s i (w y)) := det_row Y (by omega) ht _ _ _
  have e2 : (fun y => det (s + 1) A * mi A s i (w y) + (- mi A s i s) * Y s y) = fun y => det s A * mi A (s + 1) i (w y) + 0 * Y t y := by
   funext y
   rw [syl s (by omega) i (w y), hY s (by omega), Int.neg_mul]
   omega
  rw [e2, det_lin n Y t _ _ _ _ ht, ih] at e1
  have hne := hD s (by omega)
  refine Int.eq_of_mul_eq_mul_left hne ?_
  rw [Int.zero_mul, Int.add_zero] at e1
  rw [e1, Int.mul_left_comm]
structure Syl (A : Nat → Nat → Int) (r : Nat) : Prop where
 step : ∀ i k, det r A * mi A (r + 1) i k = det (r + 1) A * mi A r i k - mi A r i r * mi A r r k
theorem zeros {A : Nat → Nat → Int} : ∀ (r : Nat), (∀ s, s ≤ r → det s A ≠ 0) → (∀ s, s < r → Syl A s) → ∀ i y, y < r → mi A r i y = 0
 | 0, _, _, _, _, h => by omega
 | r + 1, hD, hS, i, y, hy => by
  have e := (hS r (by omega)).step i y
  have z : det (r + 1) A * mi A r i y - mi A r i r * mi A r r y = 0 := by
   by_cases h : y < r
   ·rw [zeros r (fun s hs => hD s (by omega)) (fun s hs => hS s (by omega)) i y h, zeros r (fun s hs => hD s (by omega)) (fun s hs => hS s (by omega)) r y h]; omega
   ·obtain rfl : y = r := by omega
    rw [mi_lead, Int.mul_comm]; omega
  rw [z] at e
  rcases Int.mul_eq_zero.1 e with h | h
  ·exact absurd h (hD r (by omega))
  ·exact h
theorem syl {A : Nat → Nat → Int} : ∀ (r : Nat), (∀ s, s ≤ r + 1 → det s A ≠ 0) → Syl A r := by
 intro r
 induction r using Nat.strongRecOn with
 | _ r ih =>
  intro hD
  have hS : ∀ s, s < r → Syl A s := fun s hs => ih s hs fun x hx => hD x (by omega)
  refine ⟨fun i k => ?_⟩
  obtain ⟨w, hw⟩ : ∃ w, w = sel (r + 1) k := ⟨_, rfl⟩
  obtain ⟨X, hX⟩ : ∃ X : Nat → Nat → Int, X = fun x y => A (sel (r + 1) i x) (w y) := ⟨_, rfl⟩
  have h0 : mi A (r + 1) i k = det (r + 2) X := by rw [hX, hw]; rfl
  have hP : ∀ j, j ≤ r + 1 → det (r + 2) (piv A X w j) = (prod j fun s => det s A) * det (r + 2) X := by
   intro j
   induction j with
   | zero =>
    intro _
    rw [prod, Int.one_mul]
    exact det_congr fun x y _ _ => by unfold piv; rw [if_neg (by omega)]
   | succ j ihj =>
    intro hj
    have e : det (r + 2) (piv A X w (j + 1)) = det (r + 2) (put (piv A X w j) j fun y => mi A j j (w y)) := det_congr fun x y _ _ => by
     unfold put piv
     by_cases h1 : x = j
     ·subst h1; rw [if_pos (by omega), if_pos rfl]
     ·rw [if_neg h1]
      by_cases h2 : x < j
      ·rw [if_pos (by omega), if_pos h2]
      ·rw [if_neg (by omega), if_neg h2]
    rw [e, chain (piv A X w j) w j j j (by omega) (by omega) (fun s hs => hD s (by omega)) (fun s hs y => by unfold piv; rw [if_pos hs]) (fun y => by unfold piv; rw [if_neg (by omega), hX]; simp only [sel]; rw [if_pos (by omega)])
     (fun s hs => (hS s (by omega)).step) j (by omega), ihj (by omega), prod, ← Int.mul_assoc, Int.mul_comm (det j A)]
  obtain ⟨Y, hY⟩ : ∃ Y, Y = piv A X w (r + 1) := ⟨_, rfl⟩
  have hYs : ∀ s, s < r + 1 → ∀ y, Y s y = mi A s s (w y) := fun s hs y => by rw [hY]; unfold piv; rw [if_pos hs]
  have hYt : ∀ y, Y (r + 1) y = A i (w y) := fun y => by rw [hY]; unfold piv; rw [if_neg (by omega), hX]; simp only [sel]; rw [if_neg (by omega)]
  have hL : det (r + 2) (put Y (r + 1) fun y => mi A r i (w y)) = det r A * det (r + 2) Y :=
   chain Y w r (r + 1) i (by omega) (by omega) (fun s hs => hD s (by omega)) (fun s hs y => hYs s (by omega) y) hYt (fun s hs => (hS s hs).step) r (by omega)
  have hV : det (r + 2) (put Y (r + 1) fun y => det (r + 1) A * mi A r i (w y) + (- mi A r i r) * Y r y) = det (r + 1) A * det (r + 2) (put Y (r + 1) fun y => mi A r i (w y)) := det_row Y (by omega) (by omega) _ _ _
  rw [hL] at hV
  have wl : ∀ y, y < r + 1 → w y = y := fun y hy => by rw [hw]; unfold sel; rw [if_pos hy]
  have wk : w (r + 1) = k := by rw [hw]; unfold sel; rw [if_neg (by omega)]
  have hz := fun x (hx : x ≤ r) => zeros (A := A) x (fun s hs => hD s (by omega)) (fun s hs => hS s (by omega))
  have hT := det_tri (r + 2) (put Y (r + 1) fun y => det (r + 1) A * mi A r i (w y) + (- mi A r i r) * Y r y) fun x y hy hx => by
   unfold put
   split
   ·rename_i e
    subst e
    show det (r + 1) A * mi A r i (w y) + (- mi A r i r) * Y r y = 0
    rw [hYs r (by omega), wl y (by omega)]
    by_cases h : y < r
    ·rw [hz r (by omega) i y h, hz r (by omega) r y h]; omega
    ·obtain rfl : y = r := by omega
     rw [mi_lead, Int.neg_mul, Int.mul_comm]; omega
   ·rename_i e
    rw [hYs x (by omega), wl y (by omega)]
    exact hz x (by omega) x y hy
  rw [hV, prod] at hT
  have e3 : prod (r + 1) (fun i_1 => put Y (r + 1) (fun y => det (r + 1) A * mi A r i (w y) + -mi A r i r * Y r y) i_1 i_1) = prod (r + 1) fun s => det (s + 1) A := prod_congr fun s hs => by
   unfold put
   rw [if_neg (by omega), hYs s hs, wl s hs, mi_lead]
  rw [e3] at hT
  have e4 := prod_shift (fun s => det s A) (r + 1)
  simp only [show det 0 A = 1 from rfl, Int.one_mul] at e4
  rw [← e4, prod, hY, hP (r + 1) (by omega)] at hT
  rw [show put (piv A X w (r + 1)) (r + 1) (fun y => det (r + 1) A * mi A r i (w y) + -mi A r i r * piv A X w (r + 1) r y) (r + 1) (r + 1) = det (r + 1) A * mi A r i k - mi A r i r * mi A r r k by
   unfold put piv
   rw [if_pos rfl]
   show det (r + 1) A * mi A r i (w (r + 1)) + -mi A r i r * (if r < r + 1 then mi A r r (w (r + 1)) else X r (r + 1)) = _
   rw [if_pos (by omega), wk, Int.neg_mul]; omega] at hT
  have hne : prod (r + 1) (fun s => det s A) * det (r + 1) A ≠ 0 := Int.mul_ne_zero (prod_ne fun s hs => hD s (by omega)) (hD _ (by omega))
  refine Int.eq_of_mul_eq_mul_left hne ?_
  rw [← hT, h0]
  generalize prod (r + 1) _ = p
  generalize det (r + 1) A = d
  generalize det r A = e
  generalize det (r + 2) X = x
  rw [Int.mul_comm p d, Int.mul_assoc d p, Int.mul_left_comm p e]
end Dt
end
section
set_option linter.unusedVariables false
set_option linter.unusedSimpArgs false
namespace El
open Dt
def fac : Nat → Nat
 | 0 => 1
 | n + 1 => (n + 1) * fac n
theorem sum_le {n : Nat} {f : Nat → Int} {b : Nat} (h : ∀ i, i < n → (f i).natAbs ≤ b) : (sum n f).natAbs ≤ n * b := by
 induction n with
 | zero => simp [sum]
 | succ n ih =>
  rw [sum, Nat.succ_mul]
  have h1 := ih fun i hi => h i (by omega)
  have h2 := h n (by omega)
  have h3 := Int.natAbs_add_le (sum n f) (f n)
  omega
theorem sgn_abs (k : Nat) : (sgn k).natAbs = 1 := by unfold sgn; split <;> rfl
theorem det_le {M : Nat} : ∀ (n : Nat) (A : Nat → Nat → Int), (∀ i j, i < n → j < n → (A i j).natAbs ≤ M) → (det n A).natAbs ≤ fac n * M ^ n
 | 0, _, _ => by simp [det, fac]
 | n + 1, A, h => by
  rw [det, fac, Nat.pow_succ]
  have : (n + 1) * fac n * (M ^ n * M) = (n + 1) * (M * (fac n * M ^ n)) := by
   rw [Nat.mul_assoc, ← Nat.mul_assoc (fac n), Nat.mul_comm (fac n * M ^ n) M]
  rw [this]
  refine sum_le fun i hi => ?_
  rw [Int.natAbs_mul, sgn_abs, Nat.one_mul, Int.natAbs_mul]
  refine Nat.mul_le_mul (h i n hi (by omega)) (det_le n _ fun r c hr hc => h _ _ (by unfold skip; split <;> omega) (by omega))
abbrev Mx := Nat → Nat → Int
def swap (m : Mx) (p r : Nat) : Mx := fun i => if i = r then m p else if i = p then m r else m i
def down (m : Mx) (last : Int) (r j : Nat) : Mx := fun i k => if r < i ∧ j < k then (m r j * m i k - m i j * m r k) / last else if r < i ∧ k = j then 0 else m i k
def at_ (A : Mx) (σ c : Nat → Nat) (r : Nat) : Mx := fun x y => A (σ x) (if y < r then c y else y)
structure Inv (A : Mx) (rows : Nat) (j r : Nat) (m : Mx) (last : Int) (σ c : Nat → Nat) : Prop where
 rj : r ≤ j
 ne : ∀ s, s ≤ r → det s (at_ A σ c r) ≠ 0
 last : last = det r (at_ A σ c r)
 val : ∀ i k, r ≤ i → j ≤ k → m i k = mi (at_ A σ c r) r i k
 row : ∀ x, x < rows → σ x < rows
 col : ∀ y, y < r → c y < j
theorem Inv.over {A : Mx} {rows j r : Nat} {m : Mx} {last : Int} {σ c : Nat → Nat} (h : Inv A rows j r m last σ c) : Inv A rows (j + 1) r m last σ c :=
 ⟨by have := h.rj; omega, h.ne, h.last, fun i k hi hk => h.val i k hi (by omega), h.row, fun y hy => by have := h.col y hy; omega⟩
theorem Inv.le {A : Mx} {rows cols j r : Nat} {m : Mx} {last : Int} {σ c : Nat → Nat} (h : Inv A rows j r m last σ c) {M : Nat} (hM : ∀ x y, x < rows → y < cols → (A x y).natAbs ≤ M) {i k : Nat} (hi : r ≤ i) (hk : j ≤ k) (hi' : i < rows) (hk' : k < cols) :
    (m i k).natAbs ≤ fac (r + 1) * M ^ (r + 1) := by
 rw [h.val i k hi hk]
 refine det_le _ _ fun x y hx hy => ?_
 unfold at_
 have hj := h.rj
 refine hM _ _ (h.row _ (by unfold sel; split <;> omega)) ?_
 by_cases h1 : y < r
 ·rw [show sel r k y = y by unfold sel; rw [if_pos h1], if_pos h1]
  have := h.col y h1
  omega
 ·rw [show sel r k y = k by unfold sel; rw [if_neg h1], if_neg (show ¬ k < r by omega)]
  exact hk'
end El
end
section
set_option linter.unusedVariables false
set_option linter.unusedSimpArgs false
namespace El
open Dt
structure Es where
 m : Mx
 last : Int
 neg : Bool
 r : Nat
def pv (m : Mx) (rows j : Nat) : Nat → Nat → Nat
 | 0, p => p
 | f + 1, p => if p < rows ∧ m p j = 0 then pv m rows j f (p + 1) else p
def stepE (rows : Nat) (s : Es) (j : Nat) : Es :=
 if s.r < rows then
  if pv s.m rows j rows s.r = rows then s
  else ⟨down (swap s.m (pv s.m rows j rows s.r) s.r) s.last s.r j, swap s.m (pv s.m rows j rows s.r) s.r s.r j, if pv s.m rows j rows s.r = s.r then s.neg else !s.neg, s.r + 1⟩
 else s
def runE (rows : Nat) (A : Mx) : Nat → Es
 | 0 => ⟨A, 1, false, 0⟩
 | j + 1 => stepE rows (runE rows A j) j
def Es.det (rows : Nat) (s : Es) : Int := if s.r < rows then 0 else if s.neg = true then -s.last else s.last
def elim (rows cols : Nat) (A : Mx) : Int := (runE rows A cols).det rows
end El
end
section
set_option linter.unusedVariables false
namespace Ml
variable {α : Type}
def At (L : List α) (k : Nat) (p q : α) : Prop := (L.drop (k * 2)).take 2 = [p, q]
theorem at_iff {L : List α} {k : Nat} {p q : α} : At L k p q ↔ L[k * 2]? = some p ∧ L[k * 2 + 1]? = some q := by
 unfold At
 have e : ∀ (M : List α), M.take 2 = [p, q] ↔ M[0]? = some p ∧ M[1]? = some q := by
  intro M
  cases M with
  | nil => simp
  | cons a M => cases M with
   | nil => simp
   | cons b M => simp
 rw [e, List.getElem?_drop, List.getElem?_drop, Nat.add_zero]
theorem At.set {L : List α} {k : Nat} (h : k * 2 + 1 < L.length) (p q : α) : At ((L.set (k * 2) p).set (k * 2 + 1) q) k p q := by
 rw [at_iff]
 constructor
 ·rw [List.getElem?_set_ne (by omega), List.getElem?_set_self (by omega)]
 ·rw [List.getElem?_set_self (by simpa using h)]
theorem At.other {L : List α} {j k : Nat} (hn : j ≠ k) {p q : α} (h : At L j p q) (a b : α) : At ((L.set (k * 2) a).set (k * 2 + 1) b) j p q := by
 rw [at_iff] at h ⊢
 refine ⟨?_, ?_⟩
 ·rw [List.getElem?_set_ne (by omega), List.getElem?_set_ne (by omega)]; exact h.1
 ·rw [List.getElem?_set_ne (by omega), List.getElem?_set_ne (by omega)]; exact h.2
theorem At.len {L : List α} {k : Nat} {p q : α} (h : At L k p q) : k * 2 + 2 ≤ L.length := by
 rw [at_iff] at h
 have := (List.getElem?_eq_some_iff.1 h.2).1
 omega
theorem At.append {L : List α} {k : Nat} {p q : α} (h : At L k p q) (M : List α) : At (L ++ M) k p q := by
 have := h.len
 rw [at_iff] at h ⊢
 rw [List.getElem?_append_left (by omega), List.getElem?_append_left (by omega)]
 exact h
theorem At.last {L : List α} {n : Nat} (hn : L.length = n * 2) (p q : α) : At (L ++ [p, q]) n p q := by
 rw [at_iff]
 rw [List.getElem?_append_right (by omega), List.getElem?_append_right (by omega), hn]
 have e1 : n * 2 - n * 2 = 0 := by omega
 have e2 : n * 2 + 1 - n * 2 = 1 := by omega
 rw [e1, e2]
 exact ⟨rfl, rfl⟩
end Ml
end
