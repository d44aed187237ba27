/- Natural numbers as lists that nobody turns: what the walks of nat say, said to the evaluator. The document's natural numbers (parquetref01) as lists that nobody turns: what its functions tell, said to the evaluator. Whole numbers: Sign, Make, Of, Neg, must, Add, Sub, Mul: the evaluator's walks over the contracts of nat. Whole numbers: cofactors, Gcd: the evaluator's walks. The document's whole numbers (parquetref02): the evaluator's walks over the contracts of its natural numbers. -/
import Derived.Test.YtkgejfokdmdikaaGreatQf
import Derived.Test.YtkgejfokdmdikaaGreatQj
import Derived.Test.YtkgejfokdmdikaaGreatQk
import Derived.Test.YtkgejfokdmdikaaGreatQd
section
set_option maxHeartbeats 4000000
set_option linter.unusedVariables false
set_option linter.unusedSimpArgs false
namespace Go.Proofs.YtkgejfokdmdikaaGreat.Iv
open Go Go.Iv Go.RowKit Go.Proofs.YtkgejfokdmdikaaGreat.Nv
open Dg (bl)
def nav (n : Nat) : AV := dgs (Dg.dg n)
abbrev zs (x : Int) : AV := .flat (.bool (decide (x < 0)))
abbrev zm (x : Int) : AV := nav x.natAbs
def zav (x : Int) : AV := .agg [zs x, zm x]
abbrev nilA : AV := .flat (.slice none 0 0)
theorem zav_cells (x : Int) : AV.cells (zav x) = [zs x, zm x] := rfl
theorem zav_fold (x : Int) : AV.agg [zs x, zm x] = zav x := rfl
theorem nav_one (n : Nat) : AV.one (nav n) = true := rfl
theorem nav_clean (n : Nat) : AV.clean (nav n) = true := rfl
theorem nav_pure (n : Nat) : (nav n).pure = true := dgs_pure _
theorem zav_pure (x : Int) : (zav x).pure = true := by simp [zav, AV.pure, pureL, nav_pure]
theorem dgs_inj {l m : List Nat} (h : dgs l = dgs m) : l = m := by
  simp only [dgs, AV.isl.injEq] at h
  have h1 := h.1
  have : ∀ {l m : List Nat}, l.map dcell = m.map dcell → l = m := by
    intro l
    induction l with
    | nil => intro m h; cases m with
      | nil => rfl
      | cons x m => simp at h
    | cons x l ih => intro m h; cases m with
      | nil => simp at h
      | cons y m =>
        simp only [List.map_cons, List.cons.injEq, dcell, AV.flat.injEq, Value.int.injEq, true_and] at h
        rw [ih h.2, show x = y by omega]
  exact this h1
theorem nav_inj {n m : Nat} (h : nav n = nav m) : n = m := by
  have := dgs_inj h
  rw [← Dg.val_dg' n, ← Dg.val_dg' m, this]
theorem zav_inj {x y : Int} (h : zav x = zav y) : x = y := by
  simp only [zav, zs, zm, AV.agg.injEq, List.cons.injEq, AV.flat.injEq, Value.bool.injEq, and_true] at h
  have h1 := nav_inj h.2
  have h2 := h.1
  by_cases hx : x < 0
  · by_cases hy : y < 0
    · omega
    · simp [hx, hy] at h2
  · by_cases hy : y < 0
    · simp [hx, hy] at h2
    · omega
theorem nav_eq {n m : Nat} : nav n = nav m ↔ n = m := ⟨nav_inj, fun h => by rw [h]⟩
theorem zav_eq {x y : Int} : zav x = zav y ↔ x = y := ⟨zav_inj, fun h => by rw [h]⟩
variable {D : Nat → Prop} {ρ : Ren} {h : Hp} {w : World}
theorem nav_open (k : HR D ρ h w) {n : Nat} (hl : bl n ≤ 100000) {v : Value} (hv : (nav n).rel ρ v) : Num w v n := by
  obtain ⟨A, c, rfl, h1, h2⟩ := dgs_open k hv
  have := Dg.len_of_bl (n := n) (k := 3125) (by omega)
  exact ⟨A, c, rfl, h1, by omega, h2⟩
theorem nav_shut (k : HR D ρ h w) {n : Nat} {v : Value} (hn : Num w v n) : ∃ ρ', Step D ρ h w ρ' h w ∧ (nav n).rel ρ' v := by
  obtain ⟨A, c, rfl, h1, h2⟩ := hn
  exact dgs_shut k h1 h2.at_
theorem relL1 {a : AV} {l : List Value} (h : AV.relL ρ [a] l) : ∃ x, l = [x] ∧ a.rel ρ x := by
  obtain ⟨x, xs, rfl, h1, h2⟩ := relL_cons.1 h
  rw [relL_nil.1 h2]; exact ⟨x, rfl, h1⟩
theorem relL2 {a b : AV} {l : List Value} (h : AV.relL ρ [a, b] l) : ∃ x y, l = [x, y] ∧ a.rel ρ x ∧ b.rel ρ y := by
  obtain ⟨x, xs, rfl, h1, h2⟩ := relL_cons.1 h
  obtain ⟨y, rfl, h3⟩ := relL1 h2
  exact ⟨x, y, rfl, h1, h3⟩
theorem SemCall.weak {P : Program} {f : FuncId} {args : List AV} {v v' : AV} {h : Hp} (k : SemCall P f args h (.ret v) h) (hv : ∀ ρ x, v.rel ρ x → v'.rel ρ x) : SemCall P f args h (.ret v') h := fun D ρ w args' hr fr ha => by
  refine (k D ρ w args' hr fr ha).mono ?_
  rintro e w' ⟨ρ', st, x, he, hx⟩
  exact ⟨ρ', st, x, he, hv ρ' x hx⟩
theorem nil_dgs (ρ : Ren) (x : Value) (h : nilA.rel ρ x) : (dgs []).rel ρ x := by
  simp only [nilA, AV.rel] at h
  subst h
  simp only [dgs, AV.rel]
  exact ⟨none, 0, rfl, by simp, by simp, by omega, fun h => by simp at h⟩
theorem an_open (k : HR D ρ h w) {n : Nat} (hl : bl n ≤ 100000) {V : Value} (hv : (AV.agg [nav n]).rel ρ V) : ∃ v, V = .agg #[v] ∧ Num w v n := by
  simp only [AV.rel] at hv
  obtain ⟨l, rfl, h1⟩ := hv
  obtain ⟨v, rfl, h2⟩ := relL1 h1
  exact ⟨v, rfl, nav_open k hl h2⟩
theorem an_shut (k : HR D ρ h w) {n : Nat} {v : Value} (hn : Num w v n) : ∃ ρ', Step D ρ h w ρ' h w ∧ (AV.agg [nav n]).rel ρ' (.agg #[v]) := by
  obtain ⟨ρ', st, hv⟩ := nav_shut k hn
  refine ⟨ρ', st, ?_⟩
  simp only [AV.rel]
  exact ⟨[v], rfl, relL_cons.2 ⟨_, _, rfl, hv, relL_nil.2 rfl⟩⟩
theorem relL2mk {a b : AV} {V1 V2 : Value} (h1 : a.rel ρ V1) (h2 : b.rel ρ V2) : AV.relL ρ [a, b] [V1, V2] := relL_cons.2 ⟨_, _, rfl, h1, relL_cons.2 ⟨_, _, rfl, h2, relL_nil.2 rfl⟩⟩
theorem relL3mk {a b c : AV} {V1 V2 V3 : Value} (h1 : a.rel ρ V1) (h2 : b.rel ρ V2) (h3 : c.rel ρ V3) : AV.relL ρ [a, b, c] [V1, V2, V3] := relL_cons.2 ⟨_, _, rfl, h1, relL2mk h2 h3⟩
theorem rel_tuple2 {a b : AV} {V1 V2 : Value} (h1 : a.rel ρ V1) (h2 : b.rel ρ V2) : (AV.tuple [a, b]).rel ρ (.tuple #[V1, V2]) := by
  simp only [AV.rel]; exact ⟨_, rfl, relL2mk h1 h2⟩
theorem rel_tuple3 {a b c : AV} {V1 V2 V3 : Value} (h1 : a.rel ρ V1) (h2 : b.rel ρ V2) (h3 : c.rel ρ V3) : (AV.tuple [a, b, c]).rel ρ (.tuple #[V1, V2, V3]) := by
  simp only [AV.rel]; exact ⟨_, rfl, relL3mk h1 h2 h3⟩
theorem rel_flat (v : Value) : (AV.flat v).rel ρ v := by simp [AV.rel]
theorem base0 : Base Tryz.prog tab noSum := ⟨tables.ok, mixed, noSum_ok, noSum_le⟩
section
variable {P : Program} {f : FuncId}
theorem nn_ne {a b c : Nat} (la : bl a ≤ 100000) (lb : bl b ≤ 100000) (k : ∀ (v u : Value) (w : World), Num w v a → Num w u b → Calls P f #[.agg #[v], .agg #[u]] w fun e w' => ∃ v', e = .returned (.tuple #[.agg #[v'], .int .i64 0]) ∧ Num w' v' c ∧ Below w.heap.size w w') (h : Hp) :
    SemCall P f [.agg [nav a], .agg [nav b]] h (.ret (.tuple [.agg [nav c], .flat (.int .i64 0)])) h := by
  refine semcall_of fun D ρ w args' hr ha => ?_
  obtain ⟨V, U, rfl, h1, h2⟩ := relL2 ha
  obtain ⟨v, rfl, hv⟩ := an_open hr la h1
  obtain ⟨u, rfl, hu⟩ := an_open hr lb h2
  refine (k v u w hv hu).mono ?_
  rintro e w' ⟨v', rfl, hz, hb⟩
  refine ⟨_, rfl, hb, fun ρ1 hr1 hle => ?_⟩
  obtain ⟨ρ2, st, r2⟩ := an_shut hr1 hz
  exact ⟨ρ2, st, rel_tuple2 r2 (rel_flat _)⟩
end
theorem nOf_sem (n : Nat) (hn : n < 18446744073709551616) (h : Hp) : SemCall Tryz.prog 32 [.flat (.int .u64 (n : Int))] h (.ret (.agg [nav n])) h := by
  refine semcall_of fun D ρ w args' hr ha => ?_
  obtain ⟨V, rfl, h1⟩ := relL1 ha
  simp only [AV.rel] at h1
  subst h1
  refine (of_calls n hn w).mono ?_
  rintro e w' ⟨v, rfl, hz, hb⟩
  exact ⟨_, rfl, hb, fun ρ1 hr1 hle => an_shut hr1 hz⟩
theorem nBits_sem (n : Nat) (hl : bl n ≤ 100000) (h : Hp) : SemCall Tryz.prog 33 [.agg [nav n]] h (.ret (.flat (.int .i64 (bl n : Int)))) h := by
  refine semcall_of fun D ρ w args' hr ha => ?_
  obtain ⟨V, rfl, h1⟩ := relL1 ha
  obtain ⟨v, rfl, hv⟩ := an_open hr hl h1
  refine (bits_calls v n w hv).mono ?_
  rintro e w' ⟨rfl, hb⟩
  exact ⟨_, rfl, hb, fun ρ1 hr1 hle => ⟨ρ1, Step.refl hr1, rel_flat _⟩⟩
theorem nCmp_sem (a b : Nat) (la : bl a ≤ 100000) (lb : bl b ≤ 100000) (h : Hp) : SemCall Tryz.prog 70 [.agg [nav a], .agg [nav b]] h (.ret (.flat (.int .i64 (Dg.cmp a b)))) h := by
  refine semcall_of fun D ρ w args' hr ha => ?_
  obtain ⟨V, U, rfl, h1, h2⟩ := relL2 ha
  obtain ⟨v, rfl, hv⟩ := an_open hr la h1
  obtain ⟨u, rfl, hu⟩ := an_open hr lb h2
  refine (cmp_calls v u a b w hv hu).mono ?_
  rintro e w' ⟨rfl, hb⟩
  exact ⟨_, rfl, hb, fun ρ1 hr1 hle => ⟨ρ1, Step.refl hr1, rel_flat _⟩⟩
theorem nAdd_sem (a b : Nat) (la : bl a ≤ 100000) (lb : bl b ≤ 100000) (hs : bl (a + b) ≤ 4096) (h : Hp) : SemCall Tryz.prog 74 [.agg [nav a], .agg [nav b]] h (.ret (.tuple [.agg [nav (a + b)], .flat (.int .i64 0)])) h :=
  nn_ne la lb (fun v u w h1 h2 => add_calls v u a b w h1 h2 hs) h
theorem nSub_sem (a b : Nat) (hs : bl a ≤ 4096) (le : b ≤ a) (h : Hp) : SemCall Tryz.prog 75 [.agg [nav a], .agg [nav b]] h (.ret (.tuple [.agg [nav (a - b)], .flat (.int .i64 0)])) h :=
  nn_ne (by omega) (by have := Dg.bl_mono' le; omega) (fun v u w h1 h2 => sub_calls v u a b w h1 h2 hs le) h
theorem nMul_sem (a b : Nat) (hs : bl a + bl b ≤ 4096) (h : Hp) : SemCall Tryz.prog 73 [.agg [nav a], .agg [nav b]] h (.ret (.tuple [.agg [nav (a * b)], .flat (.int .i64 0)])) h :=
  nn_ne (by omega) (by omega) (fun v u w h1 h2 => mul_calls v u a b w h1 h2 hs) h
theorem nDiv_sem (a b : Nat) (la : bl a ≤ 10000) (lb : bl b ≤ 10000) (b0 : b ≠ 0) (h : Hp) : SemCall Tryz.prog 51 [.agg [nav a], .agg [nav b]] h (.ret (.tuple [.agg [nav (a / b)], .agg [nav (a % b)], .flat (.int .i64 0)])) h := by
  refine semcall_of fun D ρ w args' hr ha => ?_
  obtain ⟨V, U, rfl, h1, h2⟩ := relL2 ha
  obtain ⟨v, rfl, hv⟩ := an_open hr (by omega) h1
  obtain ⟨u, rfl, hu⟩ := an_open hr (by omega) h2
  refine (div_calls v u a b w hv hu (by have := Dg.len_of_bl (n := a) (k := 313) (by omega); omega) b0).mono ?_
  rintro e w' ⟨v1, v2, rfl, z1, z2, hb⟩
  refine ⟨_, rfl, hb, fun ρ1 hr1 hle => ?_⟩
  obtain ⟨ρ2, st2, r2⟩ := an_shut hr1 z1
  obtain ⟨ρ3, st3, r3⟩ := an_shut st2.hr z2
  exact ⟨ρ3, st2.trans st3, rel_tuple3 (AV.rel_mono st3.le _ _ r2) r3 (rel_flat _)⟩
theorem nGcd_sem (a b : Nat) (la : bl a ≤ 10000) (lb : bl b ≤ 10000) (h : Hp) : SemCall Tryz.prog 28 [.agg [nav a], .agg [nav b]] h (.ret (.agg [nav (Nat.gcd a b)])) h := by
  refine semcall_of fun D ρ w args' hr ha => ?_
  obtain ⟨V, U, rfl, h1, h2⟩ := relL2 ha
  obtain ⟨v, rfl, hv⟩ := an_open hr (by omega) h1
  obtain ⟨u, rfl, hu⟩ := an_open hr (by omega) h2
  refine (gcd_calls v u a b w hv hu (by have := Dg.len_of_bl (n := a) (k := 313) (by omega); omega) (by have := Dg.len_of_bl (n := b) (k := 313) (by omega); omega)).mono ?_
  rintro e w' ⟨v1, rfl, z1, hb⟩
  exact ⟨_, rfl, hb, fun ρ1 hr1 hle => an_shut hr1 z1⟩
end Go.Proofs.YtkgejfokdmdikaaGreat.Iv
end
section
set_option maxHeartbeats 4000000
set_option linter.unusedVariables false
set_option linter.unusedSimpArgs false
namespace Go.Proofs.YtkgejfokdmdikaaGreat.Nv
open Go Go.RowKit Go.Proofs.YtkgejfokdmdikaaGreatW.PrintWords Go.Proofs.YtkgejfokdmdikaaGreatW.PrintLast Go.Proofs.YtkgejfokdmdikaaGreatW.PrintMore Rq Go.Proofs.YtkgejfokdmdikaaGreat.PGcd
open Dg (bl cmp)
def RN (w : World) (v : Value) (n : Nat) : Prop := ∃ A c, v = .slice A ((Eg.dg n).length : Nat) c ∧ (Eg.dg n).length ≤ c ∧ Rd w A (Eg.dg n)
theorem RN.below {w w' : World} {v : Value} {n : Nat} (h : RN w v n) (hb : Below w.heap.size w w') : RN w' v n := by
  obtain ⟨A, c, e, hc, hr⟩ := h
  exact ⟨A, c, e, hc, hr.below hb⟩
theorem Rd.C {w : World} {A : Option Addr} {l : List Nat} (h : Rd w A l) : Kd.C (Kd.int .u32) w A (I l).length (I l) := by
  refine ⟨rfl, by have := h.len; rw [I_len]; omega, fun hn => ?_⟩
  obtain ⟨ad, e, hc⟩ := h.at_ (by rw [I_len] at hn; omega)
  refine ⟨ad, e, fun j p hj => ?_⟩
  rw [I, List.getElem?_map] at hj
  obtain ⟨x, hx, rfl⟩ := Option.map_eq_some_iff.1 hj
  refine ⟨[.int .u32 (x : Int)], rfl, rfl, fun i u hi => ?_⟩
  cases i with
  | zero =>
    simp at hi
    subst hi
    have e1 : j * (Kd.int .u32).sz + 0 = j := Nat.mul_one j
    rw [e1]; exact hc j x hx
  | succ i => simp at hi
theorem RN.of_C {w : World} {A : Option Addr} {c n : Nat} (hl : (I (Eg.dg n)).length ≤ c) (h : Kd.C (Kd.int .u32) w A (I (Eg.dg n)).length (I (Eg.dg n))) (hm : (Eg.dg n).length ≤ 1000000) : RN w (.slice A (I (Eg.dg n)).length c) n := by
  have r := Rd.of_C h (by omega)
  rw [I_len] at hl ⊢
  exact ⟨A, c, rfl, hl, r⟩
theorem RN.of_R {w : World} {e base n : Nat} {ok : Nat → Prop} {v : Value} (h : Kd.R (Kd.int .u32) e w base ok v (I (Eg.dg n))) (hm : (Eg.dg n).length ≤ 1000000) : RN w v n := by
  obtain ⟨A, c, rfl, hl, hC⟩ := Kd.R_reads h
  exact RN.of_C hl hC hm
theorem RN.of_V {w : World} {e base n : Nat} {ok : Nat → Prop} {v : Value} (h : Kd.V (Kd.int .u32) e w base ok v (I (Eg.dg n))) (hm : (Eg.dg n).length ≤ 1000000) : RN w v n := by
  obtain ⟨A, c, rfl, hl, hF⟩ := h
  exact RN.of_C hl (Kd.F_now hF) hm
theorem len250 {n : Nat} (h : bl n ≤ 4000) : (Eg.dg n).length ≤ 250 := Eg.len_of_bl (k := 250) (by omega)
theorem elen {n : Nat} (h : bl n ≤ 20000) : (Eg.dg n).length ≤ 1250 := Eg.len_of_bl (k := 1250) (by omega)
theorem rdiv_calls (v u : Value) (a b : Nat) (w : World) (ha : RN w v a) (hb : RN w u b) (la : bl a ≤ 4000) (lb : bl b ≤ 4000) (b0 : 0 < b) :
    Calls Tryz.prog 60 #[v, u] w fun e w' => ∃ v1 v2, e = .returned (.tuple #[v1, v2]) ∧ RN w' v1 (a / b) ∧ RN w' v2 (a % b) ∧ Below w.heap.size w w' := by
  obtain ⟨A, c, rfl, hc, hr⟩ := ha
  obtain ⟨A', c', rfl, hc', hr'⟩ := hb
  have l1 := len250 la
  have l2 := len250 lb
  obtain ⟨k, hk⟩ := (div_ev a b b0 (by omega) (by omega)).rounds
  have h := parquetref01_Div.calls k A c _ A' c' _ _ _ w hr.C (by rw [I_len]; exact hc) hr'.C (by rw [I_len]; exact hc') hk
  rw [I_len, I_len] at h
  have m1 := len_mono (Nat.div_le_self a b)
  have m2 := len_mono (Nat.le_of_lt (Nat.mod_lt a b0))
  exact h.mono fun e w' ⟨v1, v2, he, h1, h2, hb⟩ => ⟨v1, v2, he, RN.of_R h1 (by omega), RN.of_R h2 (by omega), hb⟩
theorem rgcdn_calls (v u : Value) (a b : Nat) (w : World) (ha : RN w v a) (hb : RN w u b) (la : bl a ≤ 4000) (lb : bl b ≤ 4000) :
    Calls Tryz.prog 37 #[v, u] w fun e w' => ∃ v1, e = .returned v1 ∧ RN w' v1 (Nat.gcd a b) ∧ Below w.heap.size w w' := by
  obtain ⟨A, c, rfl, hc, hr⟩ := ha
  obtain ⟨A', c', rfl, hc', hr'⟩ := hb
  have l1 := len250 la
  have l2 := len250 lb
  obtain ⟨k, hk⟩ := (gcd_ev a b (by omega) (by omega)).rounds
  have F1 : Kd.V (Kd.int .u32) 92 w w.heap.size (fun _ => True) (.slice A (I (Eg.dg a)).length c) (I (Eg.dg a)) := Kd.V_mk (by rw [I_len]; exact hc) fun W' hW => (Kd.heap_int .u32).C (fun k hk => hW k trivial hk) hr.C
  have F2 : Kd.V (Kd.int .u32) 92 w w.heap.size (fun _ => True) (.slice A' (I (Eg.dg b)).length c') (I (Eg.dg b)) := Kd.V_mk (by rw [I_len]; exact hc') fun W' hW => (Kd.heap_int .u32).C (fun k hk => hW k trivial hk) hr'.C
  have h := parquetref01_Gcd.calls k (fun _ => True) A c _ (fun _ => True) A' c' _ _ w F1 F2 hk
  rw [I_len, I_len] at h
  have m1 : (Eg.dg (Nat.gcd a b)).length ≤ 250 := by
    rcases Nat.eq_zero_or_pos a with z | z
    · subst z; rw [Nat.gcd_zero_left]; exact l2
    · exact Nat.le_trans (len_mono (Nat.gcd_le_left b z)) l1
  exact h.mono fun e w' ⟨v1, he, h1, hb⟩ => ⟨v1, he, RN.of_V h1 (by omega), hb⟩
theorem rofn_calls (n : Nat) (w : World) (hn : n < 18446744073709551616) :
    Calls Tryz.prog 42 #[.int .u64 (n : Int)] w fun e w' => ∃ v1, e = .returned v1 ∧ RN w' v1 n ∧ Below w.heap.size w w' := by
  obtain ⟨k, hk⟩ := (of_ev n hn).rounds
  have l : (Eg.dg n).length ≤ 4 := Eg.dg_len 4 _ (by simpa using hn)
  exact (parquetref01_Of.calls k n _ w hk).mono fun e w' ⟨v1, he, h1, hb⟩ => ⟨v1, he, RN.of_R h1 (by omega), hb⟩
theorem rbitsn_calls (v : Value) (n : Nat) (w : World) (hn : RN w v n) (hl : bl n ≤ 20000) :
    Calls Tryz.prog 44 #[v] w fun e w' => e = .returned (.int .i64 (bl n : Int)) ∧ Below w.heap.size w w' := by
  obtain ⟨A, c, rfl, hc, hr⟩ := hn
  obtain ⟨k, hk⟩ := (bits_ev n (by have := elen hl; omega)).rounds
  have h := parquetref01_Bits.calls k A c _ _ w hr.C (by rw [I_len]; exact hc) hk
  rw [I_len] at h
  exact h.mono fun e w' ⟨he, hd⟩ => ⟨he, hd.below⟩
theorem rcmpn_calls (v u : Value) (a b : Nat) (w : World) (ha : RN w v a) (hb : RN w u b) (la : bl a ≤ 16000) :
    Calls Tryz.prog 77 #[v, u] w fun e w' => e = .returned (.int .i64 (cmp a b)) ∧ Below w.heap.size w w' := by
  obtain ⟨A, c, rfl, hc, hr⟩ := ha
  obtain ⟨A', c', rfl, hc', hr'⟩ := hb
  have l1 := elen (n := a) (by omega)
  obtain ⟨k, hk⟩ := (cmp_ev a b (by omega)).rounds
  have h := parquetref01_Cmp.calls k A c _ A' c' _ _ w hr.C (by rw [I_len]; exact hc) hr'.C (by rw [I_len]; exact hc') hk
  rw [I_len, I_len] at h
  exact h.mono fun e w' ⟨he, hd⟩ => ⟨he, hd.below⟩
theorem raddn_calls (v u : Value) (a b : Nat) (w : World) (ha : RN w v a) (hb : RN w u b) (la : bl a ≤ 16000) (lb : bl b ≤ 16000) :
    Calls Tryz.prog 79 #[v, u] w fun e w' => ∃ v1, e = .returned v1 ∧ RN w' v1 (a + b) ∧ Below w.heap.size w w' := by
  obtain ⟨A, c, rfl, hc, hr⟩ := ha
  obtain ⟨A', c', rfl, hc', hr'⟩ := hb
  have l1 := elen (n := a) (by omega)
  have l2 := elen (n := b) (by omega)
  obtain ⟨k, hk⟩ := (add_ev a b (by omega) (by omega)).rounds
  have h := parquetref01_Add.calls k A c _ A' c' _ _ w hr.C (by rw [I_len]; exact hc) hr'.C (by rw [I_len]; exact hc') hk
  rw [I_len, I_len] at h
  have l3 := elen (n := a + b) (Nat.le_trans (Dg.bl_addk la lb) (by omega))
  exact h.mono fun e w' ⟨v1, he, h1, hb⟩ => ⟨v1, he, RN.of_R h1 (by omega), hb⟩
theorem rsubn_calls (v u : Value) (a b : Nat) (w : World) (ha : RN w v a) (hb : RN w u b) (la : bl a ≤ 16000) (lb : bl b ≤ 16000) (le : b ≤ a) :
    Calls Tryz.prog 78 #[v, u] w fun e w' => ∃ v1, e = .returned v1 ∧ RN w' v1 (a - b) ∧ Below w.heap.size w w' := by
  obtain ⟨A, c, rfl, hc, hr⟩ := ha
  obtain ⟨A', c', rfl, hc', hr'⟩ := hb
  have l1 := elen (n := a) (by omega)
  have l2 := elen (n := b) (by omega)
  obtain ⟨k, hk⟩ := (sub_ev a b le (by omega)).rounds
  have h := parquetref01_Sub.calls k A c _ A' c' _ _ w hr.C (by rw [I_len]; exact hc) hr'.C (by rw [I_len]; exact hc') hk
  rw [I_len, I_len] at h
  have l3 := len_mono (Nat.sub_le a b)
  exact h.mono fun e w' ⟨v1, he, h1, hb⟩ => ⟨v1, he, RN.of_R h1 (by omega), hb⟩
theorem rmuln_calls (v u : Value) (a b : Nat) (w : World) (ha : RN w v a) (hb : RN w u b) (la : bl a ≤ 10000) (lb : bl b ≤ 10000) :
    Calls Tryz.prog 63 #[v, u] w fun e w' => ∃ v1, e = .returned v1 ∧ RN w' v1 (a * b) ∧ Below w.heap.size w w' := by
  obtain ⟨A, c, rfl, hc, hr⟩ := ha
  obtain ⟨A', c', rfl, hc', hr'⟩ := hb
  have l1 := elen (n := a) (by omega)
  have l2 := elen (n := b) (by omega)
  have l3 := elen (n := a * b) (Nat.le_trans (Dg.bl_mulk la lb) (by omega))
  have h := mul16_calls a b A A' c c' w hr.C (by rw [I_len]; exact hc) hr'.C (by rw [I_len]; exact hc') (by omega) (by omega)
  rw [I_len, I_len] at h
  exact h.mono fun e w' ⟨v1, he, h1, hb⟩ => ⟨v1, he, RN.of_R h1 (by omega), hb⟩
theorem rsmall_calls (v : Value) (n : Nat) (w : World) (hn : RN w v n) (hl : n < 18446744073709551616) :
    Calls Tryz.prog 43 #[v] w fun e w' => e = .returned (.tuple #[.int .u64 (n : Int), .bool true]) ∧ Below w.heap.size w w' := by
  obtain ⟨A, c, rfl, hc, hr⟩ := hn
  obtain ⟨k, hk⟩ := (small_ev n hl).rounds
  have h := parquetref01_Small.calls k A c _ _ _ w hr.C (by rw [I_len]; exact hc) hk
  rw [I_len] at h
  exact h.mono fun e w' ⟨he, hd⟩ => ⟨he, hd.below⟩
end Go.Proofs.YtkgejfokdmdikaaGreat.Nv
namespace Go.Proofs.YtkgejfokdmdikaaGreat.Iv
open Go Go.Iv Go.RowKit Go.Proofs.YtkgejfokdmdikaaGreat.Nv
open Dg (bl)
def rnav (n : Nat) : AV := dgs (Eg.dg n)
abbrev rzm (x : Int) : AV := rnav x.natAbs
def rzav (x : Int) : AV := .agg [zs x, rzm x]
theorem rzav_cells (x : Int) : AV.cells (rzav x) = [zs x, rzm x] := rfl
theorem rzav_fold (x : Int) : AV.agg [zs x, rzm x] = rzav x := rfl
theorem rnav_one (n : Nat) : AV.one (rnav n) = true := rfl
theorem rnav_clean (n : Nat) : AV.clean (rnav n) = true := rfl
theorem rnav_pure (n : Nat) : (rnav n).pure = true := dgs_pure _
theorem rzav_pure (x : Int) : (rzav x).pure = true := by simp [rzav, AV.pure, pureL, rnav_pure]
theorem rnav_inj {n m : Nat} (h : rnav n = rnav m) : n = m := by
  have := dgs_inj h
  rw [← Eg.val_dg' n, ← Eg.val_dg' m, this]
theorem rzav_inj {x y : Int} (h : rzav x = rzav y) : x = y := by
  simp only [rzav, zs, rzm, AV.agg.injEq, List.cons.injEq, AV.flat.injEq, Value.bool.injEq, and_true] at h
  have h1 := rnav_inj h.2
  have h2 := h.1
  by_cases hx : x < 0
  · by_cases hy : y < 0
    · omega
    · simp [hx, hy] at h2
  · by_cases hy : y < 0
    · simp [hx, hy] at h2
    · omega
theorem rnav_eq {n m : Nat} : rnav n = rnav m ↔ n = m := ⟨rnav_inj, fun h => by rw [h]⟩
theorem rzav_eq {x y : Int} : rzav x = rzav y ↔ x = y := ⟨rzav_inj, fun h => by rw [h]⟩
variable {D : Nat → Prop} {ρ : Ren} {h : Hp} {w : World}
theorem rnav_open (k : HR D ρ h w) {n : Nat} (hl : bl n ≤ 100000) {v : Value} (hv : (rnav n).rel ρ v) : RN w v n := by
  obtain ⟨A, c, rfl, h1, h2⟩ := dgs_open k hv
  have := Eg.len_of_bl (n := n) (k := 6250) (by omega)
  exact ⟨A, c, rfl, h1, by omega, h2⟩
theorem rnav_shut (k : HR D ρ h w) {n : Nat} {v : Value} (hn : RN w v n) : ∃ ρ', Step D ρ h w ρ' h w ∧ (rnav n).rel ρ' v := by
  obtain ⟨A, c, rfl, h1, h2⟩ := hn
  exact dgs_shut k h1 h2.at_
theorem rzero_rel (ρ : Ren) (x : Value) (h : (AV.agg [.flat (.bool false), nilA]).rel ρ x) : (rzav 0).rel ρ x := by
  simp only [rzav, AV.rel] at h ⊢
  obtain ⟨l, rfl, hl⟩ := h
  obtain ⟨V1, V2, rfl, h1, h2⟩ := relL2 hl
  refine ⟨_, rfl, relL2mk (by simpa [zs, AV.rel] using h1) ?_⟩
  have e : rzm 0 = dgs [] := by simp only [rzm, rnav, Int.natAbs_zero, Eg.dg_zero]
  rw [e]
  exact nil_dgs ρ V2 h2
section
variable {P : Program} {f : FuncId}
theorem rr_r {a b c : Nat} (la : bl a ≤ 100000) (lb : bl b ≤ 100000) (k : ∀ (v u : Value) (w : World), RN w v a → RN w u b → Calls P f #[v, u] w fun e w' => ∃ v', e = .returned v' ∧ RN w' v' c ∧ Below w.heap.size w w') (h : Hp) :
    SemCall P f [rnav a, rnav b] h (.ret (rnav c)) h := by
  refine semcall_of fun D ρ w args' hr ha => ?_
  obtain ⟨V, U, rfl, h1, h2⟩ := relL2 ha
  refine (k V U w (rnav_open hr la h1) (rnav_open hr lb h2)).mono ?_
  rintro e w' ⟨v', rfl, hz, hb⟩
  exact ⟨_, rfl, hb, fun ρ1 hr1 hle => rnav_shut hr1 hz⟩
end
theorem sOf_sem (n : Nat) (hn : n < 18446744073709551616) (h : Hp) : SemCall Tryz.prog 42 [.flat (.int .u64 (n : Int))] h (.ret (rnav n)) h := by
  refine semcall_of fun D ρ w args' hr ha => ?_
  obtain ⟨V, rfl, h1⟩ := relL1 ha
  simp only [AV.rel] at h1
  subst h1
  refine (rofn_calls n w hn).mono ?_
  rintro e w' ⟨v, rfl, hz, hb⟩
  exact ⟨_, rfl, hb, fun ρ1 hr1 hle => rnav_shut hr1 hz⟩
theorem sBits_sem (n : Nat) (hl : bl n ≤ 20000) (h : Hp) : SemCall Tryz.prog 44 [rnav n] h (.ret (.flat (.int .i64 (bl n : Int)))) h := by
  refine semcall_of fun D ρ w args' hr ha => ?_
  obtain ⟨V, rfl, h1⟩ := relL1 ha
  refine (rbitsn_calls V n w (rnav_open hr (by omega) h1) hl).mono ?_
  rintro e w' ⟨rfl, hb⟩
  exact ⟨_, rfl, hb, fun ρ1 hr1 hle => ⟨ρ1, Step.refl hr1, rel_flat _⟩⟩
theorem sSmall_sem (n : Nat) (hl : n < 18446744073709551616) (h : Hp) : SemCall Tryz.prog 43 [rnav n] h (.ret (.tuple [.flat (.int .u64 (n : Int)), .flat (.bool true)])) h := by
  refine semcall_of fun D ρ w args' hr ha => ?_
  obtain ⟨V, rfl, h1⟩ := relL1 ha
  have hb : Dg.bl n ≤ 64 := Dg.bl_le.2 (by simpa using hl)
  refine (rsmall_calls V n w (rnav_open hr (by omega) h1) hl).mono ?_
  rintro e w' ⟨rfl, hb⟩
  exact ⟨_, rfl, hb, fun ρ1 hr1 hle => ⟨ρ1, Step.refl hr1, rel_tuple2 (rel_flat _) (rel_flat _)⟩⟩
theorem sCmp_sem (a b : Nat) (la : bl a ≤ 16000) (lb : bl b ≤ 16000) (h : Hp) : SemCall Tryz.prog 77 [rnav a, rnav b] h (.ret (.flat (.int .i64 (Dg.cmp a b)))) h := by
  refine semcall_of fun D ρ w args' hr ha => ?_
  obtain ⟨V, U, rfl, h1, h2⟩ := relL2 ha
  refine (rcmpn_calls V U a b w (rnav_open hr (by omega) h1) (rnav_open hr (by omega) h2) la).mono ?_
  rintro e w' ⟨rfl, hb⟩
  exact ⟨_, rfl, hb, fun ρ1 hr1 hle => ⟨ρ1, Step.refl hr1, rel_flat _⟩⟩
theorem sAdd_sem (a b : Nat) (la : bl a ≤ 16000) (lb : bl b ≤ 16000) (h : Hp) : SemCall Tryz.prog 79 [rnav a, rnav b] h (.ret (rnav (a + b))) h := rr_r (by omega) (by omega) (fun v u w h1 h2 => raddn_calls v u a b w h1 h2 la lb) h
theorem sSub_sem (a b : Nat) (la : bl a ≤ 16000) (lb : bl b ≤ 16000) (le : b ≤ a) (h : Hp) : SemCall Tryz.prog 78 [rnav a, rnav b] h (.ret (rnav (a - b))) h := rr_r (by omega) (by omega) (fun v u w h1 h2 => rsubn_calls v u a b w h1 h2 la lb le) h
theorem sMul_sem (a b : Nat) (la : bl a ≤ 10000) (lb : bl b ≤ 10000) (h : Hp) : SemCall Tryz.prog 63 [rnav a, rnav b] h (.ret (rnav (a * b))) h := rr_r (by omega) (by omega) (fun v u w h1 h2 => rmuln_calls v u a b w h1 h2 la lb) h
theorem sGcd_sem (a b : Nat) (la : bl a ≤ 4000) (lb : bl b ≤ 4000) (h : Hp) : SemCall Tryz.prog 37 [rnav a, rnav b] h (.ret (rnav (Nat.gcd a b))) h := rr_r (by omega) (by omega) (fun v u w h1 h2 => rgcdn_calls v u a b w h1 h2 la lb) h
theorem sDiv_sem (a b : Nat) (la : bl a ≤ 4000) (lb : bl b ≤ 4000) (b0 : 0 < b) (h : Hp) : SemCall Tryz.prog 60 [rnav a, rnav b] h (.ret (.tuple [rnav (a / b), rnav (a % b)])) h := by
  refine semcall_of fun D ρ w args' hr ha => ?_
  obtain ⟨V, U, rfl, h1, h2⟩ := relL2 ha
  refine (rdiv_calls V U a b w (rnav_open hr (by omega) h1) (rnav_open hr (by omega) h2) la lb b0).mono ?_
  rintro e w' ⟨v1, v2, rfl, z1, z2, hb⟩
  refine ⟨_, rfl, hb, fun ρ1 hr1 hle => ?_⟩
  obtain ⟨ρ2, st2, r2⟩ := rnav_shut hr1 z1
  obtain ⟨ρ3, st3, r3⟩ := rnav_shut st2.hr z2
  exact ⟨ρ3, st2.trans st3, rel_tuple2 (AV.rel_mono st3.le _ _ r2) r3⟩
end Go.Proofs.YtkgejfokdmdikaaGreat.Iv
end
section
set_option maxHeartbeats 4000000
set_option linter.unusedVariables false
set_option linter.unusedSimpArgs false
set_option maxRecDepth 10000
namespace Go.Proofs.YtkgejfokdmdikaaGreat.Iv
open Go Go.Iv Go.RowKit Go.Proofs.YtkgejfokdmdikaaGreat.Nv
open Dg (bl)
noncomputable def EnOf : Entry Tryz.prog := ⟨32, fun args h e h' => h' = h ∧ ∃ (n : Nat), args = [.flat (.int .u64 (n : Int))] ∧ (n < 18446744073709551616) ∧ e = .ret (.agg [nav n]), by
  rintro args h e h' ⟨rfl, n, rfl, h1, rfl⟩
  exact ⟨nOf_sem n h1 _, Hp.Le.refl _⟩⟩
theorem EnOf_ans (n : Nat) (h : Hp) (h1 : n < 18446744073709551616) : EnOf.ans [.flat (.int .u64 (n : Int))] h = some (.ret (.agg [nav n]), h) :=
  Entry.one ⟨rfl, n, rfl, h1, rfl⟩ fun e h' ⟨hh, n', ha, _, he⟩ => by simp only [kI, nav_eq, zav_eq] at ha; subst ha; exact ⟨he, hh⟩
noncomputable def EnBits : Entry Tryz.prog := ⟨33, fun args h e h' => h' = h ∧ ∃ (n : Nat), args = [.agg [nav n]] ∧ (bl n ≤ 100000) ∧ e = .ret (.flat (.int .i64 (bl n : Int))), by
  rintro args h e h' ⟨rfl, n, rfl, h1, rfl⟩
  exact ⟨nBits_sem n h1 _, Hp.Le.refl _⟩⟩
theorem EnBits_ans (n : Nat) (h : Hp) (h1 : bl n ≤ 100000) : EnBits.ans [.agg [nav n]] h = some (.ret (.flat (.int .i64 (bl n : Int))), h) :=
  Entry.one ⟨rfl, n, rfl, h1, rfl⟩ fun e h' ⟨hh, n', ha, _, he⟩ => by simp only [kI, nav_eq, zav_eq] at ha; subst ha; exact ⟨he, hh⟩
noncomputable def EnCmp : Entry Tryz.prog := ⟨70, fun args h e h' => h' = h ∧ ∃ (a b : Nat), args = [.agg [nav a], .agg [nav b]] ∧ (bl a ≤ 100000) ∧ (bl b ≤ 100000) ∧ e = .ret (.flat (.int .i64 (Dg.cmp a b))), by
  rintro args h e h' ⟨rfl, a, b, rfl, h1, h2, rfl⟩
  exact ⟨nCmp_sem a b h1 h2 _, Hp.Le.refl _⟩⟩
theorem EnCmp_ans (a b : Nat) (h : Hp) (h1 : bl a ≤ 100000) (h2 : bl b ≤ 100000) : EnCmp.ans [.agg [nav a], .agg [nav b]] h = some (.ret (.flat (.int .i64 (Dg.cmp a b))), h) :=
  Entry.one ⟨rfl, a, b, rfl, h1, h2, rfl⟩ fun e h' ⟨hh, a', b', ha, _, _, he⟩ => by simp only [kI, nav_eq, zav_eq] at ha; obtain ⟨rfl, rfl⟩ := ha; exact ⟨he, hh⟩
noncomputable def EnAdd : Entry Tryz.prog := ⟨74, fun args h e h' => h' = h ∧ ∃ (a b : Nat), args = [.agg [nav a], .agg [nav b]] ∧ (bl a ≤ 100000) ∧ (bl b ≤ 100000) ∧ (bl (a + b) ≤ 4096) ∧ e = .ret (.tuple [.agg [nav (a + b)], .flat (.int .i64 0)]), by
  rintro args h e h' ⟨rfl, a, b, rfl, h1, h2, h3, rfl⟩
  exact ⟨nAdd_sem a b h1 h2 h3 _, Hp.Le.refl _⟩⟩
theorem EnAdd_ans (a b : Nat) (h : Hp) (h1 : bl a ≤ 100000) (h2 : bl b ≤ 100000) (h3 : bl (a + b) ≤ 4096) : EnAdd.ans [.agg [nav a], .agg [nav b]] h = some (.ret (.tuple [.agg [nav (a + b)], .flat (.int .i64 0)]), h) :=
  Entry.one ⟨rfl, a, b, rfl, h1, h2, h3, rfl⟩ fun e h' ⟨hh, a', b', ha, _, _, _, he⟩ => by simp only [kI, nav_eq, zav_eq] at ha; obtain ⟨rfl, rfl⟩ := ha; exact ⟨he, hh⟩
noncomputable def EnSub : Entry Tryz.prog := ⟨75, fun args h e h' => h' = h ∧ ∃ (a b : Nat), args = [.agg [nav a], .agg [nav b]] ∧ (bl a ≤ 4096) ∧ (b ≤ a) ∧ e = .ret (.tuple [.agg [nav (a - b)], .flat (.int .i64 0)]), by
  rintro args h e h' ⟨rfl, a, b, rfl, h1, h2, rfl⟩
  exact ⟨nSub_sem a b h1 h2 _, Hp.Le.refl _⟩⟩
theorem EnSub_ans (a b : Nat) (h : Hp) (h1 : bl a ≤ 4096) (h2 : b ≤ a) : EnSub.ans [.agg [nav a], .agg [nav b]] h = some (.ret (.tuple [.agg [nav (a - b)], .flat (.int .i64 0)]), h) :=
  Entry.one ⟨rfl, a, b, rfl, h1, h2, rfl⟩ fun e h' ⟨hh, a', b', ha, _, _, he⟩ => by simp only [kI, nav_eq, zav_eq] at ha; obtain ⟨rfl, rfl⟩ := ha; exact ⟨he, hh⟩
noncomputable def EnMul : Entry Tryz.prog := ⟨73, fun args h e h' => h' = h ∧ ∃ (a b : Nat), args = [.agg [nav a], .agg [nav b]] ∧ (bl a + bl b ≤ 4096) ∧ e = .ret (.tuple [.agg [nav (a * b)], .flat (.int .i64 0)]), by
  rintro args h e h' ⟨rfl, a, b, rfl, h1, rfl⟩
  exact ⟨nMul_sem a b h1 _, Hp.Le.refl _⟩⟩
theorem EnMul_ans (a b : Nat) (h : Hp) (h1 : bl a + bl b ≤ 4096) : EnMul.ans [.agg [nav a], .agg [nav b]] h = some (.ret (.tuple [.agg [nav (a * b)], .flat (.int .i64 0)]), h) :=
  Entry.one ⟨rfl, a, b, rfl, h1, rfl⟩ fun e h' ⟨hh, a', b', ha, _, he⟩ => by simp only [kI, nav_eq, zav_eq] at ha; obtain ⟨rfl, rfl⟩ := ha; exact ⟨he, hh⟩
noncomputable def EnDiv : Entry Tryz.prog := ⟨51, fun args h e h' => h' = h ∧ ∃ (a b : Nat), args = [.agg [nav a], .agg [nav b]] ∧ (bl a ≤ 10000) ∧ (bl b ≤ 10000) ∧ (b ≠ 0) ∧ e = .ret (.tuple [.agg [nav (a / b)], .agg [nav (a % b)], .flat (.int .i64 0)]), by
  rintro args h e h' ⟨rfl, a, b, rfl, h1, h2, h3, rfl⟩
  exact ⟨nDiv_sem a b h1 h2 h3 _, Hp.Le.refl _⟩⟩
theorem EnDiv_ans (a b : Nat) (h : Hp) (h1 : bl a ≤ 10000) (h2 : bl b ≤ 10000) (h3 : b ≠ 0) : EnDiv.ans [.agg [nav a], .agg [nav b]] h = some (.ret (.tuple [.agg [nav (a / b)], .agg [nav (a % b)], .flat (.int .i64 0)]), h) :=
  Entry.one ⟨rfl, a, b, rfl, h1, h2, h3, rfl⟩ fun e h' ⟨hh, a', b', ha, _, _, _, he⟩ => by simp only [kI, nav_eq, zav_eq] at ha; obtain ⟨rfl, rfl⟩ := ha; exact ⟨he, hh⟩
noncomputable def EnGcd : Entry Tryz.prog := ⟨28, fun args h e h' => h' = h ∧ ∃ (a b : Nat), args = [.agg [nav a], .agg [nav b]] ∧ (bl a ≤ 10000) ∧ (bl b ≤ 10000) ∧ e = .ret (.agg [nav (Nat.gcd a b)]), by
  rintro args h e h' ⟨rfl, a, b, rfl, h1, h2, rfl⟩
  exact ⟨nGcd_sem a b h1 h2 _, Hp.Le.refl _⟩⟩
theorem EnGcd_ans (a b : Nat) (h : Hp) (h1 : bl a ≤ 10000) (h2 : bl b ≤ 10000) : EnGcd.ans [.agg [nav a], .agg [nav b]] h = some (.ret (.agg [nav (Nat.gcd a b)]), h) :=
  Entry.one ⟨rfl, a, b, rfl, h1, h2, rfl⟩ fun e h' ⟨hh, a', b', ha, _, _, he⟩ => by simp only [kI, nav_eq, zav_eq] at ha; obtain ⟨rfl, rfl⟩ := ha; exact ⟨he, hh⟩
theorem Sign_sem (x : Int) (hl : bl x.natAbs ≤ 100000) (h : Hp) : SemCall Tryz.prog 27 [zav x] h (.ret (.flat (.int .i64 (if x < 0 then -1 else if x = 0 then 0 else 1)))) h := by
  refine sem_pure tables.ok Tryz.func27 rfl rfl rfl rfl (by simp [pureL, zav_pure]) rfl ?_ h
  have B : Base Tryz.prog tab _ := tabL_base [EnBits] tables.ok mixed
  generalize hL : tabL [EnBits] = call at B
  have c_EnBits : ∀ a h, call 33 a h = EnBits.ans a h := fun _ _ => hL ▸ rfl
  clear hL
  have hz := Dg.bl_zero (n := x.natAbs)
  unfold Tryz.f27 bodyOf entry; simp only [Option.getD_some, List.length_cons, List.length_nil, Nat.reduceAdd, Nat.reduceSub]
  rcases (show x < 0 ∨ x = 0 ∨ 0 < x by omega) with hx | hx | hx
  · rw [if_pos hx]
    have : bl x.natAbs ≠ 0 := fun e => by have := hz.1 e; omega
    repeat (first
      | refine wp_seqQ ?_ | refine wp_blockQ ?_ | refine wp_scopeQ ?_
      | ((first | refine wp_skipQ ?_ | refine wp_labelQ ?_ | refine wp_exitQ ?_ | refine wp_retQ ?_); simp only [kQ, Nat.reduceEqDiff, reduceIte])
      | (refine wp_reg B ?_; simp (disch := omega) only [kW, Nat.reduceEqDiff, reduceIte, Nat.reduceLT, Nat.reduceLeDiff, Nat.reduceAdd, Nat.reduceSub, Nat.reduceMul, Nat.reducePow, Nat.reduceDiv, Nat.reduceMod, evIndexAddr, TD.agg, evFieldAddr, binA_eqB ty4, binA_neB ty4, ty3, ty4, ty29, ty31, ty33, ty92, fn33, c_EnBits, EnBits_ans, zav_cells, nav_one, nav_clean])
      | refine wp_condT rfl ?_ | refine wp_condF rfl ?_)
    refine wp_if (p := x < 0) rfl (fun _ => ?_) (fun k => absurd hx k)
    repeat (first
      | refine wp_seqQ ?_ | refine wp_blockQ ?_ | refine wp_scopeQ ?_
      | ((first | refine wp_skipQ ?_ | refine wp_labelQ ?_ | refine wp_exitQ ?_ | refine wp_retQ ?_); simp only [kQ, Nat.reduceEqDiff, reduceIte])
      | (refine wp_reg B ?_; simp (disch := omega) only [kW, Nat.reduceEqDiff, reduceIte, Nat.reduceLT, Nat.reduceLeDiff, Nat.reduceAdd, Nat.reduceSub, Nat.reduceMul, Nat.reducePow, Nat.reduceDiv, Nat.reduceMod, evIndexAddr, TD.agg, evFieldAddr, binA_eqB ty4, binA_neB ty4, ty3, ty4, ty29, ty31, ty33, ty92, fn33, c_EnBits, EnBits_ans])
      | refine wp_condT rfl ?_ | refine wp_condF rfl ?_)
    simp (disch := omega) only [kS, Nat.reduceEqDiff, reduceIte, Nat.reduceLT, Nat.reduceLeDiff, Nat.reduceAdd, Nat.reduceSub, Nat.reduceMul, Nat.reducePow, Nat.reduceDiv, Nat.reduceMod, evIndexAddr, TD.agg, evFieldAddr, binA_eqB ty4, binA_neB ty4, ty3, ty4, ty29, ty31, ty33, ty92, fn33, c_EnBits, EnBits_ans]
  · rw [if_neg (by omega), if_pos hx]
    have : bl x.natAbs = 0 := hz.2 (by omega)
    repeat (first
      | refine wp_seqQ ?_ | refine wp_blockQ ?_ | refine wp_scopeQ ?_
      | ((first | refine wp_skipQ ?_ | refine wp_labelQ ?_ | refine wp_exitQ ?_ | refine wp_retQ ?_); simp only [kQ, Nat.reduceEqDiff, reduceIte])
      | (refine wp_reg B ?_; simp (disch := omega) only [kW, Nat.reduceEqDiff, reduceIte, Nat.reduceLT, Nat.reduceLeDiff, Nat.reduceAdd, Nat.reduceSub, Nat.reduceMul, Nat.reducePow, Nat.reduceDiv, Nat.reduceMod, evIndexAddr, TD.agg, evFieldAddr, binA_eqB ty4, binA_neB ty4, ty3, ty4, ty29, ty31, ty33, ty92, fn33, c_EnBits, EnBits_ans, zav_cells, nav_one, nav_clean])
      | refine wp_condT rfl ?_ | refine wp_condF rfl ?_)
    simp (disch := omega) only [kS, Nat.reduceEqDiff, reduceIte, Nat.reduceLT, Nat.reduceLeDiff, Nat.reduceAdd, Nat.reduceSub, Nat.reduceMul, Nat.reducePow, Nat.reduceDiv, Nat.reduceMod, evIndexAddr, TD.agg, evFieldAddr, binA_eqB ty4, binA_neB ty4, ty3, ty4, ty29, ty31, ty33, ty92, fn33, c_EnBits, EnBits_ans]
  · rw [if_neg (by omega), if_neg (by omega)]
    have : bl x.natAbs ≠ 0 := fun e => by have := hz.1 e; omega
    repeat (first
      | refine wp_seqQ ?_ | refine wp_blockQ ?_ | refine wp_scopeQ ?_
      | ((first | refine wp_skipQ ?_ | refine wp_labelQ ?_ | refine wp_exitQ ?_ | refine wp_retQ ?_); simp only [kQ, Nat.reduceEqDiff, reduceIte])
      | (refine wp_reg B ?_; simp (disch := omega) only [kW, Nat.reduceEqDiff, reduceIte, Nat.reduceLT, Nat.reduceLeDiff, Nat.reduceAdd, Nat.reduceSub, Nat.reduceMul, Nat.reducePow, Nat.reduceDiv, Nat.reduceMod, evIndexAddr, TD.agg, evFieldAddr, binA_eqB ty4, binA_neB ty4, ty3, ty4, ty29, ty31, ty33, ty92, fn33, c_EnBits, EnBits_ans, zav_cells, nav_one, nav_clean])
      | refine wp_condT rfl ?_ | refine wp_condF rfl ?_)
    refine wp_if (p := x < 0) rfl (fun k => absurd k (by omega)) (fun _ => ?_)
    repeat (first
      | refine wp_seqQ ?_ | refine wp_blockQ ?_ | refine wp_scopeQ ?_
      | ((first | refine wp_skipQ ?_ | refine wp_labelQ ?_ | refine wp_exitQ ?_ | refine wp_retQ ?_); simp only [kQ, Nat.reduceEqDiff, reduceIte])
      | (refine wp_reg B ?_; simp (disch := omega) only [kW, Nat.reduceEqDiff, reduceIte, Nat.reduceLT, Nat.reduceLeDiff, Nat.reduceAdd, Nat.reduceSub, Nat.reduceMul, Nat.reducePow, Nat.reduceDiv, Nat.reduceMod, evIndexAddr, TD.agg, evFieldAddr, binA_eqB ty4, binA_neB ty4, ty3, ty4, ty29, ty31, ty33, ty92, fn33, c_EnBits, EnBits_ans])
      | refine wp_condT rfl ?_ | refine wp_condF rfl ?_)
    simp (disch := omega) only [kS, Nat.reduceEqDiff, reduceIte, Nat.reduceLT, Nat.reduceLeDiff, Nat.reduceAdd, Nat.reduceSub, Nat.reduceMul, Nat.reducePow, Nat.reduceDiv, Nat.reduceMod, evIndexAddr, TD.agg, evFieldAddr, binA_eqB ty4, binA_neB ty4, ty3, ty4, ty29, ty31, ty33, ty92, fn33, c_EnBits, EnBits_ans]
noncomputable def EzSign : Entry Tryz.prog := ⟨27, fun args h e h' => h' = h ∧ ∃ (x : Int), args = [zav x] ∧ (bl x.natAbs ≤ 100000) ∧ e = .ret (.flat (.int .i64 (if x < 0 then -1 else if x = 0 then 0 else 1))), by
  rintro args h e h' ⟨rfl, x, rfl, h1, rfl⟩
  exact ⟨Sign_sem x h1 _, Hp.Le.refl _⟩⟩
theorem EzSign_ans (x : Int) (h : Hp) (h1 : bl x.natAbs ≤ 100000) : EzSign.ans [zav x] h = some (.ret (.flat (.int .i64 (if x < 0 then -1 else if x = 0 then 0 else 1))), h) :=
  Entry.one ⟨rfl, x, rfl, h1, rfl⟩ fun e h' ⟨hh, x', ha, _, he⟩ => by simp only [kI, nav_eq, zav_eq] at ha; subst ha; exact ⟨he, hh⟩
theorem zMake_sem (s : Bool) (n : Nat) (hl : bl n ≤ 100000) (h : Hp) : SemCall Tryz.prog 11 [.flat (.bool s), .agg [nav n]] h (.ret (zav (if s = true then -(n : Int) else (n : Int)))) h := by
  refine sem_pure tables.ok Tryz.func11 rfl rfl rfl rfl (by simp [pureL, AV.pure, nav_pure]) (zav_pure _) ?_ h
  have B : Base Tryz.prog tab _ := tabL_base [EnBits] tables.ok mixed
  generalize hL : tabL [EnBits] = call at B
  have c_EnBits : ∀ a h, call 33 a h = EnBits.ans a h := fun _ _ => hL ▸ rfl
  clear hL
  have hz := Dg.bl_zero (n := n)
  unfold Tryz.f11 bodyOf entry; simp only [Option.getD_some, List.length_cons, List.length_nil, Nat.reduceAdd, Nat.reduceSub]
  cases s with
  | false =>
    simp only [Bool.false_eq_true, if_false]
    repeat (first
      | refine wp_seqQ ?_ | refine wp_blockQ ?_ | refine wp_scopeQ ?_
      | ((first | refine wp_skipQ ?_ | refine wp_labelQ ?_ | refine wp_exitQ ?_ | refine wp_retQ ?_); simp only [kQ, Nat.reduceEqDiff, reduceIte])
      | ((first | refine wp_dreg B (id := 1) [0, 1, 3, 7, 15, 31, 0, 127, 255] (by kernel_rfl) ?_ | refine wp_reg B ?_); simp (disch := omega) only [kW, kG, Nat.reduceEqDiff, reduceIte, Nat.reduceLT, Nat.reduceLeDiff, Nat.reduceAdd, Nat.reduceSub, Nat.reduceMul, Nat.reducePow, Nat.reduceDiv, Nat.reduceMod, evIndexAddr, TD.agg, evFieldAddr, binA_eqB ty4, binA_neB ty4, ty3, ty4, ty29, ty31, ty33, ty92, fn33, c_EnBits, EnBits_ans, nav_one, nav_clean])
      | refine wp_condT rfl ?_ | refine wp_condF rfl ?_)
    simp (disch := omega) only [kS, Nat.reduceEqDiff, reduceIte, Nat.reduceLT, Nat.reduceLeDiff, Nat.reduceAdd, Nat.reduceSub, Nat.reduceMul, Nat.reducePow, Nat.reduceDiv, Nat.reduceMod, evIndexAddr, TD.agg, evFieldAddr, binA_eqB ty4, binA_neB ty4, ty3, ty4, ty29, ty31, ty33, ty92, fn33, c_EnBits, EnBits_ans, zav, zs, zm, Int.natAbs_natCast]
  | true =>
    have e1 : decide ((0 : Int) < (bl n : Int)) = decide (-(n : Int) < 0) := by rw [decide_eq_decide]; omega
    repeat (first
      | refine wp_seqQ ?_ | refine wp_blockQ ?_ | refine wp_scopeQ ?_
      | ((first | refine wp_skipQ ?_ | refine wp_labelQ ?_ | refine wp_exitQ ?_ | refine wp_retQ ?_); simp only [kQ, Nat.reduceEqDiff, reduceIte])
      | ((first | refine wp_dreg B (id := 1) [0, 1, 3, 7, 15, 31, 0, 127, 255] (by kernel_rfl) ?_ | refine wp_reg B ?_); simp (disch := omega) only [kW, kG, Nat.reduceEqDiff, reduceIte, Nat.reduceLT, Nat.reduceLeDiff, Nat.reduceAdd, Nat.reduceSub, Nat.reduceMul, Nat.reducePow, Nat.reduceDiv, Nat.reduceMod, evIndexAddr, TD.agg, evFieldAddr, binA_eqB ty4, binA_neB ty4, ty3, ty4, ty29, ty31, ty33, ty92, fn33, c_EnBits, EnBits_ans, nav_one, nav_clean])
      | refine wp_condT rfl ?_ | refine wp_condF rfl ?_)
    simp (disch := omega) only [kS, Nat.reduceEqDiff, reduceIte, Nat.reduceLT, Nat.reduceLeDiff, Nat.reduceAdd, Nat.reduceSub, Nat.reduceMul, Nat.reducePow, Nat.reduceDiv, Nat.reduceMod, evIndexAddr, TD.agg, evFieldAddr, binA_eqB ty4, binA_neB ty4, ty3, ty4, ty29, ty31, ty33, ty92, fn33, c_EnBits, EnBits_ans, zav, zs, zm, Int.natAbs_neg, Int.natAbs_natCast, e1]
noncomputable def EzMake : Entry Tryz.prog := ⟨11, fun args h e h' => h' = h ∧ ∃ (s : Bool) (n : Nat), args = [.flat (.bool s), .agg [nav n]] ∧ (bl n ≤ 100000) ∧ e = .ret (zav (if s = true then -(n : Int) else (n : Int))), by
  rintro args h e h' ⟨rfl, s, n, rfl, h1, rfl⟩
  exact ⟨zMake_sem s n h1 _, Hp.Le.refl _⟩⟩
theorem EzMake_ans (s : Bool) (n : Nat) (h : Hp) (h1 : bl n ≤ 100000) : EzMake.ans [.flat (.bool s), .agg [nav n]] h = some (.ret (zav (if s = true then -(n : Int) else (n : Int))), h) :=
  Entry.one ⟨rfl, s, n, rfl, h1, rfl⟩ fun e h' ⟨hh, s', n', ha, _, he⟩ => by simp only [kI, nav_eq, zav_eq] at ha; obtain ⟨rfl, rfl⟩ := ha; exact ⟨he, hh⟩
theorem zOf_sem (n : Int) (h1 : -9223372036854775808 ≤ n) (h2 : n < 9223372036854775808) (h : Hp) : SemCall Tryz.prog 10 [.flat (.int .i64 n)] h (.ret (zav n)) h := by
  refine sem_pure tables.ok Tryz.func10 rfl rfl rfl rfl rfl (zav_pure _) ?_ h
  have B : Base Tryz.prog tab _ := tabL_base [EnOf] tables.ok mixed
  generalize hL : tabL [EnOf] = call at B
  have c_EnOf : ∀ a h, call 32 a h = EnOf.ans a h := fun _ _ => hL ▸ rfl
  clear hL
  unfold Tryz.f10 bodyOf entry; simp only [Option.getD_some, List.length_cons, List.length_nil, Nat.reduceAdd, Nat.reduceSub]
  by_cases hn : n < 0
  · have e1 : fwrap .u64 (0 - fwrap .u64 n) = (n.natAbs : Int) := by
      rw [fwrap_eq, fwrap_eq, IntKind.wrap_u64, IntKind.wrap_u64]; omega
    repeat (first
      | refine wp_seqQ ?_ | refine wp_blockQ ?_ | refine wp_scopeQ ?_
      | ((first | refine wp_skipQ ?_ | refine wp_labelQ ?_ | refine wp_exitQ ?_ | refine wp_retQ ?_); simp only [kQ, Nat.reduceEqDiff, reduceIte])
      | (refine wp_reg B ?_; simp (disch := omega) only [kW, Nat.reduceEqDiff, reduceIte, Nat.reduceLT, Nat.reduceLeDiff, Nat.reduceAdd, Nat.reduceSub, Nat.reduceMul, Nat.reducePow, Nat.reduceDiv, Nat.reduceMod, evIndexAddr, TD.agg, evFieldAddr, binA_eqB ty4, binA_neB ty4, ty2, ty4, ty29, ty31, ty33, ty62, ty92, fn32, c_EnOf, EnOf_ans, e1, nav_one, nav_clean])
      | refine wp_condT rfl ?_ | refine wp_condF rfl ?_)
    simp (disch := omega) only [kS, Nat.reduceEqDiff, reduceIte, Nat.reduceLT, Nat.reduceLeDiff, Nat.reduceAdd, Nat.reduceSub, Nat.reduceMul, Nat.reducePow, Nat.reduceDiv, Nat.reduceMod, evIndexAddr, TD.agg, evFieldAddr, binA_eqB ty4, binA_neB ty4, ty2, ty4, ty29, ty31, ty33, ty62, ty92, fn32, c_EnOf, EnOf_ans, zav, zs, zm]
  · have e1 : fwrap .u64 n = (n.natAbs : Int) := by
      rw [fwrap_eq, IntKind.wrap_u64]; omega
    repeat (first
      | refine wp_seqQ ?_ | refine wp_blockQ ?_ | refine wp_scopeQ ?_
      | ((first | refine wp_skipQ ?_ | refine wp_labelQ ?_ | refine wp_exitQ ?_ | refine wp_retQ ?_); simp only [kQ, Nat.reduceEqDiff, reduceIte])
      | (refine wp_reg B ?_; simp (disch := omega) only [kW, Nat.reduceEqDiff, reduceIte, Nat.reduceLT, Nat.reduceLeDiff, Nat.reduceAdd, Nat.reduceSub, Nat.reduceMul, Nat.reducePow, Nat.reduceDiv, Nat.reduceMod, evIndexAddr, TD.agg, evFieldAddr, binA_eqB ty4, binA_neB ty4, ty2, ty4, ty29, ty31, ty33, ty62, ty92, fn32, c_EnOf, EnOf_ans, e1, nav_one, nav_clean])
      | refine wp_condT rfl ?_ | refine wp_condF rfl ?_)
    simp (disch := omega) only [kS, Nat.reduceEqDiff, reduceIte, Nat.reduceLT, Nat.reduceLeDiff, Nat.reduceAdd, Nat.reduceSub, Nat.reduceMul, Nat.reducePow, Nat.reduceDiv, Nat.reduceMod, evIndexAddr, TD.agg, evFieldAddr, binA_eqB ty4, binA_neB ty4, ty2, ty4, ty29, ty31, ty33, ty62, ty92, fn32, c_EnOf, EnOf_ans, zav, zs, zm]
noncomputable def EzOf : Entry Tryz.prog := ⟨10, fun args h e h' => h' = h ∧ ∃ (n : Int), args = [.flat (.int .i64 n)] ∧ (-9223372036854775808 ≤ n) ∧ (n < 9223372036854775808) ∧ e = .ret (zav n), by
  rintro args h e h' ⟨rfl, n, rfl, h1, h2, rfl⟩
  exact ⟨zOf_sem n h1 h2 _, Hp.Le.refl _⟩⟩
theorem EzOf_ans (n : Int) (h : Hp) (h1 : -9223372036854775808 ≤ n) (h2 : n < 9223372036854775808) : EzOf.ans [.flat (.int .i64 n)] h = some (.ret (zav n), h) :=
  Entry.one ⟨rfl, n, rfl, h1, h2, rfl⟩ fun e h' ⟨hh, n', ha, _, _, he⟩ => by simp only [kI, nav_eq, zav_eq] at ha; subst ha; exact ⟨he, hh⟩
theorem zNeg_sem (x : Int) (hl : bl x.natAbs ≤ 100000) (h : Hp) : SemCall Tryz.prog 56 [zav x] h (.ret (zav (-x))) h := by
  refine sem_pure tables.ok Tryz.func56 rfl rfl rfl rfl (by simp [pureL, zav_pure]) (zav_pure _) ?_ h
  have B : Base Tryz.prog tab _ := tabL_base [EzMake] tables.ok mixed
  generalize hL : tabL [EzMake] = call at B
  have c_EzMake : ∀ a h, call 11 a h = EzMake.ans a h := fun _ _ => hL ▸ rfl
  clear hL
  have k1 : ∀ h, EzMake.ans [.flat (.bool (!decide (x < 0))), .agg [nav x.natAbs]] h = some (.ret (zav (-x)), h) := fun h => by
    have := EzMake_ans (!decide (x < 0)) x.natAbs h hl
    rwa [show (if (!decide (x < 0)) = true then -(x.natAbs : Int) else (x.natAbs : Int)) = -x by by_cases hx : x < 0 <;> simp [hx] <;> omega] at this
  unfold Tryz.f56 bodyOf entry; simp only [Option.getD_some, List.length_cons, List.length_nil, Nat.reduceAdd, Nat.reduceSub]
  repeat (first
    | refine wp_seqQ ?_ | refine wp_blockQ ?_ | refine wp_scopeQ ?_
    | ((first | refine wp_skipQ ?_ | refine wp_labelQ ?_ | refine wp_exitQ ?_ | refine wp_retQ ?_); simp only [kQ, Nat.reduceEqDiff, reduceIte])
    | (refine wp_reg B ?_; simp (disch := omega) only [kW, Nat.reduceEqDiff, reduceIte, Nat.reduceLT, Nat.reduceLeDiff, Nat.reduceAdd, Nat.reduceSub, Nat.reduceMul, Nat.reducePow, Nat.reduceDiv, Nat.reduceMod, evIndexAddr, TD.agg, evFieldAddr, binA_eqB ty4, binA_neB ty4, ty4, ty29, ty31, ty33, ty92, fn11, c_EzMake, EzMake_ans, k1, zav_cells, nav_one, nav_clean, zav_fold])
    | refine wp_condT rfl ?_ | refine wp_condF rfl ?_)
  simp (disch := omega) only [kS, Nat.reduceEqDiff, reduceIte, Nat.reduceLT, Nat.reduceLeDiff, Nat.reduceAdd, Nat.reduceSub, Nat.reduceMul, Nat.reducePow, Nat.reduceDiv, Nat.reduceMod, evIndexAddr, TD.agg, evFieldAddr, binA_eqB ty4, binA_neB ty4, ty4, ty29, ty31, ty33, ty92, fn11, c_EzMake, EzMake_ans, zav_fold]
noncomputable def EzNeg : Entry Tryz.prog := ⟨56, fun args h e h' => h' = h ∧ ∃ (x : Int), args = [zav x] ∧ (bl x.natAbs ≤ 100000) ∧ e = .ret (zav (-x)), by
  rintro args h e h' ⟨rfl, x, rfl, h1, rfl⟩
  exact ⟨zNeg_sem x h1 _, Hp.Le.refl _⟩⟩
theorem EzNeg_ans (x : Int) (h : Hp) (h1 : bl x.natAbs ≤ 100000) : EzNeg.ans [zav x] h = some (.ret (zav (-x)), h) :=
  Entry.one ⟨rfl, x, rfl, h1, rfl⟩ fun e h' ⟨hh, x', ha, _, he⟩ => by simp only [kI, nav_eq, zav_eq] at ha; subst ha; exact ⟨he, hh⟩
theorem must_sem (x c : Int) (h : Hp) : SemCall Tryz.prog 30 [zav x, .flat (.int .i64 c)] h (.ret (zav x)) h := by
  refine sem_pure tables.ok Tryz.func30 rfl rfl rfl rfl (by simp [pureL, zav_pure, AV.pure]) (zav_pure _) ?_ h
  have B := base0
  unfold Tryz.f30 bodyOf entry; simp only [Option.getD_some, List.length_cons, List.length_nil, Nat.reduceAdd, Nat.reduceSub]
  repeat (first
    | refine wp_seqQ ?_ | refine wp_blockQ ?_ | refine wp_scopeQ ?_
    | ((first | refine wp_skipQ ?_ | refine wp_labelQ ?_ | refine wp_exitQ ?_ | refine wp_retQ ?_); simp only [kQ, Nat.reduceEqDiff, reduceIte])
    | (refine wp_reg B ?_; simp (disch := omega) only [kW, Nat.reduceEqDiff, reduceIte, Nat.reduceLT, Nat.reduceLeDiff, Nat.reduceAdd, Nat.reduceSub, Nat.reduceMul, Nat.reducePow, Nat.reduceDiv, Nat.reduceMod, evIndexAddr, TD.agg, evFieldAddr, binA_eqB ty4, binA_neB ty4, ty4, ty29, ty31, ty33, ty92, zav_cells, nav_one, nav_clean, zav_fold])
    | refine wp_condT rfl ?_ | refine wp_condF rfl ?_)
  simp (disch := omega) only [kS, Nat.reduceEqDiff, reduceIte, Nat.reduceLT, Nat.reduceLeDiff, Nat.reduceAdd, Nat.reduceSub, Nat.reduceMul, Nat.reducePow, Nat.reduceDiv, Nat.reduceMod, evIndexAddr, TD.agg, evFieldAddr, binA_eqB ty4, binA_neB ty4, ty4, ty29, ty31, ty33, ty92, zav_fold]
noncomputable def EzMust : Entry Tryz.prog := ⟨30, fun args h e h' => h' = h ∧ ∃ (x c : Int), args = [zav x, .flat (.int .i64 c)] ∧ e = .ret (zav x), by
  rintro args h e h' ⟨rfl, x, c, rfl, rfl⟩
  exact ⟨must_sem x c _, Hp.Le.refl _⟩⟩
theorem EzMust_ans (x c : Int) (h : Hp)  : EzMust.ans [zav x, .flat (.int .i64 c)] h = some (.ret (zav x), h) :=
  Entry.one ⟨rfl, x, c, rfl, rfl⟩ fun e h' ⟨hh, x', c', ha, he⟩ => by simp only [kI, nav_eq, zav_eq] at ha; obtain ⟨rfl, rfl⟩ := ha; exact ⟨he, hh⟩
theorem mul_sign (x y : Int) : (if (!(decide (x < 0) == decide (y < 0))) = true then -((x.natAbs * y.natAbs : Nat) : Int) else ((x.natAbs * y.natAbs : Nat) : Int)) = x * y := by
  rw [Int.natCast_mul]
  by_cases hx : x < 0 <;> by_cases hy : y < 0
  · simp only [hx, hy, decide_true, beq_self_eq_true, Bool.not_true, Bool.false_eq_true, if_false]
    rw [show (x.natAbs : Int) = -x by omega, show (y.natAbs : Int) = -y by omega, Int.neg_mul_neg]
  · simp only [hx, hy, decide_true, decide_false]
    rw [show (x.natAbs : Int) = -x by omega, show (y.natAbs : Int) = y by omega, Int.neg_mul]
    simp
  · simp only [hx, hy, decide_true, decide_false]
    rw [show (x.natAbs : Int) = x by omega, show (y.natAbs : Int) = -y by omega, Int.mul_neg]
    simp
  · simp only [hx, hy, decide_false, beq_self_eq_true, Bool.not_true, Bool.false_eq_true, if_false]
    rw [show (x.natAbs : Int) = x by omega, show (y.natAbs : Int) = y by omega]
theorem zMul_sem (x y : Int) (hl : bl x.natAbs + bl y.natAbs ≤ 4096) (h : Hp) : SemCall Tryz.prog 54 [zav x, zav y] h (.ret (.tuple [zav (x * y), .flat (.int .i64 0)])) h := by
  refine sem_pure tables.ok Tryz.func54 rfl rfl rfl rfl (by simp [pureL, zav_pure]) (by simp [AV.pure, pureL, zav_pure]) ?_ h
  have B : Base Tryz.prog tab _ := tabL_base [EzMake, EnMul] tables.ok mixed
  generalize hL : tabL [EzMake, EnMul] = call at B
  have c_EzMake : ∀ a h, call 11 a h = EzMake.ans a h := fun _ _ => hL ▸ rfl
  have c_EnMul : ∀ a h, call 73 a h = EnMul.ans a h := fun _ _ => hL ▸ rfl
  clear hL
  have k1 : ∀ h, EzMake.ans [.flat (.bool (!(decide (x < 0) == decide (y < 0)))), .agg [nav (x.natAbs * y.natAbs)]] h = some (.ret (zav (x * y)), h) := fun h => by
    have := EzMake_ans (!(decide (x < 0) == decide (y < 0))) (x.natAbs * y.natAbs) h (by have := Dg.bl_mulk (Nat.le_refl (bl x.natAbs)) (Nat.le_refl (bl y.natAbs)); omega)
    rwa [mul_sign] at this
  unfold Tryz.f54 bodyOf entry; simp only [Option.getD_some, List.length_cons, List.length_nil, Nat.reduceAdd, Nat.reduceSub]
  repeat (first
    | refine wp_seqQ ?_ | refine wp_blockQ ?_ | refine wp_scopeQ ?_
    | ((first | refine wp_skipQ ?_ | refine wp_labelQ ?_ | refine wp_exitQ ?_ | refine wp_retQ ?_); simp only [kQ, Nat.reduceEqDiff, reduceIte])
    | (refine wp_reg B ?_; simp (disch := omega) only [kW, Nat.reduceEqDiff, reduceIte, Nat.reduceLT, Nat.reduceLeDiff, Nat.reduceAdd, Nat.reduceSub, Nat.reduceMul, Nat.reducePow, Nat.reduceDiv, Nat.reduceMod, evIndexAddr, TD.agg, evFieldAddr, binA_eqB ty4, binA_neB ty4, ty4, ty29, ty31, ty33, ty92, fn73, fn11, c_EzMake, EzMake_ans, c_EnMul, EnMul_ans, k1, zav_cells, nav_one, nav_clean, zav_fold])
    | refine wp_condT rfl ?_ | refine wp_condF rfl ?_)
  simp (disch := omega) only [kS, Nat.reduceEqDiff, reduceIte, Nat.reduceLT, Nat.reduceLeDiff, Nat.reduceAdd, Nat.reduceSub, Nat.reduceMul, Nat.reducePow, Nat.reduceDiv, Nat.reduceMod, evIndexAddr, TD.agg, evFieldAddr, binA_eqB ty4, binA_neB ty4, ty4, ty29, ty31, ty33, ty92, fn73, fn11, c_EzMake, EzMake_ans, c_EnMul, EnMul_ans, zav_fold]
noncomputable def EzMul : Entry Tryz.prog := ⟨54, fun args h e h' => h' = h ∧ ∃ (x y : Int), args = [zav x, zav y] ∧ (bl x.natAbs + bl y.natAbs ≤ 4096) ∧ e = .ret (.tuple [zav (x * y), .flat (.int .i64 0)]), by
  rintro args h e h' ⟨rfl, x, y, rfl, h1, rfl⟩
  exact ⟨zMul_sem x y h1 _, Hp.Le.refl _⟩⟩
theorem EzMul_ans (x y : Int) (h : Hp) (h1 : bl x.natAbs + bl y.natAbs ≤ 4096) : EzMul.ans [zav x, zav y] h = some (.ret (.tuple [zav (x * y), .flat (.int .i64 0)]), h) :=
  Entry.one ⟨rfl, x, y, rfl, h1, rfl⟩ fun e h' ⟨hh, x', y', ha, _, he⟩ => by simp only [kI, nav_eq, zav_eq] at ha; obtain ⟨rfl, rfl⟩ := ha; exact ⟨he, hh⟩
theorem cmp_lt (a b : Nat) : Dg.cmp a b < 0 ↔ a < b := by
  unfold Dg.cmp
  split
  · omega
  · split <;> omega
theorem zAdd_sem (x y : Int) (hl : bl (x.natAbs + y.natAbs) ≤ 4096) (h : Hp) : SemCall Tryz.prog 57 [zav x, zav y] h (.ret (.tuple [zav (x + y), .flat (.int .i64 0)])) h := by
  refine sem_pure tables.ok Tryz.func57 rfl rfl rfl rfl (by simp [pureL, zav_pure]) (by simp [AV.pure, pureL, zav_pure]) ?_ h
  have B : Base Tryz.prog tab _ := tabL_base [EzMake, EnAdd, EnCmp, EnSub] tables.ok mixed
  generalize hL : tabL [EzMake, EnAdd, EnCmp, EnSub] = call at B
  have c_EzMake : ∀ a h, call 11 a h = EzMake.ans a h := fun _ _ => hL ▸ rfl
  have c_EnAdd : ∀ a h, call 74 a h = EnAdd.ans a h := fun _ _ => hL ▸ rfl
  have c_EnCmp : ∀ a h, call 70 a h = EnCmp.ans a h := fun _ _ => hL ▸ rfl
  have c_EnSub : ∀ a h, call 75 a h = EnSub.ans a h := fun _ _ => hL ▸ rfl
  clear hL
  have bx : bl x.natAbs ≤ 4096 := Nat.le_trans (Dg.bl_mono' (by omega)) hl
  have bY : bl y.natAbs ≤ 4096 := Nat.le_trans (Dg.bl_mono' (by omega)) hl
  unfold Tryz.f57 bodyOf entry; simp only [Option.getD_some, List.length_cons, List.length_nil, Nat.reduceAdd, Nat.reduceSub]
  by_cases hs : (x < 0 ↔ y < 0)
  · have e1 : (decide (x < 0) == decide (y < 0)) = true := by rw [beq_iff_eq, decide_eq_decide]; exact hs
    have k1 : ∀ h, EzMake.ans [.flat (.bool (decide (x < 0))), .agg [nav (x.natAbs + y.natAbs)]] h = some (.ret (zav (x + y)), h) := fun h => by
      have := EzMake_ans (decide (x < 0)) (x.natAbs + y.natAbs) h (by omega)
      rwa [show (if decide (x < 0) = true then -((x.natAbs + y.natAbs : Nat) : Int) else ((x.natAbs + y.natAbs : Nat) : Int)) = x + y by by_cases hx : x < 0 <;> simp [hx] <;> omega] at this
    repeat (first
      | refine wp_seqQ ?_ | refine wp_blockQ ?_ | refine wp_scopeQ ?_
      | ((first | refine wp_skipQ ?_ | refine wp_labelQ ?_ | refine wp_exitQ ?_ | refine wp_retQ ?_); simp only [kQ, Nat.reduceEqDiff, reduceIte])
      | (refine wp_reg B ?_; simp (disch := omega) only [kW, Nat.reduceEqDiff, reduceIte, Nat.reduceLT, Nat.reduceLeDiff, Nat.reduceAdd, Nat.reduceSub, Nat.reduceMul, Nat.reducePow, Nat.reduceDiv, Nat.reduceMod, evIndexAddr, TD.agg, evFieldAddr, binA_eqB ty4, binA_neB ty4, ty3, ty4, ty29, ty31, ty33, ty92, fn74, fn11, fn70, fn75, c_EzMake, EzMake_ans, c_EnAdd, EnAdd_ans, c_EnCmp, EnCmp_ans, c_EnSub, EnSub_ans, e1, k1, zav_cells, nav_one, nav_clean, zav_fold])
      | refine wp_condT rfl ?_ | refine wp_condF rfl ?_)
    simp (disch := omega) only [kS, Nat.reduceEqDiff, reduceIte, Nat.reduceLT, Nat.reduceLeDiff, Nat.reduceAdd, Nat.reduceSub, Nat.reduceMul, Nat.reducePow, Nat.reduceDiv, Nat.reduceMod, evIndexAddr, TD.agg, evFieldAddr, binA_eqB ty4, binA_neB ty4, ty3, ty4, ty29, ty31, ty33, ty92, fn74, fn11, fn70, fn75, c_EzMake, EzMake_ans, c_EnAdd, EnAdd_ans, c_EnCmp, EnCmp_ans, c_EnSub, EnSub_ans, zav_fold]
  · have e1 : (decide (x < 0) == decide (y < 0)) = false := by rw [beq_eq_false_iff_ne, ne_eq, decide_eq_decide]; exact hs
    have hc := cmp_lt x.natAbs y.natAbs
    by_cases hlt : x.natAbs < y.natAbs
    · have e2 : Dg.cmp x.natAbs y.natAbs < 0 := hc.2 hlt
      have k1 : ∀ h, EzMake.ans [.flat (.bool (decide (y < 0))), .agg [nav (y.natAbs - x.natAbs)]] h = some (.ret (zav (x + y)), h) := fun h => by
        have := EzMake_ans (decide (y < 0)) (y.natAbs - x.natAbs) h (by have := Dg.bl_mono' (show y.natAbs - x.natAbs ≤ y.natAbs by omega); omega)
        rwa [show (if decide (y < 0) = true then -((y.natAbs - x.natAbs : Nat) : Int) else ((y.natAbs - x.natAbs : Nat) : Int)) = x + y by by_cases hy : y < 0 <;> simp [hy] <;> omega] at this
      have k2 := fun h => EnSub_ans y.natAbs x.natAbs h bY (by omega)
      have k3 := fun h => EnCmp_ans x.natAbs y.natAbs h (by omega) (by omega)
      generalize Dg.cmp x.natAbs y.natAbs = cm at *
      repeat (first
        | refine wp_seqQ ?_ | refine wp_blockQ ?_ | refine wp_scopeQ ?_
        | ((first | refine wp_skipQ ?_ | refine wp_labelQ ?_ | refine wp_exitQ ?_ | refine wp_retQ ?_); simp only [kQ, Nat.reduceEqDiff, reduceIte])
        | (refine wp_reg B ?_; simp (disch := omega) only [kW, Nat.reduceEqDiff, reduceIte, Nat.reduceLT, Nat.reduceLeDiff, Nat.reduceAdd, Nat.reduceSub, Nat.reduceMul, Nat.reducePow, Nat.reduceDiv, Nat.reduceMod, evIndexAddr, TD.agg, evFieldAddr, binA_eqB ty4, binA_neB ty4, ty3, ty4, ty29, ty31, ty33, ty92, fn74, fn11, fn70, fn75, c_EzMake, EzMake_ans, c_EnAdd, EnAdd_ans, c_EnCmp, EnCmp_ans, c_EnSub, EnSub_ans, e1, k1, k2, k3, zav_cells, nav_one, nav_clean, zav_fold])
        | refine wp_condT rfl ?_ | refine wp_condF rfl ?_)
      simp (disch := omega) only [kS, Nat.reduceEqDiff, reduceIte, Nat.reduceLT, Nat.reduceLeDiff, Nat.reduceAdd, Nat.reduceSub, Nat.reduceMul, Nat.reducePow, Nat.reduceDiv, Nat.reduceMod, evIndexAddr, TD.agg, evFieldAddr, binA_eqB ty4, binA_neB ty4, ty3, ty4, ty29, ty31, ty33, ty92, fn74, fn11, fn70, fn75, c_EzMake, EzMake_ans, c_EnAdd, EnAdd_ans, c_EnCmp, EnCmp_ans, c_EnSub, EnSub_ans, zav_fold]
    · have e2 : ¬ Dg.cmp x.natAbs y.natAbs < 0 := fun k => hlt (hc.1 k)
      have k1 : ∀ h, EzMake.ans [.flat (.bool (decide (x < 0))), .agg [nav (x.natAbs - y.natAbs)]] h = some (.ret (zav (x + y)), h) := fun h => by
        have := EzMake_ans (decide (x < 0)) (x.natAbs - y.natAbs) h (by have := Dg.bl_mono' (show x.natAbs - y.natAbs ≤ x.natAbs by omega); omega)
        rwa [show (if decide (x < 0) = true then -((x.natAbs - y.natAbs : Nat) : Int) else ((x.natAbs - y.natAbs : Nat) : Int)) = x + y by by_cases hx : x < 0 <;> simp [hx] <;> omega] at this
      have k2 := fun h => EnSub_ans x.natAbs y.natAbs h bx (by omega)
      have k3 := fun h => EnCmp_ans x.natAbs y.natAbs h (by omega) (by omega)
      generalize Dg.cmp x.natAbs y.natAbs = cm at *
      repeat (first
        | refine wp_seqQ ?_ | refine wp_blockQ ?_ | refine wp_scopeQ ?_
        | ((first | refine wp_skipQ ?_ | refine wp_labelQ ?_ | refine wp_exitQ ?_ | refine wp_retQ ?_); simp only [kQ, Nat.reduceEqDiff, reduceIte])
        | (refine wp_reg B ?_; simp (disch := omega) only [kW, Nat.reduceEqDiff, reduceIte, Nat.reduceLT, Nat.reduceLeDiff, Nat.reduceAdd, Nat.reduceSub, Nat.reduceMul, Nat.reducePow, Nat.reduceDiv, Nat.reduceMod, evIndexAddr, TD.agg, evFieldAddr, binA_eqB ty4, binA_neB ty4, ty3, ty4, ty29, ty31, ty33, ty92, fn74, fn11, fn70, fn75, c_EzMake, EzMake_ans, c_EnAdd, EnAdd_ans, c_EnCmp, EnCmp_ans, c_EnSub, EnSub_ans, e1, k1, k2, k3, zav_cells, nav_one, nav_clean, zav_fold])
        | refine wp_condT rfl ?_ | refine wp_condF rfl ?_)
      simp (disch := omega) only [kS, Nat.reduceEqDiff, reduceIte, Nat.reduceLT, Nat.reduceLeDiff, Nat.reduceAdd, Nat.reduceSub, Nat.reduceMul, Nat.reducePow, Nat.reduceDiv, Nat.reduceMod, evIndexAddr, TD.agg, evFieldAddr, binA_eqB ty4, binA_neB ty4, ty3, ty4, ty29, ty31, ty33, ty92, fn74, fn11, fn70, fn75, c_EzMake, EzMake_ans, c_EnAdd, EnAdd_ans, c_EnCmp, EnCmp_ans, c_EnSub, EnSub_ans, zav_fold]
noncomputable def EzAdd : Entry Tryz.prog := ⟨57, fun args h e h' => h' = h ∧ ∃ (x y : Int), args = [zav x, zav y] ∧ (bl (x.natAbs + y.natAbs) ≤ 4096) ∧ e = .ret (.tuple [zav (x + y), .flat (.int .i64 0)]), by
  rintro args h e h' ⟨rfl, x, y, rfl, h1, rfl⟩
  exact ⟨zAdd_sem x y h1 _, Hp.Le.refl _⟩⟩
theorem EzAdd_ans (x y : Int) (h : Hp) (h1 : bl (x.natAbs + y.natAbs) ≤ 4096) : EzAdd.ans [zav x, zav y] h = some (.ret (.tuple [zav (x + y), .flat (.int .i64 0)]), h) :=
  Entry.one ⟨rfl, x, y, rfl, h1, rfl⟩ fun e h' ⟨hh, x', y', ha, _, he⟩ => by simp only [kI, nav_eq, zav_eq] at ha; obtain ⟨rfl, rfl⟩ := ha; exact ⟨he, hh⟩
theorem zSub_sem (x y : Int) (hl : bl (x.natAbs + y.natAbs) ≤ 4096) (h : Hp) : SemCall Tryz.prog 53 [zav x, zav y] h (.ret (.tuple [zav (x - y), .flat (.int .i64 0)])) h := by
  refine sem_pure tables.ok Tryz.func53 rfl rfl rfl rfl (by simp [pureL, zav_pure]) (by simp [AV.pure, pureL, zav_pure]) ?_ h
  have B : Base Tryz.prog tab _ := tabL_base [EzNeg, EzAdd] tables.ok mixed
  generalize hL : tabL [EzNeg, EzAdd] = call at B
  have c_EzNeg : ∀ a h, call 56 a h = EzNeg.ans a h := fun _ _ => hL ▸ rfl
  have c_EzAdd : ∀ a h, call 57 a h = EzAdd.ans a h := fun _ _ => hL ▸ rfl
  clear hL
  have bY : bl y.natAbs ≤ 4096 := Nat.le_trans (Dg.bl_mono' (by omega)) hl
  have k1 : ∀ h, EzAdd.ans [zav x, zav (-y)] h = some (.ret (.tuple [zav (x - y), .flat (.int .i64 0)]), h) := fun h => by
    have := EzAdd_ans x (-y) h (by rw [Int.natAbs_neg]; exact hl)
    rwa [← Int.sub_eq_add_neg] at this
  unfold Tryz.f53 bodyOf entry; simp only [Option.getD_some, List.length_cons, List.length_nil, Nat.reduceAdd, Nat.reduceSub]
  repeat (first
    | refine wp_seqQ ?_ | refine wp_blockQ ?_ | refine wp_scopeQ ?_
    | ((first | refine wp_skipQ ?_ | refine wp_labelQ ?_ | refine wp_exitQ ?_ | refine wp_retQ ?_); simp only [kQ, Nat.reduceEqDiff, reduceIte])
    | ((first | refine wp_dreg B (id := 1) [0, 0, 2, 7, 15, 15, 63, 127] (by kernel_rfl) ?_ | refine wp_reg B ?_); simp (disch := omega) only [kW, kG, Nat.reduceEqDiff, reduceIte, Nat.reduceLT, Nat.reduceLeDiff, Nat.reduceAdd, Nat.reduceSub, Nat.reduceMul, Nat.reducePow, Nat.reduceDiv, Nat.reduceMod, evIndexAddr, TD.agg, evFieldAddr, binA_eqB ty4, binA_neB ty4, ty4, ty29, ty31, ty33, ty92, fn56, fn57, c_EzNeg, EzNeg_ans, c_EzAdd, EzAdd_ans, k1, zav_cells, nav_one, nav_clean, zav_fold])
    | refine wp_condT rfl ?_ | refine wp_condF rfl ?_)
  simp (disch := omega) only [kS, Nat.reduceEqDiff, reduceIte, Nat.reduceLT, Nat.reduceLeDiff, Nat.reduceAdd, Nat.reduceSub, Nat.reduceMul, Nat.reducePow, Nat.reduceDiv, Nat.reduceMod, evIndexAddr, TD.agg, evFieldAddr, binA_eqB ty4, binA_neB ty4, ty4, ty29, ty31, ty33, ty92, fn56, fn57, c_EzNeg, EzNeg_ans, c_EzAdd, EzAdd_ans, zav_fold]
noncomputable def EzSub : Entry Tryz.prog := ⟨53, fun args h e h' => h' = h ∧ ∃ (x y : Int), args = [zav x, zav y] ∧ (bl (x.natAbs + y.natAbs) ≤ 4096) ∧ e = .ret (.tuple [zav (x - y), .flat (.int .i64 0)]), by
  rintro args h e h' ⟨rfl, x, y, rfl, h1, rfl⟩
  exact ⟨zSub_sem x y h1 _, Hp.Le.refl _⟩⟩
theorem EzSub_ans (x y : Int) (h : Hp) (h1 : bl (x.natAbs + y.natAbs) ≤ 4096) : EzSub.ans [zav x, zav y] h = some (.ret (.tuple [zav (x - y), .flat (.int .i64 0)]), h) :=
  Entry.one ⟨rfl, x, y, rfl, h1, rfl⟩ fun e h' ⟨hh, x', y', ha, _, he⟩ => by simp only [kI, nav_eq, zav_eq] at ha; obtain ⟨rfl, rfl⟩ := ha; exact ⟨he, hh⟩
theorem zQuo_sem (x y : Int) (lx : bl x.natAbs ≤ 4000) (ly : bl y.natAbs ≤ 4000) (y0 : y ≠ 0) (h : Hp) : SemCall Tryz.prog 55 [zav x, zav y] h (.ret (.tuple [zav (x / y), zav (x % y), .flat (.int .i64 0)])) h := by
  refine sem_pure tables.ok Tryz.func55 rfl rfl rfl rfl (by simp [pureL, zav_pure]) (by simp [AV.pure, pureL, zav_pure]) ?_ h
  have B : Base Tryz.prog tab _ := tabL_base [EzMake, EnDiv, EnBits, EnOf, EnAdd, EnSub] tables.ok mixed
  generalize hL : tabL [EzMake, EnDiv, EnBits, EnOf, EnAdd, EnSub] = call at B
  have c_EzMake : ∀ a h, call 11 a h = EzMake.ans a h := fun _ _ => hL ▸ rfl
  have c_EnDiv : ∀ a h, call 51 a h = EnDiv.ans a h := fun _ _ => hL ▸ rfl
  have c_EnBits : ∀ a h, call 33 a h = EnBits.ans a h := fun _ _ => hL ▸ rfl
  have c_EnOf : ∀ a h, call 32 a h = EnOf.ans a h := fun _ _ => hL ▸ rfl
  have c_EnAdd : ∀ a h, call 74 a h = EnAdd.ans a h := fun _ _ => hL ▸ rfl
  have c_EnSub : ∀ a h, call 75 a h = EnSub.ans a h := fun _ _ => hL ▸ rfl
  clear hL
  obtain ⟨q1, q2⟩ := quo_law x y y0
  have b0 := Dg.bl_zero (n := x.natAbs % y.natAbs)
  have bq := Dg.bl_mono' (Nat.div_le_self x.natAbs y.natAbs)
  have hr := Nat.mod_lt x.natAbs (y := y.natAbs) (by omega)
  have br := Dg.bl_mono' (Nat.le_of_lt hr)
  have kd := fun h => EnDiv_ans x.natAbs y.natAbs h (by omega) (by omega) (by omega)
  generalize hq : x.natAbs / y.natAbs = q at *
  generalize hm : x.natAbs % y.natAbs = r at *
  have kb := fun h => EnBits_ans r h (by omega)
  unfold Tryz.f55 bodyOf entry; simp only [Option.getD_some, List.length_cons, List.length_nil, Nat.reduceAdd, Nat.reduceSub]
  by_cases hc : 0 ≤ x ∨ r = 0
  · obtain ⟨e1, e2⟩ := q1 hc
    have k1 : ∀ h, EzMake.ans [.flat (.bool (!(decide (x < 0) == decide (y < 0)))), .agg [nav q]] h = some (.ret (zav (x / y)), h) := fun h => by
      have := EzMake_ans (!(decide (x < 0) == decide (y < 0))) q h (by omega)
      rwa [e1] at this
    have k2 : ∀ h, EzMake.ans [.flat (.bool false), .agg [nav r]] h = some (.ret (zav (x % y)), h) := fun h => by
      have := EzMake_ans false r h (by omega)
      rwa [if_neg (by simp), e2] at this
    clear q1 q2 e1 e2
    by_cases hx : x < 0
    · have hb0 : bl r = 0 := b0.2 (by omega)
      rw [decide_eq_true hx] at k1
      repeat (first
        | refine wp_seqQ ?_ | refine wp_blockQ ?_ | refine wp_scopeQ ?_
        | ((first | refine wp_skipQ ?_ | refine wp_labelQ ?_ | refine wp_exitQ ?_ | refine wp_retQ ?_); simp only [kQ, Nat.reduceEqDiff, reduceIte])
        | ((first | refine wp_dreg B (id := 5) [0, 0, 3, 7, 15, 15, 31] (by kernel_rfl) ?_ | refine wp_dreg B (id := 7) [0, 1, 0, 4, 15, 0, 63, 0, 255, 511, 1023, 2047] (by kernel_rfl) ?_ | refine wp_reg B ?_); simp (disch := omega) only [kW, kG, Nat.reduceEqDiff, reduceIte, Nat.reduceLT, Nat.reduceLeDiff, Nat.reduceAdd, Nat.reduceSub, Nat.reduceMul, Nat.reducePow, Nat.reduceDiv, Nat.reduceMod, evIndexAddr, TD.agg, evFieldAddr, binA_eqB ty4, binA_neB ty4, ty3, ty4, ty24, ty29, ty31, ty33, ty62, ty92, fn51, fn33, fn32, fn74, fn75, fn11, c_EzMake, EzMake_ans, c_EnDiv, EnDiv_ans, c_EnBits, EnBits_ans, c_EnOf, EnOf_ans, c_EnAdd, EnAdd_ans, c_EnSub, EnSub_ans, k1, k2, kd, kb, hb0, zav_cells, nav_one, nav_clean, zav_fold])
        | refine wp_condT rfl ?_ | refine wp_condF rfl ?_)
      simp (disch := omega) only [kS, Nat.reduceEqDiff, reduceIte, Nat.reduceLT, Nat.reduceLeDiff, Nat.reduceAdd, Nat.reduceSub, Nat.reduceMul, Nat.reducePow, Nat.reduceDiv, Nat.reduceMod, evIndexAddr, TD.agg, evFieldAddr, binA_eqB ty4, binA_neB ty4, ty3, ty4, ty24, ty29, ty31, ty33, ty62, ty92, fn51, fn33, fn32, fn74, fn75, fn11, c_EzMake, EzMake_ans, c_EnDiv, EnDiv_ans, c_EnBits, EnBits_ans, c_EnOf, EnOf_ans, c_EnAdd, EnAdd_ans, c_EnSub, EnSub_ans, zav_fold]
    · rw [decide_eq_false hx] at k1
      repeat (first
        | refine wp_seqQ ?_ | refine wp_blockQ ?_ | refine wp_scopeQ ?_
        | ((first | refine wp_skipQ ?_ | refine wp_labelQ ?_ | refine wp_exitQ ?_ | refine wp_retQ ?_); simp only [kQ, Nat.reduceEqDiff, reduceIte])
        | ((first | refine wp_dreg B (id := 5) [0, 0, 3, 7, 15, 15, 31] (by kernel_rfl) ?_ | refine wp_dreg B (id := 7) [0, 1, 0, 4, 15, 0, 63, 0, 255, 511, 1023, 2047] (by kernel_rfl) ?_ | refine wp_reg B ?_); simp (disch := omega) only [kW, kG, Nat.reduceEqDiff, reduceIte, Nat.reduceLT, Nat.reduceLeDiff, Nat.reduceAdd, Nat.reduceSub, Nat.reduceMul, Nat.reducePow, Nat.reduceDiv, Nat.reduceMod, evIndexAddr, TD.agg, evFieldAddr, binA_eqB ty4, binA_neB ty4, ty3, ty4, ty24, ty29, ty31, ty33, ty62, ty92, fn51, fn33, fn32, fn74, fn75, fn11, c_EzMake, EzMake_ans, c_EnDiv, EnDiv_ans, c_EnBits, EnBits_ans, c_EnOf, EnOf_ans, c_EnAdd, EnAdd_ans, c_EnSub, EnSub_ans, k1, k2, kd, kb, zav_cells, nav_one, nav_clean, zav_fold])
        | refine wp_condT rfl ?_ | refine wp_condF rfl ?_)
      simp (disch := omega) only [kS, Nat.reduceEqDiff, reduceIte, Nat.reduceLT, Nat.reduceLeDiff, Nat.reduceAdd, Nat.reduceSub, Nat.reduceMul, Nat.reducePow, Nat.reduceDiv, Nat.reduceMod, evIndexAddr, TD.agg, evFieldAddr, binA_eqB ty4, binA_neB ty4, ty3, ty4, ty24, ty29, ty31, ty33, ty62, ty92, fn51, fn33, fn32, fn74, fn75, fn11, c_EzMake, EzMake_ans, c_EnDiv, EnDiv_ans, c_EnBits, EnBits_ans, c_EnOf, EnOf_ans, c_EnAdd, EnAdd_ans, c_EnSub, EnSub_ans, zav_fold]
  · obtain ⟨e1, e2⟩ := q2 (by omega) (by omega)
    have hx : x < 0 := by omega
    have bq1 := Dg.bl_succ' q
    have k1 : ∀ h, EzMake.ans [.flat (.bool (!(decide (x < 0) == decide (y < 0)))), .agg [nav (q + 1)]] h = some (.ret (zav (x / y)), h) := fun h => by
      have := EzMake_ans (!(decide (x < 0) == decide (y < 0))) (q + 1) h (by omega)
      rwa [e1] at this
    have k2 : ∀ h, EzMake.ans [.flat (.bool false), .agg [nav (y.natAbs - r)]] h = some (.ret (zav (x % y)), h) := fun h => by
      have := EzMake_ans false (y.natAbs - r) h (by have := Dg.bl_mono' (show y.natAbs - r ≤ y.natAbs by omega); omega)
      rwa [if_neg (by simp), e2] at this
    have k3 : ∀ h, EnOf.ans [.flat (.int .u64 1)] h = some (.ret (.agg [nav 1]), h) := fun h => EnOf_ans 1 h (by omega)
    have k4 := fun h => EnAdd_ans q 1 h (by omega) (by have := Dg.bl_mono' (show 1 ≤ q + 1 by omega); omega) (by omega)
    have k5 := fun h => EnSub_ans y.natAbs r h (by omega) (by omega)
    have hb0 : bl r ≠ 0 := fun e => by have := b0.1 e; omega
    clear q1 q2 e1 e2
    rw [decide_eq_true hx] at k1
    repeat (first
      | refine wp_seqQ ?_ | refine wp_blockQ ?_ | refine wp_scopeQ ?_
      | ((first | refine wp_skipQ ?_ | refine wp_labelQ ?_ | refine wp_exitQ ?_ | refine wp_retQ ?_); simp only [kQ, Nat.reduceEqDiff, reduceIte])
      | ((first | refine wp_dreg B (id := 5) [0, 0, 3, 7, 15, 15, 31] (by kernel_rfl) ?_ | refine wp_dreg B (id := 7) [0, 1, 0, 4, 15, 0, 63, 0, 255, 511, 1023, 2047] (by kernel_rfl) ?_ | refine wp_reg B ?_); simp (disch := omega) only [kW, kG, Nat.reduceEqDiff, reduceIte, Nat.reduceLT, Nat.reduceLeDiff, Nat.reduceAdd, Nat.reduceSub, Nat.reduceMul, Nat.reducePow, Nat.reduceDiv, Nat.reduceMod, evIndexAddr, TD.agg, evFieldAddr, binA_eqB ty4, binA_neB ty4, ty3, ty4, ty24, ty29, ty31, ty33, ty62, ty92, fn51, fn33, fn32, fn74, fn75, fn11, c_EzMake, EzMake_ans, c_EnDiv, EnDiv_ans, c_EnBits, EnBits_ans, c_EnOf, EnOf_ans, c_EnAdd, EnAdd_ans, c_EnSub, EnSub_ans, k1, k2, k3, k4, k5, kd, kb, zav_cells, nav_one, nav_clean, zav_fold])
      | refine wp_condT rfl ?_ | refine wp_condF rfl ?_)
    simp (disch := omega) only [kS, Nat.reduceEqDiff, reduceIte, Nat.reduceLT, Nat.reduceLeDiff, Nat.reduceAdd, Nat.reduceSub, Nat.reduceMul, Nat.reducePow, Nat.reduceDiv, Nat.reduceMod, evIndexAddr, TD.agg, evFieldAddr, binA_eqB ty4, binA_neB ty4, ty3, ty4, ty24, ty29, ty31, ty33, ty62, ty92, fn51, fn33, fn32, fn74, fn75, fn11, c_EzMake, EzMake_ans, c_EnDiv, EnDiv_ans, c_EnBits, EnBits_ans, c_EnOf, EnOf_ans, c_EnAdd, EnAdd_ans, c_EnSub, EnSub_ans, zav_fold]
noncomputable def EzQuo : Entry Tryz.prog := ⟨55, fun args h e h' => h' = h ∧ ∃ (x y : Int), args = [zav x, zav y] ∧ (bl x.natAbs ≤ 4000) ∧ (bl y.natAbs ≤ 4000) ∧ (y ≠ 0) ∧ e = .ret (.tuple [zav (x / y), zav (x % y), .flat (.int .i64 0)]), by
  rintro args h e h' ⟨rfl, x, y, rfl, h1, h2, h3, rfl⟩
  exact ⟨zQuo_sem x y h1 h2 h3 _, Hp.Le.refl _⟩⟩
theorem EzQuo_ans (x y : Int) (h : Hp) (h1 : bl x.natAbs ≤ 4000) (h2 : bl y.natAbs ≤ 4000) (h3 : y ≠ 0) : EzQuo.ans [zav x, zav y] h = some (.ret (.tuple [zav (x / y), zav (x % y), .flat (.int .i64 0)]), h) :=
  Entry.one ⟨rfl, x, y, rfl, h1, h2, h3, rfl⟩ fun e h' ⟨hh, x', y', ha, _, _, _, he⟩ => by simp only [kI, nav_eq, zav_eq] at ha; obtain ⟨rfl, rfl⟩ := ha; exact ⟨he, hh⟩
theorem zExact_sem (x y : Int) (lx : bl x.natAbs ≤ 4000) (ly : bl y.natAbs ≤ 4000) (y0 : y ≠ 0) (dv : x % y = 0) (h : Hp) : SemCall Tryz.prog 31 [zav x, zav y] h (.ret (.tuple [zav (x / y), .flat (.int .i64 0)])) h := by
  refine sem_pure tables.ok Tryz.func31 rfl rfl rfl rfl (by simp [pureL, zav_pure]) (by simp [AV.pure, pureL, zav_pure]) ?_ h
  have B : Base Tryz.prog tab _ := tabL_base [EzQuo, EzSign] tables.ok mixed
  generalize hL : tabL [EzQuo, EzSign] = call at B
  have c_EzQuo : ∀ a h, call 55 a h = EzQuo.ans a h := fun _ _ => hL ▸ rfl
  have c_EzSign : ∀ a h, call 27 a h = EzSign.ans a h := fun _ _ => hL ▸ rfl
  clear hL
  have k1 := fun h => EzQuo_ans x y h lx ly y0
  rw [dv] at k1
  have k2 : ∀ h, EzSign.ans [zav 0] h = some (.ret (.flat (.int .i64 0)), h) := fun h => by
    have := EzSign_ans 0 h (by have := Dg.bl_zero.2 (show (0 : Int).natAbs = 0 from rfl); omega)
    rwa [if_neg (by omega), if_pos rfl] at this
  unfold Tryz.f31 bodyOf entry; simp only [Option.getD_some, List.length_cons, List.length_nil, Nat.reduceAdd, Nat.reduceSub]
  repeat (first
    | refine wp_seqQ ?_ | refine wp_blockQ ?_ | refine wp_scopeQ ?_
    | ((first | refine wp_skipQ ?_ | refine wp_labelQ ?_ | refine wp_exitQ ?_ | refine wp_retQ ?_); simp only [kQ, Nat.reduceEqDiff, reduceIte])
    | (refine wp_reg B ?_; simp (disch := omega) only [kW, Nat.reduceEqDiff, reduceIte, Nat.reduceLT, Nat.reduceLeDiff, Nat.reduceAdd, Nat.reduceSub, Nat.reduceMul, Nat.reducePow, Nat.reduceDiv, Nat.reduceMod, evIndexAddr, TD.agg, evFieldAddr, binA_eqB ty4, binA_neB ty4, ty3, ty4, ty24, ty29, ty31, ty33, ty92, fn55, fn27, c_EzQuo, EzQuo_ans, c_EzSign, EzSign_ans, k1, k2, zav_cells, nav_one, nav_clean, zav_fold])
    | refine wp_condT rfl ?_ | refine wp_condF rfl ?_)
  simp (disch := omega) only [kS, Nat.reduceEqDiff, reduceIte, Nat.reduceLT, Nat.reduceLeDiff, Nat.reduceAdd, Nat.reduceSub, Nat.reduceMul, Nat.reducePow, Nat.reduceDiv, Nat.reduceMod, evIndexAddr, TD.agg, evFieldAddr, binA_eqB ty4, binA_neB ty4, ty3, ty4, ty24, ty29, ty31, ty33, ty92, fn55, fn27, c_EzQuo, EzQuo_ans, c_EzSign, EzSign_ans, zav_fold]
noncomputable def EzExact : Entry Tryz.prog := ⟨31, fun args h e h' => h' = h ∧ ∃ (x y : Int), args = [zav x, zav y] ∧ (bl x.natAbs ≤ 4000) ∧ (bl y.natAbs ≤ 4000) ∧ (y ≠ 0) ∧ (x % y = 0) ∧ e = .ret (.tuple [zav (x / y), .flat (.int .i64 0)]), by
  rintro args h e h' ⟨rfl, x, y, rfl, h1, h2, h3, h4, rfl⟩
  exact ⟨zExact_sem x y h1 h2 h3 h4 _, Hp.Le.refl _⟩⟩
theorem EzExact_ans (x y : Int) (h : Hp) (h1 : bl x.natAbs ≤ 4000) (h2 : bl y.natAbs ≤ 4000) (h3 : y ≠ 0) (h4 : x % y = 0) : EzExact.ans [zav x, zav y] h = some (.ret (.tuple [zav (x / y), .flat (.int .i64 0)]), h) :=
  Entry.one ⟨rfl, x, y, rfl, h1, h2, h3, h4, rfl⟩ fun e h' ⟨hh, x', y', ha, _, _, _, _, he⟩ => by simp only [kI, nav_eq, zav_eq] at ha; obtain ⟨rfl, rfl⟩ := ha; exact ⟨he, hh⟩
theorem step_sem (a q b : Int) (h1 : bl q.natAbs + bl b.natAbs ≤ 4096) (h2 : bl (a.natAbs + (q * b).natAbs) ≤ 4096) (h : Hp) : SemCall Tryz.prog 52 [zav a, zav q, zav b] h (.ret (zav (a - q * b))) h := by
  refine sem_pure tables.ok Tryz.func52 rfl rfl rfl rfl (by simp [pureL, zav_pure]) (zav_pure _) ?_ h
  have B : Base Tryz.prog tab _ := tabL_base [EzMul, EzMust, EzSub] tables.ok mixed
  generalize hL : tabL [EzMul, EzMust, EzSub] = call at B
  have c_EzMul : ∀ a h, call 54 a h = EzMul.ans a h := fun _ _ => hL ▸ rfl
  have c_EzMust : ∀ a h, call 30 a h = EzMust.ans a h := fun _ _ => hL ▸ rfl
  have c_EzSub : ∀ a h, call 53 a h = EzSub.ans a h := fun _ _ => hL ▸ rfl
  clear hL
  unfold Tryz.f52 bodyOf entry; simp only [Option.getD_some, List.length_cons, List.length_nil, Nat.reduceAdd, Nat.reduceSub]
  repeat (first
    | refine wp_seqQ ?_ | refine wp_blockQ ?_ | refine wp_scopeQ ?_
    | ((first | refine wp_skipQ ?_ | refine wp_labelQ ?_ | refine wp_exitQ ?_ | refine wp_retQ ?_); simp only [kQ, Nat.reduceEqDiff, reduceIte])
    | ((first | refine wp_dreg B (id := 1) [0, 0, 0, 6, 14, 14, 62, 127, 255, 255, 1023, 2047] (by kernel_rfl) ?_ | refine wp_reg B ?_); simp (disch := omega) only [kW, kG, Nat.reduceEqDiff, reduceIte, Nat.reduceLT, Nat.reduceLeDiff, Nat.reduceAdd, Nat.reduceSub, Nat.reduceMul, Nat.reducePow, Nat.reduceDiv, Nat.reduceMod, evIndexAddr, TD.agg, evFieldAddr, binA_eqB ty4, binA_neB ty4, ty4, ty24, ty29, ty31, ty33, ty92, fn54, fn30, fn53, c_EzMul, EzMul_ans, c_EzMust, EzMust_ans, c_EzSub, EzSub_ans, zav_cells, nav_one, nav_clean, zav_fold])
    | refine wp_condT rfl ?_ | refine wp_condF rfl ?_)
  simp (disch := omega) only [kS, Nat.reduceEqDiff, reduceIte, Nat.reduceLT, Nat.reduceLeDiff, Nat.reduceAdd, Nat.reduceSub, Nat.reduceMul, Nat.reducePow, Nat.reduceDiv, Nat.reduceMod, evIndexAddr, TD.agg, evFieldAddr, binA_eqB ty4, binA_neB ty4, ty4, ty24, ty29, ty31, ty33, ty92, fn54, fn30, fn53, c_EzMul, EzMul_ans, c_EzMust, EzMust_ans, c_EzSub, EzSub_ans, zav_fold]
noncomputable def EzStep : Entry Tryz.prog := ⟨52, fun args h e h' => h' = h ∧ ∃ (a q b : Int), args = [zav a, zav q, zav b] ∧ (bl q.natAbs + bl b.natAbs ≤ 4096) ∧ (bl (a.natAbs + (q * b).natAbs) ≤ 4096) ∧ e = .ret (zav (a - q * b)), by
  rintro args h e h' ⟨rfl, a, q, b, rfl, h1, h2, rfl⟩
  exact ⟨step_sem a q b h1 h2 _, Hp.Le.refl _⟩⟩
theorem EzStep_ans (a q b : Int) (h : Hp) (h1 : bl q.natAbs + bl b.natAbs ≤ 4096) (h2 : bl (a.natAbs + (q * b).natAbs) ≤ 4096) : EzStep.ans [zav a, zav q, zav b] h = some (.ret (zav (a - q * b)), h) :=
  Entry.one ⟨rfl, a, q, b, rfl, h1, h2, rfl⟩ fun e h' ⟨hh, a', q', b', ha, _, _, he⟩ => by simp only [kI, nav_eq, zav_eq] at ha; obtain ⟨rfl, rfl, rfl⟩ := ha; exact ⟨he, hh⟩
end Go.Proofs.YtkgejfokdmdikaaGreat.Iv
end
section
set_option maxHeartbeats 4000000
set_option linter.unusedVariables false
set_option linter.unusedSimpArgs false
set_option maxRecDepth 10000
namespace Go.Proofs.YtkgejfokdmdikaaGreat.Iv
open Go Go.Iv Go.RowKit Go.Proofs.YtkgejfokdmdikaaGreat.Nv
open Dg (bl Cof CofBits)
theorem WP.weaken {P : Program} {c : Code} {tm : Nat → Option AV} {n next low : Nat} {m : Nat → Option AO} {ds : List ADef} {Q : AExit → St → Prop} (b : Nat) {l : List AV} (l' : List AV) {e : Nat} {x : Bool} (hb : m b = some (.cells l e x)) (hl : FzL (fun _ => none) l l')
    (k : WP True P c ⟨tm, n, ⟨next, low, upd m b (some (.cells l' e x))⟩, ds⟩ Q) : WP True P c ⟨tm, n, ⟨next, low, m⟩, ds⟩ Q := by
  refine WP.view0 (s1 := ⟨tm, n, ⟨next, low, upd m b (some (.cells l' e x))⟩, ds⟩) (Freeze.view (g := fun _ => none) ⟨rfl, rfl, rfl, fun t => Fz.refl _ _, fun i o1 ho => ?_, fun i l h => by cases h⟩) k
  refine ⟨rfl, ?_⟩
  simp only [Hp.get] at ho ⊢
  by_cases hi : i = b
  · subst hi
    simp only [upd_eq, Option.some.injEq] at ho
    exact ⟨l, l', e, x, hb, ho.symm, hl⟩
  · rw [upd_ne _ _ hi] at ho
    cases o1 with
    | cells l1 e1 x1 => exact ⟨l1, l1, e1, x1, ho, rfl, FzL.refl _ _⟩
theorem zero_weak : FzL (fun _ => none) [.flat (.bool false), nilA] [zs 0, zm 0] := by
  have e : zm 0 = dgs [] := by simp only [zm, nav, Int.natAbs_zero, Dg.dg_zero]
  refine FzL.cons (fun ρ ρ' v _ _ h => ?_) (FzL.cons (fun ρ ρ' v _ _ h => ?_) (FzL.nil _))
  · simpa [zs, AV.rel] using h
  · rw [e]
    simp only [nilA, AV.rel] at h
    subst h
    simp only [dgs, AV.rel]
    exact ⟨none, 0, rfl, by simp, by simp, by omega, fun h => by simp at h⟩
theorem cof_sem (c m : Int) (lc : bl c.natAbs ≤ 1000) (lm : bl m.natAbs ≤ 1000) (m0 : 0 < m) (g1 : Int.gcd c m = 1) (h : Hp) : SemCall Tryz.prog 29 [zav c, zav m] h (.ret (.tuple [zav (cofX c m), zav (cofY c m)])) h := by
  refine sem_pure tables.ok Tryz.func29 rfl rfl rfl rfl (by simp [pureL, zav_pure]) (by simp [AV.pure, pureL, zav_pure]) ?_ h
  have B : Base Tryz.prog tab _ := tabL_base [EzQuo, EzSign, EzOf, EzNeg, EzStep, EzAdd, EzSub, EzMust] tables.ok mixed
  generalize hL : tabL [EzQuo, EzSign, EzOf, EzNeg, EzStep, EzAdd, EzSub, EzMust] = call at B
  have c_EzQuo : ∀ a h, call 55 a h = EzQuo.ans a h := fun _ _ => hL ▸ rfl
  have c_EzSign : ∀ a h, call 27 a h = EzSign.ans a h := fun _ _ => hL ▸ rfl
  have c_EzOf : ∀ a h, call 10 a h = EzOf.ans a h := fun _ _ => hL ▸ rfl
  have c_EzNeg : ∀ a h, call 56 a h = EzNeg.ans a h := fun _ _ => hL ▸ rfl
  have c_EzStep : ∀ a h, call 52 a h = EzStep.ans a h := fun _ _ => hL ▸ rfl
  have c_EzAdd : ∀ a h, call 57 a h = EzAdd.ans a h := fun _ _ => hL ▸ rfl
  have c_EzSub : ∀ a h, call 53 a h = EzSub.ans a h := fun _ _ => hL ▸ rfl
  have c_EzMust : ∀ a h, call 30 a h = EzMust.ans a h := fun _ _ => hL ▸ rfl
  clear hL
  have b1 := (Cof.start c m m0).bits lc lm
  have k1 := fun h => EzQuo_ans c m h (by omega) (by omega) (by omega)
  have k2 := fun h => EzNeg_ans (c / m) h (by have := b1.bz; rw [Int.natAbs_neg] at this; omega)
  have k3 := fun h => EzOf_ans 1 h (by omega) (by omega)
  unfold Tryz.f29 bodyOf entry; simp only [Option.getD_some, List.length_cons, List.length_nil, Nat.reduceAdd, Nat.reduceSub]
  repeat (first
    | refine wp_seqQ ?_ | refine wp_blockQ ?_ | refine wp_scopeQ ?_
    | ((first | refine wp_skipQ ?_ | refine wp_labelQ ?_ | refine wp_exitQ ?_ | refine wp_retQ ?_); simp only [kQ, Nat.reduceEqDiff, reduceIte])
    | ((first | refine wp_dreg B (id := 3) [0, 0, 0, 0, 0, 0, 61, 127, 255] (by kernel_rfl) ?_ | refine wp_dreg B (id := 4) [0, 0, 3, 0, 0, 31, 63] (by kernel_rfl) ?_ | refine wp_dreg B (id := 7) [0, 0, 1, 7] (by kernel_rfl) ?_ | refine wp_dreg B (id := 8) [0, 0, 0, 0, 0, 30, 63, 127] (by kernel_rfl) ?_ | refine wp_dreg B (id := 9) [0, 0, 0, 0, 0, 30, 63, 127] (by kernel_rfl) ?_ | refine wp_dreg B (id := 11) [0, 0, 3, 7, 7, 31, 0, 0, 255, 511, 511, 2047, 4095, 8191] (by kernel_rfl) ?_ | refine wp_dreg B (id := 12) [0, 0, 1, 7] (by kernel_rfl) ?_ | refine wp_reg B ?_); simp (disch := omega) only [kW, kG, Nat.reduceEqDiff, reduceIte, Nat.reduceLT, Nat.reduceLeDiff, Nat.reduceAdd, Nat.reduceSub, Nat.reduceMul, Nat.reducePow, Nat.reduceDiv, Nat.reduceMod, evIndexAddr, TD.agg, evFieldAddr, binA_eqB ty4, binA_neB ty4, ty2, ty3, ty4, ty24, ty29, ty31, ty33, ty92, fn52, fn55, fn10, fn56, fn27, fn57, fn30, fn53, c_EzQuo, EzQuo_ans, c_EzSign, EzSign_ans, c_EzOf, EzOf_ans, c_EzNeg, EzNeg_ans, c_EzStep, EzStep_ans, c_EzAdd, EzAdd_ans, c_EzSub, EzSub_ans, c_EzMust, EzMust_ans, k1, k2, k3, zav_cells, nav_one, nav_clean, zav_fold])
    | refine wp_condT rfl ?_ | refine wp_condF rfl ?_)
  refine WP.weaken (Hp.empty.next + 1 + 1 + 1 + 1 + 1 + 1 + 1) [zs 0, zm 0] (by simp (disch := omega) only [upd_eq, upd_ne]; rfl) zero_weak ?_
  refine wp_loopQ (fun k st => ∃ (r s u v w z : Int) (tm : Nat → Option AV) (hh : Hp), st = ⟨tm, 72, hh, []⟩ ∧ s.toNat = k ∧ Cof c m r s u v w z ∧ Hp.empty.next + 1 + 1 + 1 + 1 + 1 + 1 + 1 + 1 + 1 + 1 + 1 ≤ hh.next ∧ tm 2 = some (.ptr (Hp.empty.next) 0) ∧ tm 3 = some (.ptr (Hp.empty.next + 1) 0) ∧ tm 4 = some (.ptr (Hp.empty.next + 1 + 1) 0) ∧ tm 5 = some (.ptr (Hp.empty.next + 1 + 1 + 1) 0) ∧ tm 7 = some (.ptr (Hp.empty.next + 1 + 1 + 1 + 1) 0) ∧ tm 8 = some (.ptr (Hp.empty.next + 1 + 1 + 1 + 1 + 1) 0) ∧ tm 10 = some (.ptr (Hp.empty.next + 1 + 1 + 1 + 1 + 1 + 1) 0) ∧ tm 11 = some (.ptr (Hp.empty.next + 1 + 1 + 1 + 1 + 1 + 1 + 1) 0) ∧ tm 12 = some (.ptr (Hp.empty.next + 1 + 1 + 1 + 1 + 1 + 1 + 1 + 1) 0) ∧ tm 13 = some (.ptr (Hp.empty.next + 1 + 1 + 1 + 1 + 1 + 1 + 1 + 1 + 1) 0) ∧ tm 14 = some (.ptr (Hp.empty.next + 1 + 1 + 1 + 1 + 1 + 1 + 1 + 1 + 1 + 1) 0) ∧ tm 6 = some (.func (.func 52) [] []) ∧ hh.m (Hp.empty.next) = some (.cells [zs c, zm c] 33 false) ∧ hh.m (Hp.empty.next + 1) = some (.cells [zs m, zm m] 33 false) ∧ hh.m (Hp.empty.next + 1 + 1) = some (.cells [.flat (.bool false), nilA] 33 false) ∧ hh.m (Hp.empty.next + 1 + 1 + 1) = some (.cells [.flat (.bool false), nilA] 33 false) ∧ hh.m (Hp.empty.next + 1 + 1 + 1 + 1 + 1) = some (.cells [zs s, zm s] 33 false) ∧ hh.m (Hp.empty.next + 1 + 1 + 1 + 1 + 1 + 1) = some (.cells [zs r, zm r] 33 false) ∧ hh.m (Hp.empty.next + 1 + 1 + 1 + 1 + 1 + 1 + 1) = some (.cells [zs u, zm u] 33 false) ∧ hh.m (Hp.empty.next + 1 + 1 + 1 + 1 + 1 + 1 + 1 + 1) = some (.cells [zs v, zm v] 33 false) ∧ hh.m (Hp.empty.next + 1 + 1 + 1 + 1 + 1 + 1 + 1 + 1 + 1) = some (.cells [zs w, zm w] 33 false) ∧ hh.m (Hp.empty.next + 1 + 1 + 1 + 1 + 1 + 1 + 1 + 1 + 1 + 1) = some (.cells [zs z, zm z] 33 false)) (c % m).toNat ?_ ?_
  · refine ⟨m, c % m, 0, 1, 1, -(c / m), _, _, rfl, rfl, Cof.start c m m0, by simp only []; omega, ?_⟩
    simp (disch := omega) only [upd_eq, upd_ne, and_true, Nat.reduceEqDiff, ne_eq, not_false_eq_true]
  · rintro k st ⟨r, s, u, v, w, z, tm, hh, rfl, rfl, hC, hn, t2, t3, t4, t5, t7, t8, t10, t11, t12, t13, t14, t6, c0, c1, c2, c3, c5, c6, c7, c8, c9, c10⟩
    have hb := hC.bits lc lm
    have hb1 := hb.br
    have hb2 := hb.bs
    have hb3 := hb.bq
    have hb4 := hb.bv
    have hb5 := hb.bz
    have s0 := hC.s0
    by_cases s1 : s = 0
    · subst s1
      have q1 : ∀ h, EzSign.ans [zav 0] h = some (.ret (.flat (.int .i64 0)), h) := fun h => by
        have := EzSign_ans 0 h (by omega)
        rwa [if_neg (by omega), if_pos rfl] at this
      obtain ⟨_, h1, h2⟩ := hC.stop g1
      by_cases hu : u < 0
      · obtain ⟨x0, x1, e⟩ := h1 hu
        obtain ⟨ex, ey⟩ := cof_spec x0 x1 e
        rw [ex, ey]
        have q2 : ∀ h, EzSign.ans [zav u] h = some (.ret (.flat (.int .i64 (-1))), h) := fun h => by
          have := EzSign_ans u h (by have := Dg.bl_mono' hC.vm.2; omega)
          rwa [if_pos hu] at this
        have q3 := fun h => EzAdd_ans u m h (by have := hb.um; omega)
        have q4 := fun h => EzSub_ans w c h (by have := hb.wc; omega)
        repeat (first
          | refine wp_seqQ ?_ | refine wp_blockQ ?_ | refine wp_scopeQ ?_
          | ((first | refine wp_skipQ ?_ | refine wp_labelQ ?_ | refine wp_exitQ ?_ | refine wp_retQ ?_); simp only [kQ, Nat.reduceEqDiff, reduceIte])
          | ((first | refine wp_dreg B (id := 3) [0, 0, 0, 0, 0, 0, 61, 127, 255] (by kernel_rfl) ?_ | refine wp_dreg B (id := 4) [0, 0, 3, 0, 0, 31, 63] (by kernel_rfl) ?_ | refine wp_dreg B (id := 7) [0, 0, 1, 7] (by kernel_rfl) ?_ | refine wp_dreg B (id := 8) [0, 0, 0, 0, 0, 30, 63, 127] (by kernel_rfl) ?_ | refine wp_dreg B (id := 9) [0, 0, 0, 0, 0, 30, 63, 127] (by kernel_rfl) ?_ | refine wp_dreg B (id := 11) [0, 0, 3, 7, 7, 31, 0, 0, 255, 511, 511, 2047, 4095, 8191] (by kernel_rfl) ?_ | refine wp_dreg B (id := 12) [0, 0, 1, 7] (by kernel_rfl) ?_ | refine wp_reg B ?_); simp (disch := omega) only [kW, kG, Nat.reduceEqDiff, reduceIte, Nat.reduceLT, Nat.reduceLeDiff, Nat.reduceAdd, Nat.reduceSub, Nat.reduceMul, Nat.reducePow, Nat.reduceDiv, Nat.reduceMod, evIndexAddr, TD.agg, evFieldAddr, binA_eqB ty4, binA_neB ty4, ty2, ty3, ty4, ty24, ty29, ty31, ty33, ty92, fn52, fn55, fn10, fn56, fn27, fn57, fn30, fn53, c_EzQuo, EzQuo_ans, c_EzSign, EzSign_ans, c_EzOf, EzOf_ans, c_EzNeg, EzNeg_ans, c_EzStep, EzStep_ans, c_EzAdd, EzAdd_ans, c_EzSub, EzSub_ans, c_EzMust, EzMust_ans, q1, q2, q3, q4, t2, t3, t4, t5, t7, t8, t10, t11, t12, t13, t14, t6, c0, c1, c2, c3, c5, c6, c7, c8, c9, c10, zav_cells, nav_one, nav_clean, zav_fold])
          | refine wp_condT rfl ?_ | refine wp_condF rfl ?_)
        simp (disch := omega) only [kS, Nat.reduceEqDiff, reduceIte, Nat.reduceLT, Nat.reduceLeDiff, Nat.reduceAdd, Nat.reduceSub, Nat.reduceMul, Nat.reducePow, Nat.reduceDiv, Nat.reduceMod, evIndexAddr, TD.agg, evFieldAddr, binA_eqB ty4, binA_neB ty4, ty2, ty3, ty4, ty24, ty29, ty31, ty33, ty92, fn52, fn55, fn10, fn56, fn27, fn57, fn30, fn53, c_EzQuo, EzQuo_ans, c_EzSign, EzSign_ans, c_EzOf, EzOf_ans, c_EzNeg, EzNeg_ans, c_EzStep, EzStep_ans, c_EzAdd, EzAdd_ans, c_EzSub, EzSub_ans, c_EzMust, EzMust_ans, zav_fold, t2, t3, t4, t5, t7, t8, t10, t11, t12, t13, t14, t6, c0, c1, c2, c3, c5, c6, c7, c8, c9, c10, zav_cells, nav_one, nav_clean, zav_fold]
      · obtain ⟨x0, x1, e⟩ := h2 hu
        obtain ⟨ex, ey⟩ := cof_spec x0 x1 e
        rw [ex, ey]
        obtain ⟨q, hq, hq0⟩ : ∃ q : Int, q = (if u < 0 then -1 else if u = 0 then 0 else 1) ∧ 0 ≤ q := ⟨_, rfl, by rw [if_neg hu]; split <;> omega⟩
        have q2 : ∀ h, EzSign.ans [zav u] h = some (.ret (.flat (.int .i64 q)), h) := fun h => by
          have := EzSign_ans u h (by have := Dg.bl_mono' hC.vm.2; omega)
          rwa [← hq] at this
        clear hq
        repeat (first
          | refine wp_seqQ ?_ | refine wp_blockQ ?_ | refine wp_scopeQ ?_
          | ((first | refine wp_skipQ ?_ | refine wp_labelQ ?_ | refine wp_exitQ ?_ | refine wp_retQ ?_); simp only [kQ, Nat.reduceEqDiff, reduceIte])
          | ((first | refine wp_dreg B (id := 3) [0, 0, 0, 0, 0, 0, 61, 127, 255] (by kernel_rfl) ?_ | refine wp_dreg B (id := 4) [0, 0, 3, 0, 0, 31, 63] (by kernel_rfl) ?_ | refine wp_dreg B (id := 7) [0, 0, 1, 7] (by kernel_rfl) ?_ | refine wp_dreg B (id := 8) [0, 0, 0, 0, 0, 30, 63, 127] (by kernel_rfl) ?_ | refine wp_dreg B (id := 9) [0, 0, 0, 0, 0, 30, 63, 127] (by kernel_rfl) ?_ | refine wp_dreg B (id := 11) [0, 0, 3, 7, 7, 31, 0, 0, 255, 511, 511, 2047, 4095, 8191] (by kernel_rfl) ?_ | refine wp_dreg B (id := 12) [0, 0, 1, 7] (by kernel_rfl) ?_ | refine wp_reg B ?_); simp (disch := omega) only [kW, kG, Nat.reduceEqDiff, reduceIte, Nat.reduceLT, Nat.reduceLeDiff, Nat.reduceAdd, Nat.reduceSub, Nat.reduceMul, Nat.reducePow, Nat.reduceDiv, Nat.reduceMod, evIndexAddr, TD.agg, evFieldAddr, binA_eqB ty4, binA_neB ty4, ty2, ty3, ty4, ty24, ty29, ty31, ty33, ty92, fn52, fn55, fn10, fn56, fn27, fn57, fn30, fn53, c_EzQuo, EzQuo_ans, c_EzSign, EzSign_ans, c_EzOf, EzOf_ans, c_EzNeg, EzNeg_ans, c_EzStep, EzStep_ans, c_EzAdd, EzAdd_ans, c_EzSub, EzSub_ans, c_EzMust, EzMust_ans, q1, q2, t2, t3, t4, t5, t7, t8, t10, t11, t12, t13, t14, t6, c0, c1, c2, c3, c5, c6, c7, c8, c9, c10, zav_cells, nav_one, nav_clean, zav_fold])
          | refine wp_condT rfl ?_ | refine wp_condF rfl ?_)
        simp (disch := omega) only [kS, Nat.reduceEqDiff, reduceIte, Nat.reduceLT, Nat.reduceLeDiff, Nat.reduceAdd, Nat.reduceSub, Nat.reduceMul, Nat.reducePow, Nat.reduceDiv, Nat.reduceMod, evIndexAddr, TD.agg, evFieldAddr, binA_eqB ty4, binA_neB ty4, ty2, ty3, ty4, ty24, ty29, ty31, ty33, ty92, fn52, fn55, fn10, fn56, fn27, fn57, fn30, fn53, c_EzQuo, EzQuo_ans, c_EzSign, EzSign_ans, c_EzOf, EzOf_ans, c_EzNeg, EzNeg_ans, c_EzStep, EzStep_ans, c_EzAdd, EzAdd_ans, c_EzSub, EzSub_ans, c_EzMust, EzMust_ans, zav_fold, t2, t3, t4, t5, t7, t8, t10, t11, t12, t13, t14, t6, c0, c1, c2, c3, c5, c6, c7, c8, c9, c10, zav_cells, nav_one, nav_clean, zav_fold]
    · have q1 : ∀ h, EzSign.ans [zav s] h = some (.ret (.flat (.int .i64 1)), h) := fun h => by
        have := EzSign_ans s h (by omega)
        rwa [if_neg (by omega), if_neg s1] at this
      have q2 := fun h => EzQuo_ans r s h (by omega) (by omega) s1
      have q3 := fun h => EzStep_ans u (r / s) v h (by omega) (by have := hb.uv; omega)
      have q4 := fun h => EzStep_ans w (r / s) z h (by omega) (by have := hb.wz; omega)
      have hN := hC.next s1
      have hl := Int.emod_lt_of_pos r (show 0 < s by omega)
      have hl0 := Int.emod_nonneg r s1
      repeat (first
        | refine wp_seqQ ?_ | refine wp_blockQ ?_ | refine wp_scopeQ ?_
        | ((first | refine wp_skipQ ?_ | refine wp_labelQ ?_ | refine wp_exitQ ?_ | refine wp_retQ ?_); simp only [kQ, Nat.reduceEqDiff, reduceIte])
        | ((first | refine wp_dreg B (id := 3) [0, 0, 0, 0, 0, 0, 61, 127, 255] (by kernel_rfl) ?_ | refine wp_dreg B (id := 4) [0, 0, 3, 0, 0, 31, 63] (by kernel_rfl) ?_ | refine wp_dreg B (id := 7) [0, 0, 1, 7] (by kernel_rfl) ?_ | refine wp_dreg B (id := 8) [0, 0, 0, 0, 0, 30, 63, 127] (by kernel_rfl) ?_ | refine wp_dreg B (id := 9) [0, 0, 0, 0, 0, 30, 63, 127] (by kernel_rfl) ?_ | refine wp_dreg B (id := 11) [0, 0, 3, 7, 7, 31, 0, 0, 255, 511, 511, 2047, 4095, 8191] (by kernel_rfl) ?_ | refine wp_dreg B (id := 12) [0, 0, 1, 7] (by kernel_rfl) ?_ | refine wp_reg B ?_); simp (disch := omega) only [kW, kG, Nat.reduceEqDiff, reduceIte, Nat.reduceLT, Nat.reduceLeDiff, Nat.reduceAdd, Nat.reduceSub, Nat.reduceMul, Nat.reducePow, Nat.reduceDiv, Nat.reduceMod, evIndexAddr, TD.agg, evFieldAddr, binA_eqB ty4, binA_neB ty4, ty2, ty3, ty4, ty24, ty29, ty31, ty33, ty92, fn52, fn55, fn10, fn56, fn27, fn57, fn30, fn53, c_EzQuo, EzQuo_ans, c_EzSign, EzSign_ans, c_EzOf, EzOf_ans, c_EzNeg, EzNeg_ans, c_EzStep, EzStep_ans, c_EzAdd, EzAdd_ans, c_EzSub, EzSub_ans, c_EzMust, EzMust_ans, q1, q2, q3, q4, t2, t3, t4, t5, t7, t8, t10, t11, t12, t13, t14, t6, c0, c1, c2, c3, c5, c6, c7, c8, c9, c10, zav_cells, nav_one, nav_clean, zav_fold])
        | refine wp_condT rfl ?_ | refine wp_condF rfl ?_)
      refine ⟨(r % s).toNat, by omega, s, r % s, v, u - r / s * v, z, w - r / s * z, _, _, rfl, rfl, hN, by simp only []; omega, ?_⟩
      simp (disch := omega) only [upd_eq, upd_ne, and_true, Nat.reduceEqDiff, ne_eq, not_false_eq_true, t2, t3, t4, t5, t7, t8, t10, t11, t12, t13, t14, t6, c0, c1, c2, c3, c5, c6, c7, c8, c9, c10, zav_cells, nav_one, nav_clean, zav_fold]
noncomputable def EzCof : Entry Tryz.prog := ⟨29, fun args h e h' => h' = h ∧ ∃ (c m : Int), args = [zav c, zav m] ∧ (bl c.natAbs ≤ 1000) ∧ (bl m.natAbs ≤ 1000) ∧ (0 < m) ∧ (Int.gcd c m = 1) ∧ e = .ret (.tuple [zav (cofX c m), zav (cofY c m)]), by
  rintro args h e h' ⟨rfl, c, m, rfl, h1, h2, h3, h4, rfl⟩
  exact ⟨cof_sem c m h1 h2 h3 h4 _, Hp.Le.refl _⟩⟩
theorem EzCof_ans (c m : Int) (h : Hp) (h1 : bl c.natAbs ≤ 1000) (h2 : bl m.natAbs ≤ 1000) (h3 : 0 < m) (h4 : Int.gcd c m = 1) : EzCof.ans [zav c, zav m] h = some (.ret (.tuple [zav (cofX c m), zav (cofY c m)]), h) :=
  Entry.one ⟨rfl, c, m, rfl, h1, h2, h3, h4, rfl⟩ fun e h' ⟨hh, c', m', ha, _, _, _, _, he⟩ => by simp only [kI, nav_eq, zav_eq] at ha; obtain ⟨rfl, rfl⟩ := ha; exact ⟨he, hh⟩
theorem zGcd_sem0 (a : Int) (ha : bl a.natAbs ≤ 1000) (h : Hp) : SemCall Tryz.prog 9 [zav a, zav 0] h (.ret (.tuple [.agg [nav a.natAbs], zav (gX a 0), .agg [.flat (.bool false), nilA]])) h := by
  refine sem_pure tables.ok Tryz.func9 rfl rfl rfl rfl (by simp [pureL, zav_pure]) (by simp [AV.pure, pureL, zav_pure, nav_pure, nilA]) ?_ h
  have B : Base Tryz.prog tab _ := tabL_base [EzSign, EzOf] tables.ok mixed
  generalize hL : tabL [EzSign, EzOf] = call at B
  have c_EzSign : ∀ a h, call 27 a h = EzSign.ans a h := fun _ _ => hL ▸ rfl
  have c_EzOf : ∀ a h, call 10 a h = EzOf.ans a h := fun _ _ => hL ▸ rfl
  clear hL
  have k1 : ∀ h, EzSign.ans [zav 0] h = some (.ret (.flat (.int .i64 0)), h) := fun h => by
    have := EzSign_ans 0 h (by have := Dg.bl_zero.2 (show (0 : Int).natAbs = 0 from rfl); omega)
    rwa [if_neg (by omega), if_pos rfl] at this
  simp only [gX, if_true]
  obtain ⟨q, hq, hq0, hq1⟩ : ∃ q : Int, q = (if a < 0 then -1 else if a = 0 then 0 else 1) ∧ -1 ≤ q ∧ q ≤ 1 := ⟨_, rfl, by split <;> (try split) <;> omega, by split <;> (try split) <;> omega⟩
  have k2 : ∀ h, EzSign.ans [zav a] h = some (.ret (.flat (.int .i64 q)), h) := fun h => by
    have := EzSign_ans a h (by omega)
    rwa [← hq] at this
  rw [← hq]
  clear hq
  have k3 := fun h => EzOf_ans q h (by omega) (by omega)
  unfold Tryz.f9 bodyOf entry; simp only [Option.getD_some, List.length_cons, List.length_nil, Nat.reduceAdd, Nat.reduceSub]
  repeat (first
    | refine wp_seqQ ?_ | refine wp_blockQ ?_ | refine wp_scopeQ ?_
    | ((first | refine wp_skipQ ?_ | refine wp_labelQ ?_ | refine wp_exitQ ?_ | refine wp_retQ ?_); simp only [kQ, Nat.reduceEqDiff, reduceIte])
    | ((first | refine wp_dreg B (id := 2) [0, 1, 0, 4, 12, 0, 31, 95, 255] (by kernel_rfl) ?_ | refine wp_dreg B (id := 5) [0, 0, 3, 7, 7, 31, 0, 64, 255, 0, 1023, 2047, 2047, 8191, 16383, 32767, 65535, 65535, 131071, 524287] (by kernel_rfl) ?_ | refine wp_dreg B (id := 6) [0, 0, 0, 4, 0, 16, 60, 0, 128, 508, 1021, 2047, 4095] (by kernel_rfl) ?_ | refine wp_reg B ?_); simp (disch := omega) only [kW, kG, Nat.reduceEqDiff, reduceIte, Nat.reduceLT, Nat.reduceLeDiff, Nat.reduceAdd, Nat.reduceSub, Nat.reduceMul, Nat.reducePow, Nat.reduceDiv, Nat.reduceMod, evIndexAddr, TD.agg, evFieldAddr, binA_eqB ty4, binA_neB ty4, ty2, ty3, ty4, ty24, ty29, ty31, ty33, ty92, fn27, fn10, fn28, fn11, fn31, fn30, fn29, c_EzSign, EzSign_ans, c_EzOf, EzOf_ans, k1, k2, k3, zav_cells, nav_one, nav_clean, zav_fold])
    | refine wp_condT rfl ?_ | refine wp_condF rfl ?_)
  simp (disch := omega) only [kS, Nat.reduceEqDiff, reduceIte, Nat.reduceLT, Nat.reduceLeDiff, Nat.reduceAdd, Nat.reduceSub, Nat.reduceMul, Nat.reducePow, Nat.reduceDiv, Nat.reduceMod, evIndexAddr, TD.agg, evFieldAddr, binA_eqB ty4, binA_neB ty4, ty2, ty3, ty4, ty24, ty29, ty31, ty33, ty92, fn27, fn10, fn28, fn11, fn31, fn30, fn29, c_EzSign, EzSign_ans, c_EzOf, EzOf_ans, nilA, zav_fold]
theorem zGcd_sem1 (a b : Int) (la : bl a.natAbs ≤ 1000) (lb : bl b.natAbs ≤ 1000) (b0 : b ≠ 0) (h : Hp) : SemCall Tryz.prog 9 [zav a, zav b] h (.ret (.tuple [.agg [nav (Int.gcd a b)], zav (gX a b), zav (gY a b)])) h := by
  refine sem_pure tables.ok Tryz.func9 rfl rfl rfl rfl (by simp [pureL, zav_pure]) (by simp [AV.pure, pureL, zav_pure, nav_pure]) ?_ h
  have B : Base Tryz.prog tab _ := tabL_base [EzSign, EnGcd, EzMake, EzExact, EzMust, EzCof] tables.ok mixed
  generalize hL : tabL [EzSign, EnGcd, EzMake, EzExact, EzMust, EzCof] = call at B
  have c_EzSign : ∀ a h, call 27 a h = EzSign.ans a h := fun _ _ => hL ▸ rfl
  have c_EnGcd : ∀ a h, call 28 a h = EnGcd.ans a h := fun _ _ => hL ▸ rfl
  have c_EzMake : ∀ a h, call 11 a h = EzMake.ans a h := fun _ _ => hL ▸ rfl
  have c_EzExact : ∀ a h, call 31 a h = EzExact.ans a h := fun _ _ => hL ▸ rfl
  have c_EzMust : ∀ a h, call 30 a h = EzMust.ans a h := fun _ _ => hL ▸ rfl
  have c_EzCof : ∀ a h, call 29 a h = EzCof.ans a h := fun _ _ => hL ▸ rfl
  clear hL
  obtain ⟨q, hq, hq0⟩ : ∃ q : Int, q = (if b < 0 then -1 else if b = 0 then 0 else 1) ∧ q ≠ 0 := ⟨_, rfl, by split <;> (try split) <;> omega⟩
  have k1 : ∀ h, EzSign.ans [zav b] h = some (.ret (.flat (.int .i64 q)), h) := fun h => by
    have := EzSign_ans b h (by omega)
    rwa [← hq] at this
  have k2 : ∀ h, EnGcd.ans [.agg [zm a], .agg [zm b]] h = some (.ret (.agg [nav (Int.gcd a b)]), h) := fun h => EnGcd_ans a.natAbs b.natAbs h (by omega) (by omega)
  have k := GcdK.mk' a b b0
  obtain ⟨x0, x1, xe, yb⟩ := cof_ex k.m0 k.g1
  have gz : ((Int.gcd a b : Nat) : Int) ≠ 0 := by have := k.g0; omega
  have bg := Dg.bl_mono' k.lg
  have bc := Dg.bl_mono' k.lc
  have bm := Dg.bl_mono' k.lm
  have k3 : ∀ h, EzMake.ans [.flat (.bool false), .agg [nav (Int.gcd a b)]] h = some (.ret (zav ((Int.gcd a b : Nat) : Int)), h) := fun h => EzMake_ans false (Int.gcd a b) h (by omega)
  have k4 : ∀ h, EzMake.ans [.flat (.bool false), .agg [zm b]] h = some (.ret (zav (b.natAbs : Int)), h) := fun h => EzMake_ans false b.natAbs h (by omega)
  have k5 := fun h => EzExact_ans a ((Int.gcd a b : Nat) : Int) h (by omega) (by rw [Int.natAbs_natCast]; omega) gz k.da
  have k6 := fun h => EzExact_ans (b.natAbs : Int) ((Int.gcd a b : Nat) : Int) h (by rw [Int.natAbs_natCast]; omega) (by rw [Int.natAbs_natCast]; omega) gz k.db
  have k7 := fun h => EzCof_ans _ _ h (by omega : bl (a / ((Int.gcd a b : Nat) : Int)).natAbs ≤ 1000) (by omega : bl ((b.natAbs : Int) / ((Int.gcd a b : Nat) : Int)).natAbs ≤ 1000) k.m0 k.g1
  have by0 : bl (cofY (a / ((Int.gcd a b : Nat) : Int)) ((b.natAbs : Int) / ((Int.gcd a b : Nat) : Int))).natAbs ≤ 1001 := by
    have := Dg.bl_mono' yb
    have := Dg.bl_succ' (a / ((Int.gcd a b : Nat) : Int)).natAbs
    rw [Nat.add_comm] at this
    omega
  simp only [gX, gY, if_neg b0, sgn]
  generalize hc : a / ((Int.gcd a b : Nat) : Int) = c at *
  generalize hm : (b.natAbs : Int) / ((Int.gcd a b : Nat) : Int) = m at *
  generalize cofX c m = X at *
  generalize cofY c m = Y at *
  have k8 : ∀ h, EzMake.ans [.flat (.bool (!(decide (Y < 0) == decide (b < 0)))), .agg [zm Y]] h = some (.ret (zav (if b < 0 then -Y else Y)), h) := fun h => by
    have := EzMake_ans (!(decide (Y < 0) == decide (b < 0))) Y.natAbs h (by omega)
    rwa [show (if (!(decide (Y < 0) == decide (b < 0))) = true then -(Y.natAbs : Int) else (Y.natAbs : Int)) = (if b < 0 then -Y else Y) by by_cases h1 : Y < 0 <;> by_cases h2 : b < 0 <;> simp [h1, h2] <;> omega] at this
  clear xe x0 x1 yb hq
  unfold Tryz.f9 bodyOf entry; simp only [Option.getD_some, List.length_cons, List.length_nil, Nat.reduceAdd, Nat.reduceSub]
  repeat (first
    | refine wp_seqQ ?_ | refine wp_blockQ ?_ | refine wp_scopeQ ?_
    | ((first | refine wp_skipQ ?_ | refine wp_labelQ ?_ | refine wp_exitQ ?_ | refine wp_retQ ?_); simp only [kQ, Nat.reduceEqDiff, reduceIte])
    | ((first | refine wp_dreg B (id := 2) [0, 1, 0, 4, 12, 0, 31, 95, 255] (by kernel_rfl) ?_ | refine wp_dreg B (id := 5) [0, 0, 3, 7, 7, 31, 0, 64, 255, 0, 1023, 2047, 2047, 8191, 16383, 32767, 65535, 65535, 131071, 524287] (by kernel_rfl) ?_ | refine wp_dreg B (id := 6) [0, 0, 0, 4, 0, 16, 60, 0, 128, 508, 1021, 2047, 4095] (by kernel_rfl) ?_ | refine wp_reg B ?_); simp (disch := omega) only [kW, kG, Nat.reduceEqDiff, reduceIte, Nat.reduceLT, Nat.reduceLeDiff, Nat.reduceAdd, Nat.reduceSub, Nat.reduceMul, Nat.reducePow, Nat.reduceDiv, Nat.reduceMod, evIndexAddr, TD.agg, evFieldAddr, binA_eqB ty4, binA_neB ty4, ty2, ty3, ty4, ty24, ty29, ty31, ty33, ty92, fn27, fn10, fn28, fn11, fn31, fn30, fn29, c_EzSign, EzSign_ans, c_EnGcd, EnGcd_ans, c_EzMake, EzMake_ans, c_EzExact, EzExact_ans, c_EzMust, EzMust_ans, c_EzCof, EzCof_ans, k1, k2, k3, k4, k5, k6, k7, k8, zav_cells, nav_one, nav_clean, zav_fold])
    | refine wp_condT rfl ?_ | refine wp_condF rfl ?_)
  simp (disch := omega) only [kS, Nat.reduceEqDiff, reduceIte, Nat.reduceLT, Nat.reduceLeDiff, Nat.reduceAdd, Nat.reduceSub, Nat.reduceMul, Nat.reducePow, Nat.reduceDiv, Nat.reduceMod, evIndexAddr, TD.agg, evFieldAddr, binA_eqB ty4, binA_neB ty4, ty2, ty3, ty4, ty24, ty29, ty31, ty33, ty92, fn27, fn10, fn28, fn11, fn31, fn30, fn29, c_EzSign, EzSign_ans, c_EnGcd, EnGcd_ans, c_EzMake, EzMake_ans, c_EzExact, EzExact_ans, c_EzMust, EzMust_ans, c_EzCof, EzCof_ans, zav_fold]
theorem zero_rel (ρ : Ren) (x : Value) (h : (AV.agg [.flat (.bool false), nilA]).rel ρ x) : (zav 0).rel ρ x := by
  simp only [zav, AV.rel] at h ⊢
  obtain ⟨l, rfl, hl⟩ := h
  exact ⟨l, rfl, zero_weak ρ ρ l (Ren.le.refl _) (fun _ _ _ _ h => by cases h) hl⟩
theorem zGcd_sem (a b : Int) (la : bl a.natAbs ≤ 1000) (lb : bl b.natAbs ≤ 1000) (h : Hp) : SemCall Tryz.prog 9 [zav a, zav b] h (.ret (.tuple [.agg [nav (Int.gcd a b)], zav (gX a b), zav (gY a b)])) h := by
  by_cases b0 : b = 0
  · subst b0
    refine SemCall.weak (zGcd_sem0 a la h) fun ρ x hx => ?_
    simp only [AV.rel] at hx
    obtain ⟨l, rfl, hl⟩ := hx
    obtain ⟨V1, l1, rfl, h1, hl1⟩ := relL_cons.1 hl
    obtain ⟨V2, V3, rfl, h2, h3⟩ := relL2 hl1
    simp only [gY, if_true, Int.gcd_zero_right]
    exact rel_tuple3 h1 h2 (zero_rel ρ V3 h3)
  · exact zGcd_sem1 a b la lb b0 h
noncomputable def EzGcd : Entry Tryz.prog := ⟨9, fun args h e h' => h' = h ∧ ∃ (a b : Int), args = [zav a, zav b] ∧ (bl a.natAbs ≤ 1000) ∧ (bl b.natAbs ≤ 1000) ∧ e = .ret (.tuple [.agg [nav (Int.gcd a b)], zav (gX a b), zav (gY a b)]), by
  rintro args h e h' ⟨rfl, a, b, rfl, h1, h2, rfl⟩
  exact ⟨zGcd_sem a b h1 h2 _, Hp.Le.refl _⟩⟩
theorem EzGcd_ans (a b : Int) (h : Hp) (h1 : bl a.natAbs ≤ 1000) (h2 : bl b.natAbs ≤ 1000) : EzGcd.ans [zav a, zav b] h = some (.ret (.tuple [.agg [nav (Int.gcd a b)], zav (gX a b), zav (gY a b)]), h) :=
  Entry.one ⟨rfl, a, b, rfl, h1, h2, rfl⟩ fun e h' ⟨hh, a', b', ha, _, _, he⟩ => by simp only [kI, nav_eq, zav_eq] at ha; obtain ⟨rfl, rfl⟩ := ha; exact ⟨he, hh⟩
end Go.Proofs.YtkgejfokdmdikaaGreat.Iv
end
section
set_option maxHeartbeats 4000000
set_option linter.unusedVariables false
set_option linter.unusedSimpArgs false
set_option maxRecDepth 10000
namespace Go.Proofs.YtkgejfokdmdikaaGreat.Iv
open Go Go.Iv Go.RowKit Go.Proofs.YtkgejfokdmdikaaGreat.Nv
open Dg (bl Cof CofBits)
noncomputable def EsOf : Entry Tryz.prog := ⟨42, fun args h e h' => h' = h ∧ ∃ (n : Nat), args = [.flat (.int .u64 (n : Int))] ∧ (n < 18446744073709551616) ∧ e = .ret (rnav n), by
  rintro args h e h' ⟨rfl, n, rfl, h1, rfl⟩
  exact ⟨sOf_sem n h1 _, Hp.Le.refl _⟩⟩
theorem EsOf_ans (n : Nat) (h : Hp) (h1 : n < 18446744073709551616) : EsOf.ans [.flat (.int .u64 (n : Int))] h = some (.ret (rnav n), h) :=
  Entry.one ⟨rfl, n, rfl, h1, rfl⟩ fun e h' ⟨hh, n', ha, _, he⟩ => by simp only [kI, rnav_eq, rzav_eq] at ha; subst ha; exact ⟨he, hh⟩
noncomputable def EsBits : Entry Tryz.prog := ⟨44, fun args h e h' => h' = h ∧ ∃ (n : Nat), args = [rnav n] ∧ (bl n ≤ 20000) ∧ e = .ret (.flat (.int .i64 (bl n : Int))), by
  rintro args h e h' ⟨rfl, n, rfl, h1, rfl⟩
  exact ⟨sBits_sem n h1 _, Hp.Le.refl _⟩⟩
theorem EsBits_ans (n : Nat) (h : Hp) (h1 : bl n ≤ 20000) : EsBits.ans [rnav n] h = some (.ret (.flat (.int .i64 (bl n : Int))), h) :=
  Entry.one ⟨rfl, n, rfl, h1, rfl⟩ fun e h' ⟨hh, n', ha, _, he⟩ => by simp only [kI, rnav_eq, rzav_eq] at ha; subst ha; exact ⟨he, hh⟩
noncomputable def EsSmall : Entry Tryz.prog := ⟨43, fun args h e h' => h' = h ∧ ∃ (n : Nat), args = [rnav n] ∧ (n < 18446744073709551616) ∧ e = .ret (.tuple [.flat (.int .u64 (n : Int)), .flat (.bool true)]), by
  rintro args h e h' ⟨rfl, n, rfl, h1, rfl⟩
  exact ⟨sSmall_sem n h1 _, Hp.Le.refl _⟩⟩
theorem EsSmall_ans (n : Nat) (h : Hp) (h1 : n < 18446744073709551616) : EsSmall.ans [rnav n] h = some (.ret (.tuple [.flat (.int .u64 (n : Int)), .flat (.bool true)]), h) :=
  Entry.one ⟨rfl, n, rfl, h1, rfl⟩ fun e h' ⟨hh, n', ha, _, he⟩ => by simp only [kI, rnav_eq, rzav_eq] at ha; subst ha; exact ⟨he, hh⟩
noncomputable def EsCmp : Entry Tryz.prog := ⟨77, fun args h e h' => h' = h ∧ ∃ (a b : Nat), args = [rnav a, rnav b] ∧ (bl a ≤ 16000) ∧ (bl b ≤ 16000) ∧ e = .ret (.flat (.int .i64 (Dg.cmp a b))), by
  rintro args h e h' ⟨rfl, a, b, rfl, h1, h2, rfl⟩
  exact ⟨sCmp_sem a b h1 h2 _, Hp.Le.refl _⟩⟩
theorem EsCmp_ans (a b : Nat) (h : Hp) (h1 : bl a ≤ 16000) (h2 : bl b ≤ 16000) : EsCmp.ans [rnav a, rnav b] h = some (.ret (.flat (.int .i64 (Dg.cmp a b))), h) :=
  Entry.one ⟨rfl, a, b, rfl, h1, h2, rfl⟩ fun e h' ⟨hh, a', b', ha, _, _, he⟩ => by simp only [kI, rnav_eq, rzav_eq] at ha; obtain ⟨rfl, rfl⟩ := ha; exact ⟨he, hh⟩
noncomputable def EsAdd : Entry Tryz.prog := ⟨79, fun args h e h' => h' = h ∧ ∃ (a b : Nat), args = [rnav a, rnav b] ∧ (bl a ≤ 16000) ∧ (bl b ≤ 16000) ∧ e = .ret (rnav (a + b)), by
  rintro args h e h' ⟨rfl, a, b, rfl, h1, h2, rfl⟩
  exact ⟨sAdd_sem a b h1 h2 _, Hp.Le.refl _⟩⟩
theorem EsAdd_ans (a b : Nat) (h : Hp) (h1 : bl a ≤ 16000) (h2 : bl b ≤ 16000) : EsAdd.ans [rnav a, rnav b] h = some (.ret (rnav (a + b)), h) :=
  Entry.one ⟨rfl, a, b, rfl, h1, h2, rfl⟩ fun e h' ⟨hh, a', b', ha, _, _, he⟩ => by simp only [kI, rnav_eq, rzav_eq] at ha; obtain ⟨rfl, rfl⟩ := ha; exact ⟨he, hh⟩
noncomputable def EsSub : Entry Tryz.prog := ⟨78, fun args h e h' => h' = h ∧ ∃ (a b : Nat), args = [rnav a, rnav b] ∧ (bl a ≤ 16000) ∧ (bl b ≤ 16000) ∧ (b ≤ a) ∧ e = .ret (rnav (a - b)), by
  rintro args h e h' ⟨rfl, a, b, rfl, h1, h2, h3, rfl⟩
  exact ⟨sSub_sem a b h1 h2 h3 _, Hp.Le.refl _⟩⟩
theorem EsSub_ans (a b : Nat) (h : Hp) (h1 : bl a ≤ 16000) (h2 : bl b ≤ 16000) (h3 : b ≤ a) : EsSub.ans [rnav a, rnav b] h = some (.ret (rnav (a - b)), h) :=
  Entry.one ⟨rfl, a, b, rfl, h1, h2, h3, rfl⟩ fun e h' ⟨hh, a', b', ha, _, _, _, he⟩ => by simp only [kI, rnav_eq, rzav_eq] at ha; obtain ⟨rfl, rfl⟩ := ha; exact ⟨he, hh⟩
noncomputable def EsMul : Entry Tryz.prog := ⟨63, fun args h e h' => h' = h ∧ ∃ (a b : Nat), args = [rnav a, rnav b] ∧ (bl a ≤ 10000) ∧ (bl b ≤ 10000) ∧ e = .ret (rnav (a * b)), by
  rintro args h e h' ⟨rfl, a, b, rfl, h1, h2, rfl⟩
  exact ⟨sMul_sem a b h1 h2 _, Hp.Le.refl _⟩⟩
theorem EsMul_ans (a b : Nat) (h : Hp) (h1 : bl a ≤ 10000) (h2 : bl b ≤ 10000) : EsMul.ans [rnav a, rnav b] h = some (.ret (rnav (a * b)), h) :=
  Entry.one ⟨rfl, a, b, rfl, h1, h2, rfl⟩ fun e h' ⟨hh, a', b', ha, _, _, he⟩ => by simp only [kI, rnav_eq, rzav_eq] at ha; obtain ⟨rfl, rfl⟩ := ha; exact ⟨he, hh⟩
noncomputable def EsDiv : Entry Tryz.prog := ⟨60, fun args h e h' => h' = h ∧ ∃ (a b : Nat), args = [rnav a, rnav b] ∧ (bl a ≤ 4000) ∧ (bl b ≤ 4000) ∧ (0 < b) ∧ e = .ret (.tuple [rnav (a / b), rnav (a % b)]), by
  rintro args h e h' ⟨rfl, a, b, rfl, h1, h2, h3, rfl⟩
  exact ⟨sDiv_sem a b h1 h2 h3 _, Hp.Le.refl _⟩⟩
theorem EsDiv_ans (a b : Nat) (h : Hp) (h1 : bl a ≤ 4000) (h2 : bl b ≤ 4000) (h3 : 0 < b) : EsDiv.ans [rnav a, rnav b] h = some (.ret (.tuple [rnav (a / b), rnav (a % b)]), h) :=
  Entry.one ⟨rfl, a, b, rfl, h1, h2, h3, rfl⟩ fun e h' ⟨hh, a', b', ha, _, _, _, he⟩ => by simp only [kI, rnav_eq, rzav_eq] at ha; obtain ⟨rfl, rfl⟩ := ha; exact ⟨he, hh⟩
noncomputable def EsGcd : Entry Tryz.prog := ⟨37, fun args h e h' => h' = h ∧ ∃ (a b : Nat), args = [rnav a, rnav b] ∧ (bl a ≤ 4000) ∧ (bl b ≤ 4000) ∧ e = .ret (rnav (Nat.gcd a b)), by
  rintro args h e h' ⟨rfl, a, b, rfl, h1, h2, rfl⟩
  exact ⟨sGcd_sem a b h1 h2 _, Hp.Le.refl _⟩⟩
theorem EsGcd_ans (a b : Nat) (h : Hp) (h1 : bl a ≤ 4000) (h2 : bl b ≤ 4000) : EsGcd.ans [rnav a, rnav b] h = some (.ret (rnav (Nat.gcd a b)), h) :=
  Entry.one ⟨rfl, a, b, rfl, h1, h2, rfl⟩ fun e h' ⟨hh, a', b', ha, _, _, he⟩ => by simp only [kI, rnav_eq, rzav_eq] at ha; obtain ⟨rfl, rfl⟩ := ha; exact ⟨he, hh⟩
theorem rMake_sem (s : Bool) (n : Nat) (hl : bl n ≤ 20000) (h : Hp) : SemCall Tryz.prog 16 [.flat (.bool s), rnav n] h (.ret (rzav (if s = true then -(n : Int) else (n : Int)))) h := by
  have hz := Dg.bl_zero (n := n)
  by_cases n0 : n = 0
  · subst n0
    refine SemCall.weak (v := .agg [.flat (.bool false), nilA]) ?_ fun ρ x hx => by
      have := rzero_rel ρ x hx
      cases s <;> simpa using this
    refine sem_pure tables.ok Tryz.func16 rfl rfl rfl rfl (by simp [pureL, AV.pure, rnav_pure]) rfl ?_ h
    have B : Base Tryz.prog tab _ := tabL_base [EsBits] tables.ok mixed
    generalize hL : tabL [EsBits] = call at B
    have c_EsBits : ∀ a h, call 44 a h = EsBits.ans a h := fun _ _ => hL ▸ rfl
    clear hL
    have b0 := hz.2 rfl
    have k1 := fun h => EsBits_ans 0 h (by omega)
    unfold Tryz.f16 bodyOf entry; simp only [Option.getD_some, List.length_cons, List.length_nil, Nat.reduceAdd, Nat.reduceSub]
    repeat (first
      | refine wp_seqQ ?_ | refine wp_blockQ ?_ | refine wp_scopeQ ?_
      | ((first | refine wp_skipQ ?_ | refine wp_labelQ ?_ | refine wp_exitQ ?_ | refine wp_retQ ?_); simp only [kQ, Nat.reduceEqDiff, reduceIte])
      | (refine wp_reg B ?_; simp (disch := omega) only [kW, Nat.reduceEqDiff, reduceIte, Nat.reduceLT, Nat.reduceLeDiff, Nat.reduceAdd, Nat.reduceSub, Nat.reduceMul, Nat.reducePow, Nat.reduceDiv, Nat.reduceMod, evIndexAddr, TD.agg, evFieldAddr, binA_eqB ty4, binA_neB ty4, ty3, ty4, ty40, ty42, ty92, fn44, c_EsBits, EsBits_ans, k1, rnav_one, rnav_clean])
      | refine wp_condT rfl ?_ | refine wp_condF rfl ?_)
    simp (disch := omega) only [kS, Nat.reduceEqDiff, reduceIte, Nat.reduceLT, Nat.reduceLeDiff, Nat.reduceAdd, Nat.reduceSub, Nat.reduceMul, Nat.reducePow, Nat.reduceDiv, Nat.reduceMod, evIndexAddr, TD.agg, evFieldAddr, binA_eqB ty4, binA_neB ty4, ty3, ty4, ty40, ty42, ty92, fn44, c_EsBits, EsBits_ans, nilA]
  · refine sem_pure tables.ok Tryz.func16 rfl rfl rfl rfl (by simp [pureL, AV.pure, rnav_pure]) (rzav_pure _) ?_ h
    have B : Base Tryz.prog tab _ := tabL_base [EsBits] tables.ok mixed
    generalize hL : tabL [EsBits] = call at B
    have c_EsBits : ∀ a h, call 44 a h = EsBits.ans a h := fun _ _ => hL ▸ rfl
    clear hL
    have b0 : bl n ≠ 0 := fun e => n0 (hz.1 e)
    cases s with
    | false =>
      simp only [Bool.false_eq_true, if_false]
      unfold Tryz.f16 bodyOf entry; simp only [Option.getD_some, List.length_cons, List.length_nil, Nat.reduceAdd, Nat.reduceSub]
      repeat (first
        | refine wp_seqQ ?_ | refine wp_blockQ ?_ | refine wp_scopeQ ?_
        | ((first | refine wp_skipQ ?_ | refine wp_labelQ ?_ | refine wp_exitQ ?_ | refine wp_retQ ?_); simp only [kQ, Nat.reduceEqDiff, reduceIte])
        | (refine wp_reg B ?_; simp (disch := omega) only [kW, Nat.reduceEqDiff, reduceIte, Nat.reduceLT, Nat.reduceLeDiff, Nat.reduceAdd, Nat.reduceSub, Nat.reduceMul, Nat.reducePow, Nat.reduceDiv, Nat.reduceMod, evIndexAddr, TD.agg, evFieldAddr, binA_eqB ty4, binA_neB ty4, ty3, ty4, ty40, ty42, ty92, fn44, c_EsBits, EsBits_ans, rnav_one, rnav_clean])
        | refine wp_condT rfl ?_ | refine wp_condF rfl ?_)
      simp (disch := omega) only [kS, Nat.reduceEqDiff, reduceIte, Nat.reduceLT, Nat.reduceLeDiff, Nat.reduceAdd, Nat.reduceSub, Nat.reduceMul, Nat.reducePow, Nat.reduceDiv, Nat.reduceMod, evIndexAddr, TD.agg, evFieldAddr, binA_eqB ty4, binA_neB ty4, ty3, ty4, ty40, ty42, ty92, fn44, c_EsBits, EsBits_ans, rzav, zs, rzm, Int.natAbs_natCast]
    | true =>
      unfold Tryz.f16 bodyOf entry; simp only [Option.getD_some, List.length_cons, List.length_nil, Nat.reduceAdd, Nat.reduceSub]
      repeat (first
        | refine wp_seqQ ?_ | refine wp_blockQ ?_ | refine wp_scopeQ ?_
        | ((first | refine wp_skipQ ?_ | refine wp_labelQ ?_ | refine wp_exitQ ?_ | refine wp_retQ ?_); simp only [kQ, Nat.reduceEqDiff, reduceIte])
        | (refine wp_reg B ?_; simp (disch := omega) only [kW, Nat.reduceEqDiff, reduceIte, Nat.reduceLT, Nat.reduceLeDiff, Nat.reduceAdd, Nat.reduceSub, Nat.reduceMul, Nat.reducePow, Nat.reduceDiv, Nat.reduceMod, evIndexAddr, TD.agg, evFieldAddr, binA_eqB ty4, binA_neB ty4, ty3, ty4, ty40, ty42, ty92, fn44, c_EsBits, EsBits_ans, rnav_one, rnav_clean])
        | refine wp_condT rfl ?_ | refine wp_condF rfl ?_)
      simp (disch := omega) only [kS, Nat.reduceEqDiff, reduceIte, Nat.reduceLT, Nat.reduceLeDiff, Nat.reduceAdd, Nat.reduceSub, Nat.reduceMul, Nat.reducePow, Nat.reduceDiv, Nat.reduceMod, evIndexAddr, TD.agg, evFieldAddr, binA_eqB ty4, binA_neB ty4, ty3, ty4, ty40, ty42, ty92, fn44, c_EsBits, EsBits_ans, rzav, zs, rzm, Int.natAbs_neg, Int.natAbs_natCast]
noncomputable def ErMake : Entry Tryz.prog := ⟨16, fun args h e h' => h' = h ∧ ∃ (s : Bool) (n : Nat), args = [.flat (.bool s), rnav n] ∧ (bl n ≤ 20000) ∧ e = .ret (rzav (if s = true then -(n : Int) else (n : Int))), by
  rintro args h e h' ⟨rfl, s, n, rfl, h1, rfl⟩
  exact ⟨rMake_sem s n h1 _, Hp.Le.refl _⟩⟩
theorem ErMake_ans (s : Bool) (n : Nat) (h : Hp) (h1 : bl n ≤ 20000) : ErMake.ans [.flat (.bool s), rnav n] h = some (.ret (rzav (if s = true then -(n : Int) else (n : Int))), h) :=
  Entry.one ⟨rfl, s, n, rfl, h1, rfl⟩ fun e h' ⟨hh, s', n', ha, _, he⟩ => by simp only [kI, rnav_eq, rzav_eq] at ha; obtain ⟨rfl, rfl⟩ := ha; exact ⟨he, hh⟩
theorem rSign_sem (x : Int) (hl : bl x.natAbs ≤ 20000) (h : Hp) : SemCall Tryz.prog 36 [rzav x] h (.ret (.flat (.int .i64 (if x < 0 then -1 else if x = 0 then 0 else 1)))) h := by
  refine sem_pure tables.ok Tryz.func36 rfl rfl rfl rfl (by simp [pureL, rzav_pure]) rfl ?_ h
  have B : Base Tryz.prog tab _ := tabL_base [EsBits] tables.ok mixed
  generalize hL : tabL [EsBits] = call at B
  have c_EsBits : ∀ a h, call 44 a h = EsBits.ans a h := fun _ _ => hL ▸ rfl
  clear hL
  have hz := Dg.bl_zero (n := x.natAbs)
  unfold Tryz.f36 bodyOf entry; simp only [Option.getD_some, List.length_cons, List.length_nil, Nat.reduceAdd, Nat.reduceSub]
  rcases (show x < 0 ∨ x = 0 ∨ 0 < x by omega) with hx | hx | hx
  · rw [if_pos hx]
    have : bl x.natAbs ≠ 0 := fun e => by have := hz.1 e; omega
    repeat (first
      | refine wp_seqQ ?_ | refine wp_blockQ ?_ | refine wp_scopeQ ?_
      | ((first | refine wp_skipQ ?_ | refine wp_labelQ ?_ | refine wp_exitQ ?_ | refine wp_retQ ?_); simp only [kQ, Nat.reduceEqDiff, reduceIte])
      | (refine wp_reg B ?_; simp (disch := omega) only [kW, Nat.reduceEqDiff, reduceIte, Nat.reduceLT, Nat.reduceLeDiff, Nat.reduceAdd, Nat.reduceSub, Nat.reduceMul, Nat.reducePow, Nat.reduceDiv, Nat.reduceMod, evIndexAddr, TD.agg, evFieldAddr, binA_eqB ty4, binA_neB ty4, ty3, ty4, ty40, ty42, ty92, fn44, c_EsBits, EsBits_ans, rzav_cells, rnav_one, rnav_clean])
      | refine wp_condT rfl ?_ | refine wp_condF rfl ?_)
    refine wp_if (p := x < 0) rfl (fun _ => ?_) (fun k => absurd hx k)
    repeat (first
      | refine wp_seqQ ?_ | refine wp_blockQ ?_ | refine wp_scopeQ ?_
      | ((first | refine wp_skipQ ?_ | refine wp_labelQ ?_ | refine wp_exitQ ?_ | refine wp_retQ ?_); simp only [kQ, Nat.reduceEqDiff, reduceIte])
      | (refine wp_reg B ?_; simp (disch := omega) only [kW, Nat.reduceEqDiff, reduceIte, Nat.reduceLT, Nat.reduceLeDiff, Nat.reduceAdd, Nat.reduceSub, Nat.reduceMul, Nat.reducePow, Nat.reduceDiv, Nat.reduceMod, evIndexAddr, TD.agg, evFieldAddr, binA_eqB ty4, binA_neB ty4, ty3, ty4, ty40, ty42, ty92, fn44, c_EsBits, EsBits_ans])
      | refine wp_condT rfl ?_ | refine wp_condF rfl ?_)
    simp (disch := omega) only [kS, Nat.reduceEqDiff, reduceIte, Nat.reduceLT, Nat.reduceLeDiff, Nat.reduceAdd, Nat.reduceSub, Nat.reduceMul, Nat.reducePow, Nat.reduceDiv, Nat.reduceMod, evIndexAddr, TD.agg, evFieldAddr, binA_eqB ty4, binA_neB ty4, ty3, ty4, ty40, ty42, ty92, fn44, c_EsBits, EsBits_ans]
  · rw [if_neg (by omega), if_pos hx]
    have : bl x.natAbs = 0 := hz.2 (by omega)
    repeat (first
      | refine wp_seqQ ?_ | refine wp_blockQ ?_ | refine wp_scopeQ ?_
      | ((first | refine wp_skipQ ?_ | refine wp_labelQ ?_ | refine wp_exitQ ?_ | refine wp_retQ ?_); simp only [kQ, Nat.reduceEqDiff, reduceIte])
      | (refine wp_reg B ?_; simp (disch := omega) only [kW, Nat.reduceEqDiff, reduceIte, Nat.reduceLT, Nat.reduceLeDiff, Nat.reduceAdd, Nat.reduceSub, Nat.reduceMul, Nat.reducePow, Nat.reduceDiv, Nat.reduceMod, evIndexAddr, TD.agg, evFieldAddr, binA_eqB ty4, binA_neB ty4, ty3, ty4, ty40, ty42, ty92, fn44, c_EsBits, EsBits_ans, rzav_cells, rnav_one, rnav_clean])
      | refine wp_condT rfl ?_ | refine wp_condF rfl ?_)
    simp (disch := omega) only [kS, Nat.reduceEqDiff, reduceIte, Nat.reduceLT, Nat.reduceLeDiff, Nat.reduceAdd, Nat.reduceSub, Nat.reduceMul, Nat.reducePow, Nat.reduceDiv, Nat.reduceMod, evIndexAddr, TD.agg, evFieldAddr, binA_eqB ty4, binA_neB ty4, ty3, ty4, ty40, ty42, ty92, fn44, c_EsBits, EsBits_ans]
  · rw [if_neg (by omega), if_neg (by omega)]
    have : bl x.natAbs ≠ 0 := fun e => by have := hz.1 e; omega
    repeat (first
      | refine wp_seqQ ?_ | refine wp_blockQ ?_ | refine wp_scopeQ ?_
      | ((first | refine wp_skipQ ?_ | refine wp_labelQ ?_ | refine wp_exitQ ?_ | refine wp_retQ ?_); simp only [kQ, Nat.reduceEqDiff, reduceIte])
      | (refine wp_reg B ?_; simp (disch := omega) only [kW, Nat.reduceEqDiff, reduceIte, Nat.reduceLT, Nat.reduceLeDiff, Nat.reduceAdd, Nat.reduceSub, Nat.reduceMul, Nat.reducePow, Nat.reduceDiv, Nat.reduceMod, evIndexAddr, TD.agg, evFieldAddr, binA_eqB ty4, binA_neB ty4, ty3, ty4, ty40, ty42, ty92, fn44, c_EsBits, EsBits_ans, rzav_cells, rnav_one, rnav_clean])
      | refine wp_condT rfl ?_ | refine wp_condF rfl ?_)
    refine wp_if (p := x < 0) rfl (fun k => absurd k (by omega)) (fun _ => ?_)
    repeat (first
      | refine wp_seqQ ?_ | refine wp_blockQ ?_ | refine wp_scopeQ ?_
      | ((first | refine wp_skipQ ?_ | refine wp_labelQ ?_ | refine wp_exitQ ?_ | refine wp_retQ ?_); simp only [kQ, Nat.reduceEqDiff, reduceIte])
      | (refine wp_reg B ?_; simp (disch := omega) only [kW, Nat.reduceEqDiff, reduceIte, Nat.reduceLT, Nat.reduceLeDiff, Nat.reduceAdd, Nat.reduceSub, Nat.reduceMul, Nat.reducePow, Nat.reduceDiv, Nat.reduceMod, evIndexAddr, TD.agg, evFieldAddr, binA_eqB ty4, binA_neB ty4, ty3, ty4, ty40, ty42, ty92, fn44, c_EsBits, EsBits_ans])
      | refine wp_condT rfl ?_ | refine wp_condF rfl ?_)
    simp (disch := omega) only [kS, Nat.reduceEqDiff, reduceIte, Nat.reduceLT, Nat.reduceLeDiff, Nat.reduceAdd, Nat.reduceSub, Nat.reduceMul, Nat.reducePow, Nat.reduceDiv, Nat.reduceMod, evIndexAddr, TD.agg, evFieldAddr, binA_eqB ty4, binA_neB ty4, ty3, ty4, ty40, ty42, ty92, fn44, c_EsBits, EsBits_ans]
noncomputable def ErSign : Entry Tryz.prog := ⟨36, fun args h e h' => h' = h ∧ ∃ (x : Int), args = [rzav x] ∧ (bl x.natAbs ≤ 20000) ∧ e = .ret (.flat (.int .i64 (if x < 0 then -1 else if x = 0 then 0 else 1))), by
  rintro args h e h' ⟨rfl, x, rfl, h1, rfl⟩
  exact ⟨rSign_sem x h1 _, Hp.Le.refl _⟩⟩
theorem ErSign_ans (x : Int) (h : Hp) (h1 : bl x.natAbs ≤ 20000) : ErSign.ans [rzav x] h = some (.ret (.flat (.int .i64 (if x < 0 then -1 else if x = 0 then 0 else 1))), h) :=
  Entry.one ⟨rfl, x, rfl, h1, rfl⟩ fun e h' ⟨hh, x', ha, _, he⟩ => by simp only [kI, rnav_eq, rzav_eq] at ha; subst ha; exact ⟨he, hh⟩
theorem rZero_sem (x : Int) (hl : bl x.natAbs ≤ 20000) (h : Hp) : SemCall Tryz.prog 35 [rzav x] h (.ret (.flat (.bool (decide (x = 0))))) h := by
  refine sem_pure tables.ok Tryz.func35 rfl rfl rfl rfl (by simp [pureL, rzav_pure]) rfl ?_ h
  have B : Base Tryz.prog tab _ := tabL_base [ErSign] tables.ok mixed
  generalize hL : tabL [ErSign] = call at B
  have c_ErSign : ∀ a h, call 36 a h = ErSign.ans a h := fun _ _ => hL ▸ rfl
  clear hL
  obtain ⟨q, hq, hq0⟩ : ∃ q : Int, q = (if x < 0 then -1 else if x = 0 then 0 else 1) ∧ (q = 0 ↔ x = 0) := ⟨_, rfl, by split <;> (try split) <;> omega⟩
  have k1 := fun h => ErSign_ans x h hl
  rw [← hq] at k1
  have hd : decide (q = 0) = decide (x = 0) := decide_eq_decide.2 hq0
  clear hq hq0
  unfold Tryz.f35 bodyOf entry; simp only [Option.getD_some, List.length_cons, List.length_nil, Nat.reduceAdd, Nat.reduceSub]
  repeat (first
    | refine wp_seqQ ?_ | refine wp_blockQ ?_ | refine wp_scopeQ ?_
    | ((first | refine wp_skipQ ?_ | refine wp_labelQ ?_ | refine wp_exitQ ?_ | refine wp_retQ ?_); simp only [kQ, Nat.reduceEqDiff, reduceIte])
    | (refine wp_reg B ?_; simp (disch := omega) only [kW, Nat.reduceEqDiff, reduceIte, Nat.reduceLT, Nat.reduceLeDiff, Nat.reduceAdd, Nat.reduceSub, Nat.reduceMul, Nat.reducePow, Nat.reduceDiv, Nat.reduceMod, evIndexAddr, TD.agg, evFieldAddr, binA_eqB ty4, binA_neB ty4, ty3, ty4, ty40, ty42, ty92, fn36, c_ErSign, ErSign_ans, k1, rzav_cells, rnav_one, rnav_clean, rzav_fold])
    | refine wp_condT rfl ?_ | refine wp_condF rfl ?_)
  simp (disch := omega) only [kS, Nat.reduceEqDiff, reduceIte, Nat.reduceLT, Nat.reduceLeDiff, Nat.reduceAdd, Nat.reduceSub, Nat.reduceMul, Nat.reducePow, Nat.reduceDiv, Nat.reduceMod, evIndexAddr, TD.agg, evFieldAddr, binA_eqB ty4, binA_neB ty4, ty3, ty4, ty40, ty42, ty92, fn36, c_ErSign, ErSign_ans, hd]
noncomputable def ErZero : Entry Tryz.prog := ⟨35, fun args h e h' => h' = h ∧ ∃ (x : Int), args = [rzav x] ∧ (bl x.natAbs ≤ 20000) ∧ e = .ret (.flat (.bool (decide (x = 0)))), by
  rintro args h e h' ⟨rfl, x, rfl, h1, rfl⟩
  exact ⟨rZero_sem x h1 _, Hp.Le.refl _⟩⟩
theorem ErZero_ans (x : Int) (h : Hp) (h1 : bl x.natAbs ≤ 20000) : ErZero.ans [rzav x] h = some (.ret (.flat (.bool (decide (x = 0)))), h) :=
  Entry.one ⟨rfl, x, rfl, h1, rfl⟩ fun e h' ⟨hh, x', ha, _, he⟩ => by simp only [kI, rnav_eq, rzav_eq] at ha; subst ha; exact ⟨he, hh⟩
theorem rOf_sem (n : Int) (h1 : -9223372036854775808 ≤ n) (h2 : n < 9223372036854775808) (h : Hp) : SemCall Tryz.prog 14 [.flat (.int .i64 n)] h (.ret (rzav n)) h := by
  refine sem_pure tables.ok Tryz.func14 rfl rfl rfl rfl rfl (rzav_pure _) ?_ h
  have B : Base Tryz.prog tab _ := tabL_base [EsOf, ErMake] tables.ok mixed
  generalize hL : tabL [EsOf, ErMake] = call at B
  have c_EsOf : ∀ a h, call 42 a h = EsOf.ans a h := fun _ _ => hL ▸ rfl
  have c_ErMake : ∀ a h, call 16 a h = ErMake.ans a h := fun _ _ => hL ▸ rfl
  clear hL
  have hb : bl n.natAbs ≤ 64 := Dg.bl_le.2 (by simp only [Nat.reducePow]; omega)
  unfold Tryz.f14 bodyOf entry; simp only [Option.getD_some, List.length_cons, List.length_nil, Nat.reduceAdd, Nat.reduceSub]
  by_cases hn : n < 0
  · have e1 : fwrap .u64 (0 - fwrap .u64 n) = (n.natAbs : Int) := by
      rw [fwrap_eq, fwrap_eq, IntKind.wrap_u64, IntKind.wrap_u64]; omega
    have k1 : ∀ h, ErMake.ans [.flat (.bool true), rnav n.natAbs] h = some (.ret (rzav n), h) := fun h => by
      have := ErMake_ans true n.natAbs h (by omega)
      rwa [if_pos rfl, show -(n.natAbs : Int) = n by omega] at this
    repeat (first
      | refine wp_seqQ ?_ | refine wp_blockQ ?_ | refine wp_scopeQ ?_
      | ((first | refine wp_skipQ ?_ | refine wp_labelQ ?_ | refine wp_exitQ ?_ | refine wp_retQ ?_); simp only [kQ, Nat.reduceEqDiff, reduceIte])
      | (refine wp_reg B ?_; simp (disch := omega) only [kW, Nat.reduceEqDiff, reduceIte, Nat.reduceLT, Nat.reduceLeDiff, Nat.reduceAdd, Nat.reduceSub, Nat.reduceMul, Nat.reducePow, Nat.reduceDiv, Nat.reduceMod, evIndexAddr, TD.agg, evFieldAddr, binA_eqB ty4, binA_neB ty4, ty2, ty4, ty40, ty42, ty62, ty92, fn42, fn16, c_EsOf, EsOf_ans, c_ErMake, ErMake_ans, e1, k1, rzav_cells, rnav_one, rnav_clean, rzav_fold])
      | refine wp_condT rfl ?_ | refine wp_condF rfl ?_)
    simp (disch := omega) only [kS, Nat.reduceEqDiff, reduceIte, Nat.reduceLT, Nat.reduceLeDiff, Nat.reduceAdd, Nat.reduceSub, Nat.reduceMul, Nat.reducePow, Nat.reduceDiv, Nat.reduceMod, evIndexAddr, TD.agg, evFieldAddr, binA_eqB ty4, binA_neB ty4, ty2, ty4, ty40, ty42, ty62, ty92, fn42, fn16, c_EsOf, EsOf_ans, c_ErMake, ErMake_ans, rzav_fold]
  · have e1 : fwrap .u64 n = (n.natAbs : Int) := by
      rw [fwrap_eq, IntKind.wrap_u64]; omega
    have k1 : ∀ h, ErMake.ans [.flat (.bool false), rnav n.natAbs] h = some (.ret (rzav n), h) := fun h => by
      have := ErMake_ans false n.natAbs h (by omega)
      rwa [if_neg (by simp), show (n.natAbs : Int) = n by omega] at this
    repeat (first
      | refine wp_seqQ ?_ | refine wp_blockQ ?_ | refine wp_scopeQ ?_
      | ((first | refine wp_skipQ ?_ | refine wp_labelQ ?_ | refine wp_exitQ ?_ | refine wp_retQ ?_); simp only [kQ, Nat.reduceEqDiff, reduceIte])
      | (refine wp_reg B ?_; simp (disch := omega) only [kW, Nat.reduceEqDiff, reduceIte, Nat.reduceLT, Nat.reduceLeDiff, Nat.reduceAdd, Nat.reduceSub, Nat.reduceMul, Nat.reducePow, Nat.reduceDiv, Nat.reduceMod, evIndexAddr, TD.agg, evFieldAddr, binA_eqB ty4, binA_neB ty4, ty2, ty4, ty40, ty42, ty62, ty92, fn42, fn16, c_EsOf, EsOf_ans, c_ErMake, ErMake_ans, e1, k1, rzav_cells, rnav_one, rnav_clean, rzav_fold])
      | refine wp_condT rfl ?_ | refine wp_condF rfl ?_)
    simp (disch := omega) only [kS, Nat.reduceEqDiff, reduceIte, Nat.reduceLT, Nat.reduceLeDiff, Nat.reduceAdd, Nat.reduceSub, Nat.reduceMul, Nat.reducePow, Nat.reduceDiv, Nat.reduceMod, evIndexAddr, TD.agg, evFieldAddr, binA_eqB ty4, binA_neB ty4, ty2, ty4, ty40, ty42, ty62, ty92, fn42, fn16, c_EsOf, EsOf_ans, c_ErMake, ErMake_ans, rzav_fold]
noncomputable def ErOf : Entry Tryz.prog := ⟨14, fun args h e h' => h' = h ∧ ∃ (n : Int), args = [.flat (.int .i64 n)] ∧ (-9223372036854775808 ≤ n) ∧ (n < 9223372036854775808) ∧ e = .ret (rzav n), by
  rintro args h e h' ⟨rfl, n, rfl, h1, h2, rfl⟩
  exact ⟨rOf_sem n h1 h2 _, Hp.Le.refl _⟩⟩
theorem ErOf_ans (n : Int) (h : Hp) (h1 : -9223372036854775808 ≤ n) (h2 : n < 9223372036854775808) : ErOf.ans [.flat (.int .i64 n)] h = some (.ret (rzav n), h) :=
  Entry.one ⟨rfl, n, rfl, h1, h2, rfl⟩ fun e h' ⟨hh, n', ha, _, _, he⟩ => by simp only [kI, rnav_eq, rzav_eq] at ha; subst ha; exact ⟨he, hh⟩
theorem rNeg_sem (x : Int) (hl : bl x.natAbs ≤ 20000) (h : Hp) : SemCall Tryz.prog 62 [rzav x] h (.ret (rzav (-x))) h := by
  refine sem_pure tables.ok Tryz.func62 rfl rfl rfl rfl (by simp [pureL, rzav_pure]) (rzav_pure _) ?_ h
  have B : Base Tryz.prog tab _ := tabL_base [ErMake] tables.ok mixed
  generalize hL : tabL [ErMake] = call at B
  have c_ErMake : ∀ a h, call 16 a h = ErMake.ans a h := fun _ _ => hL ▸ rfl
  clear hL
  have k1 : ∀ h, ErMake.ans [.flat (.bool (!decide (x < 0))), rnav x.natAbs] h = some (.ret (rzav (-x)), h) := fun h => by
    have := ErMake_ans (!decide (x < 0)) x.natAbs h hl
    rwa [show (if (!decide (x < 0)) = true then -(x.natAbs : Int) else (x.natAbs : Int)) = -x by by_cases hx : x < 0 <;> simp [hx] <;> omega] at this
  unfold Tryz.f62 bodyOf entry; simp only [Option.getD_some, List.length_cons, List.length_nil, Nat.reduceAdd, Nat.reduceSub]
  repeat (first
    | refine wp_seqQ ?_ | refine wp_blockQ ?_ | refine wp_scopeQ ?_
    | ((first | refine wp_skipQ ?_ | refine wp_labelQ ?_ | refine wp_exitQ ?_ | refine wp_retQ ?_); simp only [kQ, Nat.reduceEqDiff, reduceIte])
    | (refine wp_reg B ?_; simp (disch := omega) only [kW, Nat.reduceEqDiff, reduceIte, Nat.reduceLT, Nat.reduceLeDiff, Nat.reduceAdd, Nat.reduceSub, Nat.reduceMul, Nat.reducePow, Nat.reduceDiv, Nat.reduceMod, evIndexAddr, TD.agg, evFieldAddr, binA_eqB ty4, binA_neB ty4, ty4, ty40, ty42, ty92, fn16, c_ErMake, ErMake_ans, k1, rzav_cells, rnav_one, rnav_clean, rzav_fold])
    | refine wp_condT rfl ?_ | refine wp_condF rfl ?_)
  simp (disch := omega) only [kS, Nat.reduceEqDiff, reduceIte, Nat.reduceLT, Nat.reduceLeDiff, Nat.reduceAdd, Nat.reduceSub, Nat.reduceMul, Nat.reducePow, Nat.reduceDiv, Nat.reduceMod, evIndexAddr, TD.agg, evFieldAddr, binA_eqB ty4, binA_neB ty4, ty4, ty40, ty42, ty92, fn16, c_ErMake, ErMake_ans, rzav_fold]
noncomputable def ErNeg : Entry Tryz.prog := ⟨62, fun args h e h' => h' = h ∧ ∃ (x : Int), args = [rzav x] ∧ (bl x.natAbs ≤ 20000) ∧ e = .ret (rzav (-x)), by
  rintro args h e h' ⟨rfl, x, rfl, h1, rfl⟩
  exact ⟨rNeg_sem x h1 _, Hp.Le.refl _⟩⟩
theorem ErNeg_ans (x : Int) (h : Hp) (h1 : bl x.natAbs ≤ 20000) : ErNeg.ans [rzav x] h = some (.ret (rzav (-x)), h) :=
  Entry.one ⟨rfl, x, rfl, h1, rfl⟩ fun e h' ⟨hh, x', ha, _, he⟩ => by simp only [kI, rnav_eq, rzav_eq] at ha; subst ha; exact ⟨he, hh⟩
theorem rMul_sem (x y : Int) (lx : bl x.natAbs ≤ 10000) (ly : bl y.natAbs ≤ 10000) (h : Hp) : SemCall Tryz.prog 41 [rzav x, rzav y] h (.ret (rzav (x * y))) h := by
  refine sem_pure tables.ok Tryz.func41 rfl rfl rfl rfl (by simp [pureL, rzav_pure]) (rzav_pure _) ?_ h
  have B : Base Tryz.prog tab _ := tabL_base [ErMake, EsMul] tables.ok mixed
  generalize hL : tabL [ErMake, EsMul] = call at B
  have c_ErMake : ∀ a h, call 16 a h = ErMake.ans a h := fun _ _ => hL ▸ rfl
  have c_EsMul : ∀ a h, call 63 a h = EsMul.ans a h := fun _ _ => hL ▸ rfl
  clear hL
  have k1 : ∀ h, ErMake.ans [.flat (.bool (!(decide (x < 0) == decide (y < 0)))), rnav (x.natAbs * y.natAbs)] h = some (.ret (rzav (x * y)), h) := fun h => by
    have := ErMake_ans (!(decide (x < 0) == decide (y < 0))) (x.natAbs * y.natAbs) h (Nat.le_trans (Dg.bl_mulk lx ly) (by omega))
    rwa [mul_sign] at this
  unfold Tryz.f41 bodyOf entry; simp only [Option.getD_some, List.length_cons, List.length_nil, Nat.reduceAdd, Nat.reduceSub]
  repeat (first
    | refine wp_seqQ ?_ | refine wp_blockQ ?_ | refine wp_scopeQ ?_
    | ((first | refine wp_skipQ ?_ | refine wp_labelQ ?_ | refine wp_exitQ ?_ | refine wp_retQ ?_); simp only [kQ, Nat.reduceEqDiff, reduceIte])
    | ((first | refine wp_dreg B (id := 1) [0, 1, 0, 4, 15, 0, 32, 0, 128, 480, 1023, 2047] (by kernel_rfl) ?_ | refine wp_reg B ?_); simp (disch := omega) only [kW, kG, Nat.reduceEqDiff, reduceIte, Nat.reduceLT, Nat.reduceLeDiff, Nat.reduceAdd, Nat.reduceSub, Nat.reduceMul, Nat.reducePow, Nat.reduceDiv, Nat.reduceMod, evIndexAddr, TD.agg, evFieldAddr, binA_eqB ty4, binA_neB ty4, ty4, ty40, ty42, ty92, fn63, fn16, c_ErMake, ErMake_ans, c_EsMul, EsMul_ans, k1, rzav_cells, rnav_one, rnav_clean, rzav_fold])
    | refine wp_condT rfl ?_ | refine wp_condF rfl ?_)
  simp (disch := omega) only [kS, Nat.reduceEqDiff, reduceIte, Nat.reduceLT, Nat.reduceLeDiff, Nat.reduceAdd, Nat.reduceSub, Nat.reduceMul, Nat.reducePow, Nat.reduceDiv, Nat.reduceMod, evIndexAddr, TD.agg, evFieldAddr, binA_eqB ty4, binA_neB ty4, ty4, ty40, ty42, ty92, fn63, fn16, c_ErMake, ErMake_ans, c_EsMul, EsMul_ans, rzav_fold]
noncomputable def ErMul : Entry Tryz.prog := ⟨41, fun args h e h' => h' = h ∧ ∃ (x y : Int), args = [rzav x, rzav y] ∧ (bl x.natAbs ≤ 10000) ∧ (bl y.natAbs ≤ 10000) ∧ e = .ret (rzav (x * y)), by
  rintro args h e h' ⟨rfl, x, y, rfl, h1, h2, rfl⟩
  exact ⟨rMul_sem x y h1 h2 _, Hp.Le.refl _⟩⟩
theorem ErMul_ans (x y : Int) (h : Hp) (h1 : bl x.natAbs ≤ 10000) (h2 : bl y.natAbs ≤ 10000) : ErMul.ans [rzav x, rzav y] h = some (.ret (rzav (x * y)), h) :=
  Entry.one ⟨rfl, x, y, rfl, h1, h2, rfl⟩ fun e h' ⟨hh, x', y', ha, _, _, he⟩ => by simp only [kI, rnav_eq, rzav_eq] at ha; obtain ⟨rfl, rfl⟩ := ha; exact ⟨he, hh⟩
theorem rAdd_sem (x y : Int) (lx : bl x.natAbs ≤ 16000) (ly : bl y.natAbs ≤ 16000) (h : Hp) : SemCall Tryz.prog 61 [rzav x, rzav y] h (.ret (rzav (x + y))) h := by
  refine sem_pure tables.ok Tryz.func61 rfl rfl rfl rfl (by simp [pureL, rzav_pure]) (rzav_pure _) ?_ h
  have B : Base Tryz.prog tab _ := tabL_base [ErMake, EsAdd, EsCmp, EsSub] tables.ok mixed
  generalize hL : tabL [ErMake, EsAdd, EsCmp, EsSub] = call at B
  have c_ErMake : ∀ a h, call 16 a h = ErMake.ans a h := fun _ _ => hL ▸ rfl
  have c_EsAdd : ∀ a h, call 79 a h = EsAdd.ans a h := fun _ _ => hL ▸ rfl
  have c_EsCmp : ∀ a h, call 77 a h = EsCmp.ans a h := fun _ _ => hL ▸ rfl
  have c_EsSub : ∀ a h, call 78 a h = EsSub.ans a h := fun _ _ => hL ▸ rfl
  clear hL
  unfold Tryz.f61 bodyOf entry; simp only [Option.getD_some, List.length_cons, List.length_nil, Nat.reduceAdd, Nat.reduceSub]
  by_cases hs : (x < 0 ↔ y < 0)
  · have e1 : (decide (x < 0) == decide (y < 0)) = true := by rw [beq_iff_eq, decide_eq_decide]; exact hs
    have k1 : ∀ h, ErMake.ans [.flat (.bool (decide (x < 0))), rnav (x.natAbs + y.natAbs)] h = some (.ret (rzav (x + y)), h) := fun h => by
      have := ErMake_ans (decide (x < 0)) (x.natAbs + y.natAbs) h (Nat.le_trans (Dg.bl_addk lx ly) (by omega))
      rwa [show (if decide (x < 0) = true then -((x.natAbs + y.natAbs : Nat) : Int) else ((x.natAbs + y.natAbs : Nat) : Int)) = x + y by by_cases hx : x < 0 <;> simp [hx] <;> omega] at this
    repeat (first
      | refine wp_seqQ ?_ | refine wp_blockQ ?_ | refine wp_scopeQ ?_
      | ((first | refine wp_skipQ ?_ | refine wp_labelQ ?_ | refine wp_exitQ ?_ | refine wp_retQ ?_); simp only [kQ, Nat.reduceEqDiff, reduceIte])
      | ((first | refine wp_dreg B (id := 2) [0, 1, 0, 4, 0, 16, 60, 127, 255] (by kernel_rfl) ?_ | refine wp_dreg B (id := 4) [0, 1, 0, 4, 0, 16, 60, 127, 255] (by kernel_rfl) ?_ | refine wp_dreg B (id := 5) [0, 1, 0, 4, 0, 16, 60, 127, 255] (by kernel_rfl) ?_ | refine wp_reg B ?_); simp (disch := omega) only [kW, kG, Nat.reduceEqDiff, reduceIte, Nat.reduceLT, Nat.reduceLeDiff, Nat.reduceAdd, Nat.reduceSub, Nat.reduceMul, Nat.reducePow, Nat.reduceDiv, Nat.reduceMod, evIndexAddr, TD.agg, evFieldAddr, binA_eqB ty4, binA_neB ty4, ty3, ty4, ty40, ty42, ty92, fn79, fn16, fn77, fn78, c_ErMake, ErMake_ans, c_EsAdd, EsAdd_ans, c_EsCmp, EsCmp_ans, c_EsSub, EsSub_ans, e1, k1, rzav_cells, rnav_one, rnav_clean, rzav_fold])
      | refine wp_condT rfl ?_ | refine wp_condF rfl ?_)
    simp (disch := omega) only [kS, Nat.reduceEqDiff, reduceIte, Nat.reduceLT, Nat.reduceLeDiff, Nat.reduceAdd, Nat.reduceSub, Nat.reduceMul, Nat.reducePow, Nat.reduceDiv, Nat.reduceMod, evIndexAddr, TD.agg, evFieldAddr, binA_eqB ty4, binA_neB ty4, ty3, ty4, ty40, ty42, ty92, fn79, fn16, fn77, fn78, c_ErMake, ErMake_ans, c_EsAdd, EsAdd_ans, c_EsCmp, EsCmp_ans, c_EsSub, EsSub_ans, rzav_fold]
  · have e1 : (decide (x < 0) == decide (y < 0)) = false := by rw [beq_eq_false_iff_ne, ne_eq, decide_eq_decide]; exact hs
    have hc := cmp_lt x.natAbs y.natAbs
    by_cases hlt : x.natAbs < y.natAbs
    · have e2 : Dg.cmp x.natAbs y.natAbs < 0 := hc.2 hlt
      have k1 : ∀ h, ErMake.ans [.flat (.bool (decide (y < 0))), rnav (y.natAbs - x.natAbs)] h = some (.ret (rzav (x + y)), h) := fun h => by
        have := ErMake_ans (decide (y < 0)) (y.natAbs - x.natAbs) h (by have := Dg.bl_mono' (show y.natAbs - x.natAbs ≤ y.natAbs by omega); omega)
        rwa [show (if decide (y < 0) = true then -((y.natAbs - x.natAbs : Nat) : Int) else ((y.natAbs - x.natAbs : Nat) : Int)) = x + y by by_cases hy : y < 0 <;> simp [hy] <;> omega] at this
      have k2 := fun h => EsSub_ans y.natAbs x.natAbs h ly lx (by omega)
      have k3 := fun h => EsCmp_ans x.natAbs y.natAbs h lx ly
      generalize Dg.cmp x.natAbs y.natAbs = cm at *
      repeat (first
        | refine wp_seqQ ?_ | refine wp_blockQ ?_ | refine wp_scopeQ ?_
        | ((first | refine wp_skipQ ?_ | refine wp_labelQ ?_ | refine wp_exitQ ?_ | refine wp_retQ ?_); simp only [kQ, Nat.reduceEqDiff, reduceIte])
        | ((first | refine wp_dreg B (id := 2) [0, 1, 0, 4, 0, 16, 60, 127, 255] (by kernel_rfl) ?_ | refine wp_dreg B (id := 4) [0, 1, 0, 4, 0, 16, 60, 127, 255] (by kernel_rfl) ?_ | refine wp_dreg B (id := 5) [0, 1, 0, 4, 0, 16, 60, 127, 255] (by kernel_rfl) ?_ | refine wp_reg B ?_); simp (disch := omega) only [kW, kG, Nat.reduceEqDiff, reduceIte, Nat.reduceLT, Nat.reduceLeDiff, Nat.reduceAdd, Nat.reduceSub, Nat.reduceMul, Nat.reducePow, Nat.reduceDiv, Nat.reduceMod, evIndexAddr, TD.agg, evFieldAddr, binA_eqB ty4, binA_neB ty4, ty3, ty4, ty40, ty42, ty92, fn79, fn16, fn77, fn78, c_ErMake, ErMake_ans, c_EsAdd, EsAdd_ans, c_EsCmp, EsCmp_ans, c_EsSub, EsSub_ans, e1, k1, k2, k3, rzav_cells, rnav_one, rnav_clean, rzav_fold])
        | refine wp_condT rfl ?_ | refine wp_condF rfl ?_)
      simp (disch := omega) only [kS, Nat.reduceEqDiff, reduceIte, Nat.reduceLT, Nat.reduceLeDiff, Nat.reduceAdd, Nat.reduceSub, Nat.reduceMul, Nat.reducePow, Nat.reduceDiv, Nat.reduceMod, evIndexAddr, TD.agg, evFieldAddr, binA_eqB ty4, binA_neB ty4, ty3, ty4, ty40, ty42, ty92, fn79, fn16, fn77, fn78, c_ErMake, ErMake_ans, c_EsAdd, EsAdd_ans, c_EsCmp, EsCmp_ans, c_EsSub, EsSub_ans, rzav_fold]
    · have e2 : ¬ Dg.cmp x.natAbs y.natAbs < 0 := fun k => hlt (hc.1 k)
      have k1 : ∀ h, ErMake.ans [.flat (.bool (decide (x < 0))), rnav (x.natAbs - y.natAbs)] h = some (.ret (rzav (x + y)), h) := fun h => by
        have := ErMake_ans (decide (x < 0)) (x.natAbs - y.natAbs) h (by have := Dg.bl_mono' (show x.natAbs - y.natAbs ≤ x.natAbs by omega); omega)
        rwa [show (if decide (x < 0) = true then -((x.natAbs - y.natAbs : Nat) : Int) else ((x.natAbs - y.natAbs : Nat) : Int)) = x + y by by_cases hx : x < 0 <;> simp [hx] <;> omega] at this
      have k2 := fun h => EsSub_ans x.natAbs y.natAbs h lx ly (by omega)
      have k3 := fun h => EsCmp_ans x.natAbs y.natAbs h lx ly
      generalize Dg.cmp x.natAbs y.natAbs = cm at *
      repeat (first
        | refine wp_seqQ ?_ | refine wp_blockQ ?_ | refine wp_scopeQ ?_
        | ((first | refine wp_skipQ ?_ | refine wp_labelQ ?_ | refine wp_exitQ ?_ | refine wp_retQ ?_); simp only [kQ, Nat.reduceEqDiff, reduceIte])
        | ((first | refine wp_dreg B (id := 2) [0, 1, 0, 4, 0, 16, 60, 127, 255] (by kernel_rfl) ?_ | refine wp_dreg B (id := 4) [0, 1, 0, 4, 0, 16, 60, 127, 255] (by kernel_rfl) ?_ | refine wp_dreg B (id := 5) [0, 1, 0, 4, 0, 16, 60, 127, 255] (by kernel_rfl) ?_ | refine wp_reg B ?_); simp (disch := omega) only [kW, kG, Nat.reduceEqDiff, reduceIte, Nat.reduceLT, Nat.reduceLeDiff, Nat.reduceAdd, Nat.reduceSub, Nat.reduceMul, Nat.reducePow, Nat.reduceDiv, Nat.reduceMod, evIndexAddr, TD.agg, evFieldAddr, binA_eqB ty4, binA_neB ty4, ty3, ty4, ty40, ty42, ty92, fn79, fn16, fn77, fn78, c_ErMake, ErMake_ans, c_EsAdd, EsAdd_ans, c_EsCmp, EsCmp_ans, c_EsSub, EsSub_ans, e1, k1, k2, k3, rzav_cells, rnav_one, rnav_clean, rzav_fold])
        | refine wp_condT rfl ?_ | refine wp_condF rfl ?_)
      simp (disch := omega) only [kS, Nat.reduceEqDiff, reduceIte, Nat.reduceLT, Nat.reduceLeDiff, Nat.reduceAdd, Nat.reduceSub, Nat.reduceMul, Nat.reducePow, Nat.reduceDiv, Nat.reduceMod, evIndexAddr, TD.agg, evFieldAddr, binA_eqB ty4, binA_neB ty4, ty3, ty4, ty40, ty42, ty92, fn79, fn16, fn77, fn78, c_ErMake, ErMake_ans, c_EsAdd, EsAdd_ans, c_EsCmp, EsCmp_ans, c_EsSub, EsSub_ans, rzav_fold]
noncomputable def ErAdd : Entry Tryz.prog := ⟨61, fun args h e h' => h' = h ∧ ∃ (x y : Int), args = [rzav x, rzav y] ∧ (bl x.natAbs ≤ 16000) ∧ (bl y.natAbs ≤ 16000) ∧ e = .ret (rzav (x + y)), by
  rintro args h e h' ⟨rfl, x, y, rfl, h1, h2, rfl⟩
  exact ⟨rAdd_sem x y h1 h2 _, Hp.Le.refl _⟩⟩
theorem ErAdd_ans (x y : Int) (h : Hp) (h1 : bl x.natAbs ≤ 16000) (h2 : bl y.natAbs ≤ 16000) : ErAdd.ans [rzav x, rzav y] h = some (.ret (rzav (x + y)), h) :=
  Entry.one ⟨rfl, x, y, rfl, h1, h2, rfl⟩ fun e h' ⟨hh, x', y', ha, _, _, he⟩ => by simp only [kI, rnav_eq, rzav_eq] at ha; obtain ⟨rfl, rfl⟩ := ha; exact ⟨he, hh⟩
theorem rSub_sem (x y : Int) (lx : bl x.natAbs ≤ 16000) (ly : bl y.natAbs ≤ 16000) (h : Hp) : SemCall Tryz.prog 40 [rzav x, rzav y] h (.ret (rzav (x - y))) h := by
  refine sem_pure tables.ok Tryz.func40 rfl rfl rfl rfl (by simp [pureL, rzav_pure]) (rzav_pure _) ?_ h
  have B : Base Tryz.prog tab _ := tabL_base [ErNeg, ErAdd] tables.ok mixed
  generalize hL : tabL [ErNeg, ErAdd] = call at B
  have c_ErNeg : ∀ a h, call 62 a h = ErNeg.ans a h := fun _ _ => hL ▸ rfl
  have c_ErAdd : ∀ a h, call 61 a h = ErAdd.ans a h := fun _ _ => hL ▸ rfl
  clear hL
  have k1 : ∀ h, ErAdd.ans [rzav x, rzav (-y)] h = some (.ret (rzav (x - y)), h) := fun h => by
    have := ErAdd_ans x (-y) h lx (by rw [Int.natAbs_neg]; exact ly)
    rwa [← Int.sub_eq_add_neg] at this
  unfold Tryz.f40 bodyOf entry; simp only [Option.getD_some, List.length_cons, List.length_nil, Nat.reduceAdd, Nat.reduceSub]
  repeat (first
    | refine wp_seqQ ?_ | refine wp_blockQ ?_ | refine wp_scopeQ ?_
    | ((first | refine wp_skipQ ?_ | refine wp_labelQ ?_ | refine wp_exitQ ?_ | refine wp_retQ ?_); simp only [kQ, Nat.reduceEqDiff, reduceIte])
    | ((first | refine wp_dreg B (id := 1) [0, 0, 2, 7, 15] (by kernel_rfl) ?_ | refine wp_reg B ?_); simp (disch := omega) only [kW, kG, Nat.reduceEqDiff, reduceIte, Nat.reduceLT, Nat.reduceLeDiff, Nat.reduceAdd, Nat.reduceSub, Nat.reduceMul, Nat.reducePow, Nat.reduceDiv, Nat.reduceMod, evIndexAddr, TD.agg, evFieldAddr, binA_eqB ty4, binA_neB ty4, ty4, ty40, ty42, ty92, fn62, fn61, c_ErNeg, ErNeg_ans, c_ErAdd, ErAdd_ans, k1, rzav_cells, rnav_one, rnav_clean, rzav_fold])
    | refine wp_condT rfl ?_ | refine wp_condF rfl ?_)
  simp (disch := omega) only [kS, Nat.reduceEqDiff, reduceIte, Nat.reduceLT, Nat.reduceLeDiff, Nat.reduceAdd, Nat.reduceSub, Nat.reduceMul, Nat.reducePow, Nat.reduceDiv, Nat.reduceMod, evIndexAddr, TD.agg, evFieldAddr, binA_eqB ty4, binA_neB ty4, ty4, ty40, ty42, ty92, fn62, fn61, c_ErNeg, ErNeg_ans, c_ErAdd, ErAdd_ans, rzav_fold]
noncomputable def ErSub : Entry Tryz.prog := ⟨40, fun args h e h' => h' = h ∧ ∃ (x y : Int), args = [rzav x, rzav y] ∧ (bl x.natAbs ≤ 16000) ∧ (bl y.natAbs ≤ 16000) ∧ e = .ret (rzav (x - y)), by
  rintro args h e h' ⟨rfl, x, y, rfl, h1, h2, rfl⟩
  exact ⟨rSub_sem x y h1 h2 _, Hp.Le.refl _⟩⟩
theorem ErSub_ans (x y : Int) (h : Hp) (h1 : bl x.natAbs ≤ 16000) (h2 : bl y.natAbs ≤ 16000) : ErSub.ans [rzav x, rzav y] h = some (.ret (rzav (x - y)), h) :=
  Entry.one ⟨rfl, x, y, rfl, h1, h2, rfl⟩ fun e h' ⟨hh, x', y', ha, _, _, he⟩ => by simp only [kI, rnav_eq, rzav_eq] at ha; obtain ⟨rfl, rfl⟩ := ha; exact ⟨he, hh⟩
theorem rQuo_sem (x y : Int) (lx : bl x.natAbs ≤ 4000) (ly : bl y.natAbs ≤ 4000) (y0 : y ≠ 0) (h : Hp) : SemCall Tryz.prog 38 [rzav x, rzav y] h (.ret (.tuple [rzav (x / y), rzav (x % y)])) h := by
  refine sem_pure tables.ok Tryz.func38 rfl rfl rfl rfl (by simp [pureL, rzav_pure]) (by simp [AV.pure, pureL, rzav_pure]) ?_ h
  have B : Base Tryz.prog tab _ := tabL_base [ErMake, EsDiv, ErSign, ErAdd, ErOf, ErSub] tables.ok mixed
  generalize hL : tabL [ErMake, EsDiv, ErSign, ErAdd, ErOf, ErSub] = call at B
  have c_ErMake : ∀ a h, call 16 a h = ErMake.ans a h := fun _ _ => hL ▸ rfl
  have c_EsDiv : ∀ a h, call 60 a h = EsDiv.ans a h := fun _ _ => hL ▸ rfl
  have c_ErSign : ∀ a h, call 36 a h = ErSign.ans a h := fun _ _ => hL ▸ rfl
  have c_ErAdd : ∀ a h, call 61 a h = ErAdd.ans a h := fun _ _ => hL ▸ rfl
  have c_ErOf : ∀ a h, call 14 a h = ErOf.ans a h := fun _ _ => hL ▸ rfl
  have c_ErSub : ∀ a h, call 40 a h = ErSub.ans a h := fun _ _ => hL ▸ rfl
  clear hL
  have bq := Dg.bl_mono' (Nat.div_le_self x.natAbs y.natAbs)
  have br := Dg.bl_mono' (Nat.mod_le x.natAbs y.natAbs)
  have kd := fun h => EsDiv_ans x.natAbs y.natAbs h lx ly (by omega)
  have k1 : ∀ h, ErMake.ans [.flat (.bool (!(decide (x < 0) == decide (y < 0)))), rnav (x.natAbs / y.natAbs)] h = some (.ret (rzav (tQ x y)), h) := fun h =>
    ErMake_ans (!(decide (x < 0) == decide (y < 0))) (x.natAbs / y.natAbs) h (by omega)
  have k2 : ∀ h, ErMake.ans [.flat (.bool (decide (x < 0))), rnav (x.natAbs % y.natAbs)] h = some (.ret (rzav (tR x y)), h) := fun h =>
    ErMake_ans (decide (x < 0)) (x.natAbs % y.natAbs) h (by omega)
  have bQ := Dg.bl_mono' (tQ_abs x y)
  have bR := Dg.bl_mono' (Nat.le_of_lt (tR_lt x y y0))
  have k3 := fun h => ErSign_ans (tR x y) h (by omega)
  obtain ⟨q, hq, hq0⟩ : ∃ q : Int, q = (if tR x y < 0 then -1 else if tR x y = 0 then 0 else 1) ∧ (q < 0 ↔ tR x y < 0) := ⟨_, rfl, by split <;> (try split) <;> omega⟩
  rw [← hq] at k3
  have k4 : ∀ h, ErMake.ans [.flat (.bool false), rnav y.natAbs] h = some (.ret (rzav (y.natAbs : Int)), h) := fun h => ErMake_ans false y.natAbs h (by omega)
  have b1 : bl (1 : Int).natAbs ≤ 1 := Dg.bl_le.2 (by decide)
  have p1 := fun h => trunc_pos x y y0 h
  have p2 := fun h => trunc_neg x y y0 h
  generalize tQ x y = X at *
  generalize tR x y = R at *
  generalize x.natAbs / y.natAbs = a at *
  generalize x.natAbs % y.natAbs = b at *
  clear hq
  unfold Tryz.f38 bodyOf entry; simp only [Option.getD_some, List.length_cons, List.length_nil, Nat.reduceAdd, Nat.reduceSub]
  by_cases hR : R < 0
  · obtain ⟨e1, e2⟩ := p2 hR
    have hqq : q < 0 := hq0.2 hR
    have k5 : ∀ h, ErAdd.ans [rzav R, rzav (y.natAbs : Int)] h = some (.ret (rzav (x % y)), h) := fun h => by
      have := ErAdd_ans R (y.natAbs : Int) h (by omega) (by rw [Int.natAbs_natCast]; omega)
      rwa [e2] at this
    by_cases hy : y < 0
    · rw [if_pos hy] at e1
      rw [decide_eq_true hy] at k1
      have k6 : ∀ h, ErAdd.ans [rzav X, rzav 1] h = some (.ret (rzav (x / y)), h) := fun h => by
        have := ErAdd_ans X 1 h (by omega) (by omega)
        rwa [e1] at this
      clear p1 p2 e1 e2 hq0
      repeat (first
        | refine wp_seqQ ?_ | refine wp_blockQ ?_ | refine wp_scopeQ ?_
        | ((first | refine wp_skipQ ?_ | refine wp_labelQ ?_ | refine wp_exitQ ?_ | refine wp_retQ ?_); simp only [kQ, Nat.reduceEqDiff, reduceIte])
        | ((first | refine wp_dreg B (id := 5) [0, 0, 2, 6, 15, 31] (by kernel_rfl) ?_ | refine wp_dreg B (id := 7) [0, 0, 3, 7] (by kernel_rfl) ?_ | refine wp_dreg B (id := 8) [0, 0, 3, 7] (by kernel_rfl) ?_ | refine wp_dreg B (id := 9) [0, 0, 1, 7] (by kernel_rfl) ?_ | refine wp_reg B ?_); simp (disch := omega) only [kW, kG, Nat.reduceEqDiff, reduceIte, Nat.reduceLT, Nat.reduceLeDiff, Nat.reduceAdd, Nat.reduceSub, Nat.reduceMul, Nat.reducePow, Nat.reduceDiv, Nat.reduceMod, evIndexAddr, TD.agg, evFieldAddr, binA_eqB ty4, binA_neB ty4, ty2, ty3, ty4, ty40, ty42, ty92, fn60, fn16, fn36, fn61, fn14, fn40, c_ErMake, ErMake_ans, c_EsDiv, EsDiv_ans, c_ErSign, ErSign_ans, c_ErAdd, ErAdd_ans, c_ErOf, ErOf_ans, c_ErSub, ErSub_ans, kd, k1, k2, k3, k4, k5, k6, rzav_cells, rnav_one, rnav_clean, rzav_fold])
        | refine wp_condT rfl ?_ | refine wp_condF rfl ?_)
      refine wp_if (p := y < 0) rfl (fun _ => ?_) (fun k => absurd hy k)
      repeat (first
        | refine wp_seqQ ?_ | refine wp_blockQ ?_ | refine wp_scopeQ ?_
        | ((first | refine wp_skipQ ?_ | refine wp_labelQ ?_ | refine wp_exitQ ?_ | refine wp_retQ ?_); simp only [kQ, Nat.reduceEqDiff, reduceIte])
        | ((first | refine wp_dreg B (id := 5) [0, 0, 2, 6, 15, 31] (by kernel_rfl) ?_ | refine wp_dreg B (id := 7) [0, 0, 3, 7] (by kernel_rfl) ?_ | refine wp_dreg B (id := 8) [0, 0, 3, 7] (by kernel_rfl) ?_ | refine wp_dreg B (id := 9) [0, 0, 1, 7] (by kernel_rfl) ?_ | refine wp_reg B ?_); simp (disch := omega) only [kW, kG, Nat.reduceEqDiff, reduceIte, Nat.reduceLT, Nat.reduceLeDiff, Nat.reduceAdd, Nat.reduceSub, Nat.reduceMul, Nat.reducePow, Nat.reduceDiv, Nat.reduceMod, evIndexAddr, TD.agg, evFieldAddr, binA_eqB ty4, binA_neB ty4, ty2, ty3, ty4, ty40, ty42, ty92, fn60, fn16, fn36, fn61, fn14, fn40, c_ErMake, ErMake_ans, c_EsDiv, EsDiv_ans, c_ErSign, ErSign_ans, c_ErAdd, ErAdd_ans, c_ErOf, ErOf_ans, c_ErSub, ErSub_ans, kd, k1, k2, k3, k4, k5, k6, rzav_cells, rnav_one, rnav_clean, rzav_fold])
        | refine wp_condT rfl ?_ | refine wp_condF rfl ?_)
      simp (disch := omega) only [kS, Nat.reduceEqDiff, reduceIte, Nat.reduceLT, Nat.reduceLeDiff, Nat.reduceAdd, Nat.reduceSub, Nat.reduceMul, Nat.reducePow, Nat.reduceDiv, Nat.reduceMod, evIndexAddr, TD.agg, evFieldAddr, binA_eqB ty4, binA_neB ty4, ty2, ty3, ty4, ty40, ty42, ty92, fn60, fn16, fn36, fn61, fn14, fn40, c_ErMake, ErMake_ans, c_EsDiv, EsDiv_ans, c_ErSign, ErSign_ans, c_ErAdd, ErAdd_ans, c_ErOf, ErOf_ans, c_ErSub, ErSub_ans, rzav_fold]
    · rw [if_neg hy] at e1
      rw [decide_eq_false hy] at k1
      have k6 : ∀ h, ErSub.ans [rzav X, rzav 1] h = some (.ret (rzav (x / y)), h) := fun h => by
        have := ErSub_ans X 1 h (by omega) (by omega)
        rwa [e1] at this
      clear p1 p2 e1 e2 hq0
      repeat (first
        | refine wp_seqQ ?_ | refine wp_blockQ ?_ | refine wp_scopeQ ?_
        | ((first | refine wp_skipQ ?_ | refine wp_labelQ ?_ | refine wp_exitQ ?_ | refine wp_retQ ?_); simp only [kQ, Nat.reduceEqDiff, reduceIte])
        | ((first | refine wp_dreg B (id := 5) [0, 0, 2, 6, 15, 31] (by kernel_rfl) ?_ | refine wp_dreg B (id := 7) [0, 0, 3, 7] (by kernel_rfl) ?_ | refine wp_dreg B (id := 8) [0, 0, 3, 7] (by kernel_rfl) ?_ | refine wp_dreg B (id := 9) [0, 0, 1, 7] (by kernel_rfl) ?_ | refine wp_reg B ?_); simp (disch := omega) only [kW, kG, Nat.reduceEqDiff, reduceIte, Nat.reduceLT, Nat.reduceLeDiff, Nat.reduceAdd, Nat.reduceSub, Nat.reduceMul, Nat.reducePow, Nat.reduceDiv, Nat.reduceMod, evIndexAddr, TD.agg, evFieldAddr, binA_eqB ty4, binA_neB ty4, ty2, ty3, ty4, ty40, ty42, ty92, fn60, fn16, fn36, fn61, fn14, fn40, c_ErMake, ErMake_ans, c_EsDiv, EsDiv_ans, c_ErSign, ErSign_ans, c_ErAdd, ErAdd_ans, c_ErOf, ErOf_ans, c_ErSub, ErSub_ans, kd, k1, k2, k3, k4, k5, k6, rzav_cells, rnav_one, rnav_clean, rzav_fold])
        | refine wp_condT rfl ?_ | refine wp_condF rfl ?_)
      refine wp_if (p := y < 0) rfl (fun k => absurd k hy) (fun _ => ?_)
      repeat (first
        | refine wp_seqQ ?_ | refine wp_blockQ ?_ | refine wp_scopeQ ?_
        | ((first | refine wp_skipQ ?_ | refine wp_labelQ ?_ | refine wp_exitQ ?_ | refine wp_retQ ?_); simp only [kQ, Nat.reduceEqDiff, reduceIte])
        | ((first | refine wp_dreg B (id := 5) [0, 0, 2, 6, 15, 31] (by kernel_rfl) ?_ | refine wp_dreg B (id := 7) [0, 0, 3, 7] (by kernel_rfl) ?_ | refine wp_dreg B (id := 8) [0, 0, 3, 7] (by kernel_rfl) ?_ | refine wp_dreg B (id := 9) [0, 0, 1, 7] (by kernel_rfl) ?_ | refine wp_reg B ?_); simp (disch := omega) only [kW, kG, Nat.reduceEqDiff, reduceIte, Nat.reduceLT, Nat.reduceLeDiff, Nat.reduceAdd, Nat.reduceSub, Nat.reduceMul, Nat.reducePow, Nat.reduceDiv, Nat.reduceMod, evIndexAddr, TD.agg, evFieldAddr, binA_eqB ty4, binA_neB ty4, ty2, ty3, ty4, ty40, ty42, ty92, fn60, fn16, fn36, fn61, fn14, fn40, c_ErMake, ErMake_ans, c_EsDiv, EsDiv_ans, c_ErSign, ErSign_ans, c_ErAdd, ErAdd_ans, c_ErOf, ErOf_ans, c_ErSub, ErSub_ans, kd, k1, k2, k3, k4, k5, k6, rzav_cells, rnav_one, rnav_clean, rzav_fold])
        | refine wp_condT rfl ?_ | refine wp_condF rfl ?_)
      simp (disch := omega) only [kS, Nat.reduceEqDiff, reduceIte, Nat.reduceLT, Nat.reduceLeDiff, Nat.reduceAdd, Nat.reduceSub, Nat.reduceMul, Nat.reducePow, Nat.reduceDiv, Nat.reduceMod, evIndexAddr, TD.agg, evFieldAddr, binA_eqB ty4, binA_neB ty4, ty2, ty3, ty4, ty40, ty42, ty92, fn60, fn16, fn36, fn61, fn14, fn40, c_ErMake, ErMake_ans, c_EsDiv, EsDiv_ans, c_ErSign, ErSign_ans, c_ErAdd, ErAdd_ans, c_ErOf, ErOf_ans, c_ErSub, ErSub_ans, rzav_fold]
  · obtain ⟨e1, e2⟩ := p1 hR
    have hqq : ¬ q < 0 := fun k => hR (hq0.1 k)
    clear p1 p2 hq0
    repeat (first
      | refine wp_seqQ ?_ | refine wp_blockQ ?_ | refine wp_scopeQ ?_
      | ((first | refine wp_skipQ ?_ | refine wp_labelQ ?_ | refine wp_exitQ ?_ | refine wp_retQ ?_); simp only [kQ, Nat.reduceEqDiff, reduceIte])
      | ((first | refine wp_dreg B (id := 5) [0, 0, 2, 6, 15, 31] (by kernel_rfl) ?_ | refine wp_dreg B (id := 7) [0, 0, 3, 7] (by kernel_rfl) ?_ | refine wp_dreg B (id := 8) [0, 0, 3, 7] (by kernel_rfl) ?_ | refine wp_dreg B (id := 9) [0, 0, 1, 7] (by kernel_rfl) ?_ | refine wp_reg B ?_); simp (disch := omega) only [kW, kG, Nat.reduceEqDiff, reduceIte, Nat.reduceLT, Nat.reduceLeDiff, Nat.reduceAdd, Nat.reduceSub, Nat.reduceMul, Nat.reducePow, Nat.reduceDiv, Nat.reduceMod, evIndexAddr, TD.agg, evFieldAddr, binA_eqB ty4, binA_neB ty4, ty2, ty3, ty4, ty40, ty42, ty92, fn60, fn16, fn36, fn61, fn14, fn40, c_ErMake, ErMake_ans, c_EsDiv, EsDiv_ans, c_ErSign, ErSign_ans, c_ErAdd, ErAdd_ans, c_ErOf, ErOf_ans, c_ErSub, ErSub_ans, kd, k1, k2, k3, rzav_cells, rnav_one, rnav_clean, rzav_fold])
      | refine wp_condT rfl ?_ | refine wp_condF rfl ?_)
    simp (disch := omega) only [kS, Nat.reduceEqDiff, reduceIte, Nat.reduceLT, Nat.reduceLeDiff, Nat.reduceAdd, Nat.reduceSub, Nat.reduceMul, Nat.reducePow, Nat.reduceDiv, Nat.reduceMod, evIndexAddr, TD.agg, evFieldAddr, binA_eqB ty4, binA_neB ty4, ty2, ty3, ty4, ty40, ty42, ty92, fn60, fn16, fn36, fn61, fn14, fn40, c_ErMake, ErMake_ans, c_EsDiv, EsDiv_ans, c_ErSign, ErSign_ans, c_ErAdd, ErAdd_ans, c_ErOf, ErOf_ans, c_ErSub, ErSub_ans, rzav_fold, e1, e2]
noncomputable def ErQuo : Entry Tryz.prog := ⟨38, fun args h e h' => h' = h ∧ ∃ (x y : Int), args = [rzav x, rzav y] ∧ (bl x.natAbs ≤ 4000) ∧ (bl y.natAbs ≤ 4000) ∧ (y ≠ 0) ∧ e = .ret (.tuple [rzav (x / y), rzav (x % y)]), by
  rintro args h e h' ⟨rfl, x, y, rfl, h1, h2, h3, rfl⟩
  exact ⟨rQuo_sem x y h1 h2 h3 _, Hp.Le.refl _⟩⟩
theorem ErQuo_ans (x y : Int) (h : Hp) (h1 : bl x.natAbs ≤ 4000) (h2 : bl y.natAbs ≤ 4000) (h3 : y ≠ 0) : ErQuo.ans [rzav x, rzav y] h = some (.ret (.tuple [rzav (x / y), rzav (x % y)]), h) :=
  Entry.one ⟨rfl, x, y, rfl, h1, h2, h3, rfl⟩ fun e h' ⟨hh, x', y', ha, _, _, _, he⟩ => by simp only [kI, rnav_eq, rzav_eq] at ha; obtain ⟨rfl, rfl⟩ := ha; exact ⟨he, hh⟩
theorem rzero_weak : FzL (fun _ => none) [.flat (.bool false), nilA] [zs 0, rzm 0] := by
  have e : rzm 0 = dgs [] := by simp only [rzm, rnav, Int.natAbs_zero, Eg.dg_zero]
  refine FzL.cons (fun ρ ρ' v _ _ h => ?_) (FzL.cons (fun ρ ρ' v _ _ h => ?_) (FzL.nil _))
  · simpa [zs, AV.rel] using h
  · rw [e]
    simp only [nilA, AV.rel] at h
    subst h
    simp only [dgs, AV.rel]
    exact ⟨none, 0, rfl, by simp, by simp, by omega, fun h => by simp at h⟩
theorem rturned_sem (c m : Int) (lc : bl c.natAbs ≤ 1000) (lm : bl m.natAbs ≤ 1000) (m0 : 0 < m) (g1 : Int.gcd c m = 1) (h : Hp) : SemCall Tryz.prog 39 [rzav c, rzav m] h (.ret (rzav (cofX c m))) h := by
  refine sem_pure tables.ok Tryz.func39 rfl rfl rfl rfl (by simp [pureL, rzav_pure]) (rzav_pure _) ?_ h
  have B : Base Tryz.prog tab _ := tabL_base [ErQuo, ErZero, ErOf, ErMul, ErSub] tables.ok mixed
  generalize hL : tabL [ErQuo, ErZero, ErOf, ErMul, ErSub] = call at B
  have c_ErQuo : ∀ a h, call 38 a h = ErQuo.ans a h := fun _ _ => hL ▸ rfl
  have c_ErZero : ∀ a h, call 35 a h = ErZero.ans a h := fun _ _ => hL ▸ rfl
  have c_ErOf : ∀ a h, call 14 a h = ErOf.ans a h := fun _ _ => hL ▸ rfl
  have c_ErMul : ∀ a h, call 41 a h = ErMul.ans a h := fun _ _ => hL ▸ rfl
  have c_ErSub : ∀ a h, call 40 a h = ErSub.ans a h := fun _ _ => hL ▸ rfl
  clear hL
  have b1 := (Cof.start c m m0).bits lc lm
  have k1 := fun h => ErQuo_ans c m h (by omega) (by omega) (by omega)
  have k3 := fun h => ErOf_ans 1 h (by omega) (by omega)
  unfold Tryz.f39 bodyOf entry; simp only [Option.getD_some, List.length_cons, List.length_nil, Nat.reduceAdd, Nat.reduceSub]
  repeat (first
    | refine wp_seqQ ?_ | refine wp_blockQ ?_ | refine wp_scopeQ ?_
    | ((first | refine wp_skipQ ?_ | refine wp_labelQ ?_ | refine wp_exitQ ?_ | refine wp_retQ ?_); simp only [kQ, Nat.reduceEqDiff, reduceIte])
    | ((first | refine wp_dreg B (id := 7) [0, 0, 0, 6, 15, 0, 63] (by kernel_rfl) ?_ | refine wp_reg B ?_); simp (disch := omega) only [kW, kG, Nat.reduceEqDiff, reduceIte, Nat.reduceLT, Nat.reduceLeDiff, Nat.reduceAdd, Nat.reduceSub, Nat.reduceMul, Nat.reducePow, Nat.reduceDiv, Nat.reduceMod, evIndexAddr, TD.agg, evFieldAddr, binA_eqB ty4, binA_neB ty4, ty2, ty4, ty40, ty42, ty92, fn38, fn14, fn35, fn41, fn40, c_ErQuo, ErQuo_ans, c_ErZero, ErZero_ans, c_ErOf, ErOf_ans, c_ErMul, ErMul_ans, c_ErSub, ErSub_ans, k1, k3, rzav_cells, rnav_one, rnav_clean, rzav_fold])
    | refine wp_condT rfl ?_ | refine wp_condF rfl ?_)
  refine WP.weaken (Hp.empty.next + 1 + 1 + 1 + 1 + 1 + 1) [zs 0, rzm 0] (by simp (disch := omega) only [upd_eq, upd_ne]; rfl) rzero_weak ?_
  refine wp_loopQ (fun k st => ∃ (r s u v w z : Int) (tm : Nat → Option AV) (hh : Hp), st = ⟨tm, 49, hh, []⟩ ∧ s.toNat = k ∧ Cof c m r s u v w z ∧ Hp.empty.next + 1 + 1 + 1 + 1 + 1 + 1 + 1 + 1 ≤ hh.next ∧ tm 2 = some (.ptr (Hp.empty.next) 0) ∧ tm 3 = some (.ptr (Hp.empty.next + 1) 0) ∧ tm 4 = some (.ptr (Hp.empty.next + 1 + 1) 0) ∧ tm 5 = some (.ptr (Hp.empty.next + 1 + 1 + 1) 0) ∧ tm 7 = some (.ptr (Hp.empty.next + 1 + 1 + 1 + 1 + 1) 0) ∧ tm 8 = some (.ptr (Hp.empty.next + 1 + 1 + 1 + 1 + 1 + 1) 0) ∧ tm 9 = some (.ptr (Hp.empty.next + 1 + 1 + 1 + 1 + 1 + 1 + 1) 0) ∧ hh.m (Hp.empty.next) = some (.cells [zs c, rzm c] 42 false) ∧ hh.m (Hp.empty.next + 1) = some (.cells [zs m, rzm m] 42 false) ∧ hh.m (Hp.empty.next + 1 + 1) = some (.cells [.flat (.bool false), nilA] 42 false) ∧ hh.m (Hp.empty.next + 1 + 1 + 1) = some (.cells [zs r, rzm r] 42 false) ∧ hh.m (Hp.empty.next + 1 + 1 + 1 + 1 + 1) = some (.cells [zs s, rzm s] 42 false) ∧ hh.m (Hp.empty.next + 1 + 1 + 1 + 1 + 1 + 1) = some (.cells [zs u, rzm u] 42 false) ∧ hh.m (Hp.empty.next + 1 + 1 + 1 + 1 + 1 + 1 + 1) = some (.cells [zs v, rzm v] 42 false)) (c % m).toNat ?_ ?_
  · refine ⟨m, c % m, 0, 1, 1, -(c / m), _, _, rfl, rfl, Cof.start c m m0, by simp only []; omega, ?_⟩
    simp (disch := omega) only [upd_eq, upd_ne, and_true, Nat.reduceEqDiff, ne_eq, not_false_eq_true]
  · rintro k st ⟨r, s, u, v, w, z, tm, hh, rfl, rfl, hC, hn, t2, t3, t4, t5, t7, t8, t9, c0, c1, c2, c3, c5, c6, c7⟩
    have hb := hC.bits lc lm
    have hb1 := hb.br
    have hb2 := hb.bs
    have hb3 := hb.bq
    have hb4 := hb.bv
    have hb6 := hb.uv
    have hbu := Dg.bl_mono' hC.vm.2
    have s0 := hC.s0
    have q0 := fun h => ErZero_ans s h (by omega)
    by_cases s1 : s = 0
    · rw [decide_eq_true s1] at q0
      obtain ⟨d, hd⟩ : ∃ d, c * (u % m) - 1 = m * d := turn_end (s1 ▸ hC) g1
      obtain ⟨ex, ey⟩ := cof_spec (Int.emod_nonneg u (by omega)) (Int.emod_lt_of_pos u m0) (show c * (u % m) + m * -d = 1 by rw [Int.mul_neg]; omega)
      rw [ex]
      have q2 := fun h => ErQuo_ans u m h (by omega) (by omega) (by omega)
      repeat (first
        | refine wp_seqQ ?_ | refine wp_blockQ ?_ | refine wp_scopeQ ?_
        | ((first | refine wp_skipQ ?_ | refine wp_labelQ ?_ | refine wp_exitQ ?_ | refine wp_retQ ?_); simp only [kQ, Nat.reduceEqDiff, reduceIte])
        | ((first | refine wp_dreg B (id := 7) [0, 0, 0, 6, 15, 0, 63] (by kernel_rfl) ?_ | refine wp_reg B ?_); simp (disch := omega) only [kW, kG, Nat.reduceEqDiff, reduceIte, Nat.reduceLT, Nat.reduceLeDiff, Nat.reduceAdd, Nat.reduceSub, Nat.reduceMul, Nat.reducePow, Nat.reduceDiv, Nat.reduceMod, evIndexAddr, TD.agg, evFieldAddr, binA_eqB ty4, binA_neB ty4, ty2, ty4, ty40, ty42, ty92, fn38, fn14, fn35, fn41, fn40, c_ErQuo, ErQuo_ans, c_ErZero, ErZero_ans, c_ErOf, ErOf_ans, c_ErMul, ErMul_ans, c_ErSub, ErSub_ans, q0, q2, t2, t3, t4, t5, t7, t8, t9, c0, c1, c2, c3, c5, c6, c7, rzav_cells, rnav_one, rnav_clean, rzav_fold])
        | refine wp_condT rfl ?_ | refine wp_condF rfl ?_)
      simp (disch := omega) only [kS, Nat.reduceEqDiff, reduceIte, Nat.reduceLT, Nat.reduceLeDiff, Nat.reduceAdd, Nat.reduceSub, Nat.reduceMul, Nat.reducePow, Nat.reduceDiv, Nat.reduceMod, evIndexAddr, TD.agg, evFieldAddr, binA_eqB ty4, binA_neB ty4, ty2, ty4, ty40, ty42, ty92, fn38, fn14, fn35, fn41, fn40, c_ErQuo, ErQuo_ans, c_ErZero, ErZero_ans, c_ErOf, ErOf_ans, c_ErMul, ErMul_ans, c_ErSub, ErSub_ans, rzav_fold, t2, t3, t4, t5, t7, t8, t9, c0, c1, c2, c3, c5, c6, c7, rzav_cells, rnav_one, rnav_clean, rzav_fold]
    · rw [decide_eq_false s1] at q0
      have q2 := fun h => ErQuo_ans r s h (by omega) (by omega) s1
      have q3 := fun h => ErMul_ans (r / s) v h (by omega) (by omega)
      have q4 := fun h => ErSub_ans u (r / s * v) h (by omega) (by have := Dg.bl_mono' (show (r / s * v).natAbs ≤ u.natAbs + (r / s * v).natAbs by omega); omega)
      have hN := hC.next s1
      have hl := Int.emod_lt_of_pos r (show 0 < s by omega)
      have hl0 := Int.emod_nonneg r s1
      repeat (first
        | refine wp_seqQ ?_ | refine wp_blockQ ?_ | refine wp_scopeQ ?_
        | ((first | refine wp_skipQ ?_ | refine wp_labelQ ?_ | refine wp_exitQ ?_ | refine wp_retQ ?_); simp only [kQ, Nat.reduceEqDiff, reduceIte])
        | ((first | refine wp_dreg B (id := 7) [0, 0, 0, 6, 15, 0, 63] (by kernel_rfl) ?_ | refine wp_reg B ?_); simp (disch := omega) only [kW, kG, Nat.reduceEqDiff, reduceIte, Nat.reduceLT, Nat.reduceLeDiff, Nat.reduceAdd, Nat.reduceSub, Nat.reduceMul, Nat.reducePow, Nat.reduceDiv, Nat.reduceMod, evIndexAddr, TD.agg, evFieldAddr, binA_eqB ty4, binA_neB ty4, ty2, ty4, ty40, ty42, ty92, fn38, fn14, fn35, fn41, fn40, c_ErQuo, ErQuo_ans, c_ErZero, ErZero_ans, c_ErOf, ErOf_ans, c_ErMul, ErMul_ans, c_ErSub, ErSub_ans, q0, q2, q3, q4, t2, t3, t4, t5, t7, t8, t9, c0, c1, c2, c3, c5, c6, c7, rzav_cells, rnav_one, rnav_clean, rzav_fold])
        | refine wp_condT rfl ?_ | refine wp_condF rfl ?_)
      refine ⟨(r % s).toNat, by omega, s, r % s, v, u - r / s * v, z, w - r / s * z, _, _, rfl, rfl, hN, by simp only []; omega, ?_⟩
      simp (disch := omega) only [upd_eq, upd_ne, and_true, Nat.reduceEqDiff, ne_eq, not_false_eq_true, t2, t3, t4, t5, t7, t8, t9, c0, c1, c2, c3, c5, c6, c7, rzav_cells, rnav_one, rnav_clean, rzav_fold]
noncomputable def ErTurned : Entry Tryz.prog := ⟨39, fun args h e h' => h' = h ∧ ∃ (c m : Int), args = [rzav c, rzav m] ∧ (bl c.natAbs ≤ 1000) ∧ (bl m.natAbs ≤ 1000) ∧ (0 < m) ∧ (Int.gcd c m = 1) ∧ e = .ret (rzav (cofX c m)), by
  rintro args h e h' ⟨rfl, c, m, rfl, h1, h2, h3, h4, rfl⟩
  exact ⟨rturned_sem c m h1 h2 h3 h4 _, Hp.Le.refl _⟩⟩
theorem ErTurned_ans (c m : Int) (h : Hp) (h1 : bl c.natAbs ≤ 1000) (h2 : bl m.natAbs ≤ 1000) (h3 : 0 < m) (h4 : Int.gcd c m = 1) : ErTurned.ans [rzav c, rzav m] h = some (.ret (rzav (cofX c m)), h) :=
  Entry.one ⟨rfl, c, m, rfl, h1, h2, h3, h4, rfl⟩ fun e h' ⟨hh, c', m', ha, _, _, _, _, he⟩ => by simp only [kI, rnav_eq, rzav_eq] at ha; obtain ⟨rfl, rfl⟩ := ha; exact ⟨he, hh⟩
theorem rInt64_sem (z : Int) (h1 : -9223372036854775808 < z) (h2 : z < 9223372036854775808) (h : Hp) : SemCall Tryz.prog 15 [rzav z] h (.ret (.tuple [.flat (.int .i64 z), .flat (.bool true)])) h := by
  refine sem_pure tables.ok Tryz.func15 rfl rfl rfl rfl (by simp [pureL, rzav_pure]) rfl ?_ h
  have B : Base Tryz.prog tab _ := tabL_base [EsSmall, ErSign] tables.ok mixed
  generalize hL : tabL [EsSmall, ErSign] = call at B
  have c_EsSmall : ∀ a h, call 43 a h = EsSmall.ans a h := fun _ _ => hL ▸ rfl
  have c_ErSign : ∀ a h, call 36 a h = ErSign.ans a h := fun _ _ => hL ▸ rfl
  clear hL
  have hb : bl z.natAbs ≤ 64 := Dg.bl_le.2 (by simp only [Nat.reducePow]; omega)
  have k1 := fun h => ErSign_ans z h (by omega)
  obtain ⟨q, hq, hq0⟩ : ∃ q : Int, q = (if z < 0 then -1 else if z = 0 then 0 else 1) ∧ (q < 0 ↔ z < 0) := ⟨_, rfl, by split <;> (try split) <;> omega⟩
  rw [← hq] at k1
  clear hq
  have k2 := fun h => EsSmall_ans z.natAbs h (by omega)
  unfold Tryz.f15 bodyOf entry; simp only [Option.getD_some, List.length_cons, List.length_nil, Nat.reduceAdd, Nat.reduceSub]
  by_cases hz : z < 0
  · have e1 : fwrap .i64 (fwrap .u64 (0 - (z.natAbs : Int))) = z := by
      rw [fwrap_eq, fwrap_eq, IntKind.wrap_u64, IntKind.wrap_i64]; omega
    repeat (first
      | refine wp_seqQ ?_ | refine wp_blockQ ?_ | refine wp_scopeQ ?_
      | ((first | refine wp_skipQ ?_ | refine wp_labelQ ?_ | refine wp_exitQ ?_ | refine wp_retQ ?_); simp only [kQ, Nat.reduceEqDiff, reduceIte])
      | (refine wp_reg B ?_; simp (disch := omega) only [kW, Nat.reduceEqDiff, reduceIte, Nat.reduceLT, Nat.reduceLeDiff, Nat.reduceAdd, Nat.reduceSub, Nat.reduceMul, Nat.reducePow, Nat.reduceDiv, Nat.reduceMod, evIndexAddr, TD.agg, evFieldAddr, binA_eqB ty4, binA_neB ty4, ty2, ty3, ty4, ty40, ty42, ty62, ty92, fn43, fn36, c_EsSmall, EsSmall_ans, c_ErSign, ErSign_ans, k1, k2, e1, rzav_cells, rnav_one, rnav_clean, rzav_fold])
      | refine wp_condT rfl ?_ | refine wp_condF rfl ?_)
    simp (disch := omega) only [kS, Nat.reduceEqDiff, reduceIte, Nat.reduceLT, Nat.reduceLeDiff, Nat.reduceAdd, Nat.reduceSub, Nat.reduceMul, Nat.reducePow, Nat.reduceDiv, Nat.reduceMod, evIndexAddr, TD.agg, evFieldAddr, binA_eqB ty4, binA_neB ty4, ty2, ty3, ty4, ty40, ty42, ty62, ty92, fn43, fn36, c_EsSmall, EsSmall_ans, c_ErSign, ErSign_ans]
  · have e1 : (z.natAbs : Int) = z := by omega
    repeat (first
      | refine wp_seqQ ?_ | refine wp_blockQ ?_ | refine wp_scopeQ ?_
      | ((first | refine wp_skipQ ?_ | refine wp_labelQ ?_ | refine wp_exitQ ?_ | refine wp_retQ ?_); simp only [kQ, Nat.reduceEqDiff, reduceIte])
      | (refine wp_reg B ?_; simp (disch := omega) only [kW, Nat.reduceEqDiff, reduceIte, Nat.reduceLT, Nat.reduceLeDiff, Nat.reduceAdd, Nat.reduceSub, Nat.reduceMul, Nat.reducePow, Nat.reduceDiv, Nat.reduceMod, evIndexAddr, TD.agg, evFieldAddr, binA_eqB ty4, binA_neB ty4, ty2, ty3, ty4, ty40, ty42, ty62, ty92, fn43, fn36, c_EsSmall, EsSmall_ans, c_ErSign, ErSign_ans, k1, k2, e1, rzav_cells, rnav_one, rnav_clean, rzav_fold])
      | refine wp_condT rfl ?_ | refine wp_condF rfl ?_)
    simp (disch := omega) only [kS, Nat.reduceEqDiff, reduceIte, Nat.reduceLT, Nat.reduceLeDiff, Nat.reduceAdd, Nat.reduceSub, Nat.reduceMul, Nat.reducePow, Nat.reduceDiv, Nat.reduceMod, evIndexAddr, TD.agg, evFieldAddr, binA_eqB ty4, binA_neB ty4, ty2, ty3, ty4, ty40, ty42, ty62, ty92, fn43, fn36, c_EsSmall, EsSmall_ans, c_ErSign, ErSign_ans]
noncomputable def ErInt64 : Entry Tryz.prog := ⟨15, fun args h e h' => h' = h ∧ ∃ (z : Int), args = [rzav z] ∧ (-9223372036854775808 < z) ∧ (z < 9223372036854775808) ∧ e = .ret (.tuple [.flat (.int .i64 z), .flat (.bool true)]), by
  rintro args h e h' ⟨rfl, z, rfl, h1, h2, rfl⟩
  exact ⟨rInt64_sem z h1 h2 _, Hp.Le.refl _⟩⟩
theorem ErInt64_ans (z : Int) (h : Hp) (h1 : -9223372036854775808 < z) (h2 : z < 9223372036854775808) : ErInt64.ans [rzav z] h = some (.ret (.tuple [.flat (.int .i64 z), .flat (.bool true)]), h) :=
  Entry.one ⟨rfl, z, rfl, h1, h2, rfl⟩ fun e h' ⟨hh, z', ha, _, _, he⟩ => by simp only [kI, rnav_eq, rzav_eq] at ha; subst ha; exact ⟨he, hh⟩
end Go.Proofs.YtkgejfokdmdikaaGreat.Iv
end
