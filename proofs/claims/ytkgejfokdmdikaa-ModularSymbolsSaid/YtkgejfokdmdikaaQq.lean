/- Natural numbers as lists that nobody turns: what the walks of nat say, said to the evaluator. Whole numbers: Sign, Make, Of, Neg, must, Add, Sub, Mul: the evaluator's walks over the contracts of nat. Whole numbers: cofactors, Gcd: the evaluator's walks. modular.Gcd: what it answers. ModularSymbols: the evaluator's walk over the law. ModularSymbols: the law answers true. -/
import Derived.Test.YtkgejfokdmdikaaQk
import Derived.Test.YtkgejfokdmdikaaQo
import Derived.Test.YtkgejfokdmdikaaQp
import Derived.Laws.BitsLemmas
import Derived.Test.YtkgejfokdmdikaaQi
import Derived.Test.YtkgejfokdmdikaaQg
import Derived.KernelRfl
section
set_option maxHeartbeats 4000000
set_option linter.unusedVariables false
set_option linter.unusedSimpArgs false
namespace Go.Proofs.Ytkgejfokdmdikaa.Iv
open Go Go.Iv Go.RowKit Go.Proofs.Ytkgejfokdmdikaa.Nv
open Dg (bl)
def nav (n : Nat) : AV := dgs (Dg.dg n)
abbrev zs (x : Int) : AV := .flat (.bool (decide (x < 0)))
abbrev zm (x : Int) : AV := nav x.natAbs
def zav (x : Int) : AV := .agg [zs x, zm x]
abbrev nilA : AV := .flat (.slice none 0 0)
theorem zav_cells (x : Int) : AV.cells (zav x) = [zs x, zm x] := rfl
theorem zav_fold (x : Int) : AV.agg [zs x, zm x] = zav x := rfl
theorem nav_one (n : Nat) : AV.one (nav n) = true := rfl
theorem nav_clean (n : Nat) : AV.clean (nav n) = true := rfl
theorem nav_pure (n : Nat) : (nav n).pure = true := dgs_pure _
theorem zav_pure (x : Int) : (zav x).pure = true := by simp [zav, AV.pure, pureL, nav_pure]
theorem dgs_inj {l m : List Nat} (h : dgs l = dgs m) : l = m := by
  simp only [dgs, AV.isl.injEq] at h
  have h1 := h.1
  have : ∀ {l m : List Nat}, l.map dcell = m.map dcell → l = m := by
    intro l
    induction l with
    | nil => intro m h; cases m with
      | nil => rfl
      | cons x m => simp at h
    | cons x l ih => intro m h; cases m with
      | nil => simp at h
      | cons y m =>
        simp only [List.map_cons, List.cons.injEq, dcell, AV.flat.injEq, Value.int.injEq, true_and] at h
        rw [ih h.2, show x = y by omega]
  exact this h1
theorem nav_inj {n m : Nat} (h : nav n = nav m) : n = m := by
  have := dgs_inj h
  rw [← Dg.val_dg' n, ← Dg.val_dg' m, this]
theorem zav_inj {x y : Int} (h : zav x = zav y) : x = y := by
  simp only [zav, zs, zm, AV.agg.injEq, List.cons.injEq, AV.flat.injEq, Value.bool.injEq, and_true] at h
  have h1 := nav_inj h.2
  have h2 := h.1
  by_cases hx : x < 0
  · by_cases hy : y < 0
    · omega
    · simp [hx, hy] at h2
  · by_cases hy : y < 0
    · simp [hx, hy] at h2
    · omega
theorem nav_eq {n m : Nat} : nav n = nav m ↔ n = m := ⟨nav_inj, fun h => by rw [h]⟩
theorem zav_eq {x y : Int} : zav x = zav y ↔ x = y := ⟨zav_inj, fun h => by rw [h]⟩
variable {D : Nat → Prop} {ρ : Ren} {h : Hp} {w : World}
theorem nav_open (k : HR D ρ h w) {n : Nat} (hl : bl n ≤ 100000) {v : Value} (hv : (nav n).rel ρ v) : Num w v n := by
  obtain ⟨A, c, rfl, h1, h2⟩ := dgs_open k hv
  have := Dg.len_of_bl (n := n) (k := 3125) (by omega)
  exact ⟨A, c, rfl, h1, by omega, h2⟩
theorem nav_shut (k : HR D ρ h w) {n : Nat} {v : Value} (hn : Num w v n) : ∃ ρ', Step D ρ h w ρ' h w ∧ (nav n).rel ρ' v := by
  obtain ⟨A, c, rfl, h1, h2⟩ := hn
  exact dgs_shut k h1 h2.at_
theorem relL1 {a : AV} {l : List Value} (h : AV.relL ρ [a] l) : ∃ x, l = [x] ∧ a.rel ρ x := by
  obtain ⟨x, xs, rfl, h1, h2⟩ := relL_cons.1 h
  rw [relL_nil.1 h2]; exact ⟨x, rfl, h1⟩
theorem relL2 {a b : AV} {l : List Value} (h : AV.relL ρ [a, b] l) : ∃ x y, l = [x, y] ∧ a.rel ρ x ∧ b.rel ρ y := by
  obtain ⟨x, xs, rfl, h1, h2⟩ := relL_cons.1 h
  obtain ⟨y, rfl, h3⟩ := relL1 h2
  exact ⟨x, y, rfl, h1, h3⟩
theorem SemCall.weak {P : Program} {f : FuncId} {args : List AV} {v v' : AV} {h : Hp} (k : SemCall P f args h (.ret v) h) (hv : ∀ ρ x, v.rel ρ x → v'.rel ρ x) : SemCall P f args h (.ret v') h := fun D ρ w args' hr fr ha => by
  refine (k D ρ w args' hr fr ha).mono ?_
  rintro e w' ⟨ρ', st, x, he, hx⟩
  exact ⟨ρ', st, x, he, hv ρ' x hx⟩
theorem an_open (k : HR D ρ h w) {n : Nat} (hl : bl n ≤ 100000) {V : Value} (hv : (AV.agg [nav n]).rel ρ V) : ∃ v, V = .agg #[v] ∧ Num w v n := by
  simp only [AV.rel] at hv
  obtain ⟨l, rfl, h1⟩ := hv
  obtain ⟨v, rfl, h2⟩ := relL1 h1
  exact ⟨v, rfl, nav_open k hl h2⟩
theorem an_shut (k : HR D ρ h w) {n : Nat} {v : Value} (hn : Num w v n) : ∃ ρ', Step D ρ h w ρ' h w ∧ (AV.agg [nav n]).rel ρ' (.agg #[v]) := by
  obtain ⟨ρ', st, hv⟩ := nav_shut k hn
  refine ⟨ρ', st, ?_⟩
  simp only [AV.rel]
  exact ⟨[v], rfl, relL_cons.2 ⟨_, _, rfl, hv, relL_nil.2 rfl⟩⟩
theorem relL2mk {a b : AV} {V1 V2 : Value} (h1 : a.rel ρ V1) (h2 : b.rel ρ V2) : AV.relL ρ [a, b] [V1, V2] := relL_cons.2 ⟨_, _, rfl, h1, relL_cons.2 ⟨_, _, rfl, h2, relL_nil.2 rfl⟩⟩
theorem relL3mk {a b c : AV} {V1 V2 V3 : Value} (h1 : a.rel ρ V1) (h2 : b.rel ρ V2) (h3 : c.rel ρ V3) : AV.relL ρ [a, b, c] [V1, V2, V3] := relL_cons.2 ⟨_, _, rfl, h1, relL2mk h2 h3⟩
theorem rel_tuple2 {a b : AV} {V1 V2 : Value} (h1 : a.rel ρ V1) (h2 : b.rel ρ V2) : (AV.tuple [a, b]).rel ρ (.tuple #[V1, V2]) := by
  simp only [AV.rel]; exact ⟨_, rfl, relL2mk h1 h2⟩
theorem rel_tuple3 {a b c : AV} {V1 V2 V3 : Value} (h1 : a.rel ρ V1) (h2 : b.rel ρ V2) (h3 : c.rel ρ V3) : (AV.tuple [a, b, c]).rel ρ (.tuple #[V1, V2, V3]) := by
  simp only [AV.rel]; exact ⟨_, rfl, relL3mk h1 h2 h3⟩
theorem rel_flat (v : Value) : (AV.flat v).rel ρ v := by simp [AV.rel]
theorem base0 : Base Try.prog tab noSum := ⟨tables.ok, mixed, noSum_ok, noSum_le⟩
section
variable {P : Program} {f : FuncId}
theorem nn_ne {a b c : Nat} (la : bl a ≤ 100000) (lb : bl b ≤ 100000) (k : ∀ (v u : Value) (w : World), Num w v a → Num w u b → Calls P f #[.agg #[v], .agg #[u]] w fun e w' => ∃ v', e = .returned (.tuple #[.agg #[v'], .int .i64 0]) ∧ Num w' v' c ∧ Below w.heap.size w w') (h : Hp) :
    SemCall P f [.agg [nav a], .agg [nav b]] h (.ret (.tuple [.agg [nav c], .flat (.int .i64 0)])) h := by
  refine semcall_of fun D ρ w args' hr ha => ?_
  obtain ⟨V, U, rfl, h1, h2⟩ := relL2 ha
  obtain ⟨v, rfl, hv⟩ := an_open hr la h1
  obtain ⟨u, rfl, hu⟩ := an_open hr lb h2
  refine (k v u w hv hu).mono ?_
  rintro e w' ⟨v', rfl, hz, hb⟩
  refine ⟨_, rfl, hb, fun ρ1 hr1 hle => ?_⟩
  obtain ⟨ρ2, st, r2⟩ := an_shut hr1 hz
  exact ⟨ρ2, st, rel_tuple2 r2 (rel_flat _)⟩
end
theorem nOf_sem (n : Nat) (hn : n < 18446744073709551616) (h : Hp) : SemCall Try.prog 62 [.flat (.int .u64 (n : Int))] h (.ret (.agg [nav n])) h := by
  refine semcall_of fun D ρ w args' hr ha => ?_
  obtain ⟨V, rfl, h1⟩ := relL1 ha
  simp only [AV.rel] at h1
  subst h1
  refine (of_calls n hn w).mono ?_
  rintro e w' ⟨v, rfl, hz, hb⟩
  exact ⟨_, rfl, hb, fun ρ1 hr1 hle => an_shut hr1 hz⟩
theorem nBits_sem (n : Nat) (hl : bl n ≤ 100000) (h : Hp) : SemCall Try.prog 63 [.agg [nav n]] h (.ret (.flat (.int .i64 (bl n : Int)))) h := by
  refine semcall_of fun D ρ w args' hr ha => ?_
  obtain ⟨V, rfl, h1⟩ := relL1 ha
  obtain ⟨v, rfl, hv⟩ := an_open hr hl h1
  refine (bits_calls v n w hv).mono ?_
  rintro e w' ⟨rfl, hb⟩
  exact ⟨_, rfl, hb, fun ρ1 hr1 hle => ⟨ρ1, Step.refl hr1, rel_flat _⟩⟩
theorem nCmp_sem (a b : Nat) (la : bl a ≤ 100000) (lb : bl b ≤ 100000) (h : Hp) : SemCall Try.prog 91 [.agg [nav a], .agg [nav b]] h (.ret (.flat (.int .i64 (Dg.cmp a b)))) h := by
  refine semcall_of fun D ρ w args' hr ha => ?_
  obtain ⟨V, U, rfl, h1, h2⟩ := relL2 ha
  obtain ⟨v, rfl, hv⟩ := an_open hr la h1
  obtain ⟨u, rfl, hu⟩ := an_open hr lb h2
  refine (cmp_calls v u a b w hv hu).mono ?_
  rintro e w' ⟨rfl, hb⟩
  exact ⟨_, rfl, hb, fun ρ1 hr1 hle => ⟨ρ1, Step.refl hr1, rel_flat _⟩⟩
theorem nAdd_sem (a b : Nat) (la : bl a ≤ 100000) (lb : bl b ≤ 100000) (hs : bl (a + b) ≤ 4096) (h : Hp) : SemCall Try.prog 95 [.agg [nav a], .agg [nav b]] h (.ret (.tuple [.agg [nav (a + b)], .flat (.int .i64 0)])) h :=
  nn_ne la lb (fun v u w h1 h2 => add_calls v u a b w h1 h2 hs) h
theorem nSub_sem (a b : Nat) (hs : bl a ≤ 4096) (le : b ≤ a) (h : Hp) : SemCall Try.prog 96 [.agg [nav a], .agg [nav b]] h (.ret (.tuple [.agg [nav (a - b)], .flat (.int .i64 0)])) h :=
  nn_ne (by omega) (by have := Dg.bl_mono' le; omega) (fun v u w h1 h2 => sub_calls v u a b w h1 h2 hs le) h
theorem nMul_sem (a b : Nat) (hs : bl a + bl b ≤ 4096) (h : Hp) : SemCall Try.prog 94 [.agg [nav a], .agg [nav b]] h (.ret (.tuple [.agg [nav (a * b)], .flat (.int .i64 0)])) h :=
  nn_ne (by omega) (by omega) (fun v u w h1 h2 => mul_calls v u a b w h1 h2 hs) h
theorem nDiv_sem (a b : Nat) (la : bl a ≤ 10000) (lb : bl b ≤ 10000) (b0 : b ≠ 0) (h : Hp) : SemCall Try.prog 77 [.agg [nav a], .agg [nav b]] h (.ret (.tuple [.agg [nav (a / b)], .agg [nav (a % b)], .flat (.int .i64 0)])) h := by
  refine semcall_of fun D ρ w args' hr ha => ?_
  obtain ⟨V, U, rfl, h1, h2⟩ := relL2 ha
  obtain ⟨v, rfl, hv⟩ := an_open hr (by omega) h1
  obtain ⟨u, rfl, hu⟩ := an_open hr (by omega) h2
  refine (div_calls v u a b w hv hu (by have := Dg.len_of_bl (n := a) (k := 313) (by omega); omega) b0).mono ?_
  rintro e w' ⟨v1, v2, rfl, z1, z2, hb⟩
  refine ⟨_, rfl, hb, fun ρ1 hr1 hle => ?_⟩
  obtain ⟨ρ2, st2, r2⟩ := an_shut hr1 z1
  obtain ⟨ρ3, st3, r3⟩ := an_shut st2.hr z2
  exact ⟨ρ3, st2.trans st3, rel_tuple3 (AV.rel_mono st3.le _ _ r2) r3 (rel_flat _)⟩
theorem nGcd_sem (a b : Nat) (la : bl a ≤ 10000) (lb : bl b ≤ 10000) (h : Hp) : SemCall Try.prog 58 [.agg [nav a], .agg [nav b]] h (.ret (.agg [nav (Nat.gcd a b)])) h := by
  refine semcall_of fun D ρ w args' hr ha => ?_
  obtain ⟨V, U, rfl, h1, h2⟩ := relL2 ha
  obtain ⟨v, rfl, hv⟩ := an_open hr (by omega) h1
  obtain ⟨u, rfl, hu⟩ := an_open hr (by omega) h2
  refine (gcd_calls v u a b w hv hu (by have := Dg.len_of_bl (n := a) (k := 313) (by omega); omega) (by have := Dg.len_of_bl (n := b) (k := 313) (by omega); omega)).mono ?_
  rintro e w' ⟨v1, rfl, z1, hb⟩
  exact ⟨_, rfl, hb, fun ρ1 hr1 hle => an_shut hr1 z1⟩
end Go.Proofs.Ytkgejfokdmdikaa.Iv
end
section
set_option maxHeartbeats 4000000
set_option linter.unusedVariables false
set_option linter.unusedSimpArgs false
set_option maxRecDepth 10000
namespace Go.Proofs.Ytkgejfokdmdikaa.Iv
open Go Go.Iv Go.RowKit Go.Proofs.Ytkgejfokdmdikaa.Nv
open Dg (bl)
noncomputable def EnOf : Entry Try.prog := ⟨62, fun args h e h' => h' = h ∧ ∃ (n : Nat), args = [.flat (.int .u64 (n : Int))] ∧ (n < 18446744073709551616) ∧ e = .ret (.agg [nav n]), by
  rintro args h e h' ⟨rfl, n, rfl, h1, rfl⟩
  exact ⟨nOf_sem n h1 _, Hp.Le.refl _⟩⟩
theorem EnOf_ans (n : Nat) (h : Hp) (h1 : n < 18446744073709551616) : EnOf.ans [.flat (.int .u64 (n : Int))] h = some (.ret (.agg [nav n]), h) :=
  Entry.one ⟨rfl, n, rfl, h1, rfl⟩ fun e h' ⟨hh, n', ha, _, he⟩ => by simp only [kI, nav_eq, zav_eq] at ha; subst ha; exact ⟨he, hh⟩
noncomputable def EnBits : Entry Try.prog := ⟨63, fun args h e h' => h' = h ∧ ∃ (n : Nat), args = [.agg [nav n]] ∧ (bl n ≤ 100000) ∧ e = .ret (.flat (.int .i64 (bl n : Int))), by
  rintro args h e h' ⟨rfl, n, rfl, h1, rfl⟩
  exact ⟨nBits_sem n h1 _, Hp.Le.refl _⟩⟩
theorem EnBits_ans (n : Nat) (h : Hp) (h1 : bl n ≤ 100000) : EnBits.ans [.agg [nav n]] h = some (.ret (.flat (.int .i64 (bl n : Int))), h) :=
  Entry.one ⟨rfl, n, rfl, h1, rfl⟩ fun e h' ⟨hh, n', ha, _, he⟩ => by simp only [kI, nav_eq, zav_eq] at ha; subst ha; exact ⟨he, hh⟩
noncomputable def EnCmp : Entry Try.prog := ⟨91, fun args h e h' => h' = h ∧ ∃ (a b : Nat), args = [.agg [nav a], .agg [nav b]] ∧ (bl a ≤ 100000) ∧ (bl b ≤ 100000) ∧ e = .ret (.flat (.int .i64 (Dg.cmp a b))), by
  rintro args h e h' ⟨rfl, a, b, rfl, h1, h2, rfl⟩
  exact ⟨nCmp_sem a b h1 h2 _, Hp.Le.refl _⟩⟩
theorem EnCmp_ans (a b : Nat) (h : Hp) (h1 : bl a ≤ 100000) (h2 : bl b ≤ 100000) : EnCmp.ans [.agg [nav a], .agg [nav b]] h = some (.ret (.flat (.int .i64 (Dg.cmp a b))), h) :=
  Entry.one ⟨rfl, a, b, rfl, h1, h2, rfl⟩ fun e h' ⟨hh, a', b', ha, _, _, he⟩ => by simp only [kI, nav_eq, zav_eq] at ha; obtain ⟨rfl, rfl⟩ := ha; exact ⟨he, hh⟩
noncomputable def EnAdd : Entry Try.prog := ⟨95, fun args h e h' => h' = h ∧ ∃ (a b : Nat), args = [.agg [nav a], .agg [nav b]] ∧ (bl a ≤ 100000) ∧ (bl b ≤ 100000) ∧ (bl (a + b) ≤ 4096) ∧ e = .ret (.tuple [.agg [nav (a + b)], .flat (.int .i64 0)]), by
  rintro args h e h' ⟨rfl, a, b, rfl, h1, h2, h3, rfl⟩
  exact ⟨nAdd_sem a b h1 h2 h3 _, Hp.Le.refl _⟩⟩
theorem EnAdd_ans (a b : Nat) (h : Hp) (h1 : bl a ≤ 100000) (h2 : bl b ≤ 100000) (h3 : bl (a + b) ≤ 4096) : EnAdd.ans [.agg [nav a], .agg [nav b]] h = some (.ret (.tuple [.agg [nav (a + b)], .flat (.int .i64 0)]), h) :=
  Entry.one ⟨rfl, a, b, rfl, h1, h2, h3, rfl⟩ fun e h' ⟨hh, a', b', ha, _, _, _, he⟩ => by simp only [kI, nav_eq, zav_eq] at ha; obtain ⟨rfl, rfl⟩ := ha; exact ⟨he, hh⟩
noncomputable def EnSub : Entry Try.prog := ⟨96, fun args h e h' => h' = h ∧ ∃ (a b : Nat), args = [.agg [nav a], .agg [nav b]] ∧ (bl a ≤ 4096) ∧ (b ≤ a) ∧ e = .ret (.tuple [.agg [nav (a - b)], .flat (.int .i64 0)]), by
  rintro args h e h' ⟨rfl, a, b, rfl, h1, h2, rfl⟩
  exact ⟨nSub_sem a b h1 h2 _, Hp.Le.refl _⟩⟩
theorem EnSub_ans (a b : Nat) (h : Hp) (h1 : bl a ≤ 4096) (h2 : b ≤ a) : EnSub.ans [.agg [nav a], .agg [nav b]] h = some (.ret (.tuple [.agg [nav (a - b)], .flat (.int .i64 0)]), h) :=
  Entry.one ⟨rfl, a, b, rfl, h1, h2, rfl⟩ fun e h' ⟨hh, a', b', ha, _, _, he⟩ => by simp only [kI, nav_eq, zav_eq] at ha; obtain ⟨rfl, rfl⟩ := ha; exact ⟨he, hh⟩
noncomputable def EnMul : Entry Try.prog := ⟨94, fun args h e h' => h' = h ∧ ∃ (a b : Nat), args = [.agg [nav a], .agg [nav b]] ∧ (bl a + bl b ≤ 4096) ∧ e = .ret (.tuple [.agg [nav (a * b)], .flat (.int .i64 0)]), by
  rintro args h e h' ⟨rfl, a, b, rfl, h1, rfl⟩
  exact ⟨nMul_sem a b h1 _, Hp.Le.refl _⟩⟩
theorem EnMul_ans (a b : Nat) (h : Hp) (h1 : bl a + bl b ≤ 4096) : EnMul.ans [.agg [nav a], .agg [nav b]] h = some (.ret (.tuple [.agg [nav (a * b)], .flat (.int .i64 0)]), h) :=
  Entry.one ⟨rfl, a, b, rfl, h1, rfl⟩ fun e h' ⟨hh, a', b', ha, _, he⟩ => by simp only [kI, nav_eq, zav_eq] at ha; obtain ⟨rfl, rfl⟩ := ha; exact ⟨he, hh⟩
noncomputable def EnDiv : Entry Try.prog := ⟨77, fun args h e h' => h' = h ∧ ∃ (a b : Nat), args = [.agg [nav a], .agg [nav b]] ∧ (bl a ≤ 10000) ∧ (bl b ≤ 10000) ∧ (b ≠ 0) ∧ e = .ret (.tuple [.agg [nav (a / b)], .agg [nav (a % b)], .flat (.int .i64 0)]), by
  rintro args h e h' ⟨rfl, a, b, rfl, h1, h2, h3, rfl⟩
  exact ⟨nDiv_sem a b h1 h2 h3 _, Hp.Le.refl _⟩⟩
theorem EnDiv_ans (a b : Nat) (h : Hp) (h1 : bl a ≤ 10000) (h2 : bl b ≤ 10000) (h3 : b ≠ 0) : EnDiv.ans [.agg [nav a], .agg [nav b]] h = some (.ret (.tuple [.agg [nav (a / b)], .agg [nav (a % b)], .flat (.int .i64 0)]), h) :=
  Entry.one ⟨rfl, a, b, rfl, h1, h2, h3, rfl⟩ fun e h' ⟨hh, a', b', ha, _, _, _, he⟩ => by simp only [kI, nav_eq, zav_eq] at ha; obtain ⟨rfl, rfl⟩ := ha; exact ⟨he, hh⟩
noncomputable def EnGcd : Entry Try.prog := ⟨58, fun args h e h' => h' = h ∧ ∃ (a b : Nat), args = [.agg [nav a], .agg [nav b]] ∧ (bl a ≤ 10000) ∧ (bl b ≤ 10000) ∧ e = .ret (.agg [nav (Nat.gcd a b)]), by
  rintro args h e h' ⟨rfl, a, b, rfl, h1, h2, rfl⟩
  exact ⟨nGcd_sem a b h1 h2 _, Hp.Le.refl _⟩⟩
theorem EnGcd_ans (a b : Nat) (h : Hp) (h1 : bl a ≤ 10000) (h2 : bl b ≤ 10000) : EnGcd.ans [.agg [nav a], .agg [nav b]] h = some (.ret (.agg [nav (Nat.gcd a b)]), h) :=
  Entry.one ⟨rfl, a, b, rfl, h1, h2, rfl⟩ fun e h' ⟨hh, a', b', ha, _, _, he⟩ => by simp only [kI, nav_eq, zav_eq] at ha; obtain ⟨rfl, rfl⟩ := ha; exact ⟨he, hh⟩
theorem Sign_sem (x : Int) (hl : bl x.natAbs ≤ 100000) (h : Hp) : SemCall Try.prog 57 [zav x] h (.ret (.flat (.int .i64 (if x < 0 then -1 else if x = 0 then 0 else 1)))) h := by
  refine sem_pure tables.ok Try.func57 rfl rfl rfl rfl (by simp [pureL, zav_pure]) rfl ?_ h
  have B : Base Try.prog tab _ := tabL_base [EnBits] tables.ok mixed
  generalize hL : tabL [EnBits] = call at B
  have c_EnBits : ∀ a h, call 63 a h = EnBits.ans a h := fun _ _ => hL ▸ rfl
  clear hL
  have hz := Dg.bl_zero (n := x.natAbs)
  unfold Try.f57 bodyOf entry; simp only [Option.getD_some, List.length_cons, List.length_nil, Nat.reduceAdd, Nat.reduceSub]
  rcases (show x < 0 ∨ x = 0 ∨ 0 < x by omega) with hx | hx | hx
  · rw [if_pos hx]
    have : bl x.natAbs ≠ 0 := fun e => by have := hz.1 e; omega
    repeat (first
      | refine wp_seqQ ?_ | refine wp_blockQ ?_ | refine wp_scopeQ ?_
      | ((first | refine wp_skipQ ?_ | refine wp_labelQ ?_ | refine wp_exitQ ?_ | refine wp_retQ ?_); simp only [kQ, Nat.reduceEqDiff, reduceIte])
      | (refine wp_reg B ?_; simp (disch := omega) only [kW, Nat.reduceEqDiff, reduceIte, Nat.reduceLT, Nat.reduceLeDiff, Nat.reduceAdd, Nat.reduceSub, Nat.reduceMul, Nat.reducePow, Nat.reduceDiv, Nat.reduceMod, evIndexAddr, TD.agg, evFieldAddr, binA_eqB ty4, binA_neB ty4, ty3, ty4, ty43, ty59, ty61, ty63, fn63, c_EnBits, EnBits_ans, zav_cells, nav_one, nav_clean])
      | refine wp_condT rfl ?_ | refine wp_condF rfl ?_)
    refine wp_if (p := x < 0) rfl (fun _ => ?_) (fun k => absurd hx k)
    repeat (first
      | refine wp_seqQ ?_ | refine wp_blockQ ?_ | refine wp_scopeQ ?_
      | ((first | refine wp_skipQ ?_ | refine wp_labelQ ?_ | refine wp_exitQ ?_ | refine wp_retQ ?_); simp only [kQ, Nat.reduceEqDiff, reduceIte])
      | (refine wp_reg B ?_; simp (disch := omega) only [kW, Nat.reduceEqDiff, reduceIte, Nat.reduceLT, Nat.reduceLeDiff, Nat.reduceAdd, Nat.reduceSub, Nat.reduceMul, Nat.reducePow, Nat.reduceDiv, Nat.reduceMod, evIndexAddr, TD.agg, evFieldAddr, binA_eqB ty4, binA_neB ty4, ty3, ty4, ty43, ty59, ty61, ty63, fn63, c_EnBits, EnBits_ans])
      | refine wp_condT rfl ?_ | refine wp_condF rfl ?_)
    simp (disch := omega) only [kS, Nat.reduceEqDiff, reduceIte, Nat.reduceLT, Nat.reduceLeDiff, Nat.reduceAdd, Nat.reduceSub, Nat.reduceMul, Nat.reducePow, Nat.reduceDiv, Nat.reduceMod, evIndexAddr, TD.agg, evFieldAddr, binA_eqB ty4, binA_neB ty4, ty3, ty4, ty43, ty59, ty61, ty63, fn63, c_EnBits, EnBits_ans]
  · rw [if_neg (by omega), if_pos hx]
    have : bl x.natAbs = 0 := hz.2 (by omega)
    repeat (first
      | refine wp_seqQ ?_ | refine wp_blockQ ?_ | refine wp_scopeQ ?_
      | ((first | refine wp_skipQ ?_ | refine wp_labelQ ?_ | refine wp_exitQ ?_ | refine wp_retQ ?_); simp only [kQ, Nat.reduceEqDiff, reduceIte])
      | (refine wp_reg B ?_; simp (disch := omega) only [kW, Nat.reduceEqDiff, reduceIte, Nat.reduceLT, Nat.reduceLeDiff, Nat.reduceAdd, Nat.reduceSub, Nat.reduceMul, Nat.reducePow, Nat.reduceDiv, Nat.reduceMod, evIndexAddr, TD.agg, evFieldAddr, binA_eqB ty4, binA_neB ty4, ty3, ty4, ty43, ty59, ty61, ty63, fn63, c_EnBits, EnBits_ans, zav_cells, nav_one, nav_clean])
      | refine wp_condT rfl ?_ | refine wp_condF rfl ?_)
    simp (disch := omega) only [kS, Nat.reduceEqDiff, reduceIte, Nat.reduceLT, Nat.reduceLeDiff, Nat.reduceAdd, Nat.reduceSub, Nat.reduceMul, Nat.reducePow, Nat.reduceDiv, Nat.reduceMod, evIndexAddr, TD.agg, evFieldAddr, binA_eqB ty4, binA_neB ty4, ty3, ty4, ty43, ty59, ty61, ty63, fn63, c_EnBits, EnBits_ans]
  · rw [if_neg (by omega), if_neg (by omega)]
    have : bl x.natAbs ≠ 0 := fun e => by have := hz.1 e; omega
    repeat (first
      | refine wp_seqQ ?_ | refine wp_blockQ ?_ | refine wp_scopeQ ?_
      | ((first | refine wp_skipQ ?_ | refine wp_labelQ ?_ | refine wp_exitQ ?_ | refine wp_retQ ?_); simp only [kQ, Nat.reduceEqDiff, reduceIte])
      | (refine wp_reg B ?_; simp (disch := omega) only [kW, Nat.reduceEqDiff, reduceIte, Nat.reduceLT, Nat.reduceLeDiff, Nat.reduceAdd, Nat.reduceSub, Nat.reduceMul, Nat.reducePow, Nat.reduceDiv, Nat.reduceMod, evIndexAddr, TD.agg, evFieldAddr, binA_eqB ty4, binA_neB ty4, ty3, ty4, ty43, ty59, ty61, ty63, fn63, c_EnBits, EnBits_ans, zav_cells, nav_one, nav_clean])
      | refine wp_condT rfl ?_ | refine wp_condF rfl ?_)
    refine wp_if (p := x < 0) rfl (fun k => absurd k (by omega)) (fun _ => ?_)
    repeat (first
      | refine wp_seqQ ?_ | refine wp_blockQ ?_ | refine wp_scopeQ ?_
      | ((first | refine wp_skipQ ?_ | refine wp_labelQ ?_ | refine wp_exitQ ?_ | refine wp_retQ ?_); simp only [kQ, Nat.reduceEqDiff, reduceIte])
      | (refine wp_reg B ?_; simp (disch := omega) only [kW, Nat.reduceEqDiff, reduceIte, Nat.reduceLT, Nat.reduceLeDiff, Nat.reduceAdd, Nat.reduceSub, Nat.reduceMul, Nat.reducePow, Nat.reduceDiv, Nat.reduceMod, evIndexAddr, TD.agg, evFieldAddr, binA_eqB ty4, binA_neB ty4, ty3, ty4, ty43, ty59, ty61, ty63, fn63, c_EnBits, EnBits_ans])
      | refine wp_condT rfl ?_ | refine wp_condF rfl ?_)
    simp (disch := omega) only [kS, Nat.reduceEqDiff, reduceIte, Nat.reduceLT, Nat.reduceLeDiff, Nat.reduceAdd, Nat.reduceSub, Nat.reduceMul, Nat.reducePow, Nat.reduceDiv, Nat.reduceMod, evIndexAddr, TD.agg, evFieldAddr, binA_eqB ty4, binA_neB ty4, ty3, ty4, ty43, ty59, ty61, ty63, fn63, c_EnBits, EnBits_ans]
noncomputable def EzSign : Entry Try.prog := ⟨57, fun args h e h' => h' = h ∧ ∃ (x : Int), args = [zav x] ∧ (bl x.natAbs ≤ 100000) ∧ e = .ret (.flat (.int .i64 (if x < 0 then -1 else if x = 0 then 0 else 1))), by
  rintro args h e h' ⟨rfl, x, rfl, h1, rfl⟩
  exact ⟨Sign_sem x h1 _, Hp.Le.refl _⟩⟩
theorem EzSign_ans (x : Int) (h : Hp) (h1 : bl x.natAbs ≤ 100000) : EzSign.ans [zav x] h = some (.ret (.flat (.int .i64 (if x < 0 then -1 else if x = 0 then 0 else 1))), h) :=
  Entry.one ⟨rfl, x, rfl, h1, rfl⟩ fun e h' ⟨hh, x', ha, _, he⟩ => by simp only [kI, nav_eq, zav_eq] at ha; subst ha; exact ⟨he, hh⟩
theorem zMake_sem (s : Bool) (n : Nat) (hl : bl n ≤ 100000) (h : Hp) : SemCall Try.prog 51 [.flat (.bool s), .agg [nav n]] h (.ret (zav (if s = true then -(n : Int) else (n : Int)))) h := by
  refine sem_pure tables.ok Try.func51 rfl rfl rfl rfl (by simp [pureL, AV.pure, nav_pure]) (zav_pure _) ?_ h
  have B : Base Try.prog tab _ := tabL_base [EnBits] tables.ok mixed
  generalize hL : tabL [EnBits] = call at B
  have c_EnBits : ∀ a h, call 63 a h = EnBits.ans a h := fun _ _ => hL ▸ rfl
  clear hL
  have hz := Dg.bl_zero (n := n)
  unfold Try.f51 bodyOf entry; simp only [Option.getD_some, List.length_cons, List.length_nil, Nat.reduceAdd, Nat.reduceSub]
  cases s with
  | false =>
    simp only [Bool.false_eq_true, if_false]
    repeat (first
      | refine wp_seqQ ?_ | refine wp_blockQ ?_ | refine wp_scopeQ ?_
      | ((first | refine wp_skipQ ?_ | refine wp_labelQ ?_ | refine wp_exitQ ?_ | refine wp_retQ ?_); simp only [kQ, Nat.reduceEqDiff, reduceIte])
      | ((first | refine wp_dreg B (id := 1) [0, 1, 3, 7, 15, 31, 0, 127, 255] (by kernel_rfl) ?_ | refine wp_reg B ?_); simp (disch := omega) only [kW, kG, Nat.reduceEqDiff, reduceIte, Nat.reduceLT, Nat.reduceLeDiff, Nat.reduceAdd, Nat.reduceSub, Nat.reduceMul, Nat.reducePow, Nat.reduceDiv, Nat.reduceMod, evIndexAddr, TD.agg, evFieldAddr, binA_eqB ty4, binA_neB ty4, ty3, ty4, ty43, ty59, ty61, ty63, fn63, c_EnBits, EnBits_ans, nav_one, nav_clean])
      | refine wp_condT rfl ?_ | refine wp_condF rfl ?_)
    simp (disch := omega) only [kS, Nat.reduceEqDiff, reduceIte, Nat.reduceLT, Nat.reduceLeDiff, Nat.reduceAdd, Nat.reduceSub, Nat.reduceMul, Nat.reducePow, Nat.reduceDiv, Nat.reduceMod, evIndexAddr, TD.agg, evFieldAddr, binA_eqB ty4, binA_neB ty4, ty3, ty4, ty43, ty59, ty61, ty63, fn63, c_EnBits, EnBits_ans, zav, zs, zm, Int.natAbs_natCast]
  | true =>
    have e1 : decide ((0 : Int) < (bl n : Int)) = decide (-(n : Int) < 0) := by rw [decide_eq_decide]; omega
    repeat (first
      | refine wp_seqQ ?_ | refine wp_blockQ ?_ | refine wp_scopeQ ?_
      | ((first | refine wp_skipQ ?_ | refine wp_labelQ ?_ | refine wp_exitQ ?_ | refine wp_retQ ?_); simp only [kQ, Nat.reduceEqDiff, reduceIte])
      | ((first | refine wp_dreg B (id := 1) [0, 1, 3, 7, 15, 31, 0, 127, 255] (by kernel_rfl) ?_ | refine wp_reg B ?_); simp (disch := omega) only [kW, kG, Nat.reduceEqDiff, reduceIte, Nat.reduceLT, Nat.reduceLeDiff, Nat.reduceAdd, Nat.reduceSub, Nat.reduceMul, Nat.reducePow, Nat.reduceDiv, Nat.reduceMod, evIndexAddr, TD.agg, evFieldAddr, binA_eqB ty4, binA_neB ty4, ty3, ty4, ty43, ty59, ty61, ty63, fn63, c_EnBits, EnBits_ans, nav_one, nav_clean])
      | refine wp_condT rfl ?_ | refine wp_condF rfl ?_)
    simp (disch := omega) only [kS, Nat.reduceEqDiff, reduceIte, Nat.reduceLT, Nat.reduceLeDiff, Nat.reduceAdd, Nat.reduceSub, Nat.reduceMul, Nat.reducePow, Nat.reduceDiv, Nat.reduceMod, evIndexAddr, TD.agg, evFieldAddr, binA_eqB ty4, binA_neB ty4, ty3, ty4, ty43, ty59, ty61, ty63, fn63, c_EnBits, EnBits_ans, zav, zs, zm, Int.natAbs_neg, Int.natAbs_natCast, e1]
noncomputable def EzMake : Entry Try.prog := ⟨51, fun args h e h' => h' = h ∧ ∃ (s : Bool) (n : Nat), args = [.flat (.bool s), .agg [nav n]] ∧ (bl n ≤ 100000) ∧ e = .ret (zav (if s = true then -(n : Int) else (n : Int))), by
  rintro args h e h' ⟨rfl, s, n, rfl, h1, rfl⟩
  exact ⟨zMake_sem s n h1 _, Hp.Le.refl _⟩⟩
theorem EzMake_ans (s : Bool) (n : Nat) (h : Hp) (h1 : bl n ≤ 100000) : EzMake.ans [.flat (.bool s), .agg [nav n]] h = some (.ret (zav (if s = true then -(n : Int) else (n : Int))), h) :=
  Entry.one ⟨rfl, s, n, rfl, h1, rfl⟩ fun e h' ⟨hh, s', n', ha, _, he⟩ => by simp only [kI, nav_eq, zav_eq] at ha; obtain ⟨rfl, rfl⟩ := ha; exact ⟨he, hh⟩
theorem zOf_sem (n : Int) (h1 : -9223372036854775808 ≤ n) (h2 : n < 9223372036854775808) (h : Hp) : SemCall Try.prog 50 [.flat (.int .i64 n)] h (.ret (zav n)) h := by
  refine sem_pure tables.ok Try.func50 rfl rfl rfl rfl rfl (zav_pure _) ?_ h
  have B : Base Try.prog tab _ := tabL_base [EnOf] tables.ok mixed
  generalize hL : tabL [EnOf] = call at B
  have c_EnOf : ∀ a h, call 62 a h = EnOf.ans a h := fun _ _ => hL ▸ rfl
  clear hL
  unfold Try.f50 bodyOf entry; simp only [Option.getD_some, List.length_cons, List.length_nil, Nat.reduceAdd, Nat.reduceSub]
  by_cases hn : n < 0
  · have e1 : fwrap .u64 (0 - fwrap .u64 n) = (n.natAbs : Int) := by
      rw [fwrap_eq, fwrap_eq, IntKind.wrap_u64, IntKind.wrap_u64]; omega
    repeat (first
      | refine wp_seqQ ?_ | refine wp_blockQ ?_ | refine wp_scopeQ ?_
      | ((first | refine wp_skipQ ?_ | refine wp_labelQ ?_ | refine wp_exitQ ?_ | refine wp_retQ ?_); simp only [kQ, Nat.reduceEqDiff, reduceIte])
      | (refine wp_reg B ?_; simp (disch := omega) only [kW, Nat.reduceEqDiff, reduceIte, Nat.reduceLT, Nat.reduceLeDiff, Nat.reduceAdd, Nat.reduceSub, Nat.reduceMul, Nat.reducePow, Nat.reduceDiv, Nat.reduceMod, evIndexAddr, TD.agg, evFieldAddr, binA_eqB ty4, binA_neB ty4, ty2, ty4, ty43, ty50, ty59, ty61, ty63, fn62, c_EnOf, EnOf_ans, e1, nav_one, nav_clean])
      | refine wp_condT rfl ?_ | refine wp_condF rfl ?_)
    simp (disch := omega) only [kS, Nat.reduceEqDiff, reduceIte, Nat.reduceLT, Nat.reduceLeDiff, Nat.reduceAdd, Nat.reduceSub, Nat.reduceMul, Nat.reducePow, Nat.reduceDiv, Nat.reduceMod, evIndexAddr, TD.agg, evFieldAddr, binA_eqB ty4, binA_neB ty4, ty2, ty4, ty43, ty50, ty59, ty61, ty63, fn62, c_EnOf, EnOf_ans, zav, zs, zm]
  · have e1 : fwrap .u64 n = (n.natAbs : Int) := by
      rw [fwrap_eq, IntKind.wrap_u64]; omega
    repeat (first
      | refine wp_seqQ ?_ | refine wp_blockQ ?_ | refine wp_scopeQ ?_
      | ((first | refine wp_skipQ ?_ | refine wp_labelQ ?_ | refine wp_exitQ ?_ | refine wp_retQ ?_); simp only [kQ, Nat.reduceEqDiff, reduceIte])
      | (refine wp_reg B ?_; simp (disch := omega) only [kW, Nat.reduceEqDiff, reduceIte, Nat.reduceLT, Nat.reduceLeDiff, Nat.reduceAdd, Nat.reduceSub, Nat.reduceMul, Nat.reducePow, Nat.reduceDiv, Nat.reduceMod, evIndexAddr, TD.agg, evFieldAddr, binA_eqB ty4, binA_neB ty4, ty2, ty4, ty43, ty50, ty59, ty61, ty63, fn62, c_EnOf, EnOf_ans, e1, nav_one, nav_clean])
      | refine wp_condT rfl ?_ | refine wp_condF rfl ?_)
    simp (disch := omega) only [kS, Nat.reduceEqDiff, reduceIte, Nat.reduceLT, Nat.reduceLeDiff, Nat.reduceAdd, Nat.reduceSub, Nat.reduceMul, Nat.reducePow, Nat.reduceDiv, Nat.reduceMod, evIndexAddr, TD.agg, evFieldAddr, binA_eqB ty4, binA_neB ty4, ty2, ty4, ty43, ty50, ty59, ty61, ty63, fn62, c_EnOf, EnOf_ans, zav, zs, zm]
noncomputable def EzOf : Entry Try.prog := ⟨50, fun args h e h' => h' = h ∧ ∃ (n : Int), args = [.flat (.int .i64 n)] ∧ (-9223372036854775808 ≤ n) ∧ (n < 9223372036854775808) ∧ e = .ret (zav n), by
  rintro args h e h' ⟨rfl, n, rfl, h1, h2, rfl⟩
  exact ⟨zOf_sem n h1 h2 _, Hp.Le.refl _⟩⟩
theorem EzOf_ans (n : Int) (h : Hp) (h1 : -9223372036854775808 ≤ n) (h2 : n < 9223372036854775808) : EzOf.ans [.flat (.int .i64 n)] h = some (.ret (zav n), h) :=
  Entry.one ⟨rfl, n, rfl, h1, h2, rfl⟩ fun e h' ⟨hh, n', ha, _, _, he⟩ => by simp only [kI, nav_eq, zav_eq] at ha; subst ha; exact ⟨he, hh⟩
theorem zNeg_sem (x : Int) (hl : bl x.natAbs ≤ 100000) (h : Hp) : SemCall Try.prog 82 [zav x] h (.ret (zav (-x))) h := by
  refine sem_pure tables.ok Try.func82 rfl rfl rfl rfl (by simp [pureL, zav_pure]) (zav_pure _) ?_ h
  have B : Base Try.prog tab _ := tabL_base [EzMake] tables.ok mixed
  generalize hL : tabL [EzMake] = call at B
  have c_EzMake : ∀ a h, call 51 a h = EzMake.ans a h := fun _ _ => hL ▸ rfl
  clear hL
  have k1 : ∀ h, EzMake.ans [.flat (.bool (!decide (x < 0))), .agg [nav x.natAbs]] h = some (.ret (zav (-x)), h) := fun h => by
    have := EzMake_ans (!decide (x < 0)) x.natAbs h hl
    rwa [show (if (!decide (x < 0)) = true then -(x.natAbs : Int) else (x.natAbs : Int)) = -x by by_cases hx : x < 0 <;> simp [hx] <;> omega] at this
  unfold Try.f82 bodyOf entry; simp only [Option.getD_some, List.length_cons, List.length_nil, Nat.reduceAdd, Nat.reduceSub]
  repeat (first
    | refine wp_seqQ ?_ | refine wp_blockQ ?_ | refine wp_scopeQ ?_
    | ((first | refine wp_skipQ ?_ | refine wp_labelQ ?_ | refine wp_exitQ ?_ | refine wp_retQ ?_); simp only [kQ, Nat.reduceEqDiff, reduceIte])
    | (refine wp_reg B ?_; simp (disch := omega) only [kW, Nat.reduceEqDiff, reduceIte, Nat.reduceLT, Nat.reduceLeDiff, Nat.reduceAdd, Nat.reduceSub, Nat.reduceMul, Nat.reducePow, Nat.reduceDiv, Nat.reduceMod, evIndexAddr, TD.agg, evFieldAddr, binA_eqB ty4, binA_neB ty4, ty4, ty43, ty59, ty61, ty63, fn51, c_EzMake, EzMake_ans, k1, zav_cells, nav_one, nav_clean, zav_fold])
    | refine wp_condT rfl ?_ | refine wp_condF rfl ?_)
  simp (disch := omega) only [kS, Nat.reduceEqDiff, reduceIte, Nat.reduceLT, Nat.reduceLeDiff, Nat.reduceAdd, Nat.reduceSub, Nat.reduceMul, Nat.reducePow, Nat.reduceDiv, Nat.reduceMod, evIndexAddr, TD.agg, evFieldAddr, binA_eqB ty4, binA_neB ty4, ty4, ty43, ty59, ty61, ty63, fn51, c_EzMake, EzMake_ans, zav_fold]
noncomputable def EzNeg : Entry Try.prog := ⟨82, fun args h e h' => h' = h ∧ ∃ (x : Int), args = [zav x] ∧ (bl x.natAbs ≤ 100000) ∧ e = .ret (zav (-x)), by
  rintro args h e h' ⟨rfl, x, rfl, h1, rfl⟩
  exact ⟨zNeg_sem x h1 _, Hp.Le.refl _⟩⟩
theorem EzNeg_ans (x : Int) (h : Hp) (h1 : bl x.natAbs ≤ 100000) : EzNeg.ans [zav x] h = some (.ret (zav (-x)), h) :=
  Entry.one ⟨rfl, x, rfl, h1, rfl⟩ fun e h' ⟨hh, x', ha, _, he⟩ => by simp only [kI, nav_eq, zav_eq] at ha; subst ha; exact ⟨he, hh⟩
theorem must_sem (x c : Int) (h : Hp) : SemCall Try.prog 60 [zav x, .flat (.int .i64 c)] h (.ret (zav x)) h := by
  refine sem_pure tables.ok Try.func60 rfl rfl rfl rfl (by simp [pureL, zav_pure, AV.pure]) (zav_pure _) ?_ h
  have B := base0
  unfold Try.f60 bodyOf entry; simp only [Option.getD_some, List.length_cons, List.length_nil, Nat.reduceAdd, Nat.reduceSub]
  repeat (first
    | refine wp_seqQ ?_ | refine wp_blockQ ?_ | refine wp_scopeQ ?_
    | ((first | refine wp_skipQ ?_ | refine wp_labelQ ?_ | refine wp_exitQ ?_ | refine wp_retQ ?_); simp only [kQ, Nat.reduceEqDiff, reduceIte])
    | (refine wp_reg B ?_; simp (disch := omega) only [kW, Nat.reduceEqDiff, reduceIte, Nat.reduceLT, Nat.reduceLeDiff, Nat.reduceAdd, Nat.reduceSub, Nat.reduceMul, Nat.reducePow, Nat.reduceDiv, Nat.reduceMod, evIndexAddr, TD.agg, evFieldAddr, binA_eqB ty4, binA_neB ty4, ty4, ty43, ty59, ty61, ty63, zav_cells, nav_one, nav_clean, zav_fold])
    | refine wp_condT rfl ?_ | refine wp_condF rfl ?_)
  simp (disch := omega) only [kS, Nat.reduceEqDiff, reduceIte, Nat.reduceLT, Nat.reduceLeDiff, Nat.reduceAdd, Nat.reduceSub, Nat.reduceMul, Nat.reducePow, Nat.reduceDiv, Nat.reduceMod, evIndexAddr, TD.agg, evFieldAddr, binA_eqB ty4, binA_neB ty4, ty4, ty43, ty59, ty61, ty63, zav_fold]
noncomputable def EzMust : Entry Try.prog := ⟨60, fun args h e h' => h' = h ∧ ∃ (x c : Int), args = [zav x, .flat (.int .i64 c)] ∧ e = .ret (zav x), by
  rintro args h e h' ⟨rfl, x, c, rfl, rfl⟩
  exact ⟨must_sem x c _, Hp.Le.refl _⟩⟩
theorem EzMust_ans (x c : Int) (h : Hp)  : EzMust.ans [zav x, .flat (.int .i64 c)] h = some (.ret (zav x), h) :=
  Entry.one ⟨rfl, x, c, rfl, rfl⟩ fun e h' ⟨hh, x', c', ha, he⟩ => by simp only [kI, nav_eq, zav_eq] at ha; obtain ⟨rfl, rfl⟩ := ha; exact ⟨he, hh⟩
theorem mul_sign (x y : Int) : (if (!(decide (x < 0) == decide (y < 0))) = true then -((x.natAbs * y.natAbs : Nat) : Int) else ((x.natAbs * y.natAbs : Nat) : Int)) = x * y := by
  rw [Int.natCast_mul]
  by_cases hx : x < 0 <;> by_cases hy : y < 0
  · simp only [hx, hy, decide_true, beq_self_eq_true, Bool.not_true, Bool.false_eq_true, if_false]
    rw [show (x.natAbs : Int) = -x by omega, show (y.natAbs : Int) = -y by omega, Int.neg_mul_neg]
  · simp only [hx, hy, decide_true, decide_false]
    rw [show (x.natAbs : Int) = -x by omega, show (y.natAbs : Int) = y by omega, Int.neg_mul]
    simp
  · simp only [hx, hy, decide_true, decide_false]
    rw [show (x.natAbs : Int) = x by omega, show (y.natAbs : Int) = -y by omega, Int.mul_neg]
    simp
  · simp only [hx, hy, decide_false, beq_self_eq_true, Bool.not_true, Bool.false_eq_true, if_false]
    rw [show (x.natAbs : Int) = x by omega, show (y.natAbs : Int) = y by omega]
theorem zMul_sem (x y : Int) (hl : bl x.natAbs + bl y.natAbs ≤ 4096) (h : Hp) : SemCall Try.prog 80 [zav x, zav y] h (.ret (.tuple [zav (x * y), .flat (.int .i64 0)])) h := by
  refine sem_pure tables.ok Try.func80 rfl rfl rfl rfl (by simp [pureL, zav_pure]) (by simp [AV.pure, pureL, zav_pure]) ?_ h
  have B : Base Try.prog tab _ := tabL_base [EzMake, EnMul] tables.ok mixed
  generalize hL : tabL [EzMake, EnMul] = call at B
  have c_EzMake : ∀ a h, call 51 a h = EzMake.ans a h := fun _ _ => hL ▸ rfl
  have c_EnMul : ∀ a h, call 94 a h = EnMul.ans a h := fun _ _ => hL ▸ rfl
  clear hL
  have k1 : ∀ h, EzMake.ans [.flat (.bool (!(decide (x < 0) == decide (y < 0)))), .agg [nav (x.natAbs * y.natAbs)]] h = some (.ret (zav (x * y)), h) := fun h => by
    have := EzMake_ans (!(decide (x < 0) == decide (y < 0))) (x.natAbs * y.natAbs) h (by have := Dg.bl_mulk (Nat.le_refl (bl x.natAbs)) (Nat.le_refl (bl y.natAbs)); omega)
    rwa [mul_sign] at this
  unfold Try.f80 bodyOf entry; simp only [Option.getD_some, List.length_cons, List.length_nil, Nat.reduceAdd, Nat.reduceSub]
  repeat (first
    | refine wp_seqQ ?_ | refine wp_blockQ ?_ | refine wp_scopeQ ?_
    | ((first | refine wp_skipQ ?_ | refine wp_labelQ ?_ | refine wp_exitQ ?_ | refine wp_retQ ?_); simp only [kQ, Nat.reduceEqDiff, reduceIte])
    | (refine wp_reg B ?_; simp (disch := omega) only [kW, Nat.reduceEqDiff, reduceIte, Nat.reduceLT, Nat.reduceLeDiff, Nat.reduceAdd, Nat.reduceSub, Nat.reduceMul, Nat.reducePow, Nat.reduceDiv, Nat.reduceMod, evIndexAddr, TD.agg, evFieldAddr, binA_eqB ty4, binA_neB ty4, ty4, ty43, ty59, ty61, ty63, fn94, fn51, c_EzMake, EzMake_ans, c_EnMul, EnMul_ans, k1, zav_cells, nav_one, nav_clean, zav_fold])
    | refine wp_condT rfl ?_ | refine wp_condF rfl ?_)
  simp (disch := omega) only [kS, Nat.reduceEqDiff, reduceIte, Nat.reduceLT, Nat.reduceLeDiff, Nat.reduceAdd, Nat.reduceSub, Nat.reduceMul, Nat.reducePow, Nat.reduceDiv, Nat.reduceMod, evIndexAddr, TD.agg, evFieldAddr, binA_eqB ty4, binA_neB ty4, ty4, ty43, ty59, ty61, ty63, fn94, fn51, c_EzMake, EzMake_ans, c_EnMul, EnMul_ans, zav_fold]
noncomputable def EzMul : Entry Try.prog := ⟨80, fun args h e h' => h' = h ∧ ∃ (x y : Int), args = [zav x, zav y] ∧ (bl x.natAbs + bl y.natAbs ≤ 4096) ∧ e = .ret (.tuple [zav (x * y), .flat (.int .i64 0)]), by
  rintro args h e h' ⟨rfl, x, y, rfl, h1, rfl⟩
  exact ⟨zMul_sem x y h1 _, Hp.Le.refl _⟩⟩
theorem EzMul_ans (x y : Int) (h : Hp) (h1 : bl x.natAbs + bl y.natAbs ≤ 4096) : EzMul.ans [zav x, zav y] h = some (.ret (.tuple [zav (x * y), .flat (.int .i64 0)]), h) :=
  Entry.one ⟨rfl, x, y, rfl, h1, rfl⟩ fun e h' ⟨hh, x', y', ha, _, he⟩ => by simp only [kI, nav_eq, zav_eq] at ha; obtain ⟨rfl, rfl⟩ := ha; exact ⟨he, hh⟩
theorem cmp_lt (a b : Nat) : Dg.cmp a b < 0 ↔ a < b := by
  unfold Dg.cmp
  split
  · omega
  · split <;> omega
theorem zAdd_sem (x y : Int) (hl : bl (x.natAbs + y.natAbs) ≤ 4096) (h : Hp) : SemCall Try.prog 83 [zav x, zav y] h (.ret (.tuple [zav (x + y), .flat (.int .i64 0)])) h := by
  refine sem_pure tables.ok Try.func83 rfl rfl rfl rfl (by simp [pureL, zav_pure]) (by simp [AV.pure, pureL, zav_pure]) ?_ h
  have B : Base Try.prog tab _ := tabL_base [EzMake, EnAdd, EnCmp, EnSub] tables.ok mixed
  generalize hL : tabL [EzMake, EnAdd, EnCmp, EnSub] = call at B
  have c_EzMake : ∀ a h, call 51 a h = EzMake.ans a h := fun _ _ => hL ▸ rfl
  have c_EnAdd : ∀ a h, call 95 a h = EnAdd.ans a h := fun _ _ => hL ▸ rfl
  have c_EnCmp : ∀ a h, call 91 a h = EnCmp.ans a h := fun _ _ => hL ▸ rfl
  have c_EnSub : ∀ a h, call 96 a h = EnSub.ans a h := fun _ _ => hL ▸ rfl
  clear hL
  have bx : bl x.natAbs ≤ 4096 := Nat.le_trans (Dg.bl_mono' (by omega)) hl
  have bY : bl y.natAbs ≤ 4096 := Nat.le_trans (Dg.bl_mono' (by omega)) hl
  unfold Try.f83 bodyOf entry; simp only [Option.getD_some, List.length_cons, List.length_nil, Nat.reduceAdd, Nat.reduceSub]
  by_cases hs : (x < 0 ↔ y < 0)
  · have e1 : (decide (x < 0) == decide (y < 0)) = true := by rw [beq_iff_eq, decide_eq_decide]; exact hs
    have k1 : ∀ h, EzMake.ans [.flat (.bool (decide (x < 0))), .agg [nav (x.natAbs + y.natAbs)]] h = some (.ret (zav (x + y)), h) := fun h => by
      have := EzMake_ans (decide (x < 0)) (x.natAbs + y.natAbs) h (by omega)
      rwa [show (if decide (x < 0) = true then -((x.natAbs + y.natAbs : Nat) : Int) else ((x.natAbs + y.natAbs : Nat) : Int)) = x + y by by_cases hx : x < 0 <;> simp [hx] <;> omega] at this
    repeat (first
      | refine wp_seqQ ?_ | refine wp_blockQ ?_ | refine wp_scopeQ ?_
      | ((first | refine wp_skipQ ?_ | refine wp_labelQ ?_ | refine wp_exitQ ?_ | refine wp_retQ ?_); simp only [kQ, Nat.reduceEqDiff, reduceIte])
      | (refine wp_reg B ?_; simp (disch := omega) only [kW, Nat.reduceEqDiff, reduceIte, Nat.reduceLT, Nat.reduceLeDiff, Nat.reduceAdd, Nat.reduceSub, Nat.reduceMul, Nat.reducePow, Nat.reduceDiv, Nat.reduceMod, evIndexAddr, TD.agg, evFieldAddr, binA_eqB ty4, binA_neB ty4, ty3, ty4, ty43, ty59, ty61, ty63, fn95, fn51, fn91, fn96, c_EzMake, EzMake_ans, c_EnAdd, EnAdd_ans, c_EnCmp, EnCmp_ans, c_EnSub, EnSub_ans, e1, k1, zav_cells, nav_one, nav_clean, zav_fold])
      | refine wp_condT rfl ?_ | refine wp_condF rfl ?_)
    simp (disch := omega) only [kS, Nat.reduceEqDiff, reduceIte, Nat.reduceLT, Nat.reduceLeDiff, Nat.reduceAdd, Nat.reduceSub, Nat.reduceMul, Nat.reducePow, Nat.reduceDiv, Nat.reduceMod, evIndexAddr, TD.agg, evFieldAddr, binA_eqB ty4, binA_neB ty4, ty3, ty4, ty43, ty59, ty61, ty63, fn95, fn51, fn91, fn96, c_EzMake, EzMake_ans, c_EnAdd, EnAdd_ans, c_EnCmp, EnCmp_ans, c_EnSub, EnSub_ans, zav_fold]
  · have e1 : (decide (x < 0) == decide (y < 0)) = false := by rw [beq_eq_false_iff_ne, ne_eq, decide_eq_decide]; exact hs
    have hc := cmp_lt x.natAbs y.natAbs
    by_cases hlt : x.natAbs < y.natAbs
    · have e2 : Dg.cmp x.natAbs y.natAbs < 0 := hc.2 hlt
      have k1 : ∀ h, EzMake.ans [.flat (.bool (decide (y < 0))), .agg [nav (y.natAbs - x.natAbs)]] h = some (.ret (zav (x + y)), h) := fun h => by
        have := EzMake_ans (decide (y < 0)) (y.natAbs - x.natAbs) h (by have := Dg.bl_mono' (show y.natAbs - x.natAbs ≤ y.natAbs by omega); omega)
        rwa [show (if decide (y < 0) = true then -((y.natAbs - x.natAbs : Nat) : Int) else ((y.natAbs - x.natAbs : Nat) : Int)) = x + y by by_cases hy : y < 0 <;> simp [hy] <;> omega] at this
      have k2 := fun h => EnSub_ans y.natAbs x.natAbs h bY (by omega)
      have k3 := fun h => EnCmp_ans x.natAbs y.natAbs h (by omega) (by omega)
      generalize Dg.cmp x.natAbs y.natAbs = cm at *
      repeat (first
        | refine wp_seqQ ?_ | refine wp_blockQ ?_ | refine wp_scopeQ ?_
        | ((first | refine wp_skipQ ?_ | refine wp_labelQ ?_ | refine wp_exitQ ?_ | refine wp_retQ ?_); simp only [kQ, Nat.reduceEqDiff, reduceIte])
        | (refine wp_reg B ?_; simp (disch := omega) only [kW, Nat.reduceEqDiff, reduceIte, Nat.reduceLT, Nat.reduceLeDiff, Nat.reduceAdd, Nat.reduceSub, Nat.reduceMul, Nat.reducePow, Nat.reduceDiv, Nat.reduceMod, evIndexAddr, TD.agg, evFieldAddr, binA_eqB ty4, binA_neB ty4, ty3, ty4, ty43, ty59, ty61, ty63, fn95, fn51, fn91, fn96, c_EzMake, EzMake_ans, c_EnAdd, EnAdd_ans, c_EnCmp, EnCmp_ans, c_EnSub, EnSub_ans, e1, k1, k2, k3, zav_cells, nav_one, nav_clean, zav_fold])
        | refine wp_condT rfl ?_ | refine wp_condF rfl ?_)
      simp (disch := omega) only [kS, Nat.reduceEqDiff, reduceIte, Nat.reduceLT, Nat.reduceLeDiff, Nat.reduceAdd, Nat.reduceSub, Nat.reduceMul, Nat.reducePow, Nat.reduceDiv, Nat.reduceMod, evIndexAddr, TD.agg, evFieldAddr, binA_eqB ty4, binA_neB ty4, ty3, ty4, ty43, ty59, ty61, ty63, fn95, fn51, fn91, fn96, c_EzMake, EzMake_ans, c_EnAdd, EnAdd_ans, c_EnCmp, EnCmp_ans, c_EnSub, EnSub_ans, zav_fold]
    · have e2 : ¬ Dg.cmp x.natAbs y.natAbs < 0 := fun k => hlt (hc.1 k)
      have k1 : ∀ h, EzMake.ans [.flat (.bool (decide (x < 0))), .agg [nav (x.natAbs - y.natAbs)]] h = some (.ret (zav (x + y)), h) := fun h => by
        have := EzMake_ans (decide (x < 0)) (x.natAbs - y.natAbs) h (by have := Dg.bl_mono' (show x.natAbs - y.natAbs ≤ x.natAbs by omega); omega)
        rwa [show (if decide (x < 0) = true then -((x.natAbs - y.natAbs : Nat) : Int) else ((x.natAbs - y.natAbs : Nat) : Int)) = x + y by by_cases hx : x < 0 <;> simp [hx] <;> omega] at this
      have k2 := fun h => EnSub_ans x.natAbs y.natAbs h bx (by omega)
      have k3 := fun h => EnCmp_ans x.natAbs y.natAbs h (by omega) (by omega)
      generalize Dg.cmp x.natAbs y.natAbs = cm at *
      repeat (first
        | refine wp_seqQ ?_ | refine wp_blockQ ?_ | refine wp_scopeQ ?_
        | ((first | refine wp_skipQ ?_ | refine wp_labelQ ?_ | refine wp_exitQ ?_ | refine wp_retQ ?_); simp only [kQ, Nat.reduceEqDiff, reduceIte])
        | (refine wp_reg B ?_; simp (disch := omega) only [kW, Nat.reduceEqDiff, reduceIte, Nat.reduceLT, Nat.reduceLeDiff, Nat.reduceAdd, Nat.reduceSub, Nat.reduceMul, Nat.reducePow, Nat.reduceDiv, Nat.reduceMod, evIndexAddr, TD.agg, evFieldAddr, binA_eqB ty4, binA_neB ty4, ty3, ty4, ty43, ty59, ty61, ty63, fn95, fn51, fn91, fn96, c_EzMake, EzMake_ans, c_EnAdd, EnAdd_ans, c_EnCmp, EnCmp_ans, c_EnSub, EnSub_ans, e1, k1, k2, k3, zav_cells, nav_one, nav_clean, zav_fold])
        | refine wp_condT rfl ?_ | refine wp_condF rfl ?_)
      simp (disch := omega) only [kS, Nat.reduceEqDiff, reduceIte, Nat.reduceLT, Nat.reduceLeDiff, Nat.reduceAdd, Nat.reduceSub, Nat.reduceMul, Nat.reducePow, Nat.reduceDiv, Nat.reduceMod, evIndexAddr, TD.agg, evFieldAddr, binA_eqB ty4, binA_neB ty4, ty3, ty4, ty43, ty59, ty61, ty63, fn95, fn51, fn91, fn96, c_EzMake, EzMake_ans, c_EnAdd, EnAdd_ans, c_EnCmp, EnCmp_ans, c_EnSub, EnSub_ans, zav_fold]
noncomputable def EzAdd : Entry Try.prog := ⟨83, fun args h e h' => h' = h ∧ ∃ (x y : Int), args = [zav x, zav y] ∧ (bl (x.natAbs + y.natAbs) ≤ 4096) ∧ e = .ret (.tuple [zav (x + y), .flat (.int .i64 0)]), by
  rintro args h e h' ⟨rfl, x, y, rfl, h1, rfl⟩
  exact ⟨zAdd_sem x y h1 _, Hp.Le.refl _⟩⟩
theorem EzAdd_ans (x y : Int) (h : Hp) (h1 : bl (x.natAbs + y.natAbs) ≤ 4096) : EzAdd.ans [zav x, zav y] h = some (.ret (.tuple [zav (x + y), .flat (.int .i64 0)]), h) :=
  Entry.one ⟨rfl, x, y, rfl, h1, rfl⟩ fun e h' ⟨hh, x', y', ha, _, he⟩ => by simp only [kI, nav_eq, zav_eq] at ha; obtain ⟨rfl, rfl⟩ := ha; exact ⟨he, hh⟩
theorem zSub_sem (x y : Int) (hl : bl (x.natAbs + y.natAbs) ≤ 4096) (h : Hp) : SemCall Try.prog 79 [zav x, zav y] h (.ret (.tuple [zav (x - y), .flat (.int .i64 0)])) h := by
  refine sem_pure tables.ok Try.func79 rfl rfl rfl rfl (by simp [pureL, zav_pure]) (by simp [AV.pure, pureL, zav_pure]) ?_ h
  have B : Base Try.prog tab _ := tabL_base [EzNeg, EzAdd] tables.ok mixed
  generalize hL : tabL [EzNeg, EzAdd] = call at B
  have c_EzNeg : ∀ a h, call 82 a h = EzNeg.ans a h := fun _ _ => hL ▸ rfl
  have c_EzAdd : ∀ a h, call 83 a h = EzAdd.ans a h := fun _ _ => hL ▸ rfl
  clear hL
  have bY : bl y.natAbs ≤ 4096 := Nat.le_trans (Dg.bl_mono' (by omega)) hl
  have k1 : ∀ h, EzAdd.ans [zav x, zav (-y)] h = some (.ret (.tuple [zav (x - y), .flat (.int .i64 0)]), h) := fun h => by
    have := EzAdd_ans x (-y) h (by rw [Int.natAbs_neg]; exact hl)
    rwa [← Int.sub_eq_add_neg] at this
  unfold Try.f79 bodyOf entry; simp only [Option.getD_some, List.length_cons, List.length_nil, Nat.reduceAdd, Nat.reduceSub]
  repeat (first
    | refine wp_seqQ ?_ | refine wp_blockQ ?_ | refine wp_scopeQ ?_
    | ((first | refine wp_skipQ ?_ | refine wp_labelQ ?_ | refine wp_exitQ ?_ | refine wp_retQ ?_); simp only [kQ, Nat.reduceEqDiff, reduceIte])
    | ((first | refine wp_dreg B (id := 1) [0, 0, 2, 7, 15, 15, 63, 127] (by kernel_rfl) ?_ | refine wp_reg B ?_); simp (disch := omega) only [kW, kG, Nat.reduceEqDiff, reduceIte, Nat.reduceLT, Nat.reduceLeDiff, Nat.reduceAdd, Nat.reduceSub, Nat.reduceMul, Nat.reducePow, Nat.reduceDiv, Nat.reduceMod, evIndexAddr, TD.agg, evFieldAddr, binA_eqB ty4, binA_neB ty4, ty4, ty43, ty59, ty61, ty63, fn82, fn83, c_EzNeg, EzNeg_ans, c_EzAdd, EzAdd_ans, k1, zav_cells, nav_one, nav_clean, zav_fold])
    | refine wp_condT rfl ?_ | refine wp_condF rfl ?_)
  simp (disch := omega) only [kS, Nat.reduceEqDiff, reduceIte, Nat.reduceLT, Nat.reduceLeDiff, Nat.reduceAdd, Nat.reduceSub, Nat.reduceMul, Nat.reducePow, Nat.reduceDiv, Nat.reduceMod, evIndexAddr, TD.agg, evFieldAddr, binA_eqB ty4, binA_neB ty4, ty4, ty43, ty59, ty61, ty63, fn82, fn83, c_EzNeg, EzNeg_ans, c_EzAdd, EzAdd_ans, zav_fold]
noncomputable def EzSub : Entry Try.prog := ⟨79, fun args h e h' => h' = h ∧ ∃ (x y : Int), args = [zav x, zav y] ∧ (bl (x.natAbs + y.natAbs) ≤ 4096) ∧ e = .ret (.tuple [zav (x - y), .flat (.int .i64 0)]), by
  rintro args h e h' ⟨rfl, x, y, rfl, h1, rfl⟩
  exact ⟨zSub_sem x y h1 _, Hp.Le.refl _⟩⟩
theorem EzSub_ans (x y : Int) (h : Hp) (h1 : bl (x.natAbs + y.natAbs) ≤ 4096) : EzSub.ans [zav x, zav y] h = some (.ret (.tuple [zav (x - y), .flat (.int .i64 0)]), h) :=
  Entry.one ⟨rfl, x, y, rfl, h1, rfl⟩ fun e h' ⟨hh, x', y', ha, _, he⟩ => by simp only [kI, nav_eq, zav_eq] at ha; obtain ⟨rfl, rfl⟩ := ha; exact ⟨he, hh⟩
theorem zQuo_sem (x y : Int) (lx : bl x.natAbs ≤ 4000) (ly : bl y.natAbs ≤ 4000) (y0 : y ≠ 0) (h : Hp) : SemCall Try.prog 81 [zav x, zav y] h (.ret (.tuple [zav (x / y), zav (x % y), .flat (.int .i64 0)])) h := by
  refine sem_pure tables.ok Try.func81 rfl rfl rfl rfl (by simp [pureL, zav_pure]) (by simp [AV.pure, pureL, zav_pure]) ?_ h
  have B : Base Try.prog tab _ := tabL_base [EzMake, EnDiv, EnBits, EnOf, EnAdd, EnSub] tables.ok mixed
  generalize hL : tabL [EzMake, EnDiv, EnBits, EnOf, EnAdd, EnSub] = call at B
  have c_EzMake : ∀ a h, call 51 a h = EzMake.ans a h := fun _ _ => hL ▸ rfl
  have c_EnDiv : ∀ a h, call 77 a h = EnDiv.ans a h := fun _ _ => hL ▸ rfl
  have c_EnBits : ∀ a h, call 63 a h = EnBits.ans a h := fun _ _ => hL ▸ rfl
  have c_EnOf : ∀ a h, call 62 a h = EnOf.ans a h := fun _ _ => hL ▸ rfl
  have c_EnAdd : ∀ a h, call 95 a h = EnAdd.ans a h := fun _ _ => hL ▸ rfl
  have c_EnSub : ∀ a h, call 96 a h = EnSub.ans a h := fun _ _ => hL ▸ rfl
  clear hL
  obtain ⟨q1, q2⟩ := quo_law x y y0
  have b0 := Dg.bl_zero (n := x.natAbs % y.natAbs)
  have bq := Dg.bl_mono' (Nat.div_le_self x.natAbs y.natAbs)
  have hr := Nat.mod_lt x.natAbs (y := y.natAbs) (by omega)
  have br := Dg.bl_mono' (Nat.le_of_lt hr)
  have kd := fun h => EnDiv_ans x.natAbs y.natAbs h (by omega) (by omega) (by omega)
  generalize hq : x.natAbs / y.natAbs = q at *
  generalize hm : x.natAbs % y.natAbs = r at *
  have kb := fun h => EnBits_ans r h (by omega)
  unfold Try.f81 bodyOf entry; simp only [Option.getD_some, List.length_cons, List.length_nil, Nat.reduceAdd, Nat.reduceSub]
  by_cases hc : 0 ≤ x ∨ r = 0
  · obtain ⟨e1, e2⟩ := q1 hc
    have k1 : ∀ h, EzMake.ans [.flat (.bool (!(decide (x < 0) == decide (y < 0)))), .agg [nav q]] h = some (.ret (zav (x / y)), h) := fun h => by
      have := EzMake_ans (!(decide (x < 0) == decide (y < 0))) q h (by omega)
      rwa [e1] at this
    have k2 : ∀ h, EzMake.ans [.flat (.bool false), .agg [nav r]] h = some (.ret (zav (x % y)), h) := fun h => by
      have := EzMake_ans false r h (by omega)
      rwa [if_neg (by simp), e2] at this
    clear q1 q2 e1 e2
    by_cases hx : x < 0
    · have hb0 : bl r = 0 := b0.2 (by omega)
      rw [decide_eq_true hx] at k1
      repeat (first
        | refine wp_seqQ ?_ | refine wp_blockQ ?_ | refine wp_scopeQ ?_
        | ((first | refine wp_skipQ ?_ | refine wp_labelQ ?_ | refine wp_exitQ ?_ | refine wp_retQ ?_); simp only [kQ, Nat.reduceEqDiff, reduceIte])
        | ((first | refine wp_dreg B (id := 5) [0, 0, 3, 7, 15, 15, 31] (by kernel_rfl) ?_ | refine wp_dreg B (id := 7) [0, 1, 0, 4, 15, 0, 63, 0, 255, 511, 1023, 2047] (by kernel_rfl) ?_ | refine wp_reg B ?_); simp (disch := omega) only [kW, kG, Nat.reduceEqDiff, reduceIte, Nat.reduceLT, Nat.reduceLeDiff, Nat.reduceAdd, Nat.reduceSub, Nat.reduceMul, Nat.reducePow, Nat.reduceDiv, Nat.reduceMod, evIndexAddr, TD.agg, evFieldAddr, binA_eqB ty4, binA_neB ty4, ty3, ty4, ty25, ty43, ty50, ty59, ty61, ty63, fn77, fn63, fn62, fn95, fn96, fn51, c_EzMake, EzMake_ans, c_EnDiv, EnDiv_ans, c_EnBits, EnBits_ans, c_EnOf, EnOf_ans, c_EnAdd, EnAdd_ans, c_EnSub, EnSub_ans, k1, k2, kd, kb, hb0, zav_cells, nav_one, nav_clean, zav_fold])
        | refine wp_condT rfl ?_ | refine wp_condF rfl ?_)
      simp (disch := omega) only [kS, Nat.reduceEqDiff, reduceIte, Nat.reduceLT, Nat.reduceLeDiff, Nat.reduceAdd, Nat.reduceSub, Nat.reduceMul, Nat.reducePow, Nat.reduceDiv, Nat.reduceMod, evIndexAddr, TD.agg, evFieldAddr, binA_eqB ty4, binA_neB ty4, ty3, ty4, ty25, ty43, ty50, ty59, ty61, ty63, fn77, fn63, fn62, fn95, fn96, fn51, c_EzMake, EzMake_ans, c_EnDiv, EnDiv_ans, c_EnBits, EnBits_ans, c_EnOf, EnOf_ans, c_EnAdd, EnAdd_ans, c_EnSub, EnSub_ans, zav_fold]
    · rw [decide_eq_false hx] at k1
      repeat (first
        | refine wp_seqQ ?_ | refine wp_blockQ ?_ | refine wp_scopeQ ?_
        | ((first | refine wp_skipQ ?_ | refine wp_labelQ ?_ | refine wp_exitQ ?_ | refine wp_retQ ?_); simp only [kQ, Nat.reduceEqDiff, reduceIte])
        | ((first | refine wp_dreg B (id := 5) [0, 0, 3, 7, 15, 15, 31] (by kernel_rfl) ?_ | refine wp_dreg B (id := 7) [0, 1, 0, 4, 15, 0, 63, 0, 255, 511, 1023, 2047] (by kernel_rfl) ?_ | refine wp_reg B ?_); simp (disch := omega) only [kW, kG, Nat.reduceEqDiff, reduceIte, Nat.reduceLT, Nat.reduceLeDiff, Nat.reduceAdd, Nat.reduceSub, Nat.reduceMul, Nat.reducePow, Nat.reduceDiv, Nat.reduceMod, evIndexAddr, TD.agg, evFieldAddr, binA_eqB ty4, binA_neB ty4, ty3, ty4, ty25, ty43, ty50, ty59, ty61, ty63, fn77, fn63, fn62, fn95, fn96, fn51, c_EzMake, EzMake_ans, c_EnDiv, EnDiv_ans, c_EnBits, EnBits_ans, c_EnOf, EnOf_ans, c_EnAdd, EnAdd_ans, c_EnSub, EnSub_ans, k1, k2, kd, kb, zav_cells, nav_one, nav_clean, zav_fold])
        | refine wp_condT rfl ?_ | refine wp_condF rfl ?_)
      simp (disch := omega) only [kS, Nat.reduceEqDiff, reduceIte, Nat.reduceLT, Nat.reduceLeDiff, Nat.reduceAdd, Nat.reduceSub, Nat.reduceMul, Nat.reducePow, Nat.reduceDiv, Nat.reduceMod, evIndexAddr, TD.agg, evFieldAddr, binA_eqB ty4, binA_neB ty4, ty3, ty4, ty25, ty43, ty50, ty59, ty61, ty63, fn77, fn63, fn62, fn95, fn96, fn51, c_EzMake, EzMake_ans, c_EnDiv, EnDiv_ans, c_EnBits, EnBits_ans, c_EnOf, EnOf_ans, c_EnAdd, EnAdd_ans, c_EnSub, EnSub_ans, zav_fold]
  · obtain ⟨e1, e2⟩ := q2 (by omega) (by omega)
    have hx : x < 0 := by omega
    have bq1 := Dg.bl_succ' q
    have k1 : ∀ h, EzMake.ans [.flat (.bool (!(decide (x < 0) == decide (y < 0)))), .agg [nav (q + 1)]] h = some (.ret (zav (x / y)), h) := fun h => by
      have := EzMake_ans (!(decide (x < 0) == decide (y < 0))) (q + 1) h (by omega)
      rwa [e1] at this
    have k2 : ∀ h, EzMake.ans [.flat (.bool false), .agg [nav (y.natAbs - r)]] h = some (.ret (zav (x % y)), h) := fun h => by
      have := EzMake_ans false (y.natAbs - r) h (by have := Dg.bl_mono' (show y.natAbs - r ≤ y.natAbs by omega); omega)
      rwa [if_neg (by simp), e2] at this
    have k3 : ∀ h, EnOf.ans [.flat (.int .u64 1)] h = some (.ret (.agg [nav 1]), h) := fun h => EnOf_ans 1 h (by omega)
    have k4 := fun h => EnAdd_ans q 1 h (by omega) (by have := Dg.bl_mono' (show 1 ≤ q + 1 by omega); omega) (by omega)
    have k5 := fun h => EnSub_ans y.natAbs r h (by omega) (by omega)
    have hb0 : bl r ≠ 0 := fun e => by have := b0.1 e; omega
    clear q1 q2 e1 e2
    rw [decide_eq_true hx] at k1
    repeat (first
      | refine wp_seqQ ?_ | refine wp_blockQ ?_ | refine wp_scopeQ ?_
      | ((first | refine wp_skipQ ?_ | refine wp_labelQ ?_ | refine wp_exitQ ?_ | refine wp_retQ ?_); simp only [kQ, Nat.reduceEqDiff, reduceIte])
      | ((first | refine wp_dreg B (id := 5) [0, 0, 3, 7, 15, 15, 31] (by kernel_rfl) ?_ | refine wp_dreg B (id := 7) [0, 1, 0, 4, 15, 0, 63, 0, 255, 511, 1023, 2047] (by kernel_rfl) ?_ | refine wp_reg B ?_); simp (disch := omega) only [kW, kG, Nat.reduceEqDiff, reduceIte, Nat.reduceLT, Nat.reduceLeDiff, Nat.reduceAdd, Nat.reduceSub, Nat.reduceMul, Nat.reducePow, Nat.reduceDiv, Nat.reduceMod, evIndexAddr, TD.agg, evFieldAddr, binA_eqB ty4, binA_neB ty4, ty3, ty4, ty25, ty43, ty50, ty59, ty61, ty63, fn77, fn63, fn62, fn95, fn96, fn51, c_EzMake, EzMake_ans, c_EnDiv, EnDiv_ans, c_EnBits, EnBits_ans, c_EnOf, EnOf_ans, c_EnAdd, EnAdd_ans, c_EnSub, EnSub_ans, k1, k2, k3, k4, k5, kd, kb, zav_cells, nav_one, nav_clean, zav_fold])
      | refine wp_condT rfl ?_ | refine wp_condF rfl ?_)
    simp (disch := omega) only [kS, Nat.reduceEqDiff, reduceIte, Nat.reduceLT, Nat.reduceLeDiff, Nat.reduceAdd, Nat.reduceSub, Nat.reduceMul, Nat.reducePow, Nat.reduceDiv, Nat.reduceMod, evIndexAddr, TD.agg, evFieldAddr, binA_eqB ty4, binA_neB ty4, ty3, ty4, ty25, ty43, ty50, ty59, ty61, ty63, fn77, fn63, fn62, fn95, fn96, fn51, c_EzMake, EzMake_ans, c_EnDiv, EnDiv_ans, c_EnBits, EnBits_ans, c_EnOf, EnOf_ans, c_EnAdd, EnAdd_ans, c_EnSub, EnSub_ans, zav_fold]
noncomputable def EzQuo : Entry Try.prog := ⟨81, fun args h e h' => h' = h ∧ ∃ (x y : Int), args = [zav x, zav y] ∧ (bl x.natAbs ≤ 4000) ∧ (bl y.natAbs ≤ 4000) ∧ (y ≠ 0) ∧ e = .ret (.tuple [zav (x / y), zav (x % y), .flat (.int .i64 0)]), by
  rintro args h e h' ⟨rfl, x, y, rfl, h1, h2, h3, rfl⟩
  exact ⟨zQuo_sem x y h1 h2 h3 _, Hp.Le.refl _⟩⟩
theorem EzQuo_ans (x y : Int) (h : Hp) (h1 : bl x.natAbs ≤ 4000) (h2 : bl y.natAbs ≤ 4000) (h3 : y ≠ 0) : EzQuo.ans [zav x, zav y] h = some (.ret (.tuple [zav (x / y), zav (x % y), .flat (.int .i64 0)]), h) :=
  Entry.one ⟨rfl, x, y, rfl, h1, h2, h3, rfl⟩ fun e h' ⟨hh, x', y', ha, _, _, _, he⟩ => by simp only [kI, nav_eq, zav_eq] at ha; obtain ⟨rfl, rfl⟩ := ha; exact ⟨he, hh⟩
theorem zExact_sem (x y : Int) (lx : bl x.natAbs ≤ 4000) (ly : bl y.natAbs ≤ 4000) (y0 : y ≠ 0) (dv : x % y = 0) (h : Hp) : SemCall Try.prog 61 [zav x, zav y] h (.ret (.tuple [zav (x / y), .flat (.int .i64 0)])) h := by
  refine sem_pure tables.ok Try.func61 rfl rfl rfl rfl (by simp [pureL, zav_pure]) (by simp [AV.pure, pureL, zav_pure]) ?_ h
  have B : Base Try.prog tab _ := tabL_base [EzQuo, EzSign] tables.ok mixed
  generalize hL : tabL [EzQuo, EzSign] = call at B
  have c_EzQuo : ∀ a h, call 81 a h = EzQuo.ans a h := fun _ _ => hL ▸ rfl
  have c_EzSign : ∀ a h, call 57 a h = EzSign.ans a h := fun _ _ => hL ▸ rfl
  clear hL
  have k1 := fun h => EzQuo_ans x y h lx ly y0
  rw [dv] at k1
  have k2 : ∀ h, EzSign.ans [zav 0] h = some (.ret (.flat (.int .i64 0)), h) := fun h => by
    have := EzSign_ans 0 h (by have := Dg.bl_zero.2 (show (0 : Int).natAbs = 0 from rfl); omega)
    rwa [if_neg (by omega), if_pos rfl] at this
  unfold Try.f61 bodyOf entry; simp only [Option.getD_some, List.length_cons, List.length_nil, Nat.reduceAdd, Nat.reduceSub]
  repeat (first
    | refine wp_seqQ ?_ | refine wp_blockQ ?_ | refine wp_scopeQ ?_
    | ((first | refine wp_skipQ ?_ | refine wp_labelQ ?_ | refine wp_exitQ ?_ | refine wp_retQ ?_); simp only [kQ, Nat.reduceEqDiff, reduceIte])
    | (refine wp_reg B ?_; simp (disch := omega) only [kW, Nat.reduceEqDiff, reduceIte, Nat.reduceLT, Nat.reduceLeDiff, Nat.reduceAdd, Nat.reduceSub, Nat.reduceMul, Nat.reducePow, Nat.reduceDiv, Nat.reduceMod, evIndexAddr, TD.agg, evFieldAddr, binA_eqB ty4, binA_neB ty4, ty3, ty4, ty25, ty43, ty59, ty61, ty63, fn81, fn57, c_EzQuo, EzQuo_ans, c_EzSign, EzSign_ans, k1, k2, zav_cells, nav_one, nav_clean, zav_fold])
    | refine wp_condT rfl ?_ | refine wp_condF rfl ?_)
  simp (disch := omega) only [kS, Nat.reduceEqDiff, reduceIte, Nat.reduceLT, Nat.reduceLeDiff, Nat.reduceAdd, Nat.reduceSub, Nat.reduceMul, Nat.reducePow, Nat.reduceDiv, Nat.reduceMod, evIndexAddr, TD.agg, evFieldAddr, binA_eqB ty4, binA_neB ty4, ty3, ty4, ty25, ty43, ty59, ty61, ty63, fn81, fn57, c_EzQuo, EzQuo_ans, c_EzSign, EzSign_ans, zav_fold]
noncomputable def EzExact : Entry Try.prog := ⟨61, fun args h e h' => h' = h ∧ ∃ (x y : Int), args = [zav x, zav y] ∧ (bl x.natAbs ≤ 4000) ∧ (bl y.natAbs ≤ 4000) ∧ (y ≠ 0) ∧ (x % y = 0) ∧ e = .ret (.tuple [zav (x / y), .flat (.int .i64 0)]), by
  rintro args h e h' ⟨rfl, x, y, rfl, h1, h2, h3, h4, rfl⟩
  exact ⟨zExact_sem x y h1 h2 h3 h4 _, Hp.Le.refl _⟩⟩
theorem EzExact_ans (x y : Int) (h : Hp) (h1 : bl x.natAbs ≤ 4000) (h2 : bl y.natAbs ≤ 4000) (h3 : y ≠ 0) (h4 : x % y = 0) : EzExact.ans [zav x, zav y] h = some (.ret (.tuple [zav (x / y), .flat (.int .i64 0)]), h) :=
  Entry.one ⟨rfl, x, y, rfl, h1, h2, h3, h4, rfl⟩ fun e h' ⟨hh, x', y', ha, _, _, _, _, he⟩ => by simp only [kI, nav_eq, zav_eq] at ha; obtain ⟨rfl, rfl⟩ := ha; exact ⟨he, hh⟩
theorem step_sem (a q b : Int) (h1 : bl q.natAbs + bl b.natAbs ≤ 4096) (h2 : bl (a.natAbs + (q * b).natAbs) ≤ 4096) (h : Hp) : SemCall Try.prog 78 [zav a, zav q, zav b] h (.ret (zav (a - q * b))) h := by
  refine sem_pure tables.ok Try.func78 rfl rfl rfl rfl (by simp [pureL, zav_pure]) (zav_pure _) ?_ h
  have B : Base Try.prog tab _ := tabL_base [EzMul, EzMust, EzSub] tables.ok mixed
  generalize hL : tabL [EzMul, EzMust, EzSub] = call at B
  have c_EzMul : ∀ a h, call 80 a h = EzMul.ans a h := fun _ _ => hL ▸ rfl
  have c_EzMust : ∀ a h, call 60 a h = EzMust.ans a h := fun _ _ => hL ▸ rfl
  have c_EzSub : ∀ a h, call 79 a h = EzSub.ans a h := fun _ _ => hL ▸ rfl
  clear hL
  unfold Try.f78 bodyOf entry; simp only [Option.getD_some, List.length_cons, List.length_nil, Nat.reduceAdd, Nat.reduceSub]
  repeat (first
    | refine wp_seqQ ?_ | refine wp_blockQ ?_ | refine wp_scopeQ ?_
    | ((first | refine wp_skipQ ?_ | refine wp_labelQ ?_ | refine wp_exitQ ?_ | refine wp_retQ ?_); simp only [kQ, Nat.reduceEqDiff, reduceIte])
    | ((first | refine wp_dreg B (id := 1) [0, 0, 0, 6, 14, 14, 62, 127, 255, 255, 1023, 2047] (by kernel_rfl) ?_ | refine wp_reg B ?_); simp (disch := omega) only [kW, kG, Nat.reduceEqDiff, reduceIte, Nat.reduceLT, Nat.reduceLeDiff, Nat.reduceAdd, Nat.reduceSub, Nat.reduceMul, Nat.reducePow, Nat.reduceDiv, Nat.reduceMod, evIndexAddr, TD.agg, evFieldAddr, binA_eqB ty4, binA_neB ty4, ty4, ty25, ty43, ty59, ty61, ty63, fn80, fn60, fn79, c_EzMul, EzMul_ans, c_EzMust, EzMust_ans, c_EzSub, EzSub_ans, zav_cells, nav_one, nav_clean, zav_fold])
    | refine wp_condT rfl ?_ | refine wp_condF rfl ?_)
  simp (disch := omega) only [kS, Nat.reduceEqDiff, reduceIte, Nat.reduceLT, Nat.reduceLeDiff, Nat.reduceAdd, Nat.reduceSub, Nat.reduceMul, Nat.reducePow, Nat.reduceDiv, Nat.reduceMod, evIndexAddr, TD.agg, evFieldAddr, binA_eqB ty4, binA_neB ty4, ty4, ty25, ty43, ty59, ty61, ty63, fn80, fn60, fn79, c_EzMul, EzMul_ans, c_EzMust, EzMust_ans, c_EzSub, EzSub_ans, zav_fold]
noncomputable def EzStep : Entry Try.prog := ⟨78, fun args h e h' => h' = h ∧ ∃ (a q b : Int), args = [zav a, zav q, zav b] ∧ (bl q.natAbs + bl b.natAbs ≤ 4096) ∧ (bl (a.natAbs + (q * b).natAbs) ≤ 4096) ∧ e = .ret (zav (a - q * b)), by
  rintro args h e h' ⟨rfl, a, q, b, rfl, h1, h2, rfl⟩
  exact ⟨step_sem a q b h1 h2 _, Hp.Le.refl _⟩⟩
theorem EzStep_ans (a q b : Int) (h : Hp) (h1 : bl q.natAbs + bl b.natAbs ≤ 4096) (h2 : bl (a.natAbs + (q * b).natAbs) ≤ 4096) : EzStep.ans [zav a, zav q, zav b] h = some (.ret (zav (a - q * b)), h) :=
  Entry.one ⟨rfl, a, q, b, rfl, h1, h2, rfl⟩ fun e h' ⟨hh, a', q', b', ha, _, _, he⟩ => by simp only [kI, nav_eq, zav_eq] at ha; obtain ⟨rfl, rfl, rfl⟩ := ha; exact ⟨he, hh⟩
end Go.Proofs.Ytkgejfokdmdikaa.Iv
end
section
set_option maxHeartbeats 4000000
set_option linter.unusedVariables false
set_option linter.unusedSimpArgs false
set_option maxRecDepth 10000
namespace Go.Proofs.Ytkgejfokdmdikaa.Iv
open Go Go.Iv Go.RowKit Go.Proofs.Ytkgejfokdmdikaa.Nv
open Dg (bl Cof CofBits)
theorem WP.weaken {P : Program} {c : Code} {tm : Nat → Option AV} {n next low : Nat} {m : Nat → Option AO} {ds : List ADef} {Q : AExit → St → Prop} (b : Nat) {l : List AV} (l' : List AV) {e : Nat} {x : Bool} (hb : m b = some (.cells l e x)) (hl : FzL (fun _ => none) l l')
    (k : WP True P c ⟨tm, n, ⟨next, low, upd m b (some (.cells l' e x))⟩, ds⟩ Q) : WP True P c ⟨tm, n, ⟨next, low, m⟩, ds⟩ Q := by
  refine WP.view0 (s1 := ⟨tm, n, ⟨next, low, upd m b (some (.cells l' e x))⟩, ds⟩) (Freeze.view (g := fun _ => none) ⟨rfl, rfl, rfl, fun t => Fz.refl _ _, fun i o1 ho => ?_, fun i l h => by cases h⟩) k
  refine ⟨rfl, ?_⟩
  simp only [Hp.get] at ho ⊢
  by_cases hi : i = b
  · subst hi
    simp only [upd_eq, Option.some.injEq] at ho
    exact ⟨l, l', e, x, hb, ho.symm, hl⟩
  · rw [upd_ne _ _ hi] at ho
    cases o1 with
    | cells l1 e1 x1 => exact ⟨l1, l1, e1, x1, ho, rfl, FzL.refl _ _⟩
theorem zero_weak : FzL (fun _ => none) [.flat (.bool false), nilA] [zs 0, zm 0] := by
  have e : zm 0 = dgs [] := by simp only [zm, nav, Int.natAbs_zero, Dg.dg_zero]
  refine FzL.cons (fun ρ ρ' v _ _ h => ?_) (FzL.cons (fun ρ ρ' v _ _ h => ?_) (FzL.nil _))
  · simpa [zs, AV.rel] using h
  · rw [e]
    simp only [nilA, AV.rel] at h
    subst h
    simp only [dgs, AV.rel]
    exact ⟨none, 0, rfl, by simp, by simp, by omega, fun h => by simp at h⟩
theorem cof_sem (c m : Int) (lc : bl c.natAbs ≤ 1000) (lm : bl m.natAbs ≤ 1000) (m0 : 0 < m) (g1 : Int.gcd c m = 1) (h : Hp) : SemCall Try.prog 59 [zav c, zav m] h (.ret (.tuple [zav (cofX c m), zav (cofY c m)])) h := by
  refine sem_pure tables.ok Try.func59 rfl rfl rfl rfl (by simp [pureL, zav_pure]) (by simp [AV.pure, pureL, zav_pure]) ?_ h
  have B : Base Try.prog tab _ := tabL_base [EzQuo, EzSign, EzOf, EzNeg, EzStep, EzAdd, EzSub, EzMust] tables.ok mixed
  generalize hL : tabL [EzQuo, EzSign, EzOf, EzNeg, EzStep, EzAdd, EzSub, EzMust] = call at B
  have c_EzQuo : ∀ a h, call 81 a h = EzQuo.ans a h := fun _ _ => hL ▸ rfl
  have c_EzSign : ∀ a h, call 57 a h = EzSign.ans a h := fun _ _ => hL ▸ rfl
  have c_EzOf : ∀ a h, call 50 a h = EzOf.ans a h := fun _ _ => hL ▸ rfl
  have c_EzNeg : ∀ a h, call 82 a h = EzNeg.ans a h := fun _ _ => hL ▸ rfl
  have c_EzStep : ∀ a h, call 78 a h = EzStep.ans a h := fun _ _ => hL ▸ rfl
  have c_EzAdd : ∀ a h, call 83 a h = EzAdd.ans a h := fun _ _ => hL ▸ rfl
  have c_EzSub : ∀ a h, call 79 a h = EzSub.ans a h := fun _ _ => hL ▸ rfl
  have c_EzMust : ∀ a h, call 60 a h = EzMust.ans a h := fun _ _ => hL ▸ rfl
  clear hL
  have b1 := (Cof.start c m m0).bits lc lm
  have k1 := fun h => EzQuo_ans c m h (by omega) (by omega) (by omega)
  have k2 := fun h => EzNeg_ans (c / m) h (by have := b1.bz; rw [Int.natAbs_neg] at this; omega)
  have k3 := fun h => EzOf_ans 1 h (by omega) (by omega)
  unfold Try.f59 bodyOf entry; simp only [Option.getD_some, List.length_cons, List.length_nil, Nat.reduceAdd, Nat.reduceSub]
  repeat (first
    | refine wp_seqQ ?_ | refine wp_blockQ ?_ | refine wp_scopeQ ?_
    | ((first | refine wp_skipQ ?_ | refine wp_labelQ ?_ | refine wp_exitQ ?_ | refine wp_retQ ?_); simp only [kQ, Nat.reduceEqDiff, reduceIte])
    | ((first | refine wp_dreg B (id := 3) [0, 0, 0, 0, 0, 0, 61, 127, 255] (by kernel_rfl) ?_ | refine wp_dreg B (id := 4) [0, 0, 3, 0, 0, 31, 63] (by kernel_rfl) ?_ | refine wp_dreg B (id := 7) [0, 0, 1, 7] (by kernel_rfl) ?_ | refine wp_dreg B (id := 8) [0, 0, 0, 0, 0, 30, 63, 127] (by kernel_rfl) ?_ | refine wp_dreg B (id := 9) [0, 0, 0, 0, 0, 30, 63, 127] (by kernel_rfl) ?_ | refine wp_dreg B (id := 11) [0, 0, 3, 7, 7, 31, 0, 0, 255, 511, 511, 2047, 4095, 8191] (by kernel_rfl) ?_ | refine wp_dreg B (id := 12) [0, 0, 1, 7] (by kernel_rfl) ?_ | refine wp_reg B ?_); simp (disch := omega) only [kW, kG, Nat.reduceEqDiff, reduceIte, Nat.reduceLT, Nat.reduceLeDiff, Nat.reduceAdd, Nat.reduceSub, Nat.reduceMul, Nat.reducePow, Nat.reduceDiv, Nat.reduceMod, evIndexAddr, TD.agg, evFieldAddr, binA_eqB ty4, binA_neB ty4, ty2, ty3, ty4, ty25, ty43, ty59, ty61, ty63, fn78, fn81, fn50, fn82, fn57, fn83, fn60, fn79, c_EzQuo, EzQuo_ans, c_EzSign, EzSign_ans, c_EzOf, EzOf_ans, c_EzNeg, EzNeg_ans, c_EzStep, EzStep_ans, c_EzAdd, EzAdd_ans, c_EzSub, EzSub_ans, c_EzMust, EzMust_ans, k1, k2, k3, zav_cells, nav_one, nav_clean, zav_fold])
    | refine wp_condT rfl ?_ | refine wp_condF rfl ?_)
  refine WP.weaken (Hp.empty.next + 1 + 1 + 1 + 1 + 1 + 1 + 1) [zs 0, zm 0] (by simp (disch := omega) only [upd_eq, upd_ne]; rfl) zero_weak ?_
  refine wp_loopQ (fun k st => ∃ (r s u v w z : Int) (tm : Nat → Option AV) (hh : Hp), st = ⟨tm, 72, hh, []⟩ ∧ s.toNat = k ∧ Cof c m r s u v w z ∧ Hp.empty.next + 1 + 1 + 1 + 1 + 1 + 1 + 1 + 1 + 1 + 1 + 1 ≤ hh.next ∧ tm 2 = some (.ptr (Hp.empty.next) 0) ∧ tm 3 = some (.ptr (Hp.empty.next + 1) 0) ∧ tm 4 = some (.ptr (Hp.empty.next + 1 + 1) 0) ∧ tm 5 = some (.ptr (Hp.empty.next + 1 + 1 + 1) 0) ∧ tm 7 = some (.ptr (Hp.empty.next + 1 + 1 + 1 + 1) 0) ∧ tm 8 = some (.ptr (Hp.empty.next + 1 + 1 + 1 + 1 + 1) 0) ∧ tm 10 = some (.ptr (Hp.empty.next + 1 + 1 + 1 + 1 + 1 + 1) 0) ∧ tm 11 = some (.ptr (Hp.empty.next + 1 + 1 + 1 + 1 + 1 + 1 + 1) 0) ∧ tm 12 = some (.ptr (Hp.empty.next + 1 + 1 + 1 + 1 + 1 + 1 + 1 + 1) 0) ∧ tm 13 = some (.ptr (Hp.empty.next + 1 + 1 + 1 + 1 + 1 + 1 + 1 + 1 + 1) 0) ∧ tm 14 = some (.ptr (Hp.empty.next + 1 + 1 + 1 + 1 + 1 + 1 + 1 + 1 + 1 + 1) 0) ∧ tm 6 = some (.func (.func 78) [] []) ∧ hh.m (Hp.empty.next) = some (.cells [zs c, zm c] 63 false) ∧ hh.m (Hp.empty.next + 1) = some (.cells [zs m, zm m] 63 false) ∧ hh.m (Hp.empty.next + 1 + 1) = some (.cells [.flat (.bool false), nilA] 63 false) ∧ hh.m (Hp.empty.next + 1 + 1 + 1) = some (.cells [.flat (.bool false), nilA] 63 false) ∧ hh.m (Hp.empty.next + 1 + 1 + 1 + 1 + 1) = some (.cells [zs s, zm s] 63 false) ∧ hh.m (Hp.empty.next + 1 + 1 + 1 + 1 + 1 + 1) = some (.cells [zs r, zm r] 63 false) ∧ hh.m (Hp.empty.next + 1 + 1 + 1 + 1 + 1 + 1 + 1) = some (.cells [zs u, zm u] 63 false) ∧ hh.m (Hp.empty.next + 1 + 1 + 1 + 1 + 1 + 1 + 1 + 1) = some (.cells [zs v, zm v] 63 false) ∧ hh.m (Hp.empty.next + 1 + 1 + 1 + 1 + 1 + 1 + 1 + 1 + 1) = some (.cells [zs w, zm w] 63 false) ∧ hh.m (Hp.empty.next + 1 + 1 + 1 + 1 + 1 + 1 + 1 + 1 + 1 + 1) = some (.cells [zs z, zm z] 63 false)) (c % m).toNat ?_ ?_
  · refine ⟨m, c % m, 0, 1, 1, -(c / m), _, _, rfl, rfl, Cof.start c m m0, by simp only []; omega, ?_⟩
    simp (disch := omega) only [upd_eq, upd_ne, and_true, Nat.reduceEqDiff, ne_eq, not_false_eq_true]
  · rintro k st ⟨r, s, u, v, w, z, tm, hh, rfl, rfl, hC, hn, t2, t3, t4, t5, t7, t8, t10, t11, t12, t13, t14, t6, c0, c1, c2, c3, c5, c6, c7, c8, c9, c10⟩
    have hb := hC.bits lc lm
    have hb1 := hb.br
    have hb2 := hb.bs
    have hb3 := hb.bq
    have hb4 := hb.bv
    have hb5 := hb.bz
    have s0 := hC.s0
    by_cases s1 : s = 0
    · subst s1
      have q1 : ∀ h, EzSign.ans [zav 0] h = some (.ret (.flat (.int .i64 0)), h) := fun h => by
        have := EzSign_ans 0 h (by omega)
        rwa [if_neg (by omega), if_pos rfl] at this
      obtain ⟨_, h1, h2⟩ := hC.stop g1
      by_cases hu : u < 0
      · obtain ⟨x0, x1, e⟩ := h1 hu
        obtain ⟨ex, ey⟩ := cof_spec x0 x1 e
        rw [ex, ey]
        have q2 : ∀ h, EzSign.ans [zav u] h = some (.ret (.flat (.int .i64 (-1))), h) := fun h => by
          have := EzSign_ans u h (by have := Dg.bl_mono' hC.vm.2; omega)
          rwa [if_pos hu] at this
        have q3 := fun h => EzAdd_ans u m h (by have := hb.um; omega)
        have q4 := fun h => EzSub_ans w c h (by have := hb.wc; omega)
        repeat (first
          | refine wp_seqQ ?_ | refine wp_blockQ ?_ | refine wp_scopeQ ?_
          | ((first | refine wp_skipQ ?_ | refine wp_labelQ ?_ | refine wp_exitQ ?_ | refine wp_retQ ?_); simp only [kQ, Nat.reduceEqDiff, reduceIte])
          | ((first | refine wp_dreg B (id := 3) [0, 0, 0, 0, 0, 0, 61, 127, 255] (by kernel_rfl) ?_ | refine wp_dreg B (id := 4) [0, 0, 3, 0, 0, 31, 63] (by kernel_rfl) ?_ | refine wp_dreg B (id := 7) [0, 0, 1, 7] (by kernel_rfl) ?_ | refine wp_dreg B (id := 8) [0, 0, 0, 0, 0, 30, 63, 127] (by kernel_rfl) ?_ | refine wp_dreg B (id := 9) [0, 0, 0, 0, 0, 30, 63, 127] (by kernel_rfl) ?_ | refine wp_dreg B (id := 11) [0, 0, 3, 7, 7, 31, 0, 0, 255, 511, 511, 2047, 4095, 8191] (by kernel_rfl) ?_ | refine wp_dreg B (id := 12) [0, 0, 1, 7] (by kernel_rfl) ?_ | refine wp_reg B ?_); simp (disch := omega) only [kW, kG, Nat.reduceEqDiff, reduceIte, Nat.reduceLT, Nat.reduceLeDiff, Nat.reduceAdd, Nat.reduceSub, Nat.reduceMul, Nat.reducePow, Nat.reduceDiv, Nat.reduceMod, evIndexAddr, TD.agg, evFieldAddr, binA_eqB ty4, binA_neB ty4, ty2, ty3, ty4, ty25, ty43, ty59, ty61, ty63, fn78, fn81, fn50, fn82, fn57, fn83, fn60, fn79, c_EzQuo, EzQuo_ans, c_EzSign, EzSign_ans, c_EzOf, EzOf_ans, c_EzNeg, EzNeg_ans, c_EzStep, EzStep_ans, c_EzAdd, EzAdd_ans, c_EzSub, EzSub_ans, c_EzMust, EzMust_ans, q1, q2, q3, q4, t2, t3, t4, t5, t7, t8, t10, t11, t12, t13, t14, t6, c0, c1, c2, c3, c5, c6, c7, c8, c9, c10, zav_cells, nav_one, nav_clean, zav_fold])
          | refine wp_condT rfl ?_ | refine wp_condF rfl ?_)
        simp (disch := omega) only [kS, Nat.reduceEqDiff, reduceIte, Nat.reduceLT, Nat.reduceLeDiff, Nat.reduceAdd, Nat.reduceSub, Nat.reduceMul, Nat.reducePow, Nat.reduceDiv, Nat.reduceMod, evIndexAddr, TD.agg, evFieldAddr, binA_eqB ty4, binA_neB ty4, ty2, ty3, ty4, ty25, ty43, ty59, ty61, ty63, fn78, fn81, fn50, fn82, fn57, fn83, fn60, fn79, c_EzQuo, EzQuo_ans, c_EzSign, EzSign_ans, c_EzOf, EzOf_ans, c_EzNeg, EzNeg_ans, c_EzStep, EzStep_ans, c_EzAdd, EzAdd_ans, c_EzSub, EzSub_ans, c_EzMust, EzMust_ans, zav_fold, t2, t3, t4, t5, t7, t8, t10, t11, t12, t13, t14, t6, c0, c1, c2, c3, c5, c6, c7, c8, c9, c10, zav_cells, nav_one, nav_clean, zav_fold]
      · obtain ⟨x0, x1, e⟩ := h2 hu
        obtain ⟨ex, ey⟩ := cof_spec x0 x1 e
        rw [ex, ey]
        obtain ⟨q, hq, hq0⟩ : ∃ q : Int, q = (if u < 0 then -1 else if u = 0 then 0 else 1) ∧ 0 ≤ q := ⟨_, rfl, by rw [if_neg hu]; split <;> omega⟩
        have q2 : ∀ h, EzSign.ans [zav u] h = some (.ret (.flat (.int .i64 q)), h) := fun h => by
          have := EzSign_ans u h (by have := Dg.bl_mono' hC.vm.2; omega)
          rwa [← hq] at this
        clear hq
        repeat (first
          | refine wp_seqQ ?_ | refine wp_blockQ ?_ | refine wp_scopeQ ?_
          | ((first | refine wp_skipQ ?_ | refine wp_labelQ ?_ | refine wp_exitQ ?_ | refine wp_retQ ?_); simp only [kQ, Nat.reduceEqDiff, reduceIte])
          | ((first | refine wp_dreg B (id := 3) [0, 0, 0, 0, 0, 0, 61, 127, 255] (by kernel_rfl) ?_ | refine wp_dreg B (id := 4) [0, 0, 3, 0, 0, 31, 63] (by kernel_rfl) ?_ | refine wp_dreg B (id := 7) [0, 0, 1, 7] (by kernel_rfl) ?_ | refine wp_dreg B (id := 8) [0, 0, 0, 0, 0, 30, 63, 127] (by kernel_rfl) ?_ | refine wp_dreg B (id := 9) [0, 0, 0, 0, 0, 30, 63, 127] (by kernel_rfl) ?_ | refine wp_dreg B (id := 11) [0, 0, 3, 7, 7, 31, 0, 0, 255, 511, 511, 2047, 4095, 8191] (by kernel_rfl) ?_ | refine wp_dreg B (id := 12) [0, 0, 1, 7] (by kernel_rfl) ?_ | refine wp_reg B ?_); simp (disch := omega) only [kW, kG, Nat.reduceEqDiff, reduceIte, Nat.reduceLT, Nat.reduceLeDiff, Nat.reduceAdd, Nat.reduceSub, Nat.reduceMul, Nat.reducePow, Nat.reduceDiv, Nat.reduceMod, evIndexAddr, TD.agg, evFieldAddr, binA_eqB ty4, binA_neB ty4, ty2, ty3, ty4, ty25, ty43, ty59, ty61, ty63, fn78, fn81, fn50, fn82, fn57, fn83, fn60, fn79, c_EzQuo, EzQuo_ans, c_EzSign, EzSign_ans, c_EzOf, EzOf_ans, c_EzNeg, EzNeg_ans, c_EzStep, EzStep_ans, c_EzAdd, EzAdd_ans, c_EzSub, EzSub_ans, c_EzMust, EzMust_ans, q1, q2, t2, t3, t4, t5, t7, t8, t10, t11, t12, t13, t14, t6, c0, c1, c2, c3, c5, c6, c7, c8, c9, c10, zav_cells, nav_one, nav_clean, zav_fold])
          | refine wp_condT rfl ?_ | refine wp_condF rfl ?_)
        simp (disch := omega) only [kS, Nat.reduceEqDiff, reduceIte, Nat.reduceLT, Nat.reduceLeDiff, Nat.reduceAdd, Nat.reduceSub, Nat.reduceMul, Nat.reducePow, Nat.reduceDiv, Nat.reduceMod, evIndexAddr, TD.agg, evFieldAddr, binA_eqB ty4, binA_neB ty4, ty2, ty3, ty4, ty25, ty43, ty59, ty61, ty63, fn78, fn81, fn50, fn82, fn57, fn83, fn60, fn79, c_EzQuo, EzQuo_ans, c_EzSign, EzSign_ans, c_EzOf, EzOf_ans, c_EzNeg, EzNeg_ans, c_EzStep, EzStep_ans, c_EzAdd, EzAdd_ans, c_EzSub, EzSub_ans, c_EzMust, EzMust_ans, zav_fold, t2, t3, t4, t5, t7, t8, t10, t11, t12, t13, t14, t6, c0, c1, c2, c3, c5, c6, c7, c8, c9, c10, zav_cells, nav_one, nav_clean, zav_fold]
    · have q1 : ∀ h, EzSign.ans [zav s] h = some (.ret (.flat (.int .i64 1)), h) := fun h => by
        have := EzSign_ans s h (by omega)
        rwa [if_neg (by omega), if_neg s1] at this
      have q2 := fun h => EzQuo_ans r s h (by omega) (by omega) s1
      have q3 := fun h => EzStep_ans u (r / s) v h (by omega) (by have := hb.uv; omega)
      have q4 := fun h => EzStep_ans w (r / s) z h (by omega) (by have := hb.wz; omega)
      have hN := hC.next s1
      have hl := Int.emod_lt_of_pos r (show 0 < s by omega)
      have hl0 := Int.emod_nonneg r s1
      repeat (first
        | refine wp_seqQ ?_ | refine wp_blockQ ?_ | refine wp_scopeQ ?_
        | ((first | refine wp_skipQ ?_ | refine wp_labelQ ?_ | refine wp_exitQ ?_ | refine wp_retQ ?_); simp only [kQ, Nat.reduceEqDiff, reduceIte])
        | ((first | refine wp_dreg B (id := 3) [0, 0, 0, 0, 0, 0, 61, 127, 255] (by kernel_rfl) ?_ | refine wp_dreg B (id := 4) [0, 0, 3, 0, 0, 31, 63] (by kernel_rfl) ?_ | refine wp_dreg B (id := 7) [0, 0, 1, 7] (by kernel_rfl) ?_ | refine wp_dreg B (id := 8) [0, 0, 0, 0, 0, 30, 63, 127] (by kernel_rfl) ?_ | refine wp_dreg B (id := 9) [0, 0, 0, 0, 0, 30, 63, 127] (by kernel_rfl) ?_ | refine wp_dreg B (id := 11) [0, 0, 3, 7, 7, 31, 0, 0, 255, 511, 511, 2047, 4095, 8191] (by kernel_rfl) ?_ | refine wp_dreg B (id := 12) [0, 0, 1, 7] (by kernel_rfl) ?_ | refine wp_reg B ?_); simp (disch := omega) only [kW, kG, Nat.reduceEqDiff, reduceIte, Nat.reduceLT, Nat.reduceLeDiff, Nat.reduceAdd, Nat.reduceSub, Nat.reduceMul, Nat.reducePow, Nat.reduceDiv, Nat.reduceMod, evIndexAddr, TD.agg, evFieldAddr, binA_eqB ty4, binA_neB ty4, ty2, ty3, ty4, ty25, ty43, ty59, ty61, ty63, fn78, fn81, fn50, fn82, fn57, fn83, fn60, fn79, c_EzQuo, EzQuo_ans, c_EzSign, EzSign_ans, c_EzOf, EzOf_ans, c_EzNeg, EzNeg_ans, c_EzStep, EzStep_ans, c_EzAdd, EzAdd_ans, c_EzSub, EzSub_ans, c_EzMust, EzMust_ans, q1, q2, q3, q4, t2, t3, t4, t5, t7, t8, t10, t11, t12, t13, t14, t6, c0, c1, c2, c3, c5, c6, c7, c8, c9, c10, zav_cells, nav_one, nav_clean, zav_fold])
        | refine wp_condT rfl ?_ | refine wp_condF rfl ?_)
      refine ⟨(r % s).toNat, by omega, s, r % s, v, u - r / s * v, z, w - r / s * z, _, _, rfl, rfl, hN, by simp only []; omega, ?_⟩
      simp (disch := omega) only [upd_eq, upd_ne, and_true, Nat.reduceEqDiff, ne_eq, not_false_eq_true, t2, t3, t4, t5, t7, t8, t10, t11, t12, t13, t14, t6, c0, c1, c2, c3, c5, c6, c7, c8, c9, c10, zav_cells, nav_one, nav_clean, zav_fold]
noncomputable def EzCof : Entry Try.prog := ⟨59, fun args h e h' => h' = h ∧ ∃ (c m : Int), args = [zav c, zav m] ∧ (bl c.natAbs ≤ 1000) ∧ (bl m.natAbs ≤ 1000) ∧ (0 < m) ∧ (Int.gcd c m = 1) ∧ e = .ret (.tuple [zav (cofX c m), zav (cofY c m)]), by
  rintro args h e h' ⟨rfl, c, m, rfl, h1, h2, h3, h4, rfl⟩
  exact ⟨cof_sem c m h1 h2 h3 h4 _, Hp.Le.refl _⟩⟩
theorem EzCof_ans (c m : Int) (h : Hp) (h1 : bl c.natAbs ≤ 1000) (h2 : bl m.natAbs ≤ 1000) (h3 : 0 < m) (h4 : Int.gcd c m = 1) : EzCof.ans [zav c, zav m] h = some (.ret (.tuple [zav (cofX c m), zav (cofY c m)]), h) :=
  Entry.one ⟨rfl, c, m, rfl, h1, h2, h3, h4, rfl⟩ fun e h' ⟨hh, c', m', ha, _, _, _, _, he⟩ => by simp only [kI, nav_eq, zav_eq] at ha; obtain ⟨rfl, rfl⟩ := ha; exact ⟨he, hh⟩
theorem zGcd_sem0 (a : Int) (ha : bl a.natAbs ≤ 1000) (h : Hp) : SemCall Try.prog 49 [zav a, zav 0] h (.ret (.tuple [.agg [nav a.natAbs], zav (gX a 0), .agg [.flat (.bool false), nilA]])) h := by
  refine sem_pure tables.ok Try.func49 rfl rfl rfl rfl (by simp [pureL, zav_pure]) (by simp [AV.pure, pureL, zav_pure, nav_pure, nilA]) ?_ h
  have B : Base Try.prog tab _ := tabL_base [EzSign, EzOf] tables.ok mixed
  generalize hL : tabL [EzSign, EzOf] = call at B
  have c_EzSign : ∀ a h, call 57 a h = EzSign.ans a h := fun _ _ => hL ▸ rfl
  have c_EzOf : ∀ a h, call 50 a h = EzOf.ans a h := fun _ _ => hL ▸ rfl
  clear hL
  have k1 : ∀ h, EzSign.ans [zav 0] h = some (.ret (.flat (.int .i64 0)), h) := fun h => by
    have := EzSign_ans 0 h (by have := Dg.bl_zero.2 (show (0 : Int).natAbs = 0 from rfl); omega)
    rwa [if_neg (by omega), if_pos rfl] at this
  simp only [gX, if_true]
  obtain ⟨q, hq, hq0, hq1⟩ : ∃ q : Int, q = (if a < 0 then -1 else if a = 0 then 0 else 1) ∧ -1 ≤ q ∧ q ≤ 1 := ⟨_, rfl, by split <;> (try split) <;> omega, by split <;> (try split) <;> omega⟩
  have k2 : ∀ h, EzSign.ans [zav a] h = some (.ret (.flat (.int .i64 q)), h) := fun h => by
    have := EzSign_ans a h (by omega)
    rwa [← hq] at this
  rw [← hq]
  clear hq
  have k3 := fun h => EzOf_ans q h (by omega) (by omega)
  unfold Try.f49 bodyOf entry; simp only [Option.getD_some, List.length_cons, List.length_nil, Nat.reduceAdd, Nat.reduceSub]
  repeat (first
    | refine wp_seqQ ?_ | refine wp_blockQ ?_ | refine wp_scopeQ ?_
    | ((first | refine wp_skipQ ?_ | refine wp_labelQ ?_ | refine wp_exitQ ?_ | refine wp_retQ ?_); simp only [kQ, Nat.reduceEqDiff, reduceIte])
    | ((first | refine wp_dreg B (id := 2) [0, 1, 0, 4, 12, 0, 31, 95, 255] (by kernel_rfl) ?_ | refine wp_dreg B (id := 5) [0, 0, 3, 7, 7, 31, 0, 64, 255, 0, 1023, 2047, 2047, 8191, 16383, 32767, 65535, 65535, 131071, 524287] (by kernel_rfl) ?_ | refine wp_dreg B (id := 6) [0, 0, 0, 4, 0, 16, 60, 0, 128, 508, 1021, 2047, 4095] (by kernel_rfl) ?_ | refine wp_reg B ?_); simp (disch := omega) only [kW, kG, Nat.reduceEqDiff, reduceIte, Nat.reduceLT, Nat.reduceLeDiff, Nat.reduceAdd, Nat.reduceSub, Nat.reduceMul, Nat.reducePow, Nat.reduceDiv, Nat.reduceMod, evIndexAddr, TD.agg, evFieldAddr, binA_eqB ty4, binA_neB ty4, ty2, ty3, ty4, ty25, ty43, ty59, ty61, ty63, fn57, fn50, fn58, fn51, fn61, fn60, fn59, c_EzSign, EzSign_ans, c_EzOf, EzOf_ans, k1, k2, k3, zav_cells, nav_one, nav_clean, zav_fold])
    | refine wp_condT rfl ?_ | refine wp_condF rfl ?_)
  simp (disch := omega) only [kS, Nat.reduceEqDiff, reduceIte, Nat.reduceLT, Nat.reduceLeDiff, Nat.reduceAdd, Nat.reduceSub, Nat.reduceMul, Nat.reducePow, Nat.reduceDiv, Nat.reduceMod, evIndexAddr, TD.agg, evFieldAddr, binA_eqB ty4, binA_neB ty4, ty2, ty3, ty4, ty25, ty43, ty59, ty61, ty63, fn57, fn50, fn58, fn51, fn61, fn60, fn59, c_EzSign, EzSign_ans, c_EzOf, EzOf_ans, nilA, zav_fold]
theorem zGcd_sem1 (a b : Int) (la : bl a.natAbs ≤ 1000) (lb : bl b.natAbs ≤ 1000) (b0 : b ≠ 0) (h : Hp) : SemCall Try.prog 49 [zav a, zav b] h (.ret (.tuple [.agg [nav (Int.gcd a b)], zav (gX a b), zav (gY a b)])) h := by
  refine sem_pure tables.ok Try.func49 rfl rfl rfl rfl (by simp [pureL, zav_pure]) (by simp [AV.pure, pureL, zav_pure, nav_pure]) ?_ h
  have B : Base Try.prog tab _ := tabL_base [EzSign, EnGcd, EzMake, EzExact, EzMust, EzCof] tables.ok mixed
  generalize hL : tabL [EzSign, EnGcd, EzMake, EzExact, EzMust, EzCof] = call at B
  have c_EzSign : ∀ a h, call 57 a h = EzSign.ans a h := fun _ _ => hL ▸ rfl
  have c_EnGcd : ∀ a h, call 58 a h = EnGcd.ans a h := fun _ _ => hL ▸ rfl
  have c_EzMake : ∀ a h, call 51 a h = EzMake.ans a h := fun _ _ => hL ▸ rfl
  have c_EzExact : ∀ a h, call 61 a h = EzExact.ans a h := fun _ _ => hL ▸ rfl
  have c_EzMust : ∀ a h, call 60 a h = EzMust.ans a h := fun _ _ => hL ▸ rfl
  have c_EzCof : ∀ a h, call 59 a h = EzCof.ans a h := fun _ _ => hL ▸ rfl
  clear hL
  obtain ⟨q, hq, hq0⟩ : ∃ q : Int, q = (if b < 0 then -1 else if b = 0 then 0 else 1) ∧ q ≠ 0 := ⟨_, rfl, by split <;> (try split) <;> omega⟩
  have k1 : ∀ h, EzSign.ans [zav b] h = some (.ret (.flat (.int .i64 q)), h) := fun h => by
    have := EzSign_ans b h (by omega)
    rwa [← hq] at this
  have k2 : ∀ h, EnGcd.ans [.agg [zm a], .agg [zm b]] h = some (.ret (.agg [nav (Int.gcd a b)]), h) := fun h => EnGcd_ans a.natAbs b.natAbs h (by omega) (by omega)
  have k := GcdK.mk' a b b0
  obtain ⟨x0, x1, xe, yb⟩ := cof_ex k.m0 k.g1
  have gz : ((Int.gcd a b : Nat) : Int) ≠ 0 := by have := k.g0; omega
  have bg := Dg.bl_mono' k.lg
  have bc := Dg.bl_mono' k.lc
  have bm := Dg.bl_mono' k.lm
  have k3 : ∀ h, EzMake.ans [.flat (.bool false), .agg [nav (Int.gcd a b)]] h = some (.ret (zav ((Int.gcd a b : Nat) : Int)), h) := fun h => EzMake_ans false (Int.gcd a b) h (by omega)
  have k4 : ∀ h, EzMake.ans [.flat (.bool false), .agg [zm b]] h = some (.ret (zav (b.natAbs : Int)), h) := fun h => EzMake_ans false b.natAbs h (by omega)
  have k5 := fun h => EzExact_ans a ((Int.gcd a b : Nat) : Int) h (by omega) (by rw [Int.natAbs_natCast]; omega) gz k.da
  have k6 := fun h => EzExact_ans (b.natAbs : Int) ((Int.gcd a b : Nat) : Int) h (by rw [Int.natAbs_natCast]; omega) (by rw [Int.natAbs_natCast]; omega) gz k.db
  have k7 := fun h => EzCof_ans _ _ h (by omega : bl (a / ((Int.gcd a b : Nat) : Int)).natAbs ≤ 1000) (by omega : bl ((b.natAbs : Int) / ((Int.gcd a b : Nat) : Int)).natAbs ≤ 1000) k.m0 k.g1
  have by0 : bl (cofY (a / ((Int.gcd a b : Nat) : Int)) ((b.natAbs : Int) / ((Int.gcd a b : Nat) : Int))).natAbs ≤ 1001 := by
    have := Dg.bl_mono' yb
    have := Dg.bl_succ' (a / ((Int.gcd a b : Nat) : Int)).natAbs
    rw [Nat.add_comm] at this
    omega
  simp only [gX, gY, if_neg b0, sgn]
  generalize hc : a / ((Int.gcd a b : Nat) : Int) = c at *
  generalize hm : (b.natAbs : Int) / ((Int.gcd a b : Nat) : Int) = m at *
  generalize cofX c m = X at *
  generalize cofY c m = Y at *
  have k8 : ∀ h, EzMake.ans [.flat (.bool (!(decide (Y < 0) == decide (b < 0)))), .agg [zm Y]] h = some (.ret (zav (if b < 0 then -Y else Y)), h) := fun h => by
    have := EzMake_ans (!(decide (Y < 0) == decide (b < 0))) Y.natAbs h (by omega)
    rwa [show (if (!(decide (Y < 0) == decide (b < 0))) = true then -(Y.natAbs : Int) else (Y.natAbs : Int)) = (if b < 0 then -Y else Y) by by_cases h1 : Y < 0 <;> by_cases h2 : b < 0 <;> simp [h1, h2] <;> omega] at this
  clear xe x0 x1 yb hq
  unfold Try.f49 bodyOf entry; simp only [Option.getD_some, List.length_cons, List.length_nil, Nat.reduceAdd, Nat.reduceSub]
  repeat (first
    | refine wp_seqQ ?_ | refine wp_blockQ ?_ | refine wp_scopeQ ?_
    | ((first | refine wp_skipQ ?_ | refine wp_labelQ ?_ | refine wp_exitQ ?_ | refine wp_retQ ?_); simp only [kQ, Nat.reduceEqDiff, reduceIte])
    | ((first | refine wp_dreg B (id := 2) [0, 1, 0, 4, 12, 0, 31, 95, 255] (by kernel_rfl) ?_ | refine wp_dreg B (id := 5) [0, 0, 3, 7, 7, 31, 0, 64, 255, 0, 1023, 2047, 2047, 8191, 16383, 32767, 65535, 65535, 131071, 524287] (by kernel_rfl) ?_ | refine wp_dreg B (id := 6) [0, 0, 0, 4, 0, 16, 60, 0, 128, 508, 1021, 2047, 4095] (by kernel_rfl) ?_ | refine wp_reg B ?_); simp (disch := omega) only [kW, kG, Nat.reduceEqDiff, reduceIte, Nat.reduceLT, Nat.reduceLeDiff, Nat.reduceAdd, Nat.reduceSub, Nat.reduceMul, Nat.reducePow, Nat.reduceDiv, Nat.reduceMod, evIndexAddr, TD.agg, evFieldAddr, binA_eqB ty4, binA_neB ty4, ty2, ty3, ty4, ty25, ty43, ty59, ty61, ty63, fn57, fn50, fn58, fn51, fn61, fn60, fn59, c_EzSign, EzSign_ans, c_EnGcd, EnGcd_ans, c_EzMake, EzMake_ans, c_EzExact, EzExact_ans, c_EzMust, EzMust_ans, c_EzCof, EzCof_ans, k1, k2, k3, k4, k5, k6, k7, k8, zav_cells, nav_one, nav_clean, zav_fold])
    | refine wp_condT rfl ?_ | refine wp_condF rfl ?_)
  simp (disch := omega) only [kS, Nat.reduceEqDiff, reduceIte, Nat.reduceLT, Nat.reduceLeDiff, Nat.reduceAdd, Nat.reduceSub, Nat.reduceMul, Nat.reducePow, Nat.reduceDiv, Nat.reduceMod, evIndexAddr, TD.agg, evFieldAddr, binA_eqB ty4, binA_neB ty4, ty2, ty3, ty4, ty25, ty43, ty59, ty61, ty63, fn57, fn50, fn58, fn51, fn61, fn60, fn59, c_EzSign, EzSign_ans, c_EnGcd, EnGcd_ans, c_EzMake, EzMake_ans, c_EzExact, EzExact_ans, c_EzMust, EzMust_ans, c_EzCof, EzCof_ans, zav_fold]
theorem zero_rel (ρ : Ren) (x : Value) (h : (AV.agg [.flat (.bool false), nilA]).rel ρ x) : (zav 0).rel ρ x := by
  simp only [zav, AV.rel] at h ⊢
  obtain ⟨l, rfl, hl⟩ := h
  exact ⟨l, rfl, zero_weak ρ ρ l (Ren.le.refl _) (fun _ _ _ _ h => by cases h) hl⟩
theorem zGcd_sem (a b : Int) (la : bl a.natAbs ≤ 1000) (lb : bl b.natAbs ≤ 1000) (h : Hp) : SemCall Try.prog 49 [zav a, zav b] h (.ret (.tuple [.agg [nav (Int.gcd a b)], zav (gX a b), zav (gY a b)])) h := by
  by_cases b0 : b = 0
  · subst b0
    refine SemCall.weak (zGcd_sem0 a la h) fun ρ x hx => ?_
    simp only [AV.rel] at hx
    obtain ⟨l, rfl, hl⟩ := hx
    obtain ⟨V1, l1, rfl, h1, hl1⟩ := relL_cons.1 hl
    obtain ⟨V2, V3, rfl, h2, h3⟩ := relL2 hl1
    simp only [gY, if_true, Int.gcd_zero_right]
    exact rel_tuple3 h1 h2 (zero_rel ρ V3 h3)
  · exact zGcd_sem1 a b la lb b0 h
noncomputable def EzGcd : Entry Try.prog := ⟨49, fun args h e h' => h' = h ∧ ∃ (a b : Int), args = [zav a, zav b] ∧ (bl a.natAbs ≤ 1000) ∧ (bl b.natAbs ≤ 1000) ∧ e = .ret (.tuple [.agg [nav (Int.gcd a b)], zav (gX a b), zav (gY a b)]), by
  rintro args h e h' ⟨rfl, a, b, rfl, h1, h2, rfl⟩
  exact ⟨zGcd_sem a b h1 h2 _, Hp.Le.refl _⟩⟩
theorem EzGcd_ans (a b : Int) (h : Hp) (h1 : bl a.natAbs ≤ 1000) (h2 : bl b.natAbs ≤ 1000) : EzGcd.ans [zav a, zav b] h = some (.ret (.tuple [.agg [nav (Int.gcd a b)], zav (gX a b), zav (gY a b)]), h) :=
  Entry.one ⟨rfl, a, b, rfl, h1, h2, rfl⟩ fun e h' ⟨hh, a', b', ha, _, _, he⟩ => by simp only [kI, nav_eq, zav_eq] at ha; obtain ⟨rfl, rfl⟩ := ha; exact ⟨he, hh⟩
end Go.Proofs.Ytkgejfokdmdikaa.Iv
end
section
set_option maxHeartbeats 4000000
set_option linter.unusedVariables false
set_option linter.unusedSimpArgs false
set_option maxRecDepth 10000
namespace Go.Proofs.Ytkgejfokdmdikaa.Iv
open Go Go.Iv Go.RowKit Go.Proofs.Ytkgejfokdmdikaa.Nv
open Dg (bl)
theorem fwrap_u64 {z : Int} (h1 : 0 ≤ z) (h2 : z < 18446744073709551616) : fwrap .u64 z = z := by
  rw [fwrap_eq, IntKind.wrap_u64]; omega
theorem dcell_one (x : Nat) : AV.one (dcell x) = true := rfl
theorem dg0 : Dg.dg 0 = [] := Dg.dg_zero
theorem dg1 {n : Nat} (h0 : 0 < n) (h1 : n < 4294967296) : Dg.dg n = [n] := by
  rw [Dg.dg_pos (by omega), Nat.mod_eq_of_lt h1, Nat.div_eq_of_lt h1, dg0]
theorem dg2 {n : Nat} (h0 : 4294967296 ≤ n) (h1 : n < 18446744073709551616) : Dg.dg n = [n % 4294967296, n / 4294967296] := by
  rw [Dg.dg_pos (by omega), dg1 (by omega) (by omega)]
theorem or_words (a b : Nat) (ha : a < 4294967296) (hb : b < 4294967296) : iop .or .u64 ((b : Int) * 4294967296) (a : Int) = some (.int .u64 ((b * 4294967296 + a : Nat) : Int)) := by
  simp only [iop]
  congr 1
  congr 1
  rw [show ((b : Int) * 4294967296) = ((b * 4294967296 : Nat) : Int) by omega]
  rw [show IntKind.u64.bits = 64 from rfl, BitVec.ofInt_natCast, BitVec.ofInt_natCast, BitVec.toNat_or, BitVec.toNat_ofNat, BitVec.toNat_ofNat, Nat.mod_eq_of_lt (show b * 4294967296 < 2 ^ 64 by omega), Nat.mod_eq_of_lt (show a < 2 ^ 64 by omega)]
  have : b * 4294967296 ||| a = b * 4294967296 + a := by
    have := Nat.shiftLeft_add_eq_or_of_lt (i := 32) (b := a) (by omega) b
    rw [Nat.shiftLeft_eq] at this
    exact this.symm
  rw [this, ← fwrap_eq, fwrap_u64 (by omega) (by omega)]
theorem Uint64_sem (n : Nat) (hn : n < 18446744073709551616) (h : Hp) : SemCall Try.prog 64 [.agg [nav n]] h (.ret (.tuple [.flat (.int .u64 (n : Int)), .flat (.bool true)])) h := by
  refine sem_pure tables.ok Try.func64 rfl rfl rfl rfl (by simp [pureL, AV.pure, nav_pure]) rfl ?_ h
  have B := base0
  rcases (show n = 0 ∨ (0 < n ∧ n < 4294967296) ∨ 4294967296 ≤ n by omega) with rfl | ⟨h1, h2⟩ | h1
  · simp only [nav, dgs, dg0, List.map_nil, List.length_nil]
    unfold Try.f64 bodyOf entry; simp only [Option.getD_some, List.length_cons, List.length_nil, Nat.reduceAdd, Nat.reduceSub]
    repeat (first
      | refine wp_seqQ ?_ | refine wp_blockQ ?_ | refine wp_scopeQ ?_
      | ((first | refine wp_skipQ ?_ | refine wp_labelQ ?_ | refine wp_exitQ ?_ | refine wp_retQ ?_); simp only [kQ, Nat.reduceEqDiff, reduceIte])
      | ((first | refine wp_dreg B (id := 7) [0, 1, 3, 7, 15, 31, 0, 64, 192, 448, 960, 2047, 4095, 8191] (by kernel_rfl) ?_ | refine wp_reg B ?_); simp (disch := omega) only [kW, kG, Nat.reduceEqDiff, reduceIte, Nat.reduceLT, Nat.reduceLeDiff, Nat.reduceAdd, Nat.reduceSub, Nat.reduceMul, Nat.reducePow, Nat.reduceDiv, Nat.reduceMod, evIndexAddr, TD.agg, evFieldAddr, ty3, ty43, ty50, ty51, ty59, ty61])
      | refine wp_condT rfl ?_ | refine wp_condF rfl ?_)
    simp (disch := omega) only [kS, Nat.reduceEqDiff, reduceIte, Nat.reduceLT, Nat.reduceLeDiff, Nat.reduceAdd, Nat.reduceSub, Nat.reduceMul, Nat.reducePow, Nat.reduceDiv, Nat.reduceMod, evIndexAddr, TD.agg, evFieldAddr, ty3, ty43, ty50, ty51, ty59, ty61]
    rfl
  · simp only [nav, dgs, dg1 h1 h2, List.map_cons, List.map_nil, List.length_cons, List.length_nil]
    unfold Try.f64 bodyOf entry; simp only [Option.getD_some, List.length_cons, List.length_nil, Nat.reduceAdd, Nat.reduceSub]
    repeat (first
      | refine wp_seqQ ?_ | refine wp_blockQ ?_ | refine wp_scopeQ ?_
      | ((first | refine wp_skipQ ?_ | refine wp_labelQ ?_ | refine wp_exitQ ?_ | refine wp_retQ ?_); simp only [kQ, Nat.reduceEqDiff, reduceIte])
      | ((first | refine wp_dreg B (id := 7) [0, 1, 3, 7, 15, 31, 0, 64, 192, 448, 960, 2047, 4095, 8191] (by kernel_rfl) ?_ | refine wp_reg B ?_); simp (disch := omega) only [kW, kG, Nat.reduceEqDiff, reduceIte, Nat.reduceLT, Nat.reduceLeDiff, Nat.reduceAdd, Nat.reduceSub, Nat.reduceMul, Nat.reducePow, Nat.reduceDiv, Nat.reduceMod, evIndexAddr, TD.agg, evFieldAddr, ty3, ty43, ty50, ty51, ty59, ty61, dcell, dcell_one, fwrap_u64, inRange])
      | refine wp_condT rfl ?_ | refine wp_condF rfl ?_)
    simp (disch := omega) only [kS, Nat.reduceEqDiff, reduceIte, Nat.reduceLT, Nat.reduceLeDiff, Nat.reduceAdd, Nat.reduceSub, Nat.reduceMul, Nat.reducePow, Nat.reduceDiv, Nat.reduceMod, evIndexAddr, TD.agg, evFieldAddr, ty3, ty43, ty50, ty51, ty59, ty61]
  · simp only [nav, dgs, dg2 h1 hn, List.map_cons, List.map_nil, List.length_cons, List.length_nil]
    unfold Try.f64 bodyOf entry; simp only [Option.getD_some, List.length_cons, List.length_nil, Nat.reduceAdd, Nat.reduceSub]
    repeat (first
      | refine wp_seqQ ?_ | refine wp_blockQ ?_ | refine wp_scopeQ ?_
      | ((first | refine wp_skipQ ?_ | refine wp_labelQ ?_ | refine wp_exitQ ?_ | refine wp_retQ ?_); simp only [kQ, Nat.reduceEqDiff, reduceIte])
      | ((first | refine wp_dreg B (id := 7) [0, 1, 3, 7, 15, 31, 0, 64, 192, 448, 960, 2047, 4095, 8191] (by kernel_rfl) ?_ | refine wp_reg B ?_); simp (disch := omega) only [kW, kG, Nat.reduceEqDiff, reduceIte, Nat.reduceLT, Nat.reduceLeDiff, Nat.reduceAdd, Nat.reduceSub, Nat.reduceMul, Nat.reducePow, Nat.reduceDiv, Nat.reduceMod, evIndexAddr, TD.agg, evFieldAddr, ty3, ty43, ty50, ty51, ty59, ty61, dcell, dcell_one, fwrap_u64, inRange])
      | refine wp_condT rfl ?_ | refine wp_condF rfl ?_)
    simp (disch := omega) only [kS, Nat.reduceEqDiff, reduceIte, Nat.reduceLT, Nat.reduceLeDiff, Nat.reduceAdd, Nat.reduceSub, Nat.reduceMul, Nat.reducePow, Nat.reduceDiv, Nat.reduceMod, evIndexAddr, TD.agg, evFieldAddr, ty3, ty43, ty50, ty51, ty59, ty61]
    have hw := or_words (n % 4294967296) (n / 4294967296) (by omega) (by omega)
    simp only [iop, Option.some.injEq, Value.int.injEq, true_and] at hw
    have e1 : ((2 ^ (if Int.toNat 32 ≤ IntKind.u64.bits then Int.toNat 32 else IntKind.u64.bits) : Nat) : Int) = 4294967296 := rfl
    have e2 : n / 4294967296 < 4294967296 := by omega
    rw [e1, fwrap_u64 (by omega) (by omega), hw, show n / 4294967296 * 4294967296 + n % 4294967296 = n by omega]
noncomputable def EnU64 : Entry Try.prog := ⟨64, fun args h e h' => h' = h ∧ ∃ (n : Nat), args = [.agg [nav n]] ∧ (n < 18446744073709551616) ∧ e = .ret (.tuple [.flat (.int .u64 (n : Int)), .flat (.bool true)]), by
  rintro args h e h' ⟨rfl, n, rfl, h1, rfl⟩
  exact ⟨Uint64_sem n h1 _, Hp.Le.refl _⟩⟩
theorem EnU64_ans (n : Nat) (h : Hp) (h1 : n < 18446744073709551616) : EnU64.ans [.agg [nav n]] h = some (.ret (.tuple [.flat (.int .u64 (n : Int)), .flat (.bool true)]), h) :=
  Entry.one ⟨rfl, n, rfl, h1, rfl⟩ fun e h' ⟨hh, n', ha, _, he⟩ => by simp only [kI, nav_eq, zav_eq] at ha; subst ha; exact ⟨he, hh⟩
theorem Int64_sem (z : Int) (h1 : -9223372036854775808 < z) (h2 : z < 9223372036854775808) (h : Hp) : SemCall Try.prog 52 [zav z] h (.ret (.tuple [.flat (.int .i64 z), .flat (.bool true)])) h := by
  refine sem_pure tables.ok Try.func52 rfl rfl rfl rfl (by simp [pureL, zav_pure]) rfl ?_ h
  have B : Base Try.prog tab _ := tabL_base [EnU64] tables.ok mixed
  generalize hL : tabL [EnU64] = call at B
  have c_EnU64 : ∀ a h, call 64 a h = EnU64.ans a h := fun _ _ => hL ▸ rfl
  clear hL
  unfold Try.f52 bodyOf entry; simp only [Option.getD_some, List.length_cons, List.length_nil, Nat.reduceAdd, Nat.reduceSub]
  repeat (first
    | refine wp_seqQ ?_ | refine wp_blockQ ?_ | refine wp_scopeQ ?_
    | ((first | refine wp_skipQ ?_ | refine wp_labelQ ?_ | refine wp_exitQ ?_ | refine wp_retQ ?_); simp only [kQ, Nat.reduceEqDiff, reduceIte])
    | (refine wp_reg B ?_; simp (disch := omega) only [kW, Nat.reduceEqDiff, reduceIte, Nat.reduceLT, Nat.reduceLeDiff, Nat.reduceAdd, Nat.reduceSub, Nat.reduceMul, Nat.reducePow, Nat.reduceDiv, Nat.reduceMod, evIndexAddr, TD.agg, evFieldAddr, binA_eqB ty4, binA_neB ty4, ty2, ty4, ty43, ty50, ty59, ty61, ty63, fn64, c_EnU64, EnU64_ans, zav_cells, nav_one, nav_clean, zav_fold])
    | refine wp_condT rfl ?_ | refine wp_condF rfl ?_)
  refine wp_if (p := z < 0) rfl (fun hz => ?_) (fun hz => ?_)
  · have e1 : fwrap .i64 (fwrap .u64 (0 - (z.natAbs : Int))) = z := by
      rw [fwrap_eq, fwrap_eq, IntKind.wrap_u64, IntKind.wrap_i64]; omega
    repeat (first
      | refine wp_seqQ ?_ | refine wp_blockQ ?_ | refine wp_scopeQ ?_
      | ((first | refine wp_skipQ ?_ | refine wp_labelQ ?_ | refine wp_exitQ ?_ | refine wp_retQ ?_); simp only [kQ, Nat.reduceEqDiff, reduceIte])
      | (refine wp_reg B ?_; simp (disch := omega) only [kW, Nat.reduceEqDiff, reduceIte, Nat.reduceLT, Nat.reduceLeDiff, Nat.reduceAdd, Nat.reduceSub, Nat.reduceMul, Nat.reducePow, Nat.reduceDiv, Nat.reduceMod, evIndexAddr, TD.agg, evFieldAddr, binA_eqB ty4, binA_neB ty4, ty2, ty4, ty43, ty50, ty59, ty61, ty63, fn64, c_EnU64, EnU64_ans, e1])
      | refine wp_condT rfl ?_ | refine wp_condF rfl ?_)
    simp (disch := omega) only [kS, Nat.reduceEqDiff, reduceIte, Nat.reduceLT, Nat.reduceLeDiff, Nat.reduceAdd, Nat.reduceSub, Nat.reduceMul, Nat.reducePow, Nat.reduceDiv, Nat.reduceMod, evIndexAddr, TD.agg, evFieldAddr, binA_eqB ty4, binA_neB ty4, ty2, ty4, ty43, ty50, ty59, ty61, ty63, fn64, c_EnU64, EnU64_ans]
  · have e1 : (z.natAbs : Int) = z := by omega
    repeat (first
      | refine wp_seqQ ?_ | refine wp_blockQ ?_ | refine wp_scopeQ ?_
      | ((first | refine wp_skipQ ?_ | refine wp_labelQ ?_ | refine wp_exitQ ?_ | refine wp_retQ ?_); simp only [kQ, Nat.reduceEqDiff, reduceIte])
      | (refine wp_reg B ?_; simp (disch := omega) only [kW, Nat.reduceEqDiff, reduceIte, Nat.reduceLT, Nat.reduceLeDiff, Nat.reduceAdd, Nat.reduceSub, Nat.reduceMul, Nat.reducePow, Nat.reduceDiv, Nat.reduceMod, evIndexAddr, TD.agg, evFieldAddr, binA_eqB ty4, binA_neB ty4, ty2, ty4, ty43, ty50, ty59, ty61, ty63, fn64, c_EnU64, EnU64_ans, e1])
      | refine wp_condT rfl ?_ | refine wp_condF rfl ?_)
    simp (disch := omega) only [kS, Nat.reduceEqDiff, reduceIte, Nat.reduceLT, Nat.reduceLeDiff, Nat.reduceAdd, Nat.reduceSub, Nat.reduceMul, Nat.reducePow, Nat.reduceDiv, Nat.reduceMod, evIndexAddr, TD.agg, evFieldAddr, binA_eqB ty4, binA_neB ty4, ty2, ty4, ty43, ty50, ty59, ty61, ty63, fn64, c_EnU64, EnU64_ans]
noncomputable def EzInt64 : Entry Try.prog := ⟨52, fun args h e h' => h' = h ∧ ∃ (z : Int), args = [zav z] ∧ (-9223372036854775808 < z) ∧ (z < 9223372036854775808) ∧ e = .ret (.tuple [.flat (.int .i64 z), .flat (.bool true)]), by
  rintro args h e h' ⟨rfl, z, rfl, h1, h2, rfl⟩
  exact ⟨Int64_sem z h1 h2 _, Hp.Le.refl _⟩⟩
theorem EzInt64_ans (z : Int) (h : Hp) (h1 : -9223372036854775808 < z) (h2 : z < 9223372036854775808) : EzInt64.ans [zav z] h = some (.ret (.tuple [.flat (.int .i64 z), .flat (.bool true)]), h) :=
  Entry.one ⟨rfl, z, rfl, h1, h2, rfl⟩ fun e h' ⟨hh, z', ha, _, _, he⟩ => by simp only [kI, nav_eq, zav_eq] at ha; subst ha; exact ⟨he, hh⟩
def inR (a b : Int) : Prop := (-4611686018427387904 ≤ a ∧ a ≤ 4611686018427387904) ∧ -4611686018427387904 ≤ b ∧ b ≤ 4611686018427387904
open Classical in
noncomputable def gcdOut (a b : Int) : AV := if inR a b then .tuple [.flat (.int .i64 (Int.gcd a b : Nat)), .flat (.int .i64 (gX a b)), .flat (.int .i64 (gY a b))] else .tuple [.flat (.int .i64 0), .flat (.int .i64 0), .flat (.int .i64 0)]
theorem gcdOut_pure (a b : Int) : (gcdOut a b).pure = true := by
  unfold gcdOut; split <;> rfl
theorem Gcd_sem (a b : Int) (h : Hp) : SemCall Try.prog 32 [.flat (.int .i64 a), .flat (.int .i64 b)] h (.ret (gcdOut a b)) h := by
  refine sem_pure tables.ok Try.func32 rfl rfl rfl rfl rfl (gcdOut_pure a b) ?_ h
  have B : Base Try.prog tab _ := tabL_base [EzOf, EzGcd, EzMake, EzInt64] tables.ok mixed
  generalize hL : tabL [EzOf, EzGcd, EzMake, EzInt64] = call at B
  have c_EzOf : ∀ a h, call 50 a h = EzOf.ans a h := fun _ _ => hL ▸ rfl
  have c_EzGcd : ∀ a h, call 49 a h = EzGcd.ans a h := fun _ _ => hL ▸ rfl
  have c_EzMake : ∀ a h, call 51 a h = EzMake.ans a h := fun _ _ => hL ▸ rfl
  have c_EzInt64 : ∀ a h, call 52 a h = EzInt64.ans a h := fun _ _ => hL ▸ rfl
  clear hL
  by_cases hR : inR a b
  · rw [gcdOut, if_pos hR]
    unfold inR at hR
    obtain ⟨⟨r1, r2⟩, r3, r4⟩ := hR
    obtain ⟨g1, g2, g3⟩ := gcd_bd a b (by omega) (by omega)
    have b1 := bl63 (n := a.natAbs) (by omega)
    have b2 := bl63 (n := b.natAbs) (by omega)
    have b3 := bl63 (n := Int.gcd a b) (by omega)
    unfold Try.f32 bodyOf entry; simp only [Option.getD_some, List.length_cons, List.length_nil, Nat.reduceAdd, Nat.reduceSub]
    have k1 : ∀ h, EzMake.ans [.flat (.bool false), .agg [nav (Int.gcd a b)]] h = some (.ret (zav ((Int.gcd a b : Nat) : Int)), h) := fun h => EzMake_ans false (Int.gcd a b) h (by omega)
    repeat (first
      | refine wp_seqQ ?_ | refine wp_blockQ ?_ | refine wp_scopeQ ?_
      | ((first | refine wp_skipQ ?_ | refine wp_labelQ ?_ | refine wp_exitQ ?_ | refine wp_retQ ?_); simp only [kQ, Nat.reduceEqDiff, reduceIte])
      | (refine wp_reg B ?_; simp (disch := omega) only [kW, Nat.reduceEqDiff, reduceIte, Nat.reduceLT, Nat.reduceLeDiff, Nat.reduceAdd, Nat.reduceSub, Nat.reduceMul, Nat.reducePow, Nat.reduceDiv, Nat.reduceMod, evIndexAddr, TD.agg, evFieldAddr, binA_eqB ty4, binA_neB ty4, ty2, ty4, ty43, ty59, ty61, ty63, fn50, fn49, fn51, fn52, c_EzOf, EzOf_ans, c_EzGcd, EzGcd_ans, c_EzMake, EzMake_ans, c_EzInt64, EzInt64_ans, k1, zav_cells, nav_one, nav_clean, zav_fold])
      | refine wp_condT rfl ?_ | refine wp_condF rfl ?_)
    simp (disch := omega) only [kS, Nat.reduceEqDiff, reduceIte, Nat.reduceLT, Nat.reduceLeDiff, Nat.reduceAdd, Nat.reduceSub, Nat.reduceMul, Nat.reducePow, Nat.reduceDiv, Nat.reduceMod, evIndexAddr, TD.agg, evFieldAddr, binA_eqB ty4, binA_neB ty4, ty2, ty4, ty43, ty59, ty61, ty63, fn50, fn49, fn51, fn52, c_EzOf, EzOf_ans, c_EzGcd, EzGcd_ans, c_EzMake, EzMake_ans, c_EzInt64, EzInt64_ans]
  · rw [gcdOut, if_neg hR]
    unfold inR at hR
    unfold Try.f32 bodyOf entry; simp only [Option.getD_some, List.length_cons, List.length_nil, Nat.reduceAdd, Nat.reduceSub]
    by_cases hm : 4611686018427387904 < max a b
    · repeat (first
        | refine wp_seqQ ?_ | refine wp_blockQ ?_ | refine wp_scopeQ ?_
        | ((first | refine wp_skipQ ?_ | refine wp_labelQ ?_ | refine wp_exitQ ?_ | refine wp_retQ ?_); simp only [kQ, Nat.reduceEqDiff, reduceIte])
        | (refine wp_reg B ?_; simp (disch := omega) only [kW, Nat.reduceEqDiff, reduceIte, Nat.reduceLT, Nat.reduceLeDiff, Nat.reduceAdd, Nat.reduceSub, Nat.reduceMul, Nat.reducePow, Nat.reduceDiv, Nat.reduceMod, evIndexAddr, TD.agg, evFieldAddr, binA_eqB ty4, binA_neB ty4, ty2, ty4, ty43, ty59, ty61, ty63, fn50, fn49, fn51, fn52, c_EzOf, EzOf_ans, c_EzGcd, EzGcd_ans, c_EzMake, EzMake_ans, c_EzInt64, EzInt64_ans])
        | refine wp_condT rfl ?_ | refine wp_condF rfl ?_)
      simp (disch := omega) only [kS, Nat.reduceEqDiff, reduceIte, Nat.reduceLT, Nat.reduceLeDiff, Nat.reduceAdd, Nat.reduceSub, Nat.reduceMul, Nat.reducePow, Nat.reduceDiv, Nat.reduceMod, evIndexAddr, TD.agg, evFieldAddr, binA_eqB ty4, binA_neB ty4, ty2, ty4, ty43, ty59, ty61, ty63, fn50, fn49, fn51, fn52, c_EzOf, EzOf_ans, c_EzGcd, EzGcd_ans, c_EzMake, EzMake_ans, c_EzInt64, EzInt64_ans]
    · repeat (first
        | refine wp_seqQ ?_ | refine wp_blockQ ?_ | refine wp_scopeQ ?_
        | ((first | refine wp_skipQ ?_ | refine wp_labelQ ?_ | refine wp_exitQ ?_ | refine wp_retQ ?_); simp only [kQ, Nat.reduceEqDiff, reduceIte])
        | (refine wp_reg B ?_; simp (disch := omega) only [kW, Nat.reduceEqDiff, reduceIte, Nat.reduceLT, Nat.reduceLeDiff, Nat.reduceAdd, Nat.reduceSub, Nat.reduceMul, Nat.reducePow, Nat.reduceDiv, Nat.reduceMod, evIndexAddr, TD.agg, evFieldAddr, binA_eqB ty4, binA_neB ty4, ty2, ty4, ty43, ty59, ty61, ty63, fn50, fn49, fn51, fn52, c_EzOf, EzOf_ans, c_EzGcd, EzGcd_ans, c_EzMake, EzMake_ans, c_EzInt64, EzInt64_ans])
        | refine wp_condT rfl ?_ | refine wp_condF rfl ?_)
      simp (disch := omega) only [kS, Nat.reduceEqDiff, reduceIte, Nat.reduceLT, Nat.reduceLeDiff, Nat.reduceAdd, Nat.reduceSub, Nat.reduceMul, Nat.reducePow, Nat.reduceDiv, Nat.reduceMod, evIndexAddr, TD.agg, evFieldAddr, binA_eqB ty4, binA_neB ty4, ty2, ty4, ty43, ty59, ty61, ty63, fn50, fn49, fn51, fn52, c_EzOf, EzOf_ans, c_EzGcd, EzGcd_ans, c_EzMake, EzMake_ans, c_EzInt64, EzInt64_ans]
end Go.Proofs.Ytkgejfokdmdikaa.Iv
end
section
set_option maxHeartbeats 4000000
set_option linter.unusedVariables false
set_option linter.unusedSimpArgs false
set_option maxRecDepth 100000
namespace Go.Proofs.Ytkgejfokdmdikaa.Iv
open Go Go.Iv Go.RowKit Go.Proofs Go.Proofs.Ytkgejfokdmdikaa Go.Proofs.Ytkgejfokdmdikaa.Nv
open Go.Proofs.Ytkgejfokdmdikaa.Nt (isP kron)
theorem sem_flat {P : Program} {f : FuncId} {args : List Value} {v : Value} (k : ∀ w, Calls P f ⟨args⟩ w fun e w' => e = .returned v ∧ Below w.heap.size w w') (h : Hp) : SemCall P f (args.map .flat) h (.ret (.flat v)) h := by
  refine semcall_of fun D ρ w args' hr ha => ?_
  have e : args' = args := by
    clear k hr
    induction args generalizing args' with
    | nil => exact relL_nil.1 ha
    | cons x l ih =>
      obtain ⟨y, ys, rfl, h1, h2⟩ := relL_cons.1 ha
      simp only [AV.rel] at h1
      rw [ih ys h2, h1]
  subst e
  refine (k w).mono ?_
  rintro e w' ⟨rfl, hb⟩
  exact ⟨_, rfl, hb, fun ρ1 hr1 hle => ⟨ρ1, Step.refl hr1, rel_flat _⟩⟩
theorem sem_flat2 {P : Program} {f : FuncId} {args : List Value} {u v : Value} (k : ∀ w, Calls P f ⟨args⟩ w fun e w' => e = .returned (.tuple #[u, v]) ∧ Below w.heap.size w w') (h : Hp) : SemCall P f (args.map .flat) h (.ret (.tuple [.flat u, .flat v])) h := by
  refine semcall_of fun D ρ w args' hr ha => ?_
  have e : args' = args := by
    clear k hr
    induction args generalizing args' with
    | nil => exact relL_nil.1 ha
    | cons x l ih =>
      obtain ⟨y, ys, rfl, h1, h2⟩ := relL_cons.1 ha
      simp only [AV.rel] at h1
      rw [ih ys h2, h1]
  subst e
  refine (k w).mono ?_
  rintro e w' ⟨rfl, hb⟩
  exact ⟨_, rfl, hb, fun ρ1 hr1 hle => ⟨ρ1, Step.refl hr1, rel_tuple2 (rel_flat _) (rel_flat _)⟩⟩
theorem Kron_sem (a n : Int) (h1 : -9223372036854775808 ≤ a) (h2 : a ≤ 9223372036854775807) (h3 : -9223372036854775808 ≤ n) (h4 : n ≤ 9223372036854775807) (h : Hp) : SemCall Try.prog 12 [.flat (.int .i64 a), .flat (.int .i64 n)] h (.ret (.flat (.int .i64 (kron a n)))) h :=
  sem_flat (args := [.int .i64 a, .int .i64 n]) (fun w => (modular_Kronecker.calls a n _ w (if_pos ⟨⟨h1, h2⟩, h3, h4⟩)).mono fun e w' ⟨he, hd⟩ => ⟨he, hd.below⟩) h
theorem smod_sem (a m : Int) (h1 : 0 < m) (h2 : m ≤ 4611686018427387904) (h : Hp) : SemCall Try.prog 36 [.flat (.int .i64 a), .flat (.int .i64 m)] h (.ret (.flat (.int .i64 (a % m)))) h :=
  sem_flat (args := [.int .i64 a, .int .i64 m]) (fun w => (modular_mod.calls a m _ w (if_pos ⟨h1, h2⟩)).mono fun e w' ⟨he, hd⟩ => ⟨he, hd.below⟩) h
theorem stimes_sem (a b m : Int) (h1 : 0 ≤ a) (h2 : a < m) (h3 : 0 ≤ b) (h4 : b < m) (h5 : m ≤ 4611686018427387904) (h : Hp) : SemCall Try.prog 38 [.flat (.int .i64 a), .flat (.int .i64 b), .flat (.int .i64 m)] h (.ret (.flat (.int .i64 (a * b % m)))) h :=
  sem_flat (args := [.int .i64 a, .int .i64 b, .int .i64 m]) (fun w => (modular_times.calls a b m _ w (if_pos ⟨h1, h2, h3, h4, h5⟩)).mono fun e w' ⟨he, hd⟩ => ⟨he, hd.below⟩) h
theorem sto_sem (a n m : Int) (h1 : 0 ≤ n) (h2 : n ≤ 9223372036854775807) (h3 : 0 < m) (h4 : m ≤ 4611686018427387904) (h : Hp) : SemCall Try.prog 37 [.flat (.int .i64 a), .flat (.int .i64 n), .flat (.int .i64 m)] h (.ret (.flat (.int .i64 (a ^ n.toNat % m)))) h :=
  sem_flat (args := [.int .i64 a, .int .i64 n, .int .i64 m]) (fun w => (modular_to.calls a n m _ w (if_pos ⟨h1, h2, h3, h4⟩)).mono fun e w' ⟨he, hd⟩ => ⟨he, hd.below⟩) h
open Classical in
noncomputable def prB (p : Nat) : Bool := decide (isP p)
theorem prB_iff (p : Nat) : prB p = true ↔ isP p := by simp [prB]
theorem Prime_sem (p : Nat) (h1 : p ≤ 1099511627776) (h : Hp) : SemCall Try.prog 17 [.flat (.int .i64 (p : Int))] h (.ret (.tuple [.flat (.bool (prB p)), .flat (.int .i64 0)])) h := by
  refine sem_flat2 (args := [.int .i64 (p : Int)]) (fun w => ?_) h
  by_cases h2 : 2 ≤ p
  · obtain ⟨b, hb, e, _⟩ := Rt.prime_both p h2 h1
    obtain ⟨k, hk⟩ := Go.Proofs.YtkgejfokdmdikaaW.PrintWords.Ev.rounds e
    refine (PModularRoots.modular_Prime.calls k p _ _ w hk).mono fun e w' ⟨he, hd⟩ => ⟨?_, hd.below⟩
    rw [he]
    have : prB p = b := by
      cases b with
      | true => exact (prB_iff p).2 (hb.1 rfl)
      | false => exact Bool.eq_false_iff.2 fun k => by have := hb.2 ((prB_iff p).1 k); cases this
    rw [this]
  · refine (PModularRoots.modular_Prime.calls 0 p false 0 w ?_).mono fun e w' ⟨he, hd⟩ => ⟨?_, hd.below⟩
    · rw [PModularRoots.modular_Prime.f, if_neg (by omega), if_pos (by omega)]
    · rw [he, show prB p = false from Bool.eq_false_iff.2 fun k => h2 ((prB_iff p).1 k).1]
noncomputable def EkKron : Entry Try.prog := ⟨12, fun args h e h' => h' = h ∧ ∃ (a n : Int), args = [.flat (.int .i64 a), .flat (.int .i64 n)] ∧ (-9223372036854775808 ≤ a) ∧ (a ≤ 9223372036854775807) ∧ (-9223372036854775808 ≤ n) ∧ (n ≤ 9223372036854775807) ∧ e = .ret (.flat (.int .i64 (kron a n))), by
  rintro args h e h' ⟨rfl, a, n, rfl, h1, h2, h3, h4, rfl⟩
  exact ⟨Kron_sem a n h1 h2 h3 h4 _, Hp.Le.refl _⟩⟩
theorem EkKron_ans (a n : Int) (h : Hp) (h1 : -9223372036854775808 ≤ a) (h2 : a ≤ 9223372036854775807) (h3 : -9223372036854775808 ≤ n) (h4 : n ≤ 9223372036854775807) : EkKron.ans [.flat (.int .i64 a), .flat (.int .i64 n)] h = some (.ret (.flat (.int .i64 (kron a n))), h) :=
  Entry.one ⟨rfl, a, n, rfl, h1, h2, h3, h4, rfl⟩ fun e h' ⟨hh, a', n', ha, _, _, _, _, he⟩ => by simp only [kI, true_and] at ha; obtain ⟨rfl, rfl⟩ := ha; exact ⟨he, hh⟩
noncomputable def EkMod : Entry Try.prog := ⟨36, fun args h e h' => h' = h ∧ ∃ (a m : Int), args = [.flat (.int .i64 a), .flat (.int .i64 m)] ∧ (0 < m) ∧ (m ≤ 4611686018427387904) ∧ e = .ret (.flat (.int .i64 (a % m))), by
  rintro args h e h' ⟨rfl, a, m, rfl, h1, h2, rfl⟩
  exact ⟨smod_sem a m h1 h2 _, Hp.Le.refl _⟩⟩
theorem EkMod_ans (a m : Int) (h : Hp) (h1 : 0 < m) (h2 : m ≤ 4611686018427387904) : EkMod.ans [.flat (.int .i64 a), .flat (.int .i64 m)] h = some (.ret (.flat (.int .i64 (a % m))), h) :=
  Entry.one ⟨rfl, a, m, rfl, h1, h2, rfl⟩ fun e h' ⟨hh, a', m', ha, _, _, he⟩ => by simp only [kI, true_and] at ha; obtain ⟨rfl, rfl⟩ := ha; exact ⟨he, hh⟩
noncomputable def EkTimes : Entry Try.prog := ⟨38, fun args h e h' => h' = h ∧ ∃ (a b m : Int), args = [.flat (.int .i64 a), .flat (.int .i64 b), .flat (.int .i64 m)] ∧ (0 ≤ a) ∧ (a < m) ∧ (0 ≤ b) ∧ (b < m) ∧ (m ≤ 4611686018427387904) ∧ e = .ret (.flat (.int .i64 (a * b % m))), by
  rintro args h e h' ⟨rfl, a, b, m, rfl, h1, h2, h3, h4, h5, rfl⟩
  exact ⟨stimes_sem a b m h1 h2 h3 h4 h5 _, Hp.Le.refl _⟩⟩
theorem EkTimes_ans (a b m : Int) (h : Hp) (h1 : 0 ≤ a) (h2 : a < m) (h3 : 0 ≤ b) (h4 : b < m) (h5 : m ≤ 4611686018427387904) : EkTimes.ans [.flat (.int .i64 a), .flat (.int .i64 b), .flat (.int .i64 m)] h = some (.ret (.flat (.int .i64 (a * b % m))), h) :=
  Entry.one ⟨rfl, a, b, m, rfl, h1, h2, h3, h4, h5, rfl⟩ fun e h' ⟨hh, a', b', m', ha, _, _, _, _, _, he⟩ => by simp only [kI, true_and] at ha; obtain ⟨rfl, rfl, rfl⟩ := ha; exact ⟨he, hh⟩
noncomputable def EkTo : Entry Try.prog := ⟨37, fun args h e h' => h' = h ∧ ∃ (a n m : Int), args = [.flat (.int .i64 a), .flat (.int .i64 n), .flat (.int .i64 m)] ∧ (0 ≤ n) ∧ (n ≤ 9223372036854775807) ∧ (0 < m) ∧ (m ≤ 4611686018427387904) ∧ e = .ret (.flat (.int .i64 (a ^ n.toNat % m))), by
  rintro args h e h' ⟨rfl, a, n, m, rfl, h1, h2, h3, h4, rfl⟩
  exact ⟨sto_sem a n m h1 h2 h3 h4 _, Hp.Le.refl _⟩⟩
theorem EkTo_ans (a n m : Int) (h : Hp) (h1 : 0 ≤ n) (h2 : n ≤ 9223372036854775807) (h3 : 0 < m) (h4 : m ≤ 4611686018427387904) : EkTo.ans [.flat (.int .i64 a), .flat (.int .i64 n), .flat (.int .i64 m)] h = some (.ret (.flat (.int .i64 (a ^ n.toNat % m))), h) :=
  Entry.one ⟨rfl, a, n, m, rfl, h1, h2, h3, h4, rfl⟩ fun e h' ⟨hh, a', n', m', ha, _, _, _, _, he⟩ => by simp only [kI, true_and] at ha; obtain ⟨rfl, rfl, rfl⟩ := ha; exact ⟨he, hh⟩
noncomputable def EkPrime : Entry Try.prog := ⟨17, fun args h e h' => h' = h ∧ ∃ (p : Nat), args = [.flat (.int .i64 (p : Int))] ∧ (p ≤ 1099511627776) ∧ e = .ret (.tuple [.flat (.bool (prB p)), .flat (.int .i64 0)]), by
  rintro args h e h' ⟨rfl, p, rfl, h1, rfl⟩
  exact ⟨Prime_sem p h1 _, Hp.Le.refl _⟩⟩
theorem EkPrime_ans (p : Nat) (h : Hp) (h1 : p ≤ 1099511627776) : EkPrime.ans [.flat (.int .i64 (p : Int))] h = some (.ret (.tuple [.flat (.bool (prB p)), .flat (.int .i64 0)]), h) :=
  Entry.one ⟨rfl, p, rfl, h1, rfl⟩ fun e h' ⟨hh, p', ha, _, he⟩ => by simp only [kI, true_and] at ha; subst ha; exact ⟨he, hh⟩
theorem Mul_sem (a b m : Int) (h1 : 0 < m) (h2 : m ≤ 4611686018427387904) (h : Hp) : SemCall Try.prog 25 [.flat (.int .i64 a), .flat (.int .i64 b), .flat (.int .i64 m)] h (.ret (.tuple [.flat (.int .i64 (a * b % m)), .flat (.int .i64 0)])) h := by
  refine sem_pure tables.ok Try.func25 rfl rfl rfl rfl rfl rfl ?_ h
  have B : Base Try.prog tab _ := tabL_base [EkMod, EkTimes] tables.ok mixed
  generalize hL : tabL [EkMod, EkTimes] = call at B
  have c_EkMod : ∀ a h, call 36 a h = EkMod.ans a h := fun _ _ => hL ▸ rfl
  have c_EkTimes : ∀ a h, call 38 a h = EkTimes.ans a h := fun _ _ => hL ▸ rfl
  clear hL
  have k1 := fun h => EkTimes_ans (a % m) (b % m) m h (Int.emod_nonneg _ (by omega)) (Int.emod_lt_of_pos _ h1) (Int.emod_nonneg _ (by omega)) (Int.emod_lt_of_pos _ h1) h2
  rw [← Int.mul_emod] at k1
  unfold Try.f25 bodyOf entry; simp only [Option.getD_some, List.length_cons, List.length_nil, Nat.reduceAdd, Nat.reduceSub]
  repeat (first
    | refine wp_seqQ ?_ | refine wp_blockQ ?_ | refine wp_scopeQ ?_
    | ((first | refine wp_skipQ ?_ | refine wp_labelQ ?_ | refine wp_exitQ ?_ | refine wp_retQ ?_); simp only [kQ, Nat.reduceEqDiff, reduceIte])
    | (refine wp_reg B ?_; simp (disch := omega) only [kW, Nat.reduceEqDiff, reduceIte, Nat.reduceLT, Nat.reduceLeDiff, Nat.reduceAdd, Nat.reduceSub, Nat.reduceMul, Nat.reducePow, Nat.reduceDiv, Nat.reduceMod, evIndexAddr, TD.agg, evFieldAddr, ty2, fn36, fn38, c_EkMod, EkMod_ans, c_EkTimes, EkTimes_ans, k1])
    | refine wp_condT rfl ?_ | refine wp_condF rfl ?_)
  simp (disch := omega) only [kS, Nat.reduceEqDiff, reduceIte, Nat.reduceLT, Nat.reduceLeDiff, Nat.reduceAdd, Nat.reduceSub, Nat.reduceMul, Nat.reducePow, Nat.reduceDiv, Nat.reduceMod, evIndexAddr, TD.agg, evFieldAddr, ty2, fn36, fn38, c_EkMod, EkMod_ans, c_EkTimes, EkTimes_ans]
noncomputable def EkMul : Entry Try.prog := ⟨25, fun args h e h' => h' = h ∧ ∃ (a b m : Int), args = [.flat (.int .i64 a), .flat (.int .i64 b), .flat (.int .i64 m)] ∧ (0 < m) ∧ (m ≤ 4611686018427387904) ∧ e = .ret (.tuple [.flat (.int .i64 (a * b % m)), .flat (.int .i64 0)]), by
  rintro args h e h' ⟨rfl, a, b, m, rfl, h1, h2, rfl⟩
  exact ⟨Mul_sem a b m h1 h2 _, Hp.Le.refl _⟩⟩
theorem EkMul_ans (a b m : Int) (h : Hp) (h1 : 0 < m) (h2 : m ≤ 4611686018427387904) : EkMul.ans [.flat (.int .i64 a), .flat (.int .i64 b), .flat (.int .i64 m)] h = some (.ret (.tuple [.flat (.int .i64 (a * b % m)), .flat (.int .i64 0)]), h) :=
  Entry.one ⟨rfl, a, b, m, rfl, h1, h2, rfl⟩ fun e h' ⟨hh, a', b', m', ha, _, _, he⟩ => by simp only [kI, true_and] at ha; obtain ⟨rfl, rfl, rfl⟩ := ha; exact ⟨he, hh⟩
theorem Pow_sem (a n m : Int) (h1 : 0 ≤ n) (h2 : n ≤ 9223372036854775807) (h3 : 0 < m) (h4 : m ≤ 4611686018427387904) (h : Hp) : SemCall Try.prog 27 [.flat (.int .i64 a), .flat (.int .i64 n), .flat (.int .i64 m)] h (.ret (.tuple [.flat (.int .i64 (a ^ n.toNat % m)), .flat (.int .i64 0)])) h := by
  refine sem_pure tables.ok Try.func27 rfl rfl rfl rfl rfl rfl ?_ h
  have B : Base Try.prog tab _ := tabL_base [EkTo] tables.ok mixed
  generalize hL : tabL [EkTo] = call at B
  have c_EkTo : ∀ a h, call 37 a h = EkTo.ans a h := fun _ _ => hL ▸ rfl
  clear hL
  unfold Try.f27 bodyOf entry; simp only [Option.getD_some, List.length_cons, List.length_nil, Nat.reduceAdd, Nat.reduceSub]
  repeat (first
    | refine wp_seqQ ?_ | refine wp_blockQ ?_ | refine wp_scopeQ ?_
    | ((first | refine wp_skipQ ?_ | refine wp_labelQ ?_ | refine wp_exitQ ?_ | refine wp_retQ ?_); simp only [kQ, Nat.reduceEqDiff, reduceIte])
    | (refine wp_reg B ?_; simp (disch := omega) only [kW, Nat.reduceEqDiff, reduceIte, Nat.reduceLT, Nat.reduceLeDiff, Nat.reduceAdd, Nat.reduceSub, Nat.reduceMul, Nat.reducePow, Nat.reduceDiv, Nat.reduceMod, evIndexAddr, TD.agg, evFieldAddr, ty2, fn37, c_EkTo, EkTo_ans])
    | refine wp_condT rfl ?_ | refine wp_condF rfl ?_)
  simp (disch := omega) only [kS, Nat.reduceEqDiff, reduceIte, Nat.reduceLT, Nat.reduceLeDiff, Nat.reduceAdd, Nat.reduceSub, Nat.reduceMul, Nat.reducePow, Nat.reduceDiv, Nat.reduceMod, evIndexAddr, TD.agg, evFieldAddr, ty2, fn37, c_EkTo, EkTo_ans]
noncomputable def EkPow : Entry Try.prog := ⟨27, fun args h e h' => h' = h ∧ ∃ (a n m : Int), args = [.flat (.int .i64 a), .flat (.int .i64 n), .flat (.int .i64 m)] ∧ (0 ≤ n) ∧ (n ≤ 9223372036854775807) ∧ (0 < m) ∧ (m ≤ 4611686018427387904) ∧ e = .ret (.tuple [.flat (.int .i64 (a ^ n.toNat % m)), .flat (.int .i64 0)]), by
  rintro args h e h' ⟨rfl, a, n, m, rfl, h1, h2, h3, h4, rfl⟩
  exact ⟨Pow_sem a n m h1 h2 h3 h4 _, Hp.Le.refl _⟩⟩
theorem EkPow_ans (a n m : Int) (h : Hp) (h1 : 0 ≤ n) (h2 : n ≤ 9223372036854775807) (h3 : 0 < m) (h4 : m ≤ 4611686018427387904) : EkPow.ans [.flat (.int .i64 a), .flat (.int .i64 n), .flat (.int .i64 m)] h = some (.ret (.tuple [.flat (.int .i64 (a ^ n.toNat % m)), .flat (.int .i64 0)]), h) :=
  Entry.one ⟨rfl, a, n, m, rfl, h1, h2, h3, h4, rfl⟩ fun e h' ⟨hh, a', n', m', ha, _, _, _, _, he⟩ => by simp only [kI, true_and] at ha; obtain ⟨rfl, rfl, rfl⟩ := ha; exact ⟨he, hh⟩
def nearV (n most : Int) : Int := Int.tmod (Int.tmod n most + most) most + 1
theorem near_bd (n most : Int) (h : 0 < most) : 1 ≤ nearV n most ∧ nearV n most ≤ most := by
  have h1 := Int.lt_tmod_of_pos n h
  have h2 := Int.tmod_nonneg most (show 0 ≤ Int.tmod n most + most by omega)
  have h3 := Int.tmod_lt_of_pos (Int.tmod n most + most) h
  unfold nearV
  omega
theorem near_sem (n most : Int) (h1 : 0 < most) (h2 : most ≤ 2305843009213693952) (h : Hp) : SemCall Try.prog 24 [.flat (.int .i64 n), .flat (.int .i64 most)] h (.ret (.flat (.int .i64 (nearV n most)))) h := by
  refine sem_pure tables.ok Try.func24 rfl rfl rfl rfl rfl rfl ?_ h
  have B := base0
  have b1 := Int.lt_tmod_of_pos n h1
  have b2 := Int.tmod_lt_of_pos n h1
  have b3 := near_bd n most h1
  have e : Int.tmod (Int.tmod n most + most) most + 1 = nearV n most := rfl
  have b4 := Int.tmod_nonneg most (show 0 ≤ Int.tmod n most + most by omega)
  have b5 := Int.tmod_lt_of_pos (Int.tmod n most + most) h1
  unfold Try.f24 bodyOf entry; simp only [Option.getD_some, List.length_cons, List.length_nil, Nat.reduceAdd, Nat.reduceSub]
  repeat (first
    | refine wp_seqQ ?_ | refine wp_blockQ ?_ | refine wp_scopeQ ?_
    | ((first | refine wp_skipQ ?_ | refine wp_labelQ ?_ | refine wp_exitQ ?_ | refine wp_retQ ?_); simp only [kQ, Nat.reduceEqDiff, reduceIte])
    | (refine wp_reg B ?_; simp (disch := omega) only [kW, Nat.reduceEqDiff, reduceIte, Nat.reduceLT, Nat.reduceLeDiff, Nat.reduceAdd, Nat.reduceSub, Nat.reduceMul, Nat.reducePow, Nat.reduceDiv, Nat.reduceMod, evIndexAddr, TD.agg, evFieldAddr, ty2])
    | refine wp_condT rfl ?_ | refine wp_condF rfl ?_)
  simp (disch := omega) only [kS, Nat.reduceEqDiff, reduceIte, Nat.reduceLT, Nat.reduceLeDiff, Nat.reduceAdd, Nat.reduceSub, Nat.reduceMul, Nat.reducePow, Nat.reduceDiv, Nat.reduceMod, evIndexAddr, TD.agg, evFieldAddr, ty2, e]
noncomputable def EkNear : Entry Try.prog := ⟨24, fun args h e h' => h' = h ∧ ∃ (n most : Int), args = [.flat (.int .i64 n), .flat (.int .i64 most)] ∧ (0 < most) ∧ (most ≤ 2305843009213693952) ∧ e = .ret (.flat (.int .i64 (nearV n most))), by
  rintro args h e h' ⟨rfl, n, most, rfl, h1, h2, rfl⟩
  exact ⟨near_sem n most h1 h2 _, Hp.Le.refl _⟩⟩
theorem EkNear_ans (n most : Int) (h : Hp) (h1 : 0 < most) (h2 : most ≤ 2305843009213693952) : EkNear.ans [.flat (.int .i64 n), .flat (.int .i64 most)] h = some (.ret (.flat (.int .i64 (nearV n most))), h) :=
  Entry.one ⟨rfl, n, most, rfl, h1, h2, rfl⟩ fun e h' ⟨hh, n', most', ha, _, _, he⟩ => by simp only [kI, true_and] at ha; obtain ⟨rfl, rfl⟩ := ha; exact ⟨he, hh⟩
end Go.Proofs.Ytkgejfokdmdikaa.Iv
end
section
set_option maxHeartbeats 8000000
set_option linter.unusedVariables false
set_option linter.unusedSimpArgs false
set_option maxRecDepth 100000
namespace Go.Proofs.Ytkgejfokdmdikaa.Iv
open Go Go.Iv Go.RowKit Go.Proofs Go.Proofs.Ytkgejfokdmdikaa Go.Proofs.Ytkgejfokdmdikaa.Nv
open Go.Proofs.Ytkgejfokdmdikaa.Nt (isP kron)
theorem thenQ_mono {P : Program} {b : Code} {Q Q' : AExit → St → Prop} (h : ∀ e s, Q e s → Q' e s) {e : AExit} {s : St} (k : thenQ True P b Q e s) : thenQ True P b Q' e s := by
  cases e <;> simp only [thenQ] at k ⊢ <;> first | exact k.mono h | exact h _ _ k
theorem WP.cut {P : Program} {c b : Code} {s : St} {Q Q' : AExit → St → Prop} (k : WP True P c s (thenQ True P b Q)) (h : ∀ e s, Q e s → Q' e s) : WP True P c s (thenQ True P b Q') := k.mono fun _ _ => thenQ_mono h
open Classical in
noncomputable def rootV (a p : Int) : Int × Int := if hx : ∃ r : Int × Int, Times.Evl (fun k => PModularRoots.modular_Root.f k a p) r then Classical.choose hx else (0, 0)
theorem rootV_is {a p : Int} {r : Int × Int} (e : Times.Evl (fun k => PModularRoots.modular_Root.f k a p) r) : rootV a p = r := by
  have hx : ∃ r : Int × Int, Times.Evl (fun k => PModularRoots.modular_Root.f k a p) r := ⟨r, e⟩
  unfold rootV
  rw [dif_pos hx]
  obtain ⟨k0, h0⟩ := Classical.choose_spec hx
  obtain ⟨k1, h1⟩ := e
  have e0 := h0 (k0 + k1) (by omega)
  have e1 := h1 (k0 + k1) (by omega)
  simp only at e0 e1
  rw [e0] at e1
  exact Option.some.inj e1
theorem Root_sem (a p : Int) (hx : Times.Evl (fun k => PModularRoots.modular_Root.f k a p) (rootV a p)) (h : Hp) : SemCall Try.prog 15 [.flat (.int .i64 a), .flat (.int .i64 p)] h (.ret (.tuple [.flat (.int .i64 (rootV a p).1), .flat (.int .i64 (rootV a p).2)])) h := by
  refine sem_flat2 (args := [.int .i64 a, .int .i64 p]) (fun w => ?_) h
  obtain ⟨k, hk⟩ := Go.Proofs.YtkgejfokdmdikaaW.PrintWords.Ev.rounds hx
  exact PModularRoots.modular_Root.calls k a p _ _ w hk
noncomputable def EkRoot : Entry Try.prog := ⟨15, fun args h e h' => h' = h ∧ ∃ (a p : Int), args = [.flat (.int .i64 a), .flat (.int .i64 p)] ∧ (Times.Evl (fun k => PModularRoots.modular_Root.f k a p) (rootV a p)) ∧ e = .ret (.tuple [.flat (.int .i64 (rootV a p).1), .flat (.int .i64 (rootV a p).2)]), by
  rintro args h e h' ⟨rfl, a, p, rfl, h1, rfl⟩
  exact ⟨Root_sem a p h1 _, Hp.Le.refl _⟩⟩
theorem EkRoot_ans (a p : Int) (h : Hp) (h1 : Times.Evl (fun k => PModularRoots.modular_Root.f k a p) (rootV a p)) : EkRoot.ans [.flat (.int .i64 a), .flat (.int .i64 p)] h = some (.ret (.tuple [.flat (.int .i64 (rootV a p).1), .flat (.int .i64 (rootV a p).2)]), h) :=
  Entry.one ⟨rfl, a, p, rfl, h1, rfl⟩ fun e h' ⟨hh, a', p', ha, _, he⟩ => by simp only [kI, true_and] at ha; obtain ⟨rfl, rfl⟩ := ha; exact ⟨he, hh⟩
noncomputable def EkGcd : Entry Try.prog := ⟨32, fun args h e h' => h' = h ∧ ∃ (a b : Int), args = [.flat (.int .i64 a), .flat (.int .i64 b)] ∧ e = .ret (gcdOut a b), by
  rintro args h e h' ⟨rfl, a, b, rfl, rfl⟩
  exact ⟨Gcd_sem a b _, Hp.Le.refl _⟩⟩
theorem EkGcd_ans (a b : Int) (h : Hp)  : EkGcd.ans [.flat (.int .i64 a), .flat (.int .i64 b)] h = some (.ret (gcdOut a b), h) :=
  Entry.one ⟨rfl, a, b, rfl, rfl⟩ fun e h' ⟨hh, a', b', ha, he⟩ => by simp only [kI, true_and] at ha; obtain ⟨rfl, rfl⟩ := ha; exact ⟨he, hh⟩
theorem jac_bd (a n : Nat) : -1 ≤ Nt.jac a n ∧ Nt.jac a n ≤ 1 := by
  by_cases c : Nat.Coprime a n
  · rcases Nt.jac_pm c with h | h <;> rw [h] <;> omega
  · unfold Nt.jac
    rw [if_neg c]; omega
theorem tri {x y : Int} (h1 : -1 ≤ x ∧ x ≤ 1) (h2 : -1 ≤ y ∧ y ≤ 1) : -1 ≤ x * y ∧ x * y ≤ 1 := by
  rcases (show x = -1 ∨ x = 0 ∨ x = 1 by omega) with rfl | rfl | rfl <;> omega
theorem kronN_bd (a : Int) : ∀ (N n : Nat), n ≤ N → -1 ≤ Nt.kronN a n ∧ Nt.kronN a n ≤ 1
  | 0, n, h => by
    obtain rfl : n = 0 := by omega
    rw [Nt.kronN, if_neg (by omega)]; exact jac_bd _ _
  | N + 1, n, h => by
    by_cases h1 : n % 2 = 0 ∧ 0 < n
    · rw [Nt.kronN_even a n h1.1 h1.2]
      refine tri ?_ (kronN_bd a N (n / 2) (by omega))
      unfold Nt.two8
      split
      · omega
      · split <;> omega
    · rw [Nt.kronN, if_neg h1]; exact jac_bd _ _
theorem kron_bd (a n : Int) : -1 ≤ kron a n ∧ kron a n ≤ 1 := by
  unfold kron
  split
  · split <;> omega
  · refine tri ?_ (kronN_bd a _ _ (Nat.le_refl _))
    split <;> omega
theorem odd_of {p : Nat} (hp : isP p) (h : 2 < p) : p % 2 = 1 := by
  rcases Nat.mod_two_eq_zero_or_one p with e | e
  · rcases hp.2 2 (Nat.dvd_of_mod_eq_zero e) with k | k <;> omega
  · exact e
theorem wakes_run : (match evCall noSum tab (maskOf tabMasks) 1000000 200 14 [] Hp.empty with | some (.ret (.flat (.bool c)), _) => cond true c (!c) | _ => false) = true := by kernel_rfl
theorem wakes_sem (h : Hp) : SemCall Try.prog 14 [] h (.ret (.flat (.bool true))) h := by
  refine semcall_of fun D ρ w args' hr ha => ?_
  rw [relL_nil.1 ha]
  refine (closed_call tables mixed 1000000 200 14 true wakes_run w).mono ?_
  rintro e w' ⟨rfl, hb⟩
  exact ⟨_, rfl, hb, fun ρ1 hr1 hle => ⟨ρ1, Step.refl hr1, by simp [AV.rel]⟩⟩
noncomputable def EWk : Entry Try.prog := Entry.pure 14 (fun (x : Unit) => []) (fun _ => True) (fun _ => .flat (.bool true)) fun _ _ h => wakes_sem h
theorem EWk_ans (h : Hp) : EWk.ans [] h = some (.ret (.flat (.bool true)), h) := Entry.pure_ans (fun _ _ _ => rfl) () trivial h
theorem law_sem (a b m n : Int) (h : Hp) : SemCall Try.prog 11 [.flat (.int .i64 a), .flat (.int .i64 b), .flat (.int .i64 m), .flat (.int .i64 n)] h (.ret (.flat (.bool true))) h := by
  refine sem_pure tables.ok Try.func11 rfl rfl rfl rfl rfl rfl ?_ h
  have B : Base Try.prog tab _ := tabL_base [EWk, EkNear, EkKron, EkPrime, EkRoot, EkMul, EkPow, EkGcd] tables.ok mixed
  generalize hL : tabL [EWk, EkNear, EkKron, EkPrime, EkRoot, EkMul, EkPow, EkGcd] = call at B
  have c_EWk : ∀ a h, call 14 a h = EWk.ans a h := fun _ _ => hL ▸ rfl
  have c_EkNear : ∀ a h, call 24 a h = EkNear.ans a h := fun _ _ => hL ▸ rfl
  have c_EkKron : ∀ a h, call 12 a h = EkKron.ans a h := fun _ _ => hL ▸ rfl
  have c_EkPrime : ∀ a h, call 17 a h = EkPrime.ans a h := fun _ _ => hL ▸ rfl
  have c_EkRoot : ∀ a h, call 15 a h = EkRoot.ans a h := fun _ _ => hL ▸ rfl
  have c_EkMul : ∀ a h, call 25 a h = EkMul.ans a h := fun _ _ => hL ▸ rfl
  have c_EkPow : ∀ a h, call 27 a h = EkPow.ans a h := fun _ _ => hL ▸ rfl
  have c_EkGcd : ∀ a h, call 32 a h = EkGcd.ans a h := fun _ _ => hL ▸ rfl
  clear hL
  have n1 := fun h => EkNear_ans a 2147483648 h (by omega) (by omega)
  have n2 := fun h => EkNear_ans b 2147483648 h (by omega) (by omega)
  have n3 := fun h => EkNear_ans n 1099511627776 h (by omega) (by omega)
  have n4 := fun h => EkNear_ans m 16777216 h (by omega) (by omega)
  have n5 := fun h => EkNear_ans m 2305843009213693952 h (by omega) (by omega)
  have n6 := fun h => EkNear_ans n 2305843009213693952 h (by omega) (by omega)
  have d1 := near_bd a 2147483648 (by omega)
  have d2 := near_bd b 2147483648 (by omega)
  have d3 := near_bd n 1099511627776 (by omega)
  have d4 := near_bd m 16777216 (by omega)
  have d5 := near_bd m 2305843009213693952 (by omega)
  have d6 := near_bd n 2305843009213693952 (by omega)
  generalize nearV a 2147483648 = x1 at *
  generalize nearV b 2147483648 = x2 at *
  generalize nearV n 1099511627776 = K at *
  generalize nearV m 16777216 = P at *
  generalize nearV m 2305843009213693952 = U at *
  generalize nearV n 2305843009213693952 = V at *
  obtain ⟨A, hA⟩ : ∃ A, A = x1 - 1073741824 := ⟨_, rfl⟩
  obtain ⟨C, hC⟩ : ∃ C, C = x2 - 1073741824 := ⟨_, rfl⟩
  have A1 : -1073741824 ≤ A ∧ A ≤ 1073741824 := by omega
  have C1 : -1073741824 ≤ C ∧ C ≤ 1073741824 := by omega
  have AC : -1152921504606846976 ≤ A * C ∧ A * C ≤ 1152921504606846976 := by
    have e : (A * C).natAbs ≤ 1073741824 * 1073741824 := by
      rw [Int.natAbs_mul]
      exact Nat.mul_le_mul (by omega) (by omega)
    simp only [Nat.reduceMul] at e
    omega
  have km := Sy.kron_mul A C K (by omega)
  have kb := kron_bd (A * C) K
  have q1 := fun h => EkKron_ans (A * C) K h (by omega) (by omega) (by omega) (by omega)
  have q2 := fun h => EkKron_ans A K h (by omega) (by omega) (by omega) (by omega)
  have q3 := fun h => EkKron_ans C K h (by omega) (by omega) (by omega) (by omega)
  obtain ⟨p, rfl⟩ := Int.eq_ofNat_of_zero_le (show 0 ≤ P by omega)
  have q4 := fun h => EkPrime_ans p h (by omega)
  unfold Try.f11 bodyOf entry; simp only [Option.getD_some, List.length_cons, List.length_nil, Nat.reduceAdd, Nat.reduceSub]
  repeat (first
    | refine wp_seqQ ?_ | refine wp_blockQ ?_ | refine wp_scopeQ ?_
    | ((first | refine wp_skipQ ?_ | refine wp_labelQ ?_ | refine wp_exitQ ?_ | refine wp_retQ ?_); simp only [kQ, Nat.reduceEqDiff, reduceIte])
    | ((fail_if_success refine wp_reg (id := 10) B ?_); refine wp_reg B ?_; simp (disch := omega) only [kW, Nat.reduceEqDiff, reduceIte, Nat.reduceLT, Nat.reduceLeDiff, Nat.reduceAdd, Nat.reduceSub, Nat.reduceMul, Nat.reducePow, Nat.reduceDiv, Nat.reduceMod, evIndexAddr, TD.agg, evFieldAddr, binA_eqB ty4, binA_neB ty4, ty2, ty3, ty4, ty25, fn24, fn12, fn17, fn15, fn25, fn27, fn32, fn14, c_EWk, EWk_ans, c_EkNear, EkNear_ans, c_EkKron, EkKron_ans, c_EkPrime, EkPrime_ans, c_EkRoot, EkRoot_ans, c_EkMul, EkMul_ans, c_EkPow, EkPow_ans, c_EkGcd, EkGcd_ans, ← hA, ← hC, n1, n2, n3, n4, n5, n6, q1, q2, q3, q4, ← km])
    | refine wp_condT rfl ?_ | refine wp_condF rfl ?_)
  refine WP.cut (Q := fun e s' => e = .normal ∧ ∃ tm hh, s' = ⟨tm, 170, hh, []⟩ ∧ tm 2 = some (.flat (.int .i64 m)) ∧ tm 3 = some (.flat (.int .i64 n))) ?_ ?_
  · cases hp : prB p with
    | false =>
      repeat (first
        | refine wp_seqQ ?_ | refine wp_blockQ ?_ | refine wp_scopeQ ?_
        | ((first | refine wp_skipQ ?_ | refine wp_labelQ ?_ | refine wp_exitQ ?_ | refine wp_retQ ?_); simp only [kQ, Nat.reduceEqDiff, reduceIte])
        | (refine wp_reg B ?_; simp (disch := omega) only [kW, Nat.reduceEqDiff, reduceIte, Nat.reduceLT, Nat.reduceLeDiff, Nat.reduceAdd, Nat.reduceSub, Nat.reduceMul, Nat.reducePow, Nat.reduceDiv, Nat.reduceMod, evIndexAddr, TD.agg, evFieldAddr, binA_eqB ty4, binA_neB ty4, ty2, ty3, ty4, ty25, fn24, fn12, fn17, fn15, fn25, fn27, fn32, fn14, c_EWk, EWk_ans, c_EkNear, EkNear_ans, c_EkKron, EkKron_ans, c_EkPrime, EkPrime_ans, c_EkRoot, EkRoot_ans, c_EkMul, EkMul_ans, c_EkPow, EkPow_ans, c_EkGcd, EkGcd_ans, hp])
        | refine wp_condT rfl ?_ | refine wp_condF rfl ?_)
      first | exact ⟨rfl, _, _, rfl, rfl, rfl⟩ | exact ⟨_, _, rfl, rfl, rfl⟩
    | true =>
      by_cases h2 : 2 < p
      · have hP := (prB_iff p).1 hp
        obtain ⟨x, f, e, x0, x1', r1, r2, r3⟩ := Sy.root_tells hP (odd_of hP h2) (by omega) (by omega) A
        have er := rootV_is e
        have k1 := fun h => EkRoot_ans A (p : Int) h (by rw [er]; exact e)
        rw [er] at k1
        simp only at k1
        have k2 := fun h => EkKron_ans A (p : Int) h (by omega) (by omega) (by omega) (by omega)
        have k3 := fun h => EkMul_ans x x (p : Int) h (by omega) (by omega)
        have k4 := fun h => EkMul_ans A 1 (p : Int) h (by omega) (by omega)
        rw [Int.mul_one] at k4
        have k5 := fun h => EkPow_ans A ((p : Int) - 1) (p : Int) h (by omega) (by omega) (by omega) (by omega)
        have fm := Sy.fermat hP (odd_of hP h2) (by omega) (by omega) A
        rw [show ((p : Int) - 1).toNat = p - 1 by omega] at k5
        have td : Int.tdiv ((p : Int) - 1) 2 = ((p : Int) - 1) / 2 := Int.tdiv_eq_ediv_of_nonneg (by omega)
        have sb := kron_bd A (p : Int)
        have kkm := km
        clear km q1 q2 q3 kb AC er e hP
        generalize A ^ (p - 1) % (p : Int) = W at *
        generalize kron A (p : Int) = s at *
        by_cases f0 : f = 0
        · obtain ⟨r4, r5⟩ := r3 f0
          rw [r4] at k3
          generalize A % (p : Int) = Y at *
          by_cases x00 : x = 0
          · have s0 : s = 0 := r2.2 ⟨f0, x00⟩
            have w1 : ¬ W = 1 := fun e => fm.1 e s0
            subst f0
            clear r1 r2 r3 r4 fm
            repeat (first
              | refine wp_seqQ ?_ | refine wp_blockQ ?_ | refine wp_scopeQ ?_
              | ((first | refine wp_skipQ ?_ | refine wp_labelQ ?_ | refine wp_exitQ ?_ | refine wp_retQ ?_); simp only [kQ, Nat.reduceEqDiff, reduceIte])
              | (refine wp_reg B ?_; simp (disch := omega) only [kW, Nat.reduceEqDiff, reduceIte, Nat.reduceLT, Nat.reduceLeDiff, Nat.reduceAdd, Nat.reduceSub, Nat.reduceMul, Nat.reducePow, Nat.reduceDiv, Nat.reduceMod, evIndexAddr, TD.agg, evFieldAddr, binA_eqB ty4, binA_neB ty4, ty2, ty3, ty4, ty25, fn24, fn12, fn17, fn15, fn25, fn27, fn32, fn14, c_EWk, EWk_ans, c_EkNear, EkNear_ans, c_EkKron, EkKron_ans, c_EkPrime, EkPrime_ans, c_EkRoot, EkRoot_ans, c_EkMul, EkMul_ans, c_EkPow, EkPow_ans, c_EkGcd, EkGcd_ans, hp, k1, k2, k3, k4, k5, td])
              | refine wp_condT rfl ?_ | refine wp_condF rfl ?_)
            first | exact ⟨rfl, _, _, rfl, rfl, rfl⟩ | exact ⟨_, _, rfl, rfl, rfl⟩
          · have s0 : s = 1 := r1.2 ⟨f0, x00⟩
            have w1 : W = 1 := fm.2 (by omega)
            subst f0
            clear r1 r2 r3 r4 fm
            repeat (first
              | refine wp_seqQ ?_ | refine wp_blockQ ?_ | refine wp_scopeQ ?_
              | ((first | refine wp_skipQ ?_ | refine wp_labelQ ?_ | refine wp_exitQ ?_ | refine wp_retQ ?_); simp only [kQ, Nat.reduceEqDiff, reduceIte])
              | (refine wp_reg B ?_; simp (disch := omega) only [kW, Nat.reduceEqDiff, reduceIte, Nat.reduceLT, Nat.reduceLeDiff, Nat.reduceAdd, Nat.reduceSub, Nat.reduceMul, Nat.reducePow, Nat.reduceDiv, Nat.reduceMod, evIndexAddr, TD.agg, evFieldAddr, binA_eqB ty4, binA_neB ty4, ty2, ty3, ty4, ty25, fn24, fn12, fn17, fn15, fn25, fn27, fn32, fn14, c_EWk, EWk_ans, c_EkNear, EkNear_ans, c_EkKron, EkKron_ans, c_EkPrime, EkPrime_ans, c_EkRoot, EkRoot_ans, c_EkMul, EkMul_ans, c_EkPow, EkPow_ans, c_EkGcd, EkGcd_ans, hp, k1, k2, k3, k4, k5, td])
              | refine wp_condT rfl ?_ | refine wp_condF rfl ?_)
            first | exact ⟨rfl, _, _, rfl, rfl, rfl⟩ | exact ⟨_, _, rfl, rfl, rfl⟩
        · have s0 : ¬ s = 0 := fun e => f0 (r2.1 e).1
          have s1 : ¬ s = 1 := fun e => f0 (r1.1 e).1
          have w1 : W = 1 := fm.2 s0
          generalize A % (p : Int) = Y at *
          generalize x * x % (p : Int) = Z at *
          clear r1 r2 r3 fm
          repeat (first
            | refine wp_seqQ ?_ | refine wp_blockQ ?_ | refine wp_scopeQ ?_
            | ((first | refine wp_skipQ ?_ | refine wp_labelQ ?_ | refine wp_exitQ ?_ | refine wp_retQ ?_); simp only [kQ, Nat.reduceEqDiff, reduceIte])
            | (refine wp_reg B ?_; simp (disch := omega) only [kW, Nat.reduceEqDiff, reduceIte, Nat.reduceLT, Nat.reduceLeDiff, Nat.reduceAdd, Nat.reduceSub, Nat.reduceMul, Nat.reducePow, Nat.reduceDiv, Nat.reduceMod, evIndexAddr, TD.agg, evFieldAddr, binA_eqB ty4, binA_neB ty4, ty2, ty3, ty4, ty25, fn24, fn12, fn17, fn15, fn25, fn27, fn32, fn14, c_EWk, EWk_ans, c_EkNear, EkNear_ans, c_EkKron, EkKron_ans, c_EkPrime, EkPrime_ans, c_EkRoot, EkRoot_ans, c_EkMul, EkMul_ans, c_EkPow, EkPow_ans, c_EkGcd, EkGcd_ans, hp, k1, k2, k3, k4, k5, td])
            | refine wp_condT rfl ?_ | refine wp_condF rfl ?_)
          first | exact ⟨rfl, _, _, rfl, rfl, rfl⟩ | exact ⟨_, _, rfl, rfl, rfl⟩
      · repeat (first
          | refine wp_seqQ ?_ | refine wp_blockQ ?_ | refine wp_scopeQ ?_
          | ((first | refine wp_skipQ ?_ | refine wp_labelQ ?_ | refine wp_exitQ ?_ | refine wp_retQ ?_); simp only [kQ, Nat.reduceEqDiff, reduceIte])
          | (refine wp_reg B ?_; simp (disch := omega) only [kW, Nat.reduceEqDiff, reduceIte, Nat.reduceLT, Nat.reduceLeDiff, Nat.reduceAdd, Nat.reduceSub, Nat.reduceMul, Nat.reducePow, Nat.reduceDiv, Nat.reduceMod, evIndexAddr, TD.agg, evFieldAddr, binA_eqB ty4, binA_neB ty4, ty2, ty3, ty4, ty25, fn24, fn12, fn17, fn15, fn25, fn27, fn32, fn14, c_EWk, EWk_ans, c_EkNear, EkNear_ans, c_EkKron, EkKron_ans, c_EkPrime, EkPrime_ans, c_EkRoot, EkRoot_ans, c_EkMul, EkMul_ans, c_EkPow, EkPow_ans, c_EkGcd, EkGcd_ans, hp])
          | refine wp_condT rfl ?_ | refine wp_condF rfl ?_)
        first | exact ⟨rfl, _, _, rfl, rfl, rfl⟩ | exact ⟨_, _, rfl, rfl, rfl⟩
  · rintro e s' ⟨rfl, tm, hh, rfl, t2, t3⟩
    simp only [thenQ_normal]
    clear q1 q2 q3 q4 km kb AC A1 C1 hA hC n1 n2 n3 n4 d1 d2 d3 d4
    obtain ⟨u, hu⟩ := Int.eq_ofNat_of_zero_le (show 0 ≤ U * 2 - 1 by omega)
    obtain ⟨v, hv⟩ := Int.eq_ofNat_of_zero_le (show 0 ≤ V * 2 - 1 by omega)
    have g0 : gcdOut (u : Int) (v : Int) = .tuple [.flat (.int .i64 ((Nat.gcd u v : Nat) : Int)), .flat (.int .i64 (gX u v)), .flat (.int .i64 (gY u v))] := by
      unfold gcdOut
      rw [if_pos (by unfold inR; omega)]
      rfl
    have k1 := fun h => EkGcd_ans (u : Int) (v : Int) h
    rw [g0] at k1
    have k2 := fun h => EkKron_ans (u : Int) (v : Int) h (by omega) (by omega) (by omega) (by omega)
    have k3 := fun h => EkKron_ans (v : Int) (u : Int) h (by omega) (by omega) (by omega) (by omega)
    have tu : Int.tmod (u : Int) 4 = ((u % 4 : Nat) : Int) := by rw [Int.tmod_eq_emod_of_nonneg (by omega)]; omega
    have tv : Int.tmod (v : Int) 4 = ((v % 4 : Nat) : Int) := by rw [Int.tmod_eq_emod_of_nonneg (by omega)]; omega
    by_cases g : Nat.gcd u v = 1
    · have rc := Sy.kron_rec (u := u) (v := v) (by omega) (by omega) g
      generalize kron (u : Int) (v : Int) = s1 at *
      generalize kron (v : Int) (u : Int) = s2 at *
      by_cases u4 : u % 4 = 3
      · by_cases v4 : v % 4 = 3
        · rw [if_pos ⟨u4, v4⟩] at rc
          repeat (first
            | refine wp_seqQ ?_ | refine wp_blockQ ?_ | refine wp_scopeQ ?_
            | ((first | refine wp_skipQ ?_ | refine wp_labelQ ?_ | refine wp_exitQ ?_ | refine wp_retQ ?_); simp only [kQ, Nat.reduceEqDiff, reduceIte])
            | (refine wp_reg B ?_; simp (disch := omega) only [kW, Nat.reduceEqDiff, reduceIte, Nat.reduceLT, Nat.reduceLeDiff, Nat.reduceAdd, Nat.reduceSub, Nat.reduceMul, Nat.reducePow, Nat.reduceDiv, Nat.reduceMod, evIndexAddr, TD.agg, evFieldAddr, binA_eqB ty4, binA_neB ty4, ty2, ty3, ty4, ty25, fn24, fn12, fn17, fn15, fn25, fn27, fn32, fn14, c_EWk, EWk_ans, c_EkNear, EkNear_ans, c_EkKron, EkKron_ans, c_EkPrime, EkPrime_ans, c_EkRoot, EkRoot_ans, c_EkMul, EkMul_ans, c_EkPow, EkPow_ans, c_EkGcd, EkGcd_ans, t2, t3, n5, n6, hu, hv, k1, k2, k3, tu, tv, g, rc])
            | refine wp_condT rfl ?_ | refine wp_condF rfl ?_)
          simp (disch := omega) only [kS, Nat.reduceEqDiff, reduceIte, Nat.reduceLT, Nat.reduceLeDiff, Nat.reduceAdd, Nat.reduceSub, Nat.reduceMul, Nat.reducePow, Nat.reduceDiv, Nat.reduceMod, evIndexAddr, TD.agg, evFieldAddr, binA_eqB ty4, binA_neB ty4, ty2, ty3, ty4, ty25, fn24, fn12, fn17, fn15, fn25, fn27, fn32, fn14, c_EWk, EWk_ans, c_EkNear, EkNear_ans, c_EkKron, EkKron_ans, c_EkPrime, EkPrime_ans, c_EkRoot, EkRoot_ans, c_EkMul, EkMul_ans, c_EkPow, EkPow_ans, c_EkGcd, EkGcd_ans]
        · rw [if_neg (fun k => v4 k.2)] at rc
          repeat (first
            | refine wp_seqQ ?_ | refine wp_blockQ ?_ | refine wp_scopeQ ?_
            | ((first | refine wp_skipQ ?_ | refine wp_labelQ ?_ | refine wp_exitQ ?_ | refine wp_retQ ?_); simp only [kQ, Nat.reduceEqDiff, reduceIte])
            | (refine wp_reg B ?_; simp (disch := omega) only [kW, Nat.reduceEqDiff, reduceIte, Nat.reduceLT, Nat.reduceLeDiff, Nat.reduceAdd, Nat.reduceSub, Nat.reduceMul, Nat.reducePow, Nat.reduceDiv, Nat.reduceMod, evIndexAddr, TD.agg, evFieldAddr, binA_eqB ty4, binA_neB ty4, ty2, ty3, ty4, ty25, fn24, fn12, fn17, fn15, fn25, fn27, fn32, fn14, c_EWk, EWk_ans, c_EkNear, EkNear_ans, c_EkKron, EkKron_ans, c_EkPrime, EkPrime_ans, c_EkRoot, EkRoot_ans, c_EkMul, EkMul_ans, c_EkPow, EkPow_ans, c_EkGcd, EkGcd_ans, t2, t3, n5, n6, hu, hv, k1, k2, k3, tu, tv, g, rc])
            | refine wp_condT rfl ?_ | refine wp_condF rfl ?_)
          simp (disch := omega) only [kS, Nat.reduceEqDiff, reduceIte, Nat.reduceLT, Nat.reduceLeDiff, Nat.reduceAdd, Nat.reduceSub, Nat.reduceMul, Nat.reducePow, Nat.reduceDiv, Nat.reduceMod, evIndexAddr, TD.agg, evFieldAddr, binA_eqB ty4, binA_neB ty4, ty2, ty3, ty4, ty25, fn24, fn12, fn17, fn15, fn25, fn27, fn32, fn14, c_EWk, EWk_ans, c_EkNear, EkNear_ans, c_EkKron, EkKron_ans, c_EkPrime, EkPrime_ans, c_EkRoot, EkRoot_ans, c_EkMul, EkMul_ans, c_EkPow, EkPow_ans, c_EkGcd, EkGcd_ans]
      · rw [if_neg (fun k => u4 k.1)] at rc
        repeat (first
          | refine wp_seqQ ?_ | refine wp_blockQ ?_ | refine wp_scopeQ ?_
          | ((first | refine wp_skipQ ?_ | refine wp_labelQ ?_ | refine wp_exitQ ?_ | refine wp_retQ ?_); simp only [kQ, Nat.reduceEqDiff, reduceIte])
          | (refine wp_reg B ?_; simp (disch := omega) only [kW, Nat.reduceEqDiff, reduceIte, Nat.reduceLT, Nat.reduceLeDiff, Nat.reduceAdd, Nat.reduceSub, Nat.reduceMul, Nat.reducePow, Nat.reduceDiv, Nat.reduceMod, evIndexAddr, TD.agg, evFieldAddr, binA_eqB ty4, binA_neB ty4, ty2, ty3, ty4, ty25, fn24, fn12, fn17, fn15, fn25, fn27, fn32, fn14, c_EWk, EWk_ans, c_EkNear, EkNear_ans, c_EkKron, EkKron_ans, c_EkPrime, EkPrime_ans, c_EkRoot, EkRoot_ans, c_EkMul, EkMul_ans, c_EkPow, EkPow_ans, c_EkGcd, EkGcd_ans, t2, t3, n5, n6, hu, hv, k1, k2, k3, tu, tv, g, rc])
          | refine wp_condT rfl ?_ | refine wp_condF rfl ?_)
        simp (disch := omega) only [kS, Nat.reduceEqDiff, reduceIte, Nat.reduceLT, Nat.reduceLeDiff, Nat.reduceAdd, Nat.reduceSub, Nat.reduceMul, Nat.reducePow, Nat.reduceDiv, Nat.reduceMod, evIndexAddr, TD.agg, evFieldAddr, binA_eqB ty4, binA_neB ty4, ty2, ty3, ty4, ty25, fn24, fn12, fn17, fn15, fn25, fn27, fn32, fn14, c_EWk, EWk_ans, c_EkNear, EkNear_ans, c_EkKron, EkKron_ans, c_EkPrime, EkPrime_ans, c_EkRoot, EkRoot_ans, c_EkMul, EkMul_ans, c_EkPow, EkPow_ans, c_EkGcd, EkGcd_ans]
    · generalize Nat.gcd u v = G at *
      repeat (first
        | refine wp_seqQ ?_ | refine wp_blockQ ?_ | refine wp_scopeQ ?_
        | ((first | refine wp_skipQ ?_ | refine wp_labelQ ?_ | refine wp_exitQ ?_ | refine wp_retQ ?_); simp only [kQ, Nat.reduceEqDiff, reduceIte])
        | (refine wp_reg B ?_; simp (disch := omega) only [kW, Nat.reduceEqDiff, reduceIte, Nat.reduceLT, Nat.reduceLeDiff, Nat.reduceAdd, Nat.reduceSub, Nat.reduceMul, Nat.reducePow, Nat.reduceDiv, Nat.reduceMod, evIndexAddr, TD.agg, evFieldAddr, binA_eqB ty4, binA_neB ty4, ty2, ty3, ty4, ty25, fn24, fn12, fn17, fn15, fn25, fn27, fn32, fn14, c_EWk, EWk_ans, c_EkNear, EkNear_ans, c_EkKron, EkKron_ans, c_EkPrime, EkPrime_ans, c_EkRoot, EkRoot_ans, c_EkMul, EkMul_ans, c_EkPow, EkPow_ans, c_EkGcd, EkGcd_ans, t2, t3, n5, n6, hu, hv, k1])
        | refine wp_condT rfl ?_ | refine wp_condF rfl ?_)
      simp (disch := omega) only [kS, Nat.reduceEqDiff, reduceIte, Nat.reduceLT, Nat.reduceLeDiff, Nat.reduceAdd, Nat.reduceSub, Nat.reduceMul, Nat.reducePow, Nat.reduceDiv, Nat.reduceMod, evIndexAddr, TD.agg, evFieldAddr, binA_eqB ty4, binA_neB ty4, ty2, ty3, ty4, ty25, fn24, fn12, fn17, fn15, fn25, fn27, fn32, fn14, c_EWk, EWk_ans, c_EkNear, EkNear_ans, c_EkKron, EkKron_ans, c_EkPrime, EkPrime_ans, c_EkRoot, EkRoot_ans, c_EkMul, EkMul_ans, c_EkPow, EkPow_ans, c_EkGcd, EkGcd_ans]
theorem law_calls (a0 a1 a2 a3 : Int) (w : World) : Calls Try.prog 11 #[.int .i64 a0, .int .i64 a1, .int .i64 a2, .int .i64 a3] w fun e w' => e = .returned (.bool true) ∧ RowKit.Below w.heap.size w w' := by
  have k : Stood w (fun _ _ => False) := ⟨fun _ _ h => h.elim, fun _ _ h => h.elim⟩
  refine (k.call (args' := [.int .i64 a0, .int .i64 a1, .int .i64 a2, .int .i64 a3]) (law_sem a0 a1 a2 a3 Hp.empty) (relL_cons.2 ⟨_, _, rfl, rel_flat _, relL3mk (rel_flat _) (rel_flat _) (rel_flat _)⟩)).mono ?_
  rintro e w' ⟨v', ρ', rfl, hv, hb⟩
  simp only [AV.rel] at hv
  exact ⟨by rw [hv], hb⟩
end Go.Proofs.Ytkgejfokdmdikaa.Iv
end
