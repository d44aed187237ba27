/- IV, part 29: a function that only reads, called on blocks that are owned. -/
import Derived.Test.YtllocgmbjjoemaaQk
section
set_option linter.unusedVariables false
set_option linter.unusedSimpArgs false
namespace Go.Iv
open Go
theorem sem_read {P : Program} {f : FuncId} {args args1 : List AV} {u : Value} {h : Hp} (g : Nat → Option (List AV)) (hc : SemCall P f args1 Hp.empty (.ret (.flat u)) Hp.empty)
    (gone : ∀ i l, g i = some l → pureL l = true ∧ ∃ l0 e x, h.get i = some (.cells l0 e x) ∧ FzL g l0 l) (ha : FzL g args args1) (hp : pureL args1 = true) : SemCall P f args h (.ret (.flat u)) h := by
 refine semcall_of fun D ρ w args' hr ha' => ?_
 obtain ⟨R, hR⟩ : ∃ R : Addr → List AV → Prop, R = fun ad l => ρ.reg ad l ∨ ∃ i b n, g i = some l ∧ ρ i = some (b, n) ∧ ad = ⟨b, 0, none⟩ := ⟨_, rfl⟩
 have hle : Ren.le ρ ⟨ρ.f, R⟩ := ⟨fun _ _ h => h, fun ad l h => by rw [hR]; exact .inl h⟩
 have hreg : ∀ b b' n l, g b = some l → ρ b = some (b', n) → (⟨ρ.f, R⟩ : Ren).reg ⟨b', 0, none⟩ l := fun b b' n l h1 h2 => by show R _ _; rw [hR]; exact .inr ⟨b, b', n, h1, h2, rfl⟩
 have st : Stood w R := by
  refine ⟨fun ad l hl j x hx => ?_, fun ad l hl => ?_⟩
  ·rw [hR] at hl
   rcases hl with hl | ⟨i, b, n, hg, hi, rfl⟩
   ·have k := hr.reg ad l hl
    obtain ⟨y, h1, h2⟩ := k.cell j x hx
    exact ⟨y, h1, AV.rel_pure (ρ := ρ) (ρ' := ⟨fun _ => none, R⟩) (fun ad l h => hle.reg ad l h) x y (pureL_get k.pur hx) h2⟩
   ·obtain ⟨hpu, l0, e, x0, h2, h3⟩ := gone i l hg
    obtain ⟨p, r, h5, h6, h7, _⟩ := hr.cells h2 hi
    have h9 := h3 ρ ⟨ρ.f, R⟩ p hle hreg h7
    obtain ⟨v, hv1, hv2⟩ := relL_get j h9 hx
    exact ⟨v, cells_at (o := 0) h5 (by simpa using hv1), AV.rel_pure (ρ := ⟨ρ.f, R⟩) (ρ' := ⟨fun _ => none, R⟩) (fun ad l h => h) x v (pureL_get hpu hx) hv2⟩
  ·rw [hR] at hl
   rcases hl with hl | ⟨i, b, n, hg, hi, rfl⟩
   ·exact (hr.reg ad l hl).pur
   ·exact (gone i l hg).1
 have hargs : AV.relL ⟨fun _ => none, R⟩ args1 args' := AV.relL_pure (ρ := ⟨ρ.f, R⟩) (ρ' := ⟨fun _ => none, R⟩) (fun ad l h => h) _ _ hp (ha ρ ⟨ρ.f, R⟩ args' hle hreg ha')
 refine (st.call hc hargs).mono ?_
 rintro e w' ⟨v', ρ', rfl, hv, hb⟩
 simp only [AV.rel] at hv
 subst hv
 exact ⟨_, rfl, hb, fun ρ1 hr1 _ => ⟨ρ1, Step.refl hr1, by simp only [AV.rel]⟩⟩
theorem sem_heap {P : Program} {T : Tab} (hT : T.Ok P) {f : FuncId} {fn : Func} {c : Code} (hf : P.funcs[f]? = some fn) (hb : fn.body = some c) {args : List AV} {tm : Nat → Option AV} (htm : putArgs args 0 noTmp = some tm) {nt : Nat} (hnt : fn.ntmps = nt) {rs : List ResultVar} (hrs : fn.results.toList = rs)
    {h : Hp} {Q : AEnd → Hp → Prop} (hw : WP False P (bodyOf fn) (entry args nt h tm) (endQ T rs Q)) : ∃ e h', SemCall P f args h e h' ∧ Hp.Le h h' ∧ Q e h' := by
 subst hnt hrs
 have : bodyOf fn = c := by rw [bodyOf, hb]; rfl
 rw [this] at hw
 exact heap_call hT hf hb htm hw
theorem sem_still {P : Program} {T : Tab} (hT : T.Ok P) {f : FuncId} {fn : Func} {c : Code} (hf : P.funcs[f]? = some fn) (hb : fn.body = some c) {args : List AV} {tm : Nat → Option AV} (htm : putArgs args 0 noTmp = some tm) {nt : Nat} (hnt : fn.ntmps = nt) {rs : List ResultVar} (hrs : fn.results.toList = rs)
    {h : Hp} {v : AV} (hw : WP False P (bodyOf fn) (entry args nt h tm) (endQ T rs fun e h' => e = .ret v ∧ h' = h)) : SemCall P f args h (.ret v) h := by
 obtain ⟨e, h', k, _, rfl, rfl⟩ := sem_heap hT hf hb htm hnt hrs hw
 exact k
def Entry.heap {P : Program} (f : FuncId) (Q : List AV → Hp → AEnd → Hp → Prop) : Entry P :=
 ⟨f, fun args h e h' => SemCall P f args h e h' ∧ Hp.Le h h' ∧ Q args h e h', fun args h e h' k => ⟨k.1, k.2.1⟩⟩
theorem Entry.heap_ans {P : Program} {f : FuncId} {Q : List AV → Hp → AEnd → Hp → Prop} {args : List AV} {h : Hp} (k : ∃ e h', SemCall P f args h e h' ∧ Hp.Le h h' ∧ Q args h e h') : ∃ e h', (Entry.heap (P := P) f Q).ans args h = Option.some (e, h') ∧ Q args h e h' := by
 obtain ⟨e, h', h1, h2, h3⟩ := k
 obtain ⟨e2, h2', h4, h5⟩ := Entry.some (E := Entry.heap (P := P) f Q) (args := args) (h := h) (e := e) (h' := h') ⟨h1, h2, h3⟩
 exact ⟨e2, h2', h4, h5.2.2⟩
theorem WP.freeze {P : Program} {c : Code} {tm : Nat → Option AV} {n : Nat} {h : Hp} {ds : List ADef} {Q : AExit → St → Prop} (t : Nat) (g : Nat → Option (List AV)) {x x' : AV} (ht : tm t = some x) (hx : Fz g x x')
    (gone : ∀ i l, g i = some l → pureL l = true ∧ ∃ l0 e b, h.m i = some (.cells l0 e b) ∧ FzL g l0 l) (k : WP True P c ⟨upd tm t (some x'), n, ⟨h.next, h.low, fun _ => none⟩, ds⟩ Q) : WP True P c ⟨tm, n, h, ds⟩ Q := by
 refine WP.view0 (s1 := ⟨upd tm t (some x'), n, ⟨h.next, h.low, fun _ => none⟩, ds⟩) (Freeze.view (g := g) ⟨rfl, rfl, rfl, fun u => ?_, fun i o1 ho => by simp [Hp.get] at ho, gone⟩) k
 simp only [St.slot]
 by_cases e : u = t
 ·subst e
  rw [ht, upd_eq]; exact hx
 ·rw [upd_ne _ _ e]; exact Fz.refl _ _
theorem rows_freeze {h : Hp} {m z n B : Nat} {ρ : Nat → Nat} {L : Nat → List AV} {rw_ : Nat → AV} {v : AV} {tr te : TypeId} {xt xr : Bool} (top : h.m B = some (.cells ((List.range m).map rw_) tr xt)) (row : ∀ i, i < m → h.m (ρ i) = some (.cells (L i) te xr))
    (pur : ∀ i, i < m → pureL (L i) = true) (inj : ∀ i j, i < m → j < m → ρ i = ρ j → i = j) (ne : ∀ i, i < m → ρ i ≠ B) (hrow : ∀ g i, i < m → g (ρ i) = some (L i) → Fz g (rw_ i) (.isl (L i) z 0 n)) (hout : ∀ g l, g B = some l → l.length = m → Fz g v (.isl l 1 0 m)) :
    ∃ g, Fz g v (.isl ((List.range m).map fun i => .isl (L i) z 0 n) 1 0 m) ∧ ∀ i l, g i = some l → pureL l = true ∧ ∃ l0 e b, h.m i = some (.cells l0 e b) ∧ FzL g l0 l := by
 obtain ⟨g, hg⟩ : ∃ g : Nat → Option (List AV), g = fun b => if b = B then some ((List.range m).map fun i => AV.isl (L i) z 0 n) else ((List.range m).find? fun i => decide (ρ i = b)).map L := ⟨_, rfl⟩
 have gB : g B = some ((List.range m).map fun i => AV.isl (L i) z 0 n) := by rw [hg]; simp
 have find : ∀ i, i < m → (List.range m).find? (fun j => decide (ρ j = ρ i)) = some i := fun i hi => by
  cases hf : (List.range m).find? (fun j => decide (ρ j = ρ i)) with
  | none =>
   have := List.find?_eq_none.1 hf i (List.mem_range.2 hi)
   simp at this
  | some j =>
   have h1 := List.mem_of_find?_eq_some hf
   have h2 := List.find?_some hf
   rw [inj j i (List.mem_range.1 h1) hi (of_decide_eq_true h2)]
 have gR : ∀ i, i < m → g (ρ i) = some (L i) := fun i hi => by
  rw [hg]
  simp only [if_neg (ne i hi), find i hi, Option.map_some]
 refine ⟨g, hout g _ gB (by simp), fun b l hb => ?_⟩
 by_cases e : b = B
 ·subst e
  rw [gB] at hb
  simp only [Option.some.injEq] at hb
  subst hb
  refine ⟨pureL_mapm _ fun i hi => ?_, _, tr, xt, top, FzL.map _ fun i hi => ?_⟩
  ·simp only [AV.pure]; exact pur i (List.mem_range.1 hi)
  ·exact hrow g i (List.mem_range.1 hi) (gR i (List.mem_range.1 hi))
 ·rw [hg] at hb
  simp only [if_neg e] at hb
  obtain ⟨i, hi, rfl⟩ := Option.map_eq_some_iff.1 hb
  have h1 := List.mem_range.1 (List.mem_of_find?_eq_some hi)
  have h2 := List.find?_some hi
  simp only [decide_eq_true_eq] at h2
  subst h2
  exact ⟨pur i h1, L i, te, xr, row i h1, FzL.refl _ _⟩
end Go.Iv
end
