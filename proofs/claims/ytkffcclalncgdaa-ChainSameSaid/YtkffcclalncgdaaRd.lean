/- IV, part 29: a function that only reads, called on blocks that are owned. IV, part 30: a range over a map whose rounds add up the same in whatever order. IV, part 31: the loop over a map. -/
import Derived.Test.YtkffcclalncgdaaRc
import Derived.Maps.RangeRun
section
set_option linter.unusedVariables false
set_option linter.unusedSimpArgs false
namespace Go.Iv
open Go
theorem sem_read {P : Program} {f : FuncId} {args args1 : List AV} {u : Value} {h : Hp} (g : Nat → Option (List AV)) (hc : SemCall P f args1 Hp.empty (.ret (.flat u)) Hp.empty)
    (gone : ∀ i l, g i = some l → pureL l = true ∧ ∃ l0 e x, h.get i = some (.cells l0 e x) ∧ FzL g l0 l) (ha : FzL g args args1) (hp : pureL args1 = true) : SemCall P f args h (.ret (.flat u)) h := by
 refine semcall_of fun D ρ w args' hr ha' => ?_
 obtain ⟨R, hR⟩ : ∃ R : Addr → List AV → Prop, R = fun ad l => ρ.reg ad l ∨ ∃ i b n, g i = some l ∧ ρ i = some (b, n) ∧ ad = ⟨b, 0, none⟩ := ⟨_, rfl⟩
 have hle : Ren.le ρ ⟨ρ.f, R⟩ := ⟨fun _ _ h => h, fun ad l h => by rw [hR]; exact .inl h⟩
 have hreg : ∀ b b' n l, g b = some l → ρ b = some (b', n) → (⟨ρ.f, R⟩ : Ren).reg ⟨b', 0, none⟩ l := fun b b' n l h1 h2 => by show R _ _; rw [hR]; exact .inr ⟨b, b', n, h1, h2, rfl⟩
 have st : Stood w R := by
  refine ⟨fun ad l hl j x hx => ?_, fun ad l hl => ?_⟩
  ·rw [hR] at hl
   rcases hl with hl | ⟨i, b, n, hg, hi, rfl⟩
   ·have k := hr.reg ad l hl
    obtain ⟨y, h1, h2⟩ := k.cell j x hx
    exact ⟨y, h1, AV.rel_pure (ρ := ρ) (ρ' := ⟨fun _ => none, R⟩) (fun ad l h => hle.reg ad l h) x y (pureL_get k.pur hx) h2⟩
   ·obtain ⟨hpu, l0, e, x0, h2, h3⟩ := gone i l hg
    obtain ⟨p, r, h5, h6, h7, _⟩ := hr.cells h2 hi
    have h9 := h3 ρ ⟨ρ.f, R⟩ p hle hreg h7
    obtain ⟨v, hv1, hv2⟩ := relL_get j h9 hx
    exact ⟨v, cells_at (o := 0) h5 (by simpa using hv1), AV.rel_pure (ρ := ⟨ρ.f, R⟩) (ρ' := ⟨fun _ => none, R⟩) (fun ad l h => h) x v (pureL_get hpu hx) hv2⟩
  ·rw [hR] at hl
   rcases hl with hl | ⟨i, b, n, hg, hi, rfl⟩
   ·exact (hr.reg ad l hl).pur
   ·exact (gone i l hg).1
 have hargs : AV.relL ⟨fun _ => none, R⟩ args1 args' := AV.relL_pure (ρ := ⟨ρ.f, R⟩) (ρ' := ⟨fun _ => none, R⟩) (fun ad l h => h) _ _ hp (ha ρ ⟨ρ.f, R⟩ args' hle hreg ha')
 refine (st.call hc hargs).mono ?_
 rintro e w' ⟨v', ρ', rfl, hv, hb⟩
 simp only [AV.rel] at hv
 subst hv
 exact ⟨_, rfl, hb, fun ρ1 hr1 _ => ⟨ρ1, Step.refl hr1, by simp only [AV.rel]⟩⟩
theorem sem_heap {P : Program} {T : Tab} (hT : T.Ok P) {f : FuncId} {fn : Func} {c : Code} (hf : P.funcs[f]? = some fn) (hb : fn.body = some c) {args : List AV} {tm : Nat → Option AV} (htm : putArgs args 0 noTmp = some tm) {nt : Nat} (hnt : fn.ntmps = nt) {rs : List ResultVar} (hrs : fn.results.toList = rs)
    {h : Hp} {Q : AEnd → Hp → Prop} (hw : WP False P (bodyOf fn) (entry args nt h tm) (endQ T rs Q)) : ∃ e h', SemCall P f args h e h' ∧ Hp.Le h h' ∧ Q e h' := by
 subst hnt hrs
 have : bodyOf fn = c := by rw [bodyOf, hb]; rfl
 rw [this] at hw
 exact heap_call hT hf hb htm hw
theorem sem_still {P : Program} {T : Tab} (hT : T.Ok P) {f : FuncId} {fn : Func} {c : Code} (hf : P.funcs[f]? = some fn) (hb : fn.body = some c) {args : List AV} {tm : Nat → Option AV} (htm : putArgs args 0 noTmp = some tm) {nt : Nat} (hnt : fn.ntmps = nt) {rs : List ResultVar} (hrs : fn.results.toList = rs)
    {h : Hp} {v : AV} (hw : WP False P (bodyOf fn) (entry args nt h tm) (endQ T rs fun e h' => e = .ret v ∧ h' = h)) : SemCall P f args h (.ret v) h := by
 obtain ⟨e, h', k, _, rfl, rfl⟩ := sem_heap hT hf hb htm hnt hrs hw
 exact k
def Entry.heap {P : Program} (f : FuncId) (Q : List AV → Hp → AEnd → Hp → Prop) : Entry P :=
 ⟨f, fun args h e h' => SemCall P f args h e h' ∧ Hp.Le h h' ∧ Q args h e h', fun args h e h' k => ⟨k.1, k.2.1⟩⟩
theorem WP.freeze {P : Program} {c : Code} {tm : Nat → Option AV} {n : Nat} {h : Hp} {ds : List ADef} {Q : AExit → St → Prop} (t : Nat) (g : Nat → Option (List AV)) {x x' : AV} (ht : tm t = some x) (hx : Fz g x x')
    (gone : ∀ i l, g i = some l → pureL l = true ∧ ∃ l0 e b, h.m i = some (.cells l0 e b) ∧ FzL g l0 l) (k : WP True P c ⟨upd tm t (some x'), n, ⟨h.next, h.low, fun _ => none⟩, ds⟩ Q) : WP True P c ⟨tm, n, h, ds⟩ Q := by
 refine WP.view0 (s1 := ⟨upd tm t (some x'), n, ⟨h.next, h.low, fun _ => none⟩, ds⟩) (Freeze.view (g := g) ⟨rfl, rfl, rfl, fun u => ?_, fun i o1 ho => by simp [Hp.get] at ho, gone⟩) k
 simp only [St.slot]
 by_cases e : u = t
 ·subst e
  rw [ht, upd_eq]; exact hx
 ·rw [upd_ne _ _ e]; exact Fz.refl _ _
end Go.Iv
end
section
set_option linter.unusedVariables false
set_option linter.unusedSimpArgs false
namespace Go.Iv
open Go
structure Weak (s s' : St) : Prop where
 tm : ∀ (t : Nat) (ρ : Ren) (v : Value), (s.slot t).rel ρ v → (s'.slot t).rel ρ v
 n : s'.n = s.n
 ds : s'.ds = s.ds
 next : s'.h.next = s.h.next
 obj : ∀ i o', s'.h.m i = some o' → ∃ o, s.h.m i = some o ∧ ∀ (ρ : Ren) (n : Nat) (x : Obj), o.rel ρ n x → o'.rel ρ n x
theorem Weak.gone {s s' : St} (k : Weak s s') {i : Nat} (h : s.h.m i = none) : s'.h.m i = none := by
 cases e : s'.h.m i with
 | none => rfl
 | some o' =>
  obtain ⟨o, h1, _⟩ := k.obj i o' e
  rw [h] at h1; cases h1
theorem Weak.ne {s s' : St} (k : Weak s s') {i : Nat} (h : s'.h.get i ≠ none) : s.h.get i ≠ none := fun e => h (k.gone e)
theorem Weak.hr {s s' : St} (k : Weak s s') {D : Nat → Prop} {ρ : Ren} {w : World} (r : HR D ρ s.h w) : HR D ρ s'.h w :=
 ⟨fun i b n o hρ hg => by
  obtain ⟨o0, h1, h2⟩ := k.obj i o hg
  obtain ⟨hd, o', h3, h4⟩ := r.obj i b n o0 hρ h1
  exact ⟨hd, o', h3, h2 ρ n o' h4⟩,
  fun i j b n m h1 h2 h3 h4 => r.inj i j b n m h1 h2 (k.ne h3) (k.ne h4),
  fun i hi => k.gone (r.born i (by rw [← k.next]; exact hi)), r.far,
  fun ad l hl => ⟨(r.reg ad l hl).cell, fun hne i n hρ => k.gone ((r.reg ad l hl).own hne i n hρ), (r.reg ad l hl).pur⟩⟩
theorem Weak.srel {s s' : St} (k : Weak s s') {D : Nat → Prop} {ρ : Ren} {a : Act} {w : World} (r : SRel D ρ s a w) : SRel D ρ s' a w :=
 ⟨fun t => k.tm t ρ _ (r.tm t), by rw [k.n]; exact r.sz, k.hr r.hr, by rw [k.ds]; exact r.ds⟩
theorem evOps_pre {P : Program} {T : Tab} (hT : T.Ok P) {call : CallF} (hc : CallOk P call) (hcl : CallLe call) {ops : Array Oper} : ∀ (rest : List Oper) (i : Nat) (s : St) (s' : St),
    (∀ j, j < rest.length → rest[j]? = ops.toList[i + j]?) → evOps call T ops.toList rest s = some (.normal, s') → ∀ (D : Nat → Prop) (ρ : Ren) (a : Act) (w : World) (Q : Exit → Act → World → Prop) (l : List Nat), SRel D ρ s a w → Free ρ s.h.next s'.h.next →
    (∀ ρ' a' w', Step D ρ s.h w ρ' s'.h w' → SRel D ρ' s' a' w' → wpOps P ops Q l a' w') → wpOps P ops Q (List.range' i rest.length ++ l) a w
 | [], i, s, s', _, k, D, ρ, a, w, Q, l, sr, fr, dn => by
  simp only [evOps, Option.some.injEq, Prod.mk.injEq, true_and] at k
  subst k
  exact dn ρ a w (Step.refl sr.hr) sr
 | o :: rest, i, s, s', hr, k, D, ρ, a, w, Q, l, sr, fr, dn => by
  have ho : ops[i]? = some o := by
   have := hr 0 (by simp)
   simp only [List.getElem?_cons_zero, Nat.add_zero] at this
   rw [← Array.getElem?_toList]
   exact this.symm
  have hr' : ∀ j, j < rest.length → rest[j]? = ops.toList[(i + 1) + j]? := fun j hj => by
   have := hr (j + 1) (by simp; omega)
   simp only [List.getElem?_cons_succ] at this
   rw [this]
   congr 1
   omega
  simp only [List.length_cons, List.range'_succ, List.cons_append, wpOps, ho]
  have hwant : Region.wanted o (yielded ops a.tmps) = s.wanted ops.toList o := wanted_rel (ρ := ρ) fun j want _ oj d _ _ => sr.tm d
  simp only [evOps] at k
  rw [hwant]
  cases hw : s.wanted ops.toList o with
  | true =>
   simp only [hw, cond_true] at k
   rw [if_pos rfl]
   refine .inl ?_
   have he := sr.ev
   unfold Oper.wp
   split at k
   ·rename_i v h hop
    have hle : Hp.Le s.h h := evOp_le hop
    split at k
    ·rename_i s1 hp
     have hle2 := evOps_le hcl rest s1 .normal s' k
     rw [(St.put_h hp).1] at hle2
     have hs := evOp_sound hT sr.hr he hop
     obtain ⟨ρ', v', w', h1, h2, h3⟩ := hs (fr.mono hle2.next)
     rw [h1]
     have sr1 := sr.put h2 h3 hp
     exact evOps_pre hT hc hcl rest (i + 1) s1 s' hr' k D ρ' _ w' Q l sr1 (by rw [(St.put_h hp).1]; exact fr.step h2) (by rw [(St.put_h hp).1]; exact fun _ _ _ st' => dn _ _ _ (h2.trans st'))
    ·cases k
   ·rename_i h hop
    split at k
    ·rename_i s1 hp
     have hle2 := evOps_le hcl rest s1 .normal s' k
     rw [(St.put_h hp).1] at hle2
     have hs := evOp_sound hT sr.hr he hop
     obtain ⟨ρ', w', h1, h2⟩ := hs (fr.mono hle2.next)
     rw [h1]
     have sr1 := sr.put h2 (rel_undef ρ') hp
     exact evOps_pre hT hc hcl rest (i + 1) s1 s' hr' k D ρ' _ w' Q l sr1 (by rw [(St.put_h hp).1]; exact fr.step h2) (by rw [(St.put_h hp).1]; exact fun _ _ _ st' => dn _ _ _ (h2.trans st'))
    ·cases k
   ·rename_i h hop
    split at k
    ·rename_i s1 hp
     have hle2 := evOps_le hcl rest s1 .normal s' k
     rw [(St.put_h hp).1] at hle2
     have hs := evOp_sound hT sr.hr he hop
     obtain ⟨ρ', w', h1, h2⟩ := hs (fr.mono hle2.next)
     rw [h1]
     have sr1 := sr.put h2 (rel_undef ρ') hp
     exact evOps_pre hT hc hcl rest (i + 1) s1 s' hr' k D ρ' _ w' Q l sr1 (by rw [(St.put_h hp).1]; exact fr.step h2) (by rw [(St.put_h hp).1]; exact fun _ _ _ st' => dn _ _ _ (h2.trans st'))
    ·cases k
   ·rename_i f args hop
    obtain ⟨args', h1, h2⟩ := evOp_sound hT sr.hr he hop
    rw [h1]
    simp only [Oper.upon]
    split at k
    ·rename_i v h hcall
     have hle := hcl _ _ _ _ _ hcall
     split at k
     ·rename_i s1 hp
      have hle2 := evOps_le hcl rest s1 .normal s' k
      rw [(St.put_h hp).1] at hle2
      refine (hc _ _ _ _ _ hcall D ρ w args' sr.hr (fr.mono hle2.next) h2).mono ?_
      rintro e' w' ⟨ρ', hst, v', rfl, hv'⟩
      have sr1 := sr.put hst hv' hp
      exact evOps_pre hT hc hcl rest (i + 1) s1 s' hr' k D ρ' _ w' Q l sr1 (by rw [(St.put_h hp).1]; exact fr.step hst) (by rw [(St.put_h hp).1]; exact fun _ _ _ st' => dn _ _ _ (hst.trans st'))
     ·cases k
    ·simp at k
    ·cases k
   ·rename_i d hop
    obtain ⟨d', h1, h2⟩ := evOp_sound hT sr.hr he hop
    rw [h1]
    simp only [Oper.upon]
    split at k
    ·rename_i s1 hp
     have sr0 : SRel D ρ ⟨s.tm, s.n, s.h, d :: s.ds⟩ { a with defers := d' :: a.defers } w := ⟨sr.tm, sr.sz, sr.hr, d', a.defers, rfl, h2, sr.ds⟩
     have sr1 := sr0.put (Step.refl sr.hr) (rel_undef ρ) hp
     exact evOps_pre hT hc hcl rest (i + 1) s1 s' hr' k D ρ _ w Q l sr1 (by rw [(St.put_h hp).1]; exact fr) (by rw [(St.put_h hp).1]; exact dn)
    ·cases k
   ·simp at k
   ·cases k
  | false =>
   simp only [hw, cond_false] at k
   rw [if_neg (by simp)]
   split at k
   ·rename_i s1 hp
    have sr1 := sr.put (Step.refl sr.hr) (rel_undef ρ) hp
    exact evOps_pre hT hc hcl rest (i + 1) s1 s' hr' k D ρ _ w Q l sr1 (by rw [(St.put_h hp).1]; exact fr) (by rw [(St.put_h hp).1]; exact dn)
   ·cases k
def Hp.drop (h : Hp) (r : Nat) : Hp := ⟨h.next, h.low, upd h.m r none⟩
def Ex (D : Nat → Prop) (x y : Nat) : Nat → Prop := fun b => D b ∧ b ≠ x ∧ b ≠ y
theorem HR.drop {D : Nat → Prop} {ρ : Ren} {h : Hp} {w : World} (k : HR D ρ h w) {r x y n : Nat} (hr : ρ r = some (x, n)) (hl : h.get r ≠ none) (hx : x < w.heap.size) (hy : y < w.heap.size) (hu : ∀ i m, ρ i = some (y, m) → h.get i = none) : HR (Ex D x y) ρ (h.drop r) w := by
 have hg : ∀ i, (h.drop r).get i ≠ none → i ≠ r ∧ h.get i ≠ none := fun i hi => by
  by_cases e : i = r
  ·subst e; exact absurd (by show upd h.m i none i = none; rw [upd_get, if_pos rfl]) hi
  ·refine ⟨e, fun c => hi ?_⟩
   show upd h.m r none i = none
   rw [upd_get, if_neg e]; exact c
 have hg' : ∀ i o, (h.drop r).get i = some o → h.get i = some o := fun i o hi => by
  have hne := (hg i (by rw [hi]; simp)).1
  have : upd h.m r none i = some o := hi
  rwa [upd_get, if_neg hne] at this
 refine ⟨fun i b m o hρ hi => ?_, fun i j b m m' h1 h2 h3 h4 => k.inj i j b m m' h1 h2 (hg i h3).2 (hg j h4).2, fun i hi => ?_, fun b hb => ⟨k.far b hb, by omega, by omega⟩, fun ad l hl' => ⟨(k.reg ad l hl').cell, fun hne i m hρ => ?_, (k.reg ad l hl').pur⟩⟩
 ·obtain ⟨hd, o', h1, h2⟩ := k.obj i b m o hρ (hg' i o hi)
  have hne := hg i (by rw [hi]; simp)
  refine ⟨⟨hd, fun e => ?_, fun e => ?_⟩, o', h1, h2⟩
  ·subst e
   exact hne.1 (k.inj i r b m n hρ hr hne.2 hl)
  ·subst e
   exact hne.2 (hu i m hρ)
 ·show upd h.m r none i = none
  rw [upd_get]
  split
  ·rfl
  ·exact k.born i hi
 ·show upd h.m r none i = none
  rw [upd_get]
  split
  ·rfl
  ·exact (k.reg ad l hl').own hne i m hρ
theorem HR.undrop {D : Nat → Prop} {ρ : Ren} {h : Hp} {w : World} {x y r n : Nat} {o : AO} {o' : Obj} (k : HR (Ex D x y) ρ h w) (hD : ∀ b, w.heap.size ≤ b → D b) (hr : ρ r = some (x, n)) (hn : h.m r = none) (hlt : r < h.next) (hDx : D x) (hw : w.heap[x]? = some o') (ho : o.rel ρ n o') (hc : ∀ j, w.cell? ⟨x, j, none⟩ = none) :
    HR D ρ ⟨h.next, h.low, upd h.m r (some o)⟩ w := by
 have hg : ∀ i, i ≠ r → (⟨h.next, h.low, upd h.m r (some o)⟩ : Hp).get i = h.m i := fun i hi => by
  show upd h.m r (some o) i = _
  rw [upd_get, if_neg hi]
 have hgr : (⟨h.next, h.low, upd h.m r (some o)⟩ : Hp).get r = some o := by
  show upd h.m r (some o) r = _
  rw [upd_get, if_pos rfl]
 refine ⟨fun i b m u hρ hi => ?_, fun i j b m m' h1 h2 h3 h4 => ?_, fun i hi => ?_, hD, fun ad l hl => ⟨(k.reg ad l hl).cell, fun hne i m hρ => ?_, (k.reg ad l hl).pur⟩⟩
 ·by_cases e : i = r
  ·subst e
   rw [hgr] at hi
   rw [hr] at hρ
   simp only [Option.some.injEq, Prod.mk.injEq] at hi hρ
   obtain ⟨rfl, rfl⟩ := hρ
   subst hi
   exact ⟨hDx, o', hw, ho⟩
  ·rw [hg i e] at hi
   obtain ⟨hd, o2, h1, h2⟩ := k.obj i b m u hρ hi
   exact ⟨hd.1, o2, h1, h2⟩
 ·by_cases e : i = r
  ·by_cases e' : j = r
   ·rw [e, e']
   ·subst e
    rw [hg j e'] at h4
    rw [hr] at h1
    simp only [Option.some.injEq, Prod.mk.injEq] at h1
    obtain ⟨rfl, rfl⟩ := h1
    cases c : h.m j with
    | none => exact absurd c h4
    | some u => exact absurd rfl (k.obj j x m' u h2 c).1.2.1
  ·by_cases e' : j = r
   ·subst e'
    rw [hg i e] at h3
    rw [hr] at h2
    simp only [Option.some.injEq, Prod.mk.injEq] at h2
    obtain ⟨rfl, rfl⟩ := h2
    cases c : h.m i with
    | none => exact absurd c h3
    | some u => exact absurd rfl (k.obj i x m u h1 c).1.2.1
   ·rw [hg i e] at h3
    rw [hg j e'] at h4
    exact k.inj i j b m m' h1 h2 h3 h4
 ·rw [hg i (by have : h.next ≤ i := hi; omega)]
  exact k.born i hi
 ·by_cases e : i = r
  ·subst e
   exfalso
   rw [hr] at hρ
   simp only [Option.some.injEq, Prod.mk.injEq] at hρ
   obtain ⟨h1, rfl⟩ := hρ
   cases l with
   | nil => exact hne rfl
   | cons z l =>
    obtain ⟨v, h2, _⟩ := (k.reg ad _ hl).cell 0 z rfl
    have h3 := World.block_lt_of_cell? w _ h2
    have : w.cell? (ad.add 0) = none := by
     have e2 : (ad.add 0).block = x := by rw [addr_add_block, ← h1]
     unfold World.cell?
     rw [e2, hw]
     have h4 := hc 0
     unfold World.cell? at h4
     simp only [hw] at h4
     cases o' <;> simp_all
    rw [this] at h2
    cases h2
  ·rw [hg i e]
   exact (k.reg ad l hl).own hne i m hρ
theorem GStep.unex {Fz : Prop} {D : Nat → Prop} {x y : Nat} {ρ ρ' : Ren} {h h' g g' : Hp} {w w' : World} (k : GStep Fz (Ex D x y) ρ h w ρ' h' w') (e1 : g.next = h.next) (e2 : g'.next = h'.next) : GStep Fz D ρ g w ρ' g' w' :=
 ⟨k.le, ⟨k.fr.os, k.fr.tape, k.fr.output, k.fr.size, fun b hb hd => k.fr.block b hb fun c => hd c.1⟩, by rw [e1, e2]; exact k.next, fun i hi => k.dom i (by rw [← e1, ← e2]; exact hi), fun ad l hl => by
  rcases k.nreg ad l hl with h | h | h | h
  ·exact .inl h
  ·exact .inr (.inl h)
  ·exact .inr (.inr (.inl h))
  ·exact .inr (.inr (.inr ⟨h.1, h.2.1⟩))⟩
theorem relE_mem {ρ : Ren} : ∀ {l : List (Int × AV)} {es : List MapEntry}, relE ρ l es → ∀ e ∈ es, ∃ p ∈ l, e.key = .int .i64 p.1 ∧ p.2.rel ρ e.val
 | [], es, h, e, he => by simp only [relE] at h; subst h; simp at he
 | p :: l, es, h, e, he => by
  obtain ⟨e0, es', rfl, h1, h2, h3⟩ := h
  rcases List.mem_cons.1 he with rfl | he
  ·exact ⟨p, by simp, h1, h2⟩
  ·obtain ⟨q, h4, h5⟩ := relE_mem h3 e he
   exact ⟨q, by simp [h4], h5⟩
theorem relE_of {ρ : Ren} : ∀ {l : List (Int × AV)} {es : List MapEntry}, relE ρ l es → ∀ z ∈ l.map (·.1), ∃ e ∈ es, e.key = .int .i64 z
 | [], es, h, z, hz => by simp at hz
 | p :: l, es, h, z, hz => by
  obtain ⟨e0, es', rfl, h1, h2, h3⟩ := h
  rcases List.mem_cons.1 hz with rfl | hz
  ·exact ⟨e0, by simp, h1⟩
  ·obtain ⟨q, h4, h5⟩ := relE_of h3 z hz
   exact ⟨q, by simp [h4], h5⟩
theorem relE_inj {ρ : Ren} : ∀ {l : List (Int × AV)} {es : List MapEntry}, relE ρ l es → (l.map (·.1)).Nodup → ∀ e ∈ es, ∀ e' ∈ es, e.key = e'.key → e = e'
 | [], es, h, _, e, he, _, _, _ => by simp only [relE] at h; subst h; simp at he
 | p :: l, es, h, hn, e, he, e', he', k => by
  obtain ⟨e0, es', rfl, h1, h2, h3⟩ := h
  rw [List.map_cons, List.nodup_cons] at hn
  have key : ∀ q ∈ es', q.key ≠ e0.key := fun q hq c => by
   obtain ⟨r, h4, h5, _⟩ := relE_mem h3 q hq
   rw [h1, h5] at c
   have : r.1 = p.1 := by simpa using c
   exact hn.1 (List.mem_map.2 ⟨r, h4, this⟩)
  rcases List.mem_cons.1 he with rfl | hE
  ·rcases List.mem_cons.1 he' with rfl | hE'
   ·rfl
   ·exact absurd k.symm (key e' hE')
  ·rcases List.mem_cons.1 he' with rfl | hE'
   ·exact absurd k (key e hE)
   ·exact relE_inj h3 hn.2 e hE e' hE' k
theorem born_inj : ∀ {es : List MapEntry}, es.Pairwise (fun a b => a.born < b.born) → ∀ e ∈ es, ∀ e' ∈ es, e.born = e'.born → e = e'
 | [], _, e, he, _, _, _ => by simp at he
 | e0 :: es, h, e, he, e', he', k => by
  rw [List.pairwise_cons] at h
  rcases List.mem_cons.1 he with rfl | hE
  ·rcases List.mem_cons.1 he' with rfl | hE'
   ·rfl
   ·have := h.1 e' hE'; omega
  ·rcases List.mem_cons.1 he' with rfl | hE'
   ·have := h.1 e hE; omega
   ·exact born_inj h.2 e hE e' hE' k
theorem wpl_val {P : Program} {ops : Array Oper} {Q : Exit → Act → World → Prop} {a : Act} {w w' : World} {o : Oper} {rest : List Oper} {v : Value} (hg : o.guard = none) (hr : (execOp a.eval o).run P w = .ok (.value v) w') (k : wpList P ops Q rest (a.put o.dst v) w') : wpList P ops Q (o :: rest) a w :=
 wpList_plain hg fun K hK => by
  unfold Oper.wp
  rw [hr]
  exact hK _ _ k
theorem SRel.set {D : Nat → Prop} {ρ : Ren} {s : St} {a : Act} {w : World} (sr : SRel D ρ s a w) {d : Nat} (hd : d < s.n) {v : AV} {v' : Value} (hv : v.rel ρ v') : SRel D ρ ⟨upd s.tm d (some v), s.n, s.h, s.ds⟩ (a.put (some d) v') w :=
 sr.put (Step.refl sr.hr) hv (by simp only [St.put]; rw [show Nat.blt d s.n = true from Nat.blt_eq.mpr hd]; rfl)
theorem HR.other {D : Nat → Prop} {ρ : Ren} {h : Hp} {w w2 : World} (k : HR D ρ h w) {y : Nat} (hy : ¬ D y) (hc : ∀ ad : Addr, ad.block = y → w.cell? ad = none) (he : ∀ b, b ≠ y → w2.heap[b]? = w.heap[b]?) (hs : w2.heap.size = w.heap.size) : HR D ρ h w2 :=
 ⟨fun i b n o hρ hg => by
  obtain ⟨hd, o', h1, h2⟩ := k.obj i b n o hρ hg
  exact ⟨hd, o', by rw [he b fun c => hy (c ▸ hd)]; exact h1, h2⟩, k.inj, k.born, fun b hb => k.far b (by omega),
  fun ad l hl => (k.reg ad l hl).keep (Ren.le.refl ρ) (fun hne => he _ fun c => by
     cases l with
     | nil => exact hne rfl
     | cons z l =>
      obtain ⟨v, h2, _⟩ := (k.reg ad _ hl).cell 0 z rfl
      rw [hc (ad.add 0) (by rw [addr_add_block]; exact c)] at h2
      cases h2) (k.reg ad l hl).own⟩
theorem SRel.other {D : Nat → Prop} {ρ : Ren} {s : St} {a : Act} {w w2 : World} (sr : SRel D ρ s a w) (hr : HR D ρ s.h w2) : SRel D ρ s a w2 := ⟨sr.tm, sr.sz, hr, sr.ds⟩
theorem cell_iter {w : World} {y : Nat} {m : Option Nat} {s : Nat} {seen : Array Nat} {c : Nat} (h : w.heap[y]? = some (.mapIter m s seen c)) (ad : Addr) (e : ad.block = y) : w.cell? ad = none := by
 unfold World.cell?
 rw [e, h]
theorem cell_map {w : World} {y : Nat} {es : Array MapEntry} {c : Nat} (h : w.heap[y]? = some (.map es c)) (ad : Addr) (e : ad.block = y) : w.cell? ad = none := by
 unfold World.cell?
 rw [e, h]
end Go.Iv
end
section
set_option linter.unusedVariables false
set_option linter.unusedSimpArgs false
namespace Go.Iv
open Go
open Go.ChangeMaps (setBlock)
structure It (l : List (Int × AV)) (es : List MapEntry) (clock since x y : Nat) (vis : List Int) (seen : Array Nat) (c0 : Nat) (w : World) : Prop where
 iter : w.heap[y]? = some (.mapIter (some x) since seen c0)
 map : w.heap[x]? = some (.map ⟨es⟩ clock)
 sc : since ≤ c0
 met : ∀ e ∈ es, ∀ z, e.key = .int .i64 z → (seen.contains e.born = true ↔ z ∈ vis)
 nd : vis.Nodup
 sub : ∀ z ∈ vis, z ∈ l.map (·.1)
def fillS (nx ok en ke xv : Nat) (s : St) (z : Int) (u : AV) : St :=
 ⟨upd (upd (upd (upd (upd s.tm nx (some (.tuple [.flat (.bool true), .flat (.int .i64 z), u]))) ok (some (.flat (.bool true)))) en (some (.tuple [.flat (.int .i64 z), u]))) ke (some (.flat (.int .i64 z)))) xv (some (.flat (.int .i64 z))), s.n, s.h, s.ds⟩
def endS (nx ok : Nat) (s : St) : St := ⟨upd (upd s.tm nx (some (.tuple [.flat (.bool false)]))) ok (some (.flat (.bool false))), s.n, s.h, s.ds⟩
abbrev roundC (bid b2 r5 r6 it nx ok en ke xv : Nat) (t1 t2 t3 t4 t5 : TypeId) (p1 p2 p3 p4 p5 : String) (f1 f2 f3 f4 f5 : Array Edge) (body : Code) : Code :=
 .seq (.region r5 #[⟨some nx, .next (.tmp it) false, t1, p1, f1, none⟩, ⟨some ok, .extract (.tmp nx) 0, t2, p2, f2, none⟩] false)
  (.seq (.cond (.tmp ok) .skip (.exit bid)) (.block b2 (.seq (.region r6 #[⟨some en, .entry (.tmp it), t3, p3, f3, none⟩, ⟨some ke, .extract (.tmp en) 0, t4, p4, f4, none⟩, ⟨some xv, .assign (.tmp ke), t5, p5, f5, none⟩] false) body)))
theorem eval_put {a : Act} {d : Nat} {v : Value} (h : d < a.tmps.size) : (a.put (some d) v).eval (.tmp d) = v := by
 simp [Act.put, Act.eval, h]
theorem eval_put_ne {a : Act} {d t : Nat} {v : Value} (h : d ≠ t) : (a.put (some d) v).eval (.tmp t) = a.eval (.tmp t) := by
 simp [Act.put, Act.eval, Array.getElem?_setIfInBounds_ne h]
theorem eval_putS {D : Nat → Prop} {ρ : Ren} {s : St} {a : Act} {w : World} (sr : SRel D ρ s a w) {d : Nat} (v : Value) (h : d < s.n) : (a.put (some d) v).eval (.tmp d) = v := eval_put (by rw [sr.sz]; exact h)
theorem rounds_range {Fz : Prop} {P : Program} {body : Code} {bid b2 r5 r6 it nx ok en ke xv : Nat} {t1 t2 t3 t4 t5 : TypeId} {p1 p2 p3 p4 p5 : String} {f1 f2 f3 f4 f5 : Array Edge} {l : List (Int × AV)} {N n : Nat} {S : List Int → St} {x y : Nat}
    (hv : ∀ vis, (S vis).tm it = some (.flat (.pointer (some ⟨y, 0, none⟩)))) (hn : ∀ vis, (S vis).n = n) (hlt : it < n ∧ nx < n ∧ ok < n ∧ en < n ∧ ke < n ∧ xv < n) (hne : it ≠ nx ∧ it ≠ ok)
    (hbody : ∀ vis z u, (z, u) ∈ l → vis.Nodup → (∀ q ∈ vis, q ∈ l.map (·.1)) → z ∉ vis → ∃ s1, Sem Fz P body (fillS nx ok en ke xv (S vis) z u) .normal s1 ∧ Weak s1 (S (vis ++ [z])))
    (hN : ∀ vis : List Int, vis.Nodup → (∀ q ∈ vis, q ∈ l.map (·.1)) → (S vis).h.next ≤ N)
    {D : Nat → Prop} (hDy : D y) (hxy : x ≠ y) {es : List MapEntry} {clock since : Nat} (hold : ∀ e ∈ es, e.born < since) (hsc : since ≤ clock) (hp : es.Pairwise fun a b => a.born < b.born) (hk : (l.map (·.1)).Nodup) {R : Exit → Act → World → Prop} :
    ∀ (m : Nat) (vis : List Int) (seen : Array Nat) (c0 : Nat) (ρ : Ren) (a : Act) (w : World), (leftOf ⟨es⟩ seen).size < m → It l es clock since x y vis seen c0 w → relE ρ l es → SRel (Ex D x y) ρ (S vis) a w → Free ρ (S vis).h.next N →
     (∀ vis' ρ' a' w', vis'.Perm (l.map (·.1)) → GStep Fz D ρ (S vis).h w ρ' (S vis').h w' → SRel (Ex D x y) ρ' (endS nx ok (S vis')) a' w' → w'.heap[x]? = some (.map ⟨es⟩ clock) → R (.exit bid) a' w') →
     Code.rounds P (roundC bid b2 r5 r6 it nx ok en ke xv t1 t2 t3 t4 t5 p1 p2 p3 p4 p5 f1 f2 f3 f4 f5 body) R m a w := by
 intro m
 induction m with
 | zero => intro vis seen c0 ρ a w h; omega
 | succ m ih =>
  intro vis seen c0 ρ a w hm I hl sr fr fin
  obtain ⟨n1, n2, n3, n4, n5, n6⟩ := hlt
  have hsz : a.tmps.size = n := by rw [sr.sz, hn]
  have hev : a.eval (.tmp it) = .pointer (some ⟨y, 0, none⟩) := by
   have := sr.tm it
   simp only [St.slot, hv, AV.rel] at this
   exact this
  rw [rounds_succ]
  refine wp_seq (wp_region ?_)
  rw [List.range_eq_range']
  refine (congrFun (congrFun (wpOps_eq_wpList [_, _] 0 (fun j => by simp)) _) _).mpr ?_
  rcases run_next_at (P := P) w t1 y x since c0 seen ⟨es⟩ clock I.iter I.map (fun e he => hold e he) I.sc with ⟨h0, hrun⟩ | ⟨e, he, w1, hal, hrun⟩
  ·refine wpl_val rfl (v := .tuple #[.bool false]) (w' := w) (by simp [execOp, hev, hrun, Result.andThen]) ?_
   refine wpl_val rfl (v := .bool false) (w' := w) (by simp [execOp, Instr.extract, eval_put (a := a) (d := nx) (by omega)]) ?_
   show (Code.seq _ _).wp P _ _ w
   refine wp_seq (wp_cond_false (eval_put (by rw [size_put]; omega)) ?_)
   refine wp_exit ?_
   have perm : vis.Perm (l.map (·.1)) := (List.perm_ext_iff_of_nodup I.nd hk).2 fun z => ⟨I.sub z, fun hz => by
    obtain ⟨e, h1, h2⟩ := relE_of hl z hz
    exact (I.met e h1 z h2).1 (all_seen _ seen h0 e h1)⟩
   exact fin vis ρ _ w perm (GStep.refl _ _ _ _ _) ((sr.set (d := nx) (v := .tuple [.flat (.bool false)]) (by rw [hn]; exact n2) (by simp [AV.rel, AV.relL])).set (d := ok) (v := .flat (.bool false)) (by show ok < (S vis).n; rw [hn]; exact n3) (by simp [AV.rel])) I.map
  ·obtain ⟨hem, hes⟩ := mem_left he
   have hem : e ∈ es := hem
   obtain ⟨⟨z, u⟩, hpz, hkey, hu⟩ := relE_mem hl e hem
   simp only at hkey hu
   have hzv : z ∉ vis := fun c => by
    have := (I.met e hem z hkey).2 c
    rw [hes] at this; cases this
   have hzk : z ∈ l.map (·.1) := List.mem_map.2 ⟨_, hpz, rfl⟩
   have hr1 : w1.heap[y]? = some (.mapIter (some x) since seen c0) := by rcases hal with rfl | rfl <;> exact I.iter
   have hb1 : w1.heap[x]? = some (.map ⟨es⟩ clock) := by rcases hal with rfl | rfl <;> exact I.map
   have hset := MapKept.heap_set (o' := .mapIter (some x) since (seen.push e.born) clock) hr1
   obtain ⟨w2, hw2⟩ : ∃ w2, w2 = setBlock w1 y (.mapIter (some x) since (seen.push e.born) clock) := ⟨_, rfl⟩
   rw [show (w1.heap.setIfInBounds y (.mapIter (some x) since (seen.push e.born) clock)) = w2.heap by rw [hw2]; rfl] at hset
   rw [← hw2] at hrun
   have hb2 : w2.heap[x]? = some (.map ⟨es⟩ clock) := (hset.2 x hxy).trans hb1
   have hsame : ∀ b, b ≠ y → w2.heap[b]? = w.heap[b]? := fun b hb => by
    rw [hset.2 b hb]; rcases hal with rfl | rfl <;> rfl
   have hsize : w2.heap.size = w.heap.size := by
    rw [hw2]
    show (w1.heap.setIfInBounds y _).size = _
    rw [Array.size_setIfInBounds]
    rcases hal with rfl | rfl <;> rfl
   have hbn : (es.map (·.born)).Nodup := by
    rw [List.Nodup, List.pairwise_map]
    exact hp.imp fun h => by omega
   have hent : (Instr.entry (.pointer (some ⟨y, 0, none⟩))).run P w2 = .ok (.tuple #[e.key, e.val]) w2 := run_entry_at w2 y x since seen ⟨es⟩ clock e hset.1 hb2 hem hbn
   have sr2 : SRel (Ex D x y) ρ (S vis) a w2 := sr.other (sr.hr.other (fun c => c.2.2 rfl) (cell_iter I.iter) hsame hsize)
   have g1 : GStep Fz D ρ (S vis).h w ρ (S vis).h w2 := ⟨Ren.le.refl _, ⟨by rw [hw2]; rcases hal with rfl | rfl <;> rfl, by rw [hw2]; rcases hal with rfl | rfl <;> rfl, by rw [hw2]; rcases hal with rfl | rfl <;> rfl, by omega, fun b _ hd => hsame b fun c => hd (c ▸ hDy)⟩, Nat.le_refl _, fun _ _ => rfl, fun _ _ h => .inl h⟩
   rw [hkey] at hrun hent
   have sr3 := sr2.set (d := nx) (v := .tuple [.flat (.bool true), .flat (.int .i64 z), u]) (v' := .tuple #[.bool true, .int .i64 z, e.val]) (by rw [hn]; exact n2)
    (by simp only [AV.rel]; exact ⟨_, rfl, relL_cons.2 ⟨_, _, rfl, by simp [AV.rel], relL_cons.2 ⟨_, _, rfl, by simp [AV.rel], relL_cons.2 ⟨_, _, rfl, hu, by simp [AV.relL]⟩⟩⟩⟩)
   have sr4 := sr3.set (d := ok) (v := .flat (.bool true)) (v' := .bool true) (by show ok < (S vis).n; rw [hn]; exact n3) (by simp [AV.rel])
   have sr5 := sr4.set (d := en) (v := .tuple [.flat (.int .i64 z), u]) (v' := .tuple #[.int .i64 z, e.val]) (by show en < (S vis).n; rw [hn]; exact n4)
    (by simp only [AV.rel]; exact ⟨_, rfl, relL_cons.2 ⟨_, _, rfl, by simp [AV.rel], relL_cons.2 ⟨_, _, rfl, hu, by simp [AV.relL]⟩⟩⟩)
   have sr6 := sr5.set (d := ke) (v := .flat (.int .i64 z)) (v' := .int .i64 z) (by show ke < (S vis).n; rw [hn]; exact n5) (by simp [AV.rel])
   have sr7 := sr6.set (d := xv) (v := .flat (.int .i64 z)) (v' := .int .i64 z) (by show xv < (S vis).n; rw [hn]; exact n6) (by simp [AV.rel])
   have q5 := eval_putS sr4 (d := en) (.tuple #[.int .i64 z, e.val]) (by show en < (S vis).n; rw [hn]; exact n4)
   have q6 := eval_putS sr5 (d := ke) (.int .i64 z) (by show ke < (S vis).n; rw [hn]; exact n5)
   refine wpl_val rfl (v := .tuple #[.bool true, .int .i64 z, e.val]) (w' := w2) (by simp [execOp, hev, hrun, Result.andThen]) ?_
   refine wpl_val rfl (v := .bool true) (w' := w2) (by simp [execOp, Instr.extract, eval_put (a := a) (d := nx) (by omega)]) ?_
   show (Code.seq _ _).wp P _ _ w2
   refine wp_seq (wp_cond_true (eval_put (by rw [size_put]; omega)) ?_)
   refine wp_skip ?_
   show (Code.block _ _).wp P _ _ w2
   refine wp_block (wp_seq (wp_region ?_))
   rw [List.range_eq_range']
   refine (congrFun (congrFun (wpOps_eq_wpList [_, _, _] 0 (fun j => by simp)) _) _).mpr ?_
   refine wpl_val rfl (v := .tuple #[.int .i64 z, e.val]) (w' := w2) (by simp [execOp, eval_put_ne (Ne.symm hne.1), eval_put_ne (Ne.symm hne.2), hev, hent, Result.andThen]) ?_
   refine wpl_val rfl (v := .int .i64 z) (w' := w2) (by simp [execOp, Instr.extract, q5]) ?_
   refine wpl_val rfl (v := .int .i64 z) (w' := w2) (by simp [execOp, q6]) ?_
   obtain ⟨s1, hs, hw⟩ := hbody vis z u hpz I.nd I.sub hzv
   have nd' : (vis ++ [z]).Nodup := by
    rw [List.nodup_append]
    exact ⟨I.nd, by simp, fun c hc d hd => by simp only [List.mem_singleton] at hd; subst hd; intro e; subst e; exact hzv hc⟩
   have sub' : ∀ q ∈ vis ++ [z], q ∈ l.map (·.1) := fun q hq => by
    rcases List.mem_append.1 hq with h | h
    ·exact I.sub q h
    ·simp only [List.mem_singleton] at h; subst h; exact hzk
   have hN' := hN _ nd' sub'
   rw [hw.next] at hN'
   show body.wp P _ _ w2
   refine hs.run (Ex D x y) ρ _ w2 _ sr7 (fr.mono hN') fun ρ' e' a' w' st sr' er => ?_
   simp only [ExRel] at er
   subst er
   show Code.rounds P _ R m a' w'
   have hx2 : x < w2.heap.size := (Array.getElem?_eq_some_iff.1 hb2).1
   have hy2 : y < w2.heap.size := (Array.getElem?_eq_some_iff.1 hset.1).1
   have hb' : w'.heap[x]? = some (.map ⟨es⟩ clock) := (st.fr.block x hx2 fun c => c.2.1 rfl).trans hb2
   have g2 : GStep Fz D ρ (S vis).h w2 ρ' (S (vis ++ [z])).h w' := st.unex rfl hw.next
   refine ih (vis ++ [z]) (seen.push e.born) clock ρ' a' w' (by have := left_shrinks ⟨es⟩ seen e he; omega) ⟨(st.fr.block y hy2 fun c => c.2.2 rfl).trans hset.1, hb', hsc, fun e2 he2 z2 hk2 => ?_, nd', sub'⟩ (relE_mono st.le _ _ hl) (hw.srel sr') (fr.gstep (g1.trans g2)) fun vis' ρ2 a2 w3 h1 h2 h3 h4 => fin vis' ρ2 a2 w3 h1 ((g1.trans g2).trans h2) h3 h4
   ·rw [contains_push]
    constructor
    ·intro h
     rw [Bool.or_eq_true] at h
     rcases h with h | h
     ·exact List.mem_append.2 (.inl ((I.met e2 he2 z2 hk2).1 h))
     ·have := born_inj hp e2 he2 e hem (by simpa using h)
      subst this
      rw [hkey] at hk2
      have : z = z2 := by simpa using hk2
      subst this
      simp
    ·intro h
     rw [Bool.or_eq_true]
     rcases List.mem_append.1 h with h | h
     ·exact .inl ((I.met e2 he2 z2 hk2).2 h)
     ·simp only [List.mem_singleton] at h
      subst h
      have := relE_inj hl hk e2 he2 e hem (by rw [hk2, hkey])
      subst this
      exact .inr (by simp)
theorem HR.push {D : Nat → Prop} {ρ : Ren} {h : Hp} {w : World} (k : HR D ρ h w) (o' : Obj) : HR D ρ h { w with heap := w.heap.push o' } := by
 have same : ∀ b, b < w.heap.size → (w.heap.push o')[b]? = w.heap[b]? := fun b hb => by rw [Array.getElem?_push, if_neg (by omega)]
 refine ⟨fun i b n o hρ hg => ?_, k.inj, k.born, fun b hb => k.far b (by simp at hb; omega), fun ad l hl => (k.reg ad l hl).keep (Ren.le.refl ρ) (fun hne => same _ ((k.reg ad l hl).lt hne)) (k.reg ad l hl).own⟩
 obtain ⟨hd, o2, h1, h2⟩ := k.obj i b n o hρ hg
 exact ⟨hd, o2, by show (w.heap.push o')[b]? = _; rw [same b (Array.getElem?_eq_some_iff.1 h1).1]; exact h1, h2⟩
theorem GStep.heaps {Fz : Prop} {D : Nat → Prop} {ρ ρ' : Ren} {h h' g g' : Hp} {w w' : World} (k : GStep Fz D ρ h w ρ' h' w') (e1 : g.next = h.next) (e2 : g'.next = h'.next) : GStep Fz D ρ g w ρ' g' w' :=
 ⟨k.le, k.fr, by rw [e1, e2]; exact k.next, fun i hi => k.dom i (by rw [← e1, ← e2]; exact hi), k.nreg⟩
theorem wp_range {Fz : Prop} {P : Program} {T : Tab} {call : CallF} (B : Base P T call) {body : Code} {idA : Nat} {opsA : Array Oper} {pre : List Oper} {tr kt et : TypeId} {mo : Operand} {t0 : TypeId} {p0 : String} {f0 : Array Edge} {ti : TI} {bid b2 r5 r6 it nx ok en ke xv : Nat} {t1 t2 t3 t4 t5 : TypeId} {p1 p2 p3 p4 p5 : String} {f1 f2 f3 f4 f5 : Array Edge}
    {s s0 sE : St} {mr : Nat} {l : List (Int × AV)} {Q : AExit → St → Prop} (S : Nat → List Int → St)
    (hops : opsA.toList = pre ++ [⟨some it, .range tr mo, t0, p0, f0, none⟩]) (hpre : evOps call T opsA.toList pre s = some (.normal, s0)) (hti : T.types.get tr = some ti) (htd : ti.td = .map kt et) (hm : s0.ev mo = .map mr) (hg : s0.h.m mr = some (.map l)) (hmr : mr < s0.h.next)
    (h0 : ∀ y, S y [] = ⟨upd s0.tm it (some (.flat (.pointer (some ⟨y, 0, none⟩)))), s0.n, s0.h.drop mr, s0.ds⟩)
    (hv : ∀ y vis, (S y vis).tm it = some (.flat (.pointer (some ⟨y, 0, none⟩)))) (hn : ∀ y vis, (S y vis).n = s0.n) (hlt : it < s0.n ∧ nx < s0.n ∧ ok < s0.n ∧ en < s0.n ∧ ke < s0.n ∧ xv < s0.n) (hne : it ≠ nx ∧ it ≠ ok)
    (hbody : ∀ y vis z u, (z, u) ∈ l → vis.Nodup → (∀ q ∈ vis, q ∈ l.map (·.1)) → z ∉ vis → ∃ s1, Sem Fz P body (fillS nx ok en ke xv (S y vis) z u) .normal s1 ∧ Weak s1 (S y (vis ++ [z])))
    (hN : ∀ y (vis : List Int), vis.Nodup → (∀ q ∈ vis, q ∈ l.map (·.1)) → (S y vis).h.next ≤ sE.h.next)
    (hend : ∀ y vis, vis.Perm (l.map (·.1)) → Weak (endS nx ok (S y vis)) sE) (her : sE.h.m mr = none) (hs0 : s.h.next ≤ s0.h.next) (hs1 : s0.h.next ≤ sE.h.next)
    (hle : ¬ Fz → Hp.Le s.h ⟨sE.h.next, sE.h.low, upd sE.h.m mr (some (.map l))⟩)
    (hq : Q .normal ⟨sE.tm, sE.n, ⟨sE.h.next, sE.h.low, upd sE.h.m mr (some (.map l))⟩, sE.ds⟩) :
    WP Fz P (.seq (.region idA opsA false) (.block bid (.loop (roundC bid b2 r5 r6 it nx ok en ke xv t1 t2 t3 t4 t5 p1 p2 p3 p4 p5 f1 f2 f3 f4 f5 body)))) s Q := by
 refine ⟨.normal, _, ⟨by show s.h.next ≤ sE.h.next; omega, hle, fun D ρ a w R sr fr dn => ?_⟩, hq⟩
 have fr : Free ρ s.h.next sE.h.next := fr
 have hsz : opsA.size = pre.length + 1 := by rw [← Array.length_toList, hops]; simp
 refine wp_seq (wp_region ?_)
 rw [hsz, List.range_succ, List.range_eq_range']
 refine evOps_pre B.tab B.ok B.le pre 0 s s0 (fun j hj => by rw [hops, Nat.zero_add, List.getElem?_append_left hj]) hpre D ρ a w _ [pre.length] sr (fr.mono hs1) fun ρ1 a1 w1 st1 sr1 => ?_
 rw [show [pre.length] = List.range' pre.length ([(⟨some it, .range tr mo, t0, p0, f0, none⟩ : Oper)]).length from rfl]
 refine (congrFun (congrFun (wpOps_eq_wpList [_] pre.length (fun j => by
  rw [← Array.getElem?_toList, hops, List.getElem?_append_right (by omega)]
  congr 1
  omega)) _) _).mpr ?_
 have hev := sr1.ev mo
 rw [hm] at hev
 simp only [AV.rel] at hev
 obtain ⟨x, n', hρ, hev⟩ := hev
 obtain ⟨es, clock, hx, hl, hp, hc, hk⟩ := sr1.hr.mapAt hg hρ
 have hxl : x < w1.heap.size := (Array.getElem?_eq_some_iff.1 hx).1
 have hu := und_map B.tab hti htd w1
 obtain ⟨w2, hw2⟩ : ∃ w2 : World, w2 = { w1 with heap := w1.heap.push (.mapIter (some x) clock #[] clock) } := ⟨_, rfl⟩
 have hrun : (Instr.range tr (.map (some x))).run P w1 = .ok (.pointer (some ⟨w1.heap.size, 0, none⟩)) w2 := by
  rw [hw2]
  simp only [Instr.range, Sem.run_bind, hu, Result.andThen_ok, MapKept.run_getObj_map hx, Sem.run_pure, run_newObj]
 refine wpl_val rfl (v := .pointer (some ⟨w1.heap.size, 0, none⟩)) (w' := w2) (by simp [execOp, hev, hrun, Result.andThen]) ?_
 show (Code.block _ _).wp P _ _ w2
 have hsz2 : w2.heap.size = w1.heap.size + 1 := by rw [hw2]; simp
 have hsame : ∀ b, b < w1.heap.size → w2.heap[b]? = w1.heap[b]? := fun b hb => by rw [hw2]; show (w1.heap.push _)[b]? = _; rw [Array.getElem?_push, if_neg (by omega)]
 have hy2 : w2.heap[w1.heap.size]? = some (.mapIter (some x) clock #[] clock) := by rw [hw2]; show (w1.heap.push _)[w1.heap.size]? = _; rw [Array.getElem?_push, if_pos rfl]
 have hr2 : HR D ρ1 s0.h w2 := by rw [hw2]; exact sr1.hr.push _
 have hDx := (sr1.hr.obj mr x n' _ hρ hg).1
 have hDy : D w1.heap.size := sr1.hr.far _ (Nat.le_refl _)
 have sr2 : SRel (Ex D x w1.heap.size) ρ1 ⟨s0.tm, s0.n, s0.h.drop mr, s0.ds⟩ a1 w2 := ⟨sr1.tm, sr1.sz, hr2.drop hρ (by show s0.h.m mr ≠ none; rw [hg]; simp) (by omega) (by omega) (fun i m hi => by
  cases c : s0.h.get i with
  | none => rfl
  | some o =>
   obtain ⟨_, o', h1, _⟩ := sr1.hr.obj i _ m o hi c
   have := (Array.getElem?_eq_some_iff.1 h1).1
   omega), sr1.ds⟩
 have sr3 := sr2.set (d := it) (v := .flat (.pointer (some ⟨w1.heap.size, 0, none⟩))) (v' := .pointer (some ⟨w1.heap.size, 0, none⟩)) hlt.1 (by simp [AV.rel])
 have e0 : (S w1.heap.size []).h.next = s0.h.next := by rw [h0]; rfl
 have g0 : GStep Fz D ρ1 s0.h w1 ρ1 s0.h w2 := ⟨Ren.le.refl _, ⟨by rw [hw2], by rw [hw2], by rw [hw2], by omega, fun b hb _ => hsame b hb⟩, Nat.le_refl _, fun _ _ => rfl, fun _ _ h => .inl h⟩
 refine wp_block (wp_loop_rounds ((leftOf ⟨es⟩ #[]).size + 1) ?_)
 refine rounds_range (N := sE.h.next) (n := s0.n) (S := S w1.heap.size) (x := x) (y := w1.heap.size) (l := l) (hv _) (hn _) hlt hne (hbody _) (hN _) (D := D) hDy (by omega) (es := es) (clock := clock) (since := clock) hc (Nat.le_refl _) hp hk _ [] #[] clock ρ1 _ w2 (Nat.lt_succ_self _)
  ⟨hy2, (hsame x hxl).trans hx, Nat.le_refl _, fun _ _ _ _ => by simp, by simp, by simp⟩ hl (by rw [h0]; exact sr3) (by rw [e0]; exact fr.step st1) fun vis ρ2 a3 w3 perm g sr4 hx3 => ?_
 show (if bid = bid then _ else _)
 rw [if_pos rfl]
 have we := hend w1.heap.size vis perm
 have sr5 := we.srel sr4
 have enx : sE.h.next = (S w1.heap.size vis).h.next := we.next
 have gT : GStep Fz D ρ s.h w ρ2 ⟨sE.h.next, sE.h.low, upd sE.h.m mr (some (.map l))⟩ w3 := (st1.g.trans g0).trans (g.heaps e0.symm enx)
 have hle2 : Ren.le ρ1 ρ2 := g.le
 refine dn ρ2 .normal a3 w3 gT ⟨sr5.tm, sr5.sz, ?_, sr5.ds⟩ rfl
 exact sr5.hr.undrop (fun b hb => sr.hr.far b (Nat.le_trans gT.fr.size hb)) (hle2.f _ _ hρ) her (by omega) hDx hx3 ⟨es, clock, rfl, relE_mono hle2 _ _ hl, hp, hc, hk⟩ (fun j => cell_map hx3 _ rfl)
end Go.Iv
end
