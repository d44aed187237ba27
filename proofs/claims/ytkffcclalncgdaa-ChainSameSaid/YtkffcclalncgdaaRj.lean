/- IV, part 32: some blocks left as they are, the others kept; in the middle of a region too. -/
import Derived.Test.YtkffcclalncgdaaRd
section
set_option linter.unusedVariables false
set_option linter.unusedSimpArgs false
namespace Go.Iv
open Go
structure Freeze1 (g : Nat → Option (List AV)) (s s1 : St) : Prop where
 next : s1.h.next = s.h.next
 n : s1.n = s.n
 ds : s1.ds = s.ds
 slot : ∀ t, Fz g (s.slot t) (s1.slot t)
 left : ∀ i o1, s1.h.m i = some o1 → g i = none ∧ s.h.m i = some o1
 gone : ∀ i l, g i = some l → pureL l = true ∧ ∃ l0 e x, s.h.m i = some (.cells l0 e x) ∧ FzL g l0 l
theorem Freeze1.view {g : Nat → Option (List AV)} {s s1 : St} (f : Freeze1 g s s1) : View s s1 := by
 refine ⟨f.next, fun D ρ a w sr => ?_⟩
 obtain ⟨ρ', hρ'⟩ : ∃ ρ' : Ren, ρ' = ⟨ρ.f, fun ad l => ρ.reg ad l ∨ ∃ i b n, g i = some l ∧ ρ i = some (b, n) ∧ ad = ⟨b, 0, none⟩⟩ := ⟨_, rfl⟩
 have hf : ∀ i, ρ' i = ρ i := fun i => by rw [hρ']
 have hle : Ren.le ρ ρ' := ⟨fun i x h => by rw [hf]; exact h, fun ad l h => by rw [hρ']; exact .inl h⟩
 have hreg : ∀ b b' n l, g b = some l → ρ b = some (b', n) → ρ'.reg ⟨b', 0, none⟩ l := fun b b' n l h1 h2 => by rw [hρ']; exact .inr ⟨b, b', n, h1, h2, rfl⟩
 have hr := sr.hr
 have live : ∀ i, s1.h.get i ≠ none → s.h.get i ≠ none ∧ g i = none := fun i h => by
  cases ho : s1.h.get i with
  | none => exact absurd ho h
  | some o1 =>
   obtain ⟨h1, h2⟩ := f.left i o1 ho
   exact ⟨by show s.h.m i ≠ none; rw [h2]; simp, h1⟩
 have hr1 : HR D ρ' s1.h w := by
  refine ⟨fun i b n o1 hi ho => ?_, fun i j b n m hi hj hli hlj => ?_, fun i hi => ?_, hr.far, fun ad l hl => ?_⟩
  ·rw [hf] at hi
   obtain ⟨_, h2⟩ := f.left i o1 ho
   obtain ⟨h4, o', h5, h6⟩ := hr.obj i b n _ hi h2
   exact ⟨h4, o', h5, AO.rel_mono hle h6⟩
  ·rw [hf] at hi hj
   exact hr.inj i j b n m hi hj (live i hli).1 (live j hlj).1
  ·cases ho : s1.h.get i with
   | none => rfl
   | some o1 =>
    obtain ⟨_, h2⟩ := f.left i o1 ho
    have := hr.born i (by rw [← f.next]; exact hi)
    rw [show s.h.get i = s.h.m i from rfl, h2] at this
    cases this
  ·rw [hρ'] at hl
   rcases hl with hl | ⟨i, b, n, hg, hi, rfl⟩
   ·refine (hr.reg ad l hl).keep hle (fun _ => rfl) (fun hne j m hj => ?_)
    rw [hf] at hj
    cases ho : s1.h.get j with
    | none => rfl
    | some o1 => exact absurd ((hr.reg ad l hl).own hne j m hj) (live j (by rw [ho]; simp)).1
   ·obtain ⟨hp, l0, e, x, h2, h3⟩ := f.gone i l hg
    obtain ⟨_, o', h5, p, r, rfl, h6, h7, h8⟩ := hr.obj i b n _ hi h2
    have h9 := h3 ρ ρ' p hle hreg h7
    refine ⟨fun j y hj => ?_, fun hne j m hj => ?_, hp⟩
    ·obtain ⟨v, hv1, hv2⟩ := relL_get j h9 hj
     exact ⟨v, cells_at (o := 0) h5 (by simpa using hv1), hv2⟩
    ·rw [hf] at hj
     cases ho : s1.h.get j with
     | none => rfl
     | some o1 =>
      obtain ⟨h10, h11⟩ := live j (by rw [ho]; simp)
      have : j = i := hr.inj j i b m n hj hi h10 (by show s.h.m i ≠ none; rw [h2]; simp)
      rw [this, hg] at h11
      cases h11
 refine ⟨ρ', ⟨hle, Fr.refl _ _, by rw [f.next]; exact Nat.le_refl _, fun i _ => hf i, fun ad l hl => ?_⟩, ⟨fun t => f.slot t ρ ρ' _ hle hreg (sr.tm t), by rw [f.n]; exact sr.sz, hr1, by rw [f.ds]; exact relDs_mono hle sr.ds⟩⟩
 rw [hρ'] at hl
 rcases hl with hl | ⟨i, b, n, hg, hi, rfl⟩
 ·exact .inl hl
 ·obtain ⟨_, l0, e, x, h2, _⟩ := f.gone i l hg
  exact .inr (.inr (.inr ⟨trivial, (hr.obj i b n _ hi h2).1⟩))
theorem view1 {tm : Nat → Option AV} {n : Nat} {h : Hp} {ds : List ADef} {t b : Nat} {x x' : AV} {l : List AV} {e : TypeId} {xt : Bool} (ht : tm t = some x) (hb : h.m b = some (.cells l e xt)) (hp : pureL l = true) (hx : ∀ g : Nat → Option (List AV), g b = some l → Fz g x x') :
    View ⟨tm, n, h, ds⟩ ⟨upd tm t (some x'), n, ⟨h.next, h.low, upd h.m b none⟩, ds⟩ := by
 refine Freeze1.view (g := fun i => if i = b then some l else none) ⟨rfl, rfl, rfl, fun u => ?_, fun i o1 ho => ?_, fun i l' hi => ?_⟩
 ·simp only [St.slot]
  by_cases c : u = t
  ·subst c
   rw [ht, upd_eq]; exact hx _ (by simp)
  ·rw [upd_ne _ _ c]; exact Fz.refl _ _
 ·by_cases c : i = b
  ·subst c
   simp only [upd_eq] at ho
   cases ho
  ·simp only [upd_ne _ _ c] at ho
   exact ⟨by simp [c], ho⟩
 ·by_cases c : i = b
  ·subst c
   simp only [if_true, Option.some.injEq] at hi
   subst hi
   exact ⟨hp, l, e, xt, hb, FzL.refl _ _⟩
  ·simp only [if_neg c] at hi; cases hi
def goN : Option (AExit × St) → (St → Prop) → Prop
 | some (.normal, s), K => K s
 | _, _ => False
theorem goN_some (s : St) (K : St → Prop) : goN (some (.normal, s)) K = K s := rfl
theorem goN_name {tm : Nat → Option AV} {n : Nat} {H : Hp} {ds : List ADef} {K : St → Prop} (k : ∀ h, h = H → K ⟨tm, n, h, ds⟩) : goN (some (.normal, ⟨tm, n, H, ds⟩)) K := k H rfl
def RunF (P : Program) (ops : Array Oper) (k : Nat) (s : St) (Q : AExit → St → Prop) : Prop :=
 ∃ s', Q .normal s' ∧ s.h.next ≤ s'.h.next ∧ ∀ (D : Nat → Prop) (ρ : Ren) (a : Act) (w : World) (R : Exit → Act → World → Prop), SRel D ρ s a w → Free ρ s.h.next s'.h.next → DoneG True D ρ s.h w .normal s' R → wpOps P ops R (List.range' k (ops.size - k)) a w
theorem RunF.wp {P : Program} {ops : Array Oper} {id : Nat} {s : St} {Q : AExit → St → Prop} (h : RunF P ops 0 s Q) : WP True P (.region id ops false) s Q := by
 obtain ⟨s', q, n, h⟩ := h
 refine ⟨.normal, s', ⟨n, fun n => (n trivial).elim, fun D ρ a w R sr fr dn => ?_⟩, q⟩
 refine wp_region ?_
 rw [List.range_eq_range']
 exact h D ρ a w R sr fr dn
theorem RunF.view {P : Program} {ops : Array Oper} {k : Nat} {s s1 : St} {Q : AExit → St → Prop} (v : View s s1) (h : RunF P ops k s1 Q) : RunF P ops k s Q := by
 obtain ⟨s', q, n, h⟩ := h
 refine ⟨s', q, by rw [← v.next]; exact n, fun D ρ a w R sr fr dn => ?_⟩
 obtain ⟨ρ1, st, sr1⟩ := v.run D ρ a w sr
 exact h D ρ1 a w R sr1 (fun i h2 h3 => by rw [st.dom i (.inr h2)]; exact fr i (by rw [← v.next]; exact h2) h3) (dn.step st)
theorem RunF.done {P : Program} {ops : Array Oper} {k : Nat} {s : St} {Q : AExit → St → Prop} (hk : ops.size ≤ k) (q : Q .normal s) : RunF P ops k s Q := by
 refine ⟨s, q, Nat.le_refl _, fun D ρ a w R sr fr dn => ?_⟩
 rw [Nat.sub_eq_zero_of_le hk]
 simp only [List.range'_zero, wpOps]
 exact dn ρ .normal a w (GStep.refl _ _ _ _ _) sr rfl
theorem RunF.ops {P : Program} {T : Tab} {call : CallF} (B : Base P T call) {ops : Array Oper} {k : Nat} {s : St} {Q : AExit → St → Prop} (r : Nat) (hr : k + r ≤ ops.size) (h : goN (evOps call T ops.toList ((ops.toList.drop k).take r) s) fun s1 => RunF P ops (k + r) s1 Q) : RunF P ops k s Q := by
 obtain ⟨l, hl⟩ : ∃ l, l = (ops.toList.drop k).take r := ⟨_, rfl⟩
 have hll : l.length = r := by rw [hl, List.length_take, List.length_drop, Array.length_toList]; omega
 rw [← hl] at h
 cases he : evOps call T ops.toList l s with
 | none => rw [he] at h; exact h.elim
 | some x =>
  obtain ⟨e, s1⟩ := x
  rw [he] at h
  cases e with
  | normal =>
   obtain ⟨s', q, n, h⟩ := h
   have l1 := evOps_le B.le l s .normal s1 he
   refine ⟨s', q, Nat.le_trans l1.next n, fun D ρ a w R sr fr dn => ?_⟩
   rw [show ops.size - k = l.length + (ops.size - (k + r)) by omega, ← List.range'_append_1]
   refine evOps_pre B.tab B.ok B.le l k s s1 (fun j hj => by rw [hl, List.getElem?_take_of_lt (by omega), List.getElem?_drop]) he D ρ a w _ _ sr (fr.mono n) fun ρ1 a1 w1 st1 sr1 => ?_
   rw [hll]
   exact h D ρ1 a1 w1 R sr1 (fun i h1 h2 => by rw [st1.dom i (.inr h1)]; exact fr i (Nat.le_trans l1.next h1) h2) (dn.step st1.g)
  | _ => exact h.elim
theorem bytesEq_dec (a b : ByteArray) : bytesEq a.data.toList b.data.toList = decide (a = b) := by
 rw [bytesEq_eq, Bool.eq_iff_iff, beq_iff_eq, decide_eq_true_iff]
 constructor
 ·intro h; exact ByteArray.ext (Array.ext' h)
 ·rintro rfl; rfl
theorem binA_strE (T : Tab) (t : TypeId) (ox oy : Operand) (a b : ByteArray) : binA T .eql t ox oy (.flat (.string a)) (.flat (.string b)) = some (.flat (.bool (decide (a = b)))) := by
 rw [← bytesEq_dec]; rfl
theorem binA_strN (T : Tab) (t : TypeId) (ox oy : Operand) (a b : ByteArray) : binA T .neq t ox oy (.flat (.string a)) (.flat (.string b)) = some (.flat (.bool (!decide (a = b)))) := by
 rw [← bytesEq_dec]; rfl
end Go.Iv
end
