/- EV, part 18: whatever order is drawn: one step, and all. EV, part 19: whatever order is drawn: the end. EV, part 20: regions that draw their order: sound. IV, part 21: runs of code between abstract states, and what is asked of them. IV, part 22: blocks that are left as they are for good; functions. IV, part 23: tables of known calls; lists of digits; the way in from outside. IV, part 24: the evaluator's steps, for a walk with open values. IV, part 25: the evaluator's steps, each as one equation without a condition, for a walk with open values. IV, part 26: the operations in a region that draws its order, each as one equation without a condition. (Printed by gen26.py.) IV, part 27: functions with their answers, one behind another. IV, part 28: the walk's equations, bundled. Written by a program (gen28.py). -/
import Derived.Test.YtkffcclalncgdaaRb
section
set_option linter.unusedVariables false
set_option linter.unusedSimpArgs false
namespace Go.Iv
open Go
structure RegF (f : Nat → St) (ρ : Ren) (w : World) (m : Nat → Nat) (ad : Addr) (l : List AV) : Prop where
 cell : ∀ j x, l[j]? = some x → ∃ y, w.cell? (ad.add j) = some y ∧ x.rel ρ y
 own : l ≠ [] → ∀ i n, ρ i = some (ad.block, n) → (f (m i)).h.get i = none
 pur : pureL l = true
theorem RegF.lt {f : Nat → St} {ρ : Ren} {w : World} {m : Nat → Nat} {ad : Addr} {l : List AV} (k : RegF f ρ w m ad l) (hl : l ≠ []) : ad.block < w.heap.size := by
 cases l with
 | nil => exact absurd rfl hl
 | cons x l =>
  obtain ⟨y, h1, _⟩ := k.cell 0 x rfl
  have := World.block_lt_of_cell? w _ h1
  rwa [addr_add_block] at this
theorem cells_keep {ρ ρ' : Ren} {w w' : World} {ad : Addr} {l : List AV} (k : ∀ j x, l[j]? = some x → ∃ y, w.cell? (ad.add j) = some y ∧ x.rel ρ y) (hle : Ren.le ρ ρ') (hw : l ≠ [] → w'.heap[ad.block]? = w.heap[ad.block]?) :
    ∀ j x, l[j]? = some x → ∃ y, w'.cell? (ad.add j) = some y ∧ x.rel ρ' y := fun j x hj => by
 obtain ⟨y, h1, h2⟩ := k j x hj
 have hl : l ≠ [] := by intro e; subst e; simp at hj
 have e : w'.cell? (ad.add j) = w.cell? (ad.add j) := World.cell?_of_block (by rw [addr_add_block]; exact hw hl)
 exact ⟨y, by rw [e]; exact h1, AV.rel_mono hle _ _ h2⟩
structure HPm (D : Nat → Prop) (f : Nat → St) (n : Nat) (S : Nat → Prop) (ρ : Ren) (w : World) (m : Nat → Nat) : Prop where
 mle : ∀ id, m id ≤ n
 mod : ∀ id j, ρ id ≠ none → j < n → Mo f j id → (j < m id ↔ S j)
 inn : ∀ id x, ρ id = some x → id < (f (m id)).h.next ∨ (f n).h.next ≤ id
 obj : ∀ id b c o, ρ id = some (b, c) → (f (m id)).h.get id = some o → D b ∧ ∃ o', w.heap[b]? = some o' ∧ o.rel ρ c o'
 inj : ∀ i j b c c', ρ i = some (b, c) → ρ j = some (b, c') → (f (m i)).h.get i ≠ none → (f (m j)).h.get j ≠ none → i = j
 reg : ∀ ad l, ρ.reg ad l → RegF f ρ w m ad l
structure Inv (D : Nat → Prop) (ops : Array Oper) (f : Nat → St) (n : Nat) (ρ0 : Ren) (w0 : World) (S : Nat → Prop) (ρ : Ren) (a : Act) (w : World) : Prop where
 closed : ∀ j oj, S j → ops[j]? = some oj → ∀ e ∈ oj.after, Region.binds .any e = true → S e.on
 sub : ∀ j, S j → j < n
 tsz : a.tmps.size = (f 0).n
 tm : ∀ t, ∃ m, m ≤ n ∧ (∀ j oj, ops[j]? = some oj → oj.dst = some t → (j < m ↔ S j)) ∧ ((f m).slot t).rel ρ (a.tmps.getD t undef)
 ds : relDs ρ (f 0).ds a.defers
 hp : ∃ m, HPm D f n S ρ w m
 dom : ∀ id x, ρ id = some x → ρ0 id = some x ∨ ∃ i, S i ∧ (f i).h.next ≤ id ∧ id < (f (i + 1)).h.next
 le : Ren.le ρ0 ρ
 fr : Fr D w0 w
 far : ∀ b, w.heap.size ≤ b → D b
 ext : ∀ id, id < (f 0).h.next ∨ (f n).h.next ≤ id → ρ id = ρ0 id
 nreg : ∀ ad l, ρ.reg ad l → ρ0.reg ad l ∨ Digits l ∨ w0.heap.size ≤ ad.block
section
variable {P : Program} {call : CallF} (hcl : CallLe call) {T : Tab} {ops : Array Oper} {bf : List Nat} {f : Nat → St} {fp : Nat → Fp} {n : Nat} (d : DCtx call T ops bf f fp n)
include d
theorem DCtx.op_lt {j : Nat} {o : Oper} (h : ops[j]? = some o) : j < n := by
 have := (Array.getElem?_eq_some_iff.1 h).1
 rw [d.size] at this
 exact this
theorem DCtx.stay : ∀ j, j ≤ n → (f j).n = (f 0).n ∧ (f j).ds = (f 0).ds := by
 intro j hj
 induction j with
 | zero => exact ⟨rfl, rfl⟩
 | succ j ih =>
  obtain ⟨h1, h2⟩ := ih (by omega)
  rw [← h1, ← h2]
  obtain ⟨o, _, h3⟩ := d.tr j (by omega)
  unfold drawOp at h3
  cases hw : (f j).wanted ops.toList o with
  | true =>
   simp only [hw, cond_true] at h3
   split at h3
   ·split at h3
    ·rename_i s1 hp
     simp only [Option.some.injEq, Prod.mk.injEq] at h3
     rw [← h3.1]
     exact ⟨(St.put_h hp).2.1, (St.put_h hp).2.2⟩
    ·cases h3
   ·split at h3
    ·rename_i s1 hp
     simp only [Option.some.injEq, Prod.mk.injEq] at h3
     rw [← h3.1]
     exact ⟨(St.put_h hp).2.1, (St.put_h hp).2.2⟩
    ·cases h3
   ·split at h3
    ·rename_i s1 hp
     simp only [Option.some.injEq, Prod.mk.injEq] at h3
     rw [← h3.1]
     exact ⟨(St.put_h hp).2.1, (St.put_h hp).2.2⟩
    ·cases h3
   ·split at h3
    ·split at h3
     ·rename_i s1 hp
      simp only [Option.some.injEq, Prod.mk.injEq] at h3
      rw [← h3.1]
      exact ⟨(St.put_h hp).2.1, (St.put_h hp).2.2⟩
     ·cases h3
    ·cases h3
   ·cases h3
  | false =>
   simp only [hw, cond_false] at h3
   split at h3
   ·rename_i s1 hp
    simp only [Option.some.injEq, Prod.mk.injEq] at h3
    rw [← h3.1]
    exact ⟨(St.put_h hp).2.1, (St.put_h hp).2.2⟩
   ·cases h3
section inv
variable {D : Nat → Prop} {ρ0 ρ : Ren} {w0 w : World} {S : Nat → Prop} {a : Act} (v : Inv D ops f n ρ0 w0 S ρ a w)
include v
theorem Inv.comes_S {i : Nat} (hi : i < n) : ∀ j, comes bf i j = true → S j → S i := by
 intro j
 induction j using Nat.strongRecOn with
 | _ j ih =>
  intro hc hj
  obtain ⟨oj, hoj, _⟩ := d.tr j (v.sub j hj)
  obtain ⟨e, he, hb, h⟩ := d.b1 i j oj hi hoj hc
  have hS := v.closed j oj hj hoj e he hb
  rcases h with h | h
  ·rw [← h]; exact hS
  ·exact ih e.on (d.b4 j oj hoj e he hb) h hS
variable {i : Nat} {o : Oper} (ho : ops[i]? = some o) (hiS : ¬ S i) (hed : ∀ e ∈ o.after, Region.binds .any e = true → S e.on)
include ho hiS hed
theorem Inv.sync {j : Nat} (hj : j < n) (h : comes bf i j = true ∨ comes bf j i = true) : j < i ↔ S j := by
 have hi := d.op_lt ho
 rcases h with h | h
 ·have hlt := d.b3 i j hi hj h
  constructor
  ·intro h2; omega
  ·intro h2; exact absurd (v.comes_S d hi j h h2) hiS
 ·have hlt := d.b3 j i hj hi h
  constructor
  ·intro _
   obtain ⟨e, he, hb, h3⟩ := d.b1 j i o hj ho h
   have hS := hed e he hb
   rcases h3 with h3 | h3
   ·rw [← h3]; exact hS
   ·exact v.comes_S d hj e.on h3 hS
  ·intro _; exact hlt
theorem Inv.sync_tmp {j : Nat} {oj : Oper} (hoj : ops[j]? = some oj) (hne : j ≠ i) (h : (∃ t, oj.dst = some t ∧ (t ∈ o.looksAt ops ∨ o.dst = some t))) : j < i ↔ S j := by
 have hj := d.op_lt hoj
 obtain ⟨t, ht, h⟩ := h
 refine v.sync d ho hiS hed hj ?_
 rcases Nat.lt_or_ge j i with hlt | hge
 ·rcases d.b2 j i oj o hoj ho hlt with h1 | h1
  ·exact .inr h1
  ·obtain ⟨a1, a2, a3⟩ := Oper.apart_spec h1
   rcases h with h | h
   ·exact absurd h (a1 t ht)
   ·exact absurd h (a2 t ht)
 ·rcases d.b2 i j o oj ho hoj (by omega) with h1 | h1
  ·exact .inl h1
  ·obtain ⟨a1, a2, a3⟩ := Oper.apart_spec h1
   rcases h with h | h
   ·exact absurd h (a3 t ht)
   ·exact absurd ht (a2 t h)
theorem Inv.look {t : Nat} (ht : t ∈ o.looksAt ops) : ((f i).slot t).rel ρ (a.tmps.getD t undef) := by
 obtain ⟨m, hm, hs, hr⟩ := v.tm t
 have hi := d.op_lt ho
 have key : ∀ j oj, ops[j]? = some oj → oj.dst = some t → (j < m ↔ j < i) := fun j oj hoj hdj => by
  rw [hs j oj hoj hdj]
  by_cases e : j = i
  ·subst e
   constructor
   ·intro h; exact absurd h hiS
   ·intro h; omega
  ·exact (v.sync_tmp d ho hiS hed hoj e ⟨t, hdj, .inl ht⟩).symm
 have : (f i).slot t = (f m).slot t := by
  rcases Nat.le_total m i with h | h
  ·refine d.same_slot m i h (by omega) fun j oj h1 h2 hoj hdj => ?_
   have := (key j oj hoj hdj).2 h2
   omega
  ·refine (d.same_slot i m h hm fun j oj h1 h2 hoj hdj => ?_).symm
   have := (key j oj hoj hdj).1 h2
   omega
 rw [this]
 exact hr
omit v hed in
theorem Inv.stage {m : Nat → Nat} (hp : HPm D f n S ρ w m) {id : Nat} {x : Nat × Nat} (hρ : ρ id = some x) (hin : id < (f i).h.next ∨ (f n).h.next ≤ id) (hs : ∀ j, j < n → Mo f j id → j ≠ i → (j < i ↔ S j)) :
    (f (m id)).h.get id = (f i).h.get id := by
 have hi := d.op_lt ho
 have key : ∀ j, j < n → Mo f j id → (j < m id ↔ j < i) := fun j hj hm => by
  rw [hp.mod id j (by simp [hρ]) hj hm]
  by_cases e : j = i
  ·subst e
   constructor
   ·intro h; exact absurd h hiS
   ·intro h; omega
  ·exact (hs j hj hm e).symm
 have hml := hp.mle id
 rcases Nat.le_total (m id) i with h | h
 ·refine (d.same_get (m id) i h (by omega) (hp.inn id x hρ) fun j h1 h2 hm => ?_).symm
  have := (key j (by omega) hm).2 h2
  omega
 ·refine d.same_get i (m id) h hml hin fun j h1 h2 hm => ?_
  have := (key j (by omega) hm).1 h2
  omega
theorem Inv.next {ρ' : Ren} {w' : World} {u : AV} {u' : Value} (hp' : ∃ m, HPm D f n (fun j => S j ∨ j = i) ρ' w' m) (hle : Ren.le ρ ρ') (hu : u.rel ρ' u')
    (hdom : ∀ id x, ρ' id = some x → ρ id = some x ∨ ((f i).h.next ≤ id ∧ id < (f (i + 1)).h.next)) (hfr : Fr D w w')
    (hnr : ∀ ad l, ρ'.reg ad l → ρ.reg ad l ∨ Digits l ∨ w.heap.size ≤ ad.block)
    (hslot : ∀ t, (f (i + 1)).slot t = if o.dst = some t then u else (f i).slot t) (hb : ∀ t, o.dst = some t → t < (f 0).n) :
    Inv D ops f n ρ0 w0 (fun j => S j ∨ j = i) ρ' (a.put o.dst u') w' := by
 have hi := d.op_lt ho
 refine ⟨?_, ?_, by rw [size_put]; exact v.tsz, ?_, by rw [defers_put]; exact relDs_mono hle v.ds, hp', ?_, v.le.trans hle, v.fr.trans hfr, fun b hb => v.far b (Nat.le_trans hfr.size hb), ?_, fun ad l hl => ?_⟩
 ·rintro j oj (hj | rfl) hoj e he hbd
  ·exact .inl (v.closed j oj hj hoj e he hbd)
  ·rw [ho] at hoj
   injection hoj with hoj
   subst hoj
   exact .inl (hed e he hbd)
 ·rintro j (hj | rfl)
  ·exact v.sub j hj
  ·exact hi
 ·intro t
  rw [getD_put t (fun dd hdd => by rw [v.tsz]; exact hb dd hdd)]
  by_cases e : o.dst = some t
  ·rw [if_pos e]
   refine ⟨i + 1, by omega, fun j oj hoj hdj => ?_, by rw [hslot, if_pos e]; exact hu⟩
   by_cases hji : j = i
   ·subst hji
    constructor
    ·intro _; exact .inr rfl
    ·intro _; omega
   ·have := v.sync_tmp d ho hiS hed hoj hji ⟨t, hdj, .inr e⟩
    constructor
    ·intro h; exact .inl (this.1 (by omega))
    ·rintro (h | h)
     ·have := this.2 h; omega
     ·exact absurd h hji
  ·rw [if_neg e]
   obtain ⟨m, hm, hs, hr⟩ := v.tm t
   refine ⟨m, hm, fun j oj hoj hdj => ?_, AV.rel_mono hle _ _ hr⟩
   have hji : j ≠ i := by
    intro hji
    subst hji
    rw [ho] at hoj
    injection hoj with hoj
    subst hoj
    exact e hdj
   rw [hs j oj hoj hdj]
   constructor
   ·intro h; exact .inl h
   ·rintro (h | h)
    ·exact h
    ·exact absurd h hji
 ·intro id x hx
  rcases hdom id x hx with h | h
  ·rcases v.dom id x h with h | ⟨k, h1, h2⟩
   ·exact .inl h
   ·exact .inr ⟨k, .inl h1, h2⟩
  ·exact .inr ⟨i, .inr rfl, h⟩
 ·intro id hid
  have h1 := d.next_mono 0 i (by omega) (by omega)
  have h2 := d.next_mono (i + 1) n (by omega) (Nat.le_refl _)
  rw [← v.ext id hid]
  cases hx : ρ' id with
  | some x =>
   rcases hdom id x hx with h | h
   ·exact h.symm
   ·omega
  | none =>
   cases hy : ρ id with
   | none => rfl
   | some y => rw [hle.f id y hy] at hx; cases hx
 ·rcases hnr ad l hl with h | h | h
  ·exact v.nreg ad l h
  ·exact .inr (.inl h)
  ·exact .inr (.inr (Nat.le_trans v.fr.size h))
omit hed in
theorem Inv.free (hf : Free ρ0 (f 0).h.next (f n).h.next) : Free ρ (f i).h.next (f (i + 1)).h.next := by
 have hi := d.op_lt ho
 intro id h1 h2
 cases hx : ρ id with
 | none => rfl
 | some x =>
  exfalso
  have m1 := d.next_mono 0 i (by omega) (by omega)
  have m2 := d.next_mono (i + 1) n (by omega) (Nat.le_refl _)
  rcases v.dom id x hx with h | ⟨k, hk, h3, h4⟩
  ·have := hf id (by omega) (by omega)
   rw [this] at h
   cases h
  ·have hkn := v.sub k hk
   rcases Nat.lt_trichotomy k i with h | h | h
   ·have := d.next_mono (k + 1) i (by omega) (by omega)
    omega
   ·subst h; exact hiS hk
   ·have := d.next_mono (i + 1) k (by omega) (by omega)
    omega
omit d hed in
theorem Inv.hp_same (hno : ∀ id, ¬ Mo f i id) {w' : World} (hw : ∀ b, b < w.heap.size → w'.heap[b]? = w.heap[b]?) : ∃ m, HPm D f n (fun j => S j ∨ j = i) ρ w' m := by
 obtain ⟨m, hp⟩ := v.hp
 refine ⟨m, hp.mle, fun id j hρ hj hm => ?_, hp.inn, fun id b c o hρ hg => ?_, hp.inj, fun ad l hr => ⟨cells_keep (hp.reg ad l hr).cell (Ren.le.refl _) fun hne => hw _ ((hp.reg ad l hr).lt hne), (hp.reg ad l hr).own, (hp.reg ad l hr).pur⟩⟩
 ·rw [hp.mod id j hρ hj hm]
  constructor
  ·intro h; exact .inl h
  ·rintro (h | h)
   ·exact h
   ·subst h; exact absurd hm (hno id)
 ·obtain ⟨h1, o', h2, h3⟩ := hp.obj id b c o hρ hg
  exact ⟨h1, o', by rw [hw b (Array.getElem?_eq_some_iff.1 h2).1]; exact h2, h3⟩
include hcl in
theorem Inv.no_new (hf : Free ρ0 (f 0).h.next (f n).h.next) {id j : Nat} (hj : j < n) (hm : Mo f j id) (h1 : (f i).h.next ≤ id) (h2 : id < (f (i + 1)).h.next) : (j < i + 1 ↔ (S j ∨ j = i)) := by
 obtain ⟨h3, h4⟩ := d.c2 hcl (d.op_lt ho) hj hm h1 h2
 have := v.sync d ho hiS hed hj (.inl h4)
 constructor
 ·intro h; omega
 ·rintro (h | h)
  ·have := this.2 h; omega
  ·omega
include hcl in
theorem Inv.hp_alloc (hf : Free ρ0 (f 0).h.next (f n).h.next) (hno : ∀ id, ¬ Mo f i id) {hE : Hp} (hal : Alike (f i).h (f (i + 1)).h hE) {ρ' : Ren} {w' : World} (st : Step (fun b => w.heap.size ≤ b) ρ (f i).h.bare w ρ' hE w') :
    ∃ m, HPm D f n (fun j => S j ∨ j = i) ρ' w' m := by
 have hi := d.op_lt ho
 obtain ⟨m, hp⟩ := v.hp
 have hfree := v.free d ho hiS hf
 have hnx : hE.next = (f (i + 1)).h.next := hal.get.2.1.symm
 have hnx2 := hal.get.2.2
 have hold : ∀ id, ρ id ≠ none → ρ' id = ρ id := fun id h => by
  cases hx : ρ id with
  | none => exact absurd hx h
  | some x => exact st.le.f id x hx
 have hnew : ∀ id x, ρ' id = some x → ρ id = none → (f i).h.next ≤ id ∧ id < (f (i + 1)).h.next := fun id x hx hn => by
  rcases Nat.lt_or_ge id (f i).h.next with h | h
  ·rw [st.dom id (.inl h)] at hx; rw [hn] at hx; cases hx
  ·rcases Nat.lt_or_ge id (f (i + 1)).h.next with h2 | h2
   ·exact ⟨h, h2⟩
   ·rw [st.dom id (.inr (by omega))] at hx; rw [hn] at hx; cases hx
 have hget : ∀ id, (f i).h.next ≤ id → (f (i + 1)).h.get id = hE.get id := fun id hid => by
  rcases hal with ⟨h1, h2⟩ | ⟨ob, h1, h2⟩
  ·rw [h1, h2, d.born i (by omega) id hid]
   simp [Hp.get, Hp.bare]
  ·rw [(Hp.new_get h1).2.2 id, (Hp.new_get h2).2.2 id]
   by_cases e : id = (f i).h.next
   ·rw [if_pos e, if_pos (by rw [e]; rfl)]
   ·rw [if_neg e, if_neg (by intro h; exact e h), d.born i (by omega) id hid]
    simp [Hp.get, Hp.bare]
 have hfrw : ∀ b, b < w.heap.size → w'.heap[b]? = w.heap[b]? := fun b hb => st.fr.block b hb (by omega)
 have hobj : ∀ id b c ob, ρ' id = some (b, c) → (f (if ρ id = none then i + 1 else m id)).h.get id = some ob → D b ∧ ∃ o', w'.heap[b]? = some o' ∧ ob.rel ρ' c o' := fun id b c ob hρ hg => by
  by_cases e : ρ id = none
  ·simp only [e, if_true] at hg
   have h1 := hnew id _ hρ e
   rw [hget id h1.1] at hg
   obtain ⟨h2, o', h3, h4⟩ := st.hr.obj id b c ob hρ hg
   exact ⟨v.far b h2, o', h3, h4⟩
  ·simp only [e, if_false] at hg
   rw [hold id e] at hρ
   obtain ⟨h1, o', h2, h3⟩ := hp.obj id b c ob hρ hg
   exact ⟨h1, o', by rw [hfrw b (Array.getElem?_eq_some_iff.1 h2).1]; exact h2, AO.rel_mono st.le h3⟩
 refine ⟨fun id => if ρ id = none then i + 1 else m id, fun id => ?_, fun id j hρ hj hm => ?_, fun id x hx => ?_, hobj, fun x y b c c' hx hy hlx hly => ?_, fun ad l hr => ⟨(st.hr.reg ad l hr).cell, fun hne id c hρ => ?_, (st.hr.reg ad l hr).pur⟩⟩
 ·show (if ρ id = none then i + 1 else m id) ≤ n
  split
  ·omega
  ·exact hp.mle id
 ·show j < (if ρ id = none then i + 1 else m id) ↔ _
  by_cases e : ρ id = none
  ·rw [if_pos e]
   cases hx : ρ' id with
   | none => exact absurd hx hρ
   | some x =>
    obtain ⟨h1, h2⟩ := hnew id x hx e
    exact v.no_new hcl d ho hiS hed hf hj hm h1 h2
  ·rw [if_neg e, hp.mod id j e hj hm]
   constructor
   ·intro h; exact .inl h
   ·rintro (h | h)
    ·exact h
    ·subst h; exact absurd hm (hno id)
 ·show id < (f (if ρ id = none then i + 1 else m id)).h.next ∨ _
  by_cases e : ρ id = none
  ·rw [if_pos e]
   exact .inl (hnew id x hx e).2
  ·rw [if_neg e]
   rw [hold id e] at hx
   exact hp.inn id x hx
 ·have hnb : ∀ z c, ρ' z = some (b, c) → ρ z = none → (f (i + 1)).h.get z ≠ none → w.heap.size ≤ b := fun z c hz e hl => by
    have h1 := hnew z _ hz e
    cases hg : (f (i + 1)).h.get z with
    | none => exact absurd hg hl
    | some ob => exact (st.hr.obj z b c ob hz (by rw [← hget z h1.1]; exact hg)).1
  have hob : ∀ z c, ρ' z = some (b, c) → ρ z ≠ none → (f (m z)).h.get z ≠ none → b < w.heap.size := fun z c hz e hl => by
   rw [hold z e] at hz
   cases hg : (f (m z)).h.get z with
   | none => exact absurd hg hl
   | some ob =>
    obtain ⟨_, o', h2, _⟩ := hp.obj z b c ob hz hg
    exact (Array.getElem?_eq_some_iff.1 h2).1
  by_cases ex : ρ x = none
  ·simp only [ex, if_true] at hlx
   by_cases ey : ρ y = none
   ·have h1 := hnew x _ hx ex
    have h2 := hnew y _ hy ey
    omega
   ·simp only [ey, if_false] at hly
    have h1 := hnb x c hx ex hlx
    have h2 := hob y c' hy ey hly
    omega
  ·simp only [ex, if_false] at hlx
   by_cases ey : ρ y = none
   ·simp only [ey, if_true] at hly
    have h1 := hnb y c' hy ey hly
    have h2 := hob x c hx ex hlx
    omega
   ·simp only [ey, if_false] at hly
    rw [hold x ex] at hx
    rw [hold y ey] at hy
    exact hp.inj x y b c c' hx hy hlx hly
 ·cases hg : (f (if ρ id = none then i + 1 else m id)).h.get id with
  | none => rfl
  | some ob =>
   exfalso
   obtain ⟨_, o', h2, h3⟩ := hobj id _ c ob hρ hg
   by_cases e : ρ id = none
   ·simp only [e, if_true] at hg
    have h1 := hnew id _ hρ e
    have := (st.hr.reg ad l hr).own hne id c hρ
    rw [← hget id h1.1, hg] at this
    cases this
   ·simp only [e, if_false] at hg
    rcases st.nreg ad l hr with h | h | h
    ·rw [hold id e] at hρ
     have := (hp.reg ad l h).own hne id c hρ
     rw [hg] at this
     cases this
    ·exact h.cell (st.hr.reg ad l hr).cell h2 h3
    ·rw [hold id e] at hρ
     obtain ⟨_, o2, h4, _⟩ := hp.obj id _ c ob hρ hg
     have := (Array.getElem?_eq_some_iff.1 h4).1
     omega
end inv
end
end Go.Iv
end
section
set_option linter.unusedVariables false
set_option linter.unusedSimpArgs false
namespace Go.Iv
open Go
section
variable {P : Program} {call : CallF} {T : Tab} {ops : Array Oper} {bf : List Nat} {f : Nat → St} {fp : Nat → Fp} {n : Nat} (d : DCtx call T ops bf f fp n) (hcl : CallLe call)
variable {D : Nat → Prop} {ρ0 ρ : Ren} {w0 w : World} {S : Nat → Prop} {a : Act} (v : Inv D ops f n ρ0 w0 S ρ a w)
variable {i : Nat} {o : Oper} (ho : ops[i]? = some o) (hiS : ¬ S i) (hed : ∀ e ∈ o.after, Region.binds .any e = true → S e.on)
include d hcl v ho hiS hed
theorem Inv.sync_lk {id : Nat} (hl : Lk fp i id) {j : Nat} (hj : j < n) (hm : Mo f j id) (hne : j ≠ i) : j < i ↔ S j :=
 v.sync d ho hiS hed hj (d.c1 hcl (d.op_lt ho) hj (Ne.symm hne) hm hl)
theorem Inv.hp_store {b : Nat} (hfp : fp i = .wr b) {ob : AO} {w' : World} {b' c' : Nat} {ob' : Obj} (hput : (f i).h.put b (some ob) = some (f (i + 1)).h) (hlive : (f i).h.get b ≠ none) (hρ : ρ b = some (b', c'))
    (hw : w'.heap[b']? = some ob') (hrel : ob.rel ρ c' ob') (hother : ∀ j, j ≠ b' → w'.heap[j]? = w.heap[j]?) : ∃ m, HPm D f n (fun j => S j ∨ j = i) ρ w' m := by
 have hi := d.op_lt ho
 obtain ⟨m, hp⟩ := v.hp
 obtain ⟨p1, p2, p3, p4, p5⟩ := Hp.put_get hput
 have hst : (f (m b)).h.get b = (f i).h.get b := Inv.stage d ho hiS hp hρ (.inl p1) fun j hj hm hne => v.sync_lk d hcl ho hiS hed (.inr (.inl hfp)) hj hm hne
 have hlive' : (f (m b)).h.get b ≠ none := by rw [hst]; exact hlive
 refine ⟨fun id => if id = b then i + 1 else m id, fun id => ?_, fun id j hρ' hj hm => ?_, fun id x hx => ?_, fun id c e ob2 hρ' hg => ?_, fun x y c e e' hx hy hlx hly => ?_, fun ad l hr => ⟨cells_keep (hp.reg ad l hr).cell (Ren.le.refl _) fun hne => hother _ fun e => hlive' ((hp.reg ad l hr).own hne b c' (by rw [e]; exact hρ)), fun hne id c2 hρ2 => ?_, (hp.reg ad l hr).pur⟩⟩
 ·show (if id = b then i + 1 else m id) ≤ n
  split
  ·omega
  ·exact hp.mle id
 ·show j < (if id = b then i + 1 else m id) ↔ _
  by_cases e : id = b
  ·subst e
   rw [if_pos rfl]
   by_cases hji : j = i
   ·subst hji
    constructor
    ·intro _; exact .inr rfl
    ·intro _; omega
   ·have := v.sync_lk d hcl ho hiS hed (.inr (.inl hfp)) hj hm hji
    constructor
    ·intro h; exact .inl (this.1 (by omega))
    ·rintro (h | h)
     ·have := this.2 h; omega
     ·exact absurd h hji
  ·rw [if_neg e, hp.mod id j hρ' hj hm]
   constructor
   ·intro h; exact .inl h
   ·rintro (h | h)
    ·exact h
    ·subst h
     have := hm.2
     rw [p5, if_neg e] at this
     exact absurd rfl this
 ·show id < (f (if id = b then i + 1 else m id)).h.next ∨ _
  by_cases e : id = b
  ·rw [if_pos e, p2, e]
   exact .inl p1
  ·rw [if_neg e]
   exact hp.inn id x hx
 ·by_cases e1 : id = b
  ·subst e1
   simp only [if_true] at hg
   rw [hρ] at hρ'
   simp only [Option.some.injEq, Prod.mk.injEq] at hρ'
   obtain ⟨rfl, rfl⟩ := hρ'
   rw [p5, if_pos rfl] at hg
   simp only [Option.some.injEq] at hg
   subst hg
   cases hg0 : (f (m id)).h.get id with
   | none => exact absurd hg0 hlive'
   | some o0 => exact ⟨(hp.obj id b' c' o0 hρ hg0).1, ob', hw, hrel⟩
  ·simp only [e1, if_false] at hg
   obtain ⟨h1, o', h2, h3⟩ := hp.obj id c e ob2 hρ' hg
   refine ⟨h1, o', ?_, h3⟩
   rw [hother]
   ·exact h2
   ·intro hc
    subst hc
    exact e1 (hp.inj id b c e c' hρ' hρ (by simp [hg]) hlive')
 ·have hl : ∀ z, (f (if z = b then i + 1 else m z)).h.get z ≠ none → (f (m z)).h.get z ≠ none := fun z hz => by
    by_cases e : z = b
    ·subst e; exact hlive'
    ·rw [if_neg e] at hz; exact hz
  exact hp.inj x y c e e' hx hy (hl x hlx) (hl y hly)
 ·have h1 := (hp.reg ad l hr).own hne id c2 hρ2
  by_cases e : id = b
  ·subst e; exact absurd h1 hlive'
  ·show (f (if id = b then i + 1 else m id)).h.get id = none
   rw [if_neg e]; exact h1
def FullD (f : Nat → St) (ρ : Ren) (w : World) (i : Nat) (b : Nat) : Prop := w.heap.size ≤ b ∨ ∃ id c, ρ id = some (b, c) ∧ (f i).h.get id ≠ none
theorem Inv.full {c : Bool} (hfp : fp i = .call c) {h : Hp} (hh : ∀ id, h.get id = (f i).h.get id) (hn : h.next = (f i).h.next) : HR (FullD f ρ w i) ρ h w ∧ ∀ b, FullD f ρ w i b → D b := by
 have hi := d.op_lt ho
 obtain ⟨m, hp⟩ := v.hp
 have hst : ∀ id x, ρ id = some x → id < (f i).h.next → (f (m id)).h.get id = (f i).h.get id := fun id x hx hid =>
  Inv.stage d ho hiS hp hx (.inl hid) fun j hj hm hne => v.sync_lk d hcl ho hiS hed (.inr (.inr (.inl ⟨c, hfp⟩))) hj hm hne
 have hlt : ∀ id, (f i).h.get id ≠ none → id < (f i).h.next := fun id hl => by
  rcases Nat.lt_or_ge id (f i).h.next with h | h
  ·exact h
  ·exact absurd (d.born i (by omega) id h) hl
 refine ⟨⟨fun id b e ob hρ hg => ?_, fun x y b e e' hx hy hlx hly => ?_, fun id hid => ?_, fun b hb => .inl hb, fun ad l hr => ⟨(hp.reg ad l hr).cell, fun hne id e hρ => ?_, (hp.reg ad l hr).pur⟩⟩, ?_⟩
 ·rw [hh] at hg
  have hl : (f i).h.get id ≠ none := by simp [hg]
  refine ⟨.inr ⟨id, e, hρ, hl⟩, ?_⟩
  rw [← hst id _ hρ (hlt id hl)] at hg
  exact (hp.obj id b e ob hρ hg).2
 ·rw [hh] at hlx hly
  have h1 := hlt x hlx
  have h2 := hlt y hly
  rw [← hst x _ hx h1] at hlx
  rw [← hst y _ hy h2] at hly
  exact hp.inj x y b e e' hx hy hlx hly
 ·rw [hh]
  exact d.born i (by omega) id (by omega)
 ·rw [hh]
  cases hg : (f i).h.get id with
  | none => rfl
  | some ob =>
   have h1 := hlt id (by rw [hg]; simp)
   have := (hp.reg ad l hr).own hne id e hρ
   rw [hst id _ hρ h1, hg] at this
   cases this
 ·rintro b (hb | ⟨id, e, hρ, hl⟩)
  ·exact v.far b hb
  ·have h1 := hlt id hl
   cases hg : (f i).h.get id with
   | none => exact absurd hg hl
   | some ob =>
    rw [← hst id _ hρ h1] at hg
    exact (hp.obj id b e ob hρ hg).1
theorem Inv.hp_full (hf : Free ρ0 (f 0).h.next (f n).h.next) {c : Bool} (hfp : fp i = .call c) {h h1 : Hp} (hh : ∀ id, h.get id = (f i).h.get id) (hn : h.next = (f i).h.next)
    (hh1 : ∀ id, (f (i + 1)).h.get id = h1.get id) (hn1 : (f (i + 1)).h.next = h1.next) {ρ' : Ren} {w' : World} (st : Step (FullD f ρ w i) ρ h w ρ' h1 w') : ∃ m, HPm D f n (fun j => S j ∨ j = i) ρ' w' m := by
 have hi := d.op_lt ho
 obtain ⟨hfull, hDD⟩ := v.full d hcl ho hiS hed hfp hh hn
 obtain ⟨m, hp⟩ := v.hp
 have hfree := v.free d ho hiS hf
 have hst : ∀ id x, ρ id = some x → id < (f i).h.next → (f (m id)).h.get id = (f i).h.get id := fun id x hx hid =>
  Inv.stage d ho hiS hp hx (.inl hid) fun j hj hm hne => v.sync_lk d hcl ho hiS hed (.inr (.inr (.inl ⟨c, hfp⟩))) hj hm hne
 have hlt : ∀ id, (f i).h.get id ≠ none → id < (f i).h.next := fun id hl => by
  rcases Nat.lt_or_ge id (f i).h.next with h | h
  ·exact h
  ·exact absurd (d.born i (by omega) id h) hl
 have hnx := d.next_mono i (i + 1) (by omega) (by omega)
 have hfar : ∀ id, (f (i + 1)).h.next ≤ id → ρ' id = ρ id := fun id hid => st.dom id (.inr (by omega))
 have hearly : ∀ id b e, ρ id = some (b, e) → (f (i + 1)).h.next ≤ id → (f (m id)).h.get id ≠ none → ¬ FullD f ρ w i b := fun id b e hρ hid hl => by
  rintro (hb | ⟨id2, e2, hρ2, hl2⟩)
  ·cases hg : (f (m id)).h.get id with
   | none => exact absurd hg hl
   | some ob =>
    obtain ⟨_, o', h2, _⟩ := hp.obj id b e ob hρ hg
    have := (Array.getElem?_eq_some_iff.1 h2).1
    omega
  ·have h2 := hlt id2 hl2
   rw [← hst id2 _ hρ2 h2] at hl2
   have := hp.inj id id2 b e e2 hρ hρ2 hl hl2
   omega
 have hobj : ∀ id b e ob, ρ' id = some (b, e) → (f (if id < (f (i + 1)).h.next then i + 1 else m id)).h.get id = some ob → D b ∧ ∃ o', w'.heap[b]? = some o' ∧ ob.rel ρ' e o' := fun id b e ob hρ hg => by
  by_cases e1 : id < (f (i + 1)).h.next
  ·simp only [e1, if_true] at hg
   rw [hh1] at hg
   obtain ⟨h2, o', h3, h4⟩ := st.hr.obj id b e ob hρ hg
   exact ⟨hDD b h2, o', h3, h4⟩
  ·simp only [e1, if_false] at hg
   rw [hfar id (by omega)] at hρ
   obtain ⟨h2, o', h3, h4⟩ := hp.obj id b e ob hρ hg
   refine ⟨h2, o', ?_, AO.rel_mono st.le h4⟩
   rw [st.fr.block b (Array.getElem?_eq_some_iff.1 h3).1 (hearly id b e hρ (by omega) (by simp [hg]))]
   exact h3
 refine ⟨fun id => if id < (f (i + 1)).h.next then i + 1 else m id, fun id => ?_, fun id j hρ hj hm => ?_, fun id x hx => ?_, hobj, fun x y b e e' hx hy hlx hly => ?_, fun ad l hr => ⟨(st.hr.reg ad l hr).cell, fun hne id c hρ => ?_, (st.hr.reg ad l hr).pur⟩⟩
 ·show (if id < (f (i + 1)).h.next then i + 1 else m id) ≤ n
  split
  ·omega
  ·exact hp.mle id
 ·show j < (if id < (f (i + 1)).h.next then i + 1 else m id) ↔ _
  by_cases e : id < (f (i + 1)).h.next
  ·rw [if_pos e]
   rcases Nat.lt_or_ge id (f i).h.next with h2 | h2
   ·by_cases hji : j = i
    ·subst hji
     constructor
     ·intro _; exact .inr rfl
     ·intro _; omega
    ·have := v.sync_lk d hcl ho hiS hed (.inr (.inr (.inl ⟨c, hfp⟩))) hj hm hji
     constructor
     ·intro h; exact .inl (this.1 (by omega))
     ·rintro (h | h)
      ·have := this.2 h; omega
      ·exact absurd h hji
   ·exact v.no_new hcl d ho hiS hed hf hj hm h2 e
  ·rw [if_neg e]
   have hρ2 : ρ id ≠ none := by rw [← hfar id (by omega)]; exact hρ
   rw [hp.mod id j hρ2 hj hm]
   constructor
   ·intro h; exact .inl h
   ·rintro (h | h)
    ·exact h
    ·subst h
     have := hm.1
     omega
 ·show id < (f (if id < (f (i + 1)).h.next then i + 1 else m id)).h.next ∨ _
  by_cases e : id < (f (i + 1)).h.next
  ·rw [if_pos e]; exact .inl e
  ·rw [if_neg e]
   rw [hfar id (by omega)] at hx
   exact hp.inn id x hx
 ·have hlo : ∀ z e, ρ' z = some (b, e) → z < (f (i + 1)).h.next → (f (i + 1)).h.get z ≠ none → FullD f ρ w i b := fun z e hz hlz hl => by
    cases hg : (f (i + 1)).h.get z with
    | none => exact absurd hg hl
    | some ob => exact (st.hr.obj z b e ob hz (by rw [← hh1]; exact hg)).1
  by_cases ex : x < (f (i + 1)).h.next
  ·simp only [ex, if_true] at hlx
   by_cases ey : y < (f (i + 1)).h.next
   ·simp only [ey, if_true] at hly
    exact st.hr.inj x y b e e' hx hy (by rw [← hh1]; exact hlx) (by rw [← hh1]; exact hly)
   ·simp only [ey, if_false] at hly
    rw [hfar y (by omega)] at hy
    exact absurd (hlo x e hx ex hlx) (hearly y b e' hy (by omega) hly)
  ·simp only [ex, if_false] at hlx
   rw [hfar x (by omega)] at hx
   by_cases ey : y < (f (i + 1)).h.next
   ·simp only [ey, if_true] at hly
    exact absurd (hlo y e' hy ey hly) (hearly x b e hx (by omega) hlx)
   ·simp only [ey, if_false] at hly
    rw [hfar y (by omega)] at hy
    exact hp.inj x y b e e' hx hy hlx hly
 ·cases hg : (f (if id < (f (i + 1)).h.next then i + 1 else m id)).h.get id with
  | none => rfl
  | some ob =>
   exfalso
   obtain ⟨_, o', h2, h3⟩ := hobj id _ c ob hρ hg
   by_cases e : id < (f (i + 1)).h.next
   ·simp only [e, if_true] at hg
    have := (st.hr.reg ad l hr).own hne id c hρ
    rw [← hh1, hg] at this
    cases this
   ·simp only [e, if_false] at hg
    rw [hfar id (by omega)] at hρ
    rcases st.nreg ad l hr with h | h | h
    ·have := (hp.reg ad l h).own hne id c hρ
     rw [hg] at this
     cases this
    ·exact h.cell (st.hr.reg ad l hr).cell h2 h3
    ·obtain ⟨_, o2, h4, _⟩ := hp.obj id _ c ob hρ hg
     have := (Array.getElem?_eq_some_iff.1 h4).1
     omega
def restrict (h : Hp) (l : List Nat) : Hp := ⟨h.next, h.low, fun id => cond (memN id l) (h.get id) none⟩
def PartD (f : Nat → St) (ρ : Ren) (w : World) (i : Nat) (l : List Nat) (b : Nat) : Prop := w.heap.size ≤ b ∨ ∃ id c, memN id l = true ∧ ρ id = some (b, c) ∧ (f i).h.get id ≠ none
omit v hcl ho hiS hed in
theorem restrict_in {rs : List Nat} {wo : Option Nat} (hi : i ≤ n) : PartIn rs (f i).h (restrict (f i).h (rs ++ optL wo)) := by
 refine ⟨rfl, rfl, fun id hid => ?_, fun id hid => ?_⟩
 ·have : memN id (rs ++ optL wo) = true := (memN_iff id _).2 (List.mem_append.2 (.inl hid))
  simp [restrict, Hp.get, this]
 ·have := d.born i hi id hid
  simp only [Hp.get] at this
  cases hm : memN id (rs ++ optL wo) <;> simp [restrict, Hp.get, hm, this]
theorem Inv.part {rs : List Nat} {wo : Option Nat} (hfp : fp i = .app rs wo) : HR (PartD f ρ w i (rs ++ optL wo)) ρ (restrict (f i).h (rs ++ optL wo)) w ∧ ∀ b, PartD f ρ w i (rs ++ optL wo) b → D b := by
 have hi := d.op_lt ho
 obtain ⟨m, hp⟩ := v.hp
 have hst : ∀ id x, ρ id = some x → id < (f i).h.next → memN id (rs ++ optL wo) = true → (f (m id)).h.get id = (f i).h.get id := fun id x hx hid hmem =>
  Inv.stage d ho hiS hp hx (.inl hid) fun j hj hm hne => v.sync_lk d hcl ho hiS hed (.inr (.inr (.inr ⟨rs, wo, hfp, (memN_iff id _).1 hmem⟩))) hj hm hne
 have hlt : ∀ id, (f i).h.get id ≠ none → id < (f i).h.next := fun id hl => by
  rcases Nat.lt_or_ge id (f i).h.next with h | h
  ·exact h
  ·exact absurd (d.born i (by omega) id h) hl
 have hget : ∀ id, (restrict (f i).h (rs ++ optL wo)).get id ≠ none → memN id (rs ++ optL wo) = true ∧ (restrict (f i).h (rs ++ optL wo)).get id = (f i).h.get id := fun id h => by
  cases hm : memN id (rs ++ optL wo) with
  | true => exact ⟨rfl, by simp [restrict, Hp.get, hm]⟩
  | false => simp [restrict, Hp.get, hm] at h
 refine ⟨⟨fun id b e ob hρ hg => ?_, fun x y b e e' hx hy hlx hly => ?_, fun id hid => ?_, fun b hb => .inl hb, fun ad l hr => ⟨(hp.reg ad l hr).cell, fun hne id e hρ => ?_, (hp.reg ad l hr).pur⟩⟩, ?_⟩
 ·obtain ⟨hm, he⟩ := hget id (by rw [hg]; simp)
  rw [he] at hg
  have hl : (f i).h.get id ≠ none := by simp [hg]
  refine ⟨.inr ⟨id, e, hm, hρ, hl⟩, ?_⟩
  rw [← hst id _ hρ (hlt id hl) hm] at hg
  exact (hp.obj id b e ob hρ hg).2
 ·obtain ⟨hmx, hex⟩ := hget x hlx
  obtain ⟨hmy, hey⟩ := hget y hly
  rw [hex] at hlx
  rw [hey] at hly
  have h1 := hlt x hlx
  have h2 := hlt y hly
  rw [← hst x _ hx h1 hmx] at hlx
  rw [← hst y _ hy h2 hmy] at hly
  exact hp.inj x y b e e' hx hy hlx hly
 ·have := d.born i (by omega) id hid
  simp only [Hp.get] at this
  cases hm : memN id (rs ++ optL wo) <;> simp [restrict, Hp.get, hm, this]
 ·cases hg : (restrict (f i).h (rs ++ optL wo)).get id with
  | none => rfl
  | some ob =>
   obtain ⟨hm, he⟩ := hget id (by rw [hg]; simp)
   rw [he] at hg
   have h1 := hlt id (by rw [hg]; simp)
   have := (hp.reg ad l hr).own hne id e hρ
   rw [hst id _ hρ h1 hm, hg] at this
   cases this
 ·rintro b (hb | ⟨id, e, hm, hρ, hl⟩)
  ·exact v.far b hb
  ·have h1 := hlt id hl
   cases hg : (f i).h.get id with
   | none => exact absurd hg hl
   | some ob =>
    rw [← hst id _ hρ h1 hm] at hg
    exact (hp.obj id b e ob hρ hg).1
theorem Inv.hp_part (hf : Free ρ0 (f 0).h.next (f n).h.next) {rs : List Nat} {wo : Option Nat} (hfp : fp i = .app rs wo) {h1R : Hp} (po : PartOut wo (f i).h (f (i + 1)).h (restrict (f i).h (rs ++ optL wo)) h1R)
    {ρ' : Ren} {w' : World} (st : Step (PartD f ρ w i (rs ++ optL wo)) ρ (restrict (f i).h (rs ++ optL wo)) w ρ' h1R w') : ∃ m, HPm D f n (fun j => S j ∨ j = i) ρ' w' m := by
 have hi := d.op_lt ho
 obtain ⟨hpart, hDD⟩ := v.part d hcl ho hiS hed hfp
 obtain ⟨m, hp⟩ := v.hp
 have hlk : ∀ id, memN id (rs ++ optL wo) = true → Lk fp i id := fun id hmem => .inr (.inr (.inr ⟨rs, wo, hfp, (memN_iff id _).1 hmem⟩))
 have hst : ∀ id x, ρ id = some x → id < (f i).h.next → memN id (rs ++ optL wo) = true → (f (m id)).h.get id = (f i).h.get id := fun id x hx hid hmem =>
  Inv.stage d ho hiS hp hx (.inl hid) fun j hj hm hne => v.sync_lk d hcl ho hiS hed (hlk id hmem) hj hm hne
 have hlt : ∀ id, (f i).h.get id ≠ none → id < (f i).h.next := fun id hl => by
  rcases Nat.lt_or_ge id (f i).h.next with h | h
  ·exact h
  ·exact absurd (d.born i (by omega) id h) hl
 have hnx := po.le
 have hnR : h1R.next = (f (i + 1)).h.next := po.next
 have hstay : ∀ id, (id < (f i).h.next ∨ (f (i + 1)).h.next ≤ id) → ρ' id = ρ id := fun id hid => st.dom id (by
  rcases hid with h | h
  ·exact .inl h
  ·exact .inr (by omega))
 let q : Nat → Bool := fun id => (memN id (rs ++ optL wo) && Nat.blt id (f i).h.next) || (Nat.ble (f i).h.next id && Nat.blt id (f (i + 1)).h.next)
 have hq : ∀ id, q id = true ↔ (memN id (rs ++ optL wo) = true ∧ id < (f i).h.next) ∨ ((f i).h.next ≤ id ∧ id < (f (i + 1)).h.next) := fun id => by
  simp only [q, Bool.or_eq_true, Bool.and_eq_true, Nat.blt_eq, Nat.ble_eq]
 have hnq : ∀ id, q id = false → (id < (f i).h.next ∧ memN id (rs ++ optL wo) = false) ∨ (f (i + 1)).h.next ≤ id := fun id h => by
  have h' : ¬ q id = true := by rw [h]; simp
  rw [hq] at h'
  rcases Nat.lt_or_ge id (f i).h.next with h1 | h1
  ·left
   refine ⟨h1, ?_⟩
   cases hm : memN id (rs ++ optL wo) with
   | false => rfl
   | true => exact absurd (.inl ⟨hm, h1⟩) h'
  ·right
   rcases Nat.lt_or_ge id (f (i + 1)).h.next with h2 | h2
   ·exact absurd (.inr ⟨h1, h2⟩) h'
   ·exact h2
 have hnqρ : ∀ id, q id = false → ρ' id = ρ id := fun id h => hstay id (by
  rcases hnq id h with h1 | h1
  ·exact .inl h1.1
  ·exact .inr h1)
 have hgetq : ∀ id, q id = true → h1R.get id = (f (i + 1)).h.get id := fun id h => by
  rcases (hq id).1 h with ⟨h1, h2⟩ | ⟨h1, h2⟩
  ·by_cases e : wo = some id
   ·exact po.same id (.inl e)
   ·obtain ⟨h3, h4⟩ := po.rest id h2 e
    rw [h3, h4]
    simp [restrict, Hp.get, h1]
  ·exact po.same id (.inr h1)
 have hearly : ∀ id b e, ρ id = some (b, e) → q id = false → (f (m id)).h.get id ≠ none → ¬ PartD f ρ w i (rs ++ optL wo) b := fun id b e hρ hid hl => by
  rintro (hb | ⟨id2, e2, hm2, hρ2, hl2⟩)
  ·cases hg : (f (m id)).h.get id with
   | none => exact absurd hg hl
   | some ob =>
    obtain ⟨_, o', h2, _⟩ := hp.obj id b e ob hρ hg
    have := (Array.getElem?_eq_some_iff.1 h2).1
    omega
  ·have h2 := hlt id2 hl2
   rw [← hst id2 _ hρ2 h2 hm2] at hl2
   have := hp.inj id id2 b e e2 hρ hρ2 hl hl2
   subst this
   rcases hnq id hid with h3 | h3
   ·rw [h3.2] at hm2; cases hm2
   ·omega
 have hobj : ∀ id b e ob, ρ' id = some (b, e) → (f (cond (q id) (i + 1) (m id))).h.get id = some ob → D b ∧ ∃ o', w'.heap[b]? = some o' ∧ ob.rel ρ' e o' := fun id b e ob hρ hg => by
  cases hqi : q id with
  | true =>
   simp only [hqi, cond_true] at hg
   rw [← hgetq id hqi] at hg
   obtain ⟨h2, o', h3, h4⟩ := st.hr.obj id b e ob hρ hg
   exact ⟨hDD b h2, o', h3, h4⟩
  | false =>
   simp only [hqi, cond_false] at hg
   rw [hnqρ id hqi] at hρ
   obtain ⟨h2, o', h3, h4⟩ := hp.obj id b e ob hρ hg
   refine ⟨h2, o', ?_, AO.rel_mono st.le h4⟩
   rw [st.fr.block b (Array.getElem?_eq_some_iff.1 h3).1 (hearly id b e hρ hqi (by simp [hg]))]
   exact h3
 refine ⟨fun id => cond (q id) (i + 1) (m id), fun id => ?_, fun id j hρ hj hm => ?_, fun id x hx => ?_, hobj, fun x y b e e' hx hy hlx hly => ?_, fun ad l hr => ⟨(st.hr.reg ad l hr).cell, fun hne id c hρ => ?_, (st.hr.reg ad l hr).pur⟩⟩
 ·cases hqi : q id
  ·simpa [hqi] using hp.mle id
  ·simp [hqi]; omega
 ·cases hqi : q id with
  | true =>
   simp only [cond_true]
   rcases (hq id).1 hqi with ⟨h1, h2⟩ | ⟨h1, h2⟩
   ·by_cases hji : j = i
    ·subst hji
     constructor
     ·intro _; exact .inr rfl
     ·intro _; omega
    ·have := v.sync_lk d hcl ho hiS hed (hlk id h1) hj hm hji
     constructor
     ·intro h; exact .inl (this.1 (by omega))
     ·rintro (h | h)
      ·have := this.2 h; omega
      ·exact absurd h hji
   ·exact v.no_new hcl d ho hiS hed hf hj hm h1 h2
  | false =>
   simp only [cond_false]
   have hρ2 : ρ id ≠ none := by rw [← hnqρ id hqi]; exact hρ
   rw [hp.mod id j hρ2 hj hm]
   constructor
   ·intro h; exact .inl h
   ·rintro (h | h)
    ·exact h
    ·subst h
     exfalso
     rcases hnq id hqi with h1 | h1
     ·rcases d.mo hcl hj hm with e | e | ⟨rs', e⟩ <;> rw [hfp] at e
      ·cases e
      ·cases e
      ·injection e with e1 e2
       have : memN id (rs ++ optL wo) = true := (memN_iff id _).2 (List.mem_append.2 (.inr (by rw [e2]; simp [optL])))
       rw [h1.2] at this
       cases this
     ·have := hm.1
      omega
 ·cases hqi : q id with
  | true =>
   simp only [cond_true]
   left
   rcases (hq id).1 hqi with ⟨h1, h2⟩ | ⟨h1, h2⟩ <;> omega
  | false =>
   simp only [cond_false]
   rw [hnqρ id hqi] at hx
   exact hp.inn id x hx
 ·have hlo : ∀ z e, ρ' z = some (b, e) → q z = true → (f (i + 1)).h.get z ≠ none → PartD f ρ w i (rs ++ optL wo) b := fun z e hz hqz hl => by
    cases hg : (f (i + 1)).h.get z with
    | none => exact absurd hg hl
    | some ob => exact (st.hr.obj z b e ob hz (by rw [hgetq z hqz]; exact hg)).1
  cases ex : q x with
  | true =>
   simp only [ex, cond_true] at hlx
   cases ey : q y with
   | true =>
    simp only [ey, cond_true] at hly
    exact st.hr.inj x y b e e' hx hy (by rw [hgetq x ex]; exact hlx) (by rw [hgetq y ey]; exact hly)
   | false =>
    simp only [ey, cond_false] at hly
    rw [hnqρ y ey] at hy
    exact absurd (hlo x e hx ex hlx) (hearly y b e' hy ey hly)
  | false =>
   simp only [ex, cond_false] at hlx
   rw [hnqρ x ex] at hx
   cases ey : q y with
   | true =>
    simp only [ey, cond_true] at hly
    exact absurd (hlo y e' hy ey hly) (hearly x b e hx ex hlx)
   | false =>
    simp only [ey, cond_false] at hly
    rw [hnqρ y ey] at hy
    exact hp.inj x y b e e' hx hy hlx hly
 ·cases hg : (f (cond (q id) (i + 1) (m id))).h.get id with
  | none => rfl
  | some ob =>
   exfalso
   obtain ⟨_, o', h2, h3⟩ := hobj id _ c ob hρ hg
   cases e : q id with
   | true =>
    simp only [e, cond_true] at hg
    have := (st.hr.reg ad l hr).own hne id c hρ
    rw [hgetq id e, hg] at this
    cases this
   | false =>
    simp only [e, cond_false] at hg
    rw [hnqρ id e] at hρ
    rcases st.nreg ad l hr with h | h | h
    ·have := (hp.reg ad l h).own hne id c hρ
     rw [hg] at this
     cases this
    ·exact h.cell (st.hr.reg ad l hr).cell h2 h3
    ·obtain ⟨_, o2, h4, _⟩ := hp.obj id _ c ob hρ hg
     have := (Array.getElem?_eq_some_iff.1 h4).1
     omega
end
end Go.Iv
end
section
set_option linter.unusedVariables false
set_option linter.unusedSimpArgs false
namespace Go.Iv
open Go
theorem fr_mono {D D' : Nat → Prop} {w w' : World} (h : Fr D' w w') (k : ∀ b, b < w.heap.size → D' b → D b) : Fr D w w' :=
 ⟨h.os, h.tape, h.output, h.size, fun b hb hd => h.block b hb fun e => hd (k b hb e)⟩
theorem put_lt {s s' : St} {dst : Option Tmp} {v : AV} {h : Hp} (k : s.put dst v h = some s') : ∀ t, dst = some t → t < s.n := fun t ht => by
 subst ht
 exact put_dst k
theorem exec {P : Program} {T : Tab} (hT : T.Ok P) {call : CallF} (hc : CallOk P call) (hcl : CallLe call) {ops : Array Oper} {bf : List Nat} {f : Nat → St} {fp : Nat → Fp} {n : Nat} (d : DCtx call T ops bf f fp n)
    {D : Nat → Prop} {ρ0 ρ : Ren} {w0 w : World} {S : Nat → Prop} {a : Act} (v : Inv D ops f n ρ0 w0 S ρ a w) (hf : Free ρ0 (f 0).h.next (f n).h.next) {i : Nat} {o : Oper} (ho : ops[i]? = some o) (hiS : ¬ S i)
    (hed : ∀ e ∈ o.after, Region.binds .any e = true → S e.on) {Q : Exit → Act → World → Prop} {K : Act → World → Prop} (hK : ∀ ρ' a' w', Inv D ops f n ρ0 w0 (fun j => S j ∨ j = i) ρ' a' w' → K a' w') : wpOp P ops Q i K a w := by
 have hi := d.op_lt ho
 obtain ⟨hsn, hsd⟩ := d.stay i (by omega)
 unfold wpOp
 simp only [ho]
 have hwant : Region.wanted o (yielded ops a.tmps) = (f i).wanted ops.toList o := wanted_rel (ρ := ρ) fun j want hg oj dd hj hd => by
  refine v.look d ho hiS hed ?_
  unfold Oper.looksAt
  rw [hg]
  simp only [List.mem_append]
  right
  simp [hj, hd]
 rw [hwant]
 obtain ⟨o', ho', htr⟩ := d.tr i hi
 rw [ho] at ho'
 injection ho' with ho'
 subst ho'
 unfold drawOp at htr
 cases hw : (f i).wanted ops.toList o with
 | false =>
  simp only [hw, cond_false] at htr
  rw [if_neg (by simp)]
  split at htr
  ·rename_i s1 hp
   simp only [Option.some.injEq, Prod.mk.injEq] at htr
   obtain ⟨rfl, hfp⟩ := htr
   refine hK ρ _ w (v.next d ho hiS hed (u := .tuple []) ?_ (Ren.le.refl _) (rel_undef ρ) (fun id x hx => .inl hx) (Fr.refl _ _) (fun _ _ h => .inl h) (put_slot hp) (fun t ht => by rw [← hsn]; exact put_lt hp t ht))
   refine v.hp_same ho hiS ?_ (fun _ _ => rfl)
   intro id hm
   have := hm.2
   rw [(St.put_h hp).1] at this
   exact this rfl
  ·cases htr
 | true =>
  simp only [hw, cond_true] at htr
  rw [if_pos rfl]
  refine .inl ?_
  unfold Oper.wp
  let e' : Operand → AV := fun x => match x with
   | .tmp t => if t ∈ o.looksAt ops then (f i).slot t else .tuple []
   | x => (f i).ev x
  let ev' : Operand → Value := fun x => match x with
   | .tmp t => if t ∈ o.looksAt ops then a.tmps.getD t undef else undef
   | x => a.eval x
  have hrel : ∀ x, (e' x).rel ρ (ev' x) := fun x => by
   cases x with
   | tmp t =>
    show AV.rel ρ (if t ∈ o.looksAt ops then (f i).slot t else .tuple []) (if t ∈ o.looksAt ops then a.tmps.getD t undef else undef)
    by_cases ht : t ∈ o.looksAt ops
    ·rw [if_pos ht, if_pos ht]
     exact v.look d ho hiS hed ht
    ·rw [if_neg ht, if_neg ht]
     exact rel_undef ρ
   | const u => exact rel_toAV ρ u
   | global g =>
    show AV.rel ρ (.flat _) _
    simp only [AV.rel, ev', Act.eval]
   | func g =>
    show AV.rel ρ (.func (.func g) [] []) _
    simp only [AV.rel, ev', Act.eval]
    exact ⟨[], [], rfl, by simp [AV.relL], by simp [AV.relL]⟩
  have hmem : ∀ t, Operand.tmp t ∈ o.op.operands → t ∈ o.looksAt ops := fun t ht => by
   unfold Oper.looksAt
   rw [List.mem_append]
   left
   rw [List.mem_filterMap]
   exact ⟨.tmp t, by simpa using ht, rfl⟩
  have hop : ∀ x ∈ o.op.operands, (f i).ev x = e' x := fun x hx => by
   cases x with
   | tmp t =>
    show (f i).slot t = if t ∈ o.looksAt ops then (f i).slot t else .tuple []
    rw [if_pos (hmem t hx)]
   | _ => rfl
  have hop' : ∀ x ∈ o.op.operands, a.eval x = ev' x := fun x hx => by
   cases x with
   | tmp t =>
    show a.tmps.getD t undef = if t ∈ o.looksAt ops then a.tmps.getD t undef else undef
    rw [if_pos (hmem t hx)]
   | _ => rfl
  rw [show evOp T (f i).ev (f i).h o = evOp T e' (f i).h o from evOp_congr hop] at htr
  have hfpe : fpOf o (f i).ev = fpOf o e' := fpOf_congr hop
  have hns : ∀ cs b, o.op ≠ .select cs b := fun cs b e => by
   have : evOp T e' (f i).h o = none := by unfold evOp; rw [e]
   rw [this] at htr
   simp at htr
  rw [execOp_congr o hns hop']
  split at htr
  ·-- a value
   rename_i u h1 hopv
   split at htr
   ·rename_i s1 hp
    simp only [Option.some.injEq, Prod.mk.injEq] at htr
    obtain ⟨hs1, hfp⟩ := htr
    have hh := (St.put_h hp).1
    rw [hs1] at hh
    have hslot : ∀ t, (f (i + 1)).slot t = if o.dst = some t then u else (f i).slot t := by rw [← hs1]; exact put_slot hp
    have hblt : ∀ t, o.dst = some t → t < (f 0).n := fun t ht => by rw [← hsn]; exact put_lt hp t ht
    rw [hfpe] at hfp
    cases hfo : fpOf o e' with
    | none =>
     obtain ⟨hE, hopE, hal⟩ := evOp_bare hfo hopv
     have hrE : HR (fun b => w.heap.size ≤ b) ρ (f i).h.bare w :=
      ⟨fun id b c ob _ hg => by simp [Hp.get, Hp.bare] at hg, fun x y b c c' _ _ hl => by simp [Hp.get, Hp.bare] at hl, fun id _ => by simp [Hp.get, Hp.bare], fun b hb => hb,
       fun ad l hr => ⟨by obtain ⟨m, hpm⟩ := v.hp; exact (hpm.reg ad l hr).cell, fun _ id _ _ => by simp [Hp.get, Hp.bare], by obtain ⟨m, hpm⟩ := v.hp; exact (hpm.reg ad l hr).pur⟩⟩
     have hfree := v.free d ho hiS hf
     have hnx : hE.next = (f (i + 1)).h.next := by rw [hh]; exact hal.get.2.1.symm
     obtain ⟨ρ', u', w', g1, g2, g3⟩ := evOp_sound hT hrE hrel hopE (by rw [hnx]; exact hfree)
     rw [g1]
     rw [← hh] at hal
     refine hK ρ' _ w' (v.next d ho hiS hed (v.hp_alloc hcl d ho hiS hed hf ?_ hal g2) g2.le g3 ?_ (fr_mono g2.fr fun b hb hb2 => absurd hb2 (by omega)) g2.nreg hslot hblt)
     ·intro id hm
      exact hm.2 (hal.get.1 id hm.1)
     ·intro id x hx
      rcases Nat.lt_or_ge id (f i).h.next with h | h
      ·rw [g2.dom id (.inl h)] at hx; exact .inl hx
      ·rcases Nat.lt_or_ge id (f (i + 1)).h.next with h2 | h2
       ·exact .inr ⟨h, h2⟩
       ·rw [g2.dom id (.inr (by omega))] at hx; exact .inl hx
    | rd b =>
     obtain ⟨rfl, t, ad, off, hop2, hea, hld⟩ := evOp_rd hfo hopv
     rw [hfo] at hfp
     obtain ⟨m, hpm⟩ := v.hp
     have hcell : CellsAt ρ (f i).h w b := fun b' n' l e x hg hρ => by
      have hl : b < (f i).h.next := by
       rcases Nat.lt_or_ge b (f i).h.next with h | h
       ·exact h
       ·rw [d.born i (by omega) b h] at hg; cases hg
      have hst := Inv.stage d ho hiS hpm hρ (.inl hl) fun j hj hm hne => v.sync_lk d hcl ho hiS hed (.inl hfp.symm) hj hm hne
      rw [← hst] at hg
      obtain ⟨_, o', h1, p, q, rfl, h3, h4, h5⟩ := hpm.obj b b' n' _ hρ hg
      exact ⟨p, q, h1, h3, h4, h5⟩
     obtain ⟨y, hy1, hy2⟩ := evLoad_at (P := P) (w := w) hT (fun b2 o2 hb2 => by rw [hea] at hb2; injection hb2 with hb2; subst hb2; exact hcell) (fun l o hb2 => by rw [hea] at hb2; cases hb2) (hrel ad) hld
     have hrun : (execOp ev' o).run P w = .ok (.value y) w := by
      unfold execOp
      rw [hop2]
      simp [hy1]
     rw [hrun]
     refine hK ρ _ w (v.next d ho hiS hed (v.hp_same ho hiS ?_ (fun _ _ => rfl)) (Ren.le.refl _) hy2 (fun id x hx => .inl hx) (Fr.refl _ _) (fun _ _ h => .inl h) hslot hblt)
     intro id hm
     exact hm.2 (by rw [hh])
    | wr b => exact (evOp_wr hfo hopv).elim
    | call c =>
     rw [hfo] at hfp
     obtain ⟨hfull, hDD⟩ := v.full d hcl ho hiS hed hfp.symm (h := (f i).h) (fun _ => rfl) rfl
     have hfree := v.free d ho hiS hf
     obtain ⟨ρ', u', w', g1, g2, g3⟩ := evOp_sound hT hfull hrel hopv (by rw [← hh]; exact hfree)
     rw [g1]
     refine hK ρ' _ w' (v.next d ho hiS hed (v.hp_full d hcl ho hiS hed hf hfp.symm (fun _ => rfl) rfl (fun id => by rw [hh]) (by rw [hh]) g2) g2.le g3 ?_ (fr_mono g2.fr fun b hb hb2 => hDD b hb2) g2.nreg hslot hblt)
     intro id x hx
     rcases Nat.lt_or_ge id (f i).h.next with h | h
     ·rw [g2.dom id (.inl h)] at hx; exact .inl hx
     ·rcases Nat.lt_or_ge id (f (i + 1)).h.next with h2 | h2
      ·exact .inr ⟨h, h2⟩
      ·rw [g2.dom id (.inr (by rw [← hh]; exact h2))] at hx; exact .inl hx
    | app rs wo =>
     rw [hfo] at hfp
     obtain ⟨hwo, hap⟩ := evOp_app hfo hopv
     obtain ⟨h1R, hopR, po⟩ := hap _ (restrict_in d (rs := rs) (wo := wo) (by omega))
     obtain ⟨hpart, hDD⟩ := v.part d hcl ho hiS hed hfp.symm
     have hfree := v.free d ho hiS hf
     rw [← hh] at po
     obtain ⟨ρ', u', w', g1, g2, g3⟩ := evOp_sound hT hpart hrel hopR (by rw [po.next]; exact hfree)
     rw [g1]
     refine hK ρ' _ w' (v.next d ho hiS hed (v.hp_part d hcl ho hiS hed hf hfp.symm po g2) g2.le g3 ?_ (fr_mono g2.fr fun b hb hb2 => hDD b hb2) g2.nreg hslot hblt)
     intro id x hx
     rcases Nat.lt_or_ge id (f i).h.next with h | h
     ·rw [g2.dom id (.inl h)] at hx; exact .inl hx
     ·rcases Nat.lt_or_ge id (f (i + 1)).h.next with h2 | h2
      ·exact .inr ⟨h, h2⟩
      ·rw [g2.dom id (.inr (by rw [po.next]; exact h2))] at hx; exact .inl hx
   ·cases htr
  ·-- a store
   rename_i h1 hopv
   split at htr
   ·rename_i s1 hp
    simp only [Option.some.injEq, Prod.mk.injEq] at htr
    obtain ⟨hs1, hfp⟩ := htr
    have hh := (St.put_h hp).1
    rw [hs1] at hh
    have hslot : ∀ t, (f (i + 1)).slot t = if o.dst = some t then .tuple [] else (f i).slot t := by rw [← hs1]; exact put_slot hp
    have hblt : ∀ t, o.dst = some t → t < (f 0).n := fun t ht => by rw [← hsn]; exact put_lt hp t ht
    rw [hfpe] at hfp
    obtain ⟨t, ad, x, b, off, hop2, hea, hst, hfo⟩ := evOp_skip hopv
    rw [hfo] at hfp
    obtain ⟨m, hpm⟩ := v.hp
    have hcell : CellsAt ρ (f i).h w b := fun b' n' l e x hg hρ => by
     have hl : b < (f i).h.next := by
      rcases Nat.lt_or_ge b (f i).h.next with h | h
      ·exact h
      ·rw [d.born i (by omega) b h] at hg; cases hg
     have hst := Inv.stage d ho hiS hpm hρ (.inl hl) fun j hj hm hne => v.sync_lk d hcl ho hiS hed (.inr (.inl hfp.symm)) hj hm hne
     rw [← hst] at hg
     obtain ⟨_, o', h1, p, q, rfl, h3, h4, h5⟩ := hpm.obj b b' n' _ hρ hg
     exact ⟨p, q, h1, h3, h4, h5⟩
    obtain ⟨b', c', w', ob, ob', hρ, hrun, q1, q2, q3, q4, q5, q6, q7, q8, q9⟩ := evStore_at (P := P) (w := w) hT hea hcell (hrel ad) (hrel x) hst
    have hrun' : (execOp ev' o).run P w = .ok .skip w' := by
     unfold execOp
     rw [hop2]
     simp [hrun]
    rw [hrun']
    rw [← hh] at q7
    have hDb : D b' := by
     have hl : b < (f i).h.next := (Hp.put_get q7).1
     have hst2 := Inv.stage d ho hiS hpm hρ (.inl hl) fun j hj hm hne => v.sync_lk d hcl ho hiS hed (.inr (.inl hfp.symm)) hj hm hne
     cases hg : (f i).h.get b with
     | none => exact absurd hg q6
     | some o2 =>
      rw [← hst2] at hg
      exact (hpm.obj b b' c' o2 hρ hg).1
    refine hK ρ _ w' (v.next d ho hiS hed (v.hp_store d hcl ho hiS hed hfp.symm q7 q6 hρ q8 q9 q5) (Ren.le.refl _) (rel_undef ρ) (fun id x hx => .inl hx) ⟨q1, q2, q3, by omega, fun b2 hb2 hd2 => q5 b2 fun e => hd2 (by rw [e]; exact hDb)⟩ (fun _ _ h => .inl h) hslot hblt)
   ·cases htr
  ·-- a map is written
   rename_i h1 hopv
   split at htr
   ·rename_i s1 hp
    simp only [Option.some.injEq, Prod.mk.injEq] at htr
    obtain ⟨hs1, hfp⟩ := htr
    have hh := (St.put_h hp).1
    rw [hs1] at hh
    have hslot : ∀ t, (f (i + 1)).slot t = if o.dst = some t then .tuple [] else (f i).slot t := by rw [← hs1]; exact put_slot hp
    have hblt : ∀ t, o.dst = some t → t < (f 0).n := fun t ht => by rw [← hsn]; exact put_lt hp t ht
    rw [hfpe] at hfp
    obtain ⟨r, hfo, _, hap⟩ := evOp_mput hopv
    rw [hfo] at hfp
    obtain ⟨h1R, hopR, po⟩ := hap _ (restrict_in d (rs := [r]) (wo := some r) (by omega))
    obtain ⟨hpart, hDD⟩ := v.part d hcl ho hiS hed hfp.symm
    have hfree := v.free d ho hiS hf
    rw [← hh] at po
    obtain ⟨ρ', w', g1, g2⟩ := evOp_sound hT hpart hrel hopR (by rw [po.next]; exact hfree)
    rw [g1]
    refine hK ρ' _ w' (v.next d ho hiS hed (v.hp_part d hcl ho hiS hed hf hfp.symm po g2) g2.le (rel_undef ρ') ?_ (fr_mono g2.fr fun b hb hb2 => hDD b hb2) g2.nreg hslot hblt)
    intro id x hx
    rcases Nat.lt_or_ge id (f i).h.next with h | h
    ·rw [g2.dom id (.inl h)] at hx; exact .inl hx
    ·rcases Nat.lt_or_ge id (f (i + 1)).h.next with h2 | h2
     ·exact .inr ⟨h, h2⟩
     ·rw [g2.dom id (.inr (by rw [po.next]; exact h2))] at hx; exact .inl hx
   ·cases htr
  ·-- a call
   rename_i g args hopv
   obtain ⟨hopE, _⟩ := evOp_enter hopv (f i).h.bare
   have hrE : HR (fun b => w.heap.size ≤ b) ρ (f i).h.bare w :=
    ⟨fun id b c ob _ hg => by simp [Hp.get, Hp.bare] at hg, fun x y b c c' _ _ hl => by simp [Hp.get, Hp.bare] at hl, fun id _ => by simp [Hp.get, Hp.bare], fun b hb => hb,
          fun ad l hr => ⟨by obtain ⟨m, hpm⟩ := v.hp; exact (hpm.reg ad l hr).cell, fun _ id _ _ => by simp [Hp.get, Hp.bare], by obtain ⟨m, hpm⟩ := v.hp; exact (hpm.reg ad l hr).pur⟩⟩
   obtain ⟨args', g1, g2⟩ := evOp_sound hT hrE hrel hopE
   rw [g1]
   simp only [Oper.upon]
   split at htr
   ·rename_i u h1 hcall
    split at htr
    ·rename_i s1 hp
     simp only [Option.some.injEq, Prod.mk.injEq] at htr
     obtain ⟨hs1, hfp⟩ := htr
     have hh := (St.put_h hp).1
     rw [hs1] at hh
     have hslot : ∀ t, (f (i + 1)).slot t = if o.dst = some t then u else (f i).slot t := by rw [← hs1]; exact put_slot hp
     have hblt : ∀ t, o.dst = some t → t < (f 0).n := fun t ht => by rw [← hsn]; exact put_lt hp t ht
     have hget1 : ∀ id, (f (i + 1)).h.get id = h1.get id := fun id => by rw [hh]; rfl
     have hnx1 : (f (i + 1)).h.next = h1.next := by rw [hh]
     obtain ⟨hfull, hDD⟩ := v.full d hcl ho hiS hed hfp.symm (h := ⟨(f i).h.next, (f i).h.next, (f i).h.m⟩) (fun _ => rfl) rfl
     have hfree := v.free d ho hiS hf
     refine (hc _ _ _ _ _ hcall _ ρ w args' hfull (by rw [← hnx1]; exact hfree) g2).mono ?_
     rintro e2 w' ⟨ρ', st, u', rfl, hu⟩
     refine hK ρ' _ w' (v.next d ho hiS hed (v.hp_full d hcl ho hiS hed hf hfp.symm (h := ⟨(f i).h.next, (f i).h.next, (f i).h.m⟩) (fun _ => rfl) rfl hget1 hnx1 st) st.le hu ?_ (fr_mono st.fr fun b hb hb2 => hDD b hb2) st.nreg hslot hblt)
     intro id x hx
     rcases Nat.lt_or_ge id (f i).h.next with h | h
     ·rw [st.dom id (.inl h)] at hx; exact .inl hx
     ·rcases Nat.lt_or_ge id (f (i + 1)).h.next with h2 | h2
      ·exact .inr ⟨h, h2⟩
      ·rw [st.dom id (.inr (by rw [← hnx1]; exact h2))] at hx; exact .inl hx
    ·cases htr
   ·cases htr
  ·cases htr
def cntU : Nat → (Nat → Bool) → Nat
 | 0, _ => 0
 | k + 1, p => cntU k p + cond (p k) 1 0
theorem cntU_set : ∀ (k : Nat) (p q : Nat → Bool) (i : Nat), i < k → p i = true → q i = false → (∀ j, j ≠ i → q j = p j) → cntU k q + 1 = cntU k p
 | 0, p, q, i, h, _, _, _ => by omega
 | k + 1, p, q, i, h, h1, h2, h3 => by
  simp only [cntU]
  by_cases e : i = k
  ·subst e
   have : ∀ m, m ≤ i → cntU m q = cntU m p := by
    intro m hm
    induction m with
    | zero => rfl
    | succ m ih => simp only [cntU]; rw [ih (by omega), h3 m (by omega)]
   rw [this i (Nat.le_refl _), h1, h2]
   rfl
  ·have := cntU_set k p q i (by omega) h1 h2 h3
   rw [h3 k (fun h => e h.symm)]
   omega
theorem cntU_zero : ∀ (k : Nat) (p : Nat → Bool), cntU k p = 0 → ∀ j, j < k → p j = false
 | 0, p, h, j, hj => by omega
 | k + 1, p, h, j, hj => by
  simp only [cntU] at h
  by_cases e : j = k
  ·subst e
   cases hp : p j with
   | false => rfl
   | true => rw [hp] at h; simp at h
  ·exact cntU_zero k p (by omega) j (by omega)
theorem cntU_le : ∀ (k : Nat) (p : Nat → Bool), cntU k p ≤ k
 | 0, p => Nat.le_refl _
 | k + 1, p => by
  simp only [cntU]
  have := cntU_le k p
  cases p k <;> simp <;> omega
theorem draw_any {P : Program} {T : Tab} (hT : T.Ok P) {call : CallF} (hc : CallOk P call) (hcl : CallLe call) {ops : Array Oper} {bf : List Nat} {f : Nat → St} {fp : Nat → Fp} (d : DCtx call T ops bf f fp ops.size)
    {D : Nat → Prop} {ρ0 : Ren} {w0 : World} (hf : Free ρ0 (f 0).h.next (f ops.size).h.next) (hborn : ∀ id, (f 0).h.next ≤ id → (f 0).h.get id = none) {Q : Exit → Act → World → Prop}
    (hQ : ∀ ρ' a' w', Step D ρ0 (f 0).h w0 ρ' (f ops.size).h w' → SRel D ρ' (f ops.size) a' w' → Q .normal a' w') : ∀ (fuel : Nat) (listed : Array Bool) (ρ : Ren) (a : Act) (w : World),
     listed.size = ops.size → cntU ops.size (fun j => !listed.getD j false) ≤ fuel → Inv D ops f ops.size ρ0 w0 (fun j => listed.getD j false = true) ρ a w → wpAny P .any ops Q fuel listed a w := by
 have hend : ∀ (listed : Array Bool) (ρ : Ren) (a : Act) (w : World), (∀ j, j < ops.size → listed.getD j false = true) → Inv D ops f ops.size ρ0 w0 (fun j => listed.getD j false = true) ρ a w → Q .normal a w := by
  intro listed ρ a w hall v
  obtain ⟨m, hp⟩ := v.hp
  have hst : ∀ id x, ρ id = some x → (f ops.size).h.get id = (f (m id)).h.get id := fun id x hx => by
   refine d.same_get (m id) ops.size (hp.mle id) (Nat.le_refl _) (hp.inn id x hx) fun j h1 h2 hm => ?_
   have := (hp.mod id j (by simp [hx]) h2 hm).2 (hall j h2)
   omega
  have hr : HR D ρ (f ops.size).h w := ⟨fun id b c o hρ hg => by rw [hst id _ hρ] at hg; exact hp.obj id b c o hρ hg, fun x y b c c' hx hy hlx hly => by
   rw [hst x _ hx] at hlx
   rw [hst y _ hy] at hly
   exact hp.inj x y b c c' hx hy hlx hly, d.born ops.size (Nat.le_refl _), v.far, fun ad l hr => ⟨(hp.reg ad l hr).cell, fun hne id c hρ => by rw [hst id _ hρ]; exact (hp.reg ad l hr).own hne id c hρ, (hp.reg ad l hr).pur⟩⟩
  obtain ⟨hn, hds⟩ := d.stay ops.size (Nat.le_refl _)
  refine hQ ρ a w ⟨hr, v.le, v.fr, d.next_mono 0 ops.size (by omega) (Nat.le_refl _), v.ext, v.nreg⟩ ⟨fun t => ?_, by rw [v.tsz, hn], hr, by rw [hds]; exact v.ds⟩
  obtain ⟨mt, hmt, hs, hrel⟩ := v.tm t
  rw [d.same_slot mt ops.size hmt (Nat.le_refl _) fun j oj h1 h2 hoj hdj => ?_]
  ·exact hrel
  ·have := (hs j oj hoj hdj).2 (hall j h2)
   omega
 have hready : ∀ (listed : Array Bool), listed.size = ops.size → Region.ready .any ops listed = [] → ∀ j, j < ops.size → listed.getD j false = true := by
  intro listed hsz hr j
  induction j using Nat.strongRecOn with
  | _ j ih =>
   intro hj
   cases hl : listed.getD j false with
   | true => rfl
   | false =>
    exfalso
    obtain ⟨o, ho⟩ : ∃ o, ops[j]? = some o := ⟨_, Array.getElem?_eq_getElem hj⟩
    have : j ∈ Region.ready .any ops listed := by
     rw [mem_ready]
     refine ⟨?_, o, ho, fun e he hb => ih e.on (d.b4 j o ho e he hb) (by have := d.b4 j o ho e he hb; omega)⟩
     rw [Array.getD_eq_getD_getElem?, Array.getElem?_eq_getElem (by omega)] at hl ⊢
     simpa using hl
    rw [hr] at this
    cases this
 intro fuel
 induction fuel with
 | zero =>
  intro listed ρ a w hsz hcnt v
  have hz := cntU_zero ops.size _ (Nat.le_zero.1 hcnt)
  have hall : ∀ j, j < ops.size → listed.getD j false = true := fun j hj => by simpa using hz j hj
  refine ⟨?_, hend listed ρ a w hall v⟩
  cases hr : Region.ready .any ops listed with
  | nil => rfl
  | cons i l =>
   exfalso
   have hi : i ∈ Region.ready .any ops listed := by rw [hr]; simp
   obtain ⟨h1, o, ho, _⟩ := mem_ready.1 hi
   have hlt : i < ops.size := (Array.getElem?_eq_some_iff.1 ho).1
   have h2 := hall i hlt
   rw [Array.getD_eq_getD_getElem?, Array.getElem?_eq_getElem (by omega)] at h1 h2
   simp at h1 h2
   rw [h1] at h2
   cases h2
 | succ fuel ih =>
  intro listed ρ a w hsz hcnt v
  refine ⟨fun hr => hend listed ρ a w (hready listed hsz hr) v, fun i hi => ?_⟩
  obtain ⟨h1, o, ho, hed⟩ := mem_ready.1 hi
  have hlt : i < ops.size := (Array.getElem?_eq_some_iff.1 ho).1
  have hf1 : listed.getD i false = false := by
   rw [Array.getD_eq_getD_getElem?, Array.getElem?_eq_getElem (by omega)] at h1 ⊢
   simpa using h1
  refine exec hT hc hcl d v hf ho (by rw [hf1]; simp) hed fun ρ' a' w' v' => ?_
  have hset : ∀ j, (listed.setIfInBounds i true).getD j false = true ↔ (listed.getD j false = true ∨ j = i) := fun j => by
   by_cases e : j = i
   ·subst e
    have : j < listed.size := by omega
    simp [this]
   ·rw [getD_set_ne false (fun h => e h.symm)]
    simp [e]
  refine ih (listed.setIfInBounds i true) ρ' a' w' (by simpa using hsz) ?_ ?_
  ·have := cntU_set ops.size (fun j => !listed.getD j false) (fun j => !(listed.setIfInBounds i true).getD j false) i hlt (by simp [hf1]) (by have := (hset i).2 (.inr rfl); simp [this]) (fun j hj => by rw [getD_set_ne false (fun h => hj h.symm)])
   omega
  ·have : (fun j => (listed.setIfInBounds i true).getD j false = true) = fun j => listed.getD j false = true ∨ j = i := funext fun j => propext (hset j)
   rw [this]
   exact v'
theorem draw_ok {P : Program} {T : Tab} (hT : T.Ok P) (hm : P.follows .mixedOrders = true) (call : CallF) (hc : CallOk P call) (hcl : CallLe call) : DrawOk P call T := by
 intro id bf ops s e s' hreg hev D ρ a w Q sr fr dn
 obtain ⟨f, fp, d, h0, hn, rfl⟩ := dctx_mk hcl hreg hev sr.hr.born
 subst h0 hn
 have srd : HR D ρ (f 0).h { w with drawn := w.drawn + 1 } := sr.hr.drawn _
 refine wp_region_any hm ?_
 refine draw_any hT hc hcl d (w0 := { w with drawn := w.drawn + 1 }) (ρ0 := ρ) (D := D) fr sr.hr.born (fun ρ' a' w' st sr' => dn ρ' .normal a' w' ((Step.drawn sr.hr _).trans st) sr' rfl) ops.size _ ρ a _ (by simp) ?_ ?_
 ·exact Nat.le_trans (cntU_le _ _) (Nat.le_refl _)
 ·have hno : ∀ j, (Array.replicate ops.size false).getD j false = true → False := fun j h => by
    rw [Array.getD_eq_getD_getElem?, Array.getElem?_replicate] at h
    split at h <;> simp at h
  refine ⟨fun j oj hj => (hno j hj).elim, fun j hj => (hno j hj).elim, sr.sz, fun t => ⟨0, Nat.zero_le _, fun j oj _ _ => ⟨fun h => by omega, fun h => (hno j h).elim⟩, sr.tm t⟩, sr.ds, ⟨fun _ => 0, ?_⟩, fun id x hx => .inl hx, Ren.le.refl _, Fr.refl _ _, srd.far, fun _ _ => rfl, fun _ _ h => .inl h⟩
  refine ⟨fun _ => Nat.zero_le _, fun id j _ _ _ => ⟨fun h => by omega, fun h => (hno j h).elim⟩, fun id x hx => ?_, srd.obj, srd.inj, fun ad l hr => ⟨(srd.reg ad l hr).cell, (srd.reg ad l hr).own, (srd.reg ad l hr).pur⟩⟩
  rcases Nat.lt_or_ge id (f 0).h.next with h | h
  ·exact .inl h
  ·rcases Nat.lt_or_ge id (f ops.size).h.next with h2 | h2
   ·rw [fr id h h2] at hx
    cases hx
   ·exact .inr h2
theorem Step.below {D : Nat → Prop} {ρ : Ren} {h : Hp} {w w' : World} (k : HR D ρ h w) (b : RowKit.Below w.heap.size w w') : Step D ρ h w ρ h w' := by
 refine ⟨⟨fun i bl n o hρ hg => ?_, k.inj, k.born, fun x hx => k.far x (Nat.le_trans b.size hx), fun ad l hr => (k.reg ad l hr).keep (Ren.le.refl _) (fun hne => b.block _ ((k.reg ad l hr).lt hne)) (k.reg ad l hr).own⟩, Ren.le.refl _, ⟨b.os, b.tape, b.output, b.size, fun x hx _ => b.block x hx⟩, Nat.le_refl _, fun _ _ => rfl, fun _ _ h => .inl h⟩
 obtain ⟨h1, o', h2, h3⟩ := k.obj i bl n o hρ hg
 have hlt : bl < w.heap.size := (Array.getElem?_eq_some_iff.1 h2).1
 exact ⟨h1, o', by rw [b.block bl hlt]; exact h2, h3⟩
end Go.Iv
end
section
set_option linter.unusedVariables false
set_option linter.unusedSimpArgs false
namespace Go.Iv
open Go
structure GStep (Fz : Prop) (D : Nat → Prop) (ρ : Ren) (h : Hp) (w : World) (ρ' : Ren) (h' : Hp) (w' : World) : Prop where
 le : Ren.le ρ ρ'
 fr : Fr D w w'
 next : h.next ≤ h'.next
 dom : ∀ i, i < h.next ∨ h'.next ≤ i → ρ' i = ρ i
 nreg : ∀ ad l, ρ'.reg ad l → ρ.reg ad l ∨ Digits l ∨ w.heap.size ≤ ad.block ∨ (Fz ∧ D ad.block)
theorem GStep.refl (Fz : Prop) (D : Nat → Prop) (ρ : Ren) (h : Hp) (w : World) : GStep Fz D ρ h w ρ h w := ⟨Ren.le.refl _, Fr.refl _ _, Nat.le_refl _, fun _ _ => rfl, fun _ _ h => .inl h⟩
theorem GStep.trans {Fz : Prop} {D : Nat → Prop} {ρ ρ1 ρ2 : Ren} {h h1 h2 : Hp} {w w1 w2 : World} (a : GStep Fz D ρ h w ρ1 h1 w1) (b : GStep Fz D ρ1 h1 w1 ρ2 h2 w2) : GStep Fz D ρ h w ρ2 h2 w2 :=
 ⟨a.le.trans b.le, a.fr.trans b.fr, Nat.le_trans a.next b.next, fun i hi => by
  have h1 := a.next
  have h2 := b.next
  rw [b.dom i (by omega), a.dom i (by omega)], fun ad l hl => by
  rcases b.nreg ad l hl with h | h | h | h
  ·exact a.nreg ad l h
  ·exact .inr (.inl h)
  ·exact .inr (.inr (.inl (Nat.le_trans a.fr.size h)))
  ·exact .inr (.inr (.inr h))⟩
theorem Step.g {Fz : Prop} {D : Nat → Prop} {ρ ρ' : Ren} {h h' : Hp} {w w' : World} (a : Step D ρ h w ρ' h' w') : GStep Fz D ρ h w ρ' h' w' :=
 ⟨a.le, a.fr, a.next, a.dom, fun ad l hl => by
  rcases a.nreg ad l hl with h | h | h
  ·exact .inl h
  ·exact .inr (.inl h)
  ·exact .inr (.inr (.inl h))⟩
theorem GStep.step {D : Nat → Prop} {ρ ρ' : Ren} {h h' : Hp} {w w' : World} (a : GStep False D ρ h w ρ' h' w') (k : HR D ρ' h' w') : Step D ρ h w ρ' h' w' :=
 ⟨k, a.le, a.fr, a.next, a.dom, fun ad l hl => by
  rcases a.nreg ad l hl with h | h | h | h
  ·exact .inl h
  ·exact .inr (.inl h)
  ·exact .inr (.inr h)
  ·exact h.1.elim⟩
theorem GStep.mono {Fz Fz' : Prop} (i : Fz → Fz') {D : Nat → Prop} {ρ ρ' : Ren} {h h' : Hp} {w w' : World} (a : GStep Fz D ρ h w ρ' h' w') : GStep Fz' D ρ h w ρ' h' w' :=
 ⟨a.le, a.fr, a.next, a.dom, fun ad l hl => by
  rcases a.nreg ad l hl with h | h | h | h
  ·exact .inl h
  ·exact .inr (.inl h)
  ·exact .inr (.inr (.inl h))
  ·exact .inr (.inr (.inr ⟨i h.1, h.2⟩))⟩
theorem Free.gstep {Fz : Prop} {D : Nat → Prop} {ρ ρ1 : Ren} {h h1 : Hp} {w w1 : World} {n : Nat} (f : Free ρ h.next n) (a : GStep Fz D ρ h w ρ1 h1 w1) : Free ρ1 h1.next n := fun i h1' h2 => by
 rw [a.dom i (.inr h1')]
 exact f i (Nat.le_trans a.next h1') h2
def DoneG (Fz : Prop) (D : Nat → Prop) (ρ : Ren) (h : Hp) (w : World) (e : AExit) (s' : St) (R : Exit → Act → World → Prop) : Prop :=
 ∀ ρ' e' a' w', GStep Fz D ρ h w ρ' s'.h w' → SRel D ρ' s' a' w' → ExRel ρ' e e' → R e' a' w'
theorem DoneG.step {Fz : Prop} {D : Nat → Prop} {ρ ρ1 : Ren} {h h1 : Hp} {w w1 : World} {e : AExit} {s' : St} {R : Exit → Act → World → Prop} (d : DoneG Fz D ρ h w e s' R) (st : GStep Fz D ρ h w ρ1 h1 w1) : DoneG Fz D ρ1 h1 w1 e s' R :=
 fun ρ' e' a' w' st' sr er => d ρ' e' a' w' (st.trans st') sr er
theorem DoneG.done {Fz : Prop} {D : Nat → Prop} {ρ : Ren} {h : Hp} {w : World} {e : AExit} {s' : St} {R : Exit → Act → World → Prop} (d : DoneG Fz D ρ h w e s' R) : Done D ρ h w e s' R :=
 fun ρ' e' a' w' st sr er => d ρ' e' a' w' st.g sr er
structure Sem (Fz : Prop) (P : Program) (c : Code) (s : St) (e : AExit) (s' : St) : Prop where
 next : s.h.next ≤ s'.h.next
 le : ¬ Fz → Hp.Le s.h s'.h
 run : ∀ (D : Nat → Prop) (ρ : Ren) (a : Act) (w : World) (R : Exit → Act → World → Prop), SRel D ρ s a w → Free ρ s.h.next s'.h.next → DoneG Fz D ρ s.h w e s' R → c.wp P R a w
def WP (Fz : Prop) (P : Program) (c : Code) (s : St) (Q : AExit → St → Prop) : Prop := ∃ e s', Sem Fz P c s e s' ∧ Q e s'
theorem WP.mono {Fz : Prop} {P : Program} {c : Code} {s : St} {Q Q' : AExit → St → Prop} (h : WP Fz P c s Q) (i : ∀ e s', Q e s' → Q' e s') : WP Fz P c s Q' := by
 obtain ⟨e, s', h1, h2⟩ := h
 exact ⟨e, s', h1, i e s' h2⟩
def thenQ (Fz : Prop) (P : Program) (b : Code) (Q : AExit → St → Prop) : AExit → St → Prop
 | .normal, s => WP Fz P b s Q
 | e, s => Q e s
theorem exrel_ne {ρ : Ren} {e : AExit} {e' : Exit} (h : ExRel ρ e e') (hne : e ≠ .normal) : e' ≠ .normal := by
 cases e with
 | normal => exact absurd rfl hne
 | exit id => simp only [ExRel] at h; subst h; simp
 | goto id => simp only [ExRel] at h; subst h; simp
 | ret => simp only [ExRel] at h; subst h; simp
 | panic v => obtain ⟨v', rfl, _⟩ := h; simp
theorem sem_seq1 {Fz : Prop} {P : Program} {a b : Code} {s s' : St} {e : AExit} (h : Sem Fz P a s e s') (hne : e ≠ .normal) : Sem Fz P (.seq a b) s e s' :=
 ⟨h.next, h.le, fun D ρ x w R sr fr dn => wp_seq (h.run D ρ x w _ sr fr fun ρ' e' a' w' st sr' er => by
  have hn := exrel_ne er hne
  have := dn ρ' e' a' w' st sr' er
  cases e' <;> first | exact absurd rfl hn | exact this)⟩
theorem sem_seq2 {Fz : Prop} {P : Program} {a b : Code} {s s1 s' : St} {e : AExit} (h : Sem Fz P a s .normal s1) (k : Sem Fz P b s1 e s') : Sem Fz P (.seq a b) s e s' :=
 ⟨Nat.le_trans h.next k.next, fun n => (h.le n).trans (k.le n), fun D ρ x w R sr fr dn => wp_seq (h.run D ρ x w _ sr (fr.mono k.next) fun ρ' e' a' w' st sr' er => by
  simp only [ExRel] at er
  subst er
  exact k.run D ρ' a' w' R sr' (fr.gstep st) (dn.step st))⟩
theorem wp_seqQ {Fz : Prop} {P : Program} {a b : Code} {s : St} {Q : AExit → St → Prop} (h : WP Fz P a s (thenQ Fz P b Q)) : WP Fz P (.seq a b) s Q := by
 obtain ⟨e, s1, h1, h2⟩ := h
 by_cases he : e = .normal
 ·subst he
  obtain ⟨e, s', h3, h4⟩ := h2
  exact ⟨e, s', sem_seq2 h1 h3, h4⟩
 ·refine ⟨e, s1, sem_seq1 h1 he, ?_⟩
  cases e <;> first | exact absurd rfl he | exact h2
theorem wp_condQ {Fz : Prop} {P : Program} {c : Operand} {a b : Code} {s : St} {Q : AExit → St → Prop} (t : Bool) (hc : s.ev c = .flat (.bool t)) (h : WP Fz P (if t = true then a else b) s Q) : WP Fz P (.cond c a b) s Q := by
 obtain ⟨e, s1, h1, h2⟩ := h
 refine ⟨e, s1, ⟨h1.next, h1.le, fun D ρ x w R sr fr dn => ?_⟩, h2⟩
 have hev := sr.ev c
 rw [hc] at hev
 simp only [AV.rel] at hev
 refine wp_cond hev ?_
 have := h1.run D ρ x w R sr fr dn
 cases t <;> simpa using this
def blockQ (id : Nat) (Q : AExit → St → Prop) : AExit → St → Prop
 | .exit j, s => if j = id then Q .normal s else Q (.exit j) s
 | e, s => Q e s
theorem wp_blockQ {Fz : Prop} {P : Program} {id : Nat} {c : Code} {s : St} {Q : AExit → St → Prop} (h : WP Fz P c s (blockQ id Q)) : WP Fz P (.block id c) s Q := by
 obtain ⟨e, s1, h1, h2⟩ := h
 have key : ∀ e0, Q e0 s1 → (∀ (ρ : Ren) (e' : Exit) (a : Act) (w : World) (R : Exit → Act → World → Prop), ExRel ρ e e' → (∀ e1, ExRel ρ e0 e1 → R e1 a w) → Exit.inBlock id R e' a w) → WP Fz P (.block id c) s Q := fun e0 hq hx =>
  ⟨e0, s1, ⟨h1.next, h1.le, fun D ρ x w R sr fr dn => wp_block (h1.run D ρ x w _ sr fr fun ρ' e' a' w' st sr' er => hx ρ' e' a' w' R er fun e1 he1 => dn ρ' e1 a' w' st sr' he1)⟩, hq⟩
 cases e with
 | exit j =>
  by_cases hj : j = id
  ·subst hj
   simp only [blockQ, if_true] at h2
   exact key .normal h2 fun ρ e' a w R er k => by simp only [ExRel] at er; subst er; simpa [Exit.inBlock] using k .normal rfl
  ·simp only [blockQ, if_neg hj] at h2
   exact key (.exit j) h2 fun ρ e' a w R er k => by simp only [ExRel] at er; subst er; simpa [Exit.inBlock, hj] using k (.exit j) rfl
 | normal => exact key .normal h2 fun ρ e' a w R er k => by simp only [ExRel] at er; subst er; exact k .normal rfl
 | goto l => exact key (.goto l) h2 fun ρ e' a w R er k => by simp only [ExRel] at er; subst er; exact k (.goto l) rfl
 | ret => exact key .ret h2 fun ρ e' a w R er k => by simp only [ExRel] at er; subst er; exact k .ret rfl
 | panic v => exact key (.panic v) h2 fun ρ e' a w R er k => by obtain ⟨v', rfl, hv⟩ := er; exact k _ ⟨v', rfl, hv⟩
theorem wp_skipQ {Fz : Prop} {P : Program} {s : St} {Q : AExit → St → Prop} (h : Q .normal s) : WP Fz P .skip s Q :=
 ⟨.normal, s, ⟨Nat.le_refl _, fun _ => Hp.Le.refl _, fun D ρ x w R sr fr dn => wp_skip (dn ρ _ x w (GStep.refl _ _ _ _ _) sr rfl)⟩, h⟩
theorem wp_labelQ {Fz : Prop} {P : Program} {l : Nat} {s : St} {Q : AExit → St → Prop} (h : Q .normal s) : WP Fz P (.label l) s Q :=
 ⟨.normal, s, ⟨Nat.le_refl _, fun _ => Hp.Le.refl _, fun D ρ x w R sr fr dn => wp_label (dn ρ _ x w (GStep.refl _ _ _ _ _) sr rfl)⟩, h⟩
theorem wp_exitQ {Fz : Prop} {P : Program} {id : Nat} {s : St} {Q : AExit → St → Prop} (h : Q (.exit id) s) : WP Fz P (.exit id) s Q :=
 ⟨.exit id, s, ⟨Nat.le_refl _, fun _ => Hp.Le.refl _, fun D ρ x w R sr fr dn => wp_exit (dn ρ _ x w (GStep.refl _ _ _ _ _) sr rfl)⟩, h⟩
theorem wp_retQ {Fz : Prop} {P : Program} {s : St} {Q : AExit → St → Prop} (h : Q .ret s) : WP Fz P .ret s Q :=
 ⟨.ret, s, ⟨Nat.le_refl _, fun _ => Hp.Le.refl _, fun D ρ x w R sr fr dn => wp_ret (dn ρ _ x w (GStep.refl _ _ _ _ _) sr rfl)⟩, h⟩
theorem sem_stop {Fz : Prop} {P : Program} {c : Code} {s s' : St} {e : AExit} (h : Sem Fz P c s e s') (hne : e ≠ .normal) :
    ∀ (D : Nat → Prop) (ρ : Ren) (a : Act) (w : World) (R : Exit → Act → World → Prop), SRel D ρ s a w → Free ρ s.h.next s'.h.next → DoneG Fz D ρ s.h w e s' R → Code.rounds P c R 1 a w := fun D ρ a w R sr fr dn => by
 rw [rounds_succ]
 refine h.run D ρ a w _ sr fr fun ρ' e' a' w' st sr' er => ?_
 have hn := exrel_ne er hne
 have := dn ρ' e' a' w' st sr' er
 cases e' <;> first | exact absurd rfl hn | exact this
theorem sem_round {Fz : Prop} {P : Program} {c : Code} {n : Nat} {s s1 s' : St} {e : AExit} (h : Sem Fz P c s .normal s1) (hn : s1.h.next ≤ s'.h.next)
    (k : ∀ (D : Nat → Prop) (ρ : Ren) (a : Act) (w : World) (R : Exit → Act → World → Prop), SRel D ρ s1 a w → Free ρ s1.h.next s'.h.next → DoneG Fz D ρ s1.h w e s' R → Code.rounds P c R n a w) :
    ∀ (D : Nat → Prop) (ρ : Ren) (a : Act) (w : World) (R : Exit → Act → World → Prop), SRel D ρ s a w → Free ρ s.h.next s'.h.next → DoneG Fz D ρ s.h w e s' R → Code.rounds P c R (n + 1) a w := fun D ρ a w R sr fr dn => by
 rw [rounds_succ]
 refine h.run D ρ a w _ sr (fr.mono hn) fun ρ' e' a' w' st sr' er => ?_
 simp only [ExRel] at er
 subst er
 exact k D ρ' a' w' R sr' (fr.gstep st) (dn.step st)
def roundQ (I : Nat → St → Prop) (n : Nat) (Q : AExit → St → Prop) : AExit → St → Prop
 | .normal, s => ∃ m, m < n ∧ I m s
 | e, s => Q e s
theorem wp_loopQ {Fz : Prop} {P : Program} {c : Code} {s : St} {Q : AExit → St → Prop} (I : Nat → St → Prop) (n : Nat) (h : I n s) (round : ∀ n s, I n s → WP Fz P c s (roundQ I n Q)) : WP Fz P (.loop c) s Q := by
 have key : ∀ n s, I n s → ∃ e s' m, s.h.next ≤ s'.h.next ∧ (¬ Fz → Hp.Le s.h s'.h) ∧ Q e s' ∧
     ∀ (D : Nat → Prop) (ρ : Ren) (a : Act) (w : World) (R : Exit → Act → World → Prop), SRel D ρ s a w → Free ρ s.h.next s'.h.next → DoneG Fz D ρ s.h w e s' R → Code.rounds P c R m a w := by
  intro n
  induction n using Nat.strongRecOn with
  | _ n ih =>
   intro s hs
   obtain ⟨e, s1, h1, h2⟩ := round n s hs
   by_cases he : e = .normal
   ·subst he
    obtain ⟨m, hm, hI⟩ := h2
    obtain ⟨e, s', k, h3, h3', h4, h5⟩ := ih m hm s1 hI
    exact ⟨e, s', k + 1, Nat.le_trans h1.next h3, fun n => (h1.le n).trans (h3' n), h4, sem_round h1 h3 h5⟩
   ·exact ⟨e, s1, 1, h1.next, h1.le, by cases e <;> first | exact absurd rfl he | exact h2, sem_stop h1 he⟩
 obtain ⟨e, s', m, h1, h1', h2, h3⟩ := key n s h
 exact ⟨e, s', ⟨h1, h1', fun D ρ a w R sr fr dn => wp_loop_rounds m (h3 D ρ a w R sr fr dn)⟩, h2⟩
def scopeQ (Q : AExit → St → Prop) : AExit → St → Prop
 | .goto _, _ => False
 | e, s => Q e s
theorem wp_scopeQ {Fz : Prop} {P : Program} {c : Code} {s : St} {Q : AExit → St → Prop} (h : WP Fz P c s (scopeQ Q)) : WP Fz P (.scope c) s Q := by
 obtain ⟨e, s1, h1, h2⟩ := h
 refine ⟨e, s1, ⟨h1.next, h1.le, fun D ρ x w R sr fr dn => wp_scope_of (h1.run D ρ x w _ sr fr fun ρ' e' a' w' st sr' er => ?_)⟩, ?_⟩
 ·have := dn ρ' e' a' w' st sr' er
  cases e with
  | goto l => exact h2.elim
  | normal => simp only [ExRel] at er; subst er; exact this
  | exit id => simp only [ExRel] at er; subst er; exact this
  | ret => simp only [ExRel] at er; subst er; exact this
  | panic v => obtain ⟨v', rfl, _⟩ := er; exact this
 ·cases e <;> first | exact h2.elim | exact h2
structure Base (P : Program) (T : Tab) (call : CallF) : Prop where
 tab : T.Ok P
 mixed : P.follows .mixedOrders = true
 ok : CallOk P call
 le : CallLe call
theorem wp_region0 {Fz : Prop} {P : Program} {T : Tab} {call : CallF} (B : Base P T call) {id : Nat} {ops : Array Oper} {s s' : St} {e : AExit} {Q : AExit → St → Prop}
    (h : evOps call T ops.toList ops.toList s = some (e, s')) (hq : Q e s') : WP Fz P (.region id ops false) s Q := by
 refine ⟨e, s', ⟨(evOps_le B.le _ _ _ _ h).next, fun _ => evOps_le B.le _ _ _ _ h, fun D ρ a w R sr fr dn => ?_⟩, hq⟩
 have := evOps_sound B.tab B.ok B.le (ops := ops) ops.toList 0 s e s' (fun j => by simp) h D ρ a w R sr fr dn.done
 refine wp_region ?_
 rw [List.range_eq_range']
 simpa using this
theorem wp_region1 {Fz : Prop} {P : Program} {T : Tab} {call : CallF} (B : Base P T call) {id : Nat} {ops : Array Oper} {bf : List Nat} (hbf : regOk bf ops.toList = true) {s s' : St} {e : AExit} {Q : AExit → St → Prop}
    (h : evDraw call T (some bf) ops.toList s = some (e, s')) (hq : Q e s') : WP Fz P (.region id ops true) s Q :=
 have hle : Hp.Le s.h s'.h := evCode_le B.le (T := T) (M := fun _ => some bf) (lf := 0) (re := fun _ _ _ => none) (fun _ _ _ _ _ k => by cases k) (.region id ops true) s e s' h
 ⟨e, s', ⟨hle.next, fun _ => hle, fun D ρ a w R sr fr dn => draw_ok B.tab B.mixed call B.ok B.le id bf ops s e s' hbf h D ρ a w R sr fr dn.done⟩, hq⟩
structure View (s s1 : St) : Prop where
 next : s1.h.next = s.h.next
 run : ∀ (D : Nat → Prop) (ρ : Ren) (a : Act) (w : World), SRel D ρ s a w → ∃ ρ', GStep True D ρ s.h w ρ' s1.h w ∧ SRel D ρ' s1 a w
theorem WP.view0 {P : Program} {c : Code} {s s1 : St} {Q : AExit → St → Prop} (v : View s s1) (h : WP True P c s1 Q) : WP True P c s Q := by
 obtain ⟨e, s', h1, hq⟩ := h
 refine ⟨e, s', ⟨by rw [← v.next]; exact h1.next, fun n => (n trivial).elim, fun D ρ a w R sr fr dn => ?_⟩, hq⟩
 obtain ⟨ρ1, st, sr1⟩ := v.run D ρ a w sr
 exact h1.run D ρ1 a w R sr1 (fun i h2 h3 => by rw [st.dom i (.inr h2)]; exact fr i (by rw [← v.next]; exact h2) h3) (dn.step st)
end Go.Iv
end
section
set_option linter.unusedVariables false
set_option linter.unusedSimpArgs false
namespace Go.Iv
open Go
def Fz (g : Nat → Option (List AV)) (x x' : AV) : Prop :=
 ∀ (ρ ρ' : Ren) (v : Value), Ren.le ρ ρ' → (∀ b b' n l, g b = some l → ρ b = some (b', n) → ρ'.reg ⟨b', 0, none⟩ l) → x.rel ρ v → x'.rel ρ' v
def FzL (g : Nat → Option (List AV)) (x x' : List AV) : Prop :=
 ∀ (ρ ρ' : Ren) (v : List Value), Ren.le ρ ρ' → (∀ b b' n l, g b = some l → ρ b = some (b', n) → ρ'.reg ⟨b', 0, none⟩ l) → AV.relL ρ x v → AV.relL ρ' x' v
theorem Fz.refl (g : Nat → Option (List AV)) (x : AV) : Fz g x x := fun _ _ _ h _ k => AV.rel_mono h _ _ k
theorem FzL.refl (g : Nat → Option (List AV)) (x : List AV) : FzL g x x := fun _ _ _ h _ k => AV.relL_mono h _ _ k
theorem Fz.slice {g : Nat → Option (List AV)} {b o n c : Nat} {l : List AV} {z : Nat} (hg : g b = some l) (hn : n ≤ c) (hl : o + n * z ≤ l.length) (hz : 0 < z) : Fz g (.slice b o n (.exact c)) (.isl l z o n) := fun ρ ρ' v h hr k => by
 simp only [AV.rel] at k ⊢
 obtain ⟨b', n', h1, rfl⟩ := k
 exact ⟨_, _, rfl, hn, hl, hz, fun _ => ⟨⟨b', 0, none⟩, by rw [addr_add, Nat.zero_add], hr b b' n' l hg h1⟩⟩
theorem Fz.sliceE {g : Nat → Option (List AV)} {b o n e : Nat} {l : List AV} {z : Nat} (hg : g b = some l) (hl : o + n * z ≤ l.length) (hz : 0 < z) : Fz g (.slice b o n (.toEnd e)) (.isl l z o n) := fun ρ ρ' v h hr k => by
 simp only [AV.rel] at k ⊢
 obtain ⟨b', n', c', h1, rfl, h2, h3⟩ := k
 exact ⟨_, _, rfl, h2, hl, hz, fun _ => ⟨⟨b', 0, none⟩, by rw [addr_add, Nat.zero_add], hr b b' n' l hg h1⟩⟩
theorem Fz.ptr {g : Nat → Option (List AV)} {b o : Nat} {l : List AV} (hg : g b = some l) : Fz g (.ptr b o) (.iptr l o) := fun ρ ρ' v h hr k => by
 simp only [AV.rel] at k ⊢
 obtain ⟨b', n', h1, rfl⟩ := k
 exact ⟨⟨b', 0, none⟩, hr b b' n' l hg h1, by rw [addr_add, Nat.zero_add]⟩
theorem Fz.agg {g : Nat → Option (List AV)} {l l' : List AV} (h : FzL g l l') : Fz g (.agg l) (.agg l') := fun ρ ρ' v h1 hr k => by
 simp only [AV.rel] at k ⊢
 obtain ⟨y, e, h2⟩ := k
 exact ⟨y, e, h ρ ρ' y h1 hr h2⟩
theorem Fz.tuple {g : Nat → Option (List AV)} {l l' : List AV} (h : FzL g l l') : Fz g (.tuple l) (.tuple l') := fun ρ ρ' v h1 hr k => by
 simp only [AV.rel] at k ⊢
 obtain ⟨y, e, h2⟩ := k
 exact ⟨y, e, h ρ ρ' y h1 hr h2⟩
theorem Fz.nil {g : Nat → Option (List AV)} {l : List AV} {z o : Nat} (hl : o ≤ l.length) (hz : 0 < z) : Fz g (.flat (.slice none 0 0)) (.isl l z o 0) := fun ρ ρ' v h hr k => by
 simp only [AV.rel] at k ⊢
 subst k
 exact ⟨_, _, rfl, Nat.le_refl _, by omega, hz, fun h => by omega⟩
theorem FzL.nil (g : Nat → Option (List AV)) : FzL g [] [] := FzL.refl g []
theorem FzL.cons {g : Nat → Option (List AV)} {x x' : AV} {l l' : List AV} (h : Fz g x x') (k : FzL g l l') : FzL g (x :: l) (x' :: l') := fun ρ ρ' v h1 hr r => by
 obtain ⟨y, ys, rfl, h2, h3⟩ := relL_cons.1 r
 exact relL_cons.2 ⟨y, ys, rfl, h ρ ρ' y h1 hr h2, k ρ ρ' ys h1 hr h3⟩
theorem FzL.map {α : Type} {g : Nat → Option (List AV)} {f f' : α → AV} : ∀ (l : List α), (∀ x ∈ l, Fz g (f x) (f' x)) → FzL g (l.map f) (l.map f')
 | [], _ => FzL.nil g
 | x :: l, h => FzL.cons (h x (by simp)) (FzL.map l fun y hy => h y (by simp [hy]))
theorem FzL.get {g : Nat → Option (List AV)} : ∀ {l l' : List AV}, l'.length = l.length → (∀ (j : Nat) x x', l[j]? = some x → l'[j]? = some x' → Fz g x x') → FzL g l l'
 | [], [], _, _ => FzL.nil g
 | x :: l, [], h, _ => by simp at h
 | [], x :: l, h, _ => by simp at h
 | x :: l, x' :: l', h, k => FzL.cons (k 0 x x' rfl rfl) (FzL.get (by simpa using h) fun j y y' h1 h2 => k (j + 1) y y' (by simpa using h1) (by simpa using h2))
structure Freeze (g : Nat → Option (List AV)) (s s1 : St) : Prop where
 next : s1.h.next = s.h.next
 n : s1.n = s.n
 ds : s1.ds = s.ds
 slot : ∀ t, Fz g (s.slot t) (s1.slot t)
 left : ∀ i o1, s1.h.get i = some o1 → g i = none ∧ ∃ l l1 e x, s.h.get i = some (.cells l e x) ∧ o1 = .cells l1 e x ∧ FzL g l l1
 gone : ∀ i l, g i = some l → pureL l = true ∧ ∃ l0 e x, s.h.get i = some (.cells l0 e x) ∧ FzL g l0 l
theorem Freeze.view {g : Nat → Option (List AV)} {s s1 : St} (f : Freeze g s s1) : View s s1 := by
 refine ⟨f.next, fun D ρ a w sr => ?_⟩
 obtain ⟨ρ', hρ'⟩ : ∃ ρ' : Ren, ρ' = ⟨ρ.f, fun ad l => ρ.reg ad l ∨ ∃ i b n, g i = some l ∧ ρ i = some (b, n) ∧ ad = ⟨b, 0, none⟩⟩ := ⟨_, rfl⟩
 have hf : ∀ i, ρ' i = ρ i := fun i => by rw [hρ']
 have hle : Ren.le ρ ρ' := ⟨fun i x h => by rw [hf]; exact h, fun ad l h => by rw [hρ']; exact .inl h⟩
 have hreg : ∀ b b' n l, g b = some l → ρ b = some (b', n) → ρ'.reg ⟨b', 0, none⟩ l := fun b b' n l h1 h2 => by rw [hρ']; exact .inr ⟨b, b', n, h1, h2, rfl⟩
 have hr := sr.hr
 have live : ∀ i, s1.h.get i ≠ none → s.h.get i ≠ none ∧ g i = none := fun i h => by
  cases ho : s1.h.get i with
  | none => exact absurd ho h
  | some o1 =>
   obtain ⟨h1, l, l1, e, x, h2, _⟩ := f.left i o1 ho
   exact ⟨by rw [h2]; simp, h1⟩
 have hr1 : HR D ρ' s1.h w := by
  refine ⟨fun i b n o1 hi ho => ?_, fun i j b n m hi hj hli hlj => ?_, fun i hi => ?_, hr.far, fun ad l hl => ?_⟩
  ·rw [hf] at hi
   obtain ⟨_, l, l1, e, x, h2, rfl, h3⟩ := f.left i o1 ho
   obtain ⟨h4, o', h5, p, r, rfl, h6, h7, h8⟩ := hr.obj i b n _ hi h2
   exact ⟨h4, _, h5, p, r, rfl, h6, h3 ρ ρ' p hle hreg h7, h8⟩
  ·rw [hf] at hi hj
   exact hr.inj i j b n m hi hj (live i hli).1 (live j hlj).1
  ·cases ho : s1.h.get i with
   | none => rfl
   | some o1 =>
    obtain ⟨_, l, l1, e, x, h2, _⟩ := f.left i o1 ho
    rw [hr.born i (by rw [← f.next]; exact hi)] at h2
    cases h2
  ·rw [hρ'] at hl
   rcases hl with hl | ⟨i, b, n, hg, hi, rfl⟩
   ·refine (hr.reg ad l hl).keep hle (fun _ => rfl) (fun hne j m hj => ?_)
    rw [hf] at hj
    cases ho : s1.h.get j with
    | none => rfl
    | some o1 => exact absurd ((hr.reg ad l hl).own hne j m hj) (live j (by rw [ho]; simp)).1
   ·obtain ⟨hp, l0, e, x, h2, h3⟩ := f.gone i l hg
    obtain ⟨_, o', h5, p, r, rfl, h6, h7, h8⟩ := hr.obj i b n _ hi h2
    have h9 := h3 ρ ρ' p hle hreg h7
    refine ⟨fun j y hj => ?_, fun hne j m hj => ?_, hp⟩
    ·obtain ⟨v, hv1, hv2⟩ := relL_get j h9 hj
     exact ⟨v, cells_at (o := 0) h5 (by simpa using hv1), hv2⟩
    ·rw [hf] at hj
     cases ho : s1.h.get j with
     | none => rfl
     | some o1 =>
      obtain ⟨h10, h11⟩ := live j (by rw [ho]; simp)
      have : j = i := hr.inj j i b m n hj hi h10 (by rw [h2]; simp)
      rw [this, hg] at h11
      cases h11
 refine ⟨ρ', ⟨hle, Fr.refl _ _, by rw [f.next]; exact Nat.le_refl _, fun i _ => hf i, fun ad l hl => ?_⟩, ⟨fun t => f.slot t ρ ρ' _ hle hreg (sr.tm t), by rw [f.n]; exact sr.sz, hr1, by rw [f.ds]; exact relDs_mono hle sr.ds⟩⟩
 rw [hρ'] at hl
 rcases hl with hl | ⟨i, b, n, hg, hi, rfl⟩
 ·exact .inl hl
 ·obtain ⟨_, l0, e, x, h2, _⟩ := f.gone i l hg
  exact .inr (.inr (.inr ⟨trivial, (hr.obj i b n _ hi h2).1⟩))
def SemCall (P : Program) (f : FuncId) (args : List AV) (h : Hp) (e : AEnd) (h' : Hp) : Prop :=
 ∀ (D : Nat → Prop) (ρ : Ren) (w : World) (args' : List Value), HR D ρ h w → Free ρ h.next h'.next → AV.relL ρ args args' →
  Calls P f ⟨args'⟩ w fun e' w' => ∃ ρ', Step D ρ h w ρ' h' w' ∧ EndRel ρ' e e'
def endQ (T : Tab) (rs : List ResultVar) (Q : AEnd → Hp → Prop) : AExit → St → Prop
 | .normal, s => s.ds = [] ∧ ∃ l, evResults T s rs = some l ∧ Q (.ret (oneOf l)) s.h
 | .ret, s => s.ds = [] ∧ ∃ l, evResults T s rs = some l ∧ Q (.ret (oneOf l)) s.h
 | .panic v, s => s.ds = [] ∧ Q (.pan v) s.h
 | _, _ => False
theorem endQ_post {P : Program} {T : Tab} (hT : T.Ok P) {fn : Func} {Q : AEnd → Hp → Prop} {e : AExit} {s : St} (h : endQ T fn.results.toList Q e s) : ∃ en, Q en s.h ∧ ∀ (D : Nat → Prop) (ρ : Ren) (a : Act) (w : World) (e' : Exit) (R : Ending → World → Prop),
    SRel D ρ s a w → ExRel ρ e e' → (∀ e2, EndRel ρ en e2 → R e2 w) → bodyPost P fn R e' a w := by
 have ret : (s.ds = [] ∧ ∃ l, evResults T s fn.results.toList = some l ∧ Q (.ret (oneOf l)) s.h) → ∃ en, Q en s.h ∧ ∀ (D : Nat → Prop) (ρ : Ren) (a : Act) (w : World) (R : Ending → World → Prop),
     SRel D ρ s a w → (∀ e2, EndRel ρ en e2 → R e2 w) → a.defers = [] ∧ ∃ v, (results fn a.tmps).run P w = .ok v w ∧ R (.returned v) w := fun ⟨hd, l, hl, hq⟩ => ⟨_, hq, fun D ρ a w R sr hR => by
  have h1 := sr.ds
  rw [hd] at h1
  obtain ⟨v, h2, h3⟩ := run_results hT sr hl
  exact ⟨h1, v, h2, hR _ ⟨v, rfl, h3⟩⟩⟩
 cases e with
 | normal =>
  obtain ⟨en, h1, h2⟩ := ret h
  exact ⟨en, h1, fun D ρ a w e' R sr er hR => by simp only [ExRel] at er; subst er; exact h2 D ρ a w R sr hR⟩
 | ret =>
  obtain ⟨en, h1, h2⟩ := ret h
  exact ⟨en, h1, fun D ρ a w e' R sr er hR => by simp only [ExRel] at er; subst er; exact h2 D ρ a w R sr hR⟩
 | panic v =>
  refine ⟨_, h.2, fun D ρ a w e' R sr er hR => ?_⟩
  obtain ⟨v', rfl, hv⟩ := er
  have h1 := sr.ds
  rw [h.1] at h1
  exact ⟨h1, hR _ ⟨v', rfl, hv⟩⟩
 | exit id => exact h.elim
 | goto id => exact h.elim
def entry (args : List AV) (nt : Nat) (h : Hp) (tm : Nat → Option AV) : St := ⟨tm, args.length + (nt - args.length), h, []⟩
theorem heap_call {P : Program} {T : Tab} (hT : T.Ok P) {f : FuncId} {fn : Func} {c : Code} (hf : P.funcs[f]? = some fn) (hb : fn.body = some c) {args : List AV} {tm : Nat → Option AV} (htm : putArgs args 0 noTmp = some tm) {h : Hp} {Q : AEnd → Hp → Prop}
    (hw : WP False P c (entry args fn.ntmps h tm) (endQ T fn.results.toList Q)) : ∃ e h', SemCall P f args h e h' ∧ Hp.Le h h' ∧ Q e h' := by
 obtain ⟨e, s', h1, h2⟩ := hw
 obtain ⟨en, h3, h4⟩ := endQ_post hT h2
 refine ⟨en, s'.h, fun D ρ w args' hr fr ha => ?_, h1.le (fun h => h), h3⟩
 refine calls_of_wp hf hb (h1.run D ρ _ w _ (enter_rel hr ha htm) fr ?_)
 intro ρ' e' a' w' st sr er
 exact h4 D ρ' a' w' e' _ sr er fun e2 he2 => ⟨ρ', st.step sr.hr, he2⟩
theorem pure_call {P : Program} {T : Tab} (hT : T.Ok P) {f : FuncId} {fn : Func} {c : Code} (hf : P.funcs[f]? = some fn) (hb : fn.body = some c) {args : List AV} {tm : Nat → Option AV} (htm : putArgs args 0 noTmp = some tm) (hp : pureL args = true) {v : AV} (hv : v.pure = true)
    (hw : WP True P c (entry args fn.ntmps Hp.empty tm) (endQ T fn.results.toList fun e _ => e = .ret v)) (h : Hp) : SemCall P f args h (.ret v) h := by
 obtain ⟨e, s', h1, h2⟩ := hw
 obtain ⟨en, h3, h4⟩ := endQ_post hT h2
 subst h3
 intro D ρ w args' hr fr ha
 obtain ⟨ρ1, hρ1⟩ : ∃ ρ1 : Ren, ρ1 = ⟨fun _ => none, ρ.reg⟩ := ⟨_, rfl⟩
 have hr1 : HR (fun b => w.heap.size ≤ b) ρ1 Hp.empty w := by
  rw [hρ1]
  refine ⟨fun i b n o h => (by cases h), fun i j b n m h => (by cases h), fun i _ => rfl, fun b h => h, fun ad l hl => ?_⟩
  have hk := hr.reg ad l hl
  refine ⟨fun j x hj => ?_, fun _ i n h => (by cases h), hk.pur⟩
  obtain ⟨y, h5, h6⟩ := hk.cell j x hj
  exact ⟨y, h5, AV.rel_pure (ρ := ρ) (ρ' := ⟨fun _ => none, ρ.reg⟩) (fun _ _ h => h) x y (pureL_get hk.pur hj) h6⟩
 have ha1 : AV.relL ρ1 args args' := AV.relL_pure (ρ := ρ) (fun ad l h => by rw [hρ1]; exact h) _ _ hp ha
 refine calls_of_wp hf hb (h1.run _ ρ1 _ w _ (enter_rel hr1 ha1 htm) (fun i _ _ => by rw [hρ1]) ?_)
 intro ρ' e' a' w' st sr er
 refine h4 _ ρ' a' w' e' _ sr er fun e2 he2 => ?_
 have hblk : ∀ b, b < w.heap.size → w'.heap[b]? = w.heap[b]? := fun b hb => st.fr.block b hb (by omega)
 have hsz := st.fr.size
 obtain ⟨ρ2, hρ2⟩ : ∃ ρ2 : Ren, ρ2 = ⟨ρ.f, ρ'.reg⟩ := ⟨_, rfl⟩
 have hle : Ren.le ρ ρ2 := ⟨fun i x h => by rw [hρ2]; exact h, fun ad l h => by rw [hρ2]; exact st.le.reg ad l (by rw [hρ1]; exact h)⟩
 have hf2 : ∀ i, ρ2 i = ρ i := fun i => by rw [hρ2]
 have hlt : ∀ i b n, ρ i = some (b, n) → h.get i ≠ none → b < w.heap.size := fun i b n hi hl => by
  cases hg : h.get i with
  | none => exact absurd hg hl
  | some o =>
   obtain ⟨_, o', h5, _⟩ := hr.obj i b n o hi hg
   exact (Array.getElem?_eq_some_iff.1 h5).1
 have hnreg : ∀ ad l, ρ2.reg ad l → ρ.reg ad l ∨ Digits l ∨ w.heap.size ≤ ad.block := fun ad l hl => by
  rw [hρ2] at hl
  rcases st.nreg ad l hl with h | h | h | h
  ·rw [hρ1] at h; exact .inl h
  ·exact .inr (.inl h)
  ·exact .inr (.inr h)
  ·exact .inr (.inr h.2)
 have hr2 : HR D ρ2 h w' := by
  refine ⟨fun i b n o hi ho => ?_, fun i j b n m hi hj hli hlj => ?_, hr.born, fun b hb => hr.far b (by omega), fun ad l hl => ?_⟩
  ·rw [hf2] at hi
   obtain ⟨h5, o', h6, h7⟩ := hr.obj i b n o hi ho
   exact ⟨h5, o', by rw [hblk b (hlt i b n hi (by rw [ho]; simp))]; exact h6, AO.rel_mono hle h7⟩
  ·rw [hf2] at hi hj
   exact hr.inj i j b n m hi hj hli hlj
  ·have hk := sr.hr.reg ad l (by rw [hρ2] at hl; exact hl)
   refine ⟨fun j x hj => ?_, fun hne i n hi => ?_, hk.pur⟩
   ·obtain ⟨y, h5, h6⟩ := hk.cell j x hj
    exact ⟨y, h5, AV.rel_pure (ρ := ρ') (fun ad l h => by rw [hρ2]; exact h) x y (pureL_get hk.pur hj) h6⟩
   ·rw [hf2] at hi
    cases ho : h.get i with
    | none => rfl
    | some o =>
     exfalso
     rcases hnreg ad l hl with h5 | h5 | h5
     ·have := (hr.reg ad l h5).own hne i n hi
      rw [ho] at this; cases this
     ·obtain ⟨_, o', h6, h7⟩ := hr.obj i _ n o hi ho
      exact h5.cell hk.cell (by rw [hblk _ (hlt i _ n hi (by rw [ho]; simp))]; exact h6) h7
     ·have := hlt i _ n hi (by rw [ho]; simp)
      omega
 refine ⟨ρ2, ⟨hr2, hle, ⟨st.fr.os, st.fr.tape, st.fr.output, hsz, fun b hb _ => hblk b hb⟩, Nat.le_refl _, fun i _ => hf2 i, hnreg⟩, ?_⟩
 obtain ⟨v', h5, h6⟩ := he2
 exact ⟨v', h5, AV.rel_pure (ρ := ρ') (fun ad l h => by rw [hρ2]; exact h) v v' hv h6⟩
end Go.Iv
end
section
set_option linter.unusedVariables false
set_option linter.unusedSimpArgs false
namespace Go.Iv
open Go
abbrev Spec := FuncId → List AV → Hp → AEnd → Hp → Prop
open Classical in
noncomputable def tabF (S : Spec) : CallF := fun f args h => if hx : ∃ r : AEnd × Hp, S f args h r.1 r.2 then some (Classical.choose hx) else none
structure SpecOk (P : Program) (S : Spec) : Prop where
 ok : ∀ f args h e h', S f args h e h' → SemCall P f args h e h'
 le : ∀ f args h e h', S f args h e h' → Hp.Le h h'
theorem tabF_get {S : Spec} {f : FuncId} {args : List AV} {h : Hp} {e : AEnd} {h' : Hp} (k : tabF S f args h = some (e, h')) : S f args h e h' := by
 unfold tabF at k
 split at k
 ·rename_i hx
  have := Classical.choose_spec hx
  simp only [Option.some.injEq] at k
  rw [k] at this
  exact this
 ·cases k
theorem SpecOk.base {P : Program} {T : Tab} {S : Spec} (k : SpecOk P S) (hT : T.Ok P) (hm : P.follows .mixedOrders = true) : Base P T (tabF S) :=
 ⟨hT, hm, fun f args h e h' hc => k.ok f args h e h' (tabF_get hc), fun f args h e h' hc => k.le f args h e h' (tabF_get hc)⟩
def only (f : FuncId) (S : List AV → Hp → AEnd → Hp → Prop) : Spec := fun g args h e h' => g = f ∧ S args h e h'
theorem semcall_of {P : Program} {f : FuncId} {args : List AV} {v : AV} {h : Hp}
    (k : ∀ (D : Nat → Prop) (ρ : Ren) (w : World) (args' : List Value), HR D ρ h w → AV.relL ρ args args' →
     Calls P f ⟨args'⟩ w fun e' w' => ∃ v', e' = .returned v' ∧ RowKit.Below w.heap.size w w' ∧ ∀ ρ1, HR D ρ1 h w' → Ren.le ρ ρ1 → ∃ ρ2, Step D ρ1 h w' ρ2 h w' ∧ v.rel ρ2 v') : SemCall P f args h (.ret v) h := fun D ρ w args' hr fr ha => by
 refine (k D ρ w args' hr ha).mono ?_
 rintro e' w' ⟨v', rfl, hb, hv⟩
 have st := Step.below hr hb
 obtain ⟨ρ2, st2, h2⟩ := hv ρ st.hr (Ren.le.refl _)
 exact ⟨ρ2, st.trans st2, v', rfl, h2⟩
def dcell (x : Nat) : AV := .flat (.int .u32 (x : Int))
def dgs (l : List Nat) : AV := .isl (l.map dcell) 1 0 l.length
theorem pureL_map {α : Type} {f : α → AV} (hf : ∀ x, (f x).pure = true) : ∀ l : List α, pureL (l.map f) = true
 | [] => rfl
 | x :: l => by simp [pureL, hf x, pureL_map hf l]
theorem dgs_open {D : Nat → Prop} {ρ : Ren} {h : Hp} {w : World} (k : HR D ρ h w) {l : List Nat} {v : Value} (hv : (dgs l).rel ρ v) :
    ∃ A c, v = .slice A l.length c ∧ l.length ≤ c ∧ (0 < l.length → ∃ ad, A = some ad ∧ ∀ (j x : Nat), l[j]? = some x → w.cell? (ad.add j) = some (.int .u32 (x : Int))) := by
 simp only [dgs, AV.rel] at hv
 obtain ⟨A, c, rfl, h1, _, _, h4⟩ := hv
 refine ⟨A, c, rfl, h1, fun hl => ?_⟩
 obtain ⟨ad, rfl, hr⟩ := h4 hl
 refine ⟨ad.add 0, rfl, fun j x hj => ?_⟩
 obtain ⟨y, h5, h6⟩ := (k.reg _ _ hr).cell j (dcell x) (by simp [hj])
 simp only [dcell, AV.rel] at h6
 subst h6
 rw [addr_add_add, Nat.zero_add]
 exact h5
theorem dgs_shut {D : Nat → Prop} {ρ : Ren} {h : Hp} {w : World} (k : HR D ρ h w) {l : List Nat} {A : Option Addr} {c : Nat} (hc : l.length ≤ c) (hr : 0 < l.length → ∃ ad, A = some ad ∧ ∀ (j x : Nat), l[j]? = some x → w.cell? (ad.add j) = some (.int .u32 (x : Int))) :
    ∃ ρ', Step D ρ h w ρ' h w ∧ (dgs l).rel ρ' (.slice A l.length c) := by
 rcases Nat.eq_zero_or_pos l.length with h0 | h0
 ·refine ⟨ρ, Step.refl k, ?_⟩
  simp only [dgs, AV.rel]
  exact ⟨A, c, rfl, hc, by simp, by omega, fun h => by omega⟩
 ·obtain ⟨ad, rfl, hcell⟩ := hr h0
  obtain ⟨ρ', hρ'⟩ : ∃ ρ' : Ren, ρ' = ⟨ρ.f, fun a m => ρ.reg a m ∨ (a = ad ∧ m = l.map dcell)⟩ := ⟨_, rfl⟩
  have hf : ∀ i, ρ' i = ρ i := fun i => by rw [hρ']
  have hle : Ren.le ρ ρ' := ⟨fun i x hx => by rw [hf]; exact hx, fun a m hx => by rw [hρ']; exact .inl hx⟩
  have hdig : Digits (l.map dcell) := by
   obtain ⟨x, hx⟩ : ∃ x, l[0]? = some x := ⟨_, List.getElem?_eq_getElem h0⟩
   exact ⟨(x : Int), by simp [hx, dcell]⟩
  have hcells : ∀ j x, (l.map dcell)[j]? = some x → ∃ y, w.cell? (ad.add j) = some y ∧ x.rel ρ' y := fun j x hj => by
   rw [List.getElem?_map, Option.map_eq_some_iff] at hj
   obtain ⟨d, hd, rfl⟩ := hj
   exact ⟨_, hcell j d hd, by simp [dcell, AV.rel]⟩
  have hr' : HR D ρ' h w := by
   refine ⟨fun i b n o hi ho => ?_, fun i j b n m hi hj => by rw [hf] at hi hj; exact k.inj i j b n m hi hj, k.born, k.far, fun a m hm => ?_⟩
   ·rw [hf] at hi
    obtain ⟨h1, o', h2, h3⟩ := k.obj i b n o hi ho
    exact ⟨h1, o', h2, AO.rel_mono hle h3⟩
   ·rw [hρ'] at hm
    rcases hm with hm | ⟨rfl, rfl⟩
    ·exact (k.reg a m hm).keep hle (fun _ => rfl) (fun hne i n hi => by rw [hf] at hi; exact (k.reg a m hm).own hne i n hi)
    ·refine ⟨hcells, fun hne i n hi => ?_, pureL_map (fun _ => rfl) l⟩
     rw [hf] at hi
     cases ho : h.get i with
     | none => rfl
     | some o =>
      obtain ⟨_, o', h2, h3⟩ := k.obj i _ n o hi ho
      exact (hdig.cell hcells h2 h3).elim
  refine ⟨ρ', ⟨hr', hle, Fr.refl _ _, Nat.le_refl _, fun i _ => hf i, fun a m hm => ?_⟩, ?_⟩
  ·rw [hρ'] at hm
   rcases hm with hm | ⟨rfl, rfl⟩
   ·exact .inl hm
   ·exact .inr (.inl hdig)
  ·simp only [dgs, AV.rel]
   exact ⟨_, c, rfl, hc, by simp, by omega, fun _ => ⟨ad, rfl, by rw [hρ']; exact .inr ⟨rfl, rfl⟩⟩⟩
structure Stood (w : World) (R : Addr → List AV → Prop) : Prop where
 cell : ∀ ad l, R ad l → ∀ j x, l[j]? = some x → ∃ y, w.cell? (ad.add j) = some y ∧ x.rel ⟨fun _ => none, R⟩ y
 pur : ∀ ad l, R ad l → pureL l = true
theorem Stood.hr {w : World} {R : Addr → List AV → Prop} (k : Stood w R) : HR (fun b => w.heap.size ≤ b) ⟨fun _ => none, R⟩ Hp.empty w :=
 ⟨fun i b n o h => (by cases h), fun i j b n m h => (by cases h), fun i _ => rfl, fun b h => h, fun ad l hl => ⟨k.cell ad l hl, fun _ i n h => (by cases h), k.pur ad l hl⟩⟩
theorem Stood.call {P : Program} {f : FuncId} {args : List AV} {v : AV} {w : World} {R : Addr → List AV → Prop} (k : Stood w R) (hc : SemCall P f args Hp.empty (.ret v) Hp.empty) {args' : List Value} (ha : AV.relL ⟨fun _ => none, R⟩ args args') :
    Calls P f ⟨args'⟩ w fun e w' => ∃ v' ρ', e = .returned v' ∧ v.rel ρ' v' ∧ RowKit.Below w.heap.size w w' := by
 refine (hc _ _ w args' k.hr (fun _ _ _ => rfl) ha).mono ?_
 rintro e w' ⟨ρ', st, v', rfl, hv⟩
 exact ⟨v', ρ', rfl, hv, st.fr.os, st.fr.tape, st.fr.output, st.fr.size, fun i hi => st.fr.block i hi (by omega)⟩
end Go.Iv
end
section
set_option linter.unusedVariables false
set_option linter.unusedSimpArgs false
namespace Go.Iv
open Go
theorem upd_eq {α : Type} (f : Nat → Option α) (k : Nat) (x : Option α) : upd f k x k = x := by simp [upd]
theorem upd_ne {α : Type} (f : Nat → Option α) {k j : Nat} (x : Option α) (h : j ≠ k) : upd f k x j = f j := by simp [upd, h]
theorem blt_dec (a b : Nat) : Nat.blt a b = decide (a < b) := by rw [Bool.eq_iff_iff, Nat.blt_eq, decide_eq_true_iff]
theorem ble_dec (a b : Nat) : Nat.ble a b = decide (a ≤ b) := by rw [Bool.eq_iff_iff, Nat.ble_eq, decide_eq_true_iff]
theorem beq_dec (a b : Nat) : Nat.beq a b = decide (a = b) := by rw [Bool.eq_iff_iff, Nat.beq_eq, decide_eq_true_iff]
theorem small_dec (n : Nat) : small n = decide (n < 1048576) := blt_dec _ _
theorem ieq_dec (a b : Int) : ieq a b = decide (a = b) := by rw [ieq_eq]; rfl
theorem dec_true {p : Prop} [Decidable p] (h : p) : decide p = true := decide_eq_true h
theorem dec_false {p : Prop} [Decidable p] (h : ¬ p) : decide p = false := decide_eq_false h
theorem add_is (a b : Int) : Int.add a b = a + b := rfl
theorem sub_is (a b : Int) : Int.sub a b = a - b := rfl
theorem mul_is (a b : Int) : Int.mul a b = a * b := rfl
theorem ofNat_is (n : Nat) : Int.ofNat n = (n : Int) := rfl
theorem fwrap_in {z : Int} (h1 : -9223372036854775808 ≤ z) (h2 : z ≤ 9223372036854775807) : fwrap .i64 z = z := by rw [fwrap_eq]; exact IntWalk.i64_in _ ⟨by omega, by omega⟩
theorem inRange_nat {i n : Nat} (h1 : i < n) : inRange (i : Int) n = some i := by
 show inRange (.ofNat i) n = _
 simp only [inRange]; rw [Nat.blt_eq.mpr h1]; rfl
theorem asNat_nat (k : IntKind) (n : Nat) : asNat (.flat (.int k (n : Int))) = some n := rfl
theorem evMakeSlice_nat (T : Tab) (t : TypeId) (k k' : IntKind) (l c : Nat) (h : Hp) : evMakeSlice T t (.flat (.int k (l : Int))) (.flat (.int k' (c : Int))) h =
    match T.types.get t with
    | some ti => match ti.td with
     | .slice e => match T.types.get e with
      | some te => cond (small c && small te.bytes && Nat.ble l c) ((newBlk h (reps (te.zero.map .flat) c) e false).map fun h' => (.slice h.next 0 l (.exact c), h')) none
      | none => none
     | _ => none
    | none => none := by
 show evMakeSlice T t (.flat (.int k (.ofNat l))) (.flat (.int k' (.ofNat c))) h = _
 unfold evMakeSlice
 cases T.types.get t <;> rfl
theorem reps_one (v : AV) (n : Nat) : reps [v] n = List.replicate n v := by
 induction n with
 | zero => rfl
 | succ n ih => simp [reps, ih, List.replicate_succ]
theorem takeX_take {α : Type} : ∀ {l : List α} {n : Nat}, n ≤ l.length → takeX l n = some (l.take n)
 | _, 0, _ => by simp [takeX]
 | [], n + 1, h => by simp at h
 | x :: l, n + 1, h => by simp [takeX, takeX_take (l := l) (n := n) (by simpa using h)]
theorem spl_one : ∀ {l : List AV} {o : Nat} {v : AV}, o < l.length → spl l o [v] = some (l.set o v)
 | x :: l, 0, v, _ => by simp [spl, over]
 | x :: l, o + 1, v, h => by simp [spl, spl_one (l := l) (o := o) (v := v) (by simpa using h)]
 | [], o, v, h => by simp at h
theorem spl_is (l : List AV) (o : Nat) (v : AV) : spl l o [v] = cond (decide (o < l.length)) (some (l.set o v)) none := by
 by_cases h : o < l.length
 ·simp [spl_one h, h]
 ·cases hs : spl l o [v] with
  | none => simp [h]
  | some r =>
   have := (spl_eq hs).2
   simp at this
   omega
theorem over_cons2 : ∀ (l : List AV) (a b : AV) (cs : List AV), over l (a :: b :: cs) = match spl l 0 [a] with | some l' => spl l' 1 (b :: cs) | none => none
 | [], a, b, cs => rfl
 | x :: l, a, b, cs => by simp [over, spl]
theorem spl_cons2 : ∀ (l : List AV) (o : Nat) (a b : AV) (cs : List AV), spl l o (a :: b :: cs) = match spl l o [a] with | some l' => spl l' (o + 1) (b :: cs) | none => none
 | l, 0, a, b, cs => by rw [spl, over_cons2]
 | [], o + 1, a, b, cs => rfl
 | x :: l, o + 1, a, b, cs => by
  simp only [spl]
  rw [spl_cons2 l o a b cs]
  cases spl l o [a] with
  | none => rfl
  | some l' => simp [spl]
theorem takeX_is {α : Type} (l : List α) (n : Nat) : takeX l n = cond (decide (n ≤ l.length)) (some (l.take n)) none := by
 by_cases h : n ≤ l.length
 ·simp [takeX_take h, h]
 ·cases hs : takeX l n with
  | none => simp [h]
  | some r => exact absurd (takeX_eq hs).2 h
theorem allClean_map {α : Type} {f : α → AV} (hf : ∀ x, (f x).clean = true) : ∀ l : List α, allClean (l.map f) = true
 | [] => rfl
 | x :: l => by simp [allClean, hf x, allClean_map hf l]
theorem allOne_map {α : Type} {f : α → AV} (hf : ∀ x, (f x).one = true) : ∀ l : List α, allOne (l.map f) = true
 | [] => rfl
 | x :: l => by simp [allOne, hf x, allOne_map hf l]
theorem allClean_rep' (v : AV) (n : Nat) : allClean (List.replicate n v) = (v.clean || decide (n = 0)) := by
 induction n with
 | zero => simp [allClean]
 | succ n ih =>
  rw [List.replicate_succ, allClean, ih]
  cases v.clean <;> simp
theorem newBlk_is (h : Hp) (l : List AV) (t : TypeId) (x : Bool) : newBlk h l t x = cond (allClean l) (some ⟨h.next + 1, h.low, upd h.m h.next (some (.cells l t x))⟩) none := by
 simp [newBlk, Hp.new]
def lowP (i l : Nat) : Nat := cond (Nat.blt i l) i l
theorem put_is (h : Hp) (i : Nat) (o : Option AO) : h.put i o = cond (decide (i < h.next)) (some ⟨h.next, lowP i h.low, upd h.m i o⟩) none := by
 rw [← blt_dec]; rfl
theorem put_some {h : Hp} {i : Nat} {o : Option AO} (hi : i < h.next) : h.put i o = some ⟨h.next, cond (Nat.blt i h.low) i h.low, upd h.m i o⟩ := by
 simp [Hp.put, Nat.blt_eq.mpr hi]
end Go.Iv
end
section
set_option linter.unusedVariables false
set_option linter.unusedSimpArgs false
namespace Go.Iv
open Go
section
variable {α : Type} (l : List α)
theorem clean_slice (f g p : α → Nat) (q : α → Cap) : allClean (l.map fun i => .slice (f i) (g i) (p i) (q i)) = true := allClean_map (fun _ => rfl) l
theorem clean_isl (f : α → List AV) (g p q : α → Nat) : allClean (l.map fun i => .isl (f i) (g i) (p i) (q i)) = true := allClean_map (fun _ => rfl) l
theorem clean_i64 (f : α → Int) : allClean (l.map fun i => .flat (.int .i64 (f i))) = true := allClean_map (fun _ => rfl) l
theorem clean_ptr (f g : α → Nat) : allClean (l.map fun i => .ptr (f i) (g i)) = true := allClean_map (fun _ => rfl) l
theorem one_slice (f g p : α → Nat) (q : α → Cap) : allOne (l.map fun i => .slice (f i) (g i) (p i) (q i)) = true := allOne_map (fun _ => rfl) l
theorem one_isl (f : α → List AV) (g p q : α → Nat) : allOne (l.map fun i => .isl (f i) (g i) (p i) (q i)) = true := allOne_map (fun _ => rfl) l
theorem one_i64 (f : α → Int) : allOne (l.map fun i => .flat (.int .i64 (f i))) = true := allOne_map (fun _ => rfl) l
theorem one_ptr (f g : α → Nat) : allOne (l.map fun i => .ptr (f i) (g i)) = true := allOne_map (fun _ => rfl) l
end
theorem evMax_int (k k' : IntKind) (x y : Int) : evMax (.flat (.int k x)) (.flat (.int k' y)) = some (.flat (.int k (max x y))) := by
 simp only [evMax, ilt_eq]
 by_cases h : x < y
 ·simp only [h, decide_true, cond_true, Int.max_def, if_pos (Int.le_of_lt h)]
 ·simp only [h, decide_false, cond_false, Int.max_def]
  split
  ·have : x = y := by omega
   rw [this]
  ·rfl
theorem evMin_int (k k' : IntKind) (x y : Int) : evMin (.flat (.int k x)) (.flat (.int k' y)) = some (.flat (.int k (min x y))) := by
 simp only [evMin, ilt_eq]
 by_cases h : y < x
 ·simp only [h, decide_true, cond_true, Int.min_def, if_neg (show ¬ x ≤ y by omega)]
 ·simp only [h, decide_false, cond_false, Int.min_def, if_pos (show x ≤ y by omega)]
theorem fold1 (f : AV → AV → Option AV) (x y : AV) : foldOp f x [y] = match f x y with | some z => foldOp f z [] | none => none := rfl
theorem fold0 (f : AV → AV → Option AV) (x : AV) : foldOp f x [] = some x := rfl
theorem cells_agg (l : List AV) : AV.cells (.agg l) = l := rfl
theorem cells_int (k : IntKind) (x : Int) : AV.cells (.flat (.int k x)) = [.flat (.int k x)] := rfl
theorem cells_bool (b : Bool) : AV.cells (.flat (.bool b)) = [.flat (.bool b)] := rfl
theorem cells_str (s : ByteArray) : AV.cells (.flat (.string s)) = [.flat (.string s)] := rfl
theorem cells_nil (A : Option Addr) (n c : Nat) : AV.cells (.flat (.slice A n c)) = [.flat (.slice A n c)] := rfl
theorem cells_nilp (A : Option Addr) : AV.cells (.flat (.pointer A)) = [.flat (.pointer A)] := rfl
theorem cells_nili : AV.cells (.flat .nilIface) = [.flat .nilIface] := rfl
theorem cells_nilf : AV.cells (.flat .nilFunc) = [.flat .nilFunc] := rfl
theorem cells_ptr (b o : Nat) : AV.cells (.ptr b o) = [.ptr b o] := rfl
theorem cells_iptr (l : List AV) (o : Nat) : AV.cells (.iptr l o) = [.iptr l o] := rfl
theorem cells_slice (b o n : Nat) (c : Cap) : AV.cells (.slice b o n c) = [.slice b o n c] := rfl
theorem cells_isl (l : List AV) (z o n : Nat) : AV.cells (.isl l z o n) = [.isl l z o n] := rfl
theorem cells_func (fn : Fn) (a b : List AV) : AV.cells (.func fn a b) = [.func fn a b] := rfl
theorem cells_iface (t : TypeId) (v : AV) : AV.cells (.iface t v) = [.iface t v] := rfl
theorem cells_tuple (l : List AV) : AV.cells (.tuple l) = [.tuple l] := rfl
theorem one_int (k : IntKind) (x : Int) : AV.one (.flat (.int k x)) = true := rfl
theorem one_bool (b : Bool) : AV.one (.flat (.bool b)) = true := rfl
theorem one_str (s : ByteArray) : AV.one (.flat (.string s)) = true := rfl
theorem one_nil (A : Option Addr) (n c : Nat) : AV.one (.flat (.slice A n c)) = true := rfl
theorem one_nilp (A : Option Addr) : AV.one (.flat (.pointer A)) = true := rfl
theorem one_nili : AV.one (.flat .nilIface) = true := rfl
theorem one_nilf : AV.one (.flat .nilFunc) = true := rfl
theorem one_ptr1 (b o : Nat) : AV.one (.ptr b o) = true := rfl
theorem one_iptr1 (l : List AV) (o : Nat) : AV.one (.iptr l o) = true := rfl
theorem one_slice1 (b o n : Nat) (c : Cap) : AV.one (.slice b o n c) = true := rfl
theorem one_isl1 (l : List AV) (z o n : Nat) : AV.one (.isl l z o n) = true := rfl
theorem one_func1 (fn : Fn) (a b : List AV) : AV.one (.func fn a b) = true := rfl
theorem one_iface1 (t : TypeId) (v : AV) : AV.one (.iface t v) = true := rfl
theorem clean_int64 (x : Int) : AV.clean (.flat (.int .i64 x)) = true := rfl
theorem clean_intu64 (x : Int) : AV.clean (.flat (.int .u64 x)) = true := rfl
theorem clean_intu8 (x : Int) : AV.clean (.flat (.int .u8 x)) = true := rfl
theorem clean_inti32 (x : Int) : AV.clean (.flat (.int .i32 x)) = true := rfl
theorem clean_bool (b : Bool) : AV.clean (.flat (.bool b)) = true := rfl
theorem clean_str (s : ByteArray) : AV.clean (.flat (.string s)) = true := rfl
theorem clean_nil (A : Option Addr) (n c : Nat) : AV.clean (.flat (.slice A n c)) = true := rfl
theorem clean_nilp (A : Option Addr) : AV.clean (.flat (.pointer A)) = true := rfl
theorem clean_nili : AV.clean (.flat .nilIface) = true := rfl
theorem clean_nilf : AV.clean (.flat .nilFunc) = true := rfl
theorem clean_ptr1 (b o : Nat) : AV.clean (.ptr b o) = true := rfl
theorem clean_iptr1 (l : List AV) (o : Nat) : AV.clean (.iptr l o) = true := rfl
theorem clean_slice1 (b o n : Nat) (c : Cap) : AV.clean (.slice b o n c) = true := rfl
theorem clean_isl1 (l : List AV) (z o n : Nat) : AV.clean (.isl l z o n) = true := rfl
theorem clean_func1 (fn : Fn) (a b : List AV) : AV.clean (.func fn a b) = true := rfl
theorem clean_iface1 (t : TypeId) (v : AV) : AV.clean (.iface t v) = true := rfl
def sl : Option AV → AV
 | some v => v
 | none => .tuple []
def rd (tm : Nat → Option AV) : Operand → AV
 | .tmp t => sl (tm t)
 | .const v => toAV v
 | .global g => .flat (.pointer (some ⟨g, 0, none⟩))
 | .func f => .func (.func f) [] []
theorem ev_rd (tm : Nat → Option AV) (n : Nat) (h : Hp) (ds : List ADef) : (⟨tm, n, h, ds⟩ : St).ev = rd tm := by
 funext x
 cases x <;> rfl
def goOn (k : St → Option (AExit × St)) (tm : Nat → Option AV) (n : Nat) (ds : List ADef) (d : Nat) (v : AV) (h : Hp) : Option (AExit × St) :=
 cond (Nat.blt d n) (k ⟨upd tm d (some v), n, h, ds⟩) none
def goV (k : St → Option (AExit × St)) (tm : Nat → Option AV) (n : Nat) (ds : List ADef) (d : Nat) (h : Hp) : Option AV → Option (AExit × St)
 | some v => goOn k tm n ds d v h
 | none => none
def goH (k : St → Option (AExit × St)) (tm : Nat → Option AV) (n : Nat) (ds : List ADef) (d : Nat) : Option (AV × Hp) → Option (AExit × St)
 | some x => goOn k tm n ds d x.1 x.2
 | none => none
def goS (k : St → Option (AExit × St)) (tm : Nat → Option AV) (n : Nat) (ds : List ADef) : Option Hp → Option (AExit × St)
 | some h => k ⟨tm, n, h, ds⟩
 | none => none
theorem goV_some (k : St → Option (AExit × St)) (tm : Nat → Option AV) (n : Nat) (ds : List ADef) (d : Nat) (h : Hp) (v : AV) : goV k tm n ds d h (some v) = goOn k tm n ds d v h := rfl
theorem goH_some (k : St → Option (AExit × St)) (tm : Nat → Option AV) (n : Nat) (ds : List ADef) (d : Nat) (v : AV) (h : Hp) : goH k tm n ds d (some (v, h)) = goOn k tm n ds d v h := rfl
theorem goS_some (k : St → Option (AExit × St)) (tm : Nat → Option AV) (n : Nat) (ds : List ADef) (h : Hp) : goS k tm n ds (some h) = k ⟨tm, n, h, ds⟩ := rfl
section
variable (call : CallF) (T : Tab) (all rest : List Oper) (tm : Nat → Option AV) (n : Nat) (h : Hp) (ds : List ADef) (d : Nat) (ty : TypeId) (pos : String) (af : Array Edge)
theorem put_goOn (v : AV) (h' : Hp) : (match (⟨tm, n, h, ds⟩ : St).put (some d) v h' with | some s => evOps call T all rest s | none => none) = goOn (evOps call T all rest) tm n ds d v h' := by
 unfold St.put goOn
 cases hb : Nat.blt d n <;> simp [hb]
theorem ops_nil (s : St) : evOps call T all [] s = some (.normal, s) := rfl
theorem go_pure (o : Op) (r : Option AV) (hr : evOp T (rd tm) h ⟨some d, o, ty, pos, af, none⟩ = R.pure h r) : evOps call T all (⟨some d, o, ty, pos, af, none⟩ :: rest) ⟨tm, n, h, ds⟩ = goV (evOps call T all rest) tm n ds d h r := by
 simp only [evOps, St.wanted, cond_true, ev_rd, hr]
 cases r with
 | none => rfl
 | some v => exact put_goOn call T all rest tm n h ds d v h
theorem go_both (o : Op) (r : Option (AV × Hp)) (hr : evOp T (rd tm) h ⟨some d, o, ty, pos, af, none⟩ = R.both r) : evOps call T all (⟨some d, o, ty, pos, af, none⟩ :: rest) ⟨tm, n, h, ds⟩ = goH (evOps call T all rest) tm n ds d r := by
 simp only [evOps, St.wanted, cond_true, ev_rd, hr]
 cases r with
 | none => rfl
 | some v => exact put_goOn call T all rest tm n h ds d v.1 v.2
theorem ops_move (x : Operand) : evOps call T all (⟨some d, .move x, ty, pos, af, none⟩ :: rest) ⟨tm, n, h, ds⟩ = goOn (evOps call T all rest) tm n ds d (rd tm x) h := by
 rw [go_pure call T all rest tm n h ds d ty pos af (.move x) (some (rd tm x)) rfl]; rfl
theorem ops_assign (x : Operand) : evOps call T all (⟨some d, .assign x, ty, pos, af, none⟩ :: rest) ⟨tm, n, h, ds⟩ = goOn (evOps call T all rest) tm n ds d (rd tm x) h := by
 rw [go_pure call T all rest tm n h ds d ty pos af (.assign x) (some (rd tm x)) rfl]; rfl
def pickA (c a b : AV) : Option AV :=
 match c with
 | .flat (.bool t) => some (cond t a b)
 | _ => none
theorem ops_pick (c a b : Operand) : evOps call T all (⟨some d, .pick c a b, ty, pos, af, none⟩ :: rest) ⟨tm, n, h, ds⟩ = goV (evOps call T all rest) tm n ds d h (pickA (rd tm c) (rd tm a) (rd tm b)) := by
 refine go_pure call T all rest tm n h ds d ty pos af _ _ ?_
 simp only [evOp, pickA]
 generalize rd tm c = C
 cases C <;> first | rfl | (rename_i v; cases v <;> rfl)
theorem ops_alloc (t : TypeId) : evOps call T all (⟨some d, .alloc t, ty, pos, af, none⟩ :: rest) ⟨tm, n, h, ds⟩ =
    goH (evOps call T all rest) tm n ds d (match T.types.get t with | some i => (newBlk h (i.zero.map .flat) t false).map fun h' => (.ptr h.next 0, h') | none => none) := by
 refine go_both call T all rest tm n h ds d ty pos af _ _ ?_
 simp only [evOp]
 cases T.types.get t <;> rfl
theorem ops_box (t : TypeId) (x : Operand) : evOps call T all (⟨some d, .box t x, ty, pos, af, none⟩ :: rest) ⟨tm, n, h, ds⟩ =
    goH (evOps call T all rest) tm n ds d ((newBlk h (rd tm x).cells t false).map fun h' => (.ptr h.next 0, h')) := go_both call T all rest tm n h ds d ty pos af _ _ rfl
theorem ops_build (t : TypeId) (ps : Array (Nat × Operand)) : evOps call T all (⟨some d, .build t ps, ty, pos, af, none⟩ :: rest) ⟨tm, n, h, ds⟩ =
    goV (evOps call T all rest) tm n ds d h (evBuild T t (ps.toList.map fun p => (p.1, rd tm p.2))) := go_pure call T all rest tm n h ds d ty pos af _ _ rfl
theorem ops_buildSlice (t : TypeId) (k : Nat) (ps : Array (Nat × Operand)) : evOps call T all (⟨some d, .buildSlice t k ps, ty, pos, af, none⟩ :: rest) ⟨tm, n, h, ds⟩ =
    goH (evOps call T all rest) tm n ds d (evBuildSlice T t k (ps.toList.map fun p => (p.1, rd tm p.2)) h) := go_both call T all rest tm n h ds d ty pos af _ _ rfl
theorem ops_load (t : TypeId) (a : Operand) : evOps call T all (⟨some d, .load t a, ty, pos, af, none⟩ :: rest) ⟨tm, n, h, ds⟩ =
    goV (evOps call T all rest) tm n ds d h (evLoad T t (rd tm a) h) := go_pure call T all rest tm n h ds d ty pos af _ _ rfl
theorem ops_store (t : TypeId) (a x : Operand) : evOps call T all (⟨none, .store t a x, ty, pos, af, none⟩ :: rest) ⟨tm, n, h, ds⟩ = goS (evOps call T all rest) tm n ds (evStore T t (rd tm a) (rd tm x) h) := by
 simp only [evOps, St.wanted, cond_true, ev_rd, evOp]
 cases evStore T t (rd tm a) (rd tm x) h <;> rfl
def nilOk : AV → Option AV
 | .ptr b o => some (.ptr b o)
 | _ => none
theorem ops_nilCheck (x : Operand) : evOps call T all (⟨some d, .nilCheck x, ty, pos, af, none⟩ :: rest) ⟨tm, n, h, ds⟩ = goV (evOps call T all rest) tm n ds d h (nilOk (rd tm x)) := by
 refine go_pure call T all rest tm n h ds d ty pos af _ _ ?_
 simp only [evOp, nilOk]
 generalize rd tm x = X
 cases X <;> rfl
def binA (T : Tab) (op : BinOp) (t : TypeId) (ox oy : Operand) (x y : AV) : Option AV :=
 match evBin T op t x y with
 | some v => some v
 | none => nilEq T op t ox oy x y
theorem binA_int (op : BinOp) (t : TypeId) (ox oy : Operand) (a b : Int) (k k' : IntKind) : binA T op t ox oy (.flat (.int k a)) (.flat (.int k' b)) = (evInt op k a k' b).map .flat := by
 simp only [binA, evBin]
 cases evInt op k a k' b <;> rfl
theorem binA_eq (op : BinOp) (t : TypeId) (ox oy : Operand) (x y : AV) (b : Bool) (h : evEq T t x y = some b) (hx : op = .eql ∨ op = .neq) (hn : ∀ k a, x ≠ .flat (.int k a)) (hs : ∀ s, x ≠ .flat (.string s)) :
    binA T op t ox oy x y = some (.flat (.bool (match op with | .neq => !b | _ => b))) := by
 have key : evBin T op t x y = some (.flat (.bool (match op with | .neq => !b | _ => b))) := by
  unfold evBin
  split
  ·exact absurd rfl (hn _ _)
  ·exact absurd rfl (hs _)
  ·rcases hx with rfl | rfl <;> simp [h]
 simp only [binA, key]
theorem ops_bin (op : BinOp) (t t' : TypeId) (x y : Operand) : evOps call T all (⟨some d, .binOp op t x y t', ty, pos, af, none⟩ :: rest) ⟨tm, n, h, ds⟩ = goV (evOps call T all rest) tm n ds d h (binA T op t x y (rd tm x) (rd tm y)) :=
 go_pure call T all rest tm n h ds d ty pos af _ _ rfl
theorem ops_un (op : UnOp) (t : TypeId) (x : Operand) : evOps call T all (⟨some d, .unOp op t x, ty, pos, af, none⟩ :: rest) ⟨tm, n, h, ds⟩ = goV (evOps call T all rest) tm n ds d h (evUn op (rd tm x)) :=
 go_pure call T all rest tm n h ds d ty pos af _ _ rfl
theorem ops_convert (s t : TypeId) (x : Operand) : evOps call T all (⟨some d, .convert s t x, ty, pos, af, none⟩ :: rest) ⟨tm, n, h, ds⟩ = goV (evOps call T all rest) tm n ds d h (orM (evConvert T s t (rd tm x)) (evBytes T s t (rd tm x) h)) :=
 go_pure call T all rest tm n h ds d ty pos af _ _ rfl
theorem ops_makeFunc (fn : Fn) (a b : Array Operand) : evOps call T all (⟨some d, .makeFunc fn a b, ty, pos, af, none⟩ :: rest) ⟨tm, n, h, ds⟩ = goOn (evOps call T all rest) tm n ds d (.func fn (a.toList.map (rd tm)) (b.toList.map (rd tm))) h := by
 rw [go_pure call T all rest tm n h ds d ty pos af (.makeFunc fn a b) (some (.func fn (a.toList.map (rd tm)) (b.toList.map (rd tm)))) rfl]; rfl
theorem ops_makeSlice (t : TypeId) (l c : Operand) : evOps call T all (⟨some d, .makeSlice t l c, ty, pos, af, none⟩ :: rest) ⟨tm, n, h, ds⟩ = goH (evOps call T all rest) tm n ds d (evMakeSlice T t (rd tm l) (rd tm c) h) :=
 go_both call T all rest tm n h ds d ty pos af _ _ rfl
theorem ops_slice (t : TypeId) (x : Operand) (lo hi mx : Option Operand) : evOps call T all (⟨some d, .slice t x lo hi mx, ty, pos, af, none⟩ :: rest) ⟨tm, n, h, ds⟩ = goV (evOps call T all rest) tm n ds d h (evSlice T t (rd tm x) (lo.map (rd tm)) (hi.map (rd tm)) (mx.map (rd tm))) :=
 go_pure call T all rest tm n h ds d ty pos af _ _ rfl
theorem ops_fieldAddr (t : TypeId) (x : Operand) (f : Nat) : evOps call T all (⟨some d, .fieldAddr t x f, ty, pos, af, none⟩ :: rest) ⟨tm, n, h, ds⟩ = goV (evOps call T all rest) tm n ds d h (evFieldAddr T t (rd tm x) f) :=
 go_pure call T all rest tm n h ds d ty pos af _ _ rfl
theorem ops_field (t : TypeId) (x : Operand) (f : Nat) : evOps call T all (⟨some d, .field t x f, ty, pos, af, none⟩ :: rest) ⟨tm, n, h, ds⟩ = goV (evOps call T all rest) tm n ds d h (evField T t (rd tm x) f) :=
 go_pure call T all rest tm n h ds d ty pos af _ _ rfl
theorem ops_indexAddr (t : TypeId) (x i : Operand) : evOps call T all (⟨some d, .indexAddr t x i, ty, pos, af, none⟩ :: rest) ⟨tm, n, h, ds⟩ = goV (evOps call T all rest) tm n ds d h (evIndexAddr T t (rd tm x) (rd tm i)) :=
 go_pure call T all rest tm n h ds d ty pos af _ _ rfl
theorem ops_index (t : TypeId) (x i : Operand) : evOps call T all (⟨some d, .index t x i, ty, pos, af, none⟩ :: rest) ⟨tm, n, h, ds⟩ = goV (evOps call T all rest) tm n ds d h (evIndex T t (rd tm x) (rd tm i)) :=
 go_pure call T all rest tm n h ds d ty pos af _ _ rfl
def extr (x : AV) (i : Nat) : Option AV :=
 match x with
 | .tuple l => l[i]?
 | _ => none
theorem ops_extract (x : Operand) (i : Nat) : evOps call T all (⟨some d, .extract x i, ty, pos, af, none⟩ :: rest) ⟨tm, n, h, ds⟩ = goV (evOps call T all rest) tm n ds d h (extr (rd tm x) i) := by
 refine go_pure call T all rest tm n h ds d ty pos af _ _ ?_
 simp only [evOp, extr]
 generalize rd tm x = X
 cases X <;> rfl
theorem ops_assert (x : Operand) (t a : TypeId) (ok : Bool) : evOps call T all (⟨some d, .typeAssert x t a ok, ty, pos, af, none⟩ :: rest) ⟨tm, n, h, ds⟩ = goV (evOps call T all rest) tm n ds d h (evAssert T (rd tm x) a ok) :=
 go_pure call T all rest tm n h ds d ty pos af _ _ rfl
theorem ops_len (x : Operand) (t : TypeId) : evOps call T all (⟨some d, .call ⟨.builtin .len, #[x], #[t]⟩, ty, pos, af, none⟩ :: rest) ⟨tm, n, h, ds⟩ = goV (evOps call T all rest) tm n ds d h (orM (evLen T t (rd tm x)) (evLenM T t (rd tm x) h)) :=
 go_pure call T all rest tm n h ds d ty pos af _ _ rfl
theorem orM_some (v : AV) (o : Option AV) : orM (some v) o = some v := rfl
theorem orM_none (o : Option AV) : orM none o = o := rfl
theorem ops_lookup (t : TypeId) (x i : Operand) (ok : Bool) : evOps call T all (⟨some d, .lookup t x i ok, ty, pos, af, none⟩ :: rest) ⟨tm, n, h, ds⟩ = goV (evOps call T all rest) tm n ds d h (evLookup T t (rd tm x) (rd tm i) ok h) :=
 go_pure call T all rest tm n h ds d ty pos af _ _ rfl
theorem ops_makeMap (t : TypeId) : evOps call T all (⟨some d, .makeMap t none, ty, pos, af, none⟩ :: rest) ⟨tm, n, h, ds⟩ = goH (evOps call T all rest) tm n ds d ((h.new (.map [])).map fun h' => (.map h.next, h')) :=
 go_both call T all rest tm n h ds d ty pos af _ _ rfl
theorem ops_clear (x : Operand) (t : TypeId) : evOps call T all (⟨some d, .call ⟨.builtin .clear, #[x], #[t]⟩, ty, pos, af, none⟩ :: rest) ⟨tm, n, h, ds⟩ = goH (evOps call T all rest) tm n ds d ((evClear T t (rd tm x) h).map fun h' => (.tuple [], h')) :=
 go_both call T all rest tm n h ds d ty pos af _ _ rfl
theorem ops_clear0 (x : Operand) (t : TypeId) : evOps call T all (⟨none, .call ⟨.builtin .clear, #[x], #[t]⟩, ty, pos, af, none⟩ :: rest) ⟨tm, n, h, ds⟩ = goS (evOps call T all rest) tm n ds (evClear T t (rd tm x) h) := by
 have e : evOp T (rd tm) h ⟨none, .call ⟨.builtin .clear, #[x], #[t]⟩, ty, pos, af, none⟩ = R.both ((evClear T t (rd tm x) h).map fun h' => (.tuple [], h')) := rfl
 simp only [evOps, St.wanted, cond_true, ev_rd, e]
 cases evClear T t (rd tm x) h <;> rfl
theorem ops_mapUpdate (t : TypeId) (m i x : Operand) : evOps call T all (⟨none, .mapUpdate t m i x, ty, pos, af, none⟩ :: rest) ⟨tm, n, h, ds⟩ = goS (evOps call T all rest) tm n ds (evMapUpdate T t (rd tm m) (rd tm i) (rd tm x) h) := by
 simp only [evOps, St.wanted, cond_true, ev_rd, evOp]
 cases evMapUpdate T t (rd tm m) (rd tm i) (rd tm x) h <;> rfl
theorem ops_append (x y : Operand) (t t' : TypeId) : evOps call T all (⟨some d, .call ⟨.builtin .append, #[x, y], #[t, t']⟩, ty, pos, af, none⟩ :: rest) ⟨tm, n, h, ds⟩ = goH (evOps call T all rest) tm n ds d (evAppend T t t' (rd tm x) (rd tm y) h) :=
 go_both call T all rest tm n h ds d ty pos af _ _ rfl
theorem ops_copy (x y : Operand) (t t' : TypeId) : evOps call T all (⟨some d, .call ⟨.builtin .copy, #[x, y], #[t, t']⟩, ty, pos, af, none⟩ :: rest) ⟨tm, n, h, ds⟩ = goH (evOps call T all rest) tm n ds d (evCopy T t (rd tm x) (rd tm y) h) :=
 go_both call T all rest tm n h ds d ty pos af _ _ rfl
theorem ops_max (x y : Operand) (t t' : TypeId) : evOps call T all (⟨some d, .call ⟨.builtin .max, #[x, y], #[t, t']⟩, ty, pos, af, none⟩ :: rest) ⟨tm, n, h, ds⟩ = goV (evOps call T all rest) tm n ds d h (foldOp evMax (rd tm x) [rd tm y]) :=
 go_pure call T all rest tm n h ds d ty pos af _ _ rfl
theorem ops_min (x y : Operand) (t t' : TypeId) : evOps call T all (⟨some d, .call ⟨.builtin .min, #[x, y], #[t, t']⟩, ty, pos, af, none⟩ :: rest) ⟨tm, n, h, ds⟩ = goV (evOps call T all rest) tm n ds d h (foldOp evMin (rd tm x) [rd tm y]) :=
 go_pure call T all rest tm n h ds d ty pos af _ _ rfl
def callee (T : Tab) (f : AV) (args : List AV) : Option (FuncId × List AV) :=
 match f with
 | .func (.func g) first cap => match T.funs.get g with
  | some _ => some (g, (first ++ args) ++ cap)
  | none => none
 | _ => none
theorem callee_is (g : FuncId) (first args cap : List AV) : callee T (.func (.func g) first cap) args = match T.funs.get g with | some _ => some (g, (first ++ args) ++ cap) | none => none := rfl
def goC (k : St → Option (AExit × St)) (tm : Nat → Option AV) (n : Nat) (ds : List ADef) (d : Option Nat) : Option (AEnd × Hp) → Option (AExit × St)
 | some x => match x.1 with
  | .ret v => match d with
   | some d => goOn k tm n ds d v x.2
   | none => k ⟨tm, n, x.2, ds⟩
  | .pan v => some (.panic v, ⟨tm, n, x.2, ds⟩)
 | none => none
theorem goC_ret (k : St → Option (AExit × St)) (d : Nat) (v : AV) (h' : Hp) : goC k tm n ds (some d) (some (.ret v, h')) = goOn k tm n ds d v h' := rfl
theorem goC_ret0 (k : St → Option (AExit × St)) (v : AV) (h' : Hp) : goC k tm n ds none (some (.ret v, h')) = k ⟨tm, n, h', ds⟩ := rfl
def goF (call : CallF) (k : St → Option (AExit × St)) (tm : Nat → Option AV) (n : Nat) (h : Hp) (ds : List ADef) (d : Option Nat) : Option (FuncId × List AV) → Option (AExit × St)
 | some x => goC k tm n ds d (call x.1 x.2 h)
 | none => none
theorem goF_some (k : St → Option (AExit × St)) (d : Option Nat) (f : FuncId) (args : List AV) : goF call k tm n h ds d (some (f, args)) = goC k tm n ds d (call f args h) := rfl
theorem ops_call (od : Option Nat) (f : Operand) (xs : Array Operand) (ts : Array TypeId) : evOps call T all (⟨od, .call ⟨.value f, xs, ts⟩, ty, pos, af, none⟩ :: rest) ⟨tm, n, h, ds⟩ =
    goF call (evOps call T all rest) tm n h ds od (callee T (rd tm f) (xs.toList.map (rd tm))) := by
 simp only [evOps, St.wanted, cond_true, ev_rd, evOp, evCallOp, callee]
 generalize rd tm f = X
 cases X with
 | func fn first cap =>
  cases fn with
  | func g =>
   dsimp only
   cases hg : T.funs.get g with
   | none => rfl
   | some fn =>
    simp only [goF]
    cases hc : call g (first ++ List.map (rd tm) xs.toList ++ cap) h with
    | none => rfl
    | some r =>
     obtain ⟨e, h'⟩ := r
     cases e with
     | ret v =>
      cases od with
      | none => rfl
      | some d => exact put_goOn call T all rest tm n h ds d v h'
     | pan v => rfl
  | _ => rfl
 | _ => rfl
end
def goP (r : Option (AExit × St)) (Q : AExit → St → Prop) : Prop :=
 match r with
 | some x => Q x.1 x.2
 | none => False
theorem goP_some (e : AExit) (s : St) (Q : AExit → St → Prop) : goP (some (e, s)) Q = Q e s := rfl
theorem wp_reg {Fz : Prop} {P : Program} {T : Tab} {call : CallF} (B : Base P T call) {id : Nat} {ops : Array Oper} {s : St} {Q : AExit → St → Prop} (h : goP (evOps call T ops.toList ops.toList s) Q) : WP Fz P (.region id ops false) s Q := by
 cases hr : evOps call T ops.toList ops.toList s with
 | none => rw [hr] at h; exact h.elim
 | some x => rw [hr] at h; exact wp_region0 B hr h
theorem thenQ_normal (Fz : Prop) (P : Program) (b : Code) (Q : AExit → St → Prop) (s : St) : thenQ Fz P b Q .normal s = WP Fz P b s Q := rfl
theorem thenQ_ret (Fz : Prop) (P : Program) (b : Code) (Q : AExit → St → Prop) (s : St) : thenQ Fz P b Q .ret s = Q .ret s := rfl
theorem thenQ_exit (Fz : Prop) (P : Program) (b : Code) (Q : AExit → St → Prop) (s : St) (id : Nat) : thenQ Fz P b Q (.exit id) s = Q (.exit id) s := rfl
theorem thenQ_panic (Fz : Prop) (P : Program) (b : Code) (Q : AExit → St → Prop) (s : St) (v : AV) : thenQ Fz P b Q (.panic v) s = Q (.panic v) s := rfl
theorem blockQ_normal (id : Nat) (Q : AExit → St → Prop) (s : St) : blockQ id Q .normal s = Q .normal s := rfl
theorem blockQ_ret (id : Nat) (Q : AExit → St → Prop) (s : St) : blockQ id Q .ret s = Q .ret s := rfl
theorem blockQ_panic (id : Nat) (Q : AExit → St → Prop) (s : St) (v : AV) : blockQ id Q (.panic v) s = Q (.panic v) s := rfl
theorem blockQ_exit (id j : Nat) (Q : AExit → St → Prop) (s : St) : blockQ id Q (.exit j) s = if j = id then Q .normal s else Q (.exit j) s := rfl
theorem roundQ_normal (I : Nat → St → Prop) (n : Nat) (Q : AExit → St → Prop) (s : St) : roundQ I n Q .normal s = ∃ m, m < n ∧ I m s := rfl
theorem roundQ_ret (I : Nat → St → Prop) (n : Nat) (Q : AExit → St → Prop) (s : St) : roundQ I n Q .ret s = Q .ret s := rfl
theorem roundQ_exit (I : Nat → St → Prop) (n : Nat) (Q : AExit → St → Prop) (s : St) (id : Nat) : roundQ I n Q (.exit id) s = Q (.exit id) s := rfl
theorem roundQ_panic (I : Nat → St → Prop) (n : Nat) (Q : AExit → St → Prop) (s : St) (v : AV) : roundQ I n Q (.panic v) s = Q (.panic v) s := rfl
theorem scopeQ_normal (Q : AExit → St → Prop) (s : St) : scopeQ Q .normal s = Q .normal s := rfl
theorem scopeQ_ret (Q : AExit → St → Prop) (s : St) : scopeQ Q .ret s = Q .ret s := rfl
theorem scopeQ_exit (Q : AExit → St → Prop) (s : St) (id : Nat) : scopeQ Q (.exit id) s = Q (.exit id) s := rfl
theorem endQ_normal (T : Tab) (rs : List ResultVar) (Q : AEnd → Hp → Prop) (s : St) : endQ T rs Q .normal s = (s.ds = [] ∧ ∃ l, evResults T s rs = some l ∧ Q (.ret (oneOf l)) s.h) := rfl
theorem endQ_ret (T : Tab) (rs : List ResultVar) (Q : AEnd → Hp → Prop) (s : St) : endQ T rs Q .ret s = (s.ds = [] ∧ ∃ l, evResults T s rs = some l ∧ Q (.ret (oneOf l)) s.h) := rfl
theorem endQ_panic (T : Tab) (rs : List ResultVar) (Q : AEnd → Hp → Prop) (s : St) (v : AV) : endQ T rs Q (.panic v) s = (s.ds = [] ∧ Q (.pan v) s.h) := rfl
theorem res_nil (T : Tab) (s : St) : evResults T s [] = some [] := rfl
theorem res_tmp (T : Tab) (tm : Nat → Option AV) (n : Nat) (h : Hp) (ds : List ADef) (t : Tmp) (l : List ResultVar) : evResults T ⟨tm, n, h, ds⟩ (.tmp t :: l) = (evResults T ⟨tm, n, h, ds⟩ l).map fun r => sl (tm t) :: r := rfl
theorem res_cell (T : Tab) (tm : Nat → Option AV) (n : Nat) (h : Hp) (ds : List ADef) (a : Tmp) (t : TypeId) (l : List ResultVar) : evResults T ⟨tm, n, h, ds⟩ (.cell a t :: l) = match evLoad T t (sl (tm a)) h with
    | some v => (evResults T ⟨tm, n, h, ds⟩ l).map fun r => v :: r
    | none => none := rfl
theorem one_of1 (v : AV) : oneOf [v] = v := rfl
theorem one_of2 (v u : AV) : oneOf [v, u] = .tuple [v, u] := rfl
theorem one_of3 (v u x : AV) : oneOf [v, u, x] = .tuple [v, u, x] := rfl
theorem one_of0 : oneOf [] = .tuple [] := rfl
def bodyOf (fn : Func) : Code := fn.body.getD .skip
theorem wp_if {Fz : Prop} {P : Program} {c : Operand} {a b : Code} {s : St} {Q : AExit → St → Prop} {p : Prop} [hp : Decidable p] (hc : s.ev c = .flat (.bool (decide p))) (h1 : p → WP Fz P a s Q) (h2 : ¬ p → WP Fz P b s Q) : WP Fz P (.cond c a b) s Q := by
 refine wp_condQ _ hc ?_
 by_cases h : p
 ·rw [if_pos (by simpa using h)]; exact h1 h
 ·rw [if_neg (by simpa using h)]; exact h2 h
theorem wp_condT {Fz : Prop} {P : Program} {c : Operand} {a b : Code} {s : St} {Q : AExit → St → Prop} (hc : s.ev c = .flat (.bool true)) (h : WP Fz P a s Q) : WP Fz P (.cond c a b) s Q := wp_condQ true hc h
theorem wp_condF {Fz : Prop} {P : Program} {c : Operand} {a b : Code} {s : St} {Q : AExit → St → Prop} (hc : s.ev c = .flat (.bool false)) (h : WP Fz P b s Q) : WP Fz P (.cond c a b) s Q := wp_condQ false hc h
def drP (bf : List Nat) (r : Option (St × List Ent)) (Q : AExit → St → Prop) : Prop :=
 match r with
 | some x => looks bf x.2 = true ∧ Q .normal x.1
 | none => False
theorem drP_some (bf : List Nat) (s : St) (l : List Ent) (Q : AExit → St → Prop) : drP bf (some (s, l)) Q = (looks bf l = true ∧ Q .normal s) := rfl
theorem wp_dreg {Fz : Prop} {P : Program} {T : Tab} {call : CallF} (B : Base P T call) {id : Nat} {ops : Array Oper} {s : St} {Q : AExit → St → Prop} (bf : List Nat) (hbf : regOk bf ops.toList = true)
    (h : drP bf (drawRun call T ops.toList ops.toList 0 s []) Q) : WP Fz P (.region id ops true) s Q := by
 cases hr : drawRun call T ops.toList ops.toList 0 s [] with
 | none => rw [hr] at h; exact h.elim
 | some x =>
  obtain ⟨s', l⟩ := x
  rw [hr] at h
  refine wp_region1 (e := .normal) (s' := s') B hbf ?_ h.2
  unfold evDraw
  rw [hr]
  have := h.1
  simp only at this
  cases l with
  | nil => rfl
  | cons x l => simp only [this, cond_true]
def drOn (k : St → List Ent → Option (St × List Ent)) (tm : Nat → Option AV) (n : Nat) (ds : List ADef) (i : Nat) (fp : Fp) (n0 : Nat) (l : List Ent) (d : Nat) (v : AV) (h : Hp) : Option (St × List Ent) :=
 cond (Nat.blt d n) (k ⟨upd tm d (some v), n, h, ds⟩ (entCons ⟨i, fp, n0, h.next⟩ l)) none
def drV (k : St → List Ent → Option (St × List Ent)) (tm : Nat → Option AV) (n : Nat) (ds : List ADef) (i : Nat) (fp : Fp) (n0 : Nat) (l : List Ent) (d : Nat) (h : Hp) : Option AV → Option (St × List Ent)
 | some v => drOn k tm n ds i fp n0 l d v h
 | none => none
def drH (k : St → List Ent → Option (St × List Ent)) (tm : Nat → Option AV) (n : Nat) (ds : List ADef) (i : Nat) (fp : Fp) (n0 : Nat) (l : List Ent) (d : Nat) : Option (AV × Hp) → Option (St × List Ent)
 | some x => drOn k tm n ds i fp n0 l d x.1 x.2
 | none => none
def drS (k : St → List Ent → Option (St × List Ent)) (tm : Nat → Option AV) (n : Nat) (ds : List ADef) (i : Nat) (fp : Fp) (n0 : Nat) (l : List Ent) : Option Hp → Option (St × List Ent)
 | some h => k ⟨tm, n, h, ds⟩ (entCons ⟨i, fp, n0, h.next⟩ l)
 | none => none
theorem drV_some (k : St → List Ent → Option (St × List Ent)) (tm : Nat → Option AV) (n : Nat) (ds : List ADef) (i : Nat) (fp : Fp) (n0 : Nat) (l : List Ent) (d : Nat) (h : Hp) (v : AV) : drV k tm n ds i fp n0 l d h (some v) = drOn k tm n ds i fp n0 l d v h := rfl
theorem drH_some (k : St → List Ent → Option (St × List Ent)) (tm : Nat → Option AV) (n : Nat) (ds : List ADef) (i : Nat) (fp : Fp) (n0 : Nat) (l : List Ent) (d : Nat) (h : Hp) (v : AV) : drH k tm n ds i fp n0 l d (some (v, h)) = drOn k tm n ds i fp n0 l d v h := rfl
theorem drS_some (k : St → List Ent → Option (St × List Ent)) (tm : Nat → Option AV) (n : Nat) (ds : List ADef) (i : Nat) (fp : Fp) (n0 : Nat) (l : List Ent) (h : Hp) : drS k tm n ds i fp n0 l (some h) = k ⟨tm, n, h, ds⟩ (entCons ⟨i, fp, n0, h.next⟩ l) := rfl
section
variable (call : CallF) (T : Tab) (all rest : List Oper) (tm : Nat → Option AV) (n : Nat) (h : Hp) (ds : List ADef) (i : Nat) (l : List Ent) (d : Nat) (ty : TypeId) (pos : String) (af : Array Edge)
theorem dr_nil (s : St) : drawRun call T all [] i s l = some (s, l) := rfl
theorem dr_put (o : Oper) (v : AV) (h' : Hp) (fp : Fp) : (match (match (⟨tm, n, h, ds⟩ : St).put (some d) v h' with | some s' => some (s', fp) | none => none) with | some (s', fp) => drawRun call T all rest (i + 1) s' (entCons ⟨i, fp, h.next, s'.h.next⟩ l) | none => none) = drOn (drawRun call T all rest (i + 1)) tm n ds i fp h.next l d v h' := by
 unfold St.put drOn
 cases hb : Nat.blt d n <;> simp [hb]
theorem dr_pure (o : Op) (r : Option AV) (hr : evOp T (rd tm) h ⟨some d, o, ty, pos, af, none⟩ = R.pure h r) : drawRun call T all (⟨some d, o, ty, pos, af, none⟩ :: rest) i ⟨tm, n, h, ds⟩ l = drV (drawRun call T all rest (i + 1)) tm n ds i (fpOf ⟨some d, o, ty, pos, af, none⟩ (rd tm)) h.next l d h r := by
 simp only [drawRun, drawOp, St.wanted, cond_true, ev_rd, hr]
 cases r with
 | none => rfl
 | some v => exact dr_put call T all rest tm n h ds i l d ⟨some d, o, ty, pos, af, none⟩ v h _
theorem dr_both (o : Op) (r : Option (AV × Hp)) (hr : evOp T (rd tm) h ⟨some d, o, ty, pos, af, none⟩ = R.both r) : drawRun call T all (⟨some d, o, ty, pos, af, none⟩ :: rest) i ⟨tm, n, h, ds⟩ l = drH (drawRun call T all rest (i + 1)) tm n ds i (fpOf ⟨some d, o, ty, pos, af, none⟩ (rd tm)) h.next l d r := by
 simp only [drawRun, drawOp, St.wanted, cond_true, ev_rd, hr]
 cases r with
 | none => rfl
 | some v => exact dr_put call T all rest tm n h ds i l d ⟨some d, o, ty, pos, af, none⟩ v.1 v.2 _
end
theorem len_isl (T : Tab) (t : TypeId) (l : List AV) (z o n : Nat) : evLen T t (.isl l z o n) = match T.types.get t with
    | some ti => match ti.td with
     | .slice _ => some (.flat (.int .i64 (n : Int)))
     | _ => none
    | none => none := by
 unfold evLen
 cases T.types.get t <;> rfl
theorem len_slice (T : Tab) (t : TypeId) (b o n : Nat) (c : Cap) : evLen T t (.slice b o n c) = match T.types.get t with
    | some ti => match ti.td with
     | .slice _ => some (.flat (.int .i64 (n : Int)))
     | _ => none
    | none => none := by
 unfold evLen
 cases T.types.get t <;> rfl
theorem len_nil (T : Tab) (t : TypeId) (a : Option Addr) (n c : Nat) : evLen T t (.flat (.slice a n c)) = match T.types.get t with
    | some ti => match ti.td with
     | .slice _ => some (.flat (.int .i64 (n : Int)))
     | _ => none
    | none => none := by
 unfold evLen
 cases T.types.get t <;> rfl
theorem len_map (T : Tab) (t : TypeId) (r : Nat) (h : Hp) : orM (evLen T t (.map r)) (evLenM T t (.map r) h) = match T.types.get t with
    | some ti => match ti.td with
     | .map _ _ => match h.m r with
      | some (.map l) => some (.flat (.int .i64 (l.length : Int)))
      | _ => none
     | .array n _ => some (.flat (.int .i64 (n : Int)))
     | _ => none
    | none => none := by
 have e1 : evLen T t (.map r) = match T.types.get t with | some ti => (match ti.td with | .array n _ => some (.flat (.int .i64 (.ofNat n))) | _ => none) | none => none := by
  unfold evLen
  cases T.types.get t with
  | none => rfl
  | some ti =>
   obtain ⟨td, a, b, c⟩ := ti
   cases td <;> rfl
 have e2 : evLenM T t (.map r) h = match h.m r, T.types.get t with
  | some (.map l), some ti => match ti.td with
   | .map _ _ => some (.flat (.int .i64 (.ofNat l.length)))
   | _ => none
  | _, _ => none := rfl
 rw [e1, e2]
 cases T.types.get t with
 | none =>
  cases h.m r with
  | none => rfl
  | some o => cases o <;> rfl
 | some ti =>
  obtain ⟨td, a, b, c⟩ := ti
  cases h.m r with
  | none => cases td <;> rfl
  | some o => cases o <;> cases td <;> rfl
theorem look_map (T : Tab) (t : TypeId) (r : Nat) (z : Int) (ok : Bool) (h : Hp) : evLookup T t (.map r) (.flat (.int .i64 z)) ok h = match h.m r, T.types.get t with
    | some (.map l), some ti => match ti.td with
     | .map k e => match T.types.get k, T.types.get e with
      | some tk, some te => match tk.td, te.td with
       | .int _, .slice _ => match findM l z with
        | some v => some (cond ok (.tuple [v, .flat (.bool true)]) v)
        | none => some (cond ok (.tuple [.flat (.slice none 0 0), .flat (.bool false)]) (.flat (.slice none 0 0)))
       | _, _ => none
      | _, _ => none
     | _ => none
    | _, _ => none := rfl
theorem upd_map (T : Tab) (t : TypeId) (r : Nat) (z : Int) (v : AV) (h : Hp) : evMapUpdate T t (.map r) (.flat (.int .i64 z)) v h = match h.m r, T.types.get t with
    | some (.map l), some ti => match ti.td with
     | .map k _ => match T.types.get k with
      | some tk => match tk.td with
       | .int _ => h.put r (some (.map (setM l z v)))
       | _ => none
      | none => none
     | _ => none
    | _, _ => none := rfl
theorem clear_map (T : Tab) (t : TypeId) (r : Nat) (h : Hp) : evClear T t (.map r) h = match h.m r, T.types.get t with
    | some (.map _), some ti => match ti.td with
     | .map _ _ => h.put r (some (.map []))
     | _ => none
    | _, _ => none := rfl
end Go.Iv
end
section
set_option linter.unusedVariables false
set_option linter.unusedSimpArgs false
namespace Go.Iv
open Go
theorem ent_quiet (i n : Nat) (l : List Ent) : entCons ⟨i, .none, n, n⟩ l = l := by simp [entCons, isQuiet]
theorem ent_new (i n : Nat) (l : List Ent) : entCons ⟨i, .none, n, n + 1⟩ l = ⟨i, .none, n, n + 1⟩ :: l := by
 have : Nat.beq n (n + 1) = false := by rw [beq_dec]; simp
 simp [entCons, isQuiet, this]
theorem ent_rd (i b n m : Nat) (l : List Ent) : entCons ⟨i, .rd b, n, m⟩ l = ⟨i, .rd b, n, m⟩ :: l := rfl
theorem ent_wr (i b n m : Nat) (l : List Ent) : entCons ⟨i, .wr b, n, m⟩ l = ⟨i, .wr b, n, m⟩ :: l := rfl
theorem ent_call (i n m : Nat) (c : Bool) (l : List Ent) : entCons ⟨i, .call c, n, m⟩ l = ⟨i, .call c, n, m⟩ :: l := rfl
theorem ent_app (i n m : Nat) (rs : List Nat) (w : Option Nat) (l : List Ent) : entCons ⟨i, .app rs w, n, m⟩ l = ⟨i, .app rs w, n, m⟩ :: l := rfl
theorem conv_flat (u : Value) : convFp (.flat u) = .none := rfl
def ldFp : AV → Fp
 | .ptr b _ => .rd b
 | .iptr _ _ => .none
 | _ => .call false
def stFp : AV → Fp
 | .ptr b _ => .wr b
 | _ => .call false
section
variable (call : CallF) (T : Tab) (all rest : List Oper) (tm : Nat → Option AV) (n : Nat) (h : Hp) (ds : List ADef) (i : Nat) (l : List Ent) (d : Nat) (ty : TypeId) (pos : String) (af : Array Edge)
theorem dr_move (x : Operand) : drawRun call T all (⟨some d, .move x, ty, pos, af, none⟩ :: rest) i ⟨tm, n, h, ds⟩ l = drV (drawRun call T all rest (i + 1)) tm n ds i (.none) h.next l d h (some (rd tm x)) := dr_pure call T all rest tm n h ds i l d ty pos af _ _ rfl
theorem dr_assign (x : Operand) : drawRun call T all (⟨some d, .assign x, ty, pos, af, none⟩ :: rest) i ⟨tm, n, h, ds⟩ l = drV (drawRun call T all rest (i + 1)) tm n ds i (.none) h.next l d h (some (rd tm x)) := dr_pure call T all rest tm n h ds i l d ty pos af _ _ rfl
theorem dr_pick (c a b : Operand) : drawRun call T all (⟨some d, .pick c a b, ty, pos, af, none⟩ :: rest) i ⟨tm, n, h, ds⟩ l = drV (drawRun call T all rest (i + 1)) tm n ds i (.none) h.next l d h (pickA (rd tm c) (rd tm a) (rd tm b)) := by
 refine dr_pure call T all rest tm n h ds i l d ty pos af _ _ ?_
 simp only [evOp, pickA]
 generalize rd tm c = C
 cases C <;> first | rfl | (rename_i v; cases v <;> rfl)
theorem dr_alloc (t : TypeId) : drawRun call T all (⟨some d, .alloc t, ty, pos, af, none⟩ :: rest) i ⟨tm, n, h, ds⟩ l = drH (drawRun call T all rest (i + 1)) tm n ds i (.none) h.next l d (match T.types.get t with | some i => (newBlk h (i.zero.map .flat) t false).map fun h' => (.ptr h.next 0, h') | none => none) := by
 refine dr_both call T all rest tm n h ds i l d ty pos af _ _ ?_
 simp only [evOp]
 cases T.types.get t <;> rfl
theorem dr_box (t : TypeId) (x : Operand) : drawRun call T all (⟨some d, .box t x, ty, pos, af, none⟩ :: rest) i ⟨tm, n, h, ds⟩ l = drH (drawRun call T all rest (i + 1)) tm n ds i (.none) h.next l d ((newBlk h (rd tm x).cells t false).map fun h' => (.ptr h.next 0, h')) := dr_both call T all rest tm n h ds i l d ty pos af _ _ rfl
theorem dr_build (t : TypeId) (ps : Array (Nat × Operand)) : drawRun call T all (⟨some d, .build t ps, ty, pos, af, none⟩ :: rest) i ⟨tm, n, h, ds⟩ l = drV (drawRun call T all rest (i + 1)) tm n ds i (.none) h.next l d h (evBuild T t (ps.toList.map fun p => (p.1, rd tm p.2))) := dr_pure call T all rest tm n h ds i l d ty pos af _ _ rfl
theorem dr_buildSlice (t : TypeId) (k : Nat) (ps : Array (Nat × Operand)) : drawRun call T all (⟨some d, .buildSlice t k ps, ty, pos, af, none⟩ :: rest) i ⟨tm, n, h, ds⟩ l = drH (drawRun call T all rest (i + 1)) tm n ds i (.none) h.next l d (evBuildSlice T t k (ps.toList.map fun p => (p.1, rd tm p.2)) h) := dr_both call T all rest tm n h ds i l d ty pos af _ _ rfl
theorem dr_load (t : TypeId) (a : Operand) : drawRun call T all (⟨some d, .load t a, ty, pos, af, none⟩ :: rest) i ⟨tm, n, h, ds⟩ l = drV (drawRun call T all rest (i + 1)) tm n ds i (ldFp (rd tm a)) h.next l d h (evLoad T t (rd tm a) h) := dr_pure call T all rest tm n h ds i l d ty pos af _ _ rfl
theorem dr_nilCheck (x : Operand) : drawRun call T all (⟨some d, .nilCheck x, ty, pos, af, none⟩ :: rest) i ⟨tm, n, h, ds⟩ l = drV (drawRun call T all rest (i + 1)) tm n ds i (.none) h.next l d h (nilOk (rd tm x)) := by
 refine dr_pure call T all rest tm n h ds i l d ty pos af _ _ ?_
 simp only [evOp, nilOk]
 generalize rd tm x = X
 cases X <;> rfl
theorem dr_bin (op : BinOp) (t t' : TypeId) (x y : Operand) : drawRun call T all (⟨some d, .binOp op t x y t', ty, pos, af, none⟩ :: rest) i ⟨tm, n, h, ds⟩ l = drV (drawRun call T all rest (i + 1)) tm n ds i (.none) h.next l d h (binA T op t x y (rd tm x) (rd tm y)) := dr_pure call T all rest tm n h ds i l d ty pos af _ _ rfl
theorem dr_un (op : UnOp) (t : TypeId) (x : Operand) : drawRun call T all (⟨some d, .unOp op t x, ty, pos, af, none⟩ :: rest) i ⟨tm, n, h, ds⟩ l = drV (drawRun call T all rest (i + 1)) tm n ds i (.none) h.next l d h (evUn op (rd tm x)) := dr_pure call T all rest tm n h ds i l d ty pos af _ _ rfl
theorem dr_convert (s t : TypeId) (x : Operand) : drawRun call T all (⟨some d, .convert s t x, ty, pos, af, none⟩ :: rest) i ⟨tm, n, h, ds⟩ l = drV (drawRun call T all rest (i + 1)) tm n ds i (convFp (rd tm x)) h.next l d h (orM (evConvert T s t (rd tm x)) (evBytes T s t (rd tm x) h)) := dr_pure call T all rest tm n h ds i l d ty pos af _ _ rfl
theorem dr_makeFunc (fn : Fn) (a b : Array Operand) : drawRun call T all (⟨some d, .makeFunc fn a b, ty, pos, af, none⟩ :: rest) i ⟨tm, n, h, ds⟩ l = drV (drawRun call T all rest (i + 1)) tm n ds i (.none) h.next l d h (some (.func fn (a.toList.map (rd tm)) (b.toList.map (rd tm)))) := dr_pure call T all rest tm n h ds i l d ty pos af _ _ rfl
theorem dr_makeSlice (t : TypeId) (x c : Operand) : drawRun call T all (⟨some d, .makeSlice t x c, ty, pos, af, none⟩ :: rest) i ⟨tm, n, h, ds⟩ l = drH (drawRun call T all rest (i + 1)) tm n ds i (.none) h.next l d (evMakeSlice T t (rd tm x) (rd tm c) h) := dr_both call T all rest tm n h ds i l d ty pos af _ _ rfl
theorem dr_slice (t : TypeId) (x : Operand) (lo hi mx : Option Operand) : drawRun call T all (⟨some d, .slice t x lo hi mx, ty, pos, af, none⟩ :: rest) i ⟨tm, n, h, ds⟩ l = drV (drawRun call T all rest (i + 1)) tm n ds i (.none) h.next l d h (evSlice T t (rd tm x) (lo.map (rd tm)) (hi.map (rd tm)) (mx.map (rd tm))) := dr_pure call T all rest tm n h ds i l d ty pos af _ _ rfl
theorem dr_fieldAddr (t : TypeId) (x : Operand) (f : Nat) : drawRun call T all (⟨some d, .fieldAddr t x f, ty, pos, af, none⟩ :: rest) i ⟨tm, n, h, ds⟩ l = drV (drawRun call T all rest (i + 1)) tm n ds i (.none) h.next l d h (evFieldAddr T t (rd tm x) f) := dr_pure call T all rest tm n h ds i l d ty pos af _ _ rfl
theorem dr_field (t : TypeId) (x : Operand) (f : Nat) : drawRun call T all (⟨some d, .field t x f, ty, pos, af, none⟩ :: rest) i ⟨tm, n, h, ds⟩ l = drV (drawRun call T all rest (i + 1)) tm n ds i (.none) h.next l d h (evField T t (rd tm x) f) := dr_pure call T all rest tm n h ds i l d ty pos af _ _ rfl
theorem dr_indexAddr (t : TypeId) (x j : Operand) : drawRun call T all (⟨some d, .indexAddr t x j, ty, pos, af, none⟩ :: rest) i ⟨tm, n, h, ds⟩ l = drV (drawRun call T all rest (i + 1)) tm n ds i (.none) h.next l d h (evIndexAddr T t (rd tm x) (rd tm j)) := dr_pure call T all rest tm n h ds i l d ty pos af _ _ rfl
theorem dr_index (t : TypeId) (x j : Operand) : drawRun call T all (⟨some d, .index t x j, ty, pos, af, none⟩ :: rest) i ⟨tm, n, h, ds⟩ l = drV (drawRun call T all rest (i + 1)) tm n ds i (.none) h.next l d h (evIndex T t (rd tm x) (rd tm j)) := dr_pure call T all rest tm n h ds i l d ty pos af _ _ rfl
theorem dr_extract (x : Operand) (j : Nat) : drawRun call T all (⟨some d, .extract x j, ty, pos, af, none⟩ :: rest) i ⟨tm, n, h, ds⟩ l = drV (drawRun call T all rest (i + 1)) tm n ds i (.none) h.next l d h (extr (rd tm x) j) := by
 refine dr_pure call T all rest tm n h ds i l d ty pos af _ _ ?_
 simp only [evOp, extr]
 generalize rd tm x = X
 cases X <;> rfl
theorem dr_assert (x : Operand) (t a : TypeId) (ok : Bool) : drawRun call T all (⟨some d, .typeAssert x t a ok, ty, pos, af, none⟩ :: rest) i ⟨tm, n, h, ds⟩ l = drV (drawRun call T all rest (i + 1)) tm n ds i (.none) h.next l d h (evAssert T (rd tm x) a ok) := dr_pure call T all rest tm n h ds i l d ty pos af _ _ rfl
theorem dr_len (x : Operand) (t : TypeId) : drawRun call T all (⟨some d, .call ⟨.builtin .len, #[x], #[t]⟩, ty, pos, af, none⟩ :: rest) i ⟨tm, n, h, ds⟩ l = drV (drawRun call T all rest (i + 1)) tm n ds i (lenFp [rd tm x]) h.next l d h (orM (evLen T t (rd tm x)) (evLenM T t (rd tm x) h)) := dr_pure call T all rest tm n h ds i l d ty pos af _ _ rfl
theorem dr_lookup (t : TypeId) (x j : Operand) (ok : Bool) : drawRun call T all (⟨some d, .lookup t x j ok, ty, pos, af, none⟩ :: rest) i ⟨tm, n, h, ds⟩ l = drV (drawRun call T all rest (i + 1)) tm n ds i (mapFp (rd tm x)) h.next l d h (evLookup T t (rd tm x) (rd tm j) ok h) := dr_pure call T all rest tm n h ds i l d ty pos af _ _ rfl
theorem dr_makeMap (t : TypeId) : drawRun call T all (⟨some d, .makeMap t none, ty, pos, af, none⟩ :: rest) i ⟨tm, n, h, ds⟩ l = drH (drawRun call T all rest (i + 1)) tm n ds i (.none) h.next l d ((h.new (.map [])).map fun h' => (.map h.next, h')) := dr_both call T all rest tm n h ds i l d ty pos af _ _ rfl
theorem dr_max (x y : Operand) (t t' : TypeId) : drawRun call T all (⟨some d, .call ⟨.builtin .max, #[x, y], #[t, t']⟩, ty, pos, af, none⟩ :: rest) i ⟨tm, n, h, ds⟩ l = drV (drawRun call T all rest (i + 1)) tm n ds i (.none) h.next l d h (foldOp evMax (rd tm x) [rd tm y]) := dr_pure call T all rest tm n h ds i l d ty pos af _ _ rfl
theorem dr_min (x y : Operand) (t t' : TypeId) : drawRun call T all (⟨some d, .call ⟨.builtin .min, #[x, y], #[t, t']⟩, ty, pos, af, none⟩ :: rest) i ⟨tm, n, h, ds⟩ l = drV (drawRun call T all rest (i + 1)) tm n ds i (.none) h.next l d h (foldOp evMin (rd tm x) [rd tm y]) := dr_pure call T all rest tm n h ds i l d ty pos af _ _ rfl
theorem dr_append (x y : Operand) (t t' : TypeId) : drawRun call T all (⟨some d, .call ⟨.builtin .append, #[x, y], #[t, t']⟩, ty, pos, af, none⟩ :: rest) i ⟨tm, n, h, ds⟩ l = drH (drawRun call T all rest (i + 1)) tm n ds i (appFp [rd tm x, rd tm y]) h.next l d (evAppend T t t' (rd tm x) (rd tm y) h) := dr_both call T all rest tm n h ds i l d ty pos af _ _ rfl
theorem dr_copy (x y : Operand) (t t' : TypeId) : drawRun call T all (⟨some d, .call ⟨.builtin .copy, #[x, y], #[t, t']⟩, ty, pos, af, none⟩ :: rest) i ⟨tm, n, h, ds⟩ l = drH (drawRun call T all rest (i + 1)) tm n ds i (appFp [rd tm x, rd tm y]) h.next l d (evCopy T t (rd tm x) (rd tm y) h) := dr_both call T all rest tm n h ds i l d ty pos af _ _ rfl
theorem dr_store (t : TypeId) (a x : Operand) : drawRun call T all (⟨none, .store t a x, ty, pos, af, none⟩ :: rest) i ⟨tm, n, h, ds⟩ l = drS (drawRun call T all rest (i + 1)) tm n ds i (stFp (rd tm a)) h.next l (evStore T t (rd tm a) (rd tm x) h) := by
 simp only [drawRun, drawOp, St.wanted, cond_true, ev_rd, evOp]
 have : fpOf ⟨none, .store t a x, ty, pos, af, none⟩ (rd tm) = stFp (rd tm a) := by
  simp only [fpOf, stFp]
  cases rd tm a <;> rfl
 rw [this]
 cases evStore T t (rd tm a) (rd tm x) h <;> rfl
theorem dr_mapUpdate (t : TypeId) (m j x : Operand) : drawRun call T all (⟨none, .mapUpdate t m j x, ty, pos, af, none⟩ :: rest) i ⟨tm, n, h, ds⟩ l = drS (drawRun call T all rest (i + 1)) tm n ds i (mputFp (rd tm m)) h.next l (evMapUpdate T t (rd tm m) (rd tm j) (rd tm x) h) := by
 simp only [drawRun, drawOp, St.wanted, cond_true, ev_rd, evOp]
 have : fpOf ⟨none, .mapUpdate t m j x, ty, pos, af, none⟩ (rd tm) = mputFp (rd tm m) := rfl
 rw [this]
 cases evMapUpdate T t (rd tm m) (rd tm j) (rd tm x) h <;> rfl
def drC (k : St → List Ent → Option (St × List Ent)) (tm : Nat → Option AV) (n : Nat) (h : Hp) (ds : List ADef) (i : Nat) (l : List Ent) (od : Option Nat) : Option (AEnd × Hp) → Option (St × List Ent)
 | some x => match x.1 with
  | .ret v => match od with
   | some d => cond (Nat.blt d n) (k ⟨upd tm d (some v), n, ⟨x.2.next, lowP x.2.low h.low, x.2.m⟩, ds⟩ (⟨i, .call (Nat.ble h.next x.2.low), h.next, x.2.next⟩ :: l)) none
   | none => k ⟨tm, n, ⟨x.2.next, lowP x.2.low h.low, x.2.m⟩, ds⟩ (⟨i, .call (Nat.ble h.next x.2.low), h.next, x.2.next⟩ :: l)
  | .pan _ => none
 | none => none
theorem drC_ret (k : St → List Ent → Option (St × List Ent)) (v : AV) (h' : Hp) : drC k tm n h ds i l (some d) (some (.ret v, h')) = cond (Nat.blt d n) (k ⟨upd tm d (some v), n, ⟨h'.next, lowP h'.low h.low, h'.m⟩, ds⟩ (⟨i, .call (Nat.ble h.next h'.low), h.next, h'.next⟩ :: l)) none := rfl
theorem drC_ret0 (k : St → List Ent → Option (St × List Ent)) (v : AV) (h' : Hp) : drC k tm n h ds i l none (some (.ret v, h')) = k ⟨tm, n, ⟨h'.next, lowP h'.low h.low, h'.m⟩, ds⟩ (⟨i, .call (Nat.ble h.next h'.low), h.next, h'.next⟩ :: l) := rfl
def drF (call : CallF) (k : St → List Ent → Option (St × List Ent)) (tm : Nat → Option AV) (n : Nat) (h : Hp) (ds : List ADef) (i : Nat) (l : List Ent) (od : Option Nat) : Option (FuncId × List AV) → Option (St × List Ent)
 | some x => drC k tm n h ds i l od (call x.1 x.2 ⟨h.next, h.next, h.m⟩)
 | none => none
theorem drF_some (k : St → List Ent → Option (St × List Ent)) (od : Option Nat) (f : FuncId) (args : List AV) : drF call k tm n h ds i l od (some (f, args)) = drC k tm n h ds i l od (call f args ⟨h.next, h.next, h.m⟩) := rfl
theorem dr_call (od : Option Nat) (f : Operand) (xs : Array Operand) (ts : Array TypeId) : drawRun call T all (⟨od, .call ⟨.value f, xs, ts⟩, ty, pos, af, none⟩ :: rest) i ⟨tm, n, h, ds⟩ l =
    drF call (drawRun call T all rest (i + 1)) tm n h ds i l od (callee T (rd tm f) (xs.toList.map (rd tm))) := by
 simp only [drawRun, drawOp, St.wanted, cond_true, ev_rd, evOp, evCallOp, callee]
 generalize rd tm f = X
 cases X with
 | func fn first cap =>
  cases fn with
  | func g =>
   dsimp only
   cases hg : T.funs.get g with
   | none => rfl
   | some fn =>
    simp only [drF]
    cases hc : call g (first ++ List.map (rd tm) xs.toList ++ cap) ⟨h.next, h.next, h.m⟩ with
    | none => rfl
    | some r =>
     obtain ⟨e, h'⟩ := r
     cases e with
     | ret v =>
      simp only [drC, lowP]
      cases od with
      | none => rfl
      | some d =>
       unfold St.put
       cases hb : Nat.blt d n <;> simp [hb, entCons, isQuiet]
     | pan v => rfl
  | _ => rfl
 | _ => rfl
def gb (w : Bool) : Option AV → Bool
 | some (.flat (.bool b)) => cond b w (!w)
 | _ => false
theorem gb_bool (w b : Bool) : gb w (some (.flat (.bool b))) = cond b w (!w) := rfl
theorem gb_undef (w : Bool) : gb w (some (.tuple [])) = false := rfl
def gw (tm : Nat → Option AV) (w : Bool) : Option Oper → Bool
 | some o => match o.dst with
  | some d => gb w (tm d)
  | none => false
 | none => false
theorem gw_some (w : Bool) (dd : Nat) (op : Op) (ty' : TypeId) (pos' : String) (af' : Array Edge) (g : Option (Nat × Bool)) : gw tm w (some ⟨some dd, op, ty', pos', af', g⟩) = gb w (tm dd) := rfl
theorem wanted_gw (j : Nat) (w : Bool) (od : Option Tmp) (op : Op) : (⟨tm, n, h, ds⟩ : St).wanted all ⟨od, op, ty, pos, af, some (j, w)⟩ = gw tm w all[j]? := by
 simp only [St.wanted, gw, gb]
 cases all[j]? with
 | none => rfl
 | some o =>
  obtain ⟨dd, op', ty', pos', af', g'⟩ := o
  cases dd with
  | none => rfl
  | some d => rfl
theorem ops_guard (j : Nat) (w : Bool) (op : Op) : evOps call T all (⟨some d, op, ty, pos, af, some (j, w)⟩ :: rest) ⟨tm, n, h, ds⟩ =
    cond (gw tm w all[j]?) (evOps call T all (⟨some d, op, ty, pos, af, none⟩ :: rest) ⟨tm, n, h, ds⟩) (goOn (evOps call T all rest) tm n ds d (.tuple []) h) := by
 have hw := wanted_gw all tm n h ds ty pos af j w (some d) op
 cases hg : gw tm w all[j]? with
 | true =>
  rw [hg] at hw
  simp only [evOps, hw, cond_true]
  rfl
 | false =>
  rw [hg] at hw
  simp only [evOps, hw, cond_false]
  exact put_goOn call T all rest tm n h ds d (.tuple []) h
theorem dr_guard (j : Nat) (w : Bool) (op : Op) : drawRun call T all (⟨some d, op, ty, pos, af, some (j, w)⟩ :: rest) i ⟨tm, n, h, ds⟩ l =
    cond (gw tm w all[j]?) (drawRun call T all (⟨some d, op, ty, pos, af, none⟩ :: rest) i ⟨tm, n, h, ds⟩ l) (drOn (drawRun call T all rest (i + 1)) tm n ds i .none h.next l d (.tuple []) h) := by
 have hw := wanted_gw all tm n h ds ty pos af j w (some d) op
 cases hg : gw tm w all[j]? with
 | true =>
  rw [hg] at hw
  simp only [drawRun, drawOp, hw, cond_true]
  rfl
 | false =>
  rw [hg] at hw
  simp only [drawRun, drawOp, hw, cond_false]
  exact dr_put call T all rest tm n h ds i l d ⟨some d, op, ty, pos, af, some (j, w)⟩ (.tuple []) h .none
end
end Go.Iv
end
section
set_option linter.unusedVariables false
set_option linter.unusedSimpArgs false
namespace Go.Iv
open Go
structure Entry (P : Program) where
 f : FuncId
 S : List AV → Hp → AEnd → Hp → Prop
 ok : ∀ args h e h', S args h e h' → SemCall P f args h e h' ∧ Hp.Le h h'
open Classical in
noncomputable def Entry.ans {P : Program} (E : Entry P) (args : List AV) (h : Hp) : Option (AEnd × Hp) := if hx : ∃ r : AEnd × Hp, E.S args h r.1 r.2 then some (Classical.choose hx) else none
theorem Entry.ans_get {P : Program} {E : Entry P} {args : List AV} {h : Hp} {e : AEnd} {h' : Hp} (k : E.ans args h = some (e, h')) : E.S args h e h' := by
 unfold Entry.ans at k
 split at k
 ·rename_i hx
  have := Classical.choose_spec hx
  simp only [Option.some.injEq] at k
  rw [k] at this
  exact this
 ·cases k
theorem Entry.some {P : Program} {E : Entry P} {args : List AV} {h : Hp} {e : AEnd} {h' : Hp} (k : E.S args h e h') : ∃ e' h'', E.ans args h = .some (e', h'') ∧ E.S args h e' h'' := by
 have hx : ∃ r : AEnd × Hp, E.S args h r.1 r.2 := ⟨(e, h'), k⟩
 refine ⟨(Classical.choose hx).1, (Classical.choose hx).2, ?_, Classical.choose_spec hx⟩
 unfold Entry.ans
 rw [dif_pos hx]
noncomputable def tabL {P : Program} : List (Entry P) → CallF
 | [], _, _, _ => none
 | E :: l, f, args, h => if f = E.f then E.ans args h else tabL l f args h
theorem tabL_ok {P : Program} : ∀ l : List (Entry P), CallOk P (tabL l)
 | [] => fun f args h e h' k => by simp [tabL] at k
 | E :: l => fun f args h e h' k => by
  simp only [tabL] at k
  split at k
  ·rename_i hf
   subst hf
   exact (E.ok args h e h' (Entry.ans_get k)).1
  ·exact tabL_ok l f args h e h' k
theorem tabL_le {P : Program} : ∀ l : List (Entry P), CallLe (tabL l)
 | [] => fun f args h e h' k => by simp [tabL] at k
 | E :: l => fun f args h e h' k => by
  simp only [tabL] at k
  split at k
  ·exact (E.ok args h e h' (Entry.ans_get k)).2
  ·exact tabL_le l f args h e h' k
theorem tabL_base {P : Program} {T : Tab} (l : List (Entry P)) (hT : T.Ok P) (hm : P.follows .mixedOrders = true) : Base P T (tabL l) := ⟨hT, hm, tabL_ok l, tabL_le l⟩
theorem tabL_hit {P : Program} (E : Entry P) (l : List (Entry P)) (f : FuncId) (args : List AV) (h : Hp) (hf : f = E.f) : tabL (E :: l) f args h = E.ans args h := by simp [tabL, hf]
theorem tabL_miss {P : Program} (E : Entry P) (l : List (Entry P)) (f : FuncId) (args : List AV) (h : Hp) (hf : f ≠ E.f) : tabL (E :: l) f args h = tabL l f args h := by simp [tabL, hf]
def Pure {α : Type} (enc : α → List AV) (dom : α → Prop) (out : α → AV) : List AV → Hp → AEnd → Hp → Prop := fun args h e h' => h' = h ∧ ∃ x, args = enc x ∧ dom x ∧ e = .ret (out x)
def Entry.pure {P : Program} {α : Type} (f : FuncId) (enc : α → List AV) (dom : α → Prop) (out : α → AV) (ok : ∀ x, dom x → ∀ h, SemCall P f (enc x) h (.ret (out x)) h) : Entry P :=
 ⟨f, Pure enc dom out, fun args h e h' ⟨hh, x, ha, hd, he⟩ => by subst hh ha he; exact ⟨ok x hd h', Hp.Le.refl _⟩⟩
theorem Entry.pure_ans {P : Program} {α : Type} {f : FuncId} {enc : α → List AV} {dom : α → Prop} {out : α → AV} {ok : ∀ x, dom x → ∀ h, SemCall P f (enc x) h (.ret (out x)) h} (inj : ∀ x y, enc x = enc y → out x = out y) (x : α) (hd : dom x) (h : Hp) :
    (Entry.pure f enc dom out ok).ans (enc x) h = .some (.ret (out x), h) := by
 obtain ⟨e', h'', h1, hh, y, ha, hy, he⟩ := Entry.some (E := Entry.pure f enc dom out ok) (args := enc x) (h := h) (e := .ret (out x)) (h' := h) ⟨rfl, x, rfl, hd, rfl⟩
 rw [h1, hh, he, inj x y ha]
theorem sem_pure {P : Program} {T : Tab} (hT : T.Ok P) {f : FuncId} {fn : Func} {c : Code} (hf : P.funcs[f]? = some fn) (hb : fn.body = some c) {args : List AV} {tm : Nat → Option AV} (htm : putArgs args 0 noTmp = some tm) {nt : Nat} (hnt : fn.ntmps = nt) {rs : List ResultVar} (hrs : fn.results.toList = rs)
    (hp : pureL args = true) {v : AV} (hv : v.pure = true) (hw : WP True P (bodyOf fn) (entry args nt Hp.empty tm) (endQ T rs fun e _ => e = .ret v)) (h : Hp) : SemCall P f args h (.ret v) h := by
 subst hnt hrs
 have : bodyOf fn = c := by rw [bodyOf, hb]; rfl
 rw [this] at hw
 exact pure_call hT hf hb htm hp hv hw h
theorem not_is (b : Bool) : cond b false true = !b := by cases b <;> rfl
theorem binA_eqB {T : Tab} {t : TypeId} {n m : Nat} {z : List Value} (h : T.types.get t = some ⟨.bool, n, m, z⟩) (ox oy : Operand) (a b : Bool) : binA T .eql t ox oy (.flat (.bool a)) (.flat (.bool b)) = some (.flat (.bool (a == b))) := by
 have e : evEq T t (.flat (.bool a)) (.flat (.bool b)) = some (a == b) := by
  simp only [evEq, h]
  cases a <;> cases b <;> rfl
 exact binA_eq T .eql t ox oy _ _ _ e (.inl rfl) (by simp) (by simp)
theorem binA_neB {T : Tab} {t : TypeId} {n m : Nat} {z : List Value} (h : T.types.get t = some ⟨.bool, n, m, z⟩) (ox oy : Operand) (a b : Bool) : binA T .neq t ox oy (.flat (.bool a)) (.flat (.bool b)) = some (.flat (.bool (!(a == b)))) := by
 have e : evEq T t (.flat (.bool a)) (.flat (.bool b)) = some (a == b) := by
  simp only [evEq, h]
  cases a <;> cases b <;> rfl
 exact binA_eq T .neq t ox oy _ _ _ e (.inr rfl) (by simp) (by simp)
end Go.Iv
end
section
set_option linter.all false
namespace Go.Iv
open Go
def kQ0 := And.intro @thenQ_normal (And.intro @thenQ_ret (And.intro @thenQ_exit (And.intro @thenQ_panic (And.intro @blockQ_normal (And.intro @blockQ_ret (And.intro @blockQ_panic (And.intro @blockQ_exit (And.intro @roundQ_normal (And.intro @roundQ_ret (And.intro @roundQ_exit (And.intro @roundQ_panic (And.intro @scopeQ_normal (And.intro @scopeQ_ret (And.intro @scopeQ_exit (And.intro @endQ_normal (And.intro @endQ_ret (And.intro @endQ_panic (And.intro @if_true.{1} (@if_true.{0})))))))))))))))))))
def kQ1 := And.intro @if_false.{1} (And.intro @if_false.{0} (And.intro @true_and (@and_true)))
def kQ := And.intro @kQ0 (@kQ1)
def kC0 := And.intro @not_is (And.intro @binA_int (And.intro @callee_is (And.intro @gw_some (And.intro @gb_bool (And.intro @gb_undef (And.intro @List.getElem?_cons.{0} (And.intro @Bool.or_true (And.intro @Bool.or_false (And.intro @Bool.true_or (And.intro @Bool.false_or (And.intro @Bool.and_true (And.intro @Bool.true_and (And.intro @Bool.and_false (And.intro @Bool.false_and (And.intro @Bool.not_true (And.intro @Bool.not_false (And.intro @cond_true.{1} (And.intro @cond_false.{1} (@upd_eq)))))))))))))))))))
def kC1 := And.intro @upd_ne (And.intro @ne_eq.{1} (And.intro @not_false_eq_true (And.intro @if_true.{1} (And.intro @if_true.{0} (And.intro @if_false.{1} (And.intro @if_false.{0} (And.intro @Option.map_some.{0, 0} (And.intro @Option.map_none.{0, 0} (And.intro @ilt_eq (And.intro @ieq_dec (And.intro @blt_dec (And.intro @ble_dec (And.intro @beq_dec (And.intro @small_dec (And.intro @decide_true (And.intro @decide_false (And.intro @dec_true (And.intro @dec_false (@add_is)))))))))))))))))))
def kC2 := And.intro @sub_is (And.intro @mul_is (And.intro @ofNat_is (And.intro @fwrap_in (And.intro @inRange_nat (And.intro @cells_agg (And.intro @cells_int (And.intro @cells_bool (And.intro @cells_str (And.intro @cells_nil (And.intro @cells_nilp (And.intro @cells_nili (And.intro @cells_nilf (And.intro @cells_ptr (And.intro @cells_iptr (And.intro @cells_slice (And.intro @cells_isl (And.intro @cells_func (And.intro @cells_iface (@cells_tuple)))))))))))))))))))
def kC3 := And.intro @one_int (And.intro @one_bool (And.intro @one_str (And.intro @one_nil (And.intro @one_nilp (And.intro @one_nili (And.intro @one_nilf (And.intro @one_ptr1 (And.intro @one_iptr1 (And.intro @one_slice1 (And.intro @one_isl1 (And.intro @one_func1 (And.intro @one_iface1 (And.intro @clean_int64 (And.intro @clean_intu64 (And.intro @clean_intu8 (And.intro @clean_inti32 (And.intro @clean_bool (And.intro @clean_str (@clean_nil)))))))))))))))))))
def kC4 := And.intro @clean_nilp (And.intro @clean_nili (And.intro @clean_nilf (And.intro @clean_ptr1 (And.intro @clean_iptr1 (And.intro @clean_slice1 (And.intro @clean_isl1 (And.intro @clean_func1 (And.intro @clean_iface1 (And.intro @List.length_cons.{0} (And.intro @List.length_nil.{0} (And.intro @spl_is (And.intro @spl_cons2 (And.intro @forceL_eq (And.intro @forceA_eq (And.intro @put_is (And.intro @newBlk_is (And.intro @allClean_rep' (And.intro @allClean_append (@clean_slice)))))))))))))))))))
def kC5 := And.intro @clean_isl (And.intro @clean_i64 (And.intro @clean_ptr (And.intro @one_slice (And.intro @one_isl (And.intro @one_i64 (And.intro @one_ptr (And.intro @reps_one (And.intro @List.map_cons.{0, 0} (And.intro @List.map_nil.{0, 0} (And.intro @List.set_cons_zero.{0} (And.intro @List.set_cons_succ.{0} (And.intro @List.take_succ_cons.{0} (And.intro @List.take_zero.{0} (And.intro @List.length_take.{0} (And.intro @List.length_drop.{0} (And.intro @List.drop_nil.{0} (And.intro @List.take_nil.{0} (And.intro @Nat.sub_zero (@Nat.min_def)))))))))))))))))))
def kC6 := And.intro @List.append_nil.{0} (And.intro @List.nil_append.{0} (And.intro @List.cons_append.{0} (And.intro @List.toList_toArray.{0} (And.intro @evMakeSlice_nat (And.intro @List.length_replicate.{0} (And.intro @List.length_map.{0, 0} (And.intro @Nat.mul_one (And.intro @Nat.add_zero (And.intro @Nat.zero_add (And.intro @takeX_is (And.intro @List.length_range (And.intro @List.length_set.{0} (And.intro @List.length_append.{0} (And.intro @List.drop_zero.{0} (And.intro @List.drop_succ_cons.{0} (And.intro @evMax_int (And.intro @evMin_int (And.intro @fold1 (@fold0)))))))))))))))))))
def kC7 := And.intro @asNat_nat (And.intro @len_isl (And.intro @len_slice (And.intro @len_nil (And.intro @len_map (And.intro @look_map (And.intro @upd_map (And.intro @clear_map (And.intro @orM_some (@orM_none)))))))))
def kC := And.intro @kC0 (And.intro @kC1 (And.intro @kC2 (And.intro @kC3 (And.intro @kC4 (And.intro @kC5 (And.intro @kC6 (@kC7)))))))
def kB0 := And.intro @ops_nil (And.intro @ops_move (And.intro @ops_assign (And.intro @ops_pick (And.intro @ops_alloc (And.intro @ops_box (And.intro @ops_build (And.intro @ops_buildSlice (And.intro @ops_load (And.intro @ops_store (And.intro @ops_nilCheck (And.intro @ops_bin (And.intro @ops_un (And.intro @ops_convert (And.intro @ops_makeFunc (And.intro @ops_makeSlice (And.intro @ops_slice (And.intro @ops_fieldAddr (And.intro @ops_field (@ops_indexAddr)))))))))))))))))))
def kB1 := And.intro @ops_index (And.intro @ops_extract (And.intro @ops_assert (And.intro @ops_len (And.intro @ops_append (And.intro @ops_copy (And.intro @ops_max (And.intro @ops_min (And.intro @ops_lookup (And.intro @ops_makeMap (And.intro @ops_clear (And.intro @ops_clear0 (And.intro @ops_mapUpdate (And.intro @ops_call (And.intro @ops_guard (And.intro @goV_some (And.intro @goH_some (And.intro @goS_some (And.intro @goC_ret (@goC_ret0)))))))))))))))))))
def kB2 := And.intro @goF_some (@goP_some)
def kB := And.intro @kB0 (And.intro @kB1 (@kB2))
def kD0 := And.intro @dr_nil (And.intro @dr_move (And.intro @dr_assign (And.intro @dr_pick (And.intro @dr_alloc (And.intro @dr_box (And.intro @dr_build (And.intro @dr_buildSlice (And.intro @dr_load (And.intro @dr_store (And.intro @dr_nilCheck (And.intro @dr_bin (And.intro @dr_un (And.intro @dr_convert (And.intro @dr_makeFunc (And.intro @dr_makeSlice (And.intro @dr_slice (And.intro @dr_fieldAddr (And.intro @dr_field (@dr_indexAddr)))))))))))))))))))
def kD1 := And.intro @dr_index (And.intro @dr_extract (And.intro @dr_assert (And.intro @dr_len (And.intro @dr_append (And.intro @dr_copy (And.intro @dr_max (And.intro @dr_min (And.intro @dr_lookup (And.intro @dr_makeMap (And.intro @dr_mapUpdate (And.intro @dr_call (And.intro @dr_guard (And.intro @drV_some (And.intro @drH_some (And.intro @drS_some (And.intro @drC_ret (And.intro @drC_ret0 (And.intro @drF_some (@drP_some)))))))))))))))))))
def kD2 := And.intro @ent_quiet (And.intro @ent_new (And.intro @ent_rd (And.intro @ent_wr (And.intro @ent_call (And.intro @ent_app (And.intro @conv_flat (@Nat.testBit_eq_decide_div_mod_eq)))))))
def kD := And.intro @kD0 (And.intro @kD1 (@kD2))
def kR0 := And.intro @res_nil (And.intro @res_tmp (And.intro @res_cell (And.intro @one_of1 (And.intro @one_of2 (And.intro @one_of3 (And.intro @one_of0 (And.intro @eq_self.{1} (And.intro @Option.some.injEq.{0} (And.intro @exists_eq_left'.{1} (And.intro @true_and (@and_true)))))))))))
def kR := @kR0
def kE0 := And.intro @goOn.eq_1 (And.intro @rd.eq_1 (And.intro @rd.eq_2 (And.intro @rd.eq_3 (And.intro @rd.eq_4 (And.intro @sl.eq_1 (And.intro @sl.eq_2 (And.intro @pickA.eq_1 (And.intro @pickA.eq_2 (And.intro @nilOk.eq_1 (And.intro @nilOk.eq_2 (And.intro @extr.eq_1 (And.intro @extr.eq_2 (And.intro @evInt.eq_1 (And.intro @iop.eq_1 (And.intro @iop.eq_2 (And.intro @iop.eq_3 (And.intro @iop.eq_4 (And.intro @iop.eq_5 (@iop.eq_6)))))))))))))))))))
def kE1 := And.intro @iop.eq_7 (And.intro @iop.eq_8 (And.intro @iop.eq_9 (And.intro @iop.eq_10 (And.intro @iop.eq_11 (And.intro @iop.eq_12 (And.intro @iop.eq_13 (And.intro @iop.eq_14 (And.intro @iop.eq_15 (And.intro @iop.eq_16 (And.intro @iop.eq_17 (And.intro @isShift.eq_1 (And.intro @isShift.eq_2 (And.intro @isShift.eq_3 (And.intro @ikEq.eq_1 (And.intro @ikEq.eq_2 (And.intro @ikEq.eq_3 (And.intro @ikEq.eq_4 (And.intro @ikEq.eq_5 (@ikEq.eq_6)))))))))))))))))))
def kE2 := And.intro @ikEq.eq_7 (And.intro @ikEq.eq_8 (And.intro @ikEq.eq_9 (And.intro @toAV.eq_1 (And.intro @toAV.eq_2 (And.intro @toAV.eq_3 (And.intro @toAV.eq_4 (And.intro @toAV.eq_5 (And.intro @toAV.eq_6 (And.intro @toAV.eq_7 (And.intro @toAV.eq_8 (And.intro @toAV.eq_9 (And.intro @toAV.eq_10 (And.intro @toAV.eq_11 (And.intro @toAV.eq_12 (And.intro @toAV.eq_13 (And.intro @toAV.eq_14 (And.intro @toAV.eq_15 (And.intro @toAVL.eq_1 (@toAVL.eq_2)))))))))))))))))))
def kE3 := And.intro @evStore.eq_1 (And.intro @evStore.eq_2 (And.intro @evStoreC.eq_1 (And.intro @stor.eq_1 (And.intro @allOne.eq_1 (And.intro @allOne.eq_2 (And.intro @allClean.eq_1 (And.intro @allClean.eq_2 (And.intro @evLen.eq_1 (And.intro @evLen.eq_2 (And.intro @evLen.eq_3 (And.intro @evLen.eq_4 (And.intro @evLen.eq_5 (And.intro @evLen.eq_6 (And.intro @evAppend.eq_1 (And.intro @evCopy.eq_1 (And.intro @evBuildSlice.eq_1 (And.intro @evFill.eq_1 (And.intro @evFill.eq_2 (@reps.eq_1)))))))))))))))))))
def kE4 := And.intro @reps.eq_2 (And.intro @Hp.get.eq_1 (And.intro @lenX.eq_1 (And.intro @lenX.eq_2 (And.intro @lenX.eq_3 (And.intro @lenX.eq_4 (And.intro @lenX.eq_5 (And.intro @cellsX.eq_1 (And.intro @cellsX.eq_2 (And.intro @cellsX.eq_3 (And.intro @cellsX.eq_4 (And.intro @cellsX.eq_5 (And.intro @isSeq.eq_1 (And.intro @isSeq.eq_2 (And.intro @isSeq.eq_3 (And.intro @cleanV.eq_1 (And.intro @cleanV.eq_2 (And.intro @cleanV.eq_3 (And.intro @optNat.eq_1 (@optNat.eq_2)))))))))))))))))))
def kE5 := And.intro @evLoad.eq_1 (And.intro @evLoad.eq_2 (And.intro @evLoad.eq_3 (And.intro @evField.eq_1 (And.intro @evField.eq_2 (And.intro @evBuild.eq_1 (And.intro @structPlace.eq_1 (And.intro @allTypes.eq_1 (And.intro @allTypes.eq_2 (And.intro @evConvert.eq_1 (And.intro @evUn.eq_1 (And.intro @evUn.eq_2 (And.intro @evUn.eq_3 (And.intro @evUn.eq_4 (And.intro @evSlice.eq_1 (And.intro @evBounds.eq_1 (And.intro @evBounds.eq_2 (And.intro @cutOff.eq_1 (And.intro @evIndex.eq_1 (@evIndex.eq_2)))))))))))))))))))
def kE6 := And.intro @evIndex.eq_3 (And.intro @evIndex.eq_4 (And.intro @evPart.eq_1 (@Hp.new.eq_1)))
def kE := And.intro @kE0 (And.intro @kE1 (And.intro @kE2 (And.intro @kE3 (And.intro @kE4 (And.intro @kE5 (@kE6))))))
def kF0 := And.intro @drOn.eq_1 (And.intro @ldFp.eq_1 (And.intro @ldFp.eq_2 (And.intro @ldFp.eq_3 (And.intro @stFp.eq_1 (And.intro @stFp.eq_2 (And.intro @appFp.eq_1 (And.intro @appFp.eq_2 (And.intro @mapFp.eq_1 (And.intro @mapFp.eq_2 (And.intro @mputFp.eq_1 (And.intro @mputFp.eq_2 (And.intro @lenFp.eq_1 (And.intro @lenFp.eq_2 (And.intro @optL.eq_1 (And.intro @optL.eq_2 (And.intro @blkOfA.eq_1 (And.intro @blkOfA.eq_2 (And.intro @looks.eq_1 (@looks.eq_2)))))))))))))))))))
def kF1 := And.intro @looksOne.eq_1 (And.intro @looksOne.eq_2 (And.intro @Ent.apart.eq_1 (And.intro @Ent.made.eq_1 (And.intro @Ent.optMade.eq_1 (And.intro @Ent.optMade.eq_2 (And.intro @optMem.eq_1 (And.intro @optMem.eq_2 (And.intro @memN.eq_1 (And.intro @memN.eq_2 (@comes.eq_1))))))))))
def kF := And.intro @kF0 (@kF1)
def kW := And.intro @kB (And.intro @kC (And.intro @kQ @kE))
def kG := And.intro @kD @kF
def kS := And.intro @kR (And.intro @kC @kE)
def kI := And.intro @List.cons.injEq.{0} (And.intro @AV.flat.injEq (And.intro @AV.agg.injEq (And.intro @Value.int.injEq (And.intro @Value.bool.injEq (And.intro @true_and (And.intro @and_true @Int.natCast_inj))))))
theorem Entry.one {P : Program} {E : Entry P} {args : List AV} {h : Hp} {v : AV} (k : E.S args h (AEnd.ret v) h) (u : ∀ e h', E.S args h e h' → e = AEnd.ret v ∧ h' = h) : E.ans args h = Option.some (AEnd.ret v, h) := by
 obtain ⟨e', h', h1, h2⟩ := Entry.some k
 obtain ⟨rfl, rfl⟩ := u e' h' h2
 exact h1
end Go.Iv
end
