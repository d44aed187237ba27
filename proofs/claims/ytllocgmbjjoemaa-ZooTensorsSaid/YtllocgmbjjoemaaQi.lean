/- EV, part 17: whatever order is drawn. EV, part 18: whatever order is drawn: one step, and all. EV, part 19: whatever order is drawn: the end. EV, part 20: regions that draw their order: sound. IV, part 21: runs of code between abstract states, and what is asked of them. IV, part 22: blocks that are left as they are for good; functions. IV, part 23: tables of known calls; lists of digits; the way in from outside. -/
import Derived.Test.YtllocgmbjjoemaaQh
section
set_option linter.unusedVariables false
set_option linter.unusedSimpArgs false
namespace Go.Iv
open Go
theorem evOp_rd {T : Tab} {e : Operand → AV} {h h1 : Hp} {o : Oper} {v : AV} {b : Nat} (hf : fpOf o e = .rd b) (k : evOp T e h o = some (.val v h1)) :
    h1 = h ∧ ∃ t a off, o.op = .load t a ∧ e a = .ptr b off ∧ evLoad T t (e a) h = some v := by
 obtain ⟨dst, op, ty, pos, after, guard⟩ := o
 cases op <;> simp only [fpOf] at hf <;> try (cases hf; done)
 case load t a =>
  simp only [evOp] at k
  split at hf
  ·rename_i b' off hea
   injection hf with hf
   subst hf
   cases hl : evLoad T t (e a) h with
   | none => rw [hl] at k; simp [R.pure] at k
   | some u =>
    rw [hl] at k
    simp only [R.pure, Option.some.injEq, R.val.injEq] at k
    obtain ⟨rfl, rfl⟩ := k
    exact ⟨rfl, t, a, off, rfl, hea, hl⟩
  ·cases hf
  ·cases hf
 case store t a x => split at hf <;> cases hf
 case lookup t x i ok => unfold mapFp at hf; split at hf <;> cases hf
 case call c =>
  split at hf <;> first
   | cases hf
   | (unfold appFp at hf; split at hf <;> cases hf)
   | (unfold lenFp at hf; split at hf <;> cases hf)
   | (unfold clearFp at hf; split at hf <;> cases hf)
theorem evOp_wr {T : Tab} {e : Operand → AV} {h h1 : Hp} {o : Oper} {v : AV} {b : Nat} (hf : fpOf o e = .wr b) (k : evOp T e h o = some (.val v h1)) : False := by
 obtain ⟨dst, op, ty, pos, after, guard⟩ := o
 cases op <;> simp only [fpOf] at hf <;> try (cases hf; done)
 case load t a => split at hf <;> cases hf
 case store t a x =>
  simp only [evOp, Option.map_eq_some_iff] at k
  obtain ⟨_, _, h⟩ := k
  cases h
 case lookup t x i ok => unfold mapFp at hf; split at hf <;> cases hf
 case call c =>
  split at hf <;> first
   | cases hf
   | (unfold appFp at hf; split at hf <;> cases hf)
   | (unfold lenFp at hf; split at hf <;> cases hf)
   | (unfold clearFp at hf; split at hf <;> cases hf)
theorem memN_iff (a : Nat) : ∀ l : List Nat, memN a l = true ↔ a ∈ l
 | [] => by simp [memN]
 | b :: l => by simp [memN, Nat.beq_eq, memN_iff a l]
structure PartIn (rs : List Nat) (h hR : Hp) : Prop where
 next : hR.next = h.next
 low : hR.low = h.low
 look : ∀ id, id ∈ rs → hR.get id = h.get id
 born : ∀ id, h.next ≤ id → hR.get id = h.get id
structure PartOut (w : Option Nat) (h h1 hR h1R : Hp) : Prop where
 next : h1R.next = h1.next
 low : h1R.low = h1.low
 le : h.next ≤ h1.next
 same : ∀ id, w = some id ∨ h.next ≤ id → h1R.get id = h1.get id
 rest : ∀ id, id < h.next → w ≠ some id → h1.get id = h.get id ∧ h1R.get id = hR.get id
theorem PartOut.refl {rs : List Nat} {w : Option Nat} {h hR : Hp} (p : PartIn rs h hR) (hw : ∀ id, w = some id → id ∈ rs) : PartOut w h h hR hR :=
 ⟨p.next, p.low, Nat.le_refl _, fun id hid => by
  rcases hid with e | e
  ·exact p.look id (hw id e)
  ·exact p.born id e, fun id _ _ => ⟨rfl, rfl⟩⟩
theorem PartOut.new {w : Option Nat} {h h1 hR h1R : Hp} (p : PartOut w h h1 hR h1R) (hb : ∀ id, h1.next ≤ id → h1R.get id = h1.get id) {l : List AV} {t : TypeId} {x : Bool} {h2 : Hp} (k : newBlk h1 l t x = some h2) :
    ∃ h2R, newBlk h1R l t x = some h2R ∧ PartOut w h h2 hR h2R := by
 simp only [newBlk, forceL_eq, Hp.new] at k ⊢
 obtain ⟨hc, k⟩ := cond_both k
 rw [hc, cond_true]
 simp only [Option.some.injEq] at k ⊢
 subst k
 refine ⟨_, rfl, ⟨by simp [p.next], p.low, Nat.le_succ_of_le p.le, fun id hid => ?_, fun id hid hw => ?_⟩⟩
 ·simp only [Hp.get, upd_get, p.next]
  by_cases e : id = h1.next
  ·simp [e]
  ·rw [if_neg e, if_neg e]
   exact p.same id hid
 ·simp only [Hp.get, upd_get, p.next]
  have := p.le
  rw [if_neg (by omega), if_neg (by omega)]
  exact p.rest id hid hw
theorem PartOut.put {rs : List Nat} {h hR : Hp} (p : PartIn rs h hR) {b : Nat} {o : Option AO} {h1 : Hp} (k : h.put b o = some h1) : ∃ h1R, hR.put b o = some h1R ∧ PartOut (some b) h h1 hR h1R := by
 unfold Hp.put at k ⊢
 rw [p.next, p.low]
 cases hb : Nat.blt b h.next with
 | false => rw [hb] at k; cases k
 | true =>
  simp only [hb, cond_true, Option.some.injEq] at k ⊢
  subst k
  refine ⟨_, rfl, ⟨rfl, rfl, Nat.le_refl _, fun id hid => ?_, fun id hid hw => ?_⟩⟩
  ·simp only [Hp.get, upd_get]
   by_cases e : id = b
   ·simp [e]
   ·rw [if_neg e, if_neg e]
    rcases hid with h2 | h2
    ·exact absurd (Option.some.inj h2).symm e
    ·exact p.born id h2
  ·have e : ¬ id = b := fun e => hw (by rw [e])
   simp only [Hp.get, upd_get, if_neg e, and_self]
theorem evStoreC_part {rs : List Nat} {h hR : Hp} (p : PartIn rs h hR) {b o : Nat} (hb : b ∈ rs) {cs : List AV} {h1 : Hp} (k : evStoreC b o cs h = some h1) : ∃ h1R, evStoreC b o cs hR = some h1R ∧ PartOut (some b) h h1 hR h1R := by
 unfold evStoreC at k ⊢
 rw [p.look b hb]
 cases ho : stor cs with
 | false => rw [ho] at k; cases k
 | true =>
  simp only [ho, cond_true] at k ⊢
  split at k
  ·split at k
   ·simp only [forceL_eq] at k ⊢
    exact PartOut.put p k
   ·cases k
  ·cases k
theorem cellsX_part {rs : List Nat} {h hR : Hp} (p : PartIn rs h hR) {x : AV} (hx : ∀ id, id ∈ optL (blkOfA x) → id ∈ rs) (size n : Nat) : cellsX hR size n x = cellsX h size n x := by
 cases x with
 | slice b o len c =>
  have := p.look b (hx b (by simp [blkOfA, optL]))
  simp only [cellsX, this]
 | flat v =>
  cases v with
  | slice a _ _ => cases a <;> rfl
  | _ => rfl
 | _ => rfl
theorem evAppend_part {T : Tab} {t1 t2 : TypeId} {s x v : AV} {h h1 hR : Hp} (p : PartIn (optL (blkOfA s) ++ optL (blkOfA x)) h hR) (k : evAppend T t1 t2 s x h = some (v, h1)) :
    ∃ h1R, evAppend T t1 t2 s x hR = some (v, h1R) ∧ PartOut (blkOfA s) h h1 hR h1R := by
 have hs : ∀ size n, cellsX hR size n s = cellsX h size n s := cellsX_part p fun id hid => List.mem_append.2 (.inl hid)
 have hx : ∀ size n, cellsX hR size n x = cellsX h size n x := cellsX_part p fun id hid => List.mem_append.2 (.inr hid)
 have hw : ∀ id, blkOfA s = some id → id ∈ optL (blkOfA s) ++ optL (blkOfA x) := fun id e => by rw [e]; simp [optL]
 have fresh : ∀ (l : List AV) (t : TypeId) (b : Bool) (g : Hp → AV × Hp), (∀ a, (g a).2 = a) → (∀ a c, (g a).1 = (g c).1) → ((newBlk h l t b).map g) = some (v, h1) → ∃ h1R, ((newBlk hR l t b).map g) = some (v, h1R) ∧ PartOut (blkOfA s) h h1 hR h1R := fun l t b g hg hg1 k => by
  simp only [Option.map_eq_some_iff] at k
  obtain ⟨h2, hn, he⟩ := k
  have e2 : h2 = h1 := by rw [← hg h2, he]
  subst e2
  obtain ⟨h2R, h3, h4⟩ := (PartOut.refl (w := blkOfA s) p hw).new (fun id hid => p.born id hid) hn
  refine ⟨h2R, ?_, h4⟩
  rw [h3, Option.map_some]
  congr 1
  exact Prod.ext (by rw [hg1 h2R h2, he]) (hg h2R)
 unfold evAppend at k ⊢
 rw [p.next]
 split at k
 ·split at k
  ·split at k
   ·rename_i te n hte hn
    rw [hx]
    split at k
    ·rename_i new hnew
     cases hc : (isSeq _ && Nat.blt 0 te.size && Nat.blt 0 te.bytes && small te.bytes && Nat.beq new.length (n * te.size) && cleanV te.zero) with
     | false => rw [hc] at k; cases k
     | true =>
      simp only [hc, cond_true] at k ⊢
      split at k
      ·split at k
       ·simp only [Option.some.injEq, Prod.mk.injEq] at k
        obtain ⟨rfl, rfl⟩ := k
        exact ⟨hR, rfl, PartOut.refl p hw⟩
       ·rename_i n
        cases hsm : small (n + 1) with
        | false => rw [hsm] at k; cases k
        | true =>
         simp only [hsm, cond_true] at k ⊢
         exact fresh _ _ _ _ (fun _ => rfl) (fun _ _ => rfl) k
      ·rename_i b o len cp
       cases hroom : Nat.ble (len + n) cp with
       | true =>
        simp only [hroom, cond_true, Option.map_eq_some_iff, Prod.mk.injEq] at k ⊢
        obtain ⟨h2, hst, rfl, rfl⟩ := k
        obtain ⟨h2R, h3, h4⟩ := evStoreC_part p (b := b) (by simp [blkOfA, optL]) hst
        exact ⟨h2R, ⟨h2R, h3, rfl, rfl⟩, h4⟩
       | false =>
        simp only [hroom, cond_false] at k ⊢
        cases hsm : small (len + n) with
        | false => rw [hsm] at k; cases k
        | true =>
         simp only [hsm, cond_true] at k ⊢
         rw [hs]
         split at k
         ·exact fresh _ _ _ _ (fun _ => rfl) (fun _ _ => rfl) k
         ·cases k
      ·rename_i b o len es
       cases hcc : (Nat.beq es te.size && Nat.beq o 0 && small (len + n) && allOne new) with
       | false => rw [hcc] at k; cases k
       | true =>
        simp only [hcc, cond_true] at k ⊢
        rw [p.look b (by simp [blkOfA, optL])]
        split at k
        ·rename_i l e' hg
         cases hl : (Nat.beq l.length (len * te.size) && Nat.beq e' _) with
         | false => rw [hl] at k; cases k
         | true =>
          simp only [hl, cond_true] at k ⊢
          split at k
          ·rename_i h2 hput
           obtain ⟨h2R, h3, h4⟩ := PartOut.put p hput
           rw [h3]
           simp only [Option.map_eq_some_iff, Prod.mk.injEq] at k ⊢
           obtain ⟨h5, hn2, rfl, rfl⟩ := k
           have hnx := (Hp.put_get hput).2.1
           obtain ⟨h5R, h6, h7⟩ := h4.new (fun id hid => h4.same id (.inr (by omega))) hn2
           exact ⟨h5R, ⟨h5R, h6, rfl, rfl⟩, h7⟩
          ·cases k
        ·cases k
      ·cases k
    ·cases k
   ·cases k
  ·cases k
 ·cases k
theorem evCopy_part {T : Tab} {t1 : TypeId} {s x v : AV} {h h1 hR : Hp} (p : PartIn (optL (blkOfA s) ++ optL (blkOfA x)) h hR) (k : evCopy T t1 s x h = some (v, h1)) :
    ∃ h1R, evCopy T t1 s x hR = some (v, h1R) ∧ PartOut (blkOfA s) h h1 hR h1R := by
 have hx : ∀ size n, cellsX hR size n x = cellsX h size n x := cellsX_part p fun id hid => List.mem_append.2 (.inr hid)
 have hw : ∀ id, blkOfA s = some id → id ∈ optL (blkOfA s) ++ optL (blkOfA x) := fun id e => by rw [e]; simp [optL]
 unfold evCopy at k ⊢
 split at k
 ·split at k
  ·split at k
   ·rw [hx]
    split at k
    ·simp only [Option.map_eq_some_iff, Prod.mk.injEq] at k ⊢
     obtain ⟨h2, hst, rfl, rfl⟩ := k
     obtain ⟨h2R, h3, h4⟩ := evStoreC_part p (by simp [blkOfA, optL]) hst
     exact ⟨h2R, ⟨h2R, h3, rfl, rfl⟩, h4⟩
    ·simp only [Option.some.injEq, Prod.mk.injEq] at k
     obtain ⟨rfl, rfl⟩ := k
     exact ⟨hR, rfl, PartOut.refl p hw⟩
    ·cases k
   ·cases k
  ·cases k
 ·cases k
theorem evLookup_part {T : Tab} {t : TypeId} {i v : AV} {ok : Bool} {h hR : Hp} {r : Nat} (hg : hR.get r = h.get r) (k : evLookup T t (.map r) i ok h = some v) : evLookup T t (.map r) i ok hR = some v := by
 cases i with
 | flat u =>
  cases u with
  | int kd z =>
   cases kd <;> simp only [evLookup, hg] at k ⊢ <;> first | exact k | cases k
  | _ => simp [evLookup] at k
 | _ => simp [evLookup] at k
theorem evLenM_part {T : Tab} {t : TypeId} {v : AV} {h hR : Hp} {r : Nat} (hg : hR.get r = h.get r) (k : evLenM T t (.map r) h = some v) : evLenM T t (.map r) hR = some v := by
 simp only [evLenM, hg] at k ⊢
 exact k
theorem part_same {rs : List Nat} {h hR : Hp} (p : PartIn rs h hR) : PartOut none h h hR hR :=
 ⟨p.next, p.low, Nat.le_refl _, fun id e => e.elim (fun e => by cases e) (fun e => p.born id e), fun id _ _ => ⟨rfl, rfl⟩⟩
theorem evClear_part {T : Tab} {t : TypeId} {h h1 hR : Hp} {r : Nat} (p : PartIn [r] h hR) (k : evClear T t (.map r) h = some h1) : ∃ h1R, evClear T t (.map r) hR = some h1R ∧ PartOut (some r) h h1 hR h1R := by
 simp only [evClear, p.look r (by simp)] at k ⊢
 split at k
 ·split at k
  ·exact PartOut.put p k
  ·cases k
 ·cases k
theorem evOp_app {T : Tab} {e : Operand → AV} {h h1 : Hp} {o : Oper} {v : AV} {rs : List Nat} {w : Option Nat} (hf : fpOf o e = .app rs w) (k : evOp T e h o = some (.val v h1)) :
    (∀ id, w = some id → id ∈ rs) ∧ ∀ hR, PartIn rs h hR → ∃ h1R, evOp T e hR o = some (.val v h1R) ∧ PartOut w h h1 hR h1R := by
 obtain ⟨dst, op, ty, pos, after, guard⟩ := o
 have both : ∀ {x : Option (AV × Hp)}, R.both x = some (.val v h1) → x = some (v, h1) := fun {x} hx => by
  cases x with
  | none => simp [R.both] at hx
  | some y =>
   simp only [R.both, Option.some.injEq, R.val.injEq] at hx
   rw [← hx.1, ← hx.2]
 cases op <;> simp only [fpOf] at hf <;> try (cases hf; done)
 case load t a => split at hf <;> cases hf
 case store t a x => split at hf <;> cases hf
 case lookup t x i ok =>
  simp only [evOp] at k ⊢
  unfold mapFp at hf
  split at hf
  ·rename_i r hx
   simp only [Fp.app.injEq] at hf
   obtain ⟨rfl, rfl⟩ := hf
   rw [hx] at k ⊢
   refine ⟨(fun id e => by cases e), fun hR p => ?_⟩
   cases hl : evLookup T t (.map r) (e i) ok h with
   | none => rw [hl] at k; simp [R.pure] at k
   | some u =>
    rw [hl] at k
    simp only [R.pure, Option.some.injEq, R.val.injEq] at k
    obtain ⟨rfl, rfl⟩ := k
    rw [evLookup_part (p.look r (by simp)) hl]
    exact ⟨hR, rfl, part_same p⟩
  ·cases hf
 case call c =>
  simp only [evOp] at k ⊢
  unfold evCallOp at k ⊢
  split at hf
  ·rename_i hc
   simp only [hc, evBuiltin] at k ⊢
   unfold lenFp at hf
   split at hf
   ·rename_i r tl hl
    simp only [Fp.app.injEq] at hf
    obtain ⟨rfl, rfl⟩ := hf
    rw [hl] at k ⊢
    refine ⟨(fun id e => by cases e), fun hR p => ?_⟩
    cases hts : c.argTypes.toList with
    | nil => rw [hts] at k; cases k
    | cons t ts =>
     rw [hts] at k
     dsimp only at k ⊢
     cases hl1 : evLen T t (.map r) with
     | some u =>
      rw [hl1] at k
      simp only [orM, R.pure, Option.some.injEq, R.val.injEq] at k ⊢
      exact ⟨hR, ⟨k.1, rfl⟩, k.2 ▸ part_same p⟩
     | none =>
      rw [hl1] at k
      simp only [orM] at k ⊢
      cases hl2 : evLenM T t (.map r) h with
      | none => rw [hl2] at k; simp [R.pure] at k
      | some u =>
       rw [hl2] at k
       rw [evLenM_part (p.look r (by simp)) hl2]
       simp only [R.pure, Option.some.injEq, R.val.injEq] at k ⊢
       exact ⟨hR, ⟨k.1, rfl⟩, k.2 ▸ part_same p⟩
   ·cases hf
  ·cases hf
  ·cases hf
  ·rename_i hc
   simp only [hc, evBuiltin] at k ⊢
   unfold clearFp at hf
   split at hf
   ·rename_i r tl hl
    simp only [Fp.app.injEq] at hf
    obtain ⟨rfl, rfl⟩ := hf
    rw [hl] at k ⊢
    refine ⟨fun id e => by simpa using e.symm, fun hR p => ?_⟩
    cases hts : c.argTypes.toList with
    | nil => rw [hts] at k; cases k
    | cons t ts =>
     rw [hts] at k
     dsimp only at k ⊢
     have k2 := both k
     simp only [Option.map_eq_some_iff, Prod.mk.injEq] at k2
     obtain ⟨h2, hn, rfl, rfl⟩ := k2
     obtain ⟨h1R, h3, h4⟩ := evClear_part p hn
     exact ⟨h1R, by rw [h3]; rfl, h4⟩
   ·cases hf
  ·rename_i hc
   simp only [hc, evBuiltin] at k ⊢
   unfold appFp at hf
   split at hf
   ·rename_i s x tl hl
    simp only [Fp.app.injEq] at hf
    obtain ⟨rfl, rfl⟩ := hf
    rw [hl] at k ⊢
    refine ⟨fun id e => by rw [e]; simp [optL], fun hR p => ?_⟩
    cases hts : c.argTypes.toList with
    | nil => rw [hts] at k; cases k
    | cons t1 ts =>
     cases ts with
     | nil => rw [hts] at k; cases k
     | cons t2 ts =>
      rw [hts] at k
      dsimp only at k ⊢
      obtain ⟨h1R, h3, h4⟩ := evAppend_part p (both k)
      exact ⟨h1R, by rw [h3]; rfl, h4⟩
   ·cases hf
  ·rename_i hc
   simp only [hc, evBuiltin] at k ⊢
   unfold appFp at hf
   split at hf
   ·rename_i s x tl hl
    simp only [Fp.app.injEq] at hf
    obtain ⟨rfl, rfl⟩ := hf
    rw [hl] at k ⊢
    refine ⟨fun id e => by rw [e]; simp [optL], fun hR p => ?_⟩
    cases hts : c.argTypes.toList with
    | nil => rw [hts] at k; cases k
    | cons t1 ts =>
     rw [hts] at k
     dsimp only at k ⊢
     obtain ⟨h1R, h3, h4⟩ := evCopy_part p (both k)
     exact ⟨h1R, by rw [h3]; rfl, h4⟩
   ·cases hf
  ·cases hf
theorem evOp_skip {T : Tab} {e : Operand → AV} {h h1 : Hp} {o : Oper} (k : evOp T e h o = some (.skip h1)) : ∃ t a x b off, o.op = .store t a x ∧ e a = .ptr b off ∧ evStore T t (e a) (e x) h = some h1 ∧ fpOf o e = .wr b := by
 obtain ⟨dst, op, ty, pos, after, guard⟩ := o
 have nop : ∀ (x : Option AV), R.pure h x ≠ some (.skip h1) := fun x => by cases x <;> simp [R.pure]
 have nob : ∀ (x : Option (AV × Hp)), R.both x ≠ some (.skip h1) := fun x => by cases x <;> simp [R.both]
 cases op <;> simp only [evOp] at k <;> try (first | (cases k; done) | exact absurd k (nop _) | exact absurd k (nob _))
 case pick c a b => split at k <;> cases k
 case alloc t =>
  split at k
  ·exact absurd k (nob _)
  ·cases k
 case store t a x =>
  simp only [Option.map_eq_some_iff] at k
  obtain ⟨h2, hs, hh⟩ := k
  injection hh with hh
  subst hh
  have hs' := hs
  unfold evStore at hs'
  split at hs'
  ·rename_i b off hea
   exact ⟨t, a, x, b, off, rfl, hea, hs, by simp [fpOf, hea]⟩
  ·cases hs'
 case nilCheck x => split at k <;> cases k
 case makeMap t r =>
  split at k
  ·exact absurd k (nob _)
  ·cases k
 case mapUpdate t m i x =>
  simp only [Option.map_eq_some_iff] at k
  obtain ⟨_, _, hh⟩ := k
  cases hh
 case makeInterface t x =>
  split at k
  ·split at k <;> cases k
  ·cases k
 case extract t i =>
  split at k
  ·exact absurd k (nop _)
  ·cases k
 case panic x => split at k <;> cases k
 case call c =>
  unfold evCallOp at k
  split at k
  ·unfold evBuiltin at k
   split at k
   ·split at k
    ·exact absurd k (nop _)
    ·cases k
   ·split at k
    ·exact absurd k (nob _)
    ·cases k
   ·split at k
    ·exact absurd k (nob _)
    ·cases k
   ·split at k
    ·exact absurd k (nob _)
    ·cases k
   ·split at k
    ·exact absurd k (nop _)
    ·cases k
   ·split at k
    ·exact absurd k (nop _)
    ·cases k
   ·cases k
   ·cases k
  ·split at k
   ·split at k
    ·cases k
    ·cases k
   ·cases k
  ·cases k
 case defer c =>
  split at k
  ·split at k <;> cases k
  ·cases k
theorem evStore_put {T : Tab} {t : TypeId} {v : AV} {h h' : Hp} {b off : Nat} (hv : evStore T t (.ptr b off) v h = some h') : ∃ ob, h.put b (some ob) = some h' := by
 unfold evStore at hv
 simp only at hv
 split at hv
 ·have hv := cond_some hv
  unfold evStoreC at hv
  have hv := cond_some hv
  split at hv
  ·split at hv
   ·simp only [forceL_eq] at hv
    exact ⟨_, hv⟩
   ·cases hv
  ·cases hv
 ·cases hv
theorem Alike.get {h h1 h2 : Hp} (a : Alike h h1 h2) : (∀ i, i < h.next → h1.get i = h.get i) ∧ h1.next = h2.next ∧ h2.next ≤ h.next + 1 := by
 rcases a with ⟨rfl, rfl⟩ | ⟨o, h3, h4⟩
 ·exact ⟨fun _ _ => rfl, rfl, by show _ ≤ _; simp [Hp.bare]⟩
 ·obtain ⟨g1, g2, g3⟩ := Hp.new_get h3
  obtain ⟨k1, k2, k3⟩ := Hp.new_get h4
  refine ⟨fun i hi => by rw [g3, if_neg (by omega)], by rw [g1, k1]; rfl, by rw [k1]; exact Nat.le_refl _⟩
section
variable {call : CallF} (hcl : CallLe call) {T : Tab} {ops : Array Oper} {bf : List Nat} {f : Nat → St} {fp : Nat → Fp} {n : Nat} (d : DCtx call T ops bf f fp n)
include d hcl
theorem DCtx.mo {j id : Nat} (hj : j < n) (hm : Mo f j id) : fp j = .wr id ∨ fp j = .call false ∨ ∃ rs, fp j = .app rs (some id) := by
 obtain ⟨o, _, h2⟩ := d.tr j hj
 obtain ⟨hlt, hne⟩ := hm
 unfold drawOp at h2
 cases hw : (f j).wanted ops.toList o with
 | true =>
  simp only [hw, cond_true] at h2
  split at h2
  ·rename_i v h1 hop
   split at h2
   ·rename_i s1 hp
    simp only [Option.some.injEq, Prod.mk.injEq] at h2
    rw [← h2.1, (St.put_h hp).1] at hne
    rw [← h2.2]
    cases hf : fpOf o (f j).ev with
    | none =>
     obtain ⟨h3, _, ha⟩ := evOp_bare hf hop
     exact absurd (ha.get.1 id hlt) hne
    | rd b =>
     obtain ⟨rfl, _⟩ := evOp_rd hf hop
     exact absurd rfl hne
    | wr b => exact (evOp_wr hf hop).elim
    | call c =>
     have : c = false := by
      unfold fpOf at hf
      split at hf
      ·split at hf <;> cases hf <;> rfl
      ·split at hf <;> cases hf <;> rfl
      ·unfold mapFp at hf; split at hf <;> cases hf <;> rfl
      ·split at hf <;> first
         | (cases hf <;> rfl)
         | (unfold appFp at hf; split at hf <;> cases hf <;> rfl)
         | (unfold lenFp at hf; split at hf <;> cases hf <;> rfl)
         | (unfold clearFp at hf; split at hf <;> cases hf <;> rfl)
      ·cases hf
     subst this
     exact .inr (.inl rfl)
    | app rs w =>
     obtain ⟨_, ha⟩ := evOp_app hf hop
     obtain ⟨h1R, _, hp2⟩ := ha _ ⟨rfl, rfl, fun _ _ => rfl, fun _ _ => rfl⟩
     by_cases e : w = some id
     ·rw [e]; exact .inr (.inr ⟨rs, rfl⟩)
     ·exact absurd (hp2.rest id hlt e).1 hne
   ·cases h2
  ·rename_i h1 hop
   split at h2
   ·rename_i s1 hp
    simp only [Option.some.injEq, Prod.mk.injEq] at h2
    rw [← h2.1, (St.put_h hp).1] at hne
    rw [← h2.2]
    obtain ⟨t, a, x, b, off, _, hea, hs, hf⟩ := evOp_skip hop
    rw [hea] at hs
    obtain ⟨ob, hput⟩ := evStore_put hs
    have hg := (Hp.put_get hput).2.2.2.2 id
    by_cases e : id = b
    ·subst e; exact .inl hf
    ·rw [if_neg e] at hg
     exact absurd hg hne
   ·cases h2
  ·split at h2
   ·rename_i v h1 hcall
    split at h2
    ·rename_i s1 hp
     simp only [Option.some.injEq, Prod.mk.injEq] at h2
     rw [← h2.1, (St.put_h hp).1] at hne
     rw [← h2.2]
     have hle := hcl _ _ _ _ _ hcall
     cases hb : Nat.ble (f j).h.next h1.low with
     | true =>
      have hb' := Nat.ble_eq.mp hb
      have := hle.same id (by omega) hlt
      exact absurd this hne
     | false => exact .inr (.inl rfl)
    ·cases h2
   ·cases h2
  ·cases h2
 | false =>
  simp only [hw, cond_false] at h2
  split at h2
  ·rename_i s1 hp
   simp only [Option.some.injEq, Prod.mk.injEq] at h2
   rw [← h2.1, (St.put_h hp).1] at hne
   exact absurd rfl hne
  ·cases h2
def Lk (fp : Nat → Fp) (i id : Nat) : Prop := fp i = .rd id ∨ fp i = .wr id ∨ (∃ c, fp i = .call c) ∨ ∃ rs w, fp i = .app rs w ∧ id ∈ rs ++ optL w
theorem DCtx.c1 {i j id : Nat} (hi : i < n) (hj : j < n) (hne : i ≠ j) (hm : Mo f j id) (hl : Lk fp i id) : comes bf i j = true ∨ comes bf j i = true := by
 have hmo := d.mo hcl hj hm
 rcases d.sep i j hi hj hne with h | h | h | h | h
 ·exfalso
  unfold isQuiet at h
  simp only at h
  rcases hl with e | e | ⟨c, e⟩ | ⟨rs, w, e, _⟩ <;> rw [e] at h <;> cases h
 ·exfalso
  unfold isQuiet at h
  simp only at h
  rcases hmo with e | e | ⟨rs, e⟩ <;> rw [e] at h <;> cases h
 ·exfalso
  unfold Ent.apart at h
  simp only at h
  rcases hmo with e | e | ⟨rs, e⟩ <;> rcases hl with e' | e' | ⟨c, e'⟩ | ⟨rs', w', e', hmem⟩ <;> rw [e, e'] at h
  ·simp [Nat.beq_eq] at h
  ·simp [Nat.beq_eq] at h
  ·cases c <;> cases h
  ·have := (memN_iff id (rs' ++ optL w')).2 hmem
   simp [this] at h
  ·cases h
  ·cases h
  ·cases c <;> cases h
  ·cases h
  ·simp [optMem, memN] at h
  ·have := (memN_iff id (rs ++ optL (some id))).2 (by simp [optL])
   simp [this] at h
  ·cases c <;> cases h
  ·have := (memN_iff id (rs' ++ optL w')).2 hmem
   simp [optMem, this] at h
 ·exact .inl h
 ·exact .inr h
theorem DCtx.c2 {i j id : Nat} (hi : i < n) (hj : j < n) (hm : Mo f j id) (h1 : (f i).h.next ≤ id) (h2 : id < (f (i + 1)).h.next) : i < j ∧ comes bf i j = true := by
 have hlt : i < j := by
  rcases Nat.lt_or_ge i j with h | h
  ·exact h
  ·have := d.next_mono j i h (by omega)
   have := hm.1
   omega
 refine ⟨hlt, ?_⟩
 have hmo := d.mo hcl hj hm
 have hback : comes bf j i = true → comes bf i j = true := fun h => by have := d.b3 j i hj hi h; omega
 rcases d.sep i j hi hj (by omega) with h | h | h | h | h
 ·exfalso
  unfold isQuiet at h
  simp only at h
  split at h
  ·rw [Nat.beq_eq] at h
   omega
  ·cases h
 ·exfalso
  unfold isQuiet at h
  simp only at h
  rcases hmo with e | e | ⟨rs, e⟩ <;> rw [e] at h <;> cases h
 ·exfalso
  have hmade : Ent.made ⟨i, fp i, (f i).h.next, (f (i + 1)).h.next⟩ id = true := by
   simp only [Ent.made, Bool.and_eq_true, Nat.ble_eq, Nat.blt_eq]
   exact ⟨h1, h2⟩
  have hnx : ∀ b, fp i ≠ .rd b ∧ fp i ≠ .wr b := by
   intro b
   obtain ⟨o, _, h3⟩ := d.tr i hi
   unfold drawOp at h3
   cases hw : (f i).wanted ops.toList o with
   | true =>
    simp only [hw, cond_true] at h3
    split at h3
    ·rename_i v h1' hop
     split at h3
     ·rename_i s1 hp
      simp only [Option.some.injEq, Prod.mk.injEq] at h3
      rw [← h3.1, (St.put_h hp).1] at h2
      rw [← h3.2]
      refine ⟨fun e => ?_, fun e => (evOp_wr e hop).elim⟩
      obtain ⟨rfl, _⟩ := evOp_rd e hop
      omega
     ·cases h3
    ·rename_i h1' hop
     split at h3
     ·rename_i s1 hp
      simp only [Option.some.injEq, Prod.mk.injEq] at h3
      rw [← h3.1, (St.put_h hp).1] at h2
      rw [← h3.2]
      obtain ⟨t, a, x, b', off, _, hea, hs, hf⟩ := evOp_skip hop
      rw [hea] at hs
      obtain ⟨ob, hput⟩ := evStore_put hs
      have := (Hp.put_get hput).2.1
      omega
     ·cases h3
    ·split at h3
     ·split at h3
      ·simp only [Option.some.injEq, Prod.mk.injEq] at h3
       rw [← h3.2]
       exact ⟨(fun e => by cases e), (fun e => by cases e)⟩
      ·cases h3
     ·cases h3
    ·cases h3
   | false =>
    simp only [hw, cond_false] at h3
    split at h3
    ·simp only [Option.some.injEq, Prod.mk.injEq] at h3
     rw [← h3.2]
     exact ⟨(fun e => by cases e), (fun e => by cases e)⟩
    ·cases h3
  unfold Ent.apart at h
  simp only at h
  cases hfi : fp i with
  | none =>
   rcases hmo with e | e | ⟨rs, e⟩ <;> rw [hfi, e] at h
   ·rw [hfi] at hmade
    simp only at h
    rw [hmade] at h
    cases h
   ·cases h
   ·rw [hfi] at hmade
    simp only [Ent.optMade] at h
    rw [hmade] at h
    cases h
  | rd b => exact (hnx b).1 hfi
  | wr b => exact (hnx b).2 hfi
  | call c =>
   rcases hmo with e | e | ⟨rs, e⟩ <;> rw [hfi, e] at h <;> cases c <;> cases h
  | app rs w =>
   rw [hfi] at hmade
   rcases hmo with e | e | ⟨rs', e⟩ <;> rw [hfi, e] at h
   ·simp [hmade] at h
   ·cases h
   ·simp [Ent.optMade, hmade] at h
 ·exact h
 ·exact hback h
end
end Go.Iv
end
section
set_option linter.unusedVariables false
set_option linter.unusedSimpArgs false
namespace Go.Iv
open Go
structure RegF (f : Nat → St) (ρ : Ren) (w : World) (m : Nat → Nat) (ad : Addr) (l : List AV) : Prop where
 cell : ∀ j x, l[j]? = some x → ∃ y, w.cell? (ad.add j) = some y ∧ x.rel ρ y
 own : l ≠ [] → ∀ i n, ρ i = some (ad.block, n) → (f (m i)).h.get i = none
 pur : pureL l = true
theorem RegF.lt {f : Nat → St} {ρ : Ren} {w : World} {m : Nat → Nat} {ad : Addr} {l : List AV} (k : RegF f ρ w m ad l) (hl : l ≠ []) : ad.block < w.heap.size := by
 cases l with
 | nil => exact absurd rfl hl
 | cons x l =>
  obtain ⟨y, h1, _⟩ := k.cell 0 x rfl
  have := World.block_lt_of_cell? w _ h1
  rwa [addr_add_block] at this
theorem cells_keep {ρ ρ' : Ren} {w w' : World} {ad : Addr} {l : List AV} (k : ∀ j x, l[j]? = some x → ∃ y, w.cell? (ad.add j) = some y ∧ x.rel ρ y) (hle : Ren.le ρ ρ') (hw : l ≠ [] → w'.heap[ad.block]? = w.heap[ad.block]?) :
    ∀ j x, l[j]? = some x → ∃ y, w'.cell? (ad.add j) = some y ∧ x.rel ρ' y := fun j x hj => by
 obtain ⟨y, h1, h2⟩ := k j x hj
 have hl : l ≠ [] := by intro e; subst e; simp at hj
 have e : w'.cell? (ad.add j) = w.cell? (ad.add j) := World.cell?_of_block (by rw [addr_add_block]; exact hw hl)
 exact ⟨y, by rw [e]; exact h1, AV.rel_mono hle _ _ h2⟩
structure HPm (D : Nat → Prop) (f : Nat → St) (n : Nat) (S : Nat → Prop) (ρ : Ren) (w : World) (m : Nat → Nat) : Prop where
 mle : ∀ id, m id ≤ n
 mod : ∀ id j, ρ id ≠ none → j < n → Mo f j id → (j < m id ↔ S j)
 inn : ∀ id x, ρ id = some x → id < (f (m id)).h.next ∨ (f n).h.next ≤ id
 obj : ∀ id b c o, ρ id = some (b, c) → (f (m id)).h.get id = some o → D b ∧ ∃ o', w.heap[b]? = some o' ∧ o.rel ρ c o'
 inj : ∀ i j b c c', ρ i = some (b, c) → ρ j = some (b, c') → (f (m i)).h.get i ≠ none → (f (m j)).h.get j ≠ none → i = j
 reg : ∀ ad l, ρ.reg ad l → RegF f ρ w m ad l
structure Inv (D : Nat → Prop) (ops : Array Oper) (f : Nat → St) (n : Nat) (ρ0 : Ren) (w0 : World) (S : Nat → Prop) (ρ : Ren) (a : Act) (w : World) : Prop where
 closed : ∀ j oj, S j → ops[j]? = some oj → ∀ e ∈ oj.after, Region.binds .any e = true → S e.on
 sub : ∀ j, S j → j < n
 tsz : a.tmps.size = (f 0).n
 tm : ∀ t, ∃ m, m ≤ n ∧ (∀ j oj, ops[j]? = some oj → oj.dst = some t → (j < m ↔ S j)) ∧ ((f m).slot t).rel ρ (a.tmps.getD t undef)
 ds : relDs ρ (f 0).ds a.defers
 hp : ∃ m, HPm D f n S ρ w m
 dom : ∀ id x, ρ id = some x → ρ0 id = some x ∨ ∃ i, S i ∧ (f i).h.next ≤ id ∧ id < (f (i + 1)).h.next
 le : Ren.le ρ0 ρ
 fr : Fr D w0 w
 far : ∀ b, w.heap.size ≤ b → D b
 ext : ∀ id, id < (f 0).h.next ∨ (f n).h.next ≤ id → ρ id = ρ0 id
 nreg : ∀ ad l, ρ.reg ad l → ρ0.reg ad l ∨ Digits l ∨ w0.heap.size ≤ ad.block
section
variable {P : Program} {call : CallF} (hcl : CallLe call) {T : Tab} {ops : Array Oper} {bf : List Nat} {f : Nat → St} {fp : Nat → Fp} {n : Nat} (d : DCtx call T ops bf f fp n)
include d
theorem DCtx.op_lt {j : Nat} {o : Oper} (h : ops[j]? = some o) : j < n := by
 have := (Array.getElem?_eq_some_iff.1 h).1
 rw [d.size] at this
 exact this
theorem DCtx.stay : ∀ j, j ≤ n → (f j).n = (f 0).n ∧ (f j).ds = (f 0).ds := by
 intro j hj
 induction j with
 | zero => exact ⟨rfl, rfl⟩
 | succ j ih =>
  obtain ⟨h1, h2⟩ := ih (by omega)
  rw [← h1, ← h2]
  obtain ⟨o, _, h3⟩ := d.tr j (by omega)
  unfold drawOp at h3
  cases hw : (f j).wanted ops.toList o with
  | true =>
   simp only [hw, cond_true] at h3
   split at h3
   ·split at h3
    ·rename_i s1 hp
     simp only [Option.some.injEq, Prod.mk.injEq] at h3
     rw [← h3.1]
     exact ⟨(St.put_h hp).2.1, (St.put_h hp).2.2⟩
    ·cases h3
   ·split at h3
    ·rename_i s1 hp
     simp only [Option.some.injEq, Prod.mk.injEq] at h3
     rw [← h3.1]
     exact ⟨(St.put_h hp).2.1, (St.put_h hp).2.2⟩
    ·cases h3
   ·split at h3
    ·split at h3
     ·rename_i s1 hp
      simp only [Option.some.injEq, Prod.mk.injEq] at h3
      rw [← h3.1]
      exact ⟨(St.put_h hp).2.1, (St.put_h hp).2.2⟩
     ·cases h3
    ·cases h3
   ·cases h3
  | false =>
   simp only [hw, cond_false] at h3
   split at h3
   ·rename_i s1 hp
    simp only [Option.some.injEq, Prod.mk.injEq] at h3
    rw [← h3.1]
    exact ⟨(St.put_h hp).2.1, (St.put_h hp).2.2⟩
   ·cases h3
section inv
variable {D : Nat → Prop} {ρ0 ρ : Ren} {w0 w : World} {S : Nat → Prop} {a : Act} (v : Inv D ops f n ρ0 w0 S ρ a w)
include v
theorem Inv.comes_S {i : Nat} (hi : i < n) : ∀ j, comes bf i j = true → S j → S i := by
 intro j
 induction j using Nat.strongRecOn with
 | _ j ih =>
  intro hc hj
  obtain ⟨oj, hoj, _⟩ := d.tr j (v.sub j hj)
  obtain ⟨e, he, hb, h⟩ := d.b1 i j oj hi hoj hc
  have hS := v.closed j oj hj hoj e he hb
  rcases h with h | h
  ·rw [← h]; exact hS
  ·exact ih e.on (d.b4 j oj hoj e he hb) h hS
variable {i : Nat} {o : Oper} (ho : ops[i]? = some o) (hiS : ¬ S i) (hed : ∀ e ∈ o.after, Region.binds .any e = true → S e.on)
include ho hiS hed
theorem Inv.sync {j : Nat} (hj : j < n) (h : comes bf i j = true ∨ comes bf j i = true) : j < i ↔ S j := by
 have hi := d.op_lt ho
 rcases h with h | h
 ·have hlt := d.b3 i j hi hj h
  constructor
  ·intro h2; omega
  ·intro h2; exact absurd (v.comes_S d hi j h h2) hiS
 ·have hlt := d.b3 j i hj hi h
  constructor
  ·intro _
   obtain ⟨e, he, hb, h3⟩ := d.b1 j i o hj ho h
   have hS := hed e he hb
   rcases h3 with h3 | h3
   ·rw [← h3]; exact hS
   ·exact v.comes_S d hj e.on h3 hS
  ·intro _; exact hlt
theorem Inv.sync_tmp {j : Nat} {oj : Oper} (hoj : ops[j]? = some oj) (hne : j ≠ i) (h : (∃ t, oj.dst = some t ∧ (t ∈ o.looksAt ops ∨ o.dst = some t))) : j < i ↔ S j := by
 have hj := d.op_lt hoj
 obtain ⟨t, ht, h⟩ := h
 refine v.sync d ho hiS hed hj ?_
 rcases Nat.lt_or_ge j i with hlt | hge
 ·rcases d.b2 j i oj o hoj ho hlt with h1 | h1
  ·exact .inr h1
  ·obtain ⟨a1, a2, a3⟩ := Oper.apart_spec h1
   rcases h with h | h
   ·exact absurd h (a1 t ht)
   ·exact absurd h (a2 t ht)
 ·rcases d.b2 i j o oj ho hoj (by omega) with h1 | h1
  ·exact .inl h1
  ·obtain ⟨a1, a2, a3⟩ := Oper.apart_spec h1
   rcases h with h | h
   ·exact absurd h (a3 t ht)
   ·exact absurd ht (a2 t h)
theorem Inv.look {t : Nat} (ht : t ∈ o.looksAt ops) : ((f i).slot t).rel ρ (a.tmps.getD t undef) := by
 obtain ⟨m, hm, hs, hr⟩ := v.tm t
 have hi := d.op_lt ho
 have key : ∀ j oj, ops[j]? = some oj → oj.dst = some t → (j < m ↔ j < i) := fun j oj hoj hdj => by
  rw [hs j oj hoj hdj]
  by_cases e : j = i
  ·subst e
   constructor
   ·intro h; exact absurd h hiS
   ·intro h; omega
  ·exact (v.sync_tmp d ho hiS hed hoj e ⟨t, hdj, .inl ht⟩).symm
 have : (f i).slot t = (f m).slot t := by
  rcases Nat.le_total m i with h | h
  ·refine d.same_slot m i h (by omega) fun j oj h1 h2 hoj hdj => ?_
   have := (key j oj hoj hdj).2 h2
   omega
  ·refine (d.same_slot i m h hm fun j oj h1 h2 hoj hdj => ?_).symm
   have := (key j oj hoj hdj).1 h2
   omega
 rw [this]
 exact hr
omit v hed in
theorem Inv.stage {m : Nat → Nat} (hp : HPm D f n S ρ w m) {id : Nat} {x : Nat × Nat} (hρ : ρ id = some x) (hin : id < (f i).h.next ∨ (f n).h.next ≤ id) (hs : ∀ j, j < n → Mo f j id → j ≠ i → (j < i ↔ S j)) :
    (f (m id)).h.get id = (f i).h.get id := by
 have hi := d.op_lt ho
 have key : ∀ j, j < n → Mo f j id → (j < m id ↔ j < i) := fun j hj hm => by
  rw [hp.mod id j (by simp [hρ]) hj hm]
  by_cases e : j = i
  ·subst e
   constructor
   ·intro h; exact absurd h hiS
   ·intro h; omega
  ·exact (hs j hj hm e).symm
 have hml := hp.mle id
 rcases Nat.le_total (m id) i with h | h
 ·refine (d.same_get (m id) i h (by omega) (hp.inn id x hρ) fun j h1 h2 hm => ?_).symm
  have := (key j (by omega) hm).2 h2
  omega
 ·refine d.same_get i (m id) h hml hin fun j h1 h2 hm => ?_
  have := (key j (by omega) hm).1 h2
  omega
theorem Inv.next {ρ' : Ren} {w' : World} {u : AV} {u' : Value} (hp' : ∃ m, HPm D f n (fun j => S j ∨ j = i) ρ' w' m) (hle : Ren.le ρ ρ') (hu : u.rel ρ' u')
    (hdom : ∀ id x, ρ' id = some x → ρ id = some x ∨ ((f i).h.next ≤ id ∧ id < (f (i + 1)).h.next)) (hfr : Fr D w w')
    (hnr : ∀ ad l, ρ'.reg ad l → ρ.reg ad l ∨ Digits l ∨ w.heap.size ≤ ad.block)
    (hslot : ∀ t, (f (i + 1)).slot t = if o.dst = some t then u else (f i).slot t) (hb : ∀ t, o.dst = some t → t < (f 0).n) :
    Inv D ops f n ρ0 w0 (fun j => S j ∨ j = i) ρ' (a.put o.dst u') w' := by
 have hi := d.op_lt ho
 refine ⟨?_, ?_, by rw [size_put]; exact v.tsz, ?_, by rw [defers_put]; exact relDs_mono hle v.ds, hp', ?_, v.le.trans hle, v.fr.trans hfr, fun b hb => v.far b (Nat.le_trans hfr.size hb), ?_, fun ad l hl => ?_⟩
 ·rintro j oj (hj | rfl) hoj e he hbd
  ·exact .inl (v.closed j oj hj hoj e he hbd)
  ·rw [ho] at hoj
   injection hoj with hoj
   subst hoj
   exact .inl (hed e he hbd)
 ·rintro j (hj | rfl)
  ·exact v.sub j hj
  ·exact hi
 ·intro t
  rw [getD_put t (fun dd hdd => by rw [v.tsz]; exact hb dd hdd)]
  by_cases e : o.dst = some t
  ·rw [if_pos e]
   refine ⟨i + 1, by omega, fun j oj hoj hdj => ?_, by rw [hslot, if_pos e]; exact hu⟩
   by_cases hji : j = i
   ·subst hji
    constructor
    ·intro _; exact .inr rfl
    ·intro _; omega
   ·have := v.sync_tmp d ho hiS hed hoj hji ⟨t, hdj, .inr e⟩
    constructor
    ·intro h; exact .inl (this.1 (by omega))
    ·rintro (h | h)
     ·have := this.2 h; omega
     ·exact absurd h hji
  ·rw [if_neg e]
   obtain ⟨m, hm, hs, hr⟩ := v.tm t
   refine ⟨m, hm, fun j oj hoj hdj => ?_, AV.rel_mono hle _ _ hr⟩
   have hji : j ≠ i := by
    intro hji
    subst hji
    rw [ho] at hoj
    injection hoj with hoj
    subst hoj
    exact e hdj
   rw [hs j oj hoj hdj]
   constructor
   ·intro h; exact .inl h
   ·rintro (h | h)
    ·exact h
    ·exact absurd h hji
 ·intro id x hx
  rcases hdom id x hx with h | h
  ·rcases v.dom id x h with h | ⟨k, h1, h2⟩
   ·exact .inl h
   ·exact .inr ⟨k, .inl h1, h2⟩
  ·exact .inr ⟨i, .inr rfl, h⟩
 ·intro id hid
  have h1 := d.next_mono 0 i (by omega) (by omega)
  have h2 := d.next_mono (i + 1) n (by omega) (Nat.le_refl _)
  rw [← v.ext id hid]
  cases hx : ρ' id with
  | some x =>
   rcases hdom id x hx with h | h
   ·exact h.symm
   ·omega
  | none =>
   cases hy : ρ id with
   | none => rfl
   | some y => rw [hle.f id y hy] at hx; cases hx
 ·rcases hnr ad l hl with h | h | h
  ·exact v.nreg ad l h
  ·exact .inr (.inl h)
  ·exact .inr (.inr (Nat.le_trans v.fr.size h))
omit hed in
theorem Inv.free (hf : Free ρ0 (f 0).h.next (f n).h.next) : Free ρ (f i).h.next (f (i + 1)).h.next := by
 have hi := d.op_lt ho
 intro id h1 h2
 cases hx : ρ id with
 | none => rfl
 | some x =>
  exfalso
  have m1 := d.next_mono 0 i (by omega) (by omega)
  have m2 := d.next_mono (i + 1) n (by omega) (Nat.le_refl _)
  rcases v.dom id x hx with h | ⟨k, hk, h3, h4⟩
  ·have := hf id (by omega) (by omega)
   rw [this] at h
   cases h
  ·have hkn := v.sub k hk
   rcases Nat.lt_trichotomy k i with h | h | h
   ·have := d.next_mono (k + 1) i (by omega) (by omega)
    omega
   ·subst h; exact hiS hk
   ·have := d.next_mono (i + 1) k (by omega) (by omega)
    omega
omit d hed in
theorem Inv.hp_same (hno : ∀ id, ¬ Mo f i id) {w' : World} (hw : ∀ b, b < w.heap.size → w'.heap[b]? = w.heap[b]?) : ∃ m, HPm D f n (fun j => S j ∨ j = i) ρ w' m := by
 obtain ⟨m, hp⟩ := v.hp
 refine ⟨m, hp.mle, fun id j hρ hj hm => ?_, hp.inn, fun id b c o hρ hg => ?_, hp.inj, fun ad l hr => ⟨cells_keep (hp.reg ad l hr).cell (Ren.le.refl _) fun hne => hw _ ((hp.reg ad l hr).lt hne), (hp.reg ad l hr).own, (hp.reg ad l hr).pur⟩⟩
 ·rw [hp.mod id j hρ hj hm]
  constructor
  ·intro h; exact .inl h
  ·rintro (h | h)
   ·exact h
   ·subst h; exact absurd hm (hno id)
 ·obtain ⟨h1, o', h2, h3⟩ := hp.obj id b c o hρ hg
  exact ⟨h1, o', by rw [hw b (Array.getElem?_eq_some_iff.1 h2).1]; exact h2, h3⟩
include hcl in
theorem Inv.no_new (hf : Free ρ0 (f 0).h.next (f n).h.next) {id j : Nat} (hj : j < n) (hm : Mo f j id) (h1 : (f i).h.next ≤ id) (h2 : id < (f (i + 1)).h.next) : (j < i + 1 ↔ (S j ∨ j = i)) := by
 obtain ⟨h3, h4⟩ := d.c2 hcl (d.op_lt ho) hj hm h1 h2
 have := v.sync d ho hiS hed hj (.inl h4)
 constructor
 ·intro h; omega
 ·rintro (h | h)
  ·have := this.2 h; omega
  ·omega
include hcl in
theorem Inv.hp_alloc (hf : Free ρ0 (f 0).h.next (f n).h.next) (hno : ∀ id, ¬ Mo f i id) {hE : Hp} (hal : Alike (f i).h (f (i + 1)).h hE) {ρ' : Ren} {w' : World} (st : Step (fun b => w.heap.size ≤ b) ρ (f i).h.bare w ρ' hE w') :
    ∃ m, HPm D f n (fun j => S j ∨ j = i) ρ' w' m := by
 have hi := d.op_lt ho
 obtain ⟨m, hp⟩ := v.hp
 have hfree := v.free d ho hiS hf
 have hnx : hE.next = (f (i + 1)).h.next := hal.get.2.1.symm
 have hnx2 := hal.get.2.2
 have hold : ∀ id, ρ id ≠ none → ρ' id = ρ id := fun id h => by
  cases hx : ρ id with
  | none => exact absurd hx h
  | some x => exact st.le.f id x hx
 have hnew : ∀ id x, ρ' id = some x → ρ id = none → (f i).h.next ≤ id ∧ id < (f (i + 1)).h.next := fun id x hx hn => by
  rcases Nat.lt_or_ge id (f i).h.next with h | h
  ·rw [st.dom id (.inl h)] at hx; rw [hn] at hx; cases hx
  ·rcases Nat.lt_or_ge id (f (i + 1)).h.next with h2 | h2
   ·exact ⟨h, h2⟩
   ·rw [st.dom id (.inr (by omega))] at hx; rw [hn] at hx; cases hx
 have hget : ∀ id, (f i).h.next ≤ id → (f (i + 1)).h.get id = hE.get id := fun id hid => by
  rcases hal with ⟨h1, h2⟩ | ⟨ob, h1, h2⟩
  ·rw [h1, h2, d.born i (by omega) id hid]
   simp [Hp.get, Hp.bare]
  ·rw [(Hp.new_get h1).2.2 id, (Hp.new_get h2).2.2 id]
   by_cases e : id = (f i).h.next
   ·rw [if_pos e, if_pos (by rw [e]; rfl)]
   ·rw [if_neg e, if_neg (by intro h; exact e h), d.born i (by omega) id hid]
    simp [Hp.get, Hp.bare]
 have hfrw : ∀ b, b < w.heap.size → w'.heap[b]? = w.heap[b]? := fun b hb => st.fr.block b hb (by omega)
 have hobj : ∀ id b c ob, ρ' id = some (b, c) → (f (if ρ id = none then i + 1 else m id)).h.get id = some ob → D b ∧ ∃ o', w'.heap[b]? = some o' ∧ ob.rel ρ' c o' := fun id b c ob hρ hg => by
  by_cases e : ρ id = none
  ·simp only [e, if_true] at hg
   have h1 := hnew id _ hρ e
   rw [hget id h1.1] at hg
   obtain ⟨h2, o', h3, h4⟩ := st.hr.obj id b c ob hρ hg
   exact ⟨v.far b h2, o', h3, h4⟩
  ·simp only [e, if_false] at hg
   rw [hold id e] at hρ
   obtain ⟨h1, o', h2, h3⟩ := hp.obj id b c ob hρ hg
   exact ⟨h1, o', by rw [hfrw b (Array.getElem?_eq_some_iff.1 h2).1]; exact h2, AO.rel_mono st.le h3⟩
 refine ⟨fun id => if ρ id = none then i + 1 else m id, fun id => ?_, fun id j hρ hj hm => ?_, fun id x hx => ?_, hobj, fun x y b c c' hx hy hlx hly => ?_, fun ad l hr => ⟨(st.hr.reg ad l hr).cell, fun hne id c hρ => ?_, (st.hr.reg ad l hr).pur⟩⟩
 ·show (if ρ id = none then i + 1 else m id) ≤ n
  split
  ·omega
  ·exact hp.mle id
 ·show j < (if ρ id = none then i + 1 else m id) ↔ _
  by_cases e : ρ id = none
  ·rw [if_pos e]
   cases hx : ρ' id with
   | none => exact absurd hx hρ
   | some x =>
    obtain ⟨h1, h2⟩ := hnew id x hx e
    exact v.no_new hcl d ho hiS hed hf hj hm h1 h2
  ·rw [if_neg e, hp.mod id j e hj hm]
   constructor
   ·intro h; exact .inl h
   ·rintro (h | h)
    ·exact h
    ·subst h; exact absurd hm (hno id)
 ·show id < (f (if ρ id = none then i + 1 else m id)).h.next ∨ _
  by_cases e : ρ id = none
  ·rw [if_pos e]
   exact .inl (hnew id x hx e).2
  ·rw [if_neg e]
   rw [hold id e] at hx
   exact hp.inn id x hx
 ·have hnb : ∀ z c, ρ' z = some (b, c) → ρ z = none → (f (i + 1)).h.get z ≠ none → w.heap.size ≤ b := fun z c hz e hl => by
    have h1 := hnew z _ hz e
    cases hg : (f (i + 1)).h.get z with
    | none => exact absurd hg hl
    | some ob => exact (st.hr.obj z b c ob hz (by rw [← hget z h1.1]; exact hg)).1
  have hob : ∀ z c, ρ' z = some (b, c) → ρ z ≠ none → (f (m z)).h.get z ≠ none → b < w.heap.size := fun z c hz e hl => by
   rw [hold z e] at hz
   cases hg : (f (m z)).h.get z with
   | none => exact absurd hg hl
   | some ob =>
    obtain ⟨_, o', h2, _⟩ := hp.obj z b c ob hz hg
    exact (Array.getElem?_eq_some_iff.1 h2).1
  by_cases ex : ρ x = none
  ·simp only [ex, if_true] at hlx
   by_cases ey : ρ y = none
   ·have h1 := hnew x _ hx ex
    have h2 := hnew y _ hy ey
    omega
   ·simp only [ey, if_false] at hly
    have h1 := hnb x c hx ex hlx
    have h2 := hob y c' hy ey hly
    omega
  ·simp only [ex, if_false] at hlx
   by_cases ey : ρ y = none
   ·simp only [ey, if_true] at hly
    have h1 := hnb y c' hy ey hly
    have h2 := hob x c hx ex hlx
    omega
   ·simp only [ey, if_false] at hly
    rw [hold x ex] at hx
    rw [hold y ey] at hy
    exact hp.inj x y b c c' hx hy hlx hly
 ·cases hg : (f (if ρ id = none then i + 1 else m id)).h.get id with
  | none => rfl
  | some ob =>
   exfalso
   obtain ⟨_, o', h2, h3⟩ := hobj id _ c ob hρ hg
   by_cases e : ρ id = none
   ·simp only [e, if_true] at hg
    have h1 := hnew id _ hρ e
    have := (st.hr.reg ad l hr).own hne id c hρ
    rw [← hget id h1.1, hg] at this
    cases this
   ·simp only [e, if_false] at hg
    rcases st.nreg ad l hr with h | h | h
    ·rw [hold id e] at hρ
     have := (hp.reg ad l h).own hne id c hρ
     rw [hg] at this
     cases this
    ·exact h.cell (st.hr.reg ad l hr).cell h2 h3
    ·rw [hold id e] at hρ
     obtain ⟨_, o2, h4, _⟩ := hp.obj id _ c ob hρ hg
     have := (Array.getElem?_eq_some_iff.1 h4).1
     omega
end inv
end
end Go.Iv
end
section
set_option linter.unusedVariables false
set_option linter.unusedSimpArgs false
namespace Go.Iv
open Go
section
variable {P : Program} {call : CallF} {T : Tab} {ops : Array Oper} {bf : List Nat} {f : Nat → St} {fp : Nat → Fp} {n : Nat} (d : DCtx call T ops bf f fp n) (hcl : CallLe call)
variable {D : Nat → Prop} {ρ0 ρ : Ren} {w0 w : World} {S : Nat → Prop} {a : Act} (v : Inv D ops f n ρ0 w0 S ρ a w)
variable {i : Nat} {o : Oper} (ho : ops[i]? = some o) (hiS : ¬ S i) (hed : ∀ e ∈ o.after, Region.binds .any e = true → S e.on)
include d hcl v ho hiS hed
theorem Inv.sync_lk {id : Nat} (hl : Lk fp i id) {j : Nat} (hj : j < n) (hm : Mo f j id) (hne : j ≠ i) : j < i ↔ S j :=
 v.sync d ho hiS hed hj (d.c1 hcl (d.op_lt ho) hj (Ne.symm hne) hm hl)
theorem Inv.hp_store {b : Nat} (hfp : fp i = .wr b) {ob : AO} {w' : World} {b' c' : Nat} {ob' : Obj} (hput : (f i).h.put b (some ob) = some (f (i + 1)).h) (hlive : (f i).h.get b ≠ none) (hρ : ρ b = some (b', c'))
    (hw : w'.heap[b']? = some ob') (hrel : ob.rel ρ c' ob') (hother : ∀ j, j ≠ b' → w'.heap[j]? = w.heap[j]?) : ∃ m, HPm D f n (fun j => S j ∨ j = i) ρ w' m := by
 have hi := d.op_lt ho
 obtain ⟨m, hp⟩ := v.hp
 obtain ⟨p1, p2, p3, p4, p5⟩ := Hp.put_get hput
 have hst : (f (m b)).h.get b = (f i).h.get b := Inv.stage d ho hiS hp hρ (.inl p1) fun j hj hm hne => v.sync_lk d hcl ho hiS hed (.inr (.inl hfp)) hj hm hne
 have hlive' : (f (m b)).h.get b ≠ none := by rw [hst]; exact hlive
 refine ⟨fun id => if id = b then i + 1 else m id, fun id => ?_, fun id j hρ' hj hm => ?_, fun id x hx => ?_, fun id c e ob2 hρ' hg => ?_, fun x y c e e' hx hy hlx hly => ?_, fun ad l hr => ⟨cells_keep (hp.reg ad l hr).cell (Ren.le.refl _) fun hne => hother _ fun e => hlive' ((hp.reg ad l hr).own hne b c' (by rw [e]; exact hρ)), fun hne id c2 hρ2 => ?_, (hp.reg ad l hr).pur⟩⟩
 ·show (if id = b then i + 1 else m id) ≤ n
  split
  ·omega
  ·exact hp.mle id
 ·show j < (if id = b then i + 1 else m id) ↔ _
  by_cases e : id = b
  ·subst e
   rw [if_pos rfl]
   by_cases hji : j = i
   ·subst hji
    constructor
    ·intro _; exact .inr rfl
    ·intro _; omega
   ·have := v.sync_lk d hcl ho hiS hed (.inr (.inl hfp)) hj hm hji
    constructor
    ·intro h; exact .inl (this.1 (by omega))
    ·rintro (h | h)
     ·have := this.2 h; omega
     ·exact absurd h hji
  ·rw [if_neg e, hp.mod id j hρ' hj hm]
   constructor
   ·intro h; exact .inl h
   ·rintro (h | h)
    ·exact h
    ·subst h
     have := hm.2
     rw [p5, if_neg e] at this
     exact absurd rfl this
 ·show id < (f (if id = b then i + 1 else m id)).h.next ∨ _
  by_cases e : id = b
  ·rw [if_pos e, p2, e]
   exact .inl p1
  ·rw [if_neg e]
   exact hp.inn id x hx
 ·by_cases e1 : id = b
  ·subst e1
   simp only [if_true] at hg
   rw [hρ] at hρ'
   simp only [Option.some.injEq, Prod.mk.injEq] at hρ'
   obtain ⟨rfl, rfl⟩ := hρ'
   rw [p5, if_pos rfl] at hg
   simp only [Option.some.injEq] at hg
   subst hg
   cases hg0 : (f (m id)).h.get id with
   | none => exact absurd hg0 hlive'
   | some o0 => exact ⟨(hp.obj id b' c' o0 hρ hg0).1, ob', hw, hrel⟩
  ·simp only [e1, if_false] at hg
   obtain ⟨h1, o', h2, h3⟩ := hp.obj id c e ob2 hρ' hg
   refine ⟨h1, o', ?_, h3⟩
   rw [hother]
   ·exact h2
   ·intro hc
    subst hc
    exact e1 (hp.inj id b c e c' hρ' hρ (by simp [hg]) hlive')
 ·have hl : ∀ z, (f (if z = b then i + 1 else m z)).h.get z ≠ none → (f (m z)).h.get z ≠ none := fun z hz => by
    by_cases e : z = b
    ·subst e; exact hlive'
    ·rw [if_neg e] at hz; exact hz
  exact hp.inj x y c e e' hx hy (hl x hlx) (hl y hly)
 ·have h1 := (hp.reg ad l hr).own hne id c2 hρ2
  by_cases e : id = b
  ·subst e; exact absurd h1 hlive'
  ·show (f (if id = b then i + 1 else m id)).h.get id = none
   rw [if_neg e]; exact h1
def FullD (f : Nat → St) (ρ : Ren) (w : World) (i : Nat) (b : Nat) : Prop := w.heap.size ≤ b ∨ ∃ id c, ρ id = some (b, c) ∧ (f i).h.get id ≠ none
theorem Inv.full {c : Bool} (hfp : fp i = .call c) {h : Hp} (hh : ∀ id, h.get id = (f i).h.get id) (hn : h.next = (f i).h.next) : HR (FullD f ρ w i) ρ h w ∧ ∀ b, FullD f ρ w i b → D b := by
 have hi := d.op_lt ho
 obtain ⟨m, hp⟩ := v.hp
 have hst : ∀ id x, ρ id = some x → id < (f i).h.next → (f (m id)).h.get id = (f i).h.get id := fun id x hx hid =>
  Inv.stage d ho hiS hp hx (.inl hid) fun j hj hm hne => v.sync_lk d hcl ho hiS hed (.inr (.inr (.inl ⟨c, hfp⟩))) hj hm hne
 have hlt : ∀ id, (f i).h.get id ≠ none → id < (f i).h.next := fun id hl => by
  rcases Nat.lt_or_ge id (f i).h.next with h | h
  ·exact h
  ·exact absurd (d.born i (by omega) id h) hl
 refine ⟨⟨fun id b e ob hρ hg => ?_, fun x y b e e' hx hy hlx hly => ?_, fun id hid => ?_, fun b hb => .inl hb, fun ad l hr => ⟨(hp.reg ad l hr).cell, fun hne id e hρ => ?_, (hp.reg ad l hr).pur⟩⟩, ?_⟩
 ·rw [hh] at hg
  have hl : (f i).h.get id ≠ none := by simp [hg]
  refine ⟨.inr ⟨id, e, hρ, hl⟩, ?_⟩
  rw [← hst id _ hρ (hlt id hl)] at hg
  exact (hp.obj id b e ob hρ hg).2
 ·rw [hh] at hlx hly
  have h1 := hlt x hlx
  have h2 := hlt y hly
  rw [← hst x _ hx h1] at hlx
  rw [← hst y _ hy h2] at hly
  exact hp.inj x y b e e' hx hy hlx hly
 ·rw [hh]
  exact d.born i (by omega) id (by omega)
 ·rw [hh]
  cases hg : (f i).h.get id with
  | none => rfl
  | some ob =>
   have h1 := hlt id (by rw [hg]; simp)
   have := (hp.reg ad l hr).own hne id e hρ
   rw [hst id _ hρ h1, hg] at this
   cases this
 ·rintro b (hb | ⟨id, e, hρ, hl⟩)
  ·exact v.far b hb
  ·have h1 := hlt id hl
   cases hg : (f i).h.get id with
   | none => exact absurd hg hl
   | some ob =>
    rw [← hst id _ hρ h1] at hg
    exact (hp.obj id b e ob hρ hg).1
theorem Inv.hp_full (hf : Free ρ0 (f 0).h.next (f n).h.next) {c : Bool} (hfp : fp i = .call c) {h h1 : Hp} (hh : ∀ id, h.get id = (f i).h.get id) (hn : h.next = (f i).h.next)
    (hh1 : ∀ id, (f (i + 1)).h.get id = h1.get id) (hn1 : (f (i + 1)).h.next = h1.next) {ρ' : Ren} {w' : World} (st : Step (FullD f ρ w i) ρ h w ρ' h1 w') : ∃ m, HPm D f n (fun j => S j ∨ j = i) ρ' w' m := by
 have hi := d.op_lt ho
 obtain ⟨hfull, hDD⟩ := v.full d hcl ho hiS hed hfp hh hn
 obtain ⟨m, hp⟩ := v.hp
 have hfree := v.free d ho hiS hf
 have hst : ∀ id x, ρ id = some x → id < (f i).h.next → (f (m id)).h.get id = (f i).h.get id := fun id x hx hid =>
  Inv.stage d ho hiS hp hx (.inl hid) fun j hj hm hne => v.sync_lk d hcl ho hiS hed (.inr (.inr (.inl ⟨c, hfp⟩))) hj hm hne
 have hlt : ∀ id, (f i).h.get id ≠ none → id < (f i).h.next := fun id hl => by
  rcases Nat.lt_or_ge id (f i).h.next with h | h
  ·exact h
  ·exact absurd (d.born i (by omega) id h) hl
 have hnx := d.next_mono i (i + 1) (by omega) (by omega)
 have hfar : ∀ id, (f (i + 1)).h.next ≤ id → ρ' id = ρ id := fun id hid => st.dom id (.inr (by omega))
 have hearly : ∀ id b e, ρ id = some (b, e) → (f (i + 1)).h.next ≤ id → (f (m id)).h.get id ≠ none → ¬ FullD f ρ w i b := fun id b e hρ hid hl => by
  rintro (hb | ⟨id2, e2, hρ2, hl2⟩)
  ·cases hg : (f (m id)).h.get id with
   | none => exact absurd hg hl
   | some ob =>
    obtain ⟨_, o', h2, _⟩ := hp.obj id b e ob hρ hg
    have := (Array.getElem?_eq_some_iff.1 h2).1
    omega
  ·have h2 := hlt id2 hl2
   rw [← hst id2 _ hρ2 h2] at hl2
   have := hp.inj id id2 b e e2 hρ hρ2 hl hl2
   omega
 have hobj : ∀ id b e ob, ρ' id = some (b, e) → (f (if id < (f (i + 1)).h.next then i + 1 else m id)).h.get id = some ob → D b ∧ ∃ o', w'.heap[b]? = some o' ∧ ob.rel ρ' e o' := fun id b e ob hρ hg => by
  by_cases e1 : id < (f (i + 1)).h.next
  ·simp only [e1, if_true] at hg
   rw [hh1] at hg
   obtain ⟨h2, o', h3, h4⟩ := st.hr.obj id b e ob hρ hg
   exact ⟨hDD b h2, o', h3, h4⟩
  ·simp only [e1, if_false] at hg
   rw [hfar id (by omega)] at hρ
   obtain ⟨h2, o', h3, h4⟩ := hp.obj id b e ob hρ hg
   refine ⟨h2, o', ?_, AO.rel_mono st.le h4⟩
   rw [st.fr.block b (Array.getElem?_eq_some_iff.1 h3).1 (hearly id b e hρ (by omega) (by simp [hg]))]
   exact h3
 refine ⟨fun id => if id < (f (i + 1)).h.next then i + 1 else m id, fun id => ?_, fun id j hρ hj hm => ?_, fun id x hx => ?_, hobj, fun x y b e e' hx hy hlx hly => ?_, fun ad l hr => ⟨(st.hr.reg ad l hr).cell, fun hne id c hρ => ?_, (st.hr.reg ad l hr).pur⟩⟩
 ·show (if id < (f (i + 1)).h.next then i + 1 else m id) ≤ n
  split
  ·omega
  ·exact hp.mle id
 ·show j < (if id < (f (i + 1)).h.next then i + 1 else m id) ↔ _
  by_cases e : id < (f (i + 1)).h.next
  ·rw [if_pos e]
   rcases Nat.lt_or_ge id (f i).h.next with h2 | h2
   ·by_cases hji : j = i
    ·subst hji
     constructor
     ·intro _; exact .inr rfl
     ·intro _; omega
    ·have := v.sync_lk d hcl ho hiS hed (.inr (.inr (.inl ⟨c, hfp⟩))) hj hm hji
     constructor
     ·intro h; exact .inl (this.1 (by omega))
     ·rintro (h | h)
      ·have := this.2 h; omega
      ·exact absurd h hji
   ·exact v.no_new hcl d ho hiS hed hf hj hm h2 e
  ·rw [if_neg e]
   have hρ2 : ρ id ≠ none := by rw [← hfar id (by omega)]; exact hρ
   rw [hp.mod id j hρ2 hj hm]
   constructor
   ·intro h; exact .inl h
   ·rintro (h | h)
    ·exact h
    ·subst h
     have := hm.1
     omega
 ·show id < (f (if id < (f (i + 1)).h.next then i + 1 else m id)).h.next ∨ _
  by_cases e : id < (f (i + 1)).h.next
  ·rw [if_pos e]; exact .inl e
  ·rw [if_neg e]
   rw [hfar id (by omega)] at hx
   exact hp.inn id x hx
 ·have hlo : ∀ z e, ρ' z = some (b, e) → z < (f (i + 1)).h.next → (f (i + 1)).h.get z ≠ none → FullD f ρ w i b := fun z e hz hlz hl => by
    cases hg : (f (i + 1)).h.get z with
    | none => exact absurd hg hl
    | some ob => exact (st.hr.obj z b e ob hz (by rw [← hh1]; exact hg)).1
  by_cases ex : x < (f (i + 1)).h.next
  ·simp only [ex, if_true] at hlx
   by_cases ey : y < (f (i + 1)).h.next
   ·simp only [ey, if_true] at hly
    exact st.hr.inj x y b e e' hx hy (by rw [← hh1]; exact hlx) (by rw [← hh1]; exact hly)
   ·simp only [ey, if_false] at hly
    rw [hfar y (by omega)] at hy
    exact absurd (hlo x e hx ex hlx) (hearly y b e' hy (by omega) hly)
  ·simp only [ex, if_false] at hlx
   rw [hfar x (by omega)] at hx
   by_cases ey : y < (f (i + 1)).h.next
   ·simp only [ey, if_true] at hly
    exact absurd (hlo y e' hy ey hly) (hearly x b e hx (by omega) hlx)
   ·simp only [ey, if_false] at hly
    rw [hfar y (by omega)] at hy
    exact hp.inj x y b e e' hx hy hlx hly
 ·cases hg : (f (if id < (f (i + 1)).h.next then i + 1 else m id)).h.get id with
  | none => rfl
  | some ob =>
   exfalso
   obtain ⟨_, o', h2, h3⟩ := hobj id _ c ob hρ hg
   by_cases e : id < (f (i + 1)).h.next
   ·simp only [e, if_true] at hg
    have := (st.hr.reg ad l hr).own hne id c hρ
    rw [← hh1, hg] at this
    cases this
   ·simp only [e, if_false] at hg
    rw [hfar id (by omega)] at hρ
    rcases st.nreg ad l hr with h | h | h
    ·have := (hp.reg ad l h).own hne id c hρ
     rw [hg] at this
     cases this
    ·exact h.cell (st.hr.reg ad l hr).cell h2 h3
    ·obtain ⟨_, o2, h4, _⟩ := hp.obj id _ c ob hρ hg
     have := (Array.getElem?_eq_some_iff.1 h4).1
     omega
def restrict (h : Hp) (l : List Nat) : Hp := ⟨h.next, h.low, fun id => cond (memN id l) (h.get id) none⟩
def PartD (f : Nat → St) (ρ : Ren) (w : World) (i : Nat) (l : List Nat) (b : Nat) : Prop := w.heap.size ≤ b ∨ ∃ id c, memN id l = true ∧ ρ id = some (b, c) ∧ (f i).h.get id ≠ none
omit v hcl ho hiS hed in
theorem restrict_in {rs : List Nat} {wo : Option Nat} (hi : i ≤ n) : PartIn rs (f i).h (restrict (f i).h (rs ++ optL wo)) := by
 refine ⟨rfl, rfl, fun id hid => ?_, fun id hid => ?_⟩
 ·have : memN id (rs ++ optL wo) = true := (memN_iff id _).2 (List.mem_append.2 (.inl hid))
  simp [restrict, Hp.get, this]
 ·have := d.born i hi id hid
  simp only [Hp.get] at this
  cases hm : memN id (rs ++ optL wo) <;> simp [restrict, Hp.get, hm, this]
theorem Inv.part {rs : List Nat} {wo : Option Nat} (hfp : fp i = .app rs wo) : HR (PartD f ρ w i (rs ++ optL wo)) ρ (restrict (f i).h (rs ++ optL wo)) w ∧ ∀ b, PartD f ρ w i (rs ++ optL wo) b → D b := by
 have hi := d.op_lt ho
 obtain ⟨m, hp⟩ := v.hp
 have hst : ∀ id x, ρ id = some x → id < (f i).h.next → memN id (rs ++ optL wo) = true → (f (m id)).h.get id = (f i).h.get id := fun id x hx hid hmem =>
  Inv.stage d ho hiS hp hx (.inl hid) fun j hj hm hne => v.sync_lk d hcl ho hiS hed (.inr (.inr (.inr ⟨rs, wo, hfp, (memN_iff id _).1 hmem⟩))) hj hm hne
 have hlt : ∀ id, (f i).h.get id ≠ none → id < (f i).h.next := fun id hl => by
  rcases Nat.lt_or_ge id (f i).h.next with h | h
  ·exact h
  ·exact absurd (d.born i (by omega) id h) hl
 have hget : ∀ id, (restrict (f i).h (rs ++ optL wo)).get id ≠ none → memN id (rs ++ optL wo) = true ∧ (restrict (f i).h (rs ++ optL wo)).get id = (f i).h.get id := fun id h => by
  cases hm : memN id (rs ++ optL wo) with
  | true => exact ⟨rfl, by simp [restrict, Hp.get, hm]⟩
  | false => simp [restrict, Hp.get, hm] at h
 refine ⟨⟨fun id b e ob hρ hg => ?_, fun x y b e e' hx hy hlx hly => ?_, fun id hid => ?_, fun b hb => .inl hb, fun ad l hr => ⟨(hp.reg ad l hr).cell, fun hne id e hρ => ?_, (hp.reg ad l hr).pur⟩⟩, ?_⟩
 ·obtain ⟨hm, he⟩ := hget id (by rw [hg]; simp)
  rw [he] at hg
  have hl : (f i).h.get id ≠ none := by simp [hg]
  refine ⟨.inr ⟨id, e, hm, hρ, hl⟩, ?_⟩
  rw [← hst id _ hρ (hlt id hl) hm] at hg
  exact (hp.obj id b e ob hρ hg).2
 ·obtain ⟨hmx, hex⟩ := hget x hlx
  obtain ⟨hmy, hey⟩ := hget y hly
  rw [hex] at hlx
  rw [hey] at hly
  have h1 := hlt x hlx
  have h2 := hlt y hly
  rw [← hst x _ hx h1 hmx] at hlx
  rw [← hst y _ hy h2 hmy] at hly
  exact hp.inj x y b e e' hx hy hlx hly
 ·have := d.born i (by omega) id hid
  simp only [Hp.get] at this
  cases hm : memN id (rs ++ optL wo) <;> simp [restrict, Hp.get, hm, this]
 ·cases hg : (restrict (f i).h (rs ++ optL wo)).get id with
  | none => rfl
  | some ob =>
   obtain ⟨hm, he⟩ := hget id (by rw [hg]; simp)
   rw [he] at hg
   have h1 := hlt id (by rw [hg]; simp)
   have := (hp.reg ad l hr).own hne id e hρ
   rw [hst id _ hρ h1 hm, hg] at this
   cases this
 ·rintro b (hb | ⟨id, e, hm, hρ, hl⟩)
  ·exact v.far b hb
  ·have h1 := hlt id hl
   cases hg : (f i).h.get id with
   | none => exact absurd hg hl
   | some ob =>
    rw [← hst id _ hρ h1 hm] at hg
    exact (hp.obj id b e ob hρ hg).1
theorem Inv.hp_part (hf : Free ρ0 (f 0).h.next (f n).h.next) {rs : List Nat} {wo : Option Nat} (hfp : fp i = .app rs wo) {h1R : Hp} (po : PartOut wo (f i).h (f (i + 1)).h (restrict (f i).h (rs ++ optL wo)) h1R)
    {ρ' : Ren} {w' : World} (st : Step (PartD f ρ w i (rs ++ optL wo)) ρ (restrict (f i).h (rs ++ optL wo)) w ρ' h1R w') : ∃ m, HPm D f n (fun j => S j ∨ j = i) ρ' w' m := by
 have hi := d.op_lt ho
 obtain ⟨hpart, hDD⟩ := v.part d hcl ho hiS hed hfp
 obtain ⟨m, hp⟩ := v.hp
 have hlk : ∀ id, memN id (rs ++ optL wo) = true → Lk fp i id := fun id hmem => .inr (.inr (.inr ⟨rs, wo, hfp, (memN_iff id _).1 hmem⟩))
 have hst : ∀ id x, ρ id = some x → id < (f i).h.next → memN id (rs ++ optL wo) = true → (f (m id)).h.get id = (f i).h.get id := fun id x hx hid hmem =>
  Inv.stage d ho hiS hp hx (.inl hid) fun j hj hm hne => v.sync_lk d hcl ho hiS hed (hlk id hmem) hj hm hne
 have hlt : ∀ id, (f i).h.get id ≠ none → id < (f i).h.next := fun id hl => by
  rcases Nat.lt_or_ge id (f i).h.next with h | h
  ·exact h
  ·exact absurd (d.born i (by omega) id h) hl
 have hnx := po.le
 have hnR : h1R.next = (f (i + 1)).h.next := po.next
 have hstay : ∀ id, (id < (f i).h.next ∨ (f (i + 1)).h.next ≤ id) → ρ' id = ρ id := fun id hid => st.dom id (by
  rcases hid with h | h
  ·exact .inl h
  ·exact .inr (by omega))
 let q : Nat → Bool := fun id => (memN id (rs ++ optL wo) && Nat.blt id (f i).h.next) || (Nat.ble (f i).h.next id && Nat.blt id (f (i + 1)).h.next)
 have hq : ∀ id, q id = true ↔ (memN id (rs ++ optL wo) = true ∧ id < (f i).h.next) ∨ ((f i).h.next ≤ id ∧ id < (f (i + 1)).h.next) := fun id => by
  simp only [q, Bool.or_eq_true, Bool.and_eq_true, Nat.blt_eq, Nat.ble_eq]
 have hnq : ∀ id, q id = false → (id < (f i).h.next ∧ memN id (rs ++ optL wo) = false) ∨ (f (i + 1)).h.next ≤ id := fun id h => by
  have h' : ¬ q id = true := by rw [h]; simp
  rw [hq] at h'
  rcases Nat.lt_or_ge id (f i).h.next with h1 | h1
  ·left
   refine ⟨h1, ?_⟩
   cases hm : memN id (rs ++ optL wo) with
   | false => rfl
   | true => exact absurd (.inl ⟨hm, h1⟩) h'
  ·right
   rcases Nat.lt_or_ge id (f (i + 1)).h.next with h2 | h2
   ·exact absurd (.inr ⟨h1, h2⟩) h'
   ·exact h2
 have hnqρ : ∀ id, q id = false → ρ' id = ρ id := fun id h => hstay id (by
  rcases hnq id h with h1 | h1
  ·exact .inl h1.1
  ·exact .inr h1)
 have hgetq : ∀ id, q id = true → h1R.get id = (f (i + 1)).h.get id := fun id h => by
  rcases (hq id).1 h with ⟨h1, h2⟩ | ⟨h1, h2⟩
  ·by_cases e : wo = some id
   ·exact po.same id (.inl e)
   ·obtain ⟨h3, h4⟩ := po.rest id h2 e
    rw [h3, h4]
    simp [restrict, Hp.get, h1]
  ·exact po.same id (.inr h1)
 have hearly : ∀ id b e, ρ id = some (b, e) → q id = false → (f (m id)).h.get id ≠ none → ¬ PartD f ρ w i (rs ++ optL wo) b := fun id b e hρ hid hl => by
  rintro (hb | ⟨id2, e2, hm2, hρ2, hl2⟩)
  ·cases hg : (f (m id)).h.get id with
   | none => exact absurd hg hl
   | some ob =>
    obtain ⟨_, o', h2, _⟩ := hp.obj id b e ob hρ hg
    have := (Array.getElem?_eq_some_iff.1 h2).1
    omega
  ·have h2 := hlt id2 hl2
   rw [← hst id2 _ hρ2 h2 hm2] at hl2
   have := hp.inj id id2 b e e2 hρ hρ2 hl hl2
   subst this
   rcases hnq id hid with h3 | h3
   ·rw [h3.2] at hm2; cases hm2
   ·omega
 have hobj : ∀ id b e ob, ρ' id = some (b, e) → (f (cond (q id) (i + 1) (m id))).h.get id = some ob → D b ∧ ∃ o', w'.heap[b]? = some o' ∧ ob.rel ρ' e o' := fun id b e ob hρ hg => by
  cases hqi : q id with
  | true =>
   simp only [hqi, cond_true] at hg
   rw [← hgetq id hqi] at hg
   obtain ⟨h2, o', h3, h4⟩ := st.hr.obj id b e ob hρ hg
   exact ⟨hDD b h2, o', h3, h4⟩
  | false =>
   simp only [hqi, cond_false] at hg
   rw [hnqρ id hqi] at hρ
   obtain ⟨h2, o', h3, h4⟩ := hp.obj id b e ob hρ hg
   refine ⟨h2, o', ?_, AO.rel_mono st.le h4⟩
   rw [st.fr.block b (Array.getElem?_eq_some_iff.1 h3).1 (hearly id b e hρ hqi (by simp [hg]))]
   exact h3
 refine ⟨fun id => cond (q id) (i + 1) (m id), fun id => ?_, fun id j hρ hj hm => ?_, fun id x hx => ?_, hobj, fun x y b e e' hx hy hlx hly => ?_, fun ad l hr => ⟨(st.hr.reg ad l hr).cell, fun hne id c hρ => ?_, (st.hr.reg ad l hr).pur⟩⟩
 ·cases hqi : q id
  ·simpa [hqi] using hp.mle id
  ·simp [hqi]; omega
 ·cases hqi : q id with
  | true =>
   simp only [cond_true]
   rcases (hq id).1 hqi with ⟨h1, h2⟩ | ⟨h1, h2⟩
   ·by_cases hji : j = i
    ·subst hji
     constructor
     ·intro _; exact .inr rfl
     ·intro _; omega
    ·have := v.sync_lk d hcl ho hiS hed (hlk id h1) hj hm hji
     constructor
     ·intro h; exact .inl (this.1 (by omega))
     ·rintro (h | h)
      ·have := this.2 h; omega
      ·exact absurd h hji
   ·exact v.no_new hcl d ho hiS hed hf hj hm h1 h2
  | false =>
   simp only [cond_false]
   have hρ2 : ρ id ≠ none := by rw [← hnqρ id hqi]; exact hρ
   rw [hp.mod id j hρ2 hj hm]
   constructor
   ·intro h; exact .inl h
   ·rintro (h | h)
    ·exact h
    ·subst h
     exfalso
     rcases hnq id hqi with h1 | h1
     ·rcases d.mo hcl hj hm with e | e | ⟨rs', e⟩ <;> rw [hfp] at e
      ·cases e
      ·cases e
      ·injection e with e1 e2
       have : memN id (rs ++ optL wo) = true := (memN_iff id _).2 (List.mem_append.2 (.inr (by rw [e2]; simp [optL])))
       rw [h1.2] at this
       cases this
     ·have := hm.1
      omega
 ·cases hqi : q id with
  | true =>
   simp only [cond_true]
   left
   rcases (hq id).1 hqi with ⟨h1, h2⟩ | ⟨h1, h2⟩ <;> omega
  | false =>
   simp only [cond_false]
   rw [hnqρ id hqi] at hx
   exact hp.inn id x hx
 ·have hlo : ∀ z e, ρ' z = some (b, e) → q z = true → (f (i + 1)).h.get z ≠ none → PartD f ρ w i (rs ++ optL wo) b := fun z e hz hqz hl => by
    cases hg : (f (i + 1)).h.get z with
    | none => exact absurd hg hl
    | some ob => exact (st.hr.obj z b e ob hz (by rw [hgetq z hqz]; exact hg)).1
  cases ex : q x with
  | true =>
   simp only [ex, cond_true] at hlx
   cases ey : q y with
   | true =>
    simp only [ey, cond_true] at hly
    exact st.hr.inj x y b e e' hx hy (by rw [hgetq x ex]; exact hlx) (by rw [hgetq y ey]; exact hly)
   | false =>
    simp only [ey, cond_false] at hly
    rw [hnqρ y ey] at hy
    exact absurd (hlo x e hx ex hlx) (hearly y b e' hy ey hly)
  | false =>
   simp only [ex, cond_false] at hlx
   rw [hnqρ x ex] at hx
   cases ey : q y with
   | true =>
    simp only [ey, cond_true] at hly
    exact absurd (hlo y e' hy ey hly) (hearly x b e hx ex hlx)
   | false =>
    simp only [ey, cond_false] at hly
    rw [hnqρ y ey] at hy
    exact hp.inj x y b e e' hx hy hlx hly
 ·cases hg : (f (cond (q id) (i + 1) (m id))).h.get id with
  | none => rfl
  | some ob =>
   exfalso
   obtain ⟨_, o', h2, h3⟩ := hobj id _ c ob hρ hg
   cases e : q id with
   | true =>
    simp only [e, cond_true] at hg
    have := (st.hr.reg ad l hr).own hne id c hρ
    rw [hgetq id e, hg] at this
    cases this
   | false =>
    simp only [e, cond_false] at hg
    rw [hnqρ id e] at hρ
    rcases st.nreg ad l hr with h | h | h
    ·have := (hp.reg ad l h).own hne id c hρ
     rw [hg] at this
     cases this
    ·exact h.cell (st.hr.reg ad l hr).cell h2 h3
    ·obtain ⟨_, o2, h4, _⟩ := hp.obj id _ c ob hρ hg
     have := (Array.getElem?_eq_some_iff.1 h4).1
     omega
end
end Go.Iv
end
section
set_option linter.unusedVariables false
set_option linter.unusedSimpArgs false
namespace Go.Iv
open Go
theorem fr_mono {D D' : Nat → Prop} {w w' : World} (h : Fr D' w w') (k : ∀ b, b < w.heap.size → D' b → D b) : Fr D w w' :=
 ⟨h.os, h.tape, h.output, h.size, fun b hb hd => h.block b hb fun e => hd (k b hb e)⟩
theorem put_lt {s s' : St} {dst : Option Tmp} {v : AV} {h : Hp} (k : s.put dst v h = some s') : ∀ t, dst = some t → t < s.n := fun t ht => by
 subst ht
 exact put_dst k
theorem exec {P : Program} {T : Tab} (hT : T.Ok P) {call : CallF} (hc : CallOk P call) (hcl : CallLe call) {ops : Array Oper} {bf : List Nat} {f : Nat → St} {fp : Nat → Fp} {n : Nat} (d : DCtx call T ops bf f fp n)
    {D : Nat → Prop} {ρ0 ρ : Ren} {w0 w : World} {S : Nat → Prop} {a : Act} (v : Inv D ops f n ρ0 w0 S ρ a w) (hf : Free ρ0 (f 0).h.next (f n).h.next) {i : Nat} {o : Oper} (ho : ops[i]? = some o) (hiS : ¬ S i)
    (hed : ∀ e ∈ o.after, Region.binds .any e = true → S e.on) {Q : Exit → Act → World → Prop} {K : Act → World → Prop} (hK : ∀ ρ' a' w', Inv D ops f n ρ0 w0 (fun j => S j ∨ j = i) ρ' a' w' → K a' w') : wpOp P ops Q i K a w := by
 have hi := d.op_lt ho
 obtain ⟨hsn, hsd⟩ := d.stay i (by omega)
 unfold wpOp
 simp only [ho]
 have hwant : Region.wanted o (yielded ops a.tmps) = (f i).wanted ops.toList o := wanted_rel (ρ := ρ) fun j want hg oj dd hj hd => by
  refine v.look d ho hiS hed ?_
  unfold Oper.looksAt
  rw [hg]
  simp only [List.mem_append]
  right
  simp [hj, hd]
 rw [hwant]
 obtain ⟨o', ho', htr⟩ := d.tr i hi
 rw [ho] at ho'
 injection ho' with ho'
 subst ho'
 unfold drawOp at htr
 cases hw : (f i).wanted ops.toList o with
 | false =>
  simp only [hw, cond_false] at htr
  rw [if_neg (by simp)]
  split at htr
  ·rename_i s1 hp
   simp only [Option.some.injEq, Prod.mk.injEq] at htr
   obtain ⟨rfl, hfp⟩ := htr
   refine hK ρ _ w (v.next d ho hiS hed (u := .tuple []) ?_ (Ren.le.refl _) (rel_undef ρ) (fun id x hx => .inl hx) (Fr.refl _ _) (fun _ _ h => .inl h) (put_slot hp) (fun t ht => by rw [← hsn]; exact put_lt hp t ht))
   refine v.hp_same ho hiS ?_ (fun _ _ => rfl)
   intro id hm
   have := hm.2
   rw [(St.put_h hp).1] at this
   exact this rfl
  ·cases htr
 | true =>
  simp only [hw, cond_true] at htr
  rw [if_pos rfl]
  refine .inl ?_
  unfold Oper.wp
  let e' : Operand → AV := fun x => match x with
   | .tmp t => if t ∈ o.looksAt ops then (f i).slot t else .tuple []
   | x => (f i).ev x
  let ev' : Operand → Value := fun x => match x with
   | .tmp t => if t ∈ o.looksAt ops then a.tmps.getD t undef else undef
   | x => a.eval x
  have hrel : ∀ x, (e' x).rel ρ (ev' x) := fun x => by
   cases x with
   | tmp t =>
    show AV.rel ρ (if t ∈ o.looksAt ops then (f i).slot t else .tuple []) (if t ∈ o.looksAt ops then a.tmps.getD t undef else undef)
    by_cases ht : t ∈ o.looksAt ops
    ·rw [if_pos ht, if_pos ht]
     exact v.look d ho hiS hed ht
    ·rw [if_neg ht, if_neg ht]
     exact rel_undef ρ
   | const u => exact rel_toAV ρ u
   | global g =>
    show AV.rel ρ (.flat _) _
    simp only [AV.rel, ev', Act.eval]
   | func g =>
    show AV.rel ρ (.func (.func g) [] []) _
    simp only [AV.rel, ev', Act.eval]
    exact ⟨[], [], rfl, by simp [AV.relL], by simp [AV.relL]⟩
  have hmem : ∀ t, Operand.tmp t ∈ o.op.operands → t ∈ o.looksAt ops := fun t ht => by
   unfold Oper.looksAt
   rw [List.mem_append]
   left
   rw [List.mem_filterMap]
   exact ⟨.tmp t, by simpa using ht, rfl⟩
  have hop : ∀ x ∈ o.op.operands, (f i).ev x = e' x := fun x hx => by
   cases x with
   | tmp t =>
    show (f i).slot t = if t ∈ o.looksAt ops then (f i).slot t else .tuple []
    rw [if_pos (hmem t hx)]
   | _ => rfl
  have hop' : ∀ x ∈ o.op.operands, a.eval x = ev' x := fun x hx => by
   cases x with
   | tmp t =>
    show a.tmps.getD t undef = if t ∈ o.looksAt ops then a.tmps.getD t undef else undef
    rw [if_pos (hmem t hx)]
   | _ => rfl
  rw [show evOp T (f i).ev (f i).h o = evOp T e' (f i).h o from evOp_congr hop] at htr
  have hfpe : fpOf o (f i).ev = fpOf o e' := fpOf_congr hop
  have hns : ∀ cs b, o.op ≠ .select cs b := fun cs b e => by
   have : evOp T e' (f i).h o = none := by unfold evOp; rw [e]
   rw [this] at htr
   simp at htr
  rw [execOp_congr o hns hop']
  split at htr
  ·-- a value
   rename_i u h1 hopv
   split at htr
   ·rename_i s1 hp
    simp only [Option.some.injEq, Prod.mk.injEq] at htr
    obtain ⟨hs1, hfp⟩ := htr
    have hh := (St.put_h hp).1
    rw [hs1] at hh
    have hslot : ∀ t, (f (i + 1)).slot t = if o.dst = some t then u else (f i).slot t := by rw [← hs1]; exact put_slot hp
    have hblt : ∀ t, o.dst = some t → t < (f 0).n := fun t ht => by rw [← hsn]; exact put_lt hp t ht
    rw [hfpe] at hfp
    cases hfo : fpOf o e' with
    | none =>
     obtain ⟨hE, hopE, hal⟩ := evOp_bare hfo hopv
     have hrE : HR (fun b => w.heap.size ≤ b) ρ (f i).h.bare w :=
      ⟨fun id b c ob _ hg => by simp [Hp.get, Hp.bare] at hg, fun x y b c c' _ _ hl => by simp [Hp.get, Hp.bare] at hl, fun id _ => by simp [Hp.get, Hp.bare], fun b hb => hb,
       fun ad l hr => ⟨by obtain ⟨m, hpm⟩ := v.hp; exact (hpm.reg ad l hr).cell, fun _ id _ _ => by simp [Hp.get, Hp.bare], by obtain ⟨m, hpm⟩ := v.hp; exact (hpm.reg ad l hr).pur⟩⟩
     have hfree := v.free d ho hiS hf
     have hnx : hE.next = (f (i + 1)).h.next := by rw [hh]; exact hal.get.2.1.symm
     obtain ⟨ρ', u', w', g1, g2, g3⟩ := evOp_sound hT hrE hrel hopE (by rw [hnx]; exact hfree)
     rw [g1]
     rw [← hh] at hal
     refine hK ρ' _ w' (v.next d ho hiS hed (v.hp_alloc hcl d ho hiS hed hf ?_ hal g2) g2.le g3 ?_ (fr_mono g2.fr fun b hb hb2 => absurd hb2 (by omega)) g2.nreg hslot hblt)
     ·intro id hm
      exact hm.2 (hal.get.1 id hm.1)
     ·intro id x hx
      rcases Nat.lt_or_ge id (f i).h.next with h | h
      ·rw [g2.dom id (.inl h)] at hx; exact .inl hx
      ·rcases Nat.lt_or_ge id (f (i + 1)).h.next with h2 | h2
       ·exact .inr ⟨h, h2⟩
       ·rw [g2.dom id (.inr (by omega))] at hx; exact .inl hx
    | rd b =>
     obtain ⟨rfl, t, ad, off, hop2, hea, hld⟩ := evOp_rd hfo hopv
     rw [hfo] at hfp
     obtain ⟨m, hpm⟩ := v.hp
     have hcell : CellsAt ρ (f i).h w b := fun b' n' l e x hg hρ => by
      have hl : b < (f i).h.next := by
       rcases Nat.lt_or_ge b (f i).h.next with h | h
       ·exact h
       ·rw [d.born i (by omega) b h] at hg; cases hg
      have hst := Inv.stage d ho hiS hpm hρ (.inl hl) fun j hj hm hne => v.sync_lk d hcl ho hiS hed (.inl hfp.symm) hj hm hne
      rw [← hst] at hg
      obtain ⟨_, o', h1, p, q, rfl, h3, h4, h5⟩ := hpm.obj b b' n' _ hρ hg
      exact ⟨p, q, h1, h3, h4, h5⟩
     obtain ⟨y, hy1, hy2⟩ := evLoad_at (P := P) (w := w) hT (fun b2 o2 hb2 => by rw [hea] at hb2; injection hb2 with hb2; subst hb2; exact hcell) (fun l o hb2 => by rw [hea] at hb2; cases hb2) (hrel ad) hld
     have hrun : (execOp ev' o).run P w = .ok (.value y) w := by
      unfold execOp
      rw [hop2]
      simp [hy1]
     rw [hrun]
     refine hK ρ _ w (v.next d ho hiS hed (v.hp_same ho hiS ?_ (fun _ _ => rfl)) (Ren.le.refl _) hy2 (fun id x hx => .inl hx) (Fr.refl _ _) (fun _ _ h => .inl h) hslot hblt)
     intro id hm
     exact hm.2 (by rw [hh])
    | wr b => exact (evOp_wr hfo hopv).elim
    | call c =>
     rw [hfo] at hfp
     obtain ⟨hfull, hDD⟩ := v.full d hcl ho hiS hed hfp.symm (h := (f i).h) (fun _ => rfl) rfl
     have hfree := v.free d ho hiS hf
     obtain ⟨ρ', u', w', g1, g2, g3⟩ := evOp_sound hT hfull hrel hopv (by rw [← hh]; exact hfree)
     rw [g1]
     refine hK ρ' _ w' (v.next d ho hiS hed (v.hp_full d hcl ho hiS hed hf hfp.symm (fun _ => rfl) rfl (fun id => by rw [hh]) (by rw [hh]) g2) g2.le g3 ?_ (fr_mono g2.fr fun b hb hb2 => hDD b hb2) g2.nreg hslot hblt)
     intro id x hx
     rcases Nat.lt_or_ge id (f i).h.next with h | h
     ·rw [g2.dom id (.inl h)] at hx; exact .inl hx
     ·rcases Nat.lt_or_ge id (f (i + 1)).h.next with h2 | h2
      ·exact .inr ⟨h, h2⟩
      ·rw [g2.dom id (.inr (by rw [← hh]; exact h2))] at hx; exact .inl hx
    | app rs wo =>
     rw [hfo] at hfp
     obtain ⟨hwo, hap⟩ := evOp_app hfo hopv
     obtain ⟨h1R, hopR, po⟩ := hap _ (restrict_in d (rs := rs) (wo := wo) (by omega))
     obtain ⟨hpart, hDD⟩ := v.part d hcl ho hiS hed hfp.symm
     have hfree := v.free d ho hiS hf
     rw [← hh] at po
     obtain ⟨ρ', u', w', g1, g2, g3⟩ := evOp_sound hT hpart hrel hopR (by rw [po.next]; exact hfree)
     rw [g1]
     refine hK ρ' _ w' (v.next d ho hiS hed (v.hp_part d hcl ho hiS hed hf hfp.symm po g2) g2.le g3 ?_ (fr_mono g2.fr fun b hb hb2 => hDD b hb2) g2.nreg hslot hblt)
     intro id x hx
     rcases Nat.lt_or_ge id (f i).h.next with h | h
     ·rw [g2.dom id (.inl h)] at hx; exact .inl hx
     ·rcases Nat.lt_or_ge id (f (i + 1)).h.next with h2 | h2
      ·exact .inr ⟨h, h2⟩
      ·rw [g2.dom id (.inr (by rw [po.next]; exact h2))] at hx; exact .inl hx
   ·cases htr
  ·-- a store
   rename_i h1 hopv
   split at htr
   ·rename_i s1 hp
    simp only [Option.some.injEq, Prod.mk.injEq] at htr
    obtain ⟨hs1, hfp⟩ := htr
    have hh := (St.put_h hp).1
    rw [hs1] at hh
    have hslot : ∀ t, (f (i + 1)).slot t = if o.dst = some t then .tuple [] else (f i).slot t := by rw [← hs1]; exact put_slot hp
    have hblt : ∀ t, o.dst = some t → t < (f 0).n := fun t ht => by rw [← hsn]; exact put_lt hp t ht
    rw [hfpe] at hfp
    obtain ⟨t, ad, x, b, off, hop2, hea, hst, hfo⟩ := evOp_skip hopv
    rw [hfo] at hfp
    obtain ⟨m, hpm⟩ := v.hp
    have hcell : CellsAt ρ (f i).h w b := fun b' n' l e x hg hρ => by
     have hl : b < (f i).h.next := by
      rcases Nat.lt_or_ge b (f i).h.next with h | h
      ·exact h
      ·rw [d.born i (by omega) b h] at hg; cases hg
     have hst := Inv.stage d ho hiS hpm hρ (.inl hl) fun j hj hm hne => v.sync_lk d hcl ho hiS hed (.inr (.inl hfp.symm)) hj hm hne
     rw [← hst] at hg
     obtain ⟨_, o', h1, p, q, rfl, h3, h4, h5⟩ := hpm.obj b b' n' _ hρ hg
     exact ⟨p, q, h1, h3, h4, h5⟩
    obtain ⟨b', c', w', ob, ob', hρ, hrun, q1, q2, q3, q4, q5, q6, q7, q8, q9⟩ := evStore_at (P := P) (w := w) hT hea hcell (hrel ad) (hrel x) hst
    have hrun' : (execOp ev' o).run P w = .ok .skip w' := by
     unfold execOp
     rw [hop2]
     simp [hrun]
    rw [hrun']
    rw [← hh] at q7
    have hDb : D b' := by
     have hl : b < (f i).h.next := (Hp.put_get q7).1
     have hst2 := Inv.stage d ho hiS hpm hρ (.inl hl) fun j hj hm hne => v.sync_lk d hcl ho hiS hed (.inr (.inl hfp.symm)) hj hm hne
     cases hg : (f i).h.get b with
     | none => exact absurd hg q6
     | some o2 =>
      rw [← hst2] at hg
      exact (hpm.obj b b' c' o2 hρ hg).1
    refine hK ρ _ w' (v.next d ho hiS hed (v.hp_store d hcl ho hiS hed hfp.symm q7 q6 hρ q8 q9 q5) (Ren.le.refl _) (rel_undef ρ) (fun id x hx => .inl hx) ⟨q1, q2, q3, by omega, fun b2 hb2 hd2 => q5 b2 fun e => hd2 (by rw [e]; exact hDb)⟩ (fun _ _ h => .inl h) hslot hblt)
   ·cases htr
  ·-- a call
   rename_i g args hopv
   obtain ⟨hopE, _⟩ := evOp_enter hopv (f i).h.bare
   have hrE : HR (fun b => w.heap.size ≤ b) ρ (f i).h.bare w :=
    ⟨fun id b c ob _ hg => by simp [Hp.get, Hp.bare] at hg, fun x y b c c' _ _ hl => by simp [Hp.get, Hp.bare] at hl, fun id _ => by simp [Hp.get, Hp.bare], fun b hb => hb,
          fun ad l hr => ⟨by obtain ⟨m, hpm⟩ := v.hp; exact (hpm.reg ad l hr).cell, fun _ id _ _ => by simp [Hp.get, Hp.bare], by obtain ⟨m, hpm⟩ := v.hp; exact (hpm.reg ad l hr).pur⟩⟩
   obtain ⟨args', g1, g2⟩ := evOp_sound hT hrE hrel hopE
   rw [g1]
   simp only [Oper.upon]
   split at htr
   ·rename_i u h1 hcall
    split at htr
    ·rename_i s1 hp
     simp only [Option.some.injEq, Prod.mk.injEq] at htr
     obtain ⟨hs1, hfp⟩ := htr
     have hh := (St.put_h hp).1
     rw [hs1] at hh
     have hslot : ∀ t, (f (i + 1)).slot t = if o.dst = some t then u else (f i).slot t := by rw [← hs1]; exact put_slot hp
     have hblt : ∀ t, o.dst = some t → t < (f 0).n := fun t ht => by rw [← hsn]; exact put_lt hp t ht
     have hget1 : ∀ id, (f (i + 1)).h.get id = h1.get id := fun id => by rw [hh]; rfl
     have hnx1 : (f (i + 1)).h.next = h1.next := by rw [hh]
     obtain ⟨hfull, hDD⟩ := v.full d hcl ho hiS hed hfp.symm (h := ⟨(f i).h.next, (f i).h.next, (f i).h.m⟩) (fun _ => rfl) rfl
     have hfree := v.free d ho hiS hf
     refine (hc _ _ _ _ _ hcall _ ρ w args' hfull (by rw [← hnx1]; exact hfree) g2).mono ?_
     rintro e2 w' ⟨ρ', st, u', rfl, hu⟩
     refine hK ρ' _ w' (v.next d ho hiS hed (v.hp_full d hcl ho hiS hed hf hfp.symm (h := ⟨(f i).h.next, (f i).h.next, (f i).h.m⟩) (fun _ => rfl) rfl hget1 hnx1 st) st.le hu ?_ (fr_mono st.fr fun b hb hb2 => hDD b hb2) st.nreg hslot hblt)
     intro id x hx
     rcases Nat.lt_or_ge id (f i).h.next with h | h
     ·rw [st.dom id (.inl h)] at hx; exact .inl hx
     ·rcases Nat.lt_or_ge id (f (i + 1)).h.next with h2 | h2
      ·exact .inr ⟨h, h2⟩
      ·rw [st.dom id (.inr (by rw [← hnx1]; exact h2))] at hx; exact .inl hx
    ·cases htr
   ·cases htr
  ·cases htr
def cntU : Nat → (Nat → Bool) → Nat
 | 0, _ => 0
 | k + 1, p => cntU k p + cond (p k) 1 0
theorem cntU_set : ∀ (k : Nat) (p q : Nat → Bool) (i : Nat), i < k → p i = true → q i = false → (∀ j, j ≠ i → q j = p j) → cntU k q + 1 = cntU k p
 | 0, p, q, i, h, _, _, _ => by omega
 | k + 1, p, q, i, h, h1, h2, h3 => by
  simp only [cntU]
  by_cases e : i = k
  ·subst e
   have : ∀ m, m ≤ i → cntU m q = cntU m p := by
    intro m hm
    induction m with
    | zero => rfl
    | succ m ih => simp only [cntU]; rw [ih (by omega), h3 m (by omega)]
   rw [this i (Nat.le_refl _), h1, h2]
   rfl
  ·have := cntU_set k p q i (by omega) h1 h2 h3
   rw [h3 k (fun h => e h.symm)]
   omega
theorem cntU_zero : ∀ (k : Nat) (p : Nat → Bool), cntU k p = 0 → ∀ j, j < k → p j = false
 | 0, p, h, j, hj => by omega
 | k + 1, p, h, j, hj => by
  simp only [cntU] at h
  by_cases e : j = k
  ·subst e
   cases hp : p j with
   | false => rfl
   | true => rw [hp] at h; simp at h
  ·exact cntU_zero k p (by omega) j (by omega)
theorem cntU_le : ∀ (k : Nat) (p : Nat → Bool), cntU k p ≤ k
 | 0, p => Nat.le_refl _
 | k + 1, p => by
  simp only [cntU]
  have := cntU_le k p
  cases p k <;> simp <;> omega
theorem draw_any {P : Program} {T : Tab} (hT : T.Ok P) {call : CallF} (hc : CallOk P call) (hcl : CallLe call) {ops : Array Oper} {bf : List Nat} {f : Nat → St} {fp : Nat → Fp} (d : DCtx call T ops bf f fp ops.size)
    {D : Nat → Prop} {ρ0 : Ren} {w0 : World} (hf : Free ρ0 (f 0).h.next (f ops.size).h.next) (hborn : ∀ id, (f 0).h.next ≤ id → (f 0).h.get id = none) {Q : Exit → Act → World → Prop}
    (hQ : ∀ ρ' a' w', Step D ρ0 (f 0).h w0 ρ' (f ops.size).h w' → SRel D ρ' (f ops.size) a' w' → Q .normal a' w') : ∀ (fuel : Nat) (listed : Array Bool) (ρ : Ren) (a : Act) (w : World),
     listed.size = ops.size → cntU ops.size (fun j => !listed.getD j false) ≤ fuel → Inv D ops f ops.size ρ0 w0 (fun j => listed.getD j false = true) ρ a w → wpAny P .any ops Q fuel listed a w := by
 have hend : ∀ (listed : Array Bool) (ρ : Ren) (a : Act) (w : World), (∀ j, j < ops.size → listed.getD j false = true) → Inv D ops f ops.size ρ0 w0 (fun j => listed.getD j false = true) ρ a w → Q .normal a w := by
  intro listed ρ a w hall v
  obtain ⟨m, hp⟩ := v.hp
  have hst : ∀ id x, ρ id = some x → (f ops.size).h.get id = (f (m id)).h.get id := fun id x hx => by
   refine d.same_get (m id) ops.size (hp.mle id) (Nat.le_refl _) (hp.inn id x hx) fun j h1 h2 hm => ?_
   have := (hp.mod id j (by simp [hx]) h2 hm).2 (hall j h2)
   omega
  have hr : HR D ρ (f ops.size).h w := ⟨fun id b c o hρ hg => by rw [hst id _ hρ] at hg; exact hp.obj id b c o hρ hg, fun x y b c c' hx hy hlx hly => by
   rw [hst x _ hx] at hlx
   rw [hst y _ hy] at hly
   exact hp.inj x y b c c' hx hy hlx hly, d.born ops.size (Nat.le_refl _), v.far, fun ad l hr => ⟨(hp.reg ad l hr).cell, fun hne id c hρ => by rw [hst id _ hρ]; exact (hp.reg ad l hr).own hne id c hρ, (hp.reg ad l hr).pur⟩⟩
  obtain ⟨hn, hds⟩ := d.stay ops.size (Nat.le_refl _)
  refine hQ ρ a w ⟨hr, v.le, v.fr, d.next_mono 0 ops.size (by omega) (Nat.le_refl _), v.ext, v.nreg⟩ ⟨fun t => ?_, by rw [v.tsz, hn], hr, by rw [hds]; exact v.ds⟩
  obtain ⟨mt, hmt, hs, hrel⟩ := v.tm t
  rw [d.same_slot mt ops.size hmt (Nat.le_refl _) fun j oj h1 h2 hoj hdj => ?_]
  ·exact hrel
  ·have := (hs j oj hoj hdj).2 (hall j h2)
   omega
 have hready : ∀ (listed : Array Bool), listed.size = ops.size → Region.ready .any ops listed = [] → ∀ j, j < ops.size → listed.getD j false = true := by
  intro listed hsz hr j
  induction j using Nat.strongRecOn with
  | _ j ih =>
   intro hj
   cases hl : listed.getD j false with
   | true => rfl
   | false =>
    exfalso
    obtain ⟨o, ho⟩ : ∃ o, ops[j]? = some o := ⟨_, Array.getElem?_eq_getElem hj⟩
    have : j ∈ Region.ready .any ops listed := by
     rw [mem_ready]
     refine ⟨?_, o, ho, fun e he hb => ih e.on (d.b4 j o ho e he hb) (by have := d.b4 j o ho e he hb; omega)⟩
     rw [Array.getD_eq_getD_getElem?, Array.getElem?_eq_getElem (by omega)] at hl ⊢
     simpa using hl
    rw [hr] at this
    cases this
 intro fuel
 induction fuel with
 | zero =>
  intro listed ρ a w hsz hcnt v
  have hz := cntU_zero ops.size _ (Nat.le_zero.1 hcnt)
  have hall : ∀ j, j < ops.size → listed.getD j false = true := fun j hj => by simpa using hz j hj
  refine ⟨?_, hend listed ρ a w hall v⟩
  cases hr : Region.ready .any ops listed with
  | nil => rfl
  | cons i l =>
   exfalso
   have hi : i ∈ Region.ready .any ops listed := by rw [hr]; simp
   obtain ⟨h1, o, ho, _⟩ := mem_ready.1 hi
   have hlt : i < ops.size := (Array.getElem?_eq_some_iff.1 ho).1
   have h2 := hall i hlt
   rw [Array.getD_eq_getD_getElem?, Array.getElem?_eq_getElem (by omega)] at h1 h2
   simp at h1 h2
   rw [h1] at h2
   cases h2
 | succ fuel ih =>
  intro listed ρ a w hsz hcnt v
  refine ⟨fun hr => hend listed ρ a w (hready listed hsz hr) v, fun i hi => ?_⟩
  obtain ⟨h1, o, ho, hed⟩ := mem_ready.1 hi
  have hlt : i < ops.size := (Array.getElem?_eq_some_iff.1 ho).1
  have hf1 : listed.getD i false = false := by
   rw [Array.getD_eq_getD_getElem?, Array.getElem?_eq_getElem (by omega)] at h1 ⊢
   simpa using h1
  refine exec hT hc hcl d v hf ho (by rw [hf1]; simp) hed fun ρ' a' w' v' => ?_
  have hset : ∀ j, (listed.setIfInBounds i true).getD j false = true ↔ (listed.getD j false = true ∨ j = i) := fun j => by
   by_cases e : j = i
   ·subst e
    have : j < listed.size := by omega
    simp [this]
   ·rw [getD_set_ne false (fun h => e h.symm)]
    simp [e]
  refine ih (listed.setIfInBounds i true) ρ' a' w' (by simpa using hsz) ?_ ?_
  ·have := cntU_set ops.size (fun j => !listed.getD j false) (fun j => !(listed.setIfInBounds i true).getD j false) i hlt (by simp [hf1]) (by have := (hset i).2 (.inr rfl); simp [this]) (fun j hj => by rw [getD_set_ne false (fun h => hj h.symm)])
   omega
  ·have : (fun j => (listed.setIfInBounds i true).getD j false = true) = fun j => listed.getD j false = true ∨ j = i := funext fun j => propext (hset j)
   rw [this]
   exact v'
theorem draw_ok {P : Program} {T : Tab} (hT : T.Ok P) (hm : P.follows .mixedOrders = true) (call : CallF) (hc : CallOk P call) (hcl : CallLe call) : DrawOk P call T := by
 intro id bf ops s e s' hreg hev D ρ a w Q sr fr dn
 obtain ⟨f, fp, d, h0, hn, rfl⟩ := dctx_mk hcl hreg hev sr.hr.born
 subst h0 hn
 have srd : HR D ρ (f 0).h { w with drawn := w.drawn + 1 } := sr.hr.drawn _
 refine wp_region_any hm ?_
 refine draw_any hT hc hcl d (w0 := { w with drawn := w.drawn + 1 }) (ρ0 := ρ) (D := D) fr sr.hr.born (fun ρ' a' w' st sr' => dn ρ' .normal a' w' ((Step.drawn sr.hr _).trans st) sr' rfl) ops.size _ ρ a _ (by simp) ?_ ?_
 ·exact Nat.le_trans (cntU_le _ _) (Nat.le_refl _)
 ·have hno : ∀ j, (Array.replicate ops.size false).getD j false = true → False := fun j h => by
    rw [Array.getD_eq_getD_getElem?, Array.getElem?_replicate] at h
    split at h <;> simp at h
  refine ⟨fun j oj hj => (hno j hj).elim, fun j hj => (hno j hj).elim, sr.sz, fun t => ⟨0, Nat.zero_le _, fun j oj _ _ => ⟨fun h => by omega, fun h => (hno j h).elim⟩, sr.tm t⟩, sr.ds, ⟨fun _ => 0, ?_⟩, fun id x hx => .inl hx, Ren.le.refl _, Fr.refl _ _, srd.far, fun _ _ => rfl, fun _ _ h => .inl h⟩
  refine ⟨fun _ => Nat.zero_le _, fun id j _ _ _ => ⟨fun h => by omega, fun h => (hno j h).elim⟩, fun id x hx => ?_, srd.obj, srd.inj, fun ad l hr => ⟨(srd.reg ad l hr).cell, (srd.reg ad l hr).own, (srd.reg ad l hr).pur⟩⟩
  rcases Nat.lt_or_ge id (f 0).h.next with h | h
  ·exact .inl h
  ·rcases Nat.lt_or_ge id (f ops.size).h.next with h2 | h2
   ·rw [fr id h h2] at hx
    cases hx
   ·exact .inr h2
theorem closed_callA {P : Program} {T : Tab} {m : Tr (Tr (List Nat))} (k : Tables' P T m) (hm : P.follows .mixedOrders = true) {sm : CallF} (hs : CallOk P sm) (hsl : CallLe sm) (lf n f : Nat) (args : List Value) (b : Bool)
    (h : (match evCall sm T (maskOf m) lf n f (args.map .flat) Hp.empty with | some (.ret (.flat (.bool c)), _) => cond b c (!c) | _ => false) = true) (w : World) :
    Calls P f ⟨args⟩ w fun e w' => e = .returned (.bool b) ∧ RowKit.Below w.heap.size w w' :=
 closed_bool k (fun call hc hcl => draw_ok k.ok hm call hc hcl) hs hsl lf n f args b h w
theorem Step.below {D : Nat → Prop} {ρ : Ren} {h : Hp} {w w' : World} (k : HR D ρ h w) (b : RowKit.Below w.heap.size w w') : Step D ρ h w ρ h w' := by
 refine ⟨⟨fun i bl n o hρ hg => ?_, k.inj, k.born, fun x hx => k.far x (Nat.le_trans b.size hx), fun ad l hr => (k.reg ad l hr).keep (Ren.le.refl _) (fun hne => b.block _ ((k.reg ad l hr).lt hne)) (k.reg ad l hr).own⟩, Ren.le.refl _, ⟨b.os, b.tape, b.output, b.size, fun x hx _ => b.block x hx⟩, Nat.le_refl _, fun _ _ => rfl, fun _ _ h => .inl h⟩
 obtain ⟨h1, o', h2, h3⟩ := k.obj i bl n o hρ hg
 have hlt : bl < w.heap.size := (Array.getElem?_eq_some_iff.1 h2).1
 exact ⟨h1, o', by rw [b.block bl hlt]; exact h2, h3⟩
end Go.Iv
end
section
set_option linter.unusedVariables false
set_option linter.unusedSimpArgs false
namespace Go.Iv
open Go
structure GStep (Fz : Prop) (D : Nat → Prop) (ρ : Ren) (h : Hp) (w : World) (ρ' : Ren) (h' : Hp) (w' : World) : Prop where
 le : Ren.le ρ ρ'
 fr : Fr D w w'
 next : h.next ≤ h'.next
 dom : ∀ i, i < h.next ∨ h'.next ≤ i → ρ' i = ρ i
 nreg : ∀ ad l, ρ'.reg ad l → ρ.reg ad l ∨ Digits l ∨ w.heap.size ≤ ad.block ∨ (Fz ∧ D ad.block)
theorem GStep.refl (Fz : Prop) (D : Nat → Prop) (ρ : Ren) (h : Hp) (w : World) : GStep Fz D ρ h w ρ h w := ⟨Ren.le.refl _, Fr.refl _ _, Nat.le_refl _, fun _ _ => rfl, fun _ _ h => .inl h⟩
theorem GStep.trans {Fz : Prop} {D : Nat → Prop} {ρ ρ1 ρ2 : Ren} {h h1 h2 : Hp} {w w1 w2 : World} (a : GStep Fz D ρ h w ρ1 h1 w1) (b : GStep Fz D ρ1 h1 w1 ρ2 h2 w2) : GStep Fz D ρ h w ρ2 h2 w2 :=
 ⟨a.le.trans b.le, a.fr.trans b.fr, Nat.le_trans a.next b.next, fun i hi => by
  have h1 := a.next
  have h2 := b.next
  rw [b.dom i (by omega), a.dom i (by omega)], fun ad l hl => by
  rcases b.nreg ad l hl with h | h | h | h
  ·exact a.nreg ad l h
  ·exact .inr (.inl h)
  ·exact .inr (.inr (.inl (Nat.le_trans a.fr.size h)))
  ·exact .inr (.inr (.inr h))⟩
theorem Step.g {Fz : Prop} {D : Nat → Prop} {ρ ρ' : Ren} {h h' : Hp} {w w' : World} (a : Step D ρ h w ρ' h' w') : GStep Fz D ρ h w ρ' h' w' :=
 ⟨a.le, a.fr, a.next, a.dom, fun ad l hl => by
  rcases a.nreg ad l hl with h | h | h
  ·exact .inl h
  ·exact .inr (.inl h)
  ·exact .inr (.inr (.inl h))⟩
theorem GStep.step {D : Nat → Prop} {ρ ρ' : Ren} {h h' : Hp} {w w' : World} (a : GStep False D ρ h w ρ' h' w') (k : HR D ρ' h' w') : Step D ρ h w ρ' h' w' :=
 ⟨k, a.le, a.fr, a.next, a.dom, fun ad l hl => by
  rcases a.nreg ad l hl with h | h | h | h
  ·exact .inl h
  ·exact .inr (.inl h)
  ·exact .inr (.inr h)
  ·exact h.1.elim⟩
theorem GStep.mono {Fz Fz' : Prop} (i : Fz → Fz') {D : Nat → Prop} {ρ ρ' : Ren} {h h' : Hp} {w w' : World} (a : GStep Fz D ρ h w ρ' h' w') : GStep Fz' D ρ h w ρ' h' w' :=
 ⟨a.le, a.fr, a.next, a.dom, fun ad l hl => by
  rcases a.nreg ad l hl with h | h | h | h
  ·exact .inl h
  ·exact .inr (.inl h)
  ·exact .inr (.inr (.inl h))
  ·exact .inr (.inr (.inr ⟨i h.1, h.2⟩))⟩
theorem Free.gstep {Fz : Prop} {D : Nat → Prop} {ρ ρ1 : Ren} {h h1 : Hp} {w w1 : World} {n : Nat} (f : Free ρ h.next n) (a : GStep Fz D ρ h w ρ1 h1 w1) : Free ρ1 h1.next n := fun i h1' h2 => by
 rw [a.dom i (.inr h1')]
 exact f i (Nat.le_trans a.next h1') h2
def DoneG (Fz : Prop) (D : Nat → Prop) (ρ : Ren) (h : Hp) (w : World) (e : AExit) (s' : St) (R : Exit → Act → World → Prop) : Prop :=
 ∀ ρ' e' a' w', GStep Fz D ρ h w ρ' s'.h w' → SRel D ρ' s' a' w' → ExRel ρ' e e' → R e' a' w'
theorem DoneG.step {Fz : Prop} {D : Nat → Prop} {ρ ρ1 : Ren} {h h1 : Hp} {w w1 : World} {e : AExit} {s' : St} {R : Exit → Act → World → Prop} (d : DoneG Fz D ρ h w e s' R) (st : GStep Fz D ρ h w ρ1 h1 w1) : DoneG Fz D ρ1 h1 w1 e s' R :=
 fun ρ' e' a' w' st' sr er => d ρ' e' a' w' (st.trans st') sr er
theorem DoneG.done {Fz : Prop} {D : Nat → Prop} {ρ : Ren} {h : Hp} {w : World} {e : AExit} {s' : St} {R : Exit → Act → World → Prop} (d : DoneG Fz D ρ h w e s' R) : Done D ρ h w e s' R :=
 fun ρ' e' a' w' st sr er => d ρ' e' a' w' st.g sr er
structure Sem (Fz : Prop) (P : Program) (c : Code) (s : St) (e : AExit) (s' : St) : Prop where
 next : s.h.next ≤ s'.h.next
 le : ¬ Fz → Hp.Le s.h s'.h
 run : ∀ (D : Nat → Prop) (ρ : Ren) (a : Act) (w : World) (R : Exit → Act → World → Prop), SRel D ρ s a w → Free ρ s.h.next s'.h.next → DoneG Fz D ρ s.h w e s' R → c.wp P R a w
def WP (Fz : Prop) (P : Program) (c : Code) (s : St) (Q : AExit → St → Prop) : Prop := ∃ e s', Sem Fz P c s e s' ∧ Q e s'
theorem WP.mono {Fz : Prop} {P : Program} {c : Code} {s : St} {Q Q' : AExit → St → Prop} (h : WP Fz P c s Q) (i : ∀ e s', Q e s' → Q' e s') : WP Fz P c s Q' := by
 obtain ⟨e, s', h1, h2⟩ := h
 exact ⟨e, s', h1, i e s' h2⟩
def thenQ (Fz : Prop) (P : Program) (b : Code) (Q : AExit → St → Prop) : AExit → St → Prop
 | .normal, s => WP Fz P b s Q
 | e, s => Q e s
theorem exrel_ne {ρ : Ren} {e : AExit} {e' : Exit} (h : ExRel ρ e e') (hne : e ≠ .normal) : e' ≠ .normal := by
 cases e with
 | normal => exact absurd rfl hne
 | exit id => simp only [ExRel] at h; subst h; simp
 | goto id => simp only [ExRel] at h; subst h; simp
 | ret => simp only [ExRel] at h; subst h; simp
 | panic v => obtain ⟨v', rfl, _⟩ := h; simp
theorem sem_seq1 {Fz : Prop} {P : Program} {a b : Code} {s s' : St} {e : AExit} (h : Sem Fz P a s e s') (hne : e ≠ .normal) : Sem Fz P (.seq a b) s e s' :=
 ⟨h.next, h.le, fun D ρ x w R sr fr dn => wp_seq (h.run D ρ x w _ sr fr fun ρ' e' a' w' st sr' er => by
  have hn := exrel_ne er hne
  have := dn ρ' e' a' w' st sr' er
  cases e' <;> first | exact absurd rfl hn | exact this)⟩
theorem sem_seq2 {Fz : Prop} {P : Program} {a b : Code} {s s1 s' : St} {e : AExit} (h : Sem Fz P a s .normal s1) (k : Sem Fz P b s1 e s') : Sem Fz P (.seq a b) s e s' :=
 ⟨Nat.le_trans h.next k.next, fun n => (h.le n).trans (k.le n), fun D ρ x w R sr fr dn => wp_seq (h.run D ρ x w _ sr (fr.mono k.next) fun ρ' e' a' w' st sr' er => by
  simp only [ExRel] at er
  subst er
  exact k.run D ρ' a' w' R sr' (fr.gstep st) (dn.step st))⟩
theorem wp_seqQ {Fz : Prop} {P : Program} {a b : Code} {s : St} {Q : AExit → St → Prop} (h : WP Fz P a s (thenQ Fz P b Q)) : WP Fz P (.seq a b) s Q := by
 obtain ⟨e, s1, h1, h2⟩ := h
 by_cases he : e = .normal
 ·subst he
  obtain ⟨e, s', h3, h4⟩ := h2
  exact ⟨e, s', sem_seq2 h1 h3, h4⟩
 ·refine ⟨e, s1, sem_seq1 h1 he, ?_⟩
  cases e <;> first | exact absurd rfl he | exact h2
theorem wp_condQ {Fz : Prop} {P : Program} {c : Operand} {a b : Code} {s : St} {Q : AExit → St → Prop} (t : Bool) (hc : s.ev c = .flat (.bool t)) (h : WP Fz P (if t = true then a else b) s Q) : WP Fz P (.cond c a b) s Q := by
 obtain ⟨e, s1, h1, h2⟩ := h
 refine ⟨e, s1, ⟨h1.next, h1.le, fun D ρ x w R sr fr dn => ?_⟩, h2⟩
 have hev := sr.ev c
 rw [hc] at hev
 simp only [AV.rel] at hev
 refine wp_cond hev ?_
 have := h1.run D ρ x w R sr fr dn
 cases t <;> simpa using this
def blockQ (id : Nat) (Q : AExit → St → Prop) : AExit → St → Prop
 | .exit j, s => if j = id then Q .normal s else Q (.exit j) s
 | e, s => Q e s
theorem wp_blockQ {Fz : Prop} {P : Program} {id : Nat} {c : Code} {s : St} {Q : AExit → St → Prop} (h : WP Fz P c s (blockQ id Q)) : WP Fz P (.block id c) s Q := by
 obtain ⟨e, s1, h1, h2⟩ := h
 have key : ∀ e0, Q e0 s1 → (∀ (ρ : Ren) (e' : Exit) (a : Act) (w : World) (R : Exit → Act → World → Prop), ExRel ρ e e' → (∀ e1, ExRel ρ e0 e1 → R e1 a w) → Exit.inBlock id R e' a w) → WP Fz P (.block id c) s Q := fun e0 hq hx =>
  ⟨e0, s1, ⟨h1.next, h1.le, fun D ρ x w R sr fr dn => wp_block (h1.run D ρ x w _ sr fr fun ρ' e' a' w' st sr' er => hx ρ' e' a' w' R er fun e1 he1 => dn ρ' e1 a' w' st sr' he1)⟩, hq⟩
 cases e with
 | exit j =>
  by_cases hj : j = id
  ·subst hj
   simp only [blockQ, if_true] at h2
   exact key .normal h2 fun ρ e' a w R er k => by simp only [ExRel] at er; subst er; simpa [Exit.inBlock] using k .normal rfl
  ·simp only [blockQ, if_neg hj] at h2
   exact key (.exit j) h2 fun ρ e' a w R er k => by simp only [ExRel] at er; subst er; simpa [Exit.inBlock, hj] using k (.exit j) rfl
 | normal => exact key .normal h2 fun ρ e' a w R er k => by simp only [ExRel] at er; subst er; exact k .normal rfl
 | goto l => exact key (.goto l) h2 fun ρ e' a w R er k => by simp only [ExRel] at er; subst er; exact k (.goto l) rfl
 | ret => exact key .ret h2 fun ρ e' a w R er k => by simp only [ExRel] at er; subst er; exact k .ret rfl
 | panic v => exact key (.panic v) h2 fun ρ e' a w R er k => by obtain ⟨v', rfl, hv⟩ := er; exact k _ ⟨v', rfl, hv⟩
theorem wp_skipQ {Fz : Prop} {P : Program} {s : St} {Q : AExit → St → Prop} (h : Q .normal s) : WP Fz P .skip s Q :=
 ⟨.normal, s, ⟨Nat.le_refl _, fun _ => Hp.Le.refl _, fun D ρ x w R sr fr dn => wp_skip (dn ρ _ x w (GStep.refl _ _ _ _ _) sr rfl)⟩, h⟩
theorem wp_labelQ {Fz : Prop} {P : Program} {l : Nat} {s : St} {Q : AExit → St → Prop} (h : Q .normal s) : WP Fz P (.label l) s Q :=
 ⟨.normal, s, ⟨Nat.le_refl _, fun _ => Hp.Le.refl _, fun D ρ x w R sr fr dn => wp_label (dn ρ _ x w (GStep.refl _ _ _ _ _) sr rfl)⟩, h⟩
theorem wp_exitQ {Fz : Prop} {P : Program} {id : Nat} {s : St} {Q : AExit → St → Prop} (h : Q (.exit id) s) : WP Fz P (.exit id) s Q :=
 ⟨.exit id, s, ⟨Nat.le_refl _, fun _ => Hp.Le.refl _, fun D ρ x w R sr fr dn => wp_exit (dn ρ _ x w (GStep.refl _ _ _ _ _) sr rfl)⟩, h⟩
theorem wp_retQ {Fz : Prop} {P : Program} {s : St} {Q : AExit → St → Prop} (h : Q .ret s) : WP Fz P .ret s Q :=
 ⟨.ret, s, ⟨Nat.le_refl _, fun _ => Hp.Le.refl _, fun D ρ x w R sr fr dn => wp_ret (dn ρ _ x w (GStep.refl _ _ _ _ _) sr rfl)⟩, h⟩
theorem sem_stop {Fz : Prop} {P : Program} {c : Code} {s s' : St} {e : AExit} (h : Sem Fz P c s e s') (hne : e ≠ .normal) :
    ∀ (D : Nat → Prop) (ρ : Ren) (a : Act) (w : World) (R : Exit → Act → World → Prop), SRel D ρ s a w → Free ρ s.h.next s'.h.next → DoneG Fz D ρ s.h w e s' R → Code.rounds P c R 1 a w := fun D ρ a w R sr fr dn => by
 rw [rounds_succ]
 refine h.run D ρ a w _ sr fr fun ρ' e' a' w' st sr' er => ?_
 have hn := exrel_ne er hne
 have := dn ρ' e' a' w' st sr' er
 cases e' <;> first | exact absurd rfl hn | exact this
theorem sem_round {Fz : Prop} {P : Program} {c : Code} {n : Nat} {s s1 s' : St} {e : AExit} (h : Sem Fz P c s .normal s1) (hn : s1.h.next ≤ s'.h.next)
    (k : ∀ (D : Nat → Prop) (ρ : Ren) (a : Act) (w : World) (R : Exit → Act → World → Prop), SRel D ρ s1 a w → Free ρ s1.h.next s'.h.next → DoneG Fz D ρ s1.h w e s' R → Code.rounds P c R n a w) :
    ∀ (D : Nat → Prop) (ρ : Ren) (a : Act) (w : World) (R : Exit → Act → World → Prop), SRel D ρ s a w → Free ρ s.h.next s'.h.next → DoneG Fz D ρ s.h w e s' R → Code.rounds P c R (n + 1) a w := fun D ρ a w R sr fr dn => by
 rw [rounds_succ]
 refine h.run D ρ a w _ sr (fr.mono hn) fun ρ' e' a' w' st sr' er => ?_
 simp only [ExRel] at er
 subst er
 exact k D ρ' a' w' R sr' (fr.gstep st) (dn.step st)
def roundQ (I : Nat → St → Prop) (n : Nat) (Q : AExit → St → Prop) : AExit → St → Prop
 | .normal, s => ∃ m, m < n ∧ I m s
 | e, s => Q e s
theorem wp_loopQ {Fz : Prop} {P : Program} {c : Code} {s : St} {Q : AExit → St → Prop} (I : Nat → St → Prop) (n : Nat) (h : I n s) (round : ∀ n s, I n s → WP Fz P c s (roundQ I n Q)) : WP Fz P (.loop c) s Q := by
 have key : ∀ n s, I n s → ∃ e s' m, s.h.next ≤ s'.h.next ∧ (¬ Fz → Hp.Le s.h s'.h) ∧ Q e s' ∧
     ∀ (D : Nat → Prop) (ρ : Ren) (a : Act) (w : World) (R : Exit → Act → World → Prop), SRel D ρ s a w → Free ρ s.h.next s'.h.next → DoneG Fz D ρ s.h w e s' R → Code.rounds P c R m a w := by
  intro n
  induction n using Nat.strongRecOn with
  | _ n ih =>
   intro s hs
   obtain ⟨e, s1, h1, h2⟩ := round n s hs
   by_cases he : e = .normal
   ·subst he
    obtain ⟨m, hm, hI⟩ := h2
    obtain ⟨e, s', k, h3, h3', h4, h5⟩ := ih m hm s1 hI
    exact ⟨e, s', k + 1, Nat.le_trans h1.next h3, fun n => (h1.le n).trans (h3' n), h4, sem_round h1 h3 h5⟩
   ·exact ⟨e, s1, 1, h1.next, h1.le, by cases e <;> first | exact absurd rfl he | exact h2, sem_stop h1 he⟩
 obtain ⟨e, s', m, h1, h1', h2, h3⟩ := key n s h
 exact ⟨e, s', ⟨h1, h1', fun D ρ a w R sr fr dn => wp_loop_rounds m (h3 D ρ a w R sr fr dn)⟩, h2⟩
def scopeQ (Q : AExit → St → Prop) : AExit → St → Prop
 | .goto _, _ => False
 | e, s => Q e s
theorem wp_scopeQ {Fz : Prop} {P : Program} {c : Code} {s : St} {Q : AExit → St → Prop} (h : WP Fz P c s (scopeQ Q)) : WP Fz P (.scope c) s Q := by
 obtain ⟨e, s1, h1, h2⟩ := h
 refine ⟨e, s1, ⟨h1.next, h1.le, fun D ρ x w R sr fr dn => wp_scope_of (h1.run D ρ x w _ sr fr fun ρ' e' a' w' st sr' er => ?_)⟩, ?_⟩
 ·have := dn ρ' e' a' w' st sr' er
  cases e with
  | goto l => exact h2.elim
  | normal => simp only [ExRel] at er; subst er; exact this
  | exit id => simp only [ExRel] at er; subst er; exact this
  | ret => simp only [ExRel] at er; subst er; exact this
  | panic v => obtain ⟨v', rfl, _⟩ := er; exact this
 ·cases e <;> first | exact h2.elim | exact h2
structure Base (P : Program) (T : Tab) (call : CallF) : Prop where
 tab : T.Ok P
 mixed : P.follows .mixedOrders = true
 ok : CallOk P call
 le : CallLe call
theorem wp_region0 {Fz : Prop} {P : Program} {T : Tab} {call : CallF} (B : Base P T call) {id : Nat} {ops : Array Oper} {s s' : St} {e : AExit} {Q : AExit → St → Prop}
    (h : evOps call T ops.toList ops.toList s = some (e, s')) (hq : Q e s') : WP Fz P (.region id ops false) s Q := by
 refine ⟨e, s', ⟨(evOps_le B.le _ _ _ _ h).next, fun _ => evOps_le B.le _ _ _ _ h, fun D ρ a w R sr fr dn => ?_⟩, hq⟩
 have := evOps_sound B.tab B.ok B.le (ops := ops) ops.toList 0 s e s' (fun j => by simp) h D ρ a w R sr fr dn.done
 refine wp_region ?_
 rw [List.range_eq_range']
 simpa using this
theorem wp_region1 {Fz : Prop} {P : Program} {T : Tab} {call : CallF} (B : Base P T call) {id : Nat} {ops : Array Oper} {bf : List Nat} (hbf : regOk bf ops.toList = true) {s s' : St} {e : AExit} {Q : AExit → St → Prop}
    (h : evDraw call T (some bf) ops.toList s = some (e, s')) (hq : Q e s') : WP Fz P (.region id ops true) s Q :=
 have hle : Hp.Le s.h s'.h := evCode_le B.le (T := T) (M := fun _ => some bf) (lf := 0) (re := fun _ _ _ => none) (fun _ _ _ _ _ k => by cases k) (.region id ops true) s e s' h
 ⟨e, s', ⟨hle.next, fun _ => hle, fun D ρ a w R sr fr dn => draw_ok B.tab B.mixed call B.ok B.le id bf ops s e s' hbf h D ρ a w R sr fr dn.done⟩, hq⟩
structure View (s s1 : St) : Prop where
 next : s1.h.next = s.h.next
 run : ∀ (D : Nat → Prop) (ρ : Ren) (a : Act) (w : World), SRel D ρ s a w → ∃ ρ', GStep True D ρ s.h w ρ' s1.h w ∧ SRel D ρ' s1 a w
theorem WP.view0 {P : Program} {c : Code} {s s1 : St} {Q : AExit → St → Prop} (v : View s s1) (h : WP True P c s1 Q) : WP True P c s Q := by
 obtain ⟨e, s', h1, hq⟩ := h
 refine ⟨e, s', ⟨by rw [← v.next]; exact h1.next, fun n => (n trivial).elim, fun D ρ a w R sr fr dn => ?_⟩, hq⟩
 obtain ⟨ρ1, st, sr1⟩ := v.run D ρ a w sr
 exact h1.run D ρ1 a w R sr1 (fun i h2 h3 => by rw [st.dom i (.inr h2)]; exact fr i (by rw [← v.next]; exact h2) h3) (dn.step st)
end Go.Iv
end
section
set_option linter.unusedVariables false
set_option linter.unusedSimpArgs false
namespace Go.Iv
open Go
def Fz (g : Nat → Option (List AV)) (x x' : AV) : Prop :=
 ∀ (ρ ρ' : Ren) (v : Value), Ren.le ρ ρ' → (∀ b b' n l, g b = some l → ρ b = some (b', n) → ρ'.reg ⟨b', 0, none⟩ l) → x.rel ρ v → x'.rel ρ' v
def FzL (g : Nat → Option (List AV)) (x x' : List AV) : Prop :=
 ∀ (ρ ρ' : Ren) (v : List Value), Ren.le ρ ρ' → (∀ b b' n l, g b = some l → ρ b = some (b', n) → ρ'.reg ⟨b', 0, none⟩ l) → AV.relL ρ x v → AV.relL ρ' x' v
theorem Fz.refl (g : Nat → Option (List AV)) (x : AV) : Fz g x x := fun _ _ _ h _ k => AV.rel_mono h _ _ k
theorem FzL.refl (g : Nat → Option (List AV)) (x : List AV) : FzL g x x := fun _ _ _ h _ k => AV.relL_mono h _ _ k
theorem Fz.slice {g : Nat → Option (List AV)} {b o n c : Nat} {l : List AV} {z : Nat} (hg : g b = some l) (hn : n ≤ c) (hl : o + n * z ≤ l.length) (hz : 0 < z) : Fz g (.slice b o n (.exact c)) (.isl l z o n) := fun ρ ρ' v h hr k => by
 simp only [AV.rel] at k ⊢
 obtain ⟨b', n', h1, rfl⟩ := k
 exact ⟨_, _, rfl, hn, hl, hz, fun _ => ⟨⟨b', 0, none⟩, by rw [addr_add, Nat.zero_add], hr b b' n' l hg h1⟩⟩
theorem Fz.sliceE {g : Nat → Option (List AV)} {b o n e : Nat} {l : List AV} {z : Nat} (hg : g b = some l) (hl : o + n * z ≤ l.length) (hz : 0 < z) : Fz g (.slice b o n (.toEnd e)) (.isl l z o n) := fun ρ ρ' v h hr k => by
 simp only [AV.rel] at k ⊢
 obtain ⟨b', n', c', h1, rfl, h2, h3⟩ := k
 exact ⟨_, _, rfl, h2, hl, hz, fun _ => ⟨⟨b', 0, none⟩, by rw [addr_add, Nat.zero_add], hr b b' n' l hg h1⟩⟩
theorem Fz.ptr {g : Nat → Option (List AV)} {b o : Nat} {l : List AV} (hg : g b = some l) : Fz g (.ptr b o) (.iptr l o) := fun ρ ρ' v h hr k => by
 simp only [AV.rel] at k ⊢
 obtain ⟨b', n', h1, rfl⟩ := k
 exact ⟨⟨b', 0, none⟩, hr b b' n' l hg h1, by rw [addr_add, Nat.zero_add]⟩
theorem Fz.agg {g : Nat → Option (List AV)} {l l' : List AV} (h : FzL g l l') : Fz g (.agg l) (.agg l') := fun ρ ρ' v h1 hr k => by
 simp only [AV.rel] at k ⊢
 obtain ⟨y, e, h2⟩ := k
 exact ⟨y, e, h ρ ρ' y h1 hr h2⟩
theorem Fz.tuple {g : Nat → Option (List AV)} {l l' : List AV} (h : FzL g l l') : Fz g (.tuple l) (.tuple l') := fun ρ ρ' v h1 hr k => by
 simp only [AV.rel] at k ⊢
 obtain ⟨y, e, h2⟩ := k
 exact ⟨y, e, h ρ ρ' y h1 hr h2⟩
theorem Fz.nil {g : Nat → Option (List AV)} {l : List AV} {z o : Nat} (hl : o ≤ l.length) (hz : 0 < z) : Fz g (.flat (.slice none 0 0)) (.isl l z o 0) := fun ρ ρ' v h hr k => by
 simp only [AV.rel] at k ⊢
 subst k
 exact ⟨_, _, rfl, Nat.le_refl _, by omega, hz, fun h => by omega⟩
theorem FzL.nil (g : Nat → Option (List AV)) : FzL g [] [] := FzL.refl g []
theorem FzL.cons {g : Nat → Option (List AV)} {x x' : AV} {l l' : List AV} (h : Fz g x x') (k : FzL g l l') : FzL g (x :: l) (x' :: l') := fun ρ ρ' v h1 hr r => by
 obtain ⟨y, ys, rfl, h2, h3⟩ := relL_cons.1 r
 exact relL_cons.2 ⟨y, ys, rfl, h ρ ρ' y h1 hr h2, k ρ ρ' ys h1 hr h3⟩
theorem FzL.map {α : Type} {g : Nat → Option (List AV)} {f f' : α → AV} : ∀ (l : List α), (∀ x ∈ l, Fz g (f x) (f' x)) → FzL g (l.map f) (l.map f')
 | [], _ => FzL.nil g
 | x :: l, h => FzL.cons (h x (by simp)) (FzL.map l fun y hy => h y (by simp [hy]))
theorem FzL.get {g : Nat → Option (List AV)} : ∀ {l l' : List AV}, l'.length = l.length → (∀ (j : Nat) x x', l[j]? = some x → l'[j]? = some x' → Fz g x x') → FzL g l l'
 | [], [], _, _ => FzL.nil g
 | x :: l, [], h, _ => by simp at h
 | [], x :: l, h, _ => by simp at h
 | x :: l, x' :: l', h, k => FzL.cons (k 0 x x' rfl rfl) (FzL.get (by simpa using h) fun j y y' h1 h2 => k (j + 1) y y' (by simpa using h1) (by simpa using h2))
structure Freeze (g : Nat → Option (List AV)) (s s1 : St) : Prop where
 next : s1.h.next = s.h.next
 n : s1.n = s.n
 ds : s1.ds = s.ds
 slot : ∀ t, Fz g (s.slot t) (s1.slot t)
 left : ∀ i o1, s1.h.get i = some o1 → g i = none ∧ ∃ l l1 e x, s.h.get i = some (.cells l e x) ∧ o1 = .cells l1 e x ∧ FzL g l l1
 gone : ∀ i l, g i = some l → pureL l = true ∧ ∃ l0 e x, s.h.get i = some (.cells l0 e x) ∧ FzL g l0 l
theorem Freeze.view {g : Nat → Option (List AV)} {s s1 : St} (f : Freeze g s s1) : View s s1 := by
 refine ⟨f.next, fun D ρ a w sr => ?_⟩
 obtain ⟨ρ', hρ'⟩ : ∃ ρ' : Ren, ρ' = ⟨ρ.f, fun ad l => ρ.reg ad l ∨ ∃ i b n, g i = some l ∧ ρ i = some (b, n) ∧ ad = ⟨b, 0, none⟩⟩ := ⟨_, rfl⟩
 have hf : ∀ i, ρ' i = ρ i := fun i => by rw [hρ']
 have hle : Ren.le ρ ρ' := ⟨fun i x h => by rw [hf]; exact h, fun ad l h => by rw [hρ']; exact .inl h⟩
 have hreg : ∀ b b' n l, g b = some l → ρ b = some (b', n) → ρ'.reg ⟨b', 0, none⟩ l := fun b b' n l h1 h2 => by rw [hρ']; exact .inr ⟨b, b', n, h1, h2, rfl⟩
 have hr := sr.hr
 have live : ∀ i, s1.h.get i ≠ none → s.h.get i ≠ none ∧ g i = none := fun i h => by
  cases ho : s1.h.get i with
  | none => exact absurd ho h
  | some o1 =>
   obtain ⟨h1, l, l1, e, x, h2, _⟩ := f.left i o1 ho
   exact ⟨by rw [h2]; simp, h1⟩
 have hr1 : HR D ρ' s1.h w := by
  refine ⟨fun i b n o1 hi ho => ?_, fun i j b n m hi hj hli hlj => ?_, fun i hi => ?_, hr.far, fun ad l hl => ?_⟩
  ·rw [hf] at hi
   obtain ⟨_, l, l1, e, x, h2, rfl, h3⟩ := f.left i o1 ho
   obtain ⟨h4, o', h5, p, r, rfl, h6, h7, h8⟩ := hr.obj i b n _ hi h2
   exact ⟨h4, _, h5, p, r, rfl, h6, h3 ρ ρ' p hle hreg h7, h8⟩
  ·rw [hf] at hi hj
   exact hr.inj i j b n m hi hj (live i hli).1 (live j hlj).1
  ·cases ho : s1.h.get i with
   | none => rfl
   | some o1 =>
    obtain ⟨_, l, l1, e, x, h2, _⟩ := f.left i o1 ho
    rw [hr.born i (by rw [← f.next]; exact hi)] at h2
    cases h2
  ·rw [hρ'] at hl
   rcases hl with hl | ⟨i, b, n, hg, hi, rfl⟩
   ·refine (hr.reg ad l hl).keep hle (fun _ => rfl) (fun hne j m hj => ?_)
    rw [hf] at hj
    cases ho : s1.h.get j with
    | none => rfl
    | some o1 => exact absurd ((hr.reg ad l hl).own hne j m hj) (live j (by rw [ho]; simp)).1
   ·obtain ⟨hp, l0, e, x, h2, h3⟩ := f.gone i l hg
    obtain ⟨_, o', h5, p, r, rfl, h6, h7, h8⟩ := hr.obj i b n _ hi h2
    have h9 := h3 ρ ρ' p hle hreg h7
    refine ⟨fun j y hj => ?_, fun hne j m hj => ?_, hp⟩
    ·obtain ⟨v, hv1, hv2⟩ := relL_get j h9 hj
     exact ⟨v, cells_at (o := 0) h5 (by simpa using hv1), hv2⟩
    ·rw [hf] at hj
     cases ho : s1.h.get j with
     | none => rfl
     | some o1 =>
      obtain ⟨h10, h11⟩ := live j (by rw [ho]; simp)
      have : j = i := hr.inj j i b m n hj hi h10 (by rw [h2]; simp)
      rw [this, hg] at h11
      cases h11
 refine ⟨ρ', ⟨hle, Fr.refl _ _, by rw [f.next]; exact Nat.le_refl _, fun i _ => hf i, fun ad l hl => ?_⟩, ⟨fun t => f.slot t ρ ρ' _ hle hreg (sr.tm t), by rw [f.n]; exact sr.sz, hr1, by rw [f.ds]; exact relDs_mono hle sr.ds⟩⟩
 rw [hρ'] at hl
 rcases hl with hl | ⟨i, b, n, hg, hi, rfl⟩
 ·exact .inl hl
 ·obtain ⟨_, l0, e, x, h2, _⟩ := f.gone i l hg
  exact .inr (.inr (.inr ⟨trivial, (hr.obj i b n _ hi h2).1⟩))
def SemCall (P : Program) (f : FuncId) (args : List AV) (h : Hp) (e : AEnd) (h' : Hp) : Prop :=
 ∀ (D : Nat → Prop) (ρ : Ren) (w : World) (args' : List Value), HR D ρ h w → Free ρ h.next h'.next → AV.relL ρ args args' →
  Calls P f ⟨args'⟩ w fun e' w' => ∃ ρ', Step D ρ h w ρ' h' w' ∧ EndRel ρ' e e'
def endQ (T : Tab) (rs : List ResultVar) (Q : AEnd → Hp → Prop) : AExit → St → Prop
 | .normal, s => s.ds = [] ∧ ∃ l, evResults T s rs = some l ∧ Q (.ret (oneOf l)) s.h
 | .ret, s => s.ds = [] ∧ ∃ l, evResults T s rs = some l ∧ Q (.ret (oneOf l)) s.h
 | .panic v, s => s.ds = [] ∧ Q (.pan v) s.h
 | _, _ => False
theorem endQ_post {P : Program} {T : Tab} (hT : T.Ok P) {fn : Func} {Q : AEnd → Hp → Prop} {e : AExit} {s : St} (h : endQ T fn.results.toList Q e s) : ∃ en, Q en s.h ∧ ∀ (D : Nat → Prop) (ρ : Ren) (a : Act) (w : World) (e' : Exit) (R : Ending → World → Prop),
    SRel D ρ s a w → ExRel ρ e e' → (∀ e2, EndRel ρ en e2 → R e2 w) → bodyPost P fn R e' a w := by
 have ret : (s.ds = [] ∧ ∃ l, evResults T s fn.results.toList = some l ∧ Q (.ret (oneOf l)) s.h) → ∃ en, Q en s.h ∧ ∀ (D : Nat → Prop) (ρ : Ren) (a : Act) (w : World) (R : Ending → World → Prop),
     SRel D ρ s a w → (∀ e2, EndRel ρ en e2 → R e2 w) → a.defers = [] ∧ ∃ v, (results fn a.tmps).run P w = .ok v w ∧ R (.returned v) w := fun ⟨hd, l, hl, hq⟩ => ⟨_, hq, fun D ρ a w R sr hR => by
  have h1 := sr.ds
  rw [hd] at h1
  obtain ⟨v, h2, h3⟩ := run_results hT sr hl
  exact ⟨h1, v, h2, hR _ ⟨v, rfl, h3⟩⟩⟩
 cases e with
 | normal =>
  obtain ⟨en, h1, h2⟩ := ret h
  exact ⟨en, h1, fun D ρ a w e' R sr er hR => by simp only [ExRel] at er; subst er; exact h2 D ρ a w R sr hR⟩
 | ret =>
  obtain ⟨en, h1, h2⟩ := ret h
  exact ⟨en, h1, fun D ρ a w e' R sr er hR => by simp only [ExRel] at er; subst er; exact h2 D ρ a w R sr hR⟩
 | panic v =>
  refine ⟨_, h.2, fun D ρ a w e' R sr er hR => ?_⟩
  obtain ⟨v', rfl, hv⟩ := er
  have h1 := sr.ds
  rw [h.1] at h1
  exact ⟨h1, hR _ ⟨v', rfl, hv⟩⟩
 | exit id => exact h.elim
 | goto id => exact h.elim
def entry (args : List AV) (nt : Nat) (h : Hp) (tm : Nat → Option AV) : St := ⟨tm, args.length + (nt - args.length), h, []⟩
theorem heap_call {P : Program} {T : Tab} (hT : T.Ok P) {f : FuncId} {fn : Func} {c : Code} (hf : P.funcs[f]? = some fn) (hb : fn.body = some c) {args : List AV} {tm : Nat → Option AV} (htm : putArgs args 0 noTmp = some tm) {h : Hp} {Q : AEnd → Hp → Prop}
    (hw : WP False P c (entry args fn.ntmps h tm) (endQ T fn.results.toList Q)) : ∃ e h', SemCall P f args h e h' ∧ Hp.Le h h' ∧ Q e h' := by
 obtain ⟨e, s', h1, h2⟩ := hw
 obtain ⟨en, h3, h4⟩ := endQ_post hT h2
 refine ⟨en, s'.h, fun D ρ w args' hr fr ha => ?_, h1.le (fun h => h), h3⟩
 refine calls_of_wp hf hb (h1.run D ρ _ w _ (enter_rel hr ha htm) fr ?_)
 intro ρ' e' a' w' st sr er
 exact h4 D ρ' a' w' e' _ sr er fun e2 he2 => ⟨ρ', st.step sr.hr, he2⟩
theorem pure_call {P : Program} {T : Tab} (hT : T.Ok P) {f : FuncId} {fn : Func} {c : Code} (hf : P.funcs[f]? = some fn) (hb : fn.body = some c) {args : List AV} {tm : Nat → Option AV} (htm : putArgs args 0 noTmp = some tm) (hp : pureL args = true) {v : AV} (hv : v.pure = true)
    (hw : WP True P c (entry args fn.ntmps Hp.empty tm) (endQ T fn.results.toList fun e _ => e = .ret v)) (h : Hp) : SemCall P f args h (.ret v) h := by
 obtain ⟨e, s', h1, h2⟩ := hw
 obtain ⟨en, h3, h4⟩ := endQ_post hT h2
 subst h3
 intro D ρ w args' hr fr ha
 obtain ⟨ρ1, hρ1⟩ : ∃ ρ1 : Ren, ρ1 = ⟨fun _ => none, ρ.reg⟩ := ⟨_, rfl⟩
 have hr1 : HR (fun b => w.heap.size ≤ b) ρ1 Hp.empty w := by
  rw [hρ1]
  refine ⟨fun i b n o h => (by cases h), fun i j b n m h => (by cases h), fun i _ => rfl, fun b h => h, fun ad l hl => ?_⟩
  have hk := hr.reg ad l hl
  refine ⟨fun j x hj => ?_, fun _ i n h => (by cases h), hk.pur⟩
  obtain ⟨y, h5, h6⟩ := hk.cell j x hj
  exact ⟨y, h5, AV.rel_pure (ρ := ρ) (ρ' := ⟨fun _ => none, ρ.reg⟩) (fun _ _ h => h) x y (pureL_get hk.pur hj) h6⟩
 have ha1 : AV.relL ρ1 args args' := AV.relL_pure (ρ := ρ) (fun ad l h => by rw [hρ1]; exact h) _ _ hp ha
 refine calls_of_wp hf hb (h1.run _ ρ1 _ w _ (enter_rel hr1 ha1 htm) (fun i _ _ => by rw [hρ1]) ?_)
 intro ρ' e' a' w' st sr er
 refine h4 _ ρ' a' w' e' _ sr er fun e2 he2 => ?_
 have hblk : ∀ b, b < w.heap.size → w'.heap[b]? = w.heap[b]? := fun b hb => st.fr.block b hb (by omega)
 have hsz := st.fr.size
 obtain ⟨ρ2, hρ2⟩ : ∃ ρ2 : Ren, ρ2 = ⟨ρ.f, ρ'.reg⟩ := ⟨_, rfl⟩
 have hle : Ren.le ρ ρ2 := ⟨fun i x h => by rw [hρ2]; exact h, fun ad l h => by rw [hρ2]; exact st.le.reg ad l (by rw [hρ1]; exact h)⟩
 have hf2 : ∀ i, ρ2 i = ρ i := fun i => by rw [hρ2]
 have hlt : ∀ i b n, ρ i = some (b, n) → h.get i ≠ none → b < w.heap.size := fun i b n hi hl => by
  cases hg : h.get i with
  | none => exact absurd hg hl
  | some o =>
   obtain ⟨_, o', h5, _⟩ := hr.obj i b n o hi hg
   exact (Array.getElem?_eq_some_iff.1 h5).1
 have hnreg : ∀ ad l, ρ2.reg ad l → ρ.reg ad l ∨ Digits l ∨ w.heap.size ≤ ad.block := fun ad l hl => by
  rw [hρ2] at hl
  rcases st.nreg ad l hl with h | h | h | h
  ·rw [hρ1] at h; exact .inl h
  ·exact .inr (.inl h)
  ·exact .inr (.inr h)
  ·exact .inr (.inr h.2)
 have hr2 : HR D ρ2 h w' := by
  refine ⟨fun i b n o hi ho => ?_, fun i j b n m hi hj hli hlj => ?_, hr.born, fun b hb => hr.far b (by omega), fun ad l hl => ?_⟩
  ·rw [hf2] at hi
   obtain ⟨h5, o', h6, h7⟩ := hr.obj i b n o hi ho
   exact ⟨h5, o', by rw [hblk b (hlt i b n hi (by rw [ho]; simp))]; exact h6, AO.rel_mono hle h7⟩
  ·rw [hf2] at hi hj
   exact hr.inj i j b n m hi hj hli hlj
  ·have hk := sr.hr.reg ad l (by rw [hρ2] at hl; exact hl)
   refine ⟨fun j x hj => ?_, fun hne i n hi => ?_, hk.pur⟩
   ·obtain ⟨y, h5, h6⟩ := hk.cell j x hj
    exact ⟨y, h5, AV.rel_pure (ρ := ρ') (fun ad l h => by rw [hρ2]; exact h) x y (pureL_get hk.pur hj) h6⟩
   ·rw [hf2] at hi
    cases ho : h.get i with
    | none => rfl
    | some o =>
     exfalso
     rcases hnreg ad l hl with h5 | h5 | h5
     ·have := (hr.reg ad l h5).own hne i n hi
      rw [ho] at this; cases this
     ·obtain ⟨_, o', h6, h7⟩ := hr.obj i _ n o hi ho
      exact h5.cell hk.cell (by rw [hblk _ (hlt i _ n hi (by rw [ho]; simp))]; exact h6) h7
     ·have := hlt i _ n hi (by rw [ho]; simp)
      omega
 refine ⟨ρ2, ⟨hr2, hle, ⟨st.fr.os, st.fr.tape, st.fr.output, hsz, fun b hb _ => hblk b hb⟩, Nat.le_refl _, fun i _ => hf2 i, hnreg⟩, ?_⟩
 obtain ⟨v', h5, h6⟩ := he2
 exact ⟨v', h5, AV.rel_pure (ρ := ρ') (fun ad l h => by rw [hρ2]; exact h) v v' hv h6⟩
end Go.Iv
end
section
set_option linter.unusedVariables false
set_option linter.unusedSimpArgs false
namespace Go.Iv
open Go
abbrev Spec := FuncId → List AV → Hp → AEnd → Hp → Prop
open Classical in
noncomputable def tabF (S : Spec) : CallF := fun f args h => if hx : ∃ r : AEnd × Hp, S f args h r.1 r.2 then some (Classical.choose hx) else none
structure SpecOk (P : Program) (S : Spec) : Prop where
 ok : ∀ f args h e h', S f args h e h' → SemCall P f args h e h'
 le : ∀ f args h e h', S f args h e h' → Hp.Le h h'
theorem tabF_get {S : Spec} {f : FuncId} {args : List AV} {h : Hp} {e : AEnd} {h' : Hp} (k : tabF S f args h = some (e, h')) : S f args h e h' := by
 unfold tabF at k
 split at k
 ·rename_i hx
  have := Classical.choose_spec hx
  simp only [Option.some.injEq] at k
  rw [k] at this
  exact this
 ·cases k
theorem SpecOk.base {P : Program} {T : Tab} {S : Spec} (k : SpecOk P S) (hT : T.Ok P) (hm : P.follows .mixedOrders = true) : Base P T (tabF S) :=
 ⟨hT, hm, fun f args h e h' hc => k.ok f args h e h' (tabF_get hc), fun f args h e h' hc => k.le f args h e h' (tabF_get hc)⟩
def only (f : FuncId) (S : List AV → Hp → AEnd → Hp → Prop) : Spec := fun g args h e h' => g = f ∧ S args h e h'
theorem semcall_of {P : Program} {f : FuncId} {args : List AV} {v : AV} {h : Hp}
    (k : ∀ (D : Nat → Prop) (ρ : Ren) (w : World) (args' : List Value), HR D ρ h w → AV.relL ρ args args' →
     Calls P f ⟨args'⟩ w fun e' w' => ∃ v', e' = .returned v' ∧ RowKit.Below w.heap.size w w' ∧ ∀ ρ1, HR D ρ1 h w' → Ren.le ρ ρ1 → ∃ ρ2, Step D ρ1 h w' ρ2 h w' ∧ v.rel ρ2 v') : SemCall P f args h (.ret v) h := fun D ρ w args' hr fr ha => by
 refine (k D ρ w args' hr ha).mono ?_
 rintro e' w' ⟨v', rfl, hb, hv⟩
 have st := Step.below hr hb
 obtain ⟨ρ2, st2, h2⟩ := hv ρ st.hr (Ren.le.refl _)
 exact ⟨ρ2, st.trans st2, v', rfl, h2⟩
def dcell (x : Nat) : AV := .flat (.int .u32 (x : Int))
def dgs (l : List Nat) : AV := .isl (l.map dcell) 1 0 l.length
theorem pureL_map {α : Type} {f : α → AV} (hf : ∀ x, (f x).pure = true) : ∀ l : List α, pureL (l.map f) = true
 | [] => rfl
 | x :: l => by simp [pureL, hf x, pureL_map hf l]
theorem pureL_mapm {α : Type} {f : α → AV} : ∀ l : List α, (∀ x ∈ l, (f x).pure = true) → pureL (l.map f) = true
 | [], _ => rfl
 | x :: l, h => by simp [pureL, h x (by simp), pureL_mapm l fun y hy => h y (by simp [hy])]
theorem dgs_pure (l : List Nat) : (dgs l).pure = true := by
 simp only [dgs, AV.pure]
 exact pureL_map (fun x => rfl) l
theorem dgs_open {D : Nat → Prop} {ρ : Ren} {h : Hp} {w : World} (k : HR D ρ h w) {l : List Nat} {v : Value} (hv : (dgs l).rel ρ v) :
    ∃ A c, v = .slice A l.length c ∧ l.length ≤ c ∧ (0 < l.length → ∃ ad, A = some ad ∧ ∀ (j x : Nat), l[j]? = some x → w.cell? (ad.add j) = some (.int .u32 (x : Int))) := by
 simp only [dgs, AV.rel] at hv
 obtain ⟨A, c, rfl, h1, _, _, h4⟩ := hv
 refine ⟨A, c, rfl, h1, fun hl => ?_⟩
 obtain ⟨ad, rfl, hr⟩ := h4 hl
 refine ⟨ad.add 0, rfl, fun j x hj => ?_⟩
 obtain ⟨y, h5, h6⟩ := (k.reg _ _ hr).cell j (dcell x) (by simp [hj])
 simp only [dcell, AV.rel] at h6
 subst h6
 rw [addr_add_add, Nat.zero_add]
 exact h5
theorem dgs_shut {D : Nat → Prop} {ρ : Ren} {h : Hp} {w : World} (k : HR D ρ h w) {l : List Nat} {A : Option Addr} {c : Nat} (hc : l.length ≤ c) (hr : 0 < l.length → ∃ ad, A = some ad ∧ ∀ (j x : Nat), l[j]? = some x → w.cell? (ad.add j) = some (.int .u32 (x : Int))) :
    ∃ ρ', Step D ρ h w ρ' h w ∧ (dgs l).rel ρ' (.slice A l.length c) := by
 rcases Nat.eq_zero_or_pos l.length with h0 | h0
 ·refine ⟨ρ, Step.refl k, ?_⟩
  simp only [dgs, AV.rel]
  exact ⟨A, c, rfl, hc, by simp, by omega, fun h => by omega⟩
 ·obtain ⟨ad, rfl, hcell⟩ := hr h0
  obtain ⟨ρ', hρ'⟩ : ∃ ρ' : Ren, ρ' = ⟨ρ.f, fun a m => ρ.reg a m ∨ (a = ad ∧ m = l.map dcell)⟩ := ⟨_, rfl⟩
  have hf : ∀ i, ρ' i = ρ i := fun i => by rw [hρ']
  have hle : Ren.le ρ ρ' := ⟨fun i x hx => by rw [hf]; exact hx, fun a m hx => by rw [hρ']; exact .inl hx⟩
  have hdig : Digits (l.map dcell) := by
   obtain ⟨x, hx⟩ : ∃ x, l[0]? = some x := ⟨_, List.getElem?_eq_getElem h0⟩
   exact ⟨(x : Int), by simp [hx, dcell]⟩
  have hcells : ∀ j x, (l.map dcell)[j]? = some x → ∃ y, w.cell? (ad.add j) = some y ∧ x.rel ρ' y := fun j x hj => by
   rw [List.getElem?_map, Option.map_eq_some_iff] at hj
   obtain ⟨d, hd, rfl⟩ := hj
   exact ⟨_, hcell j d hd, by simp [dcell, AV.rel]⟩
  have hr' : HR D ρ' h w := by
   refine ⟨fun i b n o hi ho => ?_, fun i j b n m hi hj => by rw [hf] at hi hj; exact k.inj i j b n m hi hj, k.born, k.far, fun a m hm => ?_⟩
   ·rw [hf] at hi
    obtain ⟨h1, o', h2, h3⟩ := k.obj i b n o hi ho
    exact ⟨h1, o', h2, AO.rel_mono hle h3⟩
   ·rw [hρ'] at hm
    rcases hm with hm | ⟨rfl, rfl⟩
    ·exact (k.reg a m hm).keep hle (fun _ => rfl) (fun hne i n hi => by rw [hf] at hi; exact (k.reg a m hm).own hne i n hi)
    ·refine ⟨hcells, fun hne i n hi => ?_, pureL_map (fun _ => rfl) l⟩
     rw [hf] at hi
     cases ho : h.get i with
     | none => rfl
     | some o =>
      obtain ⟨_, o', h2, h3⟩ := k.obj i _ n o hi ho
      exact (hdig.cell hcells h2 h3).elim
  refine ⟨ρ', ⟨hr', hle, Fr.refl _ _, Nat.le_refl _, fun i _ => hf i, fun a m hm => ?_⟩, ?_⟩
  ·rw [hρ'] at hm
   rcases hm with hm | ⟨rfl, rfl⟩
   ·exact .inl hm
   ·exact .inr (.inl hdig)
  ·simp only [dgs, AV.rel]
   exact ⟨_, c, rfl, hc, by simp, by omega, fun _ => ⟨ad, rfl, by rw [hρ']; exact .inr ⟨rfl, rfl⟩⟩⟩
structure Stood (w : World) (R : Addr → List AV → Prop) : Prop where
 cell : ∀ ad l, R ad l → ∀ j x, l[j]? = some x → ∃ y, w.cell? (ad.add j) = some y ∧ x.rel ⟨fun _ => none, R⟩ y
 pur : ∀ ad l, R ad l → pureL l = true
theorem Stood.hr {w : World} {R : Addr → List AV → Prop} (k : Stood w R) : HR (fun b => w.heap.size ≤ b) ⟨fun _ => none, R⟩ Hp.empty w :=
 ⟨fun i b n o h => (by cases h), fun i j b n m h => (by cases h), fun i _ => rfl, fun b h => h, fun ad l hl => ⟨k.cell ad l hl, fun _ i n h => (by cases h), k.pur ad l hl⟩⟩
theorem Stood.call {P : Program} {f : FuncId} {args : List AV} {v : AV} {w : World} {R : Addr → List AV → Prop} (k : Stood w R) (hc : SemCall P f args Hp.empty (.ret v) Hp.empty) {args' : List Value} (ha : AV.relL ⟨fun _ => none, R⟩ args args') :
    Calls P f ⟨args'⟩ w fun e w' => ∃ v' ρ', e = .returned v' ∧ v.rel ρ' v' ∧ RowKit.Below w.heap.size w w' := by
 refine (hc _ _ w args' k.hr (fun _ _ _ => rfl) ha).mono ?_
 rintro e w' ⟨ρ', st, v', rfl, hv⟩
 exact ⟨v', ρ', rfl, hv, st.fr.os, st.fr.tape, st.fr.output, st.fr.size, fun i hi => st.fr.block i hi (by omega)⟩
end Go.Iv
end
