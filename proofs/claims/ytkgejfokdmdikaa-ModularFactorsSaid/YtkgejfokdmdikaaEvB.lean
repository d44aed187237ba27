/- The same evaluator for code and calls, proved sound for every order that a region may draw: a closed call that the evaluator answers is answered so by the model, in every world. -/
import Derived.Test.YtkgejfokdmdikaaEvA
import Derived.Scope
import Derived.Below
set_option linter.unusedVariables false
set_option linter.unusedSimpArgs false
/- EV, part 10: code and calls: the evaluator. -/
namespace Go.Ev
open Go

structure St where
  tm : Tr AV
  n : Nat
  h : Hp
  ds : List ADef

def St.ev (s : St) : Operand → AV
  | .tmp t => match s.tm.get t with
    | some v => v
    | none => .tuple []
  | .const v => toAV v
  | .global g => .flat (.pointer (some ⟨g, 0, none⟩))
  | .func f => .func (.func f) [] []

def St.put (s : St) (dst : Option Tmp) (v : AV) (h : Hp) : Option St :=
  match dst with
  | none => some ⟨s.tm, s.n, h, s.ds⟩
  | some d => cond (Nat.blt d s.n) (forceA v fun v => match Tr.set 40 s.tm d (some v) with
    | some tm => some ⟨tm, s.n, h, s.ds⟩
    | none => none) none

def St.wanted (ops : List Oper) (s : St) (o : Oper) : Bool :=
  match o.guard with
  | none => true
  | some (j, want) => match ops[j]? with
    | some oj => match oj.dst with
      | some d => match s.tm.get d with
        | some (.flat (.bool b)) => cond b want (!want)
        | _ => false
      | none => false
    | none => false

inductive AExit where
  | normal
  | exit (id : Nat)
  | ret
  | panic (v : AV)
inductive AEnd where
  | ret (v : AV)
  | pan (v : AV)

abbrev CallF := FuncId → List AV → Hp → Option (AEnd × Hp)

def evOps (call : CallF) (T : Tab) (ops : List Oper) : List Oper → St → Option (AExit × St)
  | [], s => some (.normal, s)
  | o :: rest, s => cond (s.wanted ops o) (match evOp T s.ev s.h o with
      | some (.val v h) => match s.put o.dst v h with
        | some s => evOps call T ops rest s
        | none => none
      | some (.skip h) => match s.put o.dst (.tuple []) h with
        | some s => evOps call T ops rest s
        | none => none
      | some (.enter f args) => match call f args s.h with
        | some (.ret v, h) => match s.put o.dst v h with
          | some s => evOps call T ops rest s
          | none => none
        | some (.pan v, h) => some (.panic v, ⟨s.tm, s.n, h, s.ds⟩)
        | none => none
      | some (.defer d) => match (⟨s.tm, s.n, s.h, d :: s.ds⟩ : St).put o.dst (.tuple []) s.h with
        | some s => evOps call T ops rest s
        | none => none
      | some (.panic v) => some (.panic v, s)
      | _ => none)
    (match s.put o.dst (.tuple []) s.h with
      | some s => evOps call T ops rest s
      | none => none)

/-! ### A region that draws its order: the lexical order, and a look whether any other does the same -/
inductive Fp where
  /-- looks at no block, turns none -/
  | none
  | rd (b : Nat)
  | wr (b : Nat)
  /-- looks at all; 'clean': turns none -/
  | call (clean : Bool)

structure Ent where
  i : Nat
  fp : Fp
  n0 : Nat
  n1 : Nat

def fpOf (o : Oper) (e : Operand → AV) : Fp :=
  match o.op with
  | .load _ a => match e a with
    | .ptr b _ => .rd b
    | _ => .call false
  | .store _ a _ => match e a with
    | .ptr b _ => .wr b
    | _ => .call false
  | .call c => match c.callee with
    | .builtin .len | .builtin .max | .builtin .min => .none
    | _ => .call false
  | _ => .none

/-- One operation of such a region. -/
def drawOp (call : CallF) (T : Tab) (ops : List Oper) (s : St) (o : Oper) : Option (St × Fp) :=
  cond (s.wanted ops o) (match evOp T s.ev s.h o with
      | some (.val v h) => match s.put o.dst v h with
        | some s' => some (s', fpOf o s.ev)
        | none => none
      | some (.skip h) => match s.put o.dst (.tuple []) h with
        | some s' => some (s', fpOf o s.ev)
        | none => none
      | some (.enter f args) => match call f args ⟨s.h.next, s.h.next, s.h.m⟩ with
        | some (.ret v, h) => match s.put o.dst v ⟨h.next, cond (Nat.blt h.low s.h.low) h.low s.h.low, h.m⟩ with
          | some s' => some (s', .call (Nat.ble s.h.next h.low))
          | none => none
        | _ => none
      | _ => none)
    (match s.put o.dst (.tuple []) s.h with
      | some s' => some (s', .none)
      | none => none)

def isQuiet (e : Ent) : Bool :=
  match e.fp with
  | .none => Nat.beq e.n0 e.n1
  | _ => false
def entCons (e : Ent) (l : List Ent) : List Ent := cond (isQuiet e) l (e :: l)

def drawRun (call : CallF) (T : Tab) (ops : List Oper) : List Oper → Nat → St → List Ent → Option (St × List Ent)
  | [], _, s, l => some (s, l)
  | o :: rest, i, s, l => match drawOp call T ops s o with
    | some (s', fp) => drawRun call T ops rest (i + 1) s' (entCons ⟨i, fp, s.h.next, s'.h.next⟩ l)
    | none => none

/-- i made the block b -/
def Ent.made (i : Ent) (b : Nat) : Bool := Nat.ble i.n0 b && Nat.blt b i.n1
/-- may i and j be carried out either way round? -/
def Ent.apart (i j : Ent) : Bool :=
  match i.fp, j.fp with
  | .none, .none => true
  | .none, .rd _ => true
  | .rd _, .none => true
  | .rd _, .rd _ => true
  | .none, .wr b => !i.made b
  | .wr b, .none => !j.made b
  | .rd a, .wr b => !Nat.beq a b
  | .wr b, .rd a => !Nat.beq a b
  | .wr a, .wr b => !Nat.beq a b
  | .call true, .none => true
  | .none, .call true => true
  | .call true, .rd _ => true
  | .rd _, .call true => true
  | .call true, .call true => true
  | _, _ => false

/-- the masks of what must come ahead: bit i of the j-th -/
def comes (bf : List Nat) (i j : Nat) : Bool :=
  match bf[j]? with
  | some m => Nat.testBit m i
  | none => false
def looksOne (bf : List Nat) (e : Ent) : List Ent → Bool
  | [] => true
  | x :: l => (e.apart x || comes bf x.i e.i || comes bf e.i x.i) && looksOne bf e l
def looks (bf : List Nat) : List Ent → Bool
  | [] => true
  | e :: l => looksOne bf e l && looks bf l

/-- what comes ahead of what, in a region -/
def Masks := Tr (List Nat)

def evDraw (call : CallF) (T : Tab) (bf : Option (List Nat)) (ops : List Oper) (s : St) : Option (AExit × St) :=
  match drawRun call T ops ops 0 s [] with
  | some (s', l) => match l with
    | [] => match bf with
      | some _ => some (.normal, s')
      | none => none
    | l => match bf with
      | some bf => cond (looks bf l) (some (.normal, s')) none
      | none => none
  | none => none

def iter (body : St → Option (AExit × St)) : Nat → St → Option (AExit × St)
  | 0, _ => none
  | n + 1, s => match body s with
    | some (.normal, s') => iter body n s'
    | r => r

def evCode (call : CallF) (T : Tab) (M : Nat → Option (List Nat)) (lf : Nat) : Code → St → Option (AExit × St)
  | .skip, s => some (.normal, s)
  | .label _, s => some (.normal, s)
  | .exit id, s => some (.exit id, s)
  | .ret, s => some (.ret, s)
  | .seq a b, s => match evCode call T M lf a s with
    | some (.normal, s') => evCode call T M lf b s'
    | r => r
  | .cond c a b, s => match s.ev c with
    | .flat (.bool t) => cond t (evCode call T M lf a s) (evCode call T M lf b s)
    | _ => none
  | .block id c, s => match evCode call T M lf c s with
    | some (.exit j, s') => cond (Nat.beq j id) (some (.normal, s')) (some (.exit j, s'))
    | r => r
  | .loop c, s => iter (evCode call T M lf c) lf s
  | .scope c, s => evCode call T M lf c s
  | .region id ops draw, s => cond draw (evDraw call T (M id) ops.toList s) (evOps call T ops.toList ops.toList s)
  | _, _ => none

def putArgs : List AV → Nat → Tr AV → Option (Tr AV)
  | [], _, t => some t
  | a :: l, i, t => match Tr.set 40 t i (some a) with
    | some t => putArgs l (i + 1) t
    | none => none

def evResults (T : Tab) (s : St) : List ResultVar → Option (List AV)
  | [] => some []
  | .tmp t :: l => (evResults T s l).map fun r => s.ev (.tmp t) :: r
  | .cell a t :: l => match evLoad T t (s.ev (.tmp a)) s.h with
    | some v => (evResults T s l).map fun r => v :: r
    | none => none
def oneOf : List AV → AV
  | [v] => v
  | l => .tuple l

/-- how a function ends -/
def evEnd (T : Tab) (fn : Func) : Option (AExit × St) → Option (AEnd × Hp)
  | some (.panic v, s) => match s.ds with
    | [] => some (.pan v, s.h)
    | _ => none
  | some (.exit _, _) => none
  | some (_, s) => match s.ds with
    | [] => match evResults T s fn.results.toList with
      | some l => forceA (oneOf l) fun v => some (.ret v, s.h)
      | none => none
    | _ => none
  | none => none

/-- M: the masks of a function's regions -/
def evCall (T : Tab) (M : Nat → Nat → Option (List Nat)) (lf : Nat) : Nat → CallF
  | 0, _, _, _ => none
  | fuel + 1, f, args, h => match T.funs.get f with
    | none => none
    | some fn => match fn.body, putArgs args 0 .nil with
      | some c, some tm => evEnd T fn (evCode (evCall T M lf fuel) T (M f) lf c ⟨tm, args.length + (fn.ntmps - args.length), h, []⟩)
      | _, _ => none

def Hp.empty : Hp := ⟨0, 0, .nil⟩
end Go.Ev

/- EV, part 11: what an evaluation does to the abstract heap's numbers. -/
namespace Go.Ev
open Go

structure Hp.Le (h h' : Hp) : Prop where
  next : h.next ≤ h'.next
  low : h'.low ≤ h.low
  same : ∀ i, i < h'.low → i < h.next → h'.get i = h.get i
  born : (∀ i, h.next ≤ i → h.get i = none) → ∀ i, h'.next ≤ i → h'.get i = none
theorem Hp.Le.refl (h : Hp) : Hp.Le h h := ⟨Nat.le_refl _, Nat.le_refl _, fun _ _ _ => rfl, fun k => k⟩
theorem Hp.Le.trans {a b c : Hp} (h : Hp.Le a b) (k : Hp.Le b c) : Hp.Le a c :=
  ⟨Nat.le_trans h.next k.next, Nat.le_trans k.low h.low, fun i h1 h2 => (k.same i h1 (Nat.lt_of_lt_of_le h2 h.next)).trans (h.same i (Nat.lt_of_lt_of_le h1 k.low) h2), fun hb => k.born (h.born hb)⟩
theorem Hp.new_le {h h' : Hp} {o : AO} (k : h.new o = some h') : Hp.Le h h' := by
  obtain ⟨h1, h2, h3⟩ := Hp.new_get k
  refine ⟨by omega, by omega, fun i _ hi => by rw [h3, if_neg (by omega)], fun hb i hi => ?_⟩
  rw [h3, if_neg (by omega)]
  exact hb i (by omega)
theorem Hp.put_le {h h' : Hp} {b : Nat} {o : Option AO} (k : h.put b o = some h') : Hp.Le h h' := by
  obtain ⟨h1, h2, h3, h4, h5⟩ := Hp.put_get k
  refine ⟨by omega, h3, fun i hi _ => by rw [h5, if_neg (by omega)], fun hb i hi => ?_⟩
  rw [h5, if_neg (by omega)]
  exact hb i (by omega)
theorem newBlk_le {h h' : Hp} {l : List AV} {t : TypeId} {x : Bool} (k : newBlk h l t x = some h') : Hp.Le h h' := by
  simp only [newBlk, forceL_eq] at k
  exact Hp.new_le k
theorem evStoreC_le {b o : Nat} {cs : List AV} {h h' : Hp} (k : evStoreC b o cs h = some h') : Hp.Le h h' := by
  unfold evStoreC at k
  by_cases h1 : allOne cs = true
  · simp only [h1, cond_true] at k
    split at k
    · split at k
      · simp only [forceL_eq] at k
        exact Hp.put_le k
      · cases k
    · cases k
  · simp [Bool.eq_false_iff.mpr h1] at k
theorem evStore_le {T : Tab} {t : TypeId} {a v : AV} {h h' : Hp} (k : evStore T t a v h = some h') : Hp.Le h h' := by
  unfold evStore at k
  split at k
  · split at k
    · rename_i i _
      by_cases h1 : Nat.beq v.cells.length i.size = true
      · simp only [h1, cond_true] at k
        exact evStoreC_le k
      · simp [Bool.eq_false_iff.mpr h1] at k
    · cases k
  · cases k
theorem cond_some {α : Type} {c : Bool} {x : Option α} {y : α} (h : cond c x none = some y) : x = some y := by
  cases c
  · cases h
  · exact h
theorem cond_or {α : Type} {c : Bool} {x z : Option α} {y : α} (h : cond c x z = some y) : x = some y ∨ z = some y := by
  cases c
  · exact .inr h
  · exact .inl h
theorem map_pair {α β : Type} {x : Option α} {f : α → β × α} {v : β} {h' : α} (hf : ∀ a, (f a).2 = a) (h : x.map f = some (v, h')) : x = some h' := by
  simp only [Option.map_eq_some_iff] at h
  obtain ⟨a, h1, h2⟩ := h
  have := hf a
  rw [h2] at this
  simp only at this
  rw [h1, ← this]
theorem evMakeSlice_le {T : Tab} {t : TypeId} {l c v : AV} {h h' : Hp} (k : evMakeSlice T t l c h = some (v, h')) : Hp.Le h h' := by
  unfold evMakeSlice at k
  split at k
  · split at k
    · split at k
      · exact newBlk_le (map_pair (fun _ => rfl) (cond_some k))
      · cases k
    · cases k
  · cases k
theorem evBuildSlice_le {T : Tab} {t : TypeId} {n : Nat} {ps : List (Nat × AV)} {v : AV} {h h' : Hp} (k : evBuildSlice T t n ps h = some (v, h')) : Hp.Le h h' := by
  unfold evBuildSlice at k
  split at k
  · split at k
    · split at k
      · have := cond_some k
        split at this
        · exact newBlk_le (map_pair (fun _ => rfl) this)
        · cases this
      · cases k
    · cases k
  · cases k
theorem evAppend_le {T : Tab} {t1 t2 : TypeId} {s x v : AV} {h h' : Hp} (k : evAppend T t1 t2 s x h = some (v, h')) : Hp.Le h h' := by
  unfold evAppend at k
  split at k
  · split at k
    · split at k
      · split at k
        · have k := cond_some k
          split at k
          · split at k
            · simp only [Option.some.injEq, Prod.mk.injEq] at k
              rw [← k.2]
              exact Hp.Le.refl _
            · exact newBlk_le (map_pair (fun _ => rfl) (cond_some k))
          · rcases cond_or k with k | k
            · exact evStoreC_le (map_pair (fun _ => rfl) k)
            · have k := cond_some k
              split at k
              · exact newBlk_le (map_pair (fun _ => rfl) k)
              · cases k
          · have k := cond_some k
            split at k
            · have k := cond_some k
              split at k
              · rename_i h1 hp
                exact (Hp.put_le hp).trans (newBlk_le (map_pair (fun _ => rfl) k))
              · cases k
            · cases k
          · cases k
        · cases k
      · cases k
    · cases k
  · cases k
theorem evCopy_le {T : Tab} {t1 : TypeId} {d x v : AV} {h h' : Hp} (k : evCopy T t1 d x h = some (v, h')) : Hp.Le h h' := by
  unfold evCopy at k
  split at k
  · split at k
    · split at k
      · split at k
        · exact evStoreC_le (map_pair (fun _ => rfl) k)
        · simp only [Option.some.injEq, Prod.mk.injEq] at k
          rw [← k.2]
          exact Hp.Le.refl _
        · cases k
      · cases k
    · cases k
  · cases k

/-- what a result says of the heap -/
def RLe (h : Hp) : R → Prop
  | .val _ h' => Hp.Le h h'
  | .skip h' => Hp.Le h h'
  | _ => True
theorem R.pure_le {h : Hp} {o : Option AV} {r : R} (k : R.pure h o = some r) : RLe h r := by
  cases o with
  | none => simp [R.pure] at k
  | some v =>
    simp only [R.pure, Option.some.injEq] at k
    subst k
    exact Hp.Le.refl _
theorem R.both_le {h : Hp} {o : Option (AV × Hp)} {r : R} (k : R.both o = some r) (hx : ∀ v h', o = some (v, h') → Hp.Le h h') : RLe h r := by
  cases o with
  | none => simp [R.both] at k
  | some x =>
    obtain ⟨v, h'⟩ := x
    simp only [R.both, Option.some.injEq] at k
    subst k
    exact hx v h' rfl
theorem evBuiltin_le {T : Tab} {b : Builtin} {ts : List TypeId} {args : List AV} {h : Hp} {r : R} (k : evBuiltin T b ts args h = some r) : RLe h r := by
  unfold evBuiltin at k
  split at k
  · split at k
    · exact R.pure_le k
    · cases k
  · split at k
    · exact R.both_le k fun v h' hv => evAppend_le hv
    · cases k
  · split at k
    · exact R.both_le k fun v h' hv => evCopy_le hv
    · cases k
  · split at k
    · exact R.pure_le k
    · cases k
  · split at k
    · exact R.pure_le k
    · cases k
  · simp only [Option.some.injEq] at k
    subst k
    trivial
  · cases k
theorem evOp_le {T : Tab} {e : Operand → AV} {h : Hp} {o : Oper} {r : R} (k : evOp T e h o = some r) : RLe h r := by
  obtain ⟨dst, op, ty, pos, after, guard⟩ := o
  cases op <;> simp only [evOp] at k <;> try (cases k; done)
  case move x => simp only [Option.some.injEq] at k; subst k; exact Hp.Le.refl _
  case assign x => simp only [Option.some.injEq] at k; subst k; exact Hp.Le.refl _
  case pick c a b =>
    split at k
    · simp only [Option.some.injEq] at k; subst k; exact Hp.Le.refl _
    · cases k
  case alloc t =>
    split at k
    · exact R.both_le k fun v h' hv => newBlk_le (map_pair (fun _ => rfl) hv)
    · cases k
  case box t x => exact R.both_le k fun v h' hv => newBlk_le (map_pair (fun _ => rfl) hv)
  case buildSlice t n ps => exact R.both_le k fun v h' hv => evBuildSlice_le hv
  case store t a x =>
    simp only [Option.map_eq_some_iff] at k
    obtain ⟨h', hs, rfl⟩ := k
    exact evStore_le hs
  case nilCheck x =>
    split at k
    · simp only [Option.some.injEq] at k; subst k; exact Hp.Le.refl _
    · cases k
  case makeInterface t x =>
    split at k
    · split at k
      · cases k
      · cases k
      · simp only [Option.some.injEq] at k; subst k; exact Hp.Le.refl _
    · cases k
  case makeFunc fn first cap => simp only [Option.some.injEq] at k; subst k; exact Hp.Le.refl _
  case makeSlice t l c => exact R.both_le k fun v h' hv => evMakeSlice_le hv
  case extract t i =>
    split at k
    · exact R.pure_le k
    · cases k
  case panic x =>
    split at k
    · simp only [Option.some.injEq] at k; subst k; trivial
    · cases k
  case call c =>
    unfold evCallOp at k
    split at k
    · exact evBuiltin_le k
    · split at k
      · split at k
        · simp only [Option.some.injEq] at k; subst k; trivial
        · cases k
      · cases k
    · cases k
  case defer c =>
    split at k
    · split at k
      · simp only [Option.some.injEq] at k; subst k; trivial
      · cases k
    · cases k
  all_goals exact R.pure_le k

theorem St.put_h {s s' : St} {dst : Option Tmp} {v : AV} {h : Hp} (k : s.put dst v h = some s') : s'.h = h ∧ s'.n = s.n ∧ s'.ds = s.ds := by
  unfold St.put at k
  split at k
  · simp only [Option.some.injEq] at k; subst k; exact ⟨rfl, rfl, rfl⟩
  · have k := cond_some k
    simp only [forceA_eq] at k
    split at k
    · simp only [Option.some.injEq] at k; subst k; exact ⟨rfl, rfl, rfl⟩
    · cases k

def CallLe (call : CallF) : Prop := ∀ f args h e h', call f args h = some (e, h') → Hp.Le h h'

theorem evOps_le {call : CallF} (hc : CallLe call) {T : Tab} {ops : List Oper} : ∀ (rest : List Oper) (s : St) (e : AExit) (s' : St), evOps call T ops rest s = some (e, s') → Hp.Le s.h s'.h
  | [], s, e, s', k => by
    simp only [evOps, Option.some.injEq, Prod.mk.injEq] at k
    rw [← k.2]
    exact Hp.Le.refl _
  | o :: rest, s, e, s', k => by
    simp only [evOps] at k
    cases hw : s.wanted ops o with
    | true =>
      simp only [hw, cond_true] at k
      split at k
      · rename_i v h hr
        have h1 : Hp.Le s.h h := evOp_le hr
        split at k
        · rename_i s1 hp
          have h2 := evOps_le hc rest s1 e s' k
          rw [(St.put_h hp).1] at h2
          exact h1.trans h2
        · cases k
      · rename_i h hr
        have h1 : Hp.Le s.h h := evOp_le hr
        split at k
        · rename_i s1 hp
          have h2 := evOps_le hc rest s1 e s' k
          rw [(St.put_h hp).1] at h2
          exact h1.trans h2
        · cases k
      · split at k
        · rename_i v h hcall
          have h1 := hc _ _ _ _ _ hcall
          split at k
          · rename_i s1 hp
            have h2 := evOps_le hc rest s1 e s' k
            rw [(St.put_h hp).1] at h2
            exact h1.trans h2
          · cases k
        · rename_i v h hcall
          simp only [Option.some.injEq, Prod.mk.injEq] at k
          rw [← k.2]
          exact hc _ _ _ _ _ hcall
        · cases k
      · split at k
        · rename_i s1 hp
          have h2 := evOps_le hc rest s1 e s' k
          rw [(St.put_h hp).1] at h2
          exact h2
        · cases k
      · simp only [Option.some.injEq, Prod.mk.injEq] at k
        rw [← k.2]
        exact Hp.Le.refl _
      · cases k
    | false =>
      simp only [hw, cond_false] at k
      split at k
      · rename_i s1 hp
        have h2 := evOps_le hc rest s1 e s' k
        rw [(St.put_h hp).1] at h2
        exact h2
      · cases k

theorem callLe_low {call : CallF} (hc : CallLe call) {f : FuncId} {args : List AV} {h h1 : Hp} {e : AEnd} (k : call f args ⟨h.next, h.next, h.m⟩ = some (e, h1)) :
    Hp.Le h ⟨h1.next, cond (Nat.blt h1.low h.low) h1.low h.low, h1.m⟩ := by
  have := hc _ _ _ _ _ k
  refine ⟨this.next, ?_, ?_, this.born⟩
  · show cond (Nat.blt h1.low h.low) h1.low h.low ≤ h.low
    cases hb : Nat.blt h1.low h.low with
    | true => exact Nat.le_of_lt (Nat.blt_eq.mp hb)
    | false => exact Nat.le_refl _
  · intro i hi hn
    have hi' : i < cond (Nat.blt h1.low h.low) h1.low h.low := hi
    refine this.same i ?_ hn
    cases hb : Nat.blt h1.low h.low with
    | true => rw [hb, cond_true] at hi'; exact hi'
    | false =>
      rw [hb, cond_false] at hi'
      have : ¬ h1.low < h.low := fun e => by rw [Nat.blt_eq.mpr e] at hb; cases hb
      omega

theorem drawOp_le {call : CallF} (hc : CallLe call) {T : Tab} {ops : List Oper} {s s' : St} {o : Oper} {fp : Fp} (k : drawOp call T ops s o = some (s', fp)) : Hp.Le s.h s'.h := by
  unfold drawOp at k
  cases hw : s.wanted ops o with
  | true =>
    simp only [hw, cond_true] at k
    split at k
    · rename_i v h hr
      have h1 : Hp.Le s.h h := evOp_le hr
      split at k
      · rename_i s1 hp
        simp only [Option.some.injEq, Prod.mk.injEq] at k
        rw [← k.1, (St.put_h hp).1]
        exact h1
      · cases k
    · rename_i h hr
      have h1 : Hp.Le s.h h := evOp_le hr
      split at k
      · rename_i s1 hp
        simp only [Option.some.injEq, Prod.mk.injEq] at k
        rw [← k.1, (St.put_h hp).1]
        exact h1
      · cases k
    · split at k
      · rename_i v h hcall
        split at k
        · rename_i s1 hp
          simp only [Option.some.injEq, Prod.mk.injEq] at k
          rw [← k.1, (St.put_h hp).1]
          exact callLe_low hc hcall
        · cases k
      · cases k
    · cases k
  | false =>
    simp only [hw, cond_false] at k
    split at k
    · rename_i s1 hp
      simp only [Option.some.injEq, Prod.mk.injEq] at k
      rw [← k.1, (St.put_h hp).1]
      exact Hp.Le.refl _
    · cases k
theorem drawRun_le {call : CallF} (hc : CallLe call) {T : Tab} {ops : List Oper} : ∀ (rest : List Oper) (i : Nat) (s s' : St) (l l' : List Ent), drawRun call T ops rest i s l = some (s', l') → Hp.Le s.h s'.h
  | [], i, s, s', l, l', k => by
    simp only [drawRun, Option.some.injEq, Prod.mk.injEq] at k
    rw [← k.1]
    exact Hp.Le.refl _
  | o :: rest, i, s, s', l, l', k => by
    simp only [drawRun] at k
    split at k
    · rename_i s1 fp h1
      exact (drawOp_le hc h1).trans (drawRun_le hc rest _ s1 s' _ l' k)
    · cases k
theorem evDraw_run {call : CallF} {T : Tab} {bf : Option (List Nat)} {ops : List Oper} {s s' : St} {e : AExit} (k : evDraw call T bf ops s = some (e, s')) : ∃ l bf', bf = some bf' ∧ drawRun call T ops ops 0 s [] = some (s', l) ∧ e = .normal ∧ looks bf' l = true := by
  unfold evDraw at k
  split at k
  · rename_i s1 l hr
    split at k
    · split at k
      · rename_i bf'
        simp only [Option.some.injEq, Prod.mk.injEq] at k
        obtain ⟨rfl, rfl⟩ := k
        exact ⟨[], bf', rfl, hr, rfl, rfl⟩
      · cases k
    · split at k
      · rename_i bf'
        cases hl : looks bf' l with
        | true =>
          simp only [hl, cond_true, Option.some.injEq, Prod.mk.injEq] at k
          obtain ⟨rfl, rfl⟩ := k
          exact ⟨l, bf', rfl, hr, rfl, hl⟩
        | false => rw [hl] at k; cases k
      · cases k
  · cases k

theorem iter_le {body : St → Option (AExit × St)} (hb : ∀ s e s', body s = some (e, s') → Hp.Le s.h s'.h) : ∀ (n : Nat) (s : St) (e : AExit) (s' : St), iter body n s = some (e, s') → Hp.Le s.h s'.h
  | 0, s, e, s', k => by simp [iter] at k
  | n + 1, s, e, s', k => by
    simp only [iter] at k
    split at k
    · rename_i s1 h1
      exact (hb _ _ _ h1).trans (iter_le hb n s1 e s' k)
    · exact hb _ _ _ k

theorem evCode_le {call : CallF} (hc : CallLe call) {T : Tab} {M : Nat → Option (List Nat)} {lf : Nat} : ∀ (c : Code) (s : St) (e : AExit) (s' : St), evCode call T M lf c s = some (e, s') → Hp.Le s.h s'.h := by
  intro c
  induction c with
  | skip => intro s e s' k; simp only [evCode, Option.some.injEq, Prod.mk.injEq] at k; rw [← k.2]; exact Hp.Le.refl _
  | label l => intro s e s' k; simp only [evCode, Option.some.injEq, Prod.mk.injEq] at k; rw [← k.2]; exact Hp.Le.refl _
  | exit id => intro s e s' k; simp only [evCode, Option.some.injEq, Prod.mk.injEq] at k; rw [← k.2]; exact Hp.Le.refl _
  | ret => intro s e s' k; simp only [evCode, Option.some.injEq, Prod.mk.injEq] at k; rw [← k.2]; exact Hp.Le.refl _
  | seq a b iha ihb =>
    intro s e s' k
    simp only [evCode] at k
    split at k
    · rename_i s1 h1
      exact (iha _ _ _ h1).trans (ihb _ _ _ k)
    · exact iha _ _ _ k
  | cond c a b iha ihb =>
    intro s e s' k
    simp only [evCode] at k
    split at k
    · rename_i t _
      cases t
      · exact ihb _ _ _ k
      · exact iha _ _ _ k
    · cases k
  | block id c ih =>
    intro s e s' k
    simp only [evCode] at k
    split at k
    · rename_i j s1 h1
      have := ih _ _ _ h1
      cases hj : Nat.beq j id with
      | true =>
        simp only [hj, cond_true, Option.some.injEq, Prod.mk.injEq] at k
        rw [← k.2]
        exact this
      | false =>
        simp only [hj, cond_false, Option.some.injEq, Prod.mk.injEq] at k
        rw [← k.2]
        exact this
    · exact ih _ _ _ k
  | loop c ih =>
    intro s e s' k
    simp only [evCode] at k
    exact iter_le ih lf s e s' k
  | scope c ih => intro s e s' k; simp only [evCode] at k; exact ih _ _ _ k
  | region id ops draw =>
    intro s e s' k
    simp only [evCode] at k
    cases draw with
    | true =>
      obtain ⟨l, bf', _, h1, _⟩ := evDraw_run k
      exact drawRun_le hc _ _ _ _ _ _ h1
    | false => exact evOps_le hc _ _ _ _ k
  | rangeFunc f ps a b _ _ => intro s e s' k; simp [evCode] at k
  | goto l => intro s e s' k; simp [evCode] at k
  | refuse w => intro s e s' k; simp [evCode] at k

theorem evEnd_le {T : Tab} {fn : Func} {x : AExit} {s : St} {e : AEnd} {h' : Hp} (k : evEnd T fn (some (x, s)) = some (e, h')) : h' = s.h := by
  cases x <;> simp only [evEnd] at k
  case panic v =>
    split at k
    · simp only [Option.some.injEq, Prod.mk.injEq] at k; exact k.2.symm
    · cases k
  case exit => cases k
  all_goals
    split at k
    · split at k
      · simp only [forceA_eq, Option.some.injEq, Prod.mk.injEq] at k; exact k.2.symm
      · cases k
    · cases k

theorem evCall_le {T : Tab} {M : Nat → Nat → Option (List Nat)} {lf : Nat} : ∀ n, CallLe (evCall T M lf n)
  | 0 => fun f args h e h' k => by simp [evCall] at k
  | n + 1 => fun f args h e h' k => by
    simp only [evCall] at k
    split at k
    · cases k
    · rename_i fn _
      split at k
      · rename_i c tm _ _
        cases hcode : evCode (evCall T M lf n) T (M f) lf c ⟨tm, args.length + (fn.ntmps - args.length), h, []⟩ with
        | none => rw [hcode] at k; simp [evEnd] at k
        | some r =>
          obtain ⟨x, s⟩ := r
          rw [hcode] at k
          rw [evEnd_le k]
          exact evCode_le (evCall_le n) _ _ _ _ hcode
      · cases k
end Go.Ev

/- EV, part 12: the frame's relation; operations in order. -/
namespace Go.Ev
open Go

def relDs (ρ : Ren) : List ADef → List Deferred → Prop
  | [], l => l = []
  | d :: ds, l => ∃ x xs, l = x :: xs ∧ d.rel ρ x ∧ relDs ρ ds xs
theorem relDs_mono {ρ ρ' : Ren} (h : Ren.le ρ ρ') : ∀ {d : List ADef} {l : List Deferred}, relDs ρ d l → relDs ρ' d l
  | [], l, k => k
  | d :: ds, l, k => by
    obtain ⟨x, xs, h1, h2, h3⟩ := k
    exact ⟨x, xs, h1, ADef.rel_mono h h2, relDs_mono h h3⟩

/-- a slot, as the evaluator reads it -/
def St.slot (s : St) (t : Nat) : AV := match s.tm.get t with
  | some v => v
  | none => .tuple []

structure SRel (D : Nat → Prop) (ρ : Ren) (s : St) (a : Act) (w : World) : Prop where
  tm : ∀ t, (s.slot t).rel ρ (a.tmps.getD t undef)
  sz : a.tmps.size = s.n
  hr : HR D ρ s.h w
  ds : relDs ρ s.ds a.defers

theorem rel_undef (ρ : Ren) : AV.rel ρ (.tuple []) undef := by
  simp only [AV.rel]
  exact ⟨[], rfl, by simp [AV.relL]⟩

theorem SRel.ev {D : Nat → Prop} {ρ : Ren} {s : St} {a : Act} {w : World} (k : SRel D ρ s a w) (x : Operand) : (s.ev x).rel ρ (a.eval x) := by
  cases x with
  | tmp t => exact k.tm t
  | const v => exact rel_toAV ρ v
  | global g => simp only [St.ev, AV.rel, Act.eval]
  | func f =>
    simp only [St.ev, AV.rel, Act.eval]
    exact ⟨[], [], rfl, by simp [AV.relL], by simp [AV.relL]⟩

theorem put_slot {s s' : St} {dst : Option Tmp} {v : AV} {h : Hp} (k : s.put dst v h = some s') (t : Nat) : s'.slot t = if dst = some t then v else s.slot t := by
  unfold St.put at k
  cases dst with
  | none =>
    simp only [Option.some.injEq] at k
    subst k
    simp [St.slot]
  | some d =>
    have k := cond_some k
    simp only [forceA_eq] at k
    split at k
    · rename_i tm htm
      simp only [Option.some.injEq] at k
      subst k
      have := Tr.get_set _ _ _ _ _ htm t
      simp only [St.slot, this]
      by_cases e : t = d
      · simp [e]
      · have e' : ¬ d = t := fun h => e h.symm
        simp [e, e']
    · cases k
theorem put_dst {s s' : St} {d : Tmp} {v : AV} {h : Hp} (k : s.put (some d) v h = some s') : d < s.n := by
  unfold St.put at k
  cases hb : Nat.blt d s.n with
  | true => exact Nat.blt_eq.mp hb
  | false => simp [hb] at k

theorem getD_put {a : Act} {dst : Option Tmp} {v : Value} (t : Nat) (hd : ∀ d, dst = some d → d < a.tmps.size) : (a.put dst v).tmps.getD t undef = if dst = some t then v else a.tmps.getD t undef := by
  cases dst with
  | none => simp [Act.put]
  | some d =>
    have := hd d rfl
    simp only [Act.put, Option.some.injEq]
    by_cases e : d = t
    · subst e
      simp [this]
    · simp [e, Array.getElem?_setIfInBounds_ne e]
theorem size_put {a : Act} {dst : Option Tmp} {v : Value} : (a.put dst v).tmps.size = a.tmps.size := by
  cases dst <;> simp [Act.put]
theorem defers_put {a : Act} {dst : Option Tmp} {v : Value} : (a.put dst v).defers = a.defers := by
  cases dst <;> rfl

theorem SRel.put {D : Nat → Prop} {ρ ρ' : Ren} {s s' : St} {a : Act} {w w' : World} {h' : Hp} (k : SRel D ρ s a w) (st : Step D ρ s.h w ρ' h' w') {dst : Option Tmp} {v : AV} {v' : Value} (hv : v.rel ρ' v')
    (hp : s.put dst v h' = some s') : SRel D ρ' s' (a.put dst v') w' := by
  obtain ⟨h1, h2, h3⟩ := St.put_h hp
  refine ⟨fun t => ?_, by rw [size_put, k.sz, h2], by rw [h1]; exact st.hr, by rw [h3, defers_put]; exact relDs_mono st.le k.ds⟩
  rw [put_slot hp t, getD_put t (fun d hd => by subst hd; rw [k.sz]; exact put_dst hp)]
  by_cases e : dst = some t
  · simp only [e, if_true]
    exact hv
  · simp only [e, if_false]
    exact AV.rel_mono st.le _ _ (k.tm t)

/-! ### guards -/
theorem flat_bool {ρ : Ren} {x : AV} {v : Value} (h : x.rel ρ v) : (∃ b, x = .flat (.bool b) ∧ v = .bool b) ∨ ((∀ b, x ≠ .flat (.bool b)) ∧ ∀ b, v ≠ .bool b) := by
  cases x with
  | flat u =>
    simp only [AV.rel] at h
    subst h
    cases v with
    | bool b => exact .inl ⟨b, rfl, rfl⟩
    | _ => exact .inr ⟨by simp, by simp⟩
  | slice b o n c => obtain ⟨_, _, _, _, rfl, _⟩ := slice_shape h; exact .inr ⟨by simp, by simp⟩
  | ptr b o => simp only [AV.rel] at h; obtain ⟨_, _, _, rfl⟩ := h; exact .inr ⟨by simp, by simp⟩
  | map r => simp only [AV.rel] at h; obtain ⟨_, _, _, rfl⟩ := h; exact .inr ⟨by simp, by simp⟩
  | func f a b => simp only [AV.rel] at h; obtain ⟨_, _, rfl, _⟩ := h; exact .inr ⟨by simp, by simp⟩
  | iface t x => simp only [AV.rel] at h; obtain ⟨_, rfl, _⟩ := h; exact .inr ⟨by simp, by simp⟩
  | agg l => simp only [AV.rel] at h; obtain ⟨_, rfl, _⟩ := h; exact .inr ⟨by simp, by simp⟩
  | tuple l => simp only [AV.rel] at h; obtain ⟨_, rfl, _⟩ := h; exact .inr ⟨by simp, by simp⟩

theorem wanted_rel {ρ : Ren} {s : St} {tmps : Array Value} {ops : Array Oper} {o : Oper} (h : ∀ j want, o.guard = some (j, want) → ∀ oj d, ops[j]? = some oj → oj.dst = some d → (s.slot d).rel ρ (tmps.getD d undef)) :
    Region.wanted o (yielded ops tmps) = s.wanted ops.toList o := by
  unfold Region.wanted St.wanted
  cases hg : o.guard with
  | none => rfl
  | some g =>
    obtain ⟨j, want⟩ := g
    simp only [yielded]
    rw [← Array.getElem?_toList]
    cases hj : ops.toList[j]? with
    | none => simp
    | some oj =>
      simp only [Option.bind_some]
      cases hd : oj.dst with
      | none => simp
      | some d =>
        have hr := h j want hg oj d (by rw [← Array.getElem?_toList]; exact hj) hd
        simp only [Option.bind_some]
        rcases flat_bool hr with ⟨b, h1, h2⟩ | ⟨h1, h2⟩
        · have hlt : d < tmps.size := by
            rcases Nat.lt_or_ge d tmps.size with h | h
            · exact h
            · rw [Array.getD_eq_getD_getElem?, Array.getElem?_eq_none h] at h2
              cases h2
          have h3 : tmps[d]? = some (.bool b) := by
            rw [Array.getD_eq_getD_getElem?, Array.getElem?_eq_getElem hlt] at h2
            rw [Array.getElem?_eq_getElem hlt]
            simpa using h2
          have h4 : s.tm.get d = some (.flat (.bool b)) := by
            unfold St.slot at h1
            split at h1
            · rename_i v hv; rw [hv, h1]
            · cases h1
          rw [h3, h4]
          cases b <;> cases want <;> rfl
        · split
          · rename_i b hb
            rw [Array.getD_eq_getD_getElem?, hb] at h2
            exact absurd rfl (h2 b)
          · split
            · rename_i b hb
              exact absurd (by unfold St.slot; rw [hb]) (h1 b)
            · cases want <;> rfl

/-! ### ends -/
def EndRel (ρ : Ren) : AEnd → Ending → Prop
  | .ret v, e => ∃ v', e = .returned v' ∧ v.rel ρ v'
  | .pan v, e => ∃ v', e = .panicked [{ v := v', recovered := false }] ∧ v.rel ρ v'
def ExRel (ρ : Ren) : AExit → Exit → Prop
  | .normal, e => e = .normal
  | .exit id, e => e = .exit id
  | .ret, e => e = .ret
  | .panic v, e => ∃ v', e = .panic [{ v := v', recovered := false }] ∧ v.rel ρ v'

def CallOk (P : Program) (call : CallF) : Prop :=
  ∀ f args h e h', call f args h = some (e, h') → ∀ (D : Nat → Prop) (ρ : Ren) (w : World) (args' : List Value), HR D ρ h w → Free ρ h.next h'.next → AV.relL ρ args args' →
    Calls P f ⟨args'⟩ w fun e' w' => ∃ ρ', Step D ρ h w ρ' h' w' ∧ EndRel ρ' e e'

def Done (D : Nat → Prop) (ρ : Ren) (h : Hp) (w : World) (e : AExit) (s' : St) (Q : Exit → Act → World → Prop) : Prop :=
  ∀ ρ' e' a' w', Step D ρ h w ρ' s'.h w' → SRel D ρ' s' a' w' → ExRel ρ' e e' → Q e' a' w'

theorem Done.step {D : Nat → Prop} {ρ ρ1 : Ren} {h h1 : Hp} {w w1 : World} {e : AExit} {s' : St} {Q : Exit → Act → World → Prop} (d : Done D ρ h w e s' Q) (st : Step D ρ h w ρ1 h1 w1) : Done D ρ1 h1 w1 e s' Q :=
  fun ρ' e' a' w' st' sr er => d ρ' e' a' w' (st.trans st') sr er

theorem evOps_sound {P : Program} {T : Tab} (hT : T.Ok P) {call : CallF} (hc : CallOk P call) (hcl : CallLe call) {ops : Array Oper} : ∀ (rest : List Oper) (i : Nat) (s : St) (e : AExit) (s' : St),
    (∀ j, rest[j]? = ops.toList[i + j]?) → evOps call T ops.toList rest s = some (e, s') → ∀ (D : Nat → Prop) (ρ : Ren) (a : Act) (w : World) (Q : Exit → Act → World → Prop), SRel D ρ s a w → Free ρ s.h.next s'.h.next →
    Done D ρ s.h w e s' Q → wpOps P ops Q (List.range' i rest.length) a w
  | [], i, s, e, s', _, k, D, ρ, a, w, Q, sr, fr, dn => by
    simp only [evOps, Option.some.injEq, Prod.mk.injEq] at k
    obtain ⟨rfl, rfl⟩ := k
    exact dn ρ .normal a w (Step.refl sr.hr) sr rfl
  | o :: rest, i, s, e, s', hr, k, D, ρ, a, w, Q, sr, fr, dn => by
    have ho : ops[i]? = some o := by
      have := hr 0
      simp only [List.getElem?_cons_zero, Nat.add_zero] at this
      rw [← Array.getElem?_toList]
      exact this.symm
    have hr' : ∀ j, rest[j]? = ops.toList[(i + 1) + j]? := fun j => by
      have := hr (j + 1)
      simp only [List.getElem?_cons_succ] at this
      rw [this]
      congr 1
      omega
    simp only [List.length_cons, List.range'_succ, wpOps, ho]
    have hwant : Region.wanted o (yielded ops a.tmps) = s.wanted ops.toList o := wanted_rel (ρ := ρ) fun j want _ oj d _ _ => sr.tm d
    simp only [evOps] at k
    rw [hwant]
    cases hw : s.wanted ops.toList o with
    | true =>
      simp only [hw, cond_true] at k
      rw [if_pos rfl]
      refine .inl ?_
      have he := sr.ev
      unfold Oper.wp
      split at k
      · rename_i v h hop
        have hle : Hp.Le s.h h := evOp_le hop
        split at k
        · rename_i s1 hp
          have hle2 := evOps_le hcl rest s1 e s' k
          rw [(St.put_h hp).1] at hle2
          have hs := evOp_sound hT sr.hr he hop
          obtain ⟨ρ', v', w', h1, h2, h3⟩ := hs (fr.mono hle2.next)
          rw [h1]
          have sr1 := sr.put h2 h3 hp
          exact evOps_sound hT hc hcl rest (i + 1) s1 e s' hr' k D ρ' _ w' Q sr1 (by rw [(St.put_h hp).1]; exact fr.step h2) (by rw [(St.put_h hp).1]; exact dn.step h2)
        · cases k
      · rename_i h hop
        split at k
        · rename_i s1 hp
          have hle2 := evOps_le hcl rest s1 e s' k
          rw [(St.put_h hp).1] at hle2
          have hs := evOp_sound hT sr.hr he hop
          obtain ⟨ρ', w', h1, h2⟩ := hs (fr.mono hle2.next)
          rw [h1]
          have sr1 := sr.put h2 (rel_undef ρ') hp
          exact evOps_sound hT hc hcl rest (i + 1) s1 e s' hr' k D ρ' _ w' Q sr1 (by rw [(St.put_h hp).1]; exact fr.step h2) (by rw [(St.put_h hp).1]; exact dn.step h2)
        · cases k
      · rename_i f args hop
        obtain ⟨args', h1, h2⟩ := evOp_sound hT sr.hr he hop
        rw [h1]
        simp only [Oper.upon]
        split at k
        · rename_i v h hcall
          have hle := hcl _ _ _ _ _ hcall
          split at k
          · rename_i s1 hp
            have hle2 := evOps_le hcl rest s1 e s' k
            rw [(St.put_h hp).1] at hle2
            refine (hc _ _ _ _ _ hcall D ρ w args' sr.hr (fr.mono hle2.next) h2).mono ?_
            rintro e' w' ⟨ρ', hst, v', rfl, hv'⟩
            have sr1 := sr.put hst hv' hp
            exact evOps_sound hT hc hcl rest (i + 1) s1 e s' hr' k D ρ' _ w' Q sr1 (by rw [(St.put_h hp).1]; exact fr.step hst) (by rw [(St.put_h hp).1]; exact dn.step hst)
          · cases k
        · rename_i v h hcall
          simp only [Option.some.injEq, Prod.mk.injEq] at k
          obtain ⟨rfl, rfl⟩ := k
          refine (hc _ _ _ _ _ hcall D ρ w args' sr.hr fr h2).mono ?_
          rintro e' w' ⟨ρ', hst, v', rfl, hv'⟩
          exact dn ρ' _ a w' hst ⟨fun t => AV.rel_mono hst.le _ _ (sr.tm t), sr.sz, hst.hr, relDs_mono hst.le sr.ds⟩ ⟨v', rfl, hv'⟩
        · cases k
      · rename_i d hop
        obtain ⟨d', h1, h2⟩ := evOp_sound hT sr.hr he hop
        rw [h1]
        simp only [Oper.upon]
        split at k
        · rename_i s1 hp
          have sr0 : SRel D ρ ⟨s.tm, s.n, s.h, d :: s.ds⟩ { a with defers := d' :: a.defers } w := ⟨sr.tm, sr.sz, sr.hr, d', a.defers, rfl, h2, sr.ds⟩
          have sr1 := sr0.put (Step.refl sr.hr) (rel_undef ρ) hp
          exact evOps_sound hT hc hcl rest (i + 1) s1 e s' hr' k D ρ _ w Q sr1 (by rw [(St.put_h hp).1]; exact fr) (by rw [(St.put_h hp).1]; exact dn)
        · cases k
      · rename_i v hop
        obtain ⟨v', h1, h2⟩ := evOp_sound hT sr.hr he hop
        rw [h1]
        simp only [Option.some.injEq, Prod.mk.injEq] at k
        obtain ⟨rfl, rfl⟩ := k
        exact dn ρ _ a w (Step.refl sr.hr) sr ⟨v', rfl, h2⟩
      · cases k
    | false =>
      simp only [hw, cond_false] at k
      rw [if_neg (by simp)]
      split at k
      · rename_i s1 hp
        have sr1 := sr.put (Step.refl sr.hr) (rel_undef ρ) hp
        exact evOps_sound hT hc hcl rest (i + 1) s1 e s' hr' k D ρ _ w Q sr1 (by rw [(St.put_h hp).1]; exact fr) (by rw [(St.put_h hp).1]; exact dn)
      · cases k
end Go.Ev

/- EV, part 13: code, calls. -/
namespace Go.Ev
open Go

/-- What is asked of a region that draws its order: bf says truly what comes ahead, and what is not so ordered shares no temporary. -/
def regOk (bf : List Nat) (ops : List Oper) : Bool :=
  (List.range ops.length).all fun j => match ops[j]? with
    | none => true
    | some oj => (oj.after.toList.all fun e => !Region.binds .any e || Nat.blt e.on j) && (List.range ops.length).all fun i => match ops[i]? with
      | none => true
      | some oi => (cond (comes bf i j) (oj.after.toList.any fun e => Region.binds .any e && (Nat.beq e.on i || comes bf i e.on)) true)
        && (cond (Nat.blt i j) (comes bf i j || oi.apart ops.toArray oj) (!comes bf i j))

def regsOk (M : Nat → Option (List Nat)) : Code → Bool
  | .seq a b => regsOk M a && regsOk M b
  | .cond _ a b => regsOk M a && regsOk M b
  | .block _ c | .loop c | .scope c => regsOk M c
  | .region id ops true => match M id with
    | some bf => regOk bf ops.toList
    | none => true
  | _ => true

def DrawOk (P : Program) (call : CallF) (T : Tab) : Prop :=
  ∀ id bf (ops : Array Oper) s e s', regOk bf ops.toList = true → evDraw call T (some bf) ops.toList s = some (e, s') →
    ∀ (D : Nat → Prop) (ρ : Ren) (a : Act) (w : World) (Q : Exit → Act → World → Prop), SRel D ρ s a w → Free ρ s.h.next s'.h.next → Done D ρ s.h w e s' Q → (Code.region id ops true).wp P Q a w

theorem iter_sound {P : Program} {body : St → Option (AExit × St)} {c : Code} (hle : ∀ s e s', body s = some (e, s') → Hp.Le s.h s'.h)
    (hb : ∀ s e s', body s = some (e, s') → ∀ (D : Nat → Prop) (ρ : Ren) (a : Act) (w : World) (Q : Exit → Act → World → Prop), SRel D ρ s a w → Free ρ s.h.next s'.h.next → Done D ρ s.h w e s' Q → c.wp P Q a w) :
    ∀ (n : Nat) (s : St) (e : AExit) (s' : St), iter body n s = some (e, s') → ∀ (D : Nat → Prop) (ρ : Ren) (a : Act) (w : World) (Q : Exit → Act → World → Prop), SRel D ρ s a w → Free ρ s.h.next s'.h.next → Done D ρ s.h w e s' Q → Code.rounds P c Q n a w
  | 0, s, e, s', k, D, ρ, a, w, Q, sr, fr, dn => by simp [iter] at k
  | n + 1, s, e, s', k, D, ρ, a, w, Q, sr, fr, dn => by
    simp only [iter] at k
    rw [rounds_succ]
    split at k
    · rename_i s1 h1
      have hle2 := iter_le hle n s1 e s' k
      refine hb s .normal s1 h1 D ρ a w _ sr (fr.mono hle2.next) ?_
      intro ρ' e' a' w' st sr' er
      simp only [ExRel] at er
      subst er
      exact iter_sound hle hb n s1 e s' k D ρ' a' w' Q sr' (fr.step st) (dn.step st)
    · rename_i hne
      refine hb s e s' k D ρ a w _ sr fr ?_
      intro ρ' e' a' w' st sr' er
      cases e with
      | normal => exact absurd k (hne s')
      | exit id =>
        have er' := er
        simp only [ExRel] at er'
        subst er'
        exact dn ρ' _ a' w' st sr' er
      | ret =>
        have er' := er
        simp only [ExRel] at er'
        subst er'
        exact dn ρ' _ a' w' st sr' er
      | panic v =>
        obtain ⟨v', rfl, hv⟩ := er
        exact dn ρ' _ a' w' st sr' ⟨v', rfl, hv⟩

theorem evCode_sound {P : Program} {T : Tab} (hT : T.Ok P) {call : CallF} (hc : CallOk P call) (hcl : CallLe call) (hd : DrawOk P call T) {M : Nat → Option (List Nat)} {lf : Nat} : ∀ (c : Code), regsOk M c = true → ∀ (s : St) (e : AExit) (s' : St),
    evCode call T M lf c s = some (e, s') → ∀ (D : Nat → Prop) (ρ : Ren) (a : Act) (w : World) (Q : Exit → Act → World → Prop), SRel D ρ s a w → Free ρ s.h.next s'.h.next → Done D ρ s.h w e s' Q → c.wp P Q a w := by
  intro c
  induction c with
  | skip =>
    intro _ s e s' k D ρ a w Q sr fr dn
    simp only [evCode, Option.some.injEq, Prod.mk.injEq] at k
    obtain ⟨rfl, rfl⟩ := k
    exact wp_skip (dn ρ _ a w (Step.refl sr.hr) sr rfl)
  | label l =>
    intro _ s e s' k D ρ a w Q sr fr dn
    simp only [evCode, Option.some.injEq, Prod.mk.injEq] at k
    obtain ⟨rfl, rfl⟩ := k
    exact wp_label (dn ρ _ a w (Step.refl sr.hr) sr rfl)
  | exit id =>
    intro _ s e s' k D ρ a w Q sr fr dn
    simp only [evCode, Option.some.injEq, Prod.mk.injEq] at k
    obtain ⟨rfl, rfl⟩ := k
    exact wp_exit (dn ρ _ a w (Step.refl sr.hr) sr rfl)
  | ret =>
    intro _ s e s' k D ρ a w Q sr fr dn
    simp only [evCode, Option.some.injEq, Prod.mk.injEq] at k
    obtain ⟨rfl, rfl⟩ := k
    exact wp_ret (dn ρ _ a w (Step.refl sr.hr) sr rfl)
  | seq x y ihx ihy =>
    intro ho s e s' k D ρ a w Q sr fr dn
    simp only [regsOk, Bool.and_eq_true] at ho
    simp only [evCode] at k
    refine wp_seq ?_
    split at k
    · rename_i s1 h1
      have hle2 := evCode_le hcl y s1 e s' k
      refine ihx ho.1 s .normal s1 h1 D ρ a w _ sr (fr.mono hle2.next) ?_
      intro ρ' e' a' w' st sr' er
      simp only [ExRel] at er
      subst er
      exact ihy ho.2 s1 e s' k D ρ' a' w' Q sr' (fr.step st) (dn.step st)
    · rename_i hne
      refine ihx ho.1 s e s' k D ρ a w _ sr fr ?_
      intro ρ' e' a' w' st sr' er
      cases e with
      | normal => exact absurd k (hne s')
      | exit id => have er' := er; simp only [ExRel] at er'; subst er'; exact dn ρ' _ a' w' st sr' er
      | ret => have er' := er; simp only [ExRel] at er'; subst er'; exact dn ρ' _ a' w' st sr' er
      | panic v => obtain ⟨v', rfl, hv⟩ := er; exact dn ρ' _ a' w' st sr' ⟨v', rfl, hv⟩
  | cond c x y ihx ihy =>
    intro ho s e s' k D ρ a w Q sr fr dn
    simp only [regsOk, Bool.and_eq_true] at ho
    simp only [evCode] at k
    have hev := sr.ev c
    split at k
    · rename_i t ht
      rw [ht] at hev
      simp only [AV.rel] at hev
      refine wp_cond hev ?_
      cases t
      · exact ihy ho.2 s e s' k D ρ a w Q sr fr dn
      · exact ihx ho.1 s e s' k D ρ a w Q sr fr dn
    · cases k
  | block id c ih =>
    intro ho s e s' k D ρ a w Q sr fr dn
    simp only [regsOk] at ho
    simp only [evCode] at k
    refine wp_block ?_
    split at k
    · rename_i j s1 h1
      cases hj : Nat.beq j id with
      | true =>
        simp only [hj, cond_true, Option.some.injEq, Prod.mk.injEq] at k
        obtain ⟨rfl, rfl⟩ := k
        refine ih ho s _ _ h1 D ρ a w _ sr fr ?_
        intro ρ' e' a' w' st sr' er
        simp only [ExRel] at er
        subst er
        simp only [Exit.inBlock, Nat.beq_eq.mp hj, if_true]
        exact dn ρ' _ a' w' st sr' rfl
      | false =>
        simp only [hj, cond_false, Option.some.injEq, Prod.mk.injEq] at k
        obtain ⟨rfl, rfl⟩ := k
        refine ih ho s _ _ h1 D ρ a w _ sr fr ?_
        intro ρ' e' a' w' st sr' er
        simp only [ExRel] at er
        subst er
        have : ¬ j = id := fun e => by rw [Nat.beq_eq.mpr e] at hj; cases hj
        simp only [Exit.inBlock, this, if_false]
        exact dn ρ' _ a' w' st sr' rfl
    · rename_i hne
      refine ih ho s e s' k D ρ a w _ sr fr ?_
      intro ρ' e' a' w' st sr' er
      cases e with
      | normal => have er' := er; simp only [ExRel] at er'; subst er'; exact dn ρ' _ a' w' st sr' er
      | exit id => exact absurd k (hne _ _)
      | ret => have er' := er; simp only [ExRel] at er'; subst er'; exact dn ρ' _ a' w' st sr' er
      | panic v => obtain ⟨v', rfl, hv⟩ := er; exact dn ρ' _ a' w' st sr' ⟨v', rfl, hv⟩
  | loop c ih =>
    intro ho s e s' k D ρ a w Q sr fr dn
    simp only [regsOk] at ho
    simp only [evCode] at k
    exact wp_loop_rounds lf (iter_sound (fun s e s' h => evCode_le hcl c s e s' h) (ih ho) lf s e s' k D ρ a w Q sr fr dn)
  | scope c ih =>
    intro ho s e s' k D ρ a w Q sr fr dn
    simp only [regsOk] at ho
    simp only [evCode] at k
    refine wp_scope_straight (ih ho s e s' k D ρ a w _ sr fr ?_)
    intro ρ' e' a' w' st sr' er
    cases e with
    | normal => have er' := er; simp only [ExRel] at er'; subst er'; exact dn ρ' _ a' w' st sr' er
    | exit id => have er' := er; simp only [ExRel] at er'; subst er'; exact dn ρ' _ a' w' st sr' er
    | ret => have er' := er; simp only [ExRel] at er'; subst er'; exact dn ρ' _ a' w' st sr' er
    | panic v => obtain ⟨v', rfl, hv⟩ := er; exact dn ρ' _ a' w' st sr' ⟨v', rfl, hv⟩
  | region id ops draw =>
    intro ho s e s' k D ρ a w Q sr fr dn
    simp only [evCode] at k
    cases draw with
    | true =>
      simp only [cond_true] at k
      obtain ⟨l, bf', hbf, _⟩ := evDraw_run k
      rw [hbf] at k
      simp only [regsOk, hbf] at ho
      exact hd id bf' ops s e s' ho k D ρ a w Q sr fr dn
    | false =>
      simp only [cond_false] at k
      have := evOps_sound hT hc hcl (ops := ops) ops.toList 0 s e s' (fun j => by simp) k D ρ a w Q sr fr dn
      refine wp_region ?_
      rw [List.range_eq_range']
      simpa using this
  | rangeFunc f ps x y _ _ => intro _ s e s' k; simp [evCode] at k
  | goto l => intro _ s e s' k; simp [evCode] at k
  | refuse w => intro _ s e s' k; simp [evCode] at k

/-! ### results -/
theorem evResults_sound {P : Program} {T : Tab} (hT : T.Ok P) {D : Nat → Prop} {ρ : Ren} {s : St} {a : Act} {w : World} (sr : SRel D ρ s a w) : ∀ (l : List ResultVar) (r : List AV), evResults T s l = some r →
    ∃ vs, (l.mapM (m := Sem) fun | .tmp t => pure (a.tmps.getD t undef) | .cell x t => do loadVar t (← asAddr (a.tmps.getD x undef))).run P w = .ok vs w ∧ AV.relL ρ r vs
  | [], r, k => by
    simp only [evResults, Option.some.injEq] at k
    subst k
    exact ⟨[], by simp, by simp [AV.relL]⟩
  | .tmp t :: l, r, k => by
    simp only [evResults, Option.map_eq_some_iff] at k
    obtain ⟨r', h1, rfl⟩ := k
    obtain ⟨vs, h2, h3⟩ := evResults_sound hT sr l r' h1
    refine ⟨a.tmps.getD t undef :: vs, ?_, relL_cons.2 ⟨_, _, rfl, sr.ev (.tmp t), h3⟩⟩
    rw [List.mapM_cons]
    simp only [Sem.run_bind, Sem.run_pure, Result.andThen_ok, h2]
  | .cell x t :: l, r, k => by
    simp only [evResults] at k
    split at k
    · rename_i v hv
      simp only [Option.map_eq_some_iff] at k
      obtain ⟨r', h1, rfl⟩ := k
      obtain ⟨vs, h2, h3⟩ := evResults_sound hT sr l r' h1
      obtain ⟨y, h4, h5⟩ := evLoad_sound (P := P) hT sr.hr (sr.ev (.tmp x)) hv
      have hp : ∃ ad, a.tmps.getD x undef = .pointer (some ad) := by
        have := sr.ev (.tmp x)
        unfold evLoad at hv
        split at hv
        · rename_i b o hb
          rw [hb] at this
          simp only [AV.rel] at this
          obtain ⟨b', n', _, h⟩ := this
          exact ⟨_, h⟩
        · cases hv
      obtain ⟨ad, had⟩ := hp
      refine ⟨y :: vs, ?_, relL_cons.2 ⟨_, _, rfl, h5, h3⟩⟩
      rw [List.mapM_cons]
      simp only [Act.eval, had, Instr.loadAt, Instr.sureAddr, Sem.run_bind, Sem.run_pure, Result.andThen_ok] at h4
      have hadr : asAddr (a.tmps.getD x undef) = pure ad := by rw [had]; rfl
      simp only [hadr, Sem.run_bind, Sem.run_pure, Result.andThen_ok, h4, h2]
    · cases k

theorem run_results {P : Program} {T : Tab} (hT : T.Ok P) {D : Nat → Prop} {ρ : Ren} {s : St} {a : Act} {w : World} (sr : SRel D ρ s a w) {fn : Func} {r : List AV} (k : evResults T s fn.results.toList = some r) :
    ∃ v, (results fn a.tmps).run P w = .ok v w ∧ (oneOf r).rel ρ v := by
  obtain ⟨vs, h1, h2⟩ := evResults_sound hT sr _ _ k
  have h3 : (fn.results.mapM (m := Sem) fun | .tmp t => pure (a.tmps.getD t undef) | .cell x t => do loadVar t (← asAddr (a.tmps.getD x undef))).run P w = .ok vs.toArray w := by
    rw [Array.mapM_eq_mapM_toList]
    simp only [Sem.run_map, h1, Result.andThen_ok]
  unfold results
  simp only [Sem.run_bind]
  refine ⟨if h : vs.toArray.size = 1 then vs.toArray[0] else .tuple vs.toArray, ?_, ?_⟩
  · have : ∀ x : Sem (Array Value), x.run P w = .ok vs.toArray w → (x.run P w).andThen (fun vs w' => (pure (if h : vs.size = 1 then vs[0] else .tuple vs) : Sem Value).run P w') = .ok (if h : vs.toArray.size = 1 then vs.toArray[0] else .tuple vs.toArray) w := fun x hx => by rw [hx]; rfl
    exact this _ h3
  · match r, vs, h2 with
    | [], vs, h2 =>
      rw [relL_nil.1 h2]
      simp only [oneOf, AV.rel]
      exact ⟨[], by simp, by simp [AV.relL]⟩
    | [v], vs, h2 =>
      obtain ⟨y, ys, rfl, h3, h4⟩ := relL_cons.1 h2
      rw [relL_nil.1 h4]
      simpa [oneOf] using h3
    | v :: u :: l, vs, h2 =>
      obtain ⟨y, ys, rfl, h3, h4⟩ := relL_cons.1 h2
      obtain ⟨z, zs, rfl, h5, h6⟩ := relL_cons.1 h4
      simp only [oneOf, AV.rel]
      refine ⟨y :: z :: zs, ?_, relL_cons.2 ⟨_, _, rfl, h3, relL_cons.2 ⟨_, _, rfl, h5, h6⟩⟩⟩
      simp

/-! ### a call -/
theorem putArgs_get : ∀ (l : List AV) (i : Nat) (t t' : Tr AV), putArgs l i t = some t' → ∀ j, t'.get j = if i ≤ j ∧ j < i + l.length then l[j - i]? else t.get j
  | [], i, t, t', k, j => by
    simp only [putArgs, Option.some.injEq] at k
    subst k
    rw [if_neg (by simp only [List.length_nil]; omega)]
  | a :: l, i, t, t', k, j => by
    simp only [putArgs] at k
    split at k
    · rename_i t1 h1
      rw [putArgs_get l (i + 1) t1 t' k j, Tr.get_set _ _ _ _ _ h1 j]
      simp only [List.length_cons]
      by_cases e : j = i
      · subst e
        rw [if_neg (by omega), if_pos rfl, if_pos (by omega)]
        simp
      · by_cases h2 : i + 1 ≤ j ∧ j < i + 1 + l.length
        · rw [if_pos h2, if_pos (by omega)]
          rw [show j - i = (j - (i + 1)) + 1 by omega, List.getElem?_cons_succ]
        · rw [if_neg h2, if_neg e, if_neg (by omega)]
    · cases k

theorem enter_rel {D : Nat → Prop} {ρ : Ren} {args : List AV} {args' : List Value} {tm : Tr AV} {nt : Nat} {h : Hp} {w : World} (hr : HR D ρ h w) (ha : AV.relL ρ args args') (hp : putArgs args 0 .nil = some tm) :
    SRel D ρ ⟨tm, args.length + (nt - args.length), h, []⟩ { tmps := (⟨args'⟩ : Array Value) ++ Array.replicate (nt - (⟨args'⟩ : Array Value).size) undef, defers := [] } w := by
  have hl := relL_length ha
  refine ⟨fun t => ?_, by simp; omega, hr, rfl⟩
  have hg := putArgs_get _ _ _ _ hp t
  simp only [Nat.zero_le, true_and, Nat.zero_add, Nat.sub_zero, Tr.get_nil] at hg
  simp only [St.slot]
  rw [hg]
  by_cases h1 : t < args.length
  · rw [if_pos h1]
    obtain ⟨x, hx⟩ : ∃ x, args[t]? = some x := ⟨_, List.getElem?_eq_getElem h1⟩
    obtain ⟨y, h2, h3⟩ := relL_get t ha hx
    rw [hx]
    have : ((⟨args'⟩ : Array Value) ++ Array.replicate (nt - (⟨args'⟩ : Array Value).size) undef).getD t undef = y := by
      rw [Array.getD_eq_getD_getElem?, Array.getElem?_append_left (by simp; omega)]
      simp [h2]
    rw [this]
    exact h3
  · rw [if_neg h1]
    have : ((⟨args'⟩ : Array Value) ++ Array.replicate (nt - (⟨args'⟩ : Array Value).size) undef).getD t undef = undef := by
      rw [Array.getD_eq_getD_getElem?, Array.getElem?_append_right (by simp; omega), Array.getElem?_replicate]
      split <;> simp
    rw [this]
    exact rel_undef ρ

/-- The static look at all functions of the table. -/
def tabRegs (M : Nat → Nat → Option (List Nat)) (f : Nat) (fn : Func) : Bool :=
  match fn.body with
  | some c => regsOk (M f) c
  | none => true

theorem evCall_sound {P : Program} {T : Tab} (hT : T.Ok P) {M : Nat → Nat → Option (List Nat)} (hM : ∀ f fn, T.funs.get f = some fn → tabRegs M f fn = true) {lf : Nat} (hd : ∀ call, CallOk P call → CallLe call → DrawOk P call T) : ∀ n, CallOk P (evCall T M lf n)
  | 0 => fun f args h e h' k => by simp [evCall] at k
  | n + 1 => fun f args h e h' k D ρ w args' hr fr ha => by
    have ih := evCall_sound hT hM (lf := lf) hd n
    simp only [evCall] at k
    split at k
    · cases k
    · rename_i fn hfn
      split at k
      · rename_i c tm hbody htm
        obtain ⟨h1, h2, h3⟩ := hT.funs f fn hfn
        have hreg := hM f fn hfn
        simp only [tabRegs, hbody] at hreg
        cases hcode : evCode (evCall T M lf n) T (M f) lf c ⟨tm, args.length + (fn.ntmps - args.length), h, []⟩ with
        | none => rw [hcode] at k; simp [evEnd] at k
        | some r =>
          obtain ⟨x, s⟩ := r
          rw [hcode] at k
          have hend := evEnd_le k
          refine calls_of_wp h1 hbody ?_
          refine evCode_sound hT ih (evCall_le n) (hd _ ih (evCall_le n)) c hreg _ x s hcode D ρ _ w _ (enter_rel hr ha htm) (by rw [← hend]; exact fr) ?_
          intro ρ' e' a' w' st sr er
          rw [hend]
          cases x with
          | normal =>
            simp only [ExRel] at er
            subst er
            simp only [evEnd] at k
            split at k
            · rename_i hds
              split at k
              · rename_i l hl
                simp only [forceA_eq, Option.some.injEq, Prod.mk.injEq] at k
                obtain ⟨rfl, rfl⟩ := k
                obtain ⟨v, hv1, hv2⟩ := run_results hT sr hl
                have hdd := sr.ds
                rw [hds] at hdd
                exact ⟨hdd, v, hv1, ρ', st, v, rfl, hv2⟩
              · cases k
            · cases k
          | ret =>
            simp only [ExRel] at er
            subst er
            simp only [evEnd] at k
            split at k
            · rename_i hds
              split at k
              · rename_i l hl
                simp only [forceA_eq, Option.some.injEq, Prod.mk.injEq] at k
                obtain ⟨rfl, rfl⟩ := k
                obtain ⟨v, hv1, hv2⟩ := run_results hT sr hl
                have hdd := sr.ds
                rw [hds] at hdd
                exact ⟨hdd, v, hv1, ρ', st, v, rfl, hv2⟩
              · cases k
            · cases k
          | panic v =>
            obtain ⟨v', rfl, hv⟩ := er
            simp only [evEnd] at k
            split at k
            · rename_i hds
              simp only [Option.some.injEq, Prod.mk.injEq] at k
              obtain ⟨rfl, rfl⟩ := k
              have hdd := sr.ds
              rw [hds] at hdd
              exact ⟨hdd, ρ', st, v', rfl, hv⟩
            · cases k
          | exit id => simp [evEnd] at k
      · cases k
end Go.Ev

/- EV, part 14: a program's tables; a closed call. -/
namespace Go.Ev
open Go

/-- The types 0, 1, .., n - 1 that can be told. -/
def mkTypes (P : Program) : Nat → Option (Tr TI)
  | 0 => some .nil
  | n + 1 => match mkTypes P n with
    | some t => match toTI P n with
      | some i => Tr.set 40 t n (some i)
      | none => some t
    | none => none
theorem mkTypes_ok {P : Program} : ∀ (n : Nat) (t : Tr TI), mkTypes P n = some t → ∀ k i, t.get k = some i → TIok P k i
  | 0, t, h, k, i, hk => by
    simp only [mkTypes, Option.some.injEq] at h
    subst h
    simp [Tr.get_nil] at hk
  | n + 1, t, h, k, i, hk => by
    simp only [mkTypes] at h
    split at h
    · rename_i t1 h1
      split at h
      · rename_i j hj
        rw [Tr.get_set _ _ _ _ _ h k] at hk
        by_cases e : k = n
        · rw [if_pos e] at hk
          simp only [Option.some.injEq] at hk
          subst hk e
          exact toTI_ok hj
        · rw [if_neg e] at hk
          exact mkTypes_ok n t1 h1 k i hk
      · simp only [Option.some.injEq] at h
        subst h
        exact mkTypes_ok n t1 h1 k i hk
    · cases h

def fnGood (fn : Func) : Bool := !(fn.name == "runtime.NumGoroutine") && !fn.body.isNone
/-- The functions of a list, as the table has them. -/
def mkFuns (P : Program) : List Nat → Option (Tr Func)
  | [] => some .nil
  | f :: l => match mkFuns P l with
    | some t => match P.funcs[f]? with
      | some fn => cond (fnGood fn) (Tr.set 40 t f (some fn)) none
      | none => none
    | none => none
theorem mkFuns_ok {P : Program} : ∀ (l : List Nat) (t : Tr Func), mkFuns P l = some t → ∀ k i, t.get k = some i → FnOk P k i
  | [], t, h, k, i, hk => by
    simp only [mkFuns, Option.some.injEq] at h
    subst h
    simp [Tr.get_nil] at hk
  | f :: l, t, h, k, i, hk => by
    simp only [mkFuns] at h
    split at h
    · rename_i t1 h1
      split at h
      · rename_i fn hfn
        cases hg : fnGood fn with
        | true =>
          simp only [hg, cond_true] at h
          simp only [fnGood, Bool.and_eq_true, Bool.not_eq_true'] at hg
          rw [Tr.get_set _ _ _ _ _ h k] at hk
          by_cases e : k = f
          · rw [if_pos e] at hk
            simp only [Option.some.injEq] at hk
            subst hk e
            exact ⟨hfn, hg.1, hg.2⟩
          · rw [if_neg e] at hk
            exact mkFuns_ok l t1 h1 k i hk
        | false => rw [hg] at h; cases h
      · cases h
    · cases h

def maskOf (t : Tr (Tr (List Nat))) (f id : Nat) : Option (List Nat) :=
  match t.get f with
  | some x => x.get id
  | none => none

/-- Everything that a program's tables must meet. -/
structure Tables' (P : Program) (T : Tab) (m : Tr (Tr (List Nat))) : Prop where
  ok : T.Ok P
  regs : ∀ f fn, T.funs.get f = some fn → tabRegs (maskOf m) f fn = true

theorem tables_mk {P : Program} {T : Tab} {m : Tr (Tr (List Nat))} {n : Nat} {l : List Nat} (he : T.eqs.all (fun t _ => eqChk P t) (fun k => k) = true) (ht : mkTypes P n = some T.types) (hf : mkFuns P l = some T.funs) (hr : T.funs.all (tabRegs (maskOf m)) (fun k => k) = true) : Tables' P T m :=
  ⟨⟨fun t u h => eqChk_ok (Tr.all_get he t u h), fun t i h => mkTypes_ok n _ ht t i h, fun f fn h => mkFuns_ok l _ hf f fn h⟩, fun f fn h => Tr.all_get hr f fn h⟩

theorem HR.empty (w : World) : HR (fun b => w.heap.size ≤ b) (fun _ => none) Hp.empty w :=
  ⟨fun i b n o h => by simp at h, fun i j b n m h => by simp at h, fun i _ => by simp [Hp.get, Hp.empty, Tr.get_nil], fun b h => h⟩

/-- A closed call that answers one bool. -/
theorem closed_bool {P : Program} {T : Tab} {m : Tr (Tr (List Nat))} (k : Tables' P T m) (hd : ∀ call, CallOk P call → CallLe call → DrawOk P call T) (lf n f : Nat) (b : Bool)
    (h : (match evCall T (maskOf m) lf n f [] Hp.empty with | some (.ret (.flat (.bool c)), _) => cond b c (!c) | _ => false) = true) (w : World) :
    Calls P f #[] w fun e w' => e = .returned (.bool b) ∧ RowKit.Below w.heap.size w w' := by
  split at h
  · rename_i c h' hc
    have := evCall_sound k.ok k.regs (lf := lf) hd n f [] Hp.empty _ _ hc (fun b => w.heap.size ≤ b) (fun _ => none) w [] (HR.empty w) (fun _ _ _ => rfl) (by simp [AV.relL])
    refine this.mono ?_
    rintro e w' ⟨ρ', st, v', rfl, hv⟩
    simp only [AV.rel] at hv
    subst hv
    refine ⟨?_, st.fr.os, st.fr.tape, st.fr.output, st.fr.size, fun i hi => st.fr.block i hi (by omega)⟩
    cases b <;> cases c <;> first | rfl | cases h
  · cases h
end Go.Ev

/- EV, part 15: what one operation looks at. -/
namespace Go.Ev
open Go

/-! ### an operation hangs on its operands alone -/
theorem map_fst_congr {e e' : Operand → AV} (ps : List (Nat × Operand)) (h : ∀ x ∈ ps.map (·.2), e x = e' x) : (ps.map fun p => (p.1, e p.2)) = ps.map fun p => (p.1, e' p.2) :=
  List.map_congr_left fun p hp => by rw [h p.2 (List.mem_map.2 ⟨p, hp, rfl⟩)]

theorem evCallOp_congr {T : Tab} {e e' : Operand → AV} {h : Hp} {c : Call} (hx : ∀ x ∈ c.operands, e x = e' x) : evCallOp T e h c = evCallOp T e' h c := by
  have ha : c.args.toList.map e = c.args.toList.map e' := List.map_congr_left fun x hm => hx x (by simp [Call.operands]; exact .inr (by simpa using hm))
  unfold evCallOp
  rw [ha]
  cases hc : c.callee with
  | value f =>
    have hf : e f = e' f := hx f (by simp [Call.operands, hc])
    simp only [hf]
  | invoke r m => rfl
  | builtin b => rfl

theorem evOp_congr {T : Tab} {e e' : Operand → AV} {h : Hp} {o : Oper} (hx : ∀ x ∈ o.op.operands, e x = e' x) : evOp T e h o = evOp T e' h o := by
  obtain ⟨dst, op, ty, pos, after, guard⟩ := o
  have two : ∀ {a b : Operand}, (∀ x ∈ (#[a, b] : Array Operand), e x = e' x) → e a = e' a ∧ e b = e' b := fun h => ⟨h _ (by simp), h _ (by simp)⟩
  have one : ∀ {a : Operand}, (∀ x ∈ (#[a] : Array Operand), e x = e' x) → e a = e' a := fun h => h _ (by simp)
  cases op <;> simp only [Op.operands] at hx <;> simp only [evOp]
  case move x => rw [one hx]
  case assign x => rw [one hx]
  case pick c a b => rw [hx c (by simp), hx a (by simp), hx b (by simp)]
  case box t x => rw [one hx]
  case build t ps => rw [map_fst_congr ps.toList (fun x hm => hx x (by simpa using hm))]
  case buildSlice t n ps => rw [map_fst_congr ps.toList (fun x hm => hx x (by simpa using hm))]
  case load t a => rw [one hx]
  case store t a x => rw [(two hx).1, (two hx).2]
  case nilCheck x => rw [one hx]
  case binOp op t x y _ => rw [(two hx).1, (two hx).2]
  case unOp op t x => rw [one hx]
  case convert s d x => rw [one hx]
  case makeInterface t x => rw [one hx]
  case makeFunc fn a b =>
    have h1 : a.toList.map e = a.toList.map e' := List.map_congr_left fun x hm => hx x (Array.mem_append.2 (.inl (by simpa using hm)))
    have h2 : b.toList.map e = b.toList.map e' := List.map_congr_left fun x hm => hx x (Array.mem_append.2 (.inr (by simpa using hm)))
    rw [h1, h2]
  case makeSlice t l c => rw [(two hx).1, (two hx).2]
  case slice t x lo hi mx =>
    have h1 : lo.map e = lo.map e' := by cases lo <;> simp_all
    have h2 : hi.map e = hi.map e' := by cases hi <;> simp_all
    have h3 : mx.map e = mx.map e' := by cases mx <;> simp_all
    rw [h1, h2, h3, hx x (by simp)]
  case fieldAddr s x f => rw [one hx]
  case field s x f => rw [one hx]
  case indexAddr t x i => rw [(two hx).1, (two hx).2]
  case index t x i => rw [(two hx).1, (two hx).2]
  case extract t i => rw [one hx]
  case panic x => rw [one hx]
  case call c => exact evCallOp_congr hx
  case defer c =>
    have ha : c.args.toList.map e = c.args.toList.map e' := List.map_congr_left fun x hm => hx x (by simp [Call.operands]; exact .inr (by simpa using hm))
    rw [ha]
    cases hc : c.callee with
    | value f =>
      have hf : e f = e' f := hx f (by simp [Call.operands, hc])
      simp only [hf]
    | invoke r m => rfl
    | builtin b => rfl

theorem fpOf_congr {e e' : Operand → AV} {o : Oper} (hx : ∀ x ∈ o.op.operands, e x = e' x) : fpOf o e = fpOf o e' := by
  obtain ⟨dst, op, ty, pos, after, guard⟩ := o
  cases op <;> simp only [Op.operands] at hx <;> simp only [fpOf]
  case load t a => rw [hx a (by simp)]
  case store t a x => rw [hx a (by simp)]

/-! ### what looks at no block -/
theorem Tr.set_nil {α β : Type} : ∀ (f : Nat) (t : Tr α) (k : Nat) (x : Option α) (t' : Tr α) (y : Option β), Tr.set f t k x = some t' → ∃ t2, Tr.set f (.nil : Tr β) k y = some t2
  | 0, t, k, x, t', y, h => by simp [Tr.set] at h
  | f + 1, .nil, 0, x, t', y, h => ⟨_, rfl⟩
  | f + 1, .node v l r, 0, x, t', y, h => ⟨_, rfl⟩
  | f + 1, .nil, m + 1, x, t', y, h => by
    simp only [Tr.set] at h ⊢
    cases hm : Nat.beq (m % 2) 0 with
    | true =>
      simp only [hm, cond_true, Option.map_eq_some_iff] at h ⊢
      obtain ⟨t1, h1, _⟩ := h
      obtain ⟨t2, h2⟩ := Tr.set_nil f .nil (m / 2) x t1 y h1
      exact ⟨_, t2, h2, rfl⟩
    | false =>
      simp only [hm, cond_false, Option.map_eq_some_iff] at h ⊢
      obtain ⟨t1, h1, _⟩ := h
      obtain ⟨t2, h2⟩ := Tr.set_nil f .nil (m / 2) x t1 y h1
      exact ⟨_, t2, h2, rfl⟩
  | f + 1, .node v l r, m + 1, x, t', y, h => by
    simp only [Tr.set] at h ⊢
    cases hm : Nat.beq (m % 2) 0 with
    | true =>
      simp only [hm, cond_true, Option.map_eq_some_iff] at h ⊢
      obtain ⟨t1, h1, _⟩ := h
      obtain ⟨t2, h2⟩ := Tr.set_nil f l (m / 2) x t1 y h1
      exact ⟨_, t2, h2, rfl⟩
    | false =>
      simp only [hm, cond_false, Option.map_eq_some_iff] at h ⊢
      obtain ⟨t1, h1, _⟩ := h
      obtain ⟨t2, h2⟩ := Tr.set_nil f r (m / 2) x t1 y h1
      exact ⟨_, t2, h2, rfl⟩

/-- the same numbers, and nothing there -/
def Hp.bare (h : Hp) : Hp := ⟨h.next, h.low, .nil⟩
/-- h1 is h, or h with one block more; h2 is to the bare heap as h1 is to h -/
def Alike (h h1 h2 : Hp) : Prop := (h1 = h ∧ h2 = h.bare) ∨ ∃ o, h.new o = some h1 ∧ h.bare.new o = some h2

theorem newBlk_bare {h h1 : Hp} {l : List AV} {t : TypeId} {x : Bool} (k : newBlk h l t x = some h1) : ∃ h2, newBlk h.bare l t x = some h2 ∧ Alike h h1 h2 := by
  simp only [newBlk, forceL_eq] at k ⊢
  have k' := k
  simp only [Hp.new, Option.map_eq_some_iff] at k
  obtain ⟨t', h3, h4⟩ := k
  obtain ⟨t2, h5⟩ := Tr.set_nil 40 h.m h.next _ t' (some (AO.cells l t x)) h3
  have h6 : h.bare.new (.cells l t x) = some ⟨h.next + 1, h.low, t2⟩ := by
    simp only [Hp.new, Hp.bare, h5, Option.map_some]
  exact ⟨_, h6, .inr ⟨_, k', h6⟩⟩

theorem alike_pure {h h1 : Hp} {o : Option AV} {v : AV} (k : R.pure h o = some (.val v h1)) : R.pure h.bare o = some (.val v h.bare) ∧ Alike h h1 h.bare := by
  cases o with
  | none => simp [R.pure] at k
  | some u =>
    simp only [R.pure, Option.some.injEq, R.val.injEq] at k ⊢
    exact ⟨⟨k.1, trivial⟩, .inl ⟨k.2.symm, rfl⟩⟩

theorem both_cond {c : Bool} {x : Option (AV × Hp)} {r : R} (k : R.both (cond c x none) = some r) : c = true ∧ R.both x = some r := by
  cases c
  · simp [R.both] at k
  · exact ⟨rfl, k⟩

theorem evBuiltin_bare {T : Tab} {b : Builtin} {ts : List TypeId} {args : List AV} {h h1 : Hp} {v : AV} (hb : b = .len ∨ b = .max ∨ b = .min) (k : evBuiltin T b ts args h = some (.val v h1)) :
    evBuiltin T b ts args h.bare = some (.val v h.bare) ∧ Alike h h1 h.bare := by
  rcases hb with rfl | rfl | rfl <;> simp only [evBuiltin] at k ⊢
  · split at k
    · exact alike_pure k
    · cases k
  · split at k
    · exact alike_pure k
    · cases k
  · split at k
    · exact alike_pure k
    · cases k

theorem evOp_bare {T : Tab} {e : Operand → AV} {h h1 : Hp} {o : Oper} {v : AV} (hf : fpOf o e = .none) (k : evOp T e h o = some (.val v h1)) : ∃ h2, evOp T e h.bare o = some (.val v h2) ∧ Alike h h1 h2 := by
  obtain ⟨dst, op, ty, pos, after, guard⟩ := o
  have same : ∀ (x : AV), some (R.val x h) = some (R.val v h1) → ∃ h2, some (R.val x h.bare) = some (R.val v h2) ∧ Alike h h1 h2 := fun x k => by
    simp only [Option.some.injEq, R.val.injEq] at k
    exact ⟨h.bare, by rw [k.1], .inl ⟨k.2.symm, rfl⟩⟩
  have pure : ∀ (x : Option AV), R.pure h x = some (R.val v h1) → ∃ h2, R.pure h.bare x = some (R.val v h2) ∧ Alike h h1 h2 := fun x k => ⟨_, (alike_pure k).1, (alike_pure k).2⟩
  have blk : ∀ (l : List AV) (t : TypeId) (b : Bool) (g : Hp → AV × Hp), (∀ a, (g a).2 = a) → (∀ a b, (g a).1 = (g b).1) → R.both ((newBlk h l t b).map g) = some (R.val v h1) →
      ∃ h2, R.both ((newBlk h.bare l t b).map g) = some (R.val v h2) ∧ Alike h h1 h2 := fun l t b g hg hg1 k => by
    cases hn : newBlk h l t b with
    | none => rw [hn] at k; simp [R.both] at k
    | some h3 =>
      obtain ⟨h4, h5, h6⟩ := newBlk_bare hn
      rw [hn] at k
      have e1 : g h3 = (v, h1) := by
        have : R.both (some (g h3)) = some (R.val (g h3).1 (g h3).2) := by cases g h3; rfl
        rw [Option.map_some, this] at k
        simp only [Option.some.injEq, R.val.injEq] at k
        exact Prod.ext k.1 k.2
      have e2 : h3 = h1 := by rw [← hg h3, e1]
      refine ⟨h4, ?_, e2 ▸ h6⟩
      rw [h5]
      have e3 : g h4 = (v, h4) := Prod.ext (by rw [hg1 h4 h3, e1]) (hg h4)
      rw [Option.map_some, e3]
      rfl
  cases op <;> simp only [evOp] at k ⊢ <;> try (cases k; done)
  case move x => exact same _ k
  case assign x => exact same _ k
  case pick c a b =>
    split at k
    · exact same _ k
    · cases k
  case alloc t =>
    split at k
    · exact blk _ _ _ _ (fun _ => rfl) (fun _ _ => rfl) k
    · cases k
  case box t x => exact blk _ _ _ _ (fun _ => rfl) (fun _ _ => rfl) k
  case build t ps => exact pure _ k
  case buildSlice t n ps =>
    unfold evBuildSlice at k ⊢
    split at k
    · split at k
      · split at k
        · rename_i j _
          cases hc : Nat.ble (n * j.size) 16777216 with
          | false => rw [hc] at k; simp [R.both] at k
          | true =>
            simp only [hc, cond_true] at k ⊢
            split at k
            · exact blk _ _ _ _ (fun _ => rfl) (fun _ _ => rfl) k
            · simp [R.both] at k
        · simp [R.both] at k
      · simp [R.both] at k
    · simp [R.both] at k
  case load t a =>
    simp only [fpOf] at hf
    split at hf <;> cases hf
  case store t a x =>
    simp only [Option.map_eq_some_iff] at k
    obtain ⟨_, _, h⟩ := k
    cases h
  case nilCheck x =>
    split at k
    · exact same _ k
    · cases k
  case binOp op t x y _ => exact pure _ k
  case unOp op t x => exact pure _ k
  case convert s d x => exact pure _ k
  case makeInterface t x =>
    split at k
    · split at k
      · cases k
      · cases k
      · exact same _ k
    · cases k
  case makeFunc fn a b => exact same _ k
  case makeSlice t l c =>
    unfold evMakeSlice at k ⊢
    split at k
    · split at k
      · split at k
        · obtain ⟨hc, k⟩ := both_cond k
          rw [hc, cond_true]
          exact blk _ _ _ _ (fun _ => rfl) (fun _ _ => rfl) k
        · simp [R.both] at k
      · simp [R.both] at k
    · simp [R.both] at k
  case slice t x lo hi mx => exact pure _ k
  case fieldAddr s x f => exact pure _ k
  case field s x f => exact pure _ k
  case indexAddr t x i => exact pure _ k
  case index t x i => exact pure _ k
  case extract t i =>
    split at k
    · exact pure _ k
    · cases k
  case panic x =>
    split at k
    · cases k
    · cases k
  case call c =>
    simp only [fpOf] at hf
    unfold evCallOp at k ⊢
    split at hf
    · rename_i hc
      simp only [hc] at k ⊢
      exact ⟨_, evBuiltin_bare (.inl rfl) k⟩
    · rename_i hc
      simp only [hc] at k ⊢
      exact ⟨_, evBuiltin_bare (.inr (.inl rfl)) k⟩
    · rename_i hc
      simp only [hc] at k ⊢
      exact ⟨_, evBuiltin_bare (.inr (.inr rfl)) k⟩
    · cases hf
  case defer c =>
    split at k
    · split at k
      · cases k
      · cases k
    · cases k

theorem evOp_enter {T : Tab} {e : Operand → AV} {h : Hp} {o : Oper} {f : FuncId} {args : List AV} (k : evOp T e h o = some (.enter f args)) (h2 : Hp) : evOp T e h2 o = some (.enter f args) ∧ ∃ c, o.op = .call c := by
  obtain ⟨dst, op, ty, pos, after, guard⟩ := o
  have nop : ∀ (x : Option AV), R.pure h x ≠ some (.enter f args) := fun x => by cases x <;> simp [R.pure]
  have nob : ∀ (x : Option (AV × Hp)), R.both x ≠ some (.enter f args) := fun x => by cases x <;> simp [R.both]
  cases op <;> simp only [evOp] at k ⊢ <;> try (first | (cases k; done) | exact absurd k (nop _) | exact absurd k (nob _))
  case pick c a b => split at k <;> cases k
  case alloc t =>
    split at k
    · exact absurd k (nob _)
    · cases k
  case store t a x =>
    simp only [Option.map_eq_some_iff] at k
    obtain ⟨_, _, h⟩ := k
    cases h
  case nilCheck x => split at k <;> cases k
  case makeInterface t x =>
    split at k
    · split at k <;> cases k
    · cases k
  case extract t i =>
    split at k
    · exact absurd k (nop _)
    · cases k
  case panic x => split at k <;> cases k
  case call c =>
    refine ⟨?_, c, rfl⟩
    unfold evCallOp at k ⊢
    split at k
    · rename_i b hb
      exfalso
      unfold evBuiltin at k
      split at k
      · split at k
        · exact nop _ k
        · cases k
      · split at k
        · exact nob _ k
        · cases k
      · split at k
        · exact nob _ k
        · cases k
      · split at k
        · exact nop _ k
        · cases k
      · split at k
        · exact nop _ k
        · cases k
      · cases k
      · cases k
    · rename_i fo hfo
      split at k
      · split at k
        · exact k
        · cases k
      · cases k
    · cases k
  case defer c =>
    split at k
    · split at k <;> cases k
    · cases k
end Go.Ev

/- EV, part 16: a region that draws its order. -/
namespace Go.Ev
open Go

/-! ### load and store, of the one block alone -/
def CellsAt (ρ : Ren) (h : Hp) (w : World) (b : Nat) : Prop :=
  ∀ b' n' l e x, h.get b = some (.cells l e x) → ρ b = some (b', n') → ∃ p r, w.heap[b']? = some (.cells ⟨p ++ r⟩ e (0, 0)) ∧ (p ++ r).length = n' ∧ AV.relL ρ l p ∧ (x = false → r = [])

theorem evLoad_at {P : Program} {T : Tab} (hT : T.Ok P) {t : TypeId} {a v : AV} {h : Hp} {ρ : Ren} {w : World} (k : ∀ b o, a = .ptr b o → CellsAt ρ h w b) {x : Value} (ha : a.rel ρ x) (hv : evLoad T t a h = some v) :
    ∃ y, (Instr.loadAt t x).run P w = .ok y w ∧ v.rel ρ y := by
  unfold evLoad at hv
  split at hv
  · rename_i b o
    split at hv
    · rename_i l e ext i hg hi
      simp only [AV.rel] at ha
      obtain ⟨b', n', hρ, rfl⟩ := ha
      have hs := run_size hT hi w
      obtain ⟨p, q, h1, h2, h3, h4⟩ := k b o rfl _ _ _ _ _ hg hρ
      split at hv
      · rename_i hagg
        have ha := run_agg hT hi hagg w
        simp only [Option.map_eq_some_iff] at hv
        obtain ⟨r, hr, rfl⟩ := hv
        obtain ⟨h5, h6⟩ := takeX_eq hr
        have hp := relL_length h3
        have hd : AV.relL ρ r ((p.drop o).take i.size) := by rw [h5]; exact relL_take i.size (relL_drop o h3)
        have hl : ((p.drop o).take i.size).length = i.size := by
          simp only [List.length_drop] at h6
          simp only [List.length_take, List.length_drop]
          omega
        have hc : ∀ j v, ((p.drop o).take i.size)[j]? = some v → w.cell? ((⟨b', o, none⟩ : Addr).add j) = some v := by
          intro j v hj
          rw [List.getElem?_take] at hj
          split at hj
          · rw [List.getElem?_drop] at hj
            exact cells_at h1 hj
          · cases hj
        have hrun := run_loadCells_list (P := P) w ⟨b', o, none⟩ ((p.drop o).take i.size) hc
        rw [hl] at hrun
        refine ⟨.agg ⟨(p.drop o).take i.size⟩, ?_, by simp only [AV.rel]; exact ⟨_, rfl, hd⟩⟩
        simp [Instr.loadAt, Instr.sureAddr, loadVar, ha, hs, hrun]
      · rename_i hagg
        have ha := run_agg hT hi hagg w
        obtain ⟨y, h5, h6⟩ := relL_get o h3 hv
        have hc : w.cell? ⟨b', o, none⟩ = some y := by
          have := cells_at (o := o) (j := 0) h1 (by simpa using h5)
          simpa [Addr.add] using this
        exact ⟨y, by simp [Instr.loadAt, Instr.sureAddr, loadVar, ha, hc], h6⟩
      · cases hv
    · cases hv
  · cases hv

theorem evStore_at {P : Program} {T : Tab} (hT : T.Ok P) {t : TypeId} {a v : AV} {h h' : Hp} {ρ : Ren} {w : World} {b o : Nat} (hab : a = .ptr b o) (k : CellsAt ρ h w b) {x y : Value} (ha : a.rel ρ x) (hy : v.rel ρ y) (hv : evStore T t a v h = some h') :
    ∃ b' n' w' ob ob', ρ b = some (b', n') ∧ (Instr.storeAt t x y).run P w = .ok () w' ∧ w'.os = w.os ∧ w'.tape = w.tape ∧ w'.output = w.output ∧ w'.heap.size = w.heap.size ∧ (∀ j, j ≠ b' → w'.heap[j]? = w.heap[j]?) ∧
      h.get b ≠ none ∧ h.put b (some ob) = some h' ∧ w'.heap[b']? = some ob' ∧ ob.rel ρ n' ob' := by
  subst hab
  unfold evStore at hv
  simp only at hv
  split at hv
  · rename_i i hi
    cases hn : Nat.beq v.cells.length i.size with
    | false => rw [hn] at hv; cases hv
    | true =>
      simp only [hn, cond_true] at hv
      rw [Nat.beq_eq] at hn
      simp only [AV.rel] at ha
      obtain ⟨b', n', hρ, rfl⟩ := ha
      have hc := rel_cells hy
      have hs := run_size hT hi w
      have hl : y.cells.size = i.size := by have := relL_length hc; simp at this; omega
      unfold evStoreC at hv
      cases h1 : allOne v.cells with
      | false => rw [h1] at hv; cases hv
      | true =>
        simp only [h1, cond_true] at hv
        split at hv
        · rename_i l e x hg
          split at hv
          · rename_i l' hl'
            simp only [forceL_eq] at hv
            obtain ⟨hs1, hs2⟩ := spl_eq hl'
            obtain ⟨p, q, hw, h2, h3, h4⟩ := k b' n' l e x hg hρ
            have hp := relL_length h3
            have hvl := relL_length hc
            have hrun := run_storeCells_at P b' o e y.cells.toList 0 ⟨p ++ q⟩ w hw (by simp; simp at hvl; omega) (relL_one hc h1)
            have hnew := setRow_is w b' (List.take (o + 0) (p ++ q) ++ y.cells.toList ++ List.drop (o + 0 + y.cells.toList.length) (p ++ q)).toArray hw
            refine ⟨b', n', w.setRow b' (List.take (o + 0) (p ++ q) ++ y.cells.toList ++ List.drop (o + 0 + y.cells.toList.length) (p ++ q)).toArray, _, _, hρ, ?_, rfl, rfl, rfl, ?_, ?_, by simp [hg], hv, hnew, ?_⟩
            · simp only [Instr.storeAt, Instr.sureAddr, storeVar, Sem.run_bind, Sem.run_pure, Result.andThen_ok, hs, hl]
              simpa using hrun
            · simp [World.setRow]
            · intro j hj
              simp only [World.setRow]
              rw [Array.getElem?_modify, if_neg (by omega)]
            · refine ⟨p.take o ++ y.cells.toList ++ p.drop (o + y.cells.toList.length), q, ?_, ?_, ?_, h4⟩
              · congr 1
                congr 1
                simp only [Nat.add_zero]
                rw [List.take_append_of_le_length (by omega), List.drop_append_of_le_length (by omega)]
                simp
              · simp only [List.length_append, List.length_take, List.length_drop] at h2 ⊢
                omega
              · rw [hs1, show v.cells.length = y.cells.toList.length from hvl.symm]
                exact relL_append (relL_append (relL_take _ h3) hc) (relL_drop _ h3)
          · cases hv
        · cases hv
  · cases hv

/-! ### the trace of the lexical order -/
theorem drawRun_trace {call : CallF} {T : Tab} {ops : List Oper} : ∀ (rest : List Oper) (i : Nat) (s : St) (l : List Ent) (s' : St) (l' : List Ent), drawRun call T ops rest i s l = some (s', l') →
    ∃ (f : Nat → St) (fp : Nat → Fp), f 0 = s ∧ f rest.length = s' ∧ (∀ j, j < rest.length → ∃ o, rest[j]? = some o ∧ drawOp call T ops (f j) o = some (f (j + 1), fp j)) ∧ (∀ x ∈ l, x ∈ l') ∧
      ∀ j, j < rest.length → isQuiet ⟨i + j, fp j, (f j).h.next, (f (j + 1)).h.next⟩ = false → (⟨i + j, fp j, (f j).h.next, (f (j + 1)).h.next⟩ : Ent) ∈ l'
  | [], i, s, l, s', l', k => by
    simp only [drawRun, Option.some.injEq, Prod.mk.injEq] at k
    obtain ⟨rfl, rfl⟩ := k
    exact ⟨fun _ => s, fun _ => .none, rfl, rfl, fun j h => absurd h (by simp), fun x h => h, fun j h => absurd h (by simp)⟩
  | o :: rest, i, s, l, s', l', k => by
    simp only [drawRun] at k
    split at k
    · rename_i s1 fp1 h1
      obtain ⟨f, fp, g1, g2, g3, g4, g5⟩ := drawRun_trace rest (i + 1) s1 _ s' l' k
      refine ⟨fun j => match j with | 0 => s | j + 1 => f j, fun j => match j with | 0 => fp1 | j + 1 => fp j, rfl, g2, ?_, ?_, ?_⟩
      · intro j hj
        cases j with
        | zero => exact ⟨o, rfl, by simp only [g1]; exact h1⟩
        | succ j => exact g3 j (by simpa using hj)
      · intro x hx
        refine g4 x ?_
        unfold entCons
        cases isQuiet ⟨i, fp1, s.h.next, s1.h.next⟩
        · exact List.mem_cons_of_mem _ hx
        · exact hx
      · intro j hj hq
        cases j with
        | zero =>
          simp only [Nat.add_zero, g1] at hq ⊢
          refine g4 _ ?_
          unfold entCons
          rw [hq]
          exact List.mem_cons_self
        | succ j =>
          have := g5 j (by simpa using hj) (by rw [show i + 1 + j = i + (j + 1) by omega]; exact hq)
          rw [show i + 1 + j = i + (j + 1) by omega] at this
          exact this
    · cases k

theorem beq_symm' (a b : Nat) : Nat.beq a b = Nat.beq b a := by
  rw [Bool.eq_iff_iff, Nat.beq_eq, Nat.beq_eq]
  exact ⟨Eq.symm, Eq.symm⟩
theorem Ent.apart_symm (x y : Ent) : x.apart y = y.apart x := by
  obtain ⟨i, fp, n0, n1⟩ := x
  obtain ⟨j, fq, m0, m1⟩ := y
  cases fp with
  | none => cases fq with
    | call c => cases c <;> rfl
    | _ => rfl
  | rd a => cases fq with
    | call c => cases c <;> rfl
    | _ => rfl
  | wr a => cases fq with
    | wr b => simp only [Ent.apart, beq_symm' a b]
    | call c => cases c <;> rfl
    | _ => rfl
  | call c => cases fq with
    | call d => cases c <;> cases d <;> rfl
    | _ => cases c <;> rfl

/-- Two operations of which either may come first. -/
def Sep (bf : List Nat) (x y : Ent) : Prop := isQuiet x = true ∨ isQuiet y = true ∨ x.apart y = true ∨ comes bf x.i y.i = true ∨ comes bf y.i x.i = true
theorem looksOne_mem {bf : List Nat} {e : Ent} : ∀ {l : List Ent}, looksOne bf e l = true → ∀ x ∈ l, Sep bf e x
  | [], _, x, hx => by simp at hx
  | y :: l, h, x, hx => by
    simp only [looksOne, Bool.and_eq_true, Bool.or_eq_true] at h
    rcases List.mem_cons.1 hx with rfl | hx
    · rcases h.1 with (h1 | h1) | h1
      · exact .inr (.inr (.inl h1))
      · exact .inr (.inr (.inr (.inr h1)))
      · exact .inr (.inr (.inr (.inl h1)))
    · exact looksOne_mem h.2 x hx
theorem Sep.symm {bf : List Nat} {x y : Ent} (h : Sep bf x y) : Sep bf y x := by
  rcases h with h | h | h | h | h
  · exact .inr (.inl h)
  · exact .inl h
  · exact .inr (.inr (.inl (by rw [Ent.apart_symm]; exact h)))
  · exact .inr (.inr (.inr (.inr h)))
  · exact .inr (.inr (.inr (.inl h)))
theorem looks_mem {bf : List Nat} : ∀ {l : List Ent}, looks bf l = true → ∀ x ∈ l, ∀ y ∈ l, x.i ≠ y.i → Sep bf x y
  | [], _, x, hx, y, hy, _ => by simp at hx
  | e :: l, h, x, hx, y, hy, hne => by
    simp only [looks, Bool.and_eq_true] at h
    rcases List.mem_cons.1 hx with hx' | hx'
    · rcases List.mem_cons.1 hy with hy' | hy'
      · exact absurd (by rw [hx', hy']) hne
      · rw [hx']
        exact looksOne_mem h.1 y hy'
    · rcases List.mem_cons.1 hy with hy' | hy'
      · rw [hy']
        exact (looksOne_mem h.1 x hx').symm
      · exact looks_mem h.2 x hx' y hy' hne

/-! ### what is known of such a region -/
structure DCtx (call : CallF) (T : Tab) (ops : Array Oper) (bf : List Nat) (f : Nat → St) (fp : Nat → Fp) (n : Nat) : Prop where
  size : ops.size = n
  tr : ∀ j, j < n → ∃ o, ops[j]? = some o ∧ drawOp call T ops.toList (f j) o = some (f (j + 1), fp j)
  b1 : ∀ i j oj, i < n → ops[j]? = some oj → comes bf i j = true → ∃ e ∈ oj.after, Region.binds .any e = true ∧ (e.on = i ∨ comes bf i e.on = true)
  b2 : ∀ i j oi oj, ops[i]? = some oi → ops[j]? = some oj → i < j → comes bf i j = true ∨ oi.apart ops oj = true
  b3 : ∀ i j, i < n → j < n → comes bf i j = true → i < j
  b4 : ∀ j oj, ops[j]? = some oj → ∀ e ∈ oj.after, Region.binds .any e = true → e.on < j
  sep : ∀ i j, i < n → j < n → i ≠ j → Sep bf ⟨i, fp i, (f i).h.next, (f (i + 1)).h.next⟩ ⟨j, fp j, (f j).h.next, (f (j + 1)).h.next⟩
  born : ∀ j, j ≤ n → ∀ id, (f j).h.next ≤ id → (f j).h.get id = none
  le : ∀ j, j < n → Hp.Le (f j).h (f (j + 1)).h

theorem dctx_mk {call : CallF} (hcl : CallLe call) {T : Tab} {ops : Array Oper} {bf : List Nat} (hreg : regOk bf ops.toList = true) {s s' : St} {e : AExit} (k : evDraw call T (some bf) ops.toList s = some (e, s'))
    (hb : ∀ id, s.h.next ≤ id → s.h.get id = none) : ∃ f fp, DCtx call T ops bf f fp ops.size ∧ f 0 = s ∧ f ops.size = s' ∧ e = .normal := by
  obtain ⟨l, bf', hbf, hrun, rfl, hlook⟩ := evDraw_run k
  simp only [Option.some.injEq] at hbf
  subst hbf
  obtain ⟨f, fp, g1, g2, g3, _, g5⟩ := drawRun_trace _ _ _ _ _ _ hrun
  have hlen : ops.toList.length = ops.size := by simp
  rw [hlen] at g2 g3 g5
  have hle : ∀ j, j < ops.size → Hp.Le (f j).h (f (j + 1)).h := fun j hj => by
    obtain ⟨o, _, h2⟩ := g3 j hj
    exact drawOp_le hcl h2
  unfold regOk at hreg
  rw [List.all_eq_true] at hreg
  have reg1 : ∀ j oj, ops[j]? = some oj → (oj.after.toList.all fun e => !Region.binds .any e || Nat.blt e.on j) = true ∧ ∀ i oi, ops[i]? = some oi →
      (cond (comes bf i j) (oj.after.toList.any fun e => Region.binds .any e && (Nat.beq e.on i || comes bf i e.on)) true) = true ∧ (cond (Nat.blt i j) (comes bf i j || oi.apart ops oj) (!comes bf i j)) = true := fun j oj hj => by
    have hjl : j < ops.size := by
      rcases Nat.lt_or_ge j ops.size with h | h
      · exact h
      · rw [Array.getElem?_eq_none h] at hj; cases hj
    have h1 := hreg j (by simp [hjl])
    rw [Array.getElem?_toList, hj] at h1
    simp only [Bool.and_eq_true] at h1
    refine ⟨h1.1, fun i oi hi => ?_⟩
    have hil : i < ops.size := by
      rcases Nat.lt_or_ge i ops.size with h | h
      · exact h
      · rw [Array.getElem?_eq_none h] at hi; cases hi
    have h2 := h1.2
    rw [List.all_eq_true] at h2
    have h3 := h2 i (by simp [hil])
    rw [Array.getElem?_toList, hi] at h3
    simpa [Bool.and_eq_true] using h3
  refine ⟨f, fp, ⟨rfl, fun j hj => ?_, ?_, ?_, ?_, ?_, ?_, ?_, hle⟩, g1, g2, rfl⟩
  · obtain ⟨o, h1, h2⟩ := g3 j hj
    exact ⟨o, by rw [← Array.getElem?_toList]; exact h1, h2⟩
  · intro i j oj hi hj hc
    obtain ⟨_, h1⟩ := reg1 j oj hj
    obtain ⟨oi, hoi⟩ : ∃ oi, ops[i]? = some oi := ⟨_, Array.getElem?_eq_getElem hi⟩
    have h2 := (h1 i oi hoi).1
    rw [hc, cond_true, List.any_eq_true] at h2
    obtain ⟨e, he, h3⟩ := h2
    simp only [Bool.and_eq_true, Bool.or_eq_true, Nat.beq_eq] at h3
    exact ⟨e, by simpa using he, h3.1, h3.2⟩
  · intro i j oi oj hi hj hlt
    have h2 := ((reg1 j oj hj).2 i oi hi).2
    rw [Nat.blt_eq.mpr hlt, cond_true, Bool.or_eq_true] at h2
    exact h2
  · intro i j hi hj hc
    obtain ⟨oi, hoi⟩ : ∃ oi, ops[i]? = some oi := ⟨_, Array.getElem?_eq_getElem hi⟩
    obtain ⟨oj, hoj⟩ : ∃ oj, ops[j]? = some oj := ⟨_, Array.getElem?_eq_getElem hj⟩
    have h2 := ((reg1 j oj hoj).2 i oi hoi).2
    cases hb : Nat.blt i j with
    | true => exact Nat.blt_eq.mp hb
    | false => rw [hb, cond_false, hc] at h2; cases h2
  · intro j oj hj e he hb
    have h1 := (reg1 j oj hj).1
    rw [List.all_eq_true] at h1
    have h2 := h1 e (by simpa using he)
    rw [hb] at h2
    simp only [Bool.not_true, Bool.false_or] at h2
    exact Nat.blt_eq.mp h2
  · intro i j hi hj hne
    cases hqi : isQuiet ⟨i, fp i, (f i).h.next, (f (i + 1)).h.next⟩ with
    | true => exact .inl hqi
    | false =>
      cases hqj : isQuiet ⟨j, fp j, (f j).h.next, (f (j + 1)).h.next⟩ with
      | true => exact .inr (.inl hqj)
      | false =>
        have h1 := g5 i hi (by rw [Nat.zero_add]; exact hqi)
        have h2 := g5 j hj (by rw [Nat.zero_add]; exact hqj)
        rw [Nat.zero_add] at h1 h2
        exact looks_mem hlook _ h1 _ h2 hne
  · intro j
    induction j with
    | zero => intro _ id hid; rw [g1] at hid ⊢; exact hb id hid
    | succ j ih => intro hj; exact (hle j (by omega)).born (ih (by omega))

section
variable {call : CallF} {T : Tab} {ops : Array Oper} {bf : List Nat} {f : Nat → St} {fp : Nat → Fp} {n : Nat} (d : DCtx call T ops bf f fp n)
include d

theorem DCtx.next_mono : ∀ a b, a ≤ b → b ≤ n → (f a).h.next ≤ (f b).h.next := by
  intro a b hab hb
  induction b with
  | zero =>
    obtain rfl : a = 0 := by omega
    exact Nat.le_refl _
  | succ b ih =>
    rcases Nat.lt_or_ge a (b + 1) with h | h
    · exact Nat.le_trans (ih (by omega) (by omega)) (d.le b (by omega)).next
    · obtain rfl : a = b + 1 := by omega
      exact Nat.le_refl _

/-- what operation j turns of what was there -/
def Mo (f : Nat → St) (j id : Nat) : Prop := id < (f j).h.next ∧ (f (j + 1)).h.get id ≠ (f j).h.get id

theorem DCtx.same_get {id : Nat} : ∀ a b, a ≤ b → b ≤ n → (id < (f a).h.next ∨ (f n).h.next ≤ id) → (∀ j, a ≤ j → j < b → ¬ Mo f j id) → (f b).h.get id = (f a).h.get id := by
  intro a b hab hb hid hm
  rcases hid with hid | hid
  · induction b with
    | zero =>
      obtain rfl : a = 0 := by omega
      rfl
    | succ b ih =>
      rcases Nat.lt_or_ge a (b + 1) with h | h
      · have h1 := ih (by omega) (by omega) (fun j h2 h3 => hm j h2 (by omega))
        have h2 := hm b (by omega) (by omega)
        have h3 := d.next_mono a b (by omega) (by omega)
        by_cases e : (f (b + 1)).h.get id = (f b).h.get id
        · rw [e, h1]
        · exact absurd ⟨by omega, e⟩ h2
      · obtain rfl : a = b + 1 := by omega
        rfl
  · rw [d.born b hb id (Nat.le_trans (d.next_mono b n hb (Nat.le_refl _)) hid), d.born a (by omega) id (Nat.le_trans (d.next_mono a n (by omega) (Nat.le_refl _)) hid)]

theorem DCtx.dst_slot (j : Nat) (hj : j < n) : ∃ o, ops[j]? = some o ∧ ∀ t, o.dst ≠ some t → (f (j + 1)).slot t = (f j).slot t := by
  obtain ⟨o, h1, h2⟩ := d.tr j hj
  refine ⟨o, h1, fun t ht => ?_⟩
  unfold drawOp at h2
  cases hw : (f j).wanted ops.toList o with
  | true =>
    simp only [hw, cond_true] at h2
    split at h2
    · split at h2
      · rename_i s1 hp
        simp only [Option.some.injEq, Prod.mk.injEq] at h2
        rw [← h2.1, put_slot hp t, if_neg ht]
      · cases h2
    · split at h2
      · rename_i s1 hp
        simp only [Option.some.injEq, Prod.mk.injEq] at h2
        rw [← h2.1, put_slot hp t, if_neg ht]
      · cases h2
    · split at h2
      · split at h2
        · rename_i s1 hp
          simp only [Option.some.injEq, Prod.mk.injEq] at h2
          rw [← h2.1, put_slot hp t, if_neg ht]
        · cases h2
      · cases h2
    · cases h2
  | false =>
    simp only [hw, cond_false] at h2
    split at h2
    · rename_i s1 hp
      simp only [Option.some.injEq, Prod.mk.injEq] at h2
      rw [← h2.1, put_slot hp t, if_neg ht]
    · cases h2

theorem DCtx.same_slot {t : Nat} : ∀ a b, a ≤ b → b ≤ n → (∀ j oj, a ≤ j → j < b → ops[j]? = some oj → oj.dst ≠ some t) → (f b).slot t = (f a).slot t := by
  intro a b hab hb hm
  induction b with
  | zero =>
    obtain rfl : a = 0 := by omega
    rfl
  | succ b ih =>
    rcases Nat.lt_or_ge a (b + 1) with h | h
    · have h1 := ih (by omega) (by omega) (fun j oj h2 h3 => hm j oj h2 (by omega))
      obtain ⟨o, h2, h3⟩ := d.dst_slot b (by omega)
      rw [h3 t (hm b o (by omega) (by omega) h2), h1]
    · obtain rfl : a = b + 1 := by omega
      rfl
end
end Go.Ev

/- EV, part 17: whatever order is drawn. -/
namespace Go.Ev
open Go

theorem evOp_rd {T : Tab} {e : Operand → AV} {h h1 : Hp} {o : Oper} {v : AV} {b : Nat} (hf : fpOf o e = .rd b) (k : evOp T e h o = some (.val v h1)) :
    h1 = h ∧ ∃ t a off, o.op = .load t a ∧ e a = .ptr b off ∧ evLoad T t (e a) h = some v := by
  obtain ⟨dst, op, ty, pos, after, guard⟩ := o
  cases op <;> simp only [fpOf] at hf <;> try (cases hf; done)
  case load t a =>
    simp only [evOp] at k
    split at hf
    · rename_i b' off hea
      injection hf with hf
      subst hf
      cases hl : evLoad T t (e a) h with
      | none => rw [hl] at k; simp [R.pure] at k
      | some u =>
        rw [hl] at k
        simp only [R.pure, Option.some.injEq, R.val.injEq] at k
        obtain ⟨rfl, rfl⟩ := k
        exact ⟨rfl, t, a, off, rfl, hea, hl⟩
    · cases hf
  case store t a x => split at hf <;> cases hf
  case call c =>
    split at hf <;> cases hf
theorem evOp_wr {T : Tab} {e : Operand → AV} {h h1 : Hp} {o : Oper} {v : AV} {b : Nat} (hf : fpOf o e = .wr b) (k : evOp T e h o = some (.val v h1)) : False := by
  obtain ⟨dst, op, ty, pos, after, guard⟩ := o
  cases op <;> simp only [fpOf] at hf <;> try (cases hf; done)
  case load t a => split at hf <;> cases hf
  case store t a x =>
    simp only [evOp, Option.map_eq_some_iff] at k
    obtain ⟨_, _, h⟩ := k
    cases h
  case call c => split at hf <;> cases hf
theorem evOp_skip {T : Tab} {e : Operand → AV} {h h1 : Hp} {o : Oper} (k : evOp T e h o = some (.skip h1)) : ∃ t a x b off, o.op = .store t a x ∧ e a = .ptr b off ∧ evStore T t (e a) (e x) h = some h1 ∧ fpOf o e = .wr b := by
  obtain ⟨dst, op, ty, pos, after, guard⟩ := o
  have nop : ∀ (x : Option AV), R.pure h x ≠ some (.skip h1) := fun x => by cases x <;> simp [R.pure]
  have nob : ∀ (x : Option (AV × Hp)), R.both x ≠ some (.skip h1) := fun x => by cases x <;> simp [R.both]
  cases op <;> simp only [evOp] at k <;> try (first | (cases k; done) | exact absurd k (nop _) | exact absurd k (nob _))
  case pick c a b => split at k <;> cases k
  case alloc t =>
    split at k
    · exact absurd k (nob _)
    · cases k
  case store t a x =>
    simp only [Option.map_eq_some_iff] at k
    obtain ⟨h2, hs, hh⟩ := k
    injection hh with hh
    subst hh
    have hs' := hs
    unfold evStore at hs'
    split at hs'
    · rename_i b off hea
      exact ⟨t, a, x, b, off, rfl, hea, hs, by simp [fpOf, hea]⟩
    · cases hs'
  case nilCheck x => split at k <;> cases k
  case makeInterface t x =>
    split at k
    · split at k <;> cases k
    · cases k
  case extract t i =>
    split at k
    · exact absurd k (nop _)
    · cases k
  case panic x => split at k <;> cases k
  case call c =>
    unfold evCallOp at k
    split at k
    · unfold evBuiltin at k
      split at k
      · split at k
        · exact absurd k (nop _)
        · cases k
      · split at k
        · exact absurd k (nob _)
        · cases k
      · split at k
        · exact absurd k (nob _)
        · cases k
      · split at k
        · exact absurd k (nop _)
        · cases k
      · split at k
        · exact absurd k (nop _)
        · cases k
      · cases k
      · cases k
    · split at k
      · split at k
        · cases k
        · cases k
      · cases k
    · cases k
  case defer c =>
    split at k
    · split at k <;> cases k
    · cases k
theorem evStore_put {T : Tab} {t : TypeId} {v : AV} {h h' : Hp} {b off : Nat} (hv : evStore T t (.ptr b off) v h = some h') : ∃ ob, h.put b (some ob) = some h' := by
  unfold evStore at hv
  simp only at hv
  split at hv
  · have hv := cond_some hv
    unfold evStoreC at hv
    have hv := cond_some hv
    split at hv
    · split at hv
      · simp only [forceL_eq] at hv
        exact ⟨_, hv⟩
      · cases hv
    · cases hv
  · cases hv

theorem Alike.get {h h1 h2 : Hp} (a : Alike h h1 h2) : (∀ i, i < h.next → h1.get i = h.get i) ∧ h1.next = h2.next ∧ h2.next ≤ h.next + 1 := by
  rcases a with ⟨rfl, rfl⟩ | ⟨o, h3, h4⟩
  · exact ⟨fun _ _ => rfl, rfl, by show _ ≤ _; simp [Hp.bare]⟩
  · obtain ⟨g1, g2, g3⟩ := Hp.new_get h3
    obtain ⟨k1, k2, k3⟩ := Hp.new_get h4
    refine ⟨fun i hi => by rw [g3, if_neg (by omega)], by rw [g1, k1]; rfl, by rw [k1]; exact Nat.le_refl _⟩

section
variable {call : CallF} (hcl : CallLe call) {T : Tab} {ops : Array Oper} {bf : List Nat} {f : Nat → St} {fp : Nat → Fp} {n : Nat} (d : DCtx call T ops bf f fp n)
include d hcl

theorem DCtx.mo {j id : Nat} (hj : j < n) (hm : Mo f j id) : fp j = .wr id ∨ fp j = .call false := by
  obtain ⟨o, _, h2⟩ := d.tr j hj
  obtain ⟨hlt, hne⟩ := hm
  unfold drawOp at h2
  cases hw : (f j).wanted ops.toList o with
  | true =>
    simp only [hw, cond_true] at h2
    split at h2
    · rename_i v h1 hop
      split at h2
      · rename_i s1 hp
        simp only [Option.some.injEq, Prod.mk.injEq] at h2
        rw [← h2.1, (St.put_h hp).1] at hne
        rw [← h2.2]
        cases hf : fpOf o (f j).ev with
        | none =>
          obtain ⟨h3, _, ha⟩ := evOp_bare hf hop
          exact absurd (ha.get.1 id hlt) hne
        | rd b =>
          obtain ⟨rfl, _⟩ := evOp_rd hf hop
          exact absurd rfl hne
        | wr b => exact (evOp_wr hf hop).elim
        | call c =>
          have : c = false := by
            unfold fpOf at hf
            split at hf
            · split at hf <;> cases hf <;> rfl
            · split at hf <;> cases hf <;> rfl
            · split at hf <;> cases hf <;> rfl
            · cases hf
          subst this
          exact .inr rfl
      · cases h2
    · rename_i h1 hop
      split at h2
      · rename_i s1 hp
        simp only [Option.some.injEq, Prod.mk.injEq] at h2
        rw [← h2.1, (St.put_h hp).1] at hne
        rw [← h2.2]
        obtain ⟨t, a, x, b, off, _, hea, hs, hf⟩ := evOp_skip hop
        rw [hea] at hs
        obtain ⟨ob, hput⟩ := evStore_put hs
        have hg := (Hp.put_get hput).2.2.2.2 id
        by_cases e : id = b
        · subst e; exact .inl hf
        · rw [if_neg e] at hg
          exact absurd hg hne
      · cases h2
    · split at h2
      · rename_i v h1 hcall
        split at h2
        · rename_i s1 hp
          simp only [Option.some.injEq, Prod.mk.injEq] at h2
          rw [← h2.1, (St.put_h hp).1] at hne
          rw [← h2.2]
          have hle := hcl _ _ _ _ _ hcall
          cases hb : Nat.ble (f j).h.next h1.low with
          | true =>
            have hb' := Nat.ble_eq.mp hb
            have := hle.same id (by omega) hlt
            exact absurd this hne
          | false => exact .inr rfl
        · cases h2
      · cases h2
    · cases h2
  | false =>
    simp only [hw, cond_false] at h2
    split at h2
    · rename_i s1 hp
      simp only [Option.some.injEq, Prod.mk.injEq] at h2
      rw [← h2.1, (St.put_h hp).1] at hne
      exact absurd rfl hne
    · cases h2

/-- what operation i looks at -/
def Lk (fp : Nat → Fp) (i id : Nat) : Prop := fp i = .rd id ∨ fp i = .wr id ∨ ∃ c, fp i = .call c

theorem DCtx.c1 {i j id : Nat} (hi : i < n) (hj : j < n) (hne : i ≠ j) (hm : Mo f j id) (hl : Lk fp i id) : comes bf i j = true ∨ comes bf j i = true := by
  have hmo := d.mo hcl hj hm
  rcases d.sep i j hi hj hne with h | h | h | h | h
  · exfalso
    unfold isQuiet at h
    simp only at h
    rcases hl with e | e | ⟨c, e⟩ <;> rw [e] at h <;> cases h
  · exfalso
    unfold isQuiet at h
    simp only at h
    rcases hmo with e | e <;> rw [e] at h <;> cases h
  · exfalso
    unfold Ent.apart at h
    simp only at h
    rcases hmo with e | e <;> rcases hl with e' | e' | ⟨c, e'⟩ <;> rw [e, e'] at h
    · simp [Nat.beq_eq] at h
    · simp [Nat.beq_eq] at h
    · cases c <;> cases h
    · cases h
    · cases h
    · cases c <;> cases h
  · exact .inl h
  · exact .inr h

theorem DCtx.c2 {i j id : Nat} (hi : i < n) (hj : j < n) (hm : Mo f j id) (h1 : (f i).h.next ≤ id) (h2 : id < (f (i + 1)).h.next) : i < j ∧ comes bf i j = true := by
  have hlt : i < j := by
    rcases Nat.lt_or_ge i j with h | h
    · exact h
    · have := d.next_mono j i h (by omega)
      have := hm.1
      omega
  refine ⟨hlt, ?_⟩
  have hmo := d.mo hcl hj hm
  have hback : comes bf j i = true → comes bf i j = true := fun h => by have := d.b3 j i hj hi h; omega
  rcases d.sep i j hi hj (by omega) with h | h | h | h | h
  · exfalso
    unfold isQuiet at h
    simp only at h
    split at h
    · rw [Nat.beq_eq] at h
      omega
    · cases h
  · exfalso
    unfold isQuiet at h
    simp only at h
    rcases hmo with e | e <;> rw [e] at h <;> cases h
  · exfalso
    have hmade : Ent.made ⟨i, fp i, (f i).h.next, (f (i + 1)).h.next⟩ id = true := by
      simp only [Ent.made, Bool.and_eq_true, Nat.ble_eq, Nat.blt_eq]
      exact ⟨h1, h2⟩
    -- a look, or a store, makes nothing
    have hnx : ∀ b, fp i ≠ .rd b ∧ fp i ≠ .wr b := by
      intro b
      obtain ⟨o, _, h3⟩ := d.tr i hi
      unfold drawOp at h3
      cases hw : (f i).wanted ops.toList o with
      | true =>
        simp only [hw, cond_true] at h3
        split at h3
        · rename_i v h1' hop
          split at h3
          · rename_i s1 hp
            simp only [Option.some.injEq, Prod.mk.injEq] at h3
            rw [← h3.1, (St.put_h hp).1] at h2
            rw [← h3.2]
            refine ⟨fun e => ?_, fun e => (evOp_wr e hop).elim⟩
            obtain ⟨rfl, _⟩ := evOp_rd e hop
            omega
          · cases h3
        · rename_i h1' hop
          split at h3
          · rename_i s1 hp
            simp only [Option.some.injEq, Prod.mk.injEq] at h3
            rw [← h3.1, (St.put_h hp).1] at h2
            rw [← h3.2]
            obtain ⟨t, a, x, b', off, _, hea, hs, hf⟩ := evOp_skip hop
            rw [hea] at hs
            obtain ⟨ob, hput⟩ := evStore_put hs
            have := (Hp.put_get hput).2.1
            omega
          · cases h3
        · split at h3
          · split at h3
            · simp only [Option.some.injEq, Prod.mk.injEq] at h3
              rw [← h3.2]
              exact ⟨(fun e => by cases e), (fun e => by cases e)⟩
            · cases h3
          · cases h3
        · cases h3
      | false =>
        simp only [hw, cond_false] at h3
        split at h3
        · simp only [Option.some.injEq, Prod.mk.injEq] at h3
          rw [← h3.2]
          exact ⟨(fun e => by cases e), (fun e => by cases e)⟩
        · cases h3
    unfold Ent.apart at h
    simp only at h
    cases hfi : fp i with
    | none =>
      rcases hmo with e | e <;> rw [hfi, e] at h
      · rw [hfi] at hmade
        simp only at h
        rw [hmade] at h
        cases h
      · cases h
    | rd b => exact (hnx b).1 hfi
    | wr b => exact (hnx b).2 hfi
    | call c =>
      rcases hmo with e | e <;> rw [hfi, e] at h <;> cases c <;> cases h
  · exact h
  · exact hback h
end
end Go.Ev

/- EV, part 18: whatever order is drawn: one step, and all. -/
namespace Go.Ev
open Go

/-- m: at which state of the lexical order a block stands. -/
structure HPm (D : Nat → Prop) (f : Nat → St) (n : Nat) (S : Nat → Prop) (ρ : Ren) (w : World) (m : Nat → Nat) : Prop where
  mle : ∀ id, m id ≤ n
  mod : ∀ id j, ρ id ≠ none → j < n → Mo f j id → (j < m id ↔ S j)
  inn : ∀ id x, ρ id = some x → id < (f (m id)).h.next ∨ (f n).h.next ≤ id
  obj : ∀ id b c o, ρ id = some (b, c) → (f (m id)).h.get id = some o → D b ∧ ∃ o', w.heap[b]? = some o' ∧ o.rel ρ c o'
  inj : ∀ i j b c c', ρ i = some (b, c) → ρ j = some (b, c') → (f (m i)).h.get i ≠ none → (f (m j)).h.get j ≠ none → i = j

structure Inv (D : Nat → Prop) (ops : Array Oper) (f : Nat → St) (n : Nat) (ρ0 : Ren) (w0 : World) (S : Nat → Prop) (ρ : Ren) (a : Act) (w : World) : Prop where
  closed : ∀ j oj, S j → ops[j]? = some oj → ∀ e ∈ oj.after, Region.binds .any e = true → S e.on
  sub : ∀ j, S j → j < n
  tsz : a.tmps.size = (f 0).n
  tm : ∀ t, ∃ m, m ≤ n ∧ (∀ j oj, ops[j]? = some oj → oj.dst = some t → (j < m ↔ S j)) ∧ ((f m).slot t).rel ρ (a.tmps.getD t undef)
  ds : relDs ρ (f 0).ds a.defers
  hp : ∃ m, HPm D f n S ρ w m
  dom : ∀ id x, ρ id = some x → ρ0 id = some x ∨ ∃ i, S i ∧ (f i).h.next ≤ id ∧ id < (f (i + 1)).h.next
  le : Ren.le ρ0 ρ
  fr : Fr D w0 w
  far : ∀ b, w.heap.size ≤ b → D b
  ext : ∀ id, id < (f 0).h.next ∨ (f n).h.next ≤ id → ρ id = ρ0 id

section
variable {P : Program} {call : CallF} (hcl : CallLe call) {T : Tab} {ops : Array Oper} {bf : List Nat} {f : Nat → St} {fp : Nat → Fp} {n : Nat} (d : DCtx call T ops bf f fp n)
include d

theorem DCtx.op_lt {j : Nat} {o : Oper} (h : ops[j]? = some o) : j < n := by
  have := (Array.getElem?_eq_some_iff.1 h).1
  rw [d.size] at this
  exact this

theorem DCtx.stay : ∀ j, j ≤ n → (f j).n = (f 0).n ∧ (f j).ds = (f 0).ds := by
  intro j hj
  induction j with
  | zero => exact ⟨rfl, rfl⟩
  | succ j ih =>
    obtain ⟨h1, h2⟩ := ih (by omega)
    rw [← h1, ← h2]
    obtain ⟨o, _, h3⟩ := d.tr j (by omega)
    unfold drawOp at h3
    cases hw : (f j).wanted ops.toList o with
    | true =>
      simp only [hw, cond_true] at h3
      split at h3
      · split at h3
        · rename_i s1 hp
          simp only [Option.some.injEq, Prod.mk.injEq] at h3
          rw [← h3.1]
          exact ⟨(St.put_h hp).2.1, (St.put_h hp).2.2⟩
        · cases h3
      · split at h3
        · rename_i s1 hp
          simp only [Option.some.injEq, Prod.mk.injEq] at h3
          rw [← h3.1]
          exact ⟨(St.put_h hp).2.1, (St.put_h hp).2.2⟩
        · cases h3
      · split at h3
        · split at h3
          · rename_i s1 hp
            simp only [Option.some.injEq, Prod.mk.injEq] at h3
            rw [← h3.1]
            exact ⟨(St.put_h hp).2.1, (St.put_h hp).2.2⟩
          · cases h3
        · cases h3
      · cases h3
    | false =>
      simp only [hw, cond_false] at h3
      split at h3
      · rename_i s1 hp
        simp only [Option.some.injEq, Prod.mk.injEq] at h3
        rw [← h3.1]
        exact ⟨(St.put_h hp).2.1, (St.put_h hp).2.2⟩
      · cases h3

section inv
variable {D : Nat → Prop} {ρ0 ρ : Ren} {w0 w : World} {S : Nat → Prop} {a : Act} (v : Inv D ops f n ρ0 w0 S ρ a w)
include v

theorem Inv.comes_S {i : Nat} (hi : i < n) : ∀ j, comes bf i j = true → S j → S i := by
  intro j
  induction j using Nat.strongRecOn with
  | _ j ih =>
    intro hc hj
    obtain ⟨oj, hoj, _⟩ := d.tr j (v.sub j hj)
    obtain ⟨e, he, hb, h⟩ := d.b1 i j oj hi hoj hc
    have hS := v.closed j oj hj hoj e he hb
    rcases h with h | h
    · rw [← h]; exact hS
    · exact ih e.on (d.b4 j oj hoj e he hb) h hS

variable {i : Nat} {o : Oper} (ho : ops[i]? = some o) (hiS : ¬ S i) (hed : ∀ e ∈ o.after, Region.binds .any e = true → S e.on)
include ho hiS hed

/-- What must come ahead has, what must wait has waited. -/
theorem Inv.sync {j : Nat} (hj : j < n) (h : comes bf i j = true ∨ comes bf j i = true) : j < i ↔ S j := by
  have hi := d.op_lt ho
  rcases h with h | h
  · have hlt := d.b3 i j hi hj h
    constructor
    · intro h2; omega
    · intro h2; exact absurd (v.comes_S d hi j h h2) hiS
  · have hlt := d.b3 j i hj hi h
    constructor
    · intro _
      obtain ⟨e, he, hb, h3⟩ := d.b1 j i o hj ho h
      have hS := hed e he hb
      rcases h3 with h3 | h3
      · rw [← h3]; exact hS
      · exact v.comes_S d hj e.on h3 hS
    · intro _; exact hlt

theorem Inv.sync_tmp {j : Nat} {oj : Oper} (hoj : ops[j]? = some oj) (hne : j ≠ i) (h : (∃ t, oj.dst = some t ∧ (t ∈ o.looksAt ops ∨ o.dst = some t))) : j < i ↔ S j := by
  have hj := d.op_lt hoj
  obtain ⟨t, ht, h⟩ := h
  refine v.sync d ho hiS hed hj ?_
  rcases Nat.lt_or_ge j i with hlt | hge
  · rcases d.b2 j i oj o hoj ho hlt with h1 | h1
    · exact .inr h1
    · obtain ⟨a1, a2, a3⟩ := Oper.apart_spec h1
      rcases h with h | h
      · exact absurd h (a1 t ht)
      · exact absurd h (a2 t ht)
  · rcases d.b2 i j o oj ho hoj (by omega) with h1 | h1
    · exact .inl h1
    · obtain ⟨a1, a2, a3⟩ := Oper.apart_spec h1
      rcases h with h | h
      · exact absurd h (a3 t ht)
      · exact absurd ht (a2 t h)

/-- The operation's own temporaries read as in the lexical order. -/
theorem Inv.look {t : Nat} (ht : t ∈ o.looksAt ops) : ((f i).slot t).rel ρ (a.tmps.getD t undef) := by
  obtain ⟨m, hm, hs, hr⟩ := v.tm t
  have hi := d.op_lt ho
  have key : ∀ j oj, ops[j]? = some oj → oj.dst = some t → (j < m ↔ j < i) := fun j oj hoj hdj => by
    rw [hs j oj hoj hdj]
    by_cases e : j = i
    · subst e
      constructor
      · intro h; exact absurd h hiS
      · intro h; omega
    · exact (v.sync_tmp d ho hiS hed hoj e ⟨t, hdj, .inl ht⟩).symm
  have : (f i).slot t = (f m).slot t := by
    rcases Nat.le_total m i with h | h
    · refine d.same_slot m i h (by omega) fun j oj h1 h2 hoj hdj => ?_
      have := (key j oj hoj hdj).2 h2
      omega
    · refine (d.same_slot i m h hm fun j oj h1 h2 hoj hdj => ?_).symm
      have := (key j oj hoj hdj).1 h2
      omega
  rw [this]
  exact hr

omit v hed in
theorem Inv.stage {m : Nat → Nat} (hp : HPm D f n S ρ w m) {id : Nat} {x : Nat × Nat} (hρ : ρ id = some x) (hin : id < (f i).h.next ∨ (f n).h.next ≤ id) (hs : ∀ j, j < n → Mo f j id → j ≠ i → (j < i ↔ S j)) :
    (f (m id)).h.get id = (f i).h.get id := by
  have hi := d.op_lt ho
  have key : ∀ j, j < n → Mo f j id → (j < m id ↔ j < i) := fun j hj hm => by
    rw [hp.mod id j (by simp [hρ]) hj hm]
    by_cases e : j = i
    · subst e
      constructor
      · intro h; exact absurd h hiS
      · intro h; omega
    · exact (hs j hj hm e).symm
  have hml := hp.mle id
  rcases Nat.le_total (m id) i with h | h
  · refine (d.same_get (m id) i h (by omega) (hp.inn id x hρ) fun j h1 h2 hm => ?_).symm
    have := (key j (by omega) hm).2 h2
    omega
  · refine d.same_get i (m id) h hml hin fun j h1 h2 hm => ?_
    have := (key j (by omega) hm).1 h2
    omega

/-- One more has been carried out. -/
theorem Inv.next {ρ' : Ren} {w' : World} {u : AV} {u' : Value} (hp' : ∃ m, HPm D f n (fun j => S j ∨ j = i) ρ' w' m) (hle : Ren.le ρ ρ') (hu : u.rel ρ' u')
    (hdom : ∀ id x, ρ' id = some x → ρ id = some x ∨ ((f i).h.next ≤ id ∧ id < (f (i + 1)).h.next)) (hfr : Fr D w w')
    (hslot : ∀ t, (f (i + 1)).slot t = if o.dst = some t then u else (f i).slot t) (hb : ∀ t, o.dst = some t → t < (f 0).n) :
    Inv D ops f n ρ0 w0 (fun j => S j ∨ j = i) ρ' (a.put o.dst u') w' := by
  have hi := d.op_lt ho
  refine ⟨?_, ?_, by rw [size_put]; exact v.tsz, ?_, by rw [defers_put]; exact relDs_mono hle v.ds, hp', ?_, v.le.trans hle, v.fr.trans hfr, fun b hb => v.far b (Nat.le_trans hfr.size hb), ?_⟩
  · rintro j oj (hj | rfl) hoj e he hbd
    · exact .inl (v.closed j oj hj hoj e he hbd)
    · rw [ho] at hoj
      injection hoj with hoj
      subst hoj
      exact .inl (hed e he hbd)
  · rintro j (hj | rfl)
    · exact v.sub j hj
    · exact hi
  · intro t
    rw [getD_put t (fun dd hdd => by rw [v.tsz]; exact hb dd hdd)]
    by_cases e : o.dst = some t
    · rw [if_pos e]
      refine ⟨i + 1, by omega, fun j oj hoj hdj => ?_, by rw [hslot, if_pos e]; exact hu⟩
      by_cases hji : j = i
      · subst hji
        constructor
        · intro _; exact .inr rfl
        · intro _; omega
      · have := v.sync_tmp d ho hiS hed hoj hji ⟨t, hdj, .inr e⟩
        constructor
        · intro h; exact .inl (this.1 (by omega))
        · rintro (h | h)
          · have := this.2 h; omega
          · exact absurd h hji
    · rw [if_neg e]
      obtain ⟨m, hm, hs, hr⟩ := v.tm t
      refine ⟨m, hm, fun j oj hoj hdj => ?_, AV.rel_mono hle _ _ hr⟩
      have hji : j ≠ i := by
        intro hji
        subst hji
        rw [ho] at hoj
        injection hoj with hoj
        subst hoj
        exact e hdj
      rw [hs j oj hoj hdj]
      constructor
      · intro h; exact .inl h
      · rintro (h | h)
        · exact h
        · exact absurd h hji
  · intro id x hx
    rcases hdom id x hx with h | h
    · rcases v.dom id x h with h | ⟨k, h1, h2⟩
      · exact .inl h
      · exact .inr ⟨k, .inl h1, h2⟩
    · exact .inr ⟨i, .inr rfl, h⟩
  · intro id hid
    have h1 := d.next_mono 0 i (by omega) (by omega)
    have h2 := d.next_mono (i + 1) n (by omega) (Nat.le_refl _)
    rw [← v.ext id hid]
    cases hx : ρ' id with
    | some x =>
      rcases hdom id x hx with h | h
      · exact h.symm
      · omega
    | none =>
      cases hy : ρ id with
      | none => rfl
      | some y => rw [hle id y hy] at hx; cases hx

omit hed in
theorem Inv.free (hf : Free ρ0 (f 0).h.next (f n).h.next) : Free ρ (f i).h.next (f (i + 1)).h.next := by
  have hi := d.op_lt ho
  intro id h1 h2
  cases hx : ρ id with
  | none => rfl
  | some x =>
    exfalso
    have m1 := d.next_mono 0 i (by omega) (by omega)
    have m2 := d.next_mono (i + 1) n (by omega) (Nat.le_refl _)
    rcases v.dom id x hx with h | ⟨k, hk, h3, h4⟩
    · have := hf id (by omega) (by omega)
      rw [this] at h
      cases h
    · have hkn := v.sub k hk
      rcases Nat.lt_trichotomy k i with h | h | h
      · have := d.next_mono (k + 1) i (by omega) (by omega)
        omega
      · subst h; exact hiS hk
      · have := d.next_mono (i + 1) k (by omega) (by omega)
        omega

omit d hed in
/-- Nothing is turned, and no block made. -/
theorem Inv.hp_same (hno : ∀ id, ¬ Mo f i id) {w' : World} (hw : ∀ b, b < w.heap.size → w'.heap[b]? = w.heap[b]?) : ∃ m, HPm D f n (fun j => S j ∨ j = i) ρ w' m := by
  obtain ⟨m, hp⟩ := v.hp
  refine ⟨m, hp.mle, fun id j hρ hj hm => ?_, hp.inn, fun id b c o hρ hg => ?_, hp.inj⟩
  · rw [hp.mod id j hρ hj hm]
    constructor
    · intro h; exact .inl h
    · rintro (h | h)
      · exact h
      · subst h; exact absurd hm (hno id)
  · obtain ⟨h1, o', h2, h3⟩ := hp.obj id b c o hρ hg
    exact ⟨h1, o', by rw [hw b (Array.getElem?_eq_some_iff.1 h2).1]; exact h2, h3⟩

include hcl in
theorem Inv.no_new (hf : Free ρ0 (f 0).h.next (f n).h.next) {id j : Nat} (hj : j < n) (hm : Mo f j id) (h1 : (f i).h.next ≤ id) (h2 : id < (f (i + 1)).h.next) : (j < i + 1 ↔ (S j ∨ j = i)) := by
  obtain ⟨h3, h4⟩ := d.c2 hcl (d.op_lt ho) hj hm h1 h2
  have := v.sync d ho hiS hed hj (.inl h4)
  constructor
  · intro h; omega
  · rintro (h | h)
    · have := this.2 h; omega
    · omega

include hcl in
/-- At the most one block is made, nothing else is looked at. -/
theorem Inv.hp_alloc (hf : Free ρ0 (f 0).h.next (f n).h.next) (hno : ∀ id, ¬ Mo f i id) {hE : Hp} (hal : Alike (f i).h (f (i + 1)).h hE) {ρ' : Ren} {w' : World} (st : Step (fun b => w.heap.size ≤ b) ρ (f i).h.bare w ρ' hE w') :
    ∃ m, HPm D f n (fun j => S j ∨ j = i) ρ' w' m := by
  have hi := d.op_lt ho
  obtain ⟨m, hp⟩ := v.hp
  have hfree := v.free d ho hiS hf
  have hnx : hE.next = (f (i + 1)).h.next := hal.get.2.1.symm
  have hnx2 := hal.get.2.2
  have hold : ∀ id, ρ id ≠ none → ρ' id = ρ id := fun id h => by
    cases hx : ρ id with
    | none => exact absurd hx h
    | some x => exact st.le id x hx
  have hnew : ∀ id x, ρ' id = some x → ρ id = none → (f i).h.next ≤ id ∧ id < (f (i + 1)).h.next := fun id x hx hn => by
    rcases Nat.lt_or_ge id (f i).h.next with h | h
    · rw [st.dom id (.inl h)] at hx; rw [hn] at hx; cases hx
    · rcases Nat.lt_or_ge id (f (i + 1)).h.next with h2 | h2
      · exact ⟨h, h2⟩
      · rw [st.dom id (.inr (by omega))] at hx; rw [hn] at hx; cases hx
  have hget : ∀ id, (f i).h.next ≤ id → (f (i + 1)).h.get id = hE.get id := fun id hid => by
    rcases hal with ⟨h1, h2⟩ | ⟨ob, h1, h2⟩
    · rw [h1, h2, d.born i (by omega) id hid]
      simp [Hp.get, Hp.bare, Tr.get_nil]
    · rw [(Hp.new_get h1).2.2 id, (Hp.new_get h2).2.2 id]
      by_cases e : id = (f i).h.next
      · rw [if_pos e, if_pos (by rw [e]; rfl)]
      · rw [if_neg e, if_neg (by intro h; exact e h), d.born i (by omega) id hid]
        simp [Hp.get, Hp.bare, Tr.get_nil]
  have hfrw : ∀ b, b < w.heap.size → w'.heap[b]? = w.heap[b]? := fun b hb => st.fr.block b hb (by omega)
  refine ⟨fun id => if ρ id = none then i + 1 else m id, fun id => ?_, fun id j hρ hj hm => ?_, fun id x hx => ?_, fun id b c ob hρ hg => ?_, fun x y b c c' hx hy hlx hly => ?_⟩
  · show (if ρ id = none then i + 1 else m id) ≤ n
    split
    · omega
    · exact hp.mle id
  · show j < (if ρ id = none then i + 1 else m id) ↔ _
    by_cases e : ρ id = none
    · rw [if_pos e]
      cases hx : ρ' id with
      | none => exact absurd hx hρ
      | some x =>
        obtain ⟨h1, h2⟩ := hnew id x hx e
        exact v.no_new hcl d ho hiS hed hf hj hm h1 h2
    · rw [if_neg e, hp.mod id j e hj hm]
      constructor
      · intro h; exact .inl h
      · rintro (h | h)
        · exact h
        · subst h; exact absurd hm (hno id)
  · show id < (f (if ρ id = none then i + 1 else m id)).h.next ∨ _
    by_cases e : ρ id = none
    · rw [if_pos e]
      exact .inl (hnew id x hx e).2
    · rw [if_neg e]
      rw [hold id e] at hx
      exact hp.inn id x hx
  · by_cases e : ρ id = none
    · simp only [e, if_true] at hg
      have h1 := hnew id _ hρ e
      rw [hget id h1.1] at hg
      obtain ⟨h2, o', h3, h4⟩ := st.hr.obj id b c ob hρ hg
      exact ⟨v.far b h2, o', h3, h4⟩
    · simp only [e, if_false] at hg
      rw [hold id e] at hρ
      obtain ⟨h1, o', h2, h3⟩ := hp.obj id b c ob hρ hg
      exact ⟨h1, o', by rw [hfrw b (Array.getElem?_eq_some_iff.1 h2).1]; exact h2, AO.rel_mono st.le h3⟩
  · have hnb : ∀ z c, ρ' z = some (b, c) → ρ z = none → (f (i + 1)).h.get z ≠ none → w.heap.size ≤ b := fun z c hz e hl => by
      have h1 := hnew z _ hz e
      cases hg : (f (i + 1)).h.get z with
      | none => exact absurd hg hl
      | some ob => exact (st.hr.obj z b c ob hz (by rw [← hget z h1.1]; exact hg)).1
    have hob : ∀ z c, ρ' z = some (b, c) → ρ z ≠ none → (f (m z)).h.get z ≠ none → b < w.heap.size := fun z c hz e hl => by
      rw [hold z e] at hz
      cases hg : (f (m z)).h.get z with
      | none => exact absurd hg hl
      | some ob =>
        obtain ⟨_, o', h2, _⟩ := hp.obj z b c ob hz hg
        exact (Array.getElem?_eq_some_iff.1 h2).1
    by_cases ex : ρ x = none
    · simp only [ex, if_true] at hlx
      by_cases ey : ρ y = none
      · have h1 := hnew x _ hx ex
        have h2 := hnew y _ hy ey
        omega
      · simp only [ey, if_false] at hly
        have h1 := hnb x c hx ex hlx
        have h2 := hob y c' hy ey hly
        omega
    · simp only [ex, if_false] at hlx
      by_cases ey : ρ y = none
      · simp only [ey, if_true] at hly
        have h1 := hnb y c' hy ey hly
        have h2 := hob x c hx ex hlx
        omega
      · simp only [ey, if_false] at hly
        rw [hold x ex] at hx
        rw [hold y ey] at hy
        exact hp.inj x y b c c' hx hy hlx hly
end inv
end
end Go.Ev

/- EV, part 19: whatever order is drawn: the end. -/
namespace Go.Ev
open Go

section
variable {P : Program} {call : CallF} {T : Tab} {ops : Array Oper} {bf : List Nat} {f : Nat → St} {fp : Nat → Fp} {n : Nat} (d : DCtx call T ops bf f fp n) (hcl : CallLe call)
variable {D : Nat → Prop} {ρ0 ρ : Ren} {w0 w : World} {S : Nat → Prop} {a : Act} (v : Inv D ops f n ρ0 w0 S ρ a w)
variable {i : Nat} {o : Oper} (ho : ops[i]? = some o) (hiS : ¬ S i) (hed : ∀ e ∈ o.after, Region.binds .any e = true → S e.on)
include d hcl v ho hiS hed

theorem Inv.sync_lk {id : Nat} (hl : Lk fp i id) {j : Nat} (hj : j < n) (hm : Mo f j id) (hne : j ≠ i) : j < i ↔ S j :=
  v.sync d ho hiS hed hj (d.c1 hcl (d.op_lt ho) hj (Ne.symm hne) hm hl)

/-- A block that was there is written. -/
theorem Inv.hp_store {b : Nat} (hfp : fp i = .wr b) {ob : AO} {w' : World} {b' c' : Nat} {ob' : Obj} (hput : (f i).h.put b (some ob) = some (f (i + 1)).h) (hlive : (f i).h.get b ≠ none) (hρ : ρ b = some (b', c'))
    (hw : w'.heap[b']? = some ob') (hrel : ob.rel ρ c' ob') (hother : ∀ j, j ≠ b' → w'.heap[j]? = w.heap[j]?) : ∃ m, HPm D f n (fun j => S j ∨ j = i) ρ w' m := by
  have hi := d.op_lt ho
  obtain ⟨m, hp⟩ := v.hp
  obtain ⟨p1, p2, p3, p4, p5⟩ := Hp.put_get hput
  have hst : (f (m b)).h.get b = (f i).h.get b := Inv.stage d ho hiS hp hρ (.inl p1) fun j hj hm hne => v.sync_lk d hcl ho hiS hed (.inr (.inl hfp)) hj hm hne
  have hlive' : (f (m b)).h.get b ≠ none := by rw [hst]; exact hlive
  refine ⟨fun id => if id = b then i + 1 else m id, fun id => ?_, fun id j hρ' hj hm => ?_, fun id x hx => ?_, fun id c e ob2 hρ' hg => ?_, fun x y c e e' hx hy hlx hly => ?_⟩
  · show (if id = b then i + 1 else m id) ≤ n
    split
    · omega
    · exact hp.mle id
  · show j < (if id = b then i + 1 else m id) ↔ _
    by_cases e : id = b
    · subst e
      rw [if_pos rfl]
      by_cases hji : j = i
      · subst hji
        constructor
        · intro _; exact .inr rfl
        · intro _; omega
      · have := v.sync_lk d hcl ho hiS hed (.inr (.inl hfp)) hj hm hji
        constructor
        · intro h; exact .inl (this.1 (by omega))
        · rintro (h | h)
          · have := this.2 h; omega
          · exact absurd h hji
    · rw [if_neg e, hp.mod id j hρ' hj hm]
      constructor
      · intro h; exact .inl h
      · rintro (h | h)
        · exact h
        · subst h
          have := hm.2
          rw [p5, if_neg e] at this
          exact absurd rfl this
  · show id < (f (if id = b then i + 1 else m id)).h.next ∨ _
    by_cases e : id = b
    · rw [if_pos e, p2, e]
      exact .inl p1
    · rw [if_neg e]
      exact hp.inn id x hx
  · by_cases e1 : id = b
    · subst e1
      simp only [if_true] at hg
      rw [hρ] at hρ'
      simp only [Option.some.injEq, Prod.mk.injEq] at hρ'
      obtain ⟨rfl, rfl⟩ := hρ'
      rw [p5, if_pos rfl] at hg
      simp only [Option.some.injEq] at hg
      subst hg
      cases hg0 : (f (m id)).h.get id with
      | none => exact absurd hg0 hlive'
      | some o0 => exact ⟨(hp.obj id b' c' o0 hρ hg0).1, ob', hw, hrel⟩
    · simp only [e1, if_false] at hg
      obtain ⟨h1, o', h2, h3⟩ := hp.obj id c e ob2 hρ' hg
      refine ⟨h1, o', ?_, h3⟩
      rw [hother]
      · exact h2
      · intro hc
        subst hc
        exact e1 (hp.inj id b c e c' hρ' hρ (by simp [hg]) hlive')
  · have hl : ∀ z, (f (if z = b then i + 1 else m z)).h.get z ≠ none → (f (m z)).h.get z ≠ none := fun z hz => by
      by_cases e : z = b
      · subst e; exact hlive'
      · rw [if_neg e] at hz; exact hz
    exact hp.inj x y c e e' hx hy (hl x hlx) (hl y hly)

/-- For an operation that looks at all. -/
def FullD (f : Nat → St) (ρ : Ren) (w : World) (i : Nat) (b : Nat) : Prop := w.heap.size ≤ b ∨ ∃ id c, ρ id = some (b, c) ∧ (f i).h.get id ≠ none

theorem Inv.full {c : Bool} (hfp : fp i = .call c) {h : Hp} (hh : ∀ id, h.get id = (f i).h.get id) (hn : h.next = (f i).h.next) : HR (FullD f ρ w i) ρ h w ∧ ∀ b, FullD f ρ w i b → D b := by
  have hi := d.op_lt ho
  obtain ⟨m, hp⟩ := v.hp
  have hst : ∀ id x, ρ id = some x → id < (f i).h.next → (f (m id)).h.get id = (f i).h.get id := fun id x hx hid =>
    Inv.stage d ho hiS hp hx (.inl hid) fun j hj hm hne => v.sync_lk d hcl ho hiS hed (.inr (.inr ⟨c, hfp⟩)) hj hm hne
  have hlt : ∀ id, (f i).h.get id ≠ none → id < (f i).h.next := fun id hl => by
    rcases Nat.lt_or_ge id (f i).h.next with h | h
    · exact h
    · exact absurd (d.born i (by omega) id h) hl
  refine ⟨⟨fun id b e ob hρ hg => ?_, fun x y b e e' hx hy hlx hly => ?_, fun id hid => ?_, fun b hb => .inl hb⟩, ?_⟩
  · rw [hh] at hg
    have hl : (f i).h.get id ≠ none := by simp [hg]
    refine ⟨.inr ⟨id, e, hρ, hl⟩, ?_⟩
    rw [← hst id _ hρ (hlt id hl)] at hg
    exact (hp.obj id b e ob hρ hg).2
  · rw [hh] at hlx hly
    have h1 := hlt x hlx
    have h2 := hlt y hly
    rw [← hst x _ hx h1] at hlx
    rw [← hst y _ hy h2] at hly
    exact hp.inj x y b e e' hx hy hlx hly
  · rw [hh]
    exact d.born i (by omega) id (by omega)
  · rintro b (hb | ⟨id, e, hρ, hl⟩)
    · exact v.far b hb
    · have h1 := hlt id hl
      cases hg : (f i).h.get id with
      | none => exact absurd hg hl
      | some ob =>
        rw [← hst id _ hρ h1] at hg
        exact (hp.obj id b e ob hρ hg).1

theorem Inv.hp_full (hf : Free ρ0 (f 0).h.next (f n).h.next) {c : Bool} (hfp : fp i = .call c) {h h1 : Hp} (hh : ∀ id, h.get id = (f i).h.get id) (hn : h.next = (f i).h.next)
    (hh1 : ∀ id, (f (i + 1)).h.get id = h1.get id) (hn1 : (f (i + 1)).h.next = h1.next) {ρ' : Ren} {w' : World} (st : Step (FullD f ρ w i) ρ h w ρ' h1 w') : ∃ m, HPm D f n (fun j => S j ∨ j = i) ρ' w' m := by
  have hi := d.op_lt ho
  obtain ⟨hfull, hDD⟩ := v.full d hcl ho hiS hed hfp hh hn
  obtain ⟨m, hp⟩ := v.hp
  have hfree := v.free d ho hiS hf
  have hst : ∀ id x, ρ id = some x → id < (f i).h.next → (f (m id)).h.get id = (f i).h.get id := fun id x hx hid =>
    Inv.stage d ho hiS hp hx (.inl hid) fun j hj hm hne => v.sync_lk d hcl ho hiS hed (.inr (.inr ⟨c, hfp⟩)) hj hm hne
  have hlt : ∀ id, (f i).h.get id ≠ none → id < (f i).h.next := fun id hl => by
    rcases Nat.lt_or_ge id (f i).h.next with h | h
    · exact h
    · exact absurd (d.born i (by omega) id h) hl
  have hnx := d.next_mono i (i + 1) (by omega) (by omega)
  have hfar : ∀ id, (f (i + 1)).h.next ≤ id → ρ' id = ρ id := fun id hid => st.dom id (.inr (by omega))
  -- a block that was made early stays as it is
  have hearly : ∀ id b e, ρ id = some (b, e) → (f (i + 1)).h.next ≤ id → (f (m id)).h.get id ≠ none → ¬ FullD f ρ w i b := fun id b e hρ hid hl => by
    rintro (hb | ⟨id2, e2, hρ2, hl2⟩)
    · cases hg : (f (m id)).h.get id with
      | none => exact absurd hg hl
      | some ob =>
        obtain ⟨_, o', h2, _⟩ := hp.obj id b e ob hρ hg
        have := (Array.getElem?_eq_some_iff.1 h2).1
        omega
    · have h2 := hlt id2 hl2
      rw [← hst id2 _ hρ2 h2] at hl2
      have := hp.inj id id2 b e e2 hρ hρ2 hl hl2
      omega
  refine ⟨fun id => if id < (f (i + 1)).h.next then i + 1 else m id, fun id => ?_, fun id j hρ hj hm => ?_, fun id x hx => ?_, fun id b e ob hρ hg => ?_, fun x y b e e' hx hy hlx hly => ?_⟩
  · show (if id < (f (i + 1)).h.next then i + 1 else m id) ≤ n
    split
    · omega
    · exact hp.mle id
  · show j < (if id < (f (i + 1)).h.next then i + 1 else m id) ↔ _
    by_cases e : id < (f (i + 1)).h.next
    · rw [if_pos e]
      rcases Nat.lt_or_ge id (f i).h.next with h2 | h2
      · by_cases hji : j = i
        · subst hji
          constructor
          · intro _; exact .inr rfl
          · intro _; omega
        · have := v.sync_lk d hcl ho hiS hed (.inr (.inr ⟨c, hfp⟩)) hj hm hji
          constructor
          · intro h; exact .inl (this.1 (by omega))
          · rintro (h | h)
            · have := this.2 h; omega
            · exact absurd h hji
      · exact v.no_new hcl d ho hiS hed hf hj hm h2 e
    · rw [if_neg e]
      have hρ2 : ρ id ≠ none := by rw [← hfar id (by omega)]; exact hρ
      rw [hp.mod id j hρ2 hj hm]
      constructor
      · intro h; exact .inl h
      · rintro (h | h)
        · exact h
        · subst h
          have := hm.1
          omega
  · show id < (f (if id < (f (i + 1)).h.next then i + 1 else m id)).h.next ∨ _
    by_cases e : id < (f (i + 1)).h.next
    · rw [if_pos e]; exact .inl e
    · rw [if_neg e]
      rw [hfar id (by omega)] at hx
      exact hp.inn id x hx
  · by_cases e1 : id < (f (i + 1)).h.next
    · simp only [e1, if_true] at hg
      rw [hh1] at hg
      obtain ⟨h2, o', h3, h4⟩ := st.hr.obj id b e ob hρ hg
      exact ⟨hDD b h2, o', h3, h4⟩
    · simp only [e1, if_false] at hg
      rw [hfar id (by omega)] at hρ
      obtain ⟨h2, o', h3, h4⟩ := hp.obj id b e ob hρ hg
      refine ⟨h2, o', ?_, AO.rel_mono st.le h4⟩
      rw [st.fr.block b (Array.getElem?_eq_some_iff.1 h3).1 (hearly id b e hρ (by omega) (by simp [hg]))]
      exact h3
  · have hlo : ∀ z e, ρ' z = some (b, e) → z < (f (i + 1)).h.next → (f (i + 1)).h.get z ≠ none → FullD f ρ w i b := fun z e hz hlz hl => by
      cases hg : (f (i + 1)).h.get z with
      | none => exact absurd hg hl
      | some ob => exact (st.hr.obj z b e ob hz (by rw [← hh1]; exact hg)).1
    by_cases ex : x < (f (i + 1)).h.next
    · simp only [ex, if_true] at hlx
      by_cases ey : y < (f (i + 1)).h.next
      · simp only [ey, if_true] at hly
        exact st.hr.inj x y b e e' hx hy (by rw [← hh1]; exact hlx) (by rw [← hh1]; exact hly)
      · simp only [ey, if_false] at hly
        rw [hfar y (by omega)] at hy
        exact absurd (hlo x e hx ex hlx) (hearly y b e' hy (by omega) hly)
    · simp only [ex, if_false] at hlx
      rw [hfar x (by omega)] at hx
      by_cases ey : y < (f (i + 1)).h.next
      · simp only [ey, if_true] at hly
        exact absurd (hlo y e' hy ey hly) (hearly x b e hx (by omega) hlx)
      · simp only [ey, if_false] at hly
        rw [hfar y (by omega)] at hy
        exact hp.inj x y b e e' hx hy hlx hly
end
end Go.Ev

/- EV, part 20: regions that draw their order: sound. -/
namespace Go.Ev
open Go

theorem fr_mono {D D' : Nat → Prop} {w w' : World} (h : Fr D' w w') (k : ∀ b, b < w.heap.size → D' b → D b) : Fr D w w' :=
  ⟨h.os, h.tape, h.output, h.size, fun b hb hd => h.block b hb fun e => hd (k b hb e)⟩

theorem put_lt {s s' : St} {dst : Option Tmp} {v : AV} {h : Hp} (k : s.put dst v h = some s') : ∀ t, dst = some t → t < s.n := fun t ht => by
  subst ht
  exact put_dst k

theorem exec {P : Program} {T : Tab} (hT : T.Ok P) {call : CallF} (hc : CallOk P call) (hcl : CallLe call) {ops : Array Oper} {bf : List Nat} {f : Nat → St} {fp : Nat → Fp} {n : Nat} (d : DCtx call T ops bf f fp n)
    {D : Nat → Prop} {ρ0 ρ : Ren} {w0 w : World} {S : Nat → Prop} {a : Act} (v : Inv D ops f n ρ0 w0 S ρ a w) (hf : Free ρ0 (f 0).h.next (f n).h.next) {i : Nat} {o : Oper} (ho : ops[i]? = some o) (hiS : ¬ S i)
    (hed : ∀ e ∈ o.after, Region.binds .any e = true → S e.on) {Q : Exit → Act → World → Prop} {K : Act → World → Prop} (hK : ∀ ρ' a' w', Inv D ops f n ρ0 w0 (fun j => S j ∨ j = i) ρ' a' w' → K a' w') : wpOp P ops Q i K a w := by
  have hi := d.op_lt ho
  obtain ⟨hsn, hsd⟩ := d.stay i (by omega)
  unfold wpOp
  simp only [ho]
  have hwant : Region.wanted o (yielded ops a.tmps) = (f i).wanted ops.toList o := wanted_rel (ρ := ρ) fun j want hg oj dd hj hd => by
    refine v.look d ho hiS hed ?_
    unfold Oper.looksAt
    rw [hg]
    simp only [List.mem_append]
    right
    simp [hj, hd]
  rw [hwant]
  obtain ⟨o', ho', htr⟩ := d.tr i hi
  rw [ho] at ho'
  injection ho' with ho'
  subst ho'
  unfold drawOp at htr
  cases hw : (f i).wanted ops.toList o with
  | false =>
    simp only [hw, cond_false] at htr
    rw [if_neg (by simp)]
    split at htr
    · rename_i s1 hp
      simp only [Option.some.injEq, Prod.mk.injEq] at htr
      obtain ⟨rfl, hfp⟩ := htr
      refine hK ρ _ w (v.next d ho hiS hed (u := .tuple []) ?_ (Ren.le.refl _) (rel_undef ρ) (fun id x hx => .inl hx) (Fr.refl _ _) (put_slot hp) (fun t ht => by rw [← hsn]; exact put_lt hp t ht))
      refine v.hp_same ho hiS ?_ (fun _ _ => rfl)
      intro id hm
      have := hm.2
      rw [(St.put_h hp).1] at this
      exact this rfl
    · cases htr
  | true =>
    simp only [hw, cond_true] at htr
    rw [if_pos rfl]
    refine .inl ?_
    unfold Oper.wp
    -- the operands, and nothing else
    let e' : Operand → AV := fun x => match x with
      | .tmp t => if t ∈ o.looksAt ops then (f i).slot t else .tuple []
      | x => (f i).ev x
    let ev' : Operand → Value := fun x => match x with
      | .tmp t => if t ∈ o.looksAt ops then a.tmps.getD t undef else undef
      | x => a.eval x
    have hrel : ∀ x, (e' x).rel ρ (ev' x) := fun x => by
      cases x with
      | tmp t =>
        show AV.rel ρ (if t ∈ o.looksAt ops then (f i).slot t else .tuple []) (if t ∈ o.looksAt ops then a.tmps.getD t undef else undef)
        by_cases ht : t ∈ o.looksAt ops
        · rw [if_pos ht, if_pos ht]
          exact v.look d ho hiS hed ht
        · rw [if_neg ht, if_neg ht]
          exact rel_undef ρ
      | const u => exact rel_toAV ρ u
      | global g =>
        show AV.rel ρ (.flat _) _
        simp only [AV.rel, ev', Act.eval]
      | func g =>
        show AV.rel ρ (.func (.func g) [] []) _
        simp only [AV.rel, ev', Act.eval]
        exact ⟨[], [], rfl, by simp [AV.relL], by simp [AV.relL]⟩
    have hmem : ∀ t, Operand.tmp t ∈ o.op.operands → t ∈ o.looksAt ops := fun t ht => by
      unfold Oper.looksAt
      rw [List.mem_append]
      left
      rw [List.mem_filterMap]
      exact ⟨.tmp t, by simpa using ht, rfl⟩
    have hop : ∀ x ∈ o.op.operands, (f i).ev x = e' x := fun x hx => by
      cases x with
      | tmp t =>
        show (f i).slot t = if t ∈ o.looksAt ops then (f i).slot t else .tuple []
        rw [if_pos (hmem t hx)]
      | _ => rfl
    have hop' : ∀ x ∈ o.op.operands, a.eval x = ev' x := fun x hx => by
      cases x with
      | tmp t =>
        show a.tmps.getD t undef = if t ∈ o.looksAt ops then a.tmps.getD t undef else undef
        rw [if_pos (hmem t hx)]
      | _ => rfl
    rw [show evOp T (f i).ev (f i).h o = evOp T e' (f i).h o from evOp_congr hop] at htr
    have hfpe : fpOf o (f i).ev = fpOf o e' := fpOf_congr hop
    have hns : ∀ cs b, o.op ≠ .select cs b := fun cs b e => by
      have : evOp T e' (f i).h o = none := by unfold evOp; rw [e]
      rw [this] at htr
      simp at htr
    rw [execOp_congr o hns hop']
    split at htr
    · -- a value
      rename_i u h1 hopv
      split at htr
      · rename_i s1 hp
        simp only [Option.some.injEq, Prod.mk.injEq] at htr
        obtain ⟨hs1, hfp⟩ := htr
        have hh := (St.put_h hp).1
        rw [hs1] at hh
        have hslot : ∀ t, (f (i + 1)).slot t = if o.dst = some t then u else (f i).slot t := by rw [← hs1]; exact put_slot hp
        have hblt : ∀ t, o.dst = some t → t < (f 0).n := fun t ht => by rw [← hsn]; exact put_lt hp t ht
        rw [hfpe] at hfp
        cases hfo : fpOf o e' with
        | none =>
          obtain ⟨hE, hopE, hal⟩ := evOp_bare hfo hopv
          have hrE : HR (fun b => w.heap.size ≤ b) ρ (f i).h.bare w :=
            ⟨fun id b c ob _ hg => by simp [Hp.get, Hp.bare, Tr.get_nil] at hg, fun x y b c c' _ _ hl => by simp [Hp.get, Hp.bare, Tr.get_nil] at hl, fun id _ => by simp [Hp.get, Hp.bare, Tr.get_nil], fun b hb => hb⟩
          have hfree := v.free d ho hiS hf
          have hnx : hE.next = (f (i + 1)).h.next := by rw [hh]; exact hal.get.2.1.symm
          obtain ⟨ρ', u', w', g1, g2, g3⟩ := evOp_sound hT hrE hrel hopE (by rw [hnx]; exact hfree)
          rw [g1]
          rw [← hh] at hal
          refine hK ρ' _ w' (v.next d ho hiS hed (v.hp_alloc hcl d ho hiS hed hf ?_ hal g2) g2.le g3 ?_ (fr_mono g2.fr fun b hb hb2 => absurd hb2 (by omega)) hslot hblt)
          · intro id hm
            exact hm.2 (hal.get.1 id hm.1)
          · intro id x hx
            rcases Nat.lt_or_ge id (f i).h.next with h | h
            · rw [g2.dom id (.inl h)] at hx; exact .inl hx
            · rcases Nat.lt_or_ge id (f (i + 1)).h.next with h2 | h2
              · exact .inr ⟨h, h2⟩
              · rw [g2.dom id (.inr (by omega))] at hx; exact .inl hx
        | rd b =>
          obtain ⟨rfl, t, ad, off, hop2, hea, hld⟩ := evOp_rd hfo hopv
          rw [hfo] at hfp
          obtain ⟨m, hpm⟩ := v.hp
          have hcell : CellsAt ρ (f i).h w b := fun b' n' l e x hg hρ => by
            have hl : b < (f i).h.next := by
              rcases Nat.lt_or_ge b (f i).h.next with h | h
              · exact h
              · rw [d.born i (by omega) b h] at hg; cases hg
            have hst := Inv.stage d ho hiS hpm hρ (.inl hl) fun j hj hm hne => v.sync_lk d hcl ho hiS hed (.inl hfp.symm) hj hm hne
            rw [← hst] at hg
            obtain ⟨_, o', h1, p, q, rfl, h3, h4, h5⟩ := hpm.obj b b' n' _ hρ hg
            exact ⟨p, q, h1, h3, h4, h5⟩
          obtain ⟨y, hy1, hy2⟩ := evLoad_at (P := P) (w := w) hT (fun b2 o2 hb2 => by rw [hea] at hb2; injection hb2 with hb2; subst hb2; exact hcell) (hrel ad) hld
          have hrun : (execOp ev' o).run P w = .ok (.value y) w := by
            unfold execOp
            rw [hop2]
            simp [hy1]
          rw [hrun]
          refine hK ρ _ w (v.next d ho hiS hed (v.hp_same ho hiS ?_ (fun _ _ => rfl)) (Ren.le.refl _) hy2 (fun id x hx => .inl hx) (Fr.refl _ _) hslot hblt)
          intro id hm
          exact hm.2 (by rw [hh])
        | wr b => exact (evOp_wr hfo hopv).elim
        | call c =>
          rw [hfo] at hfp
          obtain ⟨hfull, hDD⟩ := v.full d hcl ho hiS hed hfp.symm (h := (f i).h) (fun _ => rfl) rfl
          have hfree := v.free d ho hiS hf
          obtain ⟨ρ', u', w', g1, g2, g3⟩ := evOp_sound hT hfull hrel hopv (by rw [← hh]; exact hfree)
          rw [g1]
          refine hK ρ' _ w' (v.next d ho hiS hed (v.hp_full d hcl ho hiS hed hf hfp.symm (fun _ => rfl) rfl (fun id => by rw [hh]) (by rw [hh]) g2) g2.le g3 ?_ (fr_mono g2.fr fun b hb hb2 => hDD b hb2) hslot hblt)
          intro id x hx
          rcases Nat.lt_or_ge id (f i).h.next with h | h
          · rw [g2.dom id (.inl h)] at hx; exact .inl hx
          · rcases Nat.lt_or_ge id (f (i + 1)).h.next with h2 | h2
            · exact .inr ⟨h, h2⟩
            · rw [g2.dom id (.inr (by rw [← hh]; exact h2))] at hx; exact .inl hx
      · cases htr
    · -- a store
      rename_i h1 hopv
      split at htr
      · rename_i s1 hp
        simp only [Option.some.injEq, Prod.mk.injEq] at htr
        obtain ⟨hs1, hfp⟩ := htr
        have hh := (St.put_h hp).1
        rw [hs1] at hh
        have hslot : ∀ t, (f (i + 1)).slot t = if o.dst = some t then .tuple [] else (f i).slot t := by rw [← hs1]; exact put_slot hp
        have hblt : ∀ t, o.dst = some t → t < (f 0).n := fun t ht => by rw [← hsn]; exact put_lt hp t ht
        rw [hfpe] at hfp
        obtain ⟨t, ad, x, b, off, hop2, hea, hst, hfo⟩ := evOp_skip hopv
        rw [hfo] at hfp
        obtain ⟨m, hpm⟩ := v.hp
        have hcell : CellsAt ρ (f i).h w b := fun b' n' l e x hg hρ => by
          have hl : b < (f i).h.next := by
            rcases Nat.lt_or_ge b (f i).h.next with h | h
            · exact h
            · rw [d.born i (by omega) b h] at hg; cases hg
          have hst := Inv.stage d ho hiS hpm hρ (.inl hl) fun j hj hm hne => v.sync_lk d hcl ho hiS hed (.inr (.inl hfp.symm)) hj hm hne
          rw [← hst] at hg
          obtain ⟨_, o', h1, p, q, rfl, h3, h4, h5⟩ := hpm.obj b b' n' _ hρ hg
          exact ⟨p, q, h1, h3, h4, h5⟩
        obtain ⟨b', c', w', ob, ob', hρ, hrun, q1, q2, q3, q4, q5, q6, q7, q8, q9⟩ := evStore_at (P := P) (w := w) hT hea hcell (hrel ad) (hrel x) hst
        have hrun' : (execOp ev' o).run P w = .ok .skip w' := by
          unfold execOp
          rw [hop2]
          simp [hrun]
        rw [hrun']
        rw [← hh] at q7
        have hDb : D b' := by
          have hl : b < (f i).h.next := (Hp.put_get q7).1
          have hst2 := Inv.stage d ho hiS hpm hρ (.inl hl) fun j hj hm hne => v.sync_lk d hcl ho hiS hed (.inr (.inl hfp.symm)) hj hm hne
          cases hg : (f i).h.get b with
          | none => exact absurd hg q6
          | some o2 =>
            rw [← hst2] at hg
            exact (hpm.obj b b' c' o2 hρ hg).1
        refine hK ρ _ w' (v.next d ho hiS hed (v.hp_store d hcl ho hiS hed hfp.symm q7 q6 hρ q8 q9 q5) (Ren.le.refl _) (rel_undef ρ) (fun id x hx => .inl hx) ⟨q1, q2, q3, by omega, fun b2 hb2 hd2 => q5 b2 fun e => hd2 (by rw [e]; exact hDb)⟩ hslot hblt)
      · cases htr
    · -- a call
      rename_i g args hopv
      obtain ⟨hopE, _⟩ := evOp_enter hopv (f i).h.bare
      have hrE : HR (fun b => w.heap.size ≤ b) ρ (f i).h.bare w :=
        ⟨fun id b c ob _ hg => by simp [Hp.get, Hp.bare, Tr.get_nil] at hg, fun x y b c c' _ _ hl => by simp [Hp.get, Hp.bare, Tr.get_nil] at hl, fun id _ => by simp [Hp.get, Hp.bare, Tr.get_nil], fun b hb => hb⟩
      obtain ⟨args', g1, g2⟩ := evOp_sound hT hrE hrel hopE
      rw [g1]
      simp only [Oper.upon]
      split at htr
      · rename_i u h1 hcall
        split at htr
        · rename_i s1 hp
          simp only [Option.some.injEq, Prod.mk.injEq] at htr
          obtain ⟨hs1, hfp⟩ := htr
          have hh := (St.put_h hp).1
          rw [hs1] at hh
          have hslot : ∀ t, (f (i + 1)).slot t = if o.dst = some t then u else (f i).slot t := by rw [← hs1]; exact put_slot hp
          have hblt : ∀ t, o.dst = some t → t < (f 0).n := fun t ht => by rw [← hsn]; exact put_lt hp t ht
          have hget1 : ∀ id, (f (i + 1)).h.get id = h1.get id := fun id => by rw [hh]; rfl
          have hnx1 : (f (i + 1)).h.next = h1.next := by rw [hh]
          obtain ⟨hfull, hDD⟩ := v.full d hcl ho hiS hed hfp.symm (h := ⟨(f i).h.next, (f i).h.next, (f i).h.m⟩) (fun _ => rfl) rfl
          have hfree := v.free d ho hiS hf
          refine (hc _ _ _ _ _ hcall _ ρ w args' hfull (by rw [← hnx1]; exact hfree) g2).mono ?_
          rintro e2 w' ⟨ρ', st, u', rfl, hu⟩
          refine hK ρ' _ w' (v.next d ho hiS hed (v.hp_full d hcl ho hiS hed hf hfp.symm (h := ⟨(f i).h.next, (f i).h.next, (f i).h.m⟩) (fun _ => rfl) rfl hget1 hnx1 st) st.le hu ?_ (fr_mono st.fr fun b hb hb2 => hDD b hb2) hslot hblt)
          intro id x hx
          rcases Nat.lt_or_ge id (f i).h.next with h | h
          · rw [st.dom id (.inl h)] at hx; exact .inl hx
          · rcases Nat.lt_or_ge id (f (i + 1)).h.next with h2 | h2
            · exact .inr ⟨h, h2⟩
            · rw [st.dom id (.inr (by rw [← hnx1]; exact h2))] at hx; exact .inl hx
        · cases htr
      · cases htr
    · cases htr

/-! ### counting what has not come up -/
def cntU : Nat → (Nat → Bool) → Nat
  | 0, _ => 0
  | k + 1, p => cntU k p + cond (p k) 1 0
theorem cntU_set : ∀ (k : Nat) (p q : Nat → Bool) (i : Nat), i < k → p i = true → q i = false → (∀ j, j ≠ i → q j = p j) → cntU k q + 1 = cntU k p
  | 0, p, q, i, h, _, _, _ => by omega
  | k + 1, p, q, i, h, h1, h2, h3 => by
    simp only [cntU]
    by_cases e : i = k
    · subst e
      have : ∀ m, m ≤ i → cntU m q = cntU m p := by
        intro m hm
        induction m with
        | zero => rfl
        | succ m ih => simp only [cntU]; rw [ih (by omega), h3 m (by omega)]
      rw [this i (Nat.le_refl _), h1, h2]
      rfl
    · have := cntU_set k p q i (by omega) h1 h2 h3
      rw [h3 k (fun h => e h.symm)]
      omega
theorem cntU_zero : ∀ (k : Nat) (p : Nat → Bool), cntU k p = 0 → ∀ j, j < k → p j = false
  | 0, p, h, j, hj => by omega
  | k + 1, p, h, j, hj => by
    simp only [cntU] at h
    by_cases e : j = k
    · subst e
      cases hp : p j with
      | false => rfl
      | true => rw [hp] at h; simp at h
    · exact cntU_zero k p (by omega) j (by omega)
theorem cntU_le : ∀ (k : Nat) (p : Nat → Bool), cntU k p ≤ k
  | 0, p => Nat.le_refl _
  | k + 1, p => by
    simp only [cntU]
    have := cntU_le k p
    cases p k <;> simp <;> omega

theorem draw_any {P : Program} {T : Tab} (hT : T.Ok P) {call : CallF} (hc : CallOk P call) (hcl : CallLe call) {ops : Array Oper} {bf : List Nat} {f : Nat → St} {fp : Nat → Fp} (d : DCtx call T ops bf f fp ops.size)
    {D : Nat → Prop} {ρ0 : Ren} {w0 : World} (hf : Free ρ0 (f 0).h.next (f ops.size).h.next) (hborn : ∀ id, (f 0).h.next ≤ id → (f 0).h.get id = none) {Q : Exit → Act → World → Prop}
    (hQ : ∀ ρ' a' w', Step D ρ0 (f 0).h w0 ρ' (f ops.size).h w' → SRel D ρ' (f ops.size) a' w' → Q .normal a' w') : ∀ (fuel : Nat) (listed : Array Bool) (ρ : Ren) (a : Act) (w : World),
      listed.size = ops.size → cntU ops.size (fun j => !listed.getD j false) ≤ fuel → Inv D ops f ops.size ρ0 w0 (fun j => listed.getD j false = true) ρ a w → wpAny P .any ops Q fuel listed a w := by
  -- where nothing is ready all has come up
  have hend : ∀ (listed : Array Bool) (ρ : Ren) (a : Act) (w : World), (∀ j, j < ops.size → listed.getD j false = true) → Inv D ops f ops.size ρ0 w0 (fun j => listed.getD j false = true) ρ a w → Q .normal a w := by
    intro listed ρ a w hall v
    obtain ⟨m, hp⟩ := v.hp
    have hst : ∀ id x, ρ id = some x → (f ops.size).h.get id = (f (m id)).h.get id := fun id x hx => by
      refine d.same_get (m id) ops.size (hp.mle id) (Nat.le_refl _) (hp.inn id x hx) fun j h1 h2 hm => ?_
      have := (hp.mod id j (by simp [hx]) h2 hm).2 (hall j h2)
      omega
    have hr : HR D ρ (f ops.size).h w := ⟨fun id b c o hρ hg => by rw [hst id _ hρ] at hg; exact hp.obj id b c o hρ hg, fun x y b c c' hx hy hlx hly => by
      rw [hst x _ hx] at hlx
      rw [hst y _ hy] at hly
      exact hp.inj x y b c c' hx hy hlx hly, d.born ops.size (Nat.le_refl _), v.far⟩
    obtain ⟨hn, hds⟩ := d.stay ops.size (Nat.le_refl _)
    refine hQ ρ a w ⟨hr, v.le, v.fr, d.next_mono 0 ops.size (by omega) (Nat.le_refl _), v.ext⟩ ⟨fun t => ?_, by rw [v.tsz, hn], hr, by rw [hds]; exact v.ds⟩
    obtain ⟨mt, hmt, hs, hrel⟩ := v.tm t
    rw [d.same_slot mt ops.size hmt (Nat.le_refl _) fun j oj h1 h2 hoj hdj => ?_]
    · exact hrel
    · have := (hs j oj hoj hdj).2 (hall j h2)
      omega
  have hready : ∀ (listed : Array Bool), listed.size = ops.size → Region.ready .any ops listed = [] → ∀ j, j < ops.size → listed.getD j false = true := by
    intro listed hsz hr j
    induction j using Nat.strongRecOn with
    | _ j ih =>
      intro hj
      cases hl : listed.getD j false with
      | true => rfl
      | false =>
        exfalso
        obtain ⟨o, ho⟩ : ∃ o, ops[j]? = some o := ⟨_, Array.getElem?_eq_getElem hj⟩
        have : j ∈ Region.ready .any ops listed := by
          rw [mem_ready]
          refine ⟨?_, o, ho, fun e he hb => ih e.on (d.b4 j o ho e he hb) (by have := d.b4 j o ho e he hb; omega)⟩
          rw [Array.getD_eq_getD_getElem?, Array.getElem?_eq_getElem (by omega)] at hl ⊢
          simpa using hl
        rw [hr] at this
        cases this
  intro fuel
  induction fuel with
  | zero =>
    intro listed ρ a w hsz hcnt v
    have hz := cntU_zero ops.size _ (Nat.le_zero.1 hcnt)
    have hall : ∀ j, j < ops.size → listed.getD j false = true := fun j hj => by simpa using hz j hj
    refine ⟨?_, hend listed ρ a w hall v⟩
    cases hr : Region.ready .any ops listed with
    | nil => rfl
    | cons i l =>
      exfalso
      have hi : i ∈ Region.ready .any ops listed := by rw [hr]; simp
      obtain ⟨h1, o, ho, _⟩ := mem_ready.1 hi
      have hlt : i < ops.size := (Array.getElem?_eq_some_iff.1 ho).1
      have h2 := hall i hlt
      rw [Array.getD_eq_getD_getElem?, Array.getElem?_eq_getElem (by omega)] at h1 h2
      simp at h1 h2
      rw [h1] at h2
      cases h2
  | succ fuel ih =>
    intro listed ρ a w hsz hcnt v
    refine ⟨fun hr => hend listed ρ a w (hready listed hsz hr) v, fun i hi => ?_⟩
    obtain ⟨h1, o, ho, hed⟩ := mem_ready.1 hi
    have hlt : i < ops.size := (Array.getElem?_eq_some_iff.1 ho).1
    have hf1 : listed.getD i false = false := by
      rw [Array.getD_eq_getD_getElem?, Array.getElem?_eq_getElem (by omega)] at h1 ⊢
      simpa using h1
    refine exec hT hc hcl d v hf ho (by rw [hf1]; simp) hed fun ρ' a' w' v' => ?_
    have hset : ∀ j, (listed.setIfInBounds i true).getD j false = true ↔ (listed.getD j false = true ∨ j = i) := fun j => by
      by_cases e : j = i
      · subst e
        have : j < listed.size := by omega
        simp [this]
      · rw [getD_set_ne false (fun h => e h.symm)]
        simp [e]
    refine ih (listed.setIfInBounds i true) ρ' a' w' (by simpa using hsz) ?_ ?_
    · have := cntU_set ops.size (fun j => !listed.getD j false) (fun j => !(listed.setIfInBounds i true).getD j false) i hlt (by simp [hf1]) (by have := (hset i).2 (.inr rfl); simp [this]) (fun j hj => by rw [getD_set_ne false (fun h => hj h.symm)])
      omega
    · have : (fun j => (listed.setIfInBounds i true).getD j false = true) = fun j => listed.getD j false = true ∨ j = i := funext fun j => propext (hset j)
      rw [this]
      exact v'

theorem draw_ok {P : Program} {T : Tab} (hT : T.Ok P) (hm : P.follows .mixedOrders = true) (call : CallF) (hc : CallOk P call) (hcl : CallLe call) : DrawOk P call T := by
  intro id bf ops s e s' hreg hev D ρ a w Q sr fr dn
  obtain ⟨f, fp, d, h0, hn, rfl⟩ := dctx_mk hcl hreg hev sr.hr.born
  subst h0 hn
  have srd : HR D ρ (f 0).h { w with drawn := w.drawn + 1 } := sr.hr.drawn _
  refine wp_region_any hm ?_
  refine draw_any hT hc hcl d (w0 := { w with drawn := w.drawn + 1 }) (ρ0 := ρ) (D := D) fr sr.hr.born (fun ρ' a' w' st sr' => dn ρ' .normal a' w' ((Step.drawn sr.hr _).trans st) sr' rfl) ops.size _ ρ a _ (by simp) ?_ ?_
  · exact Nat.le_trans (cntU_le _ _) (Nat.le_refl _)
  · have hno : ∀ j, (Array.replicate ops.size false).getD j false = true → False := fun j h => by
      rw [Array.getD_eq_getD_getElem?, Array.getElem?_replicate] at h
      split at h <;> simp at h
    refine ⟨fun j oj hj => (hno j hj).elim, fun j hj => (hno j hj).elim, sr.sz, fun t => ⟨0, Nat.zero_le _, fun j oj _ _ => ⟨fun h => by omega, fun h => (hno j h).elim⟩, sr.tm t⟩, sr.ds, ⟨fun _ => 0, ?_⟩, fun id x hx => .inl hx, Ren.le.refl _, Fr.refl _ _, srd.far, fun _ _ => rfl⟩
    refine ⟨fun _ => Nat.zero_le _, fun id j _ _ _ => ⟨fun h => by omega, fun h => (hno j h).elim⟩, fun id x hx => ?_, srd.obj, srd.inj⟩
    rcases Nat.lt_or_ge id (f 0).h.next with h | h
    · exact .inl h
    · rcases Nat.lt_or_ge id (f ops.size).h.next with h2 | h2
      · rw [fr id h h2] at hx
        cases hx
      · exact .inr h2

/-- A closed call that answers one bool: by the kernel's run. -/
theorem closed_call {P : Program} {T : Tab} {m : Tr (Tr (List Nat))} (k : Tables' P T m) (hm : P.follows .mixedOrders = true) (lf n f : Nat) (b : Bool)
    (h : (match evCall T (maskOf m) lf n f [] Hp.empty with | some (.ret (.flat (.bool c)), _) => cond b c (!c) | _ => false) = true) (w : World) :
    Calls P f #[] w fun e w' => e = .returned (.bool b) ∧ RowKit.Below w.heap.size w w' :=
  closed_bool k (fun call hc hcl => draw_ok k.ok hm call hc hcl) lf n f b h w
end Go.Ev
