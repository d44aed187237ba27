/- An evaluator of the model's code over an abstract heap, and a faster one: the definitions. -/
import GoSem.Dispatch
import Derived.Calls
import Derived.Orders
set_option linter.unusedVariables false
set_option linter.unusedSimpArgs false
namespace Go.Ev
open Go
inductive Tr (α : Type) where
  | nil
  | node (v : Option α) (l r : Tr α)

def Tr.get {α : Type} : Tr α → Nat → Option α
  | .nil, _ => none
  | .node v l r, k => match k with
    | 0 => v
    | m + 1 => cond (Nat.beq (m % 2) 0) (l.get (m / 2)) (r.get (m / 2))

/-- 'none': the fuel is used up. -/
def Tr.set {α : Type} : Nat → Tr α → Nat → Option α → Option (Tr α)
  | 0, _, _, _ => none
  | f + 1, .nil, k, x => match k with
    | 0 => some (.node x .nil .nil)
    | m + 1 => cond (Nat.beq (m % 2) 0) ((Tr.set f .nil (m / 2) x).map fun t => .node none t .nil) ((Tr.set f .nil (m / 2) x).map fun t => .node none .nil t)
  | f + 1, .node v l r, k, x => match k with
    | 0 => some (.node x l r)
    | m + 1 => cond (Nat.beq (m % 2) 0) ((Tr.set f l (m / 2) x).map fun t => .node v t r) ((Tr.set f r (m / 2) x).map fun t => .node v l t)

inductive Cap where
  | exact (c : Nat)
  /-- up to the block's end, whose size nobody knows; an element has so many cells -/
  | toEnd (e : Nat)

inductive AV where
  | flat (v : Value)
  | ptr (b o : Nat)
  | slice (b o len : Nat) (cap : Cap)
  | map (r : Nat)
  | func (fn : Fn) (first captured : List AV)
  | iface (t : TypeId) (v : AV)
  | agg (l : List AV)
  | tuple (l : List AV)

/-- An abstract block's true number, and how many cells it has. -/
abbrev Ren := Nat → Option (Nat × Nat)

mutual
def AV.rel (ρ : Ren) : AV → Value → Prop
  | .flat u, v => v = u
  | .ptr b o, v => ∃ b' n', ρ b = some (b', n') ∧ v = .pointer (some ⟨b', o, none⟩)
  | .slice b o len (.exact c), v => ∃ b' n', ρ b = some (b', n') ∧ v = .slice (some ⟨b', o, none⟩) len c
  | .slice b o len (.toEnd e), v => ∃ b' n' c', ρ b = some (b', n') ∧ v = .slice (some ⟨b', o, none⟩) len c' ∧ len ≤ c' ∧ o + c' * e = n'
  | .map r, v => ∃ b' n', ρ r = some (b', n') ∧ v = .map (some b')
  | .func fn first cap, v => ∃ f' c', v = .func fn ⟨f'⟩ ⟨c'⟩ ∧ AV.relL ρ first f' ∧ AV.relL ρ cap c'
  | .iface t x, v => ∃ y, v = .iface t y ∧ AV.rel ρ x y
  | .agg l, v => ∃ l', v = .agg ⟨l'⟩ ∧ AV.relL ρ l l'
  | .tuple l, v => ∃ l', v = .tuple ⟨l'⟩ ∧ AV.relL ρ l l'
def AV.relL (ρ : Ren) : List AV → List Value → Prop
  | [], l' => l' = []
  | x :: xs, l' => ∃ y ys, l' = y :: ys ∧ AV.rel ρ x y ∧ AV.relL ρ xs ys
end
def Ren.le (ρ ρ' : Ren) : Prop := ∀ i x, ρ i = some x → ρ' i = some x
mutual
def toAV : Value → AV
  | .agg ⟨l⟩ => .agg (toAVL l)
  | .tuple ⟨l⟩ => .tuple (toAVL l)
  | .iface t v => .iface t (toAV v)
  | .func fn ⟨a⟩ ⟨b⟩ => .func fn (toAVL a) (toAVL b)
  | .bool b => .flat (.bool b)
  | .int k n => .flat (.int k n)
  | .float k b => .flat (.float k b)
  | .complex k a b => .flat (.complex k a b)
  | .string s => .flat (.string s)
  | .pointer a => .flat (.pointer a)
  | .slice a n c => .flat (.slice a n c)
  | .map r => .flat (.map r)
  | .chan r => .flat (.chan r)
  | .nilFunc => .flat .nilFunc
  | .nilIface => .flat .nilIface
def toAVL : List Value → List AV
  | [] => []
  | v :: l => toAV v :: toAVL l
end
inductive AO where
  /-- ext: behind these cells stand others, of which nothing is known -/
  | cells (l : List AV) (elem : TypeId) (ext : Bool)

def AO.rel (ρ : Ren) (n' : Nat) : AO → Obj → Prop
  | .cells l e ext, o => ∃ p r, o = .cells ⟨p ++ r⟩ e (0, 0) ∧ (p ++ r).length = n' ∧ AV.relL ρ l p ∧ (ext = false → r = [])

/-- one place of a store is turned -/
def upd {α : Type} (f : Nat → Option α) (k : Nat) (x : Option α) : Nat → Option α := fun j => if j = k then x else f j
structure Hp where
  next : Nat
  /-- no block below this number has been written since it was last laid -/
  low : Nat
  m : Nat → Option AO

def Hp.get (h : Hp) (i : Nat) : Option AO := h.m i
/-- a new block -/
def Hp.new (h : Hp) (o : AO) : Option Hp := some ⟨h.next + 1, h.low, upd h.m h.next (some o)⟩
/-- a block that is there is turned, or gone -/
def Hp.put (h : Hp) (i : Nat) (o : Option AO) : Option Hp := cond (Nat.blt i h.next) (some ⟨h.next, cond (Nat.blt i h.low) i h.low, upd h.m i o⟩) none

/-- Streams and tape are as they were, no block has gone, and a block that D doesn't name is as it was. -/
structure Fr (D : Nat → Prop) (w w' : World) : Prop where
  os : w'.os = w.os
  tape : w'.tape = w.tape
  output : w'.output = w.output
  size : w.heap.size ≤ w'.heap.size
  block : ∀ b, b < w.heap.size → ¬ D b → w'.heap[b]? = w.heap[b]?

structure HR (D : Nat → Prop) (ρ : Ren) (h : Hp) (w : World) : Prop where
  obj : ∀ i b n o, ρ i = some (b, n) → h.get i = some o → D b ∧ ∃ o', w.heap[b]? = some o' ∧ o.rel ρ n o'
  inj : ∀ i j b n m, ρ i = some (b, n) → ρ j = some (b, m) → h.get i ≠ none → h.get j ≠ none → i = j
  born : ∀ i, h.next ≤ i → h.get i = none
  far : ∀ b, w.heap.size ≤ b → D b

/-- One step, from (ρ, h, w) on. -/
structure Step (D : Nat → Prop) (ρ : Ren) (h : Hp) (w : World) (ρ' : Ren) (h' : Hp) (w' : World) : Prop where
  hr : HR D ρ' h' w'
  le : Ren.le ρ ρ'
  fr : Fr D w w'
  next : h.next ≤ h'.next
  dom : ∀ i, i < h.next ∨ h'.next ≤ i → ρ' i = ρ i

/-- Nothing has been named yet of what is to come. -/
def Free (ρ : Ren) (a b : Nat) : Prop := ∀ i, a ≤ i → i < b → ρ i = none

def forceN {α : Type} : Nat → (Nat → α) → α
  | 0, k => k 0
  | n + 1, k => k (n + 1)
def forceI {α : Type} : Int → (Int → α) → α
  | .ofNat n, k => forceN n fun m => k (.ofNat m)
  | .negSucc n, k => forceN n fun m => k (.negSucc m)
def forceB {α : Type} : Bool → (Bool → α) → α
  | true, k => k true
  | false, k => k false
def forceV {α : Type} : Value → (Value → α) → α
  | .int kd n, k => forceI n fun m => k (.int kd m)
  | .bool b, k => forceB b fun b => k (.bool b)
  | v, k => k v
def forceA {α : Type} : AV → (AV → α) → α
  | .flat v, k => forceV v fun v => k (.flat v)
  | .ptr b o, k => forceN b fun b => forceN o fun o => k (.ptr b o)
  | .slice b o n c, k => forceN b fun b => forceN o fun o => forceN n fun n => match c with
    | .exact c => forceN c fun c => k (.slice b o n (.exact c))
    | .toEnd e => k (.slice b o n (.toEnd e))
  | v, k => k v
/-- a list, to its end, its members too -/
def forceL {α : Type} : List AV → (List AV → α) → α
  | [], k => k []
  | x :: xs, k => forceA x fun x => forceL xs fun xs => k (x :: xs)
inductive TD where
  | bool | int (k : IntKind) | str | ptr (e : TypeId) | slice (e : TypeId) | array (n : Nat) (e : TypeId) | map (k e : TypeId)
  | struct (fs : List (Nat × TypeId)) | iface (empty : Bool) | func | other
structure TI where
  td : TD
  size : Nat
  bytes : Nat
  zero : List Value
structure Tab where
  types : Tr TI
  funs : Tr Func
  eqs : Tr Unit

def TDok : TypeDesc → TD → Prop
  | d, .bool => d = .bool
  | d, .int k => d = .int k
  | d, .str => d = .string
  | d, .ptr e => d = .pointer e
  | d, .slice e => d = .slice e
  | d, .array n e => d = .array n e
  | d, .map k e => d = .map k e
  | d, .struct l => ∃ fs, d = .struct fs ∧ l = fs.toList.map fun f => (f.offset, f.type)
  | d, .iface b => ∃ ms, d = .interface ms ∧ b = ms.isEmpty
  | d, .func => ∃ a b c, d = .func a b c
  | d, .other => True

def toTD : TypeDesc → TD
  | .bool => .bool
  | .int k => .int k
  | .string => .str
  | .pointer e => .ptr e
  | .slice e => .slice e
  | .array n e => .array n e
  | .map k e => .map k e
  | .struct fs => .struct (fs.toList.map fun f => (f.offset, f.type))
  | .interface ms => .iface ms.isEmpty
  | .func _ _ _ => .func
  | _ => .other
structure TIok (P : Program) (t : TypeId) (i : TI) : Prop where
  mk ::
  un : ∃ d, P.underlying t = some d ∧ TDok d i.td
  info : ∃ x z, P.info? t = some x ∧ x.size = i.size ∧ x.bytes = i.bytes ∧ x.zero = some z ∧ z.cells.toList = i.zero
  zs : i.zero.length = i.size
  pz : ∀ e, i.td = .ptr e → ∃ x, P.info? t = some x ∧ x.zero = some (.pointer none)

def zOk : TypeDesc → Value → Bool
  | .pointer _, .pointer none => true
  | .pointer _, _ => false
  | _, _ => true
def toTI (P : Program) (t : TypeId) : Option TI :=
  match P.underlying t, P.info? t with
  | some d, some x => match x.zero with
    | some z => if z.cells.toList.length = x.size ∧ zOk d z = true then some { td := toTD d, size := x.size, bytes := x.bytes, zero := z.cells.toList } else none
    | none => none
  | _, _ => none
structure FnOk (P : Program) (f : FuncId) (fn : Func) : Prop where
  get : P.funcs[f]? = some fn
  name : (fn.name == "runtime.NumGoroutine") = false
  body : fn.body.isNone = false

/-- A struct type that '==' compares by its fields, without a guard. -/
structure EqOk (P : Program) (t : TypeId) : Prop where
  stood : P.stoodInHeld t = false
  guarded : P.eqGuardType P.depth t = false
  names : ∀ fs, P.underlying t = some (.struct fs) → ∀ f, f ∈ fs.toList → f.name ≠ "_"
def eqChk (P : Program) (t : TypeId) : Bool :=
  !P.stoodInHeld t && (!P.eqGuardType P.depth t && match P.underlying t with
    | some (.struct fs) => fs.toList.all fun f => !(f.name == "_")
    | _ => true)
structure Tab.Ok (T : Tab) (P : Program) : Prop where
  eqs : ∀ t u, T.eqs.get t = some u → EqOk P t
  types : ∀ t i, T.types.get t = some i → TIok P t i
  funs : ∀ f fn, T.funs.get f = some fn → FnOk P f fn

/-- 'p' of each key that is there; 'g': a node's key in the whole. -/
def Tr.all {α : Type} (p : Nat → α → Bool) : Tr α → (Nat → Nat) → Bool
  | .nil, _ => true
  | .node v l r, g => (match v with | some x => p (g 0) x | none => true) && l.all p (fun m => g (2 * m + 1)) && r.all p (fun m => g (2 * m + 2))
def TD.agg : TD → Option Bool
  | .struct _ | .array _ _ => some true
  | .other => none
  | _ => some false
/-- 'k.wrap n', quick -/
def fwrap (k : IntKind) (n : Int) : Int :=
  match k with
  | .i64 => match n with
    | .ofNat m => cond (Nat.blt m 9223372036854775808) (.ofNat m) (IntKind.i64.wrap (.ofNat m))
    | .negSucc m => cond (Nat.blt m 9223372036854775808) (.negSucc m) (IntKind.i64.wrap (.negSucc m))
  | .u64 => match n with
    | .ofNat m => .ofNat (m % 18446744073709551616)
    | .negSucc m => IntKind.u64.wrap (.negSucc m)
  | k => k.wrap n
/-- '<', quick -/
def ilt : Int → Int → Bool
  | .ofNat a, .ofNat b => Nat.blt a b
  | .ofNat _, .negSucc _ => false
  | .negSucc _, .ofNat _ => true
  | .negSucc a, .negSucc b => Nat.blt b a
def ieq : Int → Int → Bool
  | .ofNat a, .ofNat b => Nat.beq a b
  | .negSucc a, .negSucc b => Nat.beq a b
  | _, _ => false
/-- '+', '-', '*' without instances, quick -/
def iop (op : BinOp) (k : IntKind) (x y : Int) : Option Value :=
  match op with
  | .add => some (.int k (fwrap k (Int.add x y)))
  | .sub => some (.int k (fwrap k (Int.sub x y)))
  | .mul => some (.int k (fwrap k (Int.mul x y)))
  | .quo => cond (ieq y 0) none (some (.int k (fwrap k (Int.tdiv x y))))
  | .rem => cond (ieq y 0) none (some (.int k (Int.tmod x y)))
  | .and => some (.int k (k.wrap (BitVec.ofInt k.bits x &&& BitVec.ofInt k.bits y).toNat))
  | .or => some (.int k (k.wrap (BitVec.ofInt k.bits x ||| BitVec.ofInt k.bits y).toNat))
  | .xor => some (.int k (k.wrap (BitVec.ofInt k.bits x ^^^ BitVec.ofInt k.bits y).toNat))
  | .andNot => some (.int k (k.wrap (BitVec.ofInt k.bits x &&& ~~~ BitVec.ofInt k.bits y).toNat))
  | .eql => some (.bool (ieq x y))
  | .neq => some (.bool (!ieq x y))
  | .lss => some (.bool (ilt x y))
  | .leq => some (.bool (!ilt y x))
  | .gtr => some (.bool (ilt y x))
  | .geq => some (.bool (!ilt x y))
  | .shl => cond (ilt y 0) none (some (.int k (fwrap k (Int.mul x (.ofNat (2 ^ (min y.toNat k.bits)))))))
  | .shr => cond (ilt y 0) none (some (.int k (Int.fdiv x (.ofNat (2 ^ (min y.toNat k.bits))))))

def isShift : BinOp → Bool
  | .shl | .shr => true
  | _ => false
def ikEq : IntKind → IntKind → Bool
  | .i64, .i64 | .u64, .u64 | .u8, .u8 | .i32, .i32 | .u32, .u32 | .u16, .u16 | .i16, .i16 | .i8, .i8 => true
  | _, _ => false
/-- Whole numbers. -/
def evInt (op : BinOp) (k : IntKind) (a : Int) (k' : IntKind) (b : Int) : Option Value :=
  cond (isShift op || ikEq k k') (iop op k a b) none

def takeX {α : Type} : List α → Nat → Option (List α)
  | _, 0 => some []
  | [], _ + 1 => none
  | x :: xs, n + 1 => (takeX xs n).map (x :: ·)
def over : List AV → List AV → Option (List AV)
  | l, [] => some l
  | [], _ :: _ => none
  | _ :: l, c :: cs => (over l cs).map (c :: ·)
def spl : List AV → Nat → List AV → Option (List AV)
  | l, 0, cs => over l cs
  | [], _ + 1, _ => none
  | x :: l, o + 1, cs => (spl l o cs).map (x :: ·)
def AV.cells : AV → List AV
  | .agg l => l
  | .flat (.agg c) => c.toList.map .flat
  | v => [v]
def AV.one : AV → Bool
  | .agg _ | .tuple _ => false
  | .flat (.agg _) | .flat (.tuple _) => false
  | _ => true
def allOne : List AV → Bool
  | [] => true
  | x :: xs => x.one && allOne xs

def evLoad (T : Tab) (t : TypeId) (a : AV) (h : Hp) : Option AV :=
  match a with
  | .ptr b o => match h.get b, T.types.get t with
    | some (.cells l _ _), some i => match i.td.agg with
      | some true => (takeX (l.drop o) i.size).map .agg
      | some false => l[o]?
      | none => none
    | _, _ => none
  | _ => none

def evStoreC (b o : Nat) (cs : List AV) (h : Hp) : Option Hp :=
  cond (allOne cs) (match h.get b with
    | some (.cells l e x) => match spl l o cs with
      | some l' => forceL l' fun l' => h.put b (some (.cells l' e x))
      | none => none
    | none => none) none

def evStore (T : Tab) (t : TypeId) (a v : AV) (h : Hp) : Option Hp :=
  match a with
  | .ptr b o => match T.types.get t with
    | some i => cond (Nat.beq v.cells.length i.size) (evStoreC b o v.cells h) none
    | none => none
  | _ => none
def newBlk (h : Hp) (l : List AV) (t : TypeId) (ext : Bool) : Option Hp := forceL l fun l => h.new (.cells l t ext)

def evFieldAddr (T : Tab) (s : TypeId) (a : AV) (f : Nat) : Option AV :=
  match a, T.types.get s with
  | .ptr b o, some i => match i.td with
    | .struct l => match l[f]? with
      | some (off, t) => match T.types.get t with
        | some j => cond (Nat.beq j.size 0) none (some (.ptr b (o + off)))
        | none => none
      | none => none
    | _ => none
  | _, _ => none

/-- a part of a struct's or an array's cells -/
def evPart (T : Tab) (t : TypeId) (l : List AV) (off : Nat) : Option AV :=
  match T.types.get t with
  | some j => match j.td.agg with
    | some true => (takeX (l.drop off) j.size).map .agg
    | some false => l[off]?
    | none => none
  | none => none
def evField (T : Tab) (s : TypeId) (a : AV) (f : Nat) : Option AV :=
  match a, T.types.get s with
  | .agg c, some i => match i.td with
    | .struct l => match l[f]? with
      | some (off, t) => evPart T t c off
      | none => none
    | _ => none
  | _, _ => none
def inRange (i : Int) (n : Nat) : Option Nat :=
  match i with
  | .ofNat m => cond (Nat.blt m n) (some m) none
  | .negSucc _ => none
def evIndexAddr (T : Tab) (t : TypeId) (x i : AV) : Option AV :=
  match i, T.types.get t with
  | .flat (.int _ i), some ti => match ti.td, x with
    | .array len e, .ptr b o => match inRange i len, T.types.get e with
      | some m, some te => some (.ptr b (o + m * te.size))
      | _, _ => none
    | .slice e, .slice b o len _ => match inRange i len, T.types.get e with
      | some m, some te => some (.ptr b (o + m * te.size))
      | _, _ => none
    | _, _ => none
  | _, _ => none

def evIndex (T : Tab) (t : TypeId) (x i : AV) : Option AV :=
  match i, T.types.get t with
  | .flat (.int _ i), some ti => match ti.td, x with
    | .array len e, .agg c => match inRange i len, T.types.get e with
      | some m, some te => evPart T e c (m * te.size)
      | _, _ => none
    | .str, .flat (.string s) => match inRange i s.data.toList.length with
      | some m => (s.data.toList[m]?).map fun b => .flat (.int .u8 (b.toNat : Int))
      | none => none
    | _, _ => none
  | _, _ => none
def reps (z : List AV) : Nat → List AV
  | 0 => []
  | n + 1 => z ++ reps z n
def repsV (z : List Value) : Nat → List Value
  | 0 => []
  | n + 1 => z ++ repsV z n
/-- a count that may be -/
def small (n : Nat) : Bool := Nat.blt n 1048576

def evMakeSlice (T : Tab) (t : TypeId) (l c : AV) (h : Hp) : Option (AV × Hp) :=
  match l, c, T.types.get t with
  | .flat (.int _ (.ofNat l)), .flat (.int _ (.ofNat c)), some ti => match ti.td with
    | .slice e => match T.types.get e with
      | some te => cond (small c && small te.bytes && Nat.ble l c) ((newBlk h (reps (te.zero.map .flat) c) e false).map fun h' => (.slice h.next 0 l (.exact c), h')) none
      | none => none
    | _ => none
  | _, _, _ => none

/-- parts laid over cells -/
def evFill (place : Nat → Option (Nat × Nat)) : List AV → List (Nat × AV) → Option (List AV)
  | l, [] => some l
  | l, (i, x) :: rest => match place i with
    | some (off, size) => cond (Nat.beq x.cells.length size) (match spl l off x.cells with
      | some l' => evFill place l' rest
      | none => none) none
    | none => none

def relP (ρ : Ren) : List (Nat × AV) → List (Nat × Value) → Prop
  | [], l => l = []
  | (i, x) :: r, l => ∃ y r', l = (i, y) :: r' ∧ AV.rel ρ x y ∧ relP ρ r r'

def allTypes (T : Tab) : List (Nat × TypeId) → Bool
  | [] => true
  | (_, t) :: l => (match T.types.get t with | some _ => true | none => false) && allTypes T l
def structPlace (T : Tab) (l : List (Nat × TypeId)) (i : Nat) : Option (Nat × Nat) :=
  match l[i]? with
  | some (off, t) => match T.types.get t with
    | some j => some (off, j.size)
    | none => none
  | none => none

def evBuild (T : Tab) (t : TypeId) (ps : List (Nat × AV)) : Option AV :=
  match T.types.get t with
  | some i => match i.td with
    | .struct l => cond (allTypes T l) ((evFill (structPlace T l) (i.zero.map .flat) ps).map .agg) none
    | .array _ e => match T.types.get e with
      | some j => (evFill (fun k => some (k * j.size, j.size)) (i.zero.map .flat) ps).map .agg
      | none => none
    | _ => none
  | none => none

def evBuildSlice (T : Tab) (t : TypeId) (len : Nat) (ps : List (Nat × AV)) (h : Hp) : Option (AV × Hp) :=
  match T.types.get t with
  | some i => match i.td with
    | .slice e => match T.types.get e with
      | some j => cond (Nat.ble (len * j.size) 16777216) (match evFill (fun k => some (k * j.size, j.size)) (reps (j.zero.map .flat) len) ps with
        | some l => (newBlk h l e false).map fun h' => (.slice h.next 0 len (.exact len), h')
        | none => none) none
      | none => none
    | _ => none
  | none => none

def asNat : AV → Option Nat
  | .flat (.int _ (.ofNat n)) => some n
  | _ => none
/-- a bound that may be missing; 'none' outside: it is no number -/
def optNat : Option AV → Nat → Option Nat
  | none, d => some d
  | some a, _ => asNat a

/-- the bounds, cut to what is known -/
def evBounds (len cap : Nat) (lo hi mx : Option AV) : Option (Nat × Nat × Nat) :=
  match mx, hi with
  | some _, none => none
  | _, _ => match optNat mx cap, optNat hi len, optNat lo 0 with
    | some m, some h, some l => cond (Nat.ble m cap && Nat.ble h m && Nat.ble l h) (some (l, h, m)) none
    | _, _, _ => none
/-- The place where a cut begins. -/
def cutOff (o l m size : Nat) : Nat := cond (Nat.beq m l) o (o + l * size)

def evSlice (T : Tab) (t : TypeId) (x : AV) (lo hi mx : Option AV) : Option AV :=
  match T.types.get t with
  | none => none
  | some ti => match ti.td, x with
    | .array n e, .ptr b o => match T.types.get e, evBounds n n lo hi mx with
      | some te, some (l, h, m) => some (.slice b (cutOff o l m te.size) (h - l) (.exact (m - l)))
      | _, _ => none
    | .slice e, .slice b o len (.exact c) => match T.types.get e, cond (Nat.ble len c) (evBounds len c lo hi mx) none with
      | some te, some (l, h, m) => some (.slice b (cutOff o l m te.size) (h - l) (.exact (m - l)))
      | _, _ => none
    | .slice e, .slice b o len (.toEnd es) => match T.types.get e, evBounds len len lo hi mx with
      | some te, some (l, h, m) => match mx with
        | some _ => some (.slice b (cutOff o l m te.size) (h - l) (.exact (m - l)))
        | none => cond (Nat.beq te.size es && (Nat.beq l 0 || Nat.blt l h)) (some (.slice b (o + l * te.size) (h - l) (.toEnd es))) none
      | _, _ => none
    | .slice e, .flat (.slice none 0 0) => match T.types.get e, evBounds 0 0 lo hi mx with
      | some te, some (l, h, m) => some (.flat (.slice none 0 0))
      | _, _ => none
    | .str, .flat (.string s) => match mx, evBounds s.data.toList.length s.data.toList.length lo hi none with
      | none, some (l, h, _) => some (.flat (.string (s.extract l h)))
      | _, _ => none
    | _, _ => none

structure OptRel (ρ : Ren) (a : Option AV) (b : Option Value) : Prop where
  some : ∀ x, a = some x → ∃ v, b = some v ∧ x.rel ρ v
  none : a = none → b = none

def evLen (T : Tab) (t : TypeId) (x : AV) : Option AV :=
  match x, T.types.get t with
  | .slice _ _ n _, some ti => match ti.td with
    | .slice _ => some (.flat (.int .i64 (.ofNat n)))
    | _ => none
  | .flat (.slice none n _), some ti => match ti.td with
    | .slice _ => some (.flat (.int .i64 (.ofNat n)))
    | _ => none
  | .flat (.string s), some ti => match ti.td with
    | .str => some (.flat (.int .i64 (.ofNat s.data.toList.length)))
    | _ => none
  | _, some ti => match ti.td with
    | .array n _ => some (.flat (.int .i64 (.ofNat n)))
    | _ => none
  | _, _ => none

/-- the cells of the first n elements, and how many there are -/
def lenX : AV → Option Nat
  | .slice _ _ n _ => some n
  | .flat (.slice none n _) => some n
  | .flat (.string s) => some s.data.toList.length
  | _ => none
def cellsX (h : Hp) (size n : Nat) : AV → Option (List AV)
  | .slice b o _ _ => match h.get b with
    | some (.cells l _ _) => takeX (l.drop o) (n * size)
    | none => none
  | .flat (.slice none _ _) => some []
  | .flat (.string s) => (takeX s.data.toList n).map fun l => l.map fun b => .flat (.int .u8 (b.toNat : Int))
  | _ => none

def isSeq : TD → Bool
  | .str | .slice _ => true
  | _ => false

def evAppend (T : Tab) (t1 t2 : TypeId) (s x : AV) (h : Hp) : Option (AV × Hp) :=
  match T.types.get t1, T.types.get t2 with
  | some i1, some i2 => match i1.td with
    | .slice e => match T.types.get e, lenX x with
      | some te, some n => match cellsX h te.size n x with
        | some new => cond (isSeq i2.td && Nat.blt 0 te.size && Nat.blt 0 te.bytes && small te.bytes && Nat.beq new.length (n * te.size)) (match s with
          | .flat (.slice none 0 0) => match n with
            | 0 => some (.flat (.slice none 0 0), h)
            | n + 1 => cond (small (n + 1)) ((newBlk h new e true).map fun h' => (.slice h.next 0 (n + 1) (.toEnd te.size), h')) none
          | .slice b o len (.exact c) => cond (Nat.ble (len + n) c) ((evStoreC b (o + len * te.size) new h).map fun h' => (.slice b o (len + n) (.exact c), h'))
            (cond (small (len + n)) (match cellsX h te.size len (.slice b o len (.exact c)) with
              | some old => (newBlk h (old ++ new) e true).map fun h' => (.slice h.next 0 (len + n) (.toEnd te.size), h')
              | none => none) none)
          | .slice b o len (.toEnd es) => cond (Nat.beq es te.size && Nat.beq o 0 && small (len + n) && allOne new) (match h.get b with
            | some (.cells l e' true) => cond (Nat.beq l.length (len * te.size) && Nat.beq e' e) (match h.put b none with
              | some h1 => (newBlk h1 (l ++ new) e true).map fun h' => (.slice h.next 0 (len + n) (.toEnd te.size), h')
              | none => none) none
            | _ => none) none
          | _ => none) none
        | none => none
      | _, _ => none
    | _ => none
  | _, _ => none

def evCopy (T : Tab) (t1 : TypeId) (d x : AV) (h : Hp) : Option (AV × Hp) :=
  match T.types.get t1 with
  | some i1 => match i1.td, lenX d, lenX x with
    | .slice e, some m, some k => match T.types.get e with
      | some te => match cellsX h te.size (Nat.min k m) x, d with
        | some cs, .slice b o _ _ => (evStoreC b o cs h).map fun h' => (.flat (.int .i64 (.ofNat (Nat.min k m))), h')
        | some [], .flat (.slice none _ _) => some (.flat (.int .i64 (.ofNat (Nat.min k m))), h)
        | _, _ => none
      | none => none
    | _, _, _ => none
  | none => none

def bytesEq : List UInt8 → List UInt8 → Bool
  | [], [] => true
  | a :: x, b :: y => Nat.beq a.toNat b.toNat && bytesEq x y
  | _, _ => false
def bytesLt : List UInt8 → List UInt8 → Bool
  | _, [] => false
  | [], _ :: _ => true
  | a :: x, b :: y => Nat.blt a.toNat b.toNat || (Nat.beq a.toNat b.toNat && bytesLt x y)
def sop (op : BinOp) (x y : List UInt8) : Option Value :=
  match op with
  | .add => cond (Nat.blt (x.length + y.length) 1048576) (some (.string ⟨(x ++ y).toArray⟩)) none
  | .eql => some (.bool (bytesEq x y))
  | .neq => some (.bool (!bytesEq x y))
  | .lss => some (.bool (bytesLt x y))
  | .leq => some (.bool (bytesLt x y || bytesEq x y))
  | .gtr => some (.bool (!(bytesLt x y || bytesEq x y)))
  | .geq => some (.bool (!bytesLt x y))
  | _ => none

def evEq (T : Tab) (t : TypeId) (x y : AV) : Option Bool :=
  match T.types.get t with
  | none => none
  | some i => match i.td, x, y with
    | .bool, .flat (.bool a), .flat (.bool b) => some (cond a b (!b))
    | .ptr _, .ptr _ _, .flat (.pointer none) => some false
    | .ptr _, .flat (.pointer none), .ptr _ _ => some false
    | .ptr _, .flat (.pointer none), .flat (.pointer none) => some true
    | .slice _, .flat (.slice none _ _), .flat (.slice none _ _) => some true
    | .slice _, .slice _ _ _ _, .flat (.slice none _ _) => some false
    | .slice _, .flat (.slice none _ _), .slice _ _ _ _ => some false
    | .map _ _, .flat (.map none), .flat (.map none) => some true
    | .map _ _, .map _, .flat (.map none) => some false
    | .map _ _, .flat (.map none), .map _ => some false
    | .iface _, .iface _ _, .flat .nilIface => some false
    | .iface _, .flat .nilIface, .iface _ _ => some false
    | .func, .func _ _ _, .flat .nilFunc => some false
    | .func, .flat .nilFunc, .func _ _ _ => some false
    | .func, .flat .nilFunc, .flat .nilFunc => some true
    | _, _, _ => none

/-- neither two nil interfaces nor two structs: no guard -/
def noGuard : Value → Value → Bool
  | .nilIface, .nilIface => false
  | .agg _, .agg _ => false
  | _, _ => true
def cellsOf : AV → Option (List AV)
  | .agg l => some l
  | .flat (.agg ⟨l⟩) => some (l.map .flat)
  | _ => none
def eqFlat : TD → AV → AV → Option Bool
  | .bool, .flat (.bool a), .flat (.bool b) => some (cond a b (!b))
  | .int _, .flat (.int k a), .flat (.int k' b) => cond (ikEq k k') (some (ieq a b)) none
  | .str, .flat (.string a), .flat (.string b) => some (bytesEq a.data.toList b.data.toList)
  | _, _, _ => none
def evEqF (T : Tab) (xs ys : List AV) : List (Nat × TypeId) → Option Bool
  | [] => some true
  | (o, t) :: l => match T.types.get t with
    | none => none
    | some i => match xs[o]?, ys[o]? with
      | some x, some y => match eqFlat i.td x y with
        | some true => evEqF T xs ys l
        | some false => some false
        | none => none
      | _, _ => none
def evEqS (T : Tab) (t : TypeId) (x y : AV) : Option Bool :=
  match T.eqs.get t, T.types.get t, cellsOf x, cellsOf y with
  | some _, some i, some xs, some ys => match i.td with
    | .struct l => evEqF T xs ys l
    | _ => none
  | _, _, _, _ => none

def evBin (T : Tab) (op : BinOp) (t : TypeId) (x y : AV) : Option AV :=
  match x, y with
  | .flat (.int k a), .flat (.int k' b) => (evInt op k a k' b).map .flat
  | .flat (.string a), .flat (.string b) => (sop op a.data.toList b.data.toList).map .flat
  | _, _ => match op with
    | .eql => match evEq T t x y with
      | some b => some (.flat (.bool b))
      | none => (evEqS T t x y).map fun b => .flat (.bool b)
    | .neq => match evEq T t x y with
      | some b => some (.flat (.bool (!b)))
      | none => (evEqS T t x y).map fun b => .flat (.bool (!b))
    | _ => none

def isConst : Operand → Bool
  | .const _ => true
  | _ => false
def nilEq (T : Tab) (op : BinOp) (t : TypeId) (ox oy : Operand) (x y : AV) : Option AV :=
  match x, y with
  | .flat .nilIface, .flat .nilIface => cond (isConst ox || isConst oy) (match T.types.get t with
    | some i => match i.td, op with
      | .iface _, .eql => some (.flat (.bool true))
      | .iface _, .neq => some (.flat (.bool false))
      | _, _ => none
    | none => none) none
  | _, _ => none
def evUn (op : UnOp) (x : AV) : Option AV :=
  match op, x with
  | .neg, .flat (.int k n) => some (.flat (.int k (fwrap k (Int.sub 0 n))))
  | .xor, .flat (.int k n) => (iop .xor k (if k.signed then -1 else k.max) n).map .flat
  | .not, .flat (.bool b) => some (.flat (.bool (cond b false true)))
  | _, _ => none
def evConvert (T : Tab) (src dst : TypeId) (x : AV) : Option AV :=
  match T.types.get src, T.types.get dst with
  | some _, some j => match j.td, x with
    | .int k, .flat (.int _ n) => some (.flat (.int k (fwrap k n)))
    | .str, .flat (.string s) => some (.flat (.string s))
    | _, _ => none
  | _, _ => none
def evMax : AV → AV → Option AV
  | .flat (.int k x), .flat (.int _ y) => some (.flat (.int k (cond (ilt x y) y x)))
  | _, _ => none
def evMin : AV → AV → Option AV
  | .flat (.int k x), .flat (.int _ y) => some (.flat (.int k (cond (ilt y x) y x)))
  | _, _ => none
def foldOp (f : AV → AV → Option AV) : AV → List AV → Option AV
  | x, [] => some x
  | x, y :: l => match f x y with
    | some z => foldOp f z l
    | none => none
structure ADef where
  fn : Fn
  cap : List AV
  args : List AV
def ADef.rel (ρ : Ren) (d : ADef) (d' : Deferred) : Prop := ∃ c a, d' = { target := .fn d.fn ⟨c⟩, args := ⟨a⟩ } ∧ AV.relL ρ d.cap c ∧ AV.relL ρ d.args a
inductive R where
  | val (v : AV) (h : Hp)
  | skip (h : Hp)
  | enter (f : FuncId) (args : List AV)
  | defer (d : ADef)
  | panic (v : AV)
  | recover

def RS (P : Program) (D : Nat → Prop) (ρ : Ren) (h : Hp) (w : World) (s : Sem Next) : R → Prop
  | .val v h' => Free ρ h.next h'.next → ∃ ρ' v' w', s.run P w = .ok (.value v') w' ∧ Step D ρ h w ρ' h' w' ∧ v.rel ρ' v'
  | .skip h' => Free ρ h.next h'.next → ∃ ρ' w', s.run P w = .ok .skip w' ∧ Step D ρ h w ρ' h' w'
  | .enter f args => ∃ args', s.run P w = .ok (.enter f ⟨args'⟩) w ∧ AV.relL ρ args args'
  | .defer d => ∃ d', s.run P w = .ok (.defer d') w ∧ d.rel ρ d'
  | .panic v => ∃ v', s.run P w = .halt (.panic v') w ∧ v.rel ρ v'
  | .recover => s.run P w = .ok .recover w

/-- the heap stays -/
def R.pure (h : Hp) : Option AV → Option R
  | some v => some (.val v h)
  | none => none
def R.both : Option (AV × Hp) → Option R
  | some (v, h) => some (.val v h)
  | none => none

def evBuiltin (T : Tab) (b : Builtin) (ts : List TypeId) (args : List AV) (h : Hp) : Option R :=
  match b with
  | .len => match ts, args with
    | t :: _, x :: _ => R.pure h (evLen T t x)
    | _, _ => none
  | .append => match ts, args with
    | t1 :: t2 :: _, s :: x :: _ => R.both (evAppend T t1 t2 s x h)
    | _, _ => none
  | .copy => match ts, args with
    | t1 :: _, s :: x :: _ => R.both (evCopy T t1 s x h)
    | _, _ => none
  | .max => match args with
    | x :: l => R.pure h (foldOp evMax x l)
    | _ => none
  | .min => match args with
    | x :: l => R.pure h (foldOp evMin x l)
    | _ => none
  | .recover => some .recover
  | _ => none

def evCallOp (T : Tab) (e : Operand → AV) (h : Hp) (c : Call) : Option R :=
  match c.callee with
  | .builtin b => evBuiltin T b c.argTypes.toList (c.args.toList.map e) h
  | .value f => match e f with
    | .func (.func g) first cap => match T.funs.get g with
      | some _ => some (.enter g ((first ++ c.args.toList.map e) ++ cap))
      | none => none
    | _ => none
  | _ => none

def evAssert (T : Tab) (x : AV) (asserted : TypeId) (ok : Bool) : Option AV :=
  match T.types.get asserted with
  | some j => match j.td, x with
    | .ptr _, .iface t v => cond (Nat.beq t asserted) (some (cond ok (.tuple [v, .flat (.bool true)]) v)) (cond ok (some (.tuple [.flat (.pointer none), .flat (.bool false)])) none)
    | .ptr _, .flat .nilIface => cond ok (some (.tuple [.flat (.pointer none), .flat (.bool false)])) none
    | .struct _, .iface t v => cond (Nat.beq t asserted) (some (cond ok (.tuple [v, .flat (.bool true)]) v)) none
    | .int _, .iface t v => cond (Nat.beq t asserted) (some (cond ok (.tuple [v, .flat (.bool true)]) v)) none
    | _, _ => none
  | none => none
def evOp (T : Tab) (e : Operand → AV) (h : Hp) (o : Oper) : Option R :=
  match o.op with
  | .move x => some (.val (e x) h)
  | .assign x => some (.val (e x) h)
  | .pick c a b => match e c with
    | .flat (.bool t) => some (.val (cond t (e a) (e b)) h)
    | _ => none
  | .alloc t => match T.types.get t with
    | some i => R.both ((newBlk h (i.zero.map .flat) t false).map fun h' => (.ptr h.next 0, h'))
    | none => none
  | .box t x => R.both ((newBlk h (e x).cells t false).map fun h' => (.ptr h.next 0, h'))
  | .build t ps => R.pure h (evBuild T t (ps.toList.map fun p => (p.1, e p.2)))
  | .buildSlice t n ps => R.both (evBuildSlice T t n (ps.toList.map fun p => (p.1, e p.2)) h)
  | .load t a => R.pure h (evLoad T t (e a) h)
  | .store t a x => (evStore T t (e a) (e x) h).map .skip
  | .nilCheck x => match e x with
    | .ptr b o => some (.val (.ptr b o) h)
    | _ => none
  | .binOp op t x y _ => R.pure h (match evBin T op t (e x) (e y) with
    | some v => some v
    | none => nilEq T op t x y (e x) (e y))
  | .unOp op _ x => R.pure h (evUn op (e x))
  | .convert s d x => R.pure h (evConvert T s d (e x))
  | .makeInterface t x => match T.types.get t with
    | some i => match i.td with
      | .iface _ => none
      | .other => none
      | _ => some (.val (.iface t (e x)) h)
    | none => none
  | .makeFunc fn first cap => some (.val (.func fn (first.toList.map e) (cap.toList.map e)) h)
  | .makeSlice t l c => R.both (evMakeSlice T t (e l) (e c) h)
  | .slice t x lo hi mx => R.pure h (evSlice T t (e x) (lo.map e) (hi.map e) (mx.map e))
  | .fieldAddr s x f => R.pure h (evFieldAddr T s (e x) f)
  | .field s x f => R.pure h (evField T s (e x) f)
  | .indexAddr t x i => R.pure h (evIndexAddr T t (e x) (e i))
  | .index t x i => R.pure h (evIndex T t (e x) (e i))
  | .extract t i => match e t with
    | .tuple l => R.pure h l[i]?
    | _ => none
  | .panic x => match e x with
    | .iface t v => some (.panic (.iface t v))
    | _ => none
  | .typeAssert x _ a ok => R.pure h (evAssert T (e x) a ok)
  | .call c => evCallOp T e h c
  | .defer c => match c.callee with
    | .value f => match e f with
      | .func fn first cap => some (.defer ⟨fn, cap, first ++ c.args.toList.map e⟩)
      | _ => none
    | _ => none
  | _ => none

structure St where
  tm : Nat → Option AV
  n : Nat
  h : Hp
  ds : List ADef

def St.ev (s : St) : Operand → AV
  | .tmp t => match s.tm t with
    | some v => v
    | none => .tuple []
  | .const v => toAV v
  | .global g => .flat (.pointer (some ⟨g, 0, none⟩))
  | .func f => .func (.func f) [] []

def St.put (s : St) (dst : Option Tmp) (v : AV) (h : Hp) : Option St :=
  match dst with
  | none => some ⟨s.tm, s.n, h, s.ds⟩
  | some d => cond (Nat.blt d s.n) (some ⟨upd s.tm d (some v), s.n, h, s.ds⟩) none

def St.wanted (ops : List Oper) (s : St) (o : Oper) : Bool :=
  match o.guard with
  | none => true
  | some (j, want) => match ops[j]? with
    | some oj => match oj.dst with
      | some d => match s.tm d with
        | some (.flat (.bool b)) => cond b want (!want)
        | _ => false
      | none => false
    | none => false

inductive AExit where
  | normal
  | exit (id : Nat)
  | goto (l : Nat)
  | ret
  | panic (v : AV)
inductive AEnd where
  | ret (v : AV)
  | pan (v : AV)

abbrev CallF := FuncId → List AV → Hp → Option (AEnd × Hp)

def evOps (call : CallF) (T : Tab) (ops : List Oper) : List Oper → St → Option (AExit × St)
  | [], s => some (.normal, s)
  | o :: rest, s => cond (s.wanted ops o) (match evOp T s.ev s.h o with
      | some (.val v h) => match s.put o.dst v h with
        | some s => evOps call T ops rest s
        | none => none
      | some (.skip h) => match s.put o.dst (.tuple []) h with
        | some s => evOps call T ops rest s
        | none => none
      | some (.enter f args) => match call f args s.h with
        | some (.ret v, h) => match s.put o.dst v h with
          | some s => evOps call T ops rest s
          | none => none
        | some (.pan v, h) => some (.panic v, ⟨s.tm, s.n, h, s.ds⟩)
        | none => none
      | some (.defer d) => match (⟨s.tm, s.n, s.h, d :: s.ds⟩ : St).put o.dst (.tuple []) s.h with
        | some s => evOps call T ops rest s
        | none => none
      | some (.panic v) => some (.panic v, s)
      | _ => none)
    (match s.put o.dst (.tuple []) s.h with
      | some s => evOps call T ops rest s
      | none => none)

inductive Fp where
  /-- looks at no block, turns none -/
  | none
  | rd (b : Nat)
  | wr (b : Nat)
  /-- looks at all; 'clean': turns none -/
  | call (clean : Bool)
  /-- looks at some blocks, turns at most one of them, and may make new ones -/
  | app (rs : List Nat) (w : Option Nat)

structure Ent where
  i : Nat
  fp : Fp
  n0 : Nat
  n1 : Nat

def blkOfA : AV → Option Nat
  | .slice b _ _ _ => some b
  | _ => none
def optL : Option Nat → List Nat
  | some b => [b]
  | none => []
def appFp : List AV → Fp
  | s :: x :: _ => .app (optL (blkOfA s) ++ optL (blkOfA x)) (blkOfA s)
  | _ => .call false
def fpOf (o : Oper) (e : Operand → AV) : Fp :=
  match o.op with
  | .load _ a => match e a with
    | .ptr b _ => .rd b
    | _ => .call false
  | .store _ a _ => match e a with
    | .ptr b _ => .wr b
    | _ => .call false
  | .call c => match c.callee with
    | .builtin .len | .builtin .max | .builtin .min => .none
    | .builtin .append | .builtin .copy => appFp (c.args.toList.map e)
    | _ => .call false
  | _ => .none

/-- One operation of such a region. -/
def drawOp (call : CallF) (T : Tab) (ops : List Oper) (s : St) (o : Oper) : Option (St × Fp) :=
  cond (s.wanted ops o) (match evOp T s.ev s.h o with
      | some (.val v h) => match s.put o.dst v h with
        | some s' => some (s', fpOf o s.ev)
        | none => none
      | some (.skip h) => match s.put o.dst (.tuple []) h with
        | some s' => some (s', fpOf o s.ev)
        | none => none
      | some (.enter f args) => match call f args ⟨s.h.next, s.h.next, s.h.m⟩ with
        | some (.ret v, h) => match s.put o.dst v ⟨h.next, cond (Nat.blt h.low s.h.low) h.low s.h.low, h.m⟩ with
          | some s' => some (s', .call (Nat.ble s.h.next h.low))
          | none => none
        | _ => none
      | _ => none)
    (match s.put o.dst (.tuple []) s.h with
      | some s' => some (s', .none)
      | none => none)

def isQuiet (e : Ent) : Bool :=
  match e.fp with
  | .none => Nat.beq e.n0 e.n1
  | _ => false
def entCons (e : Ent) (l : List Ent) : List Ent := cond (isQuiet e) l (e :: l)

def drawRun (call : CallF) (T : Tab) (ops : List Oper) : List Oper → Nat → St → List Ent → Option (St × List Ent)
  | [], _, s, l => some (s, l)
  | o :: rest, i, s, l => match drawOp call T ops s o with
    | some (s', fp) => drawRun call T ops rest (i + 1) s' (entCons ⟨i, fp, s.h.next, s'.h.next⟩ l)
    | none => none

/-- i made the block b -/
def Ent.made (i : Ent) (b : Nat) : Bool := Nat.ble i.n0 b && Nat.blt b i.n1
/-- may i and j be carried out either way round? -/
def memN (a : Nat) : List Nat → Bool
  | [] => false
  | b :: l => Nat.beq a b || memN a l
def optMem (w : Option Nat) (l : List Nat) : Bool :=
  match w with
  | some b => memN b l
  | none => false
def Ent.optMade (i : Ent) (w : Option Nat) : Bool :=
  match w with
  | some b => i.made b
  | none => false
def Ent.apart (i j : Ent) : Bool :=
  match i.fp, j.fp with
  | .none, .none => true
  | .none, .rd _ => true
  | .rd _, .none => true
  | .rd _, .rd _ => true
  | .none, .wr b => !i.made b
  | .wr b, .none => !j.made b
  | .rd a, .wr b => !Nat.beq a b
  | .wr b, .rd a => !Nat.beq a b
  | .wr a, .wr b => !Nat.beq a b
  | .call true, .none => true
  | .none, .call true => true
  | .call true, .rd _ => true
  | .rd _, .call true => true
  | .call true, .call true => true
  | .none, .app _ w => !i.optMade w
  | .app _ w, .none => !j.optMade w
  | .rd a, .app _ w => !optMem w [a]
  | .app _ w, .rd a => !optMem w [a]
  | .wr a, .app rs w => !memN a (rs ++ optL w) && !j.made a
  | .app rs w, .wr a => !memN a (rs ++ optL w) && !i.made a
  | .app rs w, .app rs' w' => (!optMem w (rs' ++ optL w') && !optMem w' (rs ++ optL w)) && (!i.optMade w' && !j.optMade w)
  | _, _ => false

/-- the masks of what must come ahead: bit i of the j-th -/
def comes (bf : List Nat) (i j : Nat) : Bool :=
  match bf[j]? with
  | some m => Nat.testBit m i
  | none => false
def looksOne (bf : List Nat) (e : Ent) : List Ent → Bool
  | [] => true
  | x :: l => (e.apart x || comes bf x.i e.i || comes bf e.i x.i) && looksOne bf e l
def looks (bf : List Nat) : List Ent → Bool
  | [] => true
  | e :: l => looksOne bf e l && looks bf l

/-- what comes ahead of what, in a region -/
def Masks := Tr (List Nat)

def evDraw (call : CallF) (T : Tab) (bf : Option (List Nat)) (ops : List Oper) (s : St) : Option (AExit × St) :=
  match drawRun call T ops ops 0 s [] with
  | some (s', l) => match l with
    | [] => match bf with
      | some _ => some (.normal, s')
      | none => none
    | l => match bf with
      | some bf => cond (looks bf l) (some (.normal, s')) none
      | none => none
  | none => none

def iter (body : St → Option (AExit × St)) : Nat → St → Option (AExit × St)
  | 0, _ => none
  | n + 1, s => match body s with
    | some (.normal, s') => iter body n s'
    | r => r

/-- 're c rest s': in the scope c, the rest of it from a label on. -/
abbrev ReF := Code → Code → St → Option (AExit × St)
def evCode (call : CallF) (T : Tab) (M : Nat → Option (List Nat)) (lf : Nat) (re : ReF) : Code → St → Option (AExit × St)
  | .skip, s => some (.normal, s)
  | .label _, s => some (.normal, s)
  | .exit id, s => some (.exit id, s)
  | .ret, s => some (.ret, s)
  | .goto l, s => some (.goto l, s)
  | .seq a b, s => match evCode call T M lf re a s with
    | some (.normal, s') => evCode call T M lf re b s'
    | r => r
  | .cond c a b, s => match s.ev c with
    | .flat (.bool t) => cond t (evCode call T M lf re a s) (evCode call T M lf re b s)
    | _ => none
  | .block id c, s => match evCode call T M lf re c s with
    | some (.exit j, s') => cond (Nat.beq j id) (some (.normal, s')) (some (.exit j, s'))
    | r => r
  | .loop c, s => iter (evCode call T M lf re c) lf s
  | .scope c, s => match evCode call T M lf re c s with
    | some (.goto l, s') => match findLabel c l with
      | some rest => re c rest s'
      | none => some (.goto l, s')
    | r => r
  | .region id ops draw, s => cond draw (evDraw call T (M id) ops.toList s) (evOps call T ops.toList ops.toList s)
  | _, _ => none
def evRe (call : CallF) (T : Tab) (M : Nat → Option (List Nat)) (lf : Nat) : Nat → ReF
  | 0, _, _, _ => none
  | g + 1, c, rest, s => match evCode call T M lf (evRe call T M lf g) rest s with
    | some (.goto l, s') => match findLabel c l with
      | some rest' => evRe call T M lf g c rest' s'
      | none => some (.goto l, s')
    | r => r

def putArgs : List AV → Nat → (Nat → Option AV) → Option (Nat → Option AV)
  | [], _, t => some t
  | a :: l, i, t => putArgs l (i + 1) (upd t i (some a))
/-- no temporary has a value yet -/
def noTmp : Nat → Option AV := fun _ => none

def evResults (T : Tab) (s : St) : List ResultVar → Option (List AV)
  | [] => some []
  | .tmp t :: l => (evResults T s l).map fun r => s.ev (.tmp t) :: r
  | .cell a t :: l => match evLoad T t (s.ev (.tmp a)) s.h with
    | some v => (evResults T s l).map fun r => v :: r
    | none => none
def oneOf : List AV → AV
  | [v] => v
  | l => .tuple l

/-- how a function ends -/
def evRet (T : Tab) (fn : Func) (s : St) : Option (AEnd × Hp) :=
  match evResults T s fn.results.toList with
  | some l => forceA (oneOf l) fun v => some (.ret v, s.h)
  | none => none
/-- A call of a deferred function: the heap, and what panic of the caller's stands (none: it returns). -/
abbrev CallDF := FuncId → List AV → Hp → Option AV → Option (Hp × Option AV)
def evLeave (T : Tab) (callD : CallDF) : List ADef → Hp → Option AV → Option (Hp × Option AV)
  | [], h, p => some (h, p)
  | d :: ds, h, p => match d.fn with
    | .func g => match T.funs.get g with
      | some _ => match callD g (d.args ++ d.cap) h p with
        | some (h', p') => evLeave T callD ds h' p'
        | none => none
      | none => none
    | _ => none
def evEnd (T : Tab) (callD : CallDF) (fn : Func) : Option (AExit × St) → Option (AEnd × Hp)
  | some (.panic v, s) => match s.ds with
    | [] => some (.pan v, s.h)
    | ds => match evLeave T callD ds s.h (some v) with
      | some (h, some v) => some (.pan v, h)
      | some (h, none) => evRet T fn ⟨s.tm, s.n, h, []⟩
      | none => none
  | some (.exit _, _) => none
  | some (.goto _, _) => none
  | some (_, s) => match s.ds with
    | [] => evRet T fn s
    | ds => match evLeave T callD ds s.h none with
      | some (h, none) => evRet T fn ⟨s.tm, s.n, h, []⟩
      | _ => none
  | none => none

def isRecover (o : Oper) : Bool :=
  match o.op with
  | .call c => match c.callee with
    | .builtin .recover => true
    | _ => false
  | _ => false
def evOpsS (T : Tab) (ops : List Oper) : List Oper → St → Option AV → Option (St × Option AV)
  | [], s, p => some (s, p)
  | o :: rest, s, p => cond (s.wanted ops o) (match evOp T s.ev s.h o with
      | some (.val v h) => match s.put o.dst v h with
        | some s => evOpsS T ops rest s p
        | none => none
      | some (.skip h) => match s.put o.dst (.tuple []) h with
        | some s => evOpsS T ops rest s p
        | none => none
      | some .recover => match p with
        | some v => match s.put o.dst v s.h with
          | some s => evOpsS T ops rest s none
          | none => none
        | none => match s.put o.dst (.flat .nilIface) s.h with
          | some s => evOpsS T ops rest s none
          | none => none
      | _ => none)
    (match s.put o.dst (.tuple []) s.h with
      | some s => evOpsS T ops rest s p
      | none => none)
def hasRecover : List Oper → Bool
  | [] => false
  | o :: l => isRecover o || hasRecover l
def evCodeS (ev : Code → St → Option (AExit × St)) (T : Tab) : Code → St → Option AV → Option (AExit × St × Option AV)
  | .seq a b, s, p => match evCodeS ev T a s p with
    | some (.normal, s', p') => evCodeS ev T b s' p'
    | r => r
  | .cond c a b, s, p => match s.ev c with
    | .flat (.bool t) => cond t (evCodeS ev T a s p) (evCodeS ev T b s p)
    | _ => none
  | .region id ops draw, s, p => cond (hasRecover ops.toList)
      (cond draw none ((evOpsS T ops.toList ops.toList s p).map fun x => (.normal, x.1, x.2)))
      ((ev (.region id ops draw) s).map fun x => (x.1, x.2, p))
  | c, s, p => (ev c s).map fun x => (x.1, x.2, p)
def evEndD (T : Tab) (fn : Func) : Option (AExit × St × Option AV) → Option (Hp × Option AV)
  | some (.normal, s, p) => match s.ds, evResults T s fn.results.toList with
    | [], some _ => some (s.h, p)
    | _, _ => none
  | some (.ret, s, p) => match s.ds, evResults T s fn.results.toList with
    | [], some _ => some (s.h, p)
    | _, _ => none
  | _ => none
def evCallD (call : CallF) (T : Tab) (M : Nat → Nat → Option (List Nat)) (lf : Nat) : CallDF := fun f args h p =>
  match T.funs.get f with
  | none => none
  | some fn => match fn.body, putArgs args 0 noTmp with
    | some c, some tm => evEndD T fn (evCodeS (evCode call T (M f) lf (evRe call T (M f) lf lf)) T c ⟨tm, args.length + (fn.ntmps - args.length), h, []⟩ p)
    | _, _ => none

/-- sm: calls whose answer is known ahead. -/
def evCall (sm : CallF) (T : Tab) (M : Nat → Nat → Option (List Nat)) (lf : Nat) : Nat → CallF
  | 0, _, _, _ => none
  | fuel + 1, f, args, h => match sm f args h with
    | some r => some r
    | none => match T.funs.get f with
      | none => none
      | some fn => match fn.body, putArgs args 0 noTmp with
        | some c, some tm => evEnd T (evCallD (evCall sm T M lf fuel) T M lf) fn (evCode (evCall sm T M lf fuel) T (M f) lf (evRe (evCall sm T M lf fuel) T (M f) lf lf) c ⟨tm, args.length + (fn.ntmps - args.length), h, []⟩)
        | _, _ => none
def noSum : CallF := fun _ _ _ => none

def Hp.empty : Hp := ⟨0, 0, fun _ => none⟩
def maskOf (t : Tr (Tr (List Nat))) (f id : Nat) : Option (List Nat) :=
  match t.get f with
  | some x => x.get id
  | none => none

noncomputable def getM (b : Nat) : Nat → (Nat → Option AO) → (Nat → Option AO) → Option AO :=
  Nat.rec (motive := fun _ => Nat → (Nat → Option AO) → (Nat → Option AO) → Option AO) (fun m gl _ => gl (Nat.div m 2)) (fun _ _ m _ gr => gr (Nat.div m 2)) b
noncomputable def getK (k : Nat) : Option AO → (Nat → Option AO) → (Nat → Option AO) → Option AO :=
  Nat.rec (motive := fun _ => Option AO → (Nat → Option AO) → (Nat → Option AO) → Option AO) (fun v _ _ => v) (fun m _ _ gl gr => getM (Nat.mod m 2) m gl gr) k
noncomputable def Tr.getF (t : Tr AO) : Nat → Option AO :=
  Tr.rec (motive := fun _ => Nat → Option AO) (fun _ => none) (fun v _ _ gl gr k => getK k v gl gr) t
def Tr.path {α : Type} : Nat → Nat → Option α → Tr α
  | 0, _, _ => .nil
  | _ + 1, 0, x => .node x .nil .nil
  | f + 1, m + 1, x => match Nat.mod m 2 with
    | 0 => .node none (Tr.path f (Nat.div m 2) x) .nil
    | _ + 1 => .node none .nil (Tr.path f (Nat.div m 2) x)
def Tr.put {α : Type} : Tr α → Nat → Option α → Tr α
  | .nil, k, x => Tr.path (k + 1) k x
  | .node _ l r, 0, x => .node x l r
  | .node v l r, m + 1, x => match Nat.mod m 2 with
    | 0 => .node v (l.put (Nat.div m 2) x) r
    | _ + 1 => .node v l (r.put (Nat.div m 2) x)

structure FH where
  next : Nat
  low : Nat
  m : Tr AO
def FH.abs (h : FH) : Hp := ⟨h.next, h.low, h.m.get⟩
abbrev R' := Option (AEnd × FH)
noncomputable def putM (b : Nat) : Nat → Option AO → Tr AO → Tr AO → (Nat → Option AO → Tr AO) → (Nat → Option AO → Tr AO) → Option AO → Tr AO :=
  Nat.rec (motive := fun _ => Nat → Option AO → Tr AO → Tr AO → (Nat → Option AO → Tr AO) → (Nat → Option AO → Tr AO) → Option AO → Tr AO)
    (fun m v _ r pl _ x => .node v (pl (Nat.div m 2) x) r) (fun _ _ m v l _ _ pr x => .node v l (pr (Nat.div m 2) x)) b
noncomputable def putK (k : Nat) : Option AO → Tr AO → Tr AO → (Nat → Option AO → Tr AO) → (Nat → Option AO → Tr AO) → Option AO → Tr AO :=
  Nat.rec (motive := fun _ => Option AO → Tr AO → Tr AO → (Nat → Option AO → Tr AO) → (Nat → Option AO → Tr AO) → Option AO → Tr AO)
    (fun _ l r _ _ x => .node x l r) (fun m _ v l r pl pr x => putM (Nat.mod m 2) m v l r pl pr x) k
noncomputable def pathO (k : Nat) (x : Option AO) : Tr AO := Tr.path (Nat.succ k) k x
noncomputable def Tr.putF (t : Tr AO) : Nat → Option AO → Tr AO :=
  Tr.rec (motive := fun _ => Nat → Option AO → Tr AO) pathO (fun v l r pl pr k x => putK k v l r pl pr x) t

noncomputable def FH.get (h : FH) (b : Nat) : Option AO := h.m.getF b
/-- a new block -/
noncomputable def FH.newK (h : FH) (o : AO) (c : FH → R') : R' := c ⟨Nat.succ h.next, h.low, h.m.putF h.next (some o)⟩
noncomputable def FH.putK (h : FH) (i : Nat) (o : Option AO) (c : FH → R') : R' :=
  Bool.rec (motive := fun _ => R') none (Bool.rec (motive := fun _ => R') (c ⟨h.next, h.low, h.m.putF i o⟩) (c ⟨h.next, i, h.m.putF i o⟩) (Nat.blt i h.low)) (Nat.blt i h.next)
def dflt : AV := .tuple []
structure R8 where
  a0 : AV
  a1 : AV
  a2 : AV
  a3 : AV
  a4 : AV
  a5 : AV
  a6 : AV
  a7 : AV
structure RF where
  b0 : R8
  b1 : R8
  b2 : R8
  b3 : R8
  b4 : R8
  b5 : R8
  b6 : R8
  b7 : R8
structure Acc where
  get : RF → AV
  set : RF → AV → RF
noncomputable def acc : Nat → Acc
  | 0 => ⟨fun r => r.b0.a0, fun r v => RF.rec (motive := fun _ => RF) (fun b0 b1 b2 b3 b4 b5 b6 b7 => R8.rec (motive := fun _ => RF) (fun a0 a1 a2 a3 a4 a5 a6 a7 => RF.mk (R8.mk v a1 a2 a3 a4 a5 a6 a7) b1 b2 b3 b4 b5 b6 b7) b0) r⟩
  | 1 => ⟨fun r => r.b0.a1, fun r v => RF.rec (motive := fun _ => RF) (fun b0 b1 b2 b3 b4 b5 b6 b7 => R8.rec (motive := fun _ => RF) (fun a0 a1 a2 a3 a4 a5 a6 a7 => RF.mk (R8.mk a0 v a2 a3 a4 a5 a6 a7) b1 b2 b3 b4 b5 b6 b7) b0) r⟩
  | 2 => ⟨fun r => r.b0.a2, fun r v => RF.rec (motive := fun _ => RF) (fun b0 b1 b2 b3 b4 b5 b6 b7 => R8.rec (motive := fun _ => RF) (fun a0 a1 a2 a3 a4 a5 a6 a7 => RF.mk (R8.mk a0 a1 v a3 a4 a5 a6 a7) b1 b2 b3 b4 b5 b6 b7) b0) r⟩
  | 3 => ⟨fun r => r.b0.a3, fun r v => RF.rec (motive := fun _ => RF) (fun b0 b1 b2 b3 b4 b5 b6 b7 => R8.rec (motive := fun _ => RF) (fun a0 a1 a2 a3 a4 a5 a6 a7 => RF.mk (R8.mk a0 a1 a2 v a4 a5 a6 a7) b1 b2 b3 b4 b5 b6 b7) b0) r⟩
  | 4 => ⟨fun r => r.b0.a4, fun r v => RF.rec (motive := fun _ => RF) (fun b0 b1 b2 b3 b4 b5 b6 b7 => R8.rec (motive := fun _ => RF) (fun a0 a1 a2 a3 a4 a5 a6 a7 => RF.mk (R8.mk a0 a1 a2 a3 v a5 a6 a7) b1 b2 b3 b4 b5 b6 b7) b0) r⟩
  | 5 => ⟨fun r => r.b0.a5, fun r v => RF.rec (motive := fun _ => RF) (fun b0 b1 b2 b3 b4 b5 b6 b7 => R8.rec (motive := fun _ => RF) (fun a0 a1 a2 a3 a4 a5 a6 a7 => RF.mk (R8.mk a0 a1 a2 a3 a4 v a6 a7) b1 b2 b3 b4 b5 b6 b7) b0) r⟩
  | 6 => ⟨fun r => r.b0.a6, fun r v => RF.rec (motive := fun _ => RF) (fun b0 b1 b2 b3 b4 b5 b6 b7 => R8.rec (motive := fun _ => RF) (fun a0 a1 a2 a3 a4 a5 a6 a7 => RF.mk (R8.mk a0 a1 a2 a3 a4 a5 v a7) b1 b2 b3 b4 b5 b6 b7) b0) r⟩
  | 7 => ⟨fun r => r.b0.a7, fun r v => RF.rec (motive := fun _ => RF) (fun b0 b1 b2 b3 b4 b5 b6 b7 => R8.rec (motive := fun _ => RF) (fun a0 a1 a2 a3 a4 a5 a6 a7 => RF.mk (R8.mk a0 a1 a2 a3 a4 a5 a6 v) b1 b2 b3 b4 b5 b6 b7) b0) r⟩
  | 8 => ⟨fun r => r.b1.a0, fun r v => RF.rec (motive := fun _ => RF) (fun b0 b1 b2 b3 b4 b5 b6 b7 => R8.rec (motive := fun _ => RF) (fun a0 a1 a2 a3 a4 a5 a6 a7 => RF.mk b0 (R8.mk v a1 a2 a3 a4 a5 a6 a7) b2 b3 b4 b5 b6 b7) b1) r⟩
  | 9 => ⟨fun r => r.b1.a1, fun r v => RF.rec (motive := fun _ => RF) (fun b0 b1 b2 b3 b4 b5 b6 b7 => R8.rec (motive := fun _ => RF) (fun a0 a1 a2 a3 a4 a5 a6 a7 => RF.mk b0 (R8.mk a0 v a2 a3 a4 a5 a6 a7) b2 b3 b4 b5 b6 b7) b1) r⟩
  | 10 => ⟨fun r => r.b1.a2, fun r v => RF.rec (motive := fun _ => RF) (fun b0 b1 b2 b3 b4 b5 b6 b7 => R8.rec (motive := fun _ => RF) (fun a0 a1 a2 a3 a4 a5 a6 a7 => RF.mk b0 (R8.mk a0 a1 v a3 a4 a5 a6 a7) b2 b3 b4 b5 b6 b7) b1) r⟩
  | 11 => ⟨fun r => r.b1.a3, fun r v => RF.rec (motive := fun _ => RF) (fun b0 b1 b2 b3 b4 b5 b6 b7 => R8.rec (motive := fun _ => RF) (fun a0 a1 a2 a3 a4 a5 a6 a7 => RF.mk b0 (R8.mk a0 a1 a2 v a4 a5 a6 a7) b2 b3 b4 b5 b6 b7) b1) r⟩
  | 12 => ⟨fun r => r.b1.a4, fun r v => RF.rec (motive := fun _ => RF) (fun b0 b1 b2 b3 b4 b5 b6 b7 => R8.rec (motive := fun _ => RF) (fun a0 a1 a2 a3 a4 a5 a6 a7 => RF.mk b0 (R8.mk a0 a1 a2 a3 v a5 a6 a7) b2 b3 b4 b5 b6 b7) b1) r⟩
  | 13 => ⟨fun r => r.b1.a5, fun r v => RF.rec (motive := fun _ => RF) (fun b0 b1 b2 b3 b4 b5 b6 b7 => R8.rec (motive := fun _ => RF) (fun a0 a1 a2 a3 a4 a5 a6 a7 => RF.mk b0 (R8.mk a0 a1 a2 a3 a4 v a6 a7) b2 b3 b4 b5 b6 b7) b1) r⟩
  | 14 => ⟨fun r => r.b1.a6, fun r v => RF.rec (motive := fun _ => RF) (fun b0 b1 b2 b3 b4 b5 b6 b7 => R8.rec (motive := fun _ => RF) (fun a0 a1 a2 a3 a4 a5 a6 a7 => RF.mk b0 (R8.mk a0 a1 a2 a3 a4 a5 v a7) b2 b3 b4 b5 b6 b7) b1) r⟩
  | 15 => ⟨fun r => r.b1.a7, fun r v => RF.rec (motive := fun _ => RF) (fun b0 b1 b2 b3 b4 b5 b6 b7 => R8.rec (motive := fun _ => RF) (fun a0 a1 a2 a3 a4 a5 a6 a7 => RF.mk b0 (R8.mk a0 a1 a2 a3 a4 a5 a6 v) b2 b3 b4 b5 b6 b7) b1) r⟩
  | 16 => ⟨fun r => r.b2.a0, fun r v => RF.rec (motive := fun _ => RF) (fun b0 b1 b2 b3 b4 b5 b6 b7 => R8.rec (motive := fun _ => RF) (fun a0 a1 a2 a3 a4 a5 a6 a7 => RF.mk b0 b1 (R8.mk v a1 a2 a3 a4 a5 a6 a7) b3 b4 b5 b6 b7) b2) r⟩
  | 17 => ⟨fun r => r.b2.a1, fun r v => RF.rec (motive := fun _ => RF) (fun b0 b1 b2 b3 b4 b5 b6 b7 => R8.rec (motive := fun _ => RF) (fun a0 a1 a2 a3 a4 a5 a6 a7 => RF.mk b0 b1 (R8.mk a0 v a2 a3 a4 a5 a6 a7) b3 b4 b5 b6 b7) b2) r⟩
  | 18 => ⟨fun r => r.b2.a2, fun r v => RF.rec (motive := fun _ => RF) (fun b0 b1 b2 b3 b4 b5 b6 b7 => R8.rec (motive := fun _ => RF) (fun a0 a1 a2 a3 a4 a5 a6 a7 => RF.mk b0 b1 (R8.mk a0 a1 v a3 a4 a5 a6 a7) b3 b4 b5 b6 b7) b2) r⟩
  | 19 => ⟨fun r => r.b2.a3, fun r v => RF.rec (motive := fun _ => RF) (fun b0 b1 b2 b3 b4 b5 b6 b7 => R8.rec (motive := fun _ => RF) (fun a0 a1 a2 a3 a4 a5 a6 a7 => RF.mk b0 b1 (R8.mk a0 a1 a2 v a4 a5 a6 a7) b3 b4 b5 b6 b7) b2) r⟩
  | 20 => ⟨fun r => r.b2.a4, fun r v => RF.rec (motive := fun _ => RF) (fun b0 b1 b2 b3 b4 b5 b6 b7 => R8.rec (motive := fun _ => RF) (fun a0 a1 a2 a3 a4 a5 a6 a7 => RF.mk b0 b1 (R8.mk a0 a1 a2 a3 v a5 a6 a7) b3 b4 b5 b6 b7) b2) r⟩
  | 21 => ⟨fun r => r.b2.a5, fun r v => RF.rec (motive := fun _ => RF) (fun b0 b1 b2 b3 b4 b5 b6 b7 => R8.rec (motive := fun _ => RF) (fun a0 a1 a2 a3 a4 a5 a6 a7 => RF.mk b0 b1 (R8.mk a0 a1 a2 a3 a4 v a6 a7) b3 b4 b5 b6 b7) b2) r⟩
  | 22 => ⟨fun r => r.b2.a6, fun r v => RF.rec (motive := fun _ => RF) (fun b0 b1 b2 b3 b4 b5 b6 b7 => R8.rec (motive := fun _ => RF) (fun a0 a1 a2 a3 a4 a5 a6 a7 => RF.mk b0 b1 (R8.mk a0 a1 a2 a3 a4 a5 v a7) b3 b4 b5 b6 b7) b2) r⟩
  | 23 => ⟨fun r => r.b2.a7, fun r v => RF.rec (motive := fun _ => RF) (fun b0 b1 b2 b3 b4 b5 b6 b7 => R8.rec (motive := fun _ => RF) (fun a0 a1 a2 a3 a4 a5 a6 a7 => RF.mk b0 b1 (R8.mk a0 a1 a2 a3 a4 a5 a6 v) b3 b4 b5 b6 b7) b2) r⟩
  | 24 => ⟨fun r => r.b3.a0, fun r v => RF.rec (motive := fun _ => RF) (fun b0 b1 b2 b3 b4 b5 b6 b7 => R8.rec (motive := fun _ => RF) (fun a0 a1 a2 a3 a4 a5 a6 a7 => RF.mk b0 b1 b2 (R8.mk v a1 a2 a3 a4 a5 a6 a7) b4 b5 b6 b7) b3) r⟩
  | 25 => ⟨fun r => r.b3.a1, fun r v => RF.rec (motive := fun _ => RF) (fun b0 b1 b2 b3 b4 b5 b6 b7 => R8.rec (motive := fun _ => RF) (fun a0 a1 a2 a3 a4 a5 a6 a7 => RF.mk b0 b1 b2 (R8.mk a0 v a2 a3 a4 a5 a6 a7) b4 b5 b6 b7) b3) r⟩
  | 26 => ⟨fun r => r.b3.a2, fun r v => RF.rec (motive := fun _ => RF) (fun b0 b1 b2 b3 b4 b5 b6 b7 => R8.rec (motive := fun _ => RF) (fun a0 a1 a2 a3 a4 a5 a6 a7 => RF.mk b0 b1 b2 (R8.mk a0 a1 v a3 a4 a5 a6 a7) b4 b5 b6 b7) b3) r⟩
  | 27 => ⟨fun r => r.b3.a3, fun r v => RF.rec (motive := fun _ => RF) (fun b0 b1 b2 b3 b4 b5 b6 b7 => R8.rec (motive := fun _ => RF) (fun a0 a1 a2 a3 a4 a5 a6 a7 => RF.mk b0 b1 b2 (R8.mk a0 a1 a2 v a4 a5 a6 a7) b4 b5 b6 b7) b3) r⟩
  | 28 => ⟨fun r => r.b3.a4, fun r v => RF.rec (motive := fun _ => RF) (fun b0 b1 b2 b3 b4 b5 b6 b7 => R8.rec (motive := fun _ => RF) (fun a0 a1 a2 a3 a4 a5 a6 a7 => RF.mk b0 b1 b2 (R8.mk a0 a1 a2 a3 v a5 a6 a7) b4 b5 b6 b7) b3) r⟩
  | 29 => ⟨fun r => r.b3.a5, fun r v => RF.rec (motive := fun _ => RF) (fun b0 b1 b2 b3 b4 b5 b6 b7 => R8.rec (motive := fun _ => RF) (fun a0 a1 a2 a3 a4 a5 a6 a7 => RF.mk b0 b1 b2 (R8.mk a0 a1 a2 a3 a4 v a6 a7) b4 b5 b6 b7) b3) r⟩
  | 30 => ⟨fun r => r.b3.a6, fun r v => RF.rec (motive := fun _ => RF) (fun b0 b1 b2 b3 b4 b5 b6 b7 => R8.rec (motive := fun _ => RF) (fun a0 a1 a2 a3 a4 a5 a6 a7 => RF.mk b0 b1 b2 (R8.mk a0 a1 a2 a3 a4 a5 v a7) b4 b5 b6 b7) b3) r⟩
  | 31 => ⟨fun r => r.b3.a7, fun r v => RF.rec (motive := fun _ => RF) (fun b0 b1 b2 b3 b4 b5 b6 b7 => R8.rec (motive := fun _ => RF) (fun a0 a1 a2 a3 a4 a5 a6 a7 => RF.mk b0 b1 b2 (R8.mk a0 a1 a2 a3 a4 a5 a6 v) b4 b5 b6 b7) b3) r⟩
  | 32 => ⟨fun r => r.b4.a0, fun r v => RF.rec (motive := fun _ => RF) (fun b0 b1 b2 b3 b4 b5 b6 b7 => R8.rec (motive := fun _ => RF) (fun a0 a1 a2 a3 a4 a5 a6 a7 => RF.mk b0 b1 b2 b3 (R8.mk v a1 a2 a3 a4 a5 a6 a7) b5 b6 b7) b4) r⟩
  | 33 => ⟨fun r => r.b4.a1, fun r v => RF.rec (motive := fun _ => RF) (fun b0 b1 b2 b3 b4 b5 b6 b7 => R8.rec (motive := fun _ => RF) (fun a0 a1 a2 a3 a4 a5 a6 a7 => RF.mk b0 b1 b2 b3 (R8.mk a0 v a2 a3 a4 a5 a6 a7) b5 b6 b7) b4) r⟩
  | 34 => ⟨fun r => r.b4.a2, fun r v => RF.rec (motive := fun _ => RF) (fun b0 b1 b2 b3 b4 b5 b6 b7 => R8.rec (motive := fun _ => RF) (fun a0 a1 a2 a3 a4 a5 a6 a7 => RF.mk b0 b1 b2 b3 (R8.mk a0 a1 v a3 a4 a5 a6 a7) b5 b6 b7) b4) r⟩
  | 35 => ⟨fun r => r.b4.a3, fun r v => RF.rec (motive := fun _ => RF) (fun b0 b1 b2 b3 b4 b5 b6 b7 => R8.rec (motive := fun _ => RF) (fun a0 a1 a2 a3 a4 a5 a6 a7 => RF.mk b0 b1 b2 b3 (R8.mk a0 a1 a2 v a4 a5 a6 a7) b5 b6 b7) b4) r⟩
  | 36 => ⟨fun r => r.b4.a4, fun r v => RF.rec (motive := fun _ => RF) (fun b0 b1 b2 b3 b4 b5 b6 b7 => R8.rec (motive := fun _ => RF) (fun a0 a1 a2 a3 a4 a5 a6 a7 => RF.mk b0 b1 b2 b3 (R8.mk a0 a1 a2 a3 v a5 a6 a7) b5 b6 b7) b4) r⟩
  | 37 => ⟨fun r => r.b4.a5, fun r v => RF.rec (motive := fun _ => RF) (fun b0 b1 b2 b3 b4 b5 b6 b7 => R8.rec (motive := fun _ => RF) (fun a0 a1 a2 a3 a4 a5 a6 a7 => RF.mk b0 b1 b2 b3 (R8.mk a0 a1 a2 a3 a4 v a6 a7) b5 b6 b7) b4) r⟩
  | 38 => ⟨fun r => r.b4.a6, fun r v => RF.rec (motive := fun _ => RF) (fun b0 b1 b2 b3 b4 b5 b6 b7 => R8.rec (motive := fun _ => RF) (fun a0 a1 a2 a3 a4 a5 a6 a7 => RF.mk b0 b1 b2 b3 (R8.mk a0 a1 a2 a3 a4 a5 v a7) b5 b6 b7) b4) r⟩
  | 39 => ⟨fun r => r.b4.a7, fun r v => RF.rec (motive := fun _ => RF) (fun b0 b1 b2 b3 b4 b5 b6 b7 => R8.rec (motive := fun _ => RF) (fun a0 a1 a2 a3 a4 a5 a6 a7 => RF.mk b0 b1 b2 b3 (R8.mk a0 a1 a2 a3 a4 a5 a6 v) b5 b6 b7) b4) r⟩
  | 40 => ⟨fun r => r.b5.a0, fun r v => RF.rec (motive := fun _ => RF) (fun b0 b1 b2 b3 b4 b5 b6 b7 => R8.rec (motive := fun _ => RF) (fun a0 a1 a2 a3 a4 a5 a6 a7 => RF.mk b0 b1 b2 b3 b4 (R8.mk v a1 a2 a3 a4 a5 a6 a7) b6 b7) b5) r⟩
  | 41 => ⟨fun r => r.b5.a1, fun r v => RF.rec (motive := fun _ => RF) (fun b0 b1 b2 b3 b4 b5 b6 b7 => R8.rec (motive := fun _ => RF) (fun a0 a1 a2 a3 a4 a5 a6 a7 => RF.mk b0 b1 b2 b3 b4 (R8.mk a0 v a2 a3 a4 a5 a6 a7) b6 b7) b5) r⟩
  | 42 => ⟨fun r => r.b5.a2, fun r v => RF.rec (motive := fun _ => RF) (fun b0 b1 b2 b3 b4 b5 b6 b7 => R8.rec (motive := fun _ => RF) (fun a0 a1 a2 a3 a4 a5 a6 a7 => RF.mk b0 b1 b2 b3 b4 (R8.mk a0 a1 v a3 a4 a5 a6 a7) b6 b7) b5) r⟩
  | 43 => ⟨fun r => r.b5.a3, fun r v => RF.rec (motive := fun _ => RF) (fun b0 b1 b2 b3 b4 b5 b6 b7 => R8.rec (motive := fun _ => RF) (fun a0 a1 a2 a3 a4 a5 a6 a7 => RF.mk b0 b1 b2 b3 b4 (R8.mk a0 a1 a2 v a4 a5 a6 a7) b6 b7) b5) r⟩
  | 44 => ⟨fun r => r.b5.a4, fun r v => RF.rec (motive := fun _ => RF) (fun b0 b1 b2 b3 b4 b5 b6 b7 => R8.rec (motive := fun _ => RF) (fun a0 a1 a2 a3 a4 a5 a6 a7 => RF.mk b0 b1 b2 b3 b4 (R8.mk a0 a1 a2 a3 v a5 a6 a7) b6 b7) b5) r⟩
  | 45 => ⟨fun r => r.b5.a5, fun r v => RF.rec (motive := fun _ => RF) (fun b0 b1 b2 b3 b4 b5 b6 b7 => R8.rec (motive := fun _ => RF) (fun a0 a1 a2 a3 a4 a5 a6 a7 => RF.mk b0 b1 b2 b3 b4 (R8.mk a0 a1 a2 a3 a4 v a6 a7) b6 b7) b5) r⟩
  | 46 => ⟨fun r => r.b5.a6, fun r v => RF.rec (motive := fun _ => RF) (fun b0 b1 b2 b3 b4 b5 b6 b7 => R8.rec (motive := fun _ => RF) (fun a0 a1 a2 a3 a4 a5 a6 a7 => RF.mk b0 b1 b2 b3 b4 (R8.mk a0 a1 a2 a3 a4 a5 v a7) b6 b7) b5) r⟩
  | 47 => ⟨fun r => r.b5.a7, fun r v => RF.rec (motive := fun _ => RF) (fun b0 b1 b2 b3 b4 b5 b6 b7 => R8.rec (motive := fun _ => RF) (fun a0 a1 a2 a3 a4 a5 a6 a7 => RF.mk b0 b1 b2 b3 b4 (R8.mk a0 a1 a2 a3 a4 a5 a6 v) b6 b7) b5) r⟩
  | 48 => ⟨fun r => r.b6.a0, fun r v => RF.rec (motive := fun _ => RF) (fun b0 b1 b2 b3 b4 b5 b6 b7 => R8.rec (motive := fun _ => RF) (fun a0 a1 a2 a3 a4 a5 a6 a7 => RF.mk b0 b1 b2 b3 b4 b5 (R8.mk v a1 a2 a3 a4 a5 a6 a7) b7) b6) r⟩
  | 49 => ⟨fun r => r.b6.a1, fun r v => RF.rec (motive := fun _ => RF) (fun b0 b1 b2 b3 b4 b5 b6 b7 => R8.rec (motive := fun _ => RF) (fun a0 a1 a2 a3 a4 a5 a6 a7 => RF.mk b0 b1 b2 b3 b4 b5 (R8.mk a0 v a2 a3 a4 a5 a6 a7) b7) b6) r⟩
  | 50 => ⟨fun r => r.b6.a2, fun r v => RF.rec (motive := fun _ => RF) (fun b0 b1 b2 b3 b4 b5 b6 b7 => R8.rec (motive := fun _ => RF) (fun a0 a1 a2 a3 a4 a5 a6 a7 => RF.mk b0 b1 b2 b3 b4 b5 (R8.mk a0 a1 v a3 a4 a5 a6 a7) b7) b6) r⟩
  | 51 => ⟨fun r => r.b6.a3, fun r v => RF.rec (motive := fun _ => RF) (fun b0 b1 b2 b3 b4 b5 b6 b7 => R8.rec (motive := fun _ => RF) (fun a0 a1 a2 a3 a4 a5 a6 a7 => RF.mk b0 b1 b2 b3 b4 b5 (R8.mk a0 a1 a2 v a4 a5 a6 a7) b7) b6) r⟩
  | 52 => ⟨fun r => r.b6.a4, fun r v => RF.rec (motive := fun _ => RF) (fun b0 b1 b2 b3 b4 b5 b6 b7 => R8.rec (motive := fun _ => RF) (fun a0 a1 a2 a3 a4 a5 a6 a7 => RF.mk b0 b1 b2 b3 b4 b5 (R8.mk a0 a1 a2 a3 v a5 a6 a7) b7) b6) r⟩
  | 53 => ⟨fun r => r.b6.a5, fun r v => RF.rec (motive := fun _ => RF) (fun b0 b1 b2 b3 b4 b5 b6 b7 => R8.rec (motive := fun _ => RF) (fun a0 a1 a2 a3 a4 a5 a6 a7 => RF.mk b0 b1 b2 b3 b4 b5 (R8.mk a0 a1 a2 a3 a4 v a6 a7) b7) b6) r⟩
  | 54 => ⟨fun r => r.b6.a6, fun r v => RF.rec (motive := fun _ => RF) (fun b0 b1 b2 b3 b4 b5 b6 b7 => R8.rec (motive := fun _ => RF) (fun a0 a1 a2 a3 a4 a5 a6 a7 => RF.mk b0 b1 b2 b3 b4 b5 (R8.mk a0 a1 a2 a3 a4 a5 v a7) b7) b6) r⟩
  | 55 => ⟨fun r => r.b6.a7, fun r v => RF.rec (motive := fun _ => RF) (fun b0 b1 b2 b3 b4 b5 b6 b7 => R8.rec (motive := fun _ => RF) (fun a0 a1 a2 a3 a4 a5 a6 a7 => RF.mk b0 b1 b2 b3 b4 b5 (R8.mk a0 a1 a2 a3 a4 a5 a6 v) b7) b6) r⟩
  | 56 => ⟨fun r => r.b7.a0, fun r v => RF.rec (motive := fun _ => RF) (fun b0 b1 b2 b3 b4 b5 b6 b7 => R8.rec (motive := fun _ => RF) (fun a0 a1 a2 a3 a4 a5 a6 a7 => RF.mk b0 b1 b2 b3 b4 b5 b6 (R8.mk v a1 a2 a3 a4 a5 a6 a7)) b7) r⟩
  | 57 => ⟨fun r => r.b7.a1, fun r v => RF.rec (motive := fun _ => RF) (fun b0 b1 b2 b3 b4 b5 b6 b7 => R8.rec (motive := fun _ => RF) (fun a0 a1 a2 a3 a4 a5 a6 a7 => RF.mk b0 b1 b2 b3 b4 b5 b6 (R8.mk a0 v a2 a3 a4 a5 a6 a7)) b7) r⟩
  | 58 => ⟨fun r => r.b7.a2, fun r v => RF.rec (motive := fun _ => RF) (fun b0 b1 b2 b3 b4 b5 b6 b7 => R8.rec (motive := fun _ => RF) (fun a0 a1 a2 a3 a4 a5 a6 a7 => RF.mk b0 b1 b2 b3 b4 b5 b6 (R8.mk a0 a1 v a3 a4 a5 a6 a7)) b7) r⟩
  | 59 => ⟨fun r => r.b7.a3, fun r v => RF.rec (motive := fun _ => RF) (fun b0 b1 b2 b3 b4 b5 b6 b7 => R8.rec (motive := fun _ => RF) (fun a0 a1 a2 a3 a4 a5 a6 a7 => RF.mk b0 b1 b2 b3 b4 b5 b6 (R8.mk a0 a1 a2 v a4 a5 a6 a7)) b7) r⟩
  | 60 => ⟨fun r => r.b7.a4, fun r v => RF.rec (motive := fun _ => RF) (fun b0 b1 b2 b3 b4 b5 b6 b7 => R8.rec (motive := fun _ => RF) (fun a0 a1 a2 a3 a4 a5 a6 a7 => RF.mk b0 b1 b2 b3 b4 b5 b6 (R8.mk a0 a1 a2 a3 v a5 a6 a7)) b7) r⟩
  | 61 => ⟨fun r => r.b7.a5, fun r v => RF.rec (motive := fun _ => RF) (fun b0 b1 b2 b3 b4 b5 b6 b7 => R8.rec (motive := fun _ => RF) (fun a0 a1 a2 a3 a4 a5 a6 a7 => RF.mk b0 b1 b2 b3 b4 b5 b6 (R8.mk a0 a1 a2 a3 a4 v a6 a7)) b7) r⟩
  | 62 => ⟨fun r => r.b7.a6, fun r v => RF.rec (motive := fun _ => RF) (fun b0 b1 b2 b3 b4 b5 b6 b7 => R8.rec (motive := fun _ => RF) (fun a0 a1 a2 a3 a4 a5 a6 a7 => RF.mk b0 b1 b2 b3 b4 b5 b6 (R8.mk a0 a1 a2 a3 a4 a5 v a7)) b7) r⟩
  | 63 => ⟨fun r => r.b7.a7, fun r v => RF.rec (motive := fun _ => RF) (fun b0 b1 b2 b3 b4 b5 b6 b7 => R8.rec (motive := fun _ => RF) (fun a0 a1 a2 a3 a4 a5 a6 a7 => RF.mk b0 b1 b2 b3 b4 b5 b6 (R8.mk a0 a1 a2 a3 a4 a5 a6 v)) b7) r⟩
  | _ => ⟨fun _ => dflt, fun r _ => r⟩
def R8.toList (r : R8) : List AV := [r.a0, r.a1, r.a2, r.a3, r.a4, r.a5, r.a6, r.a7]
def RF.toList (r : RF) : List AV := r.b0.toList ++ r.b1.toList ++ r.b2.toList ++ r.b3.toList ++ r.b4.toList ++ r.b5.toList ++ r.b6.toList ++ r.b7.toList
def R8.zero : R8 := ⟨dflt, dflt, dflt, dflt, dflt, dflt, dflt, dflt⟩
def RF.zero : RF := ⟨R8.zero, R8.zero, R8.zero, R8.zero, R8.zero, R8.zero, R8.zero, R8.zero⟩

inductive Src where
  | reg (k : Nat)
  | loc (i : Nat)
  | con (v : AV)
structure SrcF where
  f : RF → List AV → AV
noncomputable def locF : Nat → SrcF
  | 0 => ⟨fun _ l => List.rec (motive := fun _ => AV) dflt (fun x _ _ => x) l⟩
  | i + 1 => ⟨fun r l => List.rec (motive := fun _ => AV) dflt (fun _ xs _ => (locF i).f r xs) l⟩
noncomputable def srcF : Src → SrcF
  | .reg k => ⟨fun r _ => (acc k).get r⟩
  | .loc i => locF i
  | .con v => ⟨fun _ _ => v⟩
noncomputable def onInt (v : AV) : (IntKind → Int → R') → R' → R' :=
  AV.rec (motive_1 := fun _ => (IntKind → Int → R') → R' → R') (motive_2 := fun _ => Unit)
    (fun u c s => Value.rec (motive_1 := fun _ => (IntKind → Int → R') → R' → R') (motive_2 := fun _ => Unit) (motive_3 := fun _ => Unit)
      (fun _ _ s => s) (fun k n c _ => c k n) (fun _ _ _ s => s) (fun _ _ _ _ s => s) (fun _ _ s => s) (fun _ _ s => s) (fun _ _ _ _ s => s) (fun _ _ s => s) (fun _ _ s => s) (fun _ _ _ _ _ _ s => s) (fun _ s => s) (fun _ _ _ _ s => s) (fun _ s => s) (fun _ _ _ s => s) (fun _ _ _ s => s) (fun _ _ => ()) () (fun _ _ _ _ => ()) u c s)
    (fun _ _ _ s => s) (fun _ _ _ _ _ s => s) (fun _ _ s => s) (fun _ _ _ _ _ _ s => s) (fun _ _ _ _ s => s) (fun _ _ _ s => s) (fun _ _ _ s => s) () (fun _ _ _ _ => ()) v
noncomputable def onBool (v : AV) : R' → R' → R' :=
  AV.rec (motive_1 := fun _ => R' → R' → R') (motive_2 := fun _ => Unit)
    (fun u c s => Value.rec (motive_1 := fun _ => R' → R' → R') (motive_2 := fun _ => Unit) (motive_3 := fun _ => Unit)
      (fun b t f => Bool.rec (motive := fun _ => R') f t b) (fun _ _ _ _ => none) (fun _ _ _ _ => none) (fun _ _ _ _ _ => none) (fun _ _ _ => none) (fun _ _ _ => none) (fun _ _ _ _ _ => none) (fun _ _ _ => none) (fun _ _ _ => none) (fun _ _ _ _ _ _ _ => none) (fun _ _ => none) (fun _ _ _ _ _ => none) (fun _ _ => none) (fun _ _ _ _ => none) (fun _ _ _ _ => none) (fun _ _ => ()) () (fun _ _ _ _ => ()) u c s)
    (fun _ _ _ _ => none) (fun _ _ _ _ _ _ => none) (fun _ _ _ => none) (fun _ _ _ _ _ _ _ => none) (fun _ _ _ _ _ => none) (fun _ _ _ _ => none) (fun _ _ _ _ => none) () (fun _ _ _ _ => ()) v
/-- a guard: an operation that was not carried out leaves no bool -/
noncomputable def onGuard (v : AV) : R' → R' → R' → R' :=
  AV.rec (motive_1 := fun _ => R' → R' → R' → R') (motive_2 := fun _ => Unit)
    (fun u a b c => Value.rec (motive_1 := fun _ => R' → R' → R' → R') (motive_2 := fun _ => Unit) (motive_3 := fun _ => Unit)
      (fun b t f _ => Bool.rec (motive := fun _ => R') f t b) (fun _ _ _ _ s => s) (fun _ _ _ _ s => s) (fun _ _ _ _ _ s => s) (fun _ _ _ s => s) (fun _ _ _ s => s) (fun _ _ _ _ _ s => s) (fun _ _ _ s => s) (fun _ _ _ s => s) (fun _ _ _ _ _ _ _ s => s) (fun _ _ s => s) (fun _ _ _ _ _ s => s) (fun _ _ s => s) (fun _ _ _ _ s => s) (fun _ _ _ _ s => s) (fun _ _ => ()) () (fun _ _ _ _ => ()) u a b c)
    (fun _ _ _ _ s => s) (fun _ _ _ _ _ _ s => s) (fun _ _ _ s => s) (fun _ _ _ _ _ _ _ s => s) (fun _ _ _ _ _ s => s) (fun _ _ _ _ s => s) (fun _ _ _ _ s => s) () (fun _ _ _ _ => ()) v
noncomputable def onPtr (v : AV) : (Nat → Nat → R') → R' :=
  AV.rec (motive_1 := fun _ => (Nat → Nat → R') → R') (motive_2 := fun _ => Unit)
    (fun _ _ => none) (fun b o c => c b o) (fun _ _ _ _ _ => none) (fun _ _ => none) (fun _ _ _ _ _ _ => none) (fun _ _ _ _ => none) (fun _ _ _ => none) (fun _ _ _ => none) () (fun _ _ _ _ => ()) v
noncomputable def onSlice (v : AV) : (Nat → Nat → Nat → R') → R' → R' :=
  AV.rec (motive_1 := fun _ => (Nat → Nat → Nat → R') → R' → R') (motive_2 := fun _ => Unit)
    (fun _ _ s => s) (fun _ _ _ s => s) (fun b o n _ c _ => c b o n) (fun _ _ s => s) (fun _ _ _ _ _ _ s => s) (fun _ _ _ _ s => s) (fun _ _ _ s => s) (fun _ _ _ s => s) () (fun _ _ _ _ => ()) v
noncomputable def onTuple (v : AV) : (List AV → R') → R' :=
  AV.rec (motive_1 := fun _ => (List AV → R') → R') (motive_2 := fun _ => Unit)
    (fun _ _ => none) (fun _ _ _ => none) (fun _ _ _ _ _ => none) (fun _ _ => none) (fun _ _ _ _ _ _ => none) (fun _ _ _ _ => none) (fun _ _ _ => none) (fun l _ c => c l) () (fun _ _ _ _ => ()) v
noncomputable def onAgg (v : AV) : (List AV → R') → R' → R' :=
  AV.rec (motive_1 := fun _ => (List AV → R') → R' → R') (motive_2 := fun _ => Unit)
    (fun _ _ s => s) (fun _ _ _ s => s) (fun _ _ _ _ _ s => s) (fun _ _ s => s) (fun _ _ _ _ _ _ s => s) (fun _ _ _ _ s => s) (fun l _ c _ => c l) (fun _ _ _ s => s) () (fun _ _ _ _ => ()) v
structure KF where
  f : IntKind → R' → R' → R'
noncomputable def kF : IntKind → KF
  | .i8 => ⟨fun k y n => IntKind.rec (motive := fun _ => R' → R' → R') (fun y _ => y) (fun _ n => n) (fun _ n => n) (fun _ n => n) (fun _ n => n) (fun _ n => n) (fun _ n => n) (fun _ n => n) k y n⟩
  | .i16 => ⟨fun k y n => IntKind.rec (motive := fun _ => R' → R' → R') (fun _ n => n) (fun y _ => y) (fun _ n => n) (fun _ n => n) (fun _ n => n) (fun _ n => n) (fun _ n => n) (fun _ n => n) k y n⟩
  | .i32 => ⟨fun k y n => IntKind.rec (motive := fun _ => R' → R' → R') (fun _ n => n) (fun _ n => n) (fun y _ => y) (fun _ n => n) (fun _ n => n) (fun _ n => n) (fun _ n => n) (fun _ n => n) k y n⟩
  | .i64 => ⟨fun k y n => IntKind.rec (motive := fun _ => R' → R' → R') (fun _ n => n) (fun _ n => n) (fun _ n => n) (fun y _ => y) (fun _ n => n) (fun _ n => n) (fun _ n => n) (fun _ n => n) k y n⟩
  | .u8 => ⟨fun k y n => IntKind.rec (motive := fun _ => R' → R' → R') (fun _ n => n) (fun _ n => n) (fun _ n => n) (fun _ n => n) (fun y _ => y) (fun _ n => n) (fun _ n => n) (fun _ n => n) k y n⟩
  | .u16 => ⟨fun k y n => IntKind.rec (motive := fun _ => R' → R' → R') (fun _ n => n) (fun _ n => n) (fun _ n => n) (fun _ n => n) (fun _ n => n) (fun y _ => y) (fun _ n => n) (fun _ n => n) k y n⟩
  | .u32 => ⟨fun k y n => IntKind.rec (motive := fun _ => R' → R' → R') (fun _ n => n) (fun _ n => n) (fun _ n => n) (fun _ n => n) (fun _ n => n) (fun _ n => n) (fun y _ => y) (fun _ n => n) k y n⟩
  | .u64 => ⟨fun k y n => IntKind.rec (motive := fun _ => R' → R' → R') (fun _ n => n) (fun _ n => n) (fun _ n => n) (fun _ n => n) (fun _ n => n) (fun _ n => n) (fun _ n => n) (fun y _ => y) k y n⟩
structure OF where
  f : AV → (Nat → R') → R' → R'
noncomputable def onNat (K : IntKind) : OF := ⟨fun v c s => onInt v (fun k n => (kF K).f k (Int.rec (motive := fun _ => (Nat → R') → R' → R') (fun m c _ => c m) (fun _ _ s => s) n c s) s) s⟩
noncomputable def forceK (n : Nat) (c : Nat → R') : R' := Nat.rec (motive := fun _ => R') (c 0) (fun p _ => c (Nat.succ p)) n
noncomputable def boolK (b : Bool) (t f : R') : R' := Bool.rec (motive := fun _ => R') f t b

structure BF where
  f : AV → AV → (AV → R') → R' → R'
noncomputable def two (K : IntKind) (g : Nat → Nat → (AV → R') → R' → R') : BF := ⟨fun x y c s => (onNat K).f x (fun m => (onNat K).f y (fun n => g m n c s) s) s⟩
noncomputable def capped (K : IntKind) (lim : Nat) (g : Nat → Nat → Nat) : BF := two K fun m n c s => forceK (g m n) fun r => boolK (Nat.blt r lim) (c (.flat (.int K (.ofNat r)))) s
noncomputable def modded (K : IntKind) (lim : Nat) (g : Nat → Nat → Nat) : BF := two K fun m n c s => forceK (Nat.mod (g m n) lim) fun r => c (.flat (.int K (.ofNat r)))
noncomputable def compared (K : IntKind) (g : Nat → Nat → Bool) : BF := two K fun m n c s => boolK (g m n) (c (.flat (.bool true))) (c (.flat (.bool false)))
noncomputable def noBF : BF := ⟨fun _ _ _ s => s⟩
noncomputable def binF (op : BinOp) (K : IntKind) : BF :=
  match op, K with
  | .add, .i64 => capped .i64 9223372036854775808 Nat.add
  | .add, .u64 => modded .u64 18446744073709551616 Nat.add
  | .mul, .i64 => capped .i64 9223372036854775808 Nat.mul
  | .mul, .u64 => modded .u64 18446744073709551616 Nat.mul
  | .sub, .i64 => two .i64 fun m n c s => boolK (Nat.ble n m) (forceK (Nat.sub m n) fun r => boolK (Nat.blt r 9223372036854775808) (c (.flat (.int .i64 (.ofNat r)))) s) s
  | .quo, .i64 => two .i64 fun m n c s => boolK (Nat.beq n 0) none (forceK (Nat.div m n) fun r => boolK (Nat.blt r 9223372036854775808) (c (.flat (.int .i64 (.ofNat r)))) s)
  | .rem, .i64 => two .i64 fun m n c s => boolK (Nat.beq n 0) none (forceK (Nat.mod m n) fun r => c (.flat (.int .i64 (.ofNat r))))
  | .lss, K => compared K Nat.blt
  | .leq, K => compared K Nat.ble
  | .gtr, K => compared K (fun m n => Nat.blt n m)
  | .geq, K => compared K (fun m n => Nat.ble n m)
  | .eql, K => compared K Nat.beq
  | .neq, K => two K fun m n c s => boolK (Nat.beq m n) (c (.flat (.bool false))) (c (.flat (.bool true)))
  | _, _ => noBF
structure CF1 where
  f : AV → (AV → R') → R' → R'
noncomputable def convMod (K : IntKind) (lim : Nat) : CF1 := ⟨fun v c s => onInt v (fun _ n => Int.rec (motive := fun _ => (AV → R') → R' → R') (fun m c s => forceK (Nat.mod m lim) fun r => c (.flat (.int K (.ofNat r)))) (fun _ _ s => s) n c s) s⟩
noncomputable def convF : IntKind → CF1
  | .i64 => ⟨fun v c s => onInt v (fun _ n => Int.rec (motive := fun _ => (AV → R') → R' → R') (fun m c s => boolK (Nat.blt m 9223372036854775808) (c (.flat (.int .i64 (.ofNat m)))) s) (fun _ _ s => s) n c s) s⟩
  | .u64 => convMod .u64 18446744073709551616
  | .u32 => convMod .u32 4294967296
  | .u8 => convMod .u8 256
  | _ => ⟨fun _ _ s => s⟩

noncomputable def nthK (l : List AV) : Nat → (AV → R') → R' :=
  List.rec (motive := fun _ => Nat → (AV → R') → R') (fun _ _ => none) (fun x _ ih k c => Nat.rec (motive := fun _ => R') (c x) (fun m _ => ih m c) k) l
noncomputable def setK (l : List AV) : Nat → AV → (List AV → R') → R' :=
  List.rec (motive := fun _ => Nat → AV → (List AV → R') → R') (fun _ _ _ => none) (fun x xs ih k v c => Nat.rec (motive := fun _ => R') (c (v :: xs)) (fun m _ => ih m v (fun l' => c (x :: l'))) k) l
noncomputable def overK (cs : List AV) : List AV → (List AV → R') → R' :=
  List.rec (motive := fun _ => List AV → (List AV → R') → R') (fun l c => c l) (fun v _ ih l c => List.rec (motive := fun _ => R') none (fun _ xs _ => ih xs (fun l' => c (v :: l'))) l) cs
noncomputable def splK (l : List AV) : Nat → List AV → (List AV → R') → R' :=
  List.rec (motive := fun _ => Nat → List AV → (List AV → R') → R') (fun k cs c => Nat.rec (motive := fun _ => R') (overK cs [] c) (fun _ _ => none) k) (fun x xs ih k cs c => Nat.rec (motive := fun _ => R') (overK cs (x :: xs) c) (fun m _ => ih m cs (fun l' => c (x :: l'))) k) l
noncomputable def dropK (l : List AV) : Nat → (List AV → R') → R' :=
  List.rec (motive := fun _ => Nat → (List AV → R') → R') (fun _ c => c []) (fun x xs ih k c => Nat.rec (motive := fun _ => R') (c (x :: xs)) (fun m _ => ih m c) k) l
structure TF where
  f : List AV → (List AV → R') → R'
noncomputable def takeF : Nat → TF
  | 0 => ⟨fun _ c => c []⟩
  | n + 1 => ⟨fun l c => List.rec (motive := fun _ => R') none (fun x xs _ => (takeF n).f xs (fun l' => c (x :: l'))) l⟩
noncomputable def cellsK (h : FH) (b : Nat) (c : List AV → TypeId → Bool → R') : R' :=
  Option.rec (motive := fun _ => R') none (fun o => AO.rec (motive := fun _ => R') (fun l e x => c l e x) o) (h.get b)

inductive Ins where
  | mv (a : Src)
  | bin (op : BinOp) (t : TypeId) (K : IntKind) (ox oy : Operand) (a b : Src)
  | conv (K : IntKind) (s d : TypeId) (a : Src)
  | load1 (a : Src)
  | loadN (n : Nat) (a : Src)
  | store1 (a b : Src)
  | storeN (n : Nat) (a b : Src)
  | idxS (es : Nat) (a i : Src)
  | fldA (off : Nat) (a : Src)
  | ext (i : Nat) (a : Src)
  | len (t : TypeId) (a : Src)
  | pick (c a b : Src)
  | alloc (t : TypeId) (z : List AV)
  | box (t : TypeId) (a : Src)
  | call (f : FuncId) (args : List Src)
  | callv (f : Src) (args : List Src)
  | gen (o : Oper) (env : List (Nat × Src))
/-- where an answer goes -/
inductive Dst where
  | push
  | set (k : Nat)
  | no
/-- how an operation's footprint is told -/
inductive FpM where
  | quiet
  | alloc
  | rd (a : Src)
  | wr (a : Src)
  | call
  | app (s x : Src)
/-- in a region that draws: its number, its footprint -/
inductive Dr where
  | plain
  | still
  | looked (j : Nat) (m : FpM)
structure GI where
  guard : Option (Src × Bool)
  ins : Ins
  dst : Dst
  draw : Dr
inductive FC where
  | skip
  | seq (a b : FC)
  | reg (bf : Option (List Nat)) (l : List GI)
  | regc (bf : Option (List Nat)) (l : List GI) (c : Src) (a b : FC)
  | cnd (c : Src) (a b : FC)
  | blk (id : Nat) (c : FC)
  | loop (c : FC)
  | scope (c : FC) (l : Nat) (rest : FC)
  | exit (id : Nat)
  | goto (l : Nat)
  | ret
inductive RSrc where
  | val (k : Nat)
  | cell (k : Nat) (t : TypeId)
structure FFn where
  code : FC
  /-- where each argument goes -/
  args : List (Option Nat)
  ntmps : Nat
  res : List RSrc

structure CS where
  d : Nat
  env : List (Nat × Src)
def assoc {β : Type} : List (Nat × β) → Nat → Option β
  | [], _ => none
  | (a, b) :: l, k => cond (Nat.beq a k) (some b) (assoc l k)
def relS (d : Nat) : Src → Src
  | .loc a => .loc (d - 1 - a)
  | s => s
def CS.look (nl : List (Nat × Nat)) (c : CS) : Operand → Option Src
  | .tmp t => match assoc c.env t with
    | some s => some (relS c.d s)
    | none => match assoc nl t with
      | some k => some (.reg k)
      | none => none
  | .const v => some (.con (toAV v))
  | .global g => some (.con (.flat (.pointer (some ⟨g, 0, none⟩))))
  | .func f => some (.con (.func (.func f) [] []))
def CS.lookA (nl : List (Nat × Nat)) (c : CS) : List Operand → Option (List Src)
  | [] => some []
  | x :: l => match c.look nl x, c.lookA nl l with
    | some s, some r => some (s :: r)
    | _, _ => none
def CS.envOf (nl : List (Nat × Nat)) (c : CS) : List Operand → Option (List (Nat × Src))
  | [] => some []
  | .tmp t :: l => match c.look nl (.tmp t), c.envOf nl l with
    | some s, some r => some ((t, s) :: r)
    | _, _ => none
  | _ :: l => c.envOf nl l
def genOk : Op → Bool
  | .defer _ | .go _ | .alloc _ | .box _ _ | .load _ _ | .store _ _ _ | .move _ | .assign _ => false
  | .call c => match c.callee with
    | .builtin .recover => false
    | .builtin _ => true
    | _ => false
  | _ => true
def genOf (nl : List (Nat × Nat)) (c : CS) (o : Oper) : Option Ins :=
  cond (genOk o.op) (match c.envOf nl o.op.operands.toList with
    | some e => some (.gen o e)
    | none => none) none
def insOf (T : Tab) (nl : List (Nat × Nat)) (c : CS) (o : Oper) : Option Ins :=
  match o.op with
  | .move x => (c.look nl x).map .mv
  | .assign x => (c.look nl x).map .mv
  | .binOp op t x y _ => match T.types.get t with
    | some i => match i.td, c.look nl x, c.look nl y with
      | .int K, some a, some b => some (.bin op t K x y a b)
      | _, _, _ => genOf nl c o
    | none => none
  | .convert s d x => match T.types.get s, T.types.get d with
    | some _, some j => match j.td, c.look nl x with
      | .int K, some a => some (.conv K s d a)
      | _, _ => genOf nl c o
    | _, _ => none
  | .load t a => match T.types.get t, c.look nl a with
    | some i, some a => match i.td.agg with
      | some true => some (.loadN i.size a)
      | some false => some (.load1 a)
      | none => none
    | _, _ => none
  | .store t a x => match T.types.get t, c.look nl a, c.look nl x with
    | some i, some a, some b => cond (Nat.beq i.size 1) (match i.td.agg with
      | some false => some (.store1 a b)
      | _ => some (.storeN i.size a b)) (some (.storeN i.size a b))
    | _, _, _ => none
  | .indexAddr t x i => match T.types.get t with
    | some ti => match ti.td with
      | .slice e => match T.types.get e, c.look nl x, c.look nl i with
        | some te, some a, some b => some (.idxS te.size a b)
        | _, _, _ => none
      | _ => genOf nl c o
    | none => none
  | .fieldAddr s x f => match T.types.get s with
    | some i => match i.td with
      | .struct l => match l[f]? with
        | some (off, t) => match T.types.get t, c.look nl x with
          | some j, some a => cond (Nat.beq j.size 0) none (some (.fldA off a))
          | _, _ => none
        | none => none
      | _ => none
    | none => none
  | .extract t i => (c.look nl t).map (.ext i)
  | .pick a b d => match c.look nl a, c.look nl b, c.look nl d with
    | some a, some b, some d => some (.pick a b d)
    | _, _, _ => none
  | .alloc t => match T.types.get t with
    | some i => some (.alloc t (i.zero.map .flat))
    | none => none
  | .box t x => (c.look nl x).map (.box t)
  | .call cl => match cl.callee with
    | .value (.func f) => match T.funs.get f with
      | some _ => (c.lookA nl cl.args.toList).map (.call f)
      | none => none
    | .value f => match c.look nl f, c.lookA nl cl.args.toList with
      | some f, some l => some (.callv f l)
      | _, _ => none
    | .builtin .len => match cl.argTypes.toList, cl.args.toList with
      | t :: _, x :: _ => match T.types.get t with
        | some i => match i.td with
          | .slice _ => (c.look nl x).map (.len t)
          | _ => genOf nl c o
        | none => none
      | _, _ => none
    | _ => genOf nl c o
  | _ => genOf nl c o
def fpM (nl : List (Nat × Nat)) (c : CS) (o : Oper) : Option FpM :=
  match o.op with
  | .load _ a => (c.look nl a).map .rd
  | .store _ a _ => (c.look nl a).map .wr
  | .alloc _ | .box _ _ | .buildSlice _ _ _ | .makeSlice _ _ _ => some .alloc
  | .call cl => match cl.callee with
    | .builtin .len | .builtin .max | .builtin .min => some .quiet
    | .builtin .append | .builtin .copy => match c.lookA nl cl.args.toList with
      | some (s :: x :: _) => some (.app s x)
      | _ => none
    | .builtin _ => none
    | _ => some .call
  | .panic _ | .defer _ => none
  | _ => some .quiet
def writes (nl : List (Nat × Nat)) (k : Nat) : List Oper → Bool
  | [] => false
  | o :: l => (match o.dst with
    | some t => match assoc nl t with
      | some j => Nat.beq j k
      | none => false
    | none => false) || writes nl k l
/-- an alias for a move into a temporary of this region alone, where it may be one -/
def alias? (nl : List (Nat × Nat)) (ops : List Oper) (c : CS) (o : Oper) : Option Src :=
  match o.op with
  | .move (.tmp t) => match assoc c.env t with
    | some s => some s
    | none => match assoc nl t with
      | some k => cond (writes nl k ops) none (some (.reg k))
      | none => none
  | .move (.const v) => some (.con (toAV v))
  | .assign (.const v) => some (.con (toAV v))
  | .assign (.tmp t) => assoc c.env t
  | _ => none
def guardOf (nl : List (Nat × Nat)) (ops : List Oper) (c : CS) (o : Oper) : Option (Option (Src × Bool)) :=
  match o.guard with
  | none => some none
  | some (j, want) => match ops[j]? with
    | none => none
    | some oj => match oj.dst with
      | none => none
      | some dj => match c.look nl (.tmp dj) with
        | some g => some (some (g, want))
        | none => none
/-- what is asked of a region that draws: each pair is ordered, or apart whatever it meets (a call that turns nothing that was there) -/
inductive Cls where
  | quiet | alloc | rd | wr | call | bad
def clsOf (o : Oper) : Cls :=
  match o.op with
  | .load _ _ => .rd
  | .store _ _ _ => .wr
  | .alloc _ | .box _ _ | .buildSlice _ _ _ | .makeSlice _ _ _ => .alloc
  | .call c => match c.callee with
    | .builtin .len | .builtin .max | .builtin .min => .quiet
    | .builtin _ => .bad
    | _ => .call
  | .panic _ | .defer _ => .bad
  | _ => .quiet
def clsApart : Cls → Cls → Bool
  | .quiet, _ => true
  | _, .quiet => true
  | .alloc, .alloc | .alloc, .rd | .rd, .alloc | .rd, .rd => true
  | .call, .call | .call, .alloc | .call, .rd | .alloc, .call | .rd, .call => true
  | _, _ => false
def drawOne (bf : List Nat) (ci : Cls) (i : Nat) : List Oper → Nat → Bool
  | [], _ => true
  | o :: l, j => (clsApart ci (clsOf o) || comes bf i j) && drawOne bf ci i l (j + 1)
def drawAll (bf : List Nat) : List Oper → Nat → Bool
  | [], _ => true
  | o :: l, i => drawOne bf (clsOf o) i l (i + 1) && drawAll bf l (i + 1)
/-- how a region is run: in order; one that draws, its order of no account whatever it meets; one that draws and is looked at behind the run -/
inductive Mode where
  | plain
  | still
  | looked
/-- the draw's part: none outside of such a region -/
def drawOf (md : Mode) (nl : List (Nat × Nat)) (c : CS) (j : Nat) (o : Oper) : Option Dr :=
  match md with
  | .plain => some .plain
  | .still => some .still
  | .looked => match fpM nl c o with
    | some m => some (.looked j m)
    | none => none
def compOps (T : Tab) (dr : Mode) (nl : List (Nat × Nat)) (n : Nat) (ops : List Oper) : List Oper → Nat → CS → Option (List GI × CS)
  | [], _, c => some ([], c)
  | o :: rest, j, c => match guardOf nl ops c o with
    | none => none
    | some g => match o.dst with
      | none => match insOf T nl c o, drawOf dr nl c j o with
        | some i, some d => (compOps T dr nl n ops rest (j + 1) c).map fun r => (⟨g, i, .no, d⟩ :: r.1, r.2)
        | _, _ => none
      | some t => cond (Nat.blt t n) (match assoc nl t with
        | some k => match insOf T nl c o, drawOf dr nl c j o with
          | some i, some d => (compOps T dr nl n ops rest (j + 1) c).map fun r => (⟨g, i, .set k, d⟩ :: r.1, r.2)
          | _, _ => none
        | none => match (match g with
            | none => alias? nl ops c o
            | some _ => none) with
          | some s => compOps T dr nl n ops rest (j + 1) ⟨c.d, (t, s) :: c.env⟩
          | none => match insOf T nl c o, drawOf dr nl c j o with
            | some i, some d => (compOps T dr nl n ops rest (j + 1) ⟨c.d + 1, (t, .loc c.d) :: c.env⟩).map fun r => (⟨g, i, .push, d⟩ :: r.1, r.2)
            | _, _ => none) none
def compReg (T : Tab) (M : Nat → Option (List Nat)) (nl : List (Nat × Nat)) (n : Nat) (id : Nat) (ops : List Oper) (draw : Bool) : Option (Option (List Nat) × List GI × CS) :=
  cond draw (match M id with
    | some bf => cond (drawAll bf ops 0) ((compOps T .still nl n ops ops 0 ⟨0, []⟩).map fun r => (none, r)) ((compOps T .looked nl n ops ops 0 ⟨0, []⟩).map fun r => (some bf, r))
    | none => none) ((compOps T .plain nl n ops ops 0 ⟨0, []⟩).map fun r => (none, r))
/-- the first label of a scope -/
def labelOf : Code → Option Nat
  | .label l => some l
  | .seq a b => match labelOf a with
    | some l => some l
    | none => labelOf b
  | _ => none
/-- no other label on its spine -/
def onlyL (l : Nat) : Code → Bool
  | .label k => Nat.beq k l
  | .seq a b => onlyL l a && onlyL l b
  | _ => true
def compCode (T : Tab) (M : Nat → Option (List Nat)) (nl : List (Nat × Nat)) (n : Nat) (re : Code → Option FC) : Code → Option FC
  | .skip => some .skip
  | .label _ => some .skip
  | .exit id => some (.exit id)
  | .goto l => some (.goto l)
  | .ret => some .ret
  | .region id ops draw => match compReg T M nl n id ops.toList draw with
    | some (bf, l, _) => some (.reg bf l)
    | none => none
  | .seq (.region id ops draw) (.seq (.cond (.tmp t) a b) r) => match compReg T M nl n id ops.toList draw, compCode T M nl n re a, compCode T M nl n re b, compCode T M nl n re r with
    | some (bf, l, c), some a, some b, some r => match c.look nl (.tmp t) with
      | some s => some (.seq (.regc bf l s a b) r)
      | none => none
    | _, _, _, _ => none
  | .seq (.region id ops draw) (.cond (.tmp t) a b) => match compReg T M nl n id ops.toList draw, compCode T M nl n re a, compCode T M nl n re b with
    | some (bf, l, c), some a, some b => match c.look nl (.tmp t) with
      | some s => some (.regc bf l s a b)
      | none => none
    | _, _, _ => none
  | .seq a b => match compCode T M nl n re a, compCode T M nl n re b with
    | some a, some b => some (.seq a b)
    | _, _ => none
  | .cond (.tmp t) a b => match assoc nl t, compCode T M nl n re a, compCode T M nl n re b with
    | some k, some a, some b => some (.cnd (.reg k) a b)
    | _, _, _ => none
  | .cond (.const v) a b => match compCode T M nl n re a, compCode T M nl n re b with
    | some a, some b => some (.cnd (.con (toAV v)) a b)
    | _, _ => none
  | .block id c => (compCode T M nl n re c).map (.blk id)
  | .loop c => (compCode T M nl n re c).map .loop
  | .scope c => match compCode T M nl n re c, labelOf c with
    | some fc, some l => match findLabel c l with
      | some rest => cond (onlyL l c) ((re rest).map (.scope fc l)) none
      | none => none
    | _, _ => none
  | _ => none
def compRe (T : Tab) (M : Nat → Option (List Nat)) (nl : List (Nat × Nat)) (n : Nat) : Nat → Code → Option FC
  | 0, _ => none
  | g + 1, c => compCode T M nl n (compRe T M nl n g) c
def setIn (l : List Nat) (t : Nat) : Bool := match l with
  | [] => false
  | a :: l => Nat.beq a t || setIn l t
def addIf (b : Bool) (t : Nat) (l : List Nat) : List Nat := cond (b || setIn l t) l (t :: l)
def readsOf (ops : List Oper) (o : Oper) : List Nat :=
  (o.op.operands.toList.filterMap fun | .tmp t => some t | _ => none) ++ (match o.guard with
    | some (j, _) => match ops[j]? with
      | some oj => oj.dst.toList
      | none => []
    | none => [])
def needOps (ops : List Oper) : List Oper → List Nat → List Nat → List Nat × List Nat
  | [], st, u => (st, u)
  | o :: l, st, u => needOps ops l (o.dst.toList ++ st) ((readsOf ops o).foldl (fun u t => addIf (setIn st t) t u) u)
def need : Code → List Nat → List Nat
  | .region _ ops _, u => (needOps ops.toList ops.toList [] u).2
  | .seq (.region _ ops _) (.seq (.cond (.tmp t) a b) r), u => let x := needOps ops.toList ops.toList [] u; need r (need b (need a (addIf (setIn x.1 t) t x.2)))
  | .seq (.region _ ops _) (.cond (.tmp t) a b), u => let x := needOps ops.toList ops.toList [] u; need b (need a (addIf (setIn x.1 t) t x.2))
  | .seq a b, u => need b (need a u)
  | .cond (.tmp t) a b, u => need b (need a (addIf false t u))
  | .cond _ a b, u => need b (need a u)
  | .block _ c, u | .loop c, u | .scope c, u => need c u
  | _, u => u
def numbered : List Nat → Nat → List (Nat × Nat)
  | [], _ => []
  | t :: l, i => (t, i) :: numbered l (i + 1)
def resOf (nl : List (Nat × Nat)) : List ResultVar → Option (List RSrc)
  | [] => some []
  | .tmp t :: l => match assoc nl t, resOf nl l with
    | some k, some r => some (.val k :: r)
    | _, _ => none
  | .cell a t :: l => match assoc nl a, resOf nl l with
    | some k, some r => some (.cell k t :: r)
    | _, _ => none
def argsOf (nl : List (Nat × Nat)) : Nat → Nat → List (Option Nat)
  | 0, _ => []
  | n + 1, i => assoc nl i :: argsOf nl n (i + 1)
def compFn (T : Tab) (M : Nat → Option (List Nat)) (fn : Func) : Option FFn :=
  match fn.body with
  | none => none
  | some c => let nl := numbered ((need c []).reverse ++ ((fn.results.toList.map fun | .tmp t => t | .cell a _ => a).filter fun t => !setIn (need c []) t).eraseDups) 0
    cond (Nat.ble nl.length 64) (match compRe T M nl fn.ntmps 3 c, resOf nl fn.results.toList with
      | some fc, some r => some ⟨fc, argsOf nl (fn.params.size + fn.nfree) 0, fn.ntmps, r⟩
      | _, _ => none) none
abbrev CallK := FuncId → List AV → FH → (AEnd → FH → R') → R'
abbrev KN := RF → List AV → List Ent → FH → R'
abbrev KX := AV → RF → FH → R'
noncomputable def vals (l : List Src) : RF → List AV → List AV :=
  List.rec (motive := fun _ => RF → List AV → List AV) (fun _ _ => []) (fun s _ ih r l => (srcF s).f r l :: ih r l) l
def envE (env : List (Nat × AV)) : Operand → AV
  | .tmp t => match assoc env t with
    | some v => v
    | none => .tuple []
  | .const v => toAV v
  | .global g => .flat (.pointer (some ⟨g, 0, none⟩))
  | .func f => .func (.func f) [] []
noncomputable def envV (l : List (Nat × Src)) (r : RF) (st : List AV) : List (Nat × AV) := l.map fun x => (x.1, (srcF x.2).f r st)
noncomputable def onFunc (v : AV) : (FuncId → List AV → List AV → R') → R' :=
  AV.rec (motive_1 := fun _ => (FuncId → List AV → List AV → R') → R') (motive_2 := fun _ => Unit)
    (fun _ _ => none) (fun _ _ _ => none) (fun _ _ _ _ _ => none) (fun _ _ => none) (fun fn a b _ _ c => match fn with
      | .func g => c g a b
      | _ => none) (fun _ _ _ _ => none) (fun _ _ _ => none) (fun _ _ _ => none) () (fun _ _ _ _ => ()) v
/-- operations on memory, as evOp has them -/
noncomputable def listK (l : List AV) : (List AV → R') → R' :=
  List.rec (motive := fun _ => (List AV → R') → R') (fun c => c []) (fun x _ ih c => ih (fun xs => c (x :: xs))) l
noncomputable def blkK (h : FH) (l : List AV) (t : TypeId) (x : Bool) (c : FH → R') : R' := listK l fun l => h.newK (.cells l t x) c
noncomputable def storeK (h : FH) (b o : Nat) (cs : List AV) (c : FH → R') : R' :=
  boolK (allOne cs) (cellsK h b fun l e x => splK l o cs fun l' => h.putK b (some (.cells l' e x)) c) none
def cellsA (h : FH) (g : Option AO) (size n : Nat) : AV → Option (List AV)
  | .slice b o _ _ => match g with
    | some (.cells l _ _) => takeX (l.drop o) (n * size)
    | none => none
  | .flat (.slice none _ _) => some []
  | .flat (.string s) => (takeX s.data.toList n).map fun l => l.map fun b => .flat (.int .u8 (b.toNat : Int))
  | _ => none
noncomputable def blkOf (h : FH) : AV → Option AO
  | .slice b _ _ _ => h.get b
  | _ => none
noncomputable def appendK (T : Tab) (t1 t2 : TypeId) (s x : AV) (h : FH) (c : AV → FH → R') : R' :=
  match T.types.get t1, T.types.get t2 with
  | some i1, some i2 => match i1.td with
    | .slice e => match T.types.get e, lenX x with
      | some te, some n => match cellsA h (blkOf h x) te.size n x with
        | some new => cond (isSeq i2.td && Nat.blt 0 te.size && Nat.blt 0 te.bytes && small te.bytes && Nat.beq new.length (n * te.size)) (match s with
          | .flat (.slice none 0 0) => match n with
            | 0 => c (.flat (.slice none 0 0)) h
            | n + 1 => cond (small (n + 1)) (blkK h new e true fun h' => c (.slice h.next 0 (n + 1) (.toEnd te.size)) h') none
          | .slice b o len (.exact cp) => cond (Nat.ble (len + n) cp) (storeK h b (o + len * te.size) new fun h' => forceN (len + n) fun m => c (.slice b o m (.exact cp)) h')
            (cond (small (len + n)) (match cellsA h (h.get b) te.size len (.slice b o len (.exact cp)) with
              | some old => blkK h (old ++ new) e true fun h' => forceN (len + n) fun m => c (.slice h.next 0 m (.toEnd te.size)) h'
              | none => none) none)
          | .slice b o len (.toEnd es) => cond (Nat.beq es te.size && Nat.beq o 0 && small (len + n) && allOne new) (match h.get b with
            | some (.cells l e' true) => cond (Nat.beq l.length (len * te.size) && Nat.beq e' e) (h.putK b none fun h1 => blkK h1 (l ++ new) e true fun h' => forceN (len + n) fun m => c (.slice h.next 0 m (.toEnd te.size)) h') none
            | _ => none) none
          | _ => none) none
        | none => none
      | _, _ => none
    | _ => none
  | _, _ => none
noncomputable def copyK (T : Tab) (t1 : TypeId) (d x : AV) (h : FH) (c : AV → FH → R') : R' :=
  match T.types.get t1 with
  | some i1 => match i1.td, lenX d, lenX x with
    | .slice e, some m, some k => match T.types.get e with
      | some te => match cellsA h (blkOf h x) te.size (Nat.min k m) x, d with
        | some cs, .slice b o _ _ => storeK h b o cs fun h' => c (.flat (.int .i64 (.ofNat (Nat.min k m)))) h'
        | some [], .flat (.slice none _ _) => c (.flat (.int .i64 (.ofNat (Nat.min k m)))) h
        | _, _ => none
      | none => none
    | _, _, _ => none
  | none => none
/-- an operation that has no form of its own here -/
noncomputable def genK (T : Tab) (o : Oper) (e : Operand → AV) (h : FH) (c : AV → FH → R') (kp : AV → R') : R' :=
  match o.op with
  | .buildSlice t len ps => match T.types.get t with
    | some i => match i.td with
      | .slice el => match T.types.get el with
        | some j => cond (Nat.ble (len * j.size) 16777216) (match evFill (fun k => some (k * j.size, j.size)) (reps (j.zero.map .flat) len) (ps.toList.map fun p => (p.1, e p.2)) with
          | some l => blkK h l el false fun h' => c (.slice h.next 0 len (.exact len)) h'
          | none => none) none
        | none => none
      | _ => none
    | none => none
  | .makeSlice t a b => match e a, e b, T.types.get t with
    | .flat (.int _ (.ofNat l)), .flat (.int _ (.ofNat cp)), some ti => match ti.td with
      | .slice el => match T.types.get el with
        | some te => cond (small cp && small te.bytes && Nat.ble l cp) (blkK h (reps (te.zero.map .flat) cp) el false fun h' => forceN l fun l => forceN cp fun cp => c (.slice h.next 0 l (.exact cp)) h') none
        | none => none
      | _ => none
    | _, _, _ => none
  | .call cl => match cl.callee with
    | .builtin .append => match cl.argTypes.toList, cl.args.toList.map e with
      | t1 :: t2 :: _, s :: x :: _ => appendK T t1 t2 s x h c
      | _, _ => none
    | .builtin .copy => match cl.argTypes.toList, cl.args.toList.map e with
      | t1 :: _, s :: x :: _ => copyK T t1 s x h c
      | _, _ => none
    | .builtin b => match evBuiltin T b cl.argTypes.toList (cl.args.toList.map e) ⟨0, 0, fun _ => none⟩ with
      | some (.val v _) => forceA v fun v => c v h
      | _ => none
    | _ => none
  | .alloc _ | .box _ _ | .load _ _ | .store _ _ _ => none
  | _ => match evOp T e ⟨0, 0, fun _ => none⟩ o with
    | some (.val v _) => forceA v fun v => c v h
    | some (.panic v) => kp v
    | _ => none

structure VF where
  f : RF → List AV → FH → (AV → FH → R') → R'
structure SF where
  f : RF → List AV → FH → (FH → R') → R'
structure EF where
  f : RF → List AV → (FuncId → List AV → R') → R'
structure NF where
  f : RF → List AV → FH → (AV → FH → R') → (AV → R') → R'
/-- an operation: it answers, or writes, or enters a function, or answers or panics -/
inductive IK where
  | v (x : VF)
  | s (x : SF)
  | e (x : EF)
  | n (x : NF)
noncomputable def callK2 (T : Tab) (g : FuncId) (l : List AV) (kc : FuncId → List AV → R') : R' := boolK (match T.funs.get g with
      | some _ => true
      | none => false) (kc g l) none
noncomputable def insF (T : Tab) : Ins → IK
  | .mv a => .v ⟨fun r l h kv => kv ((srcF a).f r l) h⟩
  | .bin op t K ox oy a b => .v ⟨fun r l h kv => (binF op K).f ((srcF a).f r l) ((srcF b).f r l) (fun v => kv v h)
      (match (match evBin T op t ((srcF a).f r l) ((srcF b).f r l) with
          | some v => some v
          | none => nilEq T op t ox oy ((srcF a).f r l) ((srcF b).f r l)) with
        | some v => forceA v fun v => kv v h
        | none => none)⟩
  | .conv K s d a => .v ⟨fun r l h kv => (convF K).f ((srcF a).f r l) (fun v => kv v h)
      (match evConvert T s d ((srcF a).f r l) with
        | some v => forceA v fun v => kv v h
        | none => none)⟩
  | .load1 a => .v ⟨fun r l h kv => onPtr ((srcF a).f r l) fun b o => cellsK h b fun cs _ _ => nthK cs o fun v => kv v h⟩
  | .loadN n a => .v ⟨fun r l h kv => onPtr ((srcF a).f r l) fun b o => cellsK h b fun cs _ _ => dropK cs o fun cs => (takeF n).f cs fun cs => kv (.agg cs) h⟩
  | .store1 a b => .s ⟨fun r l h ks => onPtr ((srcF a).f r l) fun b' o => (fun v => boolK v.one (cellsK h b' fun cs e x => setK cs o v fun cs' => h.putK b' (some (.cells cs' e x)) ks) none) ((srcF b).f r l)⟩
  | .storeN n a b => .s ⟨fun r l h ks => onPtr ((srcF a).f r l) fun b' o => (fun cs => boolK (Nat.beq cs.length n) (storeK h b' o cs ks) none) ((srcF b).f r l).cells⟩
  | .idxS es a i => .v ⟨fun r l h kv => onSlice ((srcF a).f r l) (fun b o n => (onInt ((srcF i).f r l) (fun _ z => Int.rec (motive := fun _ => R') (fun m => boolK (Nat.blt m n) (forceK (Nat.add o (Nat.mul m es)) fun o' => kv (.ptr b o') h) none) (fun _ => none) z) none)) none⟩
  | .fldA off a => .v ⟨fun r l h kv => onPtr ((srcF a).f r l) fun b o => forceK (Nat.add o off) fun o' => kv (.ptr b o') h⟩
  | .ext i a => .v ⟨fun r l h kv => onTuple ((srcF a).f r l) fun vs => nthK vs i fun v => kv v h⟩
  | .len t a => .v ⟨fun r l h kv => onSlice ((srcF a).f r l) (fun _ _ n => kv (.flat (.int .i64 (.ofNat n))) h) (match evLen T t ((srcF a).f r l) with
      | some v => forceA v fun v => kv v h
      | none => none)⟩
  | .pick c a b => .v ⟨fun r l h kv => onBool ((srcF c).f r l) (kv ((srcF a).f r l) h) (kv ((srcF b).f r l) h)⟩
  | .alloc t z => .v ⟨fun _ _ h kv => h.newK (.cells z t false) fun h' => kv (.ptr h.next 0) h'⟩
  | .box t a => .v ⟨fun r l h kv => onAgg ((srcF a).f r l) (fun cs => h.newK (.cells cs t false) fun h' => kv (.ptr h.next 0) h') (h.newK (.cells ((srcF a).f r l).cells t false) fun h' => kv (.ptr h.next 0) h')⟩
  | .call f args => .e ⟨fun r l kc => kc f (vals args r l)⟩
  | .callv f args => .e ⟨fun r l kc => onFunc ((srcF f).f r l) fun g a b => callK2 T g ((a ++ vals args r l) ++ b) kc⟩
  | .gen o env => .n ⟨fun r l h kv kp => genK T o (envE (envV env r l)) h kv kp⟩

structure DF where
  f : KN → AV → RF → List AV → List Ent → FH → R'
noncomputable def dstF : Dst → DF
  | .push => ⟨fun k v r l es h => k r (v :: l) es h⟩
  | .set n => ⟨fun k v r l es h => k ((acc n).set r v) l es h⟩
  | .no => ⟨fun k _ r l es h => k r l es h⟩
def blkP : AV → Fp
  | .ptr b _ => .rd b
  | _ => .call false
def blkW : AV → Fp
  | .ptr b _ => .wr b
  | _ => .call false
/-- the footprint; 'clean' of a call -/
structure PF where
  f : RF → List AV → Nat → FH → Fp
noncomputable def fpF : FpM → PF
  | .quiet => ⟨fun _ _ _ _ => .none⟩
  | .alloc => ⟨fun _ _ _ _ => .none⟩
  | .rd a => ⟨fun r l _ _ => blkP ((srcF a).f r l)⟩
  | .wr a => ⟨fun r l _ _ => blkW ((srcF a).f r l)⟩
  | .call => ⟨fun _ _ n0 h => .call (Nat.ble n0 h.low)⟩
  | .app s x => ⟨fun r l _ _ => .app (optL (blkOfA ((srcF s).f r l)) ++ optL (blkOfA ((srcF x).f r l))) (blkOfA ((srcF s).f r l))⟩
structure GF where
  f : CallK → RF → List AV → List Ent → FH → KN → KX → R'
noncomputable def lowK (a b : Nat) (c : Nat → R') : R' := boolK (Nat.blt a b) (c a) (c b)
noncomputable def retP (d : DF) (k : KN) (kx : KX) (r : RF) (l : List AV) (es : List Ent) (e : AEnd) (h' : FH) : R' := AEnd.rec (motive := fun _ => R') (fun v => d.f k v r l es h') (fun v => kx v r h') e
noncomputable def retS (d : DF) (k : KN) (r : RF) (l : List AV) (es : List Ent) (n0 low0 : Nat) (e : AEnd) (h' : FH) : R' :=
  AEnd.rec (motive := fun _ => R') (fun v => boolK (Nat.ble n0 h'.low) (lowK h'.low low0 fun low => d.f k v r l es ⟨h'.next, low, h'.m⟩) none) (fun _ => none) e
noncomputable def retL (d : DF) (k : KN) (r : RF) (l : List AV) (es : List Ent) (j : Nat) (p : PF) (n0 low0 : Nat) (e : AEnd) (h' : FH) : R' :=
  AEnd.rec (motive := fun _ => R') (fun v => lowK h'.low low0 fun low => d.f k v r l (⟨j, p.f r l n0 h', n0, h'.next⟩ :: es) ⟨h'.next, low, h'.m⟩) (fun _ => none) e
/-- outside of a region that draws -/
noncomputable def plainF (d : DF) : IK → GF
  | .v i => ⟨fun _ r l es h k _ => i.f r l h (fun v h' => d.f k v r l es h')⟩
  | .s i => ⟨fun _ r l es h k _ => i.f r l h (fun h' => d.f k dflt r l es h')⟩
  | .e i => ⟨fun call r l es h k kx => i.f r l (fun f args => call f args h (retP d k kx r l es))⟩
  | .n i => ⟨fun _ r l es h k kx => i.f r l h (fun v h' => d.f k v r l es h') (fun v => kx v r h)⟩
/-- in one whose order is of no account -/
noncomputable def stillF (d : DF) : IK → GF
  | .v i => ⟨fun _ r l es h k _ => i.f r l h (fun v h' => d.f k v r l es h')⟩
  | .s i => ⟨fun _ r l es h k _ => i.f r l h (fun h' => d.f k dflt r l es h')⟩
  | .e i => ⟨fun call r l es h k _ => i.f r l (fun f args => call f args ⟨h.next, h.next, h.m⟩ (retS d k r l es h.next h.low))⟩
  | .n i => ⟨fun _ r l es h k _ => i.f r l h (fun v h' => d.f k v r l es h') (fun _ => none)⟩
/-- in one that is looked at -/
noncomputable def drawF (d : DF) (j : Nat) (p : PF) : IK → GF
  | .v i => ⟨fun _ r l es h k _ => i.f r l h (fun v h' => d.f k v r l (⟨j, p.f r l h.next h', h.next, h'.next⟩ :: es) h')⟩
  | .s i => ⟨fun _ r l es h k _ => i.f r l h (fun h' => d.f k dflt r l (⟨j, p.f r l h.next h', h.next, h'.next⟩ :: es) h')⟩
  | .e i => ⟨fun call r l es h k _ => i.f r l (fun f args => call f args ⟨h.next, h.next, h.m⟩ (retL d k r l es j p h.next h.low))⟩
  | .n i => ⟨fun _ r l es h k _ => i.f r l h (fun v h' => d.f k v r l (⟨j, p.f r l h.next h', h.next, h'.next⟩ :: es) h') (fun _ => none)⟩
noncomputable def opF (T : Tab) (x : Ins) (d : Dst) : Dr → GF
  | .plain => plainF (dstF d) (insF T x)
  | .still => stillF (dstF d) (insF T x)
  | .looked _ .quiet => stillF (dstF d) (insF T x)
  | .looked j m => drawF (dstF d) j (fpF m) (insF T x)
noncomputable def gF (T : Tab) (x : GI) : GF :=
  match x.guard with
  | none => opF T x.ins x.dst x.draw
  | some (g, true) => ⟨fun call r l es h k kx => onGuard ((srcF g).f r l) ((opF T x.ins x.dst x.draw).f call r l es h k kx) ((dstF x.dst).f k dflt r l es h) ((dstF x.dst).f k dflt r l es h)⟩
  | some (g, false) => ⟨fun call r l es h k kx => onGuard ((srcF g).f r l) ((dstF x.dst).f k dflt r l es h) ((opF T x.ins x.dst x.draw).f call r l es h k kx) ((dstF x.dst).f k dflt r l es h)⟩
noncomputable def listF (T : Tab) : List GI → GF
  | [] => ⟨fun _ r l es h k _ => k r l es h⟩
  | i :: rest => ⟨fun call r l es h k kx => (gF T i).f call r l es h (fun r l es h => (listF T rest).f call r l es h k kx) kx⟩
structure CF where
  f : CallK → RF → FH → (RF → FH → R') → (AExit → RF → FH → R') → R'
noncomputable def onExit (e : AExit) (id : Nat) (kn : R') (kx : R') : R' :=
  AExit.rec (motive := fun _ => R') kx (fun j => boolK (Nat.beq j id) kn kx) (fun _ => kx) kx (fun _ => kx) e
noncomputable def onGoto (e : AExit) (l : Nat) (kn : R') (kx : R') : R' :=
  AExit.rec (motive := fun _ => R') kx (fun _ => kx) (fun j => boolK (Nat.beq j l) kn kx) kx (fun _ => kx) e
noncomputable def loopK (body : CallK → RF → FH → (RF → FH → R') → (AExit → RF → FH → R') → R') (n : Nat) : CallK → RF → FH → (AExit → RF → FH → R') → R' :=
  Nat.rec (motive := fun _ => CallK → RF → FH → (AExit → RF → FH → R') → R') (fun _ _ _ _ => none) (fun _ ih call r h kx => body call r h (fun r h => ih call r h kx) kx) n
noncomputable def jumpK (rest : CallK → RF → FH → (RF → FH → R') → (AExit → RF → FH → R') → R') (l : Nat) (n : Nat) : CallK → RF → FH → (RF → FH → R') → (AExit → RF → FH → R') → R' :=
  Nat.rec (motive := fun _ => CallK → RF → FH → (RF → FH → R') → (AExit → RF → FH → R') → R') (fun _ _ _ _ _ => none)
    (fun _ ih call r h kn kx => rest call r h kn (fun e r h => onGoto e l (ih call r h kn kx) (kx e r h))) n
/-- behind a region that draws: its look -/
structure LF where
  f : List Ent → R' → R'
noncomputable def lookF : Option (List Nat) → LF
  | none => ⟨fun _ k => k⟩
  | some bf => ⟨fun es k => boolK (looks bf es) k none⟩
noncomputable def codeF (T : Tab) (lf : Nat) : FC → CF
  | .skip => ⟨fun _ r h kn _ => kn r h⟩
  | .seq a b => ⟨fun call r h kn kx => (codeF T lf a).f call r h (fun r h => (codeF T lf b).f call r h kn kx) kx⟩
  | .reg bf l => ⟨fun call r h kn kx => (listF T l).f call r [] [] h (fun r _ es h => (lookF bf).f es (kn r h)) (fun v r h => kx (.panic v) r h)⟩
  | .regc bf l c a b => ⟨fun call r h kn kx => (listF T l).f call r [] [] h (fun r st es h => (lookF bf).f es (onBool ((srcF c).f r st) ((codeF T lf a).f call r h kn kx) ((codeF T lf b).f call r h kn kx))) (fun v r h => kx (.panic v) r h)⟩
  | .cnd c a b => ⟨fun call r h kn kx => onBool ((srcF c).f r []) ((codeF T lf a).f call r h kn kx) ((codeF T lf b).f call r h kn kx)⟩
  | .blk id c => ⟨fun call r h kn kx => (codeF T lf c).f call r h kn (fun e r h => onExit e id (kn r h) (kx e r h))⟩
  | .loop c => ⟨fun call r h _ kx => loopK (codeF T lf c).f lf call r h kx⟩
  | .scope c l rest => ⟨fun call r h kn kx => (codeF T lf c).f call r h kn (fun e r h => onGoto e l (jumpK (codeF T lf rest).f l (lf / 3) call r h kn kx) (kx e r h))⟩
  | .exit id => ⟨fun _ r h _ kx => kx (.exit id) r h⟩
  | .goto l => ⟨fun _ r h _ kx => kx (.goto l) r h⟩
  | .ret => ⟨fun _ r h _ kx => kx .ret r h⟩
structure AF where
  f : RF → List AV → (RF → R') → R'
/-- the arguments into their registers -/
noncomputable def argF : List (Option Nat) → AF
  | [] => ⟨fun r l c => List.rec (motive := fun _ => R') (c r) (fun _ _ _ => none) l⟩
  | none :: as => ⟨fun r l c => List.rec (motive := fun _ => R') none (fun _ xs _ => (argF as).f r xs c) l⟩
  | some k :: as => ⟨fun r l c => List.rec (motive := fun _ => R') none (fun x xs _ => (argF as).f ((acc k).set r x) xs c) l⟩
structure RsF where
  f : RF → FH → (List AV → R') → R'
noncomputable def resF (T : Tab) : List RSrc → RsF
  | [] => ⟨fun _ _ c => c []⟩
  | .val k :: l => ⟨fun r h c => (resF T l).f r h fun vs => c ((acc k).get r :: vs)⟩
  | .cell k t :: l => match T.types.get t with
    | some i => match i.td.agg with
      | some true => ⟨fun r h c => onPtr ((acc k).get r) fun b o => cellsK h b fun cs _ _ => dropK cs o fun cs => (takeF i.size).f cs fun cs => (resF T l).f r h fun vs => c (.agg cs :: vs)⟩
      | some false => ⟨fun r h c => onPtr ((acc k).get r) fun b o => cellsK h b fun cs _ _ => nthK cs o fun v => (resF T l).f r h fun vs => c (v :: vs)⟩
      | none => ⟨fun _ _ _ => none⟩
    | none => ⟨fun _ _ _ => none⟩
structure FnF where
  f : CallK → List AV → FH → (AEnd → FH → R') → R'
noncomputable def fnF (T : Tab) (lf : Nat) (x : FFn) : FnF :=
  ⟨fun call args h k => boolK (Nat.ble args.length x.ntmps) ((argF x.args).f RF.zero args fun r =>
    (codeF T lf x.code).f call r h (fun r h => (resF T x.res).f r h fun vs => k (.ret (oneOf vs)) h)
      (fun e r h => AExit.rec (motive := fun _ => R') none (fun _ => none) (fun _ => none) ((resF T x.res).f r h fun vs => k (.ret (oneOf vs)) h) (fun v => k (.pan v) h) e)) none⟩
/-- a table of compiled functions -/
structure FnO where
  f : Option FnF
noncomputable def fnO (T : Tab) (M : Nat → Nat → Option (List Nat)) (lf : Nat) (f : FuncId) : FnO :=
  match T.funs.get f with
  | some fn => match compFn T (M f) fn with
    | some x => ⟨some (fnF T lf x)⟩
    | none => ⟨none⟩
  | none => ⟨none⟩
/-- sm: answers that are known ahead -/
noncomputable def runK (sm : FuncId → List AV → FH → Option (AEnd × FH)) (T : Tab) (M : Nat → Nat → Option (List Nat)) (lf : Nat) (n : Nat) : CallK :=
  Nat.rec (motive := fun _ => CallK) (fun _ _ _ _ => none)
    (fun _ ih f args h k => Option.rec (motive := fun _ => R') (Option.rec (motive := fun _ => R') none (fun x => x.f ih args h k) (fnO T M lf f).f) (fun x => k x.1 x.2) (sm f args h)) n
def FH.empty : FH := ⟨0, 0, .nil⟩
noncomputable def runB (sm : FuncId → List AV → FH → Option (AEnd × FH)) (T : Tab) (M : Nat → Nat → Option (List Nat)) (lf n f : Nat) (args : List AV) : Bool :=
  match runK sm T M lf n f args FH.empty (fun e h => some (e, h)) with
  | some (.ret (.flat (.bool c)), _) => c
  | _ => false
abbrev SmF := FuncId → List AV → FH → Option (AEnd × FH)
def noSmF : SmF := fun _ _ _ => none
def zeq : Int → Int → Bool
  | .ofNat a, .ofNat b => Nat.beq a b
  | .negSucc a, .negSucc b => Nat.beq a b
  | _, _ => false
def feq : Value → Value → Bool
  | .int k n, .int k' n' => decide (k = k') && zeq n n'
  | .bool a, .bool b => cond a b (!b)
  | _, _ => false
def ceq : Cap → Cap → Bool
  | .exact a, .exact b => Nat.beq a b
  | .toEnd a, .toEnd b => Nat.beq a b
  | _, _ => false
mutual
def aeq : AV → AV → Bool
  | .flat u, .flat v => feq u v
  | .ptr b o, .ptr b' o' => Nat.beq b b' && Nat.beq o o'
  | .slice b o n c, .slice b' o' n' c' => (Nat.beq b b' && Nat.beq o o') && (Nat.beq n n' && ceq c c')
  | .agg l, .agg l' => aeqs l l'
  | .tuple l, .tuple l' => aeqs l l'
  | _, _ => false
def aeqs : List AV → List AV → Bool
  | [], [] => true
  | a :: l, b :: l' => aeq a b && aeqs l l'
  | _, _ => false
end
def memoF (f : FuncId) (args0 : List AV) (v : AV) : SmF := fun f' args h => cond (Nat.beq f f') (cond (aeqs args args0) (some (.ret v, h)) none) none
def orF (a b : SmF) : SmF := fun f args h => match a f args h with
  | some r => some r
  | none => b f args h
noncomputable def runV (sf : SmF) (T : Tab) (M : Nat → Nat → Option (List Nat)) (lf n f : Nat) (args : List AV) (v : AV) : Bool :=
  match runK sf T M lf n f args FH.empty (fun e h => some (e, h)) with
  | some (.ret u, _) => aeq u v
  | _ => false
mutual
def sh (k : Nat) : AV → AV
  | .flat v => .flat v
  | .ptr b o => .ptr (k + b) o
  | .slice b o n c => .slice (k + b) o n c
  | .map r => .map (k + r)
  | .func fn a b => .func fn (shs k a) (shs k b)
  | .iface t x => .iface t (sh k x)
  | .agg l => .agg (shs k l)
  | .tuple l => .tuple (shs k l)
def shs (k : Nat) : List AV → List AV
  | [] => []
  | a :: l => sh k a :: shs k l
end
def memoHF (f : FuncId) (args0 : List AV) (v : AV) (nx : Nat) : SmF := fun f' args h => cond (Nat.beq f f') (cond (aeqs args args0) (forceN (h.next + nx) fun n => some (.ret (sh h.next v), ⟨n, h.low, h.m⟩)) none) none
noncomputable def runH (sf : SmF) (T : Tab) (M : Nat → Nat → Option (List Nat)) (lf n f : Nat) (args : List AV) (v : AV) (nx : Nat) : Bool :=
  match runK sf T M lf n f args FH.empty (fun e h => some (e, h)) with
  | some (.ret u, hh) => aeq u v && Nat.beq hh.next nx
  | _ => false
end Go.Ev
