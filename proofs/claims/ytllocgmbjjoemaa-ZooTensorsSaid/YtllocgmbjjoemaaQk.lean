/- IV, part 24: the evaluator's steps, for a walk with open values. IV, part 25: the evaluator's steps, each as one equation without a condition, for a walk with open values. IV, part 26: the operations in a region that draws its order, each as one equation without a condition. (Printed by gen26.py.) IV, part 27: functions with their answers, one behind another. IV, part 28: the walk's equations, bundled. Written by a program (gen28.py). -/
import Derived.Test.YtllocgmbjjoemaaQi
section
set_option linter.unusedVariables false
set_option linter.unusedSimpArgs false
namespace Go.Iv
open Go
theorem upd_eq {α : Type} (f : Nat → Option α) (k : Nat) (x : Option α) : upd f k x k = x := by simp [upd]
theorem upd_ne {α : Type} (f : Nat → Option α) {k j : Nat} (x : Option α) (h : j ≠ k) : upd f k x j = f j := by simp [upd, h]
theorem blt_dec (a b : Nat) : Nat.blt a b = decide (a < b) := by rw [Bool.eq_iff_iff, Nat.blt_eq, decide_eq_true_iff]
theorem ble_dec (a b : Nat) : Nat.ble a b = decide (a ≤ b) := by rw [Bool.eq_iff_iff, Nat.ble_eq, decide_eq_true_iff]
theorem beq_dec (a b : Nat) : Nat.beq a b = decide (a = b) := by rw [Bool.eq_iff_iff, Nat.beq_eq, decide_eq_true_iff]
theorem small_dec (n : Nat) : small n = decide (n < 1048576) := blt_dec _ _
theorem ieq_dec (a b : Int) : ieq a b = decide (a = b) := by rw [ieq_eq]; rfl
theorem dec_true {p : Prop} [Decidable p] (h : p) : decide p = true := decide_eq_true h
theorem dec_false {p : Prop} [Decidable p] (h : ¬ p) : decide p = false := decide_eq_false h
theorem add_is (a b : Int) : Int.add a b = a + b := rfl
theorem sub_is (a b : Int) : Int.sub a b = a - b := rfl
theorem mul_is (a b : Int) : Int.mul a b = a * b := rfl
theorem ofNat_is (n : Nat) : Int.ofNat n = (n : Int) := rfl
theorem fwrap_in {z : Int} (h1 : -9223372036854775808 ≤ z) (h2 : z ≤ 9223372036854775807) : fwrap .i64 z = z := by rw [fwrap_eq]; exact IntWalk.i64_in _ ⟨by omega, by omega⟩
theorem inRange_nat {i n : Nat} (h1 : i < n) : inRange (i : Int) n = some i := by
 show inRange (.ofNat i) n = _
 simp only [inRange]; rw [Nat.blt_eq.mpr h1]; rfl
theorem asNat_nat (k : IntKind) (n : Nat) : asNat (.flat (.int k (n : Int))) = some n := rfl
theorem evMakeSlice_nat (T : Tab) (t : TypeId) (k k' : IntKind) (l c : Nat) (h : Hp) : evMakeSlice T t (.flat (.int k (l : Int))) (.flat (.int k' (c : Int))) h =
    match T.types.get t with
    | some ti => match ti.td with
     | .slice e => match T.types.get e with
      | some te => cond (small c && small te.bytes && Nat.ble l c) ((newBlk h (reps (te.zero.map .flat) c) e false).map fun h' => (.slice h.next 0 l (.exact c), h')) none
      | none => none
     | _ => none
    | none => none := by
 show evMakeSlice T t (.flat (.int k (.ofNat l))) (.flat (.int k' (.ofNat c))) h = _
 unfold evMakeSlice
 cases T.types.get t <;> rfl
theorem reps_one (v : AV) (n : Nat) : reps [v] n = List.replicate n v := by
 induction n with
 | zero => rfl
 | succ n ih => simp [reps, ih, List.replicate_succ]
theorem takeX_take {α : Type} : ∀ {l : List α} {n : Nat}, n ≤ l.length → takeX l n = some (l.take n)
 | _, 0, _ => by simp [takeX]
 | [], n + 1, h => by simp at h
 | x :: l, n + 1, h => by simp [takeX, takeX_take (l := l) (n := n) (by simpa using h)]
theorem spl_one : ∀ {l : List AV} {o : Nat} {v : AV}, o < l.length → spl l o [v] = some (l.set o v)
 | x :: l, 0, v, _ => by simp [spl, over]
 | x :: l, o + 1, v, h => by simp [spl, spl_one (l := l) (o := o) (v := v) (by simpa using h)]
 | [], o, v, h => by simp at h
theorem spl_is (l : List AV) (o : Nat) (v : AV) : spl l o [v] = cond (decide (o < l.length)) (some (l.set o v)) none := by
 by_cases h : o < l.length
 ·simp [spl_one h, h]
 ·cases hs : spl l o [v] with
  | none => simp [h]
  | some r =>
   have := (spl_eq hs).2
   simp at this
   omega
theorem over_cons2 : ∀ (l : List AV) (a b : AV) (cs : List AV), over l (a :: b :: cs) = match spl l 0 [a] with | some l' => spl l' 1 (b :: cs) | none => none
 | [], a, b, cs => rfl
 | x :: l, a, b, cs => by simp [over, spl]
theorem spl_cons2 : ∀ (l : List AV) (o : Nat) (a b : AV) (cs : List AV), spl l o (a :: b :: cs) = match spl l o [a] with | some l' => spl l' (o + 1) (b :: cs) | none => none
 | l, 0, a, b, cs => by rw [spl, over_cons2]
 | [], o + 1, a, b, cs => rfl
 | x :: l, o + 1, a, b, cs => by
  simp only [spl]
  rw [spl_cons2 l o a b cs]
  cases spl l o [a] with
  | none => rfl
  | some l' => simp [spl]
theorem takeX_is {α : Type} (l : List α) (n : Nat) : takeX l n = cond (decide (n ≤ l.length)) (some (l.take n)) none := by
 by_cases h : n ≤ l.length
 ·simp [takeX_take h, h]
 ·cases hs : takeX l n with
  | none => simp [h]
  | some r => exact absurd (takeX_eq hs).2 h
theorem allClean_map {α : Type} {f : α → AV} (hf : ∀ x, (f x).clean = true) : ∀ l : List α, allClean (l.map f) = true
 | [] => rfl
 | x :: l => by simp [allClean, hf x, allClean_map hf l]
theorem allOne_map {α : Type} {f : α → AV} (hf : ∀ x, (f x).one = true) : ∀ l : List α, allOne (l.map f) = true
 | [] => rfl
 | x :: l => by simp [allOne, hf x, allOne_map hf l]
theorem allClean_rep' (v : AV) (n : Nat) : allClean (List.replicate n v) = (v.clean || decide (n = 0)) := by
 induction n with
 | zero => simp [allClean]
 | succ n ih =>
  rw [List.replicate_succ, allClean, ih]
  cases v.clean <;> simp
theorem newBlk_is (h : Hp) (l : List AV) (t : TypeId) (x : Bool) : newBlk h l t x = cond (allClean l) (some ⟨h.next + 1, h.low, upd h.m h.next (some (.cells l t x))⟩) none := by
 simp [newBlk, Hp.new]
def lowP (i l : Nat) : Nat := cond (Nat.blt i l) i l
theorem put_is (h : Hp) (i : Nat) (o : Option AO) : h.put i o = cond (decide (i < h.next)) (some ⟨h.next, lowP i h.low, upd h.m i o⟩) none := by
 rw [← blt_dec]; rfl
end Go.Iv
end
section
set_option linter.unusedVariables false
set_option linter.unusedSimpArgs false
namespace Go.Iv
open Go
section
variable {α : Type} (l : List α)
theorem clean_slice (f g p : α → Nat) (q : α → Cap) : allClean (l.map fun i => .slice (f i) (g i) (p i) (q i)) = true := allClean_map (fun _ => rfl) l
theorem clean_isl (f : α → List AV) (g p q : α → Nat) : allClean (l.map fun i => .isl (f i) (g i) (p i) (q i)) = true := allClean_map (fun _ => rfl) l
theorem clean_i64 (f : α → Int) : allClean (l.map fun i => .flat (.int .i64 (f i))) = true := allClean_map (fun _ => rfl) l
theorem clean_ptr (f g : α → Nat) : allClean (l.map fun i => .ptr (f i) (g i)) = true := allClean_map (fun _ => rfl) l
theorem one_slice (f g p : α → Nat) (q : α → Cap) : allOne (l.map fun i => .slice (f i) (g i) (p i) (q i)) = true := allOne_map (fun _ => rfl) l
theorem one_isl (f : α → List AV) (g p q : α → Nat) : allOne (l.map fun i => .isl (f i) (g i) (p i) (q i)) = true := allOne_map (fun _ => rfl) l
theorem one_i64 (f : α → Int) : allOne (l.map fun i => .flat (.int .i64 (f i))) = true := allOne_map (fun _ => rfl) l
theorem one_ptr (f g : α → Nat) : allOne (l.map fun i => .ptr (f i) (g i)) = true := allOne_map (fun _ => rfl) l
end
theorem evMax_int (k k' : IntKind) (x y : Int) : evMax (.flat (.int k x)) (.flat (.int k' y)) = some (.flat (.int k (max x y))) := by
 simp only [evMax, ilt_eq]
 by_cases h : x < y
 ·simp only [h, decide_true, cond_true, Int.max_def, if_pos (Int.le_of_lt h)]
 ·simp only [h, decide_false, cond_false, Int.max_def]
  split
  ·have : x = y := by omega
   rw [this]
  ·rfl
theorem evMin_int (k k' : IntKind) (x y : Int) : evMin (.flat (.int k x)) (.flat (.int k' y)) = some (.flat (.int k (min x y))) := by
 simp only [evMin, ilt_eq]
 by_cases h : y < x
 ·simp only [h, decide_true, cond_true, Int.min_def, if_neg (show ¬ x ≤ y by omega)]
 ·simp only [h, decide_false, cond_false, Int.min_def, if_pos (show x ≤ y by omega)]
theorem fold1 (f : AV → AV → Option AV) (x y : AV) : foldOp f x [y] = match f x y with | some z => foldOp f z [] | none => none := rfl
theorem fold0 (f : AV → AV → Option AV) (x : AV) : foldOp f x [] = some x := rfl
theorem cells_agg (l : List AV) : AV.cells (.agg l) = l := rfl
theorem cells_int (k : IntKind) (x : Int) : AV.cells (.flat (.int k x)) = [.flat (.int k x)] := rfl
theorem cells_bool (b : Bool) : AV.cells (.flat (.bool b)) = [.flat (.bool b)] := rfl
theorem cells_str (s : ByteArray) : AV.cells (.flat (.string s)) = [.flat (.string s)] := rfl
theorem cells_nil (A : Option Addr) (n c : Nat) : AV.cells (.flat (.slice A n c)) = [.flat (.slice A n c)] := rfl
theorem cells_nilp (A : Option Addr) : AV.cells (.flat (.pointer A)) = [.flat (.pointer A)] := rfl
theorem cells_nili : AV.cells (.flat .nilIface) = [.flat .nilIface] := rfl
theorem cells_nilf : AV.cells (.flat .nilFunc) = [.flat .nilFunc] := rfl
theorem cells_ptr (b o : Nat) : AV.cells (.ptr b o) = [.ptr b o] := rfl
theorem cells_iptr (l : List AV) (o : Nat) : AV.cells (.iptr l o) = [.iptr l o] := rfl
theorem cells_slice (b o n : Nat) (c : Cap) : AV.cells (.slice b o n c) = [.slice b o n c] := rfl
theorem cells_isl (l : List AV) (z o n : Nat) : AV.cells (.isl l z o n) = [.isl l z o n] := rfl
theorem cells_func (fn : Fn) (a b : List AV) : AV.cells (.func fn a b) = [.func fn a b] := rfl
theorem cells_iface (t : TypeId) (v : AV) : AV.cells (.iface t v) = [.iface t v] := rfl
theorem cells_tuple (l : List AV) : AV.cells (.tuple l) = [.tuple l] := rfl
theorem one_int (k : IntKind) (x : Int) : AV.one (.flat (.int k x)) = true := rfl
theorem one_bool (b : Bool) : AV.one (.flat (.bool b)) = true := rfl
theorem one_str (s : ByteArray) : AV.one (.flat (.string s)) = true := rfl
theorem one_nil (A : Option Addr) (n c : Nat) : AV.one (.flat (.slice A n c)) = true := rfl
theorem one_nilp (A : Option Addr) : AV.one (.flat (.pointer A)) = true := rfl
theorem one_nili : AV.one (.flat .nilIface) = true := rfl
theorem one_nilf : AV.one (.flat .nilFunc) = true := rfl
theorem one_ptr1 (b o : Nat) : AV.one (.ptr b o) = true := rfl
theorem one_iptr1 (l : List AV) (o : Nat) : AV.one (.iptr l o) = true := rfl
theorem one_slice1 (b o n : Nat) (c : Cap) : AV.one (.slice b o n c) = true := rfl
theorem one_isl1 (l : List AV) (z o n : Nat) : AV.one (.isl l z o n) = true := rfl
theorem one_func1 (fn : Fn) (a b : List AV) : AV.one (.func fn a b) = true := rfl
theorem one_iface1 (t : TypeId) (v : AV) : AV.one (.iface t v) = true := rfl
theorem clean_int64 (x : Int) : AV.clean (.flat (.int .i64 x)) = true := rfl
theorem clean_intu64 (x : Int) : AV.clean (.flat (.int .u64 x)) = true := rfl
theorem clean_intu8 (x : Int) : AV.clean (.flat (.int .u8 x)) = true := rfl
theorem clean_inti32 (x : Int) : AV.clean (.flat (.int .i32 x)) = true := rfl
theorem clean_bool (b : Bool) : AV.clean (.flat (.bool b)) = true := rfl
theorem clean_str (s : ByteArray) : AV.clean (.flat (.string s)) = true := rfl
theorem clean_nil (A : Option Addr) (n c : Nat) : AV.clean (.flat (.slice A n c)) = true := rfl
theorem clean_nilp (A : Option Addr) : AV.clean (.flat (.pointer A)) = true := rfl
theorem clean_nili : AV.clean (.flat .nilIface) = true := rfl
theorem clean_nilf : AV.clean (.flat .nilFunc) = true := rfl
theorem clean_ptr1 (b o : Nat) : AV.clean (.ptr b o) = true := rfl
theorem clean_iptr1 (l : List AV) (o : Nat) : AV.clean (.iptr l o) = true := rfl
theorem clean_slice1 (b o n : Nat) (c : Cap) : AV.clean (.slice b o n c) = true := rfl
theorem clean_isl1 (l : List AV) (z o n : Nat) : AV.clean (.isl l z o n) = true := rfl
theorem clean_func1 (fn : Fn) (a b : List AV) : AV.clean (.func fn a b) = true := rfl
theorem clean_iface1 (t : TypeId) (v : AV) : AV.clean (.iface t v) = true := rfl
def sl : Option AV → AV
 | some v => v
 | none => .tuple []
def rd (tm : Nat → Option AV) : Operand → AV
 | .tmp t => sl (tm t)
 | .const v => toAV v
 | .global g => .flat (.pointer (some ⟨g, 0, none⟩))
 | .func f => .func (.func f) [] []
theorem ev_rd (tm : Nat → Option AV) (n : Nat) (h : Hp) (ds : List ADef) : (⟨tm, n, h, ds⟩ : St).ev = rd tm := by
 funext x
 cases x <;> rfl
def goOn (k : St → Option (AExit × St)) (tm : Nat → Option AV) (n : Nat) (ds : List ADef) (d : Nat) (v : AV) (h : Hp) : Option (AExit × St) :=
 cond (Nat.blt d n) (k ⟨upd tm d (some v), n, h, ds⟩) none
def goV (k : St → Option (AExit × St)) (tm : Nat → Option AV) (n : Nat) (ds : List ADef) (d : Nat) (h : Hp) : Option AV → Option (AExit × St)
 | some v => goOn k tm n ds d v h
 | none => none
def goH (k : St → Option (AExit × St)) (tm : Nat → Option AV) (n : Nat) (ds : List ADef) (d : Nat) : Option (AV × Hp) → Option (AExit × St)
 | some x => goOn k tm n ds d x.1 x.2
 | none => none
def goS (k : St → Option (AExit × St)) (tm : Nat → Option AV) (n : Nat) (ds : List ADef) : Option Hp → Option (AExit × St)
 | some h => k ⟨tm, n, h, ds⟩
 | none => none
theorem goV_some (k : St → Option (AExit × St)) (tm : Nat → Option AV) (n : Nat) (ds : List ADef) (d : Nat) (h : Hp) (v : AV) : goV k tm n ds d h (some v) = goOn k tm n ds d v h := rfl
theorem goH_some (k : St → Option (AExit × St)) (tm : Nat → Option AV) (n : Nat) (ds : List ADef) (d : Nat) (v : AV) (h : Hp) : goH k tm n ds d (some (v, h)) = goOn k tm n ds d v h := rfl
theorem goS_some (k : St → Option (AExit × St)) (tm : Nat → Option AV) (n : Nat) (ds : List ADef) (h : Hp) : goS k tm n ds (some h) = k ⟨tm, n, h, ds⟩ := rfl
section
variable (call : CallF) (T : Tab) (all rest : List Oper) (tm : Nat → Option AV) (n : Nat) (h : Hp) (ds : List ADef) (d : Nat) (ty : TypeId) (pos : String) (af : Array Edge)
theorem put_goOn (v : AV) (h' : Hp) : (match (⟨tm, n, h, ds⟩ : St).put (some d) v h' with | some s => evOps call T all rest s | none => none) = goOn (evOps call T all rest) tm n ds d v h' := by
 unfold St.put goOn
 cases hb : Nat.blt d n <;> simp [hb]
theorem ops_nil (s : St) : evOps call T all [] s = some (.normal, s) := rfl
theorem go_pure (o : Op) (r : Option AV) (hr : evOp T (rd tm) h ⟨some d, o, ty, pos, af, none⟩ = R.pure h r) : evOps call T all (⟨some d, o, ty, pos, af, none⟩ :: rest) ⟨tm, n, h, ds⟩ = goV (evOps call T all rest) tm n ds d h r := by
 simp only [evOps, St.wanted, cond_true, ev_rd, hr]
 cases r with
 | none => rfl
 | some v => exact put_goOn call T all rest tm n h ds d v h
theorem go_both (o : Op) (r : Option (AV × Hp)) (hr : evOp T (rd tm) h ⟨some d, o, ty, pos, af, none⟩ = R.both r) : evOps call T all (⟨some d, o, ty, pos, af, none⟩ :: rest) ⟨tm, n, h, ds⟩ = goH (evOps call T all rest) tm n ds d r := by
 simp only [evOps, St.wanted, cond_true, ev_rd, hr]
 cases r with
 | none => rfl
 | some v => exact put_goOn call T all rest tm n h ds d v.1 v.2
theorem ops_move (x : Operand) : evOps call T all (⟨some d, .move x, ty, pos, af, none⟩ :: rest) ⟨tm, n, h, ds⟩ = goOn (evOps call T all rest) tm n ds d (rd tm x) h := by
 rw [go_pure call T all rest tm n h ds d ty pos af (.move x) (some (rd tm x)) rfl]; rfl
theorem ops_assign (x : Operand) : evOps call T all (⟨some d, .assign x, ty, pos, af, none⟩ :: rest) ⟨tm, n, h, ds⟩ = goOn (evOps call T all rest) tm n ds d (rd tm x) h := by
 rw [go_pure call T all rest tm n h ds d ty pos af (.assign x) (some (rd tm x)) rfl]; rfl
def pickA (c a b : AV) : Option AV :=
 match c with
 | .flat (.bool t) => some (cond t a b)
 | _ => none
theorem ops_pick (c a b : Operand) : evOps call T all (⟨some d, .pick c a b, ty, pos, af, none⟩ :: rest) ⟨tm, n, h, ds⟩ = goV (evOps call T all rest) tm n ds d h (pickA (rd tm c) (rd tm a) (rd tm b)) := by
 refine go_pure call T all rest tm n h ds d ty pos af _ _ ?_
 simp only [evOp, pickA]
 generalize rd tm c = C
 cases C <;> first | rfl | (rename_i v; cases v <;> rfl)
theorem ops_alloc (t : TypeId) : evOps call T all (⟨some d, .alloc t, ty, pos, af, none⟩ :: rest) ⟨tm, n, h, ds⟩ =
    goH (evOps call T all rest) tm n ds d (match T.types.get t with | some i => (newBlk h (i.zero.map .flat) t false).map fun h' => (.ptr h.next 0, h') | none => none) := by
 refine go_both call T all rest tm n h ds d ty pos af _ _ ?_
 simp only [evOp]
 cases T.types.get t <;> rfl
theorem ops_box (t : TypeId) (x : Operand) : evOps call T all (⟨some d, .box t x, ty, pos, af, none⟩ :: rest) ⟨tm, n, h, ds⟩ =
    goH (evOps call T all rest) tm n ds d ((newBlk h (rd tm x).cells t false).map fun h' => (.ptr h.next 0, h')) := go_both call T all rest tm n h ds d ty pos af _ _ rfl
theorem ops_build (t : TypeId) (ps : Array (Nat × Operand)) : evOps call T all (⟨some d, .build t ps, ty, pos, af, none⟩ :: rest) ⟨tm, n, h, ds⟩ =
    goV (evOps call T all rest) tm n ds d h (evBuild T t (ps.toList.map fun p => (p.1, rd tm p.2))) := go_pure call T all rest tm n h ds d ty pos af _ _ rfl
theorem ops_buildSlice (t : TypeId) (k : Nat) (ps : Array (Nat × Operand)) : evOps call T all (⟨some d, .buildSlice t k ps, ty, pos, af, none⟩ :: rest) ⟨tm, n, h, ds⟩ =
    goH (evOps call T all rest) tm n ds d (evBuildSlice T t k (ps.toList.map fun p => (p.1, rd tm p.2)) h) := go_both call T all rest tm n h ds d ty pos af _ _ rfl
theorem ops_load (t : TypeId) (a : Operand) : evOps call T all (⟨some d, .load t a, ty, pos, af, none⟩ :: rest) ⟨tm, n, h, ds⟩ =
    goV (evOps call T all rest) tm n ds d h (evLoad T t (rd tm a) h) := go_pure call T all rest tm n h ds d ty pos af _ _ rfl
theorem ops_store (t : TypeId) (a x : Operand) : evOps call T all (⟨none, .store t a x, ty, pos, af, none⟩ :: rest) ⟨tm, n, h, ds⟩ = goS (evOps call T all rest) tm n ds (evStore T t (rd tm a) (rd tm x) h) := by
 simp only [evOps, St.wanted, cond_true, ev_rd, evOp]
 cases evStore T t (rd tm a) (rd tm x) h <;> rfl
def nilOk : AV → Option AV
 | .ptr b o => some (.ptr b o)
 | _ => none
theorem ops_nilCheck (x : Operand) : evOps call T all (⟨some d, .nilCheck x, ty, pos, af, none⟩ :: rest) ⟨tm, n, h, ds⟩ = goV (evOps call T all rest) tm n ds d h (nilOk (rd tm x)) := by
 refine go_pure call T all rest tm n h ds d ty pos af _ _ ?_
 simp only [evOp, nilOk]
 generalize rd tm x = X
 cases X <;> rfl
def binA (T : Tab) (op : BinOp) (t : TypeId) (ox oy : Operand) (x y : AV) : Option AV :=
 match evBin T op t x y with
 | some v => some v
 | none => nilEq T op t ox oy x y
theorem binA_int (op : BinOp) (t : TypeId) (ox oy : Operand) (a b : Int) (k k' : IntKind) : binA T op t ox oy (.flat (.int k a)) (.flat (.int k' b)) = (evInt op k a k' b).map .flat := by
 simp only [binA, evBin]
 cases evInt op k a k' b <;> rfl
theorem binA_eq (op : BinOp) (t : TypeId) (ox oy : Operand) (x y : AV) (b : Bool) (h : evEq T t x y = some b) (hx : op = .eql ∨ op = .neq) (hn : ∀ k a, x ≠ .flat (.int k a)) (hs : ∀ s, x ≠ .flat (.string s)) :
    binA T op t ox oy x y = some (.flat (.bool (match op with | .neq => !b | _ => b))) := by
 have key : evBin T op t x y = some (.flat (.bool (match op with | .neq => !b | _ => b))) := by
  unfold evBin
  split
  ·exact absurd rfl (hn _ _)
  ·exact absurd rfl (hs _)
  ·rcases hx with rfl | rfl <;> simp [h]
 simp only [binA, key]
theorem ops_bin (op : BinOp) (t t' : TypeId) (x y : Operand) : evOps call T all (⟨some d, .binOp op t x y t', ty, pos, af, none⟩ :: rest) ⟨tm, n, h, ds⟩ = goV (evOps call T all rest) tm n ds d h (binA T op t x y (rd tm x) (rd tm y)) :=
 go_pure call T all rest tm n h ds d ty pos af _ _ rfl
theorem ops_un (op : UnOp) (t : TypeId) (x : Operand) : evOps call T all (⟨some d, .unOp op t x, ty, pos, af, none⟩ :: rest) ⟨tm, n, h, ds⟩ = goV (evOps call T all rest) tm n ds d h (evUn op (rd tm x)) :=
 go_pure call T all rest tm n h ds d ty pos af _ _ rfl
theorem ops_convert (s t : TypeId) (x : Operand) : evOps call T all (⟨some d, .convert s t x, ty, pos, af, none⟩ :: rest) ⟨tm, n, h, ds⟩ = goV (evOps call T all rest) tm n ds d h (evConvert T s t (rd tm x)) :=
 go_pure call T all rest tm n h ds d ty pos af _ _ rfl
theorem ops_makeFunc (fn : Fn) (a b : Array Operand) : evOps call T all (⟨some d, .makeFunc fn a b, ty, pos, af, none⟩ :: rest) ⟨tm, n, h, ds⟩ = goOn (evOps call T all rest) tm n ds d (.func fn (a.toList.map (rd tm)) (b.toList.map (rd tm))) h := by
 rw [go_pure call T all rest tm n h ds d ty pos af (.makeFunc fn a b) (some (.func fn (a.toList.map (rd tm)) (b.toList.map (rd tm)))) rfl]; rfl
theorem ops_makeSlice (t : TypeId) (l c : Operand) : evOps call T all (⟨some d, .makeSlice t l c, ty, pos, af, none⟩ :: rest) ⟨tm, n, h, ds⟩ = goH (evOps call T all rest) tm n ds d (evMakeSlice T t (rd tm l) (rd tm c) h) :=
 go_both call T all rest tm n h ds d ty pos af _ _ rfl
theorem ops_slice (t : TypeId) (x : Operand) (lo hi mx : Option Operand) : evOps call T all (⟨some d, .slice t x lo hi mx, ty, pos, af, none⟩ :: rest) ⟨tm, n, h, ds⟩ = goV (evOps call T all rest) tm n ds d h (evSlice T t (rd tm x) (lo.map (rd tm)) (hi.map (rd tm)) (mx.map (rd tm))) :=
 go_pure call T all rest tm n h ds d ty pos af _ _ rfl
theorem ops_fieldAddr (t : TypeId) (x : Operand) (f : Nat) : evOps call T all (⟨some d, .fieldAddr t x f, ty, pos, af, none⟩ :: rest) ⟨tm, n, h, ds⟩ = goV (evOps call T all rest) tm n ds d h (evFieldAddr T t (rd tm x) f) :=
 go_pure call T all rest tm n h ds d ty pos af _ _ rfl
theorem ops_field (t : TypeId) (x : Operand) (f : Nat) : evOps call T all (⟨some d, .field t x f, ty, pos, af, none⟩ :: rest) ⟨tm, n, h, ds⟩ = goV (evOps call T all rest) tm n ds d h (evField T t (rd tm x) f) :=
 go_pure call T all rest tm n h ds d ty pos af _ _ rfl
theorem ops_indexAddr (t : TypeId) (x i : Operand) : evOps call T all (⟨some d, .indexAddr t x i, ty, pos, af, none⟩ :: rest) ⟨tm, n, h, ds⟩ = goV (evOps call T all rest) tm n ds d h (evIndexAddr T t (rd tm x) (rd tm i)) :=
 go_pure call T all rest tm n h ds d ty pos af _ _ rfl
theorem ops_index (t : TypeId) (x i : Operand) : evOps call T all (⟨some d, .index t x i, ty, pos, af, none⟩ :: rest) ⟨tm, n, h, ds⟩ = goV (evOps call T all rest) tm n ds d h (evIndex T t (rd tm x) (rd tm i)) :=
 go_pure call T all rest tm n h ds d ty pos af _ _ rfl
def extr (x : AV) (i : Nat) : Option AV :=
 match x with
 | .tuple l => l[i]?
 | _ => none
theorem ops_extract (x : Operand) (i : Nat) : evOps call T all (⟨some d, .extract x i, ty, pos, af, none⟩ :: rest) ⟨tm, n, h, ds⟩ = goV (evOps call T all rest) tm n ds d h (extr (rd tm x) i) := by
 refine go_pure call T all rest tm n h ds d ty pos af _ _ ?_
 simp only [evOp, extr]
 generalize rd tm x = X
 cases X <;> rfl
theorem ops_assert (x : Operand) (t a : TypeId) (ok : Bool) : evOps call T all (⟨some d, .typeAssert x t a ok, ty, pos, af, none⟩ :: rest) ⟨tm, n, h, ds⟩ = goV (evOps call T all rest) tm n ds d h (evAssert T (rd tm x) a ok) :=
 go_pure call T all rest tm n h ds d ty pos af _ _ rfl
theorem ops_len (x : Operand) (t : TypeId) : evOps call T all (⟨some d, .call ⟨.builtin .len, #[x], #[t]⟩, ty, pos, af, none⟩ :: rest) ⟨tm, n, h, ds⟩ = goV (evOps call T all rest) tm n ds d h (orM (evLen T t (rd tm x)) (evLenM T t (rd tm x) h)) :=
 go_pure call T all rest tm n h ds d ty pos af _ _ rfl
theorem orM_some (v : AV) (o : Option AV) : orM (some v) o = some v := rfl
theorem orM_none (o : Option AV) : orM none o = o := rfl
theorem ops_lookup (t : TypeId) (x i : Operand) (ok : Bool) : evOps call T all (⟨some d, .lookup t x i ok, ty, pos, af, none⟩ :: rest) ⟨tm, n, h, ds⟩ = goV (evOps call T all rest) tm n ds d h (evLookup T t (rd tm x) (rd tm i) ok h) :=
 go_pure call T all rest tm n h ds d ty pos af _ _ rfl
theorem ops_makeMap (t : TypeId) : evOps call T all (⟨some d, .makeMap t none, ty, pos, af, none⟩ :: rest) ⟨tm, n, h, ds⟩ = goH (evOps call T all rest) tm n ds d ((h.new (.map [])).map fun h' => (.map h.next, h')) :=
 go_both call T all rest tm n h ds d ty pos af _ _ rfl
theorem ops_clear (x : Operand) (t : TypeId) : evOps call T all (⟨some d, .call ⟨.builtin .clear, #[x], #[t]⟩, ty, pos, af, none⟩ :: rest) ⟨tm, n, h, ds⟩ = goH (evOps call T all rest) tm n ds d ((evClear T t (rd tm x) h).map fun h' => (.tuple [], h')) :=
 go_both call T all rest tm n h ds d ty pos af _ _ rfl
theorem ops_clear0 (x : Operand) (t : TypeId) : evOps call T all (⟨none, .call ⟨.builtin .clear, #[x], #[t]⟩, ty, pos, af, none⟩ :: rest) ⟨tm, n, h, ds⟩ = goS (evOps call T all rest) tm n ds (evClear T t (rd tm x) h) := by
 have e : evOp T (rd tm) h ⟨none, .call ⟨.builtin .clear, #[x], #[t]⟩, ty, pos, af, none⟩ = R.both ((evClear T t (rd tm x) h).map fun h' => (.tuple [], h')) := rfl
 simp only [evOps, St.wanted, cond_true, ev_rd, e]
 cases evClear T t (rd tm x) h <;> rfl
theorem ops_mapUpdate (t : TypeId) (m i x : Operand) : evOps call T all (⟨none, .mapUpdate t m i x, ty, pos, af, none⟩ :: rest) ⟨tm, n, h, ds⟩ = goS (evOps call T all rest) tm n ds (evMapUpdate T t (rd tm m) (rd tm i) (rd tm x) h) := by
 simp only [evOps, St.wanted, cond_true, ev_rd, evOp]
 cases evMapUpdate T t (rd tm m) (rd tm i) (rd tm x) h <;> rfl
theorem ops_append (x y : Operand) (t t' : TypeId) : evOps call T all (⟨some d, .call ⟨.builtin .append, #[x, y], #[t, t']⟩, ty, pos, af, none⟩ :: rest) ⟨tm, n, h, ds⟩ = goH (evOps call T all rest) tm n ds d (evAppend T t t' (rd tm x) (rd tm y) h) :=
 go_both call T all rest tm n h ds d ty pos af _ _ rfl
theorem ops_copy (x y : Operand) (t t' : TypeId) : evOps call T all (⟨some d, .call ⟨.builtin .copy, #[x, y], #[t, t']⟩, ty, pos, af, none⟩ :: rest) ⟨tm, n, h, ds⟩ = goH (evOps call T all rest) tm n ds d (evCopy T t (rd tm x) (rd tm y) h) :=
 go_both call T all rest tm n h ds d ty pos af _ _ rfl
theorem ops_max (x y : Operand) (t t' : TypeId) : evOps call T all (⟨some d, .call ⟨.builtin .max, #[x, y], #[t, t']⟩, ty, pos, af, none⟩ :: rest) ⟨tm, n, h, ds⟩ = goV (evOps call T all rest) tm n ds d h (foldOp evMax (rd tm x) [rd tm y]) :=
 go_pure call T all rest tm n h ds d ty pos af _ _ rfl
theorem ops_min (x y : Operand) (t t' : TypeId) : evOps call T all (⟨some d, .call ⟨.builtin .min, #[x, y], #[t, t']⟩, ty, pos, af, none⟩ :: rest) ⟨tm, n, h, ds⟩ = goV (evOps call T all rest) tm n ds d h (foldOp evMin (rd tm x) [rd tm y]) :=
 go_pure call T all rest tm n h ds d ty pos af _ _ rfl
def callee (T : Tab) (f : AV) (args : List AV) : Option (FuncId × List AV) :=
 match f with
 | .func (.func g) first cap => match T.funs.get g with
  | some _ => some (g, (first ++ args) ++ cap)
  | none => none
 | _ => none
theorem callee_is (g : FuncId) (first args cap : List AV) : callee T (.func (.func g) first cap) args = match T.funs.get g with | some _ => some (g, (first ++ args) ++ cap) | none => none := rfl
def goC (k : St → Option (AExit × St)) (tm : Nat → Option AV) (n : Nat) (ds : List ADef) (d : Option Nat) : Option (AEnd × Hp) → Option (AExit × St)
 | some x => match x.1 with
  | .ret v => match d with
   | some d => goOn k tm n ds d v x.2
   | none => k ⟨tm, n, x.2, ds⟩
  | .pan v => some (.panic v, ⟨tm, n, x.2, ds⟩)
 | none => none
theorem goC_ret (k : St → Option (AExit × St)) (d : Nat) (v : AV) (h' : Hp) : goC k tm n ds (some d) (some (.ret v, h')) = goOn k tm n ds d v h' := rfl
theorem goC_ret0 (k : St → Option (AExit × St)) (v : AV) (h' : Hp) : goC k tm n ds none (some (.ret v, h')) = k ⟨tm, n, h', ds⟩ := rfl
def goF (call : CallF) (k : St → Option (AExit × St)) (tm : Nat → Option AV) (n : Nat) (h : Hp) (ds : List ADef) (d : Option Nat) : Option (FuncId × List AV) → Option (AExit × St)
 | some x => goC k tm n ds d (call x.1 x.2 h)
 | none => none
theorem goF_some (k : St → Option (AExit × St)) (d : Option Nat) (f : FuncId) (args : List AV) : goF call k tm n h ds d (some (f, args)) = goC k tm n ds d (call f args h) := rfl
theorem ops_call (od : Option Nat) (f : Operand) (xs : Array Operand) (ts : Array TypeId) : evOps call T all (⟨od, .call ⟨.value f, xs, ts⟩, ty, pos, af, none⟩ :: rest) ⟨tm, n, h, ds⟩ =
    goF call (evOps call T all rest) tm n h ds od (callee T (rd tm f) (xs.toList.map (rd tm))) := by
 simp only [evOps, St.wanted, cond_true, ev_rd, evOp, evCallOp, callee]
 generalize rd tm f = X
 cases X with
 | func fn first cap =>
  cases fn with
  | func g =>
   dsimp only
   cases hg : T.funs.get g with
   | none => rfl
   | some fn =>
    simp only [goF]
    cases hc : call g (first ++ List.map (rd tm) xs.toList ++ cap) h with
    | none => rfl
    | some r =>
     obtain ⟨e, h'⟩ := r
     cases e with
     | ret v =>
      cases od with
      | none => rfl
      | some d => exact put_goOn call T all rest tm n h ds d v h'
     | pan v => rfl
  | _ => rfl
 | _ => rfl
end
def goP (r : Option (AExit × St)) (Q : AExit → St → Prop) : Prop :=
 match r with
 | some x => Q x.1 x.2
 | none => False
theorem goP_some (e : AExit) (s : St) (Q : AExit → St → Prop) : goP (some (e, s)) Q = Q e s := rfl
theorem wp_reg {Fz : Prop} {P : Program} {T : Tab} {call : CallF} (B : Base P T call) {id : Nat} {ops : Array Oper} {s : St} {Q : AExit → St → Prop} (h : goP (evOps call T ops.toList ops.toList s) Q) : WP Fz P (.region id ops false) s Q := by
 cases hr : evOps call T ops.toList ops.toList s with
 | none => rw [hr] at h; exact h.elim
 | some x => rw [hr] at h; exact wp_region0 B hr h
theorem thenQ_normal (Fz : Prop) (P : Program) (b : Code) (Q : AExit → St → Prop) (s : St) : thenQ Fz P b Q .normal s = WP Fz P b s Q := rfl
theorem thenQ_ret (Fz : Prop) (P : Program) (b : Code) (Q : AExit → St → Prop) (s : St) : thenQ Fz P b Q .ret s = Q .ret s := rfl
theorem thenQ_exit (Fz : Prop) (P : Program) (b : Code) (Q : AExit → St → Prop) (s : St) (id : Nat) : thenQ Fz P b Q (.exit id) s = Q (.exit id) s := rfl
theorem thenQ_panic (Fz : Prop) (P : Program) (b : Code) (Q : AExit → St → Prop) (s : St) (v : AV) : thenQ Fz P b Q (.panic v) s = Q (.panic v) s := rfl
theorem blockQ_normal (id : Nat) (Q : AExit → St → Prop) (s : St) : blockQ id Q .normal s = Q .normal s := rfl
theorem blockQ_ret (id : Nat) (Q : AExit → St → Prop) (s : St) : blockQ id Q .ret s = Q .ret s := rfl
theorem blockQ_panic (id : Nat) (Q : AExit → St → Prop) (s : St) (v : AV) : blockQ id Q (.panic v) s = Q (.panic v) s := rfl
theorem blockQ_exit (id j : Nat) (Q : AExit → St → Prop) (s : St) : blockQ id Q (.exit j) s = if j = id then Q .normal s else Q (.exit j) s := rfl
theorem roundQ_normal (I : Nat → St → Prop) (n : Nat) (Q : AExit → St → Prop) (s : St) : roundQ I n Q .normal s = ∃ m, m < n ∧ I m s := rfl
theorem roundQ_ret (I : Nat → St → Prop) (n : Nat) (Q : AExit → St → Prop) (s : St) : roundQ I n Q .ret s = Q .ret s := rfl
theorem roundQ_exit (I : Nat → St → Prop) (n : Nat) (Q : AExit → St → Prop) (s : St) (id : Nat) : roundQ I n Q (.exit id) s = Q (.exit id) s := rfl
theorem roundQ_panic (I : Nat → St → Prop) (n : Nat) (Q : AExit → St → Prop) (s : St) (v : AV) : roundQ I n Q (.panic v) s = Q (.panic v) s := rfl
theorem scopeQ_normal (Q : AExit → St → Prop) (s : St) : scopeQ Q .normal s = Q .normal s := rfl
theorem scopeQ_ret (Q : AExit → St → Prop) (s : St) : scopeQ Q .ret s = Q .ret s := rfl
theorem scopeQ_exit (Q : AExit → St → Prop) (s : St) (id : Nat) : scopeQ Q (.exit id) s = Q (.exit id) s := rfl
theorem endQ_normal (T : Tab) (rs : List ResultVar) (Q : AEnd → Hp → Prop) (s : St) : endQ T rs Q .normal s = (s.ds = [] ∧ ∃ l, evResults T s rs = some l ∧ Q (.ret (oneOf l)) s.h) := rfl
theorem endQ_ret (T : Tab) (rs : List ResultVar) (Q : AEnd → Hp → Prop) (s : St) : endQ T rs Q .ret s = (s.ds = [] ∧ ∃ l, evResults T s rs = some l ∧ Q (.ret (oneOf l)) s.h) := rfl
theorem endQ_panic (T : Tab) (rs : List ResultVar) (Q : AEnd → Hp → Prop) (s : St) (v : AV) : endQ T rs Q (.panic v) s = (s.ds = [] ∧ Q (.pan v) s.h) := rfl
theorem res_nil (T : Tab) (s : St) : evResults T s [] = some [] := rfl
theorem res_tmp (T : Tab) (tm : Nat → Option AV) (n : Nat) (h : Hp) (ds : List ADef) (t : Tmp) (l : List ResultVar) : evResults T ⟨tm, n, h, ds⟩ (.tmp t :: l) = (evResults T ⟨tm, n, h, ds⟩ l).map fun r => sl (tm t) :: r := rfl
theorem res_cell (T : Tab) (tm : Nat → Option AV) (n : Nat) (h : Hp) (ds : List ADef) (a : Tmp) (t : TypeId) (l : List ResultVar) : evResults T ⟨tm, n, h, ds⟩ (.cell a t :: l) = match evLoad T t (sl (tm a)) h with
    | some v => (evResults T ⟨tm, n, h, ds⟩ l).map fun r => v :: r
    | none => none := rfl
theorem one_of1 (v : AV) : oneOf [v] = v := rfl
theorem one_of2 (v u : AV) : oneOf [v, u] = .tuple [v, u] := rfl
theorem one_of3 (v u x : AV) : oneOf [v, u, x] = .tuple [v, u, x] := rfl
theorem one_of0 : oneOf [] = .tuple [] := rfl
def bodyOf (fn : Func) : Code := fn.body.getD .skip
theorem wp_if {Fz : Prop} {P : Program} {c : Operand} {a b : Code} {s : St} {Q : AExit → St → Prop} {p : Prop} [hp : Decidable p] (hc : s.ev c = .flat (.bool (decide p))) (h1 : p → WP Fz P a s Q) (h2 : ¬ p → WP Fz P b s Q) : WP Fz P (.cond c a b) s Q := by
 refine wp_condQ _ hc ?_
 by_cases h : p
 ·rw [if_pos (by simpa using h)]; exact h1 h
 ·rw [if_neg (by simpa using h)]; exact h2 h
theorem wp_ifn {Fz : Prop} {P : Program} {c : Operand} {a b : Code} {s : St} {Q : AExit → St → Prop} {p : Prop} [hp : Decidable p] (hc : s.ev c = .flat (.bool (!decide p))) (h1 : ¬ p → WP Fz P a s Q) (h2 : p → WP Fz P b s Q) : WP Fz P (.cond c a b) s Q := by
 refine wp_condQ _ hc ?_
 by_cases h : p
 ·rw [if_neg (by simpa using h)]; exact h2 h
 ·rw [if_pos (by simpa using h)]; exact h1 h
theorem wp_condT {Fz : Prop} {P : Program} {c : Operand} {a b : Code} {s : St} {Q : AExit → St → Prop} (hc : s.ev c = .flat (.bool true)) (h : WP Fz P a s Q) : WP Fz P (.cond c a b) s Q := wp_condQ true hc h
theorem wp_condF {Fz : Prop} {P : Program} {c : Operand} {a b : Code} {s : St} {Q : AExit → St → Prop} (hc : s.ev c = .flat (.bool false)) (h : WP Fz P b s Q) : WP Fz P (.cond c a b) s Q := wp_condQ false hc h
def drP (bf : List Nat) (r : Option (St × List Ent)) (Q : AExit → St → Prop) : Prop :=
 match r with
 | some x => looks bf x.2 = true ∧ Q .normal x.1
 | none => False
theorem drP_some (bf : List Nat) (s : St) (l : List Ent) (Q : AExit → St → Prop) : drP bf (some (s, l)) Q = (looks bf l = true ∧ Q .normal s) := rfl
theorem wp_dreg {Fz : Prop} {P : Program} {T : Tab} {call : CallF} (B : Base P T call) {id : Nat} {ops : Array Oper} {s : St} {Q : AExit → St → Prop} (bf : List Nat) (hbf : regOk bf ops.toList = true)
    (h : drP bf (drawRun call T ops.toList ops.toList 0 s []) Q) : WP Fz P (.region id ops true) s Q := by
 cases hr : drawRun call T ops.toList ops.toList 0 s [] with
 | none => rw [hr] at h; exact h.elim
 | some x =>
  obtain ⟨s', l⟩ := x
  rw [hr] at h
  refine wp_region1 (e := .normal) (s' := s') B hbf ?_ h.2
  unfold evDraw
  rw [hr]
  have := h.1
  simp only at this
  cases l with
  | nil => rfl
  | cons x l => simp only [this, cond_true]
def drOn (k : St → List Ent → Option (St × List Ent)) (tm : Nat → Option AV) (n : Nat) (ds : List ADef) (i : Nat) (fp : Fp) (n0 : Nat) (l : List Ent) (d : Nat) (v : AV) (h : Hp) : Option (St × List Ent) :=
 cond (Nat.blt d n) (k ⟨upd tm d (some v), n, h, ds⟩ (entCons ⟨i, fp, n0, h.next⟩ l)) none
def drV (k : St → List Ent → Option (St × List Ent)) (tm : Nat → Option AV) (n : Nat) (ds : List ADef) (i : Nat) (fp : Fp) (n0 : Nat) (l : List Ent) (d : Nat) (h : Hp) : Option AV → Option (St × List Ent)
 | some v => drOn k tm n ds i fp n0 l d v h
 | none => none
def drH (k : St → List Ent → Option (St × List Ent)) (tm : Nat → Option AV) (n : Nat) (ds : List ADef) (i : Nat) (fp : Fp) (n0 : Nat) (l : List Ent) (d : Nat) : Option (AV × Hp) → Option (St × List Ent)
 | some x => drOn k tm n ds i fp n0 l d x.1 x.2
 | none => none
def drS (k : St → List Ent → Option (St × List Ent)) (tm : Nat → Option AV) (n : Nat) (ds : List ADef) (i : Nat) (fp : Fp) (n0 : Nat) (l : List Ent) : Option Hp → Option (St × List Ent)
 | some h => k ⟨tm, n, h, ds⟩ (entCons ⟨i, fp, n0, h.next⟩ l)
 | none => none
theorem drV_some (k : St → List Ent → Option (St × List Ent)) (tm : Nat → Option AV) (n : Nat) (ds : List ADef) (i : Nat) (fp : Fp) (n0 : Nat) (l : List Ent) (d : Nat) (h : Hp) (v : AV) : drV k tm n ds i fp n0 l d h (some v) = drOn k tm n ds i fp n0 l d v h := rfl
theorem drH_some (k : St → List Ent → Option (St × List Ent)) (tm : Nat → Option AV) (n : Nat) (ds : List ADef) (i : Nat) (fp : Fp) (n0 : Nat) (l : List Ent) (d : Nat) (h : Hp) (v : AV) : drH k tm n ds i fp n0 l d (some (v, h)) = drOn k tm n ds i fp n0 l d v h := rfl
theorem drS_some (k : St → List Ent → Option (St × List Ent)) (tm : Nat → Option AV) (n : Nat) (ds : List ADef) (i : Nat) (fp : Fp) (n0 : Nat) (l : List Ent) (h : Hp) : drS k tm n ds i fp n0 l (some h) = k ⟨tm, n, h, ds⟩ (entCons ⟨i, fp, n0, h.next⟩ l) := rfl
section
variable (call : CallF) (T : Tab) (all rest : List Oper) (tm : Nat → Option AV) (n : Nat) (h : Hp) (ds : List ADef) (i : Nat) (l : List Ent) (d : Nat) (ty : TypeId) (pos : String) (af : Array Edge)
theorem dr_nil (s : St) : drawRun call T all [] i s l = some (s, l) := rfl
theorem dr_put (o : Oper) (v : AV) (h' : Hp) (fp : Fp) : (match (match (⟨tm, n, h, ds⟩ : St).put (some d) v h' with | some s' => some (s', fp) | none => none) with | some (s', fp) => drawRun call T all rest (i + 1) s' (entCons ⟨i, fp, h.next, s'.h.next⟩ l) | none => none) = drOn (drawRun call T all rest (i + 1)) tm n ds i fp h.next l d v h' := by
 unfold St.put drOn
 cases hb : Nat.blt d n <;> simp [hb]
theorem dr_pure (o : Op) (r : Option AV) (hr : evOp T (rd tm) h ⟨some d, o, ty, pos, af, none⟩ = R.pure h r) : drawRun call T all (⟨some d, o, ty, pos, af, none⟩ :: rest) i ⟨tm, n, h, ds⟩ l = drV (drawRun call T all rest (i + 1)) tm n ds i (fpOf ⟨some d, o, ty, pos, af, none⟩ (rd tm)) h.next l d h r := by
 simp only [drawRun, drawOp, St.wanted, cond_true, ev_rd, hr]
 cases r with
 | none => rfl
 | some v => exact dr_put call T all rest tm n h ds i l d ⟨some d, o, ty, pos, af, none⟩ v h _
theorem dr_both (o : Op) (r : Option (AV × Hp)) (hr : evOp T (rd tm) h ⟨some d, o, ty, pos, af, none⟩ = R.both r) : drawRun call T all (⟨some d, o, ty, pos, af, none⟩ :: rest) i ⟨tm, n, h, ds⟩ l = drH (drawRun call T all rest (i + 1)) tm n ds i (fpOf ⟨some d, o, ty, pos, af, none⟩ (rd tm)) h.next l d r := by
 simp only [drawRun, drawOp, St.wanted, cond_true, ev_rd, hr]
 cases r with
 | none => rfl
 | some v => exact dr_put call T all rest tm n h ds i l d ⟨some d, o, ty, pos, af, none⟩ v.1 v.2 _
end
theorem len_isl (T : Tab) (t : TypeId) (l : List AV) (z o n : Nat) : evLen T t (.isl l z o n) = match T.types.get t with
    | some ti => match ti.td with
     | .slice _ => some (.flat (.int .i64 (n : Int)))
     | _ => none
    | none => none := by
 unfold evLen
 cases T.types.get t <;> rfl
theorem len_slice (T : Tab) (t : TypeId) (b o n : Nat) (c : Cap) : evLen T t (.slice b o n c) = match T.types.get t with
    | some ti => match ti.td with
     | .slice _ => some (.flat (.int .i64 (n : Int)))
     | _ => none
    | none => none := by
 unfold evLen
 cases T.types.get t <;> rfl
theorem len_nil (T : Tab) (t : TypeId) (n c : Nat) : evLen T t (.flat (.slice none n c)) = match T.types.get t with
    | some ti => match ti.td with
     | .slice _ => some (.flat (.int .i64 (n : Int)))
     | _ => none
    | none => none := by
 unfold evLen
 cases T.types.get t <;> rfl
theorem len_map (T : Tab) (t : TypeId) (r : Nat) (h : Hp) : orM (evLen T t (.map r)) (evLenM T t (.map r) h) = match T.types.get t with
    | some ti => match ti.td with
     | .map _ _ => match h.m r with
      | some (.map l) => some (.flat (.int .i64 (l.length : Int)))
      | _ => none
     | .array n _ => some (.flat (.int .i64 (n : Int)))
     | _ => none
    | none => none := by
 have e1 : evLen T t (.map r) = match T.types.get t with | some ti => (match ti.td with | .array n _ => some (.flat (.int .i64 (.ofNat n))) | _ => none) | none => none := by
  unfold evLen
  cases T.types.get t with
  | none => rfl
  | some ti =>
   obtain ⟨td, a, b, c⟩ := ti
   cases td <;> rfl
 have e2 : evLenM T t (.map r) h = match h.m r, T.types.get t with
  | some (.map l), some ti => match ti.td with
   | .map _ _ => some (.flat (.int .i64 (.ofNat l.length)))
   | _ => none
  | _, _ => none := rfl
 rw [e1, e2]
 cases T.types.get t with
 | none =>
  cases h.m r with
  | none => rfl
  | some o => cases o <;> rfl
 | some ti =>
  obtain ⟨td, a, b, c⟩ := ti
  cases h.m r with
  | none => cases td <;> rfl
  | some o => cases o <;> cases td <;> rfl
theorem look_map (T : Tab) (t : TypeId) (r : Nat) (z : Int) (ok : Bool) (h : Hp) : evLookup T t (.map r) (.flat (.int .i64 z)) ok h = match h.m r, T.types.get t with
    | some (.map l), some ti => match ti.td with
     | .map k e => match T.types.get k, T.types.get e with
      | some tk, some te => match tk.td, te.td with
       | .int _, .slice _ => match findM l z with
        | some v => some (cond ok (.tuple [v, .flat (.bool true)]) v)
        | none => some (cond ok (.tuple [.flat (.slice none 0 0), .flat (.bool false)]) (.flat (.slice none 0 0)))
       | _, _ => none
      | _, _ => none
     | _ => none
    | _, _ => none := rfl
theorem upd_map (T : Tab) (t : TypeId) (r : Nat) (z : Int) (v : AV) (h : Hp) : evMapUpdate T t (.map r) (.flat (.int .i64 z)) v h = match h.m r, T.types.get t with
    | some (.map l), some ti => match ti.td with
     | .map k _ => match T.types.get k with
      | some tk => match tk.td with
       | .int _ => h.put r (some (.map (setM l z v)))
       | _ => none
      | none => none
     | _ => none
    | _, _ => none := rfl
theorem clear_map (T : Tab) (t : TypeId) (r : Nat) (h : Hp) : evClear T t (.map r) h = match h.m r, T.types.get t with
    | some (.map _), some ti => match ti.td with
     | .map _ _ => h.put r (some (.map []))
     | _ => none
    | _, _ => none := rfl
end Go.Iv
end
section
set_option linter.unusedVariables false
set_option linter.unusedSimpArgs false
namespace Go.Iv
open Go
theorem ent_quiet (i n : Nat) (l : List Ent) : entCons ⟨i, .none, n, n⟩ l = l := by simp [entCons, isQuiet]
theorem ent_new (i n : Nat) (l : List Ent) : entCons ⟨i, .none, n, n + 1⟩ l = ⟨i, .none, n, n + 1⟩ :: l := by
 have : Nat.beq n (n + 1) = false := by rw [beq_dec]; simp
 simp [entCons, isQuiet, this]
theorem ent_rd (i b n m : Nat) (l : List Ent) : entCons ⟨i, .rd b, n, m⟩ l = ⟨i, .rd b, n, m⟩ :: l := rfl
theorem ent_wr (i b n m : Nat) (l : List Ent) : entCons ⟨i, .wr b, n, m⟩ l = ⟨i, .wr b, n, m⟩ :: l := rfl
theorem ent_call (i n m : Nat) (c : Bool) (l : List Ent) : entCons ⟨i, .call c, n, m⟩ l = ⟨i, .call c, n, m⟩ :: l := rfl
theorem ent_app (i n m : Nat) (rs : List Nat) (w : Option Nat) (l : List Ent) : entCons ⟨i, .app rs w, n, m⟩ l = ⟨i, .app rs w, n, m⟩ :: l := rfl
def ldFp : AV → Fp
 | .ptr b _ => .rd b
 | .iptr _ _ => .none
 | _ => .call false
def stFp : AV → Fp
 | .ptr b _ => .wr b
 | _ => .call false
section
variable (call : CallF) (T : Tab) (all rest : List Oper) (tm : Nat → Option AV) (n : Nat) (h : Hp) (ds : List ADef) (i : Nat) (l : List Ent) (d : Nat) (ty : TypeId) (pos : String) (af : Array Edge)
theorem dr_move (x : Operand) : drawRun call T all (⟨some d, .move x, ty, pos, af, none⟩ :: rest) i ⟨tm, n, h, ds⟩ l = drV (drawRun call T all rest (i + 1)) tm n ds i (.none) h.next l d h (some (rd tm x)) := dr_pure call T all rest tm n h ds i l d ty pos af _ _ rfl
theorem dr_assign (x : Operand) : drawRun call T all (⟨some d, .assign x, ty, pos, af, none⟩ :: rest) i ⟨tm, n, h, ds⟩ l = drV (drawRun call T all rest (i + 1)) tm n ds i (.none) h.next l d h (some (rd tm x)) := dr_pure call T all rest tm n h ds i l d ty pos af _ _ rfl
theorem dr_pick (c a b : Operand) : drawRun call T all (⟨some d, .pick c a b, ty, pos, af, none⟩ :: rest) i ⟨tm, n, h, ds⟩ l = drV (drawRun call T all rest (i + 1)) tm n ds i (.none) h.next l d h (pickA (rd tm c) (rd tm a) (rd tm b)) := by
 refine dr_pure call T all rest tm n h ds i l d ty pos af _ _ ?_
 simp only [evOp, pickA]
 generalize rd tm c = C
 cases C <;> first | rfl | (rename_i v; cases v <;> rfl)
theorem dr_alloc (t : TypeId) : drawRun call T all (⟨some d, .alloc t, ty, pos, af, none⟩ :: rest) i ⟨tm, n, h, ds⟩ l = drH (drawRun call T all rest (i + 1)) tm n ds i (.none) h.next l d (match T.types.get t with | some i => (newBlk h (i.zero.map .flat) t false).map fun h' => (.ptr h.next 0, h') | none => none) := by
 refine dr_both call T all rest tm n h ds i l d ty pos af _ _ ?_
 simp only [evOp]
 cases T.types.get t <;> rfl
theorem dr_box (t : TypeId) (x : Operand) : drawRun call T all (⟨some d, .box t x, ty, pos, af, none⟩ :: rest) i ⟨tm, n, h, ds⟩ l = drH (drawRun call T all rest (i + 1)) tm n ds i (.none) h.next l d ((newBlk h (rd tm x).cells t false).map fun h' => (.ptr h.next 0, h')) := dr_both call T all rest tm n h ds i l d ty pos af _ _ rfl
theorem dr_build (t : TypeId) (ps : Array (Nat × Operand)) : drawRun call T all (⟨some d, .build t ps, ty, pos, af, none⟩ :: rest) i ⟨tm, n, h, ds⟩ l = drV (drawRun call T all rest (i + 1)) tm n ds i (.none) h.next l d h (evBuild T t (ps.toList.map fun p => (p.1, rd tm p.2))) := dr_pure call T all rest tm n h ds i l d ty pos af _ _ rfl
theorem dr_buildSlice (t : TypeId) (k : Nat) (ps : Array (Nat × Operand)) : drawRun call T all (⟨some d, .buildSlice t k ps, ty, pos, af, none⟩ :: rest) i ⟨tm, n, h, ds⟩ l = drH (drawRun call T all rest (i + 1)) tm n ds i (.none) h.next l d (evBuildSlice T t k (ps.toList.map fun p => (p.1, rd tm p.2)) h) := dr_both call T all rest tm n h ds i l d ty pos af _ _ rfl
theorem dr_load (t : TypeId) (a : Operand) : drawRun call T all (⟨some d, .load t a, ty, pos, af, none⟩ :: rest) i ⟨tm, n, h, ds⟩ l = drV (drawRun call T all rest (i + 1)) tm n ds i (ldFp (rd tm a)) h.next l d h (evLoad T t (rd tm a) h) := dr_pure call T all rest tm n h ds i l d ty pos af _ _ rfl
theorem dr_nilCheck (x : Operand) : drawRun call T all (⟨some d, .nilCheck x, ty, pos, af, none⟩ :: rest) i ⟨tm, n, h, ds⟩ l = drV (drawRun call T all rest (i + 1)) tm n ds i (.none) h.next l d h (nilOk (rd tm x)) := by
 refine dr_pure call T all rest tm n h ds i l d ty pos af _ _ ?_
 simp only [evOp, nilOk]
 generalize rd tm x = X
 cases X <;> rfl
theorem dr_bin (op : BinOp) (t t' : TypeId) (x y : Operand) : drawRun call T all (⟨some d, .binOp op t x y t', ty, pos, af, none⟩ :: rest) i ⟨tm, n, h, ds⟩ l = drV (drawRun call T all rest (i + 1)) tm n ds i (.none) h.next l d h (binA T op t x y (rd tm x) (rd tm y)) := dr_pure call T all rest tm n h ds i l d ty pos af _ _ rfl
theorem dr_un (op : UnOp) (t : TypeId) (x : Operand) : drawRun call T all (⟨some d, .unOp op t x, ty, pos, af, none⟩ :: rest) i ⟨tm, n, h, ds⟩ l = drV (drawRun call T all rest (i + 1)) tm n ds i (.none) h.next l d h (evUn op (rd tm x)) := dr_pure call T all rest tm n h ds i l d ty pos af _ _ rfl
theorem dr_convert (s t : TypeId) (x : Operand) : drawRun call T all (⟨some d, .convert s t x, ty, pos, af, none⟩ :: rest) i ⟨tm, n, h, ds⟩ l = drV (drawRun call T all rest (i + 1)) tm n ds i (.none) h.next l d h (evConvert T s t (rd tm x)) := dr_pure call T all rest tm n h ds i l d ty pos af _ _ rfl
theorem dr_makeFunc (fn : Fn) (a b : Array Operand) : drawRun call T all (⟨some d, .makeFunc fn a b, ty, pos, af, none⟩ :: rest) i ⟨tm, n, h, ds⟩ l = drV (drawRun call T all rest (i + 1)) tm n ds i (.none) h.next l d h (some (.func fn (a.toList.map (rd tm)) (b.toList.map (rd tm)))) := dr_pure call T all rest tm n h ds i l d ty pos af _ _ rfl
theorem dr_makeSlice (t : TypeId) (x c : Operand) : drawRun call T all (⟨some d, .makeSlice t x c, ty, pos, af, none⟩ :: rest) i ⟨tm, n, h, ds⟩ l = drH (drawRun call T all rest (i + 1)) tm n ds i (.none) h.next l d (evMakeSlice T t (rd tm x) (rd tm c) h) := dr_both call T all rest tm n h ds i l d ty pos af _ _ rfl
theorem dr_slice (t : TypeId) (x : Operand) (lo hi mx : Option Operand) : drawRun call T all (⟨some d, .slice t x lo hi mx, ty, pos, af, none⟩ :: rest) i ⟨tm, n, h, ds⟩ l = drV (drawRun call T all rest (i + 1)) tm n ds i (.none) h.next l d h (evSlice T t (rd tm x) (lo.map (rd tm)) (hi.map (rd tm)) (mx.map (rd tm))) := dr_pure call T all rest tm n h ds i l d ty pos af _ _ rfl
theorem dr_fieldAddr (t : TypeId) (x : Operand) (f : Nat) : drawRun call T all (⟨some d, .fieldAddr t x f, ty, pos, af, none⟩ :: rest) i ⟨tm, n, h, ds⟩ l = drV (drawRun call T all rest (i + 1)) tm n ds i (.none) h.next l d h (evFieldAddr T t (rd tm x) f) := dr_pure call T all rest tm n h ds i l d ty pos af _ _ rfl
theorem dr_field (t : TypeId) (x : Operand) (f : Nat) : drawRun call T all (⟨some d, .field t x f, ty, pos, af, none⟩ :: rest) i ⟨tm, n, h, ds⟩ l = drV (drawRun call T all rest (i + 1)) tm n ds i (.none) h.next l d h (evField T t (rd tm x) f) := dr_pure call T all rest tm n h ds i l d ty pos af _ _ rfl
theorem dr_indexAddr (t : TypeId) (x j : Operand) : drawRun call T all (⟨some d, .indexAddr t x j, ty, pos, af, none⟩ :: rest) i ⟨tm, n, h, ds⟩ l = drV (drawRun call T all rest (i + 1)) tm n ds i (.none) h.next l d h (evIndexAddr T t (rd tm x) (rd tm j)) := dr_pure call T all rest tm n h ds i l d ty pos af _ _ rfl
theorem dr_index (t : TypeId) (x j : Operand) : drawRun call T all (⟨some d, .index t x j, ty, pos, af, none⟩ :: rest) i ⟨tm, n, h, ds⟩ l = drV (drawRun call T all rest (i + 1)) tm n ds i (.none) h.next l d h (evIndex T t (rd tm x) (rd tm j)) := dr_pure call T all rest tm n h ds i l d ty pos af _ _ rfl
theorem dr_extract (x : Operand) (j : Nat) : drawRun call T all (⟨some d, .extract x j, ty, pos, af, none⟩ :: rest) i ⟨tm, n, h, ds⟩ l = drV (drawRun call T all rest (i + 1)) tm n ds i (.none) h.next l d h (extr (rd tm x) j) := by
 refine dr_pure call T all rest tm n h ds i l d ty pos af _ _ ?_
 simp only [evOp, extr]
 generalize rd tm x = X
 cases X <;> rfl
theorem dr_assert (x : Operand) (t a : TypeId) (ok : Bool) : drawRun call T all (⟨some d, .typeAssert x t a ok, ty, pos, af, none⟩ :: rest) i ⟨tm, n, h, ds⟩ l = drV (drawRun call T all rest (i + 1)) tm n ds i (.none) h.next l d h (evAssert T (rd tm x) a ok) := dr_pure call T all rest tm n h ds i l d ty pos af _ _ rfl
theorem dr_len (x : Operand) (t : TypeId) : drawRun call T all (⟨some d, .call ⟨.builtin .len, #[x], #[t]⟩, ty, pos, af, none⟩ :: rest) i ⟨tm, n, h, ds⟩ l = drV (drawRun call T all rest (i + 1)) tm n ds i (lenFp [rd tm x]) h.next l d h (orM (evLen T t (rd tm x)) (evLenM T t (rd tm x) h)) := dr_pure call T all rest tm n h ds i l d ty pos af _ _ rfl
theorem dr_lookup (t : TypeId) (x j : Operand) (ok : Bool) : drawRun call T all (⟨some d, .lookup t x j ok, ty, pos, af, none⟩ :: rest) i ⟨tm, n, h, ds⟩ l = drV (drawRun call T all rest (i + 1)) tm n ds i (mapFp (rd tm x)) h.next l d h (evLookup T t (rd tm x) (rd tm j) ok h) := dr_pure call T all rest tm n h ds i l d ty pos af _ _ rfl
theorem dr_makeMap (t : TypeId) : drawRun call T all (⟨some d, .makeMap t none, ty, pos, af, none⟩ :: rest) i ⟨tm, n, h, ds⟩ l = drH (drawRun call T all rest (i + 1)) tm n ds i (.none) h.next l d ((h.new (.map [])).map fun h' => (.map h.next, h')) := dr_both call T all rest tm n h ds i l d ty pos af _ _ rfl
theorem dr_max (x y : Operand) (t t' : TypeId) : drawRun call T all (⟨some d, .call ⟨.builtin .max, #[x, y], #[t, t']⟩, ty, pos, af, none⟩ :: rest) i ⟨tm, n, h, ds⟩ l = drV (drawRun call T all rest (i + 1)) tm n ds i (.none) h.next l d h (foldOp evMax (rd tm x) [rd tm y]) := dr_pure call T all rest tm n h ds i l d ty pos af _ _ rfl
theorem dr_min (x y : Operand) (t t' : TypeId) : drawRun call T all (⟨some d, .call ⟨.builtin .min, #[x, y], #[t, t']⟩, ty, pos, af, none⟩ :: rest) i ⟨tm, n, h, ds⟩ l = drV (drawRun call T all rest (i + 1)) tm n ds i (.none) h.next l d h (foldOp evMin (rd tm x) [rd tm y]) := dr_pure call T all rest tm n h ds i l d ty pos af _ _ rfl
theorem dr_append (x y : Operand) (t t' : TypeId) : drawRun call T all (⟨some d, .call ⟨.builtin .append, #[x, y], #[t, t']⟩, ty, pos, af, none⟩ :: rest) i ⟨tm, n, h, ds⟩ l = drH (drawRun call T all rest (i + 1)) tm n ds i (appFp [rd tm x, rd tm y]) h.next l d (evAppend T t t' (rd tm x) (rd tm y) h) := dr_both call T all rest tm n h ds i l d ty pos af _ _ rfl
theorem dr_copy (x y : Operand) (t t' : TypeId) : drawRun call T all (⟨some d, .call ⟨.builtin .copy, #[x, y], #[t, t']⟩, ty, pos, af, none⟩ :: rest) i ⟨tm, n, h, ds⟩ l = drH (drawRun call T all rest (i + 1)) tm n ds i (appFp [rd tm x, rd tm y]) h.next l d (evCopy T t (rd tm x) (rd tm y) h) := dr_both call T all rest tm n h ds i l d ty pos af _ _ rfl
theorem dr_store (t : TypeId) (a x : Operand) : drawRun call T all (⟨none, .store t a x, ty, pos, af, none⟩ :: rest) i ⟨tm, n, h, ds⟩ l = drS (drawRun call T all rest (i + 1)) tm n ds i (stFp (rd tm a)) h.next l (evStore T t (rd tm a) (rd tm x) h) := by
 simp only [drawRun, drawOp, St.wanted, cond_true, ev_rd, evOp]
 have : fpOf ⟨none, .store t a x, ty, pos, af, none⟩ (rd tm) = stFp (rd tm a) := by
  simp only [fpOf, stFp]
  cases rd tm a <;> rfl
 rw [this]
 cases evStore T t (rd tm a) (rd tm x) h <;> rfl
def drC (k : St → List Ent → Option (St × List Ent)) (tm : Nat → Option AV) (n : Nat) (h : Hp) (ds : List ADef) (i : Nat) (l : List Ent) (od : Option Nat) : Option (AEnd × Hp) → Option (St × List Ent)
 | some x => match x.1 with
  | .ret v => match od with
   | some d => cond (Nat.blt d n) (k ⟨upd tm d (some v), n, ⟨x.2.next, lowP x.2.low h.low, x.2.m⟩, ds⟩ (⟨i, .call (Nat.ble h.next x.2.low), h.next, x.2.next⟩ :: l)) none
   | none => k ⟨tm, n, ⟨x.2.next, lowP x.2.low h.low, x.2.m⟩, ds⟩ (⟨i, .call (Nat.ble h.next x.2.low), h.next, x.2.next⟩ :: l)
  | .pan _ => none
 | none => none
theorem drC_ret (k : St → List Ent → Option (St × List Ent)) (v : AV) (h' : Hp) : drC k tm n h ds i l (some d) (some (.ret v, h')) = cond (Nat.blt d n) (k ⟨upd tm d (some v), n, ⟨h'.next, lowP h'.low h.low, h'.m⟩, ds⟩ (⟨i, .call (Nat.ble h.next h'.low), h.next, h'.next⟩ :: l)) none := rfl
theorem drC_ret0 (k : St → List Ent → Option (St × List Ent)) (v : AV) (h' : Hp) : drC k tm n h ds i l none (some (.ret v, h')) = k ⟨tm, n, ⟨h'.next, lowP h'.low h.low, h'.m⟩, ds⟩ (⟨i, .call (Nat.ble h.next h'.low), h.next, h'.next⟩ :: l) := rfl
def drF (call : CallF) (k : St → List Ent → Option (St × List Ent)) (tm : Nat → Option AV) (n : Nat) (h : Hp) (ds : List ADef) (i : Nat) (l : List Ent) (od : Option Nat) : Option (FuncId × List AV) → Option (St × List Ent)
 | some x => drC k tm n h ds i l od (call x.1 x.2 ⟨h.next, h.next, h.m⟩)
 | none => none
theorem drF_some (k : St → List Ent → Option (St × List Ent)) (od : Option Nat) (f : FuncId) (args : List AV) : drF call k tm n h ds i l od (some (f, args)) = drC k tm n h ds i l od (call f args ⟨h.next, h.next, h.m⟩) := rfl
theorem dr_call (od : Option Nat) (f : Operand) (xs : Array Operand) (ts : Array TypeId) : drawRun call T all (⟨od, .call ⟨.value f, xs, ts⟩, ty, pos, af, none⟩ :: rest) i ⟨tm, n, h, ds⟩ l =
    drF call (drawRun call T all rest (i + 1)) tm n h ds i l od (callee T (rd tm f) (xs.toList.map (rd tm))) := by
 simp only [drawRun, drawOp, St.wanted, cond_true, ev_rd, evOp, evCallOp, callee]
 generalize rd tm f = X
 cases X with
 | func fn first cap =>
  cases fn with
  | func g =>
   dsimp only
   cases hg : T.funs.get g with
   | none => rfl
   | some fn =>
    simp only [drF]
    cases hc : call g (first ++ List.map (rd tm) xs.toList ++ cap) ⟨h.next, h.next, h.m⟩ with
    | none => rfl
    | some r =>
     obtain ⟨e, h'⟩ := r
     cases e with
     | ret v =>
      simp only [drC, lowP]
      cases od with
      | none => rfl
      | some d =>
       unfold St.put
       cases hb : Nat.blt d n <;> simp [hb, entCons, isQuiet]
     | pan v => rfl
  | _ => rfl
 | _ => rfl
def gb (w : Bool) : Option AV → Bool
 | some (.flat (.bool b)) => cond b w (!w)
 | _ => false
theorem gb_bool (w b : Bool) : gb w (some (.flat (.bool b))) = cond b w (!w) := rfl
theorem gb_undef (w : Bool) : gb w (some (.tuple [])) = false := rfl
def gw (tm : Nat → Option AV) (w : Bool) : Option Oper → Bool
 | some o => match o.dst with
  | some d => gb w (tm d)
  | none => false
 | none => false
theorem gw_some (w : Bool) (dd : Nat) (op : Op) (ty' : TypeId) (pos' : String) (af' : Array Edge) (g : Option (Nat × Bool)) : gw tm w (some ⟨some dd, op, ty', pos', af', g⟩) = gb w (tm dd) := rfl
theorem wanted_gw (j : Nat) (w : Bool) (od : Option Tmp) (op : Op) : (⟨tm, n, h, ds⟩ : St).wanted all ⟨od, op, ty, pos, af, some (j, w)⟩ = gw tm w all[j]? := by
 simp only [St.wanted, gw, gb]
 cases all[j]? with
 | none => rfl
 | some o =>
  obtain ⟨dd, op', ty', pos', af', g'⟩ := o
  cases dd with
  | none => rfl
  | some d => rfl
theorem ops_guard (j : Nat) (w : Bool) (op : Op) : evOps call T all (⟨some d, op, ty, pos, af, some (j, w)⟩ :: rest) ⟨tm, n, h, ds⟩ =
    cond (gw tm w all[j]?) (evOps call T all (⟨some d, op, ty, pos, af, none⟩ :: rest) ⟨tm, n, h, ds⟩) (goOn (evOps call T all rest) tm n ds d (.tuple []) h) := by
 have hw := wanted_gw all tm n h ds ty pos af j w (some d) op
 cases hg : gw tm w all[j]? with
 | true =>
  rw [hg] at hw
  simp only [evOps, hw, cond_true]
  rfl
 | false =>
  rw [hg] at hw
  simp only [evOps, hw, cond_false]
  exact put_goOn call T all rest tm n h ds d (.tuple []) h
theorem dr_guard (j : Nat) (w : Bool) (op : Op) : drawRun call T all (⟨some d, op, ty, pos, af, some (j, w)⟩ :: rest) i ⟨tm, n, h, ds⟩ l =
    cond (gw tm w all[j]?) (drawRun call T all (⟨some d, op, ty, pos, af, none⟩ :: rest) i ⟨tm, n, h, ds⟩ l) (drOn (drawRun call T all rest (i + 1)) tm n ds i .none h.next l d (.tuple []) h) := by
 have hw := wanted_gw all tm n h ds ty pos af j w (some d) op
 cases hg : gw tm w all[j]? with
 | true =>
  rw [hg] at hw
  simp only [drawRun, drawOp, hw, cond_true]
  rfl
 | false =>
  rw [hg] at hw
  simp only [drawRun, drawOp, hw, cond_false]
  exact dr_put call T all rest tm n h ds i l d ⟨some d, op, ty, pos, af, some (j, w)⟩ (.tuple []) h .none
end
end Go.Iv
end
section
set_option linter.unusedVariables false
set_option linter.unusedSimpArgs false
namespace Go.Iv
open Go
structure Entry (P : Program) where
 f : FuncId
 S : List AV → Hp → AEnd → Hp → Prop
 ok : ∀ args h e h', S args h e h' → SemCall P f args h e h' ∧ Hp.Le h h'
open Classical in
noncomputable def Entry.ans {P : Program} (E : Entry P) (args : List AV) (h : Hp) : Option (AEnd × Hp) := if hx : ∃ r : AEnd × Hp, E.S args h r.1 r.2 then some (Classical.choose hx) else none
theorem Entry.ans_get {P : Program} {E : Entry P} {args : List AV} {h : Hp} {e : AEnd} {h' : Hp} (k : E.ans args h = some (e, h')) : E.S args h e h' := by
 unfold Entry.ans at k
 split at k
 ·rename_i hx
  have := Classical.choose_spec hx
  simp only [Option.some.injEq] at k
  rw [k] at this
  exact this
 ·cases k
theorem Entry.some {P : Program} {E : Entry P} {args : List AV} {h : Hp} {e : AEnd} {h' : Hp} (k : E.S args h e h') : ∃ e' h'', E.ans args h = .some (e', h'') ∧ E.S args h e' h'' := by
 have hx : ∃ r : AEnd × Hp, E.S args h r.1 r.2 := ⟨(e, h'), k⟩
 refine ⟨(Classical.choose hx).1, (Classical.choose hx).2, ?_, Classical.choose_spec hx⟩
 unfold Entry.ans
 rw [dif_pos hx]
noncomputable def tabL {P : Program} : List (Entry P) → CallF
 | [], _, _, _ => none
 | E :: l, f, args, h => if f = E.f then E.ans args h else tabL l f args h
theorem tabL_ok {P : Program} : ∀ l : List (Entry P), CallOk P (tabL l)
 | [] => fun f args h e h' k => by simp [tabL] at k
 | E :: l => fun f args h e h' k => by
  simp only [tabL] at k
  split at k
  ·rename_i hf
   subst hf
   exact (E.ok args h e h' (Entry.ans_get k)).1
  ·exact tabL_ok l f args h e h' k
theorem tabL_le {P : Program} : ∀ l : List (Entry P), CallLe (tabL l)
 | [] => fun f args h e h' k => by simp [tabL] at k
 | E :: l => fun f args h e h' k => by
  simp only [tabL] at k
  split at k
  ·exact (E.ok args h e h' (Entry.ans_get k)).2
  ·exact tabL_le l f args h e h' k
theorem tabL_base {P : Program} {T : Tab} (l : List (Entry P)) (hT : T.Ok P) (hm : P.follows .mixedOrders = true) : Base P T (tabL l) := ⟨hT, hm, tabL_ok l, tabL_le l⟩
def Pure {α : Type} (enc : α → List AV) (dom : α → Prop) (out : α → AV) : List AV → Hp → AEnd → Hp → Prop := fun args h e h' => h' = h ∧ ∃ x, args = enc x ∧ dom x ∧ e = .ret (out x)
def Entry.pure {P : Program} {α : Type} (f : FuncId) (enc : α → List AV) (dom : α → Prop) (out : α → AV) (ok : ∀ x, dom x → ∀ h, SemCall P f (enc x) h (.ret (out x)) h) : Entry P :=
 ⟨f, Pure enc dom out, fun args h e h' ⟨hh, x, ha, hd, he⟩ => by subst hh ha he; exact ⟨ok x hd h', Hp.Le.refl _⟩⟩
theorem Entry.pure_ans {P : Program} {α : Type} {f : FuncId} {enc : α → List AV} {dom : α → Prop} {out : α → AV} {ok : ∀ x, dom x → ∀ h, SemCall P f (enc x) h (.ret (out x)) h} (inj : ∀ x y, enc x = enc y → out x = out y) (x : α) (hd : dom x) (h : Hp) :
    (Entry.pure f enc dom out ok).ans (enc x) h = .some (.ret (out x), h) := by
 obtain ⟨e', h'', h1, hh, y, ha, hy, he⟩ := Entry.some (E := Entry.pure f enc dom out ok) (args := enc x) (h := h) (e := .ret (out x)) (h' := h) ⟨rfl, x, rfl, hd, rfl⟩
 rw [h1, hh, he, inj x y ha]
theorem sem_pure {P : Program} {T : Tab} (hT : T.Ok P) {f : FuncId} {fn : Func} {c : Code} (hf : P.funcs[f]? = some fn) (hb : fn.body = some c) {args : List AV} {tm : Nat → Option AV} (htm : putArgs args 0 noTmp = some tm) {nt : Nat} (hnt : fn.ntmps = nt) {rs : List ResultVar} (hrs : fn.results.toList = rs)
    (hp : pureL args = true) {v : AV} (hv : v.pure = true) (hw : WP True P (bodyOf fn) (entry args nt Hp.empty tm) (endQ T rs fun e _ => e = .ret v)) (h : Hp) : SemCall P f args h (.ret v) h := by
 subst hnt hrs
 have : bodyOf fn = c := by rw [bodyOf, hb]; rfl
 rw [this] at hw
 exact pure_call hT hf hb htm hp hv hw h
theorem not_is (b : Bool) : cond b false true = !b := by cases b <;> rfl
theorem binA_eqB {T : Tab} {t : TypeId} {n m : Nat} {z : List Value} (h : T.types.get t = some ⟨.bool, n, m, z⟩) (ox oy : Operand) (a b : Bool) : binA T .eql t ox oy (.flat (.bool a)) (.flat (.bool b)) = some (.flat (.bool (a == b))) := by
 have e : evEq T t (.flat (.bool a)) (.flat (.bool b)) = some (a == b) := by
  simp only [evEq, h]
  cases a <;> cases b <;> rfl
 exact binA_eq T .eql t ox oy _ _ _ e (.inl rfl) (by simp) (by simp)
theorem binA_neB {T : Tab} {t : TypeId} {n m : Nat} {z : List Value} (h : T.types.get t = some ⟨.bool, n, m, z⟩) (ox oy : Operand) (a b : Bool) : binA T .neq t ox oy (.flat (.bool a)) (.flat (.bool b)) = some (.flat (.bool (!(a == b)))) := by
 have e : evEq T t (.flat (.bool a)) (.flat (.bool b)) = some (a == b) := by
  simp only [evEq, h]
  cases a <;> cases b <;> rfl
 exact binA_eq T .neq t ox oy _ _ _ e (.inr rfl) (by simp) (by simp)
end Go.Iv
end
section
set_option linter.all false
namespace Go.Iv
open Go
def kQ0 := And.intro @thenQ_normal (And.intro @thenQ_ret (And.intro @thenQ_exit (And.intro @thenQ_panic (And.intro @blockQ_normal (And.intro @blockQ_ret (And.intro @blockQ_panic (And.intro @blockQ_exit (And.intro @roundQ_normal (And.intro @roundQ_ret (And.intro @roundQ_exit (And.intro @roundQ_panic (And.intro @scopeQ_normal (And.intro @scopeQ_ret (And.intro @scopeQ_exit (And.intro @endQ_normal (And.intro @endQ_ret (And.intro @endQ_panic (And.intro @if_true.{1} (@if_true.{0})))))))))))))))))))
def kQ1 := And.intro @if_false.{1} (And.intro @if_false.{0} (And.intro @true_and (@and_true)))
def kQ := And.intro @kQ0 (@kQ1)
def kC0 := And.intro @not_is (And.intro @binA_int (And.intro @callee_is (And.intro @gw_some (And.intro @gb_bool (And.intro @gb_undef (And.intro @List.getElem?_cons.{0} (And.intro @Bool.or_true (And.intro @Bool.or_false (And.intro @Bool.true_or (And.intro @Bool.false_or (And.intro @Bool.and_true (And.intro @Bool.true_and (And.intro @Bool.and_false (And.intro @Bool.false_and (And.intro @Bool.not_true (And.intro @Bool.not_false (And.intro @cond_true.{1} (And.intro @cond_false.{1} (@upd_eq)))))))))))))))))))
def kC1 := And.intro @upd_ne (And.intro @ne_eq.{1} (And.intro @not_false_eq_true (And.intro @if_true.{1} (And.intro @if_true.{0} (And.intro @if_false.{1} (And.intro @if_false.{0} (And.intro @Option.map_some.{0, 0} (And.intro @Option.map_none.{0, 0} (And.intro @ilt_eq (And.intro @ieq_dec (And.intro @blt_dec (And.intro @ble_dec (And.intro @beq_dec (And.intro @small_dec (And.intro @decide_true (And.intro @decide_false (And.intro @dec_true (And.intro @dec_false (@add_is)))))))))))))))))))
def kC2 := And.intro @sub_is (And.intro @mul_is (And.intro @ofNat_is (And.intro @fwrap_in (And.intro @inRange_nat (And.intro @cells_agg (And.intro @cells_int (And.intro @cells_bool (And.intro @cells_str (And.intro @cells_nil (And.intro @cells_nilp (And.intro @cells_nili (And.intro @cells_nilf (And.intro @cells_ptr (And.intro @cells_iptr (And.intro @cells_slice (And.intro @cells_isl (And.intro @cells_func (And.intro @cells_iface (@cells_tuple)))))))))))))))))))
def kC3 := And.intro @one_int (And.intro @one_bool (And.intro @one_str (And.intro @one_nil (And.intro @one_nilp (And.intro @one_nili (And.intro @one_nilf (And.intro @one_ptr1 (And.intro @one_iptr1 (And.intro @one_slice1 (And.intro @one_isl1 (And.intro @one_func1 (And.intro @one_iface1 (And.intro @clean_int64 (And.intro @clean_intu64 (And.intro @clean_intu8 (And.intro @clean_inti32 (And.intro @clean_bool (And.intro @clean_str (@clean_nil)))))))))))))))))))
def kC4 := And.intro @clean_nilp (And.intro @clean_nili (And.intro @clean_nilf (And.intro @clean_ptr1 (And.intro @clean_iptr1 (And.intro @clean_slice1 (And.intro @clean_isl1 (And.intro @clean_func1 (And.intro @clean_iface1 (And.intro @List.length_cons.{0} (And.intro @List.length_nil.{0} (And.intro @spl_is (And.intro @spl_cons2 (And.intro @forceL_eq (And.intro @forceA_eq (And.intro @put_is (And.intro @newBlk_is (And.intro @allClean_rep' (And.intro @allClean_append (@clean_slice)))))))))))))))))))
def kC5 := And.intro @clean_isl (And.intro @clean_i64 (And.intro @clean_ptr (And.intro @one_slice (And.intro @one_isl (And.intro @one_i64 (And.intro @one_ptr (And.intro @reps_one (And.intro @List.map_cons.{0, 0} (And.intro @List.map_nil.{0, 0} (And.intro @List.set_cons_zero.{0} (And.intro @List.set_cons_succ.{0} (And.intro @List.take_succ_cons.{0} (And.intro @List.take_zero.{0} (And.intro @List.length_take.{0} (And.intro @List.length_drop.{0} (And.intro @List.drop_nil.{0} (And.intro @List.take_nil.{0} (And.intro @Nat.sub_zero (@Nat.min_def)))))))))))))))))))
def kC6 := And.intro @List.append_nil.{0} (And.intro @List.nil_append.{0} (And.intro @List.cons_append.{0} (And.intro @List.toList_toArray.{0} (And.intro @evMakeSlice_nat (And.intro @List.length_replicate.{0} (And.intro @List.length_map.{0, 0} (And.intro @Nat.mul_one (And.intro @Nat.add_zero (And.intro @Nat.zero_add (And.intro @takeX_is (And.intro @List.length_range (And.intro @List.length_set.{0} (And.intro @List.length_append.{0} (And.intro @List.drop_zero.{0} (And.intro @List.drop_succ_cons.{0} (And.intro @evMax_int (And.intro @evMin_int (And.intro @fold1 (@fold0)))))))))))))))))))
def kC7 := And.intro @asNat_nat (And.intro @len_isl (And.intro @len_slice (And.intro @len_nil (And.intro @len_map (And.intro @look_map (And.intro @upd_map (And.intro @clear_map (And.intro @orM_some (@orM_none)))))))))
def kC := And.intro @kC0 (And.intro @kC1 (And.intro @kC2 (And.intro @kC3 (And.intro @kC4 (And.intro @kC5 (And.intro @kC6 (@kC7)))))))
def kB0 := And.intro @ops_nil (And.intro @ops_move (And.intro @ops_assign (And.intro @ops_pick (And.intro @ops_alloc (And.intro @ops_box (And.intro @ops_build (And.intro @ops_buildSlice (And.intro @ops_load (And.intro @ops_store (And.intro @ops_nilCheck (And.intro @ops_bin (And.intro @ops_un (And.intro @ops_convert (And.intro @ops_makeFunc (And.intro @ops_makeSlice (And.intro @ops_slice (And.intro @ops_fieldAddr (And.intro @ops_field (@ops_indexAddr)))))))))))))))))))
def kB1 := And.intro @ops_index (And.intro @ops_extract (And.intro @ops_assert (And.intro @ops_len (And.intro @ops_append (And.intro @ops_copy (And.intro @ops_max (And.intro @ops_min (And.intro @ops_lookup (And.intro @ops_makeMap (And.intro @ops_clear (And.intro @ops_clear0 (And.intro @ops_mapUpdate (And.intro @ops_call (And.intro @ops_guard (And.intro @goV_some (And.intro @goH_some (And.intro @goS_some (And.intro @goC_ret (@goC_ret0)))))))))))))))))))
def kB2 := And.intro @goF_some (@goP_some)
def kB := And.intro @kB0 (And.intro @kB1 (@kB2))
def kD0 := And.intro @dr_nil (And.intro @dr_move (And.intro @dr_assign (And.intro @dr_pick (And.intro @dr_alloc (And.intro @dr_box (And.intro @dr_build (And.intro @dr_buildSlice (And.intro @dr_load (And.intro @dr_store (And.intro @dr_nilCheck (And.intro @dr_bin (And.intro @dr_un (And.intro @dr_convert (And.intro @dr_makeFunc (And.intro @dr_makeSlice (And.intro @dr_slice (And.intro @dr_fieldAddr (And.intro @dr_field (@dr_indexAddr)))))))))))))))))))
def kD1 := And.intro @dr_index (And.intro @dr_extract (And.intro @dr_assert (And.intro @dr_len (And.intro @dr_append (And.intro @dr_copy (And.intro @dr_max (And.intro @dr_min (And.intro @dr_lookup (And.intro @dr_makeMap (And.intro @dr_call (And.intro @dr_guard (And.intro @drV_some (And.intro @drH_some (And.intro @drS_some (And.intro @drC_ret (And.intro @drC_ret0 (And.intro @drF_some (And.intro @drP_some (@ent_quiet)))))))))))))))))))
def kD2 := And.intro @ent_new (And.intro @ent_rd (And.intro @ent_wr (And.intro @ent_call (And.intro @ent_app (@Nat.testBit_eq_decide_div_mod_eq)))))
def kD := And.intro @kD0 (And.intro @kD1 (@kD2))
def kR0 := And.intro @res_nil (And.intro @res_tmp (And.intro @res_cell (And.intro @one_of1 (And.intro @one_of2 (And.intro @one_of3 (And.intro @one_of0 (And.intro @eq_self.{1} (And.intro @Option.some.injEq.{0} (And.intro @exists_eq_left'.{1} (And.intro @true_and (@and_true)))))))))))
def kR := @kR0
def kE0 := And.intro @goOn.eq_1 (And.intro @rd.eq_1 (And.intro @rd.eq_2 (And.intro @rd.eq_3 (And.intro @rd.eq_4 (And.intro @sl.eq_1 (And.intro @sl.eq_2 (And.intro @pickA.eq_1 (And.intro @pickA.eq_2 (And.intro @nilOk.eq_1 (And.intro @nilOk.eq_2 (And.intro @extr.eq_1 (And.intro @extr.eq_2 (And.intro @evInt.eq_1 (And.intro @iop.eq_1 (And.intro @iop.eq_2 (And.intro @iop.eq_3 (And.intro @iop.eq_4 (And.intro @iop.eq_5 (@iop.eq_6)))))))))))))))))))
def kE1 := And.intro @iop.eq_7 (And.intro @iop.eq_8 (And.intro @iop.eq_9 (And.intro @iop.eq_10 (And.intro @iop.eq_11 (And.intro @iop.eq_12 (And.intro @iop.eq_13 (And.intro @iop.eq_14 (And.intro @iop.eq_15 (And.intro @iop.eq_16 (And.intro @iop.eq_17 (And.intro @isShift.eq_1 (And.intro @isShift.eq_2 (And.intro @isShift.eq_3 (And.intro @ikEq.eq_1 (And.intro @ikEq.eq_2 (And.intro @ikEq.eq_3 (And.intro @ikEq.eq_4 (And.intro @ikEq.eq_5 (@ikEq.eq_6)))))))))))))))))))
def kE2 := And.intro @ikEq.eq_7 (And.intro @ikEq.eq_8 (And.intro @ikEq.eq_9 (And.intro @toAV.eq_1 (And.intro @toAV.eq_2 (And.intro @toAV.eq_3 (And.intro @toAV.eq_4 (And.intro @toAV.eq_5 (And.intro @toAV.eq_6 (And.intro @toAV.eq_7 (And.intro @toAV.eq_8 (And.intro @toAV.eq_9 (And.intro @toAV.eq_10 (And.intro @toAV.eq_11 (And.intro @toAV.eq_12 (And.intro @toAV.eq_13 (And.intro @toAV.eq_14 (And.intro @toAV.eq_15 (And.intro @toAVL.eq_1 (@toAVL.eq_2)))))))))))))))))))
def kE3 := And.intro @evStore.eq_1 (And.intro @evStore.eq_2 (And.intro @evStoreC.eq_1 (And.intro @stor.eq_1 (And.intro @allOne.eq_1 (And.intro @allOne.eq_2 (And.intro @allClean.eq_1 (And.intro @allClean.eq_2 (And.intro @evLen.eq_1 (And.intro @evLen.eq_2 (And.intro @evLen.eq_3 (And.intro @evLen.eq_4 (And.intro @evLen.eq_5 (And.intro @evLen.eq_6 (And.intro @evAppend.eq_1 (And.intro @evCopy.eq_1 (And.intro @evBuildSlice.eq_1 (And.intro @evFill.eq_1 (And.intro @evFill.eq_2 (@reps.eq_1)))))))))))))))))))
def kE4 := And.intro @reps.eq_2 (And.intro @Hp.get.eq_1 (And.intro @lenX.eq_1 (And.intro @lenX.eq_2 (And.intro @lenX.eq_3 (And.intro @lenX.eq_4 (And.intro @lenX.eq_5 (And.intro @cellsX.eq_1 (And.intro @cellsX.eq_2 (And.intro @cellsX.eq_3 (And.intro @cellsX.eq_4 (And.intro @cellsX.eq_5 (And.intro @isSeq.eq_1 (And.intro @isSeq.eq_2 (And.intro @isSeq.eq_3 (And.intro @cleanV.eq_1 (And.intro @cleanV.eq_2 (And.intro @cleanV.eq_3 (And.intro @optNat.eq_1 (@optNat.eq_2)))))))))))))))))))
def kE5 := And.intro @evLoad.eq_1 (And.intro @evLoad.eq_2 (And.intro @evLoad.eq_3 (And.intro @evField.eq_1 (And.intro @evField.eq_2 (And.intro @evBuild.eq_1 (And.intro @structPlace.eq_1 (And.intro @allTypes.eq_1 (And.intro @allTypes.eq_2 (And.intro @evConvert.eq_1 (And.intro @evUn.eq_1 (And.intro @evUn.eq_2 (And.intro @evUn.eq_3 (And.intro @evUn.eq_4 (And.intro @evSlice.eq_1 (And.intro @evBounds.eq_1 (And.intro @evBounds.eq_2 (And.intro @cutOff.eq_1 (And.intro @evIndex.eq_1 (@evIndex.eq_2)))))))))))))))))))
def kE6 := And.intro @evIndex.eq_3 (And.intro @evIndex.eq_4 (And.intro @evPart.eq_1 (@Hp.new.eq_1)))
def kE := And.intro @kE0 (And.intro @kE1 (And.intro @kE2 (And.intro @kE3 (And.intro @kE4 (And.intro @kE5 (@kE6))))))
def kF0 := And.intro @drOn.eq_1 (And.intro @ldFp.eq_1 (And.intro @ldFp.eq_2 (And.intro @ldFp.eq_3 (And.intro @stFp.eq_1 (And.intro @stFp.eq_2 (And.intro @appFp.eq_1 (And.intro @appFp.eq_2 (And.intro @mapFp.eq_1 (And.intro @mapFp.eq_2 (And.intro @lenFp.eq_1 (And.intro @lenFp.eq_2 (And.intro @optL.eq_1 (And.intro @optL.eq_2 (And.intro @blkOfA.eq_1 (And.intro @blkOfA.eq_2 (And.intro @looks.eq_1 (And.intro @looks.eq_2 (And.intro @looksOne.eq_1 (@looksOne.eq_2)))))))))))))))))))
def kF1 := And.intro @Ent.apart.eq_1 (And.intro @Ent.made.eq_1 (And.intro @Ent.optMade.eq_1 (And.intro @Ent.optMade.eq_2 (And.intro @optMem.eq_1 (And.intro @optMem.eq_2 (And.intro @memN.eq_1 (And.intro @memN.eq_2 (@comes.eq_1))))))))
def kF := And.intro @kF0 (@kF1)
def kW := And.intro @kB (And.intro @kC (And.intro @kQ @kE))
def kG := And.intro @kD @kF
def kS := And.intro @kR (And.intro @kC @kE)
def kI := And.intro @List.cons.injEq.{0} (And.intro @AV.flat.injEq (And.intro @AV.agg.injEq (And.intro @Value.int.injEq (And.intro @Value.bool.injEq (And.intro @true_and (And.intro @and_true @Int.natCast_inj))))))
theorem Entry.one {P : Program} {E : Entry P} {args : List AV} {h : Hp} {v : AV} (k : E.S args h (AEnd.ret v) h) (u : ∀ e h', E.S args h e h' → e = AEnd.ret v ∧ h' = h) : E.ans args h = Option.some (AEnd.ret v, h) := by
 obtain ⟨e', h', h1, h2⟩ := Entry.some k
 obtain ⟨rfl, rfl⟩ := u e' h' h2
 exact h1
end Go.Iv
end
